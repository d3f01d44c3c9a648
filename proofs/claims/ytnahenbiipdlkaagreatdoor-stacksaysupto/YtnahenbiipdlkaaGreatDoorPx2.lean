import Derived.Test.YtnahenbiipdlkaaGreatDoorTab2
import Derived.Test.YtnahenbiipdlkaaGreatDoorSv3
section
namespace Go.Proofs
open Go Go.bg Go.cz
set_option maxRecDepth 100000
theorem JZ {P:Program} {f:FuncId} {fn:Func} {args:List ab} {x:ab} {m:ae} {K:ab→ae→Prop} (aZ:P.funcs[f]?=some fn) (ah:fn.body.isSome=true) (CE:(fn.name== "runtime.NumGoroutine")=false) (U:K x m)
 (h:∀w lim (cargs:Array Value),cargs.size=args.length→(∀i,i<args.length→aN w lim (cargs.getD i undef) (args.getD i .aV) [])→∃v,(Calls P f cargs w fun e w'=>e= .returned v∧w'=w)∧aN w lim v x []):bh P f args m K:=by
 refine ⟨⟨fn,aZ,ah,CE⟩,fun F lim w cargs aw aA st=>?_⟩
 obtain ⟨v,bw,an⟩:=h w lim cargs aw aA
 refine bw.mono fun e w' ⟨he,hw⟩=>?_
 subst hw
 exact ⟨v,x,lim,m,[],he,U,an,st, .refl _ _ _⟩
theorem J0 {cargs:Array Value} (h:cargs.size=2):cargs=#[cargs.getD 0 undef,cargs.getD 1 undef]:=by
 apply Array.ext (by simp [h])
 intro i ad fo
 have:i=0∨i=1:=by omega
 rcases this with rfl|rfl<;>simp [Array.getD,h]
theorem SW (s p:List UInt8) (m) (K:ab→ae→Prop) (U:K (.bool (Lib.hasPrefix s p)) m):bh Tryz.prog 174 [.str s, .str p] m K:=by
 refine JZ Tryz.func174 rfl (by decide) U fun w lim cargs aw aA=>?_
 rw [J0 aw]
 have aJ:=aA 0 (by simp)
 have J:=aA 1 (by simp)
 simp only [List.getD_cons_zero,List.getD_cons_succ] at aJ J
 generalize cargs.getD 0 undef=a at aJ
 generalize cargs.getD 1 undef=b at J
 cases aJ
 cases J
 exact ⟨_,Tryz.strings_HasPrefix _ _ _, .bool _⟩
theorem J1 (l:List UInt8) (c:UInt8):Lib.indexByte l c<l.length∨Lib.indexByte l c=-1:=by
 induction l with
 |nil=>exact .inr rfl
 |cons b l aO=>
  unfold Lib.indexByte
  split
  · left;simp
  · split
    · exact .inr rfl
    · rename_i J aa
      rcases aO with h|h
      · left;simp;omega
      · simp [h] at aa
theorem J2 (s:List UInt8) (hlen:s.length≤140737488355328) (c:UInt8) (m) (K:ab→ae→Prop) (U:K (.int .i64 (Lib.indexByte s c)) m):bh Tryz.prog 175 [.str s, .int .u8 c.toNat] m K:=by
 refine JZ Tryz.func175 rfl (by decide) U fun w lim cargs aw aA=>?_
 rw [J0 aw]
 have aJ:=aA 0 (by simp)
 have J:=aA 1 (by simp)
 simp only [List.getD_cons_zero,List.getD_cons_succ] at aJ J
 generalize cargs.getD 0 undef=a at aJ
 generalize cargs.getD 1 undef=b at J
 cases aJ
 cases J
 have zi:=Lib.indexByte_ge
 refine ⟨_,Tryz.strings_IndexByte _ _ _,?_⟩
 have ao:(c.toNat:Int).toNat.toUInt8=c:=by simp
 rw [ao]
 refine .int _ _ ?_ ?_
 · have:=Lib.indexByte_ge ‹ByteArray›.data.toList c
   simp [IntKind.min,IntKind.signed,IntKind.bits];omega
 · rcases J1 ‹ByteArray›.data.toList c with h|h
   · simp [IntKind.max,IntKind.signed,IntKind.bits];simp at h hlen;omega
   · rw [h];decide
def oo (c:UInt8):Bool:=decide (97≤(c.toNat:Int))&&decide ((c.toNat:Int)≤122)
def gg (c:UInt8):Bool:=decide (48≤(c.toNat:Int))&&decide ((c.toNat:Int)≤57)
def mN (c:UInt8):Bool:=!((c.toNat:Int)==10)
def runN (f:UInt8→Bool) (s:List UInt8) (a:Nat):Nat:=a+((s.drop a).takeWhile f).length
theorem drop_cons {s:List UInt8} {i:Nat} (h:i<s.length):s.drop i=s.getD i 0::s.drop (i+1):=by
 rw [List.drop_eq_getElem_cons h]
 simp [List.getD_eq_getElem?_getD,h]
theorem SX {f:UInt8→Bool} {s:List UInt8} {i:Nat} (h:i<s.length) (aZ:f (s.getD i 0)=true):runN f s i=runN f s (i+1):=by
 simp only [runN,drop_cons h,List.takeWhile_cons,aZ,if_true,List.length_cons]
 omega
theorem SY {f:UInt8→Bool} {s:List UInt8} {i:Nat} (h:i<s.length→f (s.getD i 0)=false):runN f s i=i:=by
 by_cases ad:i<s.length
 · have:=h ad
   rw [runN,drop_cons ad,List.takeWhile_cons,this]
   simp
 · simp [runN,List.drop_of_length_le (Nat.not_lt.1 ad)]
theorem SZ (f:UInt8→Bool) {s:List UInt8} {i:Nat} (h:i≤s.length):runN f s i≤s.length:=by
 have:((s.drop i).takeWhile f).length≤(s.drop i).length:=(List.takeWhile_sublist _).length_le
 simp only [List.length_drop] at this
 simp only [runN]
 omega
def fW:List UInt8:=[48,49,50,51,52,53,54,55,56,57,97,98,99,100,101,102]
def pU:List UInt8:=[61,123,125,91,93,40,41,58,44,46,43,63,45]
def jy (s:List UInt8):Int:=if Lib.hasPrefix s [61,61]=true then 2 else if 0≤Lib.indexByte pU (s.getD 0 0) then 1 else 0
theorem J3 {l:List UInt8} {c:UInt8}:∀{i:Nat},i<l.length→(∀j,j<i→l.getD j 0≠c)→l.getD i 0=c→Lib.indexByte l c=i:=by
 induction l with
 |nil=>intro i h;simp at h
 |cons b l aO=>
  intro i ad aM he
  unfold Lib.indexByte
  cases i with
  |zero=>simp at he;simp [he]
  |succ i=>
   have aJ:=aM 0 (by omega)
   have:=aO (i:=i) (by simpa using ad) (fun j aD=>by simpa using aM (j+1) (by omega)) (by simpa using he)
   simp at aJ
   rw [if_neg (by simpa using aJ),this,if_neg (by simp)]
   simp
theorem indexByte_none {l:List UInt8} {c:UInt8} (h:∀j,j<l.length→l.getD j 0≠c):Lib.indexByte l c=-1:=by
 induction l with
 |nil=>rfl
 |cons b l aO=>
  have aJ:=h 0 (by simp)
  simp at aJ
  unfold Lib.indexByte
  rw [if_neg (by simpa using aJ),aO (fun j aD=>by simpa using h (j+1) (by simpa using aD))]
  rfl
theorem J4 {a b:UInt8} (h:(a.toNat:Int)=b.toNat):a=b:=UInt8.toNat_inj.1 (by omega)
theorem qR (s:List UInt8) (i:Nat):I s (i:Int)=s.getD i 0:=by simp [I];rfl
theorem ED (s:List UInt8) (n k:Nat):I s ((n:Int)+(k:Int))=s.getD (n+k) 0:=by
 rw [←Int.natCast_add,qR]
def ep (f:UInt8→Bool) (s:List UInt8) (a:Int):Int:=(runN f s a.toNat:Nat)
theorem qS {f:UInt8→Bool} {s:List UInt8} {i:Int} (aJ:0≤i) (h:i<s.length) (aZ:f (I s i)=true):ep f s i=ep f s (i+1):=by
 obtain ⟨n,rfl⟩:=Int.eq_ofNat_of_zero_le aJ
 simp only [ep,Int.toNat_natCast]
 rw [SX (by omega) (by rw [qR] at aZ;exact aZ)]
 rfl
theorem AS {f:UInt8→Bool} {s:List UInt8} {i:Int} (aJ:0≤i) (h:i<s.length→f (I s i)=false):ep f s i=i:=by
 obtain ⟨n,rfl⟩:=Int.eq_ofNat_of_zero_le aJ
 simp only [ep,Int.toNat_natCast]
 rw [SY (fun aC=>by have:=h (by omega);rwa [qR] at this)]
theorem ys (f:UInt8→Bool) {s:List UInt8} {i:Int} (aJ:0≤i) (h:i≤s.length):ep f s i≤s.length:=by
 have:=SZ f (s:=s) (i:=i.toNat) (by omega)
 simp only [ep];omega
theorem vz (f:UInt8→Bool) {s:List UInt8} {i:Int} (aJ:0≤i):i≤ep f s i:=by
 simp only [ep,runN];omega
def jl (c:UInt8):Bool:=oo c||gg c
theorem J5 {c:UInt8}:jl c=true↔((97≤(c.toNat:Int)∧(c.toNat:Int)≤122)∨(48≤(c.toNat:Int)∧(c.toNat:Int)≤57)):=by simp [jl,oo,gg]
theorem tt {c:UInt8}:gg c=true↔(48≤(c.toNat:Int)∧(c.toNat:Int)≤57):=by simp [gg]
theorem AT {c:UInt8}:oo c=true↔(97≤(c.toNat:Int)∧(c.toNat:Int)≤122):=by simp [oo]
theorem J6 (c:UInt8) (m:ae) (K:ab→ae→Prop) (U:K (.bool (oo c)) m):bh Tryz.prog 121 [.int .u8 c.toNat] m K:=by
 refine enter (c:=cT [] [] [1] [] [] []) (vs:=[.aI (.int .u8 c.toNat)]) (L:=[]) (m:=m) false b2 Tryz.mixed Tryz.func121 rfl (k:=1) (by show cO [] _ _ _=true;decide+kernel) rfl (Good.nil m) ?_
 refine cf [] 2 ((decide (97≤(c.toNat:Int)))&&(decide ((c.toNat:Int)≤122))) ?_ ?_
 · repeat' first
    |exact ⟨⟨_,rfl,by grind [bD.val]⟩,rfl⟩
    |refine ag (fun _=>?_) (fun _=>?_)
 exact bn rfl fun _=>U
theorem EE (c:UInt8) (m:ae) (K:ab→ae→Prop) (U:K (.bool (gg c)) m):bh Tryz.prog 123 [.int .u8 c.toNat] m K:=by
 refine enter (c:=cT [] [] [1] [] [] []) (vs:=[.aI (.int .u8 c.toNat)]) (L:=[]) (m:=m) false b2 Tryz.mixed Tryz.func123 rfl (k:=1) (by show cO [] _ _ _=true;decide+kernel) rfl (Good.nil m) ?_
 refine cf [] 2 ((decide (48≤(c.toNat:Int)))&&(decide ((c.toNat:Int)≤57))) ?_ ?_
 · repeat' first
    |exact ⟨⟨_,rfl,by grind [bD.val]⟩,rfl⟩
    |refine ag (fun _=>?_) (fun _=>?_)
 exact bn rfl fun _=>U
theorem S0 (c:UInt8) (m:ae) (K:ab→ae→Prop) (U:K (.bool (mN c)) m):bh Tryz.prog 120 [.int .u8 c.toNat] m K:=by
 refine enter (c:=cT [] [] [] [] [] []) (vs:=[.aI (.int .u8 c.toNat)]) (L:=[]) (m:=m) false b2 Tryz.mixed Tryz.func120 rfl (k:=1) (by show cO [] _ _ _=true;decide+kernel) rfl (Good.nil m) ?_
 exact bn rfl fun _=>U
theorem S1 (c:UInt8) (m:ae) (K:ab→ae→Prop) (U:K (.bool (jl c)) m):bh Tryz.prog 122 [.int .u8 c.toNat] m K:=by
 refine enter (c:=cT [] [] [1] [] [] []) (vs:=[.aI (.int .u8 c.toNat)]) (L:=[]) (m:=m) false b2 Tryz.mixed Tryz.func122 rfl (k:=1) (by show cO [] _ _ _=true;decide+kernel) rfl (Good.nil m) ?_
 refine cf [] 2 ((oo c)||(gg c)) ?_ ?_
 · repeat' first
    |exact ⟨⟨_,rfl,by grind [bD.val]⟩,rfl⟩
    |refine ag (fun _=>?_) (fun _=>?_)
    |refine cG (fun _=>J6 c) rfl ?_
    |refine cG (fun _=>EE c) rfl ?_
 exact bn rfl fun _=>U
theorem AU (c:UInt8) (m:ae) (K:ab→ae→Prop) (U:K (.int .i64 (Lib.indexByte fW c)) m):bh Tryz.prog 173 [.int .u8 c.toNat] m K:=by
 refine enter (c:=cT [] [] [] [] [] []) (vs:=[.aI (.int .u8 c.toNat)]) (L:=[]) (m:=m) false b2 Tryz.mixed Tryz.func173 rfl (k:=1) (by show cO [] _ _ _=true;decide+kernel) rfl (Good.nil m) ?_
 refine cG (fun _=>J2 ([48,49,50,51,52,53,54,55,56,57,97,98,99,100,101,102]:List UInt8) (by first|decide|omega) c) rfl ?_
 exact bn rfl fun _=>U
theorem S2 (s:ar) (aw:0<s.length) (m:ae) (K:ab→ae→Prop) (U:K (.int .i64 (jy s)) m):bh Tryz.prog 125 [.str s] m K:=by
 refine enter (c:=cT [] [] [] [] [] []) (vs:=[.aI (.str s)]) (L:=[]) (m:=m) false b2 Tryz.mixed Tryz.func125 rfl (k:=1) (by show cO [] _ _ _=true;decide+kernel) rfl (Good.nil m) ?_
 refine aB ?_
 refine cG (fun _=>SW s ([61,61]:List UInt8)) rfl ?_
 refine ag (fun J=>?_) (fun J=>?_)
 · refine bn rfl fun _=>cL U ?_
   show ab.int .i64 (jy s)=ab.int .i64 2
   refine congrArg (ab.int .i64) ?_
   rw [jy,if_pos J]
 refine aB ?_
 refine ag (by omega) ?_
 refine cG (fun _=>J2 ([61,123,125,91,93,40,41,58,44,46,43,63,45]:List UInt8) (by first|decide|omega) (I s 0)) rfl ?_
 refine ag (fun aa=>?_) (fun aa=>?_)
 · refine bn rfl fun _=>cL U ?_
   show ab.int .i64 (jy s)=ab.int .i64 1
   refine congrArg (ab.int .i64) ?_
   rw [jy,if_neg (by rw [J];simp),if_pos (show 0≤Lib.indexByte pU (s.getD 0 0) from aa)]
 refine bn rfl fun _=>cL U ?_
 show ab.int .i64 (jy s)=ab.int .i64 0
 refine congrArg (ab.int .i64) ?_
 rw [jy,if_neg (by rw [J];simp),if_neg (show ¬0≤Lib.indexByte pU (s.getD 0 0) from Int.not_le.2 aa)]
theorem AV (c:UInt8) (m:ae) (K:ab→ae→Prop) (U:K (.int .i64 (Lib.indexByte fW c)) m):bh Tryz.prog 215 [.int .u8 c.toNat] m K:=by
 refine enter (c:=cT [] [] [] [] [] []) (vs:=[.aI (.int .u8 c.toNat)]) (L:=[]) (m:=m) false b2 Tryz.mixed Tryz.func215 rfl (k:=1) (by show cO [] _ _ _=true;decide+kernel) rfl (Good.nil m) ?_
 refine aB ?_
 refine cH (σ:=Int) [] [0,3] 0 (fun i=>([(0, .aI (.int .u8 c.toNat)),(3,ax i)],[],m)) (fun i=>0≤i∧i≤16∧∀j:Nat,(j:Int)<i→fW.getD j 0≠c) (fun i=>16- i.toNat) (0) ⟨rfl,rfl⟩ ?_ ?_
 · try dsimp only
   exact ⟨by omega,by omega,fun j aD=>by omega⟩
 rintro i aE
 refine aB ?_
 refine ag (fun J=>?_) (fun J=>?_)
 · refine aB ?_
   refine ag ⟨by omega,by show i<16;omega⟩ ?_
   refine ag (fun aa=>?_) (fun aa=>?_)
   · refine bn rfl fun _=>cL U ?_
     show ab.int .i64 (Lib.indexByte fW c)=ab.int .i64 i
     refine congrArg (ab.int .i64) ?_
     exact (J3 (i:=i.toNat) (by simp [fW];omega) (fun j aD=>aE.2.2 j (by omega)) (J4 (by rw [←aa];obtain ⟨n,rfl⟩:=Int.eq_ofNat_of_zero_le aE.1;rw [qR];rfl))).trans (by omega)
   refine ag (by omega) ?_
   refine ⟨(i+1),⟨rfl,rfl⟩,?_,?_⟩
   · try dsimp only
     refine ⟨by omega,by omega,fun j aD=>?_⟩
     by_cases e:(j:Int)=i
     · intro he;apply aa;rw [←he,←e,qR];rfl
     · exact aE.2.2 j (by omega)
   try dsimp only
   omega
 refine bn rfl fun _=>cL U ?_
 show ab.int .i64 (Lib.indexByte fW c)=ab.int .i64 (-1)
 refine congrArg (ab.int .i64) ?_
 exact indexByte_none (fun j aD=>aE.2.2 j (by simp [fW] at aD;omega))
end Go.Proofs
end
section
namespace Go.Proofs
open Go Go.bg Go.cz
set_option maxRecDepth 100000
def rX (a b:Int):UInt8:=UInt8.ofNat (16*a+b).toNat
def oq (s:List UInt8) (i:Nat) (b:List UInt8):Int×List UInt8×Int:=
 if i<s.length then
  if (s.getD i 0).toNat=34 then (if 40<b.length then (1,[],0) else (0,b,((i+1:Nat):Int)))
  else if (s.getD i 0).toNat<32∨126<(s.getD i 0).toNat then (4,[],0)
  else if (s.getD i 0).toNat≠92 then oq s (i+1) (b++[s.getD i 0])
  else if i+1<s.length∧((s.getD (i+1) 0).toNat=34∨(s.getD (i+1) 0).toNat=92) then oq s (i+2) (b++[s.getD (i+1) 0])
  else if i+3<s.length∧(s.getD (i+1) 0).toNat=120∧0≤Lib.indexByte fW (s.getD (i+2) 0)∧0≤Lib.indexByte fW (s.getD (i+3) 0) then
   oq s (i+4) (b++[rX (Lib.indexByte fW (s.getD (i+2) 0)) (Lib.indexByte fW (s.getD (i+3) 0))])
  else (4,[],0)
 else (4,[],0)
termination_by s.length- i
def yt (r:Int×List UInt8×Int):ab:= .tuple [.str r.2.1, .int .i64 r.2.2, .err 115 r.1]
def vA (r:Int×List UInt8×Int):ab:= .tuple [.int .i64 (if r.1=0 then 3 else 0), .str r.2.1, .int .i64 r.2.2, .int .i64 r.1]
section
variable {s b:List UInt8} {i:Nat}
theorem S3 (h:¬i<s.length):oq s i b=(4,[],0):=by rw [oq,if_neg h]
end
theorem AW (c:UInt8):Lib.indexByte fW c<16:=by
 rcases J1 fW c with h|h
 · simpa [fW] using h
 · rw [h];decide
theorem S4 (a b:Int) (aT:0≤a) (o0:a<16) (ah:0≤b) (gf:b<16):
 IntKind.u8.wrap (IntKind.i64.wrap ((BitVec.ofInt IntKind.i64.bits (IntKind.i64.wrap (a*2^(min (Int.toNat 4) IntKind.i64.bits))) ||| BitVec.ofInt IntKind.i64.bits b).toNat))=(rX a b).toNat:=by
 obtain ⟨a,rfl⟩:=Int.eq_ofNat_of_zero_le aT
 obtain ⟨b,rfl⟩:=Int.eq_ofNat_of_zero_le ah
 have key:∀a b:Fin 16,IntKind.u8.wrap (IntKind.i64.wrap ((BitVec.ofInt IntKind.i64.bits (IntKind.i64.wrap (((a.1:Nat):Int)*2^(min (Int.toNat 4) IntKind.i64.bits))) ||| BitVec.ofInt IntKind.i64.bits ((b.1:Nat):Int)).toNat))=(rX ((a.1:Nat):Int) ((b.1:Nat):Int)).toNat:=by decide+kernel
 exact key ⟨a,by omega⟩ ⟨b,by omega⟩
theorem S5 (a b:Int) (aT:0≤a) (o0:a<16) (ah:0≤b) (gf:b<16):IntKind.u8.wrap (IntKind.i64.wrap (IntKind.i64.wrap (16*a)+b))=(rX a b).toNat:=by
 obtain ⟨a,rfl⟩:=Int.eq_ofNat_of_zero_le aT
 obtain ⟨b,rfl⟩:=Int.eq_ofNat_of_zero_le ah
 have key:∀a b:Fin 16,IntKind.u8.wrap (IntKind.i64.wrap (IntKind.i64.wrap (16*((a.1:Nat):Int))+((b.1:Nat):Int)))=(rX ((a.1:Nat):Int) ((b.1:Nat):Int)).toNat:=by decide+kernel
 exact key ⟨a,by omega⟩ ⟨b,by omega⟩
theorem u8_or (a b:Int) (aT:0≤a) (o0:a<16) (ah:0≤b) (gf:b<16):
 ji (IntKind.i64.wrap ((BitVec.ofInt IntKind.i64.bits (IntKind.i64.wrap (a*2^(min (Int.toNat 4) IntKind.i64.bits))) ||| BitVec.ofInt IntKind.i64.bits b).toNat))=rX a b:=by
 apply UInt8.toNat_inj.1
 have:=S4 a b aT o0 ah gf
 rw [←zF] at this
 omega
theorem S6 (a b:Int) (aT:0≤a) (o0:a<16) (ah:0≤b) (gf:b<16):ji (16*a+b)=rX a b:=by
 apply UInt8.toNat_inj.1
 have:=S5 a b aT o0 ah gf
 rw [wrap64 (16*a) (by omega) (by omega),wrap64 _ (by omega) (by omega),←zF] at this
 omega
section
variable {s b:List UInt8} {i:Int}
def fC (s:List UInt8) (i:Int) (b:List UInt8):=oq s i.toNat b
theorem J7 (h:s.length≤i):fC s i b=(4,[],0):=S3 (by omega)
theorem J8 (aJ:0≤i) (h:i<s.length):fC s i b=
 if ((I s i).toNat:Int)=34 then (if (40:Int)<b.length then (1,[],0) else (0,b,i+1))
 else if ((I s i).toNat:Int)<32∨126<((I s i).toNat:Int) then (4,[],0)
 else if ((I s i).toNat:Int)≠92 then fC s (i+1) (b++[I s i])
 else if i+1<s.length∧(((I s (i+1)).toNat:Int)=34∨((I s (i+1)).toNat:Int)=92) then fC s (i+2) (b++[I s (i+1)])
 else if i+3<s.length∧((I s (i+1)).toNat:Int)=120∧0≤Lib.indexByte fW (I s (i+2))∧0≤Lib.indexByte fW (I s (i+3)) then
  fC s (i+4) (b++[rX (Lib.indexByte fW (I s (i+2))) (Lib.indexByte fW (I s (i+3)))])
 else (4,[],0):=by
 obtain ⟨n,rfl⟩:=Int.eq_ofNat_of_zero_le aJ
 have bM:=qR s n
 have aF:=ED s n 1
 have az:=ED s n 2
 have cS:=ED s n 3
 have cU:((n:Int)+1).toNat=n+1:=by omega
 have eP:((n:Int)+2).toNat=n+2:=by omega
 have ie:((n:Int)+4).toNat=n+4:=by omega
 simp only [fC,Int.toNat_natCast,cU,eP,ie]
 simp only [Int.natCast_one,Int.cast_ofNat_Int] at aF az cS
 rw [bM,aF,az,cS]
 conv=>lhs;rw [oq]
 rw [if_pos (by omega)]
 have hC:(((s.getD n 0).toNat:Int)=34)=((s.getD n 0).toNat=34):=propext ⟨fun h=>by omega,fun h=>by omega⟩
 have hd:(((s.getD n 0).toNat:Int)<32∨126<((s.getD n 0).toNat:Int))=((s.getD n 0).toNat<32∨126<(s.getD n 0).toNat):=propext ⟨fun h=>by omega,fun h=>by omega⟩
 have lX:(((s.getD n 0).toNat:Int)≠92)=((s.getD n 0).toNat≠92):=propext ⟨fun h=>by omega,fun h=>by omega⟩
 have nG:((n:Int)+1<s.length∧(((s.getD (n+1) 0).toNat:Int)=34∨((s.getD (n+1) 0).toNat:Int)=92))=(n+1<s.length∧((s.getD (n+1) 0).toNat=34∨(s.getD (n+1) 0).toNat=92)):=propext ⟨fun h=>by omega,fun h=>by omega⟩
 have S7:((n:Int)+3<s.length∧((s.getD (n+1) 0).toNat:Int)=120∧0≤Lib.indexByte fW (s.getD (n+2) 0)∧0≤Lib.indexByte fW (s.getD (n+3) 0))=(n+3<s.length∧(s.getD (n+1) 0).toNat=120∧0≤Lib.indexByte fW (s.getD (n+2) 0)∧0≤Lib.indexByte fW (s.getD (n+3) 0)):=propext ⟨fun h=>⟨by omega,by omega,h.2.2⟩,fun h=>⟨by omega,by omega,h.2.2⟩⟩
 have S8:((40:Int)<b.length)=(40<b.length):=propext ⟨fun h=>by omega,fun h=>by omega⟩
 simp only [hC,hd,lX,nG,S7,S8]
 rfl
end
set_option maxHeartbeats 2000000 in
theorem S9 (s:ar) (a:Int) (aw:s.length≤16777216) (aJ:0≤a) (aT:a<s.length) (m:ae) (K:ab→ae→Prop) (U:K (yt (fC s (a+1) [])) m):bh Tryz.prog 124 [.str s, .int .i64 a] m K:=by
 refine enter (c:=cT [] [] [11,14,17] [] [] []) (vs:=[.aI (.str s), .aI (.int .i64 a)]) (L:=[]) (m:=m) true b2 Tryz.mixed Tryz.func124 rfl (k:=2) (by show cO [] _ _ _=true;decide+kernel) rfl (Good.nil m) ?_
 refine aB ?_
 refine ag (by omega) ?_
 refine cH (σ:=(List UInt8)×Int) [] [0,7,8] 0 (fun ⟨b,i⟩=>([(0,ay s),(7, .own (b.map bC)),(8,ax i)],[],m)) (fun ⟨b,i⟩=>0≤i∧i≤s.length∧(b.length:Int)≤i∧fC s (a+1) []=fC s i b) (fun ⟨b,i⟩=>s.length- i.toNat) ([],a+1) ⟨rfl,rfl⟩ ?_ ?_
 · try dsimp only
   exact ⟨by omega,by omega,by simp;omega,rfl⟩
 rintro ⟨b,i⟩ aE
 dsimp only at aE
 refine aB ?_
 refine ag (fun J=>?_) (fun J=>?_)
 · have aU:=J8 (b:=b) aE.1 J
   have Ap:=AW (I s (i+2))
   have DS:=AW (I s (i+3))
   refine aB ?_
   refine ag (by omega) ?_
   refine ag (fun aa=>?_) (fun aa=>?_)
   · refine aB ?_
     refine bN ?_
     refine ag (fun aj=>?_) (fun aj=>?_)
     · refine bn rfl fun _=>cL U ?_
       show yt (fC s (a+1) [])=ab.tuple [.str ([]), .int .i64 0, .err 115 1]
       rw [aE.2.2.2,aU,if_pos aa,if_pos aj];rfl
     refine pM ?_
     refine ag (by omega) ?_
     refine bn rfl fun _=>cL U ?_
     show yt (fC s (a+1) [])=ab.tuple [.str b, .int .i64 (i+1), .err 115 0]
     rw [aE.2.2.2,aU,if_pos aa,if_neg (by omega)];rfl
   refine cf [0,7,8,9] 36 (((((I s i).toNat:Int)==92)&&(decide (i+1<(s.length:Int))))&&((((I s (i+1)).toNat:Int)==34)||(((I s (i+1)).toNat:Int)==92))) ?_ ?_
   · repeat' first
      |exact ⟨⟨_,rfl,by grind [bD.val]⟩,rfl⟩
      |refine ag (fun _=>?_) (fun _=>?_)
      |refine ag (by omega) ?_
   refine ag (fun aG=>?_) (fun aG=>?_)
   · replace aG:((((I s i).toNat:Int)=92)∧(i+1<(s.length:Int)))∧((((I s (i+1)).toNat:Int)=34)∨(((I s (i+1)).toNat:Int)=92)):=⟨⟨(eq_of_beq (dH (dH aG))),(of_decide_eq_true (eA (dH aG)))⟩,((dq (eA aG)).imp (fun q=>(eq_of_beq q)) (fun q=>(eq_of_beq q)))⟩
     refine ag (by omega) ?_
     refine ag (by omega) ?_
     refine ap bC b ([I s (i+1)]:List UInt8) rfl rfl (fun _=>⟨rfl,rfl⟩) (by (simp only [List.length_append,List.length_cons,List.length_nil];omega)) ?_
     refine ag (by omega) ?_
     refine ⟨(b++([I s (i+1)]:List UInt8),(i+1)+1),⟨rfl,rfl⟩,?_,?_⟩
     · try dsimp only
       exact ⟨by omega,by omega,by simp;omega,by rw [aE.2.2.2,aU,if_neg aa,if_neg (by omega),if_neg (by omega),if_pos (by omega)];congr 1;omega⟩
     try dsimp only
     omega
   replace aG:((((I s i).toNat:Int)≠92)∨((s.length:Int)≤i+1))∨((((I s (i+1)).toNat:Int)≠34)∧(((I s (i+1)).toNat:Int)≠92)):=((eB aG).imp (fun q=>((eB q).imp (fun q=>(ne_of_beq_false q)) (fun q=>(Int.not_lt.1 (of_decide_eq_false q))))) (fun q=>⟨(ne_of_beq_false (cb q)),(ne_of_beq_false (dp q))⟩))
   refine cf [0,7,8,9] 68 (((((((I s i).toNat:Int)==92)&&(decide (i+3<(s.length:Int))))&&(((I s (i+1)).toNat:Int)==120))&&(decide (0≤Lib.indexByte fW (I s (i+2)))))&&(decide (0≤Lib.indexByte fW (I s (i+3))))) ?_ ?_
   · repeat' first
      |exact ⟨⟨_,rfl,by grind [bD.val]⟩,rfl⟩
      |refine ag (fun _=>?_) (fun _=>?_)
      |refine ag (by omega) ?_
      |refine cG (fun _=>AU (I s (i+2))) rfl ?_
      |refine cG (fun _=>AU (I s (i+3))) rfl ?_
   refine ag (fun aR=>?_) (fun aR=>?_)
   · replace aR:((((((I s i).toNat:Int)=92)∧(i+3<(s.length:Int)))∧(((I s (i+1)).toNat:Int)=120))∧(0≤Lib.indexByte fW (I s (i+2))))∧(0≤Lib.indexByte fW (I s (i+3))):=⟨⟨⟨⟨(eq_of_beq (dH (dH (dH (dH aR))))),(of_decide_eq_true (eA (dH (dH (dH aR)))))⟩,(eq_of_beq (eA (dH (dH aR))))⟩,(of_decide_eq_true (eA (dH aR)))⟩,(of_decide_eq_true (eA aR))⟩
     refine ag (by omega) ?_
     refine ag (by omega) ?_
     refine gN (fun _=>AU (I s (i+2))) ?_
     refine ag (by omega) ?_
     refine ag (by omega) ?_
     refine ag (by omega) ?_
     refine gN (fun _=>AU (I s (i+3))) ?_
     refine ap bC b ([(ji (IntKind.i64.wrap (BitVec.ofInt IntKind.i64.bits (IntKind.i64.wrap ((Lib.indexByte fW (I s (i+2)))*2^(min (Int.toNat 4) IntKind.i64.bits))) ||| BitVec.ofInt IntKind.i64.bits (Lib.indexByte fW (I s (i+3)))).toNat))]:List UInt8) rfl rfl (fun _=>⟨rfl,rfl⟩) (by (simp only [List.length_append,List.length_cons,List.length_nil];omega)) ?_
     refine ag (by omega) ?_
     refine ag (by omega) ?_
     refine ⟨(b++([(ji (IntKind.i64.wrap (BitVec.ofInt IntKind.i64.bits (IntKind.i64.wrap ((Lib.indexByte fW (I s (i+2)))*2^(min (Int.toNat 4) IntKind.i64.bits))) ||| BitVec.ofInt IntKind.i64.bits (Lib.indexByte fW (I s (i+3)))).toNat))]:List UInt8),(i+3)+1),⟨rfl,rfl⟩,?_,?_⟩
     · try dsimp only
       exact ⟨by omega,by omega,by simp;omega,by rw [aE.2.2.2,aU,if_neg aa,if_neg (by omega),if_neg (by omega),if_neg (by omega),if_pos (by omega),u8_or _ _ (by omega) (by omega) (by omega) (by omega)];congr 1;omega⟩
     try dsimp only
     omega
   replace aR:((((((I s i).toNat:Int)≠92)∨((s.length:Int)≤i+3))∨(((I s (i+1)).toNat:Int)≠120))∨(Lib.indexByte fW (I s (i+2))<0))∨(Lib.indexByte fW (I s (i+3))<0):=((eB aR).imp (fun q=>((eB q).imp (fun q=>((eB q).imp (fun q=>((eB q).imp (fun q=>(ne_of_beq_false q)) (fun q=>(Int.not_lt.1 (of_decide_eq_false q))))) (fun q=>(ne_of_beq_false q)))) (fun q=>(Int.not_le.1 (of_decide_eq_false q))))) (fun q=>(Int.not_le.1 (of_decide_eq_false q))))
   refine cf [0,7,8,9] 119 (((((I s i).toNat:Int)==92)||(decide (((I s i).toNat:Int)<32)))||(decide (126<((I s i).toNat:Int)))) ?_ ?_
   · repeat' first
      |exact ⟨⟨_,rfl,by grind [bD.val]⟩,rfl⟩
      |refine ag (fun _=>?_) (fun _=>?_)
   refine ag (fun bu=>?_) (fun bu=>?_)
   · replace bu:((((I s i).toNat:Int)=92)∨(((I s i).toNat:Int)<32))∨(126<((I s i).toNat:Int)):=((dq bu).imp (fun q=>((dq q).imp (fun q=>(eq_of_beq q)) (fun q=>(of_decide_eq_true q)))) (fun q=>(of_decide_eq_true q)))
     refine bn rfl fun _=>cL U ?_
     show yt (fC s (a+1) [])=ab.tuple [.str ([]), .int .i64 0, .err 115 4]
     rw [aE.2.2.2,aU,if_neg aa];(repeat' split)<;>first|rfl|omega
   replace bu:((((I s i).toNat:Int)≠92)∧(32≤((I s i).toNat:Int)))∧(((I s i).toNat:Int)≤126):=⟨⟨(ne_of_beq_false (cb (cb bu))),(Int.not_lt.1 (of_decide_eq_false (dp (cb bu))))⟩,(Int.not_lt.1 (of_decide_eq_false (dp bu)))⟩
   refine ap bC b ([I s i]:List UInt8) rfl rfl (fun _=>⟨rfl,rfl⟩) (by (simp only [List.length_append,List.length_cons,List.length_nil];omega)) ?_
   refine ag (by omega) ?_
   refine ⟨(b++([I s i]:List UInt8),i+1),⟨rfl,rfl⟩,?_,?_⟩
   · try dsimp only
     exact ⟨by omega,by omega,by simp;omega,by rw [aE.2.2.2,aU,if_neg aa,if_neg (by omega),if_pos (by omega)]⟩
   try dsimp only
   omega
 refine bn rfl fun _=>cL U ?_
 show yt (fC s (a+1) [])=ab.tuple [.str ([]), .int .i64 0, .err 115 4]
 rw [aE.2.2.2,J7 J];rfl
set_option maxHeartbeats 2000000 in
theorem Ta (s:ar) (a:Int) (aw:s.length≤16777216) (aJ:0≤a) (aT:a<s.length) (m:ae) (K:ab→ae→Prop) (U:K (vA (fC s (a+1) [])) m):bh Tryz.prog 181 [.str s, .int .i64 a] m K:=by
 refine enter (c:=cT [] [] [9,14,17] [] [] []) (vs:=[.aI (.str s), .aI (.int .i64 a)]) (L:=[]) (m:=m) false b2 Tryz.mixed Tryz.func181 rfl (k:=2) (by show cO [] _ _ _=true;decide+kernel) rfl (Good.nil m) ?_
 refine ag (by omega) ?_
 refine aB ?_
 refine cH (σ:=(List UInt8)×Int) [] [0,8,9] 0 (fun ⟨b,i⟩=>([(0,ay s),(8, .own (b.map bC)),(9,ax i)],[],m)) (fun ⟨b,i⟩=>0≤i∧i≤s.length∧(b.length:Int)≤i∧fC s (a+1) []=fC s i b) (fun ⟨b,i⟩=>s.length- i.toNat) ([],a+1) ⟨rfl,rfl⟩ ?_ ?_
 · try dsimp only
   exact ⟨by omega,by omega,by simp;omega,rfl⟩
 rintro ⟨b,i⟩ aE
 dsimp only at aE
 refine aB ?_
 refine ag (fun J=>?_) (fun J=>?_)
 · have aU:=J8 (b:=b) aE.1 J
   have Ap:=AW (I s (i+2))
   have DS:=AW (I s (i+3))
   refine ag (by omega) ?_
   refine aB ?_
   refine ag (fun aa=>?_) (fun aa=>?_)
   · refine aB ?_
     refine bN ?_
     refine ag (fun aj=>?_) (fun aj=>?_)
     · refine bn rfl fun _=>cL U ?_
       show vA (fC s (a+1) [])=ab.tuple [.int .i64 0, .str ([]), .int .i64 0, .int .i64 1]
       rw [aE.2.2.2,aU,if_pos aa,if_pos aj];rfl
     refine pM ?_
     refine ag (by omega) ?_
     refine bn rfl fun _=>cL U ?_
     show vA (fC s (a+1) [])=ab.tuple [.int .i64 3, .str b, .int .i64 (i+1), .int .i64 0]
     rw [aE.2.2.2,aU,if_pos aa,if_neg (by omega)];rfl
   refine aB ?_
   refine cf [0,8,9,10] 34 ((decide (((I s i).toNat:Int)<32))||(decide (126<((I s i).toNat:Int)))) ?_ ?_
   · repeat' first
      |exact ⟨⟨_,rfl,by grind [bD.val]⟩,rfl⟩
      |refine ag (fun _=>?_) (fun _=>?_)
   refine ag (fun aG=>?_) (fun aG=>?_)
   · replace aG:(((I s i).toNat:Int)<32)∨(126<((I s i).toNat:Int)):=((dq aG).imp (fun q=>(of_decide_eq_true q)) (fun q=>(of_decide_eq_true q)))
     refine bn rfl fun _=>cL U ?_
     show vA (fC s (a+1) [])=ab.tuple [.int .i64 0, .str ([]), .int .i64 0, .int .i64 4]
     rw [aE.2.2.2,aU,if_neg aa,if_pos (by omega)];rfl
   replace aG:(32≤((I s i).toNat:Int))∧(((I s i).toNat:Int)≤126):=⟨(Int.not_lt.1 (of_decide_eq_false (cb aG))),(Int.not_lt.1 (of_decide_eq_false (dp aG)))⟩
   refine aB ?_
   refine ag (fun aR=>?_) (fun aR=>?_)
   · refine aB ?_
     refine cf [0,8,9] 61 ((decide (i+1<(s.length:Int)))&&((((I s (i+1)).toNat:Int)==34)||(((I s (i+1)).toNat:Int)==92))) ?_ ?_
     · repeat' first
        |exact ⟨⟨_,rfl,by grind [bD.val]⟩,rfl⟩
        |refine ag (fun _=>?_) (fun _=>?_)
        |refine ag (by omega) ?_
     refine ag (fun bu=>?_) (fun bu=>?_)
     · replace bu:(i+1<(s.length:Int))∧((((I s (i+1)).toNat:Int)=34)∨(((I s (i+1)).toNat:Int)=92)):=⟨(of_decide_eq_true (dH bu)),((dq (eA bu)).imp (fun q=>(eq_of_beq q)) (fun q=>(eq_of_beq q)))⟩
       refine ag (by omega) ?_
       refine ag (by omega) ?_
       refine ap bC b ([I s (i+1)]:List UInt8) rfl rfl (fun _=>⟨rfl,rfl⟩) (by (simp only [List.length_append,List.length_cons,List.length_nil];omega)) ?_
       refine ag (by omega) ?_
       refine ⟨(b++([I s (i+1)]:List UInt8),i+2),⟨rfl,rfl⟩,?_,?_⟩
       · try dsimp only
         exact ⟨by omega,by omega,by simp;omega,by rw [aE.2.2.2,aU,if_neg aa,if_neg (by omega),if_neg (by omega),if_pos (by omega)]⟩
       try dsimp only
       omega
     replace bu:((s.length:Int)≤i+1)∨((((I s (i+1)).toNat:Int)≠34)∧(((I s (i+1)).toNat:Int)≠92)):=((eB bu).imp (fun q=>(Int.not_lt.1 (of_decide_eq_false q))) (fun q=>⟨(ne_of_beq_false (cb q)),(ne_of_beq_false (dp q))⟩))
     refine aB ?_
     refine cf [0,8,9] 98 ((((decide (i+3<(s.length:Int)))&&(((I s (i+1)).toNat:Int)==120))&&(decide (0≤Lib.indexByte fW (I s (i+2)))))&&(decide (0≤Lib.indexByte fW (I s (i+3))))) ?_ ?_
     · repeat' first
        |exact ⟨⟨_,rfl,by grind [bD.val]⟩,rfl⟩
        |refine ag (fun _=>?_) (fun _=>?_)
        |refine ag (by omega) ?_
        |refine cG (fun _=>AV (I s (i+2))) rfl ?_
        |refine cG (fun _=>AV (I s (i+3))) rfl ?_
     refine ag (fun cD=>?_) (fun cD=>?_)
     · replace cD:(((i+3<(s.length:Int))∧(((I s (i+1)).toNat:Int)=120))∧(0≤Lib.indexByte fW (I s (i+2))))∧(0≤Lib.indexByte fW (I s (i+3))):=⟨⟨⟨(of_decide_eq_true (dH (dH (dH cD)))),(eq_of_beq (eA (dH (dH cD))))⟩,(of_decide_eq_true (eA (dH cD)))⟩,(of_decide_eq_true (eA cD))⟩
       refine ag (by omega) ?_
       refine ag (by omega) ?_
       refine gN (fun _=>AV (I s (i+2))) ?_
       refine ag (by omega) ?_
       refine ag (by omega) ?_
       refine ag (by omega) ?_
       refine gN (fun _=>AV (I s (i+3))) ?_
       refine ag (by omega) ?_
       refine ap bC b ([(ji ((16*(Lib.indexByte fW (I s (i+2))))+(Lib.indexByte fW (I s (i+3)))))]:List UInt8) rfl rfl (fun _=>⟨rfl,rfl⟩) (by (simp only [List.length_append,List.length_cons,List.length_nil];omega)) ?_
       refine ag (by omega) ?_
       refine ⟨(b++([(ji ((16*(Lib.indexByte fW (I s (i+2))))+(Lib.indexByte fW (I s (i+3)))))]:List UInt8),i+4),⟨rfl,rfl⟩,?_,?_⟩
       · try dsimp only
         exact ⟨by omega,by omega,by simp;omega,by rw [aE.2.2.2,aU,if_neg aa,if_neg (by omega),if_neg (by omega),if_neg (by omega),if_pos (by omega),S6 _ _ (by omega) (by omega) (by omega) (by omega)]⟩
       try dsimp only
       omega
     replace cD:((((s.length:Int)≤i+3)∨(((I s (i+1)).toNat:Int)≠120))∨(Lib.indexByte fW (I s (i+2))<0))∨(Lib.indexByte fW (I s (i+3))<0):=((eB cD).imp (fun q=>((eB q).imp (fun q=>((eB q).imp (fun q=>(Int.not_lt.1 (of_decide_eq_false q))) (fun q=>(ne_of_beq_false q)))) (fun q=>(Int.not_le.1 (of_decide_eq_false q))))) (fun q=>(Int.not_le.1 (of_decide_eq_false q))))
     refine bn rfl fun _=>cL U ?_
     show vA (fC s (a+1) [])=ab.tuple [.int .i64 0, .str ([]), .int .i64 0, .int .i64 4]
     rw [aE.2.2.2,aU,if_neg aa];(repeat' split)<;>first|rfl|omega
   refine ap bC b ([I s i]:List UInt8) rfl rfl (fun _=>⟨rfl,rfl⟩) (by (simp only [List.length_append,List.length_cons,List.length_nil];omega)) ?_
   refine ag (by omega) ?_
   refine ⟨(b++([I s i]:List UInt8),i+1),⟨rfl,rfl⟩,?_,?_⟩
   · try dsimp only
     exact ⟨by omega,by omega,by simp;omega,by rw [aE.2.2.2,aU,if_neg aa,if_neg (by omega),if_pos (by omega)]⟩
   try dsimp only
   omega
 refine bn rfl fun _=>cL U ?_
 show vA (fC s (a+1) [])=ab.tuple [.int .i64 0, .str ([]), .int .i64 0, .int .i64 4]
 rw [aE.2.2.2,J7 J];rfl
end Go.Proofs
end
section
namespace Go.Proofs
open Go Go.bg Go.cz
set_option maxRecDepth 100000
def eI (s:List UInt8) (a:Int):Int×List UInt8×Int×Int:=
 if oo (I s a)=true then
  (if 12<ep jl s a- a then (0,[],0,1) else (1,sub s a (ep jl s a),ep jl s a,0))
 else if gg (I s a)=true then
  (if 10<ep gg s a- a∨(((I s a).toNat:Int)=48∧a+1<ep gg s a) then (0,[],0,1) else (2,sub s a (ep gg s a),ep gg s a,0))
 else if ((I s a).toNat:Int)=34 then
  (if (fC s (a+1) []).1=0 then 3 else 0,(fC s (a+1) []).2.1,(fC s (a+1) []).2.2,(fC s (a+1) []).1)
 else if ((I s a).toNat:Int)=61∧a+1<s.length∧((I s (a+1)).toNat:Int)=61 then (4,[61,61],a+2,0)
 else if 0≤Lib.indexByte pU (I s a) then (4,sub s a (a+1),a+1,0)
 else (0,[],0,4)
def qT (r:Int×List UInt8×Int×Int):ab:= .tuple [.int .i64 r.1, .str r.2.1, .int .i64 r.2.2.1, .int .i64 r.2.2.2]
set_option maxHeartbeats 1000000 in
theorem Tb (s:ar) (a:Int) (aw:s.length≤16777216) (aJ:0≤a) (aT:a<s.length) (m:ae) (K:ab→ae→Prop) (U:K (qT (eI s a)) m):bh Tryz.prog 128 [.str s, .int .i64 a] m K:=by
 refine enter (c:=cT [] [] [3,4,9,10,12,17] [] [] []) (vs:=[.aI (.str s), .aI (.int .i64 a)]) (L:=[]) (m:=m) false b2 Tryz.mixed Tryz.func128 rfl (k:=2) (by show cO [] _ _ _=true;decide+kernel) rfl (Good.nil m) ?_
 refine ag ⟨by omega,by first|omega|(show i<13;omega)⟩ ?_
 refine aB ?_
 refine cf [0,1,8,9] 21 ((decide (97≤((I s a).toNat:Int)))&&(decide (((I s a).toNat:Int)≤122))) ?_ ?_
 · repeat' first
    |exact ⟨⟨_,rfl,by grind [bD.val]⟩,rfl⟩
    |refine ag (fun _=>?_) (fun _=>?_)
 refine ag (fun J=>?_) (fun J=>?_)
 · replace J:(97≤((I s a).toNat:Int))∧(((I s a).toNat:Int)≤122):=⟨(of_decide_eq_true (dH J)),(of_decide_eq_true (eA J))⟩
   refine aB ?_
   refine cH (σ:=Int) [] [0,1,9] 0 (fun end_=>([(0,ay s),(1,ax a),(9,ax end_)],[],m)) (fun end_=>a≤end_∧end_≤s.length∧ep jl s a=ep jl s end_) (fun end_=>s.length- end_.toNat) (a) ⟨rfl,rfl⟩ ?_ ?_
   · try dsimp only
     first|omega|(refine ⟨?_,?_⟩<;>first|omega|simp)|simp
   rintro end_ aE
   refine aB ?_
   refine cf [0,1,9] 49 ((decide (end_<(s.length:Int)))&&(((decide (97≤((I s end_).toNat:Int)))&&(decide (((I s end_).toNat:Int)≤122)))||((decide (48≤((I s end_).toNat:Int)))&&(decide (((I s end_).toNat:Int)≤57))))) ?_ ?_
   · repeat' first
      |exact ⟨⟨_,rfl,by grind [bD.val]⟩,rfl⟩
      |refine ag (fun _=>?_) (fun _=>?_)
      |refine ag ⟨by omega,by first|omega|(show i<13;omega)⟩ ?_
   refine ag (fun aa=>?_) (fun aa=>?_)
   · replace aa:(end_<(s.length:Int))∧(((97≤((I s end_).toNat:Int))∧(((I s end_).toNat:Int)≤122))∨((48≤((I s end_).toNat:Int))∧(((I s end_).toNat:Int)≤57))):=⟨(of_decide_eq_true (dH aa)),((dq (eA aa)).imp (fun q=>⟨(of_decide_eq_true (dH q)),(of_decide_eq_true (eA q))⟩) (fun q=>⟨(of_decide_eq_true (dH q)),(of_decide_eq_true (eA q))⟩))⟩
     refine ag (by omega) ?_
     refine ⟨(end_+1),⟨rfl,rfl⟩,?_,?_⟩
     · try dsimp only
       exact ⟨by omega,by omega,by rw [aE.2.2];exact qS (by omega) aa.1 (J5.2 aa.2)⟩
     try dsimp only
     omega
   replace aa:((s.length:Int)≤end_)∨(((((I s end_).toNat:Int)<97)∨(122<((I s end_).toNat:Int)))∧((((I s end_).toNat:Int)<48)∨(57<((I s end_).toNat:Int)))):=((eB aa).imp (fun q=>(Int.not_lt.1 (of_decide_eq_false q))) (fun q=>⟨((eB (cb q)).imp (fun q=>(Int.not_le.1 (of_decide_eq_false q))) (fun q=>(Int.not_le.1 (of_decide_eq_false q)))),((eB (dp q)).imp (fun q=>(Int.not_le.1 (of_decide_eq_false q))) (fun q=>(Int.not_le.1 (of_decide_eq_false q))))⟩))
   have e:ep jl s a=end_:=aE.2.2.trans (AS (by omega) (fun av=>by rw [Bool.eq_false_iff];intro ah;have:=J5.1 ah;omega))
   refine aB ?_
   refine ag (by omega) ?_
   refine ag (fun aj=>?_) (fun aj=>?_)
   · refine bn rfl fun _=>cL U ?_
     show qT (eI s a)=ab.tuple [.int .i64 0, .str ([]), .int .i64 0, .int .i64 1]
     rw [eI,if_pos (AT.2 J),e,if_pos (by omega)];rfl
   refine ag (by dsimp only [Option.getD_some,Option.getD_none];omega) ?_
   refine bn rfl fun _=>cL U ?_
   show qT (eI s a)=ab.tuple [.int .i64 1, .str (sub s a end_), .int .i64 end_, .int .i64 0]
   rw [eI,if_pos (AT.2 J),e,if_neg (by omega)];rfl
 replace J:(((I s a).toNat:Int)<97)∨(122<((I s a).toNat:Int)):=((eB J).imp (fun q=>(Int.not_le.1 (of_decide_eq_false q))) (fun q=>(Int.not_le.1 (of_decide_eq_false q))))
 have j9:¬oo (I s a)=true:=fun ah=>by have:=AT.1 ah;omega
 refine aB ?_
 refine cf [0,1,8,9] 66 ((decide (48≤((I s a).toNat:Int)))&&(decide (((I s a).toNat:Int)≤57))) ?_ ?_
 · repeat' first
    |exact ⟨⟨_,rfl,by grind [bD.val]⟩,rfl⟩
    |refine ag (fun _=>?_) (fun _=>?_)
 refine ag (fun aG=>?_) (fun aG=>?_)
 · replace aG:(48≤((I s a).toNat:Int))∧(((I s a).toNat:Int)≤57):=⟨(of_decide_eq_true (dH aG)),(of_decide_eq_true (eA aG))⟩
   refine aB ?_
   refine cH (σ:=Int) [] [0,1,8,9] 0 (fun end_=>([(0,ay s),(1,ax a),(8, .aI (.int .u8 ((I s a).toNat))),(9,ax end_)],[],m)) (fun end_=>a≤end_∧end_≤s.length∧ep gg s a=ep gg s end_) (fun end_=>s.length- end_.toNat) (a) ⟨rfl,rfl⟩ ?_ ?_
   · try dsimp only
     first|omega|(refine ⟨?_,?_⟩<;>first|omega|simp)|simp
   rintro end_ aE
   refine aB ?_
   refine cf [0,1,8,9] 82 (((decide (end_<(s.length:Int)))&&(decide (48≤((I s end_).toNat:Int))))&&(decide (((I s end_).toNat:Int)≤57))) ?_ ?_
   · repeat' first
      |exact ⟨⟨_,rfl,by grind [bD.val]⟩,rfl⟩
      |refine ag (fun _=>?_) (fun _=>?_)
      |refine ag ⟨by omega,by first|omega|(show i<13;omega)⟩ ?_
   refine ag (fun aR=>?_) (fun aR=>?_)
   · replace aR:((end_<(s.length:Int))∧(48≤((I s end_).toNat:Int)))∧(((I s end_).toNat:Int)≤57):=⟨⟨(of_decide_eq_true (dH (dH aR))),(of_decide_eq_true (eA (dH aR)))⟩,(of_decide_eq_true (eA aR))⟩
     refine ag (by omega) ?_
     refine ⟨(end_+1),⟨rfl,rfl⟩,?_,?_⟩
     · try dsimp only
       exact ⟨by omega,by omega,by rw [aE.2.2];exact qS (by omega) aR.1.1 (tt.2 ⟨aR.1.2,aR.2⟩)⟩
     try dsimp only
     omega
   replace aR:(((s.length:Int)≤end_)∨(((I s end_).toNat:Int)<48))∨(57<((I s end_).toNat:Int)):=((eB aR).imp (fun q=>((eB q).imp (fun q=>(Int.not_lt.1 (of_decide_eq_false q))) (fun q=>(Int.not_le.1 (of_decide_eq_false q))))) (fun q=>(Int.not_le.1 (of_decide_eq_false q))))
   have e:ep gg s a=end_:=aE.2.2.trans (AS (by omega) (fun av=>by rw [Bool.eq_false_iff];intro ah;have:=tt.1 ah;omega))
   refine aB ?_
   refine cf [0,1,9] 98 ((decide (10<end_- a))||((((I s a).toNat:Int)==48)&&(decide (a+1<end_)))) ?_ ?_
   · repeat' first
      |exact ⟨⟨_,rfl,by grind [bD.val]⟩,rfl⟩
      |refine ag (fun _=>?_) (fun _=>?_)
      |refine ag (by omega) ?_
   refine ag (fun bu=>?_) (fun bu=>?_)
   · replace bu:(10<end_- a)∨((((I s a).toNat:Int)=48)∧(a+1<end_)):=((dq bu).imp (fun q=>(of_decide_eq_true q)) (fun q=>⟨(eq_of_beq (dH q)),(of_decide_eq_true (eA q))⟩))
     refine bn rfl fun _=>cL U ?_
     show qT (eI s a)=ab.tuple [.int .i64 0, .str ([]), .int .i64 0, .int .i64 1]
     rw [eI,if_neg j9,if_pos (tt.2 aG),e,if_pos (by omega)];rfl
   replace bu:(end_- a≤10)∧((((I s a).toNat:Int)≠48)∨(end_≤a+1)):=⟨(Int.not_lt.1 (of_decide_eq_false (cb bu))),((eB (dp bu)).imp (fun q=>(ne_of_beq_false q)) (fun q=>(Int.not_lt.1 (of_decide_eq_false q))))⟩
   refine ag (by dsimp only [Option.getD_some,Option.getD_none];omega) ?_
   refine bn rfl fun _=>cL U ?_
   show qT (eI s a)=ab.tuple [.int .i64 2, .str (sub s a end_), .int .i64 end_, .int .i64 0]
   rw [eI,if_neg j9,if_pos (tt.2 aG),e,if_neg (by omega)];rfl
 replace aG:(((I s a).toNat:Int)<48)∨(57<((I s a).toNat:Int)):=((eB aG).imp (fun q=>(Int.not_le.1 (of_decide_eq_false q))) (fun q=>(Int.not_le.1 (of_decide_eq_false q))))
 have aY:¬gg (I s a)=true:=fun ah=>by have:=tt.1 ah;omega
 refine aB ?_
 refine ag (fun cD=>?_) (fun cD=>?_)
 · refine cG (fun _=>Ta s a (by omega) (by omega) (by omega)) rfl ?_
   refine bn rfl fun _=>cL U ?_
   show qT (eI s a)=ab.tuple [.int .i64 (if (fC s (a+1) []).1=0 then 3 else 0), .str ((fC s (a+1) []).2.1), .int .i64 ((fC s (a+1) []).2.2), .int .i64 ((fC s (a+1) []).1)]
   rw [eI,if_neg j9,if_neg aY,if_pos cD];rfl
 refine aB ?_
 refine cf [0,1,8] 128 (((((I s a).toNat:Int)==61)&&(decide (a+1<(s.length:Int))))&&(((I s (a+1)).toNat:Int)==61)) ?_ ?_
 · repeat' first
    |exact ⟨⟨_,rfl,by grind [bD.val]⟩,rfl⟩
    |refine ag (fun _=>?_) (fun _=>?_)
    |refine ag (by omega) ?_
    |refine ag ⟨by omega,by first|omega|(show i<13;omega)⟩ ?_
 refine ag (fun cK=>?_) (fun cK=>?_)
 · replace cK:((((I s a).toNat:Int)=61)∧(a+1<(s.length:Int)))∧(((I s (a+1)).toNat:Int)=61):=⟨⟨(eq_of_beq (dH (dH cK))),(of_decide_eq_true (eA (dH cK)))⟩,(eq_of_beq (eA cK))⟩
   refine ag (by omega) ?_
   refine bn rfl fun _=>cL U ?_
   show qT (eI s a)=ab.tuple [.int .i64 4, .str ([61,61]:List UInt8), .int .i64 (a+2), .int .i64 0]
   rw [eI,if_neg j9,if_neg aY,if_neg cD,if_pos (by omega)];rfl
 replace cK:((((I s a).toNat:Int)≠61)∨((s.length:Int)≤a+1))∨(((I s (a+1)).toNat:Int)≠61):=((eB cK).imp (fun q=>((eB q).imp (fun q=>(ne_of_beq_false q)) (fun q=>(Int.not_lt.1 (of_decide_eq_false q))))) (fun q=>(ne_of_beq_false q)))
 have J9:¬(((I s a).toNat:Int)=61∧a+1<s.length∧((I s (a+1)).toNat:Int)=61):=by omega
 refine aB ?_
 refine cH (σ:=Int) [] [0,1,8,10,11] 0 (fun i=>([(0,ay s),(1,ax a),(8, .aI (.int .u8 ((I s a).toNat))),(10,ay ([61,123,125,91,93,40,41,58,44,46,43,63,45]:List UInt8)),(11,ax i)],[],m)) (fun i=>0≤i∧i≤13∧∀j:Nat,(j:Int)<i→pU.getD j 0≠I s a) (fun i=>13- i.toNat) (0) ⟨rfl,rfl⟩ ?_ ?_
 · try dsimp only
   exact ⟨by omega,by omega,fun j aD=>by omega⟩
 rintro i aE
 refine aB ?_
 refine ag (fun cC=>?_) (fun cC=>?_)
 · replace cC:i<13:=cC
   refine aB ?_
   refine ag ⟨by omega,by first|omega|(show i<13;omega)⟩ ?_
   refine ag (fun eg=>?_) (fun eg=>?_)
   · refine ag (by omega) ?_
     refine ag (by dsimp only [Option.getD_some,Option.getD_none];omega) ?_
     refine ag (by omega) ?_
     refine bn rfl fun _=>cL U ?_
     show qT (eI s a)=ab.tuple [.int .i64 4, .str (sub s a (a+1)), .int .i64 (a+1), .int .i64 0]
     have al:Lib.indexByte pU (I s a)=(i.toNat:Nat):=J3 (by simp [pU];omega) (fun j aD=>aE.2.2 j (by omega)) (J4 (by rw [←eg];obtain ⟨n,rfl⟩:=Int.eq_ofNat_of_zero_le aE.1;rw [qR];rfl))
     rw [eI,if_neg j9,if_neg aY,if_neg cD,if_neg J9,if_pos (by rw [al];omega)];rfl
   refine ag (by omega) ?_
   refine ⟨(i+1),⟨rfl,rfl⟩,?_,?_⟩
   · try dsimp only
     refine ⟨by omega,by omega,fun j aD=>?_⟩
     by_cases e:(j:Int)=i
     · intro he;apply eg;rw [←he,←e,qR];rfl
     · exact aE.2.2 j (by omega)
   try dsimp only
   omega
 replace cC:(13:Int)≤i:=cC
 refine bn rfl fun _=>cL U ?_
 show qT (eI s a)=ab.tuple [.int .i64 0, .str ([]), .int .i64 0, .int .i64 4]
 have al:Lib.indexByte pU (I s a)=-1:=indexByte_none (fun j aD=>aE.2.2 j (by simp [pU] at aD;omega))
 rw [eI,if_neg j9,if_neg aY,if_neg cD,if_neg J9,if_neg (by rw [al];omega)];rfl
end Go.Proofs
end
section
namespace Go.Proofs
open Go Go.bg Go.cz
set_option maxRecDepth 100000
abbrev Tok:=Int×Int×List UInt8
def bm (t:Tok):ab:= .agg [.int .i64 t.1, .int .i64 t.2.1, .str t.2.2]
def hh:Nat→List UInt8→Int→List Tok→List Tok×Int×Int
 |0,_,_,out=>(out,0,0)
 |n+1,s,a,out=>
  if a<s.length then
   if ((I s a).toNat:Int)=32∨((I s a).toNat:Int)=10 then hh n s (a+1) out
   else if ((I s a).toNat:Int)=35 then hh n s (ep mN s a) out
   else if (eI s a).2.2.2≠0 then ([],a,(eI s a).2.2.2)
   else hh n s (eI s a).2.2.1 (out++[((eI s a).1,a,(eI s a).2.1)])
  else (out,0,0)
def c7 (s:List UInt8):List Tok×Int×Int:=if 4000<(s.length:Int) then ([],0,2) else hh (s.length+1) s 0 []
theorem Ka {n:Nat} {s:List UInt8} {a:Int} {out:List Tok} (h:s.length≤a):hh (n+1) s a out=(out,0,0):=by rw [hh,if_neg (by omega)]
theorem Kb {n:Nat} {s:List UInt8} {a:Int} {out:List Tok} (h:a<s.length) (ao:((I s a).toNat:Int)=32∨((I s a).toNat:Int)=10):hh (n+1) s a out=hh n s (a+1) out:=by rw [hh,if_pos h,if_pos ao]
theorem Kc {n:Nat} {s:List UInt8} {a:Int} {out:List Tok} (h:a<s.length) (ao:((I s a).toNat:Int)=35):hh (n+1) s a out=hh n s (ep mN s a) out:=by rw [hh,if_pos h,if_neg (by omega),if_pos ao]
theorem Kd {n:Nat} {s:List UInt8} {a:Int} {out:List Tok} (h:a<s.length) (ao:¬(((I s a).toNat:Int)=32∨((I s a).toNat:Int)=10)) (aR:((I s a).toNat:Int)≠35) (he:(eI s a).2.2.2≠0):hh (n+1) s a out=([],a,(eI s a).2.2.2):=by
 rw [hh,if_pos h,if_neg ao,if_neg aR,if_pos he]
theorem Ke {n:Nat} {s:List UInt8} {a:Int} {out:List Tok} (h:a<s.length) (ao:¬(((I s a).toNat:Int)=32∨((I s a).toNat:Int)=10)) (aR:((I s a).toNat:Int)≠35) (he:(eI s a).2.2.2=0):
 hh (n+1) s a out=hh n s (eI s a).2.2.1 (out++[((eI s a).1,a,(eI s a).2.1)]):=by
 rw [hh,if_pos h,if_neg ao,if_neg aR,if_neg (by simpa using he)]
theorem Kf (s:List UInt8) (i:Nat) (b:List UInt8):0≤(oq s i b).1∧((oq s i b).1=0→(i:Int)<(oq s i b).2.2∧(oq s i b).2.2≤s.length):=by
 fun_induction oq s i b<;>simp_all<;>omega
theorem Kg (s:List UInt8) (a:Int) (aJ:0≤a) (b:List UInt8):0≤(fC s a b).1∧((fC s a b).1=0→a<(fC s a b).2.2∧(fC s a b).2.2≤s.length):=by
 have:=Kf s a.toNat b
 rw [fC]
 refine ⟨this.1,fun h=>?_⟩
 have:=this.2 h
 omega
theorem Kh (s:List UInt8) (a:Int):0≤(eI s a).2.2.2:=by
 unfold eI
 split
 · split<;>simp
 · split
   · split<;>simp
   · split
     · rw [fC];exact (Kf _ _ _).1
     · split
       · simp
       · split<;>simp
theorem Ki {s:List UInt8} {a:Int} (aJ:0≤a) (aT:a<s.length) (he:(eI s a).2.2.2=0):a<(eI s a).2.2.1∧(eI s a).2.2.1≤s.length:=by
 have hw:=ys jl (s:=s) aJ (by omega)
 have aY:=ys gg (s:=s) aJ (by omega)
 have D4:oo (I s a)=true→a+1≤ep jl s a:=fun av=>by
  rw [qS aJ aT (by simp [jl,av])];exact vz _ (by omega)
 have AM:gg (I s a)=true→a+1≤ep gg s a:=fun av=>by
  rw [qS aJ aT av];exact vz _ (by omega)
 unfold eI at he ⊢
 split
 · next av=>
   have:=D4 av
   split<;>simp_all<;>omega
 · split
   · next av=>
     have:=AM av
     split<;>simp_all<;>omega
   · split
     · next Xd=>
       simp_all
       have:=(Kg s (a+1) (by omega) []).2 he
       omega
     · split
       · simp;omega
       · split<;>simp_all<;>omega
set_option maxHeartbeats 1000000 in
theorem Tc (s:ar) (aw:s.length≤16777216) (m:ae) (K:ab→ae→Prop) (U:K (.tuple [.slice false ((c7 s).1.map bm), .int .i64 (c7 s).2.1, .int .i64 (c7 s).2.2]) m):bh Tryz.prog 67 [.str s] m K:=by
 refine bh.pl ?_
 refine enter (c:=cT [] [] [7,10] [] [] []) (vs:=[.aI (.str s)]) (L:=[]) (m:=m) false b2 Tryz.mixed Tryz.func67 rfl (k:=1) (by show cO [] _ _ _=true;decide+kernel) rfl (Good.nil m) ?_
 refine aB ?_
 refine ag (fun J=>?_) (fun J=>?_)
 · refine bn rfl fun _=>?_
   show K (.tuple [.slice false [], .int .i64 0, .int .i64 2]) m
   refine cL U ?_
   show ab.tuple [.slice false ((c7 s).1.map bm), .int .i64 (c7 s).2.1, .int .i64 (c7 s).2.2]=ab.tuple [.slice false [], .int .i64 0, .int .i64 2]
   rw [c7,if_pos J];rfl
 have fM:c7 s=hh (s.length+1) s 0 []:=by rw [c7,if_neg (by omega)]
 refine aB ?_
 refine cH (σ:=(List Tok)×Int) [] [0,5,6] 0 (fun ⟨l,at_⟩=>([(0,ay s),(5, .own (l.map bm)),(6,ax at_)],[],m)) (fun ⟨l,at_⟩=>0≤at_∧at_≤s.length∧(l.length:Int)≤at_∧∃n:Nat,s.length- at_<n∧hh (s.length+1) s 0 []=hh n s at_ l) (fun ⟨l,at_⟩=>s.length- at_.toNat) ([],0) ⟨rfl,rfl⟩ ?_ ?_
 · try dsimp only
   exact ⟨by omega,by omega,by simp,s.length+1,by omega,rfl⟩
 rintro ⟨l,at_⟩ aE
 dsimp only at aE
 obtain ⟨n,aM,aq⟩:=aE.2.2.2
 refine aB ?_
 refine ag (fun aa=>?_) (fun aa=>?_)
 · obtain ⟨n,rfl⟩:∃k,n=k+1:=⟨n- 1,by omega⟩
   refine ag (by omega) ?_
   refine aB ?_
   refine cf [0,5,6,7] 27 ((((I s at_).toNat:Int)==32)||(((I s at_).toNat:Int)==10)) ?_ ?_
   · repeat' first
      |exact ⟨⟨_,rfl,by grind [bD.val]⟩,rfl⟩
      |refine ag (fun _=>?_) (fun _=>?_)
   refine ag (fun aj=>?_) (fun aj=>?_)
   · replace aj:(((I s at_).toNat:Int)=32)∨(((I s at_).toNat:Int)=10):=((dq aj).imp (fun q=>(eq_of_beq q)) (fun q=>(eq_of_beq q)))
     refine ag (by omega) ?_
     refine ⟨(l,at_+1),⟨rfl,rfl⟩,?_,?_⟩
     · try dsimp only
       exact ⟨by omega,by omega,by omega,n,by omega,by rw [aq,Kb aa aj]⟩
     try dsimp only
     omega
   replace aj:(((I s at_).toNat:Int)≠32)∧(((I s at_).toNat:Int)≠10):=⟨(ne_of_beq_false (cb aj)),(ne_of_beq_false (dp aj))⟩
   refine aB ?_
   refine ag (fun aG=>?_) (fun aG=>?_)
   · refine aB ?_
     refine cH (σ:=Int) [] [0,5,6] 0 (fun kt=>([(0,ay s),(5, .own (l.map bm)),(6,ax kt)],[],m)) (fun kt=>at_≤kt∧kt≤s.length∧ep mN s at_=ep mN s kt) (fun kt=>s.length- kt.toNat) (at_) ⟨rfl,rfl⟩ ?_ ?_
     · try dsimp only
       first|omega|(refine ⟨?_,?_⟩<;>first|omega|simp)|simp
     rintro kt bK
     refine aB ?_
     refine cf [0,5,6] 41 ((decide (kt<(s.length:Int)))&&(!(((I s kt).toNat:Int)==10))) ?_ ?_
     · repeat' first
        |exact ⟨⟨_,rfl,by grind [bD.val]⟩,rfl⟩
        |refine ag (fun _=>?_) (fun _=>?_)
        |refine ag (by omega) ?_
     refine ag (fun aR=>?_) (fun aR=>?_)
     · replace aR:(kt<(s.length:Int))∧(((I s kt).toNat:Int)≠10):=⟨(of_decide_eq_true (dH aR)),(ne_of_beq_false (dz (eA aR)))⟩
       refine ag (by omega) ?_
       refine ⟨(kt+1),⟨rfl,rfl⟩,?_,?_⟩
       · try dsimp only
         exact ⟨by omega,by omega,by rw [bK.2.2];exact qS (by omega) aR.1 (by simp [mN];omega)⟩
       try dsimp only
       omega
     replace aR:((s.length:Int)≤kt)∨(((I s kt).toNat:Int)=10):=((eB aR).imp (fun q=>(Int.not_lt.1 (of_decide_eq_false q))) (fun q=>(eq_of_beq (du q))))
     have hq:ep mN s at_=kt:=bK.2.2.trans (AS (by omega) (fun av=>by simp [mN];omega))
     have Jz:at_<kt:=by
      rcases Int.lt_or_eq_of_le bK.1 with cl|rfl
      · exact cl
      · omega
     refine ⟨(l,kt),⟨rfl,rfl⟩,?_,?_⟩
     · try dsimp only
       exact ⟨by omega,by omega,by omega,n,by omega,by rw [aq,Kc aa aG,hq]⟩
     try dsimp only
     omega
   refine cG (fun _=>Tb s at_ (by omega) (by omega) (by omega)) rfl ?_
   refine aB ?_
   refine ag (fun bu=>?_) (fun bu=>?_)
   · refine bn rfl fun _=>?_
     show K (.tuple [.slice false [], .int .i64 at_, .int .i64 ((eI s at_).2.2.2)]) m
     refine cL U ?_
     show ab.tuple [.slice false ((c7 s).1.map bm), .int .i64 (c7 s).2.1, .int .i64 (c7 s).2.2]=ab.tuple [.slice false [], .int .i64 at_, .int .i64 ((eI s at_).2.2.2)]
     rw [fM,aq,Kd aa (by omega) aG (by omega)];rfl
   have EF:=Kh s at_
   have he:=Ki aE.1 aa (by omega)
   refine ap bm l ([(⟨(eI s at_).1,at_,(eI s at_).2.1⟩:Tok)]:List Tok) rfl rfl (fun _=>⟨rfl,rfl⟩) (by (simp only [List.length_append,List.length_cons,List.length_nil];omega)) ?_
   refine ⟨(l++([(⟨(eI s at_).1,at_,(eI s at_).2.1⟩:Tok)]:List Tok),(eI s at_).2.2.1),⟨rfl,rfl⟩,?_,?_⟩
   · try dsimp only
     exact ⟨by omega,by omega,by simp;omega,n,by omega,by rw [aq,Ke aa (by omega) aG (by omega)]⟩
   try dsimp only
   omega
 obtain ⟨n,rfl⟩:∃k,n=k+1:=⟨n- 1,by omega⟩
 refine bn rfl fun _=>?_
 show K (.tuple [.slice false (l.map bm), .int .i64 0, .int .i64 0]) m
 refine cL U ?_
 show ab.tuple [.slice false ((c7 s).1.map bm), .int .i64 (c7 s).2.1, .int .i64 (c7 s).2.2]=ab.tuple [.slice false (l.map bm), .int .i64 0, .int .i64 0]
 rw [fM,aq,Ka aa]
end Go.Proofs
end
section
namespace Go.Proofs
open Go Go.bg Go.cz
set_option maxRecDepth 100000
theorem Kj (s:List UInt8) (a:Int) (aJ:0≤a) (k:Nat):(s.drop a.toNat).getD k 0=I s (a+k):=by
 obtain ⟨n,rfl⟩:=Int.eq_ofNat_of_zero_le aJ
 have:((n:Int)+(k:Int))=((n+k:Nat):Int):=by simp
 rw [this,qR]
 simp [List.getD_eq_getElem?_getD]
theorem Kk {c:UInt8} {n:Nat} (h:(c.toNat:Int)=n) (aM:n<256):c=UInt8.ofNat n:=by
 apply UInt8.toNat_inj.1
 simp [Nat.mod_eq_of_lt aM];omega
theorem EG (t:List UInt8):Lib.hasPrefix t [61,61]=true↔2≤t.length∧t.getD 0 0=61∧t.getD 1 0=61:=by
 match t with
 |[]=>simp [Lib.hasPrefix]
 |[x]=>simp [Lib.hasPrefix]
 |x::y::r=>simp [Lib.hasPrefix];try exact ⟨fun h=>⟨h.1.symm,h.2.symm⟩,fun h=>⟨h.1.symm,h.2.symm⟩⟩
theorem Kl (s:List UInt8) (a:Int) (aJ:0≤a) (aT:a<s.length):sub s a s.length=s.drop a.toNat:=by
 unfold sub
 rw [List.take_of_length_le]
 simp;omega
theorem Td {s:List UInt8} {a:Int} (aJ:0≤a) (aT:a<s.length) (J:¬oo (I s a)=true) (aa:¬gg (I s a)=true) (aj:((I s a).toNat:Int)≠34):
 eI s a=if jy (sub s a s.length)=0 then (0,[],0,4) else (4,sub s a (a+jy (sub s a s.length)),a+jy (sub s a s.length),0):=by
 rw [eI,if_neg J,if_neg aa,if_neg aj,Kl s a aJ aT]
 have bM:=Kj s a aJ 0
 have aF:=Kj s a aJ 1
 have z0:a+((0:Nat):Int)=a:=by omega
 have km:a+((1:Nat):Int)=a+1:=by omega
 rw [z0] at bM
 rw [km] at aF
 have av:(s.drop a.toNat).length=s.length- a.toNat:=by simp
 have aY:=drop_cons (s:=s) (i:=a.toNat) (by omega)
 by_cases aQ:Lib.hasPrefix (s.drop a.toNat) [61,61]=true
 · have aU:=(EG _).1 aQ
   rw [bM,aF] at aU
   rw [jy,if_pos aQ,if_pos ⟨by rw [aU.2.1];rfl,by omega,by rw [aU.2.2];rfl⟩]
   have AM:=drop_cons (s:=s) (i:=a.toNat+1) (by omega)
   have g0:s.getD a.toNat 0=61:=aU.2.1
   have g1:s.getD (a.toNat+1) 0=61:=by
    have:=aU.2.2
    rw [I] at this
    have e:(a+1).toNat=a.toNat+1:=by omega
    rw [e] at this;exact this
   have:sub s a (a+2)=[61,61]:=by
    unfold sub
    rw [aY,AM,g0,g1]
    have:(a+2- a).toNat=2:=by omega
    rw [this];rfl
   simp [this]
 · have aM:¬(((I s a).toNat:Int)=61∧a+1<s.length∧((I s (a+1)).toNat:Int)=61):=by
    intro aC
    apply aQ
    rw [EG,bM,aF]
    refine ⟨by omega,?_,?_⟩
    · exact Kk (n:=61) aC.1 (by omega)
    · exact Kk (n:=61) aC.2.2 (by omega)
   rw [if_neg aM,jy,if_neg aQ,bM]
   by_cases ad:0≤Lib.indexByte pU (I s a)
   · simp [ad]
   · simp [ad]
theorem Te {s:List UInt8} {a:Int} (h:oo (I s a)=true):eI s a=if 12<ep jl s a- a then (0,[],0,1) else (1,sub s a (ep jl s a),ep jl s a,0):=by rw [eI,if_pos h]
theorem Tf {s:List UInt8} {a:Int} (J:¬oo (I s a)=true) (h:gg (I s a)=true):eI s a=if 10<ep gg s a- a∨(((I s a).toNat:Int)=48∧a+1<ep gg s a) then (0,[],0,1) else (2,sub s a (ep gg s a),ep gg s a,0):=by rw [eI,if_neg J,if_pos h]
theorem Tg {s:List UInt8} {a:Int} (h:((I s a).toNat:Int)=34):eI s a=(if (fC s (a+1) []).1=0 then 3 else 0,(fC s (a+1) []).2.1,(fC s (a+1) []).2.2,(fC s (a+1) []).1):=by
 rw [eI,if_neg (fun ah=>by have:=AT.1 ah;omega),if_neg (fun ah=>by have:=tt.1 ah;omega),if_pos h]
theorem Th (t:List UInt8):0≤jy t∧jy t≤2:=by unfold jy;split<;>(try split)<;>simp
theorem Ti {s:List UInt8} {a:Int} (aJ:0≤a) (aT:a<s.length):a+jy (sub s a s.length)≤s.length:=by
 rw [Kl s a aJ aT]
 unfold jy
 split
 · next h=>have:=((EG _).1 h).1;simp at this;omega
 · split<;>omega
theorem AX {n:Nat} {s:List UInt8} {a:Int} {out:List Tok} {k:Int} {t:List UInt8} {e:Int} (h:a<s.length) (ao:¬(((I s a).toNat:Int)=32∨((I s a).toNat:Int)=10)) (aR:((I s a).toNat:Int)≠35) (he:eI s a=(k,t,e,0)):
 hh (n+1) s a out=hh n s e (out++[(k,a,t)]):=by rw [Ke h ao aR (by rw [he]),he]
theorem AY {n:Nat} {s:List UInt8} {a:Int} {out:List Tok} {k:Int} {t:List UInt8} {e f:Int} (h:a<s.length) (ao:¬(((I s a).toNat:Int)=32∨((I s a).toNat:Int)=10)) (aR:((I s a).toNat:Int)≠35) (he:eI s a=(k,t,e,f)) (aZ:f≠0):
 hh (n+1) s a out=([],a,f):=by rw [Kd h ao aR (by rw [he];exact aZ),he]
theorem EH (s:ar) (a:Int) (g:FuncId) (f:UInt8→Bool) (aJ:0≤a) (aT:a≤s.length) (aw:s.length≤140737488355328) (aZ:∀c m,uF Tryz.prog g [.int .u8 (c:UInt8).toNat] m (.bool (f c))) (m:ae) (K:ab→ae→Prop) (U:K (.int .i64 (ep f s a)) m):bh Tryz.prog 119 [.str s, .int .i64 a, .func (.func g) [] []] m K:=by
 refine enter (c:=cT [] [] [1] [] [] []) (vs:=[.aI (.str s), .aI (.int .i64 a), .fn g [] []]) (L:=[]) (m:=m) false b2 Tryz.mixed Tryz.func119 rfl (k:=3) (by show cO [] _ _ _=true;decide+kernel) rfl (Good.nil m) ?_
 refine aB ?_
 refine cH (σ:=Int) [] [0,1,2] 0 (fun at_=>([(0,ay s),(1,ax at_),(2, .fn g [] [])],[],m)) (fun at_=>0≤at_∧at_≤s.length∧ep f s a=ep f s at_) (fun at_=>s.length- at_.toNat) (a) ⟨rfl,rfl⟩ ?_ ?_
 · try dsimp only
   exact ⟨by omega,by omega,rfl⟩
 rintro at_ aE
 refine aB ?_
 refine cf [0,1,2] 17 ((decide (at_<(s.length:Int)))&&(f (I s at_))) ?_ ?_
 · repeat' first
    |exact ⟨⟨_,rfl,by grind [bD.val]⟩,rfl⟩
    |refine ag (fun _=>?_) (fun _=>?_)
    |refine ag (by omega) ?_
    |refine cG (fun _=>aZ (I s at_)) rfl ?_
 refine ag (fun J=>?_) (fun J=>?_)
 · replace J:(at_<(s.length:Int))∧(f (I s at_)=true):=⟨(of_decide_eq_true (dH J)),(eA J)⟩
   refine ag (by omega) ?_
   refine ⟨(at_+1),⟨rfl,rfl⟩,?_,?_⟩
   · try dsimp only
     exact ⟨by omega,by omega,by rw [aE.2.2];exact qS aE.1 J.1 J.2⟩
   try dsimp only
   omega
 replace J:((s.length:Int)≤at_)∨(f (I s at_)=false):=((eB J).imp (fun q=>(Int.not_lt.1 (of_decide_eq_false q))) (fun q=>q))
 refine bn rfl fun _=>cL U ?_
 show ab.int .i64 (ep f s a)=ab.int .i64 at_
 refine congrArg (ab.int .i64) ?_
 rw [aE.2.2];exact AS aE.1 (fun av=>by rcases J with J|J;(omega);exact J)
set_option maxHeartbeats 2000000 in
theorem Km (s:ar) (aw:s.length≤16777216) (m:ae) (K:ab→ae→Prop) (U:K (.tuple [.slice false ((c7 s).1.map bm), .int .i64 (c7 s).2.1, .err 115 (c7 s).2.2]) m):bh Tryz.prog 64 [.str s] m K:=by
 refine bh.pl ?_
 refine enter (c:=cT [] [] [12,24] [] [] []) (vs:=[.aI (.str s)]) (L:=[]) (m:=m) true b2 Tryz.mixed Tryz.func64 rfl (k:=1) (by show cO [] _ _ _=true;decide+kernel) rfl (Good.nil m) ?_
 refine aB ?_
 refine ag (fun J=>?_) (fun J=>?_)
 · refine bn rfl fun _=>?_
   show K (.tuple [.slice false [], .int .i64 0, .err 115 2]) m
   refine cL U ?_
   show ab.tuple [.slice false ((c7 s).1.map bm), .int .i64 (c7 s).2.1, .err 115 (c7 s).2.2]=ab.tuple [.slice false [], .int .i64 0, .err 115 2]
   rw [c7,if_pos J];rfl
 have fM:c7 s=hh (s.length+1) s 0 []:=by rw [c7,if_neg (by omega)]
 refine aB ?_
 refine cH (σ:=(List Tok)×Int) [] [0,5,6] 0 (fun ⟨out,at_⟩=>([(0,ay s),(5, .own (out.map bm)),(6,ax at_)],[],m)) (fun ⟨out,at_⟩=>0≤at_∧at_≤s.length∧(out.length:Int)≤at_∧∃n:Nat,s.length- at_<n∧hh (s.length+1) s 0 []=hh n s at_ out) (fun ⟨out,at_⟩=>s.length- at_.toNat) ([],0) ⟨rfl,rfl⟩ ?_ ?_
 · try dsimp only
   exact ⟨by omega,by omega,by simp,s.length+1,by omega,rfl⟩
 rintro ⟨out,at_⟩ aE
 dsimp only at aE
 obtain ⟨n,aM,aq⟩:=aE.2.2.2
 refine aB ?_
 refine ag (fun aa=>?_) (fun aa=>?_)
 · obtain ⟨n,rfl⟩:∃k,n=k+1:=⟨n- 1,by omega⟩
   refine ag (by omega) ?_
   refine cf [0,5,6,7] 47 ((((I s at_).toNat:Int)==32)||(((I s at_).toNat:Int)==10)) ?_ ?_
   · repeat' first
      |exact ⟨⟨_,rfl,by grind [bD.val]⟩,rfl⟩
      |refine ag (fun _=>?_) (fun _=>?_)
   refine ag (fun aj=>?_) (fun aj=>?_)
   · replace aj:(((I s at_).toNat:Int)=32)∨(((I s at_).toNat:Int)=10):=((dq aj).imp (fun q=>(eq_of_beq q)) (fun q=>(eq_of_beq q)))
     refine ag (by omega) ?_
     refine ⟨(out,at_+1),⟨rfl,rfl⟩,?_,?_⟩
     · try dsimp only
       exact ⟨by omega,by omega,by omega,n,by omega,by rw [aq,Kb aa aj]⟩
     try dsimp only
     omega
   replace aj:(((I s at_).toNat:Int)≠32)∧(((I s at_).toNat:Int)≠10):=⟨(ne_of_beq_false (cb aj)),(ne_of_beq_false (dp aj))⟩
   refine ag (fun aG=>?_) (fun aG=>?_)
   · have aA:=ys mN (s:=s) aE.1 (by omega)
     have bc:at_+1≤ep mN s at_:=by rw [qS aE.1 aa (by simp [mN];omega)];exact vz _ (by omega)
     refine cG (fun _=>EH s at_ 120 mN (by omega) (by omega) (by omega) (fun c m K U=>S0 c m K U)) rfl ?_
     refine ⟨(out,ep mN s at_),⟨rfl,rfl⟩,?_,?_⟩
     · try dsimp only
       exact ⟨by omega,by omega,by omega,n,by omega,by rw [aq,Kc aa aG]⟩
     try dsimp only
     omega
   refine cG (fun _=>J6 (I s at_)) rfl ?_
   refine ag (fun aR=>?_) (fun aR=>?_)
   · have aA:=ys jl (s:=s) aE.1 (by omega)
     have bc:at_+1≤ep jl s at_:=by rw [qS aE.1 aa (by simp [jl,aR])];exact vz _ (by omega)
     have aF:=Te aR
     refine cG (fun _=>EH s at_ 122 jl (by omega) (by omega) (by omega) (fun c m K U=>S1 c m K U)) rfl ?_
     refine aB ?_
     refine ag (by omega) ?_
     refine ag (fun bu=>?_) (fun bu=>?_)
     · refine bn rfl fun _=>?_
       show K (.tuple [.slice false [], .int .i64 at_, .err 115 1]) m
       refine cL U ?_
       show ab.tuple [.slice false ((c7 s).1.map bm), .int .i64 (c7 s).2.1, .err 115 (c7 s).2.2]=ab.tuple [.slice false [], .int .i64 at_, .err 115 1]
       rw [fM,aq,AY aa (by omega) aG (aF.trans (if_pos bu)) (by omega)];rfl
     refine ag (by dsimp only [Option.getD_some,Option.getD_none];omega) ?_
     refine ap bm out ([(⟨1,at_,sub s at_ (ep jl s at_)⟩:Tok)]:List Tok) rfl rfl (fun _=>⟨rfl,rfl⟩) (by (simp only [List.length_append,List.length_cons,List.length_nil];omega)) ?_
     refine ⟨(out++([(⟨1,at_,sub s at_ (ep jl s at_)⟩:Tok)]:List Tok),ep jl s at_),⟨rfl,rfl⟩,?_,?_⟩
     · try dsimp only
       exact ⟨by omega,by omega,by simp;omega,n,by omega,by rw [aq,AX aa (by omega) aG (aF.trans (if_neg (by omega)))]⟩
     try dsimp only
     omega
   refine cG (fun _=>EE (I s at_)) rfl ?_
   refine ag (fun cD=>?_) (fun cD=>?_)
   · have aA:=ys gg (s:=s) aE.1 (by omega)
     have bc:at_+1≤ep gg s at_:=by rw [qS aE.1 aa cD];exact vz _ (by omega)
     have aF:=Tf (by rw [aR];simp) cD
     refine cG (fun _=>EH s at_ 123 gg (by omega) (by omega) (by omega) (fun c m K U=>EE c m K U)) rfl ?_
     refine aB ?_
     refine cf [0,5,6,9] 103 ((decide (10<(ep gg s at_)- at_))||((((I s at_).toNat:Int)==48)&&(decide (1<(ep gg s at_)- at_)))) ?_ ?_
     · repeat' first
        |exact ⟨⟨_,rfl,by grind [bD.val]⟩,rfl⟩
        |refine ag (fun _=>?_) (fun _=>?_)
        |refine ag (by omega) ?_
     refine ag (fun cK=>?_) (fun cK=>?_)
     · replace cK:(10<(ep gg s at_)- at_)∨((((I s at_).toNat:Int)=48)∧(1<(ep gg s at_)- at_)):=((dq cK).imp (fun q=>(of_decide_eq_true q)) (fun q=>⟨(eq_of_beq (dH q)),(of_decide_eq_true (eA q))⟩))
       refine bn rfl fun _=>?_
       show K (.tuple [.slice false [], .int .i64 at_, .err 115 1]) m
       refine cL U ?_
       show ab.tuple [.slice false ((c7 s).1.map bm), .int .i64 (c7 s).2.1, .err 115 (c7 s).2.2]=ab.tuple [.slice false [], .int .i64 at_, .err 115 1]
       rw [fM,aq,AY aa (by omega) aG (aF.trans (if_pos (by omega))) (by omega)];rfl
     replace cK:((ep gg s at_)- at_≤10)∧((((I s at_).toNat:Int)≠48)∨((ep gg s at_)- at_≤1)):=⟨(Int.not_lt.1 (of_decide_eq_false (cb cK))),((eB (dp cK)).imp (fun q=>(ne_of_beq_false q)) (fun q=>(Int.not_lt.1 (of_decide_eq_false q))))⟩
     refine ag (by dsimp only [Option.getD_some,Option.getD_none];omega) ?_
     refine ap bm out ([(⟨2,at_,sub s at_ (ep gg s at_)⟩:Tok)]:List Tok) rfl rfl (fun _=>⟨rfl,rfl⟩) (by (simp only [List.length_append,List.length_cons,List.length_nil];omega)) ?_
     refine ⟨(out++([(⟨2,at_,sub s at_ (ep gg s at_)⟩:Tok)]:List Tok),ep gg s at_),⟨rfl,rfl⟩,?_,?_⟩
     · try dsimp only
       exact ⟨by omega,by omega,by simp;omega,n,by omega,by rw [aq,AX aa (by omega) aG (aF.trans (if_neg (by omega)))]⟩
     try dsimp only
     omega
   refine ag (fun cC=>?_) (fun cC=>?_)
   · have aU:=Kg s (at_+1) (by omega) []
     have aF:=Tg cC
     refine cG (fun _=>S9 s at_ (by omega) (by omega) (by omega)) rfl ?_
     refine aB ?_
     refine ag (fun eg=>?_) (fun eg=>?_)
     · have Xe:=aU.2 eg
       have az:eI s at_=(3,(fC s (at_+1) []).2.1,(fC s (at_+1) []).2.2,0):=by rw [aF,eg];rfl
       refine ap bm out ([(⟨3,at_,(fC s (at_+1) []).2.1⟩:Tok)]:List Tok) rfl rfl (fun _=>⟨rfl,rfl⟩) (by (simp only [List.length_append,List.length_cons,List.length_nil];omega)) ?_
       refine ⟨(out++([(⟨3,at_,(fC s (at_+1) []).2.1⟩:Tok)]:List Tok),(fC s (at_+1) []).2.2),⟨rfl,rfl⟩,?_,?_⟩
       · try dsimp only
         exact ⟨by omega,by omega,by simp;omega,n,by omega,by rw [aq,AX aa (by omega) aG az]⟩
       try dsimp only
       omega
     refine bn rfl fun _=>?_
     show K (.tuple [.slice false [], .int .i64 at_, .err 115 ((fC s (at_+1) []).1)]) m
     refine cL U ?_
     show ab.tuple [.slice false ((c7 s).1.map bm), .int .i64 (c7 s).2.1, .err 115 (c7 s).2.2]=ab.tuple [.slice false [], .int .i64 at_, .err 115 ((fC s (at_+1) []).1)]
     rw [fM,aq,AY aa (by omega) aG aF eg];rfl
   have aF:=Td aE.1 aa (by rw [aR];simp) (by rw [cD];simp) cC
   have Xf:=Th (sub s at_ s.length)
   refine ag (by dsimp only [Option.getD_some,Option.getD_none];omega) ?_
   refine cG (fun _=>S2 (sub s at_ (s.length:Int)) (by simp [sub];omega)) rfl ?_
   refine aB ?_
   refine ag (fun fJ=>?_) (fun fJ=>?_)
   · refine bn rfl fun _=>?_
     show K (.tuple [.slice false [], .int .i64 at_, .err 115 4]) m
     refine cL U ?_
     show ab.tuple [.slice false ((c7 s).1.map bm), .int .i64 (c7 s).2.1, .err 115 (c7 s).2.2]=ab.tuple [.slice false [], .int .i64 at_, .err 115 4]
     rw [fM,aq,AY aa (by omega) aG (aF.trans (if_pos fJ)) (by omega)];rfl
   have Xg:at_+jy (sub s at_ s.length)≤s.length:=by
    rcases aE.2.1 with aC
    exact Ti aE.1 aa
   refine ag (by omega) ?_
   refine ag (by dsimp only [Option.getD_some,Option.getD_none];omega) ?_
   refine ap bm out ([(⟨4,at_,sub s at_ (at_+(jy (sub s at_ (s.length:Int))))⟩:Tok)]:List Tok) rfl rfl (fun _=>⟨rfl,rfl⟩) (by (simp only [List.length_append,List.length_cons,List.length_nil];omega)) ?_
   refine ag (by omega) ?_
   refine ⟨(out++([(⟨4,at_,sub s at_ (at_+(jy (sub s at_ (s.length:Int))))⟩:Tok)]:List Tok),at_+(jy (sub s at_ (s.length:Int)))),⟨rfl,rfl⟩,?_,?_⟩
   · try dsimp only
     exact ⟨by omega,by omega,by simp;omega,n,by omega,by rw [aq,AX aa (by omega) aG (aF.trans (if_neg fJ))]⟩
   try dsimp only
   omega
 obtain ⟨n,rfl⟩:∃k,n=k+1:=⟨n- 1,by omega⟩
 refine bn rfl fun _=>?_
 show K (.tuple [.slice false (out.map bm), .int .i64 0, .err 115 0]) m
 refine cL U ?_
 show ab.tuple [.slice false ((c7 s).1.map bm), .int .i64 (c7 s).2.1, .err 115 (c7 s).2.2]=ab.tuple [.slice false (out.map bm), .int .i64 0, .err 115 0]
 rw [fM,aq,Ka aa]
end Go.Proofs
end
section
namespace Go.Proofs
open Go Go.bg Go.cz
set_option maxRecDepth 100000
theorem Tj (n:Nat) (s:List UInt8) (a:Int) (out:List Tok):0≤(hh n s a out).2.2:=by
 fun_induction hh n s a out<;>simp_all [Kh]
theorem AZ (s:List UInt8):0≤(c7 s).2.2:=by
 unfold c7;split
 · simp
 · exact Tj _ _ _ _
theorem Tk (n:Nat) (s:List UInt8) (a:Int) (out:List Tok):(hh n s a out).1.length≤out.length+n:=by
 fun_induction hh n s a out<;>simp_all<;>omega
theorem A0 (s:List UInt8):(c7 s).1.length≤4001:=by
 unfold c7;split
 · simp
 · have:=Tk (s.length+1) s 0 []
   simp at this;omega
structure bP (α:Type) where
 f:Int
 p:Int
 x:α
 a:Int
def bP.ok {α:Type} (x:α) (a:Int):bP α:=⟨0,0,x,a⟩
def bP.bad {α:Type} [Inhabited α] (f p:Int):bP α:=⟨f,p,default,0⟩
def bP.bind {α β:Type} [Inhabited β] (p:bP α) (g:α→Int→bP β):bP β:=if p.f=0 then g p.x p.a else .bad p.f p.p
structure Tl {α:Type} (p:bP α) (x:α) (a e q:Int):Prop where
 f:e=p.f
 y:e=0→x=p.x∧a=p.a
 z:e≠0→q=p.p
structure aX (l:List Tok) {α:Type} (p:bP α) (x:α) (a e q bZ bR cj:Int):Prop where
 ok:e=0→Tl p x bZ bR cj
 st:e≠0→bZ=a∧bR=e∧cj=q
 ba:a≤bZ
 ad:bZ≤l.length
 bB:0≤bR
 gt:bR=0→a<bZ
section
variable {l:List Tok} {α β:Type} {p:bP α} {x:α} {a e q ct aF cq a2 az bl:Int}
theorem aX.bind [Inhabited β] {g:α→Int→bP β} {y:β} (iZ:aX l p x a e q ct aF cq) (lT:aX l (g x ct) y ct aF cq a2 az bl):aX l (p.bind g) y a e q a2 az bl:=by
 refine ⟨fun he=>?_,fun he=>?_,Int.le_trans iZ.ba lT.ba,lT.ad,lT.bB,fun h=>?_⟩
 · have J:=iZ.ok he
   by_cases ak:aF=0
   · obtain ⟨rfl,rfl⟩:=J.y ak
     have:=lT.ok ak
     rw [bP.bind,if_pos (by rw [←J.f];exact ak)];exact this
   · obtain ⟨_,rfl,rfl⟩:=lT.st ak
     rw [bP.bind,if_neg (by rw [←J.f];exact ak)]
     exact ⟨J.f,fun h=>absurd h ak,fun _=>J.z ak⟩
 · obtain ⟨rfl,rfl,rfl⟩:=iZ.st he
   exact lT.st he
 · by_cases ak:aF=0
   · have:=iZ.gt ak;have:=lT.ba;omega
   · obtain ⟨_,rfl,_⟩:=lT.st ak;exact absurd h ak
theorem aX.map [Inhabited β] (f:α→β) (iZ:aX l p x a e q ct aF cq):aX l (p.bind fun s a=> .ok (f s) a) (f x) a e q ct aF cq:=by
 refine ⟨fun he=>?_,iZ.st,iZ.ba,iZ.ad,iZ.bB,iZ.gt⟩
 have J:=iZ.ok he
 by_cases ak:aF=0
 · obtain ⟨rfl,rfl⟩:=J.y ak
   rw [bP.bind,if_pos (by rw [←J.f];exact ak)]
   exact ⟨ak,fun _=>⟨rfl,rfl⟩,fun h=>absurd ak h⟩
 · rw [bP.bind,if_neg (by rw [←J.f];exact ak)]
   exact ⟨J.f,fun h=>absurd h ak,fun _=>J.z ak⟩
theorem aX.bad [Inhabited α] {f s:Int} (x:α) (aJ:a≤l.length) (J:e=0→az=f∧bl=s) (aa:e≠0→az=e∧bl=q) (aj:0<az):aX l (.bad f s:bP α) x a e q a az bl:=
 ⟨fun he=>⟨(J he).1,fun h=>by omega,fun _=>(J he).2⟩,fun he=>⟨rfl,aa he⟩,Int.le_refl _,aJ,by omega,fun h=>by omega⟩
theorem aX.one {x:α} (aJ:a<l.length) (he:e=0):aX l (.ok x (a+1):bP α) x a e q (a+1) e q:=
 ⟨fun he=>⟨he,fun _=>⟨rfl,rfl⟩,fun h=>absurd he h⟩,fun h=>absurd he h,by omega,by omega,by omega,fun _=>by omega⟩
theorem aX.from {b:Int} (he:e=0) (ah:b≤a) (iZ:aX l p x a e q ct aF cq):aX l p x b e q ct aF cq:=
 ⟨iZ.ok,fun h=>absurd he h,Int.le_trans ah iZ.ba,iZ.ad,iZ.bB,fun h=>by have:=iZ.gt h;omega⟩
end
abbrev bA (l:List Tok) (n a e q:Int):bT:= .cells [aH (l.map bm),ax a,ax n, .aI (.err 115 e),ax q]
abbrev b5 (l:List Tok) (n a e q:Int):bT:= .cells [aH (l.map bm),ax a,ax n,ax e,ax q]
def cp (l:List Tok) (n a:Int):Int:=if a<l.length then (I l a).2.1 else n
def bq (l:List Tok) (k:Int) (s:ar) (a:Int):Bool:=decide (a<l.length)&&((I l a).1==k)&&((s==[])||((I l a).2.2==s))
def jb (l:List Tok) (k:Int) (s:ar) (a e:Int):Bool:=(e==0)&&bq l k s a
theorem gm {l:List Tok} {k:Int} {s:ar} {a:Int} (h:bq l k s a=true):a<l.length:=by
 simp only [bq,Bool.and_eq_true,decide_eq_true_eq] at h;exact h.1.1
theorem o8 {l:List Tok} {k:Int} {s:ar} {a e:Int} (h:jb l k s a e=true):e=0∧bq l k s a=true:=by
 simpa [jb] using h
theorem pV {l:List Tok} {k:Int} {s:ar} {a e:Int} (h:jb l k s a e=false):e=0→bq l k s a=false:=by
 intro aa;subst aa;simpa [jb] using h
def b8 (l:List Tok) (n k:Int) (s:ar) (a:Int):bP ar:=if bq l k s a=true then .ok (I l a).2.2 (a+1) else .bad 5 (cp l n a)
def qU (l:List Tok) (n a:Int):bP (ar×ar):=
 (b8 l n 4 [46] a).bind fun _ a=>(b8 l n 1 [] a).bind fun s a=>(b8 l n 4 [46] a).bind fun _ a=>(b8 l n 1 [] a).bind fun t a=> .ok (s,t) a
theorem EI (l:List Tok) (n a e q:Int) (r:Nat) (av:l.length≤5000) (aJ:0≤a) (aT:a≤l.length) (m:ae) (gd:eC [r] m) (K:ab→ae→Prop) (U:K (.int .i64 (cp l n a)) (ae.aS m [(r, .cells [.slice false (l.map bm), .int .i64 a, .int .i64 n, .err 115 e, .int .i64 q])])):bh Tryz.prog 126 [.ptr ⟨r,0,none⟩] (ae.aS m [(r, .cells [.slice false (l.map bm), .int .i64 a, .int .i64 n, .err 115 e, .int .i64 q])]) K:=by
 refine enter (c:=cT [] [] [] [] [] [r]) (vs:=[.loc 0 0]) (L:=[bA l n a e q]) (m:=m) false b2 Tryz.mixed Tryz.func126 rfl (k:=1) (by show cO [] _ _ _=true;decide+kernel) rfl (gd.gZ rfl) ?_
 refine aB ?_
 refine bN ?_
 refine ag (fun J=>?_) (fun J=>?_)
 · refine cX (by omega) ?_
   refine rt rfl fun _=>cL U ?_
   show ab.int .i64 (cp l n a)=ab.int .i64 ((I l a).2.1)
   refine congrArg (ab.int .i64) ?_
   rw [cp,if_pos J]
 refine rt rfl fun _=>cL U ?_
 show ab.int .i64 (cp l n a)=ab.int .i64 n
 refine congrArg (ab.int .i64) ?_
 rw [cp,if_neg (by omega)]
theorem o9 (l:List Tok) (n a e q:Int) (f:Int) (r:Nat) (aZ:0<f) (av:l.length≤5000) (aJ:0≤a) (aT:a≤l.length) (he:0≤e) (m:ae) (gd:eC [r] m) (K:ab→ae→Prop) (gv:e=0→K (.tuple []) (ae.aS m [(r, .cells [.slice false (l.map bm), .int .i64 a, .int .i64 n, .err 115 f, .int .i64 (cp l n a)])])) (fq:e≠0→K (.tuple []) (ae.aS m [(r, .cells [.slice false (l.map bm), .int .i64 a, .int .i64 n, .err 115 e, .int .i64 q])])):bh Tryz.prog 66 [.ptr ⟨r,0,none⟩, .err 115 f] (ae.aS m [(r, .cells [.slice false (l.map bm), .int .i64 a, .int .i64 n, .err 115 e, .int .i64 q])]) K:=by
 refine enter (c:=cT [] [] [] [] [] [r]) (vs:=[.loc 0 0, .aI (.err 115 f)]) (L:=[bA l n a e q]) (m:=m) false b2 Tryz.mixed Tryz.func66 rfl (k:=2) (by show cO [] _ _ _=true;decide+kernel) rfl (gd.gZ rfl) ?_
 refine ag (fun J=>?_) (fun J=>?_)
 · refine dw [0] [bA l n a e q] (ax (cp l n a)) rfl (fun bs ai gd=>EI l n a e q (bs.getD 0 0) av (by omega) (by omega) ai gd) ?_
   refine rt rfl fun _=>?_
   show K (.tuple []) (ae.aS m [(r, .cells [.slice false (l.map bm), .int .i64 a, .int .i64 n, .err 115 f, .int .i64 (cp l n a)])])
   exact gv J
 refine rt rfl fun _=>?_
 show K (.tuple []) (ae.aS m [(r, .cells [.slice false (l.map bm), .int .i64 a, .int .i64 n, .err 115 e, .int .i64 q])])
 exact fq J
theorem vB (l:List Tok) (n a e q:Int) (k:Int) (s:ar) (r:Nat) (av:l.length≤5000) (aJ:0≤a) (aT:a≤l.length) (he:0≤e) (m:ae) (gd:eC [r] m) (K:ab→ae→Prop) (U:K (.bool (jb l k s a e)) (ae.aS m [(r, .cells [.slice false (l.map bm), .int .i64 a, .int .i64 n, .err 115 e, .int .i64 q])])):bh Tryz.prog 151 [.ptr ⟨r,0,none⟩, .int .i64 k, .str s] (ae.aS m [(r, .cells [.slice false (l.map bm), .int .i64 a, .int .i64 n, .err 115 e, .int .i64 q])]) K:=by
 refine enter (c:=cT [] [] [1] [] [] [r]) (vs:=[.loc 0 0, .aI (.int .i64 k), .aI (.str s)]) (L:=[bA l n a e q]) (m:=m) false b2 Tryz.mixed Tryz.func151 rfl (k:=3) (by show cO [] _ _ _=true;decide+kernel) rfl (gd.gZ rfl) ?_
 refine cf [] 6 ((((e==0)&&(decide (a<(l.length:Int))))&&(((I l a).1)==k))&&((s==([]))||(((I l a).2.2)==s))) ?_ ?_
 · repeat' first
    |exact ⟨⟨_,rfl,by grind [bD.val]⟩,rfl⟩
    |refine ag (fun _=>?_) (fun _=>?_)
    |refine bN ?_
    |refine cX (by omega) ?_
 refine rt rfl fun _=>cL U ?_
 show ab.bool (jb l k s a e)=ab.bool ((((e==0)&&(decide (a<(l.length:Int))))&&(((I l a).1)==k))&&((s==([]))||(((I l a).2.2)==s)))
 refine congrArg ab.bool ?_
 grind [jb,bq]
theorem iC (l:List Tok) (n a e q:Int) (k:Int) (s:ar) (r:Nat) (av:l.length≤5000) (aJ:0≤a) (aT:a≤l.length) (he:0≤e) (m:ae) (gd:eC [r] m) (K:ab→ae→Prop) (gv:e=0→bq l k s a=true→K (.bool true) (ae.aS m [(r, .cells [.slice false (l.map bm), .int .i64 (a+1), .int .i64 n, .err 115 e, .int .i64 q])])) (fq:(e=0→bq l k s a=false)→K (.bool false) (ae.aS m [(r, .cells [.slice false (l.map bm), .int .i64 a, .int .i64 n, .err 115 e, .int .i64 q])])):bh Tryz.prog 176 [.ptr ⟨r,0,none⟩, .int .i64 k, .str s] (ae.aS m [(r, .cells [.slice false (l.map bm), .int .i64 a, .int .i64 n, .err 115 e, .int .i64 q])]) K:=by
 refine enter (c:=cT [] [] [] [] [] [r]) (vs:=[.loc 0 0, .aI (.int .i64 k), .aI (.str s)]) (L:=[bA l n a e q]) (m:=m) false b2 Tryz.mixed Tryz.func176 rfl (k:=3) (by show cO [] _ _ _=true;decide+kernel) rfl (gd.gZ rfl) ?_
 refine aB ?_
 refine dw [0] [bA l n a e q] (jx (jb l k s a e)) rfl (fun bs ai gd=>vB l n a e q k s (bs.getD 0 0) av (by omega) (by omega) (by omega) ai gd) ?_
 refine ag (fun J=>?_) (fun J=>?_)
 · have aD:=o8 J
   have cl:=gm aD.2
   refine ag (by omega) ?_
   refine rt rfl fun _=>?_
   show K (.bool true) (ae.aS m [(r, .cells [.slice false (l.map bm), .int .i64 (a+1), .int .i64 n, .err 115 e, .int .i64 q])])
   exact gv aD.1 aD.2
 refine rt rfl fun _=>?_
 show K (.bool false) (ae.aS m [(r, .cells [.slice false (l.map bm), .int .i64 a, .int .i64 n, .err 115 e, .int .i64 q])])
 exact fq (pV J)
theorem jz (l:List Tok) (n a e q:Int) (k:Int) (s:ar) (r:Nat) (av:l.length≤5000) (aJ:0≤a) (aT:a≤l.length) (he:0≤e) (m:ae) (gd:eC [r] m) (K:ab→ae→Prop) (U:∀hJ bZ bR cj,aX l (b8 l n k s a) hJ a e q bZ bR cj→(bR≠0→hJ=[])→K (.str hJ) (ae.aS m [(r, .cells [.slice false (l.map bm), .int .i64 bZ, .int .i64 n, .err 115 bR, .int .i64 cj])])):bh Tryz.prog 149 [.ptr ⟨r,0,none⟩, .int .i64 k, .str s] (ae.aS m [(r, .cells [.slice false (l.map bm), .int .i64 a, .int .i64 n, .err 115 e, .int .i64 q])]) K:=by
 refine enter (c:=cT [] [] [] [] [] [r]) (vs:=[.loc 0 0, .aI (.int .i64 k), .aI (.str s)]) (L:=[bA l n a e q]) (m:=m) false b2 Tryz.mixed Tryz.func149 rfl (k:=3) (by show cO [] _ _ _=true;decide+kernel) rfl (gd.gZ rfl) ?_
 refine aB ?_
 refine bx 115 [0] (σ:=(Unit) ⊕ (Unit)) (Sum.elim (fun _=>e=0∧bq l k s a=true) (fun _=>e=0→bq l k s a=false)) (Sum.elim (fun _=> .b (.lit true)) (fun _=> .b (.lit false))) (Sum.elim (fun _=>[bA l n (a+1) e q]) (fun _=>[bA l n a e q])) rfl (fun x=>by rcases x with _|_<;>rfl) (fun bs ai gd aq K U=>iC l n a e q k s (bs.getD 0 0) av (by omega) (by omega) (by omega) ai gd K (fun z w=>U (.inl ()) ⟨z,w⟩) (fun z=>U (.inr ()) z)) ?_
 rintro (_|_) bp
 · try dsimp only [Sum.elim_inl,Sum.elim_inr] at bp
   dsimp only [Sum.elim_inl,Sum.elim_inr]
   have vC:=gm bp.2
   refine ag (by omega) ?_
   refine cX (by omega) ?_
   refine rt rfl fun _=>?_
   show K (.str ((I l ((a+1)- 1)).2.2)) (ae.aS m [(r, .cells [.slice false (l.map bm), .int .i64 (a+1), .int .i64 n, .err 115 e, .int .i64 q])])
   rw [show a+1- 1=a by omega]
   refine U _ _ _ _ ⟨fun _=>?_,fun z=>absurd bp.1 z,by omega,by omega,he,by omega⟩ fun z=>absurd bp.1 z
   constructor<;>grind [b8,bP.ok]
 try dsimp only [Sum.elim_inl,Sum.elim_inr] at bp
 dsimp only [Sum.elim_inl,Sum.elim_inr]
 refine bx 115 [0] (σ:=Int×Int) (fun ⟨b3,cg⟩=>(e=0→b3=5∧cg=cp l n a)∧(e≠0→b3=e∧cg=q)∧0<b3) (fun ⟨b3,cg⟩=> .da []) (fun ⟨b3,cg⟩=>[bA l n a b3 cg]) rfl (fun _=>rfl) (fun bs ai gd aq K U=>o9 l n a e q 5 (bs.getD 0 0) (by decide) av (by omega) (by omega) (by omega) ai gd K (fun z=>U (5,cp l n a) ⟨fun _=>⟨rfl,rfl⟩,fun y=>absurd z y,by decide⟩) (fun z=>U (e,q) ⟨fun y=>absurd y z,fun _=>⟨rfl,rfl⟩,by omega⟩)) ?_
 rintro ⟨b3,cg⟩ cx
 dsimp only at cx
 obtain ⟨tu,tv,A1⟩:=cx
 refine rt rfl fun _=>?_
 show K (.str ([])) (ae.aS m [(r, .cells [.slice false (l.map bm), .int .i64 a, .int .i64 n, .err 115 b3, .int .i64 cg])])
 refine U _ _ _ _ ⟨fun z=>?_,fun z=>⟨rfl,tv z⟩,by omega,by omega,by omega,by omega⟩ fun _=>rfl
 have bp:=bp z
 constructor<;>grind [b8,bP.bad]
theorem EJ (l:List Tok) (n a e q:Int) (r:Nat) (av:l.length≤5000) (aJ:0≤a) (aT:a≤l.length) (m:ae) (gd:eC [r] m) (K:ab→ae→Prop) (U:K (.int .i64 (cp l n a)) (ae.aS m [(r, .cells [.slice false (l.map bm), .int .i64 a, .int .i64 n, .int .i64 e, .int .i64 q])])):bh Tryz.prog 129 [.ptr ⟨r,0,none⟩] (ae.aS m [(r, .cells [.slice false (l.map bm), .int .i64 a, .int .i64 n, .int .i64 e, .int .i64 q])]) K:=by
 refine enter (c:=cT [] [] [] [] [] [r]) (vs:=[.loc 0 0]) (L:=[b5 l n a e q]) (m:=m) false b2 Tryz.mixed Tryz.func129 rfl (k:=1) (by show cO [] _ _ _=true;decide+kernel) rfl (gd.gZ rfl) ?_
 refine aB ?_
 refine bN ?_
 refine ag (fun J=>?_) (fun J=>?_)
 · refine cX (by omega) ?_
   refine rt rfl fun _=>cL U ?_
   show ab.int .i64 (cp l n a)=ab.int .i64 ((I l a).2.1)
   refine congrArg (ab.int .i64) ?_
   rw [cp,if_pos J]
 refine rt rfl fun _=>cL U ?_
 show ab.int .i64 (cp l n a)=ab.int .i64 n
 refine congrArg (ab.int .i64) ?_
 rw [cp,if_neg (by omega)]
theorem mO (l:List Tok) (n a e q:Int) (f:Int) (r:Nat) (aZ:0<f) (av:l.length≤5000) (aJ:0≤a) (aT:a≤l.length) (he:0≤e) (m:ae) (gd:eC [r] m) (K:ab→ae→Prop) (gv:e=0→K (.tuple []) (ae.aS m [(r, .cells [.slice false (l.map bm), .int .i64 a, .int .i64 n, .int .i64 f, .int .i64 (cp l n a)])])) (fq:e≠0→K (.tuple []) (ae.aS m [(r, .cells [.slice false (l.map bm), .int .i64 a, .int .i64 n, .int .i64 e, .int .i64 q])])):bh Tryz.prog 69 [.ptr ⟨r,0,none⟩, .int .i64 f] (ae.aS m [(r, .cells [.slice false (l.map bm), .int .i64 a, .int .i64 n, .int .i64 e, .int .i64 q])]) K:=by
 refine enter (c:=cT [] [] [] [] [] [r]) (vs:=[.loc 0 0, .aI (.int .i64 f)]) (L:=[b5 l n a e q]) (m:=m) false b2 Tryz.mixed Tryz.func69 rfl (k:=2) (by show cO [] _ _ _=true;decide+kernel) rfl (gd.gZ rfl) ?_
 refine ag (fun J=>?_) (fun J=>?_)
 · refine dw [0] [b5 l n a f q] (ax (cp l n a)) rfl (fun bs ai gd=>EJ l n a f q (bs.getD 0 0) av (by omega) (by omega) ai gd) ?_
   refine rt rfl fun _=>?_
   show K (.tuple []) (ae.aS m [(r, .cells [.slice false (l.map bm), .int .i64 a, .int .i64 n, .int .i64 f, .int .i64 (cp l n a)])])
   exact gv J
 refine rt rfl fun _=>?_
 show K (.tuple []) (ae.aS m [(r, .cells [.slice false (l.map bm), .int .i64 a, .int .i64 n, .int .i64 e, .int .i64 q])])
 exact fq J
theorem EK (l:List Tok) (n a e q:Int) (k:Int) (s:ar) (r:Nat) (av:l.length≤5000) (aJ:0≤a) (aT:a≤l.length) (he:0≤e) (m:ae) (gd:eC [r] m) (K:ab→ae→Prop) (U:K (.bool (jb l k s a e)) (ae.aS m [(r, .cells [.slice false (l.map bm), .int .i64 a, .int .i64 n, .int .i64 e, .int .i64 q])])):bh Tryz.prog 198 [.ptr ⟨r,0,none⟩, .int .i64 k, .str s] (ae.aS m [(r, .cells [.slice false (l.map bm), .int .i64 a, .int .i64 n, .int .i64 e, .int .i64 q])]) K:=by
 refine enter (c:=cT [] [] [1,4] [3999] [3] [r]) (vs:=[.loc 0 0, .aI (.int .i64 k), .aI (.str s)]) (L:=[b5 l n a e q]) (m:=m) false b2 Tryz.mixed Tryz.func198 rfl (k:=3) (by show cO [3999] _ _ _=true;decide+kernel) rfl (gd.gZ rfl) ?_
 refine aB ?_
 refine cf [0,1,2] 24 ((decide (0<e))||(decide ((l.length:Int)≤a))) ?_ ?_
 · repeat' first
    |exact ⟨⟨_,rfl,by grind [bD.val]⟩,rfl⟩
    |refine ag (fun _=>?_) (fun _=>?_)
    |refine bN ?_
 refine ag (fun J=>?_) (fun J=>?_)
 · replace J:(0<e)∨((l.length:Int)≤a):=((dq J).imp (fun q=>(of_decide_eq_true q)) (fun q=>(of_decide_eq_true q)))
   refine rt rfl fun _=>cL U ?_
   show ab.bool (jb l k s a e)=ab.bool false
   refine congrArg ab.bool ?_
   grind [jb,bq]
 replace J:(e≤0)∧(a<(l.length:Int)):=⟨(Int.not_lt.1 (of_decide_eq_false (cb J))),(Int.not_le.1 (of_decide_eq_false (dp J)))⟩
 refine hS b2 Tryz.mixed (σ:=Unit) (.f 0 (.f 1 (.f 2 (.f 4 (.f 5 (.f 6 (.o 3 (.o 7 (.o 8 (.o 9 (.s 10 (.s 11 .d)) (.o 10 (.s 9 (.s 11 .d)) .z)) (.o 10 (.s 8 (.s 9 (.s 11 .d))) .z)) (.o 10 (.s 7 (.s 8 (.s 9 (.s 11 .d)))) .z)) (.o 7 (.o 3 (.o 8 (.o 9 (.s 10 (.s 11 .d)) (.o 10 (.s 9 (.s 11 .d)) .z)) (.o 10 (.s 8 (.s 9 (.s 11 .d))) .z)) (.o 10 (.s 3 (.s 8 (.s 9 (.s 11 .d)))) .z)) (.o 10 (.o 3 (.s 7 (.s 8 (.s 9 (.s 11 .d)))) (.o 7 (.s 3 (.s 8 (.s 9 (.s 11 .d)))) .z)) .z))))))))) [] [1,2,7] 2 (fun _=>([(1,ax k),(2,ay s),(7, .loc 1 0)],[b5 l n a e q, .cells [ax ((I l a).1),ax ((I l a).2.1),ay ((I l a).2.2)]],m)) (fun _=>True) (by decide+kernel) ?_ ?_
 · rintro _ Tm
   try dsimp only at Tm
   refine cf [] 6 ((((I l a).1)==k)&&((s==([]))||(((I l a).2.2)==s))) ?_ ?_
   · repeat' first
      |exact ⟨⟨_,rfl,by grind [bD.val]⟩,rfl⟩
      |refine ag (fun _=>?_) (fun _=>?_)
   refine rt rfl fun _=>cL U ?_
   show ab.bool (jb l k s a e)=ab.bool ((((I l a).1)==k)&&((s==([]))||(((I l a).2.2)==s)))
   refine congrArg ab.bool ?_
   grind [jb,bq]
 repeat' first
  |refine ⟨(),⟨rfl,rfl⟩,trivial⟩
  |refine cX (by omega) ?_
  |refine ⟨?_,?_,?_,trivial⟩
  |refine ⟨?_,?_,trivial⟩
theorem tw (l:List Tok) (n a e q:Int) (k:Int) (s:ar) (r:Nat) (av:l.length≤5000) (aJ:0≤a) (aT:a≤l.length) (he:0≤e) (m:ae) (gd:eC [r] m) (K:ab→ae→Prop) (gv:e=0→bq l k s a=true→K (.bool true) (ae.aS m [(r, .cells [.slice false (l.map bm), .int .i64 (a+1), .int .i64 n, .int .i64 e, .int .i64 q])])) (fq:(e=0→bq l k s a=false)→K (.bool false) (ae.aS m [(r, .cells [.slice false (l.map bm), .int .i64 a, .int .i64 n, .int .i64 e, .int .i64 q])])):bh Tryz.prog 156 [.ptr ⟨r,0,none⟩, .int .i64 k, .str s] (ae.aS m [(r, .cells [.slice false (l.map bm), .int .i64 a, .int .i64 n, .int .i64 e, .int .i64 q])]) K:=by
 refine enter (c:=cT [] [] [] [] [] [r]) (vs:=[.loc 0 0, .aI (.int .i64 k), .aI (.str s)]) (L:=[b5 l n a e q]) (m:=m) false b2 Tryz.mixed Tryz.func156 rfl (k:=3) (by show cO [] _ _ _=true;decide+kernel) rfl (gd.gZ rfl) ?_
 refine dw [0] [b5 l n a e q] (jx (jb l k s a e)) rfl (fun bs ai gd=>EK l n a e q k s (bs.getD 0 0) av (by omega) (by omega) (by omega) ai gd) ?_
 refine aB ?_
 refine ag (fun J=>?_) (fun J=>?_)
 · have aD:=o8 J
   have cl:=gm aD.2
   refine ag (by omega) ?_
   refine rt rfl fun _=>?_
   show K (.bool (jb l k s a e)) (ae.aS m [(r, .cells [.slice false (l.map bm), .int .i64 (a+1), .int .i64 n, .int .i64 e, .int .i64 q])])
   rw [J]
   exact gv aD.1 aD.2
 refine rt rfl fun _=>?_
 show K (.bool (jb l k s a e)) (ae.aS m [(r, .cells [.slice false (l.map bm), .int .i64 a, .int .i64 n, .int .i64 e, .int .i64 q])])
 rw [J]
 exact fq (pV J)
theorem gO (l:List Tok) (n a e q:Int) (k:Int) (s:ar) (r:Nat) (av:l.length≤5000) (aJ:0≤a) (aT:a≤l.length) (he:0≤e) (m:ae) (gd:eC [r] m) (K:ab→ae→Prop) (U:∀hJ bZ bR cj,aX l (b8 l n k s a) hJ a e q bZ bR cj→(bR≠0→hJ=[])→K (.str hJ) (ae.aS m [(r, .cells [.slice false (l.map bm), .int .i64 bZ, .int .i64 n, .int .i64 bR, .int .i64 cj])])):bh Tryz.prog 154 [.ptr ⟨r,0,none⟩, .int .i64 k, .str s] (ae.aS m [(r, .cells [.slice false (l.map bm), .int .i64 a, .int .i64 n, .int .i64 e, .int .i64 q])]) K:=by
 refine enter (c:=cT [] [] [] [] [] [r]) (vs:=[.loc 0 0, .aI (.int .i64 k), .aI (.str s)]) (L:=[b5 l n a e q]) (m:=m) false b2 Tryz.mixed Tryz.func154 rfl (k:=3) (by show cO [] _ _ _=true;decide+kernel) rfl (gd.gZ rfl) ?_
 refine bx 115 [0] (σ:=(Unit) ⊕ (Unit)) (Sum.elim (fun _=>e=0∧bq l k s a=true) (fun _=>e=0→bq l k s a=false)) (Sum.elim (fun _=> .b (.lit true)) (fun _=> .b (.lit false))) (Sum.elim (fun _=>[b5 l n (a+1) e q]) (fun _=>[b5 l n a e q])) rfl (fun x=>by rcases x with _|_<;>rfl) (fun bs ai gd aq K U=>tw l n a e q k s (bs.getD 0 0) av (by omega) (by omega) (by omega) ai gd K (fun z w=>U (.inl ()) ⟨z,w⟩) (fun z=>U (.inr ()) z)) ?_
 rintro (_|_) bp
 · try dsimp only [Sum.elim_inl,Sum.elim_inr] at bp
   dsimp only [Sum.elim_inl,Sum.elim_inr]
   have vC:=gm bp.2
   refine aB ?_
   refine ag (by omega) ?_
   refine cX (by omega) ?_
   refine rt rfl fun _=>?_
   show K (.str ((I l ((a+1)- 1)).2.2)) (ae.aS m [(r, .cells [.slice false (l.map bm), .int .i64 (a+1), .int .i64 n, .int .i64 e, .int .i64 q])])
   rw [show a+1- 1=a by omega]
   refine U _ _ _ _ ⟨fun _=>?_,fun z=>absurd bp.1 z,by omega,by omega,he,by omega⟩ fun z=>absurd bp.1 z
   constructor<;>grind [b8,bP.ok]
 try dsimp only [Sum.elim_inl,Sum.elim_inr] at bp
 dsimp only [Sum.elim_inl,Sum.elim_inr]
 refine aB ?_
 refine bx 115 [0] (σ:=Int×Int) (fun ⟨b3,cg⟩=>(e=0→b3=5∧cg=cp l n a)∧(e≠0→b3=e∧cg=q)∧0<b3) (fun ⟨b3,cg⟩=> .da []) (fun ⟨b3,cg⟩=>[b5 l n a b3 cg]) rfl (fun _=>rfl) (fun bs ai gd aq K U=>mO l n a e q 5 (bs.getD 0 0) (by decide) av (by omega) (by omega) (by omega) ai gd K (fun z=>U (5,cp l n a) ⟨fun _=>⟨rfl,rfl⟩,fun y=>absurd z y,by decide⟩) (fun z=>U (e,q) ⟨fun y=>absurd y z,fun _=>⟨rfl,rfl⟩,by omega⟩)) ?_
 rintro ⟨b3,cg⟩ cx
 dsimp only at cx
 obtain ⟨tu,tv,A1⟩:=cx
 refine rt rfl fun _=>?_
 show K (.str ([])) (ae.aS m [(r, .cells [.slice false (l.map bm), .int .i64 a, .int .i64 n, .int .i64 b3, .int .i64 cg])])
 refine U _ _ _ _ ⟨fun z=>?_,fun z=>⟨rfl,tv z⟩,by omega,by omega,by omega,by omega⟩ fun _=>rfl
 have bp:=bp z
 constructor<;>grind [b8,bP.bad]
theorem pb (l:List Tok) (n a e q:Int) (r:Nat) (av:l.length≤5000) (aJ:0≤a) (aT:a≤l.length) (he:0≤e) (m:ae) (gd:eC [r] m) (K:ab→ae→Prop) (U:∀hJ bZ bR cj,aX l (b8 l n 1 [] a) hJ a e q bZ bR cj→K (.str hJ) (ae.aS m [(r, .cells [.slice false (l.map bm), .int .i64 bZ, .int .i64 n, .err 115 bR, .int .i64 cj])])):bh Tryz.prog 150 [.ptr ⟨r,0,none⟩] (ae.aS m [(r, .cells [.slice false (l.map bm), .int .i64 a, .int .i64 n, .err 115 e, .int .i64 q])]) K:=by
 refine enter (c:=cT [] [] [] [] [] [r]) (vs:=[.loc 0 0]) (L:=[bA l n a e q]) (m:=m) false b2 Tryz.mixed Tryz.func150 rfl (k:=1) (by show cO [] _ _ _=true;decide+kernel) rfl (gd.gZ rfl) ?_
 refine bx 115 [0] (σ:=ar×Int×Int×Int) (fun ⟨dA,bO,bb,bo⟩=>(aX l (b8 l n 1 ([]) a) dA a e q bO bb bo)∧(bb≠0→dA=[])) (fun ⟨dA,bO,bb,bo⟩=>ay dA) (fun ⟨dA,bO,bb,bo⟩=>[bA l n bO bb bo]) rfl (fun _=>rfl) (fun bs ai gd aq K U=>jz l n a e q 1 ([]) (bs.getD 0 0) av (by omega) (by omega) (by omega) ai gd K (fun bQ a8 a1 a6 aC ak=>U (bQ,a8,a1,a6) ⟨aC,ak⟩)) ?_
 rintro ⟨dA,bO,bb,bo⟩ bp
 dsimp only at bp
 obtain ⟨bp,px⟩:=bp
 have pW:=bp.ba
 have mz:=bp.ad
 have pX:=bp.bB
 refine rt rfl fun _=>?_
 show K (.str dA) (ae.aS m [(r, .cells [.slice false (l.map bm), .int .i64 bO, .int .i64 n, .err 115 bb, .int .i64 bo])])
 exact U _ _ _ _ bp
theorem Kn (l:List Tok) (n a e q:Int) (r:Nat) (av:l.length≤5000) (aJ:0≤a) (aT:a≤l.length) (he:0≤e) (m:ae) (gd:eC [r] m) (K:ab→ae→Prop) (U:∀hJ iV bZ bR cj,aX l (qU l n a) (hJ,iV) a e q bZ bR cj→K (.tuple [.str hJ, .str iV]) (ae.aS m [(r, .cells [.slice false (l.map bm), .int .i64 bZ, .int .i64 n, .err 115 bR, .int .i64 cj])])):bh Tryz.prog 214 [.ptr ⟨r,0,none⟩] (ae.aS m [(r, .cells [.slice false (l.map bm), .int .i64 a, .int .i64 n, .err 115 e, .int .i64 q])]) K:=by
 refine enter (c:=cT [] [] [] [] [] [r]) (vs:=[.loc 0 0]) (L:=[bA l n a e q]) (m:=m) false b2 Tryz.mixed Tryz.func214 rfl (k:=1) (by show cO [] _ _ _=true;decide+kernel) rfl (gd.gZ rfl) ?_
 refine bx 115 [0] (σ:=ar×Int×Int×Int) (fun ⟨dA,bO,bb,bo⟩=>(aX l (b8 l n 4 ([46]:List UInt8) a) dA a e q bO bb bo)∧(bb≠0→dA=[])) (fun ⟨dA,bO,bb,bo⟩=>ay dA) (fun ⟨dA,bO,bb,bo⟩=>[bA l n bO bb bo]) rfl (fun _=>rfl) (fun bs ai gd aq K U=>jz l n a e q 4 ([46]:List UInt8) (bs.getD 0 0) av (by omega) (by omega) (by omega) ai gd K (fun bQ a8 a1 a6 aC ak=>U (bQ,a8,a1,a6) ⟨aC,ak⟩)) ?_
 rintro ⟨dA,bO,bb,bo⟩ bp
 dsimp only at bp
 obtain ⟨bp,px⟩:=bp
 have pW:=bp.ba
 have mz:=bp.ad
 have pX:=bp.bB
 refine bx 115 [0] (σ:=ar×Int×Int×Int) (fun ⟨db,dj,b3,cg⟩=>aX l (b8 l n 1 [] bO) db bO bb bo dj b3 cg) (fun ⟨db,dj,b3,cg⟩=>ay db) (fun ⟨db,dj,b3,cg⟩=>[bA l n dj b3 cg]) rfl (fun _=>rfl) (fun bs ai gd aq K U=>pb l n bO bb bo (bs.getD 0 0) av (by omega) (by omega) (by omega) ai gd K (fun bQ a8 a1 a6 aC=>U (bQ,a8,a1,a6) aC)) ?_
 rintro ⟨db,dj,b3,cg⟩ cx
 dsimp only at cx
 have qV:=cx.ba
 have ig:=cx.ad
 have qW:=cx.bB
 refine bx 115 [0] (σ:=ar×Int×Int×Int) (fun ⟨h7,fs,dX,er⟩=>(aX l (b8 l n 4 ([46]:List UInt8) dj) h7 dj b3 cg fs dX er)∧(dX≠0→h7=[])) (fun ⟨h7,fs,dX,er⟩=>ay h7) (fun ⟨h7,fs,dX,er⟩=>[bA l n fs dX er]) rfl (fun _=>rfl) (fun bs ai gd aq K U=>jz l n dj b3 cg 4 ([46]:List UInt8) (bs.getD 0 0) av (by omega) (by omega) (by omega) ai gd K (fun bQ a8 a1 a6 aC ak=>U (bQ,a8,a1,a6) ⟨aC,ak⟩)) ?_
 rintro ⟨h7,fs,dX,er⟩ cP
 dsimp only at cP
 obtain ⟨cP,n3⟩:=cP
 have yu:=cP.ba
 have yv:=cP.ad
 have tx:=cP.bB
 refine bx 115 [0] (σ:=ar×Int×Int×Int) (fun ⟨fH,c8,de,dM⟩=>aX l (b8 l n 1 [] fs) fH fs dX er c8 de dM) (fun ⟨fH,c8,de,dM⟩=>ay fH) (fun ⟨fH,c8,de,dM⟩=>[bA l n c8 de dM]) rfl (fun _=>rfl) (fun bs ai gd aq K U=>pb l n fs dX er (bs.getD 0 0) av (by omega) (by omega) (by omega) ai gd K (fun bQ a8 a1 a6 aC=>U (bQ,a8,a1,a6) aC)) ?_
 rintro ⟨fH,c8,de,dM⟩ dd
 dsimp only at dd
 have vD:=dd.ba
 have vE:=dd.ad
 have vF:=dd.bB
 refine rt rfl fun _=>?_
 show K (.tuple [.str db, .str fH]) (ae.aS m [(r, .cells [.slice false (l.map bm), .int .i64 c8, .int .i64 n, .err 115 de, .int .i64 dM])])
 exact U _ _ _ _ _ (bp.bind (cx.bind (cP.bind (dd.map fun t=>(db,t)))))
end Go.Proofs
end
section
namespace Go.Proofs
open Go Go.bg Go.cz
set_option maxRecDepth 100000
inductive au where
 |mk (kind:Int) (v:aW) (s t:ar) (a:List au) (n:List ar)
instance:Inhabited au:=⟨.mk 0 dB [] [] [] []⟩
def au.kind:au→Int| .mk k _ _ _ _ _=>k
def au.v:au→aW| .mk _ v _ _ _ _=>v
def au.s:au→ar| .mk _ _ s _ _ _=>s
def au.t:au→ar| .mk _ _ _ t _ _=>t
def au.a:au→List au| .mk _ _ _ _ a _=>a
def au.n:au→List ar| .mk _ _ _ _ _ n=>n
mutual
def bY:au→ab
 | .mk k v s t a n=> .agg [.int .i64 k, .int .i64 v.kind, .int .i64 v.n, .str v.s, .slice false (v.l.map cn), .slice false (v.f.map cB), .str s, .str t, .slice false (A2 a), .slice false (n.map cm)]
def A2:List au→List ab
 |[]=>[]
 |e::r=>bY e::A2 r
end
theorem Tn (l:List au):A2 l=l.map bY:=by
 induction l with
 |nil=>rfl
 |cons v r aO=>simp only [A2,List.map_cons,aO]
def bU (e:au):ab:= .agg [.int .i64 e.kind, .int .i64 e.v.kind, .int .i64 e.v.n, .str e.v.s, .slice false (e.v.l.map cn), .slice false (e.v.f.map cB), .str e.s, .str e.t, .slice false (e.a.map bY), .slice false (e.n.map cm)]
theorem cy (e:au):bY e=bU e:=by
 cases e with
 |mk k v s t a n=>simp only [bY,bU,Tn,au.kind,au.v,au.s,au.t,au.a,au.n]
mutual
def cZ:au→Nat
 | .mk _ _ _ _ a _=>im a+1
def im:List au→Nat
 |[]=>0
 |e::r=>cZ e+im r
end
theorem To {l:List au} {e:au} (h:e∈l):cZ e≤im l:=by
 induction l with
 |nil=>cases h
 |cons a r aO=>
  simp only [im]
  rcases List.mem_cons.1 h with rfl|h
  · omega
  · have:=aO h;omega
theorem tz (e:au):cZ e=im e.a+1:=by
 cases e with
 |mk k v s t a n=>simp only [cZ,au.a]
theorem iq {e x:au} (h:x∈e.a):cZ x<cZ e:=by
 have:=To h
 rw [tz e];omega
def nH (cd:Int):List ar→Int→Int
 |[],n=>n
 |s::r,n=>if n≤cd then nH cd r (IntKind.i64.wrap (n+s.length)) else n
mutual
def ot (cd:Int):au→Int
 | .mk _ v s t a cw=>pc cd a (nH cd cw (IntKind.i64.wrap (IntKind.i64.wrap (1+s.length+t.length+lo cd v)+cw.length)))
def pc (cd:Int):List au→Int→Int
 |[],n=>n
 |e::r,n=>if n≤cd then pc cd r (IntKind.i64.wrap (n+ot cd e)) else n
end
def EL (cd:Int) (e:au):Int:=IntKind.i64.wrap (IntKind.i64.wrap (1+e.s.length+e.t.length+lo cd e.v)+e.n.length)
theorem Tp (cd:Int) (e:au):ot cd e=pc cd e.a (nH cd e.n (EL cd e)):=by
 cases e with
 |mk k v s t a n=>simp only [ot,EL,au.a,au.n,au.s,au.t,au.v]
theorem Tq (cd:Int) (l:List au) (n:Int) (h:cd<n):pc cd l n=n:=by
 cases l with
 |nil=>simp only [pc]
 |cons v r=>simp only [pc];rw [if_neg (by omega)]
theorem Tr (cd:Int) (l:List ar) (n:Int) (h:cd<n):nH cd l n=n:=by
 cases l with
 |nil=>simp only [nH]
 |cons v r=>simp only [nH];rw [if_neg (by omega)]
theorem Ts {cd:Int} {l:List ar} {i n:Int} (aJ:0≤i) (ad:i<l.length) (aM:n≤cd):nH cd (l.drop i.toNat) n=nH cd (l.drop (i+1).toNat) (IntKind.i64.wrap (n+(I l i).length)):=by
 rw [jQ aJ ad,nH,if_pos aM]
theorem Tt {cd:Int} {l:List au} {i n:Int} (aJ:0≤i) (ad:i<l.length) (aM:n≤cd):pc cd (l.drop i.toNat) n=pc cd (l.drop (i+1).toNat) (IntKind.i64.wrap (n+ot cd (I l i))):=by
 rw [jQ aJ ad,pc,if_pos aM]
def gA:au:= .mk 0 dB [] [] [] []
def jA (v:aW):au:= .mk 1 v [] [] [] []
def lx (l:List Tok):Prop:=∀t∈l,t.1=2→t.2.2≠[]∧t.2.2.length≤10∧∀c∈t.2.2,48≤c.toNat∧c.toNat≤57
theorem EM:∀(s:ar) (acc:Nat),(∀c∈s,48≤c.toNat∧c.toNat≤57)→∃n,Lib.decFrom acc s=some n∧n<(acc+1)*10^s.length
 |[],acc,_=>⟨acc,rfl,by simp⟩
 |c::r,acc,h=>by
  have ao:=h c (List.mem_cons_self ..)
  obtain ⟨n,J,aa⟩:=EM r (acc*10+(c.toNat- 48)) fun x an=>h x (List.mem_cons_of_mem _ an)
  refine ⟨n,by simp only [Lib.decFrom,Lib.digitVal,if_pos ao];exact J,Nat.lt_of_lt_of_le aa ?_⟩
  rw [List.length_cons,Nat.pow_succ,Nat.mul_comm (10^r.length) 10,←Nat.mul_assoc]
  exact Nat.mul_le_mul_right _ (by omega)
theorem Tu {s:ar} (aJ:s≠[]) (h:∀c∈s,48≤c.toNat∧c.toNat≤57):Lib.atoi s=(Lib.decFrom 0 s).map fun (m:Nat)=>(m:Int):=by
 cases s with
 |nil=>exact absurd rfl aJ
 |cons c r=>
  have ao:=h c (List.mem_cons_self ..)
  have J:(c==45)=false:=by
   rw [beq_eq_false_iff_ne];rintro rfl;exact absurd ao.1 (by decide)
  have aa:(c==43)=false:=by
   rw [beq_eq_false_iff_ne];rintro rfl;exact absurd ao.1 (by decide)
  simp only [Lib.atoi,J,aa,Lib.decNat,List.isEmpty_cons,Bool.false_eq_true,if_false]
def h8 (s:ar):Int:=(Lib.atoi s).getD 0
theorem Ko {s:ar} (aJ:s≠[]) (av:s.length≤10) (h:∀c∈s,48≤c.toNat∧c.toNat≤57):0≤h8 s∧h8 s<10000000000∧∃n:Nat,Lib.decFrom 0 s=some n∧h8 s=n∧Lib.atoi s=some (n:Int):=by
 obtain ⟨n,J,aa⟩:=EM s 0 h
 have e:=Tu aJ h
 rw [J,Option.map_some] at e
 have aj:10^s.length≤10^10:=Nat.pow_le_pow_right (by decide) av
 have:n<10000000000:=by
  have:(10:Nat)^10=10000000000:=by decide
  omega
 refine ⟨by rw [h8,e];simp,by rw [h8,e];simp;omega,n,J,by rw [h8,e];rfl,e⟩
theorem Kp {l:List Tok} {s:ar} {a:Int} (hw:lx l) (aJ:0≤a) (h:bq l 2 s a=true):(I l a).2.2≠[]∧(I l a).2.2.length≤10∧∀c∈(I l a).2.2,48≤c.toNat∧c.toNat≤57:=by
 have cl:=gm h
 refine hw _ (bF aJ cl) ?_
 simp only [bq,Bool.and_eq_true,beq_iff_eq] at h
 exact h.1.2
def kU (l:List Tok) (n eh a:Int):bP au:=
 if bq l 2 [] a=true then (if 1000000000<h8 (I l a).2.2∨(eh<0∧h8 (I l a).2.2=0) then .bad 1 (cp l n a) else .ok (jA (.mk 1 (eh*h8 (I l a).2.2) [] [] [])) (a+1)) else .bad 5 (cp l n a)
theorem Tv {l:List Tok} {s:ar} {n a e q ct aF cq:Int} (hw:lx l) (aJ:0≤a) (ak:e=0) (o:aX l (b8 l n 2 [] a) s a e q ct aF cq) (aw:aF≠0→s=[]):
 (s.length≤18∧∀n,Lib.atoi s=some n→-9223372036854775808≤n∧n≤9223372036854775807)∧(0≤h8 s∧h8 s<10000000000)∧((aF=0∧bq l 2 [] a=true∧s=(I l a).2.2∧ct=a+1)∨(aF=5∧cq=cp l n a∧bq l 2 [] a=false∧s=[])):=by
 have h:=o.ok ak
 cases aq:bq l 2 [] a with
 |true=>
  rw [b8,if_pos aq] at h
  have bM:aF=0:=h.f
  obtain ⟨J,aa⟩:=h.y bM
  have J:s=(I l a).2.2:=J
  have aa:ct=a+1:=aa
  subst J
  obtain ⟨t1,t2,t3⟩:=Kp hw aJ aq
  obtain ⟨d1,d2,k,d3,d4,d5⟩:=Ko t1 t2 t3
  refine ⟨⟨by omega,fun m hm=>?_⟩,⟨d1,d2⟩, .inl ⟨bM,rfl,rfl,aa⟩⟩
  rw [d5] at hm
  obtain rfl:=Option.some.inj hm
  omega
 |false=>
  rw [b8,if_neg (by rw [aq];decide)] at h
  have bM:aF=5:=h.f
  have J:cq=cp l n a:=h.z (by omega)
  obtain rfl:=aw (by omega)
  exact ⟨⟨by simp,fun m hm=>by cases hm⟩,by decide, .inr ⟨bM,J,rfl,rfl⟩⟩
theorem Tw (s:ar) (aw:s.length≤18) (ah:∀n,Lib.atoi s=some n→-9223372036854775808≤n∧n≤9223372036854775807) (m:ae) (aP:cW m) (K:ab→ae→Prop) (U:K (.tuple [.int .i64 (h8 s), .opt (Lib.atoi s).isNone]) m):bh Tryz.prog 170 [.str s] m K:=
 have ⟨_,_,_,_,_,_,_,aP⟩:=aP
 Ru ⟨_,Tryz.func170,rfl,by kernel_rfl⟩ (fun s n J aa w=>Tryz.strconv_Atoi s n J aa w) (fun s J aa kE w aj aG=>(Tryz.strconv_Atoi_err s J aa kE w aj aG).mono fun e w' ⟨N,aR,_,_,bu⟩=>⟨N,aR,bu⟩) aw ah aP U
theorem Tx {s:ar} (av:s.length≤10) (aY:∀c∈s,48≤c.toNat∧c.toNat≤57) {i k:Nat} (h:Lib.decFrom 0 (s.take i)=some k):k<10000000000:=by
 obtain ⟨n,J,aa⟩:=EM (s.take i) 0 fun c ao=>aY c (List.mem_of_mem_take ao)
 rw [h] at J
 obtain rfl:=Option.some.inj J
 have aj:10^(s.take i).length≤10^10:=Nat.pow_le_pow_right (by decide) (by rw [List.length_take];omega)
 have:(10:Nat)^10=10000000000:=by decide
 omega
theorem Ty {s:ar} (aY:∀c∈s,48≤c.toNat∧c.toNat≤57) {i:Int} {k:Nat} (aJ:0≤i) (ad:i<s.length) (h:Lib.decFrom 0 (s.take i.toNat)=some k):
 Lib.decFrom 0 (s.take (i+1).toNat)=some (k*10+((I s i).toNat- 48)):=by
 have aM:i.toNat<s.length:=by omega
 have ao:=aY _ (bF aJ ad)
 have:=Lib.decFrom_take s i.toNat 0 k (I s i) ((I s i).toNat- 48) h (by rw [I,List.getD_eq_getElem?_getD,List.getElem?_eq_getElem aM];rfl) (by rw [Lib.digitVal,if_pos ao])
 rwa [show (i+1).toNat=i.toNat+1 by omega]
theorem Tz {c:UInt8} (h:48≤c.toNat):IntKind.u8.wrap ((c.toNat:Int)- 48)=(c.toNat:Int)- 48:=by
 have:=UInt8.toNat_lt c
 exact BM .u8 _ (by simp [IntKind.min,IntKind.signed,IntKind.bits];omega) (by simp [IntKind.max,IntKind.signed,IntKind.bits];omega)
set_option maxHeartbeats 1000000 in
theorem Kq (l:List Tok) (n a e q:Int) (eh:Int) (r:Nat) (av:l.length≤5000) (aJ:0≤a) (aT:a≤l.length) (he:0≤e) (hw:lx l) (ou:eh=1∨eh=-1) (ak:e=0) (b:Int) (dK:0≤b) (ah:b≤a) (pO:eh<0→b+1≤a) (m:ae) (gd:eC [r] m) (K:ab→ae→Prop) (aP:cW m) (U:∀bH bZ bR cj,aX l (kU l n eh a) bH b e q bZ bR cj→K (bU bH) (ae.aS m [(r, .cells [.slice false (l.map bm), .int .i64 bZ, .int .i64 n, .err 115 bR, .int .i64 cj])])):bh Tryz.prog 179 [.ptr ⟨r,0,none⟩, .int .i64 eh] (ae.aS m [(r, .cells [.slice false (l.map bm), .int .i64 a, .int .i64 n, .err 115 e, .int .i64 q])]) K:=by
 refine enter (c:=cT [] [] [2] [] [] [r]) (vs:=[.loc 0 0, .aI (.int .i64 eh)]) (L:=[bA l n a e q]) (m:=m) false b2 Tryz.mixed Tryz.func179 rfl (k:=2) (by show cO [] _ _ _=true;decide+kernel) rfl (gd.gZ rfl) ?_
 refine bx 115 [0] (σ:=ar×Int×Int×Int) (fun ⟨dA,bO,bb,bo⟩=>(aX l (b8 l n 2 ([]) a) dA a e q bO bb bo)∧(bb≠0→dA=[])) (fun ⟨dA,bO,bb,bo⟩=>ay dA) (fun ⟨dA,bO,bb,bo⟩=>[bA l n bO bb bo]) rfl (fun _=>rfl) (fun bs ai gd aq K U=>jz l n a e q 2 ([]) (bs.getD 0 0) av (by omega) (by omega) (by omega) ai gd K (fun bQ a8 a1 a6 aC ak=>U (bQ,a8,a1,a6) ⟨aC,ak⟩)) ?_
 rintro ⟨dA,bO,bb,bo⟩ bp
 dsimp only at bp
 obtain ⟨bp,px⟩:=bp
 have pW:=bp.ba
 have mz:=bp.ad
 have pX:=bp.bB
 obtain ⟨fN,JB,jL⟩:=Tv hw aJ ak bp px
 refine hG [] [] (.aI (.tuple [.int .i64 (h8 dA), .opt ((Lib.atoi dA).isNone)])) rfl (fun bs ai gd aq=>fun K U=>Tw dA fN.1 fN.2 ai (cW.up aq aP) K U) ?_
 refine aB ?_
 refine cf [0,1,4,5] 22 ((decide (1000000000<h8 dA))||((decide (eh<0))&&((h8 dA)==0))) ?_ ?_
 · repeat' first
    |exact ⟨⟨_,rfl,by grind [bD.val]⟩,rfl⟩
    |refine ag (fun _=>?_) (fun _=>?_)
 refine ag (fun J=>?_) (fun J=>?_)
 · replace J:(1000000000<h8 dA)∨((eh<0)∧(h8 dA=0)):=((dq J).imp (fun q=>(of_decide_eq_true q)) (fun q=>⟨(of_decide_eq_true (dH q)),(eq_of_beq (eA q))⟩))
   have Xh:b≤bO- 1:=by
    rcases jL with ⟨_,_,_,c4⟩|⟨_,_,_,c4⟩
    · omega
    · have:h8 dA=0:=by rw [c4];rfl
      omega
   refine ag (by rcases ou with h|h<;>subst h<;>omega) ?_
   refine bx 115 [0] (σ:=Int×Int) (fun ⟨b3,cg⟩=>(bb=0→b3=1∧cg=cp l n (bO- 1))∧(bb≠0→b3=bb∧cg=bo)∧0<b3) (fun ⟨b3,cg⟩=> .da []) (fun ⟨b3,cg⟩=>[bA l n (bO- 1) b3 cg]) rfl (fun _=>rfl) (fun bs ai gd aq K U=>o9 l n (bO- 1) bb bo 1 (bs.getD 0 0) (by decide) av (by omega) (by omega) (by omega) ai gd K (fun z=>U (1,cp l n (bO- 1)) ⟨fun _=>⟨rfl,rfl⟩,fun y=>absurd z y,by decide⟩) (fun z=>U (bb,bo) ⟨fun y=>absurd y z,fun _=>⟨rfl,rfl⟩,by omega⟩)) ?_
   rintro ⟨b3,cg⟩ cx
   dsimp only at cx
   obtain ⟨tu,tv,A1⟩:=cx
   refine ag (by rcases ou with h|h<;>subst h<;>omega) ?_
   refine rt rfl fun _=>?_
   show K (.agg [.int .i64 1, .int .i64 1, .int .i64 (eh*(h8 dA)), .str ([]), .slice false [], .slice false [], .str ([]), .str ([]), .slice false [], .slice false []]) (ae.aS m [(r, .cells [.slice false (l.map bm), .int .i64 (bO- 1), .int .i64 n, .err 115 b3, .int .i64 cg])])
   rcases jL with ⟨hF,c2,c3,c4⟩|⟨hF,c2,c3,c4⟩
   · obtain ⟨rfl,rfl⟩:=tu hF
     refine U (jA (.mk 1 (eh*h8 dA) [] [] [])) _ _ _ ⟨fun _=>?_,fun h=>absurd ak h,by omega,by omega,by decide,fun h=>by cases h⟩
     rw [show bO- 1=a by omega]
     constructor<;>grind [kU,bP.bad]
   · obtain ⟨rfl,rfl⟩:=tv (by omega)
     refine U (jA (.mk 1 (eh*h8 dA) [] [] [])) _ _ _ ⟨fun _=>?_,fun h=>absurd ak h,by omega,by omega,by omega,fun h=>by omega⟩
     constructor<;>grind [kU,bP.bad]
 replace J:(h8 dA≤1000000000)∧((0≤eh)∨(h8 dA≠0)):=⟨(Int.not_lt.1 (of_decide_eq_false (cb J))),((eB (dp J)).imp (fun q=>(Int.not_lt.1 (of_decide_eq_false q))) (fun q=>(ne_of_beq_false q)))⟩
 refine ag (by rcases ou with h|h<;>subst h<;>omega) ?_
 refine rt rfl fun _=>?_
 show K (.agg [.int .i64 1, .int .i64 1, .int .i64 (eh*(h8 dA)), .str ([]), .slice false [], .slice false [], .str ([]), .str ([]), .slice false [], .slice false []]) (ae.aS m [(r, .cells [.slice false (l.map bm), .int .i64 bO, .int .i64 n, .err 115 bb, .int .i64 bo])])
 rcases jL with ⟨hF,c2,c3,c4⟩|⟨hF,c2,c3,c4⟩
 · refine U (jA (.mk 1 (eh*h8 dA) [] [] [])) _ _ _ ⟨fun _=>?_,fun h=>absurd ak h,by omega,by omega,by omega,fun h=>by omega⟩
   constructor<;>grind [kU,bP.ok]
 · refine U (jA (.mk 1 (eh*h8 dA) [] [] [])) _ _ _ ⟨fun _=>?_,fun h=>absurd ak h,by omega,by omega,by omega,fun h=>by omega⟩
   constructor<;>grind [kU,bP.bad]
set_option maxHeartbeats 1000000 in
theorem Kr (l:List Tok) (n a e q:Int) (eh:Int) (r:Nat) (av:l.length≤5000) (aJ:0≤a) (aT:a≤l.length) (he:0≤e) (hw:lx l) (ou:eh=1∨eh=-1) (ak:e=0) (m:ae) (gd:eC [r] m) (K:ab→ae→Prop) (U:∀bH bZ bR cj,aX l (kU l n eh a) bH a e q bZ bR cj→K (bU bH) (ae.aS m [(r, .cells [.slice false (l.map bm), .int .i64 bZ, .int .i64 n, .int .i64 bR, .int .i64 cj])])):bh Tryz.prog 182 [.ptr ⟨r,0,none⟩, .int .i64 eh] (ae.aS m [(r, .cells [.slice false (l.map bm), .int .i64 a, .int .i64 n, .int .i64 e, .int .i64 q])]) K:=by
 refine enter (c:=cT [] [] [11] [] [] [r]) (vs:=[.loc 0 0, .aI (.int .i64 eh)]) (L:=[b5 l n a e q]) (m:=m) false b2 Tryz.mixed Tryz.func182 rfl (k:=2) (by show cO [] _ _ _=true;decide+kernel) rfl (gd.gZ rfl) ?_
 refine dw [0] [b5 l n a e q] (jx (jb l 2 ([]) a e)) rfl (fun bs ai gd=>EK l n a e q 2 ([]) (bs.getD 0 0) av (by omega) (by omega) (by omega) ai gd) ?_
 refine aB ?_
 refine ag (fun J=>?_) (fun J=>?_)
 · have aq:=(o8 J).2
   have cl:=gm aq
   obtain ⟨cU,eP,eN⟩:=Kp hw aJ aq
   refine cX (by omega) ?_
   refine aB ?_
   refine cH (σ:=Int×Int) [] [0,1,4,6,7,8] 2 (fun ⟨eX,i⟩=>([(0, .loc 0 0),(1,ax eh),(4, .loc 1 0),(6,ay ((I l a).2.2)),(7,ax eX),(8,ax i)],[b5 l n a e q, .cells [ax 0,ax 0,ax 0,ay ([]), .own [], .own [],ay ([]),ay ([]), .own [], .own []]],m)) (fun ⟨eX,i⟩=>0≤i∧i≤(I l a).2.2.length∧∃k:Nat,eX=k∧Lib.decFrom 0 ((I l a).2.2.take i.toNat)=some k) (fun ⟨eX,i⟩=>(I l a).2.2.length- i.toNat) (0,0) ⟨rfl,rfl⟩ ?_ ?_
   · try dsimp only
     exact ⟨by omega,by omega,0,rfl,rfl⟩
   rintro ⟨eX,i⟩ aE
   dsimp only at aE
   obtain ⟨k,py,np⟩:=aE.2.2
   have JV:=Tx eP eN np
   refine aB ?_
   refine ag (fun aa=>?_) (fun aa=>?_)
   · have ao:=eN _ (bF aE.1 aa)
     have hu:=Tz ao.1
     refine aB ?_
     refine ag (by first|omega|(rcases ou with h|h<;>subst h<;>omega)) ?_
     refine ag (by omega) ?_
     refine ag (by first|omega|(rcases ou with h|h<;>subst h<;>omega)) ?_
     refine ag (by first|omega|(rcases ou with h|h<;>subst h<;>omega)) ?_
     refine ag (by first|omega|(rcases ou with h|h<;>subst h<;>omega)) ?_
     refine ⟨((10*eX)+(IntKind.u8.wrap (((I ((I l a).2.2) i).toNat)- 48)),i+1),⟨rfl,rfl⟩,?_,?_⟩
     · try dsimp only
       exact ⟨by omega,by omega,k*10+((I (I l a).2.2 i).toNat- 48),by rw [hu,py];omega,Ty eN aE.1 aa np⟩
     try dsimp only
     omega
   obtain ⟨d1,d2,fq,d3,d4,d5⟩:=Ko cU eP eN
   rw [List.take_of_length_le (by omega),d3] at np
   obtain rfl:=Option.some.inj np
   have JB:h8 (I l a).2.2=eX:=by omega
   refine aB ?_
   refine cf [0,1,4,7] 50 ((decide (1000000000<eX))||((eX==0)&&(decide (eh<0)))) ?_ ?_
   · repeat' first
      |exact ⟨⟨_,rfl,by grind [bD.val]⟩,rfl⟩
      |refine ag (fun _=>?_) (fun _=>?_)
   refine ag (fun aj=>?_) (fun aj=>?_)
   · replace aj:(1000000000<eX)∨((eX=0)∧(eh<0)):=((dq aj).imp (fun q=>(of_decide_eq_true q)) (fun q=>⟨(eq_of_beq (dH q)),(of_decide_eq_true (eA q))⟩))
     refine bx 115 [0] (σ:=Int×Int) (fun ⟨bb,bo⟩=>(e=0→bb=1∧bo=cp l n a)∧(e≠0→bb=e∧bo=q)∧0<bb) (fun ⟨bb,bo⟩=> .da []) (fun ⟨bb,bo⟩=>[b5 l n a bb bo]) rfl (fun _=>rfl) (fun bs ai gd aq K U=>mO l n a e q 1 (bs.getD 0 0) (by decide) av (by omega) (by omega) (by omega) ai gd K (fun z=>U (1,cp l n a) ⟨fun _=>⟨rfl,rfl⟩,fun y=>absurd z y,by decide⟩) (fun z=>U (e,q) ⟨fun y=>absurd y z,fun _=>⟨rfl,rfl⟩,by omega⟩)) ?_
     rintro ⟨bb,bo⟩ bp
     dsimp only at bp
     obtain ⟨ly,ku,mP⟩:=bp
     refine ag (by first|omega|(rcases ou with h|h<;>subst h<;>omega)) ?_
     refine ag (by first|omega|(rcases ou with h|h<;>subst h<;>omega)) ?_
     refine rt rfl fun _=>?_
     show K (.agg [.int .i64 1, .int .i64 1, .int .i64 (eh*eX), .str ([]), .slice false [], .slice false [], .str ([]), .str ([]), .slice false [], .slice false []]) (ae.aS m [(r, .cells [.slice false (l.map bm), .int .i64 (a+1), .int .i64 n, .int .i64 bb, .int .i64 bo])])
     obtain ⟨rfl,rfl⟩:=ly ak
     refine U (jA (.mk 1 (eh*eX) [] [] [])) _ _ _ ⟨fun _=>?_,fun h=>absurd ak h,by omega,by omega,by decide,fun h=>by cases h⟩
     constructor<;>grind [kU,bP.bad]
   replace aj:(eX≤1000000000)∧((eX≠0)∨(0≤eh)):=⟨(Int.not_lt.1 (of_decide_eq_false (cb aj))),((eB (dp aj)).imp (fun q=>(ne_of_beq_false q)) (fun q=>(Int.not_lt.1 (of_decide_eq_false q))))⟩
   refine ag (by first|omega|(rcases ou with h|h<;>subst h<;>omega)) ?_
   refine ag (by first|omega|(rcases ou with h|h<;>subst h<;>omega)) ?_
   refine rt rfl fun _=>?_
   show K (.agg [.int .i64 1, .int .i64 1, .int .i64 (eh*eX), .str ([]), .slice false [], .slice false [], .str ([]), .str ([]), .slice false [], .slice false []]) (ae.aS m [(r, .cells [.slice false (l.map bm), .int .i64 (a+1), .int .i64 n, .int .i64 e, .int .i64 q])])
   refine U (jA (.mk 1 (eh*eX) [] [] [])) _ _ _ ⟨fun _=>?_,fun h=>absurd ak h,by omega,by omega,by omega,fun h=>by omega⟩
   constructor<;>grind [kU,bP.ok]
 refine bx 115 [0] (σ:=Int×Int) (fun ⟨b3,cg⟩=>(e=0→b3=5∧cg=cp l n a)∧(e≠0→b3=e∧cg=q)∧0<b3) (fun ⟨b3,cg⟩=> .da []) (fun ⟨b3,cg⟩=>[b5 l n a b3 cg]) rfl (fun _=>rfl) (fun bs ai gd aq K U=>mO l n a e q 5 (bs.getD 0 0) (by decide) av (by omega) (by omega) (by omega) ai gd K (fun z=>U (5,cp l n a) ⟨fun _=>⟨rfl,rfl⟩,fun y=>absurd z y,by decide⟩) (fun z=>U (e,q) ⟨fun y=>absurd y z,fun _=>⟨rfl,rfl⟩,by omega⟩)) ?_
 rintro ⟨b3,cg⟩ cx
 dsimp only at cx
 obtain ⟨tu,tv,A1⟩:=cx
 refine rt rfl fun _=>?_
 show K (.agg [.int .i64 0, .int .i64 0, .int .i64 0, .str ([]), .slice false [], .slice false [], .str ([]), .str ([]), .slice false [], .slice false []]) (ae.aS m [(r, .cells [.slice false (l.map bm), .int .i64 a, .int .i64 n, .int .i64 b3, .int .i64 cg])])
 have aq:=pV J ak
 obtain ⟨rfl,rfl⟩:=tu ak
 refine U gA _ _ _ ⟨fun _=>?_,fun h=>absurd ak h,by omega,by omega,by decide,fun h=>by cases h⟩
 constructor<;>grind [kU,bP.bad]
end Go.Proofs
end
