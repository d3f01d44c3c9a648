import Derived.Test.YtnahenbiipdlkaaGreatDoorProg
import Derived.Test.YtnahenbiipdlkaaGreatDoorSv9
import Derived.Test.YtnahenbiipdlkaaGreatDoorWyA
import Derived.Test.YtnahenbiipdlkaaGreatDoorWzL
section
namespace Go.Proofs
open Go Go.ba
set_option maxRecDepth 100000
theorem BP (e f:Int) (he:0≤e) (m:ae) (K:U→ae→Prop) (ab:K (.bool (e==f)) m):bg Tryz.prog 13 [.err 115 e, .int .i64 f] m K:=by
 refine D2 Tryz.func13 rfl (by decide) (Nat.le_of_ble_eq_true rfl) ?_
 show de _ _ _ _ [(0, .err 115 e),(1, .int .i64 f)] m
 refine sv [] [0,1] (by decide) ?_
 intro lT lU
 refine ⟨trivial,?_⟩
 show lT [(0, .err 115 e),(1, .int .i64 f)] m
 refine lU _ _ ?_;clear lU lT
 refine za ?_;intro UO GP
 refine sv [] [0,1,8] (by decide) ?_
 intro lT lU
 refine ⟨trivial,⟨rfl,rfl⟩,?_⟩
 show lT [(0, .err 115 e),(1, .int .i64 f),(8, .bool (e==0))] m
 refine lU _ _ ?_;clear lU lT
 refine zb rfl rfl (fun J=>?_) (fun J=>?_)
 ·
  replace J:e=0:=(eq_of_beq J)
  refine sv [] [4] (by decide) ?_
  intro lT lU
  refine ⟨trivial,trivial,trivial,?_⟩
  show lT [(4, .bool (f==0))] m
  refine lU _ _ ?_;clear lU lT
  refine y9 ?_
  refine ⟨trivial,m,fun _ _ h=>h,?_⟩
  show K (.bool (f==0)) m
  refine df ab (congrArg U.bool ?_)
  rw [Bool.eq_iff_iff];simp;omega
 replace J:e≠0:=(ne_of_beq_false J)
 refine Dg ?_
 refine GP _ _ ?_;clear GP
 refine sv [] [1,5,6] (by decide) ?_
 intro lT lU
 refine ⟨trivial,rfl,trivial,(Nat.le_of_ble_eq_true rfl),(Nat.le_of_ble_eq_true rfl),trivial,trivial,?_⟩
 show lT [(1, .int .i64 f),(5, .int .i64 e),(6, .bool (!(e==0)))] m
 refine lU _ _ ?_;clear lU lT
 refine sv [] [4] (by decide) ?_
 intro lT lU
 suffices key:lT [(4, .bool (((!(e==0))&&(decide (0<f)))&&(e==f)))] m by
  refine ⟨trivial,trivial,?_⟩
  show hJ _ _ _ _ _ [(17, .bool (!(e==0))),(16, .bool (!(e==0))),(1, .int .i64 f),(5, .int .i64 e),(6, .bool (!(e==0)))] _
  revert key
  cases aa:(e==0)
  ·
   replace aa:e≠0:=(ne_of_beq_false aa)
   intro key
   refine ⟨trivial,trivial,?_⟩
   refine ⟨trivial,?_⟩
   show hJ _ _ _ _ _ [(21, .bool (decide (0<f))),(20, .bool (decide (0<f))),(19, .bool (decide (0<f))),(18, .int .i64 f),(17, .bool true),(16, .bool true),(1, .int .i64 f),(5, .int .i64 e),(6, .bool true)] _
   revert key
   cases ai:(decide (0<f))
   ·
    replace ai:f≤0:=(Int.not_lt.1 (of_decide_eq_false ai))
    intro key
    refine p2 rfl (p2 rfl (p2 rfl ?_))
    refine ⟨trivial,?_⟩
    exact key
   ·
    replace ai:0<f:=(of_decide_eq_true ai)
    intro key
    refine ⟨trivial,trivial,trivial,?_⟩
    refine ⟨trivial,?_⟩
    exact key
  ·
   replace aa:e=0:=(eq_of_beq aa)
   intro key
   refine p2 rfl (p2 rfl ?_)
   refine ⟨trivial,?_⟩
   refine p2 rfl (p2 rfl (p2 rfl ?_))
   refine ⟨trivial,?_⟩
   exact key
 refine lU _ _ ?_;clear lU lT
 refine y9 ?_
 refine ⟨trivial,m,fun _ _ h=>h,?_⟩
 show K (.bool (((!(e==0))&&(decide (0<f)))&&(e==f))) m
 refine df ab (congrArg U.bool ?_)
 rw [Bool.eq_iff_iff];simp;omega
end Go.Proofs
end
section
namespace Go.Proofs
open Go Go.ba Go.bV
def GQ:hl:=(146,⟨.ptr,1,8,[.p]⟩)::tb
theorem fS:eX Tryz.prog GQ=true:=by decide+kernel
noncomputable def kt (w st re xs cv bs:List Nat):fy:=⟨Tryz.prog,GQ,115,w,st,re,xs,cv,bs⟩
end Go.Proofs
end
section
namespace Go.Proofs
open Go Go.ba Go.bV
set_option maxRecDepth 100000
theorem GR {P:Program} {f:FuncId} {fn:Func} {args:List U} {x:U} {m:ae} {K:U→ae→Prop} (aN:P.funcs[f]?=some fn) (ag:fn.body.isSome=true) (uI:(fn.name== "runtime.NumGoroutine")=false) (ab:K x m)
 (h:∀w lim (cargs:Array Value),cargs.size=args.length→(∀i,i<args.length→aP w lim (cargs.getD i undef) (args.getD i .aS) [])→∃v,(Calls P f cargs w fun e w'=>e= .returned v∧w'=w)∧aP w lim v x []):bg P f args m K:=by
 refine ⟨⟨fn,aN,ag,uI⟩,fun F lim w cargs al au st=>?_⟩
 obtain ⟨v,bn,aq⟩:=h w lim cargs al au
 refine bn.mono fun e w' ⟨he,hw⟩=>?_
 subst hw
 exact ⟨v,x,lim,m,[],he,ab,aq,st, .refl _ _ _⟩
theorem GS {cargs:Array Value} (h:cargs.size=2):cargs=#[cargs.getD 0 undef,cargs.getD 1 undef]:=by
 apply Array.ext (by simp [h])
 intro i ad eV
 have:i=0∨i=1:=by omega
 rcases this with rfl|rfl<;>simp [Array.getD,h]
theorem PZ (s p:List UInt8) (m) (K:U→ae→Prop) (ab:K (.bool (Lib.hasPrefix s p)) m):bg Tryz.prog 174 [.str s, .str p] m K:=by
 refine GR Tryz.func174 rfl (by decide) ab fun w lim cargs al au=>?_
 rw [GS al]
 have aG:=au 0 (by simp)
 have J:=au 1 (by simp)
 simp only [List.getD_cons_zero,List.getD_cons_succ] at aG J
 generalize cargs.getD 0 undef=a at aG
 generalize cargs.getD 1 undef=b at J
 cases aG
 cases J
 exact ⟨_,Tryz.strings_HasPrefix _ _ _, .bool _⟩
theorem GU (l:List UInt8) (c:UInt8):Lib.indexByte l c<l.length∨Lib.indexByte l c=-1:=by
 induction l with
 |nil=>exact .inr rfl
 |cons b l aQ=>
  unfold Lib.indexByte
  split
  · left;simp
  · split
    · exact .inr rfl
    · rename_i J aa
      rcases aQ with h|h
      · left;simp;omega
      · simp [h] at aa
theorem GV (s:List UInt8) (hlen:s.length≤140737488355328) (c:UInt8) (m) (K:U→ae→Prop) (ab:K (.int .i64 (Lib.indexByte s c)) m):bg Tryz.prog 175 [.str s, .int .u8 c.toNat] m K:=by
 refine GR Tryz.func175 rfl (by decide) ab fun w lim cargs al au=>?_
 rw [GS al]
 have aG:=au 0 (by simp)
 have J:=au 1 (by simp)
 simp only [List.getD_cons_zero,List.getD_cons_succ] at aG J
 generalize cargs.getD 0 undef=a at aG
 generalize cargs.getD 1 undef=b at J
 cases aG
 cases J
 have ur:=Lib.indexByte_ge
 refine ⟨_,Tryz.strings_IndexByte _ _ _,?_⟩
 have ar:(c.toNat:Int).toNat.toUInt8=c:=by simp
 rw [ar]
 refine .int _ _ ?_ ?_
 · have:=Lib.indexByte_ge ‹ByteArray›.data.toList c
   simp [IntKind.min,IntKind.signed,IntKind.bits];omega
 · rcases GU ‹ByteArray›.data.toList c with h|h
   · simp [IntKind.max,IntKind.signed,IntKind.bits];simp at h hlen;omega
   · rw [h];decide
def oH (c:UInt8):Bool:=decide (97≤(c.toNat:Int))&&decide ((c.toNat:Int)≤122)
def ga (c:UInt8):Bool:=decide (48≤(c.toNat:Int))&&decide ((c.toNat:Int)≤57)
def pA (c:UInt8):Bool:=!((c.toNat:Int)==10)
def runN (f:UInt8→Bool) (s:List UInt8) (a:Nat):Nat:=a+((s.drop a).takeWhile f).length
theorem drop_cons {s:List UInt8} {i:Nat} (h:i<s.length):s.drop i=s.getD i 0::s.drop (i+1):=by
 rw [List.drop_eq_getElem_cons h]
 simp [List.getD_eq_getElem?_getD,h]
theorem P0 {f:UInt8→Bool} {s:List UInt8} {i:Nat} (h:i<s.length) (aN:f (s.getD i 0)=true):runN f s i=runN f s (i+1):=by
 simp only [runN,drop_cons h,List.takeWhile_cons,aN,if_true,List.length_cons]
 omega
theorem P1 {f:UInt8→Bool} {s:List UInt8} {i:Nat} (h:i<s.length→f (s.getD i 0)=false):runN f s i=i:=by
 by_cases ad:i<s.length
 · have:=h ad
   rw [runN,drop_cons ad,List.takeWhile_cons,this]
   simp
 · simp [runN,List.drop_of_length_le (Nat.not_lt.1 ad)]
theorem P2 (f:UInt8→Bool) {s:List UInt8} {i:Nat} (h:i≤s.length):runN f s i≤s.length:=by
 have:((s.drop i).takeWhile f).length≤(s.drop i).length:=(List.takeWhile_sublist _).length_le
 simp only [List.length_drop] at this
 simp only [runN]
 omega
def hV:List UInt8:=[48,49,50,51,52,53,54,55,56,57,97,98,99,100,101,102]
def vQ:List UInt8:=[61,123,125,91,93,40,41,58,44,46,43,63,45]
def jh (s:List UInt8):Int:=if Lib.hasPrefix s [61,61]=true then 2 else if 0≤Lib.indexByte vQ (s.getD 0 0) then 1 else 0
theorem vR (s:List UInt8) (i:Nat):I s (i:Int)=s.getD i 0:=by simp [I];rfl
theorem BQ (s:List UInt8) (n k:Nat):I s ((n:Int)+(k:Int))=s.getD (n+k) 0:=by
 rw [←Int.natCast_add,vR]
def ez (f:UInt8→Bool) (s:List UInt8) (a:Int):Int:=(runN f s a.toNat:Nat)
theorem tg {f:UInt8→Bool} {s:List UInt8} {i:Int} (aG:0≤i) (h:i<s.length) (aN:f (I s i)=true):ez f s i=ez f s (i+1):=by
 obtain ⟨n,rfl⟩:=Int.eq_ofNat_of_zero_le aG
 simp only [ez,Int.toNat_natCast]
 rw [P0 (by omega) (by rw [vR] at aN;exact aN)]
 rfl
theorem P3 {f:UInt8→Bool} {s:List UInt8} {i:Int} (aG:0≤i) (h:i<s.length→f (I s i)=false):ez f s i=i:=by
 obtain ⟨n,rfl⟩:=Int.eq_ofNat_of_zero_le aG
 simp only [ez,Int.toNat_natCast]
 rw [P1 (fun aT=>by have:=h (by omega);rwa [vR] at this)]
theorem vS (f:UInt8→Bool) {s:List UInt8} {i:Int} (aG:0≤i) (h:i≤s.length):ez f s i≤s.length:=by
 have:=P2 f (s:=s) (i:=i.toNat) (by omega)
 simp only [ez];omega
theorem th (f:UInt8→Bool) {s:List UInt8} {i:Int} (aG:0≤i):i≤ez f s i:=by
 simp only [ez,runN];omega
def ku (c:UInt8):Bool:=oH c||ga c
theorem GW {c:UInt8}:ga c=true↔(48≤(c.toNat:Int)∧(c.toNat:Int)≤57):=by simp [ga]
theorem P4 {c:UInt8}:oH c=true↔(97≤(c.toNat:Int)∧(c.toNat:Int)≤122):=by simp [oH]
theorem GX (c:UInt8) (m:ae) (K:U→ae→Prop) (ab:K (.bool (oH c)) m):bg Tryz.prog 121 [.int .u8 c.toNat] m K:=by
 refine enter (c:=cX [] [] [1] [] [] []) (vs:=[.aH (.int .u8 c.toNat)]) (L:=[]) (m:=m) false b9 Tryz.mixed Tryz.func121 rfl (k:=1) (by show cu [] _ _ _=true;decide+kernel) rfl (Good.nil m) ?_
 refine cq [] 2 ((decide (97≤(c.toNat:Int)))&&(decide ((c.toNat:Int)≤122))) ?_ ?_
 · repeat' first
    |exact ⟨⟨_,rfl,by grind [bD.val]⟩,rfl⟩
    |refine ah (fun _=>?_) (fun _=>?_)
 exact bh rfl fun _=>ab
theorem BR (c:UInt8) (m:ae) (K:U→ae→Prop) (ab:K (.bool (ga c)) m):bg Tryz.prog 123 [.int .u8 c.toNat] m K:=by
 refine enter (c:=cX [] [] [1] [] [] []) (vs:=[.aH (.int .u8 c.toNat)]) (L:=[]) (m:=m) false b9 Tryz.mixed Tryz.func123 rfl (k:=1) (by show cu [] _ _ _=true;decide+kernel) rfl (Good.nil m) ?_
 refine cq [] 2 ((decide (48≤(c.toNat:Int)))&&(decide ((c.toNat:Int)≤57))) ?_ ?_
 · repeat' first
    |exact ⟨⟨_,rfl,by grind [bD.val]⟩,rfl⟩
    |refine ah (fun _=>?_) (fun _=>?_)
 exact bh rfl fun _=>ab
theorem P5 (c:UInt8) (m:ae) (K:U→ae→Prop) (ab:K (.bool (pA c)) m):bg Tryz.prog 120 [.int .u8 c.toNat] m K:=by
 refine enter (c:=cX [] [] [] [] [] []) (vs:=[.aH (.int .u8 c.toNat)]) (L:=[]) (m:=m) false b9 Tryz.mixed Tryz.func120 rfl (k:=1) (by show cu [] _ _ _=true;decide+kernel) rfl (Good.nil m) ?_
 exact bh rfl fun _=>ab
theorem P6 (c:UInt8) (m:ae) (K:U→ae→Prop) (ab:K (.bool (ku c)) m):bg Tryz.prog 122 [.int .u8 c.toNat] m K:=by
 refine enter (c:=cX [] [] [1] [] [] []) (vs:=[.aH (.int .u8 c.toNat)]) (L:=[]) (m:=m) false b9 Tryz.mixed Tryz.func122 rfl (k:=1) (by show cu [] _ _ _=true;decide+kernel) rfl (Good.nil m) ?_
 refine cq [] 2 ((oH c)||(ga c)) ?_ ?_
 · repeat' first
    |exact ⟨⟨_,rfl,by grind [bD.val]⟩,rfl⟩
    |refine ah (fun _=>?_) (fun _=>?_)
    |refine b2 (fun _=>GX c) rfl ?_
    |refine b2 (fun _=>BR c) rfl ?_
 exact bh rfl fun _=>ab
theorem x7 (c:UInt8) (m:ae) (K:U→ae→Prop) (ab:K (.int .i64 (Lib.indexByte hV c)) m):bg Tryz.prog 173 [.int .u8 c.toNat] m K:=by
 refine enter (c:=cX [] [] [] [] [] []) (vs:=[.aH (.int .u8 c.toNat)]) (L:=[]) (m:=m) false b9 Tryz.mixed Tryz.func173 rfl (k:=1) (by show cu [] _ _ _=true;decide+kernel) rfl (Good.nil m) ?_
 refine b2 (fun _=>GV ([48,49,50,51,52,53,54,55,56,57,97,98,99,100,101,102]:List UInt8) (by first|decide|omega) c) rfl ?_
 exact bh rfl fun _=>ab
theorem P7 (s:aD) (al:0<s.length) (m:ae) (K:U→ae→Prop) (ab:K (.int .i64 (jh s)) m):bg Tryz.prog 125 [.str s] m K:=by
 refine enter (c:=cX [] [] [] [] [] []) (vs:=[.aH (.str s)]) (L:=[]) (m:=m) false b9 Tryz.mixed Tryz.func125 rfl (k:=1) (by show cu [] _ _ _=true;decide+kernel) rfl (Good.nil m) ?_
 refine az ?_
 refine b2 (fun _=>PZ s ([61,61]:List UInt8)) rfl ?_
 refine ah (fun J=>?_) (fun J=>?_)
 · refine bh rfl fun _=>df ab ?_
   show U.int .i64 (jh s)=U.int .i64 2
   refine congrArg (U.int .i64) ?_
   rw [jh,if_pos J]
 refine az ?_
 refine ah (by omega) ?_
 refine b2 (fun _=>GV ([61,123,125,91,93,40,41,58,44,46,43,63,45]:List UInt8) (by first|decide|omega) (I s 0)) rfl ?_
 refine ah (fun aa=>?_) (fun aa=>?_)
 · refine bh rfl fun _=>df ab ?_
   show U.int .i64 (jh s)=U.int .i64 1
   refine congrArg (U.int .i64) ?_
   rw [jh,if_neg (by rw [J];simp),if_pos (show 0≤Lib.indexByte vQ (s.getD 0 0) from aa)]
 refine bh rfl fun _=>df ab ?_
 show U.int .i64 (jh s)=U.int .i64 0
 refine congrArg (U.int .i64) ?_
 rw [jh,if_neg (by rw [J];simp),if_neg (show ¬0≤Lib.indexByte vQ (s.getD 0 0) from Int.not_le.2 aa)]
end Go.Proofs
end
section
namespace Go.Proofs
open Go Go.ba Go.bV
set_option maxRecDepth 100000
def vT (a b:Int):UInt8:=UInt8.ofNat (16*a+b).toNat
def nr (s:List UInt8) (i:Nat) (b:List UInt8):Int×List UInt8×Int:=
 if i<s.length then
  if (s.getD i 0).toNat=34 then (if 40<b.length then (1,[],0) else (0,b,((i+1:Nat):Int)))
  else if (s.getD i 0).toNat<32∨126<(s.getD i 0).toNat then (4,[],0)
  else if (s.getD i 0).toNat≠92 then nr s (i+1) (b++[s.getD i 0])
  else if i+1<s.length∧((s.getD (i+1) 0).toNat=34∨(s.getD (i+1) 0).toNat=92) then nr s (i+2) (b++[s.getD (i+1) 0])
  else if i+3<s.length∧(s.getD (i+1) 0).toNat=120∧0≤Lib.indexByte hV (s.getD (i+2) 0)∧0≤Lib.indexByte hV (s.getD (i+3) 0) then
   nr s (i+4) (b++[vT (Lib.indexByte hV (s.getD (i+2) 0)) (Lib.indexByte hV (s.getD (i+3) 0))])
  else (4,[],0)
 else (4,[],0)
termination_by s.length- i
def vU (r:Int×List UInt8×Int):U:= .tuple [.str r.2.1, .int .i64 r.2.2, .err 115 r.1]
section
variable {s b:List UInt8} {i:Nat}
theorem P8 (h:¬i<s.length):nr s i b=(4,[],0):=by rw [nr,if_neg h]
end
theorem GY (c:UInt8):Lib.indexByte hV c<16:=by
 rcases GU hV c with h|h
 · simpa [hV] using h
 · rw [h];decide
theorem P9 (a b:Int) (aX:0≤a) (qb:a<16) (ag:0≤b) (fv:b<16):
 IntKind.u8.wrap (IntKind.i64.wrap ((BitVec.ofInt IntKind.i64.bits (IntKind.i64.wrap (a*2^(min (Int.toNat 4) IntKind.i64.bits))) ||| BitVec.ofInt IntKind.i64.bits b).toNat))=(vT a b).toNat:=by
 obtain ⟨a,rfl⟩:=Int.eq_ofNat_of_zero_le aX
 obtain ⟨b,rfl⟩:=Int.eq_ofNat_of_zero_le ag
 have key:∀a b:Fin 16,IntKind.u8.wrap (IntKind.i64.wrap ((BitVec.ofInt IntKind.i64.bits (IntKind.i64.wrap (((a.1:Nat):Int)*2^(min (Int.toNat 4) IntKind.i64.bits))) ||| BitVec.ofInt IntKind.i64.bits ((b.1:Nat):Int)).toNat))=(vT ((a.1:Nat):Int) ((b.1:Nat):Int)).toNat:=by decide+kernel
 exact key ⟨a,by omega⟩ ⟨b,by omega⟩
theorem u8_or (a b:Int) (aX:0≤a) (qb:a<16) (ag:0≤b) (fv:b<16):
 qZ (IntKind.i64.wrap ((BitVec.ofInt IntKind.i64.bits (IntKind.i64.wrap (a*2^(min (Int.toNat 4) IntKind.i64.bits))) ||| BitVec.ofInt IntKind.i64.bits b).toNat))=vT a b:=by
 apply UInt8.toNat_inj.1
 have:=P9 a b aX qb ag fv
 rw [←Es] at this
 omega
section
variable {s b:List UInt8} {i:Int}
def gq (s:List UInt8) (i:Int) (b:List UInt8):=nr s i.toNat b
theorem Qa (h:s.length≤i):gq s i b=(4,[],0):=P8 (by omega)
theorem Qb (aG:0≤i) (h:i<s.length):gq s i b=
 if ((I s i).toNat:Int)=34 then (if (40:Int)<b.length then (1,[],0) else (0,b,i+1))
 else if ((I s i).toNat:Int)<32∨126<((I s i).toNat:Int) then (4,[],0)
 else if ((I s i).toNat:Int)≠92 then gq s (i+1) (b++[I s i])
 else if i+1<s.length∧(((I s (i+1)).toNat:Int)=34∨((I s (i+1)).toNat:Int)=92) then gq s (i+2) (b++[I s (i+1)])
 else if i+3<s.length∧((I s (i+1)).toNat:Int)=120∧0≤Lib.indexByte hV (I s (i+2))∧0≤Lib.indexByte hV (I s (i+3)) then
  gq s (i+4) (b++[vT (Lib.indexByte hV (I s (i+2))) (Lib.indexByte hV (I s (i+3)))])
 else (4,[],0):=by
 obtain ⟨n,rfl⟩:=Int.eq_ofNat_of_zero_le aG
 have bA:=vR s n
 have aM:=BQ s n 1
 have aC:=BQ s n 2
 have c8:=BQ s n 3
 have fD:((n:Int)+1).toNat=n+1:=by omega
 have jS:((n:Int)+2).toNat=n+2:=by omega
 have En:((n:Int)+4).toNat=n+4:=by omega
 simp only [gq,Int.toNat_natCast,fD,jS,En]
 simp only [Int.natCast_one,Int.cast_ofNat_Int] at aM aC c8
 rw [bA,aM,aC,c8]
 conv=>lhs;rw [nr]
 rw [if_pos (by omega)]
 have hg:(((s.getD n 0).toNat:Int)=34)=((s.getD n 0).toNat=34):=propext ⟨fun h=>by omega,fun h=>by omega⟩
 have gR:(((s.getD n 0).toNat:Int)<32∨126<((s.getD n 0).toNat:Int))=((s.getD n 0).toNat<32∨126<(s.getD n 0).toNat):=propext ⟨fun h=>by omega,fun h=>by omega⟩
 have mv:(((s.getD n 0).toNat:Int)≠92)=((s.getD n 0).toNat≠92):=propext ⟨fun h=>by omega,fun h=>by omega⟩
 have mw:((n:Int)+1<s.length∧(((s.getD (n+1) 0).toNat:Int)=34∨((s.getD (n+1) 0).toNat:Int)=92))=(n+1<s.length∧((s.getD (n+1) 0).toNat=34∨(s.getD (n+1) 0).toNat=92)):=propext ⟨fun h=>by omega,fun h=>by omega⟩
 have Qc:((n:Int)+3<s.length∧((s.getD (n+1) 0).toNat:Int)=120∧0≤Lib.indexByte hV (s.getD (n+2) 0)∧0≤Lib.indexByte hV (s.getD (n+3) 0))=(n+3<s.length∧(s.getD (n+1) 0).toNat=120∧0≤Lib.indexByte hV (s.getD (n+2) 0)∧0≤Lib.indexByte hV (s.getD (n+3) 0)):=propext ⟨fun h=>⟨by omega,by omega,h.2.2⟩,fun h=>⟨by omega,by omega,h.2.2⟩⟩
 have Qd:((40:Int)<b.length)=(40<b.length):=propext ⟨fun h=>by omega,fun h=>by omega⟩
 simp only [hg,gR,mv,mw,Qc,Qd]
 rfl
end
set_option maxHeartbeats 2000000 in
theorem Qe (s:aD) (a:Int) (al:s.length≤16777216) (aG:0≤a) (aX:a<s.length) (m:ae) (K:U→ae→Prop) (ab:K (vU (gq s (a+1) [])) m):bg Tryz.prog 124 [.str s, .int .i64 a] m K:=by
 refine enter (c:=cX [] [] [11,14,17] [] [] []) (vs:=[.aH (.str s), .aH (.int .i64 a)]) (L:=[]) (m:=m) true b9 Tryz.mixed Tryz.func124 rfl (k:=2) (by show cu [] _ _ _=true;decide+kernel) rfl (Good.nil m) ?_
 refine az ?_
 refine ah (by omega) ?_
 refine b7 (σ:=(List UInt8)×Int) [] [0,7,8] 0 (fun ⟨b,i⟩=>([(0,aw s),(7, .own (b.map oY)),(8,aj i)],[],m)) (fun ⟨b,i⟩=>0≤i∧i≤s.length∧(b.length:Int)≤i∧gq s (a+1) []=gq s i b) (fun ⟨b,i⟩=>s.length- i.toNat) ([],a+1) ⟨rfl,rfl⟩ ?_ ?_
 · try dsimp only
   exact ⟨by omega,by omega,by simp;omega,rfl⟩
 rintro ⟨b,i⟩ ay
 dsimp only at ay
 refine az ?_
 refine ah (fun J=>?_) (fun J=>?_)
 · have aO:=Qb (b:=b) ay.1 J
   have A6:=GY (I s (i+2))
   have FH:=GY (I s (i+3))
   refine az ?_
   refine ah (by omega) ?_
   refine ah (fun aa=>?_) (fun aa=>?_)
   · refine az ?_
     refine br ?_
     refine ah (fun ai=>?_) (fun ai=>?_)
     · refine bh rfl fun _=>df ab ?_
       show vU (gq s (a+1) [])=U.tuple [.str ([]), .int .i64 0, .err 115 1]
       rw [ay.2.2.2,aO,if_pos aa,if_pos ai];rfl
     refine Ng ?_
     refine ah (by omega) ?_
     refine bh rfl fun _=>df ab ?_
     show vU (gq s (a+1) [])=U.tuple [.str b, .int .i64 (i+1), .err 115 0]
     rw [ay.2.2.2,aO,if_pos aa,if_neg (by omega)];rfl
   refine cq [0,7,8,9] 36 (((((I s i).toNat:Int)==92)&&(decide (i+1<(s.length:Int))))&&((((I s (i+1)).toNat:Int)==34)||(((I s (i+1)).toNat:Int)==92))) ?_ ?_
   · repeat' first
      |exact ⟨⟨_,rfl,by grind [bD.val]⟩,rfl⟩
      |refine ah (fun _=>?_) (fun _=>?_)
      |refine ah (by omega) ?_
   refine ah (fun aJ=>?_) (fun aJ=>?_)
   · replace aJ:((((I s i).toNat:Int)=92)∧(i+1<(s.length:Int)))∧((((I s (i+1)).toNat:Int)=34)∨(((I s (i+1)).toNat:Int)=92)):=⟨⟨(eq_of_beq (eO (eO aJ))),(of_decide_eq_true (fk (eO aJ)))⟩,((dj (fk aJ)).imp (fun q=>(eq_of_beq q)) (fun q=>(eq_of_beq q)))⟩
     refine ah (by omega) ?_
     refine ah (by omega) ?_
     refine ap oY b ([I s (i+1)]:List UInt8) rfl rfl (fun _=>⟨rfl,rfl⟩) (by (simp only [List.length_append,List.length_cons,List.length_nil];omega)) ?_
     refine ah (by omega) ?_
     refine ⟨(b++([I s (i+1)]:List UInt8),(i+1)+1),⟨rfl,rfl⟩,?_,?_⟩
     · try dsimp only
       exact ⟨by omega,by omega,by simp;omega,by rw [ay.2.2.2,aO,if_neg aa,if_neg (by omega),if_neg (by omega),if_pos (by omega)];congr 1;omega⟩
     try dsimp only
     omega
   replace aJ:((((I s i).toNat:Int)≠92)∨((s.length:Int)≤i+1))∨((((I s (i+1)).toNat:Int)≠34)∧(((I s (i+1)).toNat:Int)≠92)):=((fl aJ).imp (fun q=>((fl q).imp (fun q=>(ne_of_beq_false q)) (fun q=>(Int.not_lt.1 (of_decide_eq_false q))))) (fun q=>⟨(ne_of_beq_false (b8 q)),(ne_of_beq_false (di q))⟩))
   refine cq [0,7,8,9] 68 (((((((I s i).toNat:Int)==92)&&(decide (i+3<(s.length:Int))))&&(((I s (i+1)).toNat:Int)==120))&&(decide (0≤Lib.indexByte hV (I s (i+2)))))&&(decide (0≤Lib.indexByte hV (I s (i+3))))) ?_ ?_
   · repeat' first
      |exact ⟨⟨_,rfl,by grind [bD.val]⟩,rfl⟩
      |refine ah (fun _=>?_) (fun _=>?_)
      |refine ah (by omega) ?_
      |refine b2 (fun _=>x7 (I s (i+2))) rfl ?_
      |refine b2 (fun _=>x7 (I s (i+3))) rfl ?_
   refine ah (fun aY=>?_) (fun aY=>?_)
   · replace aY:((((((I s i).toNat:Int)=92)∧(i+3<(s.length:Int)))∧(((I s (i+1)).toNat:Int)=120))∧(0≤Lib.indexByte hV (I s (i+2))))∧(0≤Lib.indexByte hV (I s (i+3))):=⟨⟨⟨⟨(eq_of_beq (eO (eO (eO (eO aY))))),(of_decide_eq_true (fk (eO (eO (eO aY)))))⟩,(eq_of_beq (fk (eO (eO aY))))⟩,(of_decide_eq_true (fk (eO aY)))⟩,(of_decide_eq_true (fk aY))⟩
     refine ah (by omega) ?_
     refine ah (by omega) ?_
     refine ih (fun _=>x7 (I s (i+2))) ?_
     refine ah (by omega) ?_
     refine ah (by omega) ?_
     refine ah (by omega) ?_
     refine ih (fun _=>x7 (I s (i+3))) ?_
     refine ap oY b ([(qZ (IntKind.i64.wrap (BitVec.ofInt IntKind.i64.bits (IntKind.i64.wrap ((Lib.indexByte hV (I s (i+2)))*2^(min (Int.toNat 4) IntKind.i64.bits))) ||| BitVec.ofInt IntKind.i64.bits (Lib.indexByte hV (I s (i+3)))).toNat))]:List UInt8) rfl rfl (fun _=>⟨rfl,rfl⟩) (by (simp only [List.length_append,List.length_cons,List.length_nil];omega)) ?_
     refine ah (by omega) ?_
     refine ah (by omega) ?_
     refine ⟨(b++([(qZ (IntKind.i64.wrap (BitVec.ofInt IntKind.i64.bits (IntKind.i64.wrap ((Lib.indexByte hV (I s (i+2)))*2^(min (Int.toNat 4) IntKind.i64.bits))) ||| BitVec.ofInt IntKind.i64.bits (Lib.indexByte hV (I s (i+3)))).toNat))]:List UInt8),(i+3)+1),⟨rfl,rfl⟩,?_,?_⟩
     · try dsimp only
       exact ⟨by omega,by omega,by simp;omega,by rw [ay.2.2.2,aO,if_neg aa,if_neg (by omega),if_neg (by omega),if_neg (by omega),if_pos (by omega),u8_or _ _ (by omega) (by omega) (by omega) (by omega)];congr 1;omega⟩
     try dsimp only
     omega
   replace aY:((((((I s i).toNat:Int)≠92)∨((s.length:Int)≤i+3))∨(((I s (i+1)).toNat:Int)≠120))∨(Lib.indexByte hV (I s (i+2))<0))∨(Lib.indexByte hV (I s (i+3))<0):=((fl aY).imp (fun q=>((fl q).imp (fun q=>((fl q).imp (fun q=>((fl q).imp (fun q=>(ne_of_beq_false q)) (fun q=>(Int.not_lt.1 (of_decide_eq_false q))))) (fun q=>(ne_of_beq_false q)))) (fun q=>(Int.not_le.1 (of_decide_eq_false q))))) (fun q=>(Int.not_le.1 (of_decide_eq_false q))))
   refine cq [0,7,8,9] 119 (((((I s i).toNat:Int)==92)||(decide (((I s i).toNat:Int)<32)))||(decide (126<((I s i).toNat:Int)))) ?_ ?_
   · repeat' first
      |exact ⟨⟨_,rfl,by grind [bD.val]⟩,rfl⟩
      |refine ah (fun _=>?_) (fun _=>?_)
   refine ah (fun bG=>?_) (fun bG=>?_)
   · replace bG:((((I s i).toNat:Int)=92)∨(((I s i).toNat:Int)<32))∨(126<((I s i).toNat:Int)):=((dj bG).imp (fun q=>((dj q).imp (fun q=>(eq_of_beq q)) (fun q=>(of_decide_eq_true q)))) (fun q=>(of_decide_eq_true q)))
     refine bh rfl fun _=>df ab ?_
     show vU (gq s (a+1) [])=U.tuple [.str ([]), .int .i64 0, .err 115 4]
     rw [ay.2.2.2,aO,if_neg aa];(repeat' split)<;>first|rfl|omega
   replace bG:((((I s i).toNat:Int)≠92)∧(32≤((I s i).toNat:Int)))∧(((I s i).toNat:Int)≤126):=⟨⟨(ne_of_beq_false (b8 (b8 bG))),(Int.not_lt.1 (of_decide_eq_false (di (b8 bG))))⟩,(Int.not_lt.1 (of_decide_eq_false (di bG)))⟩
   refine ap oY b ([I s i]:List UInt8) rfl rfl (fun _=>⟨rfl,rfl⟩) (by (simp only [List.length_append,List.length_cons,List.length_nil];omega)) ?_
   refine ah (by omega) ?_
   refine ⟨(b++([I s i]:List UInt8),i+1),⟨rfl,rfl⟩,?_,?_⟩
   · try dsimp only
     exact ⟨by omega,by omega,by simp;omega,by rw [ay.2.2.2,aO,if_neg aa,if_neg (by omega),if_pos (by omega)]⟩
   try dsimp only
   omega
 refine bh rfl fun _=>df ab ?_
 show vU (gq s (a+1) [])=U.tuple [.str ([]), .int .i64 0, .err 115 4]
 rw [ay.2.2.2,Qa J];rfl
end Go.Proofs
end
section
namespace Go.Proofs
open Go Go.ba Go.bV
set_option maxRecDepth 100000
def gr (s:List UInt8) (a:Int):Int×List UInt8×Int×Int:=
 if oH (I s a)=true then
  (if 12<ez ku s a- a then (0,[],0,1) else (1,sub s a (ez ku s a),ez ku s a,0))
 else if ga (I s a)=true then
  (if 10<ez ga s a- a∨(((I s a).toNat:Int)=48∧a+1<ez ga s a) then (0,[],0,1) else (2,sub s a (ez ga s a),ez ga s a,0))
 else if ((I s a).toNat:Int)=34 then
  (if (gq s (a+1) []).1=0 then 3 else 0,(gq s (a+1) []).2.1,(gq s (a+1) []).2.2,(gq s (a+1) []).1)
 else if ((I s a).toNat:Int)=61∧a+1<s.length∧((I s (a+1)).toNat:Int)=61 then (4,[61,61],a+2,0)
 else if 0≤Lib.indexByte vQ (I s a) then (4,sub s a (a+1),a+1,0)
 else (0,[],0,4)
end Go.Proofs
end
section
namespace Go.Proofs
open Go Go.ba Go.bV
set_option maxRecDepth 100000
abbrev Tok:=Int×Int×List UInt8
def ch (t:Tok):U:= .agg [.int .i64 t.1, .int .i64 t.2.1, .str t.2.2]
def hb:Nat→List UInt8→Int→List Tok→List Tok×Int×Int
 |0,_,_,out=>(out,0,0)
 |n+1,s,a,out=>
  if a<s.length then
   if ((I s a).toNat:Int)=32∨((I s a).toNat:Int)=10 then hb n s (a+1) out
   else if ((I s a).toNat:Int)=35 then hb n s (ez pA s a) out
   else if (gr s a).2.2.2≠0 then ([],a,(gr s a).2.2.2)
   else hb n s (gr s a).2.2.1 (out++[((gr s a).1,a,(gr s a).2.1)])
  else (out,0,0)
def e1 (s:List UInt8):List Tok×Int×Int:=if 4000<(s.length:Int) then ([],0,2) else hb (s.length+1) s 0 []
theorem Qf {n:Nat} {s:List UInt8} {a:Int} {out:List Tok} (h:s.length≤a):hb (n+1) s a out=(out,0,0):=by rw [hb,if_neg (by omega)]
theorem Qg {n:Nat} {s:List UInt8} {a:Int} {out:List Tok} (h:a<s.length) (ar:((I s a).toNat:Int)=32∨((I s a).toNat:Int)=10):hb (n+1) s a out=hb n s (a+1) out:=by rw [hb,if_pos h,if_pos ar]
theorem Qh {n:Nat} {s:List UInt8} {a:Int} {out:List Tok} (h:a<s.length) (ar:((I s a).toNat:Int)=35):hb (n+1) s a out=hb n s (ez pA s a) out:=by rw [hb,if_pos h,if_neg (by omega),if_pos ar]
theorem Qi {n:Nat} {s:List UInt8} {a:Int} {out:List Tok} (h:a<s.length) (ar:¬(((I s a).toNat:Int)=32∨((I s a).toNat:Int)=10)) (aY:((I s a).toNat:Int)≠35) (he:(gr s a).2.2.2≠0):hb (n+1) s a out=([],a,(gr s a).2.2.2):=by
 rw [hb,if_pos h,if_neg ar,if_neg aY,if_pos he]
theorem Qj {n:Nat} {s:List UInt8} {a:Int} {out:List Tok} (h:a<s.length) (ar:¬(((I s a).toNat:Int)=32∨((I s a).toNat:Int)=10)) (aY:((I s a).toNat:Int)≠35) (he:(gr s a).2.2.2=0):
 hb (n+1) s a out=hb n s (gr s a).2.2.1 (out++[((gr s a).1,a,(gr s a).2.1)]):=by
 rw [hb,if_pos h,if_neg ar,if_neg aY,if_neg (by simpa using he)]
theorem GZ (s:List UInt8) (i:Nat) (b:List UInt8):0≤(nr s i b).1∧((nr s i b).1=0→(i:Int)<(nr s i b).2.2∧(nr s i b).2.2≤s.length):=by
 fun_induction nr s i b<;>simp_all<;>omega
theorem G0 (s:List UInt8) (a:Int) (aG:0≤a) (b:List UInt8):0≤(gq s a b).1∧((gq s a b).1=0→a<(gq s a b).2.2∧(gq s a b).2.2≤s.length):=by
 have:=GZ s a.toNat b
 rw [gq]
 refine ⟨this.1,fun h=>?_⟩
 have:=this.2 h
 omega
theorem Qk (s:List UInt8) (a:Int):0≤(gr s a).2.2.2:=by
 unfold gr
 split
 · split<;>simp
 · split
   · split<;>simp
   · split
     · rw [gq];exact (GZ _ _ _).1
     · split
       · simp
       · split<;>simp
theorem Ql {s:List UInt8} {a:Int} (aG:0≤a) (aX:a<s.length) (he:(gr s a).2.2.2=0):a<(gr s a).2.2.1∧(gr s a).2.2.1≤s.length:=by
 have hw:=vS ku (s:=s) aG (by omega)
 have bo:=vS ga (s:=s) aG (by omega)
 have Qm:oH (I s a)=true→a+1≤ez ku s a:=fun av=>by
  rw [tg aG aX (by simp [ku,av])];exact th _ (by omega)
 have x4:ga (I s a)=true→a+1≤ez ga s a:=fun av=>by
  rw [tg aG aX av];exact th _ (by omega)
 unfold gr at he ⊢
 split
 · next av=>
   have:=Qm av
   split<;>simp_all<;>omega
 · split
   · next av=>
     have:=x4 av
     split<;>simp_all<;>omega
   · split
     · next UP=>
       simp_all
       have:=(G0 s (a+1) (by omega) []).2 he
       omega
     · split
       · simp;omega
       · split<;>simp_all<;>omega
end Go.Proofs
end
section
namespace Go.Proofs
open Go Go.ba Go.bV
set_option maxRecDepth 100000
theorem G1 (s:List UInt8) (a:Int) (aG:0≤a) (k:Nat):(s.drop a.toNat).getD k 0=I s (a+k):=by
 obtain ⟨n,rfl⟩:=Int.eq_ofNat_of_zero_le aG
 have:((n:Int)+(k:Int))=((n+k:Nat):Int):=by simp
 rw [this,vR]
 simp [List.getD_eq_getElem?_getD]
theorem G2 {c:UInt8} {n:Nat} (h:(c.toNat:Int)=n) (aI:n<256):c=UInt8.ofNat n:=by
 apply UInt8.toNat_inj.1
 simp [Nat.mod_eq_of_lt aI];omega
theorem BS (t:List UInt8):Lib.hasPrefix t [61,61]=true↔2≤t.length∧t.getD 0 0=61∧t.getD 1 0=61:=by
 match t with
 |[]=>simp [Lib.hasPrefix]
 |[x]=>simp [Lib.hasPrefix]
 |x::y::r=>simp [Lib.hasPrefix];try exact ⟨fun h=>⟨h.1.symm,h.2.symm⟩,fun h=>⟨h.1.symm,h.2.symm⟩⟩
theorem G3 (s:List UInt8) (a:Int) (aG:0≤a) (aX:a<s.length):sub s a s.length=s.drop a.toNat:=by
 unfold sub
 rw [List.take_of_length_le]
 simp;omega
theorem Qn {s:List UInt8} {a:Int} (aG:0≤a) (aX:a<s.length) (J:¬oH (I s a)=true) (aa:¬ga (I s a)=true) (ai:((I s a).toNat:Int)≠34):
 gr s a=if jh (sub s a s.length)=0 then (0,[],0,4) else (4,sub s a (a+jh (sub s a s.length)),a+jh (sub s a s.length),0):=by
 rw [gr,if_neg J,if_neg aa,if_neg ai,G3 s a aG aX]
 have bA:=G1 s a aG 0
 have aM:=G1 s a aG 1
 have z0:a+((0:Nat):Int)=a:=by omega
 have rl:a+((1:Nat):Int)=a+1:=by omega
 rw [z0] at bA
 rw [rl] at aM
 have av:(s.drop a.toNat).length=s.length- a.toNat:=by simp
 have bo:=drop_cons (s:=s) (i:=a.toNat) (by omega)
 by_cases aU:Lib.hasPrefix (s.drop a.toNat) [61,61]=true
 · have aO:=(BS _).1 aU
   rw [bA,aM] at aO
   rw [jh,if_pos aU,if_pos ⟨by rw [aO.2.1];rfl,by omega,by rw [aO.2.2];rfl⟩]
   have x4:=drop_cons (s:=s) (i:=a.toNat+1) (by omega)
   have g0:s.getD a.toNat 0=61:=aO.2.1
   have g1:s.getD (a.toNat+1) 0=61:=by
    have:=aO.2.2
    rw [I] at this
    have e:(a+1).toNat=a.toNat+1:=by omega
    rw [e] at this;exact this
   have:sub s a (a+2)=[61,61]:=by
    unfold sub
    rw [bo,x4,g0,g1]
    have:(a+2- a).toNat=2:=by omega
    rw [this];rfl
   simp [this]
 · have aI:¬(((I s a).toNat:Int)=61∧a+1<s.length∧((I s (a+1)).toNat:Int)=61):=by
    intro aT
    apply aU
    rw [BS,bA,aM]
    refine ⟨by omega,?_,?_⟩
    · exact G2 (n:=61) aT.1 (by omega)
    · exact G2 (n:=61) aT.2.2 (by omega)
   rw [if_neg aI,jh,if_neg aU,bA]
   by_cases ad:0≤Lib.indexByte vQ (I s a)
   · simp [ad]
   · simp [ad]
theorem Qo {s:List UInt8} {a:Int} (h:oH (I s a)=true):gr s a=if 12<ez ku s a- a then (0,[],0,1) else (1,sub s a (ez ku s a),ez ku s a,0):=by rw [gr,if_pos h]
theorem Qp {s:List UInt8} {a:Int} (J:¬oH (I s a)=true) (h:ga (I s a)=true):gr s a=if 10<ez ga s a- a∨(((I s a).toNat:Int)=48∧a+1<ez ga s a) then (0,[],0,1) else (2,sub s a (ez ga s a),ez ga s a,0):=by rw [gr,if_neg J,if_pos h]
theorem Qq {s:List UInt8} {a:Int} (h:((I s a).toNat:Int)=34):gr s a=(if (gq s (a+1) []).1=0 then 3 else 0,(gq s (a+1) []).2.1,(gq s (a+1) []).2.2,(gq s (a+1) []).1):=by
 rw [gr,if_neg (fun ag=>by have:=P4.1 ag;omega),if_neg (fun ag=>by have:=GW.1 ag;omega),if_pos h]
theorem Qr (t:List UInt8):0≤jh t∧jh t≤2:=by unfold jh;split<;>(try split)<;>simp
theorem Qs {s:List UInt8} {a:Int} (aG:0≤a) (aX:a<s.length):a+jh (sub s a s.length)≤s.length:=by
 rw [G3 s a aG aX]
 unfold jh
 split
 · next h=>have:=((BS _).1 h).1;simp at this;omega
 · split<;>omega
theorem x8 {n:Nat} {s:List UInt8} {a:Int} {out:List Tok} {k:Int} {t:List UInt8} {e:Int} (h:a<s.length) (ar:¬(((I s a).toNat:Int)=32∨((I s a).toNat:Int)=10)) (aY:((I s a).toNat:Int)≠35) (he:gr s a=(k,t,e,0)):
 hb (n+1) s a out=hb n s e (out++[(k,a,t)]):=by rw [Qj h ar aY (by rw [he]),he]
theorem x9 {n:Nat} {s:List UInt8} {a:Int} {out:List Tok} {k:Int} {t:List UInt8} {e f:Int} (h:a<s.length) (ar:¬(((I s a).toNat:Int)=32∨((I s a).toNat:Int)=10)) (aY:((I s a).toNat:Int)≠35) (he:gr s a=(k,t,e,f)) (aN:f≠0):
 hb (n+1) s a out=([],a,f):=by rw [Qi h ar aY (by rw [he];exact aN),he]
theorem BT (s:aD) (a:Int) (g:FuncId) (f:UInt8→Bool) (aG:0≤a) (aX:a≤s.length) (al:s.length≤140737488355328) (aN:∀c m,sg Tryz.prog g [.int .u8 (c:UInt8).toNat] m (.bool (f c))) (m:ae) (K:U→ae→Prop) (ab:K (.int .i64 (ez f s a)) m):bg Tryz.prog 119 [.str s, .int .i64 a, .func (.func g) [] []] m K:=by
 refine enter (c:=cX [] [] [1] [] [] []) (vs:=[.aH (.str s), .aH (.int .i64 a), .fn g [] []]) (L:=[]) (m:=m) false b9 Tryz.mixed Tryz.func119 rfl (k:=3) (by show cu [] _ _ _=true;decide+kernel) rfl (Good.nil m) ?_
 refine az ?_
 refine b7 (σ:=Int) [] [0,1,2] 0 (fun at_=>([(0,aw s),(1,aj at_),(2, .fn g [] [])],[],m)) (fun at_=>0≤at_∧at_≤s.length∧ez f s a=ez f s at_) (fun at_=>s.length- at_.toNat) (a) ⟨rfl,rfl⟩ ?_ ?_
 · try dsimp only
   exact ⟨by omega,by omega,rfl⟩
 rintro at_ ay
 refine az ?_
 refine cq [0,1,2] 17 ((decide (at_<(s.length:Int)))&&(f (I s at_))) ?_ ?_
 · repeat' first
    |exact ⟨⟨_,rfl,by grind [bD.val]⟩,rfl⟩
    |refine ah (fun _=>?_) (fun _=>?_)
    |refine ah (by omega) ?_
    |refine b2 (fun _=>aN (I s at_)) rfl ?_
 refine ah (fun J=>?_) (fun J=>?_)
 · replace J:(at_<(s.length:Int))∧(f (I s at_)=true):=⟨(of_decide_eq_true (eO J)),(fk J)⟩
   refine ah (by omega) ?_
   refine ⟨(at_+1),⟨rfl,rfl⟩,?_,?_⟩
   · try dsimp only
     exact ⟨by omega,by omega,by rw [ay.2.2];exact tg ay.1 J.1 J.2⟩
   try dsimp only
   omega
 replace J:((s.length:Int)≤at_)∨(f (I s at_)=false):=((fl J).imp (fun q=>(Int.not_lt.1 (of_decide_eq_false q))) (fun q=>q))
 refine bh rfl fun _=>df ab ?_
 show U.int .i64 (ez f s a)=U.int .i64 at_
 refine congrArg (U.int .i64) ?_
 rw [ay.2.2];exact P3 ay.1 (fun av=>by rcases J with J|J;(omega);exact J)
set_option maxHeartbeats 2000000 in
theorem Qt (s:aD) (al:s.length≤16777216) (m:ae) (K:U→ae→Prop) (ab:K (.tuple [.slice false ((e1 s).1.map ch), .int .i64 (e1 s).2.1, .err 115 (e1 s).2.2]) m):bg Tryz.prog 64 [.str s] m K:=by
 refine bg.pl ?_
 refine enter (c:=cX [] [] [12,24] [] [] []) (vs:=[.aH (.str s)]) (L:=[]) (m:=m) true b9 Tryz.mixed Tryz.func64 rfl (k:=1) (by show cu [] _ _ _=true;decide+kernel) rfl (Good.nil m) ?_
 refine az ?_
 refine ah (fun J=>?_) (fun J=>?_)
 · refine bh rfl fun _=>?_
   show K (.tuple [.slice false [], .int .i64 0, .err 115 2]) m
   refine df ab ?_
   show U.tuple [.slice false ((e1 s).1.map ch), .int .i64 (e1 s).2.1, .err 115 (e1 s).2.2]=U.tuple [.slice false [], .int .i64 0, .err 115 2]
   rw [e1,if_pos J];rfl
 have fw:e1 s=hb (s.length+1) s 0 []:=by rw [e1,if_neg (by omega)]
 refine az ?_
 refine b7 (σ:=(List Tok)×Int) [] [0,5,6] 0 (fun ⟨out,at_⟩=>([(0,aw s),(5, .own (out.map ch)),(6,aj at_)],[],m)) (fun ⟨out,at_⟩=>0≤at_∧at_≤s.length∧(out.length:Int)≤at_∧∃n:Nat,s.length- at_<n∧hb (s.length+1) s 0 []=hb n s at_ out) (fun ⟨out,at_⟩=>s.length- at_.toNat) ([],0) ⟨rfl,rfl⟩ ?_ ?_
 · try dsimp only
   exact ⟨by omega,by omega,by simp,s.length+1,by omega,rfl⟩
 rintro ⟨out,at_⟩ ay
 dsimp only at ay
 obtain ⟨n,aI,aB⟩:=ay.2.2.2
 refine az ?_
 refine ah (fun aa=>?_) (fun aa=>?_)
 · obtain ⟨n,rfl⟩:∃k,n=k+1:=⟨n- 1,by omega⟩
   refine ah (by omega) ?_
   refine cq [0,5,6,7] 47 ((((I s at_).toNat:Int)==32)||(((I s at_).toNat:Int)==10)) ?_ ?_
   · repeat' first
      |exact ⟨⟨_,rfl,by grind [bD.val]⟩,rfl⟩
      |refine ah (fun _=>?_) (fun _=>?_)
   refine ah (fun ai=>?_) (fun ai=>?_)
   · replace ai:(((I s at_).toNat:Int)=32)∨(((I s at_).toNat:Int)=10):=((dj ai).imp (fun q=>(eq_of_beq q)) (fun q=>(eq_of_beq q)))
     refine ah (by omega) ?_
     refine ⟨(out,at_+1),⟨rfl,rfl⟩,?_,?_⟩
     · try dsimp only
       exact ⟨by omega,by omega,by omega,n,by omega,by rw [aB,Qg aa ai]⟩
     try dsimp only
     omega
   replace ai:(((I s at_).toNat:Int)≠32)∧(((I s at_).toNat:Int)≠10):=⟨(ne_of_beq_false (b8 ai)),(ne_of_beq_false (di ai))⟩
   refine ah (fun aJ=>?_) (fun aJ=>?_)
   · have au:=vS pA (s:=s) ay.1 (by omega)
     have bl:at_+1≤ez pA s at_:=by rw [tg ay.1 aa (by simp [pA];omega)];exact th _ (by omega)
     refine b2 (fun _=>BT s at_ 120 pA (by omega) (by omega) (by omega) (fun c m K ab=>P5 c m K ab)) rfl ?_
     refine ⟨(out,ez pA s at_),⟨rfl,rfl⟩,?_,?_⟩
     · try dsimp only
       exact ⟨by omega,by omega,by omega,n,by omega,by rw [aB,Qh aa aJ]⟩
     try dsimp only
     omega
   refine b2 (fun _=>GX (I s at_)) rfl ?_
   refine ah (fun aY=>?_) (fun aY=>?_)
   · have au:=vS ku (s:=s) ay.1 (by omega)
     have bl:at_+1≤ez ku s at_:=by rw [tg ay.1 aa (by simp [ku,aY])];exact th _ (by omega)
     have aM:=Qo aY
     refine b2 (fun _=>BT s at_ 122 ku (by omega) (by omega) (by omega) (fun c m K ab=>P6 c m K ab)) rfl ?_
     refine az ?_
     refine ah (by omega) ?_
     refine ah (fun bG=>?_) (fun bG=>?_)
     · refine bh rfl fun _=>?_
       show K (.tuple [.slice false [], .int .i64 at_, .err 115 1]) m
       refine df ab ?_
       show U.tuple [.slice false ((e1 s).1.map ch), .int .i64 (e1 s).2.1, .err 115 (e1 s).2.2]=U.tuple [.slice false [], .int .i64 at_, .err 115 1]
       rw [fw,aB,x9 aa (by omega) aJ (aM.trans (if_pos bG)) (by omega)];rfl
     refine ah (by dsimp only [Option.getD_some,Option.getD_none];omega) ?_
     refine ap ch out ([(⟨1,at_,sub s at_ (ez ku s at_)⟩:Tok)]:List Tok) rfl rfl (fun _=>⟨rfl,rfl⟩) (by (simp only [List.length_append,List.length_cons,List.length_nil];omega)) ?_
     refine ⟨(out++([(⟨1,at_,sub s at_ (ez ku s at_)⟩:Tok)]:List Tok),ez ku s at_),⟨rfl,rfl⟩,?_,?_⟩
     · try dsimp only
       exact ⟨by omega,by omega,by simp;omega,n,by omega,by rw [aB,x8 aa (by omega) aJ (aM.trans (if_neg (by omega)))]⟩
     try dsimp only
     omega
   refine b2 (fun _=>BR (I s at_)) rfl ?_
   refine ah (fun c7=>?_) (fun c7=>?_)
   · have au:=vS ga (s:=s) ay.1 (by omega)
     have bl:at_+1≤ez ga s at_:=by rw [tg ay.1 aa c7];exact th _ (by omega)
     have aM:=Qp (by rw [aY];simp) c7
     refine b2 (fun _=>BT s at_ 123 ga (by omega) (by omega) (by omega) (fun c m K ab=>BR c m K ab)) rfl ?_
     refine az ?_
     refine cq [0,5,6,9] 103 ((decide (10<(ez ga s at_)- at_))||((((I s at_).toNat:Int)==48)&&(decide (1<(ez ga s at_)- at_)))) ?_ ?_
     · repeat' first
        |exact ⟨⟨_,rfl,by grind [bD.val]⟩,rfl⟩
        |refine ah (fun _=>?_) (fun _=>?_)
        |refine ah (by omega) ?_
     refine ah (fun cV=>?_) (fun cV=>?_)
     · replace cV:(10<(ez ga s at_)- at_)∨((((I s at_).toNat:Int)=48)∧(1<(ez ga s at_)- at_)):=((dj cV).imp (fun q=>(of_decide_eq_true q)) (fun q=>⟨(eq_of_beq (eO q)),(of_decide_eq_true (fk q))⟩))
       refine bh rfl fun _=>?_
       show K (.tuple [.slice false [], .int .i64 at_, .err 115 1]) m
       refine df ab ?_
       show U.tuple [.slice false ((e1 s).1.map ch), .int .i64 (e1 s).2.1, .err 115 (e1 s).2.2]=U.tuple [.slice false [], .int .i64 at_, .err 115 1]
       rw [fw,aB,x9 aa (by omega) aJ (aM.trans (if_pos (by omega))) (by omega)];rfl
     replace cV:((ez ga s at_)- at_≤10)∧((((I s at_).toNat:Int)≠48)∨((ez ga s at_)- at_≤1)):=⟨(Int.not_lt.1 (of_decide_eq_false (b8 cV))),((fl (di cV)).imp (fun q=>(ne_of_beq_false q)) (fun q=>(Int.not_lt.1 (of_decide_eq_false q))))⟩
     refine ah (by dsimp only [Option.getD_some,Option.getD_none];omega) ?_
     refine ap ch out ([(⟨2,at_,sub s at_ (ez ga s at_)⟩:Tok)]:List Tok) rfl rfl (fun _=>⟨rfl,rfl⟩) (by (simp only [List.length_append,List.length_cons,List.length_nil];omega)) ?_
     refine ⟨(out++([(⟨2,at_,sub s at_ (ez ga s at_)⟩:Tok)]:List Tok),ez ga s at_),⟨rfl,rfl⟩,?_,?_⟩
     · try dsimp only
       exact ⟨by omega,by omega,by simp;omega,n,by omega,by rw [aB,x8 aa (by omega) aJ (aM.trans (if_neg (by omega)))]⟩
     try dsimp only
     omega
   refine ah (fun cU=>?_) (fun cU=>?_)
   · have aO:=G0 s (at_+1) (by omega) []
     have aM:=Qq cU
     refine b2 (fun _=>Qe s at_ (by omega) (by omega) (by omega)) rfl ?_
     refine az ?_
     refine ah (fun eH=>?_) (fun eH=>?_)
     · have UQ:=aO.2 eH
       have aC:gr s at_=(3,(gq s (at_+1) []).2.1,(gq s (at_+1) []).2.2,0):=by rw [aM,eH];rfl
       refine ap ch out ([(⟨3,at_,(gq s (at_+1) []).2.1⟩:Tok)]:List Tok) rfl rfl (fun _=>⟨rfl,rfl⟩) (by (simp only [List.length_append,List.length_cons,List.length_nil];omega)) ?_
       refine ⟨(out++([(⟨3,at_,(gq s (at_+1) []).2.1⟩:Tok)]:List Tok),(gq s (at_+1) []).2.2),⟨rfl,rfl⟩,?_,?_⟩
       · try dsimp only
         exact ⟨by omega,by omega,by simp;omega,n,by omega,by rw [aB,x8 aa (by omega) aJ aC]⟩
       try dsimp only
       omega
     refine bh rfl fun _=>?_
     show K (.tuple [.slice false [], .int .i64 at_, .err 115 ((gq s (at_+1) []).1)]) m
     refine df ab ?_
     show U.tuple [.slice false ((e1 s).1.map ch), .int .i64 (e1 s).2.1, .err 115 (e1 s).2.2]=U.tuple [.slice false [], .int .i64 at_, .err 115 ((gq s (at_+1) []).1)]
     rw [fw,aB,x9 aa (by omega) aJ aM eH];rfl
   have aM:=Qn ay.1 aa (by rw [aY];simp) (by rw [c7];simp) cU
   have UR:=Qr (sub s at_ s.length)
   refine ah (by dsimp only [Option.getD_some,Option.getD_none];omega) ?_
   refine b2 (fun _=>P7 (sub s at_ (s.length:Int)) (by simp [sub];omega)) rfl ?_
   refine az ?_
   refine ah (fun fF=>?_) (fun fF=>?_)
   · refine bh rfl fun _=>?_
     show K (.tuple [.slice false [], .int .i64 at_, .err 115 4]) m
     refine df ab ?_
     show U.tuple [.slice false ((e1 s).1.map ch), .int .i64 (e1 s).2.1, .err 115 (e1 s).2.2]=U.tuple [.slice false [], .int .i64 at_, .err 115 4]
     rw [fw,aB,x9 aa (by omega) aJ (aM.trans (if_pos fF)) (by omega)];rfl
   have US:at_+jh (sub s at_ s.length)≤s.length:=by
    rcases ay.2.1 with aT
    exact Qs ay.1 aa
   refine ah (by omega) ?_
   refine ah (by dsimp only [Option.getD_some,Option.getD_none];omega) ?_
   refine ap ch out ([(⟨4,at_,sub s at_ (at_+(jh (sub s at_ (s.length:Int))))⟩:Tok)]:List Tok) rfl rfl (fun _=>⟨rfl,rfl⟩) (by (simp only [List.length_append,List.length_cons,List.length_nil];omega)) ?_
   refine ah (by omega) ?_
   refine ⟨(out++([(⟨4,at_,sub s at_ (at_+(jh (sub s at_ (s.length:Int))))⟩:Tok)]:List Tok),at_+(jh (sub s at_ (s.length:Int)))),⟨rfl,rfl⟩,?_,?_⟩
   · try dsimp only
     exact ⟨by omega,by omega,by simp;omega,n,by omega,by rw [aB,x8 aa (by omega) aJ (aM.trans (if_neg fF))]⟩
   try dsimp only
   omega
 obtain ⟨n,rfl⟩:∃k,n=k+1:=⟨n- 1,by omega⟩
 refine bh rfl fun _=>?_
 show K (.tuple [.slice false (out.map ch), .int .i64 0, .err 115 0]) m
 refine df ab ?_
 show U.tuple [.slice false ((e1 s).1.map ch), .int .i64 (e1 s).2.1, .err 115 (e1 s).2.2]=U.tuple [.slice false (out.map ch), .int .i64 0, .err 115 0]
 rw [fw,aB,Qf aa]
end Go.Proofs
end
section
namespace Go.Proofs
open Go Go.ba Go.bV
set_option maxRecDepth 100000
theorem Qu (n:Nat) (s:List UInt8) (a:Int) (out:List Tok):0≤(hb n s a out).2.2:=by
 fun_induction hb n s a out<;>simp_all [Qk]
theorem Qv (s:List UInt8):0≤(e1 s).2.2:=by
 unfold e1;split
 · simp
 · exact Qu _ _ _ _
theorem Qw (n:Nat) (s:List UInt8) (a:Int) (out:List Tok):(hb n s a out).1.length≤out.length+n:=by
 fun_induction hb n s a out<;>simp_all<;>omega
theorem Qx (s:List UInt8):(e1 s).1.length≤4001:=by
 unfold e1;split
 · simp
 · have:=Qw (s.length+1) s 0 []
   simp at this;omega
structure bR (α:Type) where
 f:Int
 p:Int
 x:α
 a:Int
def bR.ok {α:Type} (x:α) (a:Int):bR α:=⟨0,0,x,a⟩
def bR.bad {α:Type} [Inhabited α] (f p:Int):bR α:=⟨f,p,default,0⟩
def bR.bind {α β:Type} [Inhabited β] (p:bR α) (g:α→Int→bR β):bR β:=if p.f=0 then g p.x p.a else .bad p.f p.p
structure Qy {α:Type} (p:bR α) (x:α) (a e q:Int):Prop where
 f:e=p.f
 y:e=0→x=p.x∧a=p.a
 z:e≠0→q=p.p
structure bx (l:List Tok) {α:Type} (p:bR α) (x:α) (a e q cR cD cY:Int):Prop where
 ok:e=0→Qy p x cR cD cY
 st:e≠0→cR=a∧cD=e∧cY=q
 bw:a≤cR
 ad:cR≤l.length
 cm:0≤cD
 gt:cD=0→a<cR
section
variable {l:List Tok} {α β:Type} {p:bR α} {x:α} {a e q cn aM cM a2 aC bI:Int}
theorem bx.bind [Inhabited β] {g:α→Int→bR β} {y:β} (h5:bx l p x a e q cn aM cM) (hU:bx l (g x cn) y cn aM cM a2 aC bI):bx l (p.bind g) y a e q a2 aC bI:=by
 refine ⟨fun he=>?_,fun he=>?_,Int.le_trans h5.bw hU.bw,hU.ad,hU.cm,fun h=>?_⟩
 · have J:=h5.ok he
   by_cases ao:aM=0
   · obtain ⟨rfl,rfl⟩:=J.y ao
     have:=hU.ok ao
     rw [bR.bind,if_pos (by rw [←J.f];exact ao)];exact this
   · obtain ⟨_,rfl,rfl⟩:=hU.st ao
     rw [bR.bind,if_neg (by rw [←J.f];exact ao)]
     exact ⟨J.f,fun h=>absurd h ao,fun _=>J.z ao⟩
 · obtain ⟨rfl,rfl,rfl⟩:=h5.st he
   exact hU.st he
 · by_cases ao:aM=0
   · have:=h5.gt ao;have:=hU.bw;omega
   · obtain ⟨_,rfl,_⟩:=hU.st ao;exact absurd h ao
theorem bx.map [Inhabited β] (f:α→β) (h5:bx l p x a e q cn aM cM):bx l (p.bind fun s a=> .ok (f s) a) (f x) a e q cn aM cM:=by
 refine ⟨fun he=>?_,h5.st,h5.bw,h5.ad,h5.cm,h5.gt⟩
 have J:=h5.ok he
 by_cases ao:aM=0
 · obtain ⟨rfl,rfl⟩:=J.y ao
   rw [bR.bind,if_pos (by rw [←J.f];exact ao)]
   exact ⟨ao,fun _=>⟨rfl,rfl⟩,fun h=>absurd ao h⟩
 · rw [bR.bind,if_neg (by rw [←J.f];exact ao)]
   exact ⟨J.f,fun h=>absurd h ao,fun _=>J.z ao⟩
theorem bx.bad [Inhabited α] {f s:Int} (x:α) (aG:a≤l.length) (J:e=0→aC=f∧bI=s) (aa:e≠0→aC=e∧bI=q) (ai:0<aC):bx l (.bad f s:bR α) x a e q a aC bI:=
 ⟨fun he=>⟨(J he).1,fun h=>by omega,fun _=>(J he).2⟩,fun he=>⟨rfl,aa he⟩,Int.le_refl _,aG,by omega,fun h=>by omega⟩
theorem bx.one {x:α} (aG:a<l.length) (he:e=0):bx l (.ok x (a+1):bR α) x a e q (a+1) e q:=
 ⟨fun he=>⟨he,fun _=>⟨rfl,rfl⟩,fun h=>absurd he h⟩,fun h=>absurd he h,by omega,by omega,by omega,fun _=>by omega⟩
theorem bx.from {b:Int} (he:e=0) (ag:b≤a) (h5:bx l p x a e q cn aM cM):bx l p x b e q cn aM cM:=
 ⟨h5.ok,fun h=>absurd he h,Int.le_trans ag h5.bw,h5.ad,h5.cm,fun h=>by have:=h5.gt h;omega⟩
end
abbrev bp (l:List Tok) (n a e q:Int):bu:= .cells [an (l.map ch),aj a,aj n, .aH (.err 115 e),aj q]
def dm (l:List Tok) (n a:Int):Int:=if a<l.length then (I l a).2.1 else n
def cI (l:List Tok) (k:Int) (s:aD) (a:Int):Bool:=decide (a<l.length)&&((I l a).1==k)&&((s==[])||((I l a).2.2==s))
def mx (l:List Tok) (k:Int) (s:aD) (a e:Int):Bool:=(e==0)&&cI l k s a
theorem il {l:List Tok} {k:Int} {s:aD} {a:Int} (h:cI l k s a=true):a<l.length:=by
 simp only [cI,Bool.and_eq_true,decide_eq_true_eq] at h;exact h.1.1
theorem qs {l:List Tok} {k:Int} {s:aD} {a e:Int} (h:mx l k s a e=true):e=0∧cI l k s a=true:=by
 simpa [mx] using h
theorem rD {l:List Tok} {k:Int} {s:aD} {a e:Int} (h:mx l k s a e=false):e=0→cI l k s a=false:=by
 intro aa;subst aa;simpa [mx] using h
def cK (l:List Tok) (n k:Int) (s:aD) (a:Int):bR aD:=if cI l k s a=true then .ok (I l a).2.2 (a+1) else .bad 5 (dm l n a)
def rE (l:List Tok) (n a:Int):bR (aD×aD):=
 (cK l n 4 [46] a).bind fun _ a=>(cK l n 1 [] a).bind fun s a=>(cK l n 4 [46] a).bind fun _ a=>(cK l n 1 [] a).bind fun t a=> .ok (s,t) a
theorem BU (l:List Tok) (n a e q:Int) (r:Nat) (av:l.length≤5000) (aG:0≤a) (aX:a≤l.length) (m:ae) (gd:eE [r] m) (K:U→ae→Prop) (ab:K (.int .i64 (dm l n a)) (ae.bf m [(r, .cells [.slice false (l.map ch), .int .i64 a, .int .i64 n, .err 115 e, .int .i64 q])])):bg Tryz.prog 126 [.ptr ⟨r,0,none⟩] (ae.bf m [(r, .cells [.slice false (l.map ch), .int .i64 a, .int .i64 n, .err 115 e, .int .i64 q])]) K:=by
 refine enter (c:=cX [] [] [] [] [] [r]) (vs:=[.loc 0 0]) (L:=[bp l n a e q]) (m:=m) false b9 Tryz.mixed Tryz.func126 rfl (k:=1) (by show cu [] _ _ _=true;decide+kernel) rfl (gd.hn rfl) ?_
 refine az ?_
 refine br ?_
 refine ah (fun J=>?_) (fun J=>?_)
 · refine ck (by omega) ?_
   refine rt rfl fun _=>df ab ?_
   show U.int .i64 (dm l n a)=U.int .i64 ((I l a).2.1)
   refine congrArg (U.int .i64) ?_
   rw [dm,if_pos J]
 refine rt rfl fun _=>df ab ?_
 show U.int .i64 (dm l n a)=U.int .i64 n
 refine congrArg (U.int .i64) ?_
 rw [dm,if_neg (by omega)]
theorem oI (l:List Tok) (n a e q:Int) (f:Int) (r:Nat) (aN:0<f) (av:l.length≤5000) (aG:0≤a) (aX:a≤l.length) (he:0≤e) (m:ae) (gd:eE [r] m) (K:U→ae→Prop) (fj:e=0→K (.tuple []) (ae.bf m [(r, .cells [.slice false (l.map ch), .int .i64 a, .int .i64 n, .err 115 f, .int .i64 (dm l n a)])])) (ej:e≠0→K (.tuple []) (ae.bf m [(r, .cells [.slice false (l.map ch), .int .i64 a, .int .i64 n, .err 115 e, .int .i64 q])])):bg Tryz.prog 66 [.ptr ⟨r,0,none⟩, .err 115 f] (ae.bf m [(r, .cells [.slice false (l.map ch), .int .i64 a, .int .i64 n, .err 115 e, .int .i64 q])]) K:=by
 refine enter (c:=cX [] [] [] [] [] [r]) (vs:=[.loc 0 0, .aH (.err 115 f)]) (L:=[bp l n a e q]) (m:=m) false b9 Tryz.mixed Tryz.func66 rfl (k:=2) (by show cu [] _ _ _=true;decide+kernel) rfl (gd.hn rfl) ?_
 refine ah (fun J=>?_) (fun J=>?_)
 · refine gn [0] [bp l n a e q] (aj (dm l n a)) rfl (fun bs aF gd=>BU l n a e q (bs.getD 0 0) av (by omega) (by omega) aF gd) ?_
   refine rt rfl fun _=>?_
   show K (.tuple []) (ae.bf m [(r, .cells [.slice false (l.map ch), .int .i64 a, .int .i64 n, .err 115 f, .int .i64 (dm l n a)])])
   exact fj J
 refine rt rfl fun _=>?_
 show K (.tuple []) (ae.bf m [(r, .cells [.slice false (l.map ch), .int .i64 a, .int .i64 n, .err 115 e, .int .i64 q])])
 exact ej J
theorem ti (l:List Tok) (n a e q:Int) (k:Int) (s:aD) (r:Nat) (av:l.length≤5000) (aG:0≤a) (aX:a≤l.length) (he:0≤e) (m:ae) (gd:eE [r] m) (K:U→ae→Prop) (ab:K (.bool (mx l k s a e)) (ae.bf m [(r, .cells [.slice false (l.map ch), .int .i64 a, .int .i64 n, .err 115 e, .int .i64 q])])):bg Tryz.prog 151 [.ptr ⟨r,0,none⟩, .int .i64 k, .str s] (ae.bf m [(r, .cells [.slice false (l.map ch), .int .i64 a, .int .i64 n, .err 115 e, .int .i64 q])]) K:=by
 refine enter (c:=cX [] [] [1] [] [] [r]) (vs:=[.loc 0 0, .aH (.int .i64 k), .aH (.str s)]) (L:=[bp l n a e q]) (m:=m) false b9 Tryz.mixed Tryz.func151 rfl (k:=3) (by show cu [] _ _ _=true;decide+kernel) rfl (gd.hn rfl) ?_
 refine cq [] 6 ((((e==0)&&(decide (a<(l.length:Int))))&&(((I l a).1)==k))&&((s==([]))||(((I l a).2.2)==s))) ?_ ?_
 · repeat' first
    |exact ⟨⟨_,rfl,by grind [bD.val]⟩,rfl⟩
    |refine ah (fun _=>?_) (fun _=>?_)
    |refine br ?_
    |refine ck (by omega) ?_
 refine rt rfl fun _=>df ab ?_
 show U.bool (mx l k s a e)=U.bool ((((e==0)&&(decide (a<(l.length:Int))))&&(((I l a).1)==k))&&((s==([]))||(((I l a).2.2)==s)))
 refine congrArg U.bool ?_
 grind [mx,cI]
theorem h6 (l:List Tok) (n a e q:Int) (k:Int) (s:aD) (r:Nat) (av:l.length≤5000) (aG:0≤a) (aX:a≤l.length) (he:0≤e) (m:ae) (gd:eE [r] m) (K:U→ae→Prop) (fj:e=0→cI l k s a=true→K (.bool true) (ae.bf m [(r, .cells [.slice false (l.map ch), .int .i64 (a+1), .int .i64 n, .err 115 e, .int .i64 q])])) (ej:(e=0→cI l k s a=false)→K (.bool false) (ae.bf m [(r, .cells [.slice false (l.map ch), .int .i64 a, .int .i64 n, .err 115 e, .int .i64 q])])):bg Tryz.prog 176 [.ptr ⟨r,0,none⟩, .int .i64 k, .str s] (ae.bf m [(r, .cells [.slice false (l.map ch), .int .i64 a, .int .i64 n, .err 115 e, .int .i64 q])]) K:=by
 refine enter (c:=cX [] [] [] [] [] [r]) (vs:=[.loc 0 0, .aH (.int .i64 k), .aH (.str s)]) (L:=[bp l n a e q]) (m:=m) false b9 Tryz.mixed Tryz.func176 rfl (k:=3) (by show cu [] _ _ _=true;decide+kernel) rfl (gd.hn rfl) ?_
 refine az ?_
 refine gn [0] [bp l n a e q] (eY (mx l k s a e)) rfl (fun bs aF gd=>ti l n a e q k s (bs.getD 0 0) av (by omega) (by omega) (by omega) aF gd) ?_
 refine ah (fun J=>?_) (fun J=>?_)
 · have aA:=qs J
   have cl:=il aA.2
   refine ah (by omega) ?_
   refine rt rfl fun _=>?_
   show K (.bool true) (ae.bf m [(r, .cells [.slice false (l.map ch), .int .i64 (a+1), .int .i64 n, .err 115 e, .int .i64 q])])
   exact fj aA.1 aA.2
 refine rt rfl fun _=>?_
 show K (.bool false) (ae.bf m [(r, .cells [.slice false (l.map ch), .int .i64 a, .int .i64 n, .err 115 e, .int .i64 q])])
 exact ej (rD J)
theorem ji (l:List Tok) (n a e q:Int) (k:Int) (s:aD) (r:Nat) (av:l.length≤5000) (aG:0≤a) (aX:a≤l.length) (he:0≤e) (m:ae) (gd:eE [r] m) (K:U→ae→Prop) (ab:∀h1 cR cD cY,bx l (cK l n k s a) h1 a e q cR cD cY→(cD≠0→h1=[])→K (.str h1) (ae.bf m [(r, .cells [.slice false (l.map ch), .int .i64 cR, .int .i64 n, .err 115 cD, .int .i64 cY])])):bg Tryz.prog 149 [.ptr ⟨r,0,none⟩, .int .i64 k, .str s] (ae.bf m [(r, .cells [.slice false (l.map ch), .int .i64 a, .int .i64 n, .err 115 e, .int .i64 q])]) K:=by
 refine enter (c:=cX [] [] [] [] [] [r]) (vs:=[.loc 0 0, .aH (.int .i64 k), .aH (.str s)]) (L:=[bp l n a e q]) (m:=m) false b9 Tryz.mixed Tryz.func149 rfl (k:=3) (by show cu [] _ _ _=true;decide+kernel) rfl (gd.hn rfl) ?_
 refine az ?_
 refine cF 115 [0] (σ:=(Unit) ⊕ (Unit)) (Sum.elim (fun _=>e=0∧cI l k s a=true) (fun _=>e=0→cI l k s a=false)) (Sum.elim (fun _=> .b (.lit true)) (fun _=> .b (.lit false))) (Sum.elim (fun _=>[bp l n (a+1) e q]) (fun _=>[bp l n a e q])) rfl (fun x=>by rcases x with _|_<;>rfl) (fun bs aF gd aB K ab=>h6 l n a e q k s (bs.getD 0 0) av (by omega) (by omega) (by omega) aF gd K (fun z w=>ab (.inl ()) ⟨z,w⟩) (fun z=>ab (.inr ()) z)) ?_
 rintro (_|_) bU
 · try dsimp only [Sum.elim_inl,Sum.elim_inr] at bU
   dsimp only [Sum.elim_inl,Sum.elim_inr]
   have vV:=il bU.2
   refine ah (by omega) ?_
   refine ck (by omega) ?_
   refine rt rfl fun _=>?_
   show K (.str ((I l ((a+1)- 1)).2.2)) (ae.bf m [(r, .cells [.slice false (l.map ch), .int .i64 (a+1), .int .i64 n, .err 115 e, .int .i64 q])])
   rw [show a+1- 1=a by omega]
   refine ab _ _ _ _ ⟨fun _=>?_,fun z=>absurd bU.1 z,by omega,by omega,he,by omega⟩ fun z=>absurd bU.1 z
   constructor<;>grind [cK,bR.ok]
 try dsimp only [Sum.elim_inl,Sum.elim_inr] at bU
 dsimp only [Sum.elim_inl,Sum.elim_inr]
 refine cF 115 [0] (σ:=Int×Int) (fun ⟨dt,dD⟩=>(e=0→dt=5∧dD=dm l n a)∧(e≠0→dt=e∧dD=q)∧0<dt) (fun ⟨dt,dD⟩=> .dw []) (fun ⟨dt,dD⟩=>[bp l n a dt dD]) rfl (fun _=>rfl) (fun bs aF gd aB K ab=>oI l n a e q 5 (bs.getD 0 0) (by decide) av (by omega) (by omega) (by omega) aF gd K (fun z=>ab (5,dm l n a) ⟨fun _=>⟨rfl,rfl⟩,fun y=>absurd z y,by decide⟩) (fun z=>ab (e,q) ⟨fun y=>absurd y z,fun _=>⟨rfl,rfl⟩,by omega⟩)) ?_
 rintro ⟨dt,dD⟩ dc
 dsimp only at dc
 obtain ⟨G4,BV,Qz⟩:=dc
 refine rt rfl fun _=>?_
 show K (.str ([])) (ae.bf m [(r, .cells [.slice false (l.map ch), .int .i64 a, .int .i64 n, .err 115 dt, .int .i64 dD])])
 refine ab _ _ _ _ ⟨fun z=>?_,fun z=>⟨rfl,BV z⟩,by omega,by omega,by omega,by omega⟩ fun _=>rfl
 have bU:=bU z
 constructor<;>grind [cK,bR.bad]
theorem n0 (l:List Tok) (n a e q:Int) (r:Nat) (av:l.length≤5000) (aG:0≤a) (aX:a≤l.length) (he:0≤e) (m:ae) (gd:eE [r] m) (K:U→ae→Prop) (ab:∀h1 cR cD cY,bx l (cK l n 1 [] a) h1 a e q cR cD cY→K (.str h1) (ae.bf m [(r, .cells [.slice false (l.map ch), .int .i64 cR, .int .i64 n, .err 115 cD, .int .i64 cY])])):bg Tryz.prog 150 [.ptr ⟨r,0,none⟩] (ae.bf m [(r, .cells [.slice false (l.map ch), .int .i64 a, .int .i64 n, .err 115 e, .int .i64 q])]) K:=by
 refine enter (c:=cX [] [] [] [] [] [r]) (vs:=[.loc 0 0]) (L:=[bp l n a e q]) (m:=m) false b9 Tryz.mixed Tryz.func150 rfl (k:=1) (by show cu [] _ _ _=true;decide+kernel) rfl (gd.hn rfl) ?_
 refine cF 115 [0] (σ:=aD×Int×Int×Int) (fun ⟨dO,cw,bQ,cf⟩=>(bx l (cK l n 1 ([]) a) dO a e q cw bQ cf)∧(bQ≠0→dO=[])) (fun ⟨dO,cw,bQ,cf⟩=>aw dO) (fun ⟨dO,cw,bQ,cf⟩=>[bp l n cw bQ cf]) rfl (fun _=>rfl) (fun bs aF gd aB K ab=>ji l n a e q 1 ([]) (bs.getD 0 0) av (by omega) (by omega) (by omega) aF gd K (fun dq cc bZ b1 aT ao=>ab (dq,cc,bZ,b1) ⟨aT,ao⟩)) ?_
 rintro ⟨dO,cw,bQ,cf⟩ bU
 dsimp only at bU
 obtain ⟨bU,pY⟩:=bU
 have tj:=bU.bw
 have qk:=bU.ad
 have tk:=bU.cm
 refine rt rfl fun _=>?_
 show K (.str dO) (ae.bf m [(r, .cells [.slice false (l.map ch), .int .i64 cw, .int .i64 n, .err 115 bQ, .int .i64 cf])])
 exact ab _ _ _ _ bU
theorem G5 (l:List Tok) (n a e q:Int) (r:Nat) (av:l.length≤5000) (aG:0≤a) (aX:a≤l.length) (he:0≤e) (m:ae) (gd:eE [r] m) (K:U→ae→Prop) (ab:∀h1 iv cR cD cY,bx l (rE l n a) (h1,iv) a e q cR cD cY→K (.tuple [.str h1, .str iv]) (ae.bf m [(r, .cells [.slice false (l.map ch), .int .i64 cR, .int .i64 n, .err 115 cD, .int .i64 cY])])):bg Tryz.prog 214 [.ptr ⟨r,0,none⟩] (ae.bf m [(r, .cells [.slice false (l.map ch), .int .i64 a, .int .i64 n, .err 115 e, .int .i64 q])]) K:=by
 refine enter (c:=cX [] [] [] [] [] [r]) (vs:=[.loc 0 0]) (L:=[bp l n a e q]) (m:=m) false b9 Tryz.mixed Tryz.func214 rfl (k:=1) (by show cu [] _ _ _=true;decide+kernel) rfl (gd.hn rfl) ?_
 refine cF 115 [0] (σ:=aD×Int×Int×Int) (fun ⟨dO,cw,bQ,cf⟩=>(bx l (cK l n 4 ([46]:List UInt8) a) dO a e q cw bQ cf)∧(bQ≠0→dO=[])) (fun ⟨dO,cw,bQ,cf⟩=>aw dO) (fun ⟨dO,cw,bQ,cf⟩=>[bp l n cw bQ cf]) rfl (fun _=>rfl) (fun bs aF gd aB K ab=>ji l n a e q 4 ([46]:List UInt8) (bs.getD 0 0) av (by omega) (by omega) (by omega) aF gd K (fun dq cc bZ b1 aT ao=>ab (dq,cc,bZ,b1) ⟨aT,ao⟩)) ?_
 rintro ⟨dO,cw,bQ,cf⟩ bU
 dsimp only at bU
 obtain ⟨bU,pY⟩:=bU
 have tj:=bU.bw
 have qk:=bU.ad
 have tk:=bU.cm
 refine cF 115 [0] (σ:=aD×Int×Int×Int) (fun ⟨ek,eI,dt,dD⟩=>bx l (cK l n 1 [] cw) ek cw bQ cf eI dt dD) (fun ⟨ek,eI,dt,dD⟩=>aw ek) (fun ⟨ek,eI,dt,dD⟩=>[bp l n eI dt dD]) rfl (fun _=>rfl) (fun bs aF gd aB K ab=>n0 l n cw bQ cf (bs.getD 0 0) av (by omega) (by omega) (by omega) aF gd K (fun dq cc bZ b1 aT=>ab (dq,cc,bZ,b1) aT)) ?_
 rintro ⟨ek,eI,dt,dD⟩ dc
 dsimp only at dc
 have vW:=dc.bw
 have ie:=dc.ad
 have vX:=dc.cm
 refine cF 115 [0] (σ:=aD×Int×Int×Int) (fun ⟨jz,gA,ft,fG⟩=>(bx l (cK l n 4 ([46]:List UInt8) eI) jz eI dt dD gA ft fG)∧(ft≠0→jz=[])) (fun ⟨jz,gA,ft,fG⟩=>aw jz) (fun ⟨jz,gA,ft,fG⟩=>[bp l n gA ft fG]) rfl (fun _=>rfl) (fun bs aF gd aB K ab=>ji l n eI dt dD 4 ([46]:List UInt8) (bs.getD 0 0) av (by omega) (by omega) (by omega) aF gd K (fun dq cc bZ b1 aT ao=>ab (dq,cc,bZ,b1) ⟨aT,ao⟩)) ?_
 rintro ⟨jz,gA,ft,fG⟩ dZ
 dsimp only at dZ
 obtain ⟨dZ,nL⟩:=dZ
 have BW:=dZ.bw
 have BX:=dZ.ad
 have ya:=dZ.cm
 refine cF 115 [0] (σ:=aD×Int×Int×Int) (fun ⟨iE,hp,hq,hB⟩=>bx l (cK l n 1 [] gA) iE gA ft fG hp hq hB) (fun ⟨iE,hp,hq,hB⟩=>aw iE) (fun ⟨iE,hp,hq,hB⟩=>[bp l n hp hq hB]) rfl (fun _=>rfl) (fun bs aF gd aB K ab=>n0 l n gA ft fG (bs.getD 0 0) av (by omega) (by omega) (by omega) aF gd K (fun dq cc bZ b1 aT=>ab (dq,cc,bZ,b1) aT)) ?_
 rintro ⟨iE,hp,hq,hB⟩ eu
 dsimp only at eu
 have BY:=eu.bw
 have BZ:=eu.ad
 have B0:=eu.cm
 refine rt rfl fun _=>?_
 show K (.tuple [.str ek, .str iE]) (ae.bf m [(r, .cells [.slice false (l.map ch), .int .i64 hp, .int .i64 n, .err 115 hq, .int .i64 hB])])
 exact ab _ _ _ _ _ (bU.bind (dc.bind (dZ.bind (eu.map fun t=>(ek,t)))))
end Go.Proofs
end
section
namespace Go.Proofs
open Go Go.ba Go.bV
set_option maxRecDepth 100000
inductive ax where
 |mk (kind:Int) (v:a7) (s t:aD) (a:List ax) (n:List aD)
instance:Inhabited ax:=⟨.mk 0 eb [] [] [] []⟩
def ax.kind:ax→Int| .mk k _ _ _ _ _=>k
def ax.v:ax→a7| .mk _ v _ _ _ _=>v
def ax.s:ax→aD| .mk _ _ s _ _ _=>s
def ax.t:ax→aD| .mk _ _ _ t _ _=>t
def ax.a:ax→List ax| .mk _ _ _ _ a _=>a
def ax.n:ax→List aD| .mk _ _ _ _ _ n=>n
mutual
def cx:ax→U
 | .mk k v s t a n=> .agg [.int .i64 k, .int .i64 v.kind, .int .i64 v.n, .str v.s, .slice false (v.l.map cj), .slice false (v.f.map ct), .str s, .str t, .slice false (yb a), .slice false (n.map cS)]
def yb:List ax→List U
 |[]=>[]
 |e::r=>cx e::yb r
end
theorem QA (l:List ax):yb l=l.map cx:=by
 induction l with
 |nil=>rfl
 |cons v r aQ=>simp only [yb,List.map_cons,aQ]
def cy (e:ax):U:= .agg [.int .i64 e.kind, .int .i64 e.v.kind, .int .i64 e.v.n, .str e.v.s, .slice false (e.v.l.map cj), .slice false (e.v.f.map ct), .str e.s, .str e.t, .slice false (e.a.map cx), .slice false (e.n.map cS)]
theorem e9 (e:ax):cx e=cy e:=by
 cases e with
 |mk k v s t a n=>simp only [cx,cy,QA,ax.kind,ax.v,ax.s,ax.t,ax.a,ax.n]
mutual
def eg:ax→Nat
 | .mk _ _ _ _ a _=>n1 a+1
def n1:List ax→Nat
 |[]=>0
 |e::r=>eg e+n1 r
end
theorem QB {l:List ax} {e:ax} (h:e∈l):eg e≤n1 l:=by
 induction l with
 |nil=>cases h
 |cons a r aQ=>
  simp only [n1]
  rcases List.mem_cons.1 h with rfl|h
  · omega
  · have:=aQ h;omega
theorem G6 (e:ax):eg e=n1 e.a+1:=by
 cases e with
 |mk k v s t a n=>simp only [eg,ax.a]
theorem ns {e x:ax} (h:x∈e.a):eg x<eg e:=by
 have:=QB h
 rw [G6 e];omega
def my (bY:Int):List aD→Int→Int
 |[],n=>n
 |s::r,n=>if n≤bY then my bY r (IntKind.i64.wrap (n+s.length)) else n
mutual
def nt (bY:Int):ax→Int
 | .mk _ v s t a dd=>n2 bY a (my bY dd (IntKind.i64.wrap (IntKind.i64.wrap (1+s.length+t.length+kT bY v)+dd.length)))
def n2 (bY:Int):List ax→Int→Int
 |[],n=>n
 |e::r,n=>if n≤bY then n2 bY r (IntKind.i64.wrap (n+nt bY e)) else n
end
def B1 (bY:Int) (e:ax):Int:=IntKind.i64.wrap (IntKind.i64.wrap (1+e.s.length+e.t.length+kT bY e.v)+e.n.length)
theorem QC (bY:Int) (e:ax):nt bY e=n2 bY e.a (my bY e.n (B1 bY e)):=by
 cases e with
 |mk k v s t a n=>simp only [nt,B1,ax.a,ax.n,ax.s,ax.t,ax.v]
theorem QD (bY:Int) (l:List ax) (n:Int) (h:bY<n):n2 bY l n=n:=by
 cases l with
 |nil=>simp only [n2]
 |cons v r=>simp only [n2];rw [if_neg (by omega)]
theorem QE (bY:Int) (l:List aD) (n:Int) (h:bY<n):my bY l n=n:=by
 cases l with
 |nil=>simp only [my]
 |cons v r=>simp only [my];rw [if_neg (by omega)]
theorem QF {bY:Int} {l:List aD} {i n:Int} (aG:0≤i) (ad:i<l.length) (aI:n≤bY):my bY (l.drop i.toNat) n=my bY (l.drop (i+1).toNat) (IntKind.i64.wrap (n+(I l i).length)):=by
 rw [iP aG ad,my,if_pos aI]
theorem QG {bY:Int} {l:List ax} {i n:Int} (aG:0≤i) (ad:i<l.length) (aI:n≤bY):n2 bY (l.drop i.toNat) n=n2 bY (l.drop (i+1).toNat) (IntKind.i64.wrap (n+nt bY (I l i))):=by
 rw [iP aG ad,n2,if_pos aI]
def hW:ax:= .mk 0 eb [] [] [] []
def lf (v:a7):ax:= .mk 1 v [] [] [] []
def n3 (l:List Tok):Prop:=∀t∈l,t.1=2→t.2.2≠[]∧t.2.2.length≤10∧∀c∈t.2.2,48≤c.toNat∧c.toNat≤57
theorem G7:∀(s:aD) (acc:Nat),(∀c∈s,48≤c.toNat∧c.toNat≤57)→∃n,Lib.decFrom acc s=some n∧n<(acc+1)*10^s.length
 |[],acc,_=>⟨acc,rfl,by simp⟩
 |c::r,acc,h=>by
  have ar:=h c (List.mem_cons_self ..)
  obtain ⟨n,J,aa⟩:=G7 r (acc*10+(c.toNat- 48)) fun x aq=>h x (List.mem_cons_of_mem _ aq)
  refine ⟨n,by simp only [Lib.decFrom,Lib.digitVal,if_pos ar];exact J,Nat.lt_of_lt_of_le aa ?_⟩
  rw [List.length_cons,Nat.pow_succ,Nat.mul_comm (10^r.length) 10,←Nat.mul_assoc]
  exact Nat.mul_le_mul_right _ (by omega)
theorem QH {s:aD} (aG:s≠[]) (h:∀c∈s,48≤c.toNat∧c.toNat≤57):Lib.atoi s=(Lib.decFrom 0 s).map fun (m:Nat)=>(m:Int):=by
 cases s with
 |nil=>exact absurd rfl aG
 |cons c r=>
  have ar:=h c (List.mem_cons_self ..)
  have J:(c==45)=false:=by
   rw [beq_eq_false_iff_ne];rintro rfl;exact absurd ar.1 (by decide)
  have aa:(c==43)=false:=by
   rw [beq_eq_false_iff_ne];rintro rfl;exact absurd ar.1 (by decide)
  simp only [Lib.atoi,J,aa,Lib.decNat,List.isEmpty_cons,Bool.false_eq_true,if_false]
def hX (s:aD):Int:=(Lib.atoi s).getD 0
theorem QI {s:aD} (aG:s≠[]) (av:s.length≤10) (h:∀c∈s,48≤c.toNat∧c.toNat≤57):0≤hX s∧hX s<10000000000∧∃n:Nat,Lib.decFrom 0 s=some n∧hX s=n∧Lib.atoi s=some (n:Int):=by
 obtain ⟨n,J,aa⟩:=G7 s 0 h
 have e:=QH aG h
 rw [J,Option.map_some] at e
 have ai:10^s.length≤10^10:=Nat.pow_le_pow_right (by decide) av
 have:n<10000000000:=by
  have:(10:Nat)^10=10000000000:=by decide
  omega
 refine ⟨by rw [hX,e];simp,by rw [hX,e];simp;omega,n,J,by rw [hX,e];rfl,e⟩
theorem QJ {l:List Tok} {s:aD} {a:Int} (hw:n3 l) (aG:0≤a) (h:cI l 2 s a=true):(I l a).2.2≠[]∧(I l a).2.2.length≤10∧∀c∈(I l a).2.2,48≤c.toNat∧c.toNat≤57:=by
 have cl:=il h
 refine hw _ (cb aG cl) ?_
 simp only [cI,Bool.and_eq_true,beq_iff_eq] at h
 exact h.1.2
def n4 (l:List Tok) (n eR a:Int):bR ax:=
 if cI l 2 [] a=true then (if 1000000000<hX (I l a).2.2∨(eR<0∧hX (I l a).2.2=0) then .bad 1 (dm l n a) else .ok (lf (.mk 1 (eR*hX (I l a).2.2) [] [] [])) (a+1)) else .bad 5 (dm l n a)
theorem QK {l:List Tok} {s:aD} {n a e q cn aM cM:Int} (hw:n3 l) (aG:0≤a) (ao:e=0) (o:bx l (cK l n 2 [] a) s a e q cn aM cM) (al:aM≠0→s=[]):
 (s.length≤18∧∀n,Lib.atoi s=some n→-9223372036854775808≤n∧n≤9223372036854775807)∧(0≤hX s∧hX s<10000000000)∧((aM=0∧cI l 2 [] a=true∧s=(I l a).2.2∧cn=a+1)∨(aM=5∧cM=dm l n a∧cI l 2 [] a=false∧s=[])):=by
 have h:=o.ok ao
 cases aB:cI l 2 [] a with
 |true=>
  rw [cK,if_pos aB] at h
  have bA:aM=0:=h.f
  obtain ⟨J,aa⟩:=h.y bA
  have J:s=(I l a).2.2:=J
  have aa:cn=a+1:=aa
  subst J
  obtain ⟨t1,t2,t3⟩:=QJ hw aG aB
  obtain ⟨d1,d2,k,d3,d4,d5⟩:=QI t1 t2 t3
  refine ⟨⟨by omega,fun m hm=>?_⟩,⟨d1,d2⟩, .inl ⟨bA,rfl,rfl,aa⟩⟩
  rw [d5] at hm
  obtain rfl:=Option.some.inj hm
  omega
 |false=>
  rw [cK,if_neg (by rw [aB];decide)] at h
  have bA:aM=5:=h.f
  have J:cM=dm l n a:=h.z (by omega)
  obtain rfl:=al (by omega)
  exact ⟨⟨by simp,fun m hm=>by cases hm⟩,by decide, .inr ⟨bA,J,rfl,rfl⟩⟩
theorem QL (s:aD) (al:s.length≤18) (ag:∀n,Lib.atoi s=some n→-9223372036854775808≤n∧n≤9223372036854775807) (m:ae) (aV:eF m) (K:U→ae→Prop) (ab:K (.tuple [.int .i64 (hX s), .opt (Lib.atoi s).isNone]) m):bg Tryz.prog 170 [.str s] m K:=
 have ⟨_,_,_,_,_,_,_,aV⟩:=aV
 OM ⟨_,Tryz.func170,rfl,by kernel_rfl⟩ (fun s n J aa w=>Tryz.strconv_Atoi s n J aa w) (fun s J aa kb w ai aJ=>(Tryz.strconv_Atoi_err s J aa kb w ai aJ).mono fun e w' ⟨N,aY,_,_,bG⟩=>⟨N,aY,bG⟩) al ag aV ab
set_option maxHeartbeats 1000000 in
theorem G8 (l:List Tok) (n a e q:Int) (eR:Int) (r:Nat) (av:l.length≤5000) (aG:0≤a) (aX:a≤l.length) (he:0≤e) (hw:n3 l) (B2:eR=1∨eR=-1) (ao:e=0) (b:Int) (dh:0≤b) (ag:b≤a) (vr:eR<0→b+1≤a) (m:ae) (gd:eE [r] m) (K:U→ae→Prop) (aV:eF m) (ab:∀bX cR cD cY,bx l (n4 l n eR a) bX b e q cR cD cY→K (cy bX) (ae.bf m [(r, .cells [.slice false (l.map ch), .int .i64 cR, .int .i64 n, .err 115 cD, .int .i64 cY])])):bg Tryz.prog 179 [.ptr ⟨r,0,none⟩, .int .i64 eR] (ae.bf m [(r, .cells [.slice false (l.map ch), .int .i64 a, .int .i64 n, .err 115 e, .int .i64 q])]) K:=by
 refine enter (c:=cX [] [] [2] [] [] [r]) (vs:=[.loc 0 0, .aH (.int .i64 eR)]) (L:=[bp l n a e q]) (m:=m) false b9 Tryz.mixed Tryz.func179 rfl (k:=2) (by show cu [] _ _ _=true;decide+kernel) rfl (gd.hn rfl) ?_
 refine cF 115 [0] (σ:=aD×Int×Int×Int) (fun ⟨dO,cw,bQ,cf⟩=>(bx l (cK l n 2 ([]) a) dO a e q cw bQ cf)∧(bQ≠0→dO=[])) (fun ⟨dO,cw,bQ,cf⟩=>aw dO) (fun ⟨dO,cw,bQ,cf⟩=>[bp l n cw bQ cf]) rfl (fun _=>rfl) (fun bs aF gd aB K ab=>ji l n a e q 2 ([]) (bs.getD 0 0) av (by omega) (by omega) (by omega) aF gd K (fun dq cc bZ b1 aT ao=>ab (dq,cc,bZ,b1) ⟨aT,ao⟩)) ?_
 rintro ⟨dO,cw,bQ,cf⟩ bU
 dsimp only at bU
 obtain ⟨bU,pY⟩:=bU
 have tj:=bU.bw
 have qk:=bU.ad
 have tk:=bU.cm
 obtain ⟨js,PL,j0⟩:=QK hw aG ao bU pY
 refine xN [] [] (.aH (.tuple [.int .i64 (hX dO), .opt ((Lib.atoi dO).isNone)])) rfl (fun bs aF gd aB=>fun K ab=>QL dO js.1 js.2 aF (eF.up aB aV) K ab) ?_
 refine az ?_
 refine cq [0,1,4,5] 22 ((decide (1000000000<hX dO))||((decide (eR<0))&&((hX dO)==0))) ?_ ?_
 · repeat' first
    |exact ⟨⟨_,rfl,by grind [bD.val]⟩,rfl⟩
    |refine ah (fun _=>?_) (fun _=>?_)
 refine ah (fun J=>?_) (fun J=>?_)
 · replace J:(1000000000<hX dO)∨((eR<0)∧(hX dO=0)):=((dj J).imp (fun q=>(of_decide_eq_true q)) (fun q=>⟨(of_decide_eq_true (eO q)),(eq_of_beq (fk q))⟩))
   have UT:b≤cw- 1:=by
    rcases j0 with ⟨_,_,_,c4⟩|⟨_,_,_,c4⟩
    · omega
    · have:hX dO=0:=by rw [c4];rfl
      omega
   refine ah (by rcases B2 with h|h<;>subst h<;>omega) ?_
   refine cF 115 [0] (σ:=Int×Int) (fun ⟨dt,dD⟩=>(bQ=0→dt=1∧dD=dm l n (cw- 1))∧(bQ≠0→dt=bQ∧dD=cf)∧0<dt) (fun ⟨dt,dD⟩=> .dw []) (fun ⟨dt,dD⟩=>[bp l n (cw- 1) dt dD]) rfl (fun _=>rfl) (fun bs aF gd aB K ab=>oI l n (cw- 1) bQ cf 1 (bs.getD 0 0) (by decide) av (by omega) (by omega) (by omega) aF gd K (fun z=>ab (1,dm l n (cw- 1)) ⟨fun _=>⟨rfl,rfl⟩,fun y=>absurd z y,by decide⟩) (fun z=>ab (bQ,cf) ⟨fun y=>absurd y z,fun _=>⟨rfl,rfl⟩,by omega⟩)) ?_
   rintro ⟨dt,dD⟩ dc
   dsimp only at dc
   obtain ⟨G4,BV,Qz⟩:=dc
   refine ah (by rcases B2 with h|h<;>subst h<;>omega) ?_
   refine rt rfl fun _=>?_
   show K (.agg [.int .i64 1, .int .i64 1, .int .i64 (eR*(hX dO)), .str ([]), .slice false [], .slice false [], .str ([]), .str ([]), .slice false [], .slice false []]) (ae.bf m [(r, .cells [.slice false (l.map ch), .int .i64 (cw- 1), .int .i64 n, .err 115 dt, .int .i64 dD])])
   rcases j0 with ⟨jd,c2,c3,c4⟩|⟨jd,c2,c3,c4⟩
   · obtain ⟨rfl,rfl⟩:=G4 jd
     refine ab (lf (.mk 1 (eR*hX dO) [] [] [])) _ _ _ ⟨fun _=>?_,fun h=>absurd ao h,by omega,by omega,by decide,fun h=>by cases h⟩
     rw [show cw- 1=a by omega]
     constructor<;>grind [n4,bR.bad]
   · obtain ⟨rfl,rfl⟩:=BV (by omega)
     refine ab (lf (.mk 1 (eR*hX dO) [] [] [])) _ _ _ ⟨fun _=>?_,fun h=>absurd ao h,by omega,by omega,by omega,fun h=>by omega⟩
     constructor<;>grind [n4,bR.bad]
 replace J:(hX dO≤1000000000)∧((0≤eR)∨(hX dO≠0)):=⟨(Int.not_lt.1 (of_decide_eq_false (b8 J))),((fl (di J)).imp (fun q=>(Int.not_lt.1 (of_decide_eq_false q))) (fun q=>(ne_of_beq_false q)))⟩
 refine ah (by rcases B2 with h|h<;>subst h<;>omega) ?_
 refine rt rfl fun _=>?_
 show K (.agg [.int .i64 1, .int .i64 1, .int .i64 (eR*(hX dO)), .str ([]), .slice false [], .slice false [], .str ([]), .str ([]), .slice false [], .slice false []]) (ae.bf m [(r, .cells [.slice false (l.map ch), .int .i64 cw, .int .i64 n, .err 115 bQ, .int .i64 cf])])
 rcases j0 with ⟨jd,c2,c3,c4⟩|⟨jd,c2,c3,c4⟩
 · refine ab (lf (.mk 1 (eR*hX dO) [] [] [])) _ _ _ ⟨fun _=>?_,fun h=>absurd ao h,by omega,by omega,by omega,fun h=>by omega⟩
   constructor<;>grind [n4,bR.ok]
 · refine ab (lf (.mk 1 (eR*hX dO) [] [] [])) _ _ _ ⟨fun _=>?_,fun h=>absurd ao h,by omega,by omega,by omega,fun h=>by omega⟩
   constructor<;>grind [n4,bR.bad]
end Go.Proofs
end
section
namespace Go.Proofs
open Go Go.ba Go.bV
set_option maxRecDepth 100000
abbrev iS (e:ax):aR:= .agg [aj e.kind,aj e.v.kind,aj e.v.n,aw e.v.s,an (e.v.l.map cj),an (e.v.f.map ct),aw e.s,aw e.t,an (e.a.map cx),an (e.n.map cS)]
instance:Inhabited (bR ax):=⟨.bad 0 0⟩
section
variable (f:Int→bR ax) (l:List Tok) (n:Int)
def nu {α β:Type} [Inhabited β] (xs:List α) (a:Int) (g:Int→bR β):bR β:=if xs=[] then g a else (cK l n 4 [44] a).bind fun _ a=>g a
def nv:Nat→Int→List ax→bR ax
 |0,a,_=> .bad 5 (dm l n a)
 |k+1,a,xs=>if cI l 4 [93] a=true then .ok (.mk 8 eb [] [] xs []) (a+1) else nu l n xs a fun a=>(f a).bind fun x a=>nv k a (xs++[x])
def vY (dd:List aD) (m:aD):Prop:=0<(dd.length:Int)∧Op.bytesLess (I dd ((dd.length:Int)- 1)) m=false
instance (dd:List aD) (m:aD):Decidable (vY dd m):=by unfold vY;infer_instance
def lg:Nat→Int→List aD→List ax→bR ax
 |0,a,_,_=> .bad 5 (dm l n a)
 |k+1,a,dd,xs=>if cI l 4 [125] a=true then .ok (.mk 9 eb [] [] xs dd) (a+1) else nu l n xs a fun a=>(cK l n 1 [] a).bind fun m a=>
   if vY dd m then .bad 3 (dm l n a) else (cK l n 4 [58] a).bind fun _ a=>(f a).bind fun x a=>lg k a (dd++[m]) (xs++[x])
def pB (a:Int):bR ax:=(f a).bind fun x a=>
 if cI l 4 [43] a=true then (f (a+1)).bind fun y a=>(cK l n 4 [41] a).bind fun _ a=> .ok (.mk 5 eb [] [] [x,y] []) a
 else if cI l 4 [61,61] a=true then (f (a+1)).bind fun y a=>(cK l n 4 [41] a).bind fun _ a=> .ok (.mk 6 eb [] [] [x,y] []) a
 else if cI l 4 [63] a=true then (f (a+1)).bind fun y a=>(cK l n 4 [58] a).bind fun _ a=>(f a).bind fun z a=>(cK l n 4 [41] a).bind fun _ a=> .ok (.mk 7 eb [] [] [x,y,z] []) a
 else .bad 5 (dm l n a)
def mz (a:Int):bR ax:=
 if cI l 1 [110,117,108,108] a=true then .ok (lf eb) (a+1)
 else if cI l 1 [116,114,117,101] a=true then .ok (lf (.mk 3 1 [] [] [])) (a+1)
 else if cI l 1 [102,97,108,115,101] a=true then .ok (lf (.mk 3 0 [] [] [])) (a+1)
 else if cI l 1 [105,110] a=true then (cK l n 4 [46] (a+1)).bind fun _ a=>(cK l n 1 [] a).bind fun s a=> .ok (.mk 2 eb s [] [] []) a
 else if cI l 1 [114,101,115] a=true then (rE l n (a+1)).bind fun st a=> .ok (.mk 3 eb st.1 st.2 [] []) a
 else if cI l 1 [115,116,97,99,107] a=true then (rE l n (a+1)).bind fun st a=> .ok (.mk 4 eb st.1 st.2 [] []) a
 else if cI l 1 [103,101,116] a=true then (f (a+1)).bind fun x a=>(cK l n 1 [] a).bind fun s a=> .ok (.mk 10 eb s [] [x] []) a
 else .bad 5 (dm l n a)
end
def du (l:List Tok) (n:Int):Nat→Int→bR ax
 |0,a=> .bad 2 (dm l n a)
 |k+1,a=>
  if cI l 4 [40] a=true then pB (du l n k) l n (a+1)
  else if cI l 4 [91] a=true then nv (du l n k) l n (l.length+1) (a+1) []
  else if cI l 4 [123] a=true then lg (du l n k) l n (l.length+1) (a+1) [] []
  else if cI l 4 [45] a=true then n4 l n (-1) (a+1)
  else if cI l 2 [] a=true then n4 l n 1 a
  else if cI l 3 [] a=true then .ok (lf (.mk 2 0 (I l a).2.2 [] [])) (a+1)
  else mz (du l n k) l n a
theorem dE {l:List Tok} {k:Int} {s:aD} {a:Int} (h:cI l k s a=false):¬cI l k s a=true:=by rw [h];decide
theorem bx.stuck {l:List Tok} {α:Type} {p:bR α} {x:α} {a e q:Int} (h:e≠0) (aG:0≤e) (aX:a≤l.length):bx l p x a e q a e q:=⟨fun z=>absurd z h,fun _=>⟨rfl,rfl,rfl⟩,Int.le_refl _,aX,aG,fun z=>absurd z h⟩
set_option maxHeartbeats 1000000 in
theorem G9 (l:List Tok) (n a e q:Int) (d:Int) (r:Nat) (av:l.length≤5000) (aG:0≤a) (aX:a≤l.length) (he:0≤e) (ao:e≠0) (m:ae) (gd:eE [r] m) (K:U→ae→Prop) (ab:K (cy hW) (ae.bf m [(r, .cells [.slice false (l.map ch), .int .i64 a, .int .i64 n, .err 115 e, .int .i64 q])])):bg Tryz.prog 180 [.ptr ⟨r,0,none⟩, .int .i64 d] (ae.bf m [(r, .cells [.slice false (l.map ch), .int .i64 a, .int .i64 n, .err 115 e, .int .i64 q])]) K:=by
 refine enter (c:=cX [] [] [] [] [] [r]) (vs:=[.loc 0 0, .aH (.int .i64 d)]) (L:=[bp l n a e q]) (m:=m) false b9 Tryz.mixed Tryz.func180 rfl (k:=2) (by show cu [] _ _ _=true;decide+kernel) rfl (gd.hn rfl) ?_
 refine az ?_
 refine gn [0] [bp l n a e q] (.b (.lit false)) rfl (fun bs aF gd=>fun K ab=>h6 l n a e q 1 ([110,117,108,108]:List UInt8) (bs.getD 0 0) av (by omega) (by omega) (by omega) aF gd K (fun z=>absurd z (by omega)) fun _=>ab) ?_
 refine gn [0] [bp l n a e q] (.b (.lit false)) rfl (fun bs aF gd=>fun K ab=>h6 l n a e q 1 ([116,114,117,101]:List UInt8) (bs.getD 0 0) av (by omega) (by omega) (by omega) aF gd K (fun z=>absurd z (by omega)) fun _=>ab) ?_
 refine gn [0] [bp l n a e q] (.b (.lit false)) rfl (fun bs aF gd=>fun K ab=>h6 l n a e q 1 ([102,97,108,115,101]:List UInt8) (bs.getD 0 0) av (by omega) (by omega) (by omega) aF gd K (fun z=>absurd z (by omega)) fun _=>ab) ?_
 refine gn [0] [bp l n a e q] (.b (.lit false)) rfl (fun bs aF gd=>fun K ab=>h6 l n a e q 1 ([105,110]:List UInt8) (bs.getD 0 0) av (by omega) (by omega) (by omega) aF gd K (fun z=>absurd z (by omega)) fun _=>ab) ?_
 refine gn [0] [bp l n a e q] (.b (.lit false)) rfl (fun bs aF gd=>fun K ab=>h6 l n a e q 1 ([114,101,115]:List UInt8) (bs.getD 0 0) av (by omega) (by omega) (by omega) aF gd K (fun z=>absurd z (by omega)) fun _=>ab) ?_
 refine gn [0] [bp l n a e q] (.b (.lit false)) rfl (fun bs aF gd=>fun K ab=>h6 l n a e q 1 ([115,116,97,99,107]:List UInt8) (bs.getD 0 0) av (by omega) (by omega) (by omega) aF gd K (fun z=>absurd z (by omega)) fun _=>ab) ?_
 refine gn [0] [bp l n a e q] (.b (.lit false)) rfl (fun bs aF gd=>fun K ab=>h6 l n a e q 1 ([103,101,116]:List UInt8) (bs.getD 0 0) av (by omega) (by omega) (by omega) aF gd K (fun z=>absurd z (by omega)) fun _=>ab) ?_
 refine cF 115 [0] (σ:=Int×Int) (fun ⟨bQ,cf⟩=>(e=0→bQ=5∧cf=dm l n a)∧(e≠0→bQ=e∧cf=q)∧0<bQ) (fun ⟨bQ,cf⟩=> .dw []) (fun ⟨bQ,cf⟩=>[bp l n a bQ cf]) rfl (fun _=>rfl) (fun bs aF gd aB K ab=>oI l n a e q 5 (bs.getD 0 0) (by decide) av (by omega) (by omega) (by omega) aF gd K (fun z=>ab (5,dm l n a) ⟨fun _=>⟨rfl,rfl⟩,fun y=>absurd z y,by decide⟩) (fun z=>ab (e,q) ⟨fun y=>absurd y z,fun _=>⟨rfl,rfl⟩,by omega⟩)) ?_
 rintro ⟨bQ,cf⟩ bU
 dsimp only at bU
 obtain ⟨tl,qt,vZ⟩:=bU
 refine rt rfl fun _=>?_
 show K (.agg [.int .i64 0, .int .i64 0, .int .i64 0, .str ([]), .slice false [], .slice false [], .str ([]), .str ([]), .slice false [], .slice false []]) (ae.bf m [(r, .cells [.slice false (l.map ch), .int .i64 a, .int .i64 n, .err 115 bQ, .int .i64 cf])])
 obtain ⟨rfl,rfl⟩:=qt ao
 exact ab
set_option maxHeartbeats 2000000 in
theorem QM (l:List Tok) (n a e q:Int) (k:Nat) (d:Int) (r:Nat) (aQ:∀a e q d:Int,d=7- (k:Int)→0≤a→a≤l.length→0≤e→∀(r:Nat) (m:ae),eE [r] m→eF m→∀(K:U→ae→Prop),(∀bX cR cD cY,bx l (du l n k a) bX a e q cR cD cY→K (cy bX) (ae.bf m [(r, .cells [.slice false (l.map ch), .int .i64 cR, .int .i64 n, .err 115 cD, .int .i64 cY])]))→bg Tryz.prog 127 [.ptr ⟨r,0,none⟩, .int .i64 d] (ae.bf m [(r, .cells [.slice false (l.map ch), .int .i64 a, .int .i64 n, .err 115 e, .int .i64 q])]) K) (av:l.length≤5000) (aG:0≤a) (aX:a≤l.length) (he:0≤e) (ao:e=0) (ak:k≤7) (bo:d+1=7- (k:Int)) (m:ae) (gd:eE [r] m) (K:U→ae→Prop) (aV:eF m) (ab:∀bX cR cD cY,bx l (mz (du l n k) l n a) bX a e q cR cD cY→K (cy bX) (ae.bf m [(r, .cells [.slice false (l.map ch), .int .i64 cR, .int .i64 n, .err 115 cD, .int .i64 cY])])):bg Tryz.prog 180 [.ptr ⟨r,0,none⟩, .int .i64 d] (ae.bf m [(r, .cells [.slice false (l.map ch), .int .i64 a, .int .i64 n, .err 115 e, .int .i64 q])]) K:=by
 refine enter (c:=cX [] [] [] [18999] [18] [r]) (vs:=[.loc 0 0, .aH (.int .i64 d)]) (L:=[bp l n a e q]) (m:=m) false b9 Tryz.mixed Tryz.func180 rfl (k:=2) (by show cu [18999] _ _ _=true;decide+kernel) rfl (gd.hn rfl) ?_
 refine az ?_
 refine cF 115 [0] (σ:=(Unit) ⊕ (Unit)) (Sum.elim (fun _=>e=0∧cI l 1 ([110,117,108,108]:List UInt8) a=true) (fun _=>e=0→cI l 1 ([110,117,108,108]:List UInt8) a=false)) (Sum.elim (fun _=> .b (.lit true)) (fun _=> .b (.lit false))) (Sum.elim (fun _=>[bp l n (a+1) e q]) (fun _=>[bp l n a e q])) rfl (fun x=>by rcases x with _|_<;>rfl) (fun bs aF gd aB K ab=>h6 l n a e q 1 ([110,117,108,108]:List UInt8) (bs.getD 0 0) av (by omega) (by omega) (by omega) aF gd K (fun z w=>ab (.inl ()) ⟨z,w⟩) (fun z=>ab (.inr ()) z)) ?_
 rintro (_|_) bU
 · try dsimp only [Sum.elim_inl,Sum.elim_inr] at bU
   dsimp only [Sum.elim_inl,Sum.elim_inr]
   have vV:=il bU.2
   refine rt rfl fun _=>?_
   show K (.agg [.int .i64 1, .int .i64 0, .int .i64 0, .str ([]), .slice false [], .slice false [], .str ([]), .str ([]), .slice false [], .slice false []]) (ae.bf m [(r, .cells [.slice false (l.map ch), .int .i64 (a+1), .int .i64 n, .err 115 e, .int .i64 q])])
   refine ab (lf eb) _ _ _ ?_
   rw [mz,if_pos bU.2]
   exact bx.one vV ao
 try dsimp only [Sum.elim_inl,Sum.elim_inr] at bU
 dsimp only [Sum.elim_inl,Sum.elim_inr]
 refine cF 115 [0] (σ:=(Unit) ⊕ (Unit)) (Sum.elim (fun _=>e=0∧cI l 1 ([116,114,117,101]:List UInt8) a=true) (fun _=>e=0→cI l 1 ([116,114,117,101]:List UInt8) a=false)) (Sum.elim (fun _=> .b (.lit true)) (fun _=> .b (.lit false))) (Sum.elim (fun _=>[bp l n (a+1) e q]) (fun _=>[bp l n a e q])) rfl (fun x=>by rcases x with _|_<;>rfl) (fun bs aF gd aB K ab=>h6 l n a e q 1 ([116,114,117,101]:List UInt8) (bs.getD 0 0) av (by omega) (by omega) (by omega) aF gd K (fun z w=>ab (.inl ()) ⟨z,w⟩) (fun z=>ab (.inr ()) z)) ?_
 rintro (_|_) dc
 · try dsimp only [Sum.elim_inl,Sum.elim_inr] at dc
   dsimp only [Sum.elim_inl,Sum.elim_inr]
   have Ha:=il dc.2
   refine rt rfl fun _=>?_
   show K (.agg [.int .i64 1, .int .i64 3, .int .i64 1, .str ([]), .slice false [], .slice false [], .str ([]), .str ([]), .slice false [], .slice false []]) (ae.bf m [(r, .cells [.slice false (l.map ch), .int .i64 (a+1), .int .i64 n, .err 115 e, .int .i64 q])])
   refine ab (lf (.mk 3 1 [] [] [])) _ _ _ ?_
   rw [mz,if_neg (dE (bU ao)),if_pos dc.2]
   exact bx.one Ha ao
 try dsimp only [Sum.elim_inl,Sum.elim_inr] at dc
 dsimp only [Sum.elim_inl,Sum.elim_inr]
 refine cF 115 [0] (σ:=(Unit) ⊕ (Unit)) (Sum.elim (fun _=>e=0∧cI l 1 ([102,97,108,115,101]:List UInt8) a=true) (fun _=>e=0→cI l 1 ([102,97,108,115,101]:List UInt8) a=false)) (Sum.elim (fun _=> .b (.lit true)) (fun _=> .b (.lit false))) (Sum.elim (fun _=>[bp l n (a+1) e q]) (fun _=>[bp l n a e q])) rfl (fun x=>by rcases x with _|_<;>rfl) (fun bs aF gd aB K ab=>h6 l n a e q 1 ([102,97,108,115,101]:List UInt8) (bs.getD 0 0) av (by omega) (by omega) (by omega) aF gd K (fun z w=>ab (.inl ()) ⟨z,w⟩) (fun z=>ab (.inr ()) z)) ?_
 rintro (_|_) dZ
 · try dsimp only [Sum.elim_inl,Sum.elim_inr] at dZ
   dsimp only [Sum.elim_inl,Sum.elim_inr]
   have Hb:=il dZ.2
   refine rt rfl fun _=>?_
   show K (.agg [.int .i64 1, .int .i64 3, .int .i64 0, .str ([]), .slice false [], .slice false [], .str ([]), .str ([]), .slice false [], .slice false []]) (ae.bf m [(r, .cells [.slice false (l.map ch), .int .i64 (a+1), .int .i64 n, .err 115 e, .int .i64 q])])
   refine ab (lf (.mk 3 0 [] [] [])) _ _ _ ?_
   rw [mz,if_neg (dE (bU ao)),if_neg (dE (dc ao)),if_pos dZ.2]
   exact bx.one Hb ao
 try dsimp only [Sum.elim_inl,Sum.elim_inr] at dZ
 dsimp only [Sum.elim_inl,Sum.elim_inr]
 refine cF 115 [0] (σ:=(Unit) ⊕ (Unit)) (Sum.elim (fun _=>e=0∧cI l 1 ([105,110]:List UInt8) a=true) (fun _=>e=0→cI l 1 ([105,110]:List UInt8) a=false)) (Sum.elim (fun _=> .b (.lit true)) (fun _=> .b (.lit false))) (Sum.elim (fun _=>[bp l n (a+1) e q]) (fun _=>[bp l n a e q])) rfl (fun x=>by rcases x with _|_<;>rfl) (fun bs aF gd aB K ab=>h6 l n a e q 1 ([105,110]:List UInt8) (bs.getD 0 0) av (by omega) (by omega) (by omega) aF gd K (fun z w=>ab (.inl ()) ⟨z,w⟩) (fun z=>ab (.inr ()) z)) ?_
 rintro (_|_) eu
 · try dsimp only [Sum.elim_inl,Sum.elim_inr] at eu
   dsimp only [Sum.elim_inl,Sum.elim_inr]
   have yc:=il eu.2
   refine cF 115 [0] (σ:=aD×Int×Int×Int) (fun ⟨jj,gK,e2,fo⟩=>(bx l (cK l n 4 ([46]:List UInt8) (a+1)) jj (a+1) e q gK e2 fo)∧(e2≠0→jj=[])) (fun ⟨jj,gK,e2,fo⟩=>aw jj) (fun ⟨jj,gK,e2,fo⟩=>[bp l n gK e2 fo]) rfl (fun _=>rfl) (fun bs aF gd aB K ab=>ji l n (a+1) e q 4 ([46]:List UInt8) (bs.getD 0 0) av (by omega) (by omega) (by omega) aF gd K (fun dq cc bZ b1 aT ao=>ab (dq,cc,bZ,b1) ⟨aT,ao⟩)) ?_
   rintro ⟨jj,gK,e2,fo⟩ e4
   dsimp only at e4
   obtain ⟨e4,Hc⟩:=e4
   have Hd:=e4.bw
   have He:=e4.ad
   have B3:=e4.cm
   refine cF 115 [0] (σ:=aD×Int×Int×Int) (fun ⟨gU,eA,eG,e5⟩=>bx l (cK l n 1 [] gK) gU gK e2 fo eA eG e5) (fun ⟨gU,eA,eG,e5⟩=>aw gU) (fun ⟨gU,eA,eG,e5⟩=>[bp l n eA eG e5]) rfl (fun _=>rfl) (fun bs aF gd aB K ab=>n0 l n gK e2 fo (bs.getD 0 0) av (by omega) (by omega) (by omega) aF gd K (fun dq cc bZ b1 aT=>ab (dq,cc,bZ,b1) aT)) ?_
   rintro ⟨gU,eA,eG,e5⟩ fA
   dsimp only at fA
   have v7:=fA.bw
   have v8:=fA.ad
   have wa:=fA.cm
   refine rt rfl fun _=>?_
   show K (.agg [.int .i64 2, .int .i64 0, .int .i64 0, .str ([]), .slice false [], .slice false [], .str gU, .str ([]), .slice false [], .slice false []]) (ae.bf m [(r, .cells [.slice false (l.map ch), .int .i64 eA, .int .i64 n, .err 115 eG, .int .i64 e5])])
   refine ab (.mk 2 eb gU [] [] []) _ _ _ ?_
   rw [mz,if_neg (dE (bU ao)),if_neg (dE (dc ao)),if_neg (dE (dZ ao)),if_pos eu.2]
   exact bx.from ao (by omega) (e4.bind (fA.map fun s=>ax.mk 2 eb s [] [] []))
 try dsimp only [Sum.elim_inl,Sum.elim_inr] at eu
 dsimp only [Sum.elim_inl,Sum.elim_inr]
 refine cF 115 [0] (σ:=(Unit) ⊕ (Unit)) (Sum.elim (fun _=>e=0∧cI l 1 ([114,101,115]:List UInt8) a=true) (fun _=>e=0→cI l 1 ([114,101,115]:List UInt8) a=false)) (Sum.elim (fun _=> .b (.lit true)) (fun _=> .b (.lit false))) (Sum.elim (fun _=>[bp l n (a+1) e q]) (fun _=>[bp l n a e q])) rfl (fun x=>by rcases x with _|_<;>rfl) (fun bs aF gd aB K ab=>h6 l n a e q 1 ([114,101,115]:List UInt8) (bs.getD 0 0) av (by omega) (by omega) (by omega) aF gd K (fun z w=>ab (.inl ()) ⟨z,w⟩) (fun z=>ab (.inr ()) z)) ?_
 rintro (_|_) hr
 · try dsimp only [Sum.elim_inl,Sum.elim_inr] at hr
   dsimp only [Sum.elim_inl,Sum.elim_inr]
   have UU:=il hr.2
   refine cF 115 [0] (σ:=aD×aD×Int×Int×Int) (fun ⟨lV,rF,im,iF,iT⟩=>bx l (rE l n (a+1)) (lV,rF) (a+1) e q im iF iT) (fun ⟨lV,rF,im,iF,iT⟩=> .aH (.tuple [.str lV, .str rF])) (fun ⟨lV,rF,im,iF,iT⟩=>[bp l n im iF iT]) rfl (fun _=>rfl) (fun bs aF gd aB K ab=>G5 l n (a+1) e q (bs.getD 0 0) av (by omega) (by omega) (by omega) aF gd K (fun dq B4 cc bZ b1 aT=>ab (dq,B4,cc,bZ,b1) aT)) ?_
   rintro ⟨lV,rF,im,iF,iT⟩ fH
   dsimp only at fH
   have Hf:=fH.bw
   have Hg:=fH.ad
   have Hh:=fH.cm
   refine rt rfl fun _=>?_
   show K (.agg [.int .i64 3, .int .i64 0, .int .i64 0, .str ([]), .slice false [], .slice false [], .str lV, .str rF, .slice false [], .slice false []]) (ae.bf m [(r, .cells [.slice false (l.map ch), .int .i64 im, .int .i64 n, .err 115 iF, .int .i64 iT])])
   refine ab (.mk 3 eb lV rF [] []) _ _ _ ?_
   rw [mz,if_neg (dE (bU ao)),if_neg (dE (dc ao)),if_neg (dE (dZ ao)),if_neg (dE (eu ao)),if_pos hr.2]
   exact bx.from ao (by omega) (fH.map fun st=>ax.mk 3 eb st.1 st.2 [] [])
 try dsimp only [Sum.elim_inl,Sum.elim_inr] at hr
 dsimp only [Sum.elim_inl,Sum.elim_inr]
 refine cF 115 [0] (σ:=(Unit) ⊕ (Unit)) (Sum.elim (fun _=>e=0∧cI l 1 ([115,116,97,99,107]:List UInt8) a=true) (fun _=>e=0→cI l 1 ([115,116,97,99,107]:List UInt8) a=false)) (Sum.elim (fun _=> .b (.lit true)) (fun _=> .b (.lit false))) (Sum.elim (fun _=>[bp l n (a+1) e q]) (fun _=>[bp l n a e q])) rfl (fun x=>by rcases x with _|_<;>rfl) (fun bs aF gd aB K ab=>h6 l n a e q 1 ([115,116,97,99,107]:List UInt8) (bs.getD 0 0) av (by omega) (by omega) (by omega) aF gd K (fun z w=>ab (.inl ()) ⟨z,w⟩) (fun z=>ab (.inr ()) z)) ?_
 rintro (_|_) hs
 · try dsimp only [Sum.elim_inl,Sum.elim_inr] at hs
   dsimp only [Sum.elim_inl,Sum.elim_inr]
   have UW:=il hs.2
   refine cF 115 [0] (σ:=aD×aD×Int×Int×Int) (fun ⟨hc,rG,fT,gu,gL⟩=>bx l (rE l n (a+1)) (hc,rG) (a+1) e q fT gu gL) (fun ⟨hc,rG,fT,gu,gL⟩=> .aH (.tuple [.str hc, .str rG])) (fun ⟨hc,rG,fT,gu,gL⟩=>[bp l n fT gu gL]) rfl (fun _=>rfl) (fun bs aF gd aB K ab=>G5 l n (a+1) e q (bs.getD 0 0) av (by omega) (by omega) (by omega) aF gd K (fun dq B4 cc bZ b1 aT=>ab (dq,B4,cc,bZ,b1) aT)) ?_
   rintro ⟨hc,rG,fT,gu,gL⟩ fU
   dsimp only at fU
   have B5:=fU.bw
   have B6:=fU.ad
   have B7:=fU.cm
   refine rt rfl fun _=>?_
   show K (.agg [.int .i64 4, .int .i64 0, .int .i64 0, .str ([]), .slice false [], .slice false [], .str hc, .str rG, .slice false [], .slice false []]) (ae.bf m [(r, .cells [.slice false (l.map ch), .int .i64 fT, .int .i64 n, .err 115 gu, .int .i64 gL])])
   refine ab (.mk 4 eb hc rG [] []) _ _ _ ?_
   rw [mz,if_neg (dE (bU ao)),if_neg (dE (dc ao)),if_neg (dE (dZ ao)),if_neg (dE (eu ao)),if_neg (dE (hr ao)),if_pos hs.2]
   exact bx.from ao (by omega) (fU.map fun st=>ax.mk 4 eb st.1 st.2 [] [])
 try dsimp only [Sum.elim_inl,Sum.elim_inr] at hs
 dsimp only [Sum.elim_inl,Sum.elim_inr]
 refine cF 115 [0] (σ:=(Unit) ⊕ (Unit)) (Sum.elim (fun _=>e=0∧cI l 1 ([103,101,116]:List UInt8) a=true) (fun _=>e=0→cI l 1 ([103,101,116]:List UInt8) a=false)) (Sum.elim (fun _=> .b (.lit true)) (fun _=> .b (.lit false))) (Sum.elim (fun _=>[bp l n (a+1) e q]) (fun _=>[bp l n a e q])) rfl (fun x=>by rcases x with _|_<;>rfl) (fun bs aF gd aB K ab=>h6 l n a e q 1 ([103,101,116]:List UInt8) (bs.getD 0 0) av (by omega) (by omega) (by omega) aF gd K (fun z w=>ab (.inl ()) ⟨z,w⟩) (fun z=>ab (.inr ()) z)) ?_
 rintro (_|_) gM
 · try dsimp only [Sum.elim_inl,Sum.elim_inr] at gM
   dsimp only [Sum.elim_inl,Sum.elim_inr]
   have UX:=il gM.2
   refine ah (by omega) ?_
   refine cF 115 [0] (σ:=ax×Int×Int×Int) (fun ⟨dF,fI,fJ,gb⟩=>bx l (du l n k (a+1)) dF (a+1) e q fI fJ gb) (fun ⟨dF,fI,fJ,gb⟩=>iS dF) (fun ⟨dF,fI,fJ,gb⟩=>[bp l n fI fJ gb]) rfl (fun _=>rfl) (fun bs aF gd aB K ab=>aQ (a+1) e q (d+1) (by omega) (by omega) (by omega) (by omega) (bs.getD 0 0) aF gd (eF.up aB aV) K (fun fg cc bZ b1 aT=>ab (fg,cc,bZ,b1) aT)) ?_
   rintro ⟨dF,fI,fJ,gb⟩ gB
   dsimp only at gB
   have yd:=gB.bw
   have ye:=gB.ad
   have yf:=gB.cm
   refine gp b9 Tryz.mixed (σ:=Int×Int×Int×aD) (.f 0 (.o 1 (.s 2 (.s 3 (.s 4 (.s 5 .d)))) (.o 2 (.o 1 (.s 3 (.s 4 (.s 5 .d))) (.o 3 (.s 1 (.s 4 (.s 5 .d))) .z)) .z))) [] [4] 3 (fun ⟨a9,dA,dB,tm⟩=>([(4, .loc 1 0)],[bp l n a9 dA dB, .cells [aj 10,aj 0,aj 0,aw ([]), .own [], .own [],aw tm,aw ([]),an [.agg [.int .i64 dF.kind, .int .i64 dF.v.kind, .int .i64 dF.v.n, .str dF.v.s, .slice false (dF.v.l.map cj), .slice false (dF.v.f.map ct), .str dF.s, .str dF.t, .slice false (dF.a.map cx), .slice false (dF.n.map cS)]], .own []], .cells [aj dF.kind,aj dF.v.kind,aj dF.v.n,aw dF.v.s,an (dF.v.l.map cj),an (dF.v.f.map ct),aw dF.s,aw dF.t,an (dF.a.map cx),an (dF.n.map cS)]],m)) (fun ⟨a9,dA,dB,tm⟩=>bx l (cK l n 1 [] fI) tm fI fJ gb a9 dA dB) (by decide+kernel) ?_ ?_
   · rintro ⟨a9,dA,dB,tm⟩ Hi
     try dsimp only at Hi
     refine rt rfl fun _=>?_
     show K (.agg [.int .i64 10, .int .i64 0, .int .i64 0, .str ([]), .slice false [], .slice false [], .str tm, .str ([]), .slice false [.agg [.int .i64 dF.kind, .int .i64 dF.v.kind, .int .i64 dF.v.n, .str dF.v.s, .slice false (dF.v.l.map cj), .slice false (dF.v.f.map ct), .str dF.s, .str dF.t, .slice false (dF.a.map cx), .slice false (dF.n.map cS)]], .slice false []]) (ae.bf m [(r, .cells [.slice false (l.map ch), .int .i64 a9, .int .i64 n, .err 115 dA, .int .i64 dB])])
     refine df (ab (.mk 10 eb tm [] [dF] []) _ _ _ ?_) ?_
     · rw [mz,if_neg (dE (bU ao)),if_neg (dE (dc ao)),if_neg (dE (dZ ao)),if_neg (dE (eu ao)),if_neg (dE (hr ao)),if_neg (dE (hs ao)),if_pos gM.2]
       exact bx.from ao (by omega) (gB.bind (Hi.map fun s=>ax.mk 10 eb s [] [dF] []))
     · simp only [cy,ax.a,List.map_cons,List.map_nil,e9];rfl
   repeat' first
    |refine ⟨(mA,h7,iG,lW),⟨rfl,rfl⟩,kW⟩
    |(refine cF 115 [0] (σ:=aD×Int×Int×Int) (fun ⟨lW,mA,h7,iG⟩=>bx l (cK l n 1 [] fI) lW fI fJ gb mA h7 iG) (fun ⟨lW,mA,h7,iG⟩=>aw lW) (fun ⟨lW,mA,h7,iG⟩=>[bp l n mA h7 iG]) rfl (fun _=>rfl) (fun bs aF gd aB K ab=>n0 l n fI fJ gb (bs.getD 0 0) av (by omega) (by omega) (by omega) aF gd K (fun dq cc bZ b1 aT=>ab (dq,cc,bZ,b1) aT)) ?_;rintro ⟨lW,mA,h7,iG⟩ kW;dsimp only at kW;have QN:=kW.bw;have QO:=kW.ad;have QP:=kW.cm)
    |refine ⟨?_,?_,trivial⟩
 try dsimp only [Sum.elim_inl,Sum.elim_inr] at gM
 dsimp only [Sum.elim_inl,Sum.elim_inr]
 refine cF 115 [0] (σ:=Int×Int) (fun ⟨iU,jk⟩=>(e=0→iU=5∧jk=dm l n a)∧(e≠0→iU=e∧jk=q)∧0<iU) (fun ⟨iU,jk⟩=> .dw []) (fun ⟨iU,jk⟩=>[bp l n a iU jk]) rfl (fun _=>rfl) (fun bs aF gd aB K ab=>oI l n a e q 5 (bs.getD 0 0) (by decide) av (by omega) (by omega) (by omega) aF gd K (fun z=>ab (5,dm l n a) ⟨fun _=>⟨rfl,rfl⟩,fun y=>absurd z y,by decide⟩) (fun z=>ab (e,q) ⟨fun y=>absurd y z,fun _=>⟨rfl,rfl⟩,by omega⟩)) ?_
 rintro ⟨iU,jk⟩ lX
 dsimp only at lX
 obtain ⟨QQ,QR,QS⟩:=lX
 refine rt rfl fun _=>?_
 show K (.agg [.int .i64 0, .int .i64 0, .int .i64 0, .str ([]), .slice false [], .slice false [], .str ([]), .str ([]), .slice false [], .slice false []]) (ae.bf m [(r, .cells [.slice false (l.map ch), .int .i64 a, .int .i64 n, .err 115 iU, .int .i64 jk])])
 refine ab hW _ _ _ ?_
 rw [mz,if_neg (dE (bU ao)),if_neg (dE (dc ao)),if_neg (dE (dZ ao)),if_neg (dE (eu ao)),if_neg (dE (hr ao)),if_neg (dE (hs ao)),if_neg (dE (gM ao))]
 exact bx.bad _ aX QQ QR QS
end Go.Proofs
end
section
namespace Go.Proofs
open Go Go.ba Go.bV
set_option maxRecDepth 100000
set_option maxHeartbeats 2000000 in
theorem QT (l:List Tok) (n a e q:Int) (k:Nat) (d:Int) (r:Nat) (aQ:∀a e q d:Int,d=7- (k:Int)→0≤a→a≤l.length→0≤e→∀(r:Nat) (m:ae),eE [r] m→eF m→∀(K:U→ae→Prop),(∀bX cR cD cY,bx l (du l n k a) bX a e q cR cD cY→K (cy bX) (ae.bf m [(r, .cells [.slice false (l.map ch), .int .i64 cR, .int .i64 n, .err 115 cD, .int .i64 cY])]))→bg Tryz.prog 127 [.ptr ⟨r,0,none⟩, .int .i64 d] (ae.bf m [(r, .cells [.slice false (l.map ch), .int .i64 a, .int .i64 n, .err 115 e, .int .i64 q])]) K) (av:l.length≤5000) (aG:0≤a) (aX:a≤l.length) (he:0≤e) (ak:k≤7) (bo:d+1=7- (k:Int)) (m:ae) (gd:eE [r] m) (K:U→ae→Prop) (aV:eF m) (ab:∀bX cR cD cY,bx l (pB (du l n k) l n a) bX a e q cR cD cY→K (cy bX) (ae.bf m [(r, .cells [.slice false (l.map ch), .int .i64 cR, .int .i64 n, .err 115 cD, .int .i64 cY])])):bg Tryz.prog 177 [.ptr ⟨r,0,none⟩, .int .i64 d] (ae.bf m [(r, .cells [.slice false (l.map ch), .int .i64 a, .int .i64 n, .err 115 e, .int .i64 q])]) K:=by
 refine enter (c:=cX [1000013] [] [] [9999,11999] [9,11] [r]) (vs:=[.loc 0 0, .aH (.int .i64 d)]) (L:=[bp l n a e q]) (m:=m) false b9 Tryz.mixed Tryz.func177 rfl (k:=2) (by show cu [9999,11999] _ _ _=true;decide+kernel) rfl (gd.hn rfl) ?_
 refine ah (by omega) ?_
 refine cF 115 [0] (σ:=ax×Int×Int×Int) (fun ⟨b3,cw,bQ,cf⟩=>bx l (du l n k a) b3 a e q cw bQ cf) (fun ⟨b3,cw,bQ,cf⟩=>iS b3) (fun ⟨b3,cw,bQ,cf⟩=>[bp l n cw bQ cf]) rfl (fun _=>rfl) (fun bs aF gd aB K ab=>aQ a e q (d+1) (by omega) (by omega) (by omega) (by omega) (bs.getD 0 0) aF gd (eF.up aB aV) K (fun fg cc bZ b1 aT=>ab (fg,cc,bZ,b1) aT)) ?_
 rintro ⟨b3,cw,bQ,cf⟩ bU
 dsimp only at bU
 have tj:=bU.bw
 have qk:=bU.ad
 have tk:=bU.cm
 refine OP (s:=12) [aj 5,aj 0,aj 0,aw ([]), .own [], .own [],aw ([]),aw ([])] [.own []] [.agg [.int .i64 b3.kind, .int .i64 b3.v.kind, .int .i64 b3.v.n, .str b3.v.s, .slice false (b3.v.l.map cj), .slice false (b3.v.f.map ct), .str b3.s, .str b3.t, .slice false (b3.a.map cx), .slice false (b3.n.map cS)]] rfl rfl rfl (by simp only [List.forall_mem_cons];exact ⟨rfl,rfl,rfl,rfl,rfl,rfl,fun _ h=>by cases h⟩) (fun bs X Ab=>(by simp only [List.forall_mem_cons];exact ⟨rfl,Ab,fun _ h=>by cases h⟩)) (fun _ _ _ _=>rfl) (fun _=>rfl) rfl rfl ?_
 refine az ?_
 refine cF 115 [0] (σ:=(Unit) ⊕ (Unit)) (Sum.elim (fun _=>bQ=0∧cI l 4 ([43]:List UInt8) cw=true) (fun _=>bQ=0→cI l 4 ([43]:List UInt8) cw=false)) (Sum.elim (fun _=> .b (.lit true)) (fun _=> .b (.lit false))) (Sum.elim (fun _=>[bp l n (cw+1) bQ cf]) (fun _=>[bp l n cw bQ cf])) rfl (fun x=>by rcases x with _|_<;>rfl) (fun bs aF gd aB K ab=>h6 l n cw bQ cf 4 ([43]:List UInt8) (bs.getD 0 0) av (by omega) (by omega) (by omega) aF gd K (fun z w=>ab (.inl ()) ⟨z,w⟩) (fun z=>ab (.inr ()) z)) ?_
 rintro (_|_) dc
 · try dsimp only [Sum.elim_inl,Sum.elim_inr] at dc
   dsimp only [Sum.elim_inl,Sum.elim_inr]
   have Ha:=il dc.2
   refine gp b9 Tryz.mixed (σ:=Int×Int×Int×ax) (.f 0 (.f 2 (.f 3 (.o 1 (.s 4 (.s 5 (.s 6 (.s 7 (.f 8 (.s 9 .d)))))) (.o 4 (.o 1 (.s 5 (.s 6 (.s 7 (.f 8 (.s 9 .d))))) (.o 5 (.o 1 (.s 6 (.s 7 (.f 8 (.s 9 .d)))) (.o 6 (.s 1 (.s 7 (.f 8 (.s 9 .d)))) .z)) .z)) .z))))) [] [0,4,6] 4 (fun ⟨a9,dA,dB,dR⟩=>([(0, .loc 0 0),(4, .loc 1 0),(6, .loc 3 0)],[bp l n a9 dA dB, .cells [aj 0,aj 0,aj 0,aw ([]), .own [], .own [],aw ([]),aw ([]), .own [], .own []], .cells [aj b3.kind,aj b3.v.kind,aj b3.v.n,aw b3.v.s,an (b3.v.l.map cj),an (b3.v.f.map ct),aw b3.s,aw b3.t,an (b3.a.map cx),an (b3.n.map cS)], .cells [aj 5,aj 0,aj 0,aw ([]), .own [], .own [],aw ([]),aw ([]), .own ((([b3]:List ax)++([dR]:List ax)).map cx), .own []]],m)) (fun ⟨a9,dA,dB,dR⟩=>bx l (du l n k (cw+1)) dR (cw+1) bQ cf a9 dA dB) (by decide+kernel) ?_ ?_
   · rintro ⟨a9,dA,dB,dR⟩ ef
     try dsimp only at ef
     have tn:=ef.bw
     have tp:=ef.ad
     have tq:=ef.cm
     refine cF 115 [0] (σ:=aD×Int×Int×Int) (fun ⟨iE,hp,hq,hB⟩=>(bx l (cK l n 4 ([41]:List UInt8) a9) iE a9 dA dB hp hq hB)∧(hq≠0→iE=[])) (fun ⟨iE,hp,hq,hB⟩=>aw iE) (fun ⟨iE,hp,hq,hB⟩=>[bp l n hp hq hB]) rfl (fun _=>rfl) (fun bs aF gd aB K ab=>ji l n a9 dA dB 4 ([41]:List UInt8) (bs.getD 0 0) av (by omega) (by omega) (by omega) aF gd K (fun dq cc bZ b1 aT ao=>ab (dq,cc,bZ,b1) ⟨aT,ao⟩)) ?_
     rintro ⟨iE,hp,hq,hB⟩ eu
     dsimp only at eu
     obtain ⟨eu,tr⟩:=eu
     have BY:=eu.bw
     have BZ:=eu.ad
     have B0:=eu.cm
     refine rt rfl fun _=>?_
     show K (.agg [.int .i64 5, .int .i64 0, .int .i64 0, .str ([]), .slice false [], .slice false [], .str ([]), .str ([]), .slice false ((([b3]:List ax)++([dR]:List ax)).map cx), .slice false []]) (ae.bf m [(r, .cells [.slice false (l.map ch), .int .i64 hp, .int .i64 n, .err 115 hq, .int .i64 hB])])
     refine df (ab (.mk 5 eb [] [] [b3,dR] []) _ _ _ ?_) ?_
     · rw [pB]
       refine bU.bind ?_
       rw [if_pos dc.2]
       exact bx.from dc.1 (by omega) (ef.bind (eu.map fun _=>ax.mk 5 eb [] [] [b3,dR] []))
     · simp only [cy,ax.a,List.map_cons,List.map_nil,List.map_append,List.cons_append,List.nil_append,e9];rfl
   repeat' first
    |refine ⟨(gA,ft,fG,rH),⟨rfl,rfl⟩,dZ⟩
    |(refine cF 115 [0] (σ:=ax×Int×Int×Int) (fun ⟨rH,gA,ft,fG⟩=>bx l (du l n k (cw+1)) rH (cw+1) bQ cf gA ft fG) (fun ⟨rH,gA,ft,fG⟩=>iS rH) (fun ⟨rH,gA,ft,fG⟩=>[bp l n gA ft fG]) rfl (fun _=>rfl) (fun bs aF gd aB K ab=>aQ (cw+1) bQ cf (d+1) (by omega) (by omega) (by omega) (by omega) (bs.getD 0 0) aF gd (eF.up aB aV) K (fun fg cc bZ b1 aT=>ab (fg,cc,bZ,b1) aT)) ?_;rintro ⟨rH,gA,ft,fG⟩ dZ;dsimp only at dZ;have BW:=dZ.bw;have BX:=dZ.ad;have ya:=dZ.cm)
    |refine ap cx ([b3]:List ax) ([rH]:List ax) (by simp only [List.map_cons,List.map_nil,e9];try rfl) (by simp only [List.map_cons,List.map_nil,e9];try rfl) (fun a=>by rw [e9];exact ⟨rfl,rfl⟩) (by (simp only [List.length_append,List.length_cons,List.length_nil];omega)) ?_
    |refine ah (by omega) ?_
    |refine ⟨?_,?_,trivial⟩
 try dsimp only [Sum.elim_inl,Sum.elim_inr] at dc
 dsimp only [Sum.elim_inl,Sum.elim_inr]
 refine cF 115 [0] (σ:=(Unit) ⊕ (Unit)) (Sum.elim (fun _=>bQ=0∧cI l 4 ([61,61]:List UInt8) cw=true) (fun _=>bQ=0→cI l 4 ([61,61]:List UInt8) cw=false)) (Sum.elim (fun _=> .b (.lit true)) (fun _=> .b (.lit false))) (Sum.elim (fun _=>[bp l n (cw+1) bQ cf]) (fun _=>[bp l n cw bQ cf])) rfl (fun x=>by rcases x with _|_<;>rfl) (fun bs aF gd aB K ab=>h6 l n cw bQ cf 4 ([61,61]:List UInt8) (bs.getD 0 0) av (by omega) (by omega) (by omega) aF gd K (fun z w=>ab (.inl ()) ⟨z,w⟩) (fun z=>ab (.inr ()) z)) ?_
 rintro (_|_) e4
 · try dsimp only [Sum.elim_inl,Sum.elim_inr] at e4
   dsimp only [Sum.elim_inl,Sum.elim_inr]
   have UY:=il e4.2
   refine gp b9 Tryz.mixed (σ:=Int×Int×Int×ax) (.f 0 (.f 2 (.f 3 (.o 1 (.s 4 (.s 5 (.s 6 (.s 7 (.f 8 (.s 9 .d)))))) (.o 4 (.o 1 (.s 5 (.s 6 (.s 7 (.f 8 (.s 9 .d))))) (.o 5 (.o 1 (.s 6 (.s 7 (.f 8 (.s 9 .d)))) (.o 6 (.s 1 (.s 7 (.f 8 (.s 9 .d)))) .z)) .z)) .z))))) [] [0,4,6] 4 (fun ⟨a9,dA,dB,dR⟩=>([(0, .loc 0 0),(4, .loc 1 0),(6, .loc 3 0)],[bp l n a9 dA dB, .cells [aj 0,aj 0,aj 0,aw ([]), .own [], .own [],aw ([]),aw ([]), .own [], .own []], .cells [aj b3.kind,aj b3.v.kind,aj b3.v.n,aw b3.v.s,an (b3.v.l.map cj),an (b3.v.f.map ct),aw b3.s,aw b3.t,an (b3.a.map cx),an (b3.n.map cS)], .cells [aj 6,aj 0,aj 0,aw ([]), .own [], .own [],aw ([]),aw ([]), .own ((([b3]:List ax)++([dR]:List ax)).map cx), .own []]],m)) (fun ⟨a9,dA,dB,dR⟩=>bx l (du l n k (cw+1)) dR (cw+1) bQ cf a9 dA dB) (by decide+kernel) ?_ ?_
   · rintro ⟨a9,dA,dB,dR⟩ ef
     try dsimp only at ef
     have tn:=ef.bw
     have tp:=ef.ad
     have tq:=ef.cm
     refine cF 115 [0] (σ:=aD×Int×Int×Int) (fun ⟨ts,mB,gC,gV⟩=>(bx l (cK l n 4 ([41]:List UInt8) a9) ts a9 dA dB mB gC gV)∧(gC≠0→ts=[])) (fun ⟨ts,mB,gC,gV⟩=>aw ts) (fun ⟨ts,mB,gC,gV⟩=>[bp l n mB gC gV]) rfl (fun _=>rfl) (fun bs aF gd aB K ab=>ji l n a9 dA dB 4 ([41]:List UInt8) (bs.getD 0 0) av (by omega) (by omega) (by omega) aF gd K (fun dq cc bZ b1 aT ao=>ab (dq,cc,bZ,b1) ⟨aT,ao⟩)) ?_
     rintro ⟨ts,mB,gC,gV⟩ hr
     dsimp only at hr
     obtain ⟨hr,UZ⟩:=hr
     have QU:=hr.bw
     have QV:=hr.ad
     have Hj:=hr.cm
     refine rt rfl fun _=>?_
     show K (.agg [.int .i64 6, .int .i64 0, .int .i64 0, .str ([]), .slice false [], .slice false [], .str ([]), .str ([]), .slice false ((([b3]:List ax)++([dR]:List ax)).map cx), .slice false []]) (ae.bf m [(r, .cells [.slice false (l.map ch), .int .i64 mB, .int .i64 n, .err 115 gC, .int .i64 gV])])
     refine df (ab (.mk 6 eb [] [] [b3,dR] []) _ _ _ ?_) ?_
     · rw [pB]
       refine bU.bind ?_
       rw [if_neg (dE (dc e4.1)),if_pos e4.2]
       exact bx.from e4.1 (by omega) (ef.bind (hr.map fun _=>ax.mk 6 eb [] [] [b3,dR] []))
     · simp only [cy,ax.a,List.map_cons,List.map_nil,List.map_append,List.cons_append,List.nil_append,e9];rfl
   repeat' first
    |refine ⟨(eA,eG,e5,gN),⟨rfl,rfl⟩,fA⟩
    |(refine cF 115 [0] (σ:=ax×Int×Int×Int) (fun ⟨gN,eA,eG,e5⟩=>bx l (du l n k (cw+1)) gN (cw+1) bQ cf eA eG e5) (fun ⟨gN,eA,eG,e5⟩=>iS gN) (fun ⟨gN,eA,eG,e5⟩=>[bp l n eA eG e5]) rfl (fun _=>rfl) (fun bs aF gd aB K ab=>aQ (cw+1) bQ cf (d+1) (by omega) (by omega) (by omega) (by omega) (bs.getD 0 0) aF gd (eF.up aB aV) K (fun fg cc bZ b1 aT=>ab (fg,cc,bZ,b1) aT)) ?_;rintro ⟨gN,eA,eG,e5⟩ fA;dsimp only at fA;have v7:=fA.bw;have v8:=fA.ad;have wa:=fA.cm)
    |refine ap cx ([b3]:List ax) ([gN]:List ax) (by simp only [List.map_cons,List.map_nil,e9];try rfl) (by simp only [List.map_cons,List.map_nil,e9];try rfl) (fun a=>by rw [e9];exact ⟨rfl,rfl⟩) (by (simp only [List.length_append,List.length_cons,List.length_nil];omega)) ?_
    |refine ah (by omega) ?_
    |refine ⟨?_,?_,trivial⟩
 try dsimp only [Sum.elim_inl,Sum.elim_inr] at e4
 dsimp only [Sum.elim_inl,Sum.elim_inr]
 refine cF 115 [0] (σ:=(Unit) ⊕ (Unit)) (Sum.elim (fun _=>bQ=0∧cI l 4 ([63]:List UInt8) cw=true) (fun _=>bQ=0→cI l 4 ([63]:List UInt8) cw=false)) (Sum.elim (fun _=> .b (.lit true)) (fun _=> .b (.lit false))) (Sum.elim (fun _=>[bp l n (cw+1) bQ cf]) (fun _=>[bp l n cw bQ cf])) rfl (fun x=>by rcases x with _|_<;>rfl) (fun bs aF gd aB K ab=>h6 l n cw bQ cf 4 ([63]:List UInt8) (bs.getD 0 0) av (by omega) (by omega) (by omega) aF gd K (fun z w=>ab (.inl ()) ⟨z,w⟩) (fun z=>ab (.inr ()) z)) ?_
 rintro (_|_) fH
 · try dsimp only [Sum.elim_inl,Sum.elim_inr] at fH
   dsimp only [Sum.elim_inl,Sum.elim_inr]
   have QW:=il fH.2
   refine gp b9 Tryz.mixed (σ:=Int×Int×Int×ax) (.f 0 (.f 2 (.f 3 (.o 1 (.s 4 (.s 5 (.s 6 (.s 7 (.f 8 (.s 9 .d)))))) (.o 4 (.o 1 (.s 5 (.s 6 (.s 7 (.f 8 (.s 9 .d))))) (.o 5 (.o 1 (.s 6 (.s 7 (.f 8 (.s 9 .d)))) (.o 6 (.s 1 (.s 7 (.f 8 (.s 9 .d)))) .z)) .z)) .z))))) [] [0,1,4,6] 4 (fun ⟨mC,f9,nw,lh⟩=>([(0, .loc 0 0),(1,aj d),(4, .loc 1 0),(6, .loc 3 0)],[bp l n mC f9 nw, .cells [aj 0,aj 0,aj 0,aw ([]), .own [], .own [],aw ([]),aw ([]), .own [], .own []], .cells [aj b3.kind,aj b3.v.kind,aj b3.v.n,aw b3.v.s,an (b3.v.l.map cj),an (b3.v.f.map ct),aw b3.s,aw b3.t,an (b3.a.map cx),an (b3.n.map cS)], .cells [aj 7,aj 0,aj 0,aw ([]), .own [], .own [],aw ([]),aw ([]), .own ((([b3]:List ax)++([lh]:List ax)).map cx), .own []]],m)) (fun ⟨mC,f9,nw,lh⟩=>bx l (du l n k (cw+1)) lh (cw+1) bQ cf mC f9 nw) (by decide+kernel) ?_ ?_
   · rintro ⟨mC,f9,nw,lh⟩ iH
     try dsimp only at iH
     have Hk:=iH.bw
     have Hl:=iH.ad
     have Hm:=iH.cm
     refine cF 115 [0] (σ:=aD×Int×Int×Int) (fun ⟨hc,fT,gu,gL⟩=>(bx l (cK l n 4 ([58]:List UInt8) mC) hc mC f9 nw fT gu gL)∧(gu≠0→hc=[])) (fun ⟨hc,fT,gu,gL⟩=>aw hc) (fun ⟨hc,fT,gu,gL⟩=>[bp l n fT gu gL]) rfl (fun _=>rfl) (fun bs aF gd aB K ab=>ji l n mC f9 nw 4 ([58]:List UInt8) (bs.getD 0 0) av (by omega) (by omega) (by omega) aF gd K (fun dq cc bZ b1 aT ao=>ab (dq,cc,bZ,b1) ⟨aT,ao⟩)) ?_
     rintro ⟨hc,fT,gu,gL⟩ fU
     dsimp only at fU
     obtain ⟨fU,QX⟩:=fU
     have B5:=fU.bw
     have B6:=fU.ad
     have B7:=fU.cm
     refine gp b9 Tryz.mixed (σ:=Int×Int×Int×ax) (.f 0 (.f 2 (.f 3 (.o 1 (.s 4 (.s 5 (.s 6 (.s 7 (.f 8 (.s 9 .d)))))) (.o 4 (.o 1 (.s 5 (.s 6 (.s 7 (.f 8 (.s 9 .d))))) (.o 5 (.o 1 (.s 6 (.s 7 (.f 8 (.s 9 .d)))) (.o 6 (.s 1 (.s 7 (.f 8 (.s 9 .d)))) .z)) .z)) .z))))) [] [0,4,6] 4 (fun ⟨a9,dA,dB,dR⟩=>([(0, .loc 0 0),(4, .loc 1 0),(6, .loc 3 0)],[bp l n a9 dA dB, .cells [aj 0,aj 0,aj 0,aw ([]), .own [], .own [],aw ([]),aw ([]), .own [], .own []], .cells [aj b3.kind,aj b3.v.kind,aj b3.v.n,aw b3.v.s,an (b3.v.l.map cj),an (b3.v.f.map ct),aw b3.s,aw b3.t,an (b3.a.map cx),an (b3.n.map cS)], .cells [aj 7,aj 0,aj 0,aw ([]), .own [], .own [],aw ([]),aw ([]), .own (((([b3]:List ax)++([lh]:List ax))++([dR]:List ax)).map cx), .own []]],m)) (fun ⟨a9,dA,dB,dR⟩=>bx l (du l n k fT) dR fT gu gL a9 dA dB) (by decide+kernel) ?_ ?_
     · rintro ⟨a9,dA,dB,dR⟩ ef
       try dsimp only at ef
       have tn:=ef.bw
       have tp:=ef.ad
       have tq:=ef.cm
       refine cF 115 [0] (σ:=aD×Int×Int×Int) (fun ⟨mD,fI,fJ,gb⟩=>(bx l (cK l n 4 ([41]:List UInt8) a9) mD a9 dA dB fI fJ gb)∧(fJ≠0→mD=[])) (fun ⟨mD,fI,fJ,gb⟩=>aw mD) (fun ⟨mD,fI,fJ,gb⟩=>[bp l n fI fJ gb]) rfl (fun _=>rfl) (fun bs aF gd aB K ab=>ji l n a9 dA dB 4 ([41]:List UInt8) (bs.getD 0 0) av (by omega) (by omega) (by omega) aF gd K (fun dq cc bZ b1 aT ao=>ab (dq,cc,bZ,b1) ⟨aT,ao⟩)) ?_
       rintro ⟨mD,fI,fJ,gb⟩ gB
       dsimp only at gB
       obtain ⟨gB,QY⟩:=gB
       have yd:=gB.bw
       have ye:=gB.ad
       have yf:=gB.cm
       refine rt rfl fun _=>?_
       show K (.agg [.int .i64 7, .int .i64 0, .int .i64 0, .str ([]), .slice false [], .slice false [], .str ([]), .str ([]), .slice false (((([b3]:List ax)++([lh]:List ax))++([dR]:List ax)).map cx), .slice false []]) (ae.bf m [(r, .cells [.slice false (l.map ch), .int .i64 fI, .int .i64 n, .err 115 fJ, .int .i64 gb])])
       refine df (ab (.mk 7 eb [] [] [b3,lh,dR] []) _ _ _ ?_) ?_
       · rw [pB]
         refine bU.bind ?_
         rw [if_neg (dE (dc fH.1)),if_neg (dE (e4 fH.1)),if_pos fH.2]
         exact bx.from fH.1 (by omega) (iH.bind (fU.bind (ef.bind (gB.map fun _=>ax.mk 7 eb [] [] [b3,lh,dR] []))))
       · simp only [cy,ax.a,List.map_cons,List.map_nil,List.map_append,List.cons_append,List.nil_append,e9];rfl
     repeat' first
      |refine ⟨(gW,hd,ht,gO),⟨rfl,rfl⟩,gM⟩
      |(refine cF 115 [0] (σ:=ax×Int×Int×Int) (fun ⟨gO,gW,hd,ht⟩=>bx l (du l n k fT) gO fT gu gL gW hd ht) (fun ⟨gO,gW,hd,ht⟩=>iS gO) (fun ⟨gO,gW,hd,ht⟩=>[bp l n gW hd ht]) rfl (fun _=>rfl) (fun bs aF gd aB K ab=>aQ fT gu gL (d+1) (by omega) (by omega) (by omega) (by omega) (bs.getD 0 0) aF gd (eF.up aB aV) K (fun fg cc bZ b1 aT=>ab (fg,cc,bZ,b1) aT)) ?_;rintro ⟨gO,gW,hd,ht⟩ gM;dsimp only at gM;have B8:=gM.bw;have B9:=gM.ad;have Ca:=gM.cm)
      |refine ap cx (([b3]:List ax)++([lh]:List ax)) ([gO]:List ax) rfl (by simp only [List.map_cons,List.map_nil,e9];try rfl) (fun a=>by rw [e9];exact ⟨rfl,rfl⟩) (by (simp only [List.length_append,List.length_cons,List.length_nil];omega)) ?_
      |refine ah (by omega) ?_
      |refine ⟨?_,?_,trivial⟩
   repeat' first
    |refine ⟨(jA,hC,hD,gP),⟨rfl,rfl⟩,hs⟩
    |(refine cF 115 [0] (σ:=ax×Int×Int×Int) (fun ⟨gP,jA,hC,hD⟩=>bx l (du l n k (cw+1)) gP (cw+1) bQ cf jA hC hD) (fun ⟨gP,jA,hC,hD⟩=>iS gP) (fun ⟨gP,jA,hC,hD⟩=>[bp l n jA hC hD]) rfl (fun _=>rfl) (fun bs aF gd aB K ab=>aQ (cw+1) bQ cf (d+1) (by omega) (by omega) (by omega) (by omega) (bs.getD 0 0) aF gd (eF.up aB aV) K (fun fg cc bZ b1 aT=>ab (fg,cc,bZ,b1) aT)) ?_;rintro ⟨gP,jA,hC,hD⟩ hs;dsimp only at hs;have Hn:=hs.bw;have Ho:=hs.ad;have Cb:=hs.cm)
    |refine ap cx ([b3]:List ax) ([gP]:List ax) (by simp only [List.map_cons,List.map_nil,e9];try rfl) (by simp only [List.map_cons,List.map_nil,e9];try rfl) (fun a=>by rw [e9];exact ⟨rfl,rfl⟩) (by (simp only [List.length_append,List.length_cons,List.length_nil];omega)) ?_
    |refine ah (by omega) ?_
    |refine ⟨?_,?_,trivial⟩
 try dsimp only [Sum.elim_inl,Sum.elim_inr] at fH
 dsimp only [Sum.elim_inl,Sum.elim_inr]
 refine cF 115 [0] (σ:=Int×Int) (fun ⟨h7,iG⟩=>(bQ=0→h7=5∧iG=dm l n cw)∧(bQ≠0→h7=bQ∧iG=cf)∧0<h7) (fun ⟨h7,iG⟩=> .dw []) (fun ⟨h7,iG⟩=>[bp l n cw h7 iG]) rfl (fun _=>rfl) (fun bs aF gd aB K ab=>oI l n cw bQ cf 5 (bs.getD 0 0) (by decide) av (by omega) (by omega) (by omega) aF gd K (fun z=>ab (5,dm l n cw) ⟨fun _=>⟨rfl,rfl⟩,fun y=>absurd z y,by decide⟩) (fun z=>ab (bQ,cf) ⟨fun y=>absurd y z,fun _=>⟨rfl,rfl⟩,by omega⟩)) ?_
 rintro ⟨h7,iG⟩ kW
 dsimp only at kW
 obtain ⟨QZ,Hp,Q0⟩:=kW
 refine gp b9 Tryz.mixed (σ:=Int×Int×Int×ax) (.f 0 (.f 2 (.f 3 (.o 1 (.s 4 (.s 5 (.s 6 (.s 7 (.f 8 (.s 9 .d)))))) (.o 4 (.o 1 (.s 5 (.s 6 (.s 7 (.f 8 (.s 9 .d))))) (.o 5 (.o 1 (.s 6 (.s 7 (.f 8 (.s 9 .d)))) (.o 6 (.s 1 (.s 7 (.f 8 (.s 9 .d)))) .z)) .z)) .z))))) [] [0,4,6] 4 (fun ⟨a9,dA,dB,dR⟩=>([(0, .loc 0 0),(4, .loc 1 0),(6, .loc 3 0)],[bp l n a9 dA dB, .cells [aj 0,aj 0,aj 0,aw ([]), .own [], .own [],aw ([]),aw ([]), .own [], .own []], .cells [aj b3.kind,aj b3.v.kind,aj b3.v.n,aw b3.v.s,an (b3.v.l.map cj),an (b3.v.f.map ct),aw b3.s,aw b3.t,an (b3.a.map cx),an (b3.n.map cS)], .cells [aj 5,aj 0,aj 0,aw ([]), .own [], .own [],aw ([]),aw ([]), .own ((([b3]:List ax)++([dR]:List ax)).map cx), .own []]],m)) (fun ⟨a9,dA,dB,dR⟩=>bx l (du l n k cw) dR cw h7 iG a9 dA dB) (by decide+kernel) ?_ ?_
 · rintro ⟨a9,dA,dB,dR⟩ ef
   try dsimp only at ef
   have tn:=ef.bw
   have tp:=ef.ad
   have tq:=ef.cm
   refine cF 115 [0] (σ:=aD×Int×Int×Int) (fun ⟨tt,tu,rI,tv⟩=>(bx l (cK l n 4 ([41]:List UInt8) a9) tt a9 dA dB tu rI tv)∧(rI≠0→tt=[])) (fun ⟨tt,tu,rI,tv⟩=>aw tt) (fun ⟨tt,tu,rI,tv⟩=>[bp l n tu rI tv]) rfl (fun _=>rfl) (fun bs aF gd aB K ab=>ji l n a9 dA dB 4 ([41]:List UInt8) (bs.getD 0 0) av (by omega) (by omega) (by omega) aF gd K (fun dq cc bZ b1 aT ao=>ab (dq,cc,bZ,b1) ⟨aT,ao⟩)) ?_
   rintro ⟨tt,tu,rI,tv⟩ rJ
   dsimp only at rJ
   obtain ⟨rJ,U0⟩:=rJ
   have U1:=rJ.bw
   have U2:=rJ.ad
   have U3:=rJ.cm
   refine rt rfl fun _=>?_
   show K (.agg [.int .i64 5, .int .i64 0, .int .i64 0, .str ([]), .slice false [], .slice false [], .str ([]), .str ([]), .slice false ((([b3]:List ax)++([dR]:List ax)).map cx), .slice false []]) (ae.bf m [(r, .cells [.slice false (l.map ch), .int .i64 tu, .int .i64 n, .err 115 rI, .int .i64 tv])])
   refine df (ab (.mk 5 eb [] [] [b3,dR] []) _ _ _ ?_) ?_
   · obtain ⟨rfl,rfl,rfl⟩:=ef.st (by omega)
     obtain ⟨rfl,rfl,rfl⟩:=rJ.st (by omega)
     rw [pB]
     refine bU.bind ?_
     by_cases ao:bQ=0
     · rw [if_neg (dE (dc ao)),if_neg (dE (e4 ao)),if_neg (dE (fH ao))]
       exact bx.bad _ (by omega) QZ Hp Q0
     · obtain ⟨rfl,rfl⟩:=Hp ao
       exact bx.stuck ao (by omega) (by omega)
   · simp only [cy,ax.a,List.map_cons,List.map_nil,List.map_append,List.cons_append,List.nil_append,e9];rfl
 repeat' first
  |refine ⟨(mE,iU,jk,iq),⟨rfl,rfl⟩,lX⟩
  |(refine cF 115 [0] (σ:=ax×Int×Int×Int) (fun ⟨iq,mE,iU,jk⟩=>bx l (du l n k cw) iq cw h7 iG mE iU jk) (fun ⟨iq,mE,iU,jk⟩=>iS iq) (fun ⟨iq,mE,iU,jk⟩=>[bp l n mE iU jk]) rfl (fun _=>rfl) (fun bs aF gd aB K ab=>aQ cw h7 iG (d+1) (by omega) (by omega) (by omega) (by omega) (bs.getD 0 0) aF gd (eF.up aB aV) K (fun fg cc bZ b1 aT=>ab (fg,cc,bZ,b1) aT)) ?_;rintro ⟨iq,mE,iU,jk⟩ lX;dsimp only at lX;have Q1:=lX.bw;have Q2:=lX.ad;have Q3:=lX.cm)
  |refine ap cx ([b3]:List ax) ([iq]:List ax) (by simp only [List.map_cons,List.map_nil,e9];try rfl) (by simp only [List.map_cons,List.map_nil,e9];try rfl) (fun a=>by rw [e9];exact ⟨rfl,rfl⟩) (by (simp only [List.length_append,List.length_cons,List.length_nil];omega)) ?_
  |refine ah (by omega) ?_
  |refine ⟨?_,?_,trivial⟩
end Go.Proofs
end
