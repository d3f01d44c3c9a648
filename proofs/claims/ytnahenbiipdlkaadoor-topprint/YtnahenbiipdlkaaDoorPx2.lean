import Derived.Test.YtnahenbiipdlkaaDoorSv4
import Derived.Test.YtnahenbiipdlkaaDoorProg
import Derived.Test.YtnahenbiipdlkaaDoorWxz
section
namespace Go.Proofs
open Go Go.bb Go.b4
set_option maxRecDepth 100000
set_option maxHeartbeats 4000000 in
theorem NJ (a b:a6) (aO:∀v w:a6,dq v<dq a→∀(m:ae) (K:aa→ae→Prop),K (.bool (gm v w)) m→bp Tryd.prog 14 [dd v,dd w] m K) (m:ae) (K:aa→ae→Prop) (ad:K (.bool (gm a b)) m):bp Tryd.prog 14 [dd a,dd b] m K:=by
 refine enter (c:=dF [] [0] [1,13] [] [] []) (vs:=[.aI (dd a), .aI (dd b)]) (L:=[]) (m:=m) false cw Tryd.mixed Tryd.func14 rfl (k:=2) (by show du [] _ _ _=true;decide+kernel) rfl (Good.nil m) ?_
 refine ⟨fun b2=>?_⟩
 have sq:a.s.length≤140737488355328:=(b2 0 2 (Nat.le_of_ble_eq_true rfl))
 have ob:a.l.length≤140737488355328:=dT (b2 0 3 (Nat.le_of_ble_eq_true rfl))
 have pX:a.f.length≤140737488355328:=dT (b2 0 4 (Nat.le_of_ble_eq_true rfl))
 have Fl:b.s.length≤140737488355328:=(b2 1 2 (Nat.le_of_ble_eq_true rfl))
 have w3:b.l.length≤140737488355328:=dT (b2 1 3 (Nat.le_of_ble_eq_true rfl))
 have w4:b.f.length≤140737488355328:=dT (b2 1 4 (Nat.le_of_ble_eq_true rfl))
 refine aU ?_
 refine dc [2,3] 45 (((((!(a.kind==b.kind))||(!(a.n==b.n)))||(!(a.s==b.s)))||(!((a.l.length:Int)==(b.l.length:Int))))||(!((a.f.length:Int)==(b.f.length:Int)))) ?_ ?_
 · repeat' first
    |exact ⟨⟨_,rfl,by grind [bT.val]⟩,rfl⟩
    |refine ax (fun _=>?_) (fun _=>?_)
    |refine cl ?_
 refine ax (fun I=>?_) (fun I=>?_)
 · replace I:((((a.kind≠b.kind)∨(a.n≠b.n))∨(a.s≠b.s))∨((a.l.length:Int)≠(b.l.length:Int)))∨((a.f.length:Int)≠(b.f.length:Int)):=((dD I).imp (fun q=>((dD q).imp (fun q=>((dD q).imp (fun q=>((dD q).imp (fun q=>(ne_of_beq_false (dt q))) (fun q=>(ne_of_beq_false (dt q))))) (fun q=>(ne_of_beq_false (dt q))))) (fun q=>(ne_of_beq_false (dt q))))) (fun q=>(ne_of_beq_false (dt q))))
   refine b7 rfl fun _=>?_
   show K (.bool false) m
   rw [sr (by intro aL;subst aL;simp at I)] at ad;exact ad
 replace I:((((a.kind=b.kind)∧(a.n=b.n))∧(a.s=b.s))∧((a.l.length:Int)=(b.l.length:Int)))∧((a.f.length:Int)=(b.f.length:Int)):=⟨⟨⟨⟨(eq_of_beq (dy (b8 (b8 (b8 (b8 I)))))),(eq_of_beq (dy (dC (b8 (b8 (b8 I))))))⟩,(eq_of_beq (dy (dC (b8 (b8 I)))))⟩,(eq_of_beq (dy (dC (b8 I))))⟩,(eq_of_beq (dy (dC I)))⟩
 obtain ⟨⟨⟨⟨ai,aJ⟩,aj⟩,av⟩,aM⟩:=I
 refine aU ?_
 refine dE (σ:=Int) [] [2,3,5] 2 (fun i=>([(2, .loc 0 0),(3, .loc 1 0),(5,aK i)],[.cells [aK a.kind,aK a.n,aR a.s,aX (a.l.map cC),aX (a.f.map cL)], .cells [aK b.kind,aK b.n,aR b.s,aX (b.l.map cC),aX (b.f.map cL)]],m)) (fun i=>0≤i∧i≤a.l.length∧a.l.take i.toNat=b.l.take i.toNat) (fun i=>a.l.length- i.toNat) (0) ⟨rfl,rfl⟩ ?_ ?_
 · try dsimp only
   exact ⟨by omega,by omega,rfl⟩
 rintro i aW
 refine aU ?_
 refine cl ?_
 refine ax (fun J=>?_) (fun J=>?_)
 · refine aU ?_
   refine fE dd iY (by omega) ?_
   refine fE dd iY (by omega) ?_
   refine h9 (fun _=>aO (U a.l i) (U b.l i) (by have:=j0 a;first|(have:=kS (cy (l:=a.l) (i:=i) aW.1 (by assumption));omega)|(have:=kT (cy (l:=a.f) (i:=i2) cR.1 (by assumption));omega))) ?_
   refine ax (fun ak=>?_) (fun ak=>?_)
   · refine ax (by omega) ?_
     refine ⟨(i+1),⟨rfl,rfl⟩,?_,?_⟩
     · try dsimp only
       exact ⟨by omega,by omega,by rw [lY aW.1 J,lY aW.1 (by omega),aW.2.2,qY.1 ak]⟩
     try dsimp only
     omega
   refine b7 rfl fun _=>?_
   show K (.bool false) m
   rw [sr (by intro aL;subst aL;rw [pZ rfl] at ak;cases ak)] at ad;exact ad
 refine aU ?_
 refine dE (σ:=Int) [] [2,3,7] 2 (fun i2=>([(2, .loc 0 0),(3, .loc 1 0),(7,aK i2)],[.cells [aK a.kind,aK a.n,aR a.s,aX (a.l.map cC),aX (a.f.map cL)], .cells [aK b.kind,aK b.n,aR b.s,aX (b.l.map cC),aX (b.f.map cL)]],m)) (fun i2=>0≤i2∧i2≤a.f.length∧a.f.take i2.toNat=b.f.take i2.toNat) (fun i2=>a.f.length- i2.toNat) (0) ⟨rfl,rfl⟩ ?_ ?_
 · try dsimp only
   exact ⟨by omega,by omega,rfl⟩
 rintro i2 cR
 refine aU ?_
 refine cl ?_
 refine ax (fun aH=>?_) (fun aH=>?_)
 · refine aU ?_
   refine fE jH jZ (by omega) ?_
   refine fE jH jZ (by omega) ?_
   refine h9 (fun _=>aO ((U a.f i2).2) ((U b.f i2).2) (by have:=j0 a;first|(have:=kS (cy (l:=a.l) (i:=i) aW.1 (by assumption));omega)|(have:=kT (cy (l:=a.f) (i:=i2) cR.1 (by assumption));omega))) ?_
   refine dc [2,3,7] 102 ((!(gm ((U a.f i2).2) ((U b.f i2).2)))||(!(((U a.f i2).1)==((U b.f i2).1)))) ?_ ?_
   · repeat' first
      |exact ⟨⟨_,rfl,by grind [bT.val]⟩,rfl⟩
      |refine ax (fun _=>?_) (fun _=>?_)
      |refine fE jH jZ (by omega) ?_
   refine ax (fun aQ=>?_) (fun aQ=>?_)
   · replace aQ:(gm ((U a.f i2).2) ((U b.f i2).2)=false)∨((U a.f i2).1≠(U b.f i2).1):=((dD aQ).imp (fun q=>(dt q)) (fun q=>(ne_of_beq_false (dt q))))
     refine b7 rfl fun _=>?_
     show K (.bool false) m
     rw [sr (by intro aL;subst aL;rw [pZ rfl] at aQ;simp at aQ)] at ad;exact ad
   replace aQ:(gm ((U a.f i2).2) ((U b.f i2).2)=true)∧((U a.f i2).1=(U b.f i2).1):=⟨(dy (b8 aQ)),(eq_of_beq (dy (dC aQ)))⟩
   refine ax (by omega) ?_
   refine ⟨(i2+1),⟨rfl,rfl⟩,?_,?_⟩
   · try dsimp only
     exact ⟨by omega,by omega,by rw [lY cR.1 aH,lY cR.1 (by omega),cR.2.2,Prod.ext aQ.2 (qY.1 aQ.1)]⟩
   try dsimp only
   omega
 refine b7 rfl fun _=>?_
 show K (.bool true) m
 rw [pZ (a6.ext' ai aJ aj (by have:=aW.2.2;rwa [lZ (by omega),lZ (by omega)] at this) (by have:=cR.2.2;rwa [lZ (by omega),lZ (by omega)] at this))] at ad;exact ad
theorem Fo:∀(n:Nat) (a b:a6),dq a<n→∀(m:ae) (K:aa→ae→Prop),K (.bool (gm a b)) m→bp Tryd.prog 14 [dd a,dd b] m K
 |0,_,_,h=>absurd h (Nat.not_lt_zero _)
 |n+1,a,b,h=>fun m K ad=>NJ a b (fun v w ba=>Fo n v w (by omega)) m K ad
theorem Fp (a b:a6) (m:ae) (K:aa→ae→Prop) (ad:K (.bool (gm a b)) m):bp Tryd.prog 14 [dd a,dd b] m K:=Fo (dq a+1) a b (Nat.lt_succ_self _) m K ad
end Go.Proofs
end
section
namespace Go.Proofs
open Go Go.bb Go.b4
set_option maxRecDepth 100000
def uR:al:=[48,49,50,51,52,53,54,55,56,57,97,98,99,100,101,102]
def j1 (c:UInt8):al:=
 if (c.toNat:Int)=34∨(c.toNat:Int)=92 then [92,c]
 else if (c.toNat:Int)<32∨126<(c.toNat:Int) then [92,120,U uR (c.toNat/16:Nat),U uR (c.toNat%16:Nat)]
 else [c]
def ln (s:al):al:=34::s.flatMap j1++[34]
theorem NK (c:UInt8):(j1 c).length≤4:=by unfold j1;repeat' split
                                         all_goals simp
theorem Fq (s:al):(s.flatMap j1).length≤4*s.length:=by
 induction s with
 |nil=>simp
 |cons c r aO=>rw [List.flatMap_cons,List.length_append,List.length_cons];have:=NK c;omega
theorem AA {s:al} {i:Int} (aA:0≤i) (ab:i<s.length):(s.take (i+1).toNat).flatMap j1=(s.take i.toNat).flatMap j1++j1 (U s i):=by
 rw [lY aA ab,List.flatMap_append];simp
theorem NL (s:al) (k:Nat):((s.take k).flatMap j1).length≤4*s.length:=by
 have:=Fq (s.take k)
 have:(s.take k).length≤s.length:=by rw [List.length_take];omega
 omega
theorem p0 (c:UInt8):Int.fdiv (c.toNat:Int) (2^(min (Int.toNat 4) IntKind.u8.bits))=(c.toNat/16:Nat):=by
 have:∀n:Fin 256,Int.fdiv (n.val:Int) (2^(min (Int.toNat 4) IntKind.u8.bits))=(n.val/16:Nat):=by decide+kernel
 exact this ⟨c.toNat,c.toNat_lt⟩
theorem qZ (c:UInt8):IntKind.u8.wrap (BitVec.ofInt IntKind.u8.bits (c.toNat:Int) &&& BitVec.ofInt IntKind.u8.bits 15).toNat=(c.toNat%16:Nat):=by
 have:∀n:Fin 256,IntKind.u8.wrap (BitVec.ofInt IntKind.u8.bits (n.val:Int) &&& BitVec.ofInt IntKind.u8.bits 15).toNat=(n.val%16:Nat):=by decide+kernel
 exact this ⟨c.toNat,c.toNat_lt⟩
theorem sv (c:UInt8):IntKind.u8.wrap (Int.tdiv (c.toNat:Int) 16)=(c.toNat/16:Nat):=by
 have:∀n:Fin 256,IntKind.u8.wrap (Int.tdiv (n.val:Int) 16)=(n.val/16:Nat):=by decide+kernel
 exact this ⟨c.toNat,c.toNat_lt⟩
theorem sw (c:UInt8):Int.tmod (c.toNat:Int) 16=(c.toNat%16:Nat):=by
 have:∀n:Fin 256,Int.tmod (n.val:Int) 16=(n.val%16:Nat):=by decide+kernel
 exact this ⟨c.toNat,c.toNat_lt⟩
theorem q0 (c:UInt8):c.toNat<256:=c.toNat_lt
theorem NM (c:UInt8):0≤(4:Int)∧IntKind.u8.min≤Int.fdiv (c.toNat:Int) (2^(min (Int.toNat 4) IntKind.u8.bits))∧Int.fdiv (c.toNat:Int) (2^(min (Int.toNat 4) IntKind.u8.bits))≤IntKind.u8.max:=by
 have:=q0 c
 rw [p0];exact ⟨by omega,by show (0:Int)≤_;omega,by show _≤(255:Int);omega⟩
set_option maxHeartbeats 1000000 in
theorem NN (s:al) (aj:s.length≤1000000000) (m:ae) (K:aa→ae→Prop) (ad:K (.str (ln s)) m):bp Tryd.prog 60 [.str s] m K:=by
 refine enter (c:=dF [] [] [7,9] [] [] []) (vs:=[.aI (.str s)]) (L:=[]) (m:=m) false cw Tryd.mixed Tryd.func60 rfl (k:=1) (by show du [] _ _ _=true;decide+kernel) rfl (Good.nil m) ?_
 refine aU ?_
 refine dE (σ:=(List UInt8)×Int) [] [0,3,8,9] 0 (fun ⟨b,i⟩=>([(0,aR s),(3, .own (b.map bk)),(8,aK (s.length:Int)),(9,aK i)],[],m)) (fun ⟨b,i⟩=>0≤i∧i≤s.length∧b=34::(s.take i.toNat).flatMap j1) (fun ⟨b,i⟩=>s.length- i.toNat) ([34],0) ⟨rfl,rfl⟩ ?_ ?_
 · try dsimp only
   exact ⟨by omega,by omega,rfl⟩
 rintro ⟨b,i⟩ aW
 dsimp only at aW
 have ql:b.length≤1+4*s.length:=by rw [aW.2.2,List.length_cons];have:=NL s i.toNat;omega
 refine aU ?_
 refine ax (fun I=>?_) (fun I=>?_)
 · refine aU ?_
   refine ax ⟨by (first|omega|(have:=q0 (U s i);simp only [p0,qZ,sv,sw,List.length_cons,List.length_nil];omega)),by (first|omega|(have:=q0 (U s i);simp only [p0,qZ,sv,sw,List.length_cons,List.length_nil];omega))⟩ ?_
   refine dc [0,3,5,8,9] 19 ((((U s i).toNat:Int)==34)||(((U s i).toNat:Int)==92)) ?_ ?_
   · repeat' first
      |exact ⟨⟨_,rfl,by grind [bT.val]⟩,rfl⟩
      |refine ax (fun _=>?_) (fun _=>?_)
   refine ax (fun J=>?_) (fun J=>?_)
   · replace J:(((U s i).toNat:Int)=34)∨(((U s i).toNat:Int)=92):=((dD J).imp (fun q=>(eq_of_beq q)) (fun q=>(eq_of_beq q)))
     refine ap bk b ([92,U s i]:List UInt8) rfl rfl (fun _=>⟨rfl,rfl⟩) (by (simp only [List.length_append,List.length_cons,List.length_nil];omega)) ?_
     refine ax (by omega) ?_
     refine ⟨(b++([92,U s i]:List UInt8),i+1),⟨rfl,rfl⟩,?_,?_⟩
     · try dsimp only
       have e:j1 (U s i)=[92,U s i]:=by rw [j1,if_pos (by assumption)]
       exact ⟨by omega,by omega,by rw [AA aW.1 I,e,aW.2.2];rfl⟩
     try dsimp only
     omega
   replace J:(((U s i).toNat:Int)≠34)∧(((U s i).toNat:Int)≠92):=⟨(ne_of_beq_false (b8 J)),(ne_of_beq_false (dC J))⟩
   refine dc [0,3,5,8,9] 30 ((decide (((U s i).toNat:Int)<32))||(decide (126<((U s i).toNat:Int)))) ?_ ?_
   · repeat' first
      |exact ⟨⟨_,rfl,by grind [bT.val]⟩,rfl⟩
      |refine ax (fun _=>?_) (fun _=>?_)
   refine ax (fun ak=>?_) (fun ak=>?_)
   · replace ak:(((U s i).toNat:Int)<32)∨(126<((U s i).toNat:Int)):=((dD ak).imp (fun q=>(of_decide_eq_true q)) (fun q=>(of_decide_eq_true q)))
     refine ax (by exact NM _) ?_
     refine ax ⟨by (first|omega|(have:=q0 (U s i);simp only [p0,qZ,sv,sw,List.length_cons,List.length_nil];omega)),by (first|omega|(have:=q0 (U s i);simp only [p0,qZ,sv,sw,List.length_cons,List.length_nil];omega))⟩ ?_
     refine ax ⟨by (first|omega|(have:=q0 (U s i);simp only [p0,qZ,sv,sw,List.length_cons,List.length_nil];omega)),by (first|omega|(have:=q0 (U s i);simp only [p0,qZ,sv,sw,List.length_cons,List.length_nil];omega))⟩ ?_
     refine ap bk b ([92,120,U ([48,49,50,51,52,53,54,55,56,57,97,98,99,100,101,102]:List UInt8) (Int.fdiv ((U s i).toNat) (2^(min (Int.toNat 4) IntKind.u8.bits))),U ([48,49,50,51,52,53,54,55,56,57,97,98,99,100,101,102]:List UInt8) (IntKind.u8.wrap (BitVec.ofInt IntKind.u8.bits ((U s i).toNat) &&& BitVec.ofInt IntKind.u8.bits 15).toNat)]:List UInt8) rfl rfl (fun _=>⟨rfl,rfl⟩) (by (simp only [List.length_append,List.length_cons,List.length_nil];omega)) ?_
     refine ax (by omega) ?_
     refine ⟨(b++([92,120,U ([48,49,50,51,52,53,54,55,56,57,97,98,99,100,101,102]:List UInt8) (Int.fdiv ((U s i).toNat) (2^(min (Int.toNat 4) IntKind.u8.bits))),U ([48,49,50,51,52,53,54,55,56,57,97,98,99,100,101,102]:List UInt8) (IntKind.u8.wrap (BitVec.ofInt IntKind.u8.bits ((U s i).toNat) &&& BitVec.ofInt IntKind.u8.bits 15).toNat)]:List UInt8),i+1),⟨rfl,rfl⟩,?_,?_⟩
     · try dsimp only
       have e:j1 (U s i)=[92,120,U uR ((U s i).toNat/16:Nat),U uR ((U s i).toNat%16:Nat)]:=by rw [j1,if_neg (by omega),if_pos (by assumption)]
       exact ⟨by omega,by omega,by rw [AA aW.1 I,e,aW.2.2,p0,qZ];rfl⟩
     try dsimp only
     omega
   replace ak:(32≤((U s i).toNat:Int))∧(((U s i).toNat:Int)≤126):=⟨(Int.not_lt.1 (of_decide_eq_false (b8 ak))),(Int.not_lt.1 (of_decide_eq_false (dC ak)))⟩
   refine ap bk b ([U s i]:List UInt8) rfl rfl (fun _=>⟨rfl,rfl⟩) (by (simp only [List.length_append,List.length_cons,List.length_nil];omega)) ?_
   refine ax (by omega) ?_
   refine ⟨(b++([U s i]:List UInt8),i+1),⟨rfl,rfl⟩,?_,?_⟩
   · try dsimp only
     have e:j1 (U s i)=[U s i]:=by rw [j1,if_neg (by omega),if_neg (by omega)]
     exact ⟨by omega,by omega,by rw [AA aW.1 I,e,aW.2.2];rfl⟩
   try dsimp only
   omega
 refine ap bk b ([34]:List UInt8) rfl rfl (fun _=>⟨rfl,rfl⟩) (by (simp only [List.length_append,List.length_cons,List.length_nil];omega)) ?_
 refine DW ?_
 refine b7 rfl fun _=>?_
 show K (.str (b++([34]:List UInt8))) m
 have e:b++[34]=ln s:=by rw [aW.2.2,lZ (by omega)];rfl
 rw [←e] at ad;exact ad
end Go.Proofs
end
section
namespace Go.Proofs
open Go Go.bb Go.b4
set_option maxRecDepth 100000
theorem DZ (n:Int):(0≤n→Int.tdiv n 10=n/10∧Int.tmod n 10=n%10)∧(n<0→Int.tdiv n 10=-((-n)/10)∧Int.tmod n 10=-((-n)%10)):=by
 refine ⟨fun h=>⟨Int.tdiv_eq_ediv_of_nonneg h,Int.tmod_eq_emod_of_nonneg h⟩,fun h=>⟨?_,?_⟩⟩
 · rw [←Int.tdiv_eq_ediv_of_nonneg (by omega:0≤-n),Int.neg_tdiv,Int.neg_neg]
 · rw [←Int.tmod_eq_emod_of_nonneg (by omega:0≤-n),Int.neg_tmod,Int.neg_neg]
theorem NO (u:Nat):Lib.decDigits u≠[]:=by
 rw [Lib.decDigits];split<;>simp
theorem AB:∀(k u:Nat),u<10^(k+1)→(Lib.decDigits u).length≤k+1
 |k,u,h=>by
  rw [Lib.decDigits]
  split
  · simp
  · rename_i hu
    match k with
    |0=>simp at h;omega
    |k+1=>
     have:=AB k (u/10) (by rw [Nat.pow_succ] at h;omega)
     simp;omega
theorem Fs {n:Int} (mm:-9223372036854775808≤n) (nG:n≤9223372036854775807):(Lib.itoa n).length≤20:=by
 rw [Lib.itoa]
 split
 · have:=AB 18 n.natAbs (by have:(10:Nat)^19=10000000000000000000:=by decide
                            omega)
   simp;omega
 · have:=AB 18 n.toNat (by have:(10:Nat)^19=10000000000000000000:=by decide
                           omega)
   omega
def ch (m:ae):Prop:=∃e z az z2 tp p,m 0=some (wS e z .u64 Lib.pow10Tab)∧m 2=some (.lE az z2 #[.iface tp p])
theorem ch.up {m aq:ae} (an:∀b o,m b=some o→aq b=some o):ch m→ch aq:=fun ⟨e,z,az,z2,tp,p,h,J⟩=>⟨e,z,az,z2,tp,p,an _ _ h,an _ _ J⟩
theorem NP:Tryd.prog.globalNamed "internal/strconv.uint64pow10"=some 0:=by kernel_rfl
theorem NQ (n:Int) (I:-9223372036854775808≤n) (J:n≤9223372036854775807) (m:ae) (aC:ch m) (K:aa→ae→Prop) (ad:K (.str (Lib.itoa n)) m):bp Tryd.prog 59 [.int .i64 n] m K:=
 have ⟨_,_,_,_,_,_,aC,_⟩:=aC
 ME ⟨_,Tryd.func59,rfl,by kernel_rfl⟩ NP Tryd.strconv_Itoa aC (by have:=Fs I J;omega) ad
theorem Ft (m:ae) (b:Nat) (o ez:e2):(m.a1 [(b,o)]).bX b (some ez)=m.a1 [(b,ez)]:=by
 funext c;simp only [ae.a1,ae.bX];split<;>rfl
theorem AD (m:ae) (b:Nat) (o:e2):m.a1 [(b,o)] b=some o:=by simp [ae.a1,ae.bX]
theorem eB (b:Nat) (l s:al) (h:l.length+s.length≤140737488355328) (m:ae) (K:aa→ae→Prop) (ad:K (.tuple [.int .i64 s.length, .nilIface]) (m.a1 [(b, .bx 77 5 ((l++s).map bk))])):
 bp Tryd.prog 46 [.ptr ⟨b,0,none⟩, .str s] (m.a1 [(b, .bx 77 5 (l.map bk))]) K:=
 Mt ⟨_,Tryd.func46,rfl,by kernel_rfl⟩ Tryd.underlying75 Tryd.underlying9 (by kernel_rfl) (by kernel_rfl) (by kernel_rfl) Tryd.M7 (AD m b _) h (by rw [Ft];exact ad)
theorem Fu (b:Nat) (l:al) (m:ae) (K:aa→ae→Prop) (ad:K (.str l) (m.a1 [(b, .cells [.aP, .aP])])):
 bp Tryd.prog 34 [.ptr ⟨b,0,none⟩] (m.a1 [(b, .bx 77 5 (l.map bk))]) K:=
 My ⟨_,Tryd.func34,rfl,by kernel_rfl⟩ Tryd.M8 Tryd.Nc (AD m b _) (by rw [Ft];exact ad)
end Go.Proofs
end
section
namespace Go.Proofs
open Go Go.bb Go.b4
set_option maxRecDepth 100000
theorem w5:∃i,Tryd.prog.info? 77=some i∧i.zero=some (.agg #[.pointer none, .slice none 0 0]):=⟨_,rfl,rfl⟩
def lo (b:Bool):al:=if b=true then [116,114,117,101] else [102,97,108,115,101]
def ed {α:Type} (g:α→al):List α→Bool→al
 |[],_=>[]
 |x::r,first=>(if first=true then [] else [44,32])++g x++ed g r false
def ep:Nat→a6→al
 |0,_=>[]
 |k+1,v=>
  if v.kind=0 then [110,117,108,108]
  else if v.kind=1 then Lib.itoa v.n
  else if v.kind=2 then ln v.s
  else if v.kind=3 then lo (v.n==1)
  else if v.kind=4 then [91]++ed (ep k) v.l true++[93]
  else if v.kind=5 then [123]++ed (fun p:al×a6=>p.1++[58,32]++ep k p.2) v.f true++[125]
  else [110,117,108,108]
theorem p1 (k:Nat) (v:a6):ep (k+1) v=
 if v.kind=0 then [110,117,108,108]
 else if v.kind=1 then Lib.itoa v.n
 else if v.kind=2 then ln v.s
 else if v.kind=3 then lo (v.n==1)
 else if v.kind=4 then [91]++ed (ep k) v.l true++[93]
 else if v.kind=5 then [123]++ed (fun p:al×a6=>p.1++[58,32]++ep k p.2) v.f true++[125]
 else [110,117,108,108]:=by rw [ep]
theorem Fv {α:Type} [Inhabited α] {g:α→al} {l:List α} {i:Int} (aA:0≤i) (ab:i<l.length):ed g (l.drop i.toNat) (i==0)=(if (i==0)=true then [] else [44,32])++g (U l i)++ed g (l.drop (i+1).toNat) (i+1==0):=by
 have e:(i+1==0)=false:=by simp;omega
 rw [iZ aA ab,ed,e]
theorem w6 {α:Type} [Inhabited α] {g:α→al} {l:List α} {i:Int} (aA:0≤i) (ab:i<l.length) (au:i≤0):ed g (l.drop i.toNat) (i==0)=g (U l i)++ed g (l.drop (i+1).toNat) (i+1==0):=by
 rw [Fv aA ab,if_pos (by simp;omega)];rfl
theorem w7 {α:Type} [Inhabited α] {g:α→al} {l:List α} {i:Int} (aA:0≤i) (ab:i<l.length) (au:0<i):ed g (l.drop i.toNat) (i==0)=[44,32]++g (U l i)++ed g (l.drop (i+1).toNat) (i+1==0):=by
 rw [Fv aA ab,if_neg (by simp;omega)]
theorem w8 {α:Type} {g:α→al} {l:List α} {i:Int} {b:Bool} (ab:(l.length:Int)≤i):ed g (l.drop i.toNat) b=[]:=by
 rw [List.drop_eq_nil_of_le (by omega)];rfl
attribute [irreducible] ed ep
theorem AE {k:Nat} {v:a6} (h:fG (k+1) v=true):hJ v=true∧(∀x∈v.l,fG k x=true)∧∀p∈v.f,fG k p.2=true:=by
 rw [fG,Bool.and_eq_true,Bool.and_eq_true] at h
 exact ⟨h.1.1,List.all_eq_true.1 h.1.2,fun p aB=>List.all_eq_true.1 h.2 p aB⟩
theorem AF {v:a6} (h:hJ v=true) (ai:v.kind=1):-1000000000≤v.n∧v.n≤1000000000:=by
 rw [hJ,if_neg (by omega),if_pos ai] at h
 simp only [Bool.and_eq_true,decide_eq_true_eq] at h
 exact h.1.1
theorem Fw {v:a6} (h:hJ v=true) (ai:v.kind=2):(v.s.length:Int)≤40:=by
 rw [hJ,if_neg (by omega),if_neg (by omega),if_pos ai] at h
 simp only [Bool.and_eq_true,decide_eq_true_eq] at h
 exact h.1.2
theorem Fx {v:a6} (h:hJ v=true):¬(v.kind≠0∧v.kind≠1∧v.kind≠2∧v.kind≠3∧v.kind≠4∧v.kind≠5):=fun ⟨aA,I,J,ak,aH,aQ⟩=>by
 rw [hJ,if_neg aA,if_neg I,if_neg J,if_neg ak,if_neg aH,if_neg aQ] at h
 cases h
theorem NR (b:Bool) (m:ae) (K:aa→ae→Prop) (ad:K (.str (lo b)) m):bp Tryd.prog 84 [.bool b] m K:=by
 refine enter (c:=dF [] [] [] [] [] []) (vs:=[.b (.raw b)]) (L:=[]) (m:=m) false cw Tryd.mixed Tryd.func84 rfl (k:=1) (by show du [] _ _ _=true;decide+kernel) rfl (Good.nil m) ?_
 refine aU ?_
 refine ax (fun I=>?_) (fun I=>?_)
 · refine b7 rfl fun _=>ga ad ?_
   show aa.str (lo b)=aa.str ([116,114,117,101]:List UInt8)
   refine congrArg aa.str ?_
   rw [lo,if_pos I]
 refine b7 rfl fun _=>ga ad ?_
 show aa.str (lo b)=aa.str ([102,97,108,115,101]:List UInt8)
 refine congrArg aa.str ?_
 rw [lo,if_neg (by simp [I])]
theorem NS (b:Bool) (m:ae) (K:aa→ae→Prop) (ad:K (.str (lo b)) m):bp Tryd.prog 61 [.bool b] m K:=by
 refine enter (c:=dF [] [] [] [] [] []) (vs:=[.b (.raw b)]) (L:=[]) (m:=m) false cw Tryd.mixed Tryd.func61 rfl (k:=1) (by show du [] _ _ _=true;decide+kernel) rfl (Good.nil m) ?_
 refine dV (fun _=>NR (b)) rfl ?_
 exact b7 rfl fun _=>ad
set_option maxHeartbeats 2000000 in
theorem NT (k:Nat) (v:a6) (base:al) (b:Nat) (aO:∀(w:a6) (base:al),dq w<k→fG k w=true→base.length+(ep k w).length≤140737488355328→∀(b:Nat) (m:ae),eG [b] m→ch m→∀(K:aa→ae→Prop),K (.tuple []) (ae.a1 m [(b, .bx 77 5 ((base++ep k w).map bk))])→bp Tryd.prog 33 [.ptr ⟨b,0,none⟩,dd w] (ae.a1 m [(b, .bx 77 5 (base.map bk))]) K) (a7:dq v<k+1) (wY:fG (k+1) v=true) (eT:base.length+(ep (k+1) v).length≤140737488355328) (m:ae) (gd:eG [b] m) (K:aa→ae→Prop) (aC:ch m) (ad:K (.tuple []) (ae.a1 m [(b, .bx 77 5 ((base++ep (k+1) v).map bk))])):bp Tryd.prog 33 [.ptr ⟨b,0,none⟩,dd v] (ae.a1 m [(b, .bx 77 5 (base.map bk))]) K:=by
 obtain ⟨oA,pj,rL⟩:=AE wY
 refine enter (c:=dF [] [0] [] [] [] [b]) (vs:=[.loc 0 0, .aI (dd v)]) (L:=[.obj (.bx 77 5 (base.map bk))]) (m:=m) false cw Tryd.mixed Tryd.func33 rfl (k:=2) (by show du [] _ _ _=true;decide+kernel) rfl (gd.ia rfl) ?_
 refine ⟨fun b2=>?_⟩
 have Fl:v.s.length≤140737488355328:=(b2 1 2 (Nat.le_of_ble_eq_true rfl))
 have w3:v.l.length≤140737488355328:=dT (b2 1 3 (Nat.le_of_ble_eq_true rfl))
 have w4:v.f.length≤140737488355328:=dT (b2 1 4 (Nat.le_of_ble_eq_true rfl))
 refine ax (fun I=>?_) (fun I=>?_)
 · have e:ep (k+1) v=[110,117,108,108]:=by rw [p1,if_pos I]
   rw [e] at eT ad
   try simp only [List.length_append,List.length_cons,List.length_nil] at eT
   refine cI [0] [.obj (.bx 77 5 ((base++([110,117,108,108]:List UInt8)).map bk))] (.aI (.tuple [.int .i64 (([110,117,108,108]:List UInt8).length:Int), .nilIface])) rfl (fun bs aq gd=>eB (bs.getD 0 0) base ([110,117,108,108]:List UInt8) (by first|omega|(simp only [List.length_append,List.length_cons,List.length_nil];omega)) aq) ?_
   refine rt rfl fun _=>?_
   show K (.tuple []) (ae.a1 m [(b, .bx 77 5 ((base++([110,117,108,108]:List UInt8)).map bk))])
   exact ad
 refine ax (fun J=>?_) (fun J=>?_)
 · have e:ep (k+1) v=Lib.itoa v.n:=by rw [p1,if_neg I,if_pos J]
   rw [e] at eT ad
   try simp only [List.length_append,List.length_cons,List.length_nil] at eT
   refine fQ [] [] (aR (Lib.itoa v.n)) rfl (fun bs aq gd an=>NQ v.n (by have:=AF oA (by assumption);omega) (by have:=AF oA (by assumption);omega) aq (ch.up an aC)) ?_
   refine cI [0] [.obj (.bx 77 5 ((base++(Lib.itoa v.n)).map bk))] (.aI (.tuple [.int .i64 ((Lib.itoa v.n).length:Int), .nilIface])) rfl (fun bs aq gd=>eB (bs.getD 0 0) base (Lib.itoa v.n) (by first|omega|(simp only [List.length_append,List.length_cons,List.length_nil];omega)) aq) ?_
   refine rt rfl fun _=>?_
   show K (.tuple []) (ae.a1 m [(b, .bx 77 5 ((base++(Lib.itoa v.n)).map bk))])
   exact ad
 refine ax (fun ak=>?_) (fun ak=>?_)
 · have e:ep (k+1) v=ln v.s:=by rw [p1,if_neg I,if_neg J,if_pos ak]
   rw [e] at eT ad
   try simp only [List.length_append,List.length_cons,List.length_nil] at eT
   refine dV (fun _=>NN v.s (by have:=Fw oA (by assumption);omega)) rfl ?_
   refine cI [0] [.obj (.bx 77 5 ((base++(ln v.s)).map bk))] (.aI (.tuple [.int .i64 ((ln v.s).length:Int), .nilIface])) rfl (fun bs aq gd=>eB (bs.getD 0 0) base (ln v.s) (by first|omega|(simp only [List.length_append,List.length_cons,List.length_nil];omega)) aq) ?_
   refine rt rfl fun _=>?_
   show K (.tuple []) (ae.a1 m [(b, .bx 77 5 ((base++(ln v.s)).map bk))])
   exact ad
 refine ax (fun aH=>?_) (fun aH=>?_)
 · have e:ep (k+1) v=lo (v.n==1):=by rw [p1,if_neg I,if_neg J,if_neg ak,if_pos aH]
   rw [e] at eT ad
   try simp only [List.length_append,List.length_cons,List.length_nil] at eT
   refine dV (fun _=>NS ((v.n==1))) rfl ?_
   refine cI [0] [.obj (.bx 77 5 ((base++(lo ((v.n==1)))).map bk))] (.aI (.tuple [.int .i64 ((lo ((v.n==1))).length:Int), .nilIface])) rfl (fun bs aq gd=>eB (bs.getD 0 0) base (lo ((v.n==1))) (by first|omega|(simp only [List.length_append,List.length_cons,List.length_nil];omega)) aq) ?_
   refine rt rfl fun _=>?_
   show K (.tuple []) (ae.a1 m [(b, .bx 77 5 ((base++(lo ((v.n==1)))).map bk))])
   exact ad
 refine ax (fun aQ=>?_) (fun aQ=>?_)
 · have e:ep (k+1) v=[91]++ed (ep k) v.l true++[93]:=by rw [p1,if_neg I,if_neg J,if_neg ak,if_neg aH,if_pos aQ]
   rw [e] at eT ad
   try simp only [List.length_append,List.length_cons,List.length_nil] at eT
   refine cI [0] [.obj (.bx 77 5 ((base++([91]:List UInt8)).map bk))] (.aI (.tuple [.int .i64 (([91]:List UInt8).length:Int), .nilIface])) rfl (fun bs aq gd=>eB (bs.getD 0 0) base ([91]:List UInt8) (by first|omega|(simp only [List.length_append,List.length_cons,List.length_nil];omega)) aq) ?_
   refine aU ?_
   refine cl ?_
   refine dE (σ:=Int×al) [] [0,41,42,43] 2 (fun ⟨i,cr⟩=>([(0, .loc 0 0),(41,aX (v.l.map cC)),(42,aK (v.l.length:Int)),(43,aK i)],[.obj (.bx 77 5 (cr.map bk)), .cells [aK v.kind,aK v.n,aR v.s,aX (v.l.map cC),aX (v.f.map cL)]],m)) (fun ⟨i,cr⟩=>0≤i∧i≤v.l.length∧base++[91]++ed (ep k) v.l true=cr++ed (ep k) (v.l.drop i.toNat) (i==0)) (fun ⟨i,cr⟩=>v.l.length- i.toNat) (0,base++([91]:List UInt8)) ⟨rfl,rfl⟩ ?_ ?_
   · try dsimp only
     exact ⟨by omega,by omega,rfl⟩
   rintro ⟨i,cr⟩ aW
   dsimp only at aW
   have aG:=congrArg List.length aW.2.2
   simp only [List.length_append,List.length_cons,List.length_nil] at aG
   refine aU ?_
   refine ax (fun bw=>?_) (fun bw=>?_)
   · refine aU ?_
     refine fE dd iY (by omega) ?_
     refine aU ?_
     refine ax (fun db=>?_) (fun db=>?_)
     · have bU:=w7 (g:=ep k) aW.1 bw db
       have fZ:=congrArg List.length bU
       simp only [List.length_append,List.length_cons,List.length_nil] at fZ
       refine cI [0] [.obj (.bx 77 5 ((cr++([44,32]:List UInt8)).map bk))] (.aI (.tuple [.int .i64 (([44,32]:List UInt8).length:Int), .nilIface])) rfl (fun bs aq gd=>eB (bs.getD 0 0) cr ([44,32]:List UInt8) (by first|omega|(simp only [List.length_append,List.length_cons,List.length_nil];omega)) aq) ?_
       refine fQ [0] [.obj (.bx 77 5 (((cr++([44,32]:List UInt8))++ep k (U v.l i)).map bk))] (.cM []) rfl (fun bs aq gd an=>aO (U v.l i) (cr++([44,32]:List UInt8)) (by have:=j0 v;first|(have:=kS (cy (l:=v.l) (i:=i) aW.1 (by assumption));omega)|(have:=kT (cy (l:=v.f) (i:=i2) aW.1 (by assumption));omega)) (by first|exact rL _ (cy (l:=v.f) (i:=i2) aW.1 (by assumption))|exact pj _ (cy (l:=v.l) (i:=i) aW.1 (by assumption))) (by first|omega|(simp only [List.length_append,List.length_cons,List.length_nil];omega)) (bs.getD 0 0) aq gd (ch.up an aC)) ?_
       refine ax (by omega) ?_
       refine ⟨(i+1,(cr++([44,32]:List UInt8))++ep k (U v.l i)),⟨rfl,rfl⟩,?_,?_⟩
       · try dsimp only
         exact ⟨by omega,by omega,by rw [aW.2.2,bU];simp only [List.append_assoc,List.nil_append]⟩
       try dsimp only
       omega
     have bU:=w6 (g:=ep k) aW.1 bw db
     have fZ:=congrArg List.length bU
     simp only [List.length_append,List.length_cons,List.length_nil] at fZ
     refine fQ [0] [.obj (.bx 77 5 ((cr++ep k (U v.l i)).map bk))] (.cM []) rfl (fun bs aq gd an=>aO (U v.l i) cr (by have:=j0 v;first|(have:=kS (cy (l:=v.l) (i:=i) aW.1 (by assumption));omega)|(have:=kT (cy (l:=v.f) (i:=i2) aW.1 (by assumption));omega)) (by first|exact rL _ (cy (l:=v.f) (i:=i2) aW.1 (by assumption))|exact pj _ (cy (l:=v.l) (i:=i) aW.1 (by assumption))) (by first|omega|(simp only [List.length_append,List.length_cons,List.length_nil];omega)) (bs.getD 0 0) aq gd (ch.up an aC)) ?_
     refine ax (by omega) ?_
     refine ⟨(i+1,cr++ep k (U v.l i)),⟨rfl,rfl⟩,?_,?_⟩
     · try dsimp only
       exact ⟨by omega,by omega,by rw [aW.2.2,bU];simp only [List.append_assoc,List.nil_append]⟩
     try dsimp only
     omega
   refine cI [0] [.obj (.bx 77 5 ((cr++([93]:List UInt8)).map bk))] (.aI (.tuple [.int .i64 (([93]:List UInt8).length:Int), .nilIface])) rfl (fun bs aq gd=>eB (bs.getD 0 0) cr ([93]:List UInt8) (by first|omega|(simp only [List.length_append,List.length_cons,List.length_nil];omega)) aq) ?_
   refine rt rfl fun _=>?_
   show K (.tuple []) (ae.a1 m [(b, .bx 77 5 ((cr++([93]:List UInt8)).map bk))])
   have az:base++([91]++ed (ep k) v.l true++[93])=cr++[93]:=by
    have:=aW.2.2
    rw [w8 (by omega),List.append_nil] at this
    rw [←this];simp only [List.append_assoc]
   rw [az] at ad;exact ad
 refine ax (fun cA=>?_) (fun cA=>?_)
 · have e:ep (k+1) v=[123]++ed (fun p:al×a6=>p.1++[58,32]++ep k p.2) v.f true++[125]:=by rw [p1,if_neg I,if_neg J,if_neg ak,if_neg aH,if_neg aQ,if_pos cA]
   rw [e] at eT ad
   try simp only [List.length_append,List.length_cons,List.length_nil] at eT
   refine cI [0] [.obj (.bx 77 5 ((base++([123]:List UInt8)).map bk))] (.aI (.tuple [.int .i64 (([123]:List UInt8).length:Int), .nilIface])) rfl (fun bs aq gd=>eB (bs.getD 0 0) base ([123]:List UInt8) (by first|omega|(simp only [List.length_append,List.length_cons,List.length_nil];omega)) aq) ?_
   refine aU ?_
   refine cl ?_
   refine dE (σ:=Int×al) [] [0,63,64,65] 2 (fun ⟨i2,cr⟩=>([(0, .loc 0 0),(63,aX (v.f.map cL)),(64,aK (v.f.length:Int)),(65,aK i2)],[.obj (.bx 77 5 (cr.map bk)), .cells [aK v.kind,aK v.n,aR v.s,aX (v.l.map cC),aX (v.f.map cL)]],m)) (fun ⟨i2,cr⟩=>0≤i2∧i2≤v.f.length∧base++[123]++ed (fun p:al×a6=>p.1++[58,32]++ep k p.2) v.f true=cr++ed (fun p:al×a6=>p.1++[58,32]++ep k p.2) (v.f.drop i2.toNat) (i2==0)) (fun ⟨i2,cr⟩=>v.f.length- i2.toNat) (0,base++([123]:List UInt8)) ⟨rfl,rfl⟩ ?_ ?_
   · try dsimp only
     exact ⟨by omega,by omega,rfl⟩
   rintro ⟨i2,cr⟩ aW
   dsimp only at aW
   have aG:=congrArg List.length aW.2.2
   simp only [List.length_append,List.length_cons,List.length_nil] at aG
   refine aU ?_
   refine ax (fun dx=>?_) (fun dx=>?_)
   · refine aU ?_
     refine fE jH jZ (by omega) ?_
     refine aU ?_
     refine ax (fun eY=>?_) (fun eY=>?_)
     · have bU:=w7 (g:=fun p:al×a6=>p.1++[58,32]++ep k p.2) aW.1 dx eY
       have fZ:=congrArg List.length bU
       simp only [List.length_append,List.length_cons,List.length_nil] at fZ
       refine cI [0] [.obj (.bx 77 5 ((cr++([44,32]:List UInt8)).map bk))] (.aI (.tuple [.int .i64 (([44,32]:List UInt8).length:Int), .nilIface])) rfl (fun bs aq gd=>eB (bs.getD 0 0) cr ([44,32]:List UInt8) (by first|omega|(simp only [List.length_append,List.length_cons,List.length_nil];omega)) aq) ?_
       refine ax (by (simp only [List.length_cons,List.length_nil];omega)) ?_
       refine cI [0] [.obj (.bx 77 5 (((cr++([44,32]:List UInt8))++(((U v.f i2).1)++([58,32]:List UInt8))).map bk))] (.aI (.tuple [.int .i64 ((((U v.f i2).1)++([58,32]:List UInt8)).length:Int), .nilIface])) rfl (fun bs aq gd=>eB (bs.getD 0 0) (cr++([44,32]:List UInt8)) (((U v.f i2).1)++([58,32]:List UInt8)) (by first|omega|(simp only [List.length_append,List.length_cons,List.length_nil];omega)) aq) ?_
       refine fQ [0] [.obj (.bx 77 5 ((((cr++([44,32]:List UInt8))++(((U v.f i2).1)++([58,32]:List UInt8)))++ep k ((U v.f i2).2)).map bk))] (.cM []) rfl (fun bs aq gd an=>aO ((U v.f i2).2) ((cr++([44,32]:List UInt8))++(((U v.f i2).1)++([58,32]:List UInt8))) (by have:=j0 v;first|(have:=kS (cy (l:=v.l) (i:=i) aW.1 (by assumption));omega)|(have:=kT (cy (l:=v.f) (i:=i2) aW.1 (by assumption));omega)) (by first|exact rL _ (cy (l:=v.f) (i:=i2) aW.1 (by assumption))|exact pj _ (cy (l:=v.l) (i:=i) aW.1 (by assumption))) (by first|omega|(simp only [List.length_append,List.length_cons,List.length_nil];omega)) (bs.getD 0 0) aq gd (ch.up an aC)) ?_
       refine ax (by omega) ?_
       refine ⟨(i2+1,((cr++([44,32]:List UInt8))++(((U v.f i2).1)++([58,32]:List UInt8)))++ep k ((U v.f i2).2)),⟨rfl,rfl⟩,?_,?_⟩
       · try dsimp only
         exact ⟨by omega,by omega,by rw [aW.2.2,bU];simp only [List.append_assoc,List.nil_append]⟩
       try dsimp only
       omega
     have bU:=w6 (g:=fun p:al×a6=>p.1++[58,32]++ep k p.2) aW.1 dx eY
     have fZ:=congrArg List.length bU
     simp only [List.length_append,List.length_cons,List.length_nil] at fZ
     refine ax (by (simp only [List.length_cons,List.length_nil];omega)) ?_
     refine cI [0] [.obj (.bx 77 5 ((cr++(((U v.f i2).1)++([58,32]:List UInt8))).map bk))] (.aI (.tuple [.int .i64 ((((U v.f i2).1)++([58,32]:List UInt8)).length:Int), .nilIface])) rfl (fun bs aq gd=>eB (bs.getD 0 0) cr (((U v.f i2).1)++([58,32]:List UInt8)) (by first|omega|(simp only [List.length_append,List.length_cons,List.length_nil];omega)) aq) ?_
     refine fQ [0] [.obj (.bx 77 5 (((cr++(((U v.f i2).1)++([58,32]:List UInt8)))++ep k ((U v.f i2).2)).map bk))] (.cM []) rfl (fun bs aq gd an=>aO ((U v.f i2).2) (cr++(((U v.f i2).1)++([58,32]:List UInt8))) (by have:=j0 v;first|(have:=kS (cy (l:=v.l) (i:=i) aW.1 (by assumption));omega)|(have:=kT (cy (l:=v.f) (i:=i2) aW.1 (by assumption));omega)) (by first|exact rL _ (cy (l:=v.f) (i:=i2) aW.1 (by assumption))|exact pj _ (cy (l:=v.l) (i:=i) aW.1 (by assumption))) (by first|omega|(simp only [List.length_append,List.length_cons,List.length_nil];omega)) (bs.getD 0 0) aq gd (ch.up an aC)) ?_
     refine ax (by omega) ?_
     refine ⟨(i2+1,(cr++(((U v.f i2).1)++([58,32]:List UInt8)))++ep k ((U v.f i2).2)),⟨rfl,rfl⟩,?_,?_⟩
     · try dsimp only
       exact ⟨by omega,by omega,by rw [aW.2.2,bU];simp only [List.append_assoc,List.nil_append]⟩
     try dsimp only
     omega
   refine cI [0] [.obj (.bx 77 5 ((cr++([125]:List UInt8)).map bk))] (.aI (.tuple [.int .i64 (([125]:List UInt8).length:Int), .nilIface])) rfl (fun bs aq gd=>eB (bs.getD 0 0) cr ([125]:List UInt8) (by first|omega|(simp only [List.length_append,List.length_cons,List.length_nil];omega)) aq) ?_
   refine rt rfl fun _=>?_
   show K (.tuple []) (ae.a1 m [(b, .bx 77 5 ((cr++([125]:List UInt8)).map bk))])
   have az:base++([123]++ed (fun p:al×a6=>p.1++[58,32]++ep k p.2) v.f true++[125])=cr++[125]:=by
    have:=aW.2.2
    rw [w8 (by omega),List.append_nil] at this
    rw [←this];simp only [List.append_assoc]
   rw [az] at ad;exact ad
 exact absurd ⟨I,J,ak,aH,aQ,cA⟩ (Fx oA)
end Go.Proofs
end
section
namespace Go.Proofs
open Go Go.bb Go.b4
set_option maxRecDepth 100000
theorem uS {α:Type} {g:α→al} {d:α→Nat} {c:Nat}:∀(l:List α) (b:Bool),(∀x∈l,(g x).length+2≤c*d x)→(ed g l b).length≤c*ll d l
 |[],b,_=>by rw [ed];simp
 |x::r,b,h=>by
  have I:=h x (List.mem_cons_self ..)
  have J:=uS r false fun y aE=>h y (List.mem_cons_of_mem _ aE)
  rw [ed,ll,Nat.mul_add]
  have ak:(if b=true then ([]:al) else [44,32]).length≤2:=by split<;>simp
  rw [List.length_append,List.length_append]
  omega
theorem Fy:∀(l:List (al×a6)) (p:Option al),oc p l=true→∀q∈l,q.1.length≤12
 |[],_,_,q,aS=>by cases aS
 |f::r,p,h,q,aS=>by
  rw [Fg,Bool.and_eq_true,Bool.and_eq_true] at h
  rcases List.mem_cons.1 aS with rfl|aS
  · have:=h.1.1
    unfold bJ at this
    simp only [Bool.and_eq_true,decide_eq_true_eq] at this
    omega
  · exact Fy r _ h.2 q aS
theorem AG:∀(k:Nat) (v:a6),fG k v=true→(ep k v).length+20≤200*dq v
 |0,_,h=>by cases h
 |k+1,v,h=>by
  obtain ⟨I,J,ak⟩:=AE h
  have e:=j0 v
  rw [p1]
  split
  · simp;omega
  split
  · rename_i ai
    have:=AF I ai
    have:=Fs (n:=v.n) (by omega) (by omega)
    omega
  split
  · rename_i ai
    have:=Fw I ai
    have:=Fq v.s
    simp only [ln,List.length_append,List.length_cons,List.length_nil]
    omega
  split
  · unfold lo;split<;>simp<;>omega
  split
  · have:=uS (g:=ep k) (d:=dq) (c:=200) v.l true fun x ao=>by have:=AG k x (J x ao);omega
    rw [Fe] at this
    simp only [List.length_append,List.length_cons,List.length_nil]
    omega
  split
  · rename_i NU pE pD NV NW ai
    have aw:oc none v.f=true:=by
     rw [hJ,if_neg NU,if_neg pE,if_neg pD,if_neg NV,if_neg NW,if_pos ai,Bool.and_eq_true] at I
     exact I.2
    have:=uS (g:=fun p:al×a6=>p.1++[58,32]++ep k p.2) (d:=fun p=>dq p.2) (c:=200) v.f true fun x ao=>by
     have:=AG k x.2 (ak x ao)
     have:=Fy _ _ aw x ao
     simp only [List.length_append,List.length_cons,List.length_nil]
     omega
    rw [Ff] at this
    simp only [List.length_append,List.length_cons,List.length_nil]
    omega
  · simp;omega
theorem w9 {v:a6} (h:bH v=0):fG (dq v+1) v=true∧dq v≤60:=by
 have ah:=h
 unfold bH at ah
 split at ah
 · rename_i c
   refine ⟨Az ah,?_⟩
   have:=uQ (dq v+1) 1 v 60 (by omega) c
   omega
 · cases ah
theorem Fz:∀(k:Nat) (v:a6) (base:al),dq v<k→fG k v=true→base.length+(ep k v).length≤140737488355328→∀(b:Nat) (m:ae),eG [b] m→ch m→∀(K:aa→ae→Prop),K (.tuple []) (ae.a1 m [(b, .bx 77 5 ((base++ep k v).map bk))])→bp Tryd.prog 33 [.ptr ⟨b,0,none⟩,dd v] (ae.a1 m [(b, .bx 77 5 (base.map bk))]) K
 |0,_,_,h=>absurd h (Nat.not_lt_zero _)
 |k+1,v,base,h=>fun aj eT b m gd aC K ad=>NT k v base b (Fz k) h aj eT m gd K aC ad
def ib (v:a6):al:=ep (dq v+1) v
theorem xa {v:a6} (h:bH v=0):(ib v).length≤12000:=by
 have:=AG _ v (w9 h).1
 have:=(w9 h).2
 unfold ib;omega
theorem NX (v:a6) (m:ae) (K:aa→ae→Prop) (aC:ch m) (ad:K (.tuple [.str (if bH v=0 then ib v else []), .err 72 (bH v)]) m):bp Tryd.prog 15 [dd v] m K:=by
 refine enter (c:=dF [] [] [] [] [] []) (vs:=[.aI (dd v)]) (L:=[]) (m:=m) true cw Tryd.mixed Tryd.func15 rfl (k:=1) (by show du [] _ _ _=true;decide+kernel) rfl (Good.nil m) ?_
 refine dV (fun _=>Fk v) rfl ?_
 refine aU ?_
 refine ax (fun I=>?_) (fun I=>?_)
 · rw [if_pos I,I] at ad
   refine E0 (eb:=5) w5.choose_spec.1 w5.choose_spec.2 rfl ?_
   refine fQ [1] [.obj (.bx 77 5 ((([]:al)++ep (dq v+1) v).map bk))] (.cM []) rfl (fun bs aq gd an=>Fz (dq v+1) v ([]:al) (Nat.lt_succ_self _) (w9 (by assumption)).1 (by have:=xa (v:=v) (by assumption);unfold ib at this;simp only [List.length_nil];omega) (bs.getD 1 0) aq gd (ch.up an aC)) ?_
   refine cI [1] [.cells [.aI (.aP), .aI (.aP)]] (aR (([]:al)++ep (dq v+1) v)) rfl (fun bs aq gd=>Fu (bs.getD 1 0) (([]:al)++ep (dq v+1) v) aq) ?_
   refine b7 rfl fun _=>?_
   show K (.tuple [.str (([]:al)++ep (dq v+1) v), .err 72 0]) m
   exact ad
 rw [if_neg I] at ad
 refine b7 rfl fun _=>?_
 show K (.tuple [.str ([]), .err 72 (bH v)]) m
 exact ad
end Go.Proofs
end
section
namespace Go.Proofs
open Go Go.bb Go.b4
set_option maxRecDepth 100000
theorem FA {P:Program} {f:FuncId} {fn:Func} {args:List aa} {x:aa} {m:ae} {K:aa→ae→Prop} (aM:P.funcs[f]?=some fn) (ag:fn.body.isSome=true) (yL:(fn.name== "runtime.NumGoroutine")=false) (ad:K x m)
 (h:∀w lim (cargs:Array Value),cargs.size=args.length→(∀i,i<args.length→aF w lim (cargs.getD i undef) (args.getD i .aP) [])→∃v,(Calls P f cargs w fun e w'=>e= .returned v∧w'=w)∧aF w lim v x []):bp P f args m K:=by
 refine ⟨⟨fn,aM,ag,yL⟩,fun F lim w cargs aj aw st=>?_⟩
 obtain ⟨v,ba,ao⟩:=h w lim cargs aj aw
 refine ba.mono fun e w' ⟨he,hw⟩=>?_
 subst hw
 exact ⟨v,x,lim,m,[],he,ad,ao,st, .refl _ _ _⟩
theorem FB {cargs:Array Value} (h:cargs.size=2):cargs=#[cargs.getD 0 undef,cargs.getD 1 undef]:=by
 apply Array.ext (by simp [h])
 intro i ab eX
 have:i=0∨i=1:=by omega
 rcases this with rfl|rfl<;>simp [Array.getD,h]
theorem NY (s p:List UInt8) (m) (K:aa→ae→Prop) (ad:K (.bool (Lib.hasPrefix s p)) m):bp Tryd.prog 86 [.str s, .str p] m K:=by
 refine FA Tryd.func86 rfl (by decide) ad fun w lim cargs aj aw=>?_
 rw [FB aj]
 have aA:=aw 0 (by simp)
 have I:=aw 1 (by simp)
 simp only [List.getD_cons_zero,List.getD_cons_succ] at aA I
 generalize cargs.getD 0 undef=a at aA
 generalize cargs.getD 1 undef=b at I
 cases aA
 cases I
 exact ⟨_,Tryd.strings_HasPrefix _ _ _, .bool _⟩
theorem FC (l:List UInt8) (c:UInt8):Lib.indexByte l c<l.length∨Lib.indexByte l c=-1:=by
 induction l with
 |nil=>exact .inr rfl
 |cons b l aO=>
  unfold Lib.indexByte
  split
  · left;simp
  · split
    · exact .inr rfl
    · rename_i I J
      rcases aO with h|h
      · left;simp;omega
      · simp [h] at J
theorem FD (s:List UInt8) (hlen:s.length≤140737488355328) (c:UInt8) (m) (K:aa→ae→Prop) (ad:K (.int .i64 (Lib.indexByte s c)) m):bp Tryd.prog 87 [.str s, .int .u8 c.toNat] m K:=by
 refine FA Tryd.func87 rfl (by decide) ad fun w lim cargs aj aw=>?_
 rw [FB aj]
 have aA:=aw 0 (by simp)
 have I:=aw 1 (by simp)
 simp only [List.getD_cons_zero,List.getD_cons_succ] at aA I
 generalize cargs.getD 0 undef=a at aA
 generalize cargs.getD 1 undef=b at I
 cases aA
 cases I
 have th:=Lib.indexByte_ge
 refine ⟨_,Tryd.strings_IndexByte _ _ _,?_⟩
 have ah:(c.toNat:Int).toNat.toUInt8=c:=by simp
 rw [ah]
 refine .int _ _ ?_ ?_
 · have:=Lib.indexByte_ge ‹ByteArray›.data.toList c
   simp [IntKind.min,IntKind.signed,IntKind.bits];omega
 · rcases FC ‹ByteArray›.data.toList c with h|h
   · simp [IntKind.max,IntKind.signed,IntKind.bits];simp at h hlen;omega
   · rw [h];decide
def jx (c:UInt8):Bool:=decide (97≤(c.toNat:Int))&&decide ((c.toNat:Int)≤122)
def dK (c:UInt8):Bool:=decide (48≤(c.toNat:Int))&&decide ((c.toNat:Int)≤57)
def od (c:UInt8):Bool:=!((c.toNat:Int)==10)
def runN (f:UInt8→Bool) (s:List UInt8) (a:Nat):Nat:=a+((s.drop a).takeWhile f).length
theorem drop_cons {s:List UInt8} {i:Nat} (h:i<s.length):s.drop i=s.getD i 0::s.drop (i+1):=by
 rw [List.drop_eq_getElem_cons h]
 simp [List.getD_eq_getElem?_getD,h]
theorem NZ {f:UInt8→Bool} {s:List UInt8} {i:Nat} (h:i<s.length) (aM:f (s.getD i 0)=true):runN f s i=runN f s (i+1):=by
 simp only [runN,drop_cons h,List.takeWhile_cons,aM,if_true,List.length_cons]
 omega
theorem N0 {f:UInt8→Bool} {s:List UInt8} {i:Nat} (h:i<s.length→f (s.getD i 0)=false):runN f s i=i:=by
 by_cases ab:i<s.length
 · have:=h ab
   rw [runN,drop_cons ab,List.takeWhile_cons,this]
   simp
 · simp [runN,List.drop_of_length_le (Nat.not_lt.1 ab)]
theorem N1 (f:UInt8→Bool) {s:List UInt8} {i:Nat} (h:i≤s.length):runN f s i≤s.length:=by
 have:((s.drop i).takeWhile f).length≤(s.drop i).length:=(List.takeWhile_sublist _).length_le
 simp only [List.length_drop] at this
 simp only [runN]
 omega
def fR:List UInt8:=[48,49,50,51,52,53,54,55,56,57,97,98,99,100,101,102]
def j2:List UInt8:=[61,123,125,91,93,40,41,58,44,46,43,63,45]
def iE (s:List UInt8):Int:=if Lib.hasPrefix s [61,61]=true then 2 else if 0≤Lib.indexByte j2 (s.getD 0 0) then 1 else 0
theorem indexByte_none {l:List UInt8} {c:UInt8} (h:∀j,j<l.length→l.getD j 0≠c):Lib.indexByte l c=-1:=by
 induction l with
 |nil=>rfl
 |cons b l aO=>
  have aA:=h 0 (by simp)
  simp at aA
  unfold Lib.indexByte
  rw [if_neg (by simpa using aA),aO (fun j aG=>by simpa using h (j+1) (by simpa using aG))]
  rfl
theorem uT (s:List UInt8) (i:Nat):U s (i:Int)=s.getD i 0:=by simp [U];rfl
theorem AH (s:List UInt8) (n k:Nat):U s ((n:Int)+(k:Int))=s.getD (n+k) 0:=by
 rw [←Int.natCast_add,uT]
def cG (f:UInt8→Bool) (s:List UInt8) (a:Int):Int:=(runN f s a.toNat:Nat)
theorem sx {f:UInt8→Bool} {s:List UInt8} {i:Int} (aA:0≤i) (h:i<s.length) (aM:f (U s i)=true):cG f s i=cG f s (i+1):=by
 obtain ⟨n,rfl⟩:=Int.eq_ofNat_of_zero_le aA
 simp only [cG,Int.toNat_natCast]
 rw [NZ (by omega) (by rw [uT] at aM;exact aM)]
 rfl
theorem N2 {f:UInt8→Bool} {s:List UInt8} {i:Int} (aA:0≤i) (h:i<s.length→f (U s i)=false):cG f s i=i:=by
 obtain ⟨n,rfl⟩:=Int.eq_ofNat_of_zero_le aA
 simp only [cG,Int.toNat_natCast]
 rw [N0 (fun aL=>by have:=h (by omega);rwa [uT] at this)]
theorem uU (f:UInt8→Bool) {s:List UInt8} {i:Int} (aA:0≤i) (h:i≤s.length):cG f s i≤s.length:=by
 have:=N1 f (s:=s) (i:=i.toNat) (by omega)
 simp only [cG];omega
theorem q1 (f:UInt8→Bool) {s:List UInt8} {i:Int} (aA:0≤i):i≤cG f s i:=by
 simp only [cG,runN];omega
def fH (c:UInt8):Bool:=jx c||dK c
theorem uV {c:UInt8}:dK c=true↔(48≤(c.toNat:Int)∧(c.toNat:Int)≤57):=by simp [dK]
theorem AI {c:UInt8}:jx c=true↔(97≤(c.toNat:Int)∧(c.toNat:Int)≤122):=by simp [jx]
theorem FE (c:UInt8) (m:ae) (K:aa→ae→Prop) (ad:K (.bool (jx c)) m):bp Tryd.prog 65 [.int .u8 c.toNat] m K:=by
 refine enter (c:=dF [] [] [1] [] [] []) (vs:=[.aI (.int .u8 c.toNat)]) (L:=[]) (m:=m) false cw Tryd.mixed Tryd.func65 rfl (k:=1) (by show du [] _ _ _=true;decide+kernel) rfl (Good.nil m) ?_
 refine dc [] 2 ((decide (97≤(c.toNat:Int)))&&(decide ((c.toNat:Int)≤122))) ?_ ?_
 · repeat' first
    |exact ⟨⟨_,rfl,by grind [bT.val]⟩,rfl⟩
    |refine ax (fun _=>?_) (fun _=>?_)
 exact b7 rfl fun _=>ad
theorem AJ (c:UInt8) (m:ae) (K:aa→ae→Prop) (ad:K (.bool (dK c)) m):bp Tryd.prog 67 [.int .u8 c.toNat] m K:=by
 refine enter (c:=dF [] [] [1] [] [] []) (vs:=[.aI (.int .u8 c.toNat)]) (L:=[]) (m:=m) false cw Tryd.mixed Tryd.func67 rfl (k:=1) (by show du [] _ _ _=true;decide+kernel) rfl (Good.nil m) ?_
 refine dc [] 2 ((decide (48≤(c.toNat:Int)))&&(decide ((c.toNat:Int)≤57))) ?_ ?_
 · repeat' first
    |exact ⟨⟨_,rfl,by grind [bT.val]⟩,rfl⟩
    |refine ax (fun _=>?_) (fun _=>?_)
 exact b7 rfl fun _=>ad
theorem N3 (c:UInt8) (m:ae) (K:aa→ae→Prop) (ad:K (.bool (od c)) m):bp Tryd.prog 64 [.int .u8 c.toNat] m K:=by
 refine enter (c:=dF [] [] [] [] [] []) (vs:=[.aI (.int .u8 c.toNat)]) (L:=[]) (m:=m) false cw Tryd.mixed Tryd.func64 rfl (k:=1) (by show du [] _ _ _=true;decide+kernel) rfl (Good.nil m) ?_
 exact b7 rfl fun _=>ad
theorem N4 (c:UInt8) (m:ae) (K:aa→ae→Prop) (ad:K (.bool (fH c)) m):bp Tryd.prog 66 [.int .u8 c.toNat] m K:=by
 refine enter (c:=dF [] [] [1] [] [] []) (vs:=[.aI (.int .u8 c.toNat)]) (L:=[]) (m:=m) false cw Tryd.mixed Tryd.func66 rfl (k:=1) (by show du [] _ _ _=true;decide+kernel) rfl (Good.nil m) ?_
 refine dc [] 2 ((jx c)||(dK c)) ?_ ?_
 · repeat' first
    |exact ⟨⟨_,rfl,by grind [bT.val]⟩,rfl⟩
    |refine ax (fun _=>?_) (fun _=>?_)
    |refine dV (fun _=>FE c) rfl ?_
    |refine dV (fun _=>AJ c) rfl ?_
 exact b7 rfl fun _=>ad
theorem xb (c:UInt8) (m:ae) (K:aa→ae→Prop) (ad:K (.int .i64 (Lib.indexByte fR c)) m):bp Tryd.prog 85 [.int .u8 c.toNat] m K:=by
 refine enter (c:=dF [] [] [] [] [] []) (vs:=[.aI (.int .u8 c.toNat)]) (L:=[]) (m:=m) false cw Tryd.mixed Tryd.func85 rfl (k:=1) (by show du [] _ _ _=true;decide+kernel) rfl (Good.nil m) ?_
 refine dV (fun _=>FD ([48,49,50,51,52,53,54,55,56,57,97,98,99,100,101,102]:List UInt8) (by first|decide|omega) c) rfl ?_
 exact b7 rfl fun _=>ad
theorem N5 (s:al) (aj:0<s.length) (m:ae) (K:aa→ae→Prop) (ad:K (.int .i64 (iE s)) m):bp Tryd.prog 69 [.str s] m K:=by
 refine enter (c:=dF [] [] [] [] [] []) (vs:=[.aI (.str s)]) (L:=[]) (m:=m) false cw Tryd.mixed Tryd.func69 rfl (k:=1) (by show du [] _ _ _=true;decide+kernel) rfl (Good.nil m) ?_
 refine aU ?_
 refine dV (fun _=>NY s ([61,61]:List UInt8)) rfl ?_
 refine ax (fun I=>?_) (fun I=>?_)
 · refine b7 rfl fun _=>ga ad ?_
   show aa.int .i64 (iE s)=aa.int .i64 2
   refine congrArg (aa.int .i64) ?_
   rw [iE,if_pos I]
 refine aU ?_
 refine ax (by omega) ?_
 refine dV (fun _=>FD ([61,123,125,91,93,40,41,58,44,46,43,63,45]:List UInt8) (by first|decide|omega) (U s 0)) rfl ?_
 refine ax (fun J=>?_) (fun J=>?_)
 · refine b7 rfl fun _=>ga ad ?_
   show aa.int .i64 (iE s)=aa.int .i64 1
   refine congrArg (aa.int .i64) ?_
   rw [iE,if_neg (by rw [I];simp),if_pos (show 0≤Lib.indexByte j2 (s.getD 0 0) from J)]
 refine b7 rfl fun _=>ga ad ?_
 show aa.int .i64 (iE s)=aa.int .i64 0
 refine congrArg (aa.int .i64) ?_
 rw [iE,if_neg (by rw [I];simp),if_neg (show ¬0≤Lib.indexByte j2 (s.getD 0 0) from Int.not_le.2 J)]
end Go.Proofs
end
section
namespace Go.Proofs
open Go Go.bb Go.b4
set_option maxRecDepth 100000
def p2 (a b:Int):UInt8:=UInt8.ofNat (16*a+b).toNat
def gD (s:List UInt8) (i:Nat) (b:List UInt8):Int×List UInt8×Int:=
 if i<s.length then
  if (s.getD i 0).toNat=34 then (if 40<b.length then (1,[],0) else (0,b,((i+1:Nat):Int)))
  else if (s.getD i 0).toNat<32∨126<(s.getD i 0).toNat then (4,[],0)
  else if (s.getD i 0).toNat≠92 then gD s (i+1) (b++[s.getD i 0])
  else if i+1<s.length∧((s.getD (i+1) 0).toNat=34∨(s.getD (i+1) 0).toNat=92) then gD s (i+2) (b++[s.getD (i+1) 0])
  else if i+3<s.length∧(s.getD (i+1) 0).toNat=120∧0≤Lib.indexByte fR (s.getD (i+2) 0)∧0≤Lib.indexByte fR (s.getD (i+3) 0) then
   gD s (i+4) (b++[p2 (Lib.indexByte fR (s.getD (i+2) 0)) (Lib.indexByte fR (s.getD (i+3) 0))])
  else (4,[],0)
 else (4,[],0)
termination_by s.length- i
def uW (r:Int×List UInt8×Int):aa:= .tuple [.str r.2.1, .int .i64 r.2.2, .err 72 r.1]
section
variable {s b:List UInt8} {i:Nat}
theorem N6 (h:¬i<s.length):gD s i b=(4,[],0):=by rw [gD,if_neg h]
theorem N7 (h:i<s.length) (ah:(s.getD i 0).toNat=34) (ag:¬40<b.length):gD s i b=(0,b,((i+1:Nat):Int)):=by rw [gD,if_pos h,if_pos ah,if_neg ag]
theorem N8 (h:i<s.length) (ah:(s.getD i 0).toNat≠34) (ag:¬((s.getD i 0).toNat<32∨126<(s.getD i 0).toNat)) (dx:(s.getD i 0).toNat≠92):gD s i b=gD s (i+1) (b++[s.getD i 0]):=by
 conv=>lhs;rw [gD]
 rw [if_pos h,if_neg ah,if_neg ag,if_pos dx]
theorem N9 (h:i<s.length) (dx:(s.getD i 0).toNat=92) (I:i+1<s.length∧((s.getD (i+1) 0).toNat=34∨(s.getD (i+1) 0).toNat=92)):gD s i b=gD s (i+2) (b++[s.getD (i+1) 0]):=by
 conv=>lhs;rw [gD]
 rw [if_pos h,if_neg (by omega),if_neg (by omega),if_neg (by omega),if_pos I]
theorem Oa (h:i<s.length) (dx:(s.getD i 0).toNat=92) (I:¬(i+1<s.length∧((s.getD (i+1) 0).toNat=34∨(s.getD (i+1) 0).toNat=92)))
 (J:i+3<s.length∧(s.getD (i+1) 0).toNat=120∧0≤Lib.indexByte fR (s.getD (i+2) 0)∧0≤Lib.indexByte fR (s.getD (i+3) 0)):
 gD s i b=gD s (i+4) (b++[p2 (Lib.indexByte fR (s.getD (i+2) 0)) (Lib.indexByte fR (s.getD (i+3) 0))]):=by
 conv=>lhs;rw [gD]
 rw [if_pos h,if_neg (by omega),if_neg (by omega),if_neg (by omega),if_neg I,if_pos J]
end
theorem FF (c:UInt8):Lib.indexByte fR c<16:=by
 rcases FC fR c with h|h
 · simpa [fR] using h
 · rw [h];decide
theorem Ob (a b:Int) (aN:0≤a) (pL:a<16) (ag:0≤b) (e9:b<16):
 IntKind.u8.wrap (IntKind.i64.wrap ((BitVec.ofInt IntKind.i64.bits (IntKind.i64.wrap (a*2^(min (Int.toNat 4) IntKind.i64.bits))) ||| BitVec.ofInt IntKind.i64.bits b).toNat))=(p2 a b).toNat:=by
 obtain ⟨a,rfl⟩:=Int.eq_ofNat_of_zero_le aN
 obtain ⟨b,rfl⟩:=Int.eq_ofNat_of_zero_le ag
 have key:∀a b:Fin 16,IntKind.u8.wrap (IntKind.i64.wrap ((BitVec.ofInt IntKind.i64.bits (IntKind.i64.wrap (((a.1:Nat):Int)*2^(min (Int.toNat 4) IntKind.i64.bits))) ||| BitVec.ofInt IntKind.i64.bits ((b.1:Nat):Int)).toNat))=(p2 ((a.1:Nat):Int) ((b.1:Nat):Int)).toNat:=by decide+kernel
 exact key ⟨a,by omega⟩ ⟨b,by omega⟩
theorem u8_or (a b:Int) (aN:0≤a) (pL:a<16) (ag:0≤b) (e9:b<16):
 qA (IntKind.i64.wrap ((BitVec.ofInt IntKind.i64.bits (IntKind.i64.wrap (a*2^(min (Int.toNat 4) IntKind.i64.bits))) ||| BitVec.ofInt IntKind.i64.bits b).toNat))=p2 a b:=by
 apply UInt8.toNat_inj.1
 have:=Ob a b aN pL ag e9
 rw [←Dp] at this
 omega
section
variable {s b:List UInt8} {i:Int}
def fm (s:List UInt8) (i:Int) (b:List UInt8):=gD s i.toNat b
theorem Oc (h:s.length≤i):fm s i b=(4,[],0):=N6 (by omega)
theorem Od (aA:0≤i) (h:i<s.length):fm s i b=
 if ((U s i).toNat:Int)=34 then (if (40:Int)<b.length then (1,[],0) else (0,b,i+1))
 else if ((U s i).toNat:Int)<32∨126<((U s i).toNat:Int) then (4,[],0)
 else if ((U s i).toNat:Int)≠92 then fm s (i+1) (b++[U s i])
 else if i+1<s.length∧(((U s (i+1)).toNat:Int)=34∨((U s (i+1)).toNat:Int)=92) then fm s (i+2) (b++[U s (i+1)])
 else if i+3<s.length∧((U s (i+1)).toNat:Int)=120∧0≤Lib.indexByte fR (U s (i+2))∧0≤Lib.indexByte fR (U s (i+3)) then
  fm s (i+4) (b++[p2 (Lib.indexByte fR (U s (i+2))) (Lib.indexByte fR (U s (i+3)))])
 else (4,[],0):=by
 obtain ⟨n,rfl⟩:=Int.eq_ofNat_of_zero_le aA
 have cD:=uT s n
 have ay:=AH s n 1
 have az:=AH s n 2
 have cB:=AH s n 3
 have cf:((n:Int)+1).toNat=n+1:=by omega
 have dQ:((n:Int)+2).toNat=n+2:=by omega
 have jW:((n:Int)+4).toNat=n+4:=by omega
 simp only [fm,Int.toNat_natCast,cf,dQ,jW]
 simp only [Int.natCast_one,Int.cast_ofNat_Int] at ay az cB
 rw [cD,ay,az,cB]
 conv=>lhs;rw [gD]
 rw [if_pos (by omega)]
 have h3:(((s.getD n 0).toNat:Int)=34)=((s.getD n 0).toNat=34):=propext ⟨fun h=>by omega,fun h=>by omega⟩
 have jo:(((s.getD n 0).toNat:Int)<32∨126<((s.getD n 0).toNat:Int))=((s.getD n 0).toNat<32∨126<(s.getD n 0).toNat):=propext ⟨fun h=>by omega,fun h=>by omega⟩
 have Oe:(((s.getD n 0).toNat:Int)≠92)=((s.getD n 0).toNat≠92):=propext ⟨fun h=>by omega,fun h=>by omega⟩
 have Of:((n:Int)+1<s.length∧(((s.getD (n+1) 0).toNat:Int)=34∨((s.getD (n+1) 0).toNat:Int)=92))=(n+1<s.length∧((s.getD (n+1) 0).toNat=34∨(s.getD (n+1) 0).toNat=92)):=propext ⟨fun h=>by omega,fun h=>by omega⟩
 have Og:((n:Int)+3<s.length∧((s.getD (n+1) 0).toNat:Int)=120∧0≤Lib.indexByte fR (s.getD (n+2) 0)∧0≤Lib.indexByte fR (s.getD (n+3) 0))=(n+3<s.length∧(s.getD (n+1) 0).toNat=120∧0≤Lib.indexByte fR (s.getD (n+2) 0)∧0≤Lib.indexByte fR (s.getD (n+3) 0)):=propext ⟨fun h=>⟨by omega,by omega,h.2.2⟩,fun h=>⟨by omega,by omega,h.2.2⟩⟩
 have Oh:((40:Int)<b.length)=(40<b.length):=propext ⟨fun h=>by omega,fun h=>by omega⟩
 simp only [h3,jo,Oe,Of,Og,Oh]
 rfl
end
set_option maxHeartbeats 2000000 in
theorem Oi (s:al) (a:Int) (aj:s.length≤16777216) (aA:0≤a) (aN:a<s.length) (m:ae) (K:aa→ae→Prop) (ad:K (uW (fm s (a+1) [])) m):bp Tryd.prog 68 [.str s, .int .i64 a] m K:=by
 refine enter (c:=dF [] [] [11,14,17] [] [] []) (vs:=[.aI (.str s), .aI (.int .i64 a)]) (L:=[]) (m:=m) true cw Tryd.mixed Tryd.func68 rfl (k:=2) (by show du [] _ _ _=true;decide+kernel) rfl (Good.nil m) ?_
 refine aU ?_
 refine ax (by omega) ?_
 refine dE (σ:=(List UInt8)×Int) [] [0,7,8] 0 (fun ⟨b,i⟩=>([(0,aR s),(7, .own (b.map bk)),(8,aK i)],[],m)) (fun ⟨b,i⟩=>0≤i∧i≤s.length∧(b.length:Int)≤i∧fm s (a+1) []=fm s i b) (fun ⟨b,i⟩=>s.length- i.toNat) ([],a+1) ⟨rfl,rfl⟩ ?_ ?_
 · try dsimp only
   exact ⟨by omega,by omega,by simp;omega,rfl⟩
 rintro ⟨b,i⟩ aW
 dsimp only at aW
 refine aU ?_
 refine ax (fun I=>?_) (fun I=>?_)
 · have aS:=Od (b:=b) aW.1 I
   have sh:=FF (U s (i+2))
   have uI:=FF (U s (i+3))
   refine aU ?_
   refine ax (by omega) ?_
   refine ax (fun J=>?_) (fun J=>?_)
   · refine aU ?_
     refine cl ?_
     refine ax (fun ak=>?_) (fun ak=>?_)
     · refine b7 rfl fun _=>ga ad ?_
       show uW (fm s (a+1) [])=aa.tuple [.str ([]), .int .i64 0, .err 72 1]
       rw [aW.2.2.2,aS,if_pos J,if_pos ak];rfl
     refine DW ?_
     refine ax (by omega) ?_
     refine b7 rfl fun _=>ga ad ?_
     show uW (fm s (a+1) [])=aa.tuple [.str b, .int .i64 (i+1), .err 72 0]
     rw [aW.2.2.2,aS,if_pos J,if_neg (by omega)];rfl
   refine dc [0,7,8,9] 36 (((((U s i).toNat:Int)==92)&&(decide (i+1<(s.length:Int))))&&((((U s (i+1)).toNat:Int)==34)||(((U s (i+1)).toNat:Int)==92))) ?_ ?_
   · repeat' first
      |exact ⟨⟨_,rfl,by grind [bT.val]⟩,rfl⟩
      |refine ax (fun _=>?_) (fun _=>?_)
      |refine ax (by omega) ?_
   refine ax (fun aH=>?_) (fun aH=>?_)
   · replace aH:((((U s i).toNat:Int)=92)∧(i+1<(s.length:Int)))∧((((U s (i+1)).toNat:Int)=34)∨(((U s (i+1)).toNat:Int)=92)):=⟨⟨(eq_of_beq (fC (fC aH))),(of_decide_eq_true (gS (fC aH)))⟩,((dD (gS aH)).imp (fun q=>(eq_of_beq q)) (fun q=>(eq_of_beq q)))⟩
     refine ax (by omega) ?_
     refine ax (by omega) ?_
     refine ap bk b ([U s (i+1)]:List UInt8) rfl rfl (fun _=>⟨rfl,rfl⟩) (by (simp only [List.length_append,List.length_cons,List.length_nil];omega)) ?_
     refine ax (by omega) ?_
     refine ⟨(b++([U s (i+1)]:List UInt8),(i+1)+1),⟨rfl,rfl⟩,?_,?_⟩
     · try dsimp only
       exact ⟨by omega,by omega,by simp;omega,by rw [aW.2.2.2,aS,if_neg J,if_neg (by omega),if_neg (by omega),if_pos (by omega)];congr 1;omega⟩
     try dsimp only
     omega
   replace aH:((((U s i).toNat:Int)≠92)∨((s.length:Int)≤i+1))∨((((U s (i+1)).toNat:Int)≠34)∧(((U s (i+1)).toNat:Int)≠92)):=((gT aH).imp (fun q=>((gT q).imp (fun q=>(ne_of_beq_false q)) (fun q=>(Int.not_lt.1 (of_decide_eq_false q))))) (fun q=>⟨(ne_of_beq_false (b8 q)),(ne_of_beq_false (dC q))⟩))
   refine dc [0,7,8,9] 68 (((((((U s i).toNat:Int)==92)&&(decide (i+3<(s.length:Int))))&&(((U s (i+1)).toNat:Int)==120))&&(decide (0≤Lib.indexByte fR (U s (i+2)))))&&(decide (0≤Lib.indexByte fR (U s (i+3))))) ?_ ?_
   · repeat' first
      |exact ⟨⟨_,rfl,by grind [bT.val]⟩,rfl⟩
      |refine ax (fun _=>?_) (fun _=>?_)
      |refine ax (by omega) ?_
      |refine dV (fun _=>xb (U s (i+2))) rfl ?_
      |refine dV (fun _=>xb (U s (i+3))) rfl ?_
   refine ax (fun aQ=>?_) (fun aQ=>?_)
   · replace aQ:((((((U s i).toNat:Int)=92)∧(i+3<(s.length:Int)))∧(((U s (i+1)).toNat:Int)=120))∧(0≤Lib.indexByte fR (U s (i+2))))∧(0≤Lib.indexByte fR (U s (i+3))):=⟨⟨⟨⟨(eq_of_beq (fC (fC (fC (fC aQ))))),(of_decide_eq_true (gS (fC (fC (fC aQ)))))⟩,(eq_of_beq (gS (fC (fC aQ))))⟩,(of_decide_eq_true (gS (fC aQ)))⟩,(of_decide_eq_true (gS aQ))⟩
     refine ax (by omega) ?_
     refine ax (by omega) ?_
     refine h9 (fun _=>xb (U s (i+2))) ?_
     refine ax (by omega) ?_
     refine ax (by omega) ?_
     refine ax (by omega) ?_
     refine h9 (fun _=>xb (U s (i+3))) ?_
     refine ap bk b ([(qA (IntKind.i64.wrap (BitVec.ofInt IntKind.i64.bits (IntKind.i64.wrap ((Lib.indexByte fR (U s (i+2)))*2^(min (Int.toNat 4) IntKind.i64.bits))) ||| BitVec.ofInt IntKind.i64.bits (Lib.indexByte fR (U s (i+3)))).toNat))]:List UInt8) rfl rfl (fun _=>⟨rfl,rfl⟩) (by (simp only [List.length_append,List.length_cons,List.length_nil];omega)) ?_
     refine ax (by omega) ?_
     refine ax (by omega) ?_
     refine ⟨(b++([(qA (IntKind.i64.wrap (BitVec.ofInt IntKind.i64.bits (IntKind.i64.wrap ((Lib.indexByte fR (U s (i+2)))*2^(min (Int.toNat 4) IntKind.i64.bits))) ||| BitVec.ofInt IntKind.i64.bits (Lib.indexByte fR (U s (i+3)))).toNat))]:List UInt8),(i+3)+1),⟨rfl,rfl⟩,?_,?_⟩
     · try dsimp only
       exact ⟨by omega,by omega,by simp;omega,by rw [aW.2.2.2,aS,if_neg J,if_neg (by omega),if_neg (by omega),if_neg (by omega),if_pos (by omega),u8_or _ _ (by omega) (by omega) (by omega) (by omega)];congr 1;omega⟩
     try dsimp only
     omega
   replace aQ:((((((U s i).toNat:Int)≠92)∨((s.length:Int)≤i+3))∨(((U s (i+1)).toNat:Int)≠120))∨(Lib.indexByte fR (U s (i+2))<0))∨(Lib.indexByte fR (U s (i+3))<0):=((gT aQ).imp (fun q=>((gT q).imp (fun q=>((gT q).imp (fun q=>((gT q).imp (fun q=>(ne_of_beq_false q)) (fun q=>(Int.not_lt.1 (of_decide_eq_false q))))) (fun q=>(ne_of_beq_false q)))) (fun q=>(Int.not_le.1 (of_decide_eq_false q))))) (fun q=>(Int.not_le.1 (of_decide_eq_false q))))
   refine dc [0,7,8,9] 119 (((((U s i).toNat:Int)==92)||(decide (((U s i).toNat:Int)<32)))||(decide (126<((U s i).toNat:Int)))) ?_ ?_
   · repeat' first
      |exact ⟨⟨_,rfl,by grind [bT.val]⟩,rfl⟩
      |refine ax (fun _=>?_) (fun _=>?_)
   refine ax (fun bw=>?_) (fun bw=>?_)
   · replace bw:((((U s i).toNat:Int)=92)∨(((U s i).toNat:Int)<32))∨(126<((U s i).toNat:Int)):=((dD bw).imp (fun q=>((dD q).imp (fun q=>(eq_of_beq q)) (fun q=>(of_decide_eq_true q)))) (fun q=>(of_decide_eq_true q)))
     refine b7 rfl fun _=>ga ad ?_
     show uW (fm s (a+1) [])=aa.tuple [.str ([]), .int .i64 0, .err 72 4]
     rw [aW.2.2.2,aS,if_neg J];(repeat' split)<;>first|rfl|omega
   replace bw:((((U s i).toNat:Int)≠92)∧(32≤((U s i).toNat:Int)))∧(((U s i).toNat:Int)≤126):=⟨⟨(ne_of_beq_false (b8 (b8 bw))),(Int.not_lt.1 (of_decide_eq_false (dC (b8 bw))))⟩,(Int.not_lt.1 (of_decide_eq_false (dC bw)))⟩
   refine ap bk b ([U s i]:List UInt8) rfl rfl (fun _=>⟨rfl,rfl⟩) (by (simp only [List.length_append,List.length_cons,List.length_nil];omega)) ?_
   refine ax (by omega) ?_
   refine ⟨(b++([U s i]:List UInt8),i+1),⟨rfl,rfl⟩,?_,?_⟩
   · try dsimp only
     exact ⟨by omega,by omega,by simp;omega,by rw [aW.2.2.2,aS,if_neg J,if_neg (by omega),if_pos (by omega)]⟩
   try dsimp only
   omega
 refine b7 rfl fun _=>ga ad ?_
 show uW (fm s (a+1) [])=aa.tuple [.str ([]), .int .i64 0, .err 72 4]
 rw [aW.2.2.2,Oc I];rfl
end Go.Proofs
end
section
namespace Go.Proofs
open Go Go.bb Go.b4
set_option maxRecDepth 100000
def eP (s:List UInt8) (a:Int):Int×List UInt8×Int×Int:=
 if jx (U s a)=true then
  (if 12<cG fH s a- a then (0,[],0,1) else (1,sub s a (cG fH s a),cG fH s a,0))
 else if dK (U s a)=true then
  (if 10<cG dK s a- a∨(((U s a).toNat:Int)=48∧a+1<cG dK s a) then (0,[],0,1) else (2,sub s a (cG dK s a),cG dK s a,0))
 else if ((U s a).toNat:Int)=34 then
  (if (fm s (a+1) []).1=0 then 3 else 0,(fm s (a+1) []).2.1,(fm s (a+1) []).2.2,(fm s (a+1) []).1)
 else if ((U s a).toNat:Int)=61∧a+1<s.length∧((U s (a+1)).toNat:Int)=61 then (4,[61,61],a+2,0)
 else if 0≤Lib.indexByte j2 (U s a) then (4,sub s a (a+1),a+1,0)
 else (0,[],0,4)
end Go.Proofs
end
section
namespace Go.Proofs
open Go Go.bb Go.b4
set_option maxRecDepth 100000
abbrev Tok:=Int×Int×List UInt8
def bS (t:Tok):aa:= .agg [.int .i64 t.1, .int .i64 t.2.1, .str t.2.2]
def fB:Nat→List UInt8→Int→List Tok→List Tok×Int×Int
 |0,_,_,out=>(out,0,0)
 |n+1,s,a,out=>
  if a<s.length then
   if ((U s a).toNat:Int)=32∨((U s a).toNat:Int)=10 then fB n s (a+1) out
   else if ((U s a).toNat:Int)=35 then fB n s (cG od s a) out
   else if (eP s a).2.2.2≠0 then ([],a,(eP s a).2.2.2)
   else fB n s (eP s a).2.2.1 (out++[((eP s a).1,a,(eP s a).2.1)])
  else (out,0,0)
def dL (s:List UInt8):List Tok×Int×Int:=if 4000<(s.length:Int) then ([],0,2) else fB (s.length+1) s 0 []
theorem AK {n:Nat} {s:List UInt8} {a:Int} {out:List Tok} (h:s.length≤a):fB (n+1) s a out=(out,0,0):=by rw [fB,if_neg (by omega)]
theorem AL {n:Nat} {s:List UInt8} {a:Int} {out:List Tok} (h:a<s.length) (ah:((U s a).toNat:Int)=32∨((U s a).toNat:Int)=10):fB (n+1) s a out=fB n s (a+1) out:=by rw [fB,if_pos h,if_pos ah]
theorem FG {n:Nat} {s:List UInt8} {a:Int} {out:List Tok} (h:a<s.length) (ah:((U s a).toNat:Int)=35):fB (n+1) s a out=fB n s (cG od s a) out:=by rw [fB,if_pos h,if_neg (by omega),if_pos ah]
theorem FH {n:Nat} {s:List UInt8} {a:Int} {out:List Tok} (h:a<s.length) (ah:¬(((U s a).toNat:Int)=32∨((U s a).toNat:Int)=10)) (aQ:((U s a).toNat:Int)≠35) (he:(eP s a).2.2.2≠0):fB (n+1) s a out=([],a,(eP s a).2.2.2):=by
 rw [fB,if_pos h,if_neg ah,if_neg aQ,if_pos he]
theorem AM {n:Nat} {s:List UInt8} {a:Int} {out:List Tok} (h:a<s.length) (ah:¬(((U s a).toNat:Int)=32∨((U s a).toNat:Int)=10)) (aQ:((U s a).toNat:Int)≠35) (he:(eP s a).2.2.2=0):
 fB (n+1) s a out=fB n s (eP s a).2.2.1 (out++[((eP s a).1,a,(eP s a).2.1)]):=by
 rw [fB,if_pos h,if_neg ah,if_neg aQ,if_neg (by simpa using he)]
theorem FI (s:List UInt8) (i:Nat) (b:List UInt8):0≤(gD s i b).1∧((gD s i b).1=0→(i:Int)<(gD s i b).2.2∧(gD s i b).2.2≤s.length):=by
 fun_induction gD s i b<;>simp_all<;>omega
theorem FJ (s:List UInt8) (a:Int) (aA:0≤a) (b:List UInt8):0≤(fm s a b).1∧((fm s a b).1=0→a<(fm s a b).2.2∧(fm s a b).2.2≤s.length):=by
 have:=FI s a.toNat b
 rw [fm]
 refine ⟨this.1,fun h=>?_⟩
 have:=this.2 h
 omega
theorem Oj (s:List UInt8) (a:Int):0≤(eP s a).2.2.2:=by
 unfold eP
 split
 · split<;>simp
 · split
   · split<;>simp
   · split
     · rw [fm];exact (FI _ _ _).1
     · split
       · simp
       · split<;>simp
theorem FK {s:List UInt8} {a:Int} (aA:0≤a) (aN:a<s.length) (he:(eP s a).2.2.2=0):a<(eP s a).2.2.1∧(eP s a).2.2.1≤s.length:=by
 have hw:=uU fH (s:=s) aA (by omega)
 have a7:=uU dK (s:=s) aA (by omega)
 have Ai:jx (U s a)=true→a+1≤cG fH s a:=fun av=>by
  rw [sx aA aN (by simp [fH,av])];exact q1 _ (by omega)
 have w2:dK (U s a)=true→a+1≤cG dK s a:=fun av=>by
  rw [sx aA aN av];exact q1 _ (by omega)
 unfold eP at he ⊢
 split
 · next av=>
   have:=Ai av
   split<;>simp_all<;>omega
 · split
   · next av=>
     have:=w2 av
     split<;>simp_all<;>omega
   · split
     · next SJ=>
       simp_all
       have:=(FJ s (a+1) (by omega) []).2 he
       omega
     · split
       · simp;omega
       · split<;>simp_all<;>omega
end Go.Proofs
end
section
namespace Go.Proofs
open Go Go.bb Go.b4
set_option maxRecDepth 100000
theorem FL (s:List UInt8) (a:Int) (aA:0≤a) (k:Nat):(s.drop a.toNat).getD k 0=U s (a+k):=by
 obtain ⟨n,rfl⟩:=Int.eq_ofNat_of_zero_le aA
 have:((n:Int)+(k:Int))=((n+k:Nat):Int):=by simp
 rw [this,uT]
 simp [List.getD_eq_getElem?_getD]
theorem FM {c:UInt8} {n:Nat} (h:(c.toNat:Int)=n) (aJ:n<256):c=UInt8.ofNat n:=by
 apply UInt8.toNat_inj.1
 simp [Nat.mod_eq_of_lt aJ];omega
theorem AN (t:List UInt8):Lib.hasPrefix t [61,61]=true↔2≤t.length∧t.getD 0 0=61∧t.getD 1 0=61:=by
 match t with
 |[]=>simp [Lib.hasPrefix]
 |[x]=>simp [Lib.hasPrefix]
 |x::y::r=>simp [Lib.hasPrefix];try exact ⟨fun h=>⟨h.1.symm,h.2.symm⟩,fun h=>⟨h.1.symm,h.2.symm⟩⟩
theorem FN (s:List UInt8) (a:Int) (aA:0≤a) (aN:a<s.length):sub s a s.length=s.drop a.toNat:=by
 unfold sub
 rw [List.take_of_length_le]
 simp;omega
theorem Ol {s:List UInt8} {a:Int} (aA:0≤a) (aN:a<s.length) (I:¬jx (U s a)=true) (J:¬dK (U s a)=true) (ak:((U s a).toNat:Int)≠34):
 eP s a=if iE (sub s a s.length)=0 then (0,[],0,4) else (4,sub s a (a+iE (sub s a s.length)),a+iE (sub s a s.length),0):=by
 rw [eP,if_neg I,if_neg J,if_neg ak,FN s a aA aN]
 have cD:=FL s a aA 0
 have ay:=FL s a aA 1
 have z0:a+((0:Nat):Int)=a:=by omega
 have jX:a+((1:Nat):Int)=a+1:=by omega
 rw [z0] at cD
 rw [jX] at ay
 have av:(s.drop a.toNat).length=s.length- a.toNat:=by simp
 have a7:=drop_cons (s:=s) (i:=a.toNat) (by omega)
 by_cases aB:Lib.hasPrefix (s.drop a.toNat) [61,61]=true
 · have aS:=(AN _).1 aB
   rw [cD,ay] at aS
   rw [iE,if_pos aB,if_pos ⟨by rw [aS.2.1];rfl,by omega,by rw [aS.2.2];rfl⟩]
   have w2:=drop_cons (s:=s) (i:=a.toNat+1) (by omega)
   have g0:s.getD a.toNat 0=61:=aS.2.1
   have g1:s.getD (a.toNat+1) 0=61:=by
    have:=aS.2.2
    rw [U] at this
    have e:(a+1).toNat=a.toNat+1:=by omega
    rw [e] at this;exact this
   have:sub s a (a+2)=[61,61]:=by
    unfold sub
    rw [a7,w2,g0,g1]
    have:(a+2- a).toNat=2:=by omega
    rw [this];rfl
   simp [this]
 · have aJ:¬(((U s a).toNat:Int)=61∧a+1<s.length∧((U s (a+1)).toNat:Int)=61):=by
    intro aL
    apply aB
    rw [AN,cD,ay]
    refine ⟨by omega,?_,?_⟩
    · exact FM (n:=61) aL.1 (by omega)
    · exact FM (n:=61) aL.2.2 (by omega)
   rw [if_neg aJ,iE,if_neg aB,cD]
   by_cases ab:0≤Lib.indexByte j2 (U s a)
   · simp [ab]
   · simp [ab]
theorem FO {s:List UInt8} {a:Int} (h:jx (U s a)=true):eP s a=if 12<cG fH s a- a then (0,[],0,1) else (1,sub s a (cG fH s a),cG fH s a,0):=by rw [eP,if_pos h]
theorem FP {s:List UInt8} {a:Int} (I:¬jx (U s a)=true) (h:dK (U s a)=true):eP s a=if 10<cG dK s a- a∨(((U s a).toNat:Int)=48∧a+1<cG dK s a) then (0,[],0,1) else (2,sub s a (cG dK s a),cG dK s a,0):=by rw [eP,if_neg I,if_pos h]
theorem FQ {s:List UInt8} {a:Int} (h:((U s a).toNat:Int)=34):eP s a=(if (fm s (a+1) []).1=0 then 3 else 0,(fm s (a+1) []).2.1,(fm s (a+1) []).2.2,(fm s (a+1) []).1):=by
 rw [eP,if_neg (fun ag=>by have:=AI.1 ag;omega),if_neg (fun ag=>by have:=uV.1 ag;omega),if_pos h]
theorem Om (t:List UInt8):0≤iE t∧iE t≤2:=by unfold iE;split<;>(try split)<;>simp
theorem On {s:List UInt8} {a:Int} (aA:0≤a) (aN:a<s.length):a+iE (sub s a s.length)≤s.length:=by
 rw [FN s a aA aN]
 unfold iE
 split
 · next h=>have:=((AN _).1 h).1;simp at this;omega
 · split<;>omega
theorem xc {n:Nat} {s:List UInt8} {a:Int} {out:List Tok} {k:Int} {t:List UInt8} {e:Int} (h:a<s.length) (ah:¬(((U s a).toNat:Int)=32∨((U s a).toNat:Int)=10)) (aQ:((U s a).toNat:Int)≠35) (he:eP s a=(k,t,e,0)):
 fB (n+1) s a out=fB n s e (out++[(k,a,t)]):=by rw [AM h ah aQ (by rw [he]),he]
theorem xd {n:Nat} {s:List UInt8} {a:Int} {out:List Tok} {k:Int} {t:List UInt8} {e f:Int} (h:a<s.length) (ah:¬(((U s a).toNat:Int)=32∨((U s a).toNat:Int)=10)) (aQ:((U s a).toNat:Int)≠35) (he:eP s a=(k,t,e,f)) (aM:f≠0):
 fB (n+1) s a out=([],a,f):=by rw [FH h ah aQ (by rw [he];exact aM),he]
theorem AO (s:al) (a:Int) (g:FuncId) (f:UInt8→Bool) (aA:0≤a) (aN:a≤s.length) (aj:s.length≤140737488355328) (aM:∀c m,rC Tryd.prog g [.int .u8 (c:UInt8).toNat] m (.bool (f c))) (m:ae) (K:aa→ae→Prop) (ad:K (.int .i64 (cG f s a)) m):bp Tryd.prog 63 [.str s, .int .i64 a, .func (.func g) [] []] m K:=by
 refine enter (c:=dF [] [] [1] [] [] []) (vs:=[.aI (.str s), .aI (.int .i64 a), .fn g [] []]) (L:=[]) (m:=m) false cw Tryd.mixed Tryd.func63 rfl (k:=3) (by show du [] _ _ _=true;decide+kernel) rfl (Good.nil m) ?_
 refine aU ?_
 refine dE (σ:=Int) [] [0,1,2] 0 (fun at_=>([(0,aR s),(1,aK at_),(2, .fn g [] [])],[],m)) (fun at_=>0≤at_∧at_≤s.length∧cG f s a=cG f s at_) (fun at_=>s.length- at_.toNat) (a) ⟨rfl,rfl⟩ ?_ ?_
 · try dsimp only
   exact ⟨by omega,by omega,rfl⟩
 rintro at_ aW
 refine aU ?_
 refine dc [0,1,2] 17 ((decide (at_<(s.length:Int)))&&(f (U s at_))) ?_ ?_
 · repeat' first
    |exact ⟨⟨_,rfl,by grind [bT.val]⟩,rfl⟩
    |refine ax (fun _=>?_) (fun _=>?_)
    |refine ax (by omega) ?_
    |refine dV (fun _=>aM (U s at_)) rfl ?_
 refine ax (fun I=>?_) (fun I=>?_)
 · replace I:(at_<(s.length:Int))∧(f (U s at_)=true):=⟨(of_decide_eq_true (fC I)),(gS I)⟩
   refine ax (by omega) ?_
   refine ⟨(at_+1),⟨rfl,rfl⟩,?_,?_⟩
   · try dsimp only
     exact ⟨by omega,by omega,by rw [aW.2.2];exact sx aW.1 I.1 I.2⟩
   try dsimp only
   omega
 replace I:((s.length:Int)≤at_)∨(f (U s at_)=false):=((gT I).imp (fun q=>(Int.not_lt.1 (of_decide_eq_false q))) (fun q=>q))
 refine b7 rfl fun _=>ga ad ?_
 show aa.int .i64 (cG f s a)=aa.int .i64 at_
 refine congrArg (aa.int .i64) ?_
 rw [aW.2.2];exact N2 aW.1 (fun av=>by rcases I with I|I;(omega);exact I)
set_option maxHeartbeats 2000000 in
theorem Oo (s:al) (aj:s.length≤16777216) (m:ae) (K:aa→ae→Prop) (ad:K (.tuple [.slice false ((dL s).1.map bS), .int .i64 (dL s).2.1, .err 72 (dL s).2.2]) m):bp Tryd.prog 38 [.str s] m K:=by
 refine bp.pl ?_
 refine enter (c:=dF [] [] [12,24] [] [] []) (vs:=[.aI (.str s)]) (L:=[]) (m:=m) true cw Tryd.mixed Tryd.func38 rfl (k:=1) (by show du [] _ _ _=true;decide+kernel) rfl (Good.nil m) ?_
 refine aU ?_
 refine ax (fun I=>?_) (fun I=>?_)
 · refine b7 rfl fun _=>?_
   show K (.tuple [.slice false [], .int .i64 0, .err 72 2]) m
   refine ga ad ?_
   show aa.tuple [.slice false ((dL s).1.map bS), .int .i64 (dL s).2.1, .err 72 (dL s).2.2]=aa.tuple [.slice false [], .int .i64 0, .err 72 2]
   rw [dL,if_pos I];rfl
 have hr:dL s=fB (s.length+1) s 0 []:=by rw [dL,if_neg (by omega)]
 refine aU ?_
 refine dE (σ:=(List Tok)×Int) [] [0,5,6] 0 (fun ⟨out,at_⟩=>([(0,aR s),(5, .own (out.map bS)),(6,aK at_)],[],m)) (fun ⟨out,at_⟩=>0≤at_∧at_≤s.length∧(out.length:Int)≤at_∧∃n:Nat,s.length- at_<n∧fB (s.length+1) s 0 []=fB n s at_ out) (fun ⟨out,at_⟩=>s.length- at_.toNat) ([],0) ⟨rfl,rfl⟩ ?_ ?_
 · try dsimp only
   exact ⟨by omega,by omega,by simp,s.length+1,by omega,rfl⟩
 rintro ⟨out,at_⟩ aW
 dsimp only at aW
 obtain ⟨n,aJ,an⟩:=aW.2.2.2
 refine aU ?_
 refine ax (fun J=>?_) (fun J=>?_)
 · obtain ⟨n,rfl⟩:∃k,n=k+1:=⟨n- 1,by omega⟩
   refine ax (by omega) ?_
   refine dc [0,5,6,7] 47 ((((U s at_).toNat:Int)==32)||(((U s at_).toNat:Int)==10)) ?_ ?_
   · repeat' first
      |exact ⟨⟨_,rfl,by grind [bT.val]⟩,rfl⟩
      |refine ax (fun _=>?_) (fun _=>?_)
   refine ax (fun ak=>?_) (fun ak=>?_)
   · replace ak:(((U s at_).toNat:Int)=32)∨(((U s at_).toNat:Int)=10):=((dD ak).imp (fun q=>(eq_of_beq q)) (fun q=>(eq_of_beq q)))
     refine ax (by omega) ?_
     refine ⟨(out,at_+1),⟨rfl,rfl⟩,?_,?_⟩
     · try dsimp only
       exact ⟨by omega,by omega,by omega,n,by omega,by rw [an,AL J ak]⟩
     try dsimp only
     omega
   replace ak:(((U s at_).toNat:Int)≠32)∧(((U s at_).toNat:Int)≠10):=⟨(ne_of_beq_false (b8 ak)),(ne_of_beq_false (dC ak))⟩
   refine ax (fun aH=>?_) (fun aH=>?_)
   · have aw:=uU od (s:=s) aW.1 (by omega)
     have a8:at_+1≤cG od s at_:=by rw [sx aW.1 J (by simp [od];omega)];exact q1 _ (by omega)
     refine dV (fun _=>AO s at_ 64 od (by omega) (by omega) (by omega) (fun c m K ad=>N3 c m K ad)) rfl ?_
     refine ⟨(out,cG od s at_),⟨rfl,rfl⟩,?_,?_⟩
     · try dsimp only
       exact ⟨by omega,by omega,by omega,n,by omega,by rw [an,FG J aH]⟩
     try dsimp only
     omega
   refine dV (fun _=>FE (U s at_)) rfl ?_
   refine ax (fun aQ=>?_) (fun aQ=>?_)
   · have aw:=uU fH (s:=s) aW.1 (by omega)
     have a8:at_+1≤cG fH s at_:=by rw [sx aW.1 J (by simp [fH,aQ])];exact q1 _ (by omega)
     have ay:=FO aQ
     refine dV (fun _=>AO s at_ 66 fH (by omega) (by omega) (by omega) (fun c m K ad=>N4 c m K ad)) rfl ?_
     refine aU ?_
     refine ax (by omega) ?_
     refine ax (fun bw=>?_) (fun bw=>?_)
     · refine b7 rfl fun _=>?_
       show K (.tuple [.slice false [], .int .i64 at_, .err 72 1]) m
       refine ga ad ?_
       show aa.tuple [.slice false ((dL s).1.map bS), .int .i64 (dL s).2.1, .err 72 (dL s).2.2]=aa.tuple [.slice false [], .int .i64 at_, .err 72 1]
       rw [hr,an,xd J (by omega) aH (ay.trans (if_pos bw)) (by omega)];rfl
     refine ax (by dsimp only [Option.getD_some,Option.getD_none];omega) ?_
     refine ap bS out ([(⟨1,at_,sub s at_ (cG fH s at_)⟩:Tok)]:List Tok) rfl rfl (fun _=>⟨rfl,rfl⟩) (by (simp only [List.length_append,List.length_cons,List.length_nil];omega)) ?_
     refine ⟨(out++([(⟨1,at_,sub s at_ (cG fH s at_)⟩:Tok)]:List Tok),cG fH s at_),⟨rfl,rfl⟩,?_,?_⟩
     · try dsimp only
       exact ⟨by omega,by omega,by simp;omega,n,by omega,by rw [an,xc J (by omega) aH (ay.trans (if_neg (by omega)))]⟩
     try dsimp only
     omega
   refine dV (fun _=>AJ (U s at_)) rfl ?_
   refine ax (fun db=>?_) (fun db=>?_)
   · have aw:=uU dK (s:=s) aW.1 (by omega)
     have a8:at_+1≤cG dK s at_:=by rw [sx aW.1 J db];exact q1 _ (by omega)
     have ay:=FP (by rw [aQ];simp) db
     refine dV (fun _=>AO s at_ 67 dK (by omega) (by omega) (by omega) (fun c m K ad=>AJ c m K ad)) rfl ?_
     refine aU ?_
     refine dc [0,5,6,9] 103 ((decide (10<(cG dK s at_)- at_))||((((U s at_).toNat:Int)==48)&&(decide (1<(cG dK s at_)- at_)))) ?_ ?_
     · repeat' first
        |exact ⟨⟨_,rfl,by grind [bT.val]⟩,rfl⟩
        |refine ax (fun _=>?_) (fun _=>?_)
        |refine ax (by omega) ?_
     refine ax (fun cA=>?_) (fun cA=>?_)
     · replace cA:(10<(cG dK s at_)- at_)∨((((U s at_).toNat:Int)=48)∧(1<(cG dK s at_)- at_)):=((dD cA).imp (fun q=>(of_decide_eq_true q)) (fun q=>⟨(eq_of_beq (fC q)),(of_decide_eq_true (gS q))⟩))
       refine b7 rfl fun _=>?_
       show K (.tuple [.slice false [], .int .i64 at_, .err 72 1]) m
       refine ga ad ?_
       show aa.tuple [.slice false ((dL s).1.map bS), .int .i64 (dL s).2.1, .err 72 (dL s).2.2]=aa.tuple [.slice false [], .int .i64 at_, .err 72 1]
       rw [hr,an,xd J (by omega) aH (ay.trans (if_pos (by omega))) (by omega)];rfl
     replace cA:((cG dK s at_)- at_≤10)∧((((U s at_).toNat:Int)≠48)∨((cG dK s at_)- at_≤1)):=⟨(Int.not_lt.1 (of_decide_eq_false (b8 cA))),((gT (dC cA)).imp (fun q=>(ne_of_beq_false q)) (fun q=>(Int.not_lt.1 (of_decide_eq_false q))))⟩
     refine ax (by dsimp only [Option.getD_some,Option.getD_none];omega) ?_
     refine ap bS out ([(⟨2,at_,sub s at_ (cG dK s at_)⟩:Tok)]:List Tok) rfl rfl (fun _=>⟨rfl,rfl⟩) (by (simp only [List.length_append,List.length_cons,List.length_nil];omega)) ?_
     refine ⟨(out++([(⟨2,at_,sub s at_ (cG dK s at_)⟩:Tok)]:List Tok),cG dK s at_),⟨rfl,rfl⟩,?_,?_⟩
     · try dsimp only
       exact ⟨by omega,by omega,by simp;omega,n,by omega,by rw [an,xc J (by omega) aH (ay.trans (if_neg (by omega)))]⟩
     try dsimp only
     omega
   refine ax (fun dx=>?_) (fun dx=>?_)
   · have aS:=FJ s (at_+1) (by omega) []
     have ay:=FQ dx
     refine dV (fun _=>Oi s at_ (by omega) (by omega) (by omega)) rfl ?_
     refine aU ?_
     refine ax (fun eY=>?_) (fun eY=>?_)
     · have SK:=aS.2 eY
       have az:eP s at_=(3,(fm s (at_+1) []).2.1,(fm s (at_+1) []).2.2,0):=by rw [ay,eY];rfl
       refine ap bS out ([(⟨3,at_,(fm s (at_+1) []).2.1⟩:Tok)]:List Tok) rfl rfl (fun _=>⟨rfl,rfl⟩) (by (simp only [List.length_append,List.length_cons,List.length_nil];omega)) ?_
       refine ⟨(out++([(⟨3,at_,(fm s (at_+1) []).2.1⟩:Tok)]:List Tok),(fm s (at_+1) []).2.2),⟨rfl,rfl⟩,?_,?_⟩
       · try dsimp only
         exact ⟨by omega,by omega,by simp;omega,n,by omega,by rw [an,xc J (by omega) aH az]⟩
       try dsimp only
       omega
     refine b7 rfl fun _=>?_
     show K (.tuple [.slice false [], .int .i64 at_, .err 72 ((fm s (at_+1) []).1)]) m
     refine ga ad ?_
     show aa.tuple [.slice false ((dL s).1.map bS), .int .i64 (dL s).2.1, .err 72 (dL s).2.2]=aa.tuple [.slice false [], .int .i64 at_, .err 72 ((fm s (at_+1) []).1)]
     rw [hr,an,xd J (by omega) aH ay eY];rfl
   have ay:=Ol aW.1 J (by rw [aQ];simp) (by rw [db];simp) dx
   have SL:=Om (sub s at_ s.length)
   refine ax (by dsimp only [Option.getD_some,Option.getD_none];omega) ?_
   refine dV (fun _=>N5 (sub s at_ (s.length:Int)) (by simp [sub];omega)) rfl ?_
   refine aU ?_
   refine ax (fun hq=>?_) (fun hq=>?_)
   · refine b7 rfl fun _=>?_
     show K (.tuple [.slice false [], .int .i64 at_, .err 72 4]) m
     refine ga ad ?_
     show aa.tuple [.slice false ((dL s).1.map bS), .int .i64 (dL s).2.1, .err 72 (dL s).2.2]=aa.tuple [.slice false [], .int .i64 at_, .err 72 4]
     rw [hr,an,xd J (by omega) aH (ay.trans (if_pos hq)) (by omega)];rfl
   have SM:at_+iE (sub s at_ s.length)≤s.length:=by
    rcases aW.2.1 with aL
    exact On aW.1 J
   refine ax (by omega) ?_
   refine ax (by dsimp only [Option.getD_some,Option.getD_none];omega) ?_
   refine ap bS out ([(⟨4,at_,sub s at_ (at_+(iE (sub s at_ (s.length:Int))))⟩:Tok)]:List Tok) rfl rfl (fun _=>⟨rfl,rfl⟩) (by (simp only [List.length_append,List.length_cons,List.length_nil];omega)) ?_
   refine ax (by omega) ?_
   refine ⟨(out++([(⟨4,at_,sub s at_ (at_+(iE (sub s at_ (s.length:Int))))⟩:Tok)]:List Tok),at_+(iE (sub s at_ (s.length:Int)))),⟨rfl,rfl⟩,?_,?_⟩
   · try dsimp only
     exact ⟨by omega,by omega,by simp;omega,n,by omega,by rw [an,xc J (by omega) aH (ay.trans (if_neg hq))]⟩
   try dsimp only
   omega
 obtain ⟨n,rfl⟩:∃k,n=k+1:=⟨n- 1,by omega⟩
 refine b7 rfl fun _=>?_
 show K (.tuple [.slice false (out.map bS), .int .i64 0, .err 72 0]) m
 refine ga ad ?_
 show aa.tuple [.slice false ((dL s).1.map bS), .int .i64 (dL s).2.1, .err 72 (dL s).2.2]=aa.tuple [.slice false (out.map bS), .int .i64 0, .err 72 0]
 rw [hr,an,AK J]
end Go.Proofs
end
section
namespace Go.Proofs
open Go Go.bb Go.b4
set_option maxRecDepth 100000
theorem Oq (n:Nat) (s:List UInt8) (a:Int) (out:List Tok):0≤(fB n s a out).2.2:=by
 fun_induction fB n s a out<;>simp_all [Oj]
theorem Ot (s:List UInt8):0≤(dL s).2.2:=by
 unfold dL;split
 · simp
 · exact Oq _ _ _ _
theorem Ou (n:Nat) (s:List UInt8) (a:Int) (out:List Tok):(fB n s a out).1.length≤out.length+n:=by
 fun_induction fB n s a out<;>simp_all<;>omega
theorem Ov (s:List UInt8):(dL s).1.length≤4001:=by
 unfold dL;split
 · simp
 · have:=Ou (s.length+1) s 0 []
   simp at this;omega
structure bm (α:Type) where
 f:Int
 p:Int
 x:α
 a:Int
def bm.ok {α:Type} (x:α) (a:Int):bm α:=⟨0,0,x,a⟩
def bm.bad {α:Type} [Inhabited α] (f p:Int):bm α:=⟨f,p,default,0⟩
def bm.bind {α β:Type} [Inhabited β] (p:bm α) (g:α→Int→bm β):bm β:=if p.f=0 then g p.x p.a else .bad p.f p.p
structure Ow {α:Type} (p:bm α) (x:α) (a e q:Int):Prop where
 f:e=p.f
 y:e=0→x=p.x∧a=p.a
 z:e≠0→q=p.p
structure bj (l:List Tok) {α:Type} (p:bm α) (x:α) (a e q b9 bY ct:Int):Prop where
 ok:e=0→Ow p x b9 bY ct
 st:e≠0→b9=a∧bY=e∧ct=q
 bh:a≤b9
 ab:b9≤l.length
 bW:0≤bY
 gt:bY=0→a<b9
section
variable {l:List Tok} {α β:Type} {p:bm α} {x:α} {a e q cd ay bZ a2 az bo:Int}
theorem bj.bind [Inhabited β] {g:α→Int→bm β} {y:β} (hY:bj l p x a e q cd ay bZ) (kP:bj l (g x cd) y cd ay bZ a2 az bo):bj l (p.bind g) y a e q a2 az bo:=by
 refine ⟨fun he=>?_,fun he=>?_,Int.le_trans hY.bh kP.bh,kP.ab,kP.bW,fun h=>?_⟩
 · have I:=hY.ok he
   by_cases au:ay=0
   · obtain ⟨rfl,rfl⟩:=I.y au
     have:=kP.ok au
     rw [bm.bind,if_pos (by rw [←I.f];exact au)];exact this
   · obtain ⟨_,rfl,rfl⟩:=kP.st au
     rw [bm.bind,if_neg (by rw [←I.f];exact au)]
     exact ⟨I.f,fun h=>absurd h au,fun _=>I.z au⟩
 · obtain ⟨rfl,rfl,rfl⟩:=hY.st he
   exact kP.st he
 · by_cases au:ay=0
   · have:=hY.gt au;have:=kP.bh;omega
   · obtain ⟨_,rfl,_⟩:=kP.st au;exact absurd h au
theorem bj.map [Inhabited β] (f:α→β) (hY:bj l p x a e q cd ay bZ):bj l (p.bind fun s a=> .ok (f s) a) (f x) a e q cd ay bZ:=by
 refine ⟨fun he=>?_,hY.st,hY.bh,hY.ab,hY.bW,hY.gt⟩
 have I:=hY.ok he
 by_cases au:ay=0
 · obtain ⟨rfl,rfl⟩:=I.y au
   rw [bm.bind,if_pos (by rw [←I.f];exact au)]
   exact ⟨au,fun _=>⟨rfl,rfl⟩,fun h=>absurd au h⟩
 · rw [bm.bind,if_neg (by rw [←I.f];exact au)]
   exact ⟨I.f,fun h=>absurd h au,fun _=>I.z au⟩
theorem bj.bad [Inhabited α] {f s:Int} (x:α) (aA:a≤l.length) (I:e=0→az=f∧bo=s) (J:e≠0→az=e∧bo=q) (ak:0<az):bj l (.bad f s:bm α) x a e q a az bo:=
 ⟨fun he=>⟨(I he).1,fun h=>by omega,fun _=>(I he).2⟩,fun he=>⟨rfl,J he⟩,Int.le_refl _,aA,by omega,fun h=>by omega⟩
theorem bj.one {x:α} (aA:a<l.length) (he:e=0):bj l (.ok x (a+1):bm α) x a e q (a+1) e q:=
 ⟨fun he=>⟨he,fun _=>⟨rfl,rfl⟩,fun h=>absurd he h⟩,fun h=>absurd he h,by omega,by omega,by omega,fun _=>by omega⟩
theorem bj.from {b:Int} (he:e=0) (ag:b≤a) (hY:bj l p x a e q cd ay bZ):bj l p x b e q cd ay bZ:=
 ⟨hY.ok,fun h=>absurd he h,Int.le_trans ag hY.bh,hY.ab,hY.bW,fun h=>by have:=hY.gt h;omega⟩
end
abbrev bg (l:List Tok) (n a e q:Int):br:= .cells [aX (l.map bS),aK a,aK n, .aI (.err 72 e),aK q]
def cJ (l:List Tok) (n a:Int):Int:=if a<l.length then (U l a).2.1 else n
def bV (l:List Tok) (k:Int) (s:al) (a:Int):Bool:=decide (a<l.length)&&((U l a).1==k)&&((s==[])||((U l a).2.2==s))
def l2 (l:List Tok) (k:Int) (s:al) (a e:Int):Bool:=(e==0)&&bV l k s a
theorem hi {l:List Tok} {k:Int} {s:al} {a:Int} (h:bV l k s a=true):a<l.length:=by
 simp only [bV,Bool.and_eq_true,decide_eq_true_eq] at h;exact h.1.1
theorem p3 {l:List Tok} {k:Int} {s:al} {a e:Int} (h:l2 l k s a e=true):e=0∧bV l k s a=true:=by
 simpa [l2] using h
theorem q2 {l:List Tok} {k:Int} {s:al} {a e:Int} (h:l2 l k s a e=false):e=0→bV l k s a=false:=by
 intro J;subst J;simpa [l2] using h
def ck (l:List Tok) (n k:Int) (s:al) (a:Int):bm al:=if bV l k s a=true then .ok (U l a).2.2 (a+1) else .bad 5 (cJ l n a)
def o9 (l:List Tok) (n a:Int):bm (al×al):=
 (ck l n 4 [46] a).bind fun _ a=>(ck l n 1 [] a).bind fun s a=>(ck l n 4 [46] a).bind fun _ a=>(ck l n 1 [] a).bind fun t a=> .ok (s,t) a
theorem AP (l:List Tok) (n a e q:Int) (r:Nat) (av:l.length≤5000) (aA:0≤a) (aN:a≤l.length) (m:ae) (gd:eG [r] m) (K:aa→ae→Prop) (ad:K (.int .i64 (cJ l n a)) (ae.a1 m [(r, .cells [.slice false (l.map bS), .int .i64 a, .int .i64 n, .err 72 e, .int .i64 q])])):bp Tryd.prog 70 [.ptr ⟨r,0,none⟩] (ae.a1 m [(r, .cells [.slice false (l.map bS), .int .i64 a, .int .i64 n, .err 72 e, .int .i64 q])]) K:=by
 refine enter (c:=dF [] [] [] [] [] [r]) (vs:=[.loc 0 0]) (L:=[bg l n a e q]) (m:=m) false cw Tryd.mixed Tryd.func70 rfl (k:=1) (by show du [] _ _ _=true;decide+kernel) rfl (gd.ia rfl) ?_
 refine aU ?_
 refine cl ?_
 refine ax (fun I=>?_) (fun I=>?_)
 · refine eF (by omega) ?_
   refine rt rfl fun _=>ga ad ?_
   show aa.int .i64 (cJ l n a)=aa.int .i64 ((U l a).2.1)
   refine congrArg (aa.int .i64) ?_
   rw [cJ,if_pos I]
 refine rt rfl fun _=>ga ad ?_
 show aa.int .i64 (cJ l n a)=aa.int .i64 n
 refine congrArg (aa.int .i64) ?_
 rw [cJ,if_neg (by omega)]
theorem oe (l:List Tok) (n a e q:Int) (f:Int) (r:Nat) (aM:0<f) (av:l.length≤5000) (aA:0≤a) (aN:a≤l.length) (he:0≤e) (m:ae) (gd:eG [r] m) (K:aa→ae→Prop) (fa:e=0→K (.tuple []) (ae.a1 m [(r, .cells [.slice false (l.map bS), .int .i64 a, .int .i64 n, .err 72 f, .int .i64 (cJ l n a)])])) (eg:e≠0→K (.tuple []) (ae.a1 m [(r, .cells [.slice false (l.map bS), .int .i64 a, .int .i64 n, .err 72 e, .int .i64 q])])):bp Tryd.prog 40 [.ptr ⟨r,0,none⟩, .err 72 f] (ae.a1 m [(r, .cells [.slice false (l.map bS), .int .i64 a, .int .i64 n, .err 72 e, .int .i64 q])]) K:=by
 refine enter (c:=dF [] [] [] [] [] [r]) (vs:=[.loc 0 0, .aI (.err 72 f)]) (L:=[bg l n a e q]) (m:=m) false cw Tryd.mixed Tryd.func40 rfl (k:=2) (by show du [] _ _ _=true;decide+kernel) rfl (gd.ia rfl) ?_
 refine ax (fun I=>?_) (fun I=>?_)
 · refine cI [0] [bg l n a e q] (aK (cJ l n a)) rfl (fun bs aq gd=>AP l n a e q (bs.getD 0 0) av (by omega) (by omega) aq gd) ?_
   refine rt rfl fun _=>?_
   show K (.tuple []) (ae.a1 m [(r, .cells [.slice false (l.map bS), .int .i64 a, .int .i64 n, .err 72 f, .int .i64 (cJ l n a)])])
   exact fa I
 refine rt rfl fun _=>?_
 show K (.tuple []) (ae.a1 m [(r, .cells [.slice false (l.map bS), .int .i64 a, .int .i64 n, .err 72 e, .int .i64 q])])
 exact eg I
theorem sy (l:List Tok) (n a e q:Int) (k:Int) (s:al) (r:Nat) (av:l.length≤5000) (aA:0≤a) (aN:a≤l.length) (he:0≤e) (m:ae) (gd:eG [r] m) (K:aa→ae→Prop) (ad:K (.bool (l2 l k s a e)) (ae.a1 m [(r, .cells [.slice false (l.map bS), .int .i64 a, .int .i64 n, .err 72 e, .int .i64 q])])):bp Tryd.prog 76 [.ptr ⟨r,0,none⟩, .int .i64 k, .str s] (ae.a1 m [(r, .cells [.slice false (l.map bS), .int .i64 a, .int .i64 n, .err 72 e, .int .i64 q])]) K:=by
 refine enter (c:=dF [] [] [1] [] [] [r]) (vs:=[.loc 0 0, .aI (.int .i64 k), .aI (.str s)]) (L:=[bg l n a e q]) (m:=m) false cw Tryd.mixed Tryd.func76 rfl (k:=3) (by show du [] _ _ _=true;decide+kernel) rfl (gd.ia rfl) ?_
 refine dc [] 6 ((((e==0)&&(decide (a<(l.length:Int))))&&(((U l a).1)==k))&&((s==([]))||(((U l a).2.2)==s))) ?_ ?_
 · repeat' first
    |exact ⟨⟨_,rfl,by grind [bT.val]⟩,rfl⟩
    |refine ax (fun _=>?_) (fun _=>?_)
    |refine cl ?_
    |refine eF (by omega) ?_
 refine rt rfl fun _=>ga ad ?_
 show aa.bool (l2 l k s a e)=aa.bool ((((e==0)&&(decide (a<(l.length:Int))))&&(((U l a).1)==k))&&((s==([]))||(((U l a).2.2)==s)))
 refine congrArg aa.bool ?_
 grind [l2,bV]
theorem hz (l:List Tok) (n a e q:Int) (k:Int) (s:al) (r:Nat) (av:l.length≤5000) (aA:0≤a) (aN:a≤l.length) (he:0≤e) (m:ae) (gd:eG [r] m) (K:aa→ae→Prop) (fa:e=0→bV l k s a=true→K (.bool true) (ae.a1 m [(r, .cells [.slice false (l.map bS), .int .i64 (a+1), .int .i64 n, .err 72 e, .int .i64 q])])) (eg:(e=0→bV l k s a=false)→K (.bool false) (ae.a1 m [(r, .cells [.slice false (l.map bS), .int .i64 a, .int .i64 n, .err 72 e, .int .i64 q])])):bp Tryd.prog 88 [.ptr ⟨r,0,none⟩, .int .i64 k, .str s] (ae.a1 m [(r, .cells [.slice false (l.map bS), .int .i64 a, .int .i64 n, .err 72 e, .int .i64 q])]) K:=by
 refine enter (c:=dF [] [] [] [] [] [r]) (vs:=[.loc 0 0, .aI (.int .i64 k), .aI (.str s)]) (L:=[bg l n a e q]) (m:=m) false cw Tryd.mixed Tryd.func88 rfl (k:=3) (by show du [] _ _ _=true;decide+kernel) rfl (gd.ia rfl) ?_
 refine aU ?_
 refine cI [0] [bg l n a e q] (kt (l2 l k s a e)) rfl (fun bs aq gd=>sy l n a e q k s (bs.getD 0 0) av (by omega) (by omega) (by omega) aq gd) ?_
 refine ax (fun I=>?_) (fun I=>?_)
 · have aG:=p3 I
   have bN:=hi aG.2
   refine ax (by omega) ?_
   refine rt rfl fun _=>?_
   show K (.bool true) (ae.a1 m [(r, .cells [.slice false (l.map bS), .int .i64 (a+1), .int .i64 n, .err 72 e, .int .i64 q])])
   exact fa aG.1 aG.2
 refine rt rfl fun _=>?_
 show K (.bool false) (ae.a1 m [(r, .cells [.slice false (l.map bS), .int .i64 a, .int .i64 n, .err 72 e, .int .i64 q])])
 exact eg (q2 I)
theorem iF (l:List Tok) (n a e q:Int) (k:Int) (s:al) (r:Nat) (av:l.length≤5000) (aA:0≤a) (aN:a≤l.length) (he:0≤e) (m:ae) (gd:eG [r] m) (K:aa→ae→Prop) (ad:∀ho b9 bY ct,bj l (ck l n k s a) ho a e q b9 bY ct→(bY≠0→ho=[])→K (.str ho) (ae.a1 m [(r, .cells [.slice false (l.map bS), .int .i64 b9, .int .i64 n, .err 72 bY, .int .i64 ct])])):bp Tryd.prog 74 [.ptr ⟨r,0,none⟩, .int .i64 k, .str s] (ae.a1 m [(r, .cells [.slice false (l.map bS), .int .i64 a, .int .i64 n, .err 72 e, .int .i64 q])]) K:=by
 refine enter (c:=dF [] [] [] [] [] [r]) (vs:=[.loc 0 0, .aI (.int .i64 k), .aI (.str s)]) (L:=[bg l n a e q]) (m:=m) false cw Tryd.mixed Tryd.func74 rfl (k:=3) (by show du [] _ _ _=true;decide+kernel) rfl (gd.ia rfl) ?_
 refine aU ?_
 refine cc 72 [0] (σ:=(Unit) ⊕ (Unit)) (Sum.elim (fun _=>e=0∧bV l k s a=true) (fun _=>e=0→bV l k s a=false)) (Sum.elim (fun _=> .b (.lit true)) (fun _=> .b (.lit false))) (Sum.elim (fun _=>[bg l n (a+1) e q]) (fun _=>[bg l n a e q])) rfl (fun x=>by rcases x with _|_<;>rfl) (fun bs aq gd an K ad=>hz l n a e q k s (bs.getD 0 0) av (by omega) (by omega) (by omega) aq gd K (fun z w=>ad (.inl ()) ⟨z,w⟩) (fun z=>ad (.inr ()) z)) ?_
 rintro (_|_) bA
 · try dsimp only [Sum.elim_inl,Sum.elim_inr] at bA
   dsimp only [Sum.elim_inl,Sum.elim_inr]
   have uX:=hi bA.2
   refine ax (by omega) ?_
   refine eF (by omega) ?_
   refine rt rfl fun _=>?_
   show K (.str ((U l ((a+1)- 1)).2.2)) (ae.a1 m [(r, .cells [.slice false (l.map bS), .int .i64 (a+1), .int .i64 n, .err 72 e, .int .i64 q])])
   rw [show a+1- 1=a by omega]
   refine ad _ _ _ _ ⟨fun _=>?_,fun z=>absurd bA.1 z,by omega,by omega,he,by omega⟩ fun z=>absurd bA.1 z
   constructor<;>grind [ck,bm.ok]
 try dsimp only [Sum.elim_inl,Sum.elim_inr] at bA
 dsimp only [Sum.elim_inl,Sum.elim_inr]
 refine cc 72 [0] (σ:=Int×Int) (fun ⟨cT,c7⟩=>(e=0→cT=5∧c7=cJ l n a)∧(e≠0→cT=e∧c7=q)∧0<cT) (fun ⟨cT,c7⟩=> .cM []) (fun ⟨cT,c7⟩=>[bg l n a cT c7]) rfl (fun _=>rfl) (fun bs aq gd an K ad=>oe l n a e q 5 (bs.getD 0 0) (by decide) av (by omega) (by omega) (by omega) aq gd K (fun z=>ad (5,cJ l n a) ⟨fun _=>⟨rfl,rfl⟩,fun y=>absurd z y,by decide⟩) (fun z=>ad (e,q) ⟨fun y=>absurd y z,fun _=>⟨rfl,rfl⟩,by omega⟩)) ?_
 rintro ⟨cT,c7⟩ cH
 dsimp only at cH
 obtain ⟨FR,AQ,Ox⟩:=cH
 refine rt rfl fun _=>?_
 show K (.str ([])) (ae.a1 m [(r, .cells [.slice false (l.map bS), .int .i64 a, .int .i64 n, .err 72 cT, .int .i64 c7])])
 refine ad _ _ _ _ ⟨fun z=>?_,fun z=>⟨rfl,AQ z⟩,by omega,by omega,by omega,by omega⟩ fun _=>rfl
 have bA:=bA z
 constructor<;>grind [ck,bm.bad]
theorem nx (l:List Tok) (n a e q:Int) (r:Nat) (av:l.length≤5000) (aA:0≤a) (aN:a≤l.length) (he:0≤e) (m:ae) (gd:eG [r] m) (K:aa→ae→Prop) (ad:∀ho b9 bY ct,bj l (ck l n 1 [] a) ho a e q b9 bY ct→K (.str ho) (ae.a1 m [(r, .cells [.slice false (l.map bS), .int .i64 b9, .int .i64 n, .err 72 bY, .int .i64 ct])])):bp Tryd.prog 75 [.ptr ⟨r,0,none⟩] (ae.a1 m [(r, .cells [.slice false (l.map bS), .int .i64 a, .int .i64 n, .err 72 e, .int .i64 q])]) K:=by
 refine enter (c:=dF [] [] [] [] [] [r]) (vs:=[.loc 0 0]) (L:=[bg l n a e q]) (m:=m) false cw Tryd.mixed Tryd.func75 rfl (k:=1) (by show du [] _ _ _=true;decide+kernel) rfl (gd.ia rfl) ?_
 refine cc 72 [0] (σ:=al×Int×Int×Int) (fun ⟨de,b1,bt,bP⟩=>(bj l (ck l n 1 ([]) a) de a e q b1 bt bP)∧(bt≠0→de=[])) (fun ⟨de,b1,bt,bP⟩=>aR de) (fun ⟨de,b1,bt,bP⟩=>[bg l n b1 bt bP]) rfl (fun _=>rfl) (fun bs aq gd an K ad=>iF l n a e q 1 ([]) (bs.getD 0 0) av (by omega) (by omega) (by omega) aq gd K (fun cP bO bF bG aL au=>ad (cP,bO,bF,bG) ⟨aL,au⟩)) ?_
 rintro ⟨de,b1,bt,bP⟩ bA
 dsimp only at bA
 obtain ⟨bA,pC⟩:=bA
 have sA:=bA.bh
 have n7:=bA.ab
 have sB:=bA.bW
 refine rt rfl fun _=>?_
 show K (.str de) (ae.a1 m [(r, .cells [.slice false (l.map bS), .int .i64 b1, .int .i64 n, .err 72 bt, .int .i64 bP])])
 exact ad _ _ _ _ bA
theorem FT (l:List Tok) (n a e q:Int) (r:Nat) (av:l.length≤5000) (aA:0≤a) (aN:a≤l.length) (he:0≤e) (m:ae) (gd:eG [r] m) (K:aa→ae→Prop) (ad:∀ho gZ b9 bY ct,bj l (o9 l n a) (ho,gZ) a e q b9 bY ct→K (.tuple [.str ho, .str gZ]) (ae.a1 m [(r, .cells [.slice false (l.map bS), .int .i64 b9, .int .i64 n, .err 72 bY, .int .i64 ct])])):bp Tryd.prog 98 [.ptr ⟨r,0,none⟩] (ae.a1 m [(r, .cells [.slice false (l.map bS), .int .i64 a, .int .i64 n, .err 72 e, .int .i64 q])]) K:=by
 refine enter (c:=dF [] [] [] [] [] [r]) (vs:=[.loc 0 0]) (L:=[bg l n a e q]) (m:=m) false cw Tryd.mixed Tryd.func98 rfl (k:=1) (by show du [] _ _ _=true;decide+kernel) rfl (gd.ia rfl) ?_
 refine cc 72 [0] (σ:=al×Int×Int×Int) (fun ⟨de,b1,bt,bP⟩=>(bj l (ck l n 4 ([46]:List UInt8) a) de a e q b1 bt bP)∧(bt≠0→de=[])) (fun ⟨de,b1,bt,bP⟩=>aR de) (fun ⟨de,b1,bt,bP⟩=>[bg l n b1 bt bP]) rfl (fun _=>rfl) (fun bs aq gd an K ad=>iF l n a e q 4 ([46]:List UInt8) (bs.getD 0 0) av (by omega) (by omega) (by omega) aq gd K (fun cP bO bF bG aL au=>ad (cP,bO,bF,bG) ⟨aL,au⟩)) ?_
 rintro ⟨de,b1,bt,bP⟩ bA
 dsimp only at bA
 obtain ⟨bA,pC⟩:=bA
 have sA:=bA.bh
 have n7:=bA.ab
 have sB:=bA.bW
 refine cc 72 [0] (σ:=al×Int×Int×Int) (fun ⟨dM,ee,cT,c7⟩=>bj l (ck l n 1 [] b1) dM b1 bt bP ee cT c7) (fun ⟨dM,ee,cT,c7⟩=>aR dM) (fun ⟨dM,ee,cT,c7⟩=>[bg l n ee cT c7]) rfl (fun _=>rfl) (fun bs aq gd an K ad=>nx l n b1 bt bP (bs.getD 0 0) av (by omega) (by omega) (by omega) aq gd K (fun cP bO bF bG aL=>ad (cP,bO,bF,bG) aL)) ?_
 rintro ⟨dM,ee,cT,c7⟩ cH
 dsimp only at cH
 have uY:=cH.bh
 have jt:=cH.ab
 have uZ:=cH.bW
 refine cc 72 [0] (σ:=al×Int×Int×Int) (fun ⟨ja,fS,eU,fc⟩=>(bj l (ck l n 4 ([46]:List UInt8) ee) ja ee cT c7 fS eU fc)∧(eU≠0→ja=[])) (fun ⟨ja,fS,eU,fc⟩=>aR ja) (fun ⟨ja,fS,eU,fc⟩=>[bg l n fS eU fc]) rfl (fun _=>rfl) (fun bs aq gd an K ad=>iF l n ee cT c7 4 ([46]:List UInt8) (bs.getD 0 0) av (by omega) (by omega) (by omega) aq gd K (fun cP bO bF bG aL au=>ad (cP,bO,bF,bG) ⟨aL,au⟩)) ?_
 rintro ⟨ja,fS,eU,fc⟩ dA
 dsimp only at dA
 obtain ⟨dA,nc⟩:=dA
 have AR:=dA.bh
 have AS:=dA.ab
 have xe:=dA.bW
 refine cc 72 [0] (σ:=al×Int×Int×Int) (fun ⟨hZ,gE,gF,gM⟩=>bj l (ck l n 1 [] fS) hZ fS eU fc gE gF gM) (fun ⟨hZ,gE,gF,gM⟩=>aR hZ) (fun ⟨hZ,gE,gF,gM⟩=>[bg l n gE gF gM]) rfl (fun _=>rfl) (fun bs aq gd an K ad=>nx l n fS eU fc (bs.getD 0 0) av (by omega) (by omega) (by omega) aq gd K (fun cP bO bF bG aL=>ad (cP,bO,bF,bG) aL)) ?_
 rintro ⟨hZ,gE,gF,gM⟩ dR
 dsimp only at dR
 have AT:=dR.bh
 have AU:=dR.ab
 have AV:=dR.bW
 refine rt rfl fun _=>?_
 show K (.tuple [.str dM, .str hZ]) (ae.a1 m [(r, .cells [.slice false (l.map bS), .int .i64 gE, .int .i64 n, .err 72 gF, .int .i64 gM])])
 exact ad _ _ _ _ _ (bA.bind (cH.bind (dA.bind (dR.map fun t=>(dM,t)))))
end Go.Proofs
end
section
namespace Go.Proofs
open Go Go.bb Go.b4
set_option maxRecDepth 100000
inductive ar where
 |mk (kind:Int) (v:a6) (s t:al) (a:List ar) (n:List al)
instance:Inhabited ar:=⟨.mk 0 cS [] [] [] []⟩
def ar.kind:ar→Int| .mk k _ _ _ _ _=>k
def ar.v:ar→a6| .mk _ v _ _ _ _=>v
def ar.s:ar→al| .mk _ _ s _ _ _=>s
def ar.t:ar→al| .mk _ _ _ t _ _=>t
def ar.a:ar→List ar| .mk _ _ _ _ a _=>a
def ar.n:ar→List al| .mk _ _ _ _ _ n=>n
mutual
def cz:ar→aa
 | .mk k v s t a n=> .agg [.int .i64 k, .int .i64 v.kind, .int .i64 v.n, .str v.s, .slice false (v.l.map cC), .slice false (v.f.map cL), .str s, .str t, .slice false (xf a), .slice false (n.map cp)]
def xf:List ar→List aa
 |[]=>[]
 |e::r=>cz e::xf r
end
theorem Oy (l:List ar):xf l=l.map cz:=by
 induction l with
 |nil=>rfl
 |cons v r aO=>simp only [xf,List.map_cons,aO]
def cE (e:ar):aa:= .agg [.int .i64 e.kind, .int .i64 e.v.kind, .int .i64 e.v.n, .str e.v.s, .slice false (e.v.l.map cC), .slice false (e.v.f.map cL), .str e.s, .str e.t, .slice false (e.a.map cz), .slice false (e.n.map cp)]
theorem er (e:ar):cz e=cE e:=by
 cases e with
 |mk k v s t a n=>simp only [cz,cE,Oy,ar.kind,ar.v,ar.s,ar.t,ar.a,ar.n]
mutual
def dN:ar→Nat
 | .mk _ _ _ _ a _=>iG a+1
def iG:List ar→Nat
 |[]=>0
 |e::r=>dN e+iG r
end
theorem Oz {l:List ar} {e:ar} (h:e∈l):dN e≤iG l:=by
 induction l with
 |nil=>cases h
 |cons a r aO=>
  simp only [iG]
  rcases List.mem_cons.1 h with rfl|h
  · omega
  · have:=aO h;omega
theorem xg (e:ar):dN e=iG e.a+1:=by
 cases e with
 |mk k v s t a n=>simp only [dN,ar.a]
theorem jy {e x:ar} (h:x∈e.a):dN x<dN e:=by
 have:=Oz h
 rw [xg e];omega
def l3 (bE:Int):List al→Int→Int
 |[],n=>n
 |s::r,n=>if n≤bE then l3 bE r (IntKind.i64.wrap (n+s.length)) else n
mutual
def mM (bE:Int):ar→Int
 | .mk _ v s t a bQ=>ny bE a (l3 bE bQ (IntKind.i64.wrap (IntKind.i64.wrap (1+s.length+t.length+kv bE v)+bQ.length)))
def ny (bE:Int):List ar→Int→Int
 |[],n=>n
 |e::r,n=>if n≤bE then ny bE r (IntKind.i64.wrap (n+mM bE e)) else n
end
def AW (bE:Int) (e:ar):Int:=IntKind.i64.wrap (IntKind.i64.wrap (1+e.s.length+e.t.length+kv bE e.v)+e.n.length)
theorem OA (bE:Int) (e:ar):mM bE e=ny bE e.a (l3 bE e.n (AW bE e)):=by
 cases e with
 |mk k v s t a n=>simp only [mM,AW,ar.a,ar.n,ar.s,ar.t,ar.v]
theorem OB (bE:Int) (l:List ar) (n:Int) (h:bE<n):ny bE l n=n:=by
 cases l with
 |nil=>simp only [ny]
 |cons v r=>simp only [ny];rw [if_neg (by omega)]
theorem OC (bE:Int) (l:List al) (n:Int) (h:bE<n):l3 bE l n=n:=by
 cases l with
 |nil=>simp only [l3]
 |cons v r=>simp only [l3];rw [if_neg (by omega)]
theorem OD {bE:Int} {l:List al} {i n:Int} (aA:0≤i) (ab:i<l.length) (aJ:n≤bE):l3 bE (l.drop i.toNat) n=l3 bE (l.drop (i+1).toNat) (IntKind.i64.wrap (n+(U l i).length)):=by
 rw [iZ aA ab,l3,if_pos aJ]
theorem OE {bE:Int} {l:List ar} {i n:Int} (aA:0≤i) (ab:i<l.length) (aJ:n≤bE):ny bE (l.drop i.toNat) n=ny bE (l.drop (i+1).toNat) (IntKind.i64.wrap (n+mM bE (U l i))):=by
 rw [iZ aA ab,ny,if_pos aJ]
def hj:ar:= .mk 0 cS [] [] [] []
def gn (v:a6):ar:= .mk 1 v [] [] [] []
def nz (l:List Tok):Prop:=∀t∈l,t.1=2→t.2.2≠[]∧t.2.2.length≤10∧∀c∈t.2.2,48≤c.toNat∧c.toNat≤57
theorem FU:∀(s:al) (acc:Nat),(∀c∈s,48≤c.toNat∧c.toNat≤57)→∃n,Lib.decFrom acc s=some n∧n<(acc+1)*10^s.length
 |[],acc,_=>⟨acc,rfl,by simp⟩
 |c::r,acc,h=>by
  have ah:=h c (List.mem_cons_self ..)
  obtain ⟨n,I,J⟩:=FU r (acc*10+(c.toNat- 48)) fun x ao=>h x (List.mem_cons_of_mem _ ao)
  refine ⟨n,by simp only [Lib.decFrom,Lib.digitVal,if_pos ah];exact I,Nat.lt_of_lt_of_le J ?_⟩
  rw [List.length_cons,Nat.pow_succ,Nat.mul_comm (10^r.length) 10,←Nat.mul_assoc]
  exact Nat.mul_le_mul_right _ (by omega)
theorem FV {s:al} (aA:s≠[]) (h:∀c∈s,48≤c.toNat∧c.toNat≤57):Lib.atoi s=(Lib.decFrom 0 s).map fun (m:Nat)=>(m:Int):=by
 cases s with
 |nil=>exact absurd rfl aA
 |cons c r=>
  have ah:=h c (List.mem_cons_self ..)
  have I:(c==45)=false:=by
   rw [beq_eq_false_iff_ne];rintro rfl;exact absurd ah.1 (by decide)
  have J:(c==43)=false:=by
   rw [beq_eq_false_iff_ne];rintro rfl;exact absurd ah.1 (by decide)
  simp only [Lib.atoi,I,J,Lib.decNat,List.isEmpty_cons,Bool.false_eq_true,if_false]
def gG (s:al):Int:=(Lib.atoi s).getD 0
theorem OF {s:al} (aA:s≠[]) (av:s.length≤10) (h:∀c∈s,48≤c.toNat∧c.toNat≤57):0≤gG s∧gG s<10000000000∧∃n:Nat,Lib.decFrom 0 s=some n∧gG s=n∧Lib.atoi s=some (n:Int):=by
 obtain ⟨n,I,J⟩:=FU s 0 h
 have e:=FV aA h
 rw [I,Option.map_some] at e
 have ak:10^s.length≤10^10:=Nat.pow_le_pow_right (by decide) av
 have:n<10000000000:=by
  have:(10:Nat)^10=10000000000:=by decide
  omega
 refine ⟨by rw [gG,e];simp,by rw [gG,e];simp;omega,n,I,by rw [gG,e];rfl,e⟩
theorem OG {l:List Tok} {s:al} {a:Int} (hw:nz l) (aA:0≤a) (h:bV l 2 s a=true):(U l a).2.2≠[]∧(U l a).2.2.length≤10∧∀c∈(U l a).2.2,48≤c.toNat∧c.toNat≤57:=by
 have bN:=hi h
 refine hw _ (cy aA bN) ?_
 simp only [bV,Bool.and_eq_true,beq_iff_eq] at h
 exact h.1.2
def l4 (l:List Tok) (n dU a:Int):bm ar:=
 if bV l 2 [] a=true then (if 1000000000<gG (U l a).2.2∨(dU<0∧gG (U l a).2.2=0) then .bad 1 (cJ l n a) else .ok (gn (.mk 1 (dU*gG (U l a).2.2) [] [] [])) (a+1)) else .bad 5 (cJ l n a)
theorem OH {l:List Tok} {s:al} {n a e q cd ay bZ:Int} (hw:nz l) (aA:0≤a) (au:e=0) (o:bj l (ck l n 2 [] a) s a e q cd ay bZ) (aj:ay≠0→s=[]):
 (s.length≤18∧∀n,Lib.atoi s=some n→-9223372036854775808≤n∧n≤9223372036854775807)∧(0≤gG s∧gG s<10000000000)∧((ay=0∧bV l 2 [] a=true∧s=(U l a).2.2∧cd=a+1)∨(ay=5∧bZ=cJ l n a∧bV l 2 [] a=false∧s=[])):=by
 have h:=o.ok au
 cases an:bV l 2 [] a with
 |true=>
  rw [ck,if_pos an] at h
  have cD:ay=0:=h.f
  obtain ⟨I,J⟩:=h.y cD
  have I:s=(U l a).2.2:=I
  have J:cd=a+1:=J
  subst I
  obtain ⟨t1,t2,t3⟩:=OG hw aA an
  obtain ⟨d1,d2,k,d3,d4,d5⟩:=OF t1 t2 t3
  refine ⟨⟨by omega,fun m hm=>?_⟩,⟨d1,d2⟩, .inl ⟨cD,rfl,rfl,J⟩⟩
  rw [d5] at hm
  obtain rfl:=Option.some.inj hm
  omega
 |false=>
  rw [ck,if_neg (by rw [an];decide)] at h
  have cD:ay=5:=h.f
  have I:bZ=cJ l n a:=h.z (by omega)
  obtain rfl:=aj (by omega)
  exact ⟨⟨by simp,fun m hm=>by cases hm⟩,by decide, .inr ⟨cD,I,rfl,rfl⟩⟩
theorem OI (s:al) (aj:s.length≤18) (ag:∀n,Lib.atoi s=some n→-9223372036854775808≤n∧n≤9223372036854775807) (m:ae) (aC:ch m) (K:aa→ae→Prop) (ad:K (.tuple [.int .i64 (gG s), .opt (Lib.atoi s).isNone]) m):bp Tryd.prog 97 [.str s] m K:=
 have ⟨_,_,_,_,_,_,_,aC⟩:=aC
 MO ⟨_,Tryd.func97,rfl,by kernel_rfl⟩ (fun s n I J w=>Tryd.strconv_Atoi s n I J w) (fun s I J jL w ak aH=>(Tryd.strconv_Atoi_err s I J jL w ak aH).mono fun e w' ⟨N,aQ,_,_,bw⟩=>⟨N,aQ,bw⟩) aj ag aC ad
set_option maxHeartbeats 1000000 in
theorem FW (l:List Tok) (n a e q:Int) (dU:Int) (r:Nat) (av:l.length≤5000) (aA:0≤a) (aN:a≤l.length) (he:0≤e) (hw:nz l) (AX:dU=1∨dU=-1) (au:e=0) (b:Int) (cK:0≤b) (ag:b≤a) (n3:dU<0→b+1≤a) (m:ae) (gd:eG [r] m) (K:aa→ae→Prop) (aC:ch m) (ad:∀bD b9 bY ct,bj l (l4 l n dU a) bD b e q b9 bY ct→K (cE bD) (ae.a1 m [(r, .cells [.slice false (l.map bS), .int .i64 b9, .int .i64 n, .err 72 bY, .int .i64 ct])])):bp Tryd.prog 91 [.ptr ⟨r,0,none⟩, .int .i64 dU] (ae.a1 m [(r, .cells [.slice false (l.map bS), .int .i64 a, .int .i64 n, .err 72 e, .int .i64 q])]) K:=by
 refine enter (c:=dF [] [] [2] [] [] [r]) (vs:=[.loc 0 0, .aI (.int .i64 dU)]) (L:=[bg l n a e q]) (m:=m) false cw Tryd.mixed Tryd.func91 rfl (k:=2) (by show du [] _ _ _=true;decide+kernel) rfl (gd.ia rfl) ?_
 refine cc 72 [0] (σ:=al×Int×Int×Int) (fun ⟨de,b1,bt,bP⟩=>(bj l (ck l n 2 ([]) a) de a e q b1 bt bP)∧(bt≠0→de=[])) (fun ⟨de,b1,bt,bP⟩=>aR de) (fun ⟨de,b1,bt,bP⟩=>[bg l n b1 bt bP]) rfl (fun _=>rfl) (fun bs aq gd an K ad=>iF l n a e q 2 ([]) (bs.getD 0 0) av (by omega) (by omega) (by omega) aq gd K (fun cP bO bF bG aL au=>ad (cP,bO,bF,bG) ⟨aL,au⟩)) ?_
 rintro ⟨de,b1,bt,bP⟩ bA
 dsimp only at bA
 obtain ⟨bA,pC⟩:=bA
 have sA:=bA.bh
 have n7:=bA.ab
 have sB:=bA.bW
 obtain ⟨fZ,SN,iS⟩:=OH hw aA au bA pC
 refine fQ [] [] (.aI (.tuple [.int .i64 (gG de), .opt ((Lib.atoi de).isNone)])) rfl (fun bs aq gd an=>fun K ad=>OI de fZ.1 fZ.2 aq (ch.up an aC) K ad) ?_
 refine aU ?_
 refine dc [0,1,4,5] 22 ((decide (1000000000<gG de))||((decide (dU<0))&&((gG de)==0))) ?_ ?_
 · repeat' first
    |exact ⟨⟨_,rfl,by grind [bT.val]⟩,rfl⟩
    |refine ax (fun _=>?_) (fun _=>?_)
 refine ax (fun I=>?_) (fun I=>?_)
 · replace I:(1000000000<gG de)∨((dU<0)∧(gG de=0)):=((dD I).imp (fun q=>(of_decide_eq_true q)) (fun q=>⟨(of_decide_eq_true (fC q)),(eq_of_beq (gS q))⟩))
   have SO:b≤b1- 1:=by
    rcases iS with ⟨_,_,_,c4⟩|⟨_,_,_,c4⟩
    · omega
    · have:gG de=0:=by rw [c4];rfl
      omega
   refine ax (by rcases AX with h|h<;>subst h<;>omega) ?_
   refine cc 72 [0] (σ:=Int×Int) (fun ⟨cT,c7⟩=>(bt=0→cT=1∧c7=cJ l n (b1- 1))∧(bt≠0→cT=bt∧c7=bP)∧0<cT) (fun ⟨cT,c7⟩=> .cM []) (fun ⟨cT,c7⟩=>[bg l n (b1- 1) cT c7]) rfl (fun _=>rfl) (fun bs aq gd an K ad=>oe l n (b1- 1) bt bP 1 (bs.getD 0 0) (by decide) av (by omega) (by omega) (by omega) aq gd K (fun z=>ad (1,cJ l n (b1- 1)) ⟨fun _=>⟨rfl,rfl⟩,fun y=>absurd z y,by decide⟩) (fun z=>ad (bt,bP) ⟨fun y=>absurd y z,fun _=>⟨rfl,rfl⟩,by omega⟩)) ?_
   rintro ⟨cT,c7⟩ cH
   dsimp only at cH
   obtain ⟨FR,AQ,Ox⟩:=cH
   refine ax (by rcases AX with h|h<;>subst h<;>omega) ?_
   refine rt rfl fun _=>?_
   show K (.agg [.int .i64 1, .int .i64 1, .int .i64 (dU*(gG de)), .str ([]), .slice false [], .slice false [], .str ([]), .str ([]), .slice false [], .slice false []]) (ae.a1 m [(r, .cells [.slice false (l.map bS), .int .i64 (b1- 1), .int .i64 n, .err 72 cT, .int .i64 c7])])
   rcases iS with ⟨h7,c2,c3,c4⟩|⟨h7,c2,c3,c4⟩
   · obtain ⟨rfl,rfl⟩:=FR h7
     refine ad (gn (.mk 1 (dU*gG de) [] [] [])) _ _ _ ⟨fun _=>?_,fun h=>absurd au h,by omega,by omega,by decide,fun h=>by cases h⟩
     rw [show b1- 1=a by omega]
     constructor<;>grind [l4,bm.bad]
   · obtain ⟨rfl,rfl⟩:=AQ (by omega)
     refine ad (gn (.mk 1 (dU*gG de) [] [] [])) _ _ _ ⟨fun _=>?_,fun h=>absurd au h,by omega,by omega,by omega,fun h=>by omega⟩
     constructor<;>grind [l4,bm.bad]
 replace I:(gG de≤1000000000)∧((0≤dU)∨(gG de≠0)):=⟨(Int.not_lt.1 (of_decide_eq_false (b8 I))),((gT (dC I)).imp (fun q=>(Int.not_lt.1 (of_decide_eq_false q))) (fun q=>(ne_of_beq_false q)))⟩
 refine ax (by rcases AX with h|h<;>subst h<;>omega) ?_
 refine rt rfl fun _=>?_
 show K (.agg [.int .i64 1, .int .i64 1, .int .i64 (dU*(gG de)), .str ([]), .slice false [], .slice false [], .str ([]), .str ([]), .slice false [], .slice false []]) (ae.a1 m [(r, .cells [.slice false (l.map bS), .int .i64 b1, .int .i64 n, .err 72 bt, .int .i64 bP])])
 rcases iS with ⟨h7,c2,c3,c4⟩|⟨h7,c2,c3,c4⟩
 · refine ad (gn (.mk 1 (dU*gG de) [] [] [])) _ _ _ ⟨fun _=>?_,fun h=>absurd au h,by omega,by omega,by omega,fun h=>by omega⟩
   constructor<;>grind [l4,bm.ok]
 · refine ad (gn (.mk 1 (dU*gG de) [] [] [])) _ _ _ ⟨fun _=>?_,fun h=>absurd au h,by omega,by omega,by omega,fun h=>by omega⟩
   constructor<;>grind [l4,bm.bad]
end Go.Proofs
end
