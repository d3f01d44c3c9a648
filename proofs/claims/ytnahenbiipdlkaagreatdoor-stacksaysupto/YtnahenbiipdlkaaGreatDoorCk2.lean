import Derived.Test.YtnahenbiipdlkaaGreatDoorPx15
import Derived.Test.YtnahenbiipdlkaaGreatDoorSv3
import Derived.Test.YtnahenbiipdlkaaGreatDoorProg
import Derived.Test.YtnahenbiipdlkaaGreatDoorWxz
section
namespace Go.Proofs
open Go Go.bg Go.cz
set_option maxRecDepth 100000
theorem K1:∀(k:Nat) (e:au),cZ e<k→fS e=cZ e
 |0,_,h=>absurd h (Nat.not_lt_zero _)
 |k+1,e,h=>by
  have av:∀l:List au,(∀x∈l,fS x=cZ x)→je l=im l:=fun l=>by
   induction l with
   |nil=>intro _;simp [je,im]
   |cons a r aO=>
    intro aC
    simp only [je,im]
    rw [aC a (List.mem_cons_self ..),aO fun x an=>aC x (List.mem_cons_of_mem _ an)];omega
  rw [E9,tz,av e.a fun x an=>K1 k x (by have:=iq an;omega)];omega
theorem K2 {e:au} (h:ew e=0):cZ e≤60:=by
 have:=(sk h).2.1
 have:=K1 _ e (Nat.lt_succ_self _)
 omega
def hB (k:Int):ar:=(oa (iK (iK ([]:List (Int×ar)) 5 [32,43,32]) 6 [32,61,61,32]) k).getD []
theorem K3:hB 5=[32,43,32]:=by decide+kernel
theorem Uv:hB 6=[32,61,61,32]:=by decide+kernel
def bz:Nat→au→ar
 |0,_=>[]
 |k+1,e=>
  if e.kind=1 then h6 e.v
  else if e.kind=2 then [105,110,46]++e.s
  else if e.kind=3 then [114,101,115,46]++e.s++[46]++e.t
  else if e.kind=4 then [115,116,97,99,107,46]++e.s++[46]++e.t
  else if e.kind=5∨e.kind=6 then [40]++bz k (I e.a 0)++hB e.kind++bz k (I e.a 1)++[41]
  else if e.kind=7 then [40]++bz k (I e.a 0)++[32,63,32]++bz k (I e.a 1)++[32,58,32]++bz k (I e.a 2)++[41]
  else if e.kind=8 then [91]++eo (bz k) e.a true++[93]
  else if e.kind=9 then [123]++eo (fun p:ar×au=>p.1++[58,32]++bz k p.2) (e.n.zip e.a) true++[125]
  else if e.kind=10 then [103,101,116,32]++bz k (I e.a 0)++[32]++e.s
  else []
theorem iQ (k:Nat) (e:au):bz (k+1) e=
 if e.kind=1 then h6 e.v
 else if e.kind=2 then [105,110,46]++e.s
 else if e.kind=3 then [114,101,115,46]++e.s++[46]++e.t
 else if e.kind=4 then [115,116,97,99,107,46]++e.s++[46]++e.t
 else if e.kind=5∨e.kind=6 then [40]++bz k (I e.a 0)++hB e.kind++bz k (I e.a 1)++[41]
 else if e.kind=7 then [40]++bz k (I e.a 0)++[32,63,32]++bz k (I e.a 1)++[32,58,32]++bz k (I e.a 2)++[41]
 else if e.kind=8 then [91]++eo (bz k) e.a true++[93]
 else if e.kind=9 then [123]++eo (fun p:ar×au=>p.1++[58,32]++bz k p.2) (e.n.zip e.a) true++[125]
 else if e.kind=10 then [103,101,116,32]++bz k (I e.a 0)++[32]++e.s
 else []:=by rw [bz]
attribute [irreducible] bz
theorem Bn {e:au} (h:gp e):(e.kind=5→e.a.length=2)∧(e.kind=6→e.a.length=2)∧(e.kind=7→e.a.length=3)∧(e.kind=9→e.a.length=e.n.length)∧(e.kind=10→e.a.length=1)∧(e.kind=1→b1 e.v=0)∧
 1≤e.kind∧e.kind≤10∧(e.kind=2→cu e.s=true)∧(e.kind=3→cu e.s=true∧cu e.t=true)∧(e.kind=4→cu e.s=true∧cu e.t=true)∧(e.kind=10→cu e.s=true)∧(e.kind=9→ud e.n):=by
 unfold gp at h
 refine ⟨?_,?_,?_,?_,?_,?_,?_,?_,?_,?_,?_,?_,?_⟩<;>grind
theorem kd {s:ar} (h:cu s=true):s.length≤12:=by
 unfold cu at h
 simp only [Bool.and_eq_true,decide_eq_true_eq] at h
 omega
theorem wC {α:Type} [Inhabited α] {l:List α} {i:Int} {x:α} (aJ:0≤i) (h:l[i.toNat]?=some x):I l i=x:=by
 simp [I,List.getD_eq_getElem?_getD,h]
theorem Fh {l:List ar} (h:ud l) {s:ar} (aw:s∈l):s.length≤12:=by
 obtain ⟨i,ad,rfl⟩:=List.getElem_of_mem aw
 have:=(h i (by omega) (by omega)).1
 rw [wC (x:=l[i]) (by omega) (by simp [ad])] at this
 exact kd this
theorem Fi {α β:Type} [Inhabited α] [Inhabited β] {a:List α} {b:List β} {i:Int} (aJ:0≤i) (aT:i<a.length) (ah:i<b.length):I (a.zip b) i=(I a i,I b i):=
 wC aJ (by rw [List.getElem?_zip_eq_some];exact ⟨by rw [List.getElem?_eq_getElem (by omega)];exact congrArg some (wC aJ (List.getElem?_eq_getElem (by omega))).symm,by rw [List.getElem?_eq_getElem (by omega)];exact congrArg some (wC aJ (List.getElem?_eq_getElem (by omega))).symm⟩)
theorem K4:∀(n:List ar) (a:List au),a.length=n.length→hb (fun p:ar×au=>cZ p.2) (n.zip a)=im a
 |[],[],_=>rfl
 |[],_::_,h=>by cases h
 |_::_,[],h=>by cases h
 |s::n,e::a,h=>by
  simp only [List.zip_cons_cons,hb,im]
  rw [K4 n a (by simpa using h)]
theorem K5:∀(a:List au),hb cZ a=im a
 |[]=>rfl
 |e::a=>by simp only [hb,im,K5 a]
theorem Uw (k:Int):(hB k).length≤4:=by
 unfold hB
 by_cases aR:k=5
 · subst aR;decide+kernel
 by_cases bu:k=6
 · subst bu;decide+kernel
 · simp [iK,oa,aR,bu,Ne.symm aR,Ne.symm bu]
theorem Fj:∀(k:Nat) (e:au),iE e→(bz k e).length+60≤20000*cZ e
 |0,e,_=>by rw [bz,tz];simp;omega
 |k+1,e,h=>by
  obtain ⟨aM,al⟩:=Bk h
  obtain ⟨l5,yH,yI,sj,yJ,hK,_,_,s2,j5,qN,Bo,m9⟩:=Bn aM
  have aO:=fun (x:au) an=>Fj k x (al x an)
  have aY:=tz e
  have g0:0<e.a.length→(bz k (I e.a 0)).length+60≤20000*cZ (I e.a 0):=fun av=>aO _ (bF (by omega) (by omega))
  have g1:1<e.a.length→(bz k (I e.a 1)).length+60≤20000*cZ (I e.a 1):=fun av=>aO _ (bF (by omega) (by omega))
  have g2:2<e.a.length→(bz k (I e.a 2)).length+60≤20000*cZ (I e.a 2):=fun av=>aO _ (bF (by omega) (by omega))
  have aL:=Uw e.kind
  rw [iQ]
  split
  · have:=vy (v:=e.v) (hK (by assumption));omega
  split
  · have:=kd (s2 (by assumption));simp only [List.length_append,List.length_cons,List.length_nil];omega
  split
  · have:=kd (j5 (by assumption)).1;have:=kd (j5 (by assumption)).2;simp only [List.length_append,List.length_cons,List.length_nil];omega
  split
  · have:=kd (qN (by assumption)).1;have:=kd (qN (by assumption)).2;simp only [List.length_append,List.length_cons,List.length_nil];omega
  split
  · rename_i Ux
    have av:e.a.length=2:=Ux.elim l5 yH
    have aa:im e.a=cZ (I e.a 0)+cZ (I e.a 1):=by
     match e.a,av with
     |[x,y],_=>simp [im,I]
    have:=g0 (by omega);have:=g1 (by omega)
    simp only [List.length_append,List.length_cons,List.length_nil];omega
  split
  · have av:e.a.length=3:=yI (by assumption)
    have aa:im e.a=cZ (I e.a 0)+cZ (I e.a 1)+cZ (I e.a 2):=by
     match e.a,av with
     |[x,y,z],_=>simp [im,I];omega
    have:=g0 (by omega);have:=g1 (by omega);have:=g2 (by omega)
    simp only [List.length_append,List.length_cons,List.length_nil];omega
  split
  · have:=yq (g:=bz k) (d:=cZ) (c:=20000) e.a true fun x an=>by have:=aO x an;omega
    rw [K5] at this
    simp only [List.length_append,List.length_cons,List.length_nil];omega
  split
  · rename_i K6
    have:=yq (g:=fun p:ar×au=>p.1++[58,32]++bz k p.2) (d:=fun p=>cZ p.2) (c:=20000) (e.n.zip e.a) true fun x an=>by
     obtain ⟨J,aa⟩:=List.of_mem_zip an
     have:=aO x.2 aa
     have:=Fh (m9 K6) J
     simp only [List.length_append,List.length_cons,List.length_nil];omega
    rw [K4 _ _ (sj K6)] at this
    simp only [List.length_append,List.length_cons,List.length_nil];omega
  split
  · have av:e.a.length=1:=yJ (by assumption)
    have aa:im e.a=cZ (I e.a 0):=by
     match e.a,av with
     |[x],_=>simp [im,I]
    have:=g0 (by omega)
    have:=kd (Bo (by assumption))
    simp only [List.length_append,List.length_cons,List.length_nil];omega
  · simp;omega
def iu (e:au):ar:=bz (cZ e+1) e
theorem uh {e:au} (h:ew e=0):(iu e).length≤1200000:=by
 have:=Fj (cZ e+1) e (sk h).1
 have:=K2 h
 unfold iu;omega
theorem wD:Go.cz.yg tb 204 3 9 (.int .i64) (cm []):=⟨⟨rfl,rfl⟩,rfl,⟨trivial,rfl⟩⟩
theorem K7 (v:aW) (h:b1 v=0) (m:ae) (K:ab→ae→Prop) (aP:cW m) (U:K (.tuple [.str (h6 v), .err 115 0]) m):bh Tryz.prog 81 [cV v] m K:=
 SR v m K aP (by rw [if_pos h,h];exact U)
set_option maxHeartbeats 4000000 in
theorem Uy (k:Nat) (e:au) (base:ar) (b:Nat) (aO:∀(x:au) (base:ar),cZ x<k→iE x→base.length+(bz k x).length≤140737488355328→∀(b:Nat) (m:ae),eC [b] m→cW m→∀(K:ab→ae→Prop),K (.tuple []) (ae.aS m [(b, .bX 112 5 ((base++bz k x).map bC))])→bh Tryz.prog 57 [.ptr ⟨b,0,none⟩,bU x] (ae.aS m [(b, .bX 112 5 (base.map bC))]) K) (aY:cZ e<k+1) (aZ:iE e) (ea:base.length+(bz (k+1) e).length≤140737488355328) (m:ae) (gd:eC [b] m) (K:ab→ae→Prop) (aP:cW m) (U:K (.tuple []) (ae.aS m [(b, .bX 112 5 ((base++bz (k+1) e).map bC))])):bh Tryz.prog 57 [.ptr ⟨b,0,none⟩,bU e] (ae.aS m [(b, .bX 112 5 (base.map bC))]) K:=by
 obtain ⟨aM,l6⟩:=Bk aZ
 obtain ⟨l5,yH,yI,sj,yJ,hK,gv,Uz,s2,j5,qN,Bo,m9⟩:=Bn aM
 refine enter (c:=cT [] [0] [] [] [] [b]) (vs:=[.loc 0 0, .aI (bU e)]) (L:=[.obj (.bX 112 5 (base.map bC))]) (m:=m) false b2 Tryz.mixed Tryz.func57 rfl (k:=2) (by show cO [] _ _ _=true;decide+kernel) rfl (gd.gZ rfl) ?_
 refine ⟨fun bJ=>?_⟩
 have AN:e.v.s.length≤140737488355328:=(bJ 1 3 (Nat.le_of_ble_eq_true rfl))
 have AO:e.v.l.length≤140737488355328:=dr (bJ 1 4 (Nat.le_of_ble_eq_true rfl))
 have UA:e.v.f.length≤140737488355328:=dr (bJ 1 5 (Nat.le_of_ble_eq_true rfl))
 have UB:e.s.length≤140737488355328:=(bJ 1 6 (Nat.le_of_ble_eq_true rfl))
 have UC:e.t.length≤140737488355328:=(bJ 1 7 (Nat.le_of_ble_eq_true rfl))
 have UD:e.a.length≤140737488355328:=dr (bJ 1 8 (Nat.le_of_ble_eq_true rfl))
 have UE:e.n.length≤140737488355328:=dr (bJ 1 9 (Nat.le_of_ble_eq_true rfl))
 refine ag (fun J=>?_) (fun J=>?_)
 · have an:bz (k+1) e=h6 e.v:=by rw [iQ,if_pos (by omega)]
   rw [an] at ea U
   try simp only [List.length_append,List.length_cons,List.length_nil] at ea
   refine hG [] [] (.aI (.tuple [.str (h6 e.v), .err 115 0])) rfl (fun bs ai gd aq=>fun K U=>K7 e.v (hK J) ai K (cW.up aq aP) U) ?_
   refine dw [0] [.obj (.bX 112 5 ((base++(h6 e.v)).map bC))] (.aI (.tuple [.int .i64 ((h6 e.v).length:Int), .nilIface])) rfl (fun bs ai gd=>fG (bs.getD 0 0) base (h6 e.v) (by first|omega|(simp only [List.length_append,List.length_cons,List.length_nil];omega)) ai) ?_
   refine rt rfl fun _=>?_
   show K (.tuple []) (ae.aS m [(b, .bX 112 5 ((base++(h6 e.v)).map bC))])
   try simp only [List.append_assoc] at U ⊢
   exact U
 refine ag (fun aa=>?_) (fun aa=>?_)
 · have an:bz (k+1) e=[105,110,46]++e.s:=by rw [iQ,if_neg (by omega),if_pos (by omega)]
   rw [an] at ea U
   try simp only [List.length_append,List.length_cons,List.length_nil] at ea
   refine ag (by (first|omega|(simp only [List.length_append,List.length_cons,List.length_nil];omega))) ?_
   refine dw [0] [.obj (.bX 112 5 ((base++(([105,110,46]:List UInt8)++e.s)).map bC))] (.aI (.tuple [.int .i64 ((([105,110,46]:List UInt8)++e.s).length:Int), .nilIface])) rfl (fun bs ai gd=>fG (bs.getD 0 0) base (([105,110,46]:List UInt8)++e.s) (by first|omega|(simp only [List.length_append,List.length_cons,List.length_nil];omega)) ai) ?_
   refine rt rfl fun _=>?_
   show K (.tuple []) (ae.aS m [(b, .bX 112 5 ((base++(([105,110,46]:List UInt8)++e.s)).map bC))])
   try simp only [List.append_assoc] at U ⊢
   exact U
 refine ag (fun aj=>?_) (fun aj=>?_)
 · have an:bz (k+1) e=[114,101,115,46]++e.s++[46]++e.t:=by rw [iQ,if_neg (by omega),if_neg (by omega),if_pos (by omega)]
   rw [an] at ea U
   try simp only [List.length_append,List.length_cons,List.length_nil] at ea
   refine ag (by (first|omega|(simp only [List.length_append,List.length_cons,List.length_nil];omega))) ?_
   refine ag (by (first|omega|(simp only [List.length_append,List.length_cons,List.length_nil];omega))) ?_
   refine ag (by (first|omega|(simp only [List.length_append,List.length_cons,List.length_nil];omega))) ?_
   refine dw [0] [.obj (.bX 112 5 ((base++(((([114,101,115,46]:List UInt8)++e.s)++([46]:List UInt8))++e.t)).map bC))] (.aI (.tuple [.int .i64 ((((([114,101,115,46]:List UInt8)++e.s)++([46]:List UInt8))++e.t).length:Int), .nilIface])) rfl (fun bs ai gd=>fG (bs.getD 0 0) base (((([114,101,115,46]:List UInt8)++e.s)++([46]:List UInt8))++e.t) (by first|omega|(simp only [List.length_append,List.length_cons,List.length_nil];omega)) ai) ?_
   refine rt rfl fun _=>?_
   show K (.tuple []) (ae.aS m [(b, .bX 112 5 ((base++(((([114,101,115,46]:List UInt8)++e.s)++([46]:List UInt8))++e.t)).map bC))])
   try simp only [List.append_assoc] at U ⊢
   exact U
 refine ag (fun aG=>?_) (fun aG=>?_)
 · have an:bz (k+1) e=[115,116,97,99,107,46]++e.s++[46]++e.t:=by rw [iQ,if_neg (by omega),if_neg (by omega),if_neg (by omega),if_pos (by omega)]
   rw [an] at ea U
   try simp only [List.length_append,List.length_cons,List.length_nil] at ea
   refine ag (by (first|omega|(simp only [List.length_append,List.length_cons,List.length_nil];omega))) ?_
   refine ag (by (first|omega|(simp only [List.length_append,List.length_cons,List.length_nil];omega))) ?_
   refine ag (by (first|omega|(simp only [List.length_append,List.length_cons,List.length_nil];omega))) ?_
   refine dw [0] [.obj (.bX 112 5 ((base++(((([115,116,97,99,107,46]:List UInt8)++e.s)++([46]:List UInt8))++e.t)).map bC))] (.aI (.tuple [.int .i64 ((((([115,116,97,99,107,46]:List UInt8)++e.s)++([46]:List UInt8))++e.t).length:Int), .nilIface])) rfl (fun bs ai gd=>fG (bs.getD 0 0) base (((([115,116,97,99,107,46]:List UInt8)++e.s)++([46]:List UInt8))++e.t) (by first|omega|(simp only [List.length_append,List.length_cons,List.length_nil];omega)) ai) ?_
   refine rt rfl fun _=>?_
   show K (.tuple []) (ae.aS m [(b, .bX 112 5 ((base++(((([115,116,97,99,107,46]:List UInt8)++e.s)++([46]:List UInt8))++e.t)).map bC))])
   try simp only [List.append_assoc] at U ⊢
   exact U
 refine aB ?_
 refine ag (fun aR=>?_) (fun aR=>?_)
 · have an:bz (k+1) e=[40]++bz k (I e.a 0)++hB e.kind++bz k (I e.a 1)++[41]:=by rw [iQ,if_neg (by omega),if_neg (by omega),if_neg (by omega),if_neg (by omega),if_pos (by omega)]
   rw [an] at ea U
   try simp only [List.length_append,List.length_cons,List.length_nil] at ea
   have ui:=l5 aR
   refine ag (fun bu=>?_) (fun bu=>?_)
   · refine dw [0] [.obj (.bX 112 5 ((base++([40]:List UInt8)).map bC))] (.aI (.tuple [.int .i64 (([40]:List UInt8).length:Int), .nilIface])) rfl (fun bs ai gd=>fG (bs.getD 0 0) base ([40]:List UInt8) (by first|omega|(simp only [List.length_append,List.length_cons,List.length_nil];omega)) ai) ?_
     refine fc bU cy (by omega) ?_
     refine hG [0] [.obj (.bX 112 5 (((base++([40]:List UInt8))++bz k (I e.a 0)).map bC))] (.da []) rfl (fun bs ai gd aq=>aO (I e.a 0) (base++([40]:List UInt8)) (by have:=iq (bF (l:=e.a) (i:=0) (by omega) (by omega));omega) (l6 _ (bF (by omega) (by omega))) (by first|omega|(simp only [List.length_append,List.length_cons,List.length_nil];omega)) (bs.getD 0 0) ai gd (cW.up aq aP)) ?_
     refine AF b2 (dk:= .int .i64) n8 cm uT ([]:List (Int×(List UInt8))) 5 ([32,43,32]:List UInt8) (t:=204) (ke:=3) (ve:=9) wD rfl rfl rfl rfl rfl (fun _=>rfl) (by decide+kernel) ?_
     refine AF b2 (dk:= .int .i64) n8 cm uT (iK ([]:List (Int×(List UInt8))) 5 ([32,43,32]:List UInt8)) 6 ([32,61,61,32]:List UInt8) (t:=204) (ke:=3) (ve:=9) wD rfl rfl rfl rfl rfl (fun _=>rfl) (by decide+kernel) ?_
     refine Ji b2 (dk:= .int .i64) n8 cm uT (iK (iK ([]:List (Int×(List UInt8))) 5 ([32,43,32]:List UInt8)) 6 ([32,61,61,32]:List UInt8)) e.kind [] (t:=204) (ke:=3) (ve:=9) (v:=cm (hB e.kind)) wD rfl rfl rfl rfl rfl rfl ?_
     refine dw [0] [.obj (.bX 112 5 ((((base++([40]:List UInt8))++bz k (I e.a 0))++(hB e.kind)).map bC))] (.aI (.tuple [.int .i64 ((hB e.kind).length:Int), .nilIface])) rfl (fun bs ai gd=>fG (bs.getD 0 0) ((base++([40]:List UInt8))++bz k (I e.a 0)) (hB e.kind) (by first|omega|(simp only [List.length_append,List.length_cons,List.length_nil];omega)) ai) ?_
     refine fc bU cy (by omega) ?_
     refine hG [0] [.obj (.bX 112 5 (((((base++([40]:List UInt8))++bz k (I e.a 0))++(hB e.kind))++bz k (I e.a 1)).map bC))] (.da []) rfl (fun bs ai gd aq=>aO (I e.a 1) (((base++([40]:List UInt8))++bz k (I e.a 0))++(hB e.kind)) (by have:=iq (bF (l:=e.a) (i:=1) (by omega) (by omega));omega) (l6 _ (bF (by omega) (by omega))) (by first|omega|(simp only [List.length_append,List.length_cons,List.length_nil];omega)) (bs.getD 0 0) ai gd (cW.up aq aP)) ?_
     refine dw [0] [.obj (.bX 112 5 ((((((base++([40]:List UInt8))++bz k (I e.a 0))++(hB e.kind))++bz k (I e.a 1))++([41]:List UInt8)).map bC))] (.aI (.tuple [.int .i64 (([41]:List UInt8).length:Int), .nilIface])) rfl (fun bs ai gd=>fG (bs.getD 0 0) ((((base++([40]:List UInt8))++bz k (I e.a 0))++(hB e.kind))++bz k (I e.a 1)) ([41]:List UInt8) (by first|omega|(simp only [List.length_append,List.length_cons,List.length_nil];omega)) ai) ?_
     refine rt rfl fun _=>?_
     show K (.tuple []) (ae.aS m [(b, .bX 112 5 ((((((base++([40]:List UInt8))++bz k (I e.a 0))++(hB e.kind))++bz k (I e.a 1))++([41]:List UInt8)).map bC))])
     try simp only [List.append_assoc] at U ⊢
     exact U
   exact absurd aR bu
 refine ag (fun cD=>?_) (fun cD=>?_)
 · have an:bz (k+1) e=[40]++bz k (I e.a 0)++hB e.kind++bz k (I e.a 1)++[41]:=by rw [iQ,if_neg (by omega),if_neg (by omega),if_neg (by omega),if_neg (by omega),if_pos (by omega)]
   rw [an] at ea U
   try simp only [List.length_append,List.length_cons,List.length_nil] at ea
   have ui:=yH cD
   refine dw [0] [.obj (.bX 112 5 ((base++([40]:List UInt8)).map bC))] (.aI (.tuple [.int .i64 (([40]:List UInt8).length:Int), .nilIface])) rfl (fun bs ai gd=>fG (bs.getD 0 0) base ([40]:List UInt8) (by first|omega|(simp only [List.length_append,List.length_cons,List.length_nil];omega)) ai) ?_
   refine fc bU cy (by omega) ?_
   refine hG [0] [.obj (.bX 112 5 (((base++([40]:List UInt8))++bz k (I e.a 0)).map bC))] (.da []) rfl (fun bs ai gd aq=>aO (I e.a 0) (base++([40]:List UInt8)) (by have:=iq (bF (l:=e.a) (i:=0) (by omega) (by omega));omega) (l6 _ (bF (by omega) (by omega))) (by first|omega|(simp only [List.length_append,List.length_cons,List.length_nil];omega)) (bs.getD 0 0) ai gd (cW.up aq aP)) ?_
   refine AF b2 (dk:= .int .i64) n8 cm uT ([]:List (Int×(List UInt8))) 5 ([32,43,32]:List UInt8) (t:=204) (ke:=3) (ve:=9) wD rfl rfl rfl rfl rfl (fun _=>rfl) (by decide+kernel) ?_
   refine AF b2 (dk:= .int .i64) n8 cm uT (iK ([]:List (Int×(List UInt8))) 5 ([32,43,32]:List UInt8)) 6 ([32,61,61,32]:List UInt8) (t:=204) (ke:=3) (ve:=9) wD rfl rfl rfl rfl rfl (fun _=>rfl) (by decide+kernel) ?_
   refine Ji b2 (dk:= .int .i64) n8 cm uT (iK (iK ([]:List (Int×(List UInt8))) 5 ([32,43,32]:List UInt8)) 6 ([32,61,61,32]:List UInt8)) e.kind [] (t:=204) (ke:=3) (ve:=9) (v:=cm (hB e.kind)) wD rfl rfl rfl rfl rfl rfl ?_
   refine dw [0] [.obj (.bX 112 5 ((((base++([40]:List UInt8))++bz k (I e.a 0))++(hB e.kind)).map bC))] (.aI (.tuple [.int .i64 ((hB e.kind).length:Int), .nilIface])) rfl (fun bs ai gd=>fG (bs.getD 0 0) ((base++([40]:List UInt8))++bz k (I e.a 0)) (hB e.kind) (by first|omega|(simp only [List.length_append,List.length_cons,List.length_nil];omega)) ai) ?_
   refine fc bU cy (by omega) ?_
   refine hG [0] [.obj (.bX 112 5 (((((base++([40]:List UInt8))++bz k (I e.a 0))++(hB e.kind))++bz k (I e.a 1)).map bC))] (.da []) rfl (fun bs ai gd aq=>aO (I e.a 1) (((base++([40]:List UInt8))++bz k (I e.a 0))++(hB e.kind)) (by have:=iq (bF (l:=e.a) (i:=1) (by omega) (by omega));omega) (l6 _ (bF (by omega) (by omega))) (by first|omega|(simp only [List.length_append,List.length_cons,List.length_nil];omega)) (bs.getD 0 0) ai gd (cW.up aq aP)) ?_
   refine dw [0] [.obj (.bX 112 5 ((((((base++([40]:List UInt8))++bz k (I e.a 0))++(hB e.kind))++bz k (I e.a 1))++([41]:List UInt8)).map bC))] (.aI (.tuple [.int .i64 (([41]:List UInt8).length:Int), .nilIface])) rfl (fun bs ai gd=>fG (bs.getD 0 0) ((((base++([40]:List UInt8))++bz k (I e.a 0))++(hB e.kind))++bz k (I e.a 1)) ([41]:List UInt8) (by first|omega|(simp only [List.length_append,List.length_cons,List.length_nil];omega)) ai) ?_
   refine rt rfl fun _=>?_
   show K (.tuple []) (ae.aS m [(b, .bX 112 5 ((((((base++([40]:List UInt8))++bz k (I e.a 0))++(hB e.kind))++bz k (I e.a 1))++([41]:List UInt8)).map bC))])
   try simp only [List.append_assoc] at U ⊢
   exact U
 refine ag (fun cK=>?_) (fun cK=>?_)
 · have an:bz (k+1) e=[40]++bz k (I e.a 0)++[32,63,32]++bz k (I e.a 1)++[32,58,32]++bz k (I e.a 2)++[41]:=by rw [iQ,if_neg (by omega),if_neg (by omega),if_neg (by omega),if_neg (by omega),if_neg (by omega),if_pos (by omega)]
   rw [an] at ea U
   try simp only [List.length_append,List.length_cons,List.length_nil] at ea
   have ui:=yI cK
   refine dw [0] [.obj (.bX 112 5 ((base++([40]:List UInt8)).map bC))] (.aI (.tuple [.int .i64 (([40]:List UInt8).length:Int), .nilIface])) rfl (fun bs ai gd=>fG (bs.getD 0 0) base ([40]:List UInt8) (by first|omega|(simp only [List.length_append,List.length_cons,List.length_nil];omega)) ai) ?_
   refine fc bU cy (by omega) ?_
   refine hG [0] [.obj (.bX 112 5 (((base++([40]:List UInt8))++bz k (I e.a 0)).map bC))] (.da []) rfl (fun bs ai gd aq=>aO (I e.a 0) (base++([40]:List UInt8)) (by have:=iq (bF (l:=e.a) (i:=0) (by omega) (by omega));omega) (l6 _ (bF (by omega) (by omega))) (by first|omega|(simp only [List.length_append,List.length_cons,List.length_nil];omega)) (bs.getD 0 0) ai gd (cW.up aq aP)) ?_
   refine dw [0] [.obj (.bX 112 5 ((((base++([40]:List UInt8))++bz k (I e.a 0))++([32,63,32]:List UInt8)).map bC))] (.aI (.tuple [.int .i64 (([32,63,32]:List UInt8).length:Int), .nilIface])) rfl (fun bs ai gd=>fG (bs.getD 0 0) ((base++([40]:List UInt8))++bz k (I e.a 0)) ([32,63,32]:List UInt8) (by first|omega|(simp only [List.length_append,List.length_cons,List.length_nil];omega)) ai) ?_
   refine fc bU cy (by omega) ?_
   refine hG [0] [.obj (.bX 112 5 (((((base++([40]:List UInt8))++bz k (I e.a 0))++([32,63,32]:List UInt8))++bz k (I e.a 1)).map bC))] (.da []) rfl (fun bs ai gd aq=>aO (I e.a 1) (((base++([40]:List UInt8))++bz k (I e.a 0))++([32,63,32]:List UInt8)) (by have:=iq (bF (l:=e.a) (i:=1) (by omega) (by omega));omega) (l6 _ (bF (by omega) (by omega))) (by first|omega|(simp only [List.length_append,List.length_cons,List.length_nil];omega)) (bs.getD 0 0) ai gd (cW.up aq aP)) ?_
   refine dw [0] [.obj (.bX 112 5 ((((((base++([40]:List UInt8))++bz k (I e.a 0))++([32,63,32]:List UInt8))++bz k (I e.a 1))++([32,58,32]:List UInt8)).map bC))] (.aI (.tuple [.int .i64 (([32,58,32]:List UInt8).length:Int), .nilIface])) rfl (fun bs ai gd=>fG (bs.getD 0 0) ((((base++([40]:List UInt8))++bz k (I e.a 0))++([32,63,32]:List UInt8))++bz k (I e.a 1)) ([32,58,32]:List UInt8) (by first|omega|(simp only [List.length_append,List.length_cons,List.length_nil];omega)) ai) ?_
   refine fc bU cy (by omega) ?_
   refine hG [0] [.obj (.bX 112 5 (((((((base++([40]:List UInt8))++bz k (I e.a 0))++([32,63,32]:List UInt8))++bz k (I e.a 1))++([32,58,32]:List UInt8))++bz k (I e.a 2)).map bC))] (.da []) rfl (fun bs ai gd aq=>aO (I e.a 2) (((((base++([40]:List UInt8))++bz k (I e.a 0))++([32,63,32]:List UInt8))++bz k (I e.a 1))++([32,58,32]:List UInt8)) (by have:=iq (bF (l:=e.a) (i:=2) (by omega) (by omega));omega) (l6 _ (bF (by omega) (by omega))) (by first|omega|(simp only [List.length_append,List.length_cons,List.length_nil];omega)) (bs.getD 0 0) ai gd (cW.up aq aP)) ?_
   refine dw [0] [.obj (.bX 112 5 ((((((((base++([40]:List UInt8))++bz k (I e.a 0))++([32,63,32]:List UInt8))++bz k (I e.a 1))++([32,58,32]:List UInt8))++bz k (I e.a 2))++([41]:List UInt8)).map bC))] (.aI (.tuple [.int .i64 (([41]:List UInt8).length:Int), .nilIface])) rfl (fun bs ai gd=>fG (bs.getD 0 0) ((((((base++([40]:List UInt8))++bz k (I e.a 0))++([32,63,32]:List UInt8))++bz k (I e.a 1))++([32,58,32]:List UInt8))++bz k (I e.a 2)) ([41]:List UInt8) (by first|omega|(simp only [List.length_append,List.length_cons,List.length_nil];omega)) ai) ?_
   refine rt rfl fun _=>?_
   show K (.tuple []) (ae.aS m [(b, .bX 112 5 ((((((((base++([40]:List UInt8))++bz k (I e.a 0))++([32,63,32]:List UInt8))++bz k (I e.a 1))++([32,58,32]:List UInt8))++bz k (I e.a 2))++([41]:List UInt8)).map bC))])
   try simp only [List.append_assoc] at U ⊢
   exact U
 refine ag (fun cC=>?_) (fun cC=>?_)
 · have an:bz (k+1) e=[91]++eo (bz k) e.a true++[93]:=by rw [iQ,if_neg (by omega),if_neg (by omega),if_neg (by omega),if_neg (by omega),if_neg (by omega),if_neg (by omega),if_pos (by omega)]
   rw [an] at ea U
   try simp only [List.length_append,List.length_cons,List.length_nil] at ea
   refine dw [0] [.obj (.bX 112 5 ((base++([91]:List UInt8)).map bC))] (.aI (.tuple [.int .i64 (([91]:List UInt8).length:Int), .nilIface])) rfl (fun bs ai gd=>fG (bs.getD 0 0) base ([91]:List UInt8) (by first|omega|(simp only [List.length_append,List.length_cons,List.length_nil];omega)) ai) ?_
   refine aB ?_
   refine bN ?_
   refine cH (σ:=Int×ar) [] [0,111,112,113] 2 (fun ⟨i,cR⟩=>([(0, .loc 0 0),(111,aH (e.a.map bY)),(112,ax (e.a.length:Int)),(113,ax i)],[.obj (.bX 112 5 (cR.map bC)), .cells [ax e.kind,ax e.v.kind,ax e.v.n,ay e.v.s,aH (e.v.l.map cn),aH (e.v.f.map cB),ay e.s,ay e.t,aH (e.a.map bY),aH (e.n.map cm)]],m)) (fun ⟨i,cR⟩=>0≤i∧i≤e.a.length∧base++[91]++eo (bz k) e.a true=cR++eo (bz k) (e.a.drop i.toNat) (i==0)) (fun ⟨i,cR⟩=>e.a.length- i.toNat) (0,base++([91]:List UInt8)) ⟨rfl,rfl⟩ ?_ ?_
   · try dsimp only
     exact ⟨by omega,by omega,rfl⟩
   rintro ⟨i,cR⟩ aE
   dsimp only at aE
   have aD:=congrArg List.length aE.2.2
   simp only [List.length_append,List.length_cons,List.length_nil] at aD
   refine aB ?_
   refine ag (fun eg=>?_) (fun eg=>?_)
   · refine aB ?_
     refine fc bU cy (by omega) ?_
     refine aB ?_
     refine ag (fun fJ=>?_) (fun fJ=>?_)
     · have b4:=tr (g:=bz k) (l:=e.a) aE.1 (by first|assumption|omega|(rw [List.length_zip];omega)) (by omega)
       have fN:=congrArg List.length b4
       simp only [List.length_append,List.length_cons,List.length_nil] at fN
       refine dw [0] [.obj (.bX 112 5 ((cR++([44,32]:List UInt8)).map bC))] (.aI (.tuple [.int .i64 (([44,32]:List UInt8).length:Int), .nilIface])) rfl (fun bs ai gd=>fG (bs.getD 0 0) cR ([44,32]:List UInt8) (by first|omega|(simp only [List.length_append,List.length_cons,List.length_nil];omega)) ai) ?_
       refine hG [0] [.obj (.bX 112 5 (((cR++([44,32]:List UInt8))++bz k (I e.a i)).map bC))] (.da []) rfl (fun bs ai gd aq=>aO (I e.a i) (cR++([44,32]:List UInt8)) (by have:=iq (bF (l:=e.a) (i:=i) (by omega) (by omega));omega) (l6 _ (bF (by omega) (by omega))) (by first|omega|(simp only [List.length_append,List.length_cons,List.length_nil];omega)) (bs.getD 0 0) ai gd (cW.up aq aP)) ?_
       refine ag (by omega) ?_
       refine ⟨(i+1,(cR++([44,32]:List UInt8))++bz k (I e.a i)),⟨rfl,rfl⟩,?_,?_⟩
       · try dsimp only
         exact ⟨by omega,by omega,by rw [aE.2.2,b4];simp only [List.append_assoc,List.nil_append]⟩
       try dsimp only
       omega
     have b4:=tq (g:=bz k) (l:=e.a) aE.1 (by first|assumption|omega|(rw [List.length_zip];omega)) (by omega)
     have fN:=congrArg List.length b4
     simp only [List.length_append,List.length_cons,List.length_nil] at fN
     refine hG [0] [.obj (.bX 112 5 ((cR++bz k (I e.a i)).map bC))] (.da []) rfl (fun bs ai gd aq=>aO (I e.a i) cR (by have:=iq (bF (l:=e.a) (i:=i) (by omega) (by omega));omega) (l6 _ (bF (by omega) (by omega))) (by first|omega|(simp only [List.length_append,List.length_cons,List.length_nil];omega)) (bs.getD 0 0) ai gd (cW.up aq aP)) ?_
     refine ag (by omega) ?_
     refine ⟨(i+1,cR++bz k (I e.a i)),⟨rfl,rfl⟩,?_,?_⟩
     · try dsimp only
       exact ⟨by omega,by omega,by rw [aE.2.2,b4];simp only [List.append_assoc,List.nil_append]⟩
     try dsimp only
     omega
   refine dw [0] [.obj (.bX 112 5 ((cR++([93]:List UInt8)).map bC))] (.aI (.tuple [.int .i64 (([93]:List UInt8).length:Int), .nilIface])) rfl (fun bs ai gd=>fG (bs.getD 0 0) cR ([93]:List UInt8) (by first|omega|(simp only [List.length_append,List.length_cons,List.length_nil];omega)) ai) ?_
   refine rt rfl fun _=>?_
   show K (.tuple []) (ae.aS m [(b, .bX 112 5 ((cR++([93]:List UInt8)).map bC))])
   have az:base++([91]++eo (bz k) e.a true++[93])=cR++[93]:=by
    have:=aE.2.2
    rw [ts (by omega),List.append_nil] at this
    rw [←this];simp only [List.append_assoc]
   rw [az] at U;exact U
 refine ag (fun fL=>?_) (fun fL=>?_)
 · have an:bz (k+1) e=[123]++eo (fun p:ar×au=>p.1++[58,32]++bz k p.2) (e.n.zip e.a) true++[125]:=by rw [iQ,if_neg (by omega),if_neg (by omega),if_neg (by omega),if_neg (by omega),if_neg (by omega),if_neg (by omega),if_neg (by omega),if_pos (by omega)]
   rw [an] at ea U
   try simp only [List.length_append,List.length_cons,List.length_nil] at ea
   have K8:=sj fL
   have UF:(e.n.zip e.a).length=e.a.length:=by rw [List.length_zip];omega
   refine dw [0] [.obj (.bX 112 5 ((base++([123]:List UInt8)).map bC))] (.aI (.tuple [.int .i64 (([123]:List UInt8).length:Int), .nilIface])) rfl (fun bs ai gd=>fG (bs.getD 0 0) base ([123]:List UInt8) (by first|omega|(simp only [List.length_append,List.length_cons,List.length_nil];omega)) ai) ?_
   refine aB ?_
   refine bN ?_
   refine cH (σ:=Int×ar) [] [0,3,133,134,135] 2 (fun ⟨i,cR⟩=>([(0, .loc 0 0),(3, .loc 1 0),(133,aH (e.a.map bY)),(134,ax (e.a.length:Int)),(135,ax i)],[.obj (.bX 112 5 (cR.map bC)), .cells [ax e.kind,ax e.v.kind,ax e.v.n,ay e.v.s,aH (e.v.l.map cn),aH (e.v.f.map cB),ay e.s,ay e.t,aH (e.a.map bY),aH (e.n.map cm)]],m)) (fun ⟨i,cR⟩=>0≤i∧i≤e.a.length∧base++[123]++eo (fun p:ar×au=>p.1++[58,32]++bz k p.2) (e.n.zip e.a) true=cR++eo (fun p:ar×au=>p.1++[58,32]++bz k p.2) ((e.n.zip e.a).drop i.toNat) (i==0)) (fun ⟨i,cR⟩=>e.a.length- i.toNat) (0,base++([123]:List UInt8)) ⟨rfl,rfl⟩ ?_ ?_
   · try dsimp only
     exact ⟨by omega,by omega,rfl⟩
   rintro ⟨i,cR⟩ aE
   dsimp only at aE
   have aD:=congrArg List.length aE.2.2
   simp only [List.length_append,List.length_cons,List.length_nil] at aD
   refine aB ?_
   refine ag (fun hs=>?_) (fun hs=>?_)
   · refine aB ?_
     refine fc bU cy (by omega) ?_
     refine aB ?_
     refine ag (fun ky=>?_) (fun ky=>?_)
     · have b4:=tr (g:=fun p:ar×au=>p.1++[58,32]++bz k p.2) (l:=e.n.zip e.a) aE.1 (by first|assumption|omega|(rw [List.length_zip];omega)) (by omega)
       rw [Fi (by omega) (by omega) (by omega)] at b4
       have fN:=congrArg List.length b4
       simp only [List.length_append,List.length_cons,List.length_nil] at fN
       refine dw [0] [.obj (.bX 112 5 ((cR++([44,32]:List UInt8)).map bC))] (.aI (.tuple [.int .i64 (([44,32]:List UInt8).length:Int), .nilIface])) rfl (fun bs ai gd=>fG (bs.getD 0 0) cR ([44,32]:List UInt8) (by first|omega|(simp only [List.length_append,List.length_cons,List.length_nil];omega)) ai) ?_
       refine cX (by omega) ?_
       refine ag (by (first|omega|(simp only [List.length_append,List.length_cons,List.length_nil];omega))) ?_
       refine dw [0] [.obj (.bX 112 5 (((cR++([44,32]:List UInt8))++((I e.n i)++([58,32]:List UInt8))).map bC))] (.aI (.tuple [.int .i64 (((I e.n i)++([58,32]:List UInt8)).length:Int), .nilIface])) rfl (fun bs ai gd=>fG (bs.getD 0 0) (cR++([44,32]:List UInt8)) ((I e.n i)++([58,32]:List UInt8)) (by first|omega|(simp only [List.length_append,List.length_cons,List.length_nil];omega)) ai) ?_
       refine hG [0] [.obj (.bX 112 5 ((((cR++([44,32]:List UInt8))++((I e.n i)++([58,32]:List UInt8)))++bz k (I e.a i)).map bC))] (.da []) rfl (fun bs ai gd aq=>aO (I e.a i) ((cR++([44,32]:List UInt8))++((I e.n i)++([58,32]:List UInt8))) (by have:=iq (bF (l:=e.a) (i:=i) (by omega) (by omega));omega) (l6 _ (bF (by omega) (by omega))) (by first|omega|(simp only [List.length_append,List.length_cons,List.length_nil];omega)) (bs.getD 0 0) ai gd (cW.up aq aP)) ?_
       refine ag (by omega) ?_
       refine ⟨(i+1,((cR++([44,32]:List UInt8))++((I e.n i)++([58,32]:List UInt8)))++bz k (I e.a i)),⟨rfl,rfl⟩,?_,?_⟩
       · try dsimp only
         exact ⟨by omega,by omega,by rw [aE.2.2,b4];simp only [List.append_assoc,List.nil_append]⟩
       try dsimp only
       omega
     have b4:=tq (g:=fun p:ar×au=>p.1++[58,32]++bz k p.2) (l:=e.n.zip e.a) aE.1 (by first|assumption|omega|(rw [List.length_zip];omega)) (by omega)
     rw [Fi (by omega) (by omega) (by omega)] at b4
     have fN:=congrArg List.length b4
     simp only [List.length_append,List.length_cons,List.length_nil] at fN
     refine cX (by omega) ?_
     refine ag (by (first|omega|(simp only [List.length_append,List.length_cons,List.length_nil];omega))) ?_
     refine dw [0] [.obj (.bX 112 5 ((cR++((I e.n i)++([58,32]:List UInt8))).map bC))] (.aI (.tuple [.int .i64 (((I e.n i)++([58,32]:List UInt8)).length:Int), .nilIface])) rfl (fun bs ai gd=>fG (bs.getD 0 0) cR ((I e.n i)++([58,32]:List UInt8)) (by first|omega|(simp only [List.length_append,List.length_cons,List.length_nil];omega)) ai) ?_
     refine hG [0] [.obj (.bX 112 5 (((cR++((I e.n i)++([58,32]:List UInt8)))++bz k (I e.a i)).map bC))] (.da []) rfl (fun bs ai gd aq=>aO (I e.a i) (cR++((I e.n i)++([58,32]:List UInt8))) (by have:=iq (bF (l:=e.a) (i:=i) (by omega) (by omega));omega) (l6 _ (bF (by omega) (by omega))) (by first|omega|(simp only [List.length_append,List.length_cons,List.length_nil];omega)) (bs.getD 0 0) ai gd (cW.up aq aP)) ?_
     refine ag (by omega) ?_
     refine ⟨(i+1,(cR++((I e.n i)++([58,32]:List UInt8)))++bz k (I e.a i)),⟨rfl,rfl⟩,?_,?_⟩
     · try dsimp only
       exact ⟨by omega,by omega,by rw [aE.2.2,b4];simp only [List.append_assoc,List.nil_append]⟩
     try dsimp only
     omega
   refine dw [0] [.obj (.bX 112 5 ((cR++([125]:List UInt8)).map bC))] (.aI (.tuple [.int .i64 (([125]:List UInt8).length:Int), .nilIface])) rfl (fun bs ai gd=>fG (bs.getD 0 0) cR ([125]:List UInt8) (by first|omega|(simp only [List.length_append,List.length_cons,List.length_nil];omega)) ai) ?_
   refine rt rfl fun _=>?_
   show K (.tuple []) (ae.aS m [(b, .bX 112 5 ((cR++([125]:List UInt8)).map bC))])
   have az:base++([123]++eo (fun p:ar×au=>p.1++[58,32]++bz k p.2) (e.n.zip e.a) true++[125])=cR++[125]:=by
    have:=aE.2.2
    rw [ts (by omega),List.append_nil] at this
    rw [←this];simp only [List.append_assoc]
   rw [az] at U;exact U
 refine ag (fun jd=>?_) (fun jd=>?_)
 · have an:bz (k+1) e=[103,101,116,32]++bz k (I e.a 0)++[32]++e.s:=by rw [iQ,if_neg (by omega),if_neg (by omega),if_neg (by omega),if_neg (by omega),if_neg (by omega),if_neg (by omega),if_neg (by omega),if_neg (by omega),if_pos (by omega)]
   rw [an] at ea U
   try simp only [List.length_append,List.length_cons,List.length_nil] at ea
   have ui:=yJ jd
   refine dw [0] [.obj (.bX 112 5 ((base++([103,101,116,32]:List UInt8)).map bC))] (.aI (.tuple [.int .i64 (([103,101,116,32]:List UInt8).length:Int), .nilIface])) rfl (fun bs ai gd=>fG (bs.getD 0 0) base ([103,101,116,32]:List UInt8) (by first|omega|(simp only [List.length_append,List.length_cons,List.length_nil];omega)) ai) ?_
   refine fc bU cy (by omega) ?_
   refine hG [0] [.obj (.bX 112 5 (((base++([103,101,116,32]:List UInt8))++bz k (I e.a 0)).map bC))] (.da []) rfl (fun bs ai gd aq=>aO (I e.a 0) (base++([103,101,116,32]:List UInt8)) (by have:=iq (bF (l:=e.a) (i:=0) (by omega) (by omega));omega) (l6 _ (bF (by omega) (by omega))) (by first|omega|(simp only [List.length_append,List.length_cons,List.length_nil];omega)) (bs.getD 0 0) ai gd (cW.up aq aP)) ?_
   refine ag (by (first|omega|(simp only [List.length_append,List.length_cons,List.length_nil];omega))) ?_
   refine dw [0] [.obj (.bX 112 5 ((((base++([103,101,116,32]:List UInt8))++bz k (I e.a 0))++(([32]:List UInt8)++e.s)).map bC))] (.aI (.tuple [.int .i64 ((([32]:List UInt8)++e.s).length:Int), .nilIface])) rfl (fun bs ai gd=>fG (bs.getD 0 0) ((base++([103,101,116,32]:List UInt8))++bz k (I e.a 0)) (([32]:List UInt8)++e.s) (by first|omega|(simp only [List.length_append,List.length_cons,List.length_nil];omega)) ai) ?_
   refine rt rfl fun _=>?_
   show K (.tuple []) (ae.aS m [(b, .bX 112 5 ((((base++([103,101,116,32]:List UInt8))++bz k (I e.a 0))++(([32]:List UInt8)++e.s)).map bC))])
   try simp only [List.append_assoc] at U ⊢
   exact U
 exfalso
 omega
theorem yK:∀(k:Nat) (e:au) (base:ar),cZ e<k→iE e→base.length+(bz k e).length≤140737488355328→∀(b:Nat) (m:ae),eC [b] m→cW m→∀(K:ab→ae→Prop),K (.tuple []) (ae.aS m [(b, .bX 112 5 ((base++bz k e).map bC))])→bh Tryz.prog 57 [.ptr ⟨b,0,none⟩,bU e] (ae.aS m [(b, .bX 112 5 (base.map bC))]) K
 |0,_,_,h=>absurd h (Nat.not_lt_zero _)
 |k+1,e,base,h=>fun aZ ea b m gd aP K U=>Uy k e base b (yK k) h aZ ea m gd K aP U
theorem UG (e:au) (m:ae) (K:ab→ae→Prop) (aP:cW m) (U:K (.tuple [.str (if ew e=0 then iu e else []), .err 115 (ew e)]) m):bh Tryz.prog 12 [bU e] m K:=by
 refine enter (c:=cT [] [] [] [] [] []) (vs:=[.aI (bU e)]) (L:=[]) (m:=m) true b2 Tryz.mixed Tryz.func12 rfl (k:=1) (by show cO [] _ _ _=true;decide+kernel) rfl (Good.nil m) ?_
 refine cG (fun _=>yG e) rfl ?_
 refine aB ?_
 refine ag (fun J=>?_) (fun J=>?_)
 · rw [if_pos J,J] at U
   refine D9 (eb:=5) vx.choose_spec.1 vx.choose_spec.2 rfl ?_
   refine hG [1] [.obj (.bX 112 5 ((([]:ar)++bz (cZ e+1) e).map bC))] (.da []) rfl (fun bs ai gd aq=>yK (cZ e+1) e ([]:ar) (Nat.lt_succ_self _) (sk (by assumption)).1 (by have:=uh (e:=e) (by assumption);unfold iu at this;simp only [List.length_nil];omega) (bs.getD 1 0) ai gd (cW.up aq aP)) ?_
   refine dw [1] [.cells [.aI (.aV), .aI (.aV)]] (ay (([]:ar)++bz (cZ e+1) e)) rfl (fun bs ai gd=>Ex (bs.getD 1 0) (([]:ar)++bz (cZ e+1) e) ai) ?_
   refine bn rfl fun _=>?_
   show K (.tuple [.str (([]:ar)++bz (cZ e+1) e), .err 115 0]) m
   exact U
 rw [if_neg J] at U
 refine bn rfl fun _=>?_
 show K (.tuple [.str ([]), .err 115 (ew e)]) m
 exact U
end Go.Proofs
end
section
namespace Go.Proofs
open Go Go.bg Go.cz
set_option maxRecDepth 100000
structure fv {α:Type} (w:α→Nat) (p:bP α) (a:Int):Prop where
 h:p.f=0→4*a+(w p.x:Int)≤4*p.a
 n:0≤p.f
section
variable {α β:Type} {u:α→Nat} {w:β→Nat} {a b:Int}
theorem fv.no [Inhabited α] {f s:Int} (h:0<f):fv u (.bad f s:bP α) a:=⟨fun e=>absurd (show f=0 from e) (by omega),show 0≤f by omega⟩
theorem fv.yes {x:α} (h:4*a+(u x:Int)≤4*b):fv u (.ok x b) a:=⟨fun _=>h,Int.le_refl _⟩
theorem fv.bind [Inhabited β] {p:bP α} {g:α→Int→bP β} (h:fv u p b) (aa:∀x ct,4*b+(u x:Int)≤4*ct→fv w (g x ct) a):fv w (p.bind g) a:=by
 rw [bP.bind]
 split
 · exact aa _ _ (h.h (by assumption))
 · rename_i ak;exact fv.no (by have:=h.n;omega)
end
theorem l7 (l:List Tok) (n k:Int) (s:ar) (a:Int):fv (fun _=>4) (b8 l n k s a) a:=by
 rw [b8];split
 · exact fv.yes (by simp;omega)
 · exact fv.no (by decide)
theorem K9 (l:List Tok) (n a:Int):fv (fun _=>4) (qU l n a) a:=by
 rw [qU]
 refine (l7 ..).bind fun _ ct J=>(l7 ..).bind fun _ a2 aa=>(l7 ..).bind fun _ a3 aj=>(l7 ..).bind fun _ a4 aG=>fv.yes ?_
 omega
theorem La (x y:List au):hA (x++y)=hA x+hA y:=by
 induction x with
 |nil=>simp [hA]
 |cons a r aO=>simp only [List.cons_append,hA,aO];omega
theorem q0:bI dB=1:=by simp [dB,bI,lV,mB]
theorem p3 (k n:Int) (s:ar):dY (jA (.mk k n s [] []))=2:=by simp [jA,dY,hA,bI,lV,mB]
section
variable {f:Int→bP au} (aZ:∀a,fv dY (f a) a) (l:List Tok) (n:Int)
include aZ
theorem UH (a c:Int) (ao:c+1≤a):fv dY (nJ f l n a) c:=by
 rw [nJ]
 refine (aZ a).bind fun x ct J=>?_
 split
 · refine (aZ _).bind fun y a2 aa=>(l7 ..).bind fun _ a3 aj=>fv.yes ?_
   simp only [dY,hA,q0,List.length_nil] at aj ⊢;omega
 split
 · refine (aZ _).bind fun y a2 aa=>(l7 ..).bind fun _ a3 aj=>fv.yes ?_
   simp only [dY,hA,q0,List.length_nil] at aj ⊢;omega
 split
 · refine (aZ _).bind fun y a2 aa=>(l7 ..).bind fun _ a3 aj=>(aZ _).bind fun z a4 aG=>(l7 ..).bind fun _ a5 aR=>fv.yes ?_
   simp only [dY,hA,q0,List.length_nil] at aj aR ⊢;omega
 · exact fv.no (by decide)
omit aZ in
theorem Lb {xs:List au} {a c:Int} {g:Int→bP au} (bc:∀b,a≤b→fv dY (g b) c):fv dY (nI l n xs a g) c:=by
 rw [nI];split
 · exact bc _ (Int.le_refl _)
 · exact (l7 ..).bind fun _ ct J=>bc _ (by omega)
theorem Lc:∀(k:Nat) (a:Int) (xs:List au) (c:Int),4*c+(hA xs:Int)+2≤4*a→fv dY (lY f l n k a xs) c
 |0,_,_,_,_=>fv.no (by decide)
 |k+1,a,xs,c,ao=>by
  rw [lY];split
  · refine fv.yes ?_
    simp only [dY,q0,List.length_nil];omega
  · refine Lb l n fun b ah=>(aZ _).bind fun x ct J=>Lc k _ _ _ ?_
    rw [La];simp only [hA];omega
theorem Ld:∀(k:Nat) (a:Int) (cw:List ar) (xs:List au) (c:Int),4*c+(hA xs:Int)+(cw.length:Int)+2≤4*a→fv dY (kV f l n k a cw xs) c
 |0,_,_,_,_,_=>fv.no (by decide)
 |k+1,a,cw,xs,c,ao=>by
  rw [kV];split
  · refine fv.yes ?_
    simp only [dY,q0];omega
  · refine Lb l n fun b ah=>(l7 ..).bind fun _ ct J=>?_
    split
    · exact fv.no (by decide)
    · refine (l7 ..).bind fun _ a2 aa=>(aZ _).bind fun x a3 aj=>Ld k _ _ _ _ ?_
      rw [La];simp only [hA,List.length_append,List.length_cons,List.length_nil];omega
theorem UI (a:Int):fv dY (iD f l n a) a:=by
 rw [iD]
 split
 · exact fv.yes (by first|(rw [p3];omega)|(have:=p3 0 0 [];simp only [dB];omega))
 split
 · exact fv.yes (by first|(rw [p3];omega)|(have:=p3 0 0 [];simp only [dB];omega))
 split
 · exact fv.yes (by first|(rw [p3];omega)|(have:=p3 0 0 [];simp only [dB];omega))
 split
 · exact (l7 ..).bind fun _ ct J=>(l7 ..).bind fun _ a2 aa=>fv.yes (by simp only [dY,hA,q0,List.length_nil];omega)
 split
 · exact (K9 ..).bind fun _ ct J=>fv.yes (by simp only [dY,hA,q0,List.length_nil];omega)
 split
 · exact (K9 ..).bind fun _ ct J=>fv.yes (by simp only [dY,hA,q0,List.length_nil];omega)
 split
 · exact (aZ _).bind fun _ ct J=>(l7 ..).bind fun _ a2 aa=>fv.yes (by simp only [dY,hA,q0,List.length_nil];omega)
 · exact fv.no (by decide)
end
theorem Le (l:List Tok) (n eh a:Int):fv dY (kU l n eh a) a:=by
 rw [kU]
 split
 · split
   · exact fv.no (by decide)
   · exact fv.yes (by first|(rw [p3];omega)|(have:=p3 0 0 [];simp only [dB];omega))
 · exact fv.no (by decide)
theorem fv.from {p:bP au} {a b:Int} (h:fv dY p a) (ah:b≤a):fv dY p b:=⟨fun z=>by have:=h.h z;omega,h.n⟩
theorem Fk (l:List Tok) (n:Int):∀(k:Nat) (a:Int),fv dY (cr l n k a) a
 |0,_=>fv.no (by decide)
 |k+1,a=>by
  have aO:=Fk l n k
  rw [cr]
  split
  · exact UH aO l n _ _ (Int.le_refl _)
  split
  · exact Lc aO l n _ _ _ _ (by simp [hA];omega)
  split
  · exact Ld aO l n _ _ _ _ _ (by simp [hA];omega)
  split
  · exact (Le ..).from (by omega)
  split
  · exact Le ..
  split
  · exact fv.yes (by first|(rw [p3];omega)|(have:=p3 0 0 [];simp only [dB];omega))
  · exact UI aO l n a
noncomputable def gD (l:List Tok) (n a:Int):bP au:=(cr l n 6 a).bind fun x bZ=>if ew x=0 then .ok x bZ else .bad (ew x) (cp l n a)
noncomputable def oy (s:ar):au×Int×Int:=
 if (c7 s).2.2=0 then (if (gD (c7 s).1 s.length 0).f=0 then (if (gD (c7 s).1 s.length 0).a<(c7 s).1.length then (gA,cp (c7 s).1 s.length (gD (c7 s).1 s.length 0).a,5) else ((gD (c7 s).1 s.length 0).x,0,0)) else (gA,(gD (c7 s).1 s.length 0).p,(gD (c7 s).1 s.length 0).f)) else (gA,(c7 s).2.1,(c7 s).2.2)
section
variable {l:List Tok} {n a e q ct aF cq:Int} {x:au}
theorem aX.sz (o:aX l (cr l n 6 a) x a e q ct aF cq) (he:e=0) (ak:aF=0) (av:l.length≤5000) (aJ:0≤a):dY x≤1000000000:=by
 have h:=o.ok he
 obtain ⟨rfl,rfl⟩:=h.y ak
 have:=(Fk l n 6 a).h (h.f▸ak)
 have:=o.ad
 omega
theorem aX.Fl (o:aX l (cr l n 6 a) x a e q ct aF cq) (h:aF=0→ew x=0):aX l (gD l n a) x a e q ct aF cq:=by
 refine ⟨fun he=>?_,o.st,o.ba,o.ad,o.bB,o.gt⟩
 have J:=o.ok he
 by_cases ak:aF=0
 · obtain ⟨rfl,rfl⟩:=J.y ak
   rw [gD,bP.bind,if_pos (by rw [←J.f];exact ak),if_pos (h ak)]
   exact ⟨ak,fun _=>⟨rfl,rfl⟩,fun h=>absurd ak h⟩
 · rw [gD,bP.bind,if_neg (by rw [←J.f];exact ak)]
   exact ⟨J.f,fun h=>absurd h ak,fun _=>J.z ak⟩
theorem aX.Lf (o:aX l (cr l n 6 a) x a e q ct aF cq) (he:e=0) (ak:aF=0) (h:ew x≠0):aX l (gD l n a) x a e q ct (ew x) (cp l n a):=by
 refine ⟨fun he=>?_,fun h=>absurd he h,o.ba,o.ad,uf x,fun aC=>absurd aC h⟩
 have J:=o.ok he
 obtain ⟨rfl,rfl⟩:=J.y ak
 rw [gD,bP.bind,if_pos (by rw [←J.f];exact ak),if_neg h]
 exact ⟨rfl,fun aC=>absurd aC h,fun _=>rfl⟩
end
theorem Fm {s:ar} {l:List Tok} {x:au} {ct aF cq:Int} (hv:(c7 s).1=l) (aq:(c7 s).2.2=0) (o:aX l (gD l s.length 0) x 0 0 0 ct aF cq):
 oy s=if aF=0 then (if ct<l.length then (gA,cp l s.length ct,5) else (x,0,0)) else (gA,cq,aF):=by
 subst hv
 have h:=o.ok rfl
 rw [oy,if_pos aq,←h.f]
 split
 · rename_i ak
   obtain ⟨rfl,rfl⟩:=h.y ak
   rfl
 · rw [←h.z (by assumption)]
set_option maxHeartbeats 2000000 in
theorem yL (l:List Tok) (n a e q:Int) (k:Nat) (r:Nat) (aO:∀a e q d:Int,d=7- (k:Int)→0≤a→a≤l.length→0≤e→∀(r:Nat) (m:ae),eC [r] m→cW m→∀(K:ab→ae→Prop),(∀bH bZ bR cj,aX l (cr l n k a) bH a e q bZ bR cj→K (bU bH) (ae.aS m [(r, .cells [.slice false (l.map bm), .int .i64 bZ, .int .i64 n, .err 115 bR, .int .i64 cj])]))→bh Tryz.prog 127 [.ptr ⟨r,0,none⟩, .int .i64 d] (ae.aS m [(r, .cells [.slice false (l.map bm), .int .i64 a, .int .i64 n, .err 115 e, .int .i64 q])]) K) (av:l.length≤5000) (aJ:0≤a) (aT:a≤l.length) (he:0≤e) (al:k=6) (m:ae) (gd:eC [r] m) (K:ab→ae→Prop) (aP:cW m) (U:∀bH bZ bR cj,aX l (gD l n a) bH a e q bZ bR cj→K (bU bH) (ae.aS m [(r, .cells [.slice false (l.map bm), .int .i64 bZ, .int .i64 n, .err 115 bR, .int .i64 cj])])):bh Tryz.prog 65 [.ptr ⟨r,0,none⟩] (ae.aS m [(r, .cells [.slice false (l.map bm), .int .i64 a, .int .i64 n, .err 115 e, .int .i64 q])]) K:=by
 refine enter (c:=cT [] [] [3] [] [] [r]) (vs:=[.loc 0 0]) (L:=[bA l n a e q]) (m:=m) false b2 Tryz.mixed Tryz.func65 rfl (k:=1) (by show cO [] _ _ _=true;decide+kernel) rfl (gd.gZ rfl) ?_
 refine dw [0] [bA l n a e q] (ax (cp l n a)) rfl (fun bs ai gd=>EI l n a e q (bs.getD 0 0) av (by omega) (by omega) ai gd) ?_
 refine bx 115 [0] (σ:=au×Int×Int×Int) (fun ⟨bj,bO,bb,bo⟩=>aX l (cr l n k a) bj a e q bO bb bo) (fun ⟨bj,bO,bb,bo⟩=>fR bj) (fun ⟨bj,bO,bb,bo⟩=>[bA l n bO bb bo]) rfl (fun _=>rfl) (fun bs ai gd aq K U=>aO a e q 1 (by omega) (by omega) (by omega) (by omega) (bs.getD 0 0) ai gd (cW.up aq aP) K (fun c1 a8 a1 a6 aC=>U (c1,a8,a1,a6) aC)) ?_
 rintro ⟨bj,bO,bb,bo⟩ bp
 dsimp only at bp
 have pW:=bp.ba
 have mz:=bp.ad
 have pX:=bp.bB
 refine aB ?_
 refine cf [0,2,3,4] 18 ((bb==0)&&(!((ew bj)==0))) ?_ ?_
 · repeat' first
    |exact ⟨⟨_,rfl,by grind [bD.val]⟩,rfl⟩
    |refine ag (fun _=>?_) (fun _=>?_)
    |refine cG (fun _=>yG bj) rfl ?_
 refine ag (fun J=>?_) (fun J=>?_)
 · replace J:(bb=0)∧(ew bj≠0):=⟨(eq_of_beq (dH J)),(ne_of_beq_false (dz (eA J)))⟩
   refine cG (fun _=>yG bj) rfl ?_
   refine rt rfl fun _=>?_
   show K (.agg [.int .i64 bj.kind, .int .i64 bj.v.kind, .int .i64 bj.v.n, .str bj.v.s, .slice false (bj.v.l.map cn), .slice false (bj.v.f.map cB), .str bj.s, .str bj.t, .slice false (bj.a.map bY), .slice false (bj.n.map cm)]) (ae.aS m [(r, .cells [.slice false (l.map bm), .int .i64 bO, .int .i64 n, .err 115 (ew bj), .int .i64 (cp l n a)])])
   subst al
   exact U _ _ _ _ (bp.Lf (Classical.byContradiction fun c=>by have:=(bp.st c).2.1;omega) J.1 J.2)
 replace J:(bb≠0)∨(ew bj=0):=((eB J).imp (fun q=>(ne_of_beq_false q)) (fun q=>(eq_of_beq (du q))))
 refine rt rfl fun _=>?_
 show K (.agg [.int .i64 bj.kind, .int .i64 bj.v.kind, .int .i64 bj.v.n, .str bj.v.s, .slice false (bj.v.l.map cn), .slice false (bj.v.f.map cB), .str bj.s, .str bj.t, .slice false (bj.a.map bY), .slice false (bj.n.map cm)]) (ae.aS m [(r, .cells [.slice false (l.map bm), .int .i64 bO, .int .i64 n, .err 115 bb, .int .i64 bo])])
 subst al
 exact U _ _ _ _ (bp.Fl fun aU=>J.resolve_left (fun aM=>aM aU))
set_option maxHeartbeats 2000000 in
theorem UJ (s:ar) (l:List Tok) (aw:s.length≤16777216) (hv:(c7 s).1=l) (m:ae) (K:ab→ae→Prop) (aP:cW m) (U:K (.tuple [bU (oy s).1, .int .i64 (oy s).2.1, .err 115 (oy s).2.2]) m):bh Tryz.prog 18 [.str s] m K:=by
 have av:l.length≤5000:=by rw [←hv];have:=A0 s;omega
 have EF:=AZ s
 refine enter (c:=cT [] [] [6] [9999] [9] []) (vs:=[.aI (.str s)]) (L:=[]) (m:=m) true b2 Tryz.mixed Tryz.func18 rfl (k:=1) (by show cO [9999] _ _ _=true;decide+kernel) rfl (Good.nil m) ?_
 refine cG (fun _=>fun m K U=>Km s aw m K (by rw [hv];exact U)) rfl ?_
 refine aB ?_
 refine ag (fun J=>?_) (fun J=>?_)
 · refine bx 115 [1] (σ:=au×Int×Int×Int) (fun ⟨bj,bO,bb,bo⟩=>aX l (gD l s.length 0) bj 0 0 0 bO bb bo) (fun ⟨bj,bO,bb,bo⟩=>fR bj) (fun ⟨bj,bO,bb,bo⟩=>[bA l (s.length:Int) bO bb bo]) rfl (fun _=>rfl) (fun bs ai gd aq K U=>yL l (s.length:Int) 0 0 0 6 (bs.getD 1 0) (vO l (s.length:Int) av (by rw [←hv];exact E8 s) 6 (by decide)) av (by omega) (by omega) (by omega) rfl ai gd K (cW.up aq aP) (fun c1 a8 a1 a6 aC=>U (c1,a8,a1,a6) aC)) ?_
   rintro ⟨bj,bO,bb,bo⟩ bp
   dsimp only at bp
   have pW:=bp.ba
   have mz:=bp.ad
   have pX:=bp.bB
   refine aB ?_
   refine cf [2,8,9] 44 ((bb==0)&&(decide (bO<(l.length:Int)))) ?_ ?_
   · repeat' first
      |exact ⟨⟨_,rfl,by grind [bD.val]⟩,rfl⟩
      |refine ag (fun _=>?_) (fun _=>?_)
      |refine bN ?_
   refine ag (fun aa=>?_) (fun aa=>?_)
   · replace aa:(bb=0)∧(bO<(l.length:Int)):=⟨(eq_of_beq (dH aa)),(of_decide_eq_true (eA aa))⟩
     refine bx 115 [1] (σ:=Int×Int) (fun ⟨b3,cg⟩=>(bb=0→b3=5∧cg=cp l (s.length:Int) bO)∧(bb≠0→b3=bb∧cg=bo)∧0<b3) (fun ⟨b3,cg⟩=> .da []) (fun ⟨b3,cg⟩=>[bA l (s.length:Int) bO b3 cg]) rfl (fun _=>rfl) (fun bs ai gd aq K U=>o9 l (s.length:Int) bO bb bo 5 (bs.getD 1 0) (by decide) av (by omega) (by omega) (by omega) ai gd K (fun z=>U (5,cp l (s.length:Int) bO) ⟨fun _=>⟨rfl,rfl⟩,fun y=>absurd z y,by decide⟩) (fun z=>U (bb,bo) ⟨fun y=>absurd y z,fun _=>⟨rfl,rfl⟩,by omega⟩)) ?_
     rintro ⟨b3,cg⟩ cx
     dsimp only at cx
     obtain ⟨tu,tv,A1⟩:=cx
     refine aB ?_
     refine ag (fun aj=>?_) (fun aj=>?_)
     · refine bn rfl fun _=>?_
       show K (.tuple [.agg [.int .i64 bj.kind, .int .i64 bj.v.kind, .int .i64 bj.v.n, .str bj.v.s, .slice false (bj.v.l.map cn), .slice false (bj.v.f.map cB), .str bj.s, .str bj.t, .slice false (bj.a.map bY), .slice false (bj.n.map cm)], .int .i64 0, .err 115 0]) m
       exact absurd aj (by omega)
     refine hS b2 Tryz.mixed (σ:=Unit) (.f 1 (.f 2 (.f 3 (.f 5 (.f 6 (.f 7 (.o 0 (.o 4 (.o 8 (.s 9 (.s 10 (.s 11 .d))) (.o 9 (.o 8 (.s 10 (.s 11 .d)) (.o 10 (.s 8 (.s 11 .d)) .z)) .z)) (.o 8 (.o 4 (.s 9 (.s 10 (.s 11 .d))) (.o 9 (.s 4 (.s 10 (.s 11 .d))) .z)) (.o 9 (.o 4 (.o 8 (.s 10 (.s 11 .d)) (.o 10 (.s 8 (.s 11 .d)) .z)) (.o 8 (.s 4 (.s 10 (.s 11 .d))) .z)) .z))) (.o 4 (.o 0 (.o 8 (.s 9 (.s 10 (.s 11 .d))) (.o 9 (.o 8 (.s 10 (.s 11 .d)) (.o 10 (.s 8 (.s 11 .d)) .z)) .z)) (.o 8 (.s 0 (.s 9 (.s 10 (.s 11 .d)))) .z)) (.o 8 (.o 0 (.o 4 (.s 9 (.s 10 (.s 11 .d))) (.o 9 (.s 4 (.s 10 (.s 11 .d))) .z)) (.o 4 (.s 0 (.s 9 (.s 10 (.s 11 .d)))) .z)) .z))))))))) [] [2,3,4] 3 (fun _=>([(2, .loc 0 0),(3,ax cg),(4, .aI (.err 115 b3))],[.cells [ax 0,ax 0,ax 0,ay ([]), .own [], .own [],ay ([]),ay ([]), .own [], .own []],bA l (s.length:Int) bO b3 cg, .cells [ax bj.kind,ax bj.v.kind,ax bj.v.n,ay bj.v.s,aH (bj.v.l.map cn),aH (bj.v.f.map cB),ay bj.s,ay bj.t,aH (bj.a.map bY),aH (bj.n.map cm)]],m)) (fun _=>True) (by decide+kernel) ?_ ?_
     · rintro _ h9
       try dsimp only at h9
       refine bn rfl fun _=>?_
       show K (.tuple [.agg [.int .i64 0, .int .i64 0, .int .i64 0, .str ([]), .slice false [], .slice false [], .str ([]), .str ([]), .slice false [], .slice false []], .int .i64 cg, .err 115 b3]) m
       have e:=Fm hv (by omega) bp
       obtain ⟨rfl,rfl⟩:=tu aa.1
       rw [if_pos aa.1,if_pos (by omega)] at e
       rw [e] at U
       exact U
     repeat' first
      |refine ⟨(),⟨rfl,rfl⟩,trivial⟩
      |refine ⟨?_,?_,?_,trivial⟩
      |refine ⟨?_,?_,trivial⟩
   replace aa:(bb≠0)∨((l.length:Int)≤bO):=((eB aa).imp (fun q=>(ne_of_beq_false q)) (fun q=>(Int.not_lt.1 (of_decide_eq_false q))))
   refine aB ?_
   refine ag (fun aG=>?_) (fun aG=>?_)
   · refine bn rfl fun _=>?_
     show K (.tuple [.agg [.int .i64 bj.kind, .int .i64 bj.v.kind, .int .i64 bj.v.n, .str bj.v.s, .slice false (bj.v.l.map cn), .slice false (bj.v.f.map cB), .str bj.s, .str bj.t, .slice false (bj.a.map bY), .slice false (bj.n.map cm)], .int .i64 0, .err 115 0]) m
     have e:=Fm hv (by omega) bp
     rw [if_pos aG,if_neg (by omega)] at e
     rw [e] at U
     exact U
   refine hS b2 Tryz.mixed (σ:=Unit) (.f 1 (.f 2 (.f 3 (.f 5 (.f 6 (.f 7 (.o 0 (.o 4 (.o 8 (.s 9 (.s 10 (.s 11 .d))) (.o 9 (.o 8 (.s 10 (.s 11 .d)) (.o 10 (.s 8 (.s 11 .d)) .z)) .z)) (.o 8 (.o 4 (.s 9 (.s 10 (.s 11 .d))) (.o 9 (.s 4 (.s 10 (.s 11 .d))) .z)) (.o 9 (.o 4 (.o 8 (.s 10 (.s 11 .d)) (.o 10 (.s 8 (.s 11 .d)) .z)) (.o 8 (.s 4 (.s 10 (.s 11 .d))) .z)) .z))) (.o 4 (.o 0 (.o 8 (.s 9 (.s 10 (.s 11 .d))) (.o 9 (.o 8 (.s 10 (.s 11 .d)) (.o 10 (.s 8 (.s 11 .d)) .z)) .z)) (.o 8 (.s 0 (.s 9 (.s 10 (.s 11 .d)))) .z)) (.o 8 (.o 0 (.o 4 (.s 9 (.s 10 (.s 11 .d))) (.o 9 (.s 4 (.s 10 (.s 11 .d))) .z)) (.o 4 (.s 0 (.s 9 (.s 10 (.s 11 .d)))) .z)) .z))))))))) [] [2,3,4] 3 (fun _=>([(2, .loc 0 0),(3,ax bo),(4, .aI (.err 115 bb))],[.cells [ax 0,ax 0,ax 0,ay ([]), .own [], .own [],ay ([]),ay ([]), .own [], .own []],bA l (s.length:Int) bO bb bo, .cells [ax bj.kind,ax bj.v.kind,ax bj.v.n,ay bj.v.s,aH (bj.v.l.map cn),aH (bj.v.f.map cB),ay bj.s,ay bj.t,aH (bj.a.map bY),aH (bj.n.map cm)]],m)) (fun _=>True) (by decide+kernel) ?_ ?_
   · rintro _ h9
     try dsimp only at h9
     refine bn rfl fun _=>?_
     show K (.tuple [.agg [.int .i64 0, .int .i64 0, .int .i64 0, .str ([]), .slice false [], .slice false [], .str ([]), .str ([]), .slice false [], .slice false []], .int .i64 bo, .err 115 bb]) m
     have e:=Fm hv (by omega) bp
     rw [if_neg aG] at e
     rw [e] at U
     exact U
   repeat' first
    |refine ⟨(),⟨rfl,rfl⟩,trivial⟩
    |refine ⟨?_,?_,?_,trivial⟩
    |refine ⟨?_,?_,trivial⟩
 refine bn rfl fun _=>?_
 show K (.tuple [.agg [.int .i64 0, .int .i64 0, .int .i64 0, .str ([]), .slice false [], .slice false [], .str ([]), .str ([]), .slice false [], .slice false []], .int .i64 ((c7 s).2.1), .err 115 ((c7 s).2.2)]) m
 have e:oy s=(gA,(c7 s).2.1,(c7 s).2.2):=by rw [oy,if_neg (by omega)]
 rw [e] at U
 exact U
theorem UK (s:ar) (aw:s.length≤16777216) (m:ae) (aP:cW m) (K:ab→ae→Prop) (U:K (.tuple [bU (oy s).1, .int .i64 (oy s).2.1, .err 115 (oy s).2.2]) m):bh Tryz.prog 18 [.str s] m K:=UJ s _ aw rfl m K aP U
end Go.Proofs
end
section
namespace Go.Proofs
open Go Go.bg Go.cz
set_option maxRecDepth 100000
open Classical in
noncomputable def kZ (a b:au):Bool:=decide (a=b)
theorem Fo {a b:au} (h:a=b):kZ a b=true:=by simp [kZ,h]
theorem Lg {a b:au} (h:a≠b):kZ a b=false:=by simp [kZ,h]
theorem UL {a b:au}:kZ a b=true↔a=b:=by simp [kZ]
theorem au.ext' {a b:au} (J:a.kind=b.kind) (aa:a.v=b.v) (aj:a.s=b.s) (aG:a.t=b.t) (aR:a.a=b.a) (bu:a.n=b.n):a=b:=by
 cases a;cases b
 simp only [au.kind,au.v,au.s,au.t,au.a,au.n] at*
 subst J aa aj aG aR bu;rfl
set_option maxHeartbeats 1000000 in
theorem UM (a b:List ar) (m:ae) (K:ab→ae→Prop) (U:K (.bool (decide (a=b))) m):bh Tryz.prog 62 [.slice false (a.map cm), .slice false (b.map cm)] m K:=by
 refine enter (c:=cT [] [0] [] [] [] []) (vs:=[.aI (.slice false (a.map cm)), .aI (.slice false (b.map cm))]) (L:=[]) (m:=m) false b2 Tryz.mixed Tryz.func62 rfl (k:=2) (by show cO [] _ _ _=true;decide+kernel) rfl (Good.nil m) ?_
 refine ⟨fun bJ=>?_⟩
 have o7:a.length≤140737488355328:=dr (o:=false) (bJ 0).1
 have Ya:b.length≤140737488355328:=dr (o:=false) (bJ 1).1
 refine aB ?_
 refine bN ?_
 refine bN ?_
 refine ag (fun J=>?_) (fun J=>?_)
 · refine aB ?_
   refine cH (σ:=Int) [] [0,1,5] 0 (fun i=>([(0,aH (a.map cm)),(1,aH (b.map cm)),(5,ax i)],[],m)) (fun i=>0≤i∧i≤a.length∧a.take i.toNat=b.take i.toNat) (fun i=>a.length- i.toNat) (0) ⟨rfl,rfl⟩ ?_ ?_
   · try dsimp only
     exact ⟨by omega,by omega,rfl⟩
   rintro i aE
   refine aB ?_
   refine bN ?_
   refine ag (fun aa=>?_) (fun aa=>?_)
   · refine aB ?_
     refine cX (by omega) ?_
     refine cX (by omega) ?_
     refine ag (fun aj=>?_) (fun aj=>?_)
     · refine ag (by omega) ?_
       refine ⟨(i+1),⟨rfl,rfl⟩,?_,?_⟩
       · try dsimp only
         exact ⟨by omega,by omega,by rw [iM aE.1 aa,iM aE.1 (by omega),aE.2.2,aj]⟩
       try dsimp only
       omega
     refine bn rfl fun _=>?_
     show K (.bool false) m
     rw [decide_eq_false (by intro aC;subst aC;exact aj rfl)] at U;exact U
   refine bn rfl fun _=>?_
   show K (.bool true) m
   rw [decide_eq_true (by have:=aE.2.2;rwa [iN (by omega),iN (by omega)] at this)] at U;exact U
 refine bn rfl fun _=>?_
 show K (.bool false) m
 rw [decide_eq_false (by intro aC;subst aC;exact J rfl)] at U;exact U
set_option maxHeartbeats 4000000 in
theorem UN (a b:au) (aO:∀v w:au,cZ v<cZ a→∀(m:ae) (K:ab→ae→Prop),K (.bool (kZ v w)) m→bh Tryz.prog 16 [bU v,bU w] m K) (m:ae) (K:ab→ae→Prop) (U:K (.bool (kZ a b)) m):bh Tryz.prog 16 [bU a,bU b] m K:=by
 refine enter (c:=cT [] [0] [2] [] [] []) (vs:=[.aI (bU a), .aI (bU b)]) (L:=[]) (m:=m) false b2 Tryz.mixed Tryz.func16 rfl (k:=2) (by show cO [] _ _ _=true;decide+kernel) rfl (Good.nil m) ?_
 refine ⟨fun bJ=>?_⟩
 have kq:a.v.s.length≤140737488355328:=(bJ 0 3 (Nat.le_of_ble_eq_true rfl))
 have mC:a.v.l.length≤140737488355328:=dr (bJ 0 4 (Nat.le_of_ble_eq_true rfl))
 have wu:a.v.f.length≤140737488355328:=dr (bJ 0 5 (Nat.le_of_ble_eq_true rfl))
 have wv:a.s.length≤140737488355328:=(bJ 0 6 (Nat.le_of_ble_eq_true rfl))
 have wx:a.t.length≤140737488355328:=(bJ 0 7 (Nat.le_of_ble_eq_true rfl))
 have wy:a.a.length≤140737488355328:=dr (bJ 0 8 (Nat.le_of_ble_eq_true rfl))
 have wz:a.n.length≤140737488355328:=dr (bJ 0 9 (Nat.le_of_ble_eq_true rfl))
 have AN:b.v.s.length≤140737488355328:=(bJ 1 3 (Nat.le_of_ble_eq_true rfl))
 have AO:b.v.l.length≤140737488355328:=dr (bJ 1 4 (Nat.le_of_ble_eq_true rfl))
 have UA:b.v.f.length≤140737488355328:=dr (bJ 1 5 (Nat.le_of_ble_eq_true rfl))
 have UB:b.s.length≤140737488355328:=(bJ 1 6 (Nat.le_of_ble_eq_true rfl))
 have UC:b.t.length≤140737488355328:=(bJ 1 7 (Nat.le_of_ble_eq_true rfl))
 have UD:b.a.length≤140737488355328:=dr (bJ 1 8 (Nat.le_of_ble_eq_true rfl))
 have UE:b.n.length≤140737488355328:=dr (bJ 1 9 (Nat.le_of_ble_eq_true rfl))
 refine cG (fun _=>JJ a.v b.v) rfl ?_
 refine aB ?_
 refine cf [2,3] 52 ((((((!(a.kind==b.kind))||(!(hy a.v b.v)))||(!(a.s==b.s)))||(!(a.t==b.t)))||(!((a.a.length:Int)==(b.a.length:Int))))||(!(decide (a.n=b.n)))) ?_ ?_
 · repeat' first
    |exact ⟨⟨_,rfl,by grind [bD.val]⟩,rfl⟩
    |refine ag (fun _=>?_) (fun _=>?_)
    |refine bN ?_
    |refine cG (fun _=>UM a.n b.n) rfl ?_
 refine ag (fun J=>?_) (fun J=>?_)
 · replace J:(((((a.kind≠b.kind)∨(hy a.v b.v=false))∨(a.s≠b.s))∨(a.t≠b.t))∨((a.a.length:Int)≠(b.a.length:Int)))∨(decide (a.n=b.n)=false):=((dq J).imp (fun q=>((dq q).imp (fun q=>((dq q).imp (fun q=>((dq q).imp (fun q=>((dq q).imp (fun q=>(ne_of_beq_false (dz q))) (fun q=>(dz q)))) (fun q=>(ne_of_beq_false (dz q))))) (fun q=>(ne_of_beq_false (dz q))))) (fun q=>(ne_of_beq_false (dz q))))) (fun q=>(dz q)))
   refine bn rfl fun _=>?_
   show K (.bool false) m
   rw [Lg (by intro aC;subst aC;simp [rU rfl] at J)] at U;exact U
 replace J:(((((a.kind=b.kind)∧(hy a.v b.v=true))∧(a.s=b.s))∧(a.t=b.t))∧((a.a.length:Int)=(b.a.length:Int)))∧(decide (a.n=b.n)=true):=⟨⟨⟨⟨⟨(eq_of_beq (du (cb (cb (cb (cb (cb J))))))),(du (dp (cb (cb (cb (cb J))))))⟩,(eq_of_beq (du (dp (cb (cb (cb J))))))⟩,(eq_of_beq (du (dp (cb (cb J)))))⟩,(eq_of_beq (du (dp (cb J))))⟩,(du (dp J))⟩
 refine aB ?_
 refine cH (σ:=Int) [] [2,3,6] 2 (fun i=>([(2, .loc 0 0),(3, .loc 1 0),(6,ax i)],[.cells [ax a.kind,ax a.v.kind,ax a.v.n,ay a.v.s,aH (a.v.l.map cn),aH (a.v.f.map cB),ay a.s,ay a.t,aH (a.a.map bY),aH (a.n.map cm)], .cells [ax b.kind,ax b.v.kind,ax b.v.n,ay b.v.s,aH (b.v.l.map cn),aH (b.v.f.map cB),ay b.s,ay b.t,aH (b.a.map bY),aH (b.n.map cm)]],m)) (fun i=>0≤i∧i≤a.a.length∧a.a.take i.toNat=b.a.take i.toNat) (fun i=>a.a.length- i.toNat) (0) ⟨rfl,rfl⟩ ?_ ?_
 · try dsimp only
   exact ⟨by omega,by omega,rfl⟩
 rintro i aE
 refine aB ?_
 refine bN ?_
 refine ag (fun aa=>?_) (fun aa=>?_)
 · refine aB ?_
   refine fc bU cy (by omega) ?_
   refine fc bU cy (by omega) ?_
   refine gN (fun _=>aO (I a.a i) (I b.a i) (iq (bF aE.1 (by assumption)))) ?_
   refine ag (fun aj=>?_) (fun aj=>?_)
   · refine ag (by omega) ?_
     refine ⟨(i+1),⟨rfl,rfl⟩,?_,?_⟩
     · try dsimp only
       exact ⟨by omega,by omega,by rw [iM aE.1 aa,iM aE.1 (by omega),aE.2.2,UL.1 aj]⟩
     try dsimp only
     omega
   refine bn rfl fun _=>?_
   show K (.bool false) m
   rw [Lg (by intro aC;subst aC;rw [Fo rfl] at aj;cases aj)] at U;exact U
 refine bn rfl fun _=>?_
 show K (.bool true) m
 rw [Fo (au.ext' J.1.1.1.1.1 (tl.1 J.1.1.1.1.2) J.1.1.1.2 J.1.1.2 (by have:=aE.2.2;rwa [iN (by omega),iN (by omega)] at this) (of_decide_eq_true J.2))] at U;exact U
theorem Lh:∀(n:Nat) (a b:au),cZ a<n→∀(m:ae) (K:ab→ae→Prop),K (.bool (kZ a b)) m→bh Tryz.prog 16 [bU a,bU b] m K
 |0,_,_,h=>absurd h (Nat.not_lt_zero _)
 |n+1,a,b,h=>fun m K U=>UN a b (fun v w bw=>Lh n v w (by omega)) m K U
theorem Li (a b:au) (m:ae) (K:ab→ae→Prop) (U:K (.bool (kZ a b)) m):bh Tryz.prog 16 [bU a,bU b] m K:=Lh (cZ a+1) a b (Nat.lt_succ_self _) m K U
set_option maxHeartbeats 4000000 in
theorem UO (e:au) (ak:dY e≤1000000000) (aO:∀x:au,cZ x<cZ e→dY x≤1000000000→∀(m:ae) (K:ab→ae→Prop),K (bU x) m→bh Tryz.prog 17 [bU x] m K) (m:ae) (K:ab→ae→Prop) (U:K (bU e) m):bh Tryz.prog 17 [bU e] m K:=by
 have aw:=Bl e
 have fN:=Uq e.a
 refine enter (c:=cT [] [] [] [2999,6999] [2,6] []) (vs:=[.aI (bU e)]) (L:=[]) (m:=m) false b2 Tryz.mixed Tryz.func17 rfl (k:=1) (by show cO [2999,6999] _ _ _=true;decide+kernel) rfl (Good.nil m) ?_
 refine hS b2 Tryz.mixed (σ:=Unit) (.f 0 (.f 3 (.o 1 (.o 2 (.s 4 (.f 6 (.o 5 (.s 7 (.f 8 (.s 9 (.f 10 (.s 11 .d))))) (.o 7 (.f 8 (.o 5 (.s 9 (.f 10 (.s 11 .d))) (.o 9 (.s 5 (.f 10 (.s 11 .d))) .z))) .z)))) (.o 4 (.s 2 (.f 6 (.o 5 (.s 7 (.f 8 (.s 9 (.f 10 (.s 11 .d))))) (.o 7 (.f 8 (.o 5 (.s 9 (.f 10 (.s 11 .d))) (.o 9 (.s 5 (.f 10 (.s 11 .d))) .z))) .z)))) .z)) (.o 4 (.s 1 (.s 2 (.f 6 (.o 5 (.s 7 (.f 8 (.s 9 (.f 10 (.s 11 .d))))) (.o 7 (.f 8 (.o 5 (.s 9 (.f 10 (.s 11 .d))) (.o 9 (.s 5 (.f 10 (.s 11 .d))) .z))) .z))))) .z)))) [] [1,2,3] 2 (fun _=>([(1, .loc 0 0),(2, .loc 1 0),(3,aH (e.a.map bY))],[.cells [ax e.kind,ax e.v.kind,ax e.v.n,ay e.v.s,aH (e.v.l.map cn),aH (e.v.f.map cB),ay e.s,ay e.t, .own [], .own (e.n.map cm)], .cells [ax 0,ax 0,ax 0,ay ([]), .own [], .own [],ay ([]),ay ([]), .own [], .own []]],m)) (fun _=>True) (by decide+kernel) ?_ ?_
 · rintro _ UP
   try dsimp only at UP
   refine aB ?_
   refine bN ?_
   refine cH (σ:=Int×List au) [] [1,2,17,18,19] 2 (fun ⟨i,xs⟩=>([(1, .loc 0 0),(2, .loc 1 0),(17,aH (e.a.map bY)),(18,ax (e.a.length:Int)),(19,ax i)],[.cells [ax e.kind,ax e.v.kind,ax e.v.n,ay e.v.s,aH (e.v.l.map cn),aH (e.v.f.map cB),ay e.s,ay e.t, .own (xs.map bY), .own (e.n.map cm)], .cells [ax 0,ax 0,ax 0,ay ([]), .own [], .own [],ay ([]),ay ([]), .own [], .own []]],m)) (fun ⟨i,xs⟩=>0≤i∧i≤e.a.length∧xs=e.a.take i.toNat) (fun ⟨i,xs⟩=>e.a.length- i.toNat) (0,[]) ⟨rfl,rfl⟩ ?_ ?_
   · try dsimp only
     exact ⟨by omega,by omega,by simp⟩
   rintro ⟨i,xs⟩ aE
   dsimp only at aE
   have pK:(xs.length:Int)=i:=by rw [aE.2.2,List.length_take];omega
   refine aB ?_
   refine ag (fun J=>?_) (fun J=>?_)
   · refine aB ?_
     refine fc bU cy (by omega) ?_
     refine hS b2 Tryz.mixed (σ:=Unit) (.f 0 (.o 1 (.s 2 (.s 3 (.s 4 (.s 5 (.f 6 (.s 7 .d)))))) (.o 2 (.o 1 (.s 3 (.s 4 (.s 5 (.f 6 (.s 7 .d))))) (.o 3 (.o 1 (.s 4 (.s 5 (.f 6 (.s 7 .d)))) (.o 4 (.s 1 (.s 5 (.f 6 (.s 7 .d)))) .z)) .z)) .z))) [] [1,2,17,18,19] 3 (fun _=>([(1, .loc 0 0),(2, .loc 1 0),(17,aH (e.a.map bY)),(18,ax (e.a.length:Int)),(19,ax i)],[.cells [ax e.kind,ax e.v.kind,ax e.v.n,ay e.v.s,aH (e.v.l.map cn),aH (e.v.f.map cB),ay e.s,ay e.t, .own ((xs++([(I e.a i)]:List au)).map bY), .own (e.n.map cm)], .cells [ax 0,ax 0,ax 0,ay ([]), .own [], .own [],ay ([]),ay ([]), .own [], .own []], .cells [ax ((I e.a i).kind),ax (((I e.a i).v).kind),ax (((I e.a i).v).n),ay (((I e.a i).v).s),aH ((((I e.a i).v).l).map cn),aH ((((I e.a i).v).f).map cB),ay ((I e.a i).s),ay ((I e.a i).t),aH (((I e.a i).a).map bY),aH (((I e.a i).n).map cm)]],m)) (fun _=>True) (by decide+kernel) ?_ ?_
     · rintro _ El
       try dsimp only at El
       refine ag (by omega) ?_
       refine ⟨(i+1,xs++([(I e.a i)]:List au)),⟨rfl,rfl⟩,?_,?_⟩
       · try dsimp only
         exact ⟨by omega,by omega,by rw [iM aE.1 (by omega),←aE.2.2]⟩
       try dsimp only
       omega
     repeat' first
      |refine ⟨(),⟨rfl,rfl⟩,trivial⟩
      |refine cG (fun _=>aO (I e.a i) (iq (bF aE.1 (by assumption))) (by have:=KV (bF (l:=e.a) (i:=i) aE.1 (by assumption));omega)) rfl ?_
      |refine ap bY xs ([(I e.a i)]:List au) rfl (by simp only [List.map_cons,List.map_nil,cy];try rfl) (fun a=>by rw [cy];exact ⟨rfl,rfl⟩) (by (simp only [List.length_append,List.length_cons,List.length_nil];omega)) ?_
      |refine ⟨?_,?_,trivial⟩
   refine bn rfl fun _=>?_
   show K (.agg [.int .i64 e.kind, .int .i64 e.v.kind, .int .i64 e.v.n, .str e.v.s, .slice false (e.v.l.map cn), .slice false (e.v.f.map cB), .str e.s, .str e.t, .slice false (xs.map bY), .slice false (e.n.map cm)]) m
   have cq:xs=e.a:=by have:=aE.2.2;rwa [iN (by omega)] at this
   rw [cq]
   exact U
 repeat' first
  |refine ⟨(),⟨rfl,rfl⟩,trivial⟩
  |refine cG (fun _=>Jp e.v (AG _ _ (Nat.lt_succ_self _) (by omega))) rfl ?_
  |refine ap cm ([]) e.n rfl rfl (fun _=>⟨rfl,rfl⟩) (by (simp only [List.length_append,List.length_cons,List.length_nil];omega)) ?_
  |refine ⟨?_,?_,trivial⟩
theorem Lj:∀(n:Nat) (e:au),cZ e<n→dY e≤1000000000→∀(m:ae) (K:ab→ae→Prop),K (bU e) m→bh Tryz.prog 17 [bU e] m K
 |0,_,h,_=>absurd h (Nat.not_lt_zero _)
 |n+1,e,h,ak=>fun m K U=>UO e ak (fun x an aK=>Lj n x (by omega) aK) m K U
theorem Lk (e:au) (ak:dY e≤1000000000) (m:ae) (K:ab→ae→Prop) (U:K (bU e) m):bh Tryz.prog 17 [bU e] m K:=Lj (cZ e+1) e (Nat.lt_succ_self _) ak m K U
end Go.Proofs
end
section
namespace Go.Proofs
open Go Go.bg Go.cz
set_option maxRecDepth 100000
def oz (k:Nat) (e:au):List ar:=if e.kind=9 then (e.n.zip e.a).map (fun p:ar×au=>p.1++[58,32]++bz k p.2) else e.a.map (bz k)
theorem Ll {α β:Type} [Inhabited α] [Inhabited β] {f:α→β} {l:List α} {i:Int} (aJ:0≤i) (ad:i<l.length):I (l.map f) i=f (I l i):=
 wC aJ (by rw [List.getElem?_map,List.getElem?_eq_getElem (by omega),Option.map_some];exact congrArg some (congrArg f (wC aJ (List.getElem?_eq_getElem (by omega))).symm))
theorem UQ {k:Nat} {e:au} (h:e.kind=9→e.a.length=e.n.length):(oz k e).length=e.a.length:=by
 unfold oz;split
 · have:=h (by assumption);rw [List.length_map,List.length_zip];omega
 · rw [List.length_map]
theorem UR {k:Nat} {e:au} {i:Int} (h:e.kind=9) (av:e.a.length=e.n.length) (aJ:0≤i) (ad:i<e.a.length):I (oz k e) i=(I e.n i++[58,32])++bz k (I e.a i):=by
 rw [oz,if_pos h,Ll aJ (by rw [List.length_zip];omega),Fi aJ (by omega) ad]
theorem q1 {k:Nat} {e:au} {i:Int} (h:e.kind≠9) (aJ:0≤i) (ad:i<e.a.length):I (oz k e) i=bz k (I e.a i):=by
 rw [oz,if_neg h,Ll aJ ad]
theorem Fp {α β:Type} {g:β→ar} {f:α→β}:∀(l:List α) (b:Bool),eo g (l.map f) b=eo (fun x=>g (f x)) l b
 |[],b=>by rw [List.map_nil,eo,eo]
 |x::r,b=>by rw [List.map_cons,eo,eo,Fp r]
theorem Lm {α:Type} {g:α→ar} {c:Nat}:∀(l:List α) (b:Bool),(∀x∈l,(g x).length≤c)→(eo g l b).length≤l.length*(c+2)
 |[],b,_=>by rw [eo];simp
 |x::r,b,h=>by
  have J:=h x (List.mem_cons_self ..)
  have aa:=Lm r false fun y aK=>h y (List.mem_cons_of_mem _ aK)
  have aj:(if b=true then ([]:ar) else [44,32]).length≤2:=by split<;>simp
  rw [eo,List.length_append,List.length_append,List.length_cons,Nat.add_mul]
  omega
theorem US (l:List au):l.length≤im l:=by
 induction l with
 |nil=>simp
 |cons a r aO=>simp only [im,List.length_cons];have:=tz a;omega
theorem Fq {k:Nat} {e x:au} (aZ:iE x) (an:x∈e.a) (aY:cZ e≤60):(bz k x).length≤1200000:=by
 have:=Fj k x aZ
 have:=iq an
 omega
theorem UT {k:Nat} {e:au} (aZ:iE e) (aY:cZ e≤60):∀t∈oz k e,t.length≤1300000:=by
 obtain ⟨aM,al⟩:=Bk aZ
 have aw:=Bn aM
 unfold oz
 intro t aq
 split at aq
 · obtain ⟨p,aQ,rfl⟩:=List.mem_map.1 aq
   obtain ⟨J,aa⟩:=List.of_mem_zip aQ
   have:=Fq (k:=k) (al _ aa) aa aY
   have:=Fh (aw.2.2.2.2.2.2.2.2.2.2.2.2 (by assumption)) J
   simp only [List.length_append,List.length_cons,List.length_nil];omega
 · obtain ⟨x,an,rfl⟩:=List.mem_map.1 aq
   have:=Fq (k:=k) (al _ an) an aY
   omega
set_option maxHeartbeats 4000000 in
theorem UU (k:Nat) (e:au) (aO:∀x:au,cZ x<k→iE x→cZ x≤60→∀(m:ae) (K:ab→ae→Prop),K (.str (bz k x)) m→bh Tryz.prog 15 [bU x] m K) (aY:cZ e<k+1) (aZ:iE e) (Ln:cZ e≤60) (m:ae) (K:ab→ae→Prop) (U:K (.str (bz (k+1) e)) m):bh Tryz.prog 15 [bU e] m K:=by
 obtain ⟨aM,l6⟩:=Bk aZ
 obtain ⟨l5,yH,yI,sj,yJ,hK,gv,Uz,s2,j5,qN,Bo,m9⟩:=Bn aM
 have Bp:=UQ (k:=k) sj
 have p4:=UT (k:=k) aZ Ln
 have fx:=US e.a
 have Yb:=tz e
 refine enter (c:=cT [] [0] [] [] [] []) (vs:=[.aI (bU e)]) (L:=[]) (m:=m) false b2 Tryz.mixed Tryz.func15 rfl (k:=1) (by show cO [] _ _ _=true;decide+kernel) rfl (Good.nil m) ?_
 refine ⟨fun bJ=>?_⟩
 have kq:e.v.s.length≤140737488355328:=(bJ 0 3 (Nat.le_of_ble_eq_true rfl))
 have mC:e.v.l.length≤140737488355328:=dr (bJ 0 4 (Nat.le_of_ble_eq_true rfl))
 have wu:e.v.f.length≤140737488355328:=dr (bJ 0 5 (Nat.le_of_ble_eq_true rfl))
 have wv:e.s.length≤140737488355328:=(bJ 0 6 (Nat.le_of_ble_eq_true rfl))
 have wx:e.t.length≤140737488355328:=(bJ 0 7 (Nat.le_of_ble_eq_true rfl))
 have wy:e.a.length≤140737488355328:=dr (bJ 0 8 (Nat.le_of_ble_eq_true rfl))
 have wz:e.n.length≤140737488355328:=dr (bJ 0 9 (Nat.le_of_ble_eq_true rfl))
 refine aB ?_
 refine cH (σ:=(List (List UInt8))×Int) [] [1,3,4] 1 (fun ⟨dJ,i⟩=>([(1, .loc 0 0),(3, .own (dJ.map cm)),(4,ax i)],[.cells [ax e.kind,ax e.v.kind,ax e.v.n,ay e.v.s,aH (e.v.l.map cn),aH (e.v.f.map cB),ay e.s,ay e.t,aH (e.a.map bY),aH (e.n.map cm)]],m)) (fun ⟨dJ,i⟩=>0≤i∧i≤e.a.length∧dJ=(oz k e).take i.toNat) (fun ⟨dJ,i⟩=>e.a.length- i.toNat) ([],0) ⟨rfl,rfl⟩ ?_ ?_
 · try dsimp only
   exact ⟨by omega,by omega,by simp⟩
 rintro ⟨dJ,i⟩ aE
 dsimp only at aE
 have oi:(dJ.length:Int)=i:=by rw [aE.2.2,List.length_take];omega
 refine aB ?_
 refine bN ?_
 refine ag (fun J=>?_) (fun J=>?_)
 · have Yc:=Fq (k:=k) (l6 _ (bF aE.1 J)) (bF aE.1 J) Ln
   refine aB ?_
   refine fc bU cy (by omega) ?_
   refine cG (fun _=>aO (I e.a i) (by have:=iq (bF (l:=e.a) (i:=i) aE.1 (by assumption));omega) (l6 _ (bF aE.1 (by assumption))) (by have:=iq (bF (l:=e.a) (i:=i) aE.1 (by assumption));omega)) rfl ?_
   refine aB ?_
   refine ag (fun aa=>?_) (fun aa=>?_)
   · have K8:=sj aa
     have mq:=Fh (m9 aa) (bF (l:=e.n) aE.1 (by omega))
     refine cX (by omega) ?_
     refine ag (by (first|omega|(simp only [List.length_append,List.length_cons,List.length_nil];omega))) ?_
     refine ag (by (first|omega|(simp only [List.length_append,List.length_cons,List.length_nil];omega))) ?_
     refine ap cm dJ ([((I e.n i)++([58,32]:List UInt8))++(bz k (I e.a i))]:List (List UInt8)) rfl rfl (fun _=>⟨rfl,rfl⟩) (by (simp only [List.length_append,List.length_cons,List.length_nil];omega)) ?_
     refine ag (by omega) ?_
     refine ⟨(dJ++([((I e.n i)++([58,32]:List UInt8))++(bz k (I e.a i))]:List (List UInt8)),i+1),⟨rfl,rfl⟩,?_,?_⟩
     · try dsimp only
       exact ⟨by omega,by omega,by rw [iM aE.1 (by omega),←aE.2.2,UR aa K8 aE.1 J]⟩
     try dsimp only
     omega
   refine ap cm dJ ([bz k (I e.a i)]:List (List UInt8)) rfl rfl (fun _=>⟨rfl,rfl⟩) (by (simp only [List.length_append,List.length_cons,List.length_nil];omega)) ?_
   refine ag (by omega) ?_
   refine ⟨(dJ++([bz k (I e.a i)]:List (List UInt8)),i+1),⟨rfl,rfl⟩,?_,?_⟩
   · try dsimp only
     exact ⟨by omega,by omega,by rw [iM aE.1 (by omega),←aE.2.2,q1 aa aE.1 J]⟩
   try dsimp only
   omega
 have jS:dJ=oz k e:=by have:=aE.2.2;rwa [iN (by omega)] at this
 have Yd:=Lm (g:=id) (c:=1300000) dJ true (by rw [jS];exact p4)
 refine aB ?_
 refine cH (σ:=(List UInt8)×Int) [] [1,3,6,7] 1 (fun ⟨cR,j⟩=>([(1, .loc 0 0),(3, .own (dJ.map cm)),(6,ay cR),(7,ax j)],[.cells [ax e.kind,ax e.v.kind,ax e.v.n,ay e.v.s,aH (e.v.l.map cn),aH (e.v.f.map cB),ay e.s,ay e.t,aH (e.a.map bY),aH (e.n.map cm)]],m)) (fun ⟨cR,j⟩=>0≤j∧j≤dJ.length∧eo id dJ true=cR++eo id (dJ.drop j.toNat) (j==0)) (fun ⟨cR,j⟩=>dJ.length- j.toNat) ([],0) ⟨rfl,rfl⟩ ?_ ?_
 · try dsimp only
   exact ⟨by omega,by omega,rfl⟩
 rintro ⟨cR,j⟩ bK
 dsimp only at bK
 have rE:=congrArg List.length bK.2.2
 simp only [List.length_append] at rE
 refine aB ?_
 refine bN ?_
 refine ag (fun aj=>?_) (fun aj=>?_)
 · have Ye:(I dJ j).length≤1300000:=by rw [jS];exact p4 _ (bF bK.1 (by omega))
   refine aB ?_
   refine aB ?_
   refine ag (fun aG=>?_) (fun aG=>?_)
   · have b4:=tr (g:=id) (l:=dJ) bK.1 aj aG
     refine ag (by (first|omega|(simp only [List.length_append,List.length_cons,List.length_nil];omega))) ?_
     refine cX (by omega) ?_
     refine ag (by (first|omega|(simp only [List.length_append,List.length_cons,List.length_nil];omega))) ?_
     refine ag (by omega) ?_
     refine ⟨((cR++([44,32]:List UInt8))++(I dJ j),j+1),⟨rfl,rfl⟩,?_,?_⟩
     · try dsimp only
       exact ⟨by omega,by omega,by rw [bK.2.2,b4];simp only [List.append_assoc,List.nil_append,id]⟩
     try dsimp only
     omega
   have b4:=tq (g:=id) (l:=dJ) bK.1 aj aG
   refine cX (by omega) ?_
   refine ag (by (first|omega|(simp only [List.length_append,List.length_cons,List.length_nil];omega))) ?_
   refine ag (by omega) ?_
   refine ⟨(cR++(I dJ j),j+1),⟨rfl,rfl⟩,?_,?_⟩
   · try dsimp only
     exact ⟨by omega,by omega,by rw [bK.2.2,b4];simp only [List.append_assoc,List.nil_append,id]⟩
   try dsimp only
   omega
 have Fs:cR=eo id dJ true:=by have:=bK.2.2;rw [ts (by omega),List.append_nil] at this;exact this.symm
 have Yf:=congrArg List.length Fs
 refine aB ?_
 refine ag (fun aR=>?_) (fun aR=>?_)
 · have:=kd (s2 aR)
   refine ag (by (first|omega|(simp only [List.length_append,List.length_cons,List.length_nil];omega))) ?_
   refine bn rfl fun _=>?_
   show K (.str (([105,110,46]:List UInt8)++e.s)) m
   have an:bz (k+1) e=[105,110,46]++e.s:=by rw [iQ,if_neg (by omega),if_pos (by omega)]
   rw [an] at U
   exact U
 refine ag (fun bu=>?_) (fun bu=>?_)
 · have:=kd (j5 bu).1
   have:=kd (j5 bu).2
   refine ag (by (first|omega|(simp only [List.length_append,List.length_cons,List.length_nil];omega))) ?_
   refine ag (by (first|omega|(simp only [List.length_append,List.length_cons,List.length_nil];omega))) ?_
   refine ag (by (first|omega|(simp only [List.length_append,List.length_cons,List.length_nil];omega))) ?_
   refine bn rfl fun _=>?_
   show K (.str (((([114,101,115,46]:List UInt8)++e.s)++([46]:List UInt8))++e.t)) m
   have an:bz (k+1) e=[114,101,115,46]++e.s++[46]++e.t:=by rw [iQ,if_neg (by omega),if_neg (by omega),if_pos (by omega)]
   rw [an] at U
   exact U
 refine ag (fun cD=>?_) (fun cD=>?_)
 · have:=kd (qN cD).1
   have:=kd (qN cD).2
   refine ag (by (first|omega|(simp only [List.length_append,List.length_cons,List.length_nil];omega))) ?_
   refine ag (by (first|omega|(simp only [List.length_append,List.length_cons,List.length_nil];omega))) ?_
   refine ag (by (first|omega|(simp only [List.length_append,List.length_cons,List.length_nil];omega))) ?_
   refine bn rfl fun _=>?_
   show K (.str (((([115,116,97,99,107,46]:List UInt8)++e.s)++([46]:List UInt8))++e.t)) m
   have an:bz (k+1) e=[115,116,97,99,107,46]++e.s++[46]++e.t:=by rw [iQ,if_neg (by omega),if_neg (by omega),if_neg (by omega),if_pos (by omega)]
   rw [an] at U
   exact U
 refine ag (fun cK=>?_) (fun cK=>?_)
 · have ui:=l5 cK
   have g0:I dJ 0=bz k (I e.a 0):=by rw [jS];exact q1 (by omega) (by omega) (by omega)
   have b0:(I dJ 0).length≤1300000:=by rw [jS];exact p4 _ (bF (by omega) (by omega))
   have g1:I dJ 1=bz k (I e.a 1):=by rw [jS];exact q1 (by omega) (by omega) (by omega)
   have hW:(I dJ 1).length≤1300000:=by rw [jS];exact p4 _ (bF (by omega) (by omega))
   refine cX (by omega) ?_
   refine ag (by (first|omega|(simp only [List.length_append,List.length_cons,List.length_nil];omega))) ?_
   refine ag (by (first|omega|(simp only [List.length_append,List.length_cons,List.length_nil];omega))) ?_
   refine cX (by omega) ?_
   refine ag (by (first|omega|(simp only [List.length_append,List.length_cons,List.length_nil];omega))) ?_
   refine ag (by (first|omega|(simp only [List.length_append,List.length_cons,List.length_nil];omega))) ?_
   refine bn rfl fun _=>?_
   show K (.str ((((([40]:List UInt8)++(I dJ 0))++([32,43,32]:List UInt8))++(I dJ 1))++([41]:List UInt8))) m
   have an:bz (k+1) e=[40]++bz k (I e.a 0)++hB e.kind++bz k (I e.a 1)++[41]:=by rw [iQ,if_neg (by omega),if_neg (by omega),if_neg (by omega),if_neg (by omega),if_pos (by omega)]
   have aL:hB e.kind=[32,43,32]:=by rw [cK];exact K3
   rw [an,aL] at U
   rw [g0,g1]
   exact U
 refine ag (fun cC=>?_) (fun cC=>?_)
 · have ui:=yH cC
   have g0:I dJ 0=bz k (I e.a 0):=by rw [jS];exact q1 (by omega) (by omega) (by omega)
   have b0:(I dJ 0).length≤1300000:=by rw [jS];exact p4 _ (bF (by omega) (by omega))
   have g1:I dJ 1=bz k (I e.a 1):=by rw [jS];exact q1 (by omega) (by omega) (by omega)
   have hW:(I dJ 1).length≤1300000:=by rw [jS];exact p4 _ (bF (by omega) (by omega))
   refine cX (by omega) ?_
   refine ag (by (first|omega|(simp only [List.length_append,List.length_cons,List.length_nil];omega))) ?_
   refine ag (by (first|omega|(simp only [List.length_append,List.length_cons,List.length_nil];omega))) ?_
   refine cX (by omega) ?_
   refine ag (by (first|omega|(simp only [List.length_append,List.length_cons,List.length_nil];omega))) ?_
   refine ag (by (first|omega|(simp only [List.length_append,List.length_cons,List.length_nil];omega))) ?_
   refine bn rfl fun _=>?_
   show K (.str ((((([40]:List UInt8)++(I dJ 0))++([32,61,61,32]:List UInt8))++(I dJ 1))++([41]:List UInt8))) m
   have an:bz (k+1) e=[40]++bz k (I e.a 0)++hB e.kind++bz k (I e.a 1)++[41]:=by rw [iQ,if_neg (by omega),if_neg (by omega),if_neg (by omega),if_neg (by omega),if_pos (by omega)]
   have aL:hB e.kind=[32,61,61,32]:=by rw [cC];exact Uv
   rw [an,aL] at U
   rw [g0,g1]
   exact U
 refine ag (fun eg=>?_) (fun eg=>?_)
 · have ui:=yI eg
   have g0:I dJ 0=bz k (I e.a 0):=by rw [jS];exact q1 (by omega) (by omega) (by omega)
   have b0:(I dJ 0).length≤1300000:=by rw [jS];exact p4 _ (bF (by omega) (by omega))
   have g1:I dJ 1=bz k (I e.a 1):=by rw [jS];exact q1 (by omega) (by omega) (by omega)
   have hW:(I dJ 1).length≤1300000:=by rw [jS];exact p4 _ (bF (by omega) (by omega))
   have g2:I dJ 2=bz k (I e.a 2):=by rw [jS];exact q1 (by omega) (by omega) (by omega)
   have j1:(I dJ 2).length≤1300000:=by rw [jS];exact p4 _ (bF (by omega) (by omega))
   refine cX (by omega) ?_
   refine ag (by (first|omega|(simp only [List.length_append,List.length_cons,List.length_nil];omega))) ?_
   refine ag (by (first|omega|(simp only [List.length_append,List.length_cons,List.length_nil];omega))) ?_
   refine cX (by omega) ?_
   refine ag (by (first|omega|(simp only [List.length_append,List.length_cons,List.length_nil];omega))) ?_
   refine ag (by (first|omega|(simp only [List.length_append,List.length_cons,List.length_nil];omega))) ?_
   refine cX (by omega) ?_
   refine ag (by (first|omega|(simp only [List.length_append,List.length_cons,List.length_nil];omega))) ?_
   refine ag (by (first|omega|(simp only [List.length_append,List.length_cons,List.length_nil];omega))) ?_
   refine bn rfl fun _=>?_
   show K (.str ((((((([40]:List UInt8)++(I dJ 0))++([32,63,32]:List UInt8))++(I dJ 1))++([32,58,32]:List UInt8))++(I dJ 2))++([41]:List UInt8))) m
   have an:bz (k+1) e=[40]++bz k (I e.a 0)++[32,63,32]++bz k (I e.a 1)++[32,58,32]++bz k (I e.a 2)++[41]:=by rw [iQ,if_neg (by omega),if_neg (by omega),if_neg (by omega),if_neg (by omega),if_neg (by omega),if_pos (by omega)]
   rw [an] at U
   rw [g0,g1,g2]
   exact U
 refine ag (fun fJ=>?_) (fun fJ=>?_)
 · refine ag (by (first|omega|(simp only [List.length_append,List.length_cons,List.length_nil];omega))) ?_
   refine ag (by (first|omega|(simp only [List.length_append,List.length_cons,List.length_nil];omega))) ?_
   refine bn rfl fun _=>?_
   show K (.str ((([91]:List UInt8)++cR)++([93]:List UInt8))) m
   have an:bz (k+1) e=[91]++eo (bz k) e.a true++[93]:=by rw [iQ,if_neg (by omega),if_neg (by omega),if_neg (by omega),if_neg (by omega),if_neg (by omega),if_neg (by omega),if_pos (by omega)]
   have q:cR=eo (bz k) e.a true:=by rw [Fs,jS,oz,if_neg (by omega),Fp];rfl
   rw [an,←q] at U
   exact U
 refine ag (fun fL=>?_) (fun fL=>?_)
 · refine ag (by (first|omega|(simp only [List.length_append,List.length_cons,List.length_nil];omega))) ?_
   refine ag (by (first|omega|(simp only [List.length_append,List.length_cons,List.length_nil];omega))) ?_
   refine bn rfl fun _=>?_
   show K (.str ((([123]:List UInt8)++cR)++([125]:List UInt8))) m
   have an:bz (k+1) e=[123]++eo (fun p:ar×au=>p.1++[58,32]++bz k p.2) (e.n.zip e.a) true++[125]:=by rw [iQ,if_neg (by omega),if_neg (by omega),if_neg (by omega),if_neg (by omega),if_neg (by omega),if_neg (by omega),if_neg (by omega),if_pos (by omega)]
   have q:cR=eo (fun p:ar×au=>p.1++[58,32]++bz k p.2) (e.n.zip e.a) true:=by rw [Fs,jS,oz,if_pos fL,Fp];rfl
   rw [an,←q] at U
   exact U
 refine ag (fun hs=>?_) (fun hs=>?_)
 · have ui:=yJ hs
   have g0:I dJ 0=bz k (I e.a 0):=by rw [jS];exact q1 (by omega) (by omega) (by omega)
   have b0:(I dJ 0).length≤1300000:=by rw [jS];exact p4 _ (bF (by omega) (by omega))
   have:=kd (Bo hs)
   refine cX (by omega) ?_
   refine ag (by (first|omega|(simp only [List.length_append,List.length_cons,List.length_nil];omega))) ?_
   refine ag (by (first|omega|(simp only [List.length_append,List.length_cons,List.length_nil];omega))) ?_
   refine ag (by (first|omega|(simp only [List.length_append,List.length_cons,List.length_nil];omega))) ?_
   refine bn rfl fun _=>?_
   show K (.str (((([103,101,116,32]:List UInt8)++(I dJ 0))++([32]:List UInt8))++e.s)) m
   have an:bz (k+1) e=[103,101,116,32]++bz k (I e.a 0)++[32]++e.s:=by rw [iQ,if_neg (by omega),if_neg (by omega),if_neg (by omega),if_neg (by omega),if_neg (by omega),if_neg (by omega),if_neg (by omega),if_neg (by omega),if_pos (by omega)]
   rw [an] at U
   rw [g0]
   exact U
 refine cG (fun _=>EC (bI e.v+1) e.v (Nat.lt_succ_self _) (yr (hK (by omega))).1 (by have:=vy (v:=e.v) (hK (by omega));unfold h6 at this;omega)) rfl ?_
 refine bn rfl fun _=>?_
 show K (.str (h6 e.v)) m
 have an:bz (k+1) e=h6 e.v:=by rw [iQ,if_pos (by omega)]
 rw [an] at U
 exact U
theorem Lo:∀(k:Nat) (e:au),cZ e<k→iE e→cZ e≤60→∀(m:ae) (K:ab→ae→Prop),K (.str (bz k e)) m→bh Tryz.prog 15 [bU e] m K
 |0,_,h=>absurd h (Nat.not_lt_zero _)
 |k+1,e,h=>fun aZ bu m K U=>UU k e (Lo k) h aZ bu m K U
theorem Ft (e:au) (h:ew e=0) (m:ae) (K:ab→ae→Prop) (U:K (.str (iu e)) m):bh Tryz.prog 15 [bU e] m K:=
 Lo (cZ e+1) e (Nat.lt_succ_self _) (sk h).1 (K2 h) m K U
end Go.Proofs
end
section
namespace Go.Proofs
open Go Go.bg Go.cz
set_option maxRecDepth 100000
def q2:ar:=[40,105,110,46,97,32,43,32,55,41]
def Fu:List Tok:=[(4,0,[40]),(1,1,[105,110]),(4,3,[46]),(1,4,[97]),(4,6,[43]),(2,8,[55]),(4,9,[41])]
def yM:au:= .mk 2 dB [97] [] [] []
def ti:au:= .mk 1 (.mk 1 7 [] [] []) [] [] [] []
def bM:au:= .mk 5 dB [] [] [yM,ti] []
theorem UW:c7 q2=(Fu,0,0):=by decide+kernel
theorem UX:cr Fu 10 6 0= .ok bM 7:=by kernel_rfl
theorem UY:iE bM:=by
 have J:gp bM:= .inr ⟨rfl, .inr (.inr (.inl ⟨.inl rfl,rfl,rfl,rfl,rfl⟩))⟩
 have aa:gp yM:= .inr ⟨rfl, .inl ⟨rfl,by decide+kernel,rfl,rfl,rfl⟩⟩
 have aj:gp ti:= .inl ⟨rfl,rfl,rfl,⟨by decide,by decide+kernel⟩,rfl,rfl⟩
 refine (p2 bM).2 ⟨J,?_⟩
 show ic [yM,ti]
 simp only [ic,p2]
 refine ⟨⟨aa,?_⟩,⟨aj,?_⟩,trivial⟩
 · show ic [];simp only [ic]
 · show ic [];simp only [ic]
theorem Lp:ew bM=0:=by
 rw [Bm ⟨by decide+kernel,by decide+kernel⟩];exact Fc UY
theorem UZ:oy q2=(bM,0,0):=by
 have hw:gD Fu 10 0= .ok bM 7:=by
  rw [gD,UX,bP.bind,if_pos (show (bP.ok bM 7).f=0 from rfl)]
  show (if ew bM=0 then _ else _)=_
  rw [if_pos Lp];rfl
 rw [oy,UW]
 show (if (0:Int)=0 then _ else _)=_
 rw [if_pos rfl,show ((q2.length:Nat):Int)=10 from rfl]
 dsimp only
 rw [hw]
 rfl
theorem U0:iu bM=q2:=by
 have i7:Lib.itoa 7=[55]:=by
  rw [Lib.itoa,if_neg (by decide),show (7:Int).toNat=7 from rfl,Lib.decDigits_one (by decide)];rfl
 have bw:h6 (.mk 1 7 [] [] [])=[55]:=by rw [h6,lW,if_neg (by decide),if_pos (by decide)];exact i7
 have aY:cZ bM=3:=by decide+kernel
 have J:bz 3 yM=[105,110,46,97]:=by rw [iQ,if_neg (by decide),if_pos (by decide)];rfl
 have aa:bz 3 ti=[55]:=by rw [iQ,if_pos (by decide)];exact bw
 rw [iu,aY,iQ,if_neg (by decide),if_neg (by decide),if_neg (by decide),if_neg (by decide),if_pos (by decide)]
 show [40]++bz 3 yM++hB 5++bz 3 ti++[41]=_
 rw [J,aa,K3];rfl
theorem yN (e:au):kZ e e=true:=Fo rfl
set_option maxHeartbeats 4000000 in
theorem U1 (e:au) (cd:Int) (aO:∀x:au,cZ x<cZ e→∀(m:ae) (K:ab→ae→Prop),K (.int .i64 (ot cd x)) m→bh Tryz.prog 54 [bU x, .int .i64 cd] m K) (m:ae) (K:ab→ae→Prop) (U:K (.int .i64 (ot cd e)) m):bh Tryz.prog 54 [bU e, .int .i64 cd] m K:=by
 refine enter (c:=cT [20,24,44,65] [0] [3,7] [] [] []) (vs:=[.aI (bU e), .aI (.int .i64 cd)]) (L:=[]) (m:=m) false b2 Tryz.mixed Tryz.func54 rfl (k:=2) (by show cO [] _ _ _=true;decide+kernel) rfl (Good.nil m) ?_
 refine ⟨fun bJ=>?_⟩
 have kq:e.v.s.length≤140737488355328:=(bJ 0 3 (Nat.le_of_ble_eq_true rfl))
 have mC:e.v.l.length≤140737488355328:=dr (bJ 0 4 (Nat.le_of_ble_eq_true rfl))
 have wu:e.v.f.length≤140737488355328:=dr (bJ 0 5 (Nat.le_of_ble_eq_true rfl))
 have wv:e.s.length≤140737488355328:=(bJ 0 6 (Nat.le_of_ble_eq_true rfl))
 have wx:e.t.length≤140737488355328:=(bJ 0 7 (Nat.le_of_ble_eq_true rfl))
 have wy:e.a.length≤140737488355328:=dr (bJ 0 8 (Nat.le_of_ble_eq_true rfl))
 have wz:e.n.length≤140737488355328:=dr (bJ 0 9 (Nat.le_of_ble_eq_true rfl))
 refine ag (by omega) ?_
 refine ag (by omega) ?_
 refine gN (fun _=>Ek cd (bI e.v+1) e.v (Nat.lt_succ_self _)) ?_
 refine bN ?_
 refine aB ?_
 refine cH (σ:=Int×Int) [] [1,2,5,6] 1 (fun ⟨eX,i⟩=>([(1,ax cd),(2, .loc 0 0),(5,ax eX),(6,ax i)],[.cells [ax e.kind,ax e.v.kind,ax e.v.n,ay e.v.s,aH (e.v.l.map cn),aH (e.v.f.map cB),ay e.s,ay e.t,aH (e.a.map bY),aH (e.n.map cm)]],m)) (fun ⟨eX,i⟩=>0≤i∧i≤e.n.length∧nH cd e.n (EL cd e)=nH cd (e.n.drop i.toNat) eX) (fun ⟨eX,i⟩=>e.n.length- i.toNat) (IntKind.i64.wrap ((IntKind.i64.wrap (((1+(e.s.length:Int))+(e.t.length:Int))+(lo cd e.v)))+(e.n.length:Int)),0) ⟨rfl,rfl⟩ ?_ ?_
 · try dsimp only
   exact ⟨by omega,by omega,rfl⟩
 rintro ⟨eX,i⟩ aE
 dsimp only at aE
 refine aB ?_
 refine cf [1,2,5,6] 34 ((decide (i<(e.n.length:Int)))&&(decide (eX≤cd))) ?_ ?_
 · repeat' first
    |exact ⟨⟨_,rfl,by grind [bD.val]⟩,rfl⟩
    |refine ag (fun _=>?_) (fun _=>?_)
    |refine bN ?_
 refine ag (fun J=>?_) (fun J=>?_)
 · replace J:(i<(e.n.length:Int))∧(eX≤cd):=⟨(of_decide_eq_true (dH J)),(of_decide_eq_true (eA J))⟩
   refine aB ?_
   refine cX (by omega) ?_
   refine ag (by omega) ?_
   refine ⟨(IntKind.i64.wrap (eX+((I e.n i).length:Int)),i+1),⟨rfl,rfl⟩,?_,?_⟩
   · try dsimp only
     exact ⟨by omega,by omega,by rw [aE.2.2,Ts aE.1 J.1 J.2]⟩
   try dsimp only
   omega
 replace J:((e.n.length:Int)≤i)∨(cd<eX):=((eB J).imp (fun q=>(Int.not_lt.1 (of_decide_eq_false q))) (fun q=>(Int.not_le.1 (of_decide_eq_false q))))
 refine aB ?_
 refine cH (σ:=Int×Int) [] [1,2,5,7] 1 (fun ⟨fw,k⟩=>([(1,ax cd),(2, .loc 0 0),(5,ax fw),(7,ax k)],[.cells [ax e.kind,ax e.v.kind,ax e.v.n,ay e.v.s,aH (e.v.l.map cn),aH (e.v.f.map cB),ay e.s,ay e.t,aH (e.a.map bY),aH (e.n.map cm)]],m)) (fun ⟨fw,k⟩=>0≤k∧k≤e.a.length∧ot cd e=pc cd (e.a.drop k.toNat) fw) (fun ⟨fw,k⟩=>e.a.length- k.toNat) (eX,0) ⟨rfl,rfl⟩ ?_ ?_
 · try dsimp only
   refine ⟨by omega,by omega,?_⟩
   have q:nH cd (e.n.drop i.toNat) eX=eX:=by
    by_cases aM:cd<eX
    · exact Tr _ _ _ aM
    · have ad:(e.n.length:Int)≤i:=by
       rcases J with h|h<;>omega
      rw [List.drop_eq_nil_of_le (by omega)];simp only [nH]
   rw [Tp,aE.2.2,q];rfl
 rintro ⟨fw,k⟩ bK
 dsimp only at bK
 refine aB ?_
 refine cf [1,2,5,7] 54 ((decide (k<(e.a.length:Int)))&&(decide (fw≤cd))) ?_ ?_
 · repeat' first
    |exact ⟨⟨_,rfl,by grind [bD.val]⟩,rfl⟩
    |refine ag (fun _=>?_) (fun _=>?_)
    |refine bN ?_
 refine ag (fun aa=>?_) (fun aa=>?_)
 · replace aa:(k<(e.a.length:Int))∧(fw≤cd):=⟨(of_decide_eq_true (dH aa)),(of_decide_eq_true (eA aa))⟩
   refine aB ?_
   refine fc bU cy (by omega) ?_
   refine cG (fun _=>aO (I e.a k) (iq (bF bK.1 aa.1))) rfl ?_
   refine ag (by omega) ?_
   refine ⟨(IntKind.i64.wrap (fw+(ot cd (I e.a k))),k+1),⟨rfl,rfl⟩,?_,?_⟩
   · try dsimp only
     exact ⟨by omega,by omega,by rw [bK.2.2,Tt bK.1 aa.1 aa.2]⟩
   try dsimp only
   omega
 replace aa:((e.a.length:Int)≤k)∨(cd<fw):=((eB aa).imp (fun q=>(Int.not_lt.1 (of_decide_eq_false q))) (fun q=>(Int.not_le.1 (of_decide_eq_false q))))
 refine bn rfl fun _=>?_
 show K (.int .i64 fw) m
 have q:ot cd e=fw:=by
  rw [bK.2.2]
  by_cases aM:cd<fw
  · exact Tq _ _ _ aM
  · have ad:(e.a.length:Int)≤k:=by
     rcases aa with h|h<;>omega
    rw [List.drop_eq_nil_of_le (by omega)];simp only [pc]
 rw [q] at U;exact U
theorem Fv (cd:Int):∀(n:Nat) (e:au),cZ e<n→∀(m:ae) (K:ab→ae→Prop),K (.int .i64 (ot cd e)) m→bh Tryz.prog 54 [bU e, .int .i64 cd] m K
 |0,_,h=>absurd h (Nat.not_lt_zero _)
 |n+1,e,h=>fun m K U=>U1 e cd (fun x an=>Fv cd n x (by omega)) m K U
set_option maxHeartbeats 1000000 in
theorem U2 (m:ae) (K:ab→ae→Prop) (aP:cW m) (U:K (.bool true) m):bh Tryz.prog 9 [] m K:=by
 refine enter (c:=cT [] [] [3] [] [] []) (vs:=[]) (L:=[]) (m:=m) false b2 Tryz.mixed Tryz.func9 rfl (k:=0) (by show cO [] _ _ _=true;decide+kernel) rfl (Good.nil m) ?_
 refine hG [] [] (.aI (.tuple [bU bM, .int .i64 0, .err 115 0])) rfl (fun bs ai gd aq=>fun K U=>UK q2 (by decide) ai (cW.up aq aP) K (by rw [UZ];exact U)) ?_
 refine hG [] [] (.aI (.tuple [.str q2, .err 115 0])) rfl (fun bs ai gd aq=>fun K U=>UG bM ai K (cW.up aq aP) (by rw [Lp,if_pos rfl,U0];exact U)) ?_
 refine cf [] 0 ((((((0:Int)==0)&&((0:Int)==0))&&(0==0))&&(q2==([40,105,110,46,97,32,43,32,55,41]:List UInt8)))&&(bM.kind==5)) ?_ ?_
 · repeat' first
    |exact ⟨⟨_,rfl,by grind [bD.val,bM,q2]⟩,rfl⟩
    |refine ag (fun _=>?_) (fun _=>?_)
    |refine cG (fun _=>AR 0 0 (by decide)) rfl ?_
 refine bn rfl fun _=>?_
 show K (.bool ((((((0:Int)==0)&&((0:Int)==0))&&(0==0))&&(q2==([40,105,110,46,97,32,43,32,55,41]:List UInt8)))&&(bM.kind==5))) m
 exact U
end Go.Proofs
end
section
namespace Go.Proofs
open Go Go.bg
set_option maxRecDepth 100000
def U3 (n:Int) (l:List Int):Bool:=l.all fun k=>decide (0≤k)&&decide (k<n)
def wE (bG:List (List Int)):Bool:=bG.all (U3 bG.length)
end Go.Proofs
end
section
namespace Go.Proofs
open Go Go.bg
set_option maxRecDepth 100000
def jE (bG:List (List Int)) (cc:List Int) (i:Int):Bool:=(I cc i==0)&&(I bG i).all fun k=>decide (0<I cc k)
def upto (k:Int):List Int:=(List.range k.toNat).map fun i:Nat=>(i:Int)
def nT (bG:List (List Int)) (cc:List Int) (k:Int):List Int:=(upto k).filter (jE bG cc)
def q3 (cc q4:List Int) (v:Int):List Int:=q4.foldl (fun l k=>l.set k.toNat v) cc
theorem U4 {k:Int} (h:0≤k):upto (k+1)=upto k++[k]:=by
 have e:(k+1).toNat=k.toNat+1:=by omega
 simp [upto,e,List.range_succ];omega
theorem U5 (q4:List Int) (v:Int):∀cc:List Int,(q3 cc q4 v).length=cc.length:=by
 induction q4 with
 |nil=>intro cc;rfl
 |cons x w aO=>intro cc;simp only [q3,List.foldl_cons] at aO ⊢;rw [aO];simp
end Go.Proofs
end
section
namespace Go.Proofs
open Go Go.bg
set_option maxRecDepth 100000
inductive Fw (f:Int→List Int) (l:List Int):Int→Prop
 |here {x:Int} (h:x∈l):Fw f l x
 |step {x y:Int} (h:Fw f l x) (aK:y∈f x):Fw f l y
theorem Lq {α:Type} [Inhabited α] {l:List α} {x y:Int} {v:α} (aJ:0≤x) (J:x<l.length) (aa:0≤y):I (l.set x.toNat v) y=if y=x then v else I l y:=by
 have an:x.toNat<l.length:=by omega
 simp only [I,List.getD_eq_getElem?_getD,List.getElem?_set]
 by_cases h:y=x
 · subst h;simp [an]
 · have:x.toNat≠y.toNat:=by omega
   simp [h,this]
theorem sl {k x:Int}:x∈upto k↔0≤x∧x<k:=by
 simp only [upto,List.mem_map,List.mem_range]
 exact ⟨fun ⟨i,ad,e⟩=>by omega,fun h=>⟨x.toNat,by omega,by omega⟩⟩
end Go.Proofs
end
section
namespace Go.Proofs
open Go Go.bg
set_option maxRecDepth 100000
def es (s:List Bool) (e:Int×Int):List Bool:=if I s e.1=true then s.set e.2.toNat true else s
end Go.Proofs
end
section
namespace Go.Proofs
open Go Go.bg
set_option maxRecDepth 100000
def wF (s t:List Bool):Prop:=∀x,0≤x→I s x=true→I t x=true
theorem wF.refl (s:List Bool):wF s s:=fun _ _ h=>h
theorem wF.trans {s t u:List Bool} (h:wF s t) (k:wF t u):wF s u:=fun x aJ an=>k x aJ (h x aJ an)
end Go.Proofs
end
section
namespace Go.Proofs
open Go Go.bg
set_option maxRecDepth 100000
def iF (bG:List (List Int)) (j:Int):Prop:=0≤j∧j<bG.length
def yO (bG:List (List Int)) (D:Int→Int):Prop:=∀j,iF bG j→1≤D j∧D j≤bG.length∧(∀k∈I bG j,D k+1≤D j)∧(D j=1∨∃k∈I bG j,D k+1=D j)
def Lr (bG:List (List Int)) (mX:Int→Prop):Prop:=∀j,mX j→iF bG j∧∃k∈I bG j,mX k
theorem uj {bG:List (List Int)} (h:wE bG=true) {j k:Int} (aD:iF bG j) (al:k∈I bG j):iF bG k:=by
 have:=List.all_eq_true.1 (List.all_eq_true.1 h _ (bF aD.1 aD.2)) k al
 simpa [iF] using this
structure mY (bG:List (List Int)) (cc:List Int) (r i:Int):Prop where
 len:cc.length=bG.length
 pd:∀j,iF bG j→0≤I cc j∧I cc j≤bG.length
 dep:∀D,yO bG D→∀j,iF bG j→I cc j≤D j∧(D j≤I cc j∨(if j<i then r+1 else r)≤I cc j)
 Bq:∀mX,Lr bG mX→∀j,mX j→(if j<i then r+1 else r)≤I cc j
def yP (cc cw:List Int) (up:Int):Prop:=1≤up∧(∀k∈cw,1+I cc k≤up)∧(up=1∨∃k∈cw,up=1+I cc k)
theorem yP.nil (cc:List Int):yP cc [] 1:=⟨by omega,by simp, .inl rfl⟩
theorem mY.Ls {bG:List (List Int)} {cc:List Int} {r i up:Int} (dc:wE bG=true) (h:mY bG cc r i) (ad:iF bG i) (hu:yP cc (I bG i) up) {D:Int→Int} (kT:yO bG D):up≤D i∧(D i≤up∨r+1≤up):=by
 have aY:=kT i ad
 constructor
 · rcases hu.2.2 with e|⟨k,al,e⟩
   · omega
   · have J:=(h.dep D kT k (uj dc ad al)).1
     have aa:=aY.2.2.1 k al
     omega
 · rcases aY.2.2.2 with e|⟨k,al,e⟩
   · left;have:=hu.1;omega
   · have J:=(h.dep D kT k (uj dc ad al)).2
     have aa:=hu.2.1 k al
     rcases J with J|J
     · left;omega
     · right
       have:r≤if k<i then r+1 else r:=by split<;>omega
       omega
theorem mY.step {bG:List (List Int)} {cc:List Int} {r i up:Int} (dc:wE bG=true) (h:mY bG cc r i) (ad:iF bG i) (hu:yP cc (I bG i) up) (aM:up≤bG.length):mY bG (cc.set i.toNat up) r (i+1):=by
 have yk:∀j,iF bG j→I (cc.set i.toNat up) j=if j=i then up else I cc j:=fun j aD=>Lq ad.1 (by rw [h.len];exact ad.2) aD.1
 refine ⟨by simp [h.len],fun j aD=>?_,fun D kT j aD=>?_,fun mX j2 j aD=>?_⟩
 · rw [yk j aD];split
   · have:=hu.1;omega
   · exact h.pd j aD
 · rw [yk j aD]
   by_cases e:j=i
   · subst e
     rw [if_pos rfl,if_pos (by omega)]
     exact h.Ls dc ad hu kT
   · rw [if_neg e]
     have:=h.dep D kT j aD
     have az:(j<i+1)↔(j<i):=by omega
     simp only [az];exact this
 · have kk:=j2 j aD
   rw [yk j kk.1]
   by_cases e:j=i
   · subst e
     rw [if_pos rfl,if_pos (by omega)]
     obtain ⟨k,al,U6⟩:=kk.2
     have J:=h.Bq mX j2 k U6
     have aa:=hu.2.1 k al
     have:r≤if k<j then r+1 else r:=by split<;>omega
     omega
   · rw [if_neg e]
     have:=h.Bq mX j2 j aD
     have az:(j<i+1)↔(j<i):=by omega
     simp only [az];exact this
theorem mY.none {bG:List (List Int)} {cc:List Int} {r i up:Int} (dc:wE bG=true) (h:mY bG cc r i) (ad:iF bG i) (hu:yP cc (I bG i) up) (aM:bG.length<up) (D:Int→Int):¬yO bG D:=fun kT=>by
 have:=(h.Ls dc ad hu kT).1
 have:=(kT i ad).2.1
 omega
theorem mY.round {bG:List (List Int)} {cc:List Int} {r i:Int} (h:mY bG cc r i) (ad:bG.length≤i):mY bG cc (r+1) 0:=by
 refine ⟨h.len,h.pd,fun D kT j aD=>?_,fun mX j2 j aD=>?_⟩
 · have:=h.dep D kT j aD
   have qy:=aD.2
   have qX:=aD.1
   rw [if_pos (by omega)] at this
   rw [if_neg (by omega)];exact this
 · have:=h.Bq mX j2 j aD
   have kk:=(j2 j aD).1
   have qy:=kk.2
   have qX:=kk.1
   rw [if_pos (by omega)] at this
   rw [if_neg (by omega)];exact this
theorem mY.start (bG:List (List Int)):mY bG (List.replicate bG.length 0) 0 0:=by
 have ak:∀j,I (List.replicate bG.length (0:Int)) j=0:=fun j=>by
  simp only [I,List.getD_eq_getElem?_getD,List.getElem?_replicate]
  split<;>rfl
 refine ⟨by simp,fun j _=>?_,fun D kT j aD=>?_,fun mX j2 j aD=>?_⟩
 · rw [ak];omega
 · rw [ak];have:=kT j aD;exact ⟨by omega, .inr (by split<;>first|omega|(have:=aD.1;omega))⟩
 · rw [ak];split
   · have:=(j2 j aD).1.1;omega
   · omega
theorem mY.fin {bG:List (List Int)} {cc:List Int} {r:Int} (h:mY bG cc r 0) (aA:bG.length<r) {D:Int→Int} (kT:yO bG D):∀j,iF bG j→I cc j=D j:=fun j aD=>by
 have J:=h.dep D kT j aD
 have aa:=h.pd j aD
 have aj:=aD.1
 rw [if_neg (by omega)] at J
 omega
theorem U7 {n:Int} {q4:List Int} {v:Int}:∀{cc:List Int},cc.length=n→(∀x∈q4,0≤x∧x<n)→∀j,0≤j→I (q3 cc q4 v) j=if j∈q4 then v else I cc j:=by
 induction q4 with
 |nil=>intro cc _ _ j _;simp [q3]
 |cons a w aO=>
  intro cc av hw j aD
  have e:q3 cc (a::w) v=q3 (cc.set a.toNat v) w v:=rfl
  have aT:=hw a (by simp)
  rw [e,aO (by simpa using av) (fun x an=>hw x (by simp [an])) j aD,Lq aT.1 (by omega) aD]
  by_cases J:j∈w
  · simp [J]
  · by_cases aa:j=a<;>simp [J,aa]
theorem Br {bG:List (List Int)} {cc:List Int} {x:Int}:x∈nT bG cc bG.length↔iF bG x∧jE bG cc x=true:=by
 simp [nT,List.mem_filter,sl,iF]
structure q5 (bG:List (List Int)) (left:Int) (cc:List Int) (out:List (List Int)):Prop where
 len:cc.length=bG.length
 pd:∀j,iF bG j→0≤I cc j∧I cc j≤out.length
 sum:out.length+left≤bG.length
 iw:left=((upto bG.length).filter fun i=>I cc i==0).length
 U8:out=(upto out.length).map fun v=>(upto bG.length).filter fun i=>I cc i==v+1
 U9:∀l∈out,l≠[]
 ba:∀j,iF bG j→0<I cc j→∀k∈I bG j,0<I cc k∧I cc k+1≤I cc j
 ex:∀j,iF bG j→0<I cc j→I cc j=1∨∃k∈I bG j,I cc k+1=I cc j
 kB:∀j,iF bG j→I cc j=0→out.length=0∨∃k∈I bG j,I cc k=0∨I cc k=out.length
theorem Va {α:Type} (l:List α) (p q:α→Bool) (h:∀x∈l,¬(p x=true∧q x=true)):(l.filter fun x=>p x||q x).length=(l.filter p).length+(l.filter q).length:=by
 induction l with
 |nil=>rfl
 |cons a l aO=>
  have:=aO (fun x an=>h x (by simp [an]))
  have aT:=h a (by simp)
  cases aQ:p a<;>cases aU:q a<;>simp_all [List.filter_cons]<;>omega
theorem q5.step {bG:List (List Int)} {left:Int} {cc:List Int} {out:List (List Int)} (dc:wE bG=true) (h:q5 bG left cc out) (fk:¬nT bG cc bG.length=[]):
 q5 bG (left- (nT bG cc bG.length).length) (q3 cc (nT bG cc bG.length) (out.length+1:Nat)) (out++[nT bG cc bG.length]):=by
 have aw:∀j,iF bG j→I (q3 cc (nT bG cc bG.length) (out.length+1:Nat)) j=if jE bG cc j=true then ((out.length+1:Nat):Int) else I cc j:=fun j aD=>by
  rw [U7 (n:=bG.length) (by rw [h.len]) (fun x an=>(Br.1 an).1) j aD.1]
  by_cases aA:jE bG cc j=true
  · rw [if_pos (Br.2 ⟨aD,aA⟩),if_pos aA]
  · rw [if_neg (fun aC=>aA (Br.1 aC).2),if_neg aA]
 have pe:∀j,jE bG cc j=true→I cc j=0∧∀k∈I bG j,0<I cc k:=fun j aA=>by
  simpa [jE] using aA
 have hlen:0<(nT bG cc bG.length).length:=List.length_pos_iff.2 fk
 have Bs:∀k,0<I cc k→¬jE bG cc k=true:=fun k al aA=>by have:=(pe k aA).1;omega
 refine ⟨by rw [U5,h.len],fun j aD=>?_,?_,?_,?_,?_,fun j aD aJ k al=>?_,fun j aD aJ=>?_,fun j aD aJ=>?_⟩
 · rw [aw j aD];have:=h.pd j aD;simp;split<;>omega
 · have:=h.sum;simp;omega
 · have aF:((upto bG.length).filter fun i=>I cc i==0)=(upto bG.length).filter fun i=>(I (q3 cc (nT bG cc bG.length) (out.length+1:Nat)) i==0)||jE bG cc i:=by
    refine List.filter_congr fun i ad=>?_
    have fo:iF bG i:=sl.1 ad
    rw [aw i fo]
    by_cases aA:jE bG cc i=true
    · rw [if_pos aA,aA,(pe i aA).1];simp
    · rw [if_neg aA];simp [aA]
   have az:=h.iw
   rw [aF,Va _ _ _ (fun i ad aC=>by
    have fo:iF bG i:=sl.1 ad
    have J:=aC.1
    rw [aw i fo,if_pos aC.2] at J
    simp at J;omega)] at az
   have cS:nT bG cc bG.length=(upto bG.length).filter (jE bG cc):=rfl
   rw [az,cS];simp
 · have bM:(out++[nT bG cc bG.length]).length=out.length+1:=by simp
   have aF:((out.length+1:Nat):Int)=(out.length:Int)+1:=by omega
   rw [bM,aF,U4 (by omega),List.map_append]
   congr 1
   · conv=>lhs;rw [h.U8]
     refine List.map_congr_left fun v bw=>List.filter_congr fun i ad=>?_
     have fo:iF bG i:=sl.1 ad
     have uM:=sl.1 bw
     rw [←aF,aw i fo]
     by_cases aA:jE bG cc i=true
     · rw [if_pos aA,(pe i aA).1]
       have:¬((0:Int)=v+1):=by omega
       have aa:¬(((out.length+1:Nat):Int)=v+1):=by omega
       rw [beq_eq_false_iff_ne.2 this,beq_eq_false_iff_ne.2 aa]
     · rw [if_neg aA]
   · simp only [List.map_cons,List.map_nil]
     congr 1
     refine List.filter_congr fun i ad=>?_
     have fo:iF bG i:=sl.1 ad
     rw [←aF,aw i fo]
     by_cases aA:jE bG cc i=true
     · rw [if_pos aA,aA];simp
     · rw [if_neg aA]
       have:=h.pd i fo
       have aa:¬(I cc i=((out.length+1:Nat):Int)):=by omega
       simp only [Bool.not_eq_true] at aA
       rw [aA,beq_eq_false_iff_ne.2 aa]
 · intro l av
   rcases List.mem_append.1 av with av|av
   · exact h.U9 l av
   · simp at av;subst av;exact fk
 · have fm:=uj dc aD al
   rw [aw j aD] at aJ ⊢
   rw [aw k fm]
   by_cases aA:jE bG cc j=true
   · have:=(pe j aA).2 k al
     rw [if_pos aA,if_neg (Bs k this)]
     have:=(h.pd k fm).2
     omega
   · rw [if_neg aA] at aJ ⊢
     have:=h.ba j aD aJ k al
     rw [if_neg (Bs k this.1)]
     exact this
 · rw [aw j aD] at aJ ⊢
   by_cases aA:jE bG cc j=true
   · rw [if_pos aA]
     rcases h.kB j aD (pe j aA).1 with e|⟨k,al,e⟩
     · left;omega
     · right
       have:=(pe j aA).2 k al
       refine ⟨k,al,?_⟩
       rw [aw k (uj dc aD al),if_neg (Bs k this)]
       omega
   · rw [if_neg aA] at aJ ⊢
     rcases h.ex j aD aJ with e|⟨k,al,e⟩
     · exact .inl e
     · right
       refine ⟨k,al,?_⟩
       have:=(h.ba j aD aJ k al).1
       rw [aw k (uj dc aD al),if_neg (Bs k this)]
       exact e
 · right
   rw [aw j aD] at aJ
   by_cases aA:jE bG cc j=true
   · rw [if_pos aA] at aJ;omega
   · rw [if_neg aA] at aJ
     have hex:∃k∈I bG j,I cc k≤0:=by
      have jK:jE bG cc j=false:=by simpa using aA
      simp only [jE,aJ,beq_self_eq_true,Bool.true_and] at jK
      obtain ⟨k,al,aj⟩:=List.all_eq_false.1 jK
      exact ⟨k,al,by simpa using aj⟩
     obtain ⟨k,al,aj⟩:=hex
     have fm:=uj dc aD al
     refine ⟨k,al,?_⟩
     rw [aw k fm]
     have:=h.pd k fm
     by_cases vp:jE bG cc k=true
     · rw [if_pos vp];right;simp
     · rw [if_neg vp];left;omega
theorem q5.depth {bG:List (List Int)} {left:Int} {cc:List Int} {out:List (List Int)} (h:q5 bG left cc out) (aJ:left≤0):yO bG (I cc):=by
 have ao:=h.iw
 have ak:∀j,iF bG j→0<I cc j:=fun j aD=>by
  have J:=(h.pd j aD).1
  by_cases e:I cc j=0
  · exfalso
    have hm:j∈(upto bG.length).filter fun i=>I cc i==0:=List.mem_filter.2 ⟨sl.2 aD,by simp [e]⟩
    have av:=List.length_pos_of_mem hm
    omega
  · omega
 intro j aD
 have J:=ak j aD
 have aa:=(h.pd j aD).2
 have aj:=h.sum
 exact ⟨by omega,by omega,fun k al=>(h.ba j aD J k al).2,h.ex j aD J⟩
theorem q5.Bq {bG:List (List Int)} {left:Int} {cc:List Int} {out:List (List Int)} (dc:wE bG=true) (h:q5 bG left cc out) (aJ:0<left) (he:nT bG cc bG.length=[]):∃mX j,Lr bG mX∧mX j:=by
 have ao:=h.iw
 have:((upto bG.length).filter fun i=>I cc i==0)≠[]:=fun e=>by rw [e] at ao;simp at ao;omega
 obtain ⟨j,aD⟩:=List.exists_mem_of_ne_nil _ this
 have kk:=List.mem_filter.1 aD
 refine ⟨fun j=>iF bG j∧I cc j=0,j,fun i ad=>⟨ad.1,?_⟩,sl.1 kk.1,by simpa using kk.2⟩
 have aA:¬jE bG cc i=true:=fun aA=>by
  have:i∈nT bG cc bG.length:=Br.2 ⟨ad.1,aA⟩
  rw [he] at this;cases this
 have jK:jE bG cc i=false:=by simpa using aA
 simp only [jE,ad.2,beq_self_eq_true,Bool.true_and] at jK
 obtain ⟨k,al,aj⟩:=List.all_eq_false.1 jK
 have fm:=uj dc ad.1 al
 have aG:I cc k≤0:=by simpa using aj
 have:=(h.pd k fm).1
 exact ⟨k,al,fm,by omega⟩
theorem q5.start (bG:List (List Int)):q5 bG bG.length (List.replicate bG.length 0) []:=by
 have ak:∀j,I (List.replicate bG.length (0:Int)) j=0:=fun j=>by
  simp only [I,List.getD_eq_getElem?_getD,List.getElem?_replicate]
  split<;>rfl
 refine ⟨by simp,fun j _=>?_,by simp,?_,by simp [upto],by simp,fun j _ h=>?_,fun j _ h=>?_,fun j _ _=> .inl rfl⟩
 · rw [ak];simp
 · have e:((upto bG.length).filter fun i=>I (List.replicate bG.length (0:Int)) i==0)=upto bG.length:=List.filter_eq_self.2 (fun i _=>by rw [ak];rfl)
   rw [e];simp [upto]
 · rw [ak] at h;omega
 · rw [ak] at h;omega
end Go.Proofs
end
section
namespace Go.Proofs
open Go Go.bg Go.cz
set_option maxRecDepth 100000
structure eU where
 kind:ar
 name:ar
 parts:List (ar×au)
instance:Inhabited eU:=⟨⟨[],[],[]⟩⟩
structure dm where
 name:ar
 ins:List (ar×aW)
 res:List eU
 outs:List (ar×au)
instance:Inhabited dm:=⟨⟨[],[],[],[]⟩⟩
def dD (p:ar×aW):ab:= .agg [.str p.1, .int .i64 p.2.kind, .int .i64 p.2.n, .str p.2.s, .slice false (p.2.l.map cn), .slice false (p.2.f.map cB)]
def cQ (p:ar×au):ab:= .agg [.str p.1, .int .i64 p.2.kind, .int .i64 p.2.v.kind, .int .i64 p.2.v.n, .str p.2.v.s, .slice false (p.2.v.l.map cn), .slice false (p.2.v.f.map cB), .str p.2.s, .str p.2.t, .slice false (p.2.a.map bY), .slice false (p.2.n.map cm)]
def dG (r:eU):ab:= .agg [.str r.kind, .str r.name, .slice false (r.parts.map cQ)]
def ey (s:dm):ab:= .agg [.str s.name, .slice false (s.ins.map dD), .slice false (s.res.map dG), .slice false (s.outs.map cQ)]
def Lt:List ar→ar→Int→Int
 |[],_,_=>-1
 |x::r,s,i=>if x=s then i else Lt r s (i+1)
def l8 (l:List ar) (s:ar):Int:=Lt l s 0
end Go.Proofs
end
