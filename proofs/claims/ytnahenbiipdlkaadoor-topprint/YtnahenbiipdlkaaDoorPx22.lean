import Derived.Test.YtnahenbiipdlkaaDoorPx15
import Derived.Test.YtnahenbiipdlkaaDoorSv4
section
namespace Go.Proofs
open Go Go.bb Go.b4
set_option maxRecDepth 100000
theorem Gr:∀(k:Nat) (e:ar),dN e<k→gu e=dN e
 |0,_,h=>absurd h (Nat.not_lt_zero _)
 |k+1,e,h=>by
  have av:∀l:List ar,(∀x∈l,gu x=dN x)→j4 l=iG l:=fun l=>by
   induction l with
   |nil=>intro _;simp [j4,iG]
   |cons a r aO=>
    intro aL
    simp only [j4,iG]
    rw [aL a (List.mem_cons_self ..),aO fun x ao=>aL x (List.mem_cons_of_mem _ ao)];omega
  rw [Gh,xg,av e.a fun x ao=>Gr k x (by have:=jy ao;omega)];omega
theorem Pw {e:ar} (h:dm e=0):dN e≤60:=by
 have:=(sM h).2.1
 have:=Gr _ e (Nat.lt_succ_self _)
 omega
def hl (k:Int):al:=(mz (hH (hH ([]:List (Int×al)) 5 [32,43,32]) 6 [32,61,61,32]) k).getD []
theorem Px:hl 5=[32,43,32]:=by decide+kernel
theorem Py:hl 6=[32,61,61,32]:=by decide+kernel
def bz:Nat→ar→al
 |0,_=>[]
 |k+1,e=>
  if e.kind=1 then ib e.v
  else if e.kind=2 then [105,110,46]++e.s
  else if e.kind=3 then [114,101,115,46]++e.s++[46]++e.t
  else if e.kind=4 then [115,116,97,99,107,46]++e.s++[46]++e.t
  else if e.kind=5∨e.kind=6 then [40]++bz k (U e.a 0)++hl e.kind++bz k (U e.a 1)++[41]
  else if e.kind=7 then [40]++bz k (U e.a 0)++[32,63,32]++bz k (U e.a 1)++[32,58,32]++bz k (U e.a 2)++[41]
  else if e.kind=8 then [91]++ed (bz k) e.a true++[93]
  else if e.kind=9 then [123]++ed (fun p:al×ar=>p.1++[58,32]++bz k p.2) (e.n.zip e.a) true++[125]
  else if e.kind=10 then [103,101,116,32]++bz k (U e.a 0)++[32]++e.s
  else []
theorem ij (k:Nat) (e:ar):bz (k+1) e=
 if e.kind=1 then ib e.v
 else if e.kind=2 then [105,110,46]++e.s
 else if e.kind=3 then [114,101,115,46]++e.s++[46]++e.t
 else if e.kind=4 then [115,116,97,99,107,46]++e.s++[46]++e.t
 else if e.kind=5∨e.kind=6 then [40]++bz k (U e.a 0)++hl e.kind++bz k (U e.a 1)++[41]
 else if e.kind=7 then [40]++bz k (U e.a 0)++[32,63,32]++bz k (U e.a 1)++[32,58,32]++bz k (U e.a 2)++[41]
 else if e.kind=8 then [91]++ed (bz k) e.a true++[93]
 else if e.kind=9 then [123]++ed (fun p:al×ar=>p.1++[58,32]++bz k p.2) (e.n.zip e.a) true++[125]
 else if e.kind=10 then [103,101,116,32]++bz k (U e.a 0)++[32]++e.s
 else []:=by rw [bz]
attribute [irreducible] bz
theorem Gs {e:ar} (h:ih e):(e.kind=5→e.a.length=2)∧(e.kind=6→e.a.length=2)∧(e.kind=7→e.a.length=3)∧(e.kind=9→e.a.length=e.n.length)∧(e.kind=10→e.a.length=1)∧(e.kind=1→bH e.v=0)∧
 1≤e.kind∧e.kind≤10∧(e.kind=2→bJ e.s=true)∧(e.kind=3→bJ e.s=true∧bJ e.t=true)∧(e.kind=4→bJ e.s=true∧bJ e.t=true)∧(e.kind=10→bJ e.s=true)∧(e.kind=9→jd e.n):=by
 unfold ih at h
 refine ⟨?_,?_,?_,?_,?_,?_,?_,?_,?_,?_,?_,?_,?_⟩<;>grind
theorem mb {s:al} (h:bJ s=true):s.length≤12:=by
 unfold bJ at h
 simp only [Bool.and_eq_true,decide_eq_true_eq] at h
 omega
theorem u7 {α:Type} [Inhabited α] {l:List α} {i:Int} {x:α} (aA:0≤i) (h:l[i.toNat]?=some x):U l i=x:=by
 simp [U,List.getD_eq_getElem?_getD,h]
theorem Pz {l:List al} (h:jd l) {s:al} (aj:s∈l):s.length≤12:=by
 obtain ⟨i,ab,rfl⟩:=List.getElem_of_mem aj
 have:=(h i (by omega) (by omega)).1
 rw [u7 (x:=l[i]) (by omega) (by simp [ab])] at this
 exact mb this
theorem Gt {α β:Type} [Inhabited α] [Inhabited β] {a:List α} {b:List β} {i:Int} (aA:0≤i) (aN:i<a.length) (ag:i<b.length):U (a.zip b) i=(U a i,U b i):=
 u7 aA (by rw [List.getElem?_zip_eq_some];exact ⟨by rw [List.getElem?_eq_getElem (by omega)];exact congrArg some (u7 aA (List.getElem?_eq_getElem (by omega))).symm,by rw [List.getElem?_eq_getElem (by omega)];exact congrArg some (u7 aA (List.getElem?_eq_getElem (by omega))).symm⟩)
theorem Gu:∀(n:List al) (a:List ar),a.length=n.length→ll (fun p:al×ar=>dN p.2) (n.zip a)=iG a
 |[],[],_=>rfl
 |[],_::_,h=>by cases h
 |_::_,[],h=>by cases h
 |s::n,e::a,h=>by
  simp only [List.zip_cons_cons,ll,iG]
  rw [Gu n a (by simpa using h)]
theorem Gv:∀(a:List ar),ll dN a=iG a
 |[]=>rfl
 |e::a=>by simp only [ll,iG,Gv a]
theorem PA (k:Int):(hl k).length≤4:=by
 unfold hl
 by_cases aQ:k=5
 · subst aQ;decide+kernel
 by_cases bw:k=6
 · subst bw;decide+kernel
 · simp [hH,mz,aQ,bw,Ne.symm aQ,Ne.symm bw]
theorem Gw:∀(k:Nat) (e:ar),kB e→(bz k e).length+60≤20000*dN e
 |0,e,_=>by rw [bz,xg];simp;omega
 |k+1,e,h=>by
  obtain ⟨aJ,ai⟩:=Bk h
  obtain ⟨mc,Bm,Bn,u5,Bo,jn,_,_,s2,ht,mI,Gx,m9⟩:=Gs aJ
  have aO:=fun (x:ar) ao=>Gw k x (ai x ao)
  have a7:=xg e
  have g0:0<e.a.length→(bz k (U e.a 0)).length+60≤20000*dN (U e.a 0):=fun av=>aO _ (cy (by omega) (by omega))
  have g1:1<e.a.length→(bz k (U e.a 1)).length+60≤20000*dN (U e.a 1):=fun av=>aO _ (cy (by omega) (by omega))
  have g2:2<e.a.length→(bz k (U e.a 2)).length+60≤20000*dN (U e.a 2):=fun av=>aO _ (cy (by omega) (by omega))
  have aD:=PA e.kind
  rw [ij]
  split
  · have:=xa (v:=e.v) (jn (by assumption));omega
  split
  · have:=mb (s2 (by assumption));simp only [List.length_append,List.length_cons,List.length_nil];omega
  split
  · have:=mb (ht (by assumption)).1;have:=mb (ht (by assumption)).2;simp only [List.length_append,List.length_cons,List.length_nil];omega
  split
  · have:=mb (mI (by assumption)).1;have:=mb (mI (by assumption)).2;simp only [List.length_append,List.length_cons,List.length_nil];omega
  split
  · rename_i PB
    have av:e.a.length=2:=PB.elim mc Bm
    have J:iG e.a=dN (U e.a 0)+dN (U e.a 1):=by
     match e.a,av with
     |[x,y],_=>simp [iG,U]
    have:=g0 (by omega);have:=g1 (by omega)
    simp only [List.length_append,List.length_cons,List.length_nil];omega
  split
  · have av:e.a.length=3:=Bn (by assumption)
    have J:iG e.a=dN (U e.a 0)+dN (U e.a 1)+dN (U e.a 2):=by
     match e.a,av with
     |[x,y,z],_=>simp [iG,U];omega
    have:=g0 (by omega);have:=g1 (by omega);have:=g2 (by omega)
    simp only [List.length_append,List.length_cons,List.length_nil];omega
  split
  · have:=uS (g:=bz k) (d:=dN) (c:=20000) e.a true fun x ao=>by have:=aO x ao;omega
    rw [Gv] at this
    simp only [List.length_append,List.length_cons,List.length_nil];omega
  split
  · rename_i Gy
    have:=uS (g:=fun p:al×ar=>p.1++[58,32]++bz k p.2) (d:=fun p=>dN p.2) (c:=20000) (e.n.zip e.a) true fun x ao=>by
     obtain ⟨I,J⟩:=List.of_mem_zip ao
     have:=aO x.2 J
     have:=Pz (m9 Gy) I
     simp only [List.length_append,List.length_cons,List.length_nil];omega
    rw [Gu _ _ (u5 Gy)] at this
    simp only [List.length_append,List.length_cons,List.length_nil];omega
  split
  · have av:e.a.length=1:=Bo (by assumption)
    have J:iG e.a=dN (U e.a 0):=by
     match e.a,av with
     |[x],_=>simp [iG,U]
    have:=g0 (by omega)
    have:=mb (Gx (by assumption))
    simp only [List.length_append,List.length_cons,List.length_nil];omega
  · simp;omega
def ik (e:ar):al:=bz (dN e+1) e
theorem xq {e:ar} (h:dm e=0):(ik e).length≤1200000:=by
 have:=Gw (dN e+1) e (sM h).1
 have:=Pw h
 unfold ik;omega
theorem sO:Go.b4.uK tb 137 3 9 (.int .i64) (cp []):=⟨⟨rfl,rfl⟩,rfl,⟨trivial,rfl⟩⟩
theorem Gz (v:a6) (h:bH v=0) (m:ae) (K:aa→ae→Prop) (aC:ch m) (ad:K (.tuple [.str (ib v), .err 72 0]) m):bp Tryd.prog 15 [dd v] m K:=
 NX v m K aC (by rw [if_pos h,h];exact ad)
set_option maxHeartbeats 4000000 in
theorem PC (k:Nat) (e:ar) (base:al) (b:Nat) (aO:∀(x:ar) (base:al),dN x<k→kB x→base.length+(bz k x).length≤140737488355328→∀(b:Nat) (m:ae),eG [b] m→ch m→∀(K:aa→ae→Prop),K (.tuple []) (ae.a1 m [(b, .bx 77 5 ((base++bz k x).map bk))])→bp Tryd.prog 42 [.ptr ⟨b,0,none⟩,cE x] (ae.a1 m [(b, .bx 77 5 (base.map bk))]) K) (a7:dN e<k+1) (aM:kB e) (eT:base.length+(bz (k+1) e).length≤140737488355328) (m:ae) (gd:eG [b] m) (K:aa→ae→Prop) (aC:ch m) (ad:K (.tuple []) (ae.a1 m [(b, .bx 77 5 ((base++bz (k+1) e).map bk))])):bp Tryd.prog 42 [.ptr ⟨b,0,none⟩,cE e] (ae.a1 m [(b, .bx 77 5 (base.map bk))]) K:=by
 obtain ⟨aJ,lu⟩:=Bk aM
 obtain ⟨mc,Bm,Bn,u5,Bo,jn,fa,S3,s2,ht,mI,Gx,m9⟩:=Gs aJ
 refine enter (c:=dF [] [0] [] [] [] [b]) (vs:=[.loc 0 0, .aI (cE e)]) (L:=[.obj (.bx 77 5 (base.map bk))]) (m:=m) false cw Tryd.mixed Tryd.func42 rfl (k:=2) (by show du [] _ _ _=true;decide+kernel) rfl (gd.ia rfl) ?_
 refine ⟨fun b2=>?_⟩
 have w3:e.v.s.length≤140737488355328:=(b2 1 3 (Nat.le_of_ble_eq_true rfl))
 have w4:e.v.l.length≤140737488355328:=dT (b2 1 4 (Nat.le_of_ble_eq_true rfl))
 have PD:e.v.f.length≤140737488355328:=dT (b2 1 5 (Nat.le_of_ble_eq_true rfl))
 have PE:e.s.length≤140737488355328:=(b2 1 6 (Nat.le_of_ble_eq_true rfl))
 have PF:e.t.length≤140737488355328:=(b2 1 7 (Nat.le_of_ble_eq_true rfl))
 have PG:e.a.length≤140737488355328:=dT (b2 1 8 (Nat.le_of_ble_eq_true rfl))
 have PH:e.n.length≤140737488355328:=dT (b2 1 9 (Nat.le_of_ble_eq_true rfl))
 refine ax (fun I=>?_) (fun I=>?_)
 · have ao:bz (k+1) e=ib e.v:=by rw [ij,if_pos (by omega)]
   rw [ao] at eT ad
   try simp only [List.length_append,List.length_cons,List.length_nil] at eT
   refine fQ [] [] (.aI (.tuple [.str (ib e.v), .err 72 0])) rfl (fun bs aq gd an=>fun K ad=>Gz e.v (jn I) aq K (ch.up an aC) ad) ?_
   refine cI [0] [.obj (.bx 77 5 ((base++(ib e.v)).map bk))] (.aI (.tuple [.int .i64 ((ib e.v).length:Int), .nilIface])) rfl (fun bs aq gd=>eB (bs.getD 0 0) base (ib e.v) (by first|omega|(simp only [List.length_append,List.length_cons,List.length_nil];omega)) aq) ?_
   refine rt rfl fun _=>?_
   show K (.tuple []) (ae.a1 m [(b, .bx 77 5 ((base++(ib e.v)).map bk))])
   try simp only [List.append_assoc] at ad ⊢
   exact ad
 refine ax (fun J=>?_) (fun J=>?_)
 · have ao:bz (k+1) e=[105,110,46]++e.s:=by rw [ij,if_neg (by omega),if_pos (by omega)]
   rw [ao] at eT ad
   try simp only [List.length_append,List.length_cons,List.length_nil] at eT
   refine ax (by (first|omega|(simp only [List.length_append,List.length_cons,List.length_nil];omega))) ?_
   refine cI [0] [.obj (.bx 77 5 ((base++(([105,110,46]:List UInt8)++e.s)).map bk))] (.aI (.tuple [.int .i64 ((([105,110,46]:List UInt8)++e.s).length:Int), .nilIface])) rfl (fun bs aq gd=>eB (bs.getD 0 0) base (([105,110,46]:List UInt8)++e.s) (by first|omega|(simp only [List.length_append,List.length_cons,List.length_nil];omega)) aq) ?_
   refine rt rfl fun _=>?_
   show K (.tuple []) (ae.a1 m [(b, .bx 77 5 ((base++(([105,110,46]:List UInt8)++e.s)).map bk))])
   try simp only [List.append_assoc] at ad ⊢
   exact ad
 refine ax (fun ak=>?_) (fun ak=>?_)
 · have ao:bz (k+1) e=[114,101,115,46]++e.s++[46]++e.t:=by rw [ij,if_neg (by omega),if_neg (by omega),if_pos (by omega)]
   rw [ao] at eT ad
   try simp only [List.length_append,List.length_cons,List.length_nil] at eT
   refine ax (by (first|omega|(simp only [List.length_append,List.length_cons,List.length_nil];omega))) ?_
   refine ax (by (first|omega|(simp only [List.length_append,List.length_cons,List.length_nil];omega))) ?_
   refine ax (by (first|omega|(simp only [List.length_append,List.length_cons,List.length_nil];omega))) ?_
   refine cI [0] [.obj (.bx 77 5 ((base++(((([114,101,115,46]:List UInt8)++e.s)++([46]:List UInt8))++e.t)).map bk))] (.aI (.tuple [.int .i64 ((((([114,101,115,46]:List UInt8)++e.s)++([46]:List UInt8))++e.t).length:Int), .nilIface])) rfl (fun bs aq gd=>eB (bs.getD 0 0) base (((([114,101,115,46]:List UInt8)++e.s)++([46]:List UInt8))++e.t) (by first|omega|(simp only [List.length_append,List.length_cons,List.length_nil];omega)) aq) ?_
   refine rt rfl fun _=>?_
   show K (.tuple []) (ae.a1 m [(b, .bx 77 5 ((base++(((([114,101,115,46]:List UInt8)++e.s)++([46]:List UInt8))++e.t)).map bk))])
   try simp only [List.append_assoc] at ad ⊢
   exact ad
 refine ax (fun aH=>?_) (fun aH=>?_)
 · have ao:bz (k+1) e=[115,116,97,99,107,46]++e.s++[46]++e.t:=by rw [ij,if_neg (by omega),if_neg (by omega),if_neg (by omega),if_pos (by omega)]
   rw [ao] at eT ad
   try simp only [List.length_append,List.length_cons,List.length_nil] at eT
   refine ax (by (first|omega|(simp only [List.length_append,List.length_cons,List.length_nil];omega))) ?_
   refine ax (by (first|omega|(simp only [List.length_append,List.length_cons,List.length_nil];omega))) ?_
   refine ax (by (first|omega|(simp only [List.length_append,List.length_cons,List.length_nil];omega))) ?_
   refine cI [0] [.obj (.bx 77 5 ((base++(((([115,116,97,99,107,46]:List UInt8)++e.s)++([46]:List UInt8))++e.t)).map bk))] (.aI (.tuple [.int .i64 ((((([115,116,97,99,107,46]:List UInt8)++e.s)++([46]:List UInt8))++e.t).length:Int), .nilIface])) rfl (fun bs aq gd=>eB (bs.getD 0 0) base (((([115,116,97,99,107,46]:List UInt8)++e.s)++([46]:List UInt8))++e.t) (by first|omega|(simp only [List.length_append,List.length_cons,List.length_nil];omega)) aq) ?_
   refine rt rfl fun _=>?_
   show K (.tuple []) (ae.a1 m [(b, .bx 77 5 ((base++(((([115,116,97,99,107,46]:List UInt8)++e.s)++([46]:List UInt8))++e.t)).map bk))])
   try simp only [List.append_assoc] at ad ⊢
   exact ad
 refine aU ?_
 refine ax (fun aQ=>?_) (fun aQ=>?_)
 · have ao:bz (k+1) e=[40]++bz k (U e.a 0)++hl e.kind++bz k (U e.a 1)++[41]:=by rw [ij,if_neg (by omega),if_neg (by omega),if_neg (by omega),if_neg (by omega),if_pos (by omega)]
   rw [ao] at eT ad
   try simp only [List.length_append,List.length_cons,List.length_nil] at eT
   have Bp:=mc aQ
   refine ax (fun bw=>?_) (fun bw=>?_)
   · refine cI [0] [.obj (.bx 77 5 ((base++([40]:List UInt8)).map bk))] (.aI (.tuple [.int .i64 (([40]:List UInt8).length:Int), .nilIface])) rfl (fun bs aq gd=>eB (bs.getD 0 0) base ([40]:List UInt8) (by first|omega|(simp only [List.length_append,List.length_cons,List.length_nil];omega)) aq) ?_
     refine fE cE er (by omega) ?_
     refine fQ [0] [.obj (.bx 77 5 (((base++([40]:List UInt8))++bz k (U e.a 0)).map bk))] (.cM []) rfl (fun bs aq gd an=>aO (U e.a 0) (base++([40]:List UInt8)) (by have:=jy (cy (l:=e.a) (i:=0) (by omega) (by omega));omega) (lu _ (cy (by omega) (by omega))) (by first|omega|(simp only [List.length_append,List.length_cons,List.length_nil];omega)) (bs.getD 0 0) aq gd (ch.up an aC)) ?_
     refine wX cw (dk:= .int .i64) mx cp rQ ([]:List (Int×(List UInt8))) 5 ([32,43,32]:List UInt8) (t:=137) (ke:=3) (ve:=9) sO rfl rfl rfl rfl rfl (fun _=>rfl) (by decide+kernel) ?_
     refine wX cw (dk:= .int .i64) mx cp rQ (hH ([]:List (Int×(List UInt8))) 5 ([32,43,32]:List UInt8)) 6 ([32,61,61,32]:List UInt8) (t:=137) (ke:=3) (ve:=9) sO rfl rfl rfl rfl rfl (fun _=>rfl) (by decide+kernel) ?_
     refine E8 cw (dk:= .int .i64) mx cp rQ (hH (hH ([]:List (Int×(List UInt8))) 5 ([32,43,32]:List UInt8)) 6 ([32,61,61,32]:List UInt8)) e.kind [] (t:=137) (ke:=3) (ve:=9) (v:=cp (hl e.kind)) sO rfl rfl rfl rfl rfl rfl ?_
     refine cI [0] [.obj (.bx 77 5 ((((base++([40]:List UInt8))++bz k (U e.a 0))++(hl e.kind)).map bk))] (.aI (.tuple [.int .i64 ((hl e.kind).length:Int), .nilIface])) rfl (fun bs aq gd=>eB (bs.getD 0 0) ((base++([40]:List UInt8))++bz k (U e.a 0)) (hl e.kind) (by first|omega|(simp only [List.length_append,List.length_cons,List.length_nil];omega)) aq) ?_
     refine fE cE er (by omega) ?_
     refine fQ [0] [.obj (.bx 77 5 (((((base++([40]:List UInt8))++bz k (U e.a 0))++(hl e.kind))++bz k (U e.a 1)).map bk))] (.cM []) rfl (fun bs aq gd an=>aO (U e.a 1) (((base++([40]:List UInt8))++bz k (U e.a 0))++(hl e.kind)) (by have:=jy (cy (l:=e.a) (i:=1) (by omega) (by omega));omega) (lu _ (cy (by omega) (by omega))) (by first|omega|(simp only [List.length_append,List.length_cons,List.length_nil];omega)) (bs.getD 0 0) aq gd (ch.up an aC)) ?_
     refine cI [0] [.obj (.bx 77 5 ((((((base++([40]:List UInt8))++bz k (U e.a 0))++(hl e.kind))++bz k (U e.a 1))++([41]:List UInt8)).map bk))] (.aI (.tuple [.int .i64 (([41]:List UInt8).length:Int), .nilIface])) rfl (fun bs aq gd=>eB (bs.getD 0 0) ((((base++([40]:List UInt8))++bz k (U e.a 0))++(hl e.kind))++bz k (U e.a 1)) ([41]:List UInt8) (by first|omega|(simp only [List.length_append,List.length_cons,List.length_nil];omega)) aq) ?_
     refine rt rfl fun _=>?_
     show K (.tuple []) (ae.a1 m [(b, .bx 77 5 ((((((base++([40]:List UInt8))++bz k (U e.a 0))++(hl e.kind))++bz k (U e.a 1))++([41]:List UInt8)).map bk))])
     try simp only [List.append_assoc] at ad ⊢
     exact ad
   exact absurd aQ bw
 refine ax (fun db=>?_) (fun db=>?_)
 · have ao:bz (k+1) e=[40]++bz k (U e.a 0)++hl e.kind++bz k (U e.a 1)++[41]:=by rw [ij,if_neg (by omega),if_neg (by omega),if_neg (by omega),if_neg (by omega),if_pos (by omega)]
   rw [ao] at eT ad
   try simp only [List.length_append,List.length_cons,List.length_nil] at eT
   have Bp:=Bm db
   refine cI [0] [.obj (.bx 77 5 ((base++([40]:List UInt8)).map bk))] (.aI (.tuple [.int .i64 (([40]:List UInt8).length:Int), .nilIface])) rfl (fun bs aq gd=>eB (bs.getD 0 0) base ([40]:List UInt8) (by first|omega|(simp only [List.length_append,List.length_cons,List.length_nil];omega)) aq) ?_
   refine fE cE er (by omega) ?_
   refine fQ [0] [.obj (.bx 77 5 (((base++([40]:List UInt8))++bz k (U e.a 0)).map bk))] (.cM []) rfl (fun bs aq gd an=>aO (U e.a 0) (base++([40]:List UInt8)) (by have:=jy (cy (l:=e.a) (i:=0) (by omega) (by omega));omega) (lu _ (cy (by omega) (by omega))) (by first|omega|(simp only [List.length_append,List.length_cons,List.length_nil];omega)) (bs.getD 0 0) aq gd (ch.up an aC)) ?_
   refine wX cw (dk:= .int .i64) mx cp rQ ([]:List (Int×(List UInt8))) 5 ([32,43,32]:List UInt8) (t:=137) (ke:=3) (ve:=9) sO rfl rfl rfl rfl rfl (fun _=>rfl) (by decide+kernel) ?_
   refine wX cw (dk:= .int .i64) mx cp rQ (hH ([]:List (Int×(List UInt8))) 5 ([32,43,32]:List UInt8)) 6 ([32,61,61,32]:List UInt8) (t:=137) (ke:=3) (ve:=9) sO rfl rfl rfl rfl rfl (fun _=>rfl) (by decide+kernel) ?_
   refine E8 cw (dk:= .int .i64) mx cp rQ (hH (hH ([]:List (Int×(List UInt8))) 5 ([32,43,32]:List UInt8)) 6 ([32,61,61,32]:List UInt8)) e.kind [] (t:=137) (ke:=3) (ve:=9) (v:=cp (hl e.kind)) sO rfl rfl rfl rfl rfl rfl ?_
   refine cI [0] [.obj (.bx 77 5 ((((base++([40]:List UInt8))++bz k (U e.a 0))++(hl e.kind)).map bk))] (.aI (.tuple [.int .i64 ((hl e.kind).length:Int), .nilIface])) rfl (fun bs aq gd=>eB (bs.getD 0 0) ((base++([40]:List UInt8))++bz k (U e.a 0)) (hl e.kind) (by first|omega|(simp only [List.length_append,List.length_cons,List.length_nil];omega)) aq) ?_
   refine fE cE er (by omega) ?_
   refine fQ [0] [.obj (.bx 77 5 (((((base++([40]:List UInt8))++bz k (U e.a 0))++(hl e.kind))++bz k (U e.a 1)).map bk))] (.cM []) rfl (fun bs aq gd an=>aO (U e.a 1) (((base++([40]:List UInt8))++bz k (U e.a 0))++(hl e.kind)) (by have:=jy (cy (l:=e.a) (i:=1) (by omega) (by omega));omega) (lu _ (cy (by omega) (by omega))) (by first|omega|(simp only [List.length_append,List.length_cons,List.length_nil];omega)) (bs.getD 0 0) aq gd (ch.up an aC)) ?_
   refine cI [0] [.obj (.bx 77 5 ((((((base++([40]:List UInt8))++bz k (U e.a 0))++(hl e.kind))++bz k (U e.a 1))++([41]:List UInt8)).map bk))] (.aI (.tuple [.int .i64 (([41]:List UInt8).length:Int), .nilIface])) rfl (fun bs aq gd=>eB (bs.getD 0 0) ((((base++([40]:List UInt8))++bz k (U e.a 0))++(hl e.kind))++bz k (U e.a 1)) ([41]:List UInt8) (by first|omega|(simp only [List.length_append,List.length_cons,List.length_nil];omega)) aq) ?_
   refine rt rfl fun _=>?_
   show K (.tuple []) (ae.a1 m [(b, .bx 77 5 ((((((base++([40]:List UInt8))++bz k (U e.a 0))++(hl e.kind))++bz k (U e.a 1))++([41]:List UInt8)).map bk))])
   try simp only [List.append_assoc] at ad ⊢
   exact ad
 refine ax (fun cA=>?_) (fun cA=>?_)
 · have ao:bz (k+1) e=[40]++bz k (U e.a 0)++[32,63,32]++bz k (U e.a 1)++[32,58,32]++bz k (U e.a 2)++[41]:=by rw [ij,if_neg (by omega),if_neg (by omega),if_neg (by omega),if_neg (by omega),if_neg (by omega),if_pos (by omega)]
   rw [ao] at eT ad
   try simp only [List.length_append,List.length_cons,List.length_nil] at eT
   have Bp:=Bn cA
   refine cI [0] [.obj (.bx 77 5 ((base++([40]:List UInt8)).map bk))] (.aI (.tuple [.int .i64 (([40]:List UInt8).length:Int), .nilIface])) rfl (fun bs aq gd=>eB (bs.getD 0 0) base ([40]:List UInt8) (by first|omega|(simp only [List.length_append,List.length_cons,List.length_nil];omega)) aq) ?_
   refine fE cE er (by omega) ?_
   refine fQ [0] [.obj (.bx 77 5 (((base++([40]:List UInt8))++bz k (U e.a 0)).map bk))] (.cM []) rfl (fun bs aq gd an=>aO (U e.a 0) (base++([40]:List UInt8)) (by have:=jy (cy (l:=e.a) (i:=0) (by omega) (by omega));omega) (lu _ (cy (by omega) (by omega))) (by first|omega|(simp only [List.length_append,List.length_cons,List.length_nil];omega)) (bs.getD 0 0) aq gd (ch.up an aC)) ?_
   refine cI [0] [.obj (.bx 77 5 ((((base++([40]:List UInt8))++bz k (U e.a 0))++([32,63,32]:List UInt8)).map bk))] (.aI (.tuple [.int .i64 (([32,63,32]:List UInt8).length:Int), .nilIface])) rfl (fun bs aq gd=>eB (bs.getD 0 0) ((base++([40]:List UInt8))++bz k (U e.a 0)) ([32,63,32]:List UInt8) (by first|omega|(simp only [List.length_append,List.length_cons,List.length_nil];omega)) aq) ?_
   refine fE cE er (by omega) ?_
   refine fQ [0] [.obj (.bx 77 5 (((((base++([40]:List UInt8))++bz k (U e.a 0))++([32,63,32]:List UInt8))++bz k (U e.a 1)).map bk))] (.cM []) rfl (fun bs aq gd an=>aO (U e.a 1) (((base++([40]:List UInt8))++bz k (U e.a 0))++([32,63,32]:List UInt8)) (by have:=jy (cy (l:=e.a) (i:=1) (by omega) (by omega));omega) (lu _ (cy (by omega) (by omega))) (by first|omega|(simp only [List.length_append,List.length_cons,List.length_nil];omega)) (bs.getD 0 0) aq gd (ch.up an aC)) ?_
   refine cI [0] [.obj (.bx 77 5 ((((((base++([40]:List UInt8))++bz k (U e.a 0))++([32,63,32]:List UInt8))++bz k (U e.a 1))++([32,58,32]:List UInt8)).map bk))] (.aI (.tuple [.int .i64 (([32,58,32]:List UInt8).length:Int), .nilIface])) rfl (fun bs aq gd=>eB (bs.getD 0 0) ((((base++([40]:List UInt8))++bz k (U e.a 0))++([32,63,32]:List UInt8))++bz k (U e.a 1)) ([32,58,32]:List UInt8) (by first|omega|(simp only [List.length_append,List.length_cons,List.length_nil];omega)) aq) ?_
   refine fE cE er (by omega) ?_
   refine fQ [0] [.obj (.bx 77 5 (((((((base++([40]:List UInt8))++bz k (U e.a 0))++([32,63,32]:List UInt8))++bz k (U e.a 1))++([32,58,32]:List UInt8))++bz k (U e.a 2)).map bk))] (.cM []) rfl (fun bs aq gd an=>aO (U e.a 2) (((((base++([40]:List UInt8))++bz k (U e.a 0))++([32,63,32]:List UInt8))++bz k (U e.a 1))++([32,58,32]:List UInt8)) (by have:=jy (cy (l:=e.a) (i:=2) (by omega) (by omega));omega) (lu _ (cy (by omega) (by omega))) (by first|omega|(simp only [List.length_append,List.length_cons,List.length_nil];omega)) (bs.getD 0 0) aq gd (ch.up an aC)) ?_
   refine cI [0] [.obj (.bx 77 5 ((((((((base++([40]:List UInt8))++bz k (U e.a 0))++([32,63,32]:List UInt8))++bz k (U e.a 1))++([32,58,32]:List UInt8))++bz k (U e.a 2))++([41]:List UInt8)).map bk))] (.aI (.tuple [.int .i64 (([41]:List UInt8).length:Int), .nilIface])) rfl (fun bs aq gd=>eB (bs.getD 0 0) ((((((base++([40]:List UInt8))++bz k (U e.a 0))++([32,63,32]:List UInt8))++bz k (U e.a 1))++([32,58,32]:List UInt8))++bz k (U e.a 2)) ([41]:List UInt8) (by first|omega|(simp only [List.length_append,List.length_cons,List.length_nil];omega)) aq) ?_
   refine rt rfl fun _=>?_
   show K (.tuple []) (ae.a1 m [(b, .bx 77 5 ((((((((base++([40]:List UInt8))++bz k (U e.a 0))++([32,63,32]:List UInt8))++bz k (U e.a 1))++([32,58,32]:List UInt8))++bz k (U e.a 2))++([41]:List UInt8)).map bk))])
   try simp only [List.append_assoc] at ad ⊢
   exact ad
 refine ax (fun dx=>?_) (fun dx=>?_)
 · have ao:bz (k+1) e=[91]++ed (bz k) e.a true++[93]:=by rw [ij,if_neg (by omega),if_neg (by omega),if_neg (by omega),if_neg (by omega),if_neg (by omega),if_neg (by omega),if_pos (by omega)]
   rw [ao] at eT ad
   try simp only [List.length_append,List.length_cons,List.length_nil] at eT
   refine cI [0] [.obj (.bx 77 5 ((base++([91]:List UInt8)).map bk))] (.aI (.tuple [.int .i64 (([91]:List UInt8).length:Int), .nilIface])) rfl (fun bs aq gd=>eB (bs.getD 0 0) base ([91]:List UInt8) (by first|omega|(simp only [List.length_append,List.length_cons,List.length_nil];omega)) aq) ?_
   refine aU ?_
   refine cl ?_
   refine dE (σ:=Int×al) [] [0,111,112,113] 2 (fun ⟨i,cr⟩=>([(0, .loc 0 0),(111,aX (e.a.map cz)),(112,aK (e.a.length:Int)),(113,aK i)],[.obj (.bx 77 5 (cr.map bk)), .cells [aK e.kind,aK e.v.kind,aK e.v.n,aR e.v.s,aX (e.v.l.map cC),aX (e.v.f.map cL),aR e.s,aR e.t,aX (e.a.map cz),aX (e.n.map cp)]],m)) (fun ⟨i,cr⟩=>0≤i∧i≤e.a.length∧base++[91]++ed (bz k) e.a true=cr++ed (bz k) (e.a.drop i.toNat) (i==0)) (fun ⟨i,cr⟩=>e.a.length- i.toNat) (0,base++([91]:List UInt8)) ⟨rfl,rfl⟩ ?_ ?_
   · try dsimp only
     exact ⟨by omega,by omega,rfl⟩
   rintro ⟨i,cr⟩ aW
   dsimp only at aW
   have aG:=congrArg List.length aW.2.2
   simp only [List.length_append,List.length_cons,List.length_nil] at aG
   refine aU ?_
   refine ax (fun eY=>?_) (fun eY=>?_)
   · refine aU ?_
     refine fE cE er (by omega) ?_
     refine aU ?_
     refine ax (fun hq=>?_) (fun hq=>?_)
     · have bU:=w7 (g:=bz k) (l:=e.a) aW.1 (by first|assumption|omega|(rw [List.length_zip];omega)) (by omega)
       have fZ:=congrArg List.length bU
       simp only [List.length_append,List.length_cons,List.length_nil] at fZ
       refine cI [0] [.obj (.bx 77 5 ((cr++([44,32]:List UInt8)).map bk))] (.aI (.tuple [.int .i64 (([44,32]:List UInt8).length:Int), .nilIface])) rfl (fun bs aq gd=>eB (bs.getD 0 0) cr ([44,32]:List UInt8) (by first|omega|(simp only [List.length_append,List.length_cons,List.length_nil];omega)) aq) ?_
       refine fQ [0] [.obj (.bx 77 5 (((cr++([44,32]:List UInt8))++bz k (U e.a i)).map bk))] (.cM []) rfl (fun bs aq gd an=>aO (U e.a i) (cr++([44,32]:List UInt8)) (by have:=jy (cy (l:=e.a) (i:=i) (by omega) (by omega));omega) (lu _ (cy (by omega) (by omega))) (by first|omega|(simp only [List.length_append,List.length_cons,List.length_nil];omega)) (bs.getD 0 0) aq gd (ch.up an aC)) ?_
       refine ax (by omega) ?_
       refine ⟨(i+1,(cr++([44,32]:List UInt8))++bz k (U e.a i)),⟨rfl,rfl⟩,?_,?_⟩
       · try dsimp only
         exact ⟨by omega,by omega,by rw [aW.2.2,bU];simp only [List.append_assoc,List.nil_append]⟩
       try dsimp only
       omega
     have bU:=w6 (g:=bz k) (l:=e.a) aW.1 (by first|assumption|omega|(rw [List.length_zip];omega)) (by omega)
     have fZ:=congrArg List.length bU
     simp only [List.length_append,List.length_cons,List.length_nil] at fZ
     refine fQ [0] [.obj (.bx 77 5 ((cr++bz k (U e.a i)).map bk))] (.cM []) rfl (fun bs aq gd an=>aO (U e.a i) cr (by have:=jy (cy (l:=e.a) (i:=i) (by omega) (by omega));omega) (lu _ (cy (by omega) (by omega))) (by first|omega|(simp only [List.length_append,List.length_cons,List.length_nil];omega)) (bs.getD 0 0) aq gd (ch.up an aC)) ?_
     refine ax (by omega) ?_
     refine ⟨(i+1,cr++bz k (U e.a i)),⟨rfl,rfl⟩,?_,?_⟩
     · try dsimp only
       exact ⟨by omega,by omega,by rw [aW.2.2,bU];simp only [List.append_assoc,List.nil_append]⟩
     try dsimp only
     omega
   refine cI [0] [.obj (.bx 77 5 ((cr++([93]:List UInt8)).map bk))] (.aI (.tuple [.int .i64 (([93]:List UInt8).length:Int), .nilIface])) rfl (fun bs aq gd=>eB (bs.getD 0 0) cr ([93]:List UInt8) (by first|omega|(simp only [List.length_append,List.length_cons,List.length_nil];omega)) aq) ?_
   refine rt rfl fun _=>?_
   show K (.tuple []) (ae.a1 m [(b, .bx 77 5 ((cr++([93]:List UInt8)).map bk))])
   have az:base++([91]++ed (bz k) e.a true++[93])=cr++[93]:=by
    have:=aW.2.2
    rw [w8 (by omega),List.append_nil] at this
    rw [←this];simp only [List.append_assoc]
   rw [az] at ad;exact ad
 refine ax (fun l1=>?_) (fun l1=>?_)
 · have ao:bz (k+1) e=[123]++ed (fun p:al×ar=>p.1++[58,32]++bz k p.2) (e.n.zip e.a) true++[125]:=by rw [ij,if_neg (by omega),if_neg (by omega),if_neg (by omega),if_neg (by omega),if_neg (by omega),if_neg (by omega),if_neg (by omega),if_pos (by omega)]
   rw [ao] at eT ad
   try simp only [List.length_append,List.length_cons,List.length_nil] at eT
   have S4:=u5 l1
   have S5:(e.n.zip e.a).length=e.a.length:=by rw [List.length_zip];omega
   refine cI [0] [.obj (.bx 77 5 ((base++([123]:List UInt8)).map bk))] (.aI (.tuple [.int .i64 (([123]:List UInt8).length:Int), .nilIface])) rfl (fun bs aq gd=>eB (bs.getD 0 0) base ([123]:List UInt8) (by first|omega|(simp only [List.length_append,List.length_cons,List.length_nil];omega)) aq) ?_
   refine aU ?_
   refine cl ?_
   refine dE (σ:=Int×al) [] [0,3,133,134,135] 2 (fun ⟨i,cr⟩=>([(0, .loc 0 0),(3, .loc 1 0),(133,aX (e.a.map cz)),(134,aK (e.a.length:Int)),(135,aK i)],[.obj (.bx 77 5 (cr.map bk)), .cells [aK e.kind,aK e.v.kind,aK e.v.n,aR e.v.s,aX (e.v.l.map cC),aX (e.v.f.map cL),aR e.s,aR e.t,aX (e.a.map cz),aX (e.n.map cp)]],m)) (fun ⟨i,cr⟩=>0≤i∧i≤e.a.length∧base++[123]++ed (fun p:al×ar=>p.1++[58,32]++bz k p.2) (e.n.zip e.a) true=cr++ed (fun p:al×ar=>p.1++[58,32]++bz k p.2) ((e.n.zip e.a).drop i.toNat) (i==0)) (fun ⟨i,cr⟩=>e.a.length- i.toNat) (0,base++([123]:List UInt8)) ⟨rfl,rfl⟩ ?_ ?_
   · try dsimp only
     exact ⟨by omega,by omega,rfl⟩
   rintro ⟨i,cr⟩ aW
   dsimp only at aW
   have aG:=congrArg List.length aW.2.2
   simp only [List.length_append,List.length_cons,List.length_nil] at aG
   refine aU ?_
   refine ax (fun re=>?_) (fun re=>?_)
   · refine aU ?_
     refine fE cE er (by omega) ?_
     refine aU ?_
     refine ax (fun Bl=>?_) (fun Bl=>?_)
     · have bU:=w7 (g:=fun p:al×ar=>p.1++[58,32]++bz k p.2) (l:=e.n.zip e.a) aW.1 (by first|assumption|omega|(rw [List.length_zip];omega)) (by omega)
       rw [Gt (by omega) (by omega) (by omega)] at bU
       have fZ:=congrArg List.length bU
       simp only [List.length_append,List.length_cons,List.length_nil] at fZ
       refine cI [0] [.obj (.bx 77 5 ((cr++([44,32]:List UInt8)).map bk))] (.aI (.tuple [.int .i64 (([44,32]:List UInt8).length:Int), .nilIface])) rfl (fun bs aq gd=>eB (bs.getD 0 0) cr ([44,32]:List UInt8) (by first|omega|(simp only [List.length_append,List.length_cons,List.length_nil];omega)) aq) ?_
       refine eF (by omega) ?_
       refine ax (by (first|omega|(simp only [List.length_append,List.length_cons,List.length_nil];omega))) ?_
       refine cI [0] [.obj (.bx 77 5 (((cr++([44,32]:List UInt8))++((U e.n i)++([58,32]:List UInt8))).map bk))] (.aI (.tuple [.int .i64 (((U e.n i)++([58,32]:List UInt8)).length:Int), .nilIface])) rfl (fun bs aq gd=>eB (bs.getD 0 0) (cr++([44,32]:List UInt8)) ((U e.n i)++([58,32]:List UInt8)) (by first|omega|(simp only [List.length_append,List.length_cons,List.length_nil];omega)) aq) ?_
       refine fQ [0] [.obj (.bx 77 5 ((((cr++([44,32]:List UInt8))++((U e.n i)++([58,32]:List UInt8)))++bz k (U e.a i)).map bk))] (.cM []) rfl (fun bs aq gd an=>aO (U e.a i) ((cr++([44,32]:List UInt8))++((U e.n i)++([58,32]:List UInt8))) (by have:=jy (cy (l:=e.a) (i:=i) (by omega) (by omega));omega) (lu _ (cy (by omega) (by omega))) (by first|omega|(simp only [List.length_append,List.length_cons,List.length_nil];omega)) (bs.getD 0 0) aq gd (ch.up an aC)) ?_
       refine ax (by omega) ?_
       refine ⟨(i+1,((cr++([44,32]:List UInt8))++((U e.n i)++([58,32]:List UInt8)))++bz k (U e.a i)),⟨rfl,rfl⟩,?_,?_⟩
       · try dsimp only
         exact ⟨by omega,by omega,by rw [aW.2.2,bU];simp only [List.append_assoc,List.nil_append]⟩
       try dsimp only
       omega
     have bU:=w6 (g:=fun p:al×ar=>p.1++[58,32]++bz k p.2) (l:=e.n.zip e.a) aW.1 (by first|assumption|omega|(rw [List.length_zip];omega)) (by omega)
     rw [Gt (by omega) (by omega) (by omega)] at bU
     have fZ:=congrArg List.length bU
     simp only [List.length_append,List.length_cons,List.length_nil] at fZ
     refine eF (by omega) ?_
     refine ax (by (first|omega|(simp only [List.length_append,List.length_cons,List.length_nil];omega))) ?_
     refine cI [0] [.obj (.bx 77 5 ((cr++((U e.n i)++([58,32]:List UInt8))).map bk))] (.aI (.tuple [.int .i64 (((U e.n i)++([58,32]:List UInt8)).length:Int), .nilIface])) rfl (fun bs aq gd=>eB (bs.getD 0 0) cr ((U e.n i)++([58,32]:List UInt8)) (by first|omega|(simp only [List.length_append,List.length_cons,List.length_nil];omega)) aq) ?_
     refine fQ [0] [.obj (.bx 77 5 (((cr++((U e.n i)++([58,32]:List UInt8)))++bz k (U e.a i)).map bk))] (.cM []) rfl (fun bs aq gd an=>aO (U e.a i) (cr++((U e.n i)++([58,32]:List UInt8))) (by have:=jy (cy (l:=e.a) (i:=i) (by omega) (by omega));omega) (lu _ (cy (by omega) (by omega))) (by first|omega|(simp only [List.length_append,List.length_cons,List.length_nil];omega)) (bs.getD 0 0) aq gd (ch.up an aC)) ?_
     refine ax (by omega) ?_
     refine ⟨(i+1,(cr++((U e.n i)++([58,32]:List UInt8)))++bz k (U e.a i)),⟨rfl,rfl⟩,?_,?_⟩
     · try dsimp only
       exact ⟨by omega,by omega,by rw [aW.2.2,bU];simp only [List.append_assoc,List.nil_append]⟩
     try dsimp only
     omega
   refine cI [0] [.obj (.bx 77 5 ((cr++([125]:List UInt8)).map bk))] (.aI (.tuple [.int .i64 (([125]:List UInt8).length:Int), .nilIface])) rfl (fun bs aq gd=>eB (bs.getD 0 0) cr ([125]:List UInt8) (by first|omega|(simp only [List.length_append,List.length_cons,List.length_nil];omega)) aq) ?_
   refine rt rfl fun _=>?_
   show K (.tuple []) (ae.a1 m [(b, .bx 77 5 ((cr++([125]:List UInt8)).map bk))])
   have az:base++([123]++ed (fun p:al×ar=>p.1++[58,32]++bz k p.2) (e.n.zip e.a) true++[125])=cr++[125]:=by
    have:=aW.2.2
    rw [w8 (by omega),List.append_nil] at this
    rw [←this];simp only [List.append_assoc]
   rw [az] at ad;exact ad
 refine ax (fun xo=>?_) (fun xo=>?_)
 · have ao:bz (k+1) e=[103,101,116,32]++bz k (U e.a 0)++[32]++e.s:=by rw [ij,if_neg (by omega),if_neg (by omega),if_neg (by omega),if_neg (by omega),if_neg (by omega),if_neg (by omega),if_neg (by omega),if_neg (by omega),if_pos (by omega)]
   rw [ao] at eT ad
   try simp only [List.length_append,List.length_cons,List.length_nil] at eT
   have Bp:=Bo xo
   refine cI [0] [.obj (.bx 77 5 ((base++([103,101,116,32]:List UInt8)).map bk))] (.aI (.tuple [.int .i64 (([103,101,116,32]:List UInt8).length:Int), .nilIface])) rfl (fun bs aq gd=>eB (bs.getD 0 0) base ([103,101,116,32]:List UInt8) (by first|omega|(simp only [List.length_append,List.length_cons,List.length_nil];omega)) aq) ?_
   refine fE cE er (by omega) ?_
   refine fQ [0] [.obj (.bx 77 5 (((base++([103,101,116,32]:List UInt8))++bz k (U e.a 0)).map bk))] (.cM []) rfl (fun bs aq gd an=>aO (U e.a 0) (base++([103,101,116,32]:List UInt8)) (by have:=jy (cy (l:=e.a) (i:=0) (by omega) (by omega));omega) (lu _ (cy (by omega) (by omega))) (by first|omega|(simp only [List.length_append,List.length_cons,List.length_nil];omega)) (bs.getD 0 0) aq gd (ch.up an aC)) ?_
   refine ax (by (first|omega|(simp only [List.length_append,List.length_cons,List.length_nil];omega))) ?_
   refine cI [0] [.obj (.bx 77 5 ((((base++([103,101,116,32]:List UInt8))++bz k (U e.a 0))++(([32]:List UInt8)++e.s)).map bk))] (.aI (.tuple [.int .i64 ((([32]:List UInt8)++e.s).length:Int), .nilIface])) rfl (fun bs aq gd=>eB (bs.getD 0 0) ((base++([103,101,116,32]:List UInt8))++bz k (U e.a 0)) (([32]:List UInt8)++e.s) (by first|omega|(simp only [List.length_append,List.length_cons,List.length_nil];omega)) aq) ?_
   refine rt rfl fun _=>?_
   show K (.tuple []) (ae.a1 m [(b, .bx 77 5 ((((base++([103,101,116,32]:List UInt8))++bz k (U e.a 0))++(([32]:List UInt8)++e.s)).map bk))])
   try simp only [List.append_assoc] at ad ⊢
   exact ad
 exfalso
 omega
theorem xr:∀(k:Nat) (e:ar) (base:al),dN e<k→kB e→base.length+(bz k e).length≤140737488355328→∀(b:Nat) (m:ae),eG [b] m→ch m→∀(K:aa→ae→Prop),K (.tuple []) (ae.a1 m [(b, .bx 77 5 ((base++bz k e).map bk))])→bp Tryd.prog 42 [.ptr ⟨b,0,none⟩,cE e] (ae.a1 m [(b, .bx 77 5 (base.map bk))]) K
 |0,_,_,h=>absurd h (Nat.not_lt_zero _)
 |k+1,e,base,h=>fun aM eT b m gd aC K ad=>PC k e base b (xr k) h aM eT m gd K aC ad
end Go.Proofs
end
section
namespace Go.Proofs
open Go Go.bb Go.b4
set_option maxRecDepth 100000
structure ej {α:Type} (w:α→Nat) (p:bm α) (a:Int):Prop where
 h:p.f=0→4*a+(w p.x:Int)≤4*p.a
 n:0≤p.f
section
variable {α β:Type} {u:α→Nat} {w:β→Nat} {a b:Int}
theorem ej.no [Inhabited α] {f s:Int} (h:0<f):ej u (.bad f s:bm α) a:=⟨fun e=>absurd (show f=0 from e) (by omega),show 0≤f by omega⟩
theorem ej.yes {x:α} (h:4*a+(u x:Int)≤4*b):ej u (.ok x b) a:=⟨fun _=>h,Int.le_refl _⟩
theorem ej.bind [Inhabited β] {p:bm α} {g:α→Int→bm β} (h:ej u p b) (J:∀x cd,4*b+(u x:Int)≤4*cd→ej w (g x cd) a):ej w (p.bind g) a:=by
 rw [bm.bind]
 split
 · exact J _ _ (h.h (by assumption))
 · rename_i au;exact ej.no (by have:=h.n;omega)
end
theorem lv (l:List Tok) (n k:Int) (s:al) (a:Int):ej (fun _=>4) (ck l n k s a) a:=by
 rw [ck];split
 · exact ej.yes (by simp;omega)
 · exact ej.no (by decide)
theorem GA (l:List Tok) (n a:Int):ej (fun _=>4) (o9 l n a) a:=by
 rw [o9]
 refine (lv ..).bind fun _ cd I=>(lv ..).bind fun _ a2 J=>(lv ..).bind fun _ a3 ak=>(lv ..).bind fun _ a4 aH=>ej.yes ?_
 omega
theorem GB (x y:List ar):iL (x++y)=iL x+iL y:=by
 induction x with
 |nil=>simp [iL]
 |cons a r aO=>simp only [List.cons_append,iL,aO];omega
theorem pb:dq cS=1:=by simp [cS,dq,n9,oa]
theorem og (k n:Int) (s:al):hk (gn (.mk k n s [] []))=2:=by simp [gn,hk,iL,dq,n9,oa]
section
variable {f:Int→bm ar} (aM:∀a,ej hk (f a) a) (l:List Tok) (n:Int)
include aM
theorem PI (a c:Int) (ah:c+1≤a):ej hk (nA f l n a) c:=by
 rw [nA]
 refine (aM a).bind fun x cd I=>?_
 split
 · refine (aM _).bind fun y a2 J=>(lv ..).bind fun _ a3 ak=>ej.yes ?_
   simp only [hk,iL,pb,List.length_nil] at ak ⊢;omega
 split
 · refine (aM _).bind fun y a2 J=>(lv ..).bind fun _ a3 ak=>ej.yes ?_
   simp only [hk,iL,pb,List.length_nil] at ak ⊢;omega
 split
 · refine (aM _).bind fun y a2 J=>(lv ..).bind fun _ a3 ak=>(aM _).bind fun z a4 aH=>(lv ..).bind fun _ a5 aQ=>ej.yes ?_
   simp only [hk,iL,pb,List.length_nil] at ak aQ ⊢;omega
 · exact ej.no (by decide)
omit aM in
theorem GC {xs:List ar} {a c:Int} {g:Int→bm ar} (a8:∀b,a≤b→ej hk (g b) c):ej hk (jz l n xs a g) c:=by
 rw [jz];split
 · exact a8 _ (Int.le_refl _)
 · exact (lv ..).bind fun _ cd I=>a8 _ (by omega)
theorem GD:∀(k:Nat) (a:Int) (xs:List ar) (c:Int),4*c+(iL xs:Int)+2≤4*a→ej hk (j3 f l n k a xs) c
 |0,_,_,_,_=>ej.no (by decide)
 |k+1,a,xs,c,ah=>by
  rw [j3];split
  · refine ej.yes ?_
    simp only [hk,pb,List.length_nil];omega
  · refine GC l n fun b ag=>(aM _).bind fun x cd I=>GD k _ _ _ ?_
    rw [GB];simp only [iL];omega
theorem GF:∀(k:Nat) (a:Int) (bQ:List al) (xs:List ar) (c:Int),4*c+(iL xs:Int)+(bQ.length:Int)+2≤4*a→ej hk (jb f l n k a bQ xs) c
 |0,_,_,_,_,_=>ej.no (by decide)
 |k+1,a,bQ,xs,c,ah=>by
  rw [jb];split
  · refine ej.yes ?_
    simp only [hk,pb];omega
  · refine GC l n fun b ag=>(lv ..).bind fun _ cd I=>?_
    split
    · exact ej.no (by decide)
    · refine (lv ..).bind fun _ a2 J=>(aM _).bind fun x a3 ak=>GF k _ _ _ _ ?_
      rw [GB];simp only [iL,List.length_append,List.length_cons,List.length_nil];omega
theorem PJ (a:Int):ej hk (iH f l n a) a:=by
 rw [iH]
 split
 · exact ej.yes (by first|(rw [og];omega)|(have:=og 0 0 [];simp only [cS];omega))
 split
 · exact ej.yes (by first|(rw [og];omega)|(have:=og 0 0 [];simp only [cS];omega))
 split
 · exact ej.yes (by first|(rw [og];omega)|(have:=og 0 0 [];simp only [cS];omega))
 split
 · exact (lv ..).bind fun _ cd I=>(lv ..).bind fun _ a2 J=>ej.yes (by simp only [hk,iL,pb,List.length_nil];omega)
 split
 · exact (GA ..).bind fun _ cd I=>ej.yes (by simp only [hk,iL,pb,List.length_nil];omega)
 split
 · exact (GA ..).bind fun _ cd I=>ej.yes (by simp only [hk,iL,pb,List.length_nil];omega)
 split
 · exact (aM _).bind fun _ cd I=>(lv ..).bind fun _ a2 J=>ej.yes (by simp only [hk,iL,pb,List.length_nil];omega)
 · exact ej.no (by decide)
end
theorem GG (l:List Tok) (n dU a:Int):ej hk (l4 l n dU a) a:=by
 rw [l4]
 split
 · split
   · exact ej.no (by decide)
   · exact ej.yes (by first|(rw [og];omega)|(have:=og 0 0 [];simp only [cS];omega))
 · exact ej.no (by decide)
theorem ej.from {p:bm ar} {a b:Int} (h:ej hk p a) (ag:b≤a):ej hk p b:=⟨fun z=>by have:=h.h z;omega,h.n⟩
theorem GH (l:List Tok) (n:Int):∀(k:Nat) (a:Int),ej hk (cn l n k a) a
 |0,_=>ej.no (by decide)
 |k+1,a=>by
  have aO:=GH l n k
  rw [cn]
  split
  · exact PI aO l n _ _ (Int.le_refl _)
  split
  · exact GD aO l n _ _ _ _ (by simp [iL];omega)
  split
  · exact GF aO l n _ _ _ _ _ (by simp [iL];omega)
  split
  · exact (GG ..).from (by omega)
  split
  · exact GG ..
  split
  · exact ej.yes (by first|(rw [og];omega)|(have:=og 0 0 [];simp only [cS];omega))
  · exact PJ aO l n a
noncomputable def hN (l:List Tok) (n a:Int):bm ar:=(cn l n 6 a).bind fun x b9=>if dm x=0 then .ok x b9 else .bad (dm x) (cJ l n a)
section
variable {l:List Tok} {n a e q cd ay bZ:Int} {x:ar}
theorem bj.sz (o:bj l (cn l n 6 a) x a e q cd ay bZ) (he:e=0) (au:ay=0) (av:l.length≤5000) (aA:0≤a):hk x≤1000000000:=by
 have h:=o.ok he
 obtain ⟨rfl,rfl⟩:=h.y au
 have:=(GH l n 6 a).h (h.f▸au)
 have:=o.ab
 omega
theorem bj.PK (o:bj l (cn l n 6 a) x a e q cd ay bZ) (h:ay=0→dm x=0):bj l (hN l n a) x a e q cd ay bZ:=by
 refine ⟨fun he=>?_,o.st,o.bh,o.ab,o.bW,o.gt⟩
 have I:=o.ok he
 by_cases au:ay=0
 · obtain ⟨rfl,rfl⟩:=I.y au
   rw [hN,bm.bind,if_pos (by rw [←I.f];exact au),if_pos (h au)]
   exact ⟨au,fun _=>⟨rfl,rfl⟩,fun h=>absurd au h⟩
 · rw [hN,bm.bind,if_neg (by rw [←I.f];exact au)]
   exact ⟨I.f,fun h=>absurd h au,fun _=>I.z au⟩
theorem bj.PL (o:bj l (cn l n 6 a) x a e q cd ay bZ) (he:e=0) (au:ay=0) (h:dm x≠0):bj l (hN l n a) x a e q cd (dm x) (cJ l n a):=by
 refine ⟨fun he=>?_,fun h=>absurd he h,o.bh,o.ab,Pq x,fun aL=>absurd aL h⟩
 have I:=o.ok he
 obtain ⟨rfl,rfl⟩:=I.y au
 rw [hN,bm.bind,if_pos (by rw [←I.f];exact au),if_neg h]
 exact ⟨rfl,fun aL=>absurd aL h,fun _=>rfl⟩
end
set_option maxHeartbeats 2000000 in
theorem xt (l:List Tok) (n a e q:Int) (k:Nat) (r:Nat) (aO:∀a e q d:Int,d=7- (k:Int)→0≤a→a≤l.length→0≤e→∀(r:Nat) (m:ae),eG [r] m→ch m→∀(K:aa→ae→Prop),(∀bD b9 bY ct,bj l (cn l n k a) bD a e q b9 bY ct→K (cE bD) (ae.a1 m [(r, .cells [.slice false (l.map bS), .int .i64 b9, .int .i64 n, .err 72 bY, .int .i64 ct])]))→bp Tryd.prog 71 [.ptr ⟨r,0,none⟩, .int .i64 d] (ae.a1 m [(r, .cells [.slice false (l.map bS), .int .i64 a, .int .i64 n, .err 72 e, .int .i64 q])]) K) (av:l.length≤5000) (aA:0≤a) (aN:a≤l.length) (he:0≤e) (ai:k=6) (m:ae) (gd:eG [r] m) (K:aa→ae→Prop) (aC:ch m) (ad:∀bD b9 bY ct,bj l (hN l n a) bD a e q b9 bY ct→K (cE bD) (ae.a1 m [(r, .cells [.slice false (l.map bS), .int .i64 b9, .int .i64 n, .err 72 bY, .int .i64 ct])])):bp Tryd.prog 39 [.ptr ⟨r,0,none⟩] (ae.a1 m [(r, .cells [.slice false (l.map bS), .int .i64 a, .int .i64 n, .err 72 e, .int .i64 q])]) K:=by
 refine enter (c:=dF [] [] [3] [] [] [r]) (vs:=[.loc 0 0]) (L:=[bg l n a e q]) (m:=m) false cw Tryd.mixed Tryd.func39 rfl (k:=1) (by show du [] _ _ _=true;decide+kernel) rfl (gd.ia rfl) ?_
 refine cI [0] [bg l n a e q] (aK (cJ l n a)) rfl (fun bs aq gd=>AP l n a e q (bs.getD 0 0) av (by omega) (by omega) aq gd) ?_
 refine cc 72 [0] (σ:=ar×Int×Int×Int) (fun ⟨bI,b1,bt,bP⟩=>bj l (cn l n k a) bI a e q b1 bt bP) (fun ⟨bI,b1,bt,bP⟩=>ic bI) (fun ⟨bI,b1,bt,bP⟩=>[bg l n b1 bt bP]) rfl (fun _=>rfl) (fun bs aq gd an K ad=>aO a e q 1 (by omega) (by omega) (by omega) (by omega) (bs.getD 0 0) aq gd (ch.up an aC) K (fun eJ bO bF bG aL=>ad (eJ,bO,bF,bG) aL)) ?_
 rintro ⟨bI,b1,bt,bP⟩ bA
 dsimp only at bA
 have sA:=bA.bh
 have n7:=bA.ab
 have sB:=bA.bW
 refine aU ?_
 refine dc [0,2,3,4] 18 ((bt==0)&&(!((dm bI)==0))) ?_ ?_
 · repeat' first
    |exact ⟨⟨_,rfl,by grind [bT.val]⟩,rfl⟩
    |refine ax (fun _=>?_) (fun _=>?_)
    |refine dV (fun _=>xp bI) rfl ?_
 refine ax (fun I=>?_) (fun I=>?_)
 · replace I:(bt=0)∧(dm bI≠0):=⟨(eq_of_beq (fC I)),(ne_of_beq_false (dt (gS I)))⟩
   refine dV (fun _=>xp bI) rfl ?_
   refine rt rfl fun _=>?_
   show K (.agg [.int .i64 bI.kind, .int .i64 bI.v.kind, .int .i64 bI.v.n, .str bI.v.s, .slice false (bI.v.l.map cC), .slice false (bI.v.f.map cL), .str bI.s, .str bI.t, .slice false (bI.a.map cz), .slice false (bI.n.map cp)]) (ae.a1 m [(r, .cells [.slice false (l.map bS), .int .i64 b1, .int .i64 n, .err 72 (dm bI), .int .i64 (cJ l n a)])])
   subst ai
   exact ad _ _ _ _ (bA.PL (Classical.byContradiction fun c=>by have:=(bA.st c).2.1;omega) I.1 I.2)
 replace I:(bt≠0)∨(dm bI=0):=((gT I).imp (fun q=>(ne_of_beq_false q)) (fun q=>(eq_of_beq (dy q))))
 refine rt rfl fun _=>?_
 show K (.agg [.int .i64 bI.kind, .int .i64 bI.v.kind, .int .i64 bI.v.n, .str bI.v.s, .slice false (bI.v.l.map cC), .slice false (bI.v.f.map cL), .str bI.s, .str bI.t, .slice false (bI.a.map cz), .slice false (bI.n.map cp)]) (ae.a1 m [(r, .cells [.slice false (l.map bS), .int .i64 b1, .int .i64 n, .err 72 bt, .int .i64 bP])])
 subst ai
 exact ad _ _ _ _ (bA.PK fun aS=>I.resolve_left (fun aJ=>aJ aS))
end Go.Proofs
end
section
namespace Go.Proofs
open Go Go.bb Go.b4
set_option maxRecDepth 100000
open Classical in
noncomputable def j6 (a b:ar):Bool:=decide (a=b)
theorem Bq {a b:ar} (h:a=b):j6 a b=true:=by simp [j6,h]
theorem GI {a b:ar} (h:a≠b):j6 a b=false:=by simp [j6,h]
theorem PM {a b:ar}:j6 a b=true↔a=b:=by simp [j6]
theorem ar.ext' {a b:ar} (I:a.kind=b.kind) (J:a.v=b.v) (ak:a.s=b.s) (aH:a.t=b.t) (aQ:a.a=b.a) (bw:a.n=b.n):a=b:=by
 cases a;cases b
 simp only [ar.kind,ar.v,ar.s,ar.t,ar.a,ar.n] at*
 subst I J ak aH aQ bw;rfl
set_option maxHeartbeats 1000000 in
theorem PN (a b:List al) (m:ae) (K:aa→ae→Prop) (ad:K (.bool (decide (a=b))) m):bp Tryd.prog 43 [.slice false (a.map cp), .slice false (b.map cp)] m K:=by
 refine enter (c:=dF [] [0] [] [] [] []) (vs:=[.aI (.slice false (a.map cp)), .aI (.slice false (b.map cp))]) (L:=[]) (m:=m) false cw Tryd.mixed Tryd.func43 rfl (k:=2) (by show du [] _ _ _=true;decide+kernel) rfl (Good.nil m) ?_
 refine ⟨fun b2=>?_⟩
 have rf:a.length≤140737488355328:=dT (o:=false) (b2 0).1
 have S6:b.length≤140737488355328:=dT (o:=false) (b2 1).1
 refine aU ?_
 refine cl ?_
 refine cl ?_
 refine ax (fun I=>?_) (fun I=>?_)
 · refine aU ?_
   refine dE (σ:=Int) [] [0,1,5] 0 (fun i=>([(0,aX (a.map cp)),(1,aX (b.map cp)),(5,aK i)],[],m)) (fun i=>0≤i∧i≤a.length∧a.take i.toNat=b.take i.toNat) (fun i=>a.length- i.toNat) (0) ⟨rfl,rfl⟩ ?_ ?_
   · try dsimp only
     exact ⟨by omega,by omega,rfl⟩
   rintro i aW
   refine aU ?_
   refine cl ?_
   refine ax (fun J=>?_) (fun J=>?_)
   · refine aU ?_
     refine eF (by omega) ?_
     refine eF (by omega) ?_
     refine ax (fun ak=>?_) (fun ak=>?_)
     · refine ax (by omega) ?_
       refine ⟨(i+1),⟨rfl,rfl⟩,?_,?_⟩
       · try dsimp only
         exact ⟨by omega,by omega,by rw [lY aW.1 J,lY aW.1 (by omega),aW.2.2,ak]⟩
       try dsimp only
       omega
     refine b7 rfl fun _=>?_
     show K (.bool false) m
     rw [decide_eq_false (by intro aL;subst aL;exact ak rfl)] at ad;exact ad
   refine b7 rfl fun _=>?_
   show K (.bool true) m
   rw [decide_eq_true (by have:=aW.2.2;rwa [lZ (by omega),lZ (by omega)] at this)] at ad;exact ad
 refine b7 rfl fun _=>?_
 show K (.bool false) m
 rw [decide_eq_false (by intro aL;subst aL;exact I rfl)] at ad;exact ad
set_option maxHeartbeats 4000000 in
theorem PO (a b:ar) (aO:∀v w:ar,dN v<dN a→∀(m:ae) (K:aa→ae→Prop),K (.bool (j6 v w)) m→bp Tryd.prog 23 [cE v,cE w] m K) (m:ae) (K:aa→ae→Prop) (ad:K (.bool (j6 a b)) m):bp Tryd.prog 23 [cE a,cE b] m K:=by
 refine enter (c:=dF [] [0] [2] [] [] []) (vs:=[.aI (cE a), .aI (cE b)]) (L:=[]) (m:=m) false cw Tryd.mixed Tryd.func23 rfl (k:=2) (by show du [] _ _ _=true;decide+kernel) rfl (Good.nil m) ?_
 refine ⟨fun b2=>?_⟩
 have ob:a.v.s.length≤140737488355328:=(b2 0 3 (Nat.le_of_ble_eq_true rfl))
 have pX:a.v.l.length≤140737488355328:=dT (b2 0 4 (Nat.le_of_ble_eq_true rfl))
 have Bc:a.v.f.length≤140737488355328:=dT (b2 0 5 (Nat.le_of_ble_eq_true rfl))
 have Bd:a.s.length≤140737488355328:=(b2 0 6 (Nat.le_of_ble_eq_true rfl))
 have Be:a.t.length≤140737488355328:=(b2 0 7 (Nat.le_of_ble_eq_true rfl))
 have Bf:a.a.length≤140737488355328:=dT (b2 0 8 (Nat.le_of_ble_eq_true rfl))
 have Bg:a.n.length≤140737488355328:=dT (b2 0 9 (Nat.le_of_ble_eq_true rfl))
 have w3:b.v.s.length≤140737488355328:=(b2 1 3 (Nat.le_of_ble_eq_true rfl))
 have w4:b.v.l.length≤140737488355328:=dT (b2 1 4 (Nat.le_of_ble_eq_true rfl))
 have PD:b.v.f.length≤140737488355328:=dT (b2 1 5 (Nat.le_of_ble_eq_true rfl))
 have PE:b.s.length≤140737488355328:=(b2 1 6 (Nat.le_of_ble_eq_true rfl))
 have PF:b.t.length≤140737488355328:=(b2 1 7 (Nat.le_of_ble_eq_true rfl))
 have PG:b.a.length≤140737488355328:=dT (b2 1 8 (Nat.le_of_ble_eq_true rfl))
 have PH:b.n.length≤140737488355328:=dT (b2 1 9 (Nat.le_of_ble_eq_true rfl))
 refine dV (fun _=>Fp a.v b.v) rfl ?_
 refine aU ?_
 refine dc [2,3] 52 ((((((!(a.kind==b.kind))||(!(gm a.v b.v)))||(!(a.s==b.s)))||(!(a.t==b.t)))||(!((a.a.length:Int)==(b.a.length:Int))))||(!(decide (a.n=b.n)))) ?_ ?_
 · repeat' first
    |exact ⟨⟨_,rfl,by grind [bT.val]⟩,rfl⟩
    |refine ax (fun _=>?_) (fun _=>?_)
    |refine cl ?_
    |refine dV (fun _=>PN a.n b.n) rfl ?_
 refine ax (fun I=>?_) (fun I=>?_)
 · replace I:(((((a.kind≠b.kind)∨(gm a.v b.v=false))∨(a.s≠b.s))∨(a.t≠b.t))∨((a.a.length:Int)≠(b.a.length:Int)))∨(decide (a.n=b.n)=false):=((dD I).imp (fun q=>((dD q).imp (fun q=>((dD q).imp (fun q=>((dD q).imp (fun q=>((dD q).imp (fun q=>(ne_of_beq_false (dt q))) (fun q=>(dt q)))) (fun q=>(ne_of_beq_false (dt q))))) (fun q=>(ne_of_beq_false (dt q))))) (fun q=>(ne_of_beq_false (dt q))))) (fun q=>(dt q)))
   refine b7 rfl fun _=>?_
   show K (.bool false) m
   rw [GI (by intro aL;subst aL;simp [pZ rfl] at I)] at ad;exact ad
 replace I:(((((a.kind=b.kind)∧(gm a.v b.v=true))∧(a.s=b.s))∧(a.t=b.t))∧((a.a.length:Int)=(b.a.length:Int)))∧(decide (a.n=b.n)=true):=⟨⟨⟨⟨⟨(eq_of_beq (dy (b8 (b8 (b8 (b8 (b8 I))))))),(dy (dC (b8 (b8 (b8 (b8 I))))))⟩,(eq_of_beq (dy (dC (b8 (b8 (b8 I))))))⟩,(eq_of_beq (dy (dC (b8 (b8 I)))))⟩,(eq_of_beq (dy (dC (b8 I))))⟩,(dy (dC I))⟩
 refine aU ?_
 refine dE (σ:=Int) [] [2,3,6] 2 (fun i=>([(2, .loc 0 0),(3, .loc 1 0),(6,aK i)],[.cells [aK a.kind,aK a.v.kind,aK a.v.n,aR a.v.s,aX (a.v.l.map cC),aX (a.v.f.map cL),aR a.s,aR a.t,aX (a.a.map cz),aX (a.n.map cp)], .cells [aK b.kind,aK b.v.kind,aK b.v.n,aR b.v.s,aX (b.v.l.map cC),aX (b.v.f.map cL),aR b.s,aR b.t,aX (b.a.map cz),aX (b.n.map cp)]],m)) (fun i=>0≤i∧i≤a.a.length∧a.a.take i.toNat=b.a.take i.toNat) (fun i=>a.a.length- i.toNat) (0) ⟨rfl,rfl⟩ ?_ ?_
 · try dsimp only
   exact ⟨by omega,by omega,rfl⟩
 rintro i aW
 refine aU ?_
 refine cl ?_
 refine ax (fun J=>?_) (fun J=>?_)
 · refine aU ?_
   refine fE cE er (by omega) ?_
   refine fE cE er (by omega) ?_
   refine h9 (fun _=>aO (U a.a i) (U b.a i) (jy (cy aW.1 (by assumption)))) ?_
   refine ax (fun ak=>?_) (fun ak=>?_)
   · refine ax (by omega) ?_
     refine ⟨(i+1),⟨rfl,rfl⟩,?_,?_⟩
     · try dsimp only
       exact ⟨by omega,by omega,by rw [lY aW.1 J,lY aW.1 (by omega),aW.2.2,PM.1 ak]⟩
     try dsimp only
     omega
   refine b7 rfl fun _=>?_
   show K (.bool false) m
   rw [GI (by intro aL;subst aL;rw [Bq rfl] at ak;cases ak)] at ad;exact ad
 refine b7 rfl fun _=>?_
 show K (.bool true) m
 rw [Bq (ar.ext' I.1.1.1.1.1 (qY.1 I.1.1.1.1.2) I.1.1.1.2 I.1.1.2 (by have:=aW.2.2;rwa [lZ (by omega),lZ (by omega)] at this) (of_decide_eq_true I.2))] at ad;exact ad
theorem GJ:∀(n:Nat) (a b:ar),dN a<n→∀(m:ae) (K:aa→ae→Prop),K (.bool (j6 a b)) m→bp Tryd.prog 23 [cE a,cE b] m K
 |0,_,_,h=>absurd h (Nat.not_lt_zero _)
 |n+1,a,b,h=>fun m K ad=>PO a b (fun v w ba=>GJ n v w (by omega)) m K ad
theorem GK (a b:ar) (m:ae) (K:aa→ae→Prop) (ad:K (.bool (j6 a b)) m):bp Tryd.prog 23 [cE a,cE b] m K:=GJ (dN a+1) a b (Nat.lt_succ_self _) m K ad
end Go.Proofs
end
section
namespace Go.Proofs
open Go Go.bb Go.b4
set_option maxRecDepth 100000
def PQ:ar:= .mk 2 cS [97] [] [] []
def Ar:ar:= .mk 1 (.mk 1 7 [] [] []) [] [] [] []
def cD:ar:= .mk 5 cS [] [] [PQ,Ar] []
theorem u9 (e:ar):j6 e e=true:=Bq rfl
set_option maxHeartbeats 4000000 in
theorem PR (e:ar) (bE:Int) (aO:∀x:ar,dN x<dN e→∀(m:ae) (K:aa→ae→Prop),K (.int .i64 (mM bE x)) m→bp Tryd.prog 28 [cE x, .int .i64 bE] m K) (m:ae) (K:aa→ae→Prop) (ad:K (.int .i64 (mM bE e)) m):bp Tryd.prog 28 [cE e, .int .i64 bE] m K:=by
 refine enter (c:=dF [20,24,44,65] [0] [3,7] [] [] []) (vs:=[.aI (cE e), .aI (.int .i64 bE)]) (L:=[]) (m:=m) false cw Tryd.mixed Tryd.func28 rfl (k:=2) (by show du [] _ _ _=true;decide+kernel) rfl (Good.nil m) ?_
 refine ⟨fun b2=>?_⟩
 have ob:e.v.s.length≤140737488355328:=(b2 0 3 (Nat.le_of_ble_eq_true rfl))
 have pX:e.v.l.length≤140737488355328:=dT (b2 0 4 (Nat.le_of_ble_eq_true rfl))
 have Bc:e.v.f.length≤140737488355328:=dT (b2 0 5 (Nat.le_of_ble_eq_true rfl))
 have Bd:e.s.length≤140737488355328:=(b2 0 6 (Nat.le_of_ble_eq_true rfl))
 have Be:e.t.length≤140737488355328:=(b2 0 7 (Nat.le_of_ble_eq_true rfl))
 have Bf:e.a.length≤140737488355328:=dT (b2 0 8 (Nat.le_of_ble_eq_true rfl))
 have Bg:e.n.length≤140737488355328:=dT (b2 0 9 (Nat.le_of_ble_eq_true rfl))
 refine ax (by omega) ?_
 refine ax (by omega) ?_
 refine h9 (fun _=>Ax bE (dq e.v+1) e.v (Nat.lt_succ_self _)) ?_
 refine cl ?_
 refine aU ?_
 refine dE (σ:=Int×Int) [] [1,2,5,6] 1 (fun ⟨gV,i⟩=>([(1,aK bE),(2, .loc 0 0),(5,aK gV),(6,aK i)],[.cells [aK e.kind,aK e.v.kind,aK e.v.n,aR e.v.s,aX (e.v.l.map cC),aX (e.v.f.map cL),aR e.s,aR e.t,aX (e.a.map cz),aX (e.n.map cp)]],m)) (fun ⟨gV,i⟩=>0≤i∧i≤e.n.length∧l3 bE e.n (AW bE e)=l3 bE (e.n.drop i.toNat) gV) (fun ⟨gV,i⟩=>e.n.length- i.toNat) (IntKind.i64.wrap ((IntKind.i64.wrap (((1+(e.s.length:Int))+(e.t.length:Int))+(kv bE e.v)))+(e.n.length:Int)),0) ⟨rfl,rfl⟩ ?_ ?_
 · try dsimp only
   exact ⟨by omega,by omega,rfl⟩
 rintro ⟨gV,i⟩ aW
 dsimp only at aW
 refine aU ?_
 refine dc [1,2,5,6] 34 ((decide (i<(e.n.length:Int)))&&(decide (gV≤bE))) ?_ ?_
 · repeat' first
    |exact ⟨⟨_,rfl,by grind [bT.val]⟩,rfl⟩
    |refine ax (fun _=>?_) (fun _=>?_)
    |refine cl ?_
 refine ax (fun I=>?_) (fun I=>?_)
 · replace I:(i<(e.n.length:Int))∧(gV≤bE):=⟨(of_decide_eq_true (fC I)),(of_decide_eq_true (gS I))⟩
   refine aU ?_
   refine eF (by omega) ?_
   refine ax (by omega) ?_
   refine ⟨(IntKind.i64.wrap (gV+((U e.n i).length:Int)),i+1),⟨rfl,rfl⟩,?_,?_⟩
   · try dsimp only
     exact ⟨by omega,by omega,by rw [aW.2.2,OD aW.1 I.1 I.2]⟩
   try dsimp only
   omega
 replace I:((e.n.length:Int)≤i)∨(bE<gV):=((gT I).imp (fun q=>(Int.not_lt.1 (of_decide_eq_false q))) (fun q=>(Int.not_le.1 (of_decide_eq_false q))))
 refine aU ?_
 refine dE (σ:=Int×Int) [] [1,2,5,7] 1 (fun ⟨e3,k⟩=>([(1,aK bE),(2, .loc 0 0),(5,aK e3),(7,aK k)],[.cells [aK e.kind,aK e.v.kind,aK e.v.n,aR e.v.s,aX (e.v.l.map cC),aX (e.v.f.map cL),aR e.s,aR e.t,aX (e.a.map cz),aX (e.n.map cp)]],m)) (fun ⟨e3,k⟩=>0≤k∧k≤e.a.length∧mM bE e=ny bE (e.a.drop k.toNat) e3) (fun ⟨e3,k⟩=>e.a.length- k.toNat) (gV,0) ⟨rfl,rfl⟩ ?_ ?_
 · try dsimp only
   refine ⟨by omega,by omega,?_⟩
   have q:l3 bE (e.n.drop i.toNat) gV=gV:=by
    by_cases aJ:bE<gV
    · exact OC _ _ _ aJ
    · have ab:(e.n.length:Int)≤i:=by
       rcases I with h|h<;>omega
      rw [List.drop_eq_nil_of_le (by omega)];simp only [l3]
   rw [OA,aW.2.2,q];rfl
 rintro ⟨e3,k⟩ cR
 dsimp only at cR
 refine aU ?_
 refine dc [1,2,5,7] 54 ((decide (k<(e.a.length:Int)))&&(decide (e3≤bE))) ?_ ?_
 · repeat' first
    |exact ⟨⟨_,rfl,by grind [bT.val]⟩,rfl⟩
    |refine ax (fun _=>?_) (fun _=>?_)
    |refine cl ?_
 refine ax (fun J=>?_) (fun J=>?_)
 · replace J:(k<(e.a.length:Int))∧(e3≤bE):=⟨(of_decide_eq_true (fC J)),(of_decide_eq_true (gS J))⟩
   refine aU ?_
   refine fE cE er (by omega) ?_
   refine dV (fun _=>aO (U e.a k) (jy (cy cR.1 J.1))) rfl ?_
   refine ax (by omega) ?_
   refine ⟨(IntKind.i64.wrap (e3+(mM bE (U e.a k))),k+1),⟨rfl,rfl⟩,?_,?_⟩
   · try dsimp only
     exact ⟨by omega,by omega,by rw [cR.2.2,OE cR.1 J.1 J.2]⟩
   try dsimp only
   omega
 replace J:((e.a.length:Int)≤k)∨(bE<e3):=((gT J).imp (fun q=>(Int.not_lt.1 (of_decide_eq_false q))) (fun q=>(Int.not_le.1 (of_decide_eq_false q))))
 refine b7 rfl fun _=>?_
 show K (.int .i64 e3) m
 have q:mM bE e=e3:=by
  rw [cR.2.2]
  by_cases aJ:bE<e3
  · exact OB _ _ _ aJ
  · have ab:(e.a.length:Int)≤k:=by
     rcases J with h|h<;>omega
    rw [List.drop_eq_nil_of_le (by omega)];simp only [ny]
 rw [q] at ad;exact ad
theorem Br (bE:Int):∀(n:Nat) (e:ar),dN e<n→∀(m:ae) (K:aa→ae→Prop),K (.int .i64 (mM bE e)) m→bp Tryd.prog 28 [cE e, .int .i64 bE] m K
 |0,_,h=>absurd h (Nat.not_lt_zero _)
 |n+1,e,h=>fun m K ad=>PR e bE (fun x ao=>Br bE n x (by omega)) m K ad
end Go.Proofs
end
section
namespace Go.Proofs
open Go Go.bb Go.b4
set_option maxRecDepth 100000
structure e7 where
 kind:al
 name:al
 parts:List (al×ar)
instance:Inhabited e7:=⟨⟨[],[],[]⟩⟩
structure df where
 name:al
 ins:List (al×a6)
 res:List e7
 outs:List (al×ar)
instance:Inhabited df:=⟨⟨[],[],[],[]⟩⟩
def fq (p:al×a6):aa:= .agg [.str p.1, .int .i64 p.2.kind, .int .i64 p.2.n, .str p.2.s, .slice false (p.2.l.map cC), .slice false (p.2.f.map cL)]
def dO (p:al×ar):aa:= .agg [.str p.1, .int .i64 p.2.kind, .int .i64 p.2.v.kind, .int .i64 p.2.v.n, .str p.2.v.s, .slice false (p.2.v.l.map cC), .slice false (p.2.v.f.map cL), .str p.2.s, .str p.2.t, .slice false (p.2.a.map cz), .slice false (p.2.n.map cp)]
def fh (r:e7):aa:= .agg [.str r.kind, .str r.name, .slice false (r.parts.map dO)]
def ew (s:df):aa:= .agg [.str s.name, .slice false (s.ins.map fq), .slice false (s.res.map fh), .slice false (s.outs.map dO)]
theorem rh {α:Type} [Inhabited α] {β:Type} [Inhabited β] {f:α→β} {l:List α} {i:Int} (aA:0≤i) (ab:i<l.length):U (l.map f) i=f (U l i):=by
 have aJ:i.toNat<l.length:=by omega
 simp [U,List.getD_eq_getElem?_getD,aJ]
end Go.Proofs
end
section
namespace Go.Proofs
open Go Go.bb Go.b4
set_option maxRecDepth 100000
def me:List (al×a6)→Int
 |[]=>0
 |p::r=>if bJ p.1=true∧p.2.kind≤3∧bH p.2=0 then me r else 3
noncomputable def jI (l:List (al×ar)):Nat→Int→Int
 |0,_=>0
 |n+1,i=>if bJ (U l i).1=true∧(0<i→Op.bytesLess (U l (i- 1)).1 (U l i).1=true) then (if dm (U l i).2=0 then jI l n (i+1) else dm (U l i).2) else 3
noncomputable def kW (l:List (al×ar)):Int:=jI l l.length 0
noncomputable def kX:List e7→Int
 |[]=>0
 |x::r=>if bJ x.kind=true∧bJ x.name=true then (if 6<(x.parts.length:Int) then 2 else if kW x.parts=0 then kX r else kW x.parts) else 3
noncomputable def kY:List (al×ar)→Int
 |[]=>0
 |p::r=>if bJ p.1=true then (if dm p.2=0 then kY r else dm p.2) else 3
noncomputable def p5 (s:df) (b:Int):Int:=if b≠0 then b else kY s.outs
noncomputable def p6 (s:df) (a:Int):Int:=if a≠0 then a else p5 s (kX s.res)
noncomputable def fW (s:df):Int:=if bJ s.name=false then 3 else if 8<(s.ins.length:Int)∨8<(s.res.length:Int)∨8<(s.outs.length:Int) then 2 else p6 s (me s.ins)
theorem GL {l:List (al×a6)} {i:Int} (aA:0≤i) (ab:i<l.length):me (l.drop i.toNat)=if bJ (U l i).1=true∧(U l i).2.kind≤3∧bH (U l i).2=0 then me (l.drop (i+1).toNat) else 3:=by rw [iZ aA ab,me]
theorem va {l:List e7} {i:Int} (aA:0≤i) (ab:i<l.length):kX (l.drop i.toNat)=if bJ (U l i).kind=true∧bJ (U l i).name=true then (if 6<((U l i).parts.length:Int) then 2 else if kW (U l i).parts=0 then kX (l.drop (i+1).toNat) else kW (U l i).parts) else 3:=by rw [iZ aA ab,kX]
theorem Bs {l:List (al×ar)} {i:Int} (aA:0≤i) (ab:i<l.length):kY (l.drop i.toNat)=if bJ (U l i).1=true then (if dm (U l i).2=0 then kY (l.drop (i+1).toNat) else dm (U l i).2) else 3:=by rw [iZ aA ab,kY]
theorem Bt {l:List (al×ar)} {i:Int} (ab:i<l.length):jI l ((l.length:Int)- i).toNat i=if bJ (U l i).1=true∧(0<i→Op.bytesLess (U l (i- 1)).1 (U l i).1=true) then (if dm (U l i).2=0 then jI l ((l.length:Int)- (i+1)).toNat (i+1) else dm (U l i).2) else 3:=by
 have e:((l.length:Int)- i).toNat=((l.length:Int)- (i+1)).toNat+1:=by omega
 rw [e,jI]
theorem PS {l:List (al×ar)} {i:Int} (ab:(l.length:Int)≤i):jI l ((l.length:Int)- i).toNat i=0:=by
 rw [show ((l.length:Int)- i).toNat=0 by omega,jI]
theorem PT (l:List (al×ar)):kW l=jI l ((l.length:Int)- 0).toNat 0:=by rw [kW];congr 1
theorem PU {s:df} {a:Int} (h:a≠0):p6 s a=a:=by rw [p6,if_pos h]
theorem xu {s:df} {a:Int} (h:a≠0):p5 s a=a:=by rw [p5,if_pos h]
set_option maxHeartbeats 2000000 in
theorem sP (s:al) (m:ae) (K:aa→ae→Prop) (ad:K (.bool (bJ s)) m):bp Tryd.prog 62 [.str s] m K:=by
 refine enter (c:=dF [] [0] [5,8] [] [] []) (vs:=[.aI (.str s)]) (L:=[]) (m:=m) false cw Tryd.mixed Tryd.func62 rfl (k:=1) (by show du [] _ _ _=true;decide+kernel) rfl (Good.nil m) ?_
 refine ⟨fun b2=>?_⟩
 have rf:s.length≤140737488355328:=b2 0
 refine aU ?_
 refine dE (σ:=Int) [] [0,6,7] 0 (fun i=>([(0,aR s),(6,aK (s.length:Int)),(7,aK i)],[],m)) (fun i=>0≤i∧i≤s.length∧ky s true=ky (s.drop i.toNat) (i==0)) (fun i=>s.length- i.toNat) (0) ⟨rfl,rfl⟩ ?_ ?_
 · try dsimp only
   exact ⟨by omega,by omega,by simp⟩
 rintro i aW
 refine aU ?_
 refine ax (fun I=>?_) (fun I=>?_)
 · refine aU ?_
   refine ax (by omega) ?_
   refine dc [0,6,7] 30 (((decide (((U s i).toNat:Int)<97))||(decide (122<((U s i).toNat:Int))))&&(((i==0)||(decide (((U s i).toNat:Int)<48)))||(decide (57<((U s i).toNat:Int))))) ?_ ?_
   · repeat' first
      |exact ⟨⟨_,rfl,by grind [bT.val]⟩,rfl⟩
      |refine ax (fun _=>?_) (fun _=>?_)
   refine ax (fun J=>?_) (fun J=>?_)
   · replace J:((((U s i).toNat:Int)<97)∨(122<((U s i).toNat:Int)))∧(((i=0)∨(((U s i).toNat:Int)<48))∨(57<((U s i).toNat:Int))):=⟨((dD (fC J)).imp (fun q=>(of_decide_eq_true q)) (fun q=>(of_decide_eq_true q))),((dD (gS J)).imp (fun q=>((dD q).imp (fun q=>(eq_of_beq q)) (fun q=>(of_decide_eq_true q)))) (fun q=>(of_decide_eq_true q)))⟩
     refine b7 rfl fun _=>ga ad ?_
     show aa.bool (bJ s)=aa.bool false
     refine congrArg aa.bool ?_
     have ag:(l0 (U s i)||(!(i==0)&&mL (U s i)))=false:=by
      rw [Bool.eq_false_iff];intro aL;simp [l0,mL] at aL;omega
     rw [bJ,aW.2.2,wZ aW.1 I,ag];rfl
   replace J:((97≤((U s i).toNat:Int))∧(((U s i).toNat:Int)≤122))∨(((i≠0)∧(48≤((U s i).toNat:Int)))∧(((U s i).toNat:Int)≤57)):=((gT J).imp (fun q=>⟨(Int.not_lt.1 (of_decide_eq_false (b8 q))),(Int.not_lt.1 (of_decide_eq_false (dC q)))⟩) (fun q=>⟨⟨(ne_of_beq_false (b8 (b8 q))),(Int.not_lt.1 (of_decide_eq_false (dC (b8 q))))⟩,(Int.not_lt.1 (of_decide_eq_false (dC q)))⟩))
   refine ax (by omega) ?_
   refine ⟨(i+1),⟨rfl,rfl⟩,?_,?_⟩
   · try dsimp only
     have ag:(l0 (U s i)||(!(i==0)&&mL (U s i)))=true:=by simp [l0,mL];omega
     exact ⟨by omega,by omega,by rw [aW.2.2,wZ aW.1 I,ag];rfl⟩
   try dsimp only
   omega
 refine dc [] 2 ((!(s==([])))&&(decide ((s.length:Int)≤12))) ?_ ?_
 · repeat' first
    |exact ⟨⟨_,rfl,by grind [bT.val]⟩,rfl⟩
    |refine ax (fun _=>?_) (fun _=>?_)
 refine b7 rfl fun _=>ga ad ?_
 show aa.bool (bJ s)=aa.bool ((!(s==([])))&&(decide ((s.length:Int)≤12)))
 refine congrArg aa.bool ?_
 have aN:ky s true=true:=by rw [aW.2.2,List.drop_eq_nil_of_le (by omega)];rfl
 rw [bJ,aN];cases s<;>simp
set_option maxHeartbeats 4000000 in
theorem PV (s:df) (m:ae) (K:aa→ae→Prop) (ad:K (.err 72 (fW s)) m):bp Tryd.prog 45 [ew s] m K:=by
 refine enter (c:=dF [] [0] [3,8,14,21] [] [] []) (vs:=[.aI (ew s)]) (L:=[]) (m:=m) true cw Tryd.mixed Tryd.func45 rfl (k:=1) (by show du [] _ _ _=true;decide+kernel) rfl (Good.nil m) ?_
 refine ⟨fun b2=>?_⟩
 have rf:s.name.length≤140737488355328:=(b2 0 0 (Nat.le_of_ble_eq_true rfl))
 have PW:s.ins.length≤140737488355328:=dT (b2 0 1 (Nat.le_of_ble_eq_true rfl))
 have sq:s.res.length≤140737488355328:=dT (b2 0 2 (Nat.le_of_ble_eq_true rfl))
 have ob:s.outs.length≤140737488355328:=dT (b2 0 3 (Nat.le_of_ble_eq_true rfl))
 refine aU ?_
 refine dV (fun _=>sP s.name) rfl ?_
 refine ax (fun I=>?_) (fun I=>?_)
 · refine aU ?_
   refine dc [1] 33 (((decide (8<(s.ins.length:Int)))||(decide (8<(s.res.length:Int))))||(decide (8<(s.outs.length:Int)))) ?_ ?_
   · repeat' first
      |exact ⟨⟨_,rfl,by grind [bT.val]⟩,rfl⟩
      |refine ax (fun _=>?_) (fun _=>?_)
      |refine cl ?_
   refine ax (fun J=>?_) (fun J=>?_)
   · replace J:((8<(s.ins.length:Int))∨(8<(s.res.length:Int)))∨(8<(s.outs.length:Int)):=((dD J).imp (fun q=>((dD q).imp (fun q=>(of_decide_eq_true q)) (fun q=>(of_decide_eq_true q)))) (fun q=>(of_decide_eq_true q)))
     have cD:fW s=(2:Int):=by
      rw [fW,if_neg (by rw [I];simp),if_pos (by omega)]
     rw [cD] at ad
     exact b7 rfl fun _=>ad
   replace J:(((s.ins.length:Int)≤8)∧((s.res.length:Int)≤8))∧((s.outs.length:Int)≤8):=⟨⟨(Int.not_lt.1 (of_decide_eq_false (b8 (b8 J)))),(Int.not_lt.1 (of_decide_eq_false (dC (b8 J))))⟩,(Int.not_lt.1 (of_decide_eq_false (dC J)))⟩
   refine aU ?_
   refine cl ?_
   refine dE (σ:=Int) [] [1,36,37,38] 1 (fun i=>([(1, .loc 0 0),(36,aX (s.ins.map fq)),(37,aK (s.ins.length:Int)),(38,aK i)],[.cells [aR s.name,aX (s.ins.map fq),aX (s.res.map fh),aX (s.outs.map dO)]],m)) (fun i=>0≤i∧i≤s.ins.length∧fW s=p6 s (me (s.ins.drop i.toNat))) (fun i=>s.ins.length- i.toNat) (0) ⟨rfl,rfl⟩ ?_ ?_
   · try dsimp only
     exact ⟨by omega,by omega,by rw [fW,if_neg (by rw [I];simp),if_neg (by omega)];rfl⟩
   rintro i aW
   refine aU ?_
   refine ax (fun ak=>?_) (fun ak=>?_)
   · refine aU ?_
     refine eF (by omega) ?_
     refine dc [1,36,37,38] 51 ((!(bJ ((U s.ins i).1)))||(!(decide (((U s.ins i).2).kind≤3)&&(bH ((U s.ins i).2)==0)))) ?_ ?_
     · repeat' first
        |exact ⟨⟨_,rfl,by grind [bT.val]⟩,rfl⟩
        |refine ax (fun _=>?_) (fun _=>?_)
        |refine dV (fun _=>sP ((U s.ins i).1)) rfl ?_
        |refine dV (fun _=>Bh ((U s.ins i).2)) rfl ?_
     refine ax (fun aH=>?_) (fun aH=>?_)
     · replace aH:(bJ ((U s.ins i).1)=false)∨((decide (((U s.ins i).2).kind≤3)&&(bH ((U s.ins i).2)==0))=false):=((dD aH).imp (fun q=>(dt q)) (fun q=>(dt q)))
       have cD:fW s=(3:Int):=by
        rw [aW.2.2,GL aW.1 ak,if_neg (fun q=>by rcases aH with h|h<;>simp_all),PU (by decide)]
       rw [cD] at ad
       exact b7 rfl fun _=>ad
     replace aH:(bJ ((U s.ins i).1)=true)∧((decide (((U s.ins i).2).kind≤3)&&(bH ((U s.ins i).2)==0))=true):=⟨(dy (b8 aH)),(dy (dC aH))⟩
     refine ax (by omega) ?_
     refine ⟨(i+1),⟨rfl,rfl⟩,?_,?_⟩
     · try dsimp only
       exact ⟨by omega,by omega,by rw [aW.2.2,GL aW.1 ak,if_pos ⟨aH.1,by have:=aH.2;simp at this;exact this⟩]⟩
     try dsimp only
     omega
   refine aU ?_
   refine cl ?_
   refine dE (σ:=Int) [] [1,55,56,57] 1 (fun i2=>([(1, .loc 0 0),(55,aX (s.res.map fh)),(56,aK (s.res.length:Int)),(57,aK i2)],[.cells [aR s.name,aX (s.ins.map fq),aX (s.res.map fh),aX (s.outs.map dO)]],m)) (fun i2=>0≤i2∧i2≤s.res.length∧fW s=p5 s (kX (s.res.drop i2.toNat))) (fun i2=>s.res.length- i2.toNat) (0) ⟨rfl,rfl⟩ ?_ ?_
   · try dsimp only
     exact ⟨by omega,by omega,by rw [aW.2.2,List.drop_eq_nil_of_le (by omega)];rfl⟩
   rintro i2 cR
   refine aU ?_
   refine ax (fun aQ=>?_) (fun aQ=>?_)
   · refine aU ?_
     refine eF (by omega) ?_
     refine aU ?_
     refine dc [1,6,55,56,57] 70 ((!(bJ ((U s.res i2).kind)))||(!(bJ ((U s.res i2).name)))) ?_ ?_
     · repeat' first
        |exact ⟨⟨_,rfl,by grind [bT.val]⟩,rfl⟩
        |refine ax (fun _=>?_) (fun _=>?_)
        |refine dV (fun _=>sP ((U s.res i2).kind)) rfl ?_
        |refine dV (fun _=>sP ((U s.res i2).name)) rfl ?_
     refine ax (fun bw=>?_) (fun bw=>?_)
     · replace bw:(bJ ((U s.res i2).kind)=false)∨(bJ ((U s.res i2).name)=false):=((dD bw).imp (fun q=>(dt q)) (fun q=>(dt q)))
       have cD:fW s=(3:Int):=by
        rw [cR.2.2,va cR.1 aQ,if_neg (fun q=>by rcases bw with h|h<;>simp_all),xu (by decide)]
       rw [cD] at ad
       exact b7 rfl fun _=>ad
     replace bw:(bJ ((U s.res i2).kind)=true)∧(bJ ((U s.res i2).name)=true):=⟨(dy (b8 bw)),(dy (dC bw))⟩
     refine aU ?_
     refine cl ?_
     refine ax (fun db=>?_) (fun db=>?_)
     · have cD:fW s=(2:Int):=by
        rw [cR.2.2,va cR.1 aQ,if_pos bw,if_pos db,xu (by decide)]
       rw [cD] at ad
       exact b7 rfl fun _=>ad
     refine cl ?_
     refine dE (σ:=Int) [] [1,6,55,56,57,78,79,80] 2 (fun k=>([(1, .loc 0 0),(6, .loc 1 0),(55,aX (s.res.map fh)),(56,aK (s.res.length:Int)),(57,aK i2),(78,aX (((U s.res i2).parts).map dO)),(79,aK (((U s.res i2).parts).length:Int)),(80,aK k)],[.cells [aR s.name,aX (s.ins.map fq),aX (s.res.map fh),aX (s.outs.map dO)], .cells [aR ((U s.res i2).kind),aR ((U s.res i2).name),aX (((U s.res i2).parts).map dO)]],m)) (fun k=>0≤k∧k≤(U s.res i2).parts.length∧kW (U s.res i2).parts=jI (U s.res i2).parts (((U s.res i2).parts.length:Int)- k).toNat k) (fun k=>(U s.res i2).parts.length- k.toNat) (0) ⟨rfl,rfl⟩ ?_ ?_
     · try dsimp only
       exact ⟨by omega,by omega,PT _⟩
     rintro k il
     refine aU ?_
     refine ax (fun cA=>?_) (fun cA=>?_)
     · refine aU ?_
       refine eF (by omega) ?_
       refine aU ?_
       refine dc [1,6,8,55,56,57,78,79,80] 104 ((!(bJ ((U ((U s.res i2).parts) k).1)))||((decide (0<k))&&(!(Op.bytesLess ((U ((U s.res i2).parts) (k- 1)).1) ((U ((U s.res i2).parts) k).1))))) ?_ ?_
       · repeat' first
          |exact ⟨⟨_,rfl,by grind [bT.val]⟩,rfl⟩
          |refine ax (fun _=>?_) (fun _=>?_)
          |refine h9 (fun _=>sP ((U ((U s.res i2).parts) k).1)) ?_
          |refine ax (by omega) ?_
          |refine eF (by omega) ?_
       refine ax (fun dx=>?_) (fun dx=>?_)
       · replace dx:(bJ ((U ((U s.res i2).parts) k).1)=false)∨((0<k)∧(Op.bytesLess ((U ((U s.res i2).parts) (k- 1)).1) ((U ((U s.res i2).parts) k).1)=false)):=((dD dx).imp (fun q=>(dt q)) (fun q=>⟨(of_decide_eq_true (fC q)),(dt (gS q))⟩))
         have cD:fW s=(3:Int):=by
          have q:kW (U s.res i2).parts=3:=by
           rw [il.2.2,Bt cA,if_neg (fun q=>by rcases dx with h|h;(· rw [h] at q;cases q.1);(· have:=q.2 h.1;rw [h.2] at this;cases this))]
          rw [cR.2.2,va cR.1 aQ,if_pos bw,if_neg (by omega),if_neg (by omega),q,xu (by decide)]
         rw [cD] at ad
         exact b7 rfl fun _=>ad
       replace dx:(bJ ((U ((U s.res i2).parts) k).1)=true)∧((k≤0)∨(Op.bytesLess ((U ((U s.res i2).parts) (k- 1)).1) ((U ((U s.res i2).parts) k).1)=true)):=⟨(dy (b8 dx)),((gT (dC dx)).imp (fun q=>(Int.not_lt.1 (of_decide_eq_false q))) (fun q=>(dy q)))⟩
       refine dV (fun _=>xp ((U ((U s.res i2).parts) k).2)) rfl ?_
       refine ax (fun eY=>?_) (fun eY=>?_)
       · refine ax (by omega) ?_
         refine ⟨(k+1),⟨rfl,rfl⟩,?_,?_⟩
         · try dsimp only
           exact ⟨by omega,by omega,by rw [il.2.2,Bt cA,if_pos ⟨dx.1,fun q=>dx.2.resolve_left (by omega)⟩,if_pos eY]⟩
         try dsimp only
         omega
       have cD:fW s=(dm ((U ((U s.res i2).parts) k).2):Int):=by
        have q:kW (U s.res i2).parts=dm (U (U s.res i2).parts k).2:=by
         rw [il.2.2,Bt cA,if_pos ⟨dx.1,fun q=>dx.2.resolve_left (by omega)⟩,if_neg eY]
        rw [cR.2.2,va cR.1 aQ,if_pos bw,if_neg (by omega),if_neg (by rw [q];exact eY),q,xu eY]
       rw [cD] at ad
       exact b7 rfl fun _=>ad
     refine ax (by omega) ?_
     refine ⟨(i2+1),⟨rfl,rfl⟩,?_,?_⟩
     · try dsimp only
       have q:kW (U s.res i2).parts=0:=by rw [il.2.2,PS (by omega)]
       exact ⟨by omega,by omega,by rw [cR.2.2,va cR.1 aQ,if_pos bw,if_neg (by omega),if_pos q]⟩
     try dsimp only
     omega
   refine aU ?_
   refine cl ?_
   refine dE (σ:=Int) [] [115,116,117] 1 (fun i3=>([(115,aX (s.outs.map dO)),(116,aK (s.outs.length:Int)),(117,aK i3)],[.cells [aR s.name,aX (s.ins.map fq),aX (s.res.map fh),aX (s.outs.map dO)]],m)) (fun i3=>0≤i3∧i3≤s.outs.length∧fW s=kY (s.outs.drop i3.toNat)) (fun i3=>s.outs.length- i3.toNat) (0) ⟨rfl,rfl⟩ ?_ ?_
   · try dsimp only
     exact ⟨by omega,by omega,by rw [cR.2.2,List.drop_eq_nil_of_le (by omega)];rfl⟩
   rintro i3 il
   refine aU ?_
   refine ax (fun hq=>?_) (fun hq=>?_)
   · refine aU ?_
     refine eF (by omega) ?_
     refine aU ?_
     refine dV (fun _=>sP ((U s.outs i3).1)) rfl ?_
     refine ax (fun l1=>?_) (fun l1=>?_)
     · refine dV (fun _=>xp ((U s.outs i3).2)) rfl ?_
       refine ax (fun re=>?_) (fun re=>?_)
       · refine ax (by omega) ?_
         refine ⟨(i3+1),⟨rfl,rfl⟩,?_,?_⟩
         · try dsimp only
           exact ⟨by omega,by omega,by rw [il.2.2,Bs il.1 hq,if_pos l1,if_pos re]⟩
         try dsimp only
         omega
       have cD:fW s=(dm ((U s.outs i3).2):Int):=by
        rw [il.2.2,Bs il.1 hq,if_pos l1,if_neg re]
       rw [cD] at ad
       exact b7 rfl fun _=>ad
     have cD:fW s=(3:Int):=by
      rw [il.2.2,Bs il.1 hq,if_neg (by rw [l1];simp)]
     rw [cD] at ad
     exact b7 rfl fun _=>ad
   have cD:fW s=(0:Int):=by
    rw [il.2.2,List.drop_eq_nil_of_le (by omega)];rfl
   rw [cD] at ad
   exact b7 rfl fun _=>ad
 have cD:fW s=(3:Int):=by
  rw [fW,if_pos I]
 rw [cD] at ad
 exact b7 rfl fun _=>ad
end Go.Proofs
end
section
namespace Go.Proofs
open Go Go.bb Go.b4
set_option maxRecDepth 100000
theorem xv:∀{l:List (al×a6)},me l=0→∀p∈l,bJ p.1=true∧bH p.2=0
 |[],_,p,aB=>by cases aB
 |x::r,h,p,aB=>by
  rw [me] at h
  split at h
  · rename_i c
    rcases List.mem_cons.1 aB with rfl|aB
    · exact ⟨c.1,c.2.2⟩
    · exact xv h p aB
  · cases h
theorem GM {l:List (al×ar)}:∀(n:Nat) (i:Int),0≤i→jI l n i=0→∀j:Int,i≤j→j<i+n→dm (U l j).2=0
 |0,i,_,_,j,I,J=>by omega
 |n+1,i,aA,h,j,I,J=>by
  rw [jI] at h
  split at h
  · split at h
    · rename_i c
      rcases Int.lt_or_le i j with q|q
      · exact GM n (i+1) (by omega) h j (by omega) (by omega)
      · rw [show j=i by omega];exact c
    · rename_i c;exact absurd h c
  · cases h
theorem Bu {l:List (al×ar)} (h:kW l=0):∀p∈l,dm p.2=0:=by
 intro p aB
 obtain ⟨k,ai,rfl⟩:=List.getElem_of_mem aB
 have:=GM l.length 0 (Int.le_refl _) h (k:Int) (by omega) (by omega)
 simpa [U,List.getD_eq_getElem?_getD,ai] using this
theorem GN:∀{l:List e7},kX l=0→∀x∈l,x.parts.length≤6∧∀p∈x.parts,dm p.2=0
 |[],_,p,aB=>by cases aB
 |y::r,h,x,ao=>by
  rw [kX] at h
  split at h
  · split at h
    · cases h
    · rename_i c
      split at h
      · rename_i c2
        rcases List.mem_cons.1 ao with rfl|ao
        · exact ⟨by omega,Bu c2⟩
        · exact GN h x ao
      · rename_i c2;exact absurd h c2
  · cases h
theorem GO:∀{l:List (al×ar)},kY l=0→∀p∈l,dm p.2=0
 |[],_,p,aB=>by cases aB
 |x::r,h,p,aB=>by
  rw [kY] at h
  split at h
  · split at h
    · rename_i c
      rcases List.mem_cons.1 aB with rfl|aB
      · exact c
      · exact GO h p aB
    · rename_i c;exact absurd h c
  · cases h
structure PX (s:df):Prop where
 li:s.ins.length≤8
 hO:s.res.length≤8
 bh:s.outs.length≤8
 i:∀p∈s.ins,bJ p.1=true∧bH p.2=0
 r:∀x∈s.res,x.parts.length≤6∧∀p∈x.parts,dm p.2=0
 o:∀p∈s.outs,dm p.2=0
theorem GP {s:df} (h:fW s=0):PX s:=by
 unfold fW at h
 split at h
 · cases h
 · split at h
   · cases h
   · rename_i c
     unfold p6 at h
     split at h
     · rename_i c2;exact absurd h c2
     · rename_i c2
       unfold p5 at h
       split at h
       · rename_i c3;exact absurd h c3
       · rename_i c3
         exact ⟨by omega,by omega,by omega,xv (by simpa using c2),GN (by simpa using c3),GO h⟩
end Go.Proofs
end
section
namespace Go.Proofs
open Go Go.bb Go.b4
set_option maxRecDepth 100000
section
variable (l:List Tok) (n:Int)
def oh (v:a6):Bool:=decide (v.kind≤3)&&(bH v==0)
noncomputable def oi (a:Int):bm a6:=(hN l n a).bind fun x b=>if x.kind=1∧oh x.v=true then .ok x.v b else .bad 5 (cJ l n a)
variable {b6:Type} [Inhabited b6]
noncomputable def Bv (k:Int→List (al×a6)→bm b6) (a:Int) (xs:List (al×a6)):bm b6:=
 (ck l n 1 [] a).bind fun m a=>(ck l n 4 [61] a).bind fun _ a=>(oi l n a).bind fun v a=>k a (xs++[(m,v)])
noncomputable def lx (T:List (al×a6)→Int→bm b6):Nat→Int→List (al×a6)→bm b6
 |0,a,_=> .bad 5 (cJ l n a)
 |k+1,a,xs=>if bV l 1 [105,110,112,117,116] a=true then (if (xs.length:Int)=8 then .bad 2 (cJ l n a) else Bv l n (lx T k) (a+1) xs) else T xs a
noncomputable def xw (k:Int→List (al×ar)→bm b6) (xs:List (al×ar)) (m:al) (a:Int):bm b6:=
 (ck l n 4 [58] a).bind fun _ a=>(hN l n a).bind fun x a=>k a (xs++[(m,x)])
def sQ (xs:List (al×ar)) (m:al):Prop:=0<(xs.length:Int)∧Op.bytesLess (U xs ((xs.length:Int)- 1)).1 m=false
instance (xs:List (al×ar)) (m:al):Decidable (sQ xs m):=by unfold sQ;infer_instance
noncomputable def vb (k:Int→List (al×ar)→bm b6) (xs:List (al×ar)) (m:al) (a:Int):bm b6:=if sQ xs m then .bad 3 (cJ l n a) else xw l n k xs m a
noncomputable def ri (k:Int→List (al×ar)→bm b6) (xs:List (al×ar)) (a:Int):bm b6:=
 if (xs.length:Int)=6 then .bad 2 (cJ l n a) else (ck l n 1 [] a).bind fun m a=>vb l n k xs m a
noncomputable def jA (T:List (al×ar)→Int→bm b6):Nat→Int→List (al×ar)→bm b6
 |0,a,_=> .bad 5 (cJ l n a)
 |k+1,a,xs=>if bV l 4 [125] a=true then T xs (a+1) else jz l n xs a fun a=>ri l n (jA T k) xs a
noncomputable def ly (a:Int):bm e7:=(ck l n 1 [] a).bind fun k a=>(ck l n 1 [] a).bind fun m a=>(ck l n 4 [123] a).bind fun _ a=>jA l n (fun ps a=> .ok ⟨k,m,ps⟩ a) (l.length+1) a []
noncomputable def lz (T:List e7→Int→bm b6):Nat→Int→List e7→bm b6
 |0,a,_=> .bad 5 (cJ l n a)
 |k+1,a,xs=>if bV l 1 [114,101,115,111,117,114,99,101] a=true then (if (xs.length:Int)=8 then .bad 2 (cJ l n a) else (ly l n (a+1)).bind fun x a=>lz T k a (xs++[x])) else T xs a
noncomputable def Bw (k:Int→List (al×ar)→bm b6) (a:Int) (xs:List (al×ar)):bm b6:=
 (ck l n 1 [] a).bind fun m a=>(ck l n 4 [61] a).bind fun _ a=>(hN l n a).bind fun v a=>k a (xs++[(m,v)])
noncomputable def lA (T:List (al×ar)→Int→bm b6):Nat→Int→List (al×ar)→bm b6
 |0,a,_=> .bad 5 (cJ l n a)
 |k+1,a,xs=>if bV l 1 [111,117,116,112,117,116] a=true then (if (xs.length:Int)=8 then .bad 2 (cJ l n a) else Bw l n (lA T k) (a+1) xs) else T xs a
noncomputable def lB (a:Int):bm df:=(ck l n 1 [115,116,97,99,107] a).bind fun _ a=>(ck l n 1 [] a).bind fun m a=>
 lx l n (fun i a=>lz l n (fun r a=>lA l n (fun o a=> .ok ⟨m,i,r,o⟩ a) (l.length+1) a []) (l.length+1) a []) (l.length+1) a []
noncomputable def iM:Nat→Int→List df→bm (List df)
 |0,a,_=> .bad 5 (cJ l n a)
 |k+1,a,xs=>if a<l.length then (if (xs.length:Int)=8 then .bad 2 (cJ l n a) else (lB l n a).bind fun s a=>iM k a (xs++[s])) else .ok xs a
end
structure fJ {b6:Type} (P:bm b6) (a e q a2 az bo:Int) (Q:bm b6):Prop where
 y:e=0→e6 P az bo Q
 z:e≠0→a2=a∧az=e∧bo=q
structure nB (l:List Tok) (n c a e q az bo:Int) (b:Prop):Prop where
 z:b→e=0→az=c∧bo=cJ l n a
 y:¬b→az=e∧bo=q
 x:e≠0→az=e∧bo=q
section
variable {l:List Tok} {n a e q cd a2 ay bZ az bo c:Int} {b6:Type} [Inhabited b6] {P R:bm b6}
theorem fJ.start {kC:Type} {P:bm kC}:fJ P a e q a e q P:=⟨fun h=>⟨fun _=>rfl,fun z=>absurd h z⟩,fun _=>⟨rfl,rfl,rfl⟩⟩
theorem fJ.cD {kC:Type} {P R:bm kC} (h:fJ P a e q a2 az bo R) (au:az=0):e=0:=Classical.byContradiction fun c=>by have:=(h.z c).2.1;omega
theorem bj.cD {α:Type} {p:bm α} {x:α} (o:bj l p x a e q a2 az bo) (au:az=0):e=0:=Classical.byContradiction fun c=>by have:=(o.st c).2.1;omega
theorem fJ.step {α:Type} {p:bm α} {x:α} {g:α→Int→bm b6} (h:fJ P a e q cd ay bZ (p.bind g)) (o:bj l p x cd ay bZ a2 az bo):fJ P a e q a2 az bo (g x a2):=
 ⟨fun z=>(h.y z).step o,fun z=>by obtain ⟨rfl,rfl,rfl⟩:=h.z z;exact o.st z⟩
theorem fJ.to {kC:Type} {P R Q:bm kC} (h:fJ P a e q cd ay bZ R) (aS:ay=0→R=Q):fJ P a e q cd ay bZ Q:=⟨fun z=>(h.y z).to aS,h.z⟩
theorem fJ.fail {f s:Int} (h:fJ P a e q cd ay bZ (.bad f s)) (I:ay=0→az=f∧bo=s) (J:ay≠0→az=ay∧bo=bZ) (ak:0<az):fJ P a e q cd az bo R:=
 ⟨fun z=>(h.y z).fail I J ak,fun z=>by obtain ⟨rfl,rfl,rfl⟩:=h.z z;exact ⟨rfl,J z⟩⟩
theorem fJ.at {kC:Type} {P R:bm kC} (h:fJ P a e q cd ay bZ R) (au:e=0):fJ P a e q a2 ay bZ R:=⟨h.y,fun z=>absurd au z⟩
theorem e6.room {b:Prop} [Decidable b] (h:nB l n c a e q az bo b) (ah:0<c) (ao:e6 P e q (if b then .bad c (cJ l n a) else R)):e6 P az bo R:=by
 by_cases ag:b
 · rw [if_pos ag] at ao
   by_cases he:e=0
   · obtain ⟨rfl,rfl⟩:=h.z ag he
     exact ao.fail (fun _=>⟨rfl,rfl⟩) (fun q=>absurd he q) ah
   · obtain ⟨rfl,rfl⟩:=h.x he
     exact ⟨fun q=>absurd q he,ao.z⟩
 · rw [if_neg ag] at ao
   obtain ⟨rfl,rfl⟩:=h.y ag
   exact ao
theorem fJ.room {b:Prop} [Decidable b] (ao:fJ P a e q cd ay bZ (if b then .bad c (cJ l n cd) else R)) (h:nB l n c cd ay bZ az bo b) (ah:0<c):fJ P a e q cd az bo R:=
 ⟨fun z=>e6.room h ah (ao.y z),fun z=>by obtain ⟨rfl,rfl,rfl⟩:=ao.z z;exact ⟨rfl,h.x z⟩⟩
theorem nB.bW {b:Prop} (h:nB l n c a e q az bo b) (ah:0<c) (he:0≤e):0≤az:=by
 by_cases ag:b
 · by_cases au:e=0
   · have:=(h.z ag au).1;omega
   · have:=(h.x au).1;omega
 · have:=(h.y ag).1;omega
theorem nB.no {b:Prop} (h:nB l n c a e q az bo b) (ah:0<c) (au:az=0):¬b:=fun ag=>by
 by_cases he:e=0
 · have:=(h.z ag he).1;omega
 · have:=(h.x he).1;omega
theorem fJ.done {kC:Type} {P:bm kC} {y:kC} (h:fJ P a e q cd ay bZ (.ok y (cd+1))) (au:ay=0) (aN:a≤cd) (av:cd<l.length):bj l P y a e q (cd+1) ay bZ:=(h.y (h.cD au)).done au (h.cD au) aN av
theorem fJ.ok {kC:Type} {P:bm kC} {y:kC} (h:fJ P a e q cd ay bZ (.ok y cd)) (au:ay=0) (aN:a<cd) (av:cd≤l.length):bj l P y a e q cd ay bZ:=by
 have:=(((h.to (Q:= .ok y (cd- 1+1)) fun _=>by rw [Int.sub_add_cancel]).at (a2:=cd- 1) (h.cD au)).done (l:=l) au (by omega) (by omega))
 rwa [Int.sub_add_cancel] at this
theorem fJ.bad {kC:Type} {P R:bm kC} {y:kC} (h:fJ P a e q cd ay bZ R) (au:ay≠0) (aN:a≤cd) (av:cd≤l.length) (aJ:0≤ay):bj l P y a e q cd ay bZ:=
 if he:e=0 then (h.y he).bad au he aN av aJ else by obtain ⟨rfl,rfl,rfl⟩:=h.z he;exact bj.stuck he aJ av
theorem bj.PY {x:ar} (o:bj l (hN l n a) x a e q cd ay bZ) (au:ay=0) (h:x.kind≠1∨oh x.v=false):bj l (oi l n a) x.v a e q cd 5 (cJ l n a):=by
 have he:=o.cD au
 have I:=o.ok he
 obtain ⟨rfl,rfl⟩:=I.y au
 refine ⟨fun _=>?_,fun z=>absurd he z,o.bh,o.ab,by decide,fun z=>by cases z⟩
 rw [oi,bm.bind,if_pos (by rw [←I.f];exact au),if_neg fun q=>h.elim (fun z=>z q.1) fun z=>by rw [q.2] at z;cases z]
 exact ⟨rfl,fun z=>(by cases z),fun _=>rfl⟩
theorem bj.PZ {x:ar} (o:bj l (hN l n a) x a e q cd ay bZ) (h:ay=0→x.kind=1∧oh x.v=true):bj l (oi l n a) x.v a e q cd ay bZ:=by
 refine ⟨fun he=>?_,o.st,o.bh,o.ab,o.bW,o.gt⟩
 have I:=o.ok he
 by_cases au:ay=0
 · obtain ⟨rfl,rfl⟩:=I.y au
   rw [oi,bm.bind,if_pos (by rw [←I.f];exact au),if_pos (h au)]
   exact ⟨au,fun _=>⟨rfl,rfl⟩,fun h=>absurd au h⟩
 · rw [oi,bm.bind,if_neg (by rw [←I.f];exact au)]
   exact ⟨I.f,fun h=>absurd h au,fun _=>I.z au⟩
theorem P0 {k m s:al} {a3 cB gK:Int} (hY:bj l (ck l n 1 [] a) k a e q cd ay bZ) (kP:bj l (ck l n 1 [] cd) m cd ay bZ a2 az bo) (n6:bj l (ck l n 4 [123] a2) s a2 az bo a3 cB gK):fJ (ly l n a) a e q a3 cB gK (jA l n (fun ps a=> .ok ⟨k,m,ps⟩ a) (l.length+1) a3 []):=by
 have h:=fJ.start (P:=ly l n a) (a:=a) (e:=e) (q:=q)
 unfold ly at h
 exact ((h.step hY).step kP).step n6
theorem P1 {k:Int→List (al×ar)→bm b6} {xs:List (al×ar)} {m:al} (h:sQ xs m):vb l n k xs m a= .bad 3 (cJ l n a):=if_pos h
theorem P2 {k:Int→List (al×ar)→bm b6} {xs:List (al×ar)} {m:al} (h:(xs.length:Int)≤0∨Op.bytesLess (U xs ((xs.length:Int)- 1)).1 m=true):vb l n k xs m a=xw l n k xs m a:=
 if_neg fun ag=>by
  obtain ⟨lH,ml⟩:=ag
  rcases h with h|h
  · omega
  · rw [ml] at h;cases h
theorem P3 {T:List (al×ar)→Int→bm b6} {k:Nat} {xs:List (al×ar)} (h:bV l 4 [125] a=false):jA l n T (k+1) a xs=jz l n xs a fun a=>ri l n (jA l n T k) xs a:=by
 rw [jA,if_neg (c8 h)]
theorem P4 {T:List (al×ar)→Int→bm b6} {k:Nat} {xs:List (al×ar)} (h:bV l 4 [125] a=true):jA l n T (k+1) a xs=T xs (a+1):=by
 rw [jA,if_pos h]
end
theorem xx (l:List Tok) (n a e q:Int) (h k:Int) (r:Nat) (av:l.length≤5000) (aA:0≤a) (aN:a≤l.length) (he:0≤e) (m:ae) (gd:eG [r] m) (K:aa→ae→Prop) (ad:∀bY ct,nB l n 2 a e q bY ct (h=k)→K (.tuple []) (ae.a1 m [(r, .cells [.slice false (l.map bS), .int .i64 a, .int .i64 n, .err 72 bY, .int .i64 ct])])):bp Tryd.prog 77 [.ptr ⟨r,0,none⟩, .int .i64 h, .int .i64 k] (ae.a1 m [(r, .cells [.slice false (l.map bS), .int .i64 a, .int .i64 n, .err 72 e, .int .i64 q])]) K:=by
 refine enter (c:=dF [] [] [] [] [] [r]) (vs:=[.loc 0 0, .aI (.int .i64 h), .aI (.int .i64 k)]) (L:=[bg l n a e q]) (m:=m) false cw Tryd.mixed Tryd.func77 rfl (k:=3) (by show du [] _ _ _=true;decide+kernel) rfl (gd.ia rfl) ?_
 refine ax (fun I=>?_) (fun I=>?_)
 · refine cc 72 [0] (σ:=Int×Int) (fun ⟨bt,bP⟩=>(e=0→bt=2∧bP=cJ l n a)∧(e≠0→bt=e∧bP=q)∧0<bt) (fun ⟨bt,bP⟩=> .cM []) (fun ⟨bt,bP⟩=>[bg l n a bt bP]) rfl (fun _=>rfl) (fun bs aq gd an K ad=>oe l n a e q 2 (bs.getD 0 0) (by decide) av (by omega) (by omega) (by omega) aq gd K (fun z=>ad (2,cJ l n a) ⟨fun _=>⟨rfl,rfl⟩,fun y=>absurd z y,by decide⟩) (fun z=>ad (e,q) ⟨fun y=>absurd y z,fun _=>⟨rfl,rfl⟩,by omega⟩)) ?_
   rintro ⟨bt,bP⟩ bA
   dsimp only at bA
   obtain ⟨sC,p4,u0⟩:=bA
   refine rt rfl fun _=>?_
   show K (.tuple []) (ae.a1 m [(r, .cells [.slice false (l.map bS), .int .i64 a, .int .i64 n, .err 72 bt, .int .i64 bP])])
   exact ad _ _ ⟨fun _ z=>sC z,fun z=>absurd I z,fun z=>p4 z⟩
 refine rt rfl fun _=>?_
 show K (.tuple []) (ae.a1 m [(r, .cells [.slice false (l.map bS), .int .i64 a, .int .i64 n, .err 72 e, .int .i64 q])])
 exact ad _ _ ⟨fun z=>absurd z I,fun _=>⟨rfl,rfl⟩,fun _=>⟨rfl,rfl⟩⟩
set_option maxHeartbeats 4000000 in
theorem P5 (l:List Tok) (n a e q:Int) (r:Nat) (av:l.length≤5000) (aA:0≤a) (aN:a≤l.length) (he:0≤e) (hw:nz l) (m:ae) (gd:eG [r] m) (K:aa→ae→Prop) (aC:ch m) (ad:∀bD b9 bY ct,bj l (ly l n a) bD a e q b9 bY ct→K (fh bD) (ae.a1 m [(r, .cells [.slice false (l.map bS), .int .i64 b9, .int .i64 n, .err 72 bY, .int .i64 ct])])):bp Tryd.prog 79 [.ptr ⟨r,0,none⟩] (ae.a1 m [(r, .cells [.slice false (l.map bS), .int .i64 a, .int .i64 n, .err 72 e, .int .i64 q])]) K:=by
 refine enter (c:=dF [] [] [9] [12999] [12] [r]) (vs:=[.loc 0 0]) (L:=[bg l n a e q]) (m:=m) false cw Tryd.mixed Tryd.func79 rfl (k:=1) (by show du [12999] _ _ _=true;decide+kernel) rfl (gd.ia rfl) ?_
 refine cc 72 [0] (σ:=al×Int×Int×Int) (fun ⟨de,b1,bt,bP⟩=>bj l (ck l n 1 [] a) de a e q b1 bt bP) (fun ⟨de,b1,bt,bP⟩=>aR de) (fun ⟨de,b1,bt,bP⟩=>[bg l n b1 bt bP]) rfl (fun _=>rfl) (fun bs aq gd an K ad=>nx l n a e q (bs.getD 0 0) av (by omega) (by omega) (by omega) aq gd K (fun cP bO bF bG aL=>ad (cP,bO,bF,bG) aL)) ?_
 rintro ⟨de,b1,bt,bP⟩ bA
 dsimp only at bA
 have sA:=bA.bh
 have n7:=bA.ab
 have sB:=bA.bW
 refine cc 72 [0] (σ:=al×Int×Int×Int) (fun ⟨dM,ee,cT,c7⟩=>bj l (ck l n 1 [] b1) dM b1 bt bP ee cT c7) (fun ⟨dM,ee,cT,c7⟩=>aR dM) (fun ⟨dM,ee,cT,c7⟩=>[bg l n ee cT c7]) rfl (fun _=>rfl) (fun bs aq gd an K ad=>nx l n b1 bt bP (bs.getD 0 0) av (by omega) (by omega) (by omega) aq gd K (fun cP bO bF bG aL=>ad (cP,bO,bF,bG) aL)) ?_
 rintro ⟨dM,ee,cT,c7⟩ cH
 dsimp only at cH
 have uY:=cH.bh
 have jt:=cH.ab
 have uZ:=cH.bW
 refine cc 72 [0] (σ:=al×Int×Int×Int) (fun ⟨ja,fS,eU,fc⟩=>(bj l (ck l n 4 ([123]:List UInt8) ee) ja ee cT c7 fS eU fc)∧(eU≠0→ja=[])) (fun ⟨ja,fS,eU,fc⟩=>aR ja) (fun ⟨ja,fS,eU,fc⟩=>[bg l n fS eU fc]) rfl (fun _=>rfl) (fun bs aq gd an K ad=>iF l n ee cT c7 4 ([123]:List UInt8) (bs.getD 0 0) av (by omega) (by omega) (by omega) aq gd K (fun cP bO bF bG aL au=>ad (cP,bO,bF,bG) ⟨aL,au⟩)) ?_
 rintro ⟨ja,fS,eU,fc⟩ dA
 dsimp only at dA
 obtain ⟨dA,nc⟩:=dA
 have AR:=dA.bh
 have AS:=dA.ab
 have xe:=dA.bW
 refine aU ?_
 refine dE (σ:=Int×Int×Int×List (al×ar)) [] [0,2,3] 3 (fun ⟨a2,az,bo,xs⟩=>([(0, .loc 0 0),(2, .loc 1 0),(3, .loc 2 0)],[bg l n a2 az bo, .cells [aR ([]),aR ([]), .own []], .cells [aR de,aR dM, .own (xs.map dO)]],m)) (fun ⟨a2,az,bo,xs⟩=>0≤a2∧a≤a2∧a2≤l.length∧0≤az∧(az=0→(xs.length:Int)≤6)∧xs.length≤7∧∃aZ:Nat,(az=0→l.length- a2<aZ)∧fJ (ly l n a) a e q a2 az bo (jA l n (fun ps a=> .ok (⟨de,dM,ps⟩:e7) a) aZ a2 xs)) (fun ⟨a2,az,bo,xs⟩=>if az=0 then l.length- a2.toNat+1 else 0) (fS,eU,fc,[]) ⟨rfl,rfl⟩ ?_ ?_
 · try dsimp only
   exact ⟨by omega,by omega,by omega,by omega,fun _=>by simp,by simp,l.length+1,fun _=>by omega,P0 bA cH dA⟩
 rintro ⟨a2,az,bo,xs⟩ aW
 dsimp only at aW
 obtain ⟨i1,i2,i3,i4,i5,i6,aZ,i8,i9⟩:=aW
 refine aU ?_
 refine cc 72 [0] (σ:=(Unit) ⊕ (Unit)) (Sum.elim (fun _=>az=0∧bV l 4 ([125]:List UInt8) a2=true) (fun _=>az=0→bV l 4 ([125]:List UInt8) a2=false)) (Sum.elim (fun _=> .b (.lit true)) (fun _=> .b (.lit false))) (Sum.elim (fun _=>[bg l n (a2+1) az bo]) (fun _=>[bg l n a2 az bo])) rfl (fun x=>by rcases x with _|_<;>rfl) (fun bs aq gd an K ad=>hz l n a2 az bo 4 ([125]:List UInt8) (bs.getD 0 0) av (by omega) (by omega) (by omega) aq gd K (fun z w=>ad (.inl ()) ⟨z,w⟩) (fun z=>ad (.inr ()) z)) ?_
 rintro (_|_) dR
 · try dsimp only [Sum.elim_inl,Sum.elim_inr] at dR
   dsimp only [Sum.elim_inl,Sum.elim_inr]
   have xh:=hi dR.2
   refine rt rfl fun _=>?_
   show K (.agg [.str de, .str dM, .slice false (xs.map dO)]) (ae.a1 m [(r, .cells [.slice false (l.map bS), .int .i64 (a2+1), .int .i64 n, .err 72 az, .int .i64 bo])])
   obtain ⟨aZ,rfl⟩:∃k,aZ=k+1:=⟨aZ- 1,by have:=i8 dR.1;omega⟩
   exact ad ⟨de,dM,xs⟩ _ _ _ ((i9.to fun _=>P4 dR.2).done dR.1 (by omega) xh)
 try dsimp only [Sum.elim_inl,Sum.elim_inr] at dR
 dsimp only [Sum.elim_inl,Sum.elim_inr]
 refine ax (fun I=>?_) (fun I=>?_)
 · obtain ⟨aZ,rfl⟩:∃k,aZ=k+1:=⟨aZ- 1,by have:=i8 I;omega⟩
   have i9:=i9.to fun _=>P3 (dR I)
   have i10:=i8 I
   have i11:=i5 I
   refine uy (σ:=Int×Int×Int) [] [0,2,3] 3 (fun ⟨hM,f3,ma⟩=>([(0, .loc 0 0),(2, .loc 1 0),(3, .loc 2 0)],[bg l n hM f3 ma, .cells [aR ([]),aR ([]), .own []], .cells [aR de,aR dM, .own (xs.map dO)]],m)) (fun ⟨hM,f3,ma⟩=>a2≤hM∧hM≤l.length∧0≤f3∧fJ (ly l n a) a e q hM f3 ma (ri l n (jA l n (fun ps a=> .ok (⟨de,dM,ps⟩:e7) a) aZ) xs hM)) ?_ ?_
   · rintro ⟨hM,f3,ma⟩ nw
     refine cl ?_
     refine cc 72 [0] (σ:=Int×Int) (fun ⟨ev,eQ⟩=>nB l n 2 hM f3 ma ev eQ ((xs.length:Int)=6)) (fun ⟨ev,eQ⟩=> .cM []) (fun ⟨ev,eQ⟩=>[bg l n hM ev eQ]) rfl (fun _=>rfl) (fun bs aq gd an K ad=>xx l n hM f3 ma (xs.length:Int) 6 (bs.getD 0 0) av (by omega) (by omega) (by omega) aq gd K (fun bF bG aL=>ad (bF,bG) aL)) ?_
     rintro ⟨ev,eQ⟩ eC
     dsimp only at eC
     have AY:=eC.bW (by decide) (by omega)
     refine cc 72 [0] (σ:=al×Int×Int×Int) (fun ⟨gp,dW,dY,eD⟩=>bj l (ck l n 1 [] hM) gp hM ev eQ dW dY eD) (fun ⟨gp,dW,dY,eD⟩=>aR gp) (fun ⟨gp,dW,dY,eD⟩=>[bg l n dW dY eD]) rfl (fun _=>rfl) (fun bs aq gd an K ad=>nx l n hM ev eQ (bs.getD 0 0) av (by omega) (by omega) (by omega) aq gd K (fun cP bO bF bG aL=>ad (cP,bO,bF,bG) aL)) ?_
     rintro ⟨gp,dW,dY,eD⟩ e1
     dsimp only at e1
     have u1:=e1.bh
     have u2:=e1.ab
     have u3:=e1.bW
     refine aU ?_
     refine cl ?_
     refine dc [0,2,3,4] 51 ((decide (0<(xs.length:Int)))&&(!(Op.bytesLess ((U xs ((xs.length:Int)- 1)).1) gp))) ?_ ?_
     · repeat' first
        |exact ⟨⟨_,rfl,by grind [bT.val]⟩,rfl⟩
        |refine ax (fun _=>?_) (fun _=>?_)
        |refine ax (by omega) ?_
        |refine eF (by omega) ?_
     refine ax (fun J=>?_) (fun J=>?_)
     · replace J:(0<(xs.length:Int))∧(Op.bytesLess ((U xs ((xs.length:Int)- 1)).1) gp=false):=⟨(of_decide_eq_true (fC J)),(dt (gS J))⟩
       refine cc 72 [0] (σ:=Int×Int) (fun ⟨fU,gq⟩=>(dY=0→fU=3∧gq=cJ l n dW)∧(dY≠0→fU=dY∧gq=eD)∧0<fU) (fun ⟨fU,gq⟩=> .cM []) (fun ⟨fU,gq⟩=>[bg l n dW fU gq]) rfl (fun _=>rfl) (fun bs aq gd an K ad=>oe l n dW dY eD 3 (bs.getD 0 0) (by decide) av (by omega) (by omega) (by omega) aq gd K (fun z=>ad (3,cJ l n dW) ⟨fun _=>⟨rfl,rfl⟩,fun y=>absurd z y,by decide⟩) (fun z=>ad (dY,eD) ⟨fun y=>absurd y z,fun _=>⟨rfl,rfl⟩,by omega⟩)) ?_
       rintro ⟨fU,gq⟩ gH
       dsimp only at gH
       obtain ⟨P6,P7,P8⟩:=gH
       refine cc 72 [0] (σ:=al×Int×Int×Int) (fun ⟨lp,hK,h0,ie⟩=>(bj l (ck l n 4 ([58]:List UInt8) dW) lp dW fU gq hK h0 ie)∧(h0≠0→lp=[])) (fun ⟨lp,hK,h0,ie⟩=>aR lp) (fun ⟨lp,hK,h0,ie⟩=>[bg l n hK h0 ie]) rfl (fun _=>rfl) (fun bs aq gd an K ad=>iF l n dW fU gq 4 ([58]:List UInt8) (bs.getD 0 0) av (by omega) (by omega) (by omega) aq gd K (fun cP bO bF bG aL au=>ad (cP,bO,bF,bG) ⟨aL,au⟩)) ?_
       rintro ⟨lp,hK,h0,ie⟩ fe
       dsimp only at fe
       obtain ⟨fe,S7⟩:=fe
       have F3:=fe.bh
       have F4:=fe.ab
       have F5:=fe.bW
       refine kR cw Tryd.mixed (σ:=Int×Int×Int×ar) (.f 0 (.f 2 (.f 3 (.o 1 (.s 4 (.s 5 (.s 6 (.s 7 (.f 8 (.s 9 .d)))))) (.o 4 (.o 1 (.s 5 (.s 6 (.s 7 (.f 8 (.s 9 .d))))) (.o 5 (.o 1 (.s 6 (.s 7 (.f 8 (.s 9 .d)))) (.o 6 (.s 1 (.s 7 (.f 8 (.s 9 .d)))) .z)) .z)) .z))))) [] [0,2,3] 3 (fun ⟨a9,cZ,c1,dj⟩=>([(0, .loc 0 0),(2, .loc 1 0),(3, .loc 2 0)],[bg l n a9 cZ c1, .cells [aR ([]),aR ([]), .own []], .cells [aR de,aR dM, .own ((xs++([(⟨gp,dj⟩:(al×ar))]:List (al×ar))).map dO)]],m)) (fun ⟨a9,cZ,c1,dj⟩=>bj l (hN l n hK) dj hK h0 ie a9 cZ c1) (by decide+kernel) ?_ ?_
       · rintro ⟨a9,cZ,c1,dj⟩ h2
         try dsimp only at h2
         have F8:=h2.bh
         have F9:=h2.ab
         have Ga:=h2.bW
         refine ⟨(a9,cZ,c1,xs++([(⟨gp,dj⟩:(al×ar))]:List (al×ar))),⟨rfl,rfl⟩,?_,?_⟩
         · try dsimp only
           have c:=(((((nw.2.2.2.room eC (by decide)).step e1).to fun _=>P1 J).fail (R:=xw l n (jA l n (fun ps a=> .ok (⟨de,dM,ps⟩:e7) a) aZ) xs gp dW) P6 P7 P8).step fe).step h2
           have aJ:=fun z=>eC.no (by decide) (absurd (fe.cD (h2.cD z)) (by omega))
           have a8:=h2.gt
           simp only [List.length_append,List.length_cons,List.length_nil]
           exact ⟨by omega,by omega,by omega,by omega,fun z=>by have:=aJ z;omega,by omega,aZ,fun z=>by have:=a8 z;omega,c⟩
         try dsimp only
         rw [if_pos I]
         have a8:=h2.gt
         split<;>omega
       repeat' first
        |refine ⟨(jc,gN,gO,gk),⟨rfl,rfl⟩,gz⟩
        |(refine cc 72 [0] (σ:=ar×Int×Int×Int) (fun ⟨gk,jc,gN,gO⟩=>bj l (hN l n hK) gk hK h0 ie jc gN gO) (fun ⟨gk,jc,gN,gO⟩=>ic gk) (fun ⟨gk,jc,gN,gO⟩=>[bg l n jc gN gO]) rfl (fun _=>rfl) (fun bs aq gd an K ad=>xt l n hK h0 ie 6 (bs.getD 0 0) (u4 l n av hw 6 (by decide)) av (by omega) (by omega) (by omega) rfl aq gd K (ch.up an aC) (fun eJ bO bF bG aL=>ad (eJ,bO,bF,bG) aL)) ?_;rintro ⟨gk,jc,gN,gO⟩ gz;dsimp only at gz;have Gb:=gz.bh;have Gc:=gz.ab;have A6:=gz.bW)
        |refine ap dO xs ([(⟨gp,gk⟩:(al×ar))]:List (al×ar)) rfl rfl (fun _=>⟨rfl,rfl⟩) (by (simp only [List.length_append,List.length_cons,List.length_nil];omega)) ?_
        |refine ⟨?_,?_,trivial⟩
     replace J:((xs.length:Int)≤0)∨(Op.bytesLess ((U xs ((xs.length:Int)- 1)).1) gp=true):=((gT J).imp (fun q=>(Int.not_lt.1 (of_decide_eq_false q))) (fun q=>(dy q)))
     refine cc 72 [0] (σ:=al×Int×Int×Int) (fun ⟨gA,fo,fI,gg⟩=>(bj l (ck l n 4 ([58]:List UInt8) dW) gA dW dY eD fo fI gg)∧(fI≠0→gA=[])) (fun ⟨gA,fo,fI,gg⟩=>aR gA) (fun ⟨gA,fo,fI,gg⟩=>[bg l n fo fI gg]) rfl (fun _=>rfl) (fun bs aq gd an K ad=>iF l n dW dY eD 4 ([58]:List UInt8) (bs.getD 0 0) av (by omega) (by omega) (by omega) aq gd K (fun cP bO bF bG aL au=>ad (cP,bO,bF,bG) ⟨aL,au⟩)) ?_
     rintro ⟨gA,fo,fI,gg⟩ fp
     dsimp only at fp
     obtain ⟨fp,OU⟩:=fp
     have A0:=fp.bh
     have A1:=fp.ab
     have A2:=fp.bW
     refine kR cw Tryd.mixed (σ:=Int×Int×Int×ar) (.f 0 (.f 2 (.f 3 (.o 1 (.s 4 (.s 5 (.s 6 (.s 7 (.f 8 (.s 9 .d)))))) (.o 4 (.o 1 (.s 5 (.s 6 (.s 7 (.f 8 (.s 9 .d))))) (.o 5 (.o 1 (.s 6 (.s 7 (.f 8 (.s 9 .d)))) (.o 6 (.s 1 (.s 7 (.f 8 (.s 9 .d)))) .z)) .z)) .z))))) [] [0,2,3] 3 (fun ⟨a9,cZ,c1,dj⟩=>([(0, .loc 0 0),(2, .loc 1 0),(3, .loc 2 0)],[bg l n a9 cZ c1, .cells [aR ([]),aR ([]), .own []], .cells [aR de,aR dM, .own ((xs++([(⟨gp,dj⟩:(al×ar))]:List (al×ar))).map dO)]],m)) (fun ⟨a9,cZ,c1,dj⟩=>bj l (hN l n fo) dj fo fI gg a9 cZ c1) (by decide+kernel) ?_ ?_
     · rintro ⟨a9,cZ,c1,dj⟩ h2
       try dsimp only at h2
       have F8:=h2.bh
       have F9:=h2.ab
       have Ga:=h2.bW
       refine ⟨(a9,cZ,c1,xs++([(⟨gp,dj⟩:(al×ar))]:List (al×ar))),⟨rfl,rfl⟩,?_,?_⟩
       · try dsimp only
         have c:=(((((nw.2.2.2.room eC (by decide)).step e1).to fun _=>P2 J)).step fp).step h2
         have aJ:=fun z=>eC.no (by decide) (e1.cD (fp.cD (h2.cD z)))
         have a8:=h2.gt
         simp only [List.length_append,List.length_cons,List.length_nil]
         exact ⟨by omega,by omega,by omega,by omega,fun z=>by have:=aJ z;omega,by omega,aZ,fun z=>by have:=a8 z;omega,c⟩
       try dsimp only
       rw [if_pos I]
       have a8:=h2.gt
       split<;>omega
     repeat' first
      |refine ⟨(gr,gB,gI,gj),⟨rfl,rfl⟩,gh⟩
      |(refine cc 72 [0] (σ:=ar×Int×Int×Int) (fun ⟨gj,gr,gB,gI⟩=>bj l (hN l n fo) gj fo fI gg gr gB gI) (fun ⟨gj,gr,gB,gI⟩=>ic gj) (fun ⟨gj,gr,gB,gI⟩=>[bg l n gr gB gI]) rfl (fun _=>rfl) (fun bs aq gd an K ad=>xt l n fo fI gg 6 (bs.getD 0 0) (u4 l n av hw 6 (by decide)) av (by omega) (by omega) (by omega) rfl aq gd K (ch.up an aC) (fun eJ bO bF bG aL=>ad (eJ,bO,bF,bG) aL)) ?_;rintro ⟨gj,gr,gB,gI⟩ gh;dsimp only at gh;have A3:=gh.bh;have A4:=gh.ab;have A5:=gh.bW)
      |refine ap dO xs ([(⟨gp,gj⟩:(al×ar))]:List (al×ar)) rfl rfl (fun _=>⟨rfl,rfl⟩) (by (simp only [List.length_append,List.length_cons,List.length_nil];omega)) ?_
      |refine ⟨?_,?_,trivial⟩
   refine cl ?_
   refine ax (fun ak=>?_) (fun ak=>?_)
   · refine cc 72 [0] (σ:=al×Int×Int×Int) (fun ⟨l8,ff,fg,fw⟩=>(bj l (ck l n 4 ([44]:List UInt8) a2) l8 a2 az bo ff fg fw)∧(fg≠0→l8=[])) (fun ⟨l8,ff,fg,fw⟩=>aR l8) (fun ⟨l8,ff,fg,fw⟩=>[bg l n ff fg fw]) rfl (fun _=>rfl) (fun bs aq gd an K ad=>iF l n a2 az bo 4 ([44]:List UInt8) (bs.getD 0 0) av (by omega) (by omega) (by omega) aq gd K (fun cP bO bF bG aL au=>ad (cP,bO,bF,bG) ⟨aL,au⟩)) ?_
     rintro ⟨l8,ff,fg,fw⟩ fT
     dsimp only at fT
     obtain ⟨fT,OV⟩:=fT
     have xi:=fT.bh
     have xj:=fT.ab
     have xk:=fT.bW
     refine ⟨(ff,fg,fw),⟨rfl,rfl⟩,⟨by omega,by omega,by omega,(i9.to fun _=>A7 ak).step fT⟩⟩
   refine ⟨(a2,az,bo),⟨rfl,rfl⟩,⟨by omega,by omega,by omega,i9.to fun _=>A8 ak⟩⟩
 refine rt rfl fun _=>?_
 show K (.agg [.str de, .str dM, .slice false (xs.map dO)]) (ae.a1 m [(r, .cells [.slice false (l.map bS), .int .i64 a2, .int .i64 n, .err 72 az, .int .i64 bo])])
 exact ad ⟨de,dM,xs⟩ _ _ _ (i9.bad I (by omega) (by omega) (by omega))
end Go.Proofs
end
section
namespace Go.Proofs
open Go Go.bb Go.b4
set_option maxRecDepth 100000
section
variable {l:List Tok} {n a:Int} {b6:Type} [Inhabited b6] {aZ:Nat}
theorem GQ {T:List (al×a6)→Int→bm b6} {xs:List (al×a6)} (aM:0<aZ) (h:bV l 1 [105,110,112,117,116] a=true):lx l n T aZ a xs=if (xs.length:Int)=8 then .bad 2 (cJ l n a) else Bv l n (lx l n T (aZ- 1)) (a+1) xs:=by
 obtain ⟨k,rfl⟩:∃k,aZ=k+1:=⟨aZ- 1,by omega⟩
 rw [lx,if_pos h];rfl
theorem P9 {T:List (al×a6)→Int→bm b6} {xs:List (al×a6)} (aM:0<aZ) (h:bV l 1 [105,110,112,117,116] a=false):lx l n T aZ a xs=T xs a:=by
 obtain ⟨k,rfl⟩:∃k,aZ=k+1:=⟨aZ- 1,by omega⟩
 rw [lx,if_neg (c8 h)]
theorem Qa {T:List e7→Int→bm b6} {xs:List e7} (aM:0<aZ) (h:bV l 1 [114,101,115,111,117,114,99,101] a=true):lz l n T aZ a xs=if (xs.length:Int)=8 then .bad 2 (cJ l n a) else (ly l n (a+1)).bind fun x a=>lz l n T (aZ- 1) a (xs++[x]):=by
 obtain ⟨k,rfl⟩:∃k,aZ=k+1:=⟨aZ- 1,by omega⟩
 rw [lz,if_pos h];rfl
theorem Qb {T:List e7→Int→bm b6} {xs:List e7} (aM:0<aZ) (h:bV l 1 [114,101,115,111,117,114,99,101] a=false):lz l n T aZ a xs=T xs a:=by
 obtain ⟨k,rfl⟩:∃k,aZ=k+1:=⟨aZ- 1,by omega⟩
 rw [lz,if_neg (c8 h)]
theorem Qc {T:List (al×ar)→Int→bm b6} {xs:List (al×ar)} (aM:0<aZ) (h:bV l 1 [111,117,116,112,117,116] a=true):lA l n T aZ a xs=if (xs.length:Int)=8 then .bad 2 (cJ l n a) else Bw l n (lA l n T (aZ- 1)) (a+1) xs:=by
 obtain ⟨k,rfl⟩:∃k,aZ=k+1:=⟨aZ- 1,by omega⟩
 rw [lA,if_pos h];rfl
theorem Qd {T:List (al×ar)→Int→bm b6} {xs:List (al×ar)} (aM:0<aZ) (h:bV l 1 [111,117,116,112,117,116] a=false):lA l n T aZ a xs=T xs a:=by
 obtain ⟨k,rfl⟩:∃k,aZ=k+1:=⟨aZ- 1,by omega⟩
 rw [lA,if_neg (c8 h)]
end
section
variable (l:List Tok) (n:Int)
noncomputable def GR (m:al) (i:List (al×a6)) (r:List e7) (o:List (al×ar)) (a:Int):bm df:= .ok ⟨m,i,r,o⟩ a
noncomputable def GS (m:al) (i:List (al×a6)) (r:List e7) (a:Int):bm df:=lA l n (GR m i r) (l.length+1) a []
noncomputable def GU (m:al) (i:List (al×a6)) (a:Int):bm df:=lz l n (GS l n m i) (l.length+1) a []
end
theorem Qe {l:List Tok} {n a e q cd ay bZ a2 az bo:Int} {s m:al} (hY:bj l (ck l n 1 [115,116,97,99,107] a) s a e q cd ay bZ) (kP:bj l (ck l n 1 [] cd) m cd ay bZ a2 az bo):fJ (lB l n a) a e q a2 az bo (lx l n (GU l n m) (l.length+1) a2 []):=by
 have h:=fJ.start (P:=lB l n a) (a:=a) (e:=e) (q:=q)
 unfold lB at h
 exact (h.step hY).step kP
set_option maxHeartbeats 8000000 in
theorem Qf (l:List Tok) (n a e q:Int) (r:Nat) (av:l.length≤5000) (aA:0≤a) (aN:a≤l.length) (he:0≤e) (hw:nz l) (au:e=0) (m:ae) (gd:eG [r] m) (K:aa→ae→Prop) (aC:ch m) (ad:∀bD b9 bY ct,bj l (lB l n a) bD a e q b9 bY ct→K (ew bD) (ae.a1 m [(r, .cells [.slice false (l.map bS), .int .i64 b9, .int .i64 n, .err 72 bY, .int .i64 ct])])):bp Tryd.prog 44 [.ptr ⟨r,0,none⟩] (ae.a1 m [(r, .cells [.slice false (l.map bS), .int .i64 a, .int .i64 n, .err 72 e, .int .i64 q])]) K:=by
 refine enter (c:=dF [1000053] [] [11] [17999,23999] [17,23] [r]) (vs:=[.loc 0 0]) (L:=[bg l n a e q]) (m:=m) false cw Tryd.mixed Tryd.func44 rfl (k:=1) (by show du [17999,23999] _ _ _=true;decide+kernel) rfl (gd.ia rfl) ?_
 refine cc 72 [0] (σ:=al×Int×Int×Int) (fun ⟨de,b1,bt,bP⟩=>(bj l (ck l n 1 ([115,116,97,99,107]:List UInt8) a) de a e q b1 bt bP)∧(bt≠0→de=[])) (fun ⟨de,b1,bt,bP⟩=>aR de) (fun ⟨de,b1,bt,bP⟩=>[bg l n b1 bt bP]) rfl (fun _=>rfl) (fun bs aq gd an K ad=>iF l n a e q 1 ([115,116,97,99,107]:List UInt8) (bs.getD 0 0) av (by omega) (by omega) (by omega) aq gd K (fun cP bO bF bG aL au=>ad (cP,bO,bF,bG) ⟨aL,au⟩)) ?_
 rintro ⟨de,b1,bt,bP⟩ bA
 dsimp only at bA
 obtain ⟨bA,pC⟩:=bA
 have sA:=bA.bh
 have n7:=bA.ab
 have sB:=bA.bW
 refine cc 72 [0] (σ:=al×Int×Int×Int) (fun ⟨dM,ee,cT,c7⟩=>bj l (ck l n 1 [] b1) dM b1 bt bP ee cT c7) (fun ⟨dM,ee,cT,c7⟩=>aR dM) (fun ⟨dM,ee,cT,c7⟩=>[bg l n ee cT c7]) rfl (fun _=>rfl) (fun bs aq gd an K ad=>nx l n b1 bt bP (bs.getD 0 0) av (by omega) (by omega) (by omega) aq gd K (fun cP bO bF bG aL=>ad (cP,bO,bF,bG) aL)) ?_
 rintro ⟨dM,ee,cT,c7⟩ cH
 dsimp only at cH
 have uY:=cH.bh
 have jt:=cH.ab
 have uZ:=cH.bW
 refine aU ?_
 refine dE (σ:=Int×Int×Int×List (al×a6)) [] [0,2,3] 3 (fun ⟨a2,az,bo,xs⟩=>([(0, .loc 0 0),(2, .loc 1 0),(3, .loc 2 0)],[bg l n a2 az bo, .cells [aR ([]), .own [], .own [], .own []], .cells [aR dM, .own (xs.map fq), .own [], .own []]],m)) (fun ⟨a2,az,bo,xs⟩=>0≤a2∧a≤a2∧a2≤l.length∧0≤az∧(az=0→(xs.length:Int)≤8)∧xs.length≤9∧(az=0→a<a2)∧∃aZ:Nat,(az=0→l.length- a2<aZ)∧fJ (lB l n a) a e q a2 az bo (lx l n (GU l n dM) aZ a2 xs)) (fun ⟨a2,az,bo,xs⟩=>if az=0 then l.length- a2.toNat+1 else 0) (ee,cT,c7,[]) ⟨rfl,rfl⟩ ?_ ?_
 · try dsimp only
   exact ⟨by omega,by omega,by omega,by omega,fun _=>by simp,by simp,fun z=>by have:=bA.gt (cH.cD z);omega,l.length+1,fun _=>by omega,Qe bA cH⟩
 rintro ⟨a2,az,bo,xs⟩ aW
 dsimp only at aW
 obtain ⟨Qg,Qh,Qi,Qj,xy,S8,Qk,GV,vc,Bx⟩:=aW
 refine aU ?_
 refine cI [0] [bg l n a2 az bo] (kt (l2 l 1 ([105,110,112,117,116]:List UInt8) a2 az)) rfl (fun bs aq gd=>sy l n a2 az bo 1 ([105,110,112,117,116]:List UInt8) (bs.getD 0 0) av (by omega) (by omega) (by omega) aq gd) ?_
 refine ax (fun I=>?_) (fun I=>?_)
 · obtain ⟨cf,v1⟩:=p3 I
   have h5:=hi v1
   refine cl ?_
   refine cc 72 [0] (σ:=Int×Int) (fun ⟨eU,fc⟩=>nB l n 2 a2 az bo eU fc ((xs.length:Int)=8)) (fun ⟨eU,fc⟩=> .cM []) (fun ⟨eU,fc⟩=>[bg l n a2 eU fc]) rfl (fun _=>rfl) (fun bs aq gd an K ad=>xx l n a2 az bo (xs.length:Int) 8 (bs.getD 0 0) av (by omega) (by omega) (by omega) aq gd K (fun bF bG aL=>ad (bF,bG) aL)) ?_
   rintro ⟨eU,fc⟩ dA
   dsimp only at dA
   have xe:=dA.bW (by decide) (by omega)
   refine ax (by omega) ?_
   refine cc 72 [0] (σ:=al×Int×Int×Int) (fun ⟨hZ,gE,gF,gM⟩=>bj l (ck l n 1 [] (a2+1)) hZ (a2+1) eU fc gE gF gM) (fun ⟨hZ,gE,gF,gM⟩=>aR hZ) (fun ⟨hZ,gE,gF,gM⟩=>[bg l n gE gF gM]) rfl (fun _=>rfl) (fun bs aq gd an K ad=>nx l n (a2+1) eU fc (bs.getD 0 0) av (by omega) (by omega) (by omega) aq gd K (fun cP bO bF bG aL=>ad (cP,bO,bF,bG) aL)) ?_
   rintro ⟨hZ,gE,gF,gM⟩ dR
   dsimp only at dR
   have AT:=dR.bh
   have AU:=dR.ab
   have AV:=dR.bW
   refine cc 72 [0] (σ:=al×Int×Int×Int) (fun ⟨iI,gf,ev,eQ⟩=>(bj l (ck l n 4 ([61]:List UInt8) gE) iI gE gF gM gf ev eQ)∧(ev≠0→iI=[])) (fun ⟨iI,gf,ev,eQ⟩=>aR iI) (fun ⟨iI,gf,ev,eQ⟩=>[bg l n gf ev eQ]) rfl (fun _=>rfl) (fun bs aq gd an K ad=>iF l n gE gF gM 4 ([61]:List UInt8) (bs.getD 0 0) av (by omega) (by omega) (by omega) aq gd K (fun cP bO bF bG aL au=>ad (cP,bO,bF,bG) ⟨aL,au⟩)) ?_
   rintro ⟨iI,gf,ev,eQ⟩ eC
   dsimp only at eC
   obtain ⟨eC,F0⟩:=eC
   have F1:=eC.bh
   have F2:=eC.ab
   have AY:=eC.bW
   refine cI [0] [bg l n gf ev eQ] (aK (cJ l n gf)) rfl (fun bs aq gd=>AP l n gf ev eQ (bs.getD 0 0) av (by omega) (by omega) aq gd) ?_
   refine cc 72 [0] (σ:=ar×Int×Int×Int) (fun ⟨gi,dW,dY,eD⟩=>bj l (hN l n gf) gi gf ev eQ dW dY eD) (fun ⟨gi,dW,dY,eD⟩=>ic gi) (fun ⟨gi,dW,dY,eD⟩=>[bg l n dW dY eD]) rfl (fun _=>rfl) (fun bs aq gd an K ad=>xt l n gf ev eQ 6 (bs.getD 0 0) (u4 l n av hw 6 (by decide)) av (by omega) (by omega) (by omega) rfl aq gd K (ch.up an aC) (fun eJ bO bF bG aL=>ad (eJ,bO,bF,bG) aL)) ?_
   rintro ⟨gi,dW,dY,eD⟩ e1
   dsimp only at e1
   have u1:=e1.bh
   have u2:=e1.ab
   have u3:=e1.bW
   refine aU ?_
   refine dc [0,2,3,4,5,6] 50 ((dY==0)&&((!(gi.kind==1))||(!(oh gi.v)))) ?_ ?_
   · repeat' first
      |exact ⟨⟨_,rfl,by grind [bT.val,oh]⟩,rfl⟩
      |refine ax (fun _=>?_) (fun _=>?_)
      |refine dV (fun _=>Bh gi.v) rfl ?_
   refine ax (fun J=>?_) (fun J=>?_)
   · replace J:(dY=0)∧((gi.kind≠1)∨(oh gi.v=false)):=⟨(eq_of_beq (fC J)),((dD (gS J)).imp (fun q=>(ne_of_beq_false (dt q))) (fun q=>(dt q)))⟩
     refine M0 cw 72 rfl rfl ?_
     refine ap fq xs ([(⟨hZ,gi.v⟩:(al×a6))]:List (al×a6)) rfl rfl (fun _=>⟨rfl,rfl⟩) (by (simp only [List.length_append,List.length_cons,List.length_nil];omega)) ?_
     refine ⟨(dW,5,cJ l n gf,xs++([(⟨hZ,gi.v⟩:(al×a6))]:List (al×a6))),⟨rfl,rfl⟩,?_,?_⟩
     · try dsimp only
       have c0:=e1.PY J.1 J.2
       have aJ:=fun z=>dA.no (by decide) (dR.cD (eC.cD (c0.cD z)))
       simp only [List.length_append,List.length_cons,List.length_nil]
       exact ⟨by omega,by omega,by omega,by omega,fun z=>by have:=aJ z;have:=xy cf;omega,by have:=xy cf;omega,fun z=>by omega,GV- 1,fun z=>by have:=vc cf;omega,((((Bx.to fun _=>GQ (by have:=vc cf;omega) v1).room dA (by decide)).at au).step dR |>.step eC).step c0⟩
     try dsimp only
     rw [if_pos cf]
     split<;>omega
   replace J:(dY≠0)∨((gi.kind=1)∧(oh gi.v=true)):=((gT J).imp (fun q=>(ne_of_beq_false q)) (fun q=>⟨(eq_of_beq (dy (b8 q))),(dy (dC q))⟩))
   refine ap fq xs ([(⟨hZ,gi.v⟩:(al×a6))]:List (al×a6)) rfl rfl (fun _=>⟨rfl,rfl⟩) (by (simp only [List.length_append,List.length_cons,List.length_nil];omega)) ?_
   refine ⟨(dW,dY,eD,xs++([(⟨hZ,gi.v⟩:(al×a6))]:List (al×a6))),⟨rfl,rfl⟩,?_,?_⟩
   · try dsimp only
     have c0:=e1.PZ fun z=>J.resolve_left fun c=>c z
     have aJ:=fun z=>dA.no (by decide) (dR.cD (eC.cD (c0.cD z)))
     simp only [List.length_append,List.length_cons,List.length_nil]
     exact ⟨by omega,by omega,by omega,by omega,fun z=>by have:=aJ z;have:=xy cf;omega,by have:=xy cf;omega,fun z=>by omega,GV- 1,fun z=>by have:=vc cf;omega,((((Bx.to fun _=>GQ (by have:=vc cf;omega) v1).room dA (by decide)).at au).step dR |>.step eC).step c0⟩
   try dsimp only
   rw [if_pos cf]
   split<;>omega
 refine aU ?_
 refine dE (σ:=Int×Int×Int×List e7) [] [0,2,3] 3 (fun ⟨a3,cB,gK,eH⟩=>([(0, .loc 0 0),(2, .loc 1 0),(3, .loc 2 0)],[bg l n a3 cB gK, .cells [aR ([]), .own [], .own [], .own []], .cells [aR dM, .own (xs.map fq), .own (eH.map fh), .own []]],m)) (fun ⟨a3,cB,gK,eH⟩=>0≤a3∧a≤a3∧a3≤l.length∧0≤cB∧(cB=0→(eH.length:Int)≤8)∧eH.length≤9∧(cB=0→a<a3)∧∃aZ:Nat,(cB=0→l.length- a3<aZ)∧fJ (lB l n a) a e q a3 cB gK (lz l n (GS l n dM xs) aZ a3 eH)) (fun ⟨a3,cB,gK,eH⟩=>if cB=0 then l.length- a3.toNat+1 else 0) (a2,az,bo,[]) ⟨rfl,rfl⟩ ?_ ?_
 · try dsimp only
   exact ⟨Qg,Qh,Qi,Qj,fun _=>by simp,by simp,Qk,l.length+1,fun _=>by omega,Bx.to fun z=>P9 (by have:=vc z;omega) (q2 I z)⟩
 rintro ⟨a3,cB,gK,eH⟩ cR
 dsimp only at cR
 obtain ⟨Ql,Qm,Qn,Qo,GW,S9,Qp,Qq,By,GX⟩:=cR
 refine aU ?_
 refine cI [0] [bg l n a3 cB gK] (kt (l2 l 1 ([114,101,115,111,117,114,99,101]:List UInt8) a3 cB)) rfl (fun bs aq gd=>sy l n a3 cB gK 1 ([114,101,115,111,117,114,99,101]:List UInt8) (bs.getD 0 0) av (by omega) (by omega) (by omega) aq gd) ?_
 refine ax (fun ak=>?_) (fun ak=>?_)
 · obtain ⟨dQ,v2⟩:=p3 ak
   have hT:=hi v2
   refine cl ?_
   refine cc 72 [0] (σ:=Int×Int) (fun ⟨fU,gq⟩=>nB l n 2 a3 cB gK fU gq ((eH.length:Int)=8)) (fun ⟨fU,gq⟩=> .cM []) (fun ⟨fU,gq⟩=>[bg l n a3 fU gq]) rfl (fun _=>rfl) (fun bs aq gd an K ad=>xx l n a3 cB gK (eH.length:Int) 8 (bs.getD 0 0) av (by omega) (by omega) (by omega) aq gd K (fun bF bG aL=>ad (bF,bG) aL)) ?_
   rintro ⟨fU,gq⟩ gH
   dsimp only at gH
   have F7:=gH.bW (by decide) (by omega)
   refine ax (by omega) ?_
   refine kR cw Tryd.mixed (σ:=Int×Int×Int×e7) (.f 0 (.f 2 (.o 1 (.s 3 (.s 4 (.s 5 (.f 6 (.s 7 .d))))) (.o 3 (.o 1 (.s 4 (.s 5 (.f 6 (.s 7 .d)))) (.o 4 (.s 1 (.s 5 (.f 6 (.s 7 .d)))) .z)) .z)))) [] [0,2,3] 3 (fun ⟨l7,f9,mN,kV⟩=>([(0, .loc 0 0),(2, .loc 1 0),(3, .loc 2 0)],[bg l n l7 f9 mN, .cells [aR ([]), .own [], .own [], .own []], .cells [aR dM, .own (xs.map fq), .own ((eH++([kV]:List e7)).map fh), .own []]],m)) (fun ⟨l7,f9,mN,kV⟩=>bj l (ly l n (a3+1)) kV (a3+1) fU gq l7 f9 mN) (by decide+kernel) ?_ ?_
   · rintro ⟨l7,f9,mN,kV⟩ sR
     try dsimp only at sR
     have Ta:=sR.bh
     have Tb:=sR.ab
     have Tc:=sR.bW
     refine ⟨(l7,f9,mN,eH++([kV]:List e7)),⟨rfl,rfl⟩,?_,?_⟩
     · try dsimp only
       have aJ:=fun z=>gH.no (by decide) (sR.cD z)
       simp only [List.length_append,List.length_cons,List.length_nil]
       exact ⟨by omega,by omega,by omega,by omega,fun z=>by have:=aJ z;have:=GW dQ;omega,by have:=GW dQ;omega,fun z=>by omega,Qq- 1,fun z=>by have:=By dQ;omega,(((GX.to fun _=>Qa (by have:=By dQ;omega) v2).room gH (by decide)).at au).step sR⟩
     try dsimp only
     rw [if_pos dQ]
     split<;>omega
   repeat' first
    |refine ⟨(hK,h0,ie,pc),⟨rfl,rfl⟩,fe⟩
    |(refine cc 72 [0] (σ:=e7×Int×Int×Int) (fun ⟨pc,hK,h0,ie⟩=>bj l (ly l n (a3+1)) pc (a3+1) fU gq hK h0 ie) (fun ⟨pc,hK,h0,ie⟩=> .agg [aR pc.kind,aR pc.name,aX (pc.parts.map dO)]) (fun ⟨pc,hK,h0,ie⟩=>[bg l n hK h0 ie]) rfl (fun _=>rfl) (fun bs aq gd an K ad=>P5 l n (a3+1) fU gq (bs.getD 0 0) av (by omega) (by omega) (by omega) hw aq gd K (ch.up an aC) (fun eJ bO bF bG aL=>ad (eJ,bO,bF,bG) aL)) ?_;rintro ⟨pc,hK,h0,ie⟩ fe;dsimp only at fe;have F3:=fe.bh;have F4:=fe.ab;have F5:=fe.bW)
    |refine ap fh eH ([pc]:List e7) rfl rfl (fun _=>⟨rfl,rfl⟩) (by (simp only [List.length_append,List.length_cons,List.length_nil];omega)) ?_
    |refine ⟨?_,?_,trivial⟩
 refine aU ?_
 refine dE (σ:=Int×Int×Int×List (al×ar)) [] [0,2,3] 3 (fun ⟨a4,fv,iT,e0⟩=>([(0, .loc 0 0),(2, .loc 1 0),(3, .loc 2 0)],[bg l n a4 fv iT, .cells [aR ([]), .own [], .own [], .own []], .cells [aR dM, .own (xs.map fq), .own (eH.map fh), .own (e0.map dO)]],m)) (fun ⟨a4,fv,iT,e0⟩=>0≤a4∧a≤a4∧a4≤l.length∧0≤fv∧(fv=0→(e0.length:Int)≤8)∧e0.length≤9∧(fv=0→a<a4)∧∃aZ:Nat,(fv=0→l.length- a4<aZ)∧fJ (lB l n a) a e q a4 fv iT (lA l n (GR dM xs eH) aZ a4 e0)) (fun ⟨a4,fv,iT,e0⟩=>if fv=0 then l.length- a4.toNat+1 else 0) (a3,cB,gK,[]) ⟨rfl,rfl⟩ ?_ ?_
 · try dsimp only
   exact ⟨Ql,Qm,Qn,Qo,fun _=>by simp,by simp,Qp,l.length+1,fun _=>by omega,GX.to fun z=>Qb (by have:=By z;omega) (q2 ak z)⟩
 rintro ⟨a4,fv,iT,e0⟩ il
 dsimp only at il
 obtain ⟨Td,Qr,GY,Qs,GZ,Te,Qt,Qu,Bz,BA⟩:=il
 refine aU ?_
 refine cI [0] [bg l n a4 fv iT] (kt (l2 l 1 ([111,117,116,112,117,116]:List UInt8) a4 fv)) rfl (fun bs aq gd=>sy l n a4 fv iT 1 ([111,117,116,112,117,116]:List UInt8) (bs.getD 0 0) av (by omega) (by omega) (by omega) aq gd) ?_
 refine ax (fun aH=>?_) (fun aH=>?_)
 · obtain ⟨eN,v3⟩:=p3 aH
   have mD:=hi v3
   refine cl ?_
   refine cc 72 [0] (σ:=Int×Int) (fun ⟨gN,gO⟩=>nB l n 2 a4 fv iT gN gO ((e0.length:Int)=8)) (fun ⟨gN,gO⟩=> .cM []) (fun ⟨gN,gO⟩=>[bg l n a4 gN gO]) rfl (fun _=>rfl) (fun bs aq gd an K ad=>xx l n a4 fv iT (e0.length:Int) 8 (bs.getD 0 0) av (by omega) (by omega) (by omega) aq gd K (fun bF bG aL=>ad (bF,bG) aL)) ?_
   rintro ⟨gN,gO⟩ gz
   dsimp only at gz
   have A6:=gz.bW (by decide) (by omega)
   refine ax (by omega) ?_
   refine cc 72 [0] (σ:=al×Int×Int×Int) (fun ⟨gA,fo,fI,gg⟩=>bj l (ck l n 1 [] (a4+1)) gA (a4+1) gN gO fo fI gg) (fun ⟨gA,fo,fI,gg⟩=>aR gA) (fun ⟨gA,fo,fI,gg⟩=>[bg l n fo fI gg]) rfl (fun _=>rfl) (fun bs aq gd an K ad=>nx l n (a4+1) gN gO (bs.getD 0 0) av (by omega) (by omega) (by omega) aq gd K (fun cP bO bF bG aL=>ad (cP,bO,bF,bG) aL)) ?_
   rintro ⟨gA,fo,fI,gg⟩ fp
   dsimp only at fp
   have A0:=fp.bh
   have A1:=fp.ab
   have A2:=fp.bW
   refine cc 72 [0] (σ:=al×Int×Int×Int) (fun ⟨sS,gr,gB,gI⟩=>(bj l (ck l n 4 ([61]:List UInt8) fo) sS fo fI gg gr gB gI)∧(gB≠0→sS=[])) (fun ⟨sS,gr,gB,gI⟩=>aR sS) (fun ⟨sS,gr,gB,gI⟩=>[bg l n gr gB gI]) rfl (fun _=>rfl) (fun bs aq gd an K ad=>iF l n fo fI gg 4 ([61]:List UInt8) (bs.getD 0 0) av (by omega) (by omega) (by omega) aq gd K (fun cP bO bF bG aL au=>ad (cP,bO,bF,bG) ⟨aL,au⟩)) ?_
   rintro ⟨sS,gr,gB,gI⟩ gh
   dsimp only at gh
   obtain ⟨gh,Tf⟩:=gh
   have A3:=gh.bh
   have A4:=gh.ab
   have A5:=gh.bW
   refine kR cw Tryd.mixed (σ:=Int×Int×Int×ar) (.f 0 (.f 2 (.f 3 (.o 1 (.s 4 (.s 5 (.s 6 (.s 7 (.f 8 (.s 9 .d)))))) (.o 4 (.o 1 (.s 5 (.s 6 (.s 7 (.f 8 (.s 9 .d))))) (.o 5 (.o 1 (.s 6 (.s 7 (.f 8 (.s 9 .d)))) (.o 6 (.s 1 (.s 7 (.f 8 (.s 9 .d)))) .z)) .z)) .z))))) [] [0,2,3] 3 (fun ⟨c9,g9,vd,z9⟩=>([(0, .loc 0 0),(2, .loc 1 0),(3, .loc 2 0)],[bg l n c9 g9 vd, .cells [aR ([]), .own [], .own [], .own []], .cells [aR dM, .own (xs.map fq), .own (eH.map fh), .own ((e0++([(⟨gA,z9⟩:(al×ar))]:List (al×ar))).map dO)]],m)) (fun ⟨c9,g9,vd,z9⟩=>bj l (hN l n gr) z9 gr gB gI c9 g9 vd) (by decide+kernel) ?_ ?_
   · rintro ⟨c9,g9,vd,z9⟩ sT
     try dsimp only at sT
     have Tg:=sT.bh
     have Th:=sT.ab
     have Ti:=sT.bW
     refine ⟨(c9,g9,vd,e0++([(⟨gA,z9⟩:(al×ar))]:List (al×ar))),⟨rfl,rfl⟩,?_,?_⟩
     · try dsimp only
       have aJ:=fun z=>gz.no (by decide) (fp.cD (gh.cD (sT.cD z)))
       simp only [List.length_append,List.length_cons,List.length_nil]
       exact ⟨by omega,by omega,by omega,by omega,fun z=>by have:=aJ z;have:=GZ eN;omega,by have:=GZ eN;omega,fun z=>by omega,Qu- 1,fun z=>by have:=Bz eN;omega,((((BA.to fun _=>Qc (by have:=Bz eN;omega) v3).room gz (by decide)).at au).step fp |>.step gh).step sT⟩
     try dsimp only
     rw [if_pos eN]
     split<;>omega
   repeat' first
    |refine ⟨(ff,fg,fw,da),⟨rfl,rfl⟩,fT⟩
    |(refine cc 72 [0] (σ:=ar×Int×Int×Int) (fun ⟨da,ff,fg,fw⟩=>bj l (hN l n gr) da gr gB gI ff fg fw) (fun ⟨da,ff,fg,fw⟩=>ic da) (fun ⟨da,ff,fg,fw⟩=>[bg l n ff fg fw]) rfl (fun _=>rfl) (fun bs aq gd an K ad=>xt l n gr gB gI 6 (bs.getD 0 0) (u4 l n av hw 6 (by decide)) av (by omega) (by omega) (by omega) rfl aq gd K (ch.up an aC) (fun eJ bO bF bG aL=>ad (eJ,bO,bF,bG) aL)) ?_;rintro ⟨da,ff,fg,fw⟩ fT;dsimp only at fT;have xi:=fT.bh;have xj:=fT.ab;have xk:=fT.bW)
    |refine ap dO e0 ([(⟨gA,da⟩:(al×ar))]:List (al×ar)) rfl rfl (fun _=>⟨rfl,rfl⟩) (by (simp only [List.length_append,List.length_cons,List.length_nil];omega)) ?_
    |refine ⟨?_,?_,trivial⟩
 refine rt rfl fun _=>?_
 show K (.agg [.str dM, .slice false (xs.map fq), .slice false (eH.map fh), .slice false (e0.map dO)]) (ae.a1 m [(r, .cells [.slice false (l.map bS), .int .i64 a4, .int .i64 n, .err 72 fv, .int .i64 iT])])
 refine ad ⟨dM,xs,eH,e0⟩ _ _ _ ?_
 by_cases z:fv=0
 · exact (BA.to fun z=>Qd (by have:=Bz z;omega) (q2 aH z)).ok z (Qt z) GY
 · exact BA.bad z Qr GY Qs
end Go.Proofs
end
