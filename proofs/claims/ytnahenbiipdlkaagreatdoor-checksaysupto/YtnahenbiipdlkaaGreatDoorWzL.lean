/-
  The executor, part 9: regions in their text's order; open orders.
-/
import Derived.Test.YtnahenbiipdlkaaGreatDoorWyH
import Derived.Lib.AppendStr
import Derived.Lib.LaidTab
import Derived.Lib.ItoaNum
import Derived.Sort.Grow
import Derived.Test.YtnahenbiipdlkaaGreatDoorWwS
import Derived.Test.YtnahenbiipdlkaaGreatDoorWyA
import Derived.Lib.AtoiErrMem
import Derived.Lib.Atoi
import Derived.Below
import Derived.Lib.AtoiAllCases
import Derived.Shelf.Strconv.AtoiAll
import Derived.Shelf.Strings.Prefix
import Derived.Shelf.Slices.Clone
import Derived.Shelf.Slices.CompactS
import Derived.Shelf.Slices.Turned
import Derived.Shelf.Small.Wraps
import Derived.Lib.RowBridge
section
namespace Go.bV
open Go Go.ba
section
variable {c:fy} {n:Nat} {L:List bu} {m:ae} {K:Fr→ae→Prop} {ops:Array Oper} {l:List Oper} {bs:List Nat}
theorem vu {t:Nat} {v:aR}:∀{fr:bJ} {k:bJ→Prop},nT fr t v k→den bs v=den bs (eR fr t)→∃aZ,k aZ∧bb bs aZ=bb bs fr
 |[],_,h,_=>⟨_,h,rfl⟩
 |(s,x)::r,k,h,e=>by
  simp only [nT] at h
  simp only [eR] at e
  cases ag:Nat.beq s t with
  |true=>
   rw [ag] at h e
   exact ⟨_,h,by simp only [bb];rw [show den bs v=den bs x from e]⟩
  |false=>
   rw [ag] at h e
   obtain ⟨aZ,cp,cD⟩:=vu (fr:=r) h e
   exact ⟨_,cp,by simp only [bb,cD]⟩
theorem Fs {gd:Option (Nat×Bool)} {fr:bJ} {on off:bJ→Prop} (h:sR ops.toList gd fr on off):
 (hI ops (bb bs fr) gd=some true∧∃aZ,on aZ∧bb bs aZ=bb bs fr)∨(hI ops (bb bs fr) gd=some false∧∃aZ,off aZ∧bb bs aZ=bb bs fr):=by
 cases gd with
 |none=>exact .inl ⟨rfl,_,h,rfl⟩
 |some zQ=>
  obtain ⟨j,b⟩:=zQ
  simp only [sR] at h
  rw [ig,Array.getElem?_toList] at h
  cases bl:(ops[j]?).bind (·.dst) with
  |none=>rw [bl] at h;exact h.elim
  |some g=>
   rw [bl] at h
   simp only at h
   rw [k7] at h
   have au:=ko bs fr g
   have AX:∀x,bd (bb bs fr) g=x→hI ops (bb bs fr) (some (j,b))=pZ x b:=fun x e=>by simp only [hI,bl,e]
   have key:∀(q:bD),eR fr g= .b q→(b=true→q.ways (nT fr g (.b (.lit true)) on) (nT fr g (.b (.lit false)) off))→(b=false→q.ways (nT fr g (.b (.lit true)) off) (nT fr g (.b (.lit false)) on))→
    (hI ops (bb bs fr) (some (j,b))=some true∧∃aZ,on aZ∧bb bs aZ=bb bs fr)∨(hI ops (bb bs fr) (some (j,b))=some false∧∃aZ,off aZ∧bb bs aZ=bb bs fr):=fun q aO fj ej=>by
    have bo:den bs (eR fr g)= .bool q.val:=by rw [aO];simp only [den]
    rw [AX (.bool q.val) (au.trans bo)]
    cases ag:b with
    |true=>
     obtain ⟨fD,jS⟩:=q.u5 (fj ag)
     cases bn:q.val with
     |true=>exact .inl ⟨rfl,vu (fD bn) (by rw [bo,bn];simp only [den,bD.val])⟩
     |false=>exact .inr ⟨rfl,vu (jS bn) (by rw [bo,bn];simp only [den,bD.val])⟩
    |false=>
     obtain ⟨fD,jS⟩:=q.u5 (ej ag)
     cases bn:q.val with
     |true=>exact .inr ⟨rfl,vu (fD bn) (by rw [bo,bn];simp only [den,bD.val])⟩
     |false=>exact .inl ⟨rfl,vu (jS bn) (by rw [bo,bn];simp only [den,bD.val])⟩
   cases al:eR fr g with
   |b q=>
    rw [al] at h
    cases q with
    |lit z=>
     have bo:bd (bb bs fr) g= .bool z:=by rw [au,al];simp only [den,bD.val]
     rw [AX _ bo]
     cases z<;>cases b<;>first|exact .inl ⟨rfl,_,h,rfl⟩|exact .inr ⟨rfl,_,h,rfl⟩
    |_=>exact key _ al (fun e=>by subst e;exact h) (fun e=>by subst e;exact h)
   |off=>
    rw [al] at h
    have bo:bd (bb bs fr) g= .lazy false .aS:=by rw [au,al];simp only [den]
    rw [AX _ bo]
    refine .inr ⟨?_,_,h,rfl⟩
    cases b<;>rfl
   |_=>rw [al] at h;exact h.elim
def rm (o:Oper):Bool:=
 match o.op,o.dst with
 | .store _ _ _,some _=>false
 |_,_=>true
theorem Oa {o:Oper} (h:rm o=true):∀t a x,o.op= .store t a x→o.dst=none:=by
 intro t a x e
 unfold rm at h
 rw [e] at h
 cases bo:o.dst with
 |none=>rfl
 |some d=>rw [bo] at h;cases h
theorem sZ {b0:List Nat} (aV:eX c.P c.T=true) (dh:c.bs=b0) {bT:List Nat}:∀(l:List Oper) {fr:bJ} {L:List bu} {m:ae} {new:List Nat} {k:cE},(∀o∈l,eQ n o=true∧gh n o=true∧rm o=true)→Good (b0++new) L m→
 qf c ops.toList bT l fr L m k→(∀aZ bF m' ee,Good (b0++ee) bF m'→k aZ bF m'→K (bb (b0++ee) aZ) (bH (b0++ee) bF m'))→bS c.P n ops l K (bb (b0++new) fr) (bH (b0++new) L m)
 |[],fr,L,m,new,k,_,g,h,ab=>bS.nil (ab fr L m new g h)
 |o::r,fr,L,m,new,k,bL,g,h,ab=>by
  obtain ⟨dst,op,ty,pos,af,gd⟩:=o
  obtain ⟨J,aa,ai⟩:=bL _ (List.mem_cons_self ..)
  rw [Nx] at h
  rcases Fs (bs:=b0++new) h with ⟨bl,aZ,h,e⟩|⟨bl,aZ,h,e⟩
  · refine bS.NI bl ?_
    rw [←e]
    refine N9 aV dh g (Oa (o:=⟨dst,op,ty,pos,af,gd⟩) ai) J aa ⟨by rw [dh];exact List.prefix_append _ _,fun pt zZ m2 Uy aU g2 h=>?_⟩ h
    obtain ⟨ee,rfl⟩:=aU
    rw [dh] at g2 ⊢
    exact sZ aV dh r (new:=ee) (fun o aL=>bL o (List.mem_cons_of_mem _ aL)) g2 h ab
  · refine bS.NJ bl J ?_
    rw [←e]
    obtain ⟨pt,h,aC⟩:=nh (bs:=b0++new) h
    have:=sZ aV dh r (new:=new) (fun o aL=>bL o (List.mem_cons_of_mem _ aL)) g h ab
    rw [aC] at this
    simp only [den] at this
    exact this
theorem Ob {b0 new:List Nat} (aV:eX c.P c.T=true) (dh:c.bs=b0) (g:Good (b0++new) L m) {o:Oper} {fr:bJ} {k:bJ→Prop} (h:xw c o.dst o.op fr L m k):
 ∃cv side x,j2 c.P (bH (b0++new) L m) cv (bd (bb (b0++new) fr)) o=some (side,x)∧side∧∃aZ,k aZ∧bb (b0++new) aZ=ep (bb (b0++new) fr) o.dst x:=by
 obtain ⟨dst,op,ty,pos,af,gd⟩:=o
 cases dst with
 |none=>exact h.elim
 |some d=>
  simp only [xw] at h
  split at h
  · subst dh
    obtain ⟨us,J,e⟩:=q6 (c.bs++new) h
    obtain ⟨y,aa,ai⟩:=J
    obtain ⟨cv,aJ,aY⟩:=aa new g
    refine ⟨cv,_,_,by simp only [j2];rfl,?_,_,ai,?_⟩
    · rw [←e];exact aJ
    · simp only [bb,ep,Fr.put,aY]
  · rename_i t parts
    obtain ⟨i,dp,J⟩:=dT aV h
    cases ad:i.k with
    |st cL=>
     rw [ad] at J
     obtain ⟨ao,aa⟩:=dN.1 J
     rw [gJ] at aa
     obtain ⟨cells,side,ai,aX,al⟩:=Fo (bs:=b0++new) (m:=bH (b0++new) L m) (stl:=[]) (d:=some d) aV dp ad (by intro e;rw [e] at ao;cases ao) aa rfl
     obtain ⟨u,aJ,e⟩:=sA (b0++new) ai
     refine ⟨.aS,side,(U.agg (bm (b0++new) cells)).plain,by simp only [j2,aX],al,_,aJ,?_⟩
     simp only [bb,den,ep,Fr.put,U.plain,e]
    |_=>rw [ad] at J;exact J.elim
  · rename_i t cm parts
    obtain ⟨i,dp,J⟩:=dT aV h
    unfold jv at J
    cases ad:i.k with
    |bT e=>
     rw [ad] at J
     obtain ⟨j,e8,aa⟩:=dT aV J
     obtain ⟨us,ai,he⟩:=xI (bs:=b0++new) aa
     obtain ⟨jd,aJ⟩:=dN.1 ai
     obtain ⟨c2,aY⟩:=dN.1 aJ
     obtain ⟨c3,bG⟩:=dN.1 aY
     obtain ⟨c7,aB⟩:=toLK_sound (bs:=b0++new) bG
     obtain ⟨c4,cV⟩:=dN.1 c7
     obtain ⟨aX,uT⟩:=Fl (bs:=b0++new) (m:=bH (b0++new) L m) (stl:=[]) (d:=some d) aV dp ad e8 he jd c2 c3 aB c4 rfl
     refine ⟨.aS,_,(U.slice true (bm (b0++new) (nS us))).plain,by simp only [j2,aX],uT,_,cV,?_⟩
     simp only [bb,den,ep,Fr.put,U.plain]
    |_=>rw [ad] at J;exact J.elim
  · obtain ⟨q,J,aM⟩:=e0 (b0++new) h
    split at J
    · obtain ⟨u,aa,aC⟩:=e0 (b0++new) J
      simp only [den,bD.val] at aM
      exact ⟨.aS,True,_,by simp only [j2,←aM];rfl,trivial,_,aa,by simp only [bb,ep,Fr.put,aC]⟩
    · obtain ⟨u,aa,aC⟩:=e0 (b0++new) J
      simp only [den,bD.val] at aM
      exact ⟨.aS,True,_,by simp only [j2,←aM];rfl,trivial,_,aa,by simp only [bb,ep,Fr.put,aC]⟩
    · exact J.elim
  · rename_i h2 e3 nW nX
    obtain ⟨side,z,u,aO,al,rfl,J⟩:=E8 (P:=c.P) (bs:=b0++new) (m:=m) aV g h
    refine ⟨.aS,side,_,?_,al,_,J,rfl⟩
    rw [←aO]
    unfold j2
    split
    · rename_i e;exact (h2 _ _ _ e).elim
    · rename_i e;exact (nW _ _ _ e).elim
    · rename_i e;exact (e3 _ _ e).elim
    · rename_i e;exact (nX _ _ _ e).elim
    · rfl
theorem AY {b0 new:List Nat} (aV:eX c.P c.T=true) (dh:c.bs=b0) (g:Good (b0++new) L m):∀(l:List Oper) {fr:bJ} {k:bJ→Prop},vn c ops.toList l fr L m k→
 ∃cs,mm c.P ops (bH (b0++new) L m) cs l (bb (b0++new) fr) (fun f=>∃aZ,f=bb (b0++new) aZ∧k aZ)
 |[],fr,k,h=>⟨[],_,rfl,h⟩
 |o::r,fr,k,h=>by
  rw [Ny] at h
  rcases Fs (bs:=b0++new) h with ⟨bl,aZ,h,e⟩|⟨bl,aZ,h,e⟩
  · obtain ⟨cv,side,x,J,aa,pt,ai,aC⟩:=Ob aV dh g h
    obtain ⟨cs,aJ⟩:=AY aV dh g r ai
    rw [aC,e] at aJ
    rw [e] at J
    by_cases ar:∃f args cT,o.op= .call ⟨.value (.func f),args,cT⟩
    · obtain ⟨f,args,cT,c8⟩:=ar
      refine ⟨cv::cs,?_⟩
      simp only [mm,List.headD_cons]
      rw [Eo bl,J]
      simp only [c8,List.tail_cons]
      exact ⟨aa,aJ⟩
    · have Ag:j2 c.P (bH (b0++new) L m) (cs.headD .aS) (bd (bb (b0++new) fr)) o=some (side,x):=by
       rw [←J]
       unfold j2
       split
       · rename_i c8;exact absurd ⟨_,_,_,c8⟩ ar
       all_goals rfl
      refine ⟨cs,?_⟩
      simp only [mm]
      rw [Eo bl,Ag]
      refine ⟨aa,?_⟩
      split
      · rename_i c8;exact absurd ⟨_,_,_,c8⟩ ar
      · exact aJ
  · obtain ⟨pt,ai,aC⟩:=nh (bs:=b0++new) h
    obtain ⟨cs,aJ⟩:=AY aV dh g r ai
    rw [aC,e] at aJ
    simp only [den] at aJ
    by_cases ar:∃f args cT,o.op= .call ⟨.value (.func f),args,cT⟩
    · obtain ⟨f,args,cT,c8⟩:=ar
      refine ⟨.aS::cs,?_⟩
      simp only [mm]
      rw [Ep bl]
      simp only [c8,List.tail_cons]
      exact ⟨trivial,aJ⟩
    · refine ⟨cs,?_⟩
      simp only [mm]
      rw [Ep bl]
      refine ⟨trivial,?_⟩
      split
      · rename_i c8;exact absurd ⟨_,_,_,c8⟩ ar
      · exact aJ
theorem Ft:∀{iy:List (Nat×Nat)} {fr:bJ} {k:bJ→Prop},xx iy fr k→∃aZ,k aZ∧bb bs aZ=(bb bs fr).alias iy
 |[],_,_,h=>⟨_,h,rfl⟩
 |(d,s)::r,fr,k,h=>by
  simp only [xx] at h
  rw [k7] at h
  obtain ⟨aI,J⟩:=dN.1 h
  obtain ⟨u,aa,e⟩:=sB bs aI J
  obtain ⟨aZ,ai,aC⟩:=Ft aa
  refine ⟨aZ,ai,?_⟩
  rw [aC]
  simp only [bb,Fr.alias,Fr.put,ko,e]
section
variable {P:Program} {fr:Fr} {Q hH:Exit→Fr→ae→Prop} {fY:Code}
theorem de.vv (aO:∀e fr m,Q e fr m→∃aZ m',fz aZ fr∧(∀b o,m' b=some o→m b=some o)∧hH e aZ m') (h:de P n fY Q fr m):de P n fY hH fr m:=fun F lim w ca st=>
 wp_mono (h F lim w ca st) fun e _ _ ⟨l,f,aF,q,fq,dQ⟩=>by
  obtain ⟨fe,m',J,aa,ai⟩:=aO e f aF q
  exact ⟨l,fe,m',ai,(bc.less fq J).qG aa,dQ⟩
theorem de.Fu {m':ae} (al:∀b o,m' b=some o→m b=some o) (h:de P n fY Q fr m'):de P n fY Q fr m:=fun F lim w ca st=>h F lim w ca (st.qG al)
theorem bS.ey (h:bS P n ops l K fr m):bS P n ops l (fun f m=>(∀t x,f.get t=some x→t<n)∧K f m) fr m:=fun F lim w ca vw st aO=>
 h F lim w ca vw st fun lim' w' f m' dX ak fq dQ=>aO lim' w' f m' dX ⟨fun t x aq=>by obtain ⟨_,_,_,s⟩:=fq;exact (s.ey t x aq).1,ak⟩ fq dQ
theorem Fv {f:Fr} {t:Nat}:∀{ks:List Nat},t∈ks→(Fr.keep ks f).get t=some ((f.get t).getD .aS)
 |s::r,h=>by
  simp only [Fr.keep,List.map_cons,Fr.get]
  by_cases e:s=t
  · subst e;rw [if_pos rfl]
  · rw [if_neg e]
    rcases List.mem_cons.1 h with rfl|h
    · exact absurd rfl e
    · exact Fv (f:=f) h
theorem AZ {f:Fr} (aN:∀t x,f.get t=some x→t<n):fz f (f.keep (List.range n)):=fun t x aq=>by
 refine ⟨x,?_, .inl rfl⟩
 rw [Fv (List.mem_range.2 (aN t x aq)),aq];rfl
theorem A0 (h:kf n ops []=true):kf n ops (List.range n)=true:=by
 simp only [kf,Bool.and_eq_true,List.all_eq_true] at h ⊢
 exact ⟨h.1,fun t aB=>by simpa using aB⟩
theorem Oc {id:Nat} (ak:kf n ops []=true) (h:bS P n ops ops.toList (fun fr m=>Q .normal fr m) fr m):de P n (.region id ops false) Q fr m:=by
 have:=A0 ak
 simp only [kf,Bool.and_eq_true] at this
 refine de.vv (Q:=fun e f m=>∃fe,fz fe f∧Q e fe m) (fun e f m ⟨fe,J,aa⟩=>⟨fe,m,J,fun _ _ h=>h,aa⟩) (Di (List.range n) this.2 ?_)
 intro F lim w ca vw st aO
 exact (bS.ey h) F lim w ca vw st fun lim' w' f m' dX ak fq dQ=>aO lim' w' f m' dX ⟨f,AZ ak.1,ak.2⟩ fq dQ
theorem Od {id:Nat} (hm:P.follows .mixedOrders=true) (p:Nat) (iy:List (Nat×Nat)) (ak:kf n ops []=true) (bo:qV ops p iy=true)
 (h:∃cs,mm P ops m cs (ops.toList.take p) fr (fun aZ=>bS P n ops (ops.toList.drop p) (fun fr m=>Q .normal fr m) (aZ.alias iy) m)):de P n (.region id ops true) Q fr m:=by
 obtain ⟨cs,h⟩:=h
 refine de.vv (Q:=fun e f m=>∃fe,fz fe f∧Q e fe m) (fun e f m ⟨fe,J,aa⟩=>⟨fe,m,J,fun _ _ h=>h,aa⟩) (Ma hm p iy cs (List.range n) (A0 ak) bo (El _ (fun f h=>?_) h))
 intro F lim w ca vw st aO
 exact (bS.ey h) F lim w ca vw st fun lim' w' f m' dX ak fq dQ=>aO lim' w' f m' dX ⟨f,AZ ak.1,ak.2⟩ fq dQ
end
def vx (xs:List Nat) (n id:Nat) (ops:Array Oper) (draw:Bool):Bool:=
 kf n ops []&&(ops.toList.all rm)&&(!draw||has xs (id*1000+999)||qV ops (ri xs id ops.toList 0) (sS (pq ops.toList) (ops.toList.take (ri xs id ops.toList 0))))
theorem Fw {b0 new:List Nat} (aV:eX c.P c.T=true) (hm:c.P.follows .mixedOrders=true) (dh:c.bs=b0) (g:Good (b0++new) L m) {id:Nat} {draw:Bool} (au:vx c.xs n id ops draw=true) {fr:bJ} {k:cE} {Q:Exit→Fr→ae→Prop}
 (h:qg c id ops.toList draw k fr L m) (ab:∀aZ bF m' ee,Good (b0++ee) bF m'→k aZ bF m'→Q .normal (bb (b0++ee) aZ) (bH (b0++ee) bF m')):de c.P n (.region id ops draw) Q (bb (b0++new) fr) (bH (b0++new) L m):=by
 simp only [vx,Bool.and_eq_true] at au
 obtain ⟨⟨J,aa⟩,ai⟩:=au
 have bL:∀o∈ops.toList,eQ n o=true∧gh n o=true∧rm o=true:=fun o aL=>by
  simp only [kf,Bool.and_eq_true,List.all_eq_true] at J
  rw [List.all_eq_true] at aa
  exact ⟨(J.1 o aL).1,(J.1 o aL).2,aa o aL⟩
 cases draw with
 |false=>exact Oc J (sZ aV dh _ bL g h ab)
 |true=>
  simp only [qg] at h
  cases aq:has c.xs (id*1000+999) with
  |true=>rw [aq] at h;exact h.elim
  |false=>
  rw [aq] at h ai
  simp only [gJ] at h
  refine Od hm (ri c.xs id ops.toList 0) (sS (pq ops.toList) (ops.toList.take (ri c.xs id ops.toList 0))) J (by simpa using ai) ?_
  obtain ⟨cs,aJ⟩:=AY aV dh g _ h
  refine ⟨cs,El _ (fun f aN=>?_) aJ⟩
  obtain ⟨aZ,rfl,aY⟩:=aN
  obtain ⟨pt,bG,e⟩:=Ft (bs:=b0++new) aY
  rw [←e]
  exact sZ aV dh _ (fun o aL=>bL o (List.mem_of_mem_drop aL)) g bG ab
end
end Go.bV
end
section
namespace Go.bV
open Go Go.ba
def mr (c:List Nat) (n:Nat):Code→Bool
 | .region id ops draw=>vx c n id ops draw
 | .seq a b=>mr c n a&&mr c n b
 | .cond q x y=>kD q&&mr c n x&&mr c n y
 | .block _ b=>mr c n b
 | .loop b=>mr c n b
 | .skip| .ret| .exit _=>true
 |_=>false
def hT (bs:List Nat) (kn:cE) (kx:Nat→cE) (kr:cE) (e:Exit) (f:Fr) (aF:ae):Prop:=
 ∃fr L m ee,Good (bs++ee) L m∧f=bb (bs++ee) fr∧aF=bH (bs++ee) L m∧
  match e with
  | .normal=>kn fr L m
  | .exit id=>kx id fr L m
  | .ret=>kr fr L m
  |_=>False
section
variable {c:fy} {n:Nat} {b0:List Nat}
theorem hT.kq {b0 new:List Nat} {kn:cE} {kx:Nat→cE} {kr:cE} {e:Exit} {fr:bJ} {L:List bu} {m:ae} (g:Good (b0++new) L m) (h:match e with| .normal=>kn fr L m| .exit id=>kx id fr L m| .ret=>kr fr L m|_=>False):hT b0 kn kx kr e (bb (b0++new) fr) (bH (b0++new) L m):=
 ⟨fr,L,m,new,g,rfl,rfl,h⟩
theorem take_split {b0 new:List Nat} {n:Nat} (h:b0.length≤n):(b0++new).take n=b0++new.take (n- b0.length):=by
 rw [List.take_append,List.take_of_length_le h]
theorem A1 (bs:List Nat):∀{fr:bJ} {t:Nat} {v:aR},rj fr t=some v→(bb bs fr).get t=some (den bs v)
 |[],_,_,h=>by cases h
 |(s,x)::r,t,v,h=>by
  simp only [rj] at h
  simp only [bb,Fr.get]
  cases ag:Nat.beq s t with
  |true=>
   rw [ag] at h
   rw [if_pos (Nat.eq_of_beq_eq_true ag)]
   simp only [cond_true,Option.some.injEq] at h
   rw [h]
  |false=>
   rw [ag] at h
   have:¬s=t:=by
    intro e
    subst e
    have:Nat.beq s s=true:=Nat.beq_refl s
    rw [this] at ag
    cases ag
   rw [if_neg this]
   exact A1 bs h
theorem Fx (bs:List Nat) (E:Nat) (v:aR):den bs (iX E v)=(den bs v).toErr E:=by
 unfold iX
 split
 · simp only [den,U.plain,U.toErr]
 · rename_i u e
   simp only [den,U.plain,U.toErr]
   cases ag:Nat.beq u E with
   |true=>
    obtain rfl:=Nat.eq_of_beq_eq_true ag
    by_cases he:e=0
    · subst he;simp [den,U.plain]
    · simp [he,den,U.plain]
   |false=>
    have:¬u=E:=fun e=>by subst e;rw [Nat.beq_refl] at ag;cases ag
    simp [this,den,U.plain]
 · rename_i J aa
   cases v with
   |aH x=>
    cases x with
    |nilIface=>exact absurd rfl J
    |iface u y=>
     simp only [den,U.plain]
     cases y with
     |int k z=>cases k<;>first|exact absurd rfl (aa _ _)|simp only [U.toErr]
     |_=>simp only [U.toErr]
    |_=>simp only [den,U.plain,U.toErr]
   |_=>simp only [den,U.toErr]
theorem Fy (bs:List Nat) (E:Nat) (v:aR):j5 (den bs (iX E v)) (den bs v):=by
 rw [Fx]
 by_cases h:(den bs v).toErr E=den bs v
 · exact .inl h
 · right
   intro w lim u os au
   have aa:=toErr_rep E au
   have ai:=aa.plain
   have aJ:((den bs v).toErr E).plain=(den bs v).toErr E:=by
    generalize den bs v=x at h ⊢
    cases x with
    |nilIface=>simp only [U.toErr,U.plain]
    |iface u y=>
     cases y with
     |int k z=>
      cases k<;>simp only [U.toErr] at h ⊢<;>first|(split<;>simp only [U.plain])|(simp only [U.plain];done)|exact absurd rfl h
     |_=>exact absurd rfl h
    |_=>exact absurd rfl h
   rw [aJ] at ai
   exact ai
theorem Oe (bs:List Nat) (E:Nat) (md:List (Nat×Nat)) (t:Nat) (v:aR):j5 (den bs (xy E md t v)) (den bs v):=by
 unfold xy
 split
 · cases md.any (fun p=>Nat.beq p.1 t) with
   |true=>exact .inl (by simp only [cond_true,den,bD.val])
   |false=>exact .inl rfl
 · exact .inl (by simp only [den,bD.val])
 · cases md.any (fun p=>Nat.beq p.1 t) with
   |true=>exact .pl (by simp only [cond_true,den,U.plain])
   |false=>exact .inl rfl
 · exact .inl (by simp only [den,U.plain,xG])
 · cases md.any (fun p=>Nat.beq p.1 t) with
   |true=>exact Fy bs E _
   |false=>exact .inl rfl
theorem xK (bs:List Nat) (E:Nat) (md:List (Nat×Nat)):∀(ks:List Nat) (fr:bJ),fz (bb bs (mq E md ks fr)) (bb bs fr)
 |[],fr,t,x,h=>by simp only [mq,bb,Fr.get] at h;cases h
 |s::r,fr,t,x,h=>by
  simp only [mq] at h
  cases al:rj fr s with
  |none=>rw [al] at h;exact xK bs E md r fr t x h
  |some v=>
   rw [al] at h
   simp only [bb,Fr.get] at h
   by_cases e:s=t
   · subst e
     rw [if_pos rfl] at h
     refine ⟨_,A1 bs al,?_⟩
     have:den bs (xy E md s v)=x:=by simpa using h
     rw [←this]
     exact Oe bs E md s v
   · rw [if_neg e] at h
     exact xK bs E md r fr t x h
theorem Fz (bs:List Nat):∀(l:List aR),bm bs (rk l)=bm bs l
 |[]=>rfl
 |v::r=>by cases v<;>simp only [rk,bm,den,bD.val,Fz bs r]
theorem Of (bs:List Nat) (o:bu):dV bs (vo o)=dV bs o:=by
 cases o with
 |cells l=>simp only [vo,dV,Fz]
 |obj o=>rfl
theorem A2 (bs:List Nat):∀(L:List bu),(ng L).map (dV bs)=L.map (dV bs)
 |[]=>rfl
 |o::r=>by simp only [ng,List.map_cons,Of,A2 bs r]
theorem FA (n:Nat):∀(l:List aR),nb n (rk l)=nb n l
 |[]=>rfl
 |v::r=>by cases v<;>simp only [rk,nb,va,FA n r]
theorem xL (n:Nat):∀(L:List bu),kP n (ng L)=kP n L
 |[]=>rfl
 | .cells l::r=>by simp only [ng,vo,kP,xh,FA,xL n r]
 | .obj o::r=>by simp only [ng,vo,kP,xh,xL n r]
theorem FB:∀(L:List bu),(ng L).length=L.length
 |[]=>rfl
 |o::r=>by simp only [ng,List.length_cons,FB r]
theorem vy {md:List (Nat×Nat)} {ks:List Nat} {k:Nat} {fr:bJ} {L:List bu} {m:ae} {s:sT} {new:List Nat} (dh:c.bs=b0) (g:Good (b0++new) L m) (h:fits c md ks k fr L m s):
 Good (b0++new.take (k- b0.length)) s.2.1 s.2.2∧fz (bb (b0++new.take (k- b0.length)) s.1) (bb (b0++new) fr)∧(∀b o,bH (b0++new.take (k- b0.length)) s.2.1 s.2.2 b=some o→bH (b0++new) L m b=some o)∧(b0++new.take (k- b0.length)).length=k:=by
 obtain ⟨J,aa⟩:=h
 subst J
 subst dh
 simp only [Bool.and_eq_true] at aa
 obtain ⟨⟨⟨cM,bI⟩,gI⟩,h4⟩:=aa
 have hg:=Nat.le_of_ble_eq_true gI
 have gR:=Nat.le_of_ble_eq_true h4
 have av:=g.len
 have FC:=take_split (new:=new) gR
 have hlen:((c.bs++new).take k).length=k:=by rw [List.length_take];omega
 rw [←FC]
 have FD:(c.bs++new)=(c.bs++new).take k++(c.bs++new).drop k:=(List.take_append_drop _ _).symm
 have jo:bH ((c.bs++new).take k) (ng (L.take k)) m=bH ((c.bs++new).take k) (L.take k) m:=by simp only [bH,hk,A2]
 rw [xL] at bI
 refine ⟨⟨?_,by rw [hlen,FB,List.length_take];omega,fun b ag=>g.fresh b (List.mem_of_mem_take ag)⟩,?_,fun b o ag=>?_,hlen⟩
 · exact g.bN.sublist (List.take_sublist _ _)
 · have e:bb (c.bs++new) (mq c.E md ks fr)=bb ((c.bs++new).take k) (mq c.E md ks fr):=by
    conv=>lhs;rw [FD]
    exact vc (by rw [hlen];exact cM)
   rw [←e]
   exact xK _ _ _ ks fr
 · simp only at ag
   rw [jo] at ag
   have o6:∀(A:List (Nat×fB)) (aF:ae),(A.map Prod.fst).Nodup→∀b o,aF.bf A b=some o→(∃i,A[i]?=some (b,o))∨(b∉A.map Prod.fst∧aF b=some o):=fun A aF gi b o ag=>by
    by_cases hm:b∈A.map Prod.fst
    · left
      obtain ⟨i,ad⟩:=List.getElem?_of_mem hm
      rw [List.getElem?_map] at ad
      cases dP:A[i]? with
      |none=>rw [dP] at ad;cases ad
      |some p=>
       rw [dP] at ad
       obtain ⟨gG,ei⟩:=p
       simp only [Option.map_some,Option.some.injEq] at ad
       subst ad
       have:=p3 (m:=aF) i gi dP
       rw [this] at ag
       simp only [Option.some.injEq] at ag
       subst ag
       exact ⟨i,dP⟩
    · right
      rw [mo hm] at ag
      exact ⟨hm,ag⟩
   have ni:((hk ((c.bs++new).take k) (L.take k)).map Prod.fst).Nodup:=by
    rw [na (by rw [hlen,List.length_take];omega)]
    exact g.bN.sublist (List.take_sublist _ _)
   rcases o6 _ m ni b o ag with ⟨i,ad⟩|⟨ai,aJ⟩
   · have zT:i<k:=by
      rcases Nat.lt_or_ge i k with h|h
      · exact h
      · rw [List.getElem?_eq_none] at ad
        · cases ad
        · simp only [hk,List.length_zip,hlen,List.length_map,List.length_take];omega
     refine p3 i g.nodup ?_
     have e:(L.take k).map (dV (c.bs++new))=(L.take k).map (dV ((c.bs++new).take k)):=by
      conv=>lhs;rw [FD]
      exact An (by rw [hlen];exact bI)
     have ao:hk ((c.bs++new).take k) (L.take k)=(hk (c.bs++new) L).take k:=by
      simp only [hk,←e,List.map_take,List.zip,List.take_zipWith]
     rw [ao,List.getElem?_take_of_lt zT] at ad
     exact ad
   · by_cases hm:b∈(c.bs++new)
     · rw [g.fresh b hm] at aJ;cases aJ
     · rw [bH,mo (by rw [na g.len];exact hm)]
       exact aJ
theorem A3 {bs:List Nat} {t:Nat}:∀{fr:bJ},(bb bs fr).get t=none→eR fr t= .aH .aS
 |[],_=>rfl
 |(s,x)::r,bl=>by
  simp only [bb,Fr.get] at bl
  by_cases e:s=t
  · rw [if_pos e] at bl;cases bl
  · rw [if_neg e] at bl
    have ag:Nat.beq s t=false:=by
     cases ag:Nat.beq s t with
     |false=>rfl
     |true=>exact absurd (Nat.eq_of_beq_eq_true ag) e
    simp only [eR,ag,cond_false]
    exact A3 bl
set_option maxHeartbeats 2000000 in
theorem FE (aV:eX c.P c.T=true) (hm:c.P.follows .mixedOrders=true) (dh:c.bs=b0) {id:Nat} {ops:Array Oper} {draw:Bool} {kn:cE} {kx:Nat→cE} {kr:cE} {fr:bJ} {L:List bu} {m:ae} {new:List Nat} (g:Good (b0++new) L m) (ak:vx c.xs n id ops draw=true)
 (h:sV c id ops.toList draw kn fr L m):de c.P n (.region id ops draw) (hT b0 kn kx kr) (bb (b0++new) fr) (bH (b0++new) L m):=by
 simp only [sV] at h
 have key:qg c id ops.toList draw kn fr L m→de c.P n (.region id ops draw) (hT b0 kn kx kr) (bb (b0++new) fr) (bH (b0++new) L m):=fun h=>
  Fw aV hm dh g ak h fun aZ bF m' ee dr ak=>⟨aZ,bF,m',ee,dr,rfl,rfl,ak⟩
 have A4:xA (fun kn fr L m=>qg c id ops.toList draw kn fr L m) kn fr L m→de c.P n (.region id ops draw) (hT b0 kn kx kr) (bb (b0++new) fr) (bH (b0++new) L m):=fun h=>by
  obtain ⟨qh,J,aa⟩:=h
  refine de.vv (fun e f aF aU=>?_) (Fw (Q:=hT b0 qh kx kr) aV hm dh g ak aa fun aZ bF m' ee dr ak=>⟨aZ,bF,m',ee,dr,rfl,rfl,ak⟩)
  obtain ⟨aZ,bF,m',ee,dr,rfl,rfl,cp⟩:=aU
  cases e with
  |normal=>
   obtain ⟨md,t,e,ks,⟨q,aO,he⟩,cd⟩:=J _ _ _ cp
   refine ⟨bb (b0++ee) ((t, .b (.raw e))::mq 0 md ks aZ),_,?_,fun _ _ h=>h,hT.kq (kn:=kn) (kx:=kx) (kr:=kr) (e:= .normal) dr cd⟩
   intro s x aq
   simp only [bb,Fr.get] at aq
   by_cases es:t=s
   · subst es
     rw [if_pos rfl] at aq
     refine ⟨_,A1 _ aO, .inl ?_⟩
     have:den (b0++ee) (.b (.raw e))=x:=by simpa using aq
     rw [←this]
     simp only [den,bD.val,he]
   · rw [if_neg es] at aq
     exact xK _ 0 md ks aZ s x aq
  |exit id=>exact ⟨_,_,fz.refl _,fun _ _ h=>h,hT.kq (kn:=kn) (kx:=kx) (kr:=kr) (e:= .exit id) dr cp⟩
  |ret=>exact ⟨_,_,fz.refl _,fun _ _ h=>h,hT.kq (kn:=kn) (kx:=kx) (kr:=kr) (e:= .ret) dr cp⟩
  |_=>exact cp.elim
 have FF:∀p:Prop,(p→de c.P n (.region id ops draw) (hT b0 kn kx kr) (bb (b0++new) fr) (bH (b0++new) L m))→Told fr p→de c.P n (.region id ops draw) (hT b0 kn kx kr) (bb (b0++new) fr) (bH (b0++new) L m):=fun p aU h=>by
  intro F lim w ca st
  refine aU (h.h fun t=>?_) F lim w ca st
  clear aU h A4 key ak
  cases bl:(bb (b0++new) fr).get t with
  |none=>
   have:eR fr t= .aH .aS:=A3 bl
   rw [this]
   simp only [AN,U.plain,uW,pd]
  |some x=>
   have aq:den (b0++new) (eR fr t)=x:=by rw [←ko,bd,bl];rfl
   obtain ⟨os,cP,bW,al⟩:=st
   have au:=(al.ey t x bl).2
   rw [←aq] at au
   cases bn:eR fr t with
   |aH y=>
    rw [bn] at au
    cases y with
    |int dk z=>
     simp only [den,U.plain] at au
     exact (lD au).2
    |slice o l=>
     simp only [den,U.plain] at au
     exact ⟨Aa au,EE au⟩
    |_=>
     have ag:=Aa au
     simp only [den] at ag
     exact ag
   |own l=>
    rw [bn] at au
    simp only [den] at au
    exact ⟨Aa au,EE au⟩
   |_=>simp only [AN]
 cases al:has c.st id with
 |false=>
  cases aA:has c.re id with
  |false=>rw [al,aA] at h;exact key h
  |true=>rw [al,aA] at h;exact A4 h
 |true=>
  cases aA:has c.re id with
  |false=>rw [al,aA] at h;exact FF _ key h
  |true=>rw [al,aA] at h;exact FF _ A4 h
set_option maxHeartbeats 2000000 in
theorem nY (aV:eX c.P c.T=true) (hm:c.P.follows .mixedOrders=true) (dh:c.bs=b0):∀(fY:Code) {kn:cE} {kx:Nat→cE} {kr:cE} {fr:bJ} {L:List bu} {m:ae} {new:List Nat},Good (b0++new) L m→mr c.xs n fY=true→
 kR c fY kn kx kr fr L m→de c.P n fY (hT b0 kn kx kr) (bb (b0++new) fr) (bH (b0++new) L m)
 | .skip,kn,kx,kr,fr,L,m,new,g,_,h=>Dg (hT.kq g h)
 | .ret,kn,kx,kr,fr,L,m,new,g,_,h=>y9 (hT.kq g h)
 | .exit id,kn,kx,kr,fr,L,m,new,g,_,h=>KI (hT.kq g h)
 | .region id ops draw,kn,kx,kr,fr,L,m,new,g,ak,h=>by
   simp only [mr] at ak
   rw [NC] at h
   cases bn:has c.cv id with
   |false=>
    rw [bn] at h
    exact FE aV hm dh g ak h
   |true=>
    rw [bn] at h
    subst dh
    rcases h.h with h|h
    · refine h.h new g n _ _ fun aZ bF m' gl aU dr cp=>?_
      obtain ⟨ee,rfl⟩:=aU
      exact FE aV hm rfl dr ak cp
    · simp only [vx,Bool.and_eq_true] at ak
      refine h.h new g n _ ak.1.1 fun aZ bF m' gl aU dr cp=>?_
      obtain ⟨ee,rfl⟩:=aU
      exact hT.kq (kn:=kn) (kx:=kx) (kr:=kr) (e:= .normal) dr cp
 | .seq a b,kn,kx,kr,fr,L,m,new,g,ak,h=>by
   simp only [mr,Bool.and_eq_true] at ak
   rw [ND] at h
   refine Dh ?_
   cases ad:AQ a with
   |true=>
    rw [ad] at h
    refine de.mono (nY aV hm dh a g ak.1 h) fun e f aF aU=>?_
    obtain ⟨aZ,bF,m',ee,dr,rfl,rfl,cp⟩:=aU
    cases e with
    |normal=>
     exact nY aV hm dh b dr ak.2 cp
    |exit id=>exact hT.kq (kn:=kn) (kx:=kx) (kr:=kr) (e:= .exit id) dr cp
    |ret=>exact hT.kq (kn:=kn) (kx:=kx) (kr:=kr) (e:= .ret) dr cp
    |_=>exact cp.elim
   |false=>
    rw [ad] at h
    obtain ⟨qh,J,aa⟩:=h
    refine de.mono (nY aV hm dh a g ak.1 aa) fun e f aF aU=>?_
    obtain ⟨aZ,bF,m',ee,dr,rfl,rfl,cp⟩:=aU
    cases e with
    |normal=>
     rcases J _ _ _ cp with ai|⟨md,ks,k,s,ai,aJ⟩
     · exact nY aV hm dh b dr ak.2 ai
     · obtain ⟨g1,hle,o6,_⟩:=vy dh dr ai
       exact de.less hle (de.Fu o6 (nY aV hm dh b g1 ak.2 aJ))
    |exit id=>exact hT.kq (kn:=kn) (kx:=kx) (kr:=kr) (e:= .exit id) dr cp
    |ret=>exact hT.kq (kn:=kn) (kx:=kx) (kr:=kr) (e:= .ret) dr cp
    |_=>exact cp.elim
 | .cond q x y,kn,kx,kr,fr,L,m,new,g,ak,h=>by
   simp only [mr,Bool.and_eq_true] at ak
   rw [NF] at h
   obtain ⟨v,J,e⟩:=e0 (b0++new) h
   split at J
   · rename_i s
     obtain ⟨fD,jS⟩:=s.u5 J
     simp only [den] at e
     exact zb (b:=s.val) (by rw [←ui,←e]) ak.1.1 (fun bn=>nY aV hm dh x g ak.1.2 (fD bn)) (fun bn=>nY aV hm dh y g ak.2 (jS bn))
   · exact J.elim
 | .block id body,kn,kx,kr,fr,L,m,new,g,ak,h=>by
   simp only [mr] at ak
   rw [NG] at h
   refine KJ ?_
   refine de.mono (nY aV hm dh body g ak h) fun e f aF aU=>?_
   obtain ⟨aZ,bF,m',ee,dr,rfl,rfl,cp⟩:=aU
   cases e with
   |normal=>exact hT.kq (kn:=kn) (kx:=kx) (kr:=kr) (e:= .normal) dr cp
   |exit j=>
    simp only [y7]
    simp only at cp
    by_cases A5:j=id
    · subst A5
      rw [Nat.beq_refl] at cp
      rw [if_pos rfl]
      exact hT.kq (kn:=kn) (kx:=kx) (kr:=kr) (e:= .normal) dr cp
    · rw [if_neg A5]
      have:Nat.beq j id=false:=by
       cases ag:Nat.beq j id with
       |false=>rfl
       |true=>exact absurd (Nat.eq_of_beq_eq_true ag) A5
      rw [this] at cp
      exact hT.kq (kn:=kn) (kx:=kx) (kr:=kr) (e:= .exit j) dr cp
   |ret=>exact hT.kq (kn:=kn) (kx:=kx) (kr:=kr) (e:= .ret) dr cp
   |_=>exact cp.elim
 | .loop body,kn,kx,kr,fr,L,m,new,g,ak,h=>by
   simp only [mr] at ak
   rw [NH] at h
   obtain ⟨σ,S,fO,mn,md,ks,k,k8,aG,ay,J⟩:=h
   obtain ⟨g1,hle,o6,hlen⟩:=vy dh g aG
   refine de.less hle (de.Fu o6 ?_)
   · refine Mm (σ:=σ×List Nat) (fun x=>bb (b0++x.2) (S x.1).1) (fun x=>bH (b0++x.2) (S x.1).2.1 (S x.1).2.2) (fun x=>fO x.1∧Good (b0++x.2) (S x.1).2.1 (S x.1).2.2) (fun x=>mn x.1) ⟨k8,new.take (k k8- b0.length)⟩ rfl rfl ⟨ay,g1⟩ fun x aq=>?_
     have aa:=J x.1 aq.1
     rw [gJ,gJ] at aa
     refine de.vv (fun e f aF aU=>?_) (nY aV hm dh body aq.2 ak aa)
     obtain ⟨aZ,bF,m',ee,dr,rfl,rfl,cp⟩:=aU
     cases e with
     |normal=>
      obtain ⟨bX,f1,f2,f3⟩:=cp
      obtain ⟨g2,Og,Oh,EK⟩:=vy dh dr f1
      exact ⟨_,_,Og,Oh,⟨bX,ee.take (k bX- b0.length)⟩,rfl,rfl,⟨f2,g2⟩,f3⟩
     |exit id=>exact ⟨_,_,fz.refl _,fun _ _ h=>h,hT.kq (kn:=kn) (kx:=kx) (kr:=kr) (e:= .exit id) dr cp⟩
     |ret=>exact ⟨_,_,fz.refl _,fun _ _ h=>h,hT.kq (kn:=kn) (kx:=kx) (kr:=kr) (e:= .ret) dr cp⟩
     |_=>exact cp.elim
 | .scope _,_,_,_,_,_,_,_,_,ak,_=>by cases ak
 | .label _,_,_,_,_,_,_,_,_,ak,_=>by cases ak
 | .goto _,_,_,_,_,_,_,_,_,ak,_=>by cases ak
 | .refuse _,_,_,_,_,_,_,_,_,ak,_=>by cases ak
 | .rangeFunc _ _ _ _,_,_,_,_,_,_,_,_,ak,_=>by cases ak
end
end Go.bV
end
section
namespace Go.bV
open Go Go.ba
section
variable {c:fy} {n:Nat} {b:List Nat} {fr:bJ} {L:List bu} {m:ae}
theorem oD (aV:eX c.P c.T=true) (g:Good b L m) {r:ResultVar} {k:aR→Prop} (h:xB c.T fr L r k):∃v side x,k v∧kK c.P (bb b fr) (bH b L m) r=some (side,x)∧side∧x=den b v:=by
 cases r with
 |tmp t=>
  simp only [xB] at h
  rw [k7] at h
  exact ⟨_,True,_,h,by simp only [kK,ko],trivial,rfl⟩
 |cell a t=>
  simp only [xB] at h
  rw [k7] at h
  have au:=ko b fr a
  cases bn:eR fr a with
  |loc i off=>
   rw [bn] at h au
   simp only [den] at h au
   cases aL:nth L i with
   |none=>rw [aL] at h;exact h.elim
   |some o=>
    rw [aL] at h
    cases o with
    |obj o=>exact h.elim
    |cells l=>
     obtain ⟨dp,cO,h⟩:=dT aV h
     rw [ig] at aL
     have hm:=kp g aL
     have aO:kK c.P (bb b fr) (bH b L m) (.cell a t)=some (jJ c.P t (bm b l) off,(apart c.P t (bm b l) off).plain):=by simp only [kK,au,hm,dV]
     cases db:dp.k.hR with
     |true=>
      rw [db] at h
      obtain ⟨ag,h⟩:=dN.1 h
      obtain ⟨u,h,hu⟩:=sA b h
      exact ⟨_,_,_,h,aO,sM cO db (by rw [ju];exact Nat.le_of_ble_eq_true ag),by rw [sK cO db];simp only [den,U.plain,hu,AI,AH]⟩
     |false=>
      rw [db] at h
      simp only at h
      cases aI:nth l off with
      |none=>rw [aI] at h;exact h.elim
      |some v=>
       rw [aI] at h
       obtain ⟨u,h,hu⟩:=mY b h
       obtain ⟨aC,cl⟩:=qa (bs:=b) aI
       exact ⟨_,_,_,h,aO,sN cO db cl,by rw [sL cO db,aC,hu]⟩
  |_=>rw [bn] at h;exact h.elim
theorem s0 (aV:eX c.P c.T=true) {b0 new:List Nat} (dh:c.bs=b0) (g:Good (b0++new) L m) {fn:Func} (aJ:fn.results.toList.length≤4) {K:U→ae→Prop} (h:xC c.T fr L fn.results.toList fun vs=>sX c K vs L m):qU c.P fn (bb (b0++new) fr) (bH (b0++new) L m) K:=by
 subst dh
 unfold qU
 generalize fn.results.toList=rs at h aJ ⊢
 match rs,h with
 |[],h=>
  obtain ⟨m',J,aa⟩:=h.h new g
  exact ⟨m',J,aa⟩
 |[r],h=>
  obtain ⟨v,wT,x,h,aM,s1,rfl⟩:=oD aV g h
  obtain ⟨m',J,aa⟩:=h.h new g
  simp only [aM]
  exact ⟨s1,m',J,aa⟩
 |[r,s],h=>
  obtain ⟨v,wT,x,h,aM,s1,rfl⟩:=oD aV g h
  obtain ⟨v2,FG,A6,h,aC,s2,rfl⟩:=oD aV g h
  obtain ⟨m',J,aa⟩:=h.h new g
  simp only [aM,aC]
  exact ⟨s1,s2,m',J,aa⟩
 |[r,s,t],h=>
  obtain ⟨v,wT,x,h,aM,s1,rfl⟩:=oD aV g h
  obtain ⟨v2,FG,A6,h,aC,s2,rfl⟩:=oD aV g h
  obtain ⟨v3,Oi,FH,h,c8,mS,rfl⟩:=oD aV g h
  obtain ⟨m',J,aa⟩:=h.h new g
  simp only [aM,aC,c8]
  exact ⟨s1,s2,mS,m',J,aa⟩
 |[r,s,t,u],h=>
  obtain ⟨v,wT,x,h,aM,s1,rfl⟩:=oD aV g h
  obtain ⟨v2,FG,A6,h,aC,s2,rfl⟩:=oD aV g h
  obtain ⟨v3,Oi,FH,h,c8,mS,rfl⟩:=oD aV g h
  obtain ⟨v4,Uz,UA,h,fQ,FI,rfl⟩:=oD aV g h
  obtain ⟨m',J,aa⟩:=h.h new g
  simp only [aM,aC,c8,fQ]
  exact ⟨s1,s2,mS,FI,m',J,aa⟩
 |r::s::t::u::q::rest,h=>simp at aJ
theorem FJ:∀(l:List Nat) (t:Nat),has l t=l.contains t
 |[],t=>rfl
 |x::r,t=>by
  simp only [has,List.contains_cons]
  cases ag:Nat.beq x t with
  |true=>obtain rfl:=Nat.eq_of_beq_eq_true ag;simp
  |false=>
   have:¬t=x:=fun e=>by subst e;rw [Nat.beq_refl] at ag;cases ag
   simp [this,FJ r t]
theorem A7 (E:Nat) (cT:List Nat):∀(fr:bJ),bb b (xD E cT fr)=Fr.toErr E cT (bb b fr)
 |[]=>rfl
 |(t,v)::r=>by
  simp only [xD,bb,Fr.toErr,List.map_cons,FJ]
  have:=A7 E cT r
  simp only [Fr.toErr] at this
  rw [this]
  cases ar:cT.contains t<;>simp [Fx]
theorem FK {P:Program} {fY:Code} {Q hH:Exit→Fr→ae→Prop} {f:Fr} {aF:ae} (E:Nat) (cT:List Nat) (aO:∀e f m,Q e f m→hH e f m∨hH e (f.toErr E cT) m) (h:de P n fY Q f aF):de P n fY hH f aF:=fun F lim w ca st=>
 wp_mono (h F lim w ca st) fun e _ _ ⟨l,f,aF,q,fq,dQ⟩=>by
  rcases aO e f aF q with q|q
  · exact ⟨l,f,aF,q,fq,dQ⟩
  · refine ⟨l,_,aF,q,fq.conv fun t bX aq=>?_,dQ⟩
    rw [Fr.Mw] at aq
    cases ar:cT.contains t with
    |false=>rw [ar] at aq;exact ⟨bX,by simpa using aq,fun _ _ h=>h⟩
    |true=>
     rw [ar] at aq
     simp only [if_true] at aq
     cases bl:f.get t with
     |none=>rw [bl] at aq;cases aq
     |some y=>
      rw [bl] at aq
      simp only [Option.map_some,Option.some.injEq] at aq
      subst aq
      exact ⟨y,rfl,fun v os h=>toErr_rep E h⟩
def cu (c:List Nat) (fn:Func) (fY:Code) (k:Nat):Bool:=!(fn.name== "runtime.NumGoroutine")&&Nat.ble k fn.ntmps&&mr c fn.ntmps fY&&Nat.ble fn.results.size 4
theorem A8 (b:List Nat):∀(i:Nat) (vs:List aR),bb b (sW i vs)=Fr.init i (bm b vs)
 |_,[]=>by simp only [sW,bb,bm,Fr.init]
 |i,v::r=>by simp only [sW,bb,bm,Fr.init,A8 b (i+1) r]
theorem enter {f:FuncId} {fn:Func} {fY:Code} {vs:List aR} {K:U→ae→Prop} (e:Bool) (aV:eX c.P c.T=true) (hm:c.P.follows .mixedOrders=true) (aN:c.P.funcs[f]?=some fn) (ag:fn.body=some fY) {k:Nat} (bL:cu c.xs fn fY k=true) (av:vs.length=k) (g:Good c.bs L m)
 (h:kR c fY (sY c false fn.results.toList K) (fun _ _ _ _=>False) (sY c e fn.results.toList K) (sW 0 vs) L m):bg c.P f (bm c.bs vs) (bH c.bs L m) K:=by
 simp only [cu,Bool.and_eq_true,Bool.not_eq_true'] at bL
 obtain ⟨⟨⟨h5,hU⟩,nj⟩,rn⟩:=bL
 refine D2 aN ag h5 (by rw [ju,av];exact Nat.le_of_ble_eq_true hU) ?_
 have:=nY (b0:=c.bs) (new:=[]) aV hm rfl fY (by rw [List.append_nil];exact g) nj h
 rw [List.append_nil,A8] at this
 refine FK c.E (vp fn.results.toList) (fun ex f aF aU=>?_) this
 obtain ⟨aZ,bF,m',ee,dr,rfl,rfl,cp⟩:=aU
 cases ex with
 |normal=>exact .inl (s0 aV rfl dr (by simpa using Nat.le_of_ble_eq_true rn) cp)
 |exit id=>exact cp.elim
 |ret=>
  simp only [sY] at cp
  cases e with
  |false=>exact .inl (s0 aV rfl dr (by simpa using Nat.le_of_ble_eq_true rn) cp)
  |true=>
   simp only at cp
   rw [gJ] at cp
   right
   rw [←A7]
   exact s0 aV rfl dr (by simpa using Nat.le_of_ble_eq_true rn) cp
 |_=>exact cp.elim
theorem rt {K:U→ae→Prop} {vs:List aR} (al:(kP c.bs.length (L.take c.bs.length)&&Nat.ble c.bs.length L.length)=true) (h:∀new,K (xE (c.bs++new) vs) (bH c.bs (L.take c.bs.length) m)):sX c K vs L m:=⟨fun new g=>by
 simp only [Bool.and_eq_true] at al
 have:=vy (c:=c) (md:=[]) (ks:=[]) (k:=c.bs.length) (fr:=[]) (s:=([],ng (L.take c.bs.length),m)) rfl g ⟨rfl,by simp only [nc,Bool.true_and,Bool.and_eq_true,xL];exact ⟨⟨al.1,al.2⟩,Nat.ble_eq_true_of_le (Nat.le_refl _)⟩⟩
 simp only [Nat.sub_self,List.take_zero,List.append_nil] at this
 have jo:bH c.bs (ng (L.take c.bs.length)) m=bH c.bs (L.take c.bs.length) m:=by simp only [bH,hk,A2]
 rw [jo] at this
 exact ⟨_,this.2.2.1,h new⟩⟩
theorem bh {K:U→ae→Prop} {vs:List aR} (ag:c.bs=[]) (h:∀new,K (xE new vs) m):sX c K vs L m:=⟨fun new g=>by
 rw [ag,List.nil_append] at g ⊢
 refine ⟨m,fun b o A9=>?_,h new⟩
 by_cases hm:b∈new
 · rw [g.fresh b hm] at A9;cases A9
 · rw [bH,mo (by rw [na g.len];exact hm)]
   exact A9⟩
theorem FL {K:U→ae→Prop} {vs:List aR} (h:∀new,Good (c.bs++new) L m→K (xE (c.bs++new) vs) (bH (c.bs++new) L m)):sX c K vs L m:=⟨fun new g=>⟨_,fun _ _ h=>h,h new g⟩⟩
theorem b2 {b0:List Nat} {P:Program} {f:FuncId} {vs:List aR} {x:U} {Q:aR→List bu→ae→Prop} (h:∀bs (aF:ae) (K:U→ae→Prop),K x aF→bg P f (bm bs vs) aF K) (aU:x.plain=x) (e7:Q (p7 x) L m):nf P b0 f vs fr L m Q:=
 .one (p7 x) L m (fun new _ K ab=>h _ _ K (by
   have:=ab []
   simp only [List.append_nil,p8,aU] at this
   exact this (by assumption))) (by rw [Nat.beq_refl];rfl) e7
theorem ih {b0:List Nat} {P:Program} {f:FuncId} {vs:List aR} {x:U} {Q:aR→Prop} (h:∀bs (aF:ae) (K:U→ae→Prop),K x aF→bg P f (bm bs vs) aF K) (e7:Q (p7 x)):E9 P b0 f vs L m Q:=
 ⟨p7 x,fun new _=>⟨x,fun K ab=>h _ _ K ab,by rw [p8]⟩,e7⟩
theorem ah {p q:Prop} (aU:p) (aO:q):p∧q:=⟨aU,aO⟩
theorem Good.nil (m:ae):Good [] [] m:=⟨List.nodup_nil,rfl,fun _ h=>by cases h⟩
structure eE (bs:List Nat) (m:ae):Prop where
 bN:bs.Nodup
 fresh:∀b∈bs,m b=none
theorem eE.hn {bs:List Nat} (g:eE bs m) (h:bs.length=L.length):Good bs L m:=⟨g.bN,h,g.fresh⟩
theorem eE.nil (m:ae):eE [] m:=⟨List.nodup_nil,fun _ h=>by cases h⟩
def ij (bs:List Nat):List Nat→List Nat
 |[]=>[]
 |i::r=>bs.getD i 0::ij bs r
def mu (L:List bu):List Nat→List bu
 |[]=>[]
 |i::r=>
  match nth L i with
  |some o=>o::mu L r
  |none=> .obj (.cells [])::mu L r
def jw:List bu→List Nat→List bu→List bu
 |L,[],_=>L
 |L,_::_,[]=>L
 |L,i::r,o::os=>jw (L.set i o) r os
def k9 (bs:List Nat) (is:List Nat) (os:List bu):List (Nat×fB):=(ij bs is).zip (os.map (dV bs))
def isOk (n:Nat):List Nat→Bool
 |[]=>true
 |i::r=>Nat.ble (i+1) n&&!(has r i)&&isOk n r
theorem FM:∀{l:List Nat} {t:Nat},has l t=true↔t∈l
 |[],t=>by simp [has]
 |x::r,t=>by
  simp only [has,List.mem_cons]
  cases ag:Nat.beq x t with
  |true=>obtain rfl:=Nat.eq_of_beq_eq_true ag;simp
  |false=>
   have:¬t=x:=fun e=>by subst e;rw [Nat.beq_refl] at ag;cases ag
   simp [this,FM (l:=r)]
theorem FN (bs:List Nat):∀(is:List Nat),(ij bs is).length=is.length
 |[]=>rfl
 |i::r=>by simp only [ij,List.length_cons,FN bs r]
theorem s3 (L:List bu):∀(is:List Nat),(mu L is).length=is.length
 |[]=>rfl
 |i::r=>by
  simp only [mu]
  split<;>simp only [List.length_cons,s3 L r]
theorem getD_inj {bs:List Nat} (h:bs.Nodup) {i j:Nat} (ad:i<bs.length) (aA:j<bs.length) (e:bs.getD i 0=bs.getD j 0):i=j:=by
 rw [List.getD_eq_getElem?_getD,List.getD_eq_getElem?_getD,List.getElem?_eq_getElem ad,List.getElem?_eq_getElem aA] at e
 exact (List.getElem_inj h).1 e
theorem s4 {bs:List Nat}:∀{is:List Nat} {b:Nat},b∈ij bs is→∃i∈is,b=bs.getD i 0
 |[],_,h=>by cases h
 |i::r,b,h=>by
  simp only [ij,List.mem_cons] at h
  rcases h with rfl|h
  · exact ⟨i,List.mem_cons_self ..,rfl⟩
  · obtain ⟨j,aA,e⟩:=s4 h
    exact ⟨j,List.mem_cons_of_mem _ aA,e⟩
theorem FO {bs:List Nat}:∀{is:List Nat} {i:Nat},i∈is→bs.getD i 0∈ij bs is
 |[],_,h=>by cases h
 |a::r,i,h=>by
  simp only [ij,List.mem_cons]
  rcases List.mem_cons.1 h with rfl|h
  · exact .inl rfl
  · exact .inr (FO h)
theorem s5 {n:Nat}:∀{is:List Nat},isOk n is=true→(∀i∈is,i<n)∧is.Nodup
 |[],_=>⟨by simp,List.nodup_nil⟩
 |i::r,h=>by
  simp only [isOk,Bool.and_eq_true,Bool.not_eq_true'] at h
  obtain ⟨⟨J,aa⟩,ai⟩:=h
  obtain ⟨aJ,aY⟩:=s5 ai
  refine ⟨fun j aA=>?_,?_⟩
  · rcases List.mem_cons.1 aA with rfl|aA
    · exact Nat.le_of_ble_eq_true J
    · exact aJ j aA
  · rw [List.nodup_cons]
    refine ⟨fun hm=>?_,aY⟩
    rw [FM.2 hm] at aa;cases aa
theorem vz {bs:List Nat} (aI:bs.Nodup):∀{is:List Nat},isOk bs.length is=true→(ij bs is).Nodup
 |[],_=>List.nodup_nil
 |i::r,h=>by
  have aG:=s5 h
  simp only [isOk,Bool.and_eq_true,Bool.not_eq_true'] at h
  obtain ⟨⟨J,aa⟩,ai⟩:=h
  simp only [ij,List.nodup_cons]
  refine ⟨fun hm=>?_,vz aI ai⟩
  obtain ⟨j,aA,e⟩:=s4 hm
  have:=getD_inj aI (aG.1 i (List.mem_cons_self ..)) (aG.1 j (List.mem_cons_of_mem _ aA)) e
  subst this
  exact (List.nodup_cons.1 aG.2).1 aA
theorem qi:∀{is:List Nat} {L os:List bu},(jw L is os).length=L.length
 |[],_,_=>by simp only [jw]
 |_::_,_,[]=>by simp only [jw]
 |i::r,L,o::os=>by rw [jw,qi,List.length_set]
def rp (aF:ae) (S:List Nat):ae:=fun b=>if b∈S then none else aF b
theorem Ba {bs:List Nat} {is:List Nat} {os:List bu} {aF:ae} (gi:(ij bs is).Nodup) (av:is.length=os.length) {j i:Nat} {o:bu} (aA:is[j]?=some i) (aL:os[j]?=some o):aF.bf (k9 bs is os) (bs.getD i 0)=some (dV bs o):=by
 have ag:(ij bs is)[j]?=some (bs.getD i 0):=by
  clear gi av aL
  induction is generalizing j with
  |nil=>cases aA
  |cons a r aQ=>
   cases j with
   |zero=>simp only [List.getElem?_cons_zero,Option.some.injEq] at aA;subst aA;rfl
   |succ j=>simp only [ij,List.getElem?_cons_succ] at aA ⊢;exact aQ aA
 refine p3 j ?_ ?_
 · rw [k9,List.map_fst_zip (by rw [FN,List.length_map];omega)];exact gi
 · simp only [k9,List.zip,List.getElem?_zipWith,ag,List.getElem?_map,aL,Option.map_some]
theorem Bb {bs:List Nat} {is:List Nat} {os:List bu} {aF:ae} {b:Nat} (h:b∉ij bs is):aF.bf (k9 bs is os) b=aF b:=by
 refine mo fun hm=>h ?_
 obtain ⟨p,aU,rfl⟩:=List.mem_map.1 hm
 exact (List.of_mem_zip aU).1
theorem Bc:∀{is:List Nat} {L os:List bu},is.Nodup→(∀i∈is,i<L.length)→is.length=os.length→(∀(j i:Nat) (o:bu),is[j]?=some i→os[j]?=some o→(jw L is os)[i]?=some o)∧∀(i:Nat),i∉is→(jw L is os)[i]?=L[i]?
 |[],L,os,_,_,_=>⟨fun j i o h=>(by simp at h),fun _ _=>by simp only [jw]⟩
 |_::_,_,[],_,_,av=>by cases av
 |a::r,L,p::os,aI,cl,av=>by
  obtain ⟨J,aa⟩:=Bc (is:=r) (L:=L.set a p) (os:=os) (List.nodup_cons.1 aI).2 (fun i ad=>by rw [List.length_set];exact cl i (List.mem_cons_of_mem _ ad)) (by simpa using av)
  refine ⟨fun j i o aA aL=>?_,fun i ad=>?_⟩
  · cases j with
    |zero=>
     simp only [List.getElem?_cons_zero,Option.some.injEq] at aA aL
     subst aA;subst aL
     rw [jw,aa a (List.nodup_cons.1 aI).1]
     simp [cl a (List.mem_cons_self ..)]
    |succ j=>exact J j i o aA aL
  · rw [jw,aa i (fun h=>ad (List.mem_cons_of_mem _ h))]
    have:a≠i:=fun e=>ad (e▸List.mem_cons_self ..)
    simp [this]
theorem FP (L:List bu):∀{is:List Nat} {j i:Nat},is[j]?=some i→i<L.length→(mu L is)[j]?=L[i]?
 |[],_,_,h,_=>by cases h
 |a::r,j,i,h,ad=>by
  have aI:nth L a=L[a]?:=ig L a
  cases j with
  |zero=>
   simp only [List.getElem?_cons_zero,Option.some.injEq] at h
   subst h
   simp only [mu,aI,List.getElem?_eq_getElem ad,List.getElem?_cons_zero]
  |succ j=>
   simp only [List.getElem?_cons_succ] at h
   have:=FP L h ad
   simp only [mu]
   split<;>simpa using this
theorem s6 {bs:List Nat} {os:List bu} (g:Good bs L m) {is:List Nat} (ad:isOk L.length is=true) (av:is.length=os.length):bH bs (jw L is os) m=(rp (bH bs L m) (ij bs is)).bf (k9 bs is os):=by
 obtain ⟨J,aa⟩:=s5 ad
 have gi:=vz g.bN (by rw [g.len];exact ad)
 obtain ⟨s1,s2⟩:=Bc (L:=L) aa J av
 have g2:Good bs (jw L is os) m:=⟨g.bN,by rw [qi];exact g.len,g.fresh⟩
 funext b
 by_cases ag:b∈ij bs is
 · obtain ⟨i,Bd,rfl⟩:=s4 ag
   obtain ⟨j,aA⟩:=List.getElem?_of_mem Bd
   have xM:j<os.length:=by
    rcases Nat.lt_or_ge j is.length with h|h
    · omega
    · rw [List.getElem?_eq_none h] at aA;cases aA
   rw [Ba gi av aA (List.getElem?_eq_getElem xM),kp g2 (s1 j i _ aA (List.getElem?_eq_getElem xM))]
 · rw [Bb ag,rp,if_neg ag]
   by_cases Be:b∈bs
   · obtain ⟨i,ie⟩:=List.getElem?_of_mem Be
     have Oj:i<bs.length:=by
      rcases Nat.lt_or_ge i bs.length with h|h
      · exact h
      · rw [List.getElem?_eq_none h] at ie;cases ie
     have e:b=bs.getD i 0:=by rw [List.getD_eq_getElem?_getD,ie];rfl
     subst e
     have vj:i∉is:=fun h=>ag (FO h)
     have FQ:i<L.length:=by rw [←g.len];exact Oj
     rw [kp g (List.getElem?_eq_getElem FQ),kp g2 (by rw [s2 i vj];exact List.getElem?_eq_getElem FQ)]
   · rw [bH,mo (by rw [na g2.len];exact Be),bH,mo (by rw [na g.len];exact Be)]
theorem Bf:∀{is:List Nat} {L:List bu},isOk L.length is=true→jw L is (mu L is)=L:=fun {is L} ad=>by
 obtain ⟨J,aa⟩:=s5 ad
 obtain ⟨s1,s2⟩:=Bc (L:=L) aa J (s3 L is).symm
 apply List.ext_getElem?
 intro i
 by_cases h:i∈is
 · obtain ⟨j,aA⟩:=List.getElem?_of_mem h
   have e:=FP L aA (J i h)
   rw [List.getElem?_eq_getElem (J i h)] at e
   rw [s1 j i _ aA e,List.getElem?_eq_getElem (J i h)]
 · exact s2 i h
theorem gn {b0:List Nat} {P:Program} {f:FuncId} {vs:List aR} {Q:aR→List bu→ae→Prop} (is:List Nat) (os:List bu) (y:aR) (ad:(isOk L.length is&&Nat.beq is.length os.length)=true)
 (h:∀bs (aF:ae),eE (ij bs is) aF→∀(K:U→ae→Prop),K (den bs y) (aF.bf (k9 bs is os))→bg P f (bm bs vs) (aF.bf (k9 bs is (mu L is))) K) (e7:Q y (jw L is os) m):nf P b0 f vs fr L m Q:=by
 simp only [Bool.and_eq_true] at ad
 refine .one y (jw L is os) m (fun new g K ab=>?_) (by rw [qi,Nat.beq_refl];rfl) e7
 have gi:=vz g.bN (by rw [g.len];exact ad.1)
 have aM:=s6 g ad.1 (s3 L is).symm
 rw [Bf ad.1] at aM
 rw [aM]
 refine h (b0++new) _ ⟨gi,fun b ag=>by simp [rp,ag]⟩ K ?_
 have:=ab [] (by rw [List.append_nil];exact ⟨g.bN,by rw [qi];exact g.len,g.fresh⟩)
 rw [List.append_nil,s6 g ad.1 (Nat.eq_of_beq_eq_true ad.2)] at this
 exact this
abbrev aj (n:Int):aR:= .aH (.int .i64 n)
abbrev aw (s:List UInt8):aR:= .aH (.str s)
abbrev eY (b:Bool):aR:= .b (.raw b)
abbrev an (l:List U):aR:= .aH (.slice false l)
end
end Go.bV
end
section
namespace Go.ba
open Go
section
variable {P:Program} {F:Nat→Prop} {lim:Nat→Nat} {w:World} {n:Nat} {fr:Fr} {m:ae} {ca:Act} {bE:List Nat}
theorem Ol {cargs:Array Value} (h:cargs.size=1):∃x,cargs=#[x]:=by
 match cargs,h with
 |⟨[x]⟩,_=>exact ⟨x,rfl⟩
set_option maxHeartbeats 1000000 in
end
end Go.ba
end
section
namespace Go.ba
open Go
section
variable {P:Program} {F:Nat→Prop} {lim:Nat→Nat} {w:World} {n:Nat} {fr:Fr} {m:ae} {ca:Act} {bE:List Nat}
theorem bc.drew (st:bc F lim w n fr m ca bE):bc F lim w.drew n fr m ca bE:=st.heap rfl
set_option maxHeartbeats 1000000 in
end
end Go.ba
end
section
namespace Go.bV
open Go Go.ba
section
variable {c:fy} {L:List bu} {fr:bJ} {m:ae}
theorem xN {b0:List Nat} {P:Program} {f:FuncId} {vs:List aR} {Q:aR→List bu→ae→Prop} (is:List Nat) (os:List bu) (y:aR) (ad:(isOk L.length is&&Nat.beq is.length os.length)=true)
 (h:∀bs (aF:ae),eE (ij bs is) aF→(∀b o,m b=some o→aF b=some o)→∀(K:U→ae→Prop),K (den bs y) (aF.bf (k9 bs is os))→bg P f (bm bs vs) (aF.bf (k9 bs is (mu L is))) K) (e7:Q y (jw L is os) m):nf P b0 f vs fr L m Q:=by
 simp only [Bool.and_eq_true] at ad
 refine .one y (jw L is os) m (fun new g K ab=>?_) (by rw [qi,Nat.beq_refl];rfl) e7
 have gi:=vz g.bN (by rw [g.len];exact ad.1)
 have aM:=s6 g ad.1 (s3 L is).symm
 rw [Bf ad.1] at aM
 rw [aM]
 refine h (b0++new) _ ⟨gi,fun b ag=>by simp [rp,ag]⟩ (fun b o ag=>?_) K ?_
 · have J:b∉b0++new:=fun hm=>by rw [g.fresh b hm] at ag;cases ag
   have aa:b∉ij (b0++new) is:=fun hm=>by
    obtain ⟨i,ie,e⟩:=s4 hm
    have cl:=(s5 ad.1).1 i ie
    rw [←g.len] at cl
    apply J
    rw [e,List.getD_eq_getElem?_getD,List.getElem?_eq_getElem cl]
    exact List.getElem_mem _
   simp only [rp,if_neg aa,bH]
   rw [mo (by rw [na g.len];exact J)]
   exact ag
 · have:=ab [] (by rw [List.append_nil];exact ⟨g.bN,by rw [qi];exact g.len,g.fresh⟩)
   rw [List.append_nil,s6 g ad.1 (Nat.eq_of_beq_eq_true ad.2)] at this
   exact this
end
end Go.bV
namespace Go.ba
open Go
section
variable {P:Program} {F:Nat→Prop} {lim:Nat→Nat} {w:World} {n:Nat} {fr:Fr} {m:ae} {ca:Act} {bE:List Nat}
theorem bc.grow (st:bc F lim w n fr m ca bE) (os:Array Obj) (k:Nat):bc F lim (Sort.grow (w.drewN k) os) n fr m ca bE:=by
 have aT:(w.drewN k).heap=w.heap:=by simp
 have av:∀c,c<w.heap.size→(Sort.grow (w.drewN k) os).heap[c]?=w.heap[c]?:=fun c ar=>by
  simp only [Sort.grow,aT]
  rw [Array.getElem?_append_left ar]
 have aN:∀c,w.heap.size≤c→lim c=0:=fun c ar=>by
  obtain ⟨_,_,_,s⟩:=st
  exact (s.fresh c ar).1
 have hm:∀b,m b≠none→b<w.heap.size:=fun b ag=>st.oX ag
 have jH:∀b o,o<lim b→b<w.heap.size:=fun b o aL=>st.qF aL
 refine st.world (by simp [Sort.grow]) (fun _=>Nat.le_refl _) (fun b o aL=>by simp [World.cell?,av b (jH b o aL)]) (fun c ar=> .inr ⟨av c ar,rfl⟩) (fun b ag=>⟨av b (hm b ag),rfl⟩) (fun c ar=>aN c (by simp [Sort.grow] at ar;omega))
def Om (e:TypeId) (z:Nat×Nat) (k:IntKind) (aW:List Int):fB:= .mL e z (aW.map (Value.int k)).toArray
end
end Go.ba
end
section
namespace Go.ba
open Go
inductive ho:U→Prop
 |bool (b:Bool):ho (.bool b)
 |int (k:IntKind) (n:Int) (h:k≠ .u64):ho (.int k n)
 |str (s:List UInt8):ho (.str s)
 |slice (l:List U) (J:∀x∈l,x.cells≠[]) (h:∀x∈l,∀y∈x.cells,ho y):ho (.slice false l)
 |agg (l:List U) (h:∀y∈l,ho y):ho (.agg l)
theorem On {w:World} {lim:Nat→Nat} {n:Int} {x:U} {os:List Nat} (h:aP w lim (.int .u64 n) x os) (aq:ho x):False:=by
 cases aq with
 |bool b=>cases h
 |int k m ak=>
  cases h with
  |int=>exact ak rfl
 |str s=>cases h
 |slice l xO av=>cases h
 |agg l av=>cases h
section
variable {P:Program}
end
end Go.ba
end
section
namespace Go.bV
open Go Go.ba
def qj (m' m:ae):Prop:=∀b ei,m' b=some ei→∃o,m b=some o∧(ei=o∨∃l bC,o= .cells l∧ei= .cells bC∧bC.length=l.length∧∀i,j5 (bC.getD i .aS) (l.getD i .aS))
section
variable {P:Program} {F:Nat→Prop} {lim:Nat→Nat} {w:World} {n:Nat} {fr:Fr} {m m':ae} {ca:Act} {bE:List Nat}
theorem bc.oE (st:ba.bc F lim w n fr m ca bE) (al:qj m' m):ba.bc F lim w n fr m' ca bE:=by
 classical
 obtain ⟨os,cP,bW,h⟩:=st
 let p:Nat→Nat→Prop:=fun b i=>m' b=m b∨∃l bC,m b=some (.cells l)∧m' b=some (.cells bC)∧bC.getD i .aS=l.getD i .aS
 have aI:∀b,m b=none→m' b=none:=fun b ag=>by
  cases fv:m' b with
  |none=>rfl
  |some o=>obtain ⟨hU,aa,_⟩:=al b o fv;rw [ag] at aa;cases aa
 refine ⟨os,fun b i=>if p b i then cP b i else [],bW,h.size,h.defers,h.ey,fun b ei ag=>?_,h.fc,fun b ei ag i=>?_,h.fW,fun c ar=>⟨(h.free c ar).1,aI c (h.free c ar).2.1,(h.free c ar).2.2⟩,fun b ag=>⟨(h.fresh b ag).1,(h.fresh b ag).2.1,aI b (h.fresh b ag).2.2⟩⟩
 · obtain ⟨o,aL,au⟩:=al b ei ag
   obtain ⟨gY,aa,ai⟩:=h.mem b o aL
   refine ⟨?_,aa,ai⟩
   rcases au with rfl|⟨l,bC,rfl,rfl,hlen,hle⟩
   · have:(fun i=>if p b i then cP b i else [])=cP b:=by
      funext i
      exact if_pos (.inl (ag.trans aL.symm))
     rw [this];exact gY
   · cases gY with
     |cells cs e _ _ Oo cJ u0=>
      refine .cells cs e bC _ Oo (cJ.trans hlen.symm) fun i ad=>?_
      have eV:i<l.length:=hlen▸ad
      by_cases aU:p b i
      · rw [if_pos aU]
        have e:bC.getD i .aS=l.getD i .aS:=by
         rcases aU with aU|⟨a,cR,aJ,aY,bG⟩
         · rw [ag,aL] at aU
           simp only [Option.some.injEq,fB.cells.injEq] at aU
           rw [aU]
         · rw [aL] at aJ;rw [ag] at aY
           simp only [Option.some.injEq,fB.cells.injEq] at aJ aY
           rw [aJ,aY];exact bG
        rw [e];exact u0 i eV
      · rw [if_neg aU]
        rcases hle i with e|e
        · exact absurd (.inr ⟨l,bC,aL,ag,e⟩) aU
        · exact e _ _ _ _ (u0 i eV)
 · obtain ⟨o,aL,_⟩:=al b ei ag
   show (if p b i then cP b i else []).Nodup∧∀c∈(if p b i then cP b i else []),_
   split
   · exact h.ed b o aL i
   · exact ⟨List.nodup_nil,fun c ar=>by cases ar⟩
end
section
variable {P:Program} {n:Nat} {fr:Fr} {m m':ae} {ops:Array Oper} {l:List Oper} {K:Fr→ae→Prop}
theorem bS.oE (al:qj m' m) (h:bS P n ops l K fr m'):bS P n ops l K fr m:=fun F lim w ca Q st aO=>h F lim w ca Q (bc.oE st al) aO
theorem de.oE {c:Code} {Q:Exit→Fr→ae→Prop} (al:qj m' m) (h:de P n c Q fr m'):de P n c Q fr m:=fun F lim w ca st=>h F lim w ca (bc.oE st al)
end
theorem j5.aS (x:U):j5 .aS x:= .inr fun _ _ _ _ _=> .aS _
theorem j5.fL:j5 .fL (.slice true []):= .inr fun w lim v os h=>by
 generalize aq:U.slice true []=x at h
 cases h with
 |fL o=>exact .nA _
 |own b n cap sz l cv cur e aI fu hm ew aG ag mK cJ fb ar au=>
  cases aq
  simp only [List.length_nil] at aI
  subst aI
  rcases aG with aG|aG
  · omega
  · subst aG;exact .nA _
 |_=>cases aq
mutual
def iA (i:Nat):aR→Bool
 | .loc j _| .ms j _ _| .mp j| .hj j _ _ _| .bT j _ _ _=>Nat.beq i j
 | .agg l| .dw l=>rq i l
 | .fn _ a c=>bif rq i a then true else rq i c
 |_=>false
def rq (i:Nat):List aR→Bool
 |[]=>false
 |v::r=>bif iA i v then true else rq i r
end
def vA (i:Nat):bJ→(bJ→Prop)→Prop
 |[],k=>k []
 |(t,v)::r,k=>bif iA i v then vA i r fun et=>k ((t, .aH .aS)::et) else vA i r fun et=>k ((t,v)::et)
def vB (i:Nat):List aR→(List aR→Prop)→Prop
 |[],k=>k []
 |v::r,k=>bif iA i v then vB i r fun et=>k (.aH .aS::et) else vB i r fun et=>k (v::et)
def vC (i:Nat):List bu→(List bu→Prop)→Prop
 |[],k=>k []
 | .cells l::r,k=>vB i l fun bC=>vC i r fun et=>k (.cells bC::et)
 | .obj o::r,k=>vC i r fun et=>k (.obj o::et)
theorem getD_set_ne {bs:List Nat} {i j b:Nat} (h:Nat.beq i j=false):(bs.set i b).getD j 0=bs.getD j 0:=by
 have:i≠j:=fun e=>by subst e;rw [Nat.beq_refl] at h;cases h
 simp [List.getD_eq_getElem?_getD,List.getElem?_set_ne this]
mutual
theorem Bg {bs:List Nat} {i b:Nat}:∀{v:aR},iA i v=false→den (bs.set i b) v=den bs v
 | .aH _,_=>by simp only [den]
 | .own _,_=>by simp only [den]
 | .b _,_=>by simp only [den]
 | .loc j o,h=>by simp only [iA] at h;simp only [den,getD_set_ne h]
 | .ms j o c,h=>by simp only [iA] at h;simp only [den,getD_set_ne h]
 | .mp j,h=>by simp only [iA] at h;simp only [den,getD_set_ne h]
 | .hj j k w q,h=>by simp only [iA] at h;simp only [den,getD_set_ne h]
 | .bT j k w q,h=>by simp only [iA] at h;simp only [den,getD_set_ne h]
 | .agg l,h=>by simp only [iA] at h;simp only [den,vD h]
 | .dw l,h=>by simp only [iA] at h;simp only [den,vD h]
 | .fn f a c,h=>by
   simp only [iA] at h
   cases aX:rq i a with
   |true=>rw [aX] at h;cases h
   |false=>rw [aX] at h;simp only [den,vD aX,vD (l:=c) h]
 | .off,_=>by simp only [den]
theorem vD {bs:List Nat} {i b:Nat}:∀{l:List aR},rq i l=false→bm (bs.set i b) l=bm bs l
 |[],_=>by simp only [bm]
 |v::r,h=>by
  simp only [rq] at h
  cases bn:iA i v with
  |true=>rw [bn] at h;cases h
  |false=>rw [bn] at h;simp only [bm,Bg bn,vD (l:=r) h]
end
theorem Bh {i:Nat}:∀{fr:bJ} {k:bJ→Prop},vA i fr k→∃aZ,k aZ∧∀bs b,fz (bb (bs.set i b) aZ) (bb bs fr)
 |[],k,h=>⟨[],h,fun bs b=>fz.refl _⟩
 |(t,v)::r,k,h=>by
  simp only [vA] at h
  cases bn:iA i v with
  |true=>
   rw [bn] at h
   obtain ⟨et,J,aa⟩:=Bh (fr:=r) h
   exact ⟨_,J,fun bs b=>(aa bs b).cons t (by simp only [den,U.plain];exact j5.aS _)⟩
  |false=>
   rw [bn] at h
   obtain ⟨et,J,aa⟩:=Bh (fr:=r) h
   exact ⟨_,J,fun bs b=>(aa bs b).cons t (.inl (Bg bn))⟩
theorem Bi {i:Nat}:∀{l:List aR} {k:List aR→Prop},vB i l k→∃bC,k bC∧bC.length=l.length∧∀bs b q,j5 ((bm (bs.set i b) bC).getD q .aS) ((bm bs l).getD q .aS)
 |[],k,h=>⟨[],h,rfl,fun bs b q=> .inl rfl⟩
 |v::r,k,h=>by
  simp only [vB] at h
  cases bn:iA i v with
  |true=>
   rw [bn] at h
   obtain ⟨et,J,aa,ai⟩:=Bi (l:=r) h
   refine ⟨_,J,by simp [aa],fun bs b q=>?_⟩
   cases q with
   |zero=>simp only [bm,List.getD_cons_zero,den,U.plain];exact j5.aS _
   |succ q=>simp only [bm,List.getD_cons_succ];exact ai bs b q
  |false=>
   rw [bn] at h
   obtain ⟨et,J,aa,ai⟩:=Bi (l:=r) h
   refine ⟨_,J,by simp [aa],fun bs b q=>?_⟩
   cases q with
   |zero=>simp only [bm,List.getD_cons_zero];exact .inl (Bg bn)
   |succ q=>simp only [bm,List.getD_cons_succ];exact ai bs b q
def Bj (ei o:fB):Prop:=ei=o∨∃l bC,o= .cells l∧ei= .cells bC∧bC.length=l.length∧∀i,j5 (bC.getD i .aS) (l.getD i .aS)
theorem Bk {i:Nat}:∀{L:List bu} {k:List bu→Prop},vC i L k→∃bF,k bF∧bF.length=L.length∧∀bs b (q:Nat) ei,bF[q]?=some ei→∃o,L[q]?=some o∧Bj (dV (bs.set i b) ei) (dV bs o)
 |[],k,h=>⟨[],h,rfl,fun bs b q ei h=>by simp at h⟩
 | .obj o::r,k,h=>by
   obtain ⟨et,J,aa,ai⟩:=Bk (L:=r) h
   refine ⟨_,J,by simp [aa],fun bs b q ei aL=>?_⟩
   cases q with
   |zero=>
    simp only [List.getElem?_cons_zero,Option.some.injEq] at aL
    subst aL
    exact ⟨_,rfl, .inl (by simp only [dV])⟩
   |succ q=>exact ai bs b q ei (by simpa using aL)
 | .cells l::r,k,h=>by
   simp only [vC] at h
   obtain ⟨bC,aG,aM,aC⟩:=Bi h
   obtain ⟨et,J,aa,ai⟩:=Bk (L:=r) aG
   refine ⟨_,J,by simp [aa],fun bs b q ei aL=>?_⟩
   cases q with
   |zero=>
    simp only [List.getElem?_cons_zero,Option.some.injEq] at aL
    subst aL
    exact ⟨_,rfl, .inr ⟨_,_,rfl,rfl,by rw [ju,ju,aM],aC bs b⟩⟩
   |succ q=>exact ai bs b q ei (by simpa using aL)
section
variable {bs:List Nat} {L bF:List bu} {m:ae}
theorem Oq {b:Nat} (g:Good bs L m) {o:fB} (h:bH bs L m b=some o):(∃(q:Nat) (x:bu),bs[q]?=some b∧L[q]?=some x∧o=dV bs x)∨(b∉bs∧m b=some o):=by
 by_cases ag:b∈bs
 · left
   obtain ⟨q,aO⟩:=List.getElem?_of_mem ag
   have cl:q<bs.length:=by
    rcases Nat.lt_or_ge q bs.length with h|h
    · exact h
    · rw [List.getElem?_eq_none h] at aO;cases aO
   have j7:q<L.length:=by rw [←g.len];exact cl
   have aq:L[q]?=some L[q]:=List.getElem?_eq_getElem j7
   have:=kp g aq
   have e:bs.getD q 0=b:=by rw [List.getD_eq_getElem?_getD,aO];rfl
   rw [e,h] at this
   exact ⟨q,_,aO,aq,Option.some.inj this⟩
 · right
   rw [bH,mo (by rw [na g.len];exact ag)] at h
   exact ⟨ag,h⟩
end
end Go.bV
end
section
namespace Go.bV
open Go Go.ba
section
variable {P:Program} {T:hl} {b0:List Nat} {fr:bJ} {L:List bu} {m:ae} {K:cE}
theorem xP {α:Type} [Inhabited α] (f:α→U) (xs:List α) {st:Bool} {n w j:Nat} {k:Int} {Q:U→Prop} (h:0≤k∧k<xs.length) (aN:∀a,(f a).cells.length=w) (aA:(bif st then Nat.ble (j+n) w else Nat.ble (j+1) w)=true)
 (e7:Q (bif st then .agg (((f (I xs k)).cells.drop j).take n) else (f (I xs k)).cells.getD j .aS)):E1 (dM f xs) st n (0+k.toNat*w+j) Q:=by
 have ak:k.toNat<xs.length:=by omega
 have e:(dM f xs).drop (k.toNat*w+j)=(f (I xs k)).cells.drop j++dM f (xs.drop (k.toNat+1)):=by
  have:=Af f xs k.toNat ak
  rw [this,List.drop_append,List.drop_eq_nil_of_le (by rw [nQ aN,List.length_take];rw [Nat.min_eq_left (by omega)];omega),nQ aN,List.length_take,Nat.min_eq_left (by omega),List.nil_append,Nat.add_sub_cancel_left,List.drop_append]
  cases st with
  |true=>
   have jr:j+n≤w:=Nat.le_of_ble_eq_true aA
   rw [show j- (f (xs.getD k.toNat default)).cells.length=0 by rw [aN];omega,List.drop_zero];rfl
  |false=>
   have jr:j+1≤w:=Nat.le_of_ble_eq_true aA
   rw [show j- (f (xs.getD k.toNat default)).cells.length=0 by rw [aN];omega,List.drop_zero];rfl
 have hlen:k.toNat*w+w≤(dM f xs).length:=by
  rw [nQ aN,←Nat.succ_mul];exact Nat.mul_le_mul_right _ ak
 rw [Nat.zero_add]
 cases st with
 |true=>
  have jr:j+n≤w:=Nat.le_of_ble_eq_true aA
  refine ⟨by simp only [cond_true];omega,?_⟩
  simp only [cond_true] at e7 ⊢
  rw [e,List.take_append_of_le_length (by rw [List.length_drop,aN];omega)]
  exact e7
 |false=>
  have jr:j+1≤w:=Nat.le_of_ble_eq_true aA
  refine ⟨by simp only [cond_false];omega,?_⟩
  simp only [cond_false] at e7 ⊢
  have aC:(dM f xs).getD (k.toNat*w+j) .aS=(f (I xs k)).cells.getD j .aS:=by
   have J:(dM f xs)[k.toNat*w+j]?=((dM f xs).drop (k.toNat*w+j))[0]?:=by simp
   have aa:(f (I xs k)).cells[j]?=((f (I xs k)).cells.drop j)[0]?:=by simp
   rw [List.getD_eq_getElem?_getD,List.getD_eq_getElem?_getD,J,aa,e,List.getElem?_append_left (by rw [List.length_drop,aN];omega)]
  rw [aC];exact e7
theorem FR {bs:List Nat} {s:Nat} {v:aR} (h:jP fr s fun u=>u=v) (bn:v≠ .aH .aS):(bb bs fr).get s=some (den bs v):=by
 rw [k7] at h
 cases bl:(bb bs fr).get s with
 |none=>exact absurd (h.symm.trans (A3 bl)) bn
 |some x=>
  have:=ko bs fr s
  rw [bd,bl] at this
  rw [←h,←this];rfl
structure FT (T:hl) (t e w y:Nat) (xQ:List U):Prop where
 t:da T t fun i=>jv i fun cD=>cD=e
 e:da T e fun j=>j.n=w∧j.y=y∧(match j.z with|[]=>False|_=>True)∧U.eU (bm [] (jQ j.z))=xQ
theorem FT.get (aV:eX P T=true) {t e w y:Nat} {xQ:List U} (h:FT T t e w y xQ):P.underlying t=some (.slice e)∧dS P e=true∧0<w∧k2 P e=true∧P.cellsOf e=w∧P.bytesOf e=y∧∃z,hy P e=some z∧z.cells.map U.plain=xQ∧z.dy=true:=by
 obtain ⟨i,dp,J⟩:=dT aV h.t
 unfold jv at J
 split at J
 · rename_i aC al
   subst J
   obtain ⟨jY,jM,nd,po⟩:=dp.bT al
   obtain ⟨j,e8,aa,ai,aJ,aY⟩:=dT aV h.e
   have ao:j.z≠[]:=fun e=>by rw [e] at aJ;exact aJ
   obtain ⟨z,rl,z2,z3,_⟩:=e8.hy (bs:=[]) ao
   refine ⟨jY,jM,by rw [←aa,←e8.cells];exact nd,po,by rw [e8.cells,aa],by rw [e8.bytes,ai],z,rl,?_,z3⟩
   rw [z2,←U.h0];exact aY
 · exact J.elim
def nk (x:Operand) (v:aR) (fr:bJ):bJ:=
 match x with
 | .tmp s=>(s,v)::fr
 |_=>fr
def FU (x:Operand) (v:aR) (fr:bJ) (k:bJ→Prop):Prop:=
 match x with
 | .tmp s=>k ((s,v)::fr)
 |_=>k fr
theorem Ot (x:Operand) (v:aR) (fr:bJ) (k:bJ→Prop):FU x v fr k=k (nk x v fr):=by cases x<;>rfl
theorem Ou {bs:List Nat} {x:Operand} {v:aR} (e:den bs v=b4 (bd (bb bs fr)) x) (aA:den bs v≠ .aS):fz (bb bs (nk x v fr)) (bb bs fr)∧eB (bd (bb bs (nk x v fr))) x=den bs v∧(∀a,b4 (bd (bb bs (nk x v fr))) a=b4 (bd (bb bs fr)) a)∧(bb bs (nk x v fr)).strip (kd x)=(match x with| .tmp s=>(bb bs (nk x v fr)).put s (den bs v)|_=>bb bs (nk x v fr)):=by
 cases x with
 |tmp s=>
  simp only [b4] at e
  have ou:(den bs v).plain=den bs v:=by rw [e,sy]
  refine ⟨fun q x aO=>?_,by simp only [nk,eB,bd,bb,Fr.get,if_true,Option.getD_some],fun a=>?_,by simp only [nk,kd,Fr.strip,bd,bb,Fr.get,if_true,Option.getD_some,ou]⟩
  · simp only [nk,bb,Fr.get] at aO
    by_cases h:s=q
    · subst h
      rw [if_pos rfl] at aO
      obtain rfl:=Option.some.inj aO
      cases bl:(bb bs fr).get s with
      |none=>
       simp only [bd,bl,Option.getD_none,U.plain] at e
       exact absurd e aA
      |some y=>
       refine ⟨y,rfl, .pl ?_⟩
       rw [e,bd,bl];rfl
    · rw [if_neg h] at aO;exact ⟨x,aO, .inl rfl⟩
  · cases a with
    |tmp q=>
     simp only [nk,b4,bd,bb,Fr.get]
     by_cases h:s=q
     · subst h
       rw [if_pos rfl,Option.getD_some,ou,e,bd]
     · rw [if_neg h]
    |_=>rfl
 |const c=>exact ⟨fz.refl _,by simp only [b4] at e;simp only [eB,e],fun a=>rfl,rfl⟩
 |global c=>exact ⟨fz.refl _,by simp only [b4] at e;simp only [eB,e],fun a=>rfl,rfl⟩
 |func c=>exact ⟨fz.refl _,by simp only [b4] at e;simp only [eB,e],fun a=>rfl,rfl⟩
theorem FV (aV:eX P T=true) {α:Type} [Inhabited α] (f:α→U) (xs:List α) (y:α) {i j w n t:Nat} {fs:Int} {a x:Operand} {v:aR} {cs:List aR} (aU:eD fr a fun p=>p= .hj i fs w j) (ad:nth L i=some (.obj (.cells (dM f xs)))) (bn:eD fr x fun u=>u=v) (ar:xq v fun kH=>kH=cs)
 (aB:da T t fun dp=>dp.n=n) (aN:∀a,(f a).cells.length=w) (aA:(Nat.ble (j+n) w&&Nat.beq cs.length n)=true) (aK:∀bs,(f (I xs fs)).cells.take j++bm bs cs++(f (I xs fs)).cells.drop (j+n)=(f y).cells) (aG:0≤fs∧fs<xs.length)
 (h:FU x v fr fun aZ=>fP (L.set i (.obj (.cells (dM f (xs.set fs.toNat y))))) fun bF=>K aZ bF m):hz P b0 none (.store t a x) fr L m K:=⟨fun new g xR ops ty pos af l kN bL aI ab=>by
 simp only [Bool.and_eq_true] at aA
 have vE:=Nat.le_of_ble_eq_true aA.1
 have u4:=Nat.eq_of_beq_eq_true aA.2
 obtain ⟨dp,xS,pw⟩:=dT aV aB
 obtain ⟨v1,rfl,aM⟩:=e0 (b0++new) aU
 obtain ⟨v2,rfl,aC⟩:=e0 (b0++new) bn
 obtain ⟨Ov,rfl,c8,fQ,vt⟩:=AU (bs:=b0++new) ar
 rw [ig] at ad
 have jg:=Am g.len ad
 simp only [den] at aM
 rw [Ot,gJ] at h
 have kS:den (b0++new) v2≠ .aS:=fun e=>by rw [e] at fQ;cases fQ
 obtain ⟨cM,bI,gI,h4⟩:=Ou aC kS
 refine bS.less cM ?_
 refine qY (stl:=[]) bL aI ?_
 refine M4 (P:=P) (ops:=ops) (stl:=[]) (r:=[]) (K:=bS P xR ops l kN) (L:=hk (b0++new) L) rfl i f xs y fs j (sz:=w) (by rw [gI,←aM]) (by omega) bI g.nodup jg aN fQ vt (by rw [←c8,ju,u4,xS.cells,pw]) xS.is (by rw [xS.cells,pw];exact vE) (by rw [←c8,xS.cells,pw];exact aK _) aG.1 aG.2 ?_
 rw [h4]
 have rr:(hk (b0++new) L).set i ((b0++new).getD i 0,fB.cells (dM f (xs.set fs.toNat y)))=hk (b0++new) (L.set i (.obj (.cells (dM f (xs.set fs.toNat y))))):=by
  rcases ER (bs:=b0++new) (L:=L) (i:=i) (o:= .obj (.cells (dM f (xs.set fs.toNat y)))) with h|h
  · exact h
  · exfalso
    have:i<L.length:=by
     rcases Nat.lt_or_ge i L.length with h|h
     · exact h
     · rw [List.getElem?_eq_none h] at ad;cases ad
    rw [g.len] at h;omega
 rw [rr]
 have:=ab _ _ _ (b0++new) (List.prefix_append _ _) (g.set i _) h
 refine bS.less ?_ this
 cases x with
 |tmp s=>
  intro q z aO
  simp only [nk,Fr.put,bb,Fr.get] at aO ⊢
  by_cases e:s=q
  · subst e
    rw [if_pos rfl] at aO ⊢
    exact ⟨_,rfl, .inl (Option.some.inj aO).symm⟩
  · rw [if_neg e] at aO
    rw [if_neg e,if_neg e]
    exact ⟨z,aO, .inl rfl⟩
 |_=>exact fz.refl _⟩
end
end Go.bV
end
section
namespace Go.ba
open Go
section
variable {P:Program} {F:Nat→Prop} {lim:Nat→Nat} {w:World} {n:Nat} {fr:Fr} {m:ae} {ca:Act} {bE:List Nat}
theorem bc.Ow (st:bc F lim w n fr m ca bE) {b:Nat} {L:List U} (hm:m b=some (.cells L)) (j:Nat) (y:U) (aA:j<L.length) (ar:∀v os,aP w lim v (L.getD j .aS) os→aP w lim v y []):bc F lim w n fr (m.cQ b (some (.cells (L.set j y)))) ca bE:=by
 obtain ⟨os,cP,bW,h⟩:=st
 refine ⟨os,fun c=>if c=b then (fun i=>if i=j then [] else cP b i) else cP c,bW,h.size,h.defers,h.ey,fun c o iK=>?_,h.fc,fun c o iK i=>?_,h.fW,fun c iK=>?_,fun c iK=>?_⟩
 · by_cases e:c=b
   · subst e
     simp only [ae.cQ,if_true] at iK
     obtain rfl:=Option.some.inj iK
     obtain ⟨gY,av,fM⟩:=h.mem c _ hm
     refine ⟨?_,av,fM⟩
     cases gY with
     |cells cs e l os ag al au=>
      refine .cells cs e _ _ ag (by simpa using al) fun i ad=>?_
      have eV:i<L.length:=by simpa using ad
      simp only [if_true]
      by_cases lG:i=j
      · subst lG
        rw [if_pos rfl]
        have:=ar _ _ (au i eV)
        simpa [List.getD_eq_getElem?_getD,eV] using this
      · rw [if_neg lG]
        have:=au i eV
        simpa [List.getD_eq_getElem?_getD,List.getElem?_set_ne (Ne.symm lG)] using this
   · simp only [ae.cQ,if_neg e] at iK
     simp only [if_neg e]
     exact h.mem c o iK
 · by_cases e:c=b
   · subst e
     simp only [if_true]
     by_cases lG:i=j
     · simp [lG]
     · simp only [if_neg lG]
       exact h.ed c _ hm i
   · simp only [ae.cQ,if_neg e] at iK
     simp only [if_neg e]
     exact h.ed c o iK i
 · have:=h.free c iK
   refine ⟨this.1,?_,this.2.2⟩
   simp only [ae.cQ]
   by_cases e:c=b
   · subst e;rw [hm] at this;cases this.2.1
   · rw [if_neg e];exact this.2.1
 · have:=h.fresh c iK
   refine ⟨this.1,this.2.1,?_⟩
   simp only [ae.cQ]
   by_cases e:c=b
   · subst e;rw [hm] at this;cases this.2.2
   · rw [if_neg e];exact this.2.2
end
end Go.ba
namespace Go.bV
open Go Go.ba
mutual
theorem FW {bs gl:List Nat} (h:∀j,bs.getD j 0=gl.getD j 0):∀(v:aR),den bs v=den gl v
 | .aH _| .own _| .b _| .off=>by simp only [den]
 | .loc j o| .ms j o c| .mp j| .hj j k w q| .bT j k w q=>by simp only [den,h]
 | .agg l=>by simp only [den,s7 h l]
 | .dw l=>by simp only [den,s7 h l]
 | .fn f a c=>by simp only [den,s7 h a,s7 h c]
theorem s7 {bs gl:List Nat} (h:∀j,bs.getD j 0=gl.getD j 0):∀(l:List aR),bm bs l=bm gl l
 |[]=>by simp only [bm]
 |v::r=>by simp only [bm,FW h v,s7 h r]
end
theorem FX {bs gl:List Nat} (h:∀j,bs.getD j 0=gl.getD j 0):∀(fr:bJ),bb bs fr=bb gl fr
 |[]=>rfl
 |(t,v)::r=>by simp only [bb,FW h v,FX h r]
theorem Ox {bs gl:List Nat} (h:∀j,bs.getD j 0=gl.getD j 0) (o:bu):dV bs o=dV gl o:=by
 cases o with
 |cells l=>simp only [dV,s7 h l]
 |obj o=>rfl
section
variable {bs:List Nat} {L bF:List bu} {m:ae} {fr:bJ}
theorem Oy {i:Nat} (g:Good bs L m) (ad:i+1=L.length) (av:bF.length=i):Good (bs.take i) bF m:=by
 have:=g.len
 exact ⟨g.bN.sublist (List.take_sublist _ _),by rw [List.length_take,av];omega,fun b ag=>g.fresh b (List.mem_of_mem_take ag)⟩
theorem FY {i:Nat} (ad:bs.length=i+1):∀j,(bs.take i).getD j 0=(bs.set i 0).getD j 0:=fun j=>by
 simp only [List.getD_eq_getElem?_getD,List.getElem?_take,List.getElem?_set]
 by_cases h:j<i
 · rw [if_pos h,if_neg (by omega)]
 · rw [if_neg h]
   by_cases e:i=j
   · subst e;rw [if_pos rfl,if_pos (by omega)];rfl
   · rw [if_neg e,List.getElem?_eq_none (by omega)]
theorem Bl (bs:List Nat) (v:aR):∀(l:List aR) (j:Nat),bm bs (l.set j v)=(bm bs l).set j (den bs v)
 |[],j=>by simp only [List.set_nil,bm]
 |x::r,0=>by simp only [List.set_cons_zero,bm]
 |x::r,j+1=>by simp only [List.set_cons_succ,bm,Bl bs v r j]
theorem FZ {c:fy} {A:cE} {R:Prop} {α:Type} (f:α→U) (aW:List α) (cA:List U) {i a j k cap w:Nat} {dK:List aR} (j7:nth L i=some (.obj (.cells (dM f aW)))) (ad:(Nat.beq (i+1) L.length&&Nat.ble c.bs.length i)=true) (aX:nth L a=some (.cells dK)) (aA:nth dK j=some (.ms i k cap))
 (aN:∀a,(f a).cells.length=w) (jN:0<w) (aU:∀a,(f a).plain=f a) (ak:k≤aW.length∧k≤140737488355328) (aK:(aW.take k).map f=cA)
 (h:vA i fr fun aZ=>vC i ((L.set a (.cells (dK.set j (.aH (.slice false cA))))).take i) fun bF=>A aZ bF m):lK (oC c A fr L m) R:=⟨.inl ⟨fun new g n fY Q e7 F lim wd ca st=>by
 simp only [Bool.and_eq_true] at ad
 have qk:=Nat.eq_of_beq_eq_true ad.1
 have ie:=Nat.le_of_ble_eq_true ad.2
 rw [ig] at j7 aX aA
 obtain ⟨aZ,J,fM⟩:=Bh h
 obtain ⟨bF,aa,pf,gY⟩:=Bk J
 generalize cd:c.bs++new=B at g st
 have vF:=g.len
 have Oz:bF.length=i:=by rw [pf,List.length_take,List.length_set];omega
 have hm:=kp g j7
 simp only [dV] at hm
 obtain ⟨s1,s2,mS⟩:=ba.bc.MW st aN jN aU hm
 have F0:=kp g aX
 simp only [dV] at F0
 have F1:a<B.length:=by
  rw [vF]
  rcases Nat.lt_or_ge a L.length with h|h
  · exact h
  · rw [List.getElem?_eq_none h] at aX;cases aX
 have pc:j<dK.length:=by
  rcases Nat.lt_or_ge j dK.length with h|h
  · exact h
  · rw [List.getElem?_eq_none h] at aA;cases aA
 have qN:a≠i:=fun e=>by rw [e,j7] at aX;cases aX
 have gg:B.getD a 0≠B.getD i 0:=fun e=>qN (getD_inj g.bN F1 (by omega) e)
 have OA:(bH B L m).cQ (B.getD i 0) none (B.getD a 0)=some (.cells (bm B dK)):=by
  simp only [ae.cQ,if_neg gg];exact F0
 have jH:(bm B dK).getD j .aS= .ms ⟨B.getD i 0,0,none⟩ k cap:=by
  have:=(qa (bs:=B) (n:=j) (l:=dK) (v:= .ms i k cap) (by rw [ig];exact aA)).1
  rw [this];simp only [den]
 have OB:=ba.bc.Ow s1 OA j (.slice false cA) (by rw [ju];exact pc) (fun v os au=>by
  rw [jH] at au
  have e:=MS au
  subst e
  obtain ⟨aM,aC,c8⟩:=sb au
  rw [←aK]
  exact mS k cap v ak.1 ak.2 (by rw [aM];exact .ms _ _ _ aC c8))
 have dr:Good (B.take i) bF m:=Oy g qk Oz
 have Bm:c.bs <+: B.take i:=by
  rw [←cd,List.take_append,List.take_of_length_le ie]
  exact List.prefix_append _ _
 have OC:qj (bH (B.take i) bF m) (((bH B L m).cQ (B.getD i 0) none).cQ (B.getD a 0) (some (.cells ((bm B dK).set j (.slice false cA))))):=by
  intro b ei ag
  rcases Oq dr ag with ⟨q,x,cM,bI,rfl⟩|⟨cM,bI⟩
  · obtain ⟨o,gI,h4⟩:=gY B 0 q x bI
    have OD:q<i:=by
     rcases Nat.lt_or_ge q i with h|h
     · exact h
     · rw [List.getElem?_eq_none (by omega)] at bI;cases bI
    rw [List.getElem?_take_of_lt OD] at cM gI
    rw [←Ox (FY (bs:=B) (i:=i) (by omega)) x] at h4
    have oh:B.getD q 0=b:=by rw [List.getD_eq_getElem?_getD,cM];rfl
    have OE:b≠B.getD i 0:=fun e=>by
     have:=getD_inj g.bN (by omega) (by omega) (oh.trans e)
     omega
    by_cases e:a=q
    · subst e
      rw [List.getElem?_set_self (by omega)] at gI
      obtain rfl:=Option.some.inj gI
      simp only [dV,Bl] at h4
      refine ⟨.cells ((bm B dK).set j (.slice false cA)),by simp only [ae.cQ,←oh,if_true],?_⟩
      have nN:den B (.aH (.slice false cA))= .slice false cA:=by simp only [den,U.plain]
      rw [nN] at h4
      exact h4
    · rw [List.getElem?_set_ne e] at gI
      have OF:b≠B.getD a 0:=fun aC=>e (getD_inj g.bN (by omega) F1 (oh.trans aC)).symm
      have bl:=kp g gI
      rw [oh] at bl
      exact ⟨dV B o,by simp only [ae.cQ,if_neg OF,if_neg OE];exact bl,h4⟩
  · have Bn:b∉B:=fun nV=>by rw [g.fresh b nV] at bI;cases bI
    have aY:b≠B.getD i 0:=fun e=>Bn (by rw [e,List.getD_eq_getElem?_getD,List.getElem?_eq_getElem (by omega)];exact List.getElem_mem _)
    have bG:b≠B.getD a 0:=fun e=>Bn (by rw [e,List.getD_eq_getElem?_getD,List.getElem?_eq_getElem (by omega)];exact List.getElem_mem _)
    refine ⟨ei,?_, .inl rfl⟩
    simp only [ae.cQ,if_neg aY,if_neg bG,bH]
    rw [mo (by rw [na g.len];exact Bn)]
    exact bI
 have hle:fz (bb (B.take i) aZ) (bb B fr):=by
  rw [FX (FY (bs:=B) (i:=i) (by omega))]
  exact fM B 0
 have dP:=de.less hle (de.oE OC (e7 aZ bF m (B.take i) Bm dr aa))
 exact wp_mono (dP F _ wd ca OB) fun e a w' ⟨l,f,m',q,fq,dQ⟩=>⟨l,f,m',q,fq,s2.trans dQ⟩⟩⟩
theorem F2 {c:fy} {A:cE} {R:Prop} (h:A fr L m):lK (oC c A fr L m) R:=⟨.inl ⟨fun new g n fY Q e7=>e7 fr L m (c.bs++new) (List.prefix_append _ _) g h⟩⟩
end
end Go.bV
end
section
namespace Go.bV
open Go Go.ba
def ql (E:Nat):List aR→List aR
 |[]=>[]
 |v::r=>iX E v::ql E r
def Bo (E:Nat):bu→bu
 | .cells l=> .cells (ql E l)
 | .obj o=> .obj o
def px (E:Nat):List bu→List bu
 |[]=>[]
 |o::r=>Bo E o::px E r
section
variable {fr:bJ} {L:List bu} {m:ae}
theorem Bp (E:Nat):∀(l:List aR),(ql E l).length=l.length
 |[]=>rfl
 |v::r=>by simp only [ql,List.length_cons,Bp E r]
theorem F3 (E:Nat):∀(l:List bu),(px E l).length=l.length
 |[]=>rfl
 |v::r=>by simp only [px,List.length_cons,F3 E r]
theorem Bq (bs:List Nat) (E:Nat):∀(l:List aR) (i:Nat),j5 ((bm bs (ql E l)).getD i .aS) ((bm bs l).getD i .aS)
 |[],i=> .inl rfl
 |v::r,0=>by simp only [ql,bm,List.getD_cons_zero];exact Fy bs E v
 |v::r,i+1=>by simp only [ql,bm,List.getD_cons_succ];exact Bq bs E r i
theorem OG (bs:List Nat) (E:Nat) (o:bu):Bj (dV bs (Bo E o)) (dV bs o):=by
 cases o with
 |obj o=>exact .inl rfl
 |cells l=>exact .inr ⟨_,_,rfl,rfl,by rw [ju,ju,Bp],Bq bs E l⟩
theorem F4 (E:Nat):∀(l:List bu) (i:Nat),(px E l)[i]?=(l[i]?).map (Bo E)
 |[],i=>by simp [px]
 |v::r,0=>by simp [px]
 |v::r,i+1=>by simp [px,F4 E r i]
theorem bg.oE {P:Program} {f:FuncId} {args:List U} {K:U→ae→Prop} {m':ae} (al:qj m' m) (h:bg P f args m' K):bg P f args m K:=
 ⟨h.1,fun F lim w cargs cJ au st=>h.2 F lim w cargs cJ au (bc.oE st al)⟩
theorem qj.bf {bs:List Nat} {is:List Nat} {os fN:List bu} {aF:ae} (gi:(ij bs is).Nodup) (av:is.length=os.length) (l8:fN.length=os.length) (h:∀(i:Nat) ei,fN[i]?=some ei→∃o,os[i]?=some o∧Bj (dV bs ei) (dV bs o)):qj (aF.bf (k9 bs is fN)) (aF.bf (k9 bs is os)):=by
 intro b ei ag
 by_cases hm:b∈ij bs is
 · obtain ⟨i,Bd,rfl⟩:=s4 hm
   obtain ⟨j,aA⟩:=List.getElem?_of_mem Bd
   have xM:j<fN.length:=by
    rcases Nat.lt_or_ge j is.length with h|h
    · omega
    · rw [List.getElem?_eq_none h] at aA;cases aA
   have lI:=List.getElem?_eq_getElem xM
   obtain ⟨o,aL,hle⟩:=h j _ lI
   rw [Ba gi (by omega) aA lI] at ag
   obtain rfl:=Option.some.inj ag
   exact ⟨_,Ba gi av aA aL,hle⟩
 · rw [Bb hm] at ag
   exact ⟨ei,by rw [Bb hm];exact ag, .inl rfl⟩
theorem OH {b0:List Nat} {P:Program} {f:FuncId} {vs:List aR} {Q:aR→List bu→ae→Prop} {σ:Type} (E:Nat) (is:List Nat) (fO:σ→Prop) (y:σ→aR) (os:σ→List bu) (ad:isOk L.length is=true) (av:∀x,(os x).length=is.length)
 (h:∀bs (aF:ae),eE (ij bs is) aF→(∀b o,m b=some o→aF b=some o)→∀(K:U→ae→Prop),(∀x,fO x→K (den bs (y x)) (aF.bf (k9 bs is (os x))))→bg P f (bm bs vs) (aF.bf (k9 bs is (px E (mu L is)))) K)
 (e7:∀x,fO x→fP (jw L is (os x)) fun bF=>Q (y x) bF m):nf P b0 f vs fr L m Q:=by
 refine ⟨σ,fO,y,fun x=>jw L is (os x),fun _=>m,fun new g K ab=>?_,fun x=>by rw [qi,Nat.beq_refl];rfl,fun x aq=>by have:=e7 x aq;rwa [gJ] at this⟩
 have gi:=vz g.bN (by rw [g.len];exact ad)
 have aM:=s6 g ad (s3 L is).symm
 rw [Bf ad] at aM
 rw [aM]
 refine bg.oE (qj.bf gi (s3 L is).symm (F3 E _) fun i ei lI=>?_) (h (b0++new) _ ⟨gi,fun b ag=>by simp [rp,ag]⟩ (fun b o ag=>?_) K fun x aq=>?_)
 · rw [F4] at lI
   cases bl:(mu L is)[i]? with
   |none=>rw [bl] at lI;cases lI
   |some o=>
    rw [bl] at lI
    obtain rfl:=Option.some.inj lI
    exact ⟨o,rfl,OG _ E o⟩
 · have J:b∉b0++new:=fun hm=>by rw [g.fresh b hm] at ag;cases ag
   have aa:b∉ij (b0++new) is:=fun hm=>by
    obtain ⟨i,ie,e⟩:=s4 hm
    have cl:=(s5 ad).1 i ie
    rw [←g.len] at cl
    apply J
    rw [e,List.getD_eq_getElem?_getD,List.getElem?_eq_getElem cl]
    exact List.getElem_mem _
   simp only [rp,if_neg aa,bH]
   rw [mo (by rw [na g.len];exact J)]
   exact ag
 · have:=ab x aq [] (by rw [List.append_nil];exact ⟨g.bN,by rw [qi];exact g.len,g.fresh⟩)
   rw [List.append_nil,s6 g ad (av x).symm] at this
   exact this
end
end Go.bV
end
section
namespace Go.bV
open Go Go.ba
def xT (st:Bool) (z:List Z):U:=bif st then .agg (U.eU (bm [] (jQ z))) else ((bm [] (jQ z)).getD 0 .aS).plain
theorem fX.zeroV {P:Program} {t:Nat} {i:gS} (cO:fX P t i) (ao:i.z≠[]):∃z,ba.hy P t=some z∧z.plain=xT i.k.hR i.z:=by
 obtain ⟨v,J,aa,ai,aJ⟩:=cO.zero ao
 refine ⟨jI v,by simp only [ba.hy,J,aa,if_true],?_⟩
 unfold sD at ai
 split at ai
 · simp only [Bool.and_eq_true] at ai
   rw [xT,ai.1,cond_true,vq ai.2]
   simp only [jI,U.plain]
 · rename_i bn
   simp only [Bool.and_eq_true,Bool.not_eq_true'] at ai
   have uV:jI v=iu v:=by
    cases v with
    |agg cs=>exact absurd rfl (bn cs)
    |iface t u=>
     cases nR:i.z with
     |nil=>exact absurd nR ao
     |cons a r=>rw [nR] at ai;simp [ph,q8] at ai
    |_=>rfl
   rw [xT,ai.1,cond_false,vq ai.2,uV]
   rfl
def F5:jf→Option TypeDesc
 | .str=>some .string
 | .int .i64=>some (.int .i64)
 |_=>none
structure F6 (T:hl) (t k e:Nat) (xU:TypeDesc) (z:U):Prop where
 t:da T t fun i=>match i.k with| .mp ea cD=>ea=k∧cD=e|_=>False
 k:da T k fun i=>F5 i.k=some xU
 e:da T e fun i=>(match i.z with|[]=>False|_=>True)∧xT i.k.hR i.z=z
section
variable {P:Program} {T:hl} {b0:List Nat} {fr:bJ} {L:List bu} {m:ae} {K:cE}
theorem F6.get (aV:eX P T=true) {t k e:Nat} {xU:TypeDesc} {z:U} (h:F6 T t k e xU z):P.underlying t=some (.map k e)∧P.underlying k=some xU∧∃z0,hy P e=some z0∧z0.plain=z:=by
 obtain ⟨i,dp,J⟩:=dT aV h.t
 obtain ⟨j,e8,aa⟩:=dT aV h.k
 obtain ⟨l,OI,ai,aJ⟩:=dT aV h.e
 have ao:l.z≠[]:=fun e=>by rw [e] at ai;exact ai
 refine ⟨?_,?_,?_⟩
 · split at J
   · rename_i ak
     obtain ⟨rfl,rfl⟩:=J
     exact dp.mp ak
   · exact J.elim
 · unfold F5 at aa
   split at aa
   · rename_i ak
     rw [←Option.some.inj aa];exact e8.str ak
   · rename_i ak
     rw [←Option.some.inj aa];exact e8.int ak
   · cases aa
 · obtain ⟨z0,rl,z2⟩:=OI.zeroV ao
   exact ⟨z0,rl,z2.trans aJ⟩
end
end Go.bV
end
section
namespace Go.bV
open Go Go.ba
theorem bg.OJ {P:Program} {f:FuncId} {a cR:List U} {m:ae} {K:U→ae→Prop} (av:cR.length=a.length) (al:∀i,j5 (cR.getD i .aS) (a.getD i .aS)) (h:bg P f cR m K):bg P f a m K:=
 ⟨h.1,fun F lim w cargs cJ au st=>h.2 F lim w cargs (by omega) (fun i ad=>by
   rcases al i with e|e
   · rw [e];exact au i (by omega)
   · exact e _ _ _ _ (au i (by omega))) st⟩
section
variable {fr:bJ} {L:List bu} {m:ae}
theorem cF {b0:List Nat} {P:Program} {f:FuncId} {vs:List aR} {Q:aR→List bu→ae→Prop} {σ:Type} (E:Nat) (is:List Nat) (fO:σ→Prop) (y:σ→aR) (os:σ→List bu) (ad:isOk L.length is=true) (av:∀x,(os x).length=is.length)
 (h:∀bs (aF:ae),eE (ij bs is) aF→(∀b o,m b=some o→aF b=some o)→∀(K:U→ae→Prop),(∀x,fO x→K (den bs (y x)) (aF.bf (k9 bs is (os x))))→bg P f (bm bs (ql E vs)) (aF.bf (k9 bs is (px E (mu L is)))) K)
 (e7:∀x,fO x→fP (jw L is (os x)) fun bF=>Q (y x) bF m):nf P b0 f vs fr L m Q:=
 OH E is fO y os ad av (fun bs aF gd aB K ab=>bg.OJ (by rw [ju,ju,Bp]) (Bq bs E vs) (h bs aF gd aB K ab)) e7
end
end Go.bV
end
section
namespace Go.bV
open Go Go.ba
inductive nn where
 |d
 |z
 |f (i:Nat) (p:nn)
 |s (i:Nat) (p:nn)
 |o (i:Nat) (p q:nn)
def nn.ids:nn→List Nat
 | .o i _ q=>i::q.ids
 |_=>[]
def vG (o:Oper):Bool:=
 match o.op with
 | .move x| .nilCheck x| .fieldAddr _ x _=>kD x
 |_=>false
def lL (ops:Array Oper):nn→Bool→Nat→Array Bool→Bool
 | .d,_,_,l=>(Region.ready .any ops l).isEmpty
 | .z,top,_,_=>!top
 | .f i p,_,k,l=>
   match k with
   |0=>false
   |k+1=>(match ops[i]? with|some o=>q3 ops l i o&&vG o|none=>false)&&lL ops p true k (l.setIfInBounds i true)
 | .s i p,_,k,l=>
   match k with
   |0=>false
   |k+1=>!(Region.ready .any ops l).isEmpty&&((Region.ready .any ops l).all fun j=>j==i)&&lL ops p true k (l.setIfInBounds i true)
 | .o i p q,top,k,l=>
   match k with
   |0=>false
   |k+1=>(!top||(!(Region.ready .any ops l).isEmpty&&(Region.ready .any ops l).all fun j=>(i::q.ids).contains j))&&ops[i]?.isSome&&lL ops p true k (l.setIfInBounds i true)&&lL ops q false (k+1) l
def ru (c:fy) (d:Option Nat) (op:Op) (fr:bJ) (k:bJ→Prop):Prop:=
 match d,op with
 |some d, .move x=>eD fr x fun v=>k ((d,v)::fr)
 |some d, .nilCheck x=>eD fr x fun v=>
  match v with
  | .loc i off=>k ((d, .loc i off)::fr)
  |_=>False
 |some d, .fieldAddr s x f=>eD fr x fun a=>
  match a with
  | .loc i off=>da c.T s fun dp=>vg dp f fun o _=>k ((d, .loc i (off+o))::fr)
  |_=>False
 |_,_=>False
def py (c:fy) (bT:List Nat) (ops:List Oper) (K:cE):nn→cE
 | .d,fr,L,m=>K fr L m
 | .z,_,_,_=>True
 | .f i p,fr,L,m=>
   match nth ops i with
   |some o=>ru c o.dst o.op fr fun fr=>py c bT ops K p fr L m
   |none=>False
 | .s i p,fr,L,m=>
   match nth ops i with
   |some o=>qf c ops bT [o] fr L m fun fr L m=>py c bT ops K p fr L m
   |none=>False
 | .o i p q,fr,L,m=>
   (match nth ops i with
   |some o=>qf c ops bT [o] fr L m fun fr L m=>py c bT ops K p fr L m
   |none=>False)∧py c bT ops K q fr L m
end Go.bV
namespace Go.ba
open Go
section
variable {P:Program} {n:Nat} {fr:Fr} {m:ae} {ops:Array Oper} {fuel:Nat} {listed:Array Bool} {K:Fr→ae→Prop}
theorem eW.F7 (gg:Region.ready .any ops listed≠[]) (h:∀i∈Region.ready .any ops listed,∃o,ops[i]?=some o∧bS P n ops [o] (eW P n ops fuel (listed.setIfInBounds i true) K) fr m):eW P n ops (fuel+1) listed K fr m:=by
 intro F lim w ca Q st aO
 refine ⟨fun aG=>absurd aG gg,fun i ad=>?_⟩
 obtain ⟨o,aL,key⟩:=h i ad
 unfold wpOp
 rw [aL]
 simp only
 let hH:Exit→Act→World→Prop:=fun e a w'=>match e with
  | .normal=>wpAny P .any ops Q fuel (listed.setIfInBounds i true) a w'
  |e=>Q e a w'
 have hw:=key F lim w ca hH st (fun lim' w' aZ m' dX dP fq dQ=>dP F lim' w' dX Q fq fun jG h9 pR mg se ab sr pS=>aO jG h9 pR mg se ab sr (dQ.trans pS))
 have conv:∀{C:Act→World→Prop},o.wp P ca w C hH→o.wp P ca w C Q:=by
  intro C kM
  unfold Oper.wp at kM ⊢
  generalize (execOp ca.eval o).run P w=res at kM ⊢
  cases res with
  |ok s w'=>
   cases s with
   |enter f args=>
    refine kM.mono fun e h9 aT=>?_
    cases e<;>exact aT
   |_=>exact kM
  |_=>exact kM
 unfold wpList at hw
 split
 · next q0=>
   rw [if_pos q0] at hw
   rcases hw with hw|⟨J,aa⟩
   · exact .inl (conv hw)
   · exact .inr ⟨J,aa⟩
 · next q0=>
   rw [if_neg q0] at hw
   exact hw
theorem eW.ey (h:eW P n ops fuel listed K fr m):eW P n ops fuel listed (fun f m=>(∀t x,f.get t=some x→t<n)∧K f m) fr m:=fun F lim w ca Q st aO=>
 h F lim w ca Q st fun lim' w' f m' dX ak fq dQ=>aO lim' w' f m' dX ⟨fun t x aq=>by obtain ⟨_,_,_,s⟩:=fq;exact (s.ey t x aq).1,ak⟩ fq dQ
theorem eW.OK {iZ:Fr→ae→Prop} (ab:∀f m,K f m→iZ f m) (h:eW P n ops fuel listed K fr m):eW P n ops fuel listed iZ fr m:=fun F lim w ca Q st aO=>
 h F lim w ca Q st fun lim' w' f m' dX ak fq dQ=>aO lim' w' f m' dX (ab _ _ ak) fq dQ
end
end Go.ba
namespace Go.bV
open Go Go.ba
section
variable {c:fy} {n:Nat} {ops:Array Oper} {K:Fr→ae→Prop} {bT:List Nat} {kN:cE}
theorem OL {b0 new:List Nat} (aV:eX c.P c.T=true) (bL:∀o∈ops.toList,eQ n o=true∧gh n o=true) {fuel i:Nat} {o:Oper} {listed:Array Bool} {fr:bJ} {aF:ae} {k:bJ→Prop} (aL:ops[i]?=some o) (ag:q3 ops listed i o=true) (aN:vG o=true)
 (h:ru c o.dst o.op fr k) (ak:∀aZ,k aZ→eW c.P n ops fuel (listed.setIfInBounds i true) K (bb (b0++new) aZ) aF):eW c.P n ops (fuel+1) listed K (bb (b0++new) fr) aF:=by
 have hm:=bL o (by rw [Array.mem_toList_iff];exact Array.mem_of_getElem? aL)
 cases bo:o.dst with
 |none=>rw [bo] at h;unfold ru at h;split at h<;>simp_all
 |some d=>
  have ib:=jZ hm.1 bo
  rw [bo] at h
  cases cB:o.op with
  |move x=>
   simp only [cB,ru] at h
   obtain ⟨v,J,e⟩:=e0 (b0++new) h
   rw [vG,cB] at aN
   have:=ak _ J
   simp only [bb] at this
   exact eW.M9 aL cB bo ib aN ag e.symm this
  |nilCheck x=>
   simp only [cB,ru] at h
   obtain ⟨v,J,e⟩:=e0 (b0++new) h
   rw [vG,cB] at aN
   split at J
   · have:=ak _ J
     simp only [bb] at this
     simp only [den] at e this
     exact eW.Na aL cB bo ib aN ag e.symm this
   · exact J.elim
  |fieldAddr s x f=>
   simp only [cB,ru] at h
   obtain ⟨v,J,e⟩:=e0 (b0++new) h
   rw [vG,cB] at aN
   split at J
   · rename_i ii off
     obtain ⟨dp,cO,aa⟩:=dT aV J
     obtain ⟨dU,fd,hu,sa,i1,i2,ai⟩:=AJ cO aa
     have:=ak _ ai
     simp only [bb] at this
     simp only [den] at e this
     exact eW.Nb (side:=dS c.P fd.type=true∧c.P.cellsOf fd.type≠0) aL cB bo ib aN ag e.symm (by simp only [bO,hu,sa,←e]<;>rfl) ⟨i1,i2⟩ this
   · exact J.elim
  |_=>simp [cB,ru] at h
theorem vH {b0:List Nat} (aV:eX c.P c.T=true) (dh:c.bs=b0) (bL:∀o∈ops.toList,eQ n o=true∧gh n o=true∧rm o=true)
 (ab:∀aZ bF m' ee,Good (b0++ee) bF m'→kN aZ bF m'→K (bb (b0++ee) aZ) (bH (b0++ee) bF m')):
 ∀(p:nn) (top:Bool) (fuel:Nat) (listed:Array Bool) (fr:bJ) (L:List bu) (m:ae) (new:List Nat),lL ops p top fuel listed=true→Good (b0++new) L m→py c bT ops.toList kN p fr L m→
  (top=true→eW c.P n ops fuel listed K (bb (b0++new) fr) (bH (b0++new) L m))∧
  (∀f,fuel=f+1→∀i∈p.ids,∃o,ops[i]?=some o∧bS c.P n ops [o] (eW c.P n ops f (listed.setIfInBounds i true) K) (bb (b0++new) fr) (bH (b0++new) L m))
 | .d,top,fuel,listed,fr,L,m,new,aL,g,h=>by
   refine ⟨fun _=>eW.done ?_ (ab _ _ _ _ g h),fun f _ i ad=>by cases ad⟩
   simpa [lL] using aL
 | .z,top,fuel,listed,fr,L,m,new,aL,g,h=>by
   refine ⟨fun aB=>?_,fun f _ i ad=>by cases ad⟩
   subst aB;simp [lL] at aL
 | .f i p,top,fuel,listed,fr,L,m,new,aL,g,h=>by
   refine ⟨fun _=>?_,fun f _ i ad=>by cases ad⟩
   cases fuel with
   |zero=>simp [lL] at aL
   |succ k=>
    simp only [lL,Bool.and_eq_true] at aL
    simp only [py,ig,Array.getElem?_toList] at h
    cases ad:ops[i]? with
    |none=>rw [ad] at h;exact h.elim
    |some o=>
     rw [ad] at h aL
     simp only [Bool.and_eq_true] at aL
     exact OL aV (fun o aL=>⟨(bL o aL).1,(bL o aL).2.1⟩) ad aL.1.1 aL.1.2 h fun aZ ak=>(vH aV dh bL ab p true k _ aZ L m new aL.2 g ak).1 rfl
 | .s i p,top,fuel,listed,fr,L,m,new,aL,g,h=>by
   refine ⟨fun _=>?_,fun f _ i ad=>by cases ad⟩
   cases fuel with
   |zero=>simp [lL] at aL
   |succ k=>
    simp only [lL,Bool.and_eq_true,Bool.not_eq_true',List.all_eq_true,beq_iff_eq] at aL
    simp only [py,ig,Array.getElem?_toList] at h
    refine eW.F7 (fun e=>by rw [e] at aL;simp at aL) fun j aA=>?_
    obtain rfl:=aL.1.2 j aA
    cases ad:ops[j]? with
    |none=>rw [ad] at h;exact h.elim
    |some o=>
     rw [ad] at h
     refine ⟨o,rfl,sZ aV dh [o] (fun ei lI=>?_) g h fun aZ bF m' ee dr ak=>(vH aV dh bL ab p true k _ aZ bF m' ee aL.2 dr ak).1 rfl⟩
     rw [List.mem_singleton.1 lI]
     exact bL o (by rw [Array.mem_toList_iff];exact Array.mem_of_getElem? ad)
 | .o i p q,top,fuel,listed,fr,L,m,new,aL,g,h=>by
   cases fuel with
   |zero=>simp [lL] at aL
   |succ k=>
    simp only [lL,Bool.and_eq_true] at aL
    obtain ⟨⟨⟨J,aa⟩,ai⟩,aJ⟩:=aL
    have key:∀f,k+1=f+1→∀j∈(nn.o i p q).ids,∃o,ops[j]?=some o∧bS c.P n ops [o] (eW c.P n ops f (listed.setIfInBounds j true) K) (bb (b0++new) fr) (bH (b0++new) L m):=by
     intro f aN j aA
     obtain rfl:k=f:=by omega
     simp only [py,ig,Array.getElem?_toList] at h
     simp only [nn.ids,List.mem_cons] at aA
     rcases aA with rfl|aA
     · cases ad:ops[j]? with
       |none=>rw [ad] at aa;cases aa
       |some o=>
        rw [ad] at h
        refine ⟨o,rfl,sZ aV dh [o] (fun ei lI=>?_) g h.1 fun aZ bF m' ee dr ak=>(vH aV dh bL ab p true k _ aZ bF m' ee ai dr ak).1 rfl⟩
        rw [List.mem_singleton.1 lI]
        exact bL o (by rw [Array.mem_toList_iff];exact Array.mem_of_getElem? ad)
     · exact (vH aV dh bL ab q false (k+1) listed fr L m new aJ g h.2).2 k rfl j aA
    refine ⟨fun aB=>?_,key⟩
    subst aB
    simp only [Bool.not_true,Bool.false_or,Bool.and_eq_true,Bool.not_eq_true',List.all_eq_true,List.contains_iff_mem] at J
    exact eW.F7 (fun e=>by rw [e] at J;simp at J) fun j aA=>key k rfl j (by simpa [nn.ids] using J.2 j aA)
theorem gp {L:List bu} {m:ae} {fr:bJ} {id:Nat} {kn:cE} {A:Prop} {σ:Type} (aV:eX c.P c.T=true) (hm:c.P.follows .mixedOrders=true) (p:nn) (md:List (Nat×Nat)) (ks:List Nat) (k:Nat) (S:σ→sT) (fO:σ→Prop)
 (aU:(lL ops p true ops.size (Array.replicate ops.size false)&&ops.toList.all rm)=true)
 (cd:∀x,fO x→fP (S x).1 fun fr=>fP (S x).2.1 fun L=>kn fr L (S x).2.2)
 (dP:py c (pq ops.toList) ops.toList (fun fr L m=>∃x,fits c md ks k fr L m (S x)∧fO x) p fr L m):lK A (AP c id ops true kn fr L m):=by
 simp only [Bool.and_eq_true,List.all_eq_true] at aU
 refine ⟨.inr ⟨fun new g n Q ak e7=>?_⟩⟩
 have sk:=A0 ak
 simp only [kf,Bool.and_eq_true,List.all_eq_true] at ak
 refine de.vv (Q:=fun e f m=>∃fe m',fz fe f∧(∀b o,m' b=some o→m b=some o)∧Q e fe m') (fun e f m h=>h) ?_
 refine MI hm (List.range n) sk fun K ab=>?_
 have J:=(vH (K:=fun fr aF=>∃fe m',fz fe fr∧(∀b o,m' b=some o→aF b=some o)∧Q .normal fe m') aV rfl (fun o aL=>⟨(ak.1 o aL).1,(ak.1 o aL).2,aU.2 o aL⟩) (fun aZ bF m' ee dr ⟨x,aN,ay⟩=>by
  obtain ⟨g2,av,al,hlen⟩:=vy (b0:=c.bs) rfl dr aN
  have:=cd x ay
  rw [gJ,gJ] at this
  exact ⟨_,_,av,al,e7 _ _ _ _ (List.prefix_append _ _) g2 this⟩) p true _ _ fr L m new aU.1 g dP).1 rfl
 refine eW.OK (fun f aF ⟨al,fe,m',av,uL,aO⟩=>ab _ _ ⟨fe,m',fun t x aq=>?_,uL,aO⟩) (eW.ey J)
 obtain ⟨y,aK,oz⟩:=av t x aq
 obtain ⟨z,ao,mf⟩:=AZ al t y aK
 rcases mf with rfl|mf
 · exact ⟨_,ao,oz⟩
 · refine ⟨_,ao, .inr fun w lim v os au=>?_⟩
   have aa:=mf w lim v os au
   rcases oz with rfl|oz
   · exact aa
   · exact oz w lim v [] aa
end
end Go.bV
end
section
namespace Go.bV
open Go Go.ba
theorem bg.pl {P:Program} {f:FuncId} {a:List U} {m:ae} {K:U→ae→Prop} (h:bg P f a m fun x m'=>K x.plain m'):bg P f a m K:=
 ⟨h.1,fun F lim w cargs J aa ai=>(h.2 F lim w cargs J aa ai).mono fun _ _ ⟨v,x,lim',m',_,he,ab,au,al,aU⟩=>⟨v,x.plain,lim',m',[],he,ab,au.plain,al.drop,aU⟩⟩
example (l:List U) (n:Int):U.plain (.tuple [.slice true l, .int .i64 n, .err 3 n])= .tuple [.slice false l, .int .i64 n, .err 3 n]:=rfl
end Go.bV
end
section
namespace Go.ba
open Go RowKit
section
variable {P:Program} {F:Nat→Prop} {lim:Nat→Nat} {w w':World} {n:Nat} {fr:Fr} {m:ae} {ca:Act} {bE:List Nat}
theorem bc.below (st:bc F lim w n fr m ca bE) (h:Below w.heap.size w w'):bc F lim w' n fr m ca bE:=by
 have av:=h.block
 have aN:∀c,w.heap.size≤c→lim c=0:=fun c ar=>by
  obtain ⟨_,_,_,s⟩:=st
  exact (s.fresh c ar).1
 have hm:∀b,m b≠none→b<w.heap.size:=fun b ag=>st.oX ag
 have jH:∀b o,o<lim b→b<w.heap.size:=fun b o aL=>st.qF aL
 exact st.world h.size (fun _=>Nat.le_refl _) (fun b o aL=>by simp [World.cell?,av b (jH b o aL)]) (fun c ar=> .inr ⟨av c ar,rfl⟩) (fun b ag=>⟨av b (hm b ag),rfl⟩) (fun c ar=>aN c (Nat.le_trans h.size ar))
theorem F8 (st:bc F lim w n fr m ca bE) (h:Below w.heap.size w w'):dL F w lim w' lim:=
 ⟨h.os,h.tape,h.output,h.size,fun b ag=>⟨h.block b (st.pO ag),rfl⟩,fun _=>Nat.le_refl _,fun b o aL=>by simp [World.cell?,h.block b (st.qF aL)]⟩
theorem OM {f Br ON:Nat} {xV:Nat} {e:TypeId} {z:Nat×Nat} {la:TypeId} {p:Value} (aN:∃fn,P.funcs[f]?=some fn∧fn.body.isSome=true∧(fn.name== "runtime.NumGoroutine")=false)
 (bL:∀(s:ByteArray) (n:Int),s.size≤18→Lib.atoi s.data.toList=some n→∀w:World,Calls P f #[.string s] w fun e w'=>e= .returned (.tuple #[.int .i64 n, .nilIface])∧∃t,w'=Lib.bytesWorld w Br t)
 (OO:∀(s:ByteArray),s.size≤18→Lib.atoi s.data.toList=none→∀(kb:Value) (w:World),w.cell? ⟨xV,0,none⟩=some kb→(kb= .nilIface∨∃Bs Bt,kb= .iface Bs Bt)→Calls P f #[.string s] w fun e w'=>∃N,e= .returned (.tuple #[.int .i64 0, .iface ON (.pointer (some ⟨N,0,none⟩))])∧Below w.heap.size w w')
 {s:List UInt8} {K:U→ae→Prop} (al:s.length≤18) (ag:∀n,Lib.atoi s=some n→-9223372036854775808≤n∧n≤9223372036854775807) (hm:m xV=some (.mL e z #[.iface la p]))
 (ab:K (.tuple [.int .i64 ((Lib.atoi s).getD 0), .opt (Lib.atoi s).isNone]) m):bg P f [.str s] m K:=by
 refine ⟨aN,fun F lim w cargs cJ au st=>?_⟩
 obtain ⟨x,rfl⟩:=Ol cJ
 have Bu:aP w lim x (.str s) []:=au 0 (by simp)
 obtain ⟨b,rfl,pW⟩:∃b:ByteArray,x= .string b∧b.data.toList=s:=by
  cases Bu with
  |str b _=>exact ⟨b,rfl,rfl⟩
 have F9:b.size≤18:=by rw [←pW] at al;simpa using al
 have dw:∀{fD:World} {n:Int} {v:Value} {o:Bool},-9223372036854775808≤n→n≤9223372036854775807→aP fD lim v (.opt o) []→aP fD lim (.tuple #[.int .i64 n,v]) (.tuple [.int .i64 n, .opt o]) []:=fun {fD n v o} J aa ai=>by
  have:=aP.tuple (w:=fD) (lim:=lim) #[.int .i64 n,v] [.int .i64 n, .opt o] (fun _=>[]) rfl (fun i ad=>by
   match i,ad with
   |0,_=>exact .int .i64 n J aa
   |1,_=>exact ai)
  exact this
 cases aX:Lib.atoi s with
 |some n=>
  rw [aX] at ab
  refine (bL b n F9 (by rw [pW];exact aX) w).mono fun aM k6 ⟨he,t,hw⟩=>?_
  subst he;subst hw
  exact ⟨_,_,lim,_,[],rfl,ab,dw (ag n aX).1 (ag n aX).2 .nB,st.below (Lib.bytesWorld_below _ _ _),F8 st (Lib.bytesWorld_below _ _ _)⟩
 |none=>
  rw [aX] at ab
  have ar:w.cell? ⟨xV,0,none⟩=some (.iface la p):=by
   obtain ⟨os,cP,bW,s⟩:=st
   have:=(s.mem xV _ hm).1
   cases this with
   |mL _ _ _ _ ag=>simp [World.cell?,ag]
  refine (OO b F9 (by rw [pW];exact aX) _ w ar (.inr ⟨la,p,rfl⟩)).mono fun aM k6 ⟨N,he,hw⟩=>?_
  subst he
  exact ⟨_,_,lim,_,[],rfl,ab,dw (by decide) (by decide) (.nC _ _),st.below hw,F8 st hw⟩
end
end Go.ba
end
section
namespace Go.bV
open Go Go.ba
section
variable {P:Program} {b0:List Nat} {fr:bJ} {L:List bu} {m:ae} {K:cE}
theorem OP {d t s:Nat} {parts:Array (Nat×Operand)} {cL:Array Field} {z:U} (pre post:List aR) (q:List U) (hu:P.underlying t=some (.struct cL)) (ao:hy P t=some z) (pX:z.dy=true) (jn:∀f∈cL.toList,dS P f.type=true)
 (o5:∀bs,∀X:U,X.dy=true→∀p∈parts.toList,(nP (bd (bb bs fr)) s X p.2).dy=true)
 (uX:∀bs a k c,lE (fun i=>(cL[i]?).map fun f=>(f.offset,P.cellsOf f.type)) z.cells (parts.toList.map fun p=>(p.1,nP (bd (bb bs fr)) s (.ms a k c) p.2))=some (bm bs pre++ .ms a k c::bm bs post))
 (lz:∀bs,lE (fun i=>(cL[i]?).map fun f=>(f.offset,P.cellsOf f.type)) z.cells (parts.toList.map fun p=>(p.1,nP (bd (bb bs fr)) s (.slice true q) p.2))=some (bm bs pre++ .slice true q::bm bs post))
 (aq:jP fr s fun v=>v= .own q) (jo:(parts.toList.any fun p=>match p.2 with| .tmp t=>t==s|_=>false)=true) (h:K ((d, .agg (pre++ .own q::post))::(s, .aH (.slice false q))::fr) L m):
 hz P b0 (some d) (.build t parts) fr L m K:=⟨fun new g n ops ty pos af l kN bL aI ab=>by
 refine qY (stl:=[d]) bL aI ?_
 have au:bd (bb (b0++new) fr) s= .slice true q:=by
  rw [ko];rw [k7] at aq;rw [aq];rfl
 refine MO (P:=P) (ops:=ops) (stl:=[d]) (r:=[]) (K:=bS P n ops l kN) rfl s (bm (b0++new) pre) (bm (b0++new) post) (by simp) hu ao pX jn (o5 _) (uX _) (lz _) au jo ?_
 have:=ab _ _ _ (b0++new) (List.prefix_append _ _) g h
 have e:bm (b0++new) (pre++ .own q::post)=bm (b0++new) pre++ .slice true q::bm (b0++new) post:=by
  rw [lJ,lJ,lJ,List.map_append,List.map_cons];rfl
 simp only [bb,den,e] at this
 rw [wS,au]
 exact this⟩
end
end Go.bV
end
section
namespace Go.ba
open Go
inductive s8:Value→Prop
 |u64 (n:Int):s8 (.int .u64 n)
 |iface (t:TypeId) (p:Value):s8 (.iface t p)
theorem OQ {w:World} {lim:Nat→Nat} {v:Value} (bn:s8 v) {x:U} {os:List Nat} (h:aP w lim v x os) (aq:ho x):False:=by
 cases bn with
 |u64 n=>exact On h aq
 |iface t p=>cases aq<;>cases h
theorem OR {w:World} {lim lim':Nat→Nat} {B:Nat→Prop} (ar:∀b o v,B b→w.cell? ⟨b,o,none⟩=some v→s8 v) (av:∀b,¬B b→lim' b=lim b) {v:Value} {x:U} {os:List Nat} (h:aP w lim v x os):ho x→aP w lim' v x os:=by
 induction h with
 |bool b=>exact fun _=> .bool b
 |int k n bw ad=>exact fun _=> .int k n bw ad
 |str s h=>exact fun _=> .str s h
 |fL own=>exact fun _=> .fL own
 |empty a cap hm=>exact fun _=> .empty a cap hm
 |slice b off n cap sz l cv aI fu hm ew cJ fb Ga au aQ=>
  intro aq
  cases aq with
  |slice _ xO pf=>
   rcases Nat.eq_zero_or_pos n with aG|aG
   · subst aG
     have:l=[]:=List.eq_nil_of_length_eq_zero aI
     subst this
     exact .empty _ _ hm
   · have jo:∀i,i<n→l.getD i .aS∈l:=fun i ad=>by simp [List.getD_eq_getElem?_getD,show i<l.length by omega]
     have OS:∀(L:List U) (j:Nat),j<L.length→L.getD j .aS∈L:=fun L j aA=>by
      rw [List.getD_eq_getElem?_getD,List.getElem?_eq_getElem aA];exact List.getElem_mem _
     have bL:∀i j,i<n→j<sz→ho ((l.getD i .aS).cells.getD j .aS):=fun i j ad aA=>pf _ (jo i ad) _ (OS _ j (by rw [cJ i ad];exact aA))
     have Bv:0<sz:=by
      rw [←cJ 0 aG];exact List.length_pos_iff.2 (xO _ (jo 0 aG))
     have ag:¬B b:=fun e=>OQ (ar b _ _ e (Ga 0 0 aG Bv)) (au 0 0 aG Bv) (bL 0 0 aG Bv)
     exact .slice b off n cap sz l cv aI fu hm ew cJ (by rw [av b ag];exact fb) Ga fun i j ad aA=>aQ i j ad aA (bL i j ad aA)
 |agg cs xs os h au aQ=>
  intro aq
  cases aq with
  |agg _ pf=>
   exact .agg cs xs os h fun i ad=>aQ i ad (pf _ (by
    rw [List.getD_eq_getElem?_getD,List.getElem?_eq_getElem ad]
    exact List.getElem_mem _))
 |_=>intro aq;cases aq
structure Bw where
 e:TypeId
 z:Nat×Nat
 cs:Array Value
def vI (G:Nat→Option Bw):ae:=fun b=>(G b).map fun t=> .mL t.e t.z t.cs
section
variable {P:Program}
theorem OT {f:FuncId} {avs:List U} {cargs:Array Value} {G:Nat→Option Bw} {W:World} (h:bg P f avs (vI G) (fun x m'=>x= .bool true∧∀b t,G b=some t→m' b=some (.mL t.e t.z t.cs))) (al:cargs.size=avs.length)
 (aV:∀b t,G b=some t→W.heap[b]?=some (.cells t.cs t.e t.z)∧∀v∈t.cs.toList,s8 v)
 (au:∀i,i<avs.length→aP W (lF W) (cargs.getD i undef) (avs.getD i .aS) []) (aL:∀x∈avs,ho x):
 Calls P f cargs W fun e kL=>e= .returned (.bool true)∧RowKit.Below W.heap.size W kL:=by
 have cl:∀b t,G b=some t→b<W.heap.size:=fun b t ag=>by
  rcases Nat.lt_or_ge b W.heap.size with h|h
  · exact h
  · have:=(aV b t ag).1
    rw [Array.getElem?_eq_none h] at this;cases this
 have ar:∀b o v,(∃t,G b=some t)→W.cell? ⟨b,o,none⟩=some v→s8 v:=fun b o v ⟨t,ag⟩ bn=>by
  simp only [World.cell?,(aV b t ag).1] at bn
  exact (aV b t ag).2 v (by simpa using Array.mem_of_getElem? bn)
 have st:bc (fun b=>b<W.heap.size∧G b=none) (fun b=>if (G b).isSome then 0 else lF W b) W 0 [] (vI G) k1 []:=by
  refine ⟨fun _=>[],fun _ _=>[],fun _=> .none,rfl,rfl,fun t x aq=>by simp [Fr.get] at aq,fun b o h=>?_,fun t x aq=>by simp [Fr.get] at aq,fun b o h i=>⟨List.nodup_nil,fun c ar=>by cases ar⟩,by simp,fun c h=>absurd rfl h,fun b ag=>?_⟩
  · unfold vI at h
    cases aM:G b with
    |none=>rw [aM] at h;cases h
    |some t=>
     rw [aM] at h
     obtain rfl:=Option.some.inj h
     exact ⟨.mL t.e _ _ _ (aV b t aM).1,by simp,fun aT=>by cases aT.2⟩
  · have aM:G b=none:=by
     cases aM:G b with
     |none=>rfl
     |some t=>have:=cl b t aM;omega
    have:W.heap[b]?=none:=by simpa using ag
    exact ⟨by simp [aM,lF,this],fun aT=>by omega,by simp [vI,aM]⟩
 refine (h.2 _ _ W cargs al (fun i ad=>OR (B:=fun b=>∃t,G b=some t) ar (fun b ag=>by
  have aM:G b=none:=by
   cases aM:G b with
   |none=>rfl
   |some t=>exact absurd ⟨t,aM⟩ ag
  simp [aM]) (au i ad) (aL _ (by rw [List.getD_eq_getElem?_getD,List.getElem?_eq_getElem ad];exact List.getElem_mem _))) st).mono fun e kL ⟨v,x,lim',m',os,he,ab,aq,db,aU⟩=>?_
 obtain ⟨ab,hm⟩:=ab
 subst ab
 cases aq
 refine ⟨he,aU.os,aU.tape,aU.output,aU.size,fun k ak=>?_⟩
 cases aM:G k with
 |some t=>
  obtain ⟨_,_,_,s⟩:=db
  have:=(s.mem k _ (hm k t aM)).1
  cases this with
  |mL _ _ _ _ ag=>rw [ag,(aV k t aM).1]
 |none=>exact (aU.res k ⟨ak,aM⟩).1
end
end Go.ba
end
section
namespace Go.ba
open Go Go.MapKept
section
variable {P:Program} {F:Nat→Prop} {lim:Nat→Nat} {w w':World} {n:Nat} {fr:Fr} {m:ae} {ca:Act} {bE:List Nat}
variable {ops:Array Oper} {stl:List Nat} {r:List Oper} {K:Fr→ae→Prop} {d:Nat} {ty:TypeId} {pos:String} {af:Array Edge} {gd:Option (Nat×Bool)} {L:List (Nat×fB)}
end
end Go.ba
namespace Go.bV
open Go Go.ba
theorem OU {bs:List Nat} {L:List bu} {m:ae} (g:Good bs L m) {b:Nat} {o:fB} (h:m b=some o):bH bs L m b=some o:=
 Mz h fun c ar=>by rw [na g.len] at ar;exact g.fresh c ar
section
variable {P:Program} {T:hl} {b0:List Nat} {fr:bJ} {L:List bu} {m:ae} {K:cE}
end
section
variable {c:fy} {L:List bu} {fr:bJ} {m:ae}
end
end Go.bV
end
section
namespace Go.bV
open Go Go.ba
def Bx {kk kO:Type} (m:ae) (q1:kk→U) (q2:kO→U) (o:Option Nat) (l:List (kk×kO)):Prop:=
 match o with
 |none=>l=[]
 |some b=>m b=some (.map (l.map (ML q1 q2)))
theorem Bx.up {kk kO:Type} {m aF:ae} {q1:kk→U} {q2:kO→U} {o:Option Nat} {l:List (kk×kO)} (aB:∀b o,m b=some o→aF b=some o) (h:Bx m q1 q2 o l):Bx aF q1 q2 o l:=by
 cases o with
 |none=>exact h
 |some b=>exact aB _ _ h
section
variable {P:Program} {T:hl} {b0:List Nat} {fr:bJ} {L:List bu} {m:ae} {K:cE}
end
end Go.bV
end
section
namespace Go.bV
open Go Go.ba
section
variable {P:Program} {b0:List Nat} {fr:bJ} {L:List bu} {m:ae}
theorem OV {f:FuncId} {vs:List aR} {Q:aR→List bu→ae→Prop} {σ:Type} (fO:σ→Prop) (o:σ→bu) (y:σ→aR) (al:(nc L.length fr&&kP L.length L)=true)
 (h:∀bs (aF:ae),bs.length=L.length→(∀b o,m b=some o→aF b=some o)→∀(K:U→ae→Prop),(∀x b,fO x→aF b=none→K (den (bs++[b]) (y x)) (aF.cQ b (some (dV (bs++[b]) (o x)))))→bg P f (bm bs vs) aF K)
 (e7:∀x,fO x→Q (y x) (L++[o x]) m):nf P b0 f vs fr L m Q:=by
 simp only [Bool.and_eq_true] at al
 refine ⟨σ,fO,y,fun x=>L++[o x],fun _=>m,fun new g K ab=>h (b0++new) _ g.len (fun _ _ ag=>OU g ag) K fun x b aq ag=>?_,fun x=>?_,e7⟩
 · obtain ⟨dr,e⟩:=Ao g (by rw [g.len];exact al.2) ag (o x)
   have:=ab x aq [b] dr
   rw [e] at this
   exact this
 · rw [al.1];cases Nat.beq (L++[o x]).length L.length<;>rfl
theorem OW {bs:List Nat} {b n:Nat} (h:bs.length=n):(bs++[b]).getD n 0=b:=by
 subst h
 rw [List.getD_eq_getElem?_getD,List.getElem?_append_right (Nat.le_refl _)];simp
end
section
variable {bs:List Nat} {L bF:List bu} {m:ae} {fr:bJ}
end
end Go.bV
end
section
namespace Go.ba
open Go
def s9 (P:Program) (f:FuncId) (j:Nat) (args:List U) (m:ae) (K:U→ae→Prop):Prop:=
 (∃fn,P.funcs[f]?=some fn∧fn.body.isSome=true∧(fn.name== "runtime.NumGoroutine")=false)∧
 ∀F lim w (cargs:Array Value) bE,cargs.size=args.length→(∀i,i<args.length→aP w lim (cargs.getD i undef) (args.getD i .aS) (if i=j then bE else []))→bc F lim w 0 [] m k1 bE→
  Calls P f cargs w fun e w'=>∃v x lim' m' os,e= .returned v∧K x m'∧aP w' lim' v x os∧bc F lim' w' 0 [] m' k1 os∧dL F w lim w' lim'
section
variable {P:Program} {F:Nat→Prop} {lim:Nat→Nat} {w:World} {n:Nat} {fr:Fr} {m:ae} {ca:Act} {bE:List Nat}
theorem OX {f:FuncId} {fn:Func} {c:Code} {j:Nat} {args:List U} {K:U→ae→Prop} (aN:P.funcs[f]?=some fn) (ag:fn.body=some c) (uI:(fn.name== "runtime.NumGoroutine")=false) (jq:args.length≤fn.ntmps)
 (h:de P fn.ntmps c (DZ P fn K) (Fr.init 0 args) m):s9 P f j args m K:=by
 refine ⟨⟨fn,aN,by rw [ag];rfl,uI⟩,fun F lim w cargs bE al au st=>calls_of_wp aN ag ?_⟩
 have fq:bc F lim w fn.ntmps (Fr.init 0 args) m {tmps:=cargs++Array.replicate (fn.ntmps- cargs.size) undef,defers:=[]} []:=by
  obtain ⟨os,cP,bW,k⟩:=st
  refine ⟨fun t=>if t=j then bE else [],cP,fun c=>if bW c= .kA then .slot j else bW c,by simp;omega,rfl,fun t x aq=>?_,k.mem,fun t x aq=>?_,fun b o ag i=>⟨(k.ed b o ag i).1,fun c ar=>by simp [(k.ed b o ag i).2 c ar]⟩,⟨List.nodup_nil,fun c ar=>by cases ar⟩,fun c ar=>?_,k.fresh⟩
  · obtain ⟨_,J,aa⟩:=Fr.DX args 0 t x aq
    simp only [Nat.sub_zero] at J aa
    refine ⟨by omega,?_⟩
    have e:(cargs++Array.replicate (fn.ntmps- cargs.size) undef).getD t undef=cargs.getD t undef:=by
     simp [Array.getD_eq_getD_getElem?,Array.getElem?_append,show t<cargs.size from by omega]
    rw [e,←aa]
    exact au t J
  · by_cases aB:t=j
    · subst aB
      simp only [if_true]
      exact ⟨k.fW.1,fun c ar=>by simp [k.fW.2 c ar]⟩
    · simp [if_neg aB]
  · by_cases J:bW c= .kA
    · exact k.free c (by rw [J];simp)
    · simp only [J,if_false] at ar
      exact k.free c ar
 refine wp_mono (h F lim w _ fq) fun e a w' ⟨lim',aZ,m',q,s1,dQ⟩=>?_
 have uJ:qU P fn aZ m' K→a.defers=[]∧∃v,(results fn a.tmps).run P w'= .ok v w'∧∃iw x lim' m' os,Ending.returned v= .returned iw∧K x m'∧aP w' lim' iw x os∧bc F lim' w' 0 [] m' k1 os∧dL F w lim w' lim':=fun q=>by
  obtain ⟨v,x,mg,os,J,aa,ai,aJ⟩:=D1 q s1
  exact ⟨s1.defers,v,J,v,x,lim',mg,os,rfl,aa,ai,aJ,dQ⟩
 cases e with
 |ret=>exact uJ q
 |normal=>exact uJ q
 |_=>exact q.elim
theorem bc.OY (h:bc F lim w n fr m ca bE):∃kB:Nat→Prop,(∀b,F b→kB b)∧bc kB lim w 0 [] m k1 bE∧
 ∀lim' w' m' os,bc kB lim' w' 0 [] m' k1 os→dL kB w lim w' lim'→bc F lim' w' n fr m' ca os:=by
 obtain ⟨os,cP,bW,h⟩:=h
 refine ⟨fun b=>F b∨(bW b).ix=true,fun b ag=> .inl ag,⟨os,cP,fun c=>if (bW c).ix then .none else bW c,rfl,rfl,fun t x aq=>by simp [Fr.get] at aq,fun b o ag=>?_,fun t x aq=>by simp [Fr.get] at aq,fun b o ag i=>⟨(h.ed b o ag i).1,fun c ar=>by simp [(h.ed b o ag i).2 c ar,Place.ix]⟩,⟨h.fW.1,fun c ar=>by simp [h.fW.2 c ar,Place.ix]⟩,fun c ar=>?_,fun b ag=>?_⟩,?_⟩
 · refine ⟨(h.mem b o ag).1,(h.mem b o ag).2.1,fun aN=>?_⟩
   rcases aN with aN|aN
   · exact (h.mem b o ag).2.2 aN
   · have:=(h.free b (by intro e;rw [e] at aN;simp [Place.ix] at aN)).2.1
     rw [ag] at this;cases this
 · by_cases al:(bW c).ix=true
   · simp [al] at ar
   · simp only [al] at ar
     have:=h.free c (by simpa using ar)
     exact ⟨fun aN=>aN.elim this.1 al,this.2⟩
 · have:=h.fresh b ag
   refine ⟨this.1,fun aN=>aN.elim this.2.1 (fun al=>?_),this.2.2⟩
   have:=(h.free b (by intro e;rw [e] at al;simp [Place.ix] at al)).2.2
   omega
 · intro lim' w' m' UB ⟨C5,zJ,uB,k⟩ dQ
   have js:∀c,uB c≠ .none→¬(bW c).ix=true:=fun c ar al=>(k.free c ar).1 (.inr al)
   refine ⟨os,zJ,fun c=>if (bW c).ix then bW c else uB c,h.size,h.defers,fun t x aq=>⟨(h.ey t x aq).1,(h.ey t x aq).2.gQ dQ.mono dQ.cell (fun c ar=>dQ.res c (.inr ?_))⟩,fun b o ag=>?_,fun t x aq=>⟨(h.fc t x aq).1,fun c ar=>?_⟩,fun b o ag i=>⟨(k.ed b o ag i).1,fun c ar=>?_⟩,⟨k.fW.1,fun c ar=>?_⟩,fun c ar=>?_,fun b ag=>?_⟩
   · rw [(h.fc t x aq).2 c ar];rfl
   · exact ⟨(k.mem b o ag).1,(k.mem b o ag).2.1,fun aN=>(k.mem b o ag).2.2 (.inl aN)⟩
   · have:=(h.fc t x aq).2 c ar
     simp [this,Place.ix]
   · have J:=(k.ed b o ag i).2 c ar
     have:=js c (by rw [J];simp)
     simp [this,J]
   · have J:=k.fW.2 c ar
     have:=js c (by rw [J];simp)
     simp [this,J]
   · by_cases al:(bW c).ix=true
     · have J:=h.free c (by intro e;rw [e] at al;simp [Place.ix] at al)
       refine ⟨J.1,?_,Nat.lt_of_lt_of_le J.2.2 dQ.size⟩
       cases hm:m' c with
       |none=>rfl
       |some o=>exact ((k.mem c o hm).2.2 (.inr al)).elim
     · have J:=k.free c (by simpa [al] using ar)
       exact ⟨fun aN=>J.1 (.inl aN),J.2⟩
   · have:=k.fresh b ag
     exact ⟨this.1,fun aN=>this.2.1 (.inl aN),this.2.2⟩
theorem OZ {f:FuncId} {j:Nat} {args:List U} {K:U→ae→Prop} (ar:s9 P f j args m K) (st:bc F lim w n fr m ca bE) {cargs:Array Value} (al:cargs.size=args.length) (au:∀i,i<args.length→aP w lim (cargs.getD i undef) (args.getD i .aS) (if i=j then bE else []))
 {o:Oper} {next:Act→World→Prop} {Q:Exit→Act→World→Prop} (he:∀fn,P.funcs[f]?=some fn→fn.body.isSome=true→(fn.name== "runtime.NumGoroutine")=false→(execOp ca.eval o).run P w= .ok (.enter f cargs) w)
 (aI:∀v x lim' w' m' os,K x m'→aP w' lim' v x os→bc F lim' w' n fr m' ca os→dL F w lim w' lim'→next (ca.put o.dst v) w'):o.wp P ca w next Q:=by
 obtain ⟨⟨fn,J,aa,ai⟩,qT⟩:=ar
 obtain ⟨kB,fM,s1,s2⟩:=st.OY
 unfold Oper.wp
 rw [he fn J aa ai,Oper.upon_enter]
 refine (qT kB lim w cargs bE al au s1).mono fun e w' ⟨v,x,lim',m',os,he,ab,fw,gm,eN⟩=>?_
 subst he
 exact aI v x lim' w' m' os ab fw (s2 lim' w' m' os gm eN) (eN.weaken fM)
end
end Go.ba
namespace Go.bV
open Go Go.ba
section
variable {P:Program} {b0:List Nat} {fr:bJ} {L:List bu} {m:ae}
theorem Gb {c:fy} {f:FuncId} {fn:Func} {fY:Code} {j:Nat} {vs:List aR} {K:U→ae→Prop} (e:Bool) (aV:eX c.P c.T=true) (hm:c.P.follows .mixedOrders=true) (aN:c.P.funcs[f]?=some fn) (ag:fn.body=some fY) {k:Nat} (bL:cu c.xs fn fY k=true) (av:vs.length=k) (g:Good c.bs L m)
 (h:kR c fY (sY c false fn.results.toList K) (fun _ _ _ _=>False) (sY c e fn.results.toList K) (sW 0 vs) L m):s9 c.P f j (bm c.bs vs) (bH c.bs L m) K:=by
 simp only [cu,Bool.and_eq_true,Bool.not_eq_true'] at bL
 obtain ⟨⟨⟨h5,hU⟩,nj⟩,rn⟩:=bL
 refine OX aN ag h5 (by rw [ju,av];exact Nat.le_of_ble_eq_true hU) ?_
 have:=nY (b0:=c.bs) (new:=[]) aV hm rfl fY (by rw [List.append_nil];exact g) nj h
 rw [List.append_nil,A8] at this
 refine FK c.E (vp fn.results.toList) (fun ex f aF aU=>?_) this
 obtain ⟨aZ,bF,m',ee,dr,rfl,rfl,cp⟩:=aU
 cases ex with
 |normal=>exact .inl (s0 aV rfl dr (by simpa using Nat.le_of_ble_eq_true rn) cp)
 |exit id=>exact cp.elim
 |ret=>
  simp only [sY] at cp
  cases e with
  |false=>exact .inl (s0 aV rfl dr (by simpa using Nat.le_of_ble_eq_true rn) cp)
  |true=>
   simp only at cp
   rw [gJ] at cp
   right
   rw [←A7]
   exact s0 aV rfl dr (by simpa using Nat.le_of_ble_eq_true rn) cp
 |_=>exact cp.elim
theorem xW {f:FuncId} {args:Array Operand} {cT:Array TypeId} {s d:Nat} {rest:List Operand} {l:List U} {us:List aR} {k:cE} (y:aR) (aX:args.toList= .tmp s::rest) (al:jP fr s fun v=>v= .own l) (au:p9 fr rest fun vs=>vs=us)
 (h:∀bs (aF:ae) (K:U→ae→Prop),K (den bs y) aF→s9 P f 0 (.slice true l::bm bs us) aF K)
 (aO:k ((d,y)::(s, .aH (.slice false l))::fr) L m):hz P b0 (some d) (.call ⟨.value (.func f),args,cT⟩) fr L m k:=⟨fun new g n ops ty pos af q kN bL aI ab=>by
 have vJ:=FR (bs:=b0++new) al (by simp)
 simp only [den] at vJ
 obtain ⟨vs,rfl,aM⟩:=q6 (b0++new) au
 refine bS.step rfl fun F lim w ca st next Q k5=>?_
 have gZ:=kG bL
 obtain ⟨os,O0,uY⟩:=st.take vJ
 have dP:∀x∈rest,aP w lim (ca.eval x) (b4 (bd (bb (b0++new) fr)) x) []:=fun x aq=>by
  have dc:x∈args.toList:=by rw [aX];exact List.mem_cons_of_mem _ aq
  exact hQ st (gZ x (by simp [Op.operands,Call.operands];first|exact .inr (by simpa using dc)|simpa using dc))
 have cJ:(args.map ca.eval).size=(U.slice true l::bm (b0++new) vs).length:=by
  have:args.size=rest.length+1:=by rw [←Array.length_toList,aX];rfl
  rw [aM];simp [this]
 refine OZ (h (b0++new) _ (fun x m'=>bS P n ops q kN (ba.ep ((bb (b0++new) fr).put s (U.slice true l).plain) (some d) x) m') ?_) O0 cJ (fun i ad=>?_) (fun fn g1 g2 g3=>by simp [execOp,resolve,Deferred.ofValue,Act.eval,invoke,so _ g1 g2 g3]) fun v x lim' w' m' fN O1 fw gm eN=>?_
 · have:=ab _ _ _ _ (List.prefix_append b0 new) g aO
   simp only [bb,den] at this
   exact this
 · have eV:i<args.size:=by
    have cU:=cJ
    simp only [Array.size_map] at cU
    omega
   have aC:(args.map ca.eval).getD i undef=ca.eval (args.toList.getD i (.tmp s)):=by
    simp [Array.getD,eV,List.getD_eq_getElem?_getD]
   rw [aC,aX]
   cases i with
   |zero=>simpa [Act.eval] using uY
   |succ i=>
    simp only [Nat.succ_ne_zero,if_false,List.getD_cons_succ]
    have ie:i<rest.length:=by
     have:args.size=rest.length+1:=by rw [←Array.length_toList,aX];rfl
     omega
    have c8:(bm (b0++new) vs).getD i .aS=b4 (bd (bb (b0++new) fr)) rest[i]:=by
     rw [aM];simp [List.getD_eq_getElem?_getD,ie]
    have fQ:rest.getD i (.tmp s)=rest[i]:=by simp [List.getD_eq_getElem?_getD,ie]
    rw [c8,fQ]
    exact dP _ (List.getElem_mem _)
 · exact k5 lim' w' _ m' _ O1 (gm.ep (fun t aB=>jZ bL aB) fw) eN⟩
end
end Go.bV
end
