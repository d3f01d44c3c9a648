/-
  The executor, part 9: regions in their text's order; open orders.
-/
import Derived.Test.YtnahenbiipdlkaaGreatDoorWyH
import Derived.Lib.AppendStr
import Derived.Lib.LaidTab
import Derived.Lib.ItoaNum
import Derived.Sort.Grow
import Derived.Test.YtnahenbiipdlkaaGreatDoorWwS
import Derived.Test.YtnahenbiipdlkaaGreatDoorWyA
import Derived.Lib.AtoiErrMem
import Derived.Lib.Atoi
import Derived.Below
import Derived.Lib.AtoiAllCases
import Derived.Shelf.Strconv.AtoiAll
import Derived.Shelf.Strings.Prefix
import Derived.Shelf.Slices.Clone
import Derived.Shelf.Slices.CompactS
import Derived.Shelf.Slices.Turned
import Derived.Shelf.Small.Wraps
import Derived.Lib.RowBridge
section
namespace Go.bU
open Go Go.ba
section
variable {c:fy} {n:Nat} {L:List bu} {m:ae} {K:Fr→ae→Prop} {ops:Array Oper} {l:List Oper} {bs:List Nat}
theorem vt {t:Nat} {v:aR}:∀{fr:bJ} {k:bJ→Prop},nS fr t v k→den bs v=den bs (eR fr t)→∃aZ,k aZ∧bb bs aZ=bb bs fr
 |[],_,h,_=>⟨_,h,rfl⟩
 |(s,x)::r,k,h,e=>by
  simp only [nS] at h
  simp only [eR] at e
  cases ag:Nat.beq s t with
  |true=>
   rw [ag] at h e
   exact ⟨_,h,by simp only [bb];rw [show den bs v=den bs x from e]⟩
  |false=>
   rw [ag] at h e
   obtain ⟨aZ,cp,cD⟩:=vt (fr:=r) h e
   exact ⟨_,cp,by simp only [bb,cD]⟩
theorem Fq {gd:Option (Nat×Bool)} {fr:bJ} {on off:bJ→Prop} (h:sQ ops.toList gd fr on off):
 (hI ops (bb bs fr) gd=some true∧∃aZ,on aZ∧bb bs aZ=bb bs fr)∨(hI ops (bb bs fr) gd=some false∧∃aZ,off aZ∧bb bs aZ=bb bs fr):=by
 cases gd with
 |none=>exact .inl ⟨rfl,_,h,rfl⟩
 |some zP=>
  obtain ⟨j,b⟩:=zP
  simp only [sQ] at h
  rw [ig,Array.getElem?_toList] at h
  cases bl:(ops[j]?).bind (·.dst) with
  |none=>rw [bl] at h;exact h.elim
  |some g=>
   rw [bl] at h
   simp only at h
   rw [k6] at h
   have au:=ko bs fr g
   have AW:∀x,bd (bb bs fr) g=x→hI ops (bb bs fr) (some (j,b))=pY x b:=fun x e=>by simp only [hI,bl,e]
   have key:∀(q:bD),eR fr g= .b q→(b=true→q.ways (nS fr g (.b (.lit true)) on) (nS fr g (.b (.lit false)) off))→(b=false→q.ways (nS fr g (.b (.lit true)) off) (nS fr g (.b (.lit false)) on))→
    (hI ops (bb bs fr) (some (j,b))=some true∧∃aZ,on aZ∧bb bs aZ=bb bs fr)∨(hI ops (bb bs fr) (some (j,b))=some false∧∃aZ,off aZ∧bb bs aZ=bb bs fr):=fun q aO fj ej=>by
    have bo:den bs (eR fr g)= .bool q.val:=by rw [aO];simp only [den]
    rw [AW (.bool q.val) (au.trans bo)]
    cases ag:b with
    |true=>
     obtain ⟨fD,jS⟩:=q.u4 (fj ag)
     cases bn:q.val with
     |true=>exact .inl ⟨rfl,vt (fD bn) (by rw [bo,bn];simp only [den,bD.val])⟩
     |false=>exact .inr ⟨rfl,vt (jS bn) (by rw [bo,bn];simp only [den,bD.val])⟩
    |false=>
     obtain ⟨fD,jS⟩:=q.u4 (ej ag)
     cases bn:q.val with
     |true=>exact .inr ⟨rfl,vt (fD bn) (by rw [bo,bn];simp only [den,bD.val])⟩
     |false=>exact .inl ⟨rfl,vt (jS bn) (by rw [bo,bn];simp only [den,bD.val])⟩
   cases al:eR fr g with
   |b q=>
    rw [al] at h
    cases q with
    |lit z=>
     have bo:bd (bb bs fr) g= .bool z:=by rw [au,al];simp only [den,bD.val]
     rw [AW _ bo]
     cases z<;>cases b<;>first|exact .inl ⟨rfl,_,h,rfl⟩|exact .inr ⟨rfl,_,h,rfl⟩
    |_=>exact key _ al (fun e=>by subst e;exact h) (fun e=>by subst e;exact h)
   |off=>
    rw [al] at h
    have bo:bd (bb bs fr) g= .lazy false .aS:=by rw [au,al];simp only [den]
    rw [AW _ bo]
    refine .inr ⟨?_,_,h,rfl⟩
    cases b<;>rfl
   |_=>rw [al] at h;exact h.elim
def rl (o:Oper):Bool:=
 match o.op,o.dst with
 | .store _ _ _,some _=>false
 |_,_=>true
theorem N9 {o:Oper} (h:rl o=true):∀t a x,o.op= .store t a x→o.dst=none:=by
 intro t a x e
 unfold rl at h
 rw [e] at h
 cases bo:o.dst with
 |none=>rfl
 |some d=>rw [bo] at h;cases h
theorem sY {b0:List Nat} (aV:eX c.P c.T=true) (dh:c.bs=b0) {bS:List Nat}:∀(l:List Oper) {fr:bJ} {L:List bu} {m:ae} {new:List Nat} {k:cE},(∀o∈l,eQ n o=true∧gh n o=true∧rl o=true)→Good (b0++new) L m→
 qe c ops.toList bS l fr L m k→(∀aZ bF m' ee,Good (b0++ee) bF m'→k aZ bF m'→K (bb (b0++ee) aZ) (bH (b0++ee) bF m'))→bR c.P n ops l K (bb (b0++new) fr) (bH (b0++new) L m)
 |[],fr,L,m,new,k,_,g,h,ab=>bR.nil (ab fr L m new g h)
 |o::r,fr,L,m,new,k,bL,g,h,ab=>by
  obtain ⟨dst,op,ty,pos,af,gd⟩:=o
  obtain ⟨J,aa,ai⟩:=bL _ (List.mem_cons_self ..)
  rw [Nw] at h
  rcases Fq (bs:=b0++new) h with ⟨bl,aZ,h,e⟩|⟨bl,aZ,h,e⟩
  · refine bR.NH bl ?_
    rw [←e]
    refine N8 aV dh g (N9 (o:=⟨dst,op,ty,pos,af,gd⟩) ai) J aa ⟨by rw [dh];exact List.prefix_append _ _,fun pr zY m2 Ux aU g2 h=>?_⟩ h
    obtain ⟨ee,rfl⟩:=aU
    rw [dh] at g2 ⊢
    exact sY aV dh r (new:=ee) (fun o aL=>bL o (List.mem_cons_of_mem _ aL)) g2 h ab
  · refine bR.NI bl J ?_
    rw [←e]
    obtain ⟨pr,h,aC⟩:=ng (bs:=b0++new) h
    have:=sY aV dh r (new:=new) (fun o aL=>bL o (List.mem_cons_of_mem _ aL)) g h ab
    rw [aC] at this
    simp only [den] at this
    exact this
theorem Oa {b0 new:List Nat} (aV:eX c.P c.T=true) (dh:c.bs=b0) (g:Good (b0++new) L m) {o:Oper} {fr:bJ} {k:bJ→Prop} (h:xv c o.dst o.op fr L m k):
 ∃cv side x,j2 c.P (bH (b0++new) L m) cv (bd (bb (b0++new) fr)) o=some (side,x)∧side∧∃aZ,k aZ∧bb (b0++new) aZ=er (bb (b0++new) fr) o.dst x:=by
 obtain ⟨dst,op,ty,pos,af,gd⟩:=o
 cases dst with
 |none=>exact h.elim
 |some d=>
  simp only [xv] at h
  split at h
  · subst dh
    obtain ⟨us,J,e⟩:=q5 (c.bs++new) h
    obtain ⟨y,aa,ai⟩:=J
    obtain ⟨cv,aJ,aY⟩:=aa new g
    refine ⟨cv,_,_,by simp only [j2];rfl,?_,_,ai,?_⟩
    · rw [←e];exact aJ
    · simp only [bb,er,Fr.put,aY]
  · rename_i t parts
    obtain ⟨i,dp,J⟩:=dT aV h
    cases ad:i.k with
    |st cL=>
     rw [ad] at J
     obtain ⟨ao,aa⟩:=dN.1 J
     rw [gJ] at aa
     obtain ⟨cells,side,ai,aX,al⟩:=Fm (bs:=b0++new) (m:=bH (b0++new) L m) (stl:=[]) (d:=some d) aV dp ad (by intro e;rw [e] at ao;cases ao) aa rfl
     obtain ⟨u,aJ,e⟩:=sy (b0++new) ai
     refine ⟨.aS,side,(U.agg (bm (b0++new) cells)).plain,by simp only [j2,aX],al,_,aJ,?_⟩
     simp only [bb,den,er,Fr.put,U.plain,e]
    |_=>rw [ad] at J;exact J.elim
  · rename_i t cm parts
    obtain ⟨i,dp,J⟩:=dT aV h
    unfold jv at J
    cases ad:i.k with
    |bS e=>
     rw [ad] at J
     obtain ⟨j,e8,aa⟩:=dT aV J
     obtain ⟨us,ai,he⟩:=xH (bs:=b0++new) aa
     obtain ⟨jd,aJ⟩:=dN.1 ai
     obtain ⟨c2,aY⟩:=dN.1 aJ
     obtain ⟨c3,bG⟩:=dN.1 aY
     obtain ⟨c7,aB⟩:=toLK_sound (bs:=b0++new) bG
     obtain ⟨c4,cV⟩:=dN.1 c7
     obtain ⟨aX,uS⟩:=Fk (bs:=b0++new) (m:=bH (b0++new) L m) (stl:=[]) (d:=some d) aV dp ad e8 he jd c2 c3 aB c4 rfl
     refine ⟨.aS,_,(U.slice true (bm (b0++new) (nR us))).plain,by simp only [j2,aX],uS,_,cV,?_⟩
     simp only [bb,den,er,Fr.put,U.plain]
    |_=>rw [ad] at J;exact J.elim
  · obtain ⟨q,J,aM⟩:=e0 (b0++new) h
    split at J
    · obtain ⟨u,aa,aC⟩:=e0 (b0++new) J
      simp only [den,bD.val] at aM
      exact ⟨.aS,True,_,by simp only [j2,←aM];rfl,trivial,_,aa,by simp only [bb,er,Fr.put,aC]⟩
    · obtain ⟨u,aa,aC⟩:=e0 (b0++new) J
      simp only [den,bD.val] at aM
      exact ⟨.aS,True,_,by simp only [j2,←aM];rfl,trivial,_,aa,by simp only [bb,er,Fr.put,aC]⟩
    · exact J.elim
  · rename_i h2 e3 nV nW
    obtain ⟨side,z,u,aO,al,rfl,J⟩:=E7 (P:=c.P) (bs:=b0++new) (m:=m) aV g h
    refine ⟨.aS,side,_,?_,al,_,J,rfl⟩
    rw [←aO]
    unfold j2
    split
    · rename_i e;exact (h2 _ _ _ e).elim
    · rename_i e;exact (nV _ _ _ e).elim
    · rename_i e;exact (e3 _ _ e).elim
    · rename_i e;exact (nW _ _ _ e).elim
    · rfl
theorem AX {b0 new:List Nat} (aV:eX c.P c.T=true) (dh:c.bs=b0) (g:Good (b0++new) L m):∀(l:List Oper) {fr:bJ} {k:bJ→Prop},vm c ops.toList l fr L m k→
 ∃cs,ml c.P ops (bH (b0++new) L m) cs l (bb (b0++new) fr) (fun f=>∃aZ,f=bb (b0++new) aZ∧k aZ)
 |[],fr,k,h=>⟨[],_,rfl,h⟩
 |o::r,fr,k,h=>by
  rw [Nx] at h
  rcases Fq (bs:=b0++new) h with ⟨bl,aZ,h,e⟩|⟨bl,aZ,h,e⟩
  · obtain ⟨cv,side,x,J,aa,pr,ai,aC⟩:=Oa aV dh g h
    obtain ⟨cs,aJ⟩:=AX aV dh g r ai
    rw [aC,e] at aJ
    rw [e] at J
    by_cases ar:∃f args cT,o.op= .call ⟨.value (.func f),args,cT⟩
    · obtain ⟨f,args,cT,c8⟩:=ar
      refine ⟨cv::cs,?_⟩
      simp only [ml,List.headD_cons]
      rw [En bl,J]
      simp only [c8,List.tail_cons]
      exact ⟨aa,aJ⟩
    · have Af:j2 c.P (bH (b0++new) L m) (cs.headD .aS) (bd (bb (b0++new) fr)) o=some (side,x):=by
       rw [←J]
       unfold j2
       split
       · rename_i c8;exact absurd ⟨_,_,_,c8⟩ ar
       all_goals rfl
      refine ⟨cs,?_⟩
      simp only [ml]
      rw [En bl,Af]
      refine ⟨aa,?_⟩
      split
      · rename_i c8;exact absurd ⟨_,_,_,c8⟩ ar
      · exact aJ
  · obtain ⟨pr,ai,aC⟩:=ng (bs:=b0++new) h
    obtain ⟨cs,aJ⟩:=AX aV dh g r ai
    rw [aC,e] at aJ
    simp only [den] at aJ
    by_cases ar:∃f args cT,o.op= .call ⟨.value (.func f),args,cT⟩
    · obtain ⟨f,args,cT,c8⟩:=ar
      refine ⟨.aS::cs,?_⟩
      simp only [ml]
      rw [Eo bl]
      simp only [c8,List.tail_cons]
      exact ⟨trivial,aJ⟩
    · refine ⟨cs,?_⟩
      simp only [ml]
      rw [Eo bl]
      refine ⟨trivial,?_⟩
      split
      · rename_i c8;exact absurd ⟨_,_,_,c8⟩ ar
      · exact aJ
theorem Fs:∀{iy:List (Nat×Nat)} {fr:bJ} {k:bJ→Prop},xw iy fr k→∃aZ,k aZ∧bb bs aZ=(bb bs fr).alias iy
 |[],_,_,h=>⟨_,h,rfl⟩
 |(d,s)::r,fr,k,h=>by
  simp only [xw] at h
  rw [k6] at h
  obtain ⟨aI,J⟩:=dN.1 h
  obtain ⟨u,aa,e⟩:=sA bs aI J
  obtain ⟨aZ,ai,aC⟩:=Fs aa
  refine ⟨aZ,ai,?_⟩
  rw [aC]
  simp only [bb,Fr.alias,Fr.put,ko,e]
section
variable {P:Program} {fr:Fr} {Q hH:Exit→Fr→ae→Prop} {fY:Code}
theorem de.vu (aO:∀e fr m,Q e fr m→∃aZ m',fz aZ fr∧(∀b o,m' b=some o→m b=some o)∧hH e aZ m') (h:de P n fY Q fr m):de P n fY hH fr m:=fun F lim w ca st=>
 wp_mono (h F lim w ca st) fun e _ _ ⟨l,f,aF,q,fq,dQ⟩=>by
  obtain ⟨fe,m',J,aa,ai⟩:=aO e f aF q
  exact ⟨l,fe,m',ai,(bc.less fq J).qF aa,dQ⟩
theorem de.Ft {m':ae} (al:∀b o,m' b=some o→m b=some o) (h:de P n fY Q fr m'):de P n fY Q fr m:=fun F lim w ca st=>h F lim w ca (st.qF al)
theorem bR.ez (h:bR P n ops l K fr m):bR P n ops l (fun f m=>(∀t x,f.get t=some x→t<n)∧K f m) fr m:=fun F lim w ca vv st aO=>
 h F lim w ca vv st fun lim' w' f m' dX ak fq dQ=>aO lim' w' f m' dX ⟨fun t x aq=>by obtain ⟨_,_,_,s⟩:=fq;exact (s.ez t x aq).1,ak⟩ fq dQ
theorem Fu {f:Fr} {t:Nat}:∀{ks:List Nat},t∈ks→(Fr.keep ks f).get t=some ((f.get t).getD .aS)
 |s::r,h=>by
  simp only [Fr.keep,List.map_cons,Fr.get]
  by_cases e:s=t
  · subst e;rw [if_pos rfl]
  · rw [if_neg e]
    rcases List.mem_cons.1 h with rfl|h
    · exact absurd rfl e
    · exact Fu (f:=f) h
theorem AY {f:Fr} (aN:∀t x,f.get t=some x→t<n):fz f (f.keep (List.range n)):=fun t x aq=>by
 refine ⟨x,?_, .inl rfl⟩
 rw [Fu (List.mem_range.2 (aN t x aq)),aq];rfl
theorem AZ (h:kf n ops []=true):kf n ops (List.range n)=true:=by
 simp only [kf,Bool.and_eq_true,List.all_eq_true] at h ⊢
 exact ⟨h.1,fun t aB=>by simpa using aB⟩
theorem Ob {id:Nat} (ak:kf n ops []=true) (h:bR P n ops ops.toList (fun fr m=>Q .normal fr m) fr m):de P n (.region id ops false) Q fr m:=by
 have:=AZ ak
 simp only [kf,Bool.and_eq_true] at this
 refine de.vu (Q:=fun e f m=>∃fe,fz fe f∧Q e fe m) (fun e f m ⟨fe,J,aa⟩=>⟨fe,m,J,fun _ _ h=>h,aa⟩) (Dh (List.range n) this.2 ?_)
 intro F lim w ca vv st aO
 exact (bR.ez h) F lim w ca vv st fun lim' w' f m' dX ak fq dQ=>aO lim' w' f m' dX ⟨f,AY ak.1,ak.2⟩ fq dQ
theorem Oc {id:Nat} (hm:P.follows .mixedOrders=true) (p:Nat) (iy:List (Nat×Nat)) (ak:kf n ops []=true) (bo:qU ops p iy=true)
 (h:∃cs,ml P ops m cs (ops.toList.take p) fr (fun aZ=>bR P n ops (ops.toList.drop p) (fun fr m=>Q .normal fr m) (aZ.alias iy) m)):de P n (.region id ops true) Q fr m:=by
 obtain ⟨cs,h⟩:=h
 refine de.vu (Q:=fun e f m=>∃fe,fz fe f∧Q e fe m) (fun e f m ⟨fe,J,aa⟩=>⟨fe,m,J,fun _ _ h=>h,aa⟩) (L9 hm p iy cs (List.range n) (AZ ak) bo (Ek _ (fun f h=>?_) h))
 intro F lim w ca vv st aO
 exact (bR.ez h) F lim w ca vv st fun lim' w' f m' dX ak fq dQ=>aO lim' w' f m' dX ⟨f,AY ak.1,ak.2⟩ fq dQ
end
def vw (xs:List Nat) (n id:Nat) (ops:Array Oper) (draw:Bool):Bool:=
 kf n ops []&&(ops.toList.all rl)&&(!draw||has xs (id*1000+999)||qU ops (rh xs id ops.toList 0) (sR (po ops.toList) (ops.toList.take (rh xs id ops.toList 0))))
theorem Fv {b0 new:List Nat} (aV:eX c.P c.T=true) (hm:c.P.follows .mixedOrders=true) (dh:c.bs=b0) (g:Good (b0++new) L m) {id:Nat} {draw:Bool} (au:vw c.xs n id ops draw=true) {fr:bJ} {k:cE} {Q:Exit→Fr→ae→Prop}
 (h:qf c id ops.toList draw k fr L m) (ab:∀aZ bF m' ee,Good (b0++ee) bF m'→k aZ bF m'→Q .normal (bb (b0++ee) aZ) (bH (b0++ee) bF m')):de c.P n (.region id ops draw) Q (bb (b0++new) fr) (bH (b0++new) L m):=by
 simp only [vw,Bool.and_eq_true] at au
 obtain ⟨⟨J,aa⟩,ai⟩:=au
 have bL:∀o∈ops.toList,eQ n o=true∧gh n o=true∧rl o=true:=fun o aL=>by
  simp only [kf,Bool.and_eq_true,List.all_eq_true] at J
  rw [List.all_eq_true] at aa
  exact ⟨(J.1 o aL).1,(J.1 o aL).2,aa o aL⟩
 cases draw with
 |false=>exact Ob J (sY aV dh _ bL g h ab)
 |true=>
  simp only [qf] at h
  cases aq:has c.xs (id*1000+999) with
  |true=>rw [aq] at h;exact h.elim
  |false=>
  rw [aq] at h ai
  simp only [gJ] at h
  refine Oc hm (rh c.xs id ops.toList 0) (sR (po ops.toList) (ops.toList.take (rh c.xs id ops.toList 0))) J (by simpa using ai) ?_
  obtain ⟨cs,aJ⟩:=AX aV dh g _ h
  refine ⟨cs,Ek _ (fun f aN=>?_) aJ⟩
  obtain ⟨aZ,rfl,aY⟩:=aN
  obtain ⟨pr,bG,e⟩:=Fs (bs:=b0++new) aY
  rw [←e]
  exact sY aV dh _ (fun o aL=>bL o (List.mem_of_mem_drop aL)) g bG ab
end
end Go.bU
end
section
namespace Go.bU
open Go Go.ba
def mq (c:List Nat) (n:Nat):Code→Bool
 | .region id ops draw=>vw c n id ops draw
 | .seq a b=>mq c n a&&mq c n b
 | .cond q x y=>kD q&&mq c n x&&mq c n y
 | .block _ b=>mq c n b
 | .loop b=>mq c n b
 | .skip| .ret| .exit _=>true
 |_=>false
def hT (bs:List Nat) (kn:cE) (kx:Nat→cE) (kr:cE) (e:Exit) (f:Fr) (aF:ae):Prop:=
 ∃fr L m ee,Good (bs++ee) L m∧f=bb (bs++ee) fr∧aF=bH (bs++ee) L m∧
  match e with
  | .normal=>kn fr L m
  | .exit id=>kx id fr L m
  | .ret=>kr fr L m
  |_=>False
section
variable {c:fy} {n:Nat} {b0:List Nat}
theorem hT.kq {b0 new:List Nat} {kn:cE} {kx:Nat→cE} {kr:cE} {e:Exit} {fr:bJ} {L:List bu} {m:ae} (g:Good (b0++new) L m) (h:match e with| .normal=>kn fr L m| .exit id=>kx id fr L m| .ret=>kr fr L m|_=>False):hT b0 kn kx kr e (bb (b0++new) fr) (bH (b0++new) L m):=
 ⟨fr,L,m,new,g,rfl,rfl,h⟩
theorem take_split {b0 new:List Nat} {n:Nat} (h:b0.length≤n):(b0++new).take n=b0++new.take (n- b0.length):=by
 rw [List.take_append,List.take_of_length_le h]
theorem A0 (bs:List Nat):∀{fr:bJ} {t:Nat} {v:aR},ri fr t=some v→(bb bs fr).get t=some (den bs v)
 |[],_,_,h=>by cases h
 |(s,x)::r,t,v,h=>by
  simp only [ri] at h
  simp only [bb,Fr.get]
  cases ag:Nat.beq s t with
  |true=>
   rw [ag] at h
   rw [if_pos (Nat.eq_of_beq_eq_true ag)]
   simp only [cond_true,Option.some.injEq] at h
   rw [h]
  |false=>
   rw [ag] at h
   have:¬s=t:=by
    intro e
    subst e
    have:Nat.beq s s=true:=Nat.beq_refl s
    rw [this] at ag
    cases ag
   rw [if_neg this]
   exact A0 bs h
theorem Fw (bs:List Nat) (E:Nat) (v:aR):den bs (iX E v)=(den bs v).toErr E:=by
 unfold iX
 split
 · simp only [den,U.plain,U.toErr]
 · rename_i u e
   simp only [den,U.plain,U.toErr]
   cases ag:Nat.beq u E with
   |true=>
    obtain rfl:=Nat.eq_of_beq_eq_true ag
    by_cases he:e=0
    · subst he;simp [den,U.plain]
    · simp [he,den,U.plain]
   |false=>
    have:¬u=E:=fun e=>by subst e;rw [Nat.beq_refl] at ag;cases ag
    simp [this,den,U.plain]
 · rename_i J aa
   cases v with
   |aH x=>
    cases x with
    |nilIface=>exact absurd rfl J
    |iface u y=>
     simp only [den,U.plain]
     cases y with
     |int k z=>cases k<;>first|exact absurd rfl (aa _ _)|simp only [U.toErr]
     |_=>simp only [U.toErr]
    |_=>simp only [den,U.plain,U.toErr]
   |_=>simp only [den,U.toErr]
theorem Fx (bs:List Nat) (E:Nat) (v:aR):j5 (den bs (iX E v)) (den bs v):=by
 rw [Fw]
 by_cases h:(den bs v).toErr E=den bs v
 · exact .inl h
 · right
   intro w lim u os au
   have aa:=toErr_rep E au
   have ai:=aa.plain
   have aJ:((den bs v).toErr E).plain=(den bs v).toErr E:=by
    generalize den bs v=x at h ⊢
    cases x with
    |nilIface=>simp only [U.toErr,U.plain]
    |iface u y=>
     cases y with
     |int k z=>
      cases k<;>simp only [U.toErr] at h ⊢<;>first|(split<;>simp only [U.plain])|(simp only [U.plain];done)|exact absurd rfl h
     |_=>exact absurd rfl h
    |_=>exact absurd rfl h
   rw [aJ] at ai
   exact ai
theorem Od (bs:List Nat) (E:Nat) (md:List (Nat×Nat)) (t:Nat) (v:aR):j5 (den bs (xx E md t v)) (den bs v):=by
 unfold xx
 split
 · cases md.any (fun p=>Nat.beq p.1 t) with
   |true=>exact .inl (by simp only [cond_true,den,bD.val])
   |false=>exact .inl rfl
 · exact .inl (by simp only [den,bD.val])
 · cases md.any (fun p=>Nat.beq p.1 t) with
   |true=>exact .pl (by simp only [cond_true,den,U.plain])
   |false=>exact .inl rfl
 · exact .inl (by simp only [den,U.plain,xF])
 · cases md.any (fun p=>Nat.beq p.1 t) with
   |true=>exact Fx bs E _
   |false=>exact .inl rfl
theorem xJ (bs:List Nat) (E:Nat) (md:List (Nat×Nat)):∀(ks:List Nat) (fr:bJ),fz (bb bs (mo E md ks fr)) (bb bs fr)
 |[],fr,t,x,h=>by simp only [mo,bb,Fr.get] at h;cases h
 |s::r,fr,t,x,h=>by
  simp only [mo] at h
  cases al:ri fr s with
  |none=>rw [al] at h;exact xJ bs E md r fr t x h
  |some v=>
   rw [al] at h
   simp only [bb,Fr.get] at h
   by_cases e:s=t
   · subst e
     rw [if_pos rfl] at h
     refine ⟨_,A0 bs al,?_⟩
     have:den bs (xx E md s v)=x:=by simpa using h
     rw [←this]
     exact Od bs E md s v
   · rw [if_neg e] at h
     exact xJ bs E md r fr t x h
theorem Fy (bs:List Nat):∀(l:List aR),bm bs (rj l)=bm bs l
 |[]=>rfl
 |v::r=>by cases v<;>simp only [rj,bm,den,bD.val,Fy bs r]
theorem Oe (bs:List Nat) (o:bu):dV bs (vn o)=dV bs o:=by
 cases o with
 |cells l=>simp only [vn,dV,Fy]
 |obj o=>rfl
theorem A1 (bs:List Nat):∀(L:List bu),(nf L).map (dV bs)=L.map (dV bs)
 |[]=>rfl
 |o::r=>by simp only [nf,List.map_cons,Oe,A1 bs r]
theorem Fz (n:Nat):∀(l:List aR),na n (rj l)=na n l
 |[]=>rfl
 |v::r=>by cases v<;>simp only [rj,na,u9,Fz n r]
theorem xK (n:Nat):∀(L:List bu),kP n (nf L)=kP n L
 |[]=>rfl
 | .cells l::r=>by simp only [nf,vn,kP,xg,Fz,xK n r]
 | .obj o::r=>by simp only [nf,vn,kP,xg,xK n r]
theorem FA:∀(L:List bu),(nf L).length=L.length
 |[]=>rfl
 |o::r=>by simp only [nf,List.length_cons,FA r]
theorem vx {md:List (Nat×Nat)} {ks:List Nat} {k:Nat} {fr:bJ} {L:List bu} {m:ae} {s:sS} {new:List Nat} (dh:c.bs=b0) (g:Good (b0++new) L m) (h:fits c md ks k fr L m s):
 Good (b0++new.take (k- b0.length)) s.2.1 s.2.2∧fz (bb (b0++new.take (k- b0.length)) s.1) (bb (b0++new) fr)∧(∀b o,bH (b0++new.take (k- b0.length)) s.2.1 s.2.2 b=some o→bH (b0++new) L m b=some o)∧(b0++new.take (k- b0.length)).length=k:=by
 obtain ⟨J,aa⟩:=h
 subst J
 subst dh
 simp only [Bool.and_eq_true] at aa
 obtain ⟨⟨⟨cM,bI⟩,gI⟩,h4⟩:=aa
 have hg:=Nat.le_of_ble_eq_true gI
 have gR:=Nat.le_of_ble_eq_true h4
 have av:=g.len
 have FB:=take_split (new:=new) gR
 have hlen:((c.bs++new).take k).length=k:=by rw [List.length_take];omega
 rw [←FB]
 have FC:(c.bs++new)=(c.bs++new).take k++(c.bs++new).drop k:=(List.take_append_drop _ _).symm
 have jo:bH ((c.bs++new).take k) (nf (L.take k)) m=bH ((c.bs++new).take k) (L.take k) m:=by simp only [bH,hk,A1]
 rw [xK] at bI
 refine ⟨⟨?_,by rw [hlen,FA,List.length_take];omega,fun b ag=>g.fresh b (List.mem_of_mem_take ag)⟩,?_,fun b o ag=>?_,hlen⟩
 · exact g.bN.sublist (List.take_sublist _ _)
 · have e:bb (c.bs++new) (mo c.E md ks fr)=bb ((c.bs++new).take k) (mo c.E md ks fr):=by
    conv=>lhs;rw [FC]
    exact vb (by rw [hlen];exact cM)
   rw [←e]
   exact xJ _ _ _ ks fr
 · simp only at ag
   rw [jo] at ag
   have o5:∀(A:List (Nat×fB)) (aF:ae),(A.map Prod.fst).Nodup→∀b o,aF.bf A b=some o→(∃i,A[i]?=some (b,o))∨(b∉A.map Prod.fst∧aF b=some o):=fun A aF gi b o ag=>by
    by_cases hm:b∈A.map Prod.fst
    · left
      obtain ⟨i,ad⟩:=List.getElem?_of_mem hm
      rw [List.getElem?_map] at ad
      cases dP:A[i]? with
      |none=>rw [dP] at ad;cases ad
      |some p=>
       rw [dP] at ad
       obtain ⟨gG,ei⟩:=p
       simp only [Option.map_some,Option.some.injEq] at ad
       subst ad
       have:=p2 (m:=aF) i gi dP
       rw [this] at ag
       simp only [Option.some.injEq] at ag
       subst ag
       exact ⟨i,dP⟩
    · right
      rw [mn hm] at ag
      exact ⟨hm,ag⟩
   have nh:((hk ((c.bs++new).take k) (L.take k)).map Prod.fst).Nodup:=by
    rw [mZ (by rw [hlen,List.length_take];omega)]
    exact g.bN.sublist (List.take_sublist _ _)
   rcases o5 _ m nh b o ag with ⟨i,ad⟩|⟨ai,aJ⟩
   · have zS:i<k:=by
      rcases Nat.lt_or_ge i k with h|h
      · exact h
      · rw [List.getElem?_eq_none] at ad
        · cases ad
        · simp only [hk,List.length_zip,hlen,List.length_map,List.length_take];omega
     refine p2 i g.nodup ?_
     have e:(L.take k).map (dV (c.bs++new))=(L.take k).map (dV ((c.bs++new).take k)):=by
      conv=>lhs;rw [FC]
      exact Am (by rw [hlen];exact bI)
     have ao:hk ((c.bs++new).take k) (L.take k)=(hk (c.bs++new) L).take k:=by
      simp only [hk,←e,List.map_take,List.zip,List.take_zipWith]
     rw [ao,List.getElem?_take_of_lt zS] at ad
     exact ad
   · by_cases hm:b∈(c.bs++new)
     · rw [g.fresh b hm] at aJ;cases aJ
     · rw [bH,mn (by rw [mZ g.len];exact hm)]
       exact aJ
theorem A2 {bs:List Nat} {t:Nat}:∀{fr:bJ},(bb bs fr).get t=none→eR fr t= .aH .aS
 |[],_=>rfl
 |(s,x)::r,bl=>by
  simp only [bb,Fr.get] at bl
  by_cases e:s=t
  · rw [if_pos e] at bl;cases bl
  · rw [if_neg e] at bl
    have ag:Nat.beq s t=false:=by
     cases ag:Nat.beq s t with
     |false=>rfl
     |true=>exact absurd (Nat.eq_of_beq_eq_true ag) e
    simp only [eR,ag,cond_false]
    exact A2 bl
set_option maxHeartbeats 2000000 in
theorem FD (aV:eX c.P c.T=true) (hm:c.P.follows .mixedOrders=true) (dh:c.bs=b0) {id:Nat} {ops:Array Oper} {draw:Bool} {kn:cE} {kx:Nat→cE} {kr:cE} {fr:bJ} {L:List bu} {m:ae} {new:List Nat} (g:Good (b0++new) L m) (ak:vw c.xs n id ops draw=true)
 (h:sU c id ops.toList draw kn fr L m):de c.P n (.region id ops draw) (hT b0 kn kx kr) (bb (b0++new) fr) (bH (b0++new) L m):=by
 simp only [sU] at h
 have key:qf c id ops.toList draw kn fr L m→de c.P n (.region id ops draw) (hT b0 kn kx kr) (bb (b0++new) fr) (bH (b0++new) L m):=fun h=>
  Fv aV hm dh g ak h fun aZ bF m' ee dr ak=>⟨aZ,bF,m',ee,dr,rfl,rfl,ak⟩
 have A3:xz (fun kn fr L m=>qf c id ops.toList draw kn fr L m) kn fr L m→de c.P n (.region id ops draw) (hT b0 kn kx kr) (bb (b0++new) fr) (bH (b0++new) L m):=fun h=>by
  obtain ⟨qg,J,aa⟩:=h
  refine de.vu (fun e f aF aU=>?_) (Fv (Q:=hT b0 qg kx kr) aV hm dh g ak aa fun aZ bF m' ee dr ak=>⟨aZ,bF,m',ee,dr,rfl,rfl,ak⟩)
  obtain ⟨aZ,bF,m',ee,dr,rfl,rfl,cp⟩:=aU
  cases e with
  |normal=>
   obtain ⟨md,t,e,ks,⟨q,aO,he⟩,cd⟩:=J _ _ _ cp
   refine ⟨bb (b0++ee) ((t, .b (.raw e))::mo 0 md ks aZ),_,?_,fun _ _ h=>h,hT.kq (kn:=kn) (kx:=kx) (kr:=kr) (e:= .normal) dr cd⟩
   intro s x aq
   simp only [bb,Fr.get] at aq
   by_cases es:t=s
   · subst es
     rw [if_pos rfl] at aq
     refine ⟨_,A0 _ aO, .inl ?_⟩
     have:den (b0++ee) (.b (.raw e))=x:=by simpa using aq
     rw [←this]
     simp only [den,bD.val,he]
   · rw [if_neg es] at aq
     exact xJ _ 0 md ks aZ s x aq
  |exit id=>exact ⟨_,_,fz.refl _,fun _ _ h=>h,hT.kq (kn:=kn) (kx:=kx) (kr:=kr) (e:= .exit id) dr cp⟩
  |ret=>exact ⟨_,_,fz.refl _,fun _ _ h=>h,hT.kq (kn:=kn) (kx:=kx) (kr:=kr) (e:= .ret) dr cp⟩
  |_=>exact cp.elim
 have FE:∀p:Prop,(p→de c.P n (.region id ops draw) (hT b0 kn kx kr) (bb (b0++new) fr) (bH (b0++new) L m))→Told fr p→de c.P n (.region id ops draw) (hT b0 kn kx kr) (bb (b0++new) fr) (bH (b0++new) L m):=fun p aU h=>by
  intro F lim w ca st
  refine aU (h.h fun t=>?_) F lim w ca st
  clear aU h A3 key ak
  cases bl:(bb (b0++new) fr).get t with
  |none=>
   have:eR fr t= .aH .aS:=A2 bl
   rw [this]
   simp only [AM,U.plain,uV,pc]
  |some x=>
   have aq:den (b0++new) (eR fr t)=x:=by rw [←ko,bd,bl];rfl
   obtain ⟨os,cP,bW,al⟩:=st
   have au:=(al.ez t x bl).2
   rw [←aq] at au
   cases bn:eR fr t with
   |aH y=>
    rw [bn] at au
    cases y with
    |int dk z=>
     simp only [den,U.plain] at au
     exact (lC au).2
    |slice o l=>
     simp only [den,U.plain] at au
     exact ⟨z8 au,ED au⟩
    |_=>
     have ag:=z8 au
     simp only [den] at ag
     exact ag
   |own l=>
    rw [bn] at au
    simp only [den] at au
    exact ⟨z8 au,ED au⟩
   |_=>simp only [AM]
 cases al:has c.st id with
 |false=>
  cases aA:has c.rb id with
  |false=>rw [al,aA] at h;exact key h
  |true=>rw [al,aA] at h;exact A3 h
 |true=>
  cases aA:has c.rb id with
  |false=>rw [al,aA] at h;exact FE _ key h
  |true=>rw [al,aA] at h;exact FE _ A3 h
set_option maxHeartbeats 2000000 in
theorem nX (aV:eX c.P c.T=true) (hm:c.P.follows .mixedOrders=true) (dh:c.bs=b0):∀(fY:Code) {kn:cE} {kx:Nat→cE} {kr:cE} {fr:bJ} {L:List bu} {m:ae} {new:List Nat},Good (b0++new) L m→mq c.xs n fY=true→
 kR c fY kn kx kr fr L m→de c.P n fY (hT b0 kn kx kr) (bb (b0++new) fr) (bH (b0++new) L m)
 | .skip,kn,kx,kr,fr,L,m,new,g,_,h=>Df (hT.kq g h)
 | .ret,kn,kx,kr,fr,L,m,new,g,_,h=>y8 (hT.kq g h)
 | .exit id,kn,kx,kr,fr,L,m,new,g,_,h=>KH (hT.kq g h)
 | .region id ops draw,kn,kx,kr,fr,L,m,new,g,ak,h=>by
   simp only [mq] at ak
   rw [NB] at h
   cases bn:has c.cv id with
   |false=>
    rw [bn] at h
    exact FD aV hm dh g ak h
   |true=>
    rw [bn] at h
    subst dh
    rcases h.h with h|h
    · refine h.h new g n _ _ fun aZ bF m' gl aU dr cp=>?_
      obtain ⟨ee,rfl⟩:=aU
      exact FD aV hm rfl dr ak cp
    · simp only [vw,Bool.and_eq_true] at ak
      refine h.h new g n _ ak.1.1 fun aZ bF m' gl aU dr cp=>?_
      obtain ⟨ee,rfl⟩:=aU
      exact hT.kq (kn:=kn) (kx:=kx) (kr:=kr) (e:= .normal) dr cp
 | .seq a b,kn,kx,kr,fr,L,m,new,g,ak,h=>by
   simp only [mq,Bool.and_eq_true] at ak
   rw [NC] at h
   refine Dg ?_
   cases ad:AP a with
   |true=>
    rw [ad] at h
    refine de.mono (nX aV hm dh a g ak.1 h) fun e f aF aU=>?_
    obtain ⟨aZ,bF,m',ee,dr,rfl,rfl,cp⟩:=aU
    cases e with
    |normal=>
     exact nX aV hm dh b dr ak.2 cp
    |exit id=>exact hT.kq (kn:=kn) (kx:=kx) (kr:=kr) (e:= .exit id) dr cp
    |ret=>exact hT.kq (kn:=kn) (kx:=kx) (kr:=kr) (e:= .ret) dr cp
    |_=>exact cp.elim
   |false=>
    rw [ad] at h
    obtain ⟨qg,J,aa⟩:=h
    refine de.mono (nX aV hm dh a g ak.1 aa) fun e f aF aU=>?_
    obtain ⟨aZ,bF,m',ee,dr,rfl,rfl,cp⟩:=aU
    cases e with
    |normal=>
     rcases J _ _ _ cp with ai|⟨md,ks,k,s,ai,aJ⟩
     · exact nX aV hm dh b dr ak.2 ai
     · obtain ⟨g1,hle,o5,_⟩:=vx dh dr ai
       exact de.less hle (de.Ft o5 (nX aV hm dh b g1 ak.2 aJ))
    |exit id=>exact hT.kq (kn:=kn) (kx:=kx) (kr:=kr) (e:= .exit id) dr cp
    |ret=>exact hT.kq (kn:=kn) (kx:=kx) (kr:=kr) (e:= .ret) dr cp
    |_=>exact cp.elim
 | .cond q x y,kn,kx,kr,fr,L,m,new,g,ak,h=>by
   simp only [mq,Bool.and_eq_true] at ak
   rw [ND] at h
   obtain ⟨v,J,e⟩:=e0 (b0++new) h
   split at J
   · rename_i s
     obtain ⟨fD,jS⟩:=s.u4 J
     simp only [den] at e
     exact za (b:=s.val) (by rw [←uh,←e]) ak.1.1 (fun bn=>nX aV hm dh x g ak.1.2 (fD bn)) (fun bn=>nX aV hm dh y g ak.2 (jS bn))
   · exact J.elim
 | .block id body,kn,kx,kr,fr,L,m,new,g,ak,h=>by
   simp only [mq] at ak
   rw [NF] at h
   refine KI ?_
   refine de.mono (nX aV hm dh body g ak h) fun e f aF aU=>?_
   obtain ⟨aZ,bF,m',ee,dr,rfl,rfl,cp⟩:=aU
   cases e with
   |normal=>exact hT.kq (kn:=kn) (kx:=kx) (kr:=kr) (e:= .normal) dr cp
   |exit j=>
    simp only [y6]
    simp only at cp
    by_cases A4:j=id
    · subst A4
      rw [Nat.beq_refl] at cp
      rw [if_pos rfl]
      exact hT.kq (kn:=kn) (kx:=kx) (kr:=kr) (e:= .normal) dr cp
    · rw [if_neg A4]
      have:Nat.beq j id=false:=by
       cases ag:Nat.beq j id with
       |false=>rfl
       |true=>exact absurd (Nat.eq_of_beq_eq_true ag) A4
      rw [this] at cp
      exact hT.kq (kn:=kn) (kx:=kx) (kr:=kr) (e:= .exit j) dr cp
   |ret=>exact hT.kq (kn:=kn) (kx:=kx) (kr:=kr) (e:= .ret) dr cp
   |_=>exact cp.elim
 | .loop body,kn,kx,kr,fr,L,m,new,g,ak,h=>by
   simp only [mq] at ak
   rw [NG] at h
   obtain ⟨σ,S,fO,mm,md,ks,k,k7,aG,ay,J⟩:=h
   obtain ⟨g1,hle,o5,hlen⟩:=vx dh g aG
   refine de.less hle (de.Ft o5 ?_)
   · refine Ml (σ:=σ×List Nat) (fun x=>bb (b0++x.2) (S x.1).1) (fun x=>bH (b0++x.2) (S x.1).2.1 (S x.1).2.2) (fun x=>fO x.1∧Good (b0++x.2) (S x.1).2.1 (S x.1).2.2) (fun x=>mm x.1) ⟨k7,new.take (k k7- b0.length)⟩ rfl rfl ⟨ay,g1⟩ fun x aq=>?_
     have aa:=J x.1 aq.1
     rw [gJ,gJ] at aa
     refine de.vu (fun e f aF aU=>?_) (nX aV hm dh body aq.2 ak aa)
     obtain ⟨aZ,bF,m',ee,dr,rfl,rfl,cp⟩:=aU
     cases e with
     |normal=>
      obtain ⟨bX,f1,f2,f3⟩:=cp
      obtain ⟨g2,Of,Og,EJ⟩:=vx dh dr f1
      exact ⟨_,_,Of,Og,⟨bX,ee.take (k bX- b0.length)⟩,rfl,rfl,⟨f2,g2⟩,f3⟩
     |exit id=>exact ⟨_,_,fz.refl _,fun _ _ h=>h,hT.kq (kn:=kn) (kx:=kx) (kr:=kr) (e:= .exit id) dr cp⟩
     |ret=>exact ⟨_,_,fz.refl _,fun _ _ h=>h,hT.kq (kn:=kn) (kx:=kx) (kr:=kr) (e:= .ret) dr cp⟩
     |_=>exact cp.elim
 | .scope _,_,_,_,_,_,_,_,_,ak,_=>by cases ak
 | .label _,_,_,_,_,_,_,_,_,ak,_=>by cases ak
 | .goto _,_,_,_,_,_,_,_,_,ak,_=>by cases ak
 | .refuse _,_,_,_,_,_,_,_,_,ak,_=>by cases ak
 | .rangeFunc _ _ _ _,_,_,_,_,_,_,_,_,ak,_=>by cases ak
end
end Go.bU
end
section
namespace Go.bU
open Go Go.ba
section
variable {c:fy} {n:Nat} {b:List Nat} {fr:bJ} {L:List bu} {m:ae}
theorem oC (aV:eX c.P c.T=true) (g:Good b L m) {r:ResultVar} {k:aR→Prop} (h:xA c.T fr L r k):∃v side x,k v∧kK c.P (bb b fr) (bH b L m) r=some (side,x)∧side∧x=den b v:=by
 cases r with
 |tmp t=>
  simp only [xA] at h
  rw [k6] at h
  exact ⟨_,True,_,h,by simp only [kK,ko],trivial,rfl⟩
 |cell a t=>
  simp only [xA] at h
  rw [k6] at h
  have au:=ko b fr a
  cases bn:eR fr a with
  |loc i off=>
   rw [bn] at h au
   simp only [den] at h au
   cases aL:nth L i with
   |none=>rw [aL] at h;exact h.elim
   |some o=>
    rw [aL] at h
    cases o with
    |obj o=>exact h.elim
    |cells l=>
     obtain ⟨dp,cO,h⟩:=dT aV h
     rw [ig] at aL
     have hm:=kp g aL
     have aO:kK c.P (bb b fr) (bH b L m) (.cell a t)=some (jJ c.P t (bm b l) off,(apart c.P t (bm b l) off).plain):=by simp only [kK,au,hm,dV]
     cases db:dp.k.hR with
     |true=>
      rw [db] at h
      obtain ⟨ag,h⟩:=dN.1 h
      obtain ⟨u,h,hu⟩:=sy b h
      exact ⟨_,_,_,h,aO,sL cO db (by rw [ju];exact Nat.le_of_ble_eq_true ag),by rw [sJ cO db];simp only [den,U.plain,hu,AH,AG]⟩
     |false=>
      rw [db] at h
      simp only at h
      cases aI:nth l off with
      |none=>rw [aI] at h;exact h.elim
      |some v=>
       rw [aI] at h
       obtain ⟨u,h,hu⟩:=mX b h
       obtain ⟨aC,cl⟩:=p9 (bs:=b) aI
       exact ⟨_,_,_,h,aO,sM cO db cl,by rw [sK cO db,aC,hu]⟩
  |_=>rw [bn] at h;exact h.elim
theorem sZ (aV:eX c.P c.T=true) {b0 new:List Nat} (dh:c.bs=b0) (g:Good (b0++new) L m) {fn:Func} (aJ:fn.results.toList.length≤4) {K:U→ae→Prop} (h:xB c.T fr L fn.results.toList fun vs=>sW c K vs L m):qT c.P fn (bb (b0++new) fr) (bH (b0++new) L m) K:=by
 subst dh
 unfold qT
 generalize fn.results.toList=rs at h aJ ⊢
 match rs,h with
 |[],h=>
  obtain ⟨m',J,aa⟩:=h.h new g
  exact ⟨m',J,aa⟩
 |[r],h=>
  obtain ⟨v,wS,x,h,aM,s1,rfl⟩:=oC aV g h
  obtain ⟨m',J,aa⟩:=h.h new g
  simp only [aM]
  exact ⟨s1,m',J,aa⟩
 |[r,s],h=>
  obtain ⟨v,wS,x,h,aM,s1,rfl⟩:=oC aV g h
  obtain ⟨v2,FF,A5,h,aC,s2,rfl⟩:=oC aV g h
  obtain ⟨m',J,aa⟩:=h.h new g
  simp only [aM,aC]
  exact ⟨s1,s2,m',J,aa⟩
 |[r,s,t],h=>
  obtain ⟨v,wS,x,h,aM,s1,rfl⟩:=oC aV g h
  obtain ⟨v2,FF,A5,h,aC,s2,rfl⟩:=oC aV g h
  obtain ⟨v3,Oh,FG,h,c8,mR,rfl⟩:=oC aV g h
  obtain ⟨m',J,aa⟩:=h.h new g
  simp only [aM,aC,c8]
  exact ⟨s1,s2,mR,m',J,aa⟩
 |[r,s,t,u],h=>
  obtain ⟨v,wS,x,h,aM,s1,rfl⟩:=oC aV g h
  obtain ⟨v2,FF,A5,h,aC,s2,rfl⟩:=oC aV g h
  obtain ⟨v3,Oh,FG,h,c8,mR,rfl⟩:=oC aV g h
  obtain ⟨v4,Uy,Uz,h,fQ,FH,rfl⟩:=oC aV g h
  obtain ⟨m',J,aa⟩:=h.h new g
  simp only [aM,aC,c8,fQ]
  exact ⟨s1,s2,mR,FH,m',J,aa⟩
 |r::s::t::u::q::rest,h=>simp at aJ
theorem FI:∀(l:List Nat) (t:Nat),has l t=l.contains t
 |[],t=>rfl
 |x::r,t=>by
  simp only [has,List.contains_cons]
  cases ag:Nat.beq x t with
  |true=>obtain rfl:=Nat.eq_of_beq_eq_true ag;simp
  |false=>
   have:¬t=x:=fun e=>by subst e;rw [Nat.beq_refl] at ag;cases ag
   simp [this,FI r t]
theorem A6 (E:Nat) (cT:List Nat):∀(fr:bJ),bb b (xC E cT fr)=Fr.toErr E cT (bb b fr)
 |[]=>rfl
 |(t,v)::r=>by
  simp only [xC,bb,Fr.toErr,List.map_cons,FI]
  have:=A6 E cT r
  simp only [Fr.toErr] at this
  rw [this]
  cases ar:cT.contains t<;>simp [Fw]
theorem FJ {P:Program} {fY:Code} {Q hH:Exit→Fr→ae→Prop} {f:Fr} {aF:ae} (E:Nat) (cT:List Nat) (aO:∀e f m,Q e f m→hH e f m∨hH e (f.toErr E cT) m) (h:de P n fY Q f aF):de P n fY hH f aF:=fun F lim w ca st=>
 wp_mono (h F lim w ca st) fun e _ _ ⟨l,f,aF,q,fq,dQ⟩=>by
  rcases aO e f aF q with q|q
  · exact ⟨l,f,aF,q,fq,dQ⟩
  · refine ⟨l,_,aF,q,fq.conv fun t bX aq=>?_,dQ⟩
    rw [Fr.Mv] at aq
    cases ar:cT.contains t with
    |false=>rw [ar] at aq;exact ⟨bX,by simpa using aq,fun _ _ h=>h⟩
    |true=>
     rw [ar] at aq
     simp only [if_true] at aq
     cases bl:f.get t with
     |none=>rw [bl] at aq;cases aq
     |some y=>
      rw [bl] at aq
      simp only [Option.map_some,Option.some.injEq] at aq
      subst aq
      exact ⟨y,rfl,fun v os h=>toErr_rep E h⟩
def cu (c:List Nat) (fn:Func) (fY:Code) (k:Nat):Bool:=!(fn.name== "runtime.NumGoroutine")&&Nat.ble k fn.ntmps&&mq c fn.ntmps fY&&Nat.ble fn.results.size 4
theorem A7 (b:List Nat):∀(i:Nat) (vs:List aR),bb b (sV i vs)=Fr.init i (bm b vs)
 |_,[]=>by simp only [sV,bb,bm,Fr.init]
 |i,v::r=>by simp only [sV,bb,bm,Fr.init,A7 b (i+1) r]
theorem enter {f:FuncId} {fn:Func} {fY:Code} {vs:List aR} {K:U→ae→Prop} (e:Bool) (aV:eX c.P c.T=true) (hm:c.P.follows .mixedOrders=true) (aN:c.P.funcs[f]?=some fn) (ag:fn.body=some fY) {k:Nat} (bL:cu c.xs fn fY k=true) (av:vs.length=k) (g:Good c.bs L m)
 (h:kR c fY (sX c false fn.results.toList K) (fun _ _ _ _=>False) (sX c e fn.results.toList K) (sV 0 vs) L m):bg c.P f (bm c.bs vs) (bH c.bs L m) K:=by
 simp only [cu,Bool.and_eq_true,Bool.not_eq_true'] at bL
 obtain ⟨⟨⟨h5,hU⟩,ni⟩,rm⟩:=bL
 refine D1 aN ag h5 (by rw [ju,av];exact Nat.le_of_ble_eq_true hU) ?_
 have:=nX (b0:=c.bs) (new:=[]) aV hm rfl fY (by rw [List.append_nil];exact g) ni h
 rw [List.append_nil,A7] at this
 refine FJ c.E (vo fn.results.toList) (fun ex f aF aU=>?_) this
 obtain ⟨aZ,bF,m',ee,dr,rfl,rfl,cp⟩:=aU
 cases ex with
 |normal=>exact .inl (sZ aV rfl dr (by simpa using Nat.le_of_ble_eq_true rm) cp)
 |exit id=>exact cp.elim
 |ret=>
  simp only [sX] at cp
  cases e with
  |false=>exact .inl (sZ aV rfl dr (by simpa using Nat.le_of_ble_eq_true rm) cp)
  |true=>
   simp only at cp
   rw [gJ] at cp
   right
   rw [←A6]
   exact sZ aV rfl dr (by simpa using Nat.le_of_ble_eq_true rm) cp
 |_=>exact cp.elim
theorem rt {K:U→ae→Prop} {vs:List aR} (al:(kP c.bs.length (L.take c.bs.length)&&Nat.ble c.bs.length L.length)=true) (h:∀new,K (xD (c.bs++new) vs) (bH c.bs (L.take c.bs.length) m)):sW c K vs L m:=⟨fun new g=>by
 simp only [Bool.and_eq_true] at al
 have:=vx (c:=c) (md:=[]) (ks:=[]) (k:=c.bs.length) (fr:=[]) (s:=([],nf (L.take c.bs.length),m)) rfl g ⟨rfl,by simp only [nb,Bool.true_and,Bool.and_eq_true,xK];exact ⟨⟨al.1,al.2⟩,Nat.ble_eq_true_of_le (Nat.le_refl _)⟩⟩
 simp only [Nat.sub_self,List.take_zero,List.append_nil] at this
 have jo:bH c.bs (nf (L.take c.bs.length)) m=bH c.bs (L.take c.bs.length) m:=by simp only [bH,hk,A1]
 rw [jo] at this
 exact ⟨_,this.2.2.1,h new⟩⟩
theorem bh {K:U→ae→Prop} {vs:List aR} (ag:c.bs=[]) (h:∀new,K (xD new vs) m):sW c K vs L m:=⟨fun new g=>by
 rw [ag,List.nil_append] at g ⊢
 refine ⟨m,fun b o A8=>?_,h new⟩
 by_cases hm:b∈new
 · rw [g.fresh b hm] at A8;cases A8
 · rw [bH,mn (by rw [mZ g.len];exact hm)]
   exact A8⟩
theorem FK {K:U→ae→Prop} {vs:List aR} (h:∀new,Good (c.bs++new) L m→K (xD (c.bs++new) vs) (bH (c.bs++new) L m)):sW c K vs L m:=⟨fun new g=>⟨_,fun _ _ h=>h,h new g⟩⟩
theorem b2 {b0:List Nat} {P:Program} {f:FuncId} {vs:List aR} {x:U} {Q:aR→List bu→ae→Prop} (h:∀bs (aF:ae) (K:U→ae→Prop),K x aF→bg P f (bm bs vs) aF K) (aU:x.plain=x) (e7:Q (p6 x) L m):nd P b0 f vs fr L m Q:=
 .one (p6 x) L m (fun new _ K ab=>h _ _ K (by
   have:=ab []
   simp only [List.append_nil,p7,aU] at this
   exact this (by assumption))) (by rw [Nat.beq_refl];rfl) e7
theorem ih {b0:List Nat} {P:Program} {f:FuncId} {vs:List aR} {x:U} {Q:aR→Prop} (h:∀bs (aF:ae) (K:U→ae→Prop),K x aF→bg P f (bm bs vs) aF K) (e7:Q (p6 x)):E8 P b0 f vs L m Q:=
 ⟨p6 x,fun new _=>⟨x,fun K ab=>h _ _ K ab,by rw [p7]⟩,e7⟩
theorem ah {p q:Prop} (aU:p) (aO:q):p∧q:=⟨aU,aO⟩
theorem Good.nil (m:ae):Good [] [] m:=⟨List.nodup_nil,rfl,fun _ h=>by cases h⟩
structure eF (bs:List Nat) (m:ae):Prop where
 bN:bs.Nodup
 fresh:∀b∈bs,m b=none
theorem eF.hn {bs:List Nat} (g:eF bs m) (h:bs.length=L.length):Good bs L m:=⟨g.bN,h,g.fresh⟩
theorem eF.nil (m:ae):eF [] m:=⟨List.nodup_nil,fun _ h=>by cases h⟩
def ij (bs:List Nat):List Nat→List Nat
 |[]=>[]
 |i::r=>bs.getD i 0::ij bs r
def mr (L:List bu):List Nat→List bu
 |[]=>[]
 |i::r=>
  match nth L i with
  |some o=>o::mr L r
  |none=> .obj (.cells [])::mr L r
def jw:List bu→List Nat→List bu→List bu
 |L,[],_=>L
 |L,_::_,[]=>L
 |L,i::r,o::os=>jw (L.set i o) r os
def k8 (bs:List Nat) (is:List Nat) (os:List bu):List (Nat×fB):=(ij bs is).zip (os.map (dV bs))
def isOk (n:Nat):List Nat→Bool
 |[]=>true
 |i::r=>Nat.ble (i+1) n&&!(has r i)&&isOk n r
theorem FL:∀{l:List Nat} {t:Nat},has l t=true↔t∈l
 |[],t=>by simp [has]
 |x::r,t=>by
  simp only [has,List.mem_cons]
  cases ag:Nat.beq x t with
  |true=>obtain rfl:=Nat.eq_of_beq_eq_true ag;simp
  |false=>
   have:¬t=x:=fun e=>by subst e;rw [Nat.beq_refl] at ag;cases ag
   simp [this,FL (l:=r)]
theorem FM (bs:List Nat):∀(is:List Nat),(ij bs is).length=is.length
 |[]=>rfl
 |i::r=>by simp only [ij,List.length_cons,FM bs r]
theorem s0 (L:List bu):∀(is:List Nat),(mr L is).length=is.length
 |[]=>rfl
 |i::r=>by
  simp only [mr]
  split<;>simp only [List.length_cons,s0 L r]
theorem getD_inj {bs:List Nat} (h:bs.Nodup) {i j:Nat} (ad:i<bs.length) (aA:j<bs.length) (e:bs.getD i 0=bs.getD j 0):i=j:=by
 rw [List.getD_eq_getElem?_getD,List.getD_eq_getElem?_getD,List.getElem?_eq_getElem ad,List.getElem?_eq_getElem aA] at e
 exact (List.getElem_inj h).1 e
theorem s3 {bs:List Nat}:∀{is:List Nat} {b:Nat},b∈ij bs is→∃i∈is,b=bs.getD i 0
 |[],_,h=>by cases h
 |i::r,b,h=>by
  simp only [ij,List.mem_cons] at h
  rcases h with rfl|h
  · exact ⟨i,List.mem_cons_self ..,rfl⟩
  · obtain ⟨j,aA,e⟩:=s3 h
    exact ⟨j,List.mem_cons_of_mem _ aA,e⟩
theorem FN {bs:List Nat}:∀{is:List Nat} {i:Nat},i∈is→bs.getD i 0∈ij bs is
 |[],_,h=>by cases h
 |a::r,i,h=>by
  simp only [ij,List.mem_cons]
  rcases List.mem_cons.1 h with rfl|h
  · exact .inl rfl
  · exact .inr (FN h)
theorem s4 {n:Nat}:∀{is:List Nat},isOk n is=true→(∀i∈is,i<n)∧is.Nodup
 |[],_=>⟨by simp,List.nodup_nil⟩
 |i::r,h=>by
  simp only [isOk,Bool.and_eq_true,Bool.not_eq_true'] at h
  obtain ⟨⟨J,aa⟩,ai⟩:=h
  obtain ⟨aJ,aY⟩:=s4 ai
  refine ⟨fun j aA=>?_,?_⟩
  · rcases List.mem_cons.1 aA with rfl|aA
    · exact Nat.le_of_ble_eq_true J
    · exact aJ j aA
  · rw [List.nodup_cons]
    refine ⟨fun hm=>?_,aY⟩
    rw [FL.2 hm] at aa;cases aa
theorem vy {bs:List Nat} (aI:bs.Nodup):∀{is:List Nat},isOk bs.length is=true→(ij bs is).Nodup
 |[],_=>List.nodup_nil
 |i::r,h=>by
  have aG:=s4 h
  simp only [isOk,Bool.and_eq_true,Bool.not_eq_true'] at h
  obtain ⟨⟨J,aa⟩,ai⟩:=h
  simp only [ij,List.nodup_cons]
  refine ⟨fun hm=>?_,vy aI ai⟩
  obtain ⟨j,aA,e⟩:=s3 hm
  have:=getD_inj aI (aG.1 i (List.mem_cons_self ..)) (aG.1 j (List.mem_cons_of_mem _ aA)) e
  subst this
  exact (List.nodup_cons.1 aG.2).1 aA
theorem qh:∀{is:List Nat} {L os:List bu},(jw L is os).length=L.length
 |[],_,_=>by simp only [jw]
 |_::_,_,[]=>by simp only [jw]
 |i::r,L,o::os=>by rw [jw,qh,List.length_set]
def rn (aF:ae) (S:List Nat):ae:=fun b=>if b∈S then none else aF b
theorem A9 {bs:List Nat} {is:List Nat} {os:List bu} {aF:ae} (gi:(ij bs is).Nodup) (av:is.length=os.length) {j i:Nat} {o:bu} (aA:is[j]?=some i) (aL:os[j]?=some o):aF.bf (k8 bs is os) (bs.getD i 0)=some (dV bs o):=by
 have ag:(ij bs is)[j]?=some (bs.getD i 0):=by
  clear gi av aL
  induction is generalizing j with
  |nil=>cases aA
  |cons a r aQ=>
   cases j with
   |zero=>simp only [List.getElem?_cons_zero,Option.some.injEq] at aA;subst aA;rfl
   |succ j=>simp only [ij,List.getElem?_cons_succ] at aA ⊢;exact aQ aA
 refine p2 j ?_ ?_
 · rw [k8,List.map_fst_zip (by rw [FM,List.length_map];omega)];exact gi
 · simp only [k8,List.zip,List.getElem?_zipWith,ag,List.getElem?_map,aL,Option.map_some]
theorem Ba {bs:List Nat} {is:List Nat} {os:List bu} {aF:ae} {b:Nat} (h:b∉ij bs is):aF.bf (k8 bs is os) b=aF b:=by
 refine mn fun hm=>h ?_
 obtain ⟨p,aU,rfl⟩:=List.mem_map.1 hm
 exact (List.of_mem_zip aU).1
theorem Bb:∀{is:List Nat} {L os:List bu},is.Nodup→(∀i∈is,i<L.length)→is.length=os.length→(∀(j i:Nat) (o:bu),is[j]?=some i→os[j]?=some o→(jw L is os)[i]?=some o)∧∀(i:Nat),i∉is→(jw L is os)[i]?=L[i]?
 |[],L,os,_,_,_=>⟨fun j i o h=>(by simp at h),fun _ _=>by simp only [jw]⟩
 |_::_,_,[],_,_,av=>by cases av
 |a::r,L,p::os,aI,cl,av=>by
  obtain ⟨J,aa⟩:=Bb (is:=r) (L:=L.set a p) (os:=os) (List.nodup_cons.1 aI).2 (fun i ad=>by rw [List.length_set];exact cl i (List.mem_cons_of_mem _ ad)) (by simpa using av)
  refine ⟨fun j i o aA aL=>?_,fun i ad=>?_⟩
  · cases j with
    |zero=>
     simp only [List.getElem?_cons_zero,Option.some.injEq] at aA aL
     subst aA;subst aL
     rw [jw,aa a (List.nodup_cons.1 aI).1]
     simp [cl a (List.mem_cons_self ..)]
    |succ j=>exact J j i o aA aL
  · rw [jw,aa i (fun h=>ad (List.mem_cons_of_mem _ h))]
    have:a≠i:=fun e=>ad (e▸List.mem_cons_self ..)
    simp [this]
theorem FO (L:List bu):∀{is:List Nat} {j i:Nat},is[j]?=some i→i<L.length→(mr L is)[j]?=L[i]?
 |[],_,_,h,_=>by cases h
 |a::r,j,i,h,ad=>by
  have aI:nth L a=L[a]?:=ig L a
  cases j with
  |zero=>
   simp only [List.getElem?_cons_zero,Option.some.injEq] at h
   subst h
   simp only [mr,aI,List.getElem?_eq_getElem ad,List.getElem?_cons_zero]
  |succ j=>
   simp only [List.getElem?_cons_succ] at h
   have:=FO L h ad
   simp only [mr]
   split<;>simpa using this
theorem s5 {bs:List Nat} {os:List bu} (g:Good bs L m) {is:List Nat} (ad:isOk L.length is=true) (av:is.length=os.length):bH bs (jw L is os) m=(rn (bH bs L m) (ij bs is)).bf (k8 bs is os):=by
 obtain ⟨J,aa⟩:=s4 ad
 have gi:=vy g.bN (by rw [g.len];exact ad)
 obtain ⟨s1,s2⟩:=Bb (L:=L) aa J av
 have g2:Good bs (jw L is os) m:=⟨g.bN,by rw [qh];exact g.len,g.fresh⟩
 funext b
 by_cases ag:b∈ij bs is
 · obtain ⟨i,Bc,rfl⟩:=s3 ag
   obtain ⟨j,aA⟩:=List.getElem?_of_mem Bc
   have xL:j<os.length:=by
    rcases Nat.lt_or_ge j is.length with h|h
    · omega
    · rw [List.getElem?_eq_none h] at aA;cases aA
   rw [A9 gi av aA (List.getElem?_eq_getElem xL),kp g2 (s1 j i _ aA (List.getElem?_eq_getElem xL))]
 · rw [Ba ag,rn,if_neg ag]
   by_cases Bd:b∈bs
   · obtain ⟨i,ie⟩:=List.getElem?_of_mem Bd
     have Oi:i<bs.length:=by
      rcases Nat.lt_or_ge i bs.length with h|h
      · exact h
      · rw [List.getElem?_eq_none h] at ie;cases ie
     have e:b=bs.getD i 0:=by rw [List.getD_eq_getElem?_getD,ie];rfl
     subst e
     have vi:i∉is:=fun h=>ag (FN h)
     have FP:i<L.length:=by rw [←g.len];exact Oi
     rw [kp g (List.getElem?_eq_getElem FP),kp g2 (by rw [s2 i vi];exact List.getElem?_eq_getElem FP)]
   · rw [bH,mn (by rw [mZ g2.len];exact Bd),bH,mn (by rw [mZ g.len];exact Bd)]
theorem Be:∀{is:List Nat} {L:List bu},isOk L.length is=true→jw L is (mr L is)=L:=fun {is L} ad=>by
 obtain ⟨J,aa⟩:=s4 ad
 obtain ⟨s1,s2⟩:=Bb (L:=L) aa J (s0 L is).symm
 apply List.ext_getElem?
 intro i
 by_cases h:i∈is
 · obtain ⟨j,aA⟩:=List.getElem?_of_mem h
   have e:=FO L aA (J i h)
   rw [List.getElem?_eq_getElem (J i h)] at e
   rw [s1 j i _ aA e,List.getElem?_eq_getElem (J i h)]
 · exact s2 i h
theorem gn {b0:List Nat} {P:Program} {f:FuncId} {vs:List aR} {Q:aR→List bu→ae→Prop} (is:List Nat) (os:List bu) (y:aR) (ad:(isOk L.length is&&Nat.beq is.length os.length)=true)
 (h:∀bs (aF:ae),eF (ij bs is) aF→∀(K:U→ae→Prop),K (den bs y) (aF.bf (k8 bs is os))→bg P f (bm bs vs) (aF.bf (k8 bs is (mr L is))) K) (e7:Q y (jw L is os) m):nd P b0 f vs fr L m Q:=by
 simp only [Bool.and_eq_true] at ad
 refine .one y (jw L is os) m (fun new g K ab=>?_) (by rw [qh,Nat.beq_refl];rfl) e7
 have gi:=vy g.bN (by rw [g.len];exact ad.1)
 have aM:=s5 g ad.1 (s0 L is).symm
 rw [Be ad.1] at aM
 rw [aM]
 refine h (b0++new) _ ⟨gi,fun b ag=>by simp [rn,ag]⟩ K ?_
 have:=ab [] (by rw [List.append_nil];exact ⟨g.bN,by rw [qh];exact g.len,g.fresh⟩)
 rw [List.append_nil,s5 g ad.1 (Nat.eq_of_beq_eq_true ad.2)] at this
 exact this
abbrev aj (n:Int):aR:= .aH (.int .i64 n)
abbrev aw (s:List UInt8):aR:= .aH (.str s)
abbrev eY (b:Bool):aR:= .b (.raw b)
abbrev an (l:List U):aR:= .aH (.slice false l)
end
end Go.bU
end
section
namespace Go.ba
open Go
section
variable {P:Program} {F:Nat→Prop} {lim:Nat→Nat} {w:World} {n:Nat} {fr:Fr} {m:ae} {ca:Act} {bE:List Nat}
theorem Oj {cargs:Array Value} (h:cargs.size=1):∃x,cargs=#[x]:=by
 match cargs,h with
 |⟨[x]⟩,_=>exact ⟨x,rfl⟩
set_option maxHeartbeats 1000000 in
end
end Go.ba
end
section
namespace Go.ba
open Go
section
variable {P:Program} {F:Nat→Prop} {lim:Nat→Nat} {w:World} {n:Nat} {fr:Fr} {m:ae} {ca:Act} {bE:List Nat}
theorem bc.drew (st:bc F lim w n fr m ca bE):bc F lim w.drew n fr m ca bE:=st.heap rfl
set_option maxHeartbeats 1000000 in
end
end Go.ba
end
section
namespace Go.bU
open Go Go.ba
section
variable {c:fy} {L:List bu} {fr:bJ} {m:ae}
theorem xM {b0:List Nat} {P:Program} {f:FuncId} {vs:List aR} {Q:aR→List bu→ae→Prop} (is:List Nat) (os:List bu) (y:aR) (ad:(isOk L.length is&&Nat.beq is.length os.length)=true)
 (h:∀bs (aF:ae),eF (ij bs is) aF→(∀b o,m b=some o→aF b=some o)→∀(K:U→ae→Prop),K (den bs y) (aF.bf (k8 bs is os))→bg P f (bm bs vs) (aF.bf (k8 bs is (mr L is))) K) (e7:Q y (jw L is os) m):nd P b0 f vs fr L m Q:=by
 simp only [Bool.and_eq_true] at ad
 refine .one y (jw L is os) m (fun new g K ab=>?_) (by rw [qh,Nat.beq_refl];rfl) e7
 have gi:=vy g.bN (by rw [g.len];exact ad.1)
 have aM:=s5 g ad.1 (s0 L is).symm
 rw [Be ad.1] at aM
 rw [aM]
 refine h (b0++new) _ ⟨gi,fun b ag=>by simp [rn,ag]⟩ (fun b o ag=>?_) K ?_
 · have J:b∉b0++new:=fun hm=>by rw [g.fresh b hm] at ag;cases ag
   have aa:b∉ij (b0++new) is:=fun hm=>by
    obtain ⟨i,ie,e⟩:=s3 hm
    have cl:=(s4 ad.1).1 i ie
    rw [←g.len] at cl
    apply J
    rw [e,List.getD_eq_getElem?_getD,List.getElem?_eq_getElem cl]
    exact List.getElem_mem _
   simp only [rn,if_neg aa,bH]
   rw [mn (by rw [mZ g.len];exact J)]
   exact ag
 · have:=ab [] (by rw [List.append_nil];exact ⟨g.bN,by rw [qh];exact g.len,g.fresh⟩)
   rw [List.append_nil,s5 g ad.1 (Nat.eq_of_beq_eq_true ad.2)] at this
   exact this
end
end Go.bU
namespace Go.ba
open Go
section
variable {P:Program} {F:Nat→Prop} {lim:Nat→Nat} {w:World} {n:Nat} {fr:Fr} {m:ae} {ca:Act} {bE:List Nat}
theorem bc.grow (st:bc F lim w n fr m ca bE) (os:Array Obj) (k:Nat):bc F lim (Sort.grow (w.drewN k) os) n fr m ca bE:=by
 have aT:(w.drewN k).heap=w.heap:=by simp
 have av:∀c,c<w.heap.size→(Sort.grow (w.drewN k) os).heap[c]?=w.heap[c]?:=fun c ar=>by
  simp only [Sort.grow,aT]
  rw [Array.getElem?_append_left ar]
 have aN:∀c,w.heap.size≤c→lim c=0:=fun c ar=>by
  obtain ⟨_,_,_,s⟩:=st
  exact (s.fresh c ar).1
 have hm:∀b,m b≠none→b<w.heap.size:=fun b ag=>st.oW ag
 have jH:∀b o,o<lim b→b<w.heap.size:=fun b o aL=>st.qE aL
 refine st.world (by simp [Sort.grow]) (fun _=>Nat.le_refl _) (fun b o aL=>by simp [World.cell?,av b (jH b o aL)]) (fun c ar=> .inr ⟨av c ar,rfl⟩) (fun b ag=>⟨av b (hm b ag),rfl⟩) (fun c ar=>aN c (by simp [Sort.grow] at ar;omega))
def Ol (e:TypeId) (z:Nat×Nat) (k:IntKind) (aW:List Int):fB:= .mK e z (aW.map (Value.int k)).toArray
end
end Go.ba
end
section
namespace Go.ba
open Go
inductive ho:U→Prop
 |bool (b:Bool):ho (.bool b)
 |int (k:IntKind) (n:Int) (h:k≠ .u64):ho (.int k n)
 |str (s:List UInt8):ho (.str s)
 |slice (l:List U) (J:∀x∈l,x.cells≠[]) (h:∀x∈l,∀y∈x.cells,ho y):ho (.slice false l)
 |agg (l:List U) (h:∀y∈l,ho y):ho (.agg l)
theorem Om {w:World} {lim:Nat→Nat} {n:Int} {x:U} {os:List Nat} (h:aP w lim (.int .u64 n) x os) (aq:ho x):False:=by
 cases aq with
 |bool b=>cases h
 |int k m ak=>
  cases h with
  |int=>exact ak rfl
 |str s=>cases h
 |slice l xN av=>cases h
 |agg l av=>cases h
section
variable {P:Program}
end
end Go.ba
end
section
namespace Go.bU
open Go Go.ba
def qi (m' m:ae):Prop:=∀b ei,m' b=some ei→∃o,m b=some o∧(ei=o∨∃l bC,o= .cells l∧ei= .cells bC∧bC.length=l.length∧∀i,j5 (bC.getD i .aS) (l.getD i .aS))
section
variable {P:Program} {F:Nat→Prop} {lim:Nat→Nat} {w:World} {n:Nat} {fr:Fr} {m m':ae} {ca:Act} {bE:List Nat}
theorem bc.oD (st:ba.bc F lim w n fr m ca bE) (al:qi m' m):ba.bc F lim w n fr m' ca bE:=by
 classical
 obtain ⟨os,cP,bW,h⟩:=st
 let p:Nat→Nat→Prop:=fun b i=>m' b=m b∨∃l bC,m b=some (.cells l)∧m' b=some (.cells bC)∧bC.getD i .aS=l.getD i .aS
 have aI:∀b,m b=none→m' b=none:=fun b ag=>by
  cases fv:m' b with
  |none=>rfl
  |some o=>obtain ⟨hU,aa,_⟩:=al b o fv;rw [ag] at aa;cases aa
 refine ⟨os,fun b i=>if p b i then cP b i else [],bW,h.size,h.defers,h.ez,fun b ei ag=>?_,h.fc,fun b ei ag i=>?_,h.fW,fun c ar=>⟨(h.free c ar).1,aI c (h.free c ar).2.1,(h.free c ar).2.2⟩,fun b ag=>⟨(h.fresh b ag).1,(h.fresh b ag).2.1,aI b (h.fresh b ag).2.2⟩⟩
 · obtain ⟨o,aL,au⟩:=al b ei ag
   obtain ⟨gY,aa,ai⟩:=h.mem b o aL
   refine ⟨?_,aa,ai⟩
   rcases au with rfl|⟨l,bC,rfl,rfl,hlen,hle⟩
   · have:(fun i=>if p b i then cP b i else [])=cP b:=by
      funext i
      exact if_pos (.inl (ag.trans aL.symm))
     rw [this];exact gY
   · cases gY with
     |cells cs e _ _ On cJ uZ=>
      refine .cells cs e bC _ On (cJ.trans hlen.symm) fun i ad=>?_
      have eV:i<l.length:=hlen▸ad
      by_cases aU:p b i
      · rw [if_pos aU]
        have e:bC.getD i .aS=l.getD i .aS:=by
         rcases aU with aU|⟨a,cR,aJ,aY,bG⟩
         · rw [ag,aL] at aU
           simp only [Option.some.injEq,fB.cells.injEq] at aU
           rw [aU]
         · rw [aL] at aJ;rw [ag] at aY
           simp only [Option.some.injEq,fB.cells.injEq] at aJ aY
           rw [aJ,aY];exact bG
        rw [e];exact uZ i eV
      · rw [if_neg aU]
        rcases hle i with e|e
        · exact absurd (.inr ⟨l,bC,aL,ag,e⟩) aU
        · exact e _ _ _ _ (uZ i eV)
 · obtain ⟨o,aL,_⟩:=al b ei ag
   show (if p b i then cP b i else []).Nodup∧∀c∈(if p b i then cP b i else []),_
   split
   · exact h.ed b o aL i
   · exact ⟨List.nodup_nil,fun c ar=>by cases ar⟩
end
section
variable {P:Program} {n:Nat} {fr:Fr} {m m':ae} {ops:Array Oper} {l:List Oper} {K:Fr→ae→Prop}
theorem bR.oD (al:qi m' m) (h:bR P n ops l K fr m'):bR P n ops l K fr m:=fun F lim w ca Q st aO=>h F lim w ca Q (bc.oD st al) aO
theorem de.oD {c:Code} {Q:Exit→Fr→ae→Prop} (al:qi m' m) (h:de P n c Q fr m'):de P n c Q fr m:=fun F lim w ca st=>h F lim w ca (bc.oD st al)
end
theorem j5.aS (x:U):j5 .aS x:= .inr fun _ _ _ _ _=> .aS _
theorem j5.fL:j5 .fL (.slice true []):= .inr fun w lim v os h=>by
 generalize aq:U.slice true []=x at h
 cases h with
 |fL o=>exact .nz _
 |own b n cap sz l cv cur e aI fu hm ey aG ag mJ cJ fb ar au=>
  cases aq
  simp only [List.length_nil] at aI
  subst aI
  rcases aG with aG|aG
  · omega
  · subst aG;exact .nz _
 |_=>cases aq
mutual
def iA (i:Nat):aR→Bool
 | .loc j _| .ms j _ _| .mp j| .hj j _ _ _| .bS j _ _ _=>Nat.beq i j
 | .agg l| .dw l=>rp i l
 | .fn _ a c=>bif rp i a then true else rp i c
 |_=>false
def rp (i:Nat):List aR→Bool
 |[]=>false
 |v::r=>bif iA i v then true else rp i r
end
def vz (i:Nat):bJ→(bJ→Prop)→Prop
 |[],k=>k []
 |(t,v)::r,k=>bif iA i v then vz i r fun eu=>k ((t, .aH .aS)::eu) else vz i r fun eu=>k ((t,v)::eu)
def vA (i:Nat):List aR→(List aR→Prop)→Prop
 |[],k=>k []
 |v::r,k=>bif iA i v then vA i r fun eu=>k (.aH .aS::eu) else vA i r fun eu=>k (v::eu)
def vB (i:Nat):List bu→(List bu→Prop)→Prop
 |[],k=>k []
 | .cells l::r,k=>vA i l fun bC=>vB i r fun eu=>k (.cells bC::eu)
 | .obj o::r,k=>vB i r fun eu=>k (.obj o::eu)
theorem getD_set_ne {bs:List Nat} {i j b:Nat} (h:Nat.beq i j=false):(bs.set i b).getD j 0=bs.getD j 0:=by
 have:i≠j:=fun e=>by subst e;rw [Nat.beq_refl] at h;cases h
 simp [List.getD_eq_getElem?_getD,List.getElem?_set_ne this]
mutual
theorem Bf {bs:List Nat} {i b:Nat}:∀{v:aR},iA i v=false→den (bs.set i b) v=den bs v
 | .aH _,_=>by simp only [den]
 | .own _,_=>by simp only [den]
 | .b _,_=>by simp only [den]
 | .loc j o,h=>by simp only [iA] at h;simp only [den,getD_set_ne h]
 | .ms j o c,h=>by simp only [iA] at h;simp only [den,getD_set_ne h]
 | .mp j,h=>by simp only [iA] at h;simp only [den,getD_set_ne h]
 | .hj j k w q,h=>by simp only [iA] at h;simp only [den,getD_set_ne h]
 | .bS j k w q,h=>by simp only [iA] at h;simp only [den,getD_set_ne h]
 | .agg l,h=>by simp only [iA] at h;simp only [den,vC h]
 | .dw l,h=>by simp only [iA] at h;simp only [den,vC h]
 | .fn f a c,h=>by
   simp only [iA] at h
   cases aX:rp i a with
   |true=>rw [aX] at h;cases h
   |false=>rw [aX] at h;simp only [den,vC aX,vC (l:=c) h]
 | .off,_=>by simp only [den]
theorem vC {bs:List Nat} {i b:Nat}:∀{l:List aR},rp i l=false→bm (bs.set i b) l=bm bs l
 |[],_=>by simp only [bm]
 |v::r,h=>by
  simp only [rp] at h
  cases bn:iA i v with
  |true=>rw [bn] at h;cases h
  |false=>rw [bn] at h;simp only [bm,Bf bn,vC (l:=r) h]
end
theorem Bg {i:Nat}:∀{fr:bJ} {k:bJ→Prop},vz i fr k→∃aZ,k aZ∧∀bs b,fz (bb (bs.set i b) aZ) (bb bs fr)
 |[],k,h=>⟨[],h,fun bs b=>fz.refl _⟩
 |(t,v)::r,k,h=>by
  simp only [vz] at h
  cases bn:iA i v with
  |true=>
   rw [bn] at h
   obtain ⟨eu,J,aa⟩:=Bg (fr:=r) h
   exact ⟨_,J,fun bs b=>(aa bs b).cons t (by simp only [den,U.plain];exact j5.aS _)⟩
  |false=>
   rw [bn] at h
   obtain ⟨eu,J,aa⟩:=Bg (fr:=r) h
   exact ⟨_,J,fun bs b=>(aa bs b).cons t (.inl (Bf bn))⟩
theorem Bh {i:Nat}:∀{l:List aR} {k:List aR→Prop},vA i l k→∃bC,k bC∧bC.length=l.length∧∀bs b q,j5 ((bm (bs.set i b) bC).getD q .aS) ((bm bs l).getD q .aS)
 |[],k,h=>⟨[],h,rfl,fun bs b q=> .inl rfl⟩
 |v::r,k,h=>by
  simp only [vA] at h
  cases bn:iA i v with
  |true=>
   rw [bn] at h
   obtain ⟨eu,J,aa,ai⟩:=Bh (l:=r) h
   refine ⟨_,J,by simp [aa],fun bs b q=>?_⟩
   cases q with
   |zero=>simp only [bm,List.getD_cons_zero,den,U.plain];exact j5.aS _
   |succ q=>simp only [bm,List.getD_cons_succ];exact ai bs b q
  |false=>
   rw [bn] at h
   obtain ⟨eu,J,aa,ai⟩:=Bh (l:=r) h
   refine ⟨_,J,by simp [aa],fun bs b q=>?_⟩
   cases q with
   |zero=>simp only [bm,List.getD_cons_zero];exact .inl (Bf bn)
   |succ q=>simp only [bm,List.getD_cons_succ];exact ai bs b q
def Bi (ei o:fB):Prop:=ei=o∨∃l bC,o= .cells l∧ei= .cells bC∧bC.length=l.length∧∀i,j5 (bC.getD i .aS) (l.getD i .aS)
theorem Bj {i:Nat}:∀{L:List bu} {k:List bu→Prop},vB i L k→∃bF,k bF∧bF.length=L.length∧∀bs b (q:Nat) ei,bF[q]?=some ei→∃o,L[q]?=some o∧Bi (dV (bs.set i b) ei) (dV bs o)
 |[],k,h=>⟨[],h,rfl,fun bs b q ei h=>by simp at h⟩
 | .obj o::r,k,h=>by
   obtain ⟨eu,J,aa,ai⟩:=Bj (L:=r) h
   refine ⟨_,J,by simp [aa],fun bs b q ei aL=>?_⟩
   cases q with
   |zero=>
    simp only [List.getElem?_cons_zero,Option.some.injEq] at aL
    subst aL
    exact ⟨_,rfl, .inl (by simp only [dV])⟩
   |succ q=>exact ai bs b q ei (by simpa using aL)
 | .cells l::r,k,h=>by
   simp only [vB] at h
   obtain ⟨bC,aG,aM,aC⟩:=Bh h
   obtain ⟨eu,J,aa,ai⟩:=Bj (L:=r) aG
   refine ⟨_,J,by simp [aa],fun bs b q ei aL=>?_⟩
   cases q with
   |zero=>
    simp only [List.getElem?_cons_zero,Option.some.injEq] at aL
    subst aL
    exact ⟨_,rfl, .inr ⟨_,_,rfl,rfl,by rw [ju,ju,aM],aC bs b⟩⟩
   |succ q=>exact ai bs b q ei (by simpa using aL)
section
variable {bs:List Nat} {L bF:List bu} {m:ae}
theorem Oo {b:Nat} (g:Good bs L m) {o:fB} (h:bH bs L m b=some o):(∃(q:Nat) (x:bu),bs[q]?=some b∧L[q]?=some x∧o=dV bs x)∨(b∉bs∧m b=some o):=by
 by_cases ag:b∈bs
 · left
   obtain ⟨q,aO⟩:=List.getElem?_of_mem ag
   have cl:q<bs.length:=by
    rcases Nat.lt_or_ge q bs.length with h|h
    · exact h
    · rw [List.getElem?_eq_none h] at aO;cases aO
   have j7:q<L.length:=by rw [←g.len];exact cl
   have aq:L[q]?=some L[q]:=List.getElem?_eq_getElem j7
   have:=kp g aq
   have e:bs.getD q 0=b:=by rw [List.getD_eq_getElem?_getD,aO];rfl
   rw [e,h] at this
   exact ⟨q,_,aO,aq,Option.some.inj this⟩
 · right
   rw [bH,mn (by rw [mZ g.len];exact ag)] at h
   exact ⟨ag,h⟩
end
end Go.bU
end
section
namespace Go.bU
open Go Go.ba
section
variable {P:Program} {T:hl} {b0:List Nat} {fr:bJ} {L:List bu} {m:ae} {K:cE}
theorem xO {α:Type} [Inhabited α] (f:α→U) (xs:List α) {st:Bool} {n w j:Nat} {k:Int} {Q:U→Prop} (h:0≤k∧k<xs.length) (aN:∀a,(f a).cells.length=w) (aA:(bif st then Nat.ble (j+n) w else Nat.ble (j+1) w)=true)
 (e7:Q (bif st then .agg (((f (I xs k)).cells.drop j).take n) else (f (I xs k)).cells.getD j .aS)):E0 (dM f xs) st n (0+k.toNat*w+j) Q:=by
 have ak:k.toNat<xs.length:=by omega
 have e:(dM f xs).drop (k.toNat*w+j)=(f (I xs k)).cells.drop j++dM f (xs.drop (k.toNat+1)):=by
  have:=Ae f xs k.toNat ak
  rw [this,List.drop_append,List.drop_eq_nil_of_le (by rw [nP aN,List.length_take];rw [Nat.min_eq_left (by omega)];omega),nP aN,List.length_take,Nat.min_eq_left (by omega),List.nil_append,Nat.add_sub_cancel_left,List.drop_append]
  cases st with
  |true=>
   have jr:j+n≤w:=Nat.le_of_ble_eq_true aA
   rw [show j- (f (xs.getD k.toNat default)).cells.length=0 by rw [aN];omega,List.drop_zero];rfl
  |false=>
   have jr:j+1≤w:=Nat.le_of_ble_eq_true aA
   rw [show j- (f (xs.getD k.toNat default)).cells.length=0 by rw [aN];omega,List.drop_zero];rfl
 have hlen:k.toNat*w+w≤(dM f xs).length:=by
  rw [nP aN,←Nat.succ_mul];exact Nat.mul_le_mul_right _ ak
 rw [Nat.zero_add]
 cases st with
 |true=>
  have jr:j+n≤w:=Nat.le_of_ble_eq_true aA
  refine ⟨by simp only [cond_true];omega,?_⟩
  simp only [cond_true] at e7 ⊢
  rw [e,List.take_append_of_le_length (by rw [List.length_drop,aN];omega)]
  exact e7
 |false=>
  have jr:j+1≤w:=Nat.le_of_ble_eq_true aA
  refine ⟨by simp only [cond_false];omega,?_⟩
  simp only [cond_false] at e7 ⊢
  have aC:(dM f xs).getD (k.toNat*w+j) .aS=(f (I xs k)).cells.getD j .aS:=by
   have J:(dM f xs)[k.toNat*w+j]?=((dM f xs).drop (k.toNat*w+j))[0]?:=by simp
   have aa:(f (I xs k)).cells[j]?=((f (I xs k)).cells.drop j)[0]?:=by simp
   rw [List.getD_eq_getElem?_getD,List.getD_eq_getElem?_getD,J,aa,e,List.getElem?_append_left (by rw [List.length_drop,aN];omega)]
  rw [aC];exact e7
theorem FQ {bs:List Nat} {s:Nat} {v:aR} (h:jP fr s fun u=>u=v) (bn:v≠ .aH .aS):(bb bs fr).get s=some (den bs v):=by
 rw [k6] at h
 cases bl:(bb bs fr).get s with
 |none=>exact absurd (h.symm.trans (A2 bl)) bn
 |some x=>
  have:=ko bs fr s
  rw [bd,bl] at this
  rw [←h,←this];rfl
structure FR (T:hl) (t e w y:Nat) (xP:List U):Prop where
 t:da T t fun i=>jv i fun cD=>cD=e
 e:da T e fun j=>j.n=w∧j.y=y∧(match j.z with|[]=>False|_=>True)∧U.eU (bm [] (jQ j.z))=xP
theorem FR.get (aV:eX P T=true) {t e w y:Nat} {xP:List U} (h:FR T t e w y xP):P.underlying t=some (.slice e)∧dS P e=true∧0<w∧k1 P e=true∧P.cellsOf e=w∧P.bytesOf e=y∧∃z,hy P e=some z∧z.cells.map U.plain=xP∧z.dy=true:=by
 obtain ⟨i,dp,J⟩:=dT aV h.t
 unfold jv at J
 split at J
 · rename_i aC al
   subst J
   obtain ⟨jY,jM,nc,pn⟩:=dp.bS al
   obtain ⟨j,e8,aa,ai,aJ,aY⟩:=dT aV h.e
   have ao:j.z≠[]:=fun e=>by rw [e] at aJ;exact aJ
   obtain ⟨z,rk,z2,z3,_⟩:=e8.hy (bs:=[]) ao
   refine ⟨jY,jM,by rw [←aa,←e8.cells];exact nc,pn,by rw [e8.cells,aa],by rw [e8.bytes,ai],z,rk,?_,z3⟩
   rw [z2,←U.h0];exact aY
 · exact J.elim
def nj (x:Operand) (v:aR) (fr:bJ):bJ:=
 match x with
 | .tmp s=>(s,v)::fr
 |_=>fr
def FT (x:Operand) (v:aR) (fr:bJ) (k:bJ→Prop):Prop:=
 match x with
 | .tmp s=>k ((s,v)::fr)
 |_=>k fr
theorem Oq (x:Operand) (v:aR) (fr:bJ) (k:bJ→Prop):FT x v fr k=k (nj x v fr):=by cases x<;>rfl
theorem Ot {bs:List Nat} {x:Operand} {v:aR} (e:den bs v=b4 (bd (bb bs fr)) x) (aA:den bs v≠ .aS):fz (bb bs (nj x v fr)) (bb bs fr)∧eC (bd (bb bs (nj x v fr))) x=den bs v∧(∀a,b4 (bd (bb bs (nj x v fr))) a=b4 (bd (bb bs fr)) a)∧(bb bs (nj x v fr)).strip (kd x)=(match x with| .tmp s=>(bb bs (nj x v fr)).put s (den bs v)|_=>bb bs (nj x v fr)):=by
 cases x with
 |tmp s=>
  simp only [b4] at e
  have ot:(den bs v).plain=den bs v:=by rw [e,sx]
  refine ⟨fun q x aO=>?_,by simp only [nj,eC,bd,bb,Fr.get,if_true,Option.getD_some],fun a=>?_,by simp only [nj,kd,Fr.strip,bd,bb,Fr.get,if_true,Option.getD_some,ot]⟩
  · simp only [nj,bb,Fr.get] at aO
    by_cases h:s=q
    · subst h
      rw [if_pos rfl] at aO
      obtain rfl:=Option.some.inj aO
      cases bl:(bb bs fr).get s with
      |none=>
       simp only [bd,bl,Option.getD_none,U.plain] at e
       exact absurd e aA
      |some y=>
       refine ⟨y,rfl, .pl ?_⟩
       rw [e,bd,bl];rfl
    · rw [if_neg h] at aO;exact ⟨x,aO, .inl rfl⟩
  · cases a with
    |tmp q=>
     simp only [nj,b4,bd,bb,Fr.get]
     by_cases h:s=q
     · subst h
       rw [if_pos rfl,Option.getD_some,ot,e,bd]
     · rw [if_neg h]
    |_=>rfl
 |const c=>exact ⟨fz.refl _,by simp only [b4] at e;simp only [eC,e],fun a=>rfl,rfl⟩
 |global c=>exact ⟨fz.refl _,by simp only [b4] at e;simp only [eC,e],fun a=>rfl,rfl⟩
 |func c=>exact ⟨fz.refl _,by simp only [b4] at e;simp only [eC,e],fun a=>rfl,rfl⟩
theorem FU (aV:eX P T=true) {α:Type} [Inhabited α] (f:α→U) (xs:List α) (y:α) {i j w n t:Nat} {fs:Int} {a x:Operand} {v:aR} {cs:List aR} (aU:eE fr a fun p=>p= .hj i fs w j) (ad:nth L i=some (.obj (.cells (dM f xs)))) (bn:eE fr x fun u=>u=v) (ar:xp v fun kH=>kH=cs)
 (aB:da T t fun dp=>dp.n=n) (aN:∀a,(f a).cells.length=w) (aA:(Nat.ble (j+n) w&&Nat.beq cs.length n)=true) (aK:∀bs,(f (I xs fs)).cells.take j++bm bs cs++(f (I xs fs)).cells.drop (j+n)=(f y).cells) (aG:0≤fs∧fs<xs.length)
 (h:FT x v fr fun aZ=>fP (L.set i (.obj (.cells (dM f (xs.set fs.toNat y))))) fun bF=>K aZ bF m):hz P b0 none (.store t a x) fr L m K:=⟨fun new g xQ ops ty pos af l kN bL aI ab=>by
 simp only [Bool.and_eq_true] at aA
 have vD:=Nat.le_of_ble_eq_true aA.1
 have u3:=Nat.eq_of_beq_eq_true aA.2
 obtain ⟨dp,xR,pt⟩:=dT aV aB
 obtain ⟨v1,rfl,aM⟩:=e0 (b0++new) aU
 obtain ⟨v2,rfl,aC⟩:=e0 (b0++new) bn
 obtain ⟨Ou,rfl,c8,fQ,vr⟩:=AT (bs:=b0++new) ar
 rw [ig] at ad
 have jg:=Al g.len ad
 simp only [den] at aM
 rw [Oq,gJ] at h
 have kS:den (b0++new) v2≠ .aS:=fun e=>by rw [e] at fQ;cases fQ
 obtain ⟨cM,bI,gI,h4⟩:=Ot aC kS
 refine bR.less cM ?_
 refine qX (stl:=[]) bL aI ?_
 refine M3 (P:=P) (ops:=ops) (stl:=[]) (r:=[]) (K:=bR P xQ ops l kN) (L:=hk (b0++new) L) rfl i f xs y fs j (sz:=w) (by rw [gI,←aM]) (by omega) bI g.nodup jg aN fQ vr (by rw [←c8,ju,u3,xR.cells,pt]) xR.is (by rw [xR.cells,pt];exact vD) (by rw [←c8,xR.cells,pt];exact aK _) aG.1 aG.2 ?_
 rw [h4]
 have rq:(hk (b0++new) L).set i ((b0++new).getD i 0,fB.cells (dM f (xs.set fs.toNat y)))=hk (b0++new) (L.set i (.obj (.cells (dM f (xs.set fs.toNat y))))):=by
  rcases EP (bs:=b0++new) (L:=L) (i:=i) (o:= .obj (.cells (dM f (xs.set fs.toNat y)))) with h|h
  · exact h
  · exfalso
    have:i<L.length:=by
     rcases Nat.lt_or_ge i L.length with h|h
     · exact h
     · rw [List.getElem?_eq_none h] at ad;cases ad
    rw [g.len] at h;omega
 rw [rq]
 have:=ab _ _ _ (b0++new) (List.prefix_append _ _) (g.set i _) h
 refine bR.less ?_ this
 cases x with
 |tmp s=>
  intro q z aO
  simp only [nj,Fr.put,bb,Fr.get] at aO ⊢
  by_cases e:s=q
  · subst e
    rw [if_pos rfl] at aO ⊢
    exact ⟨_,rfl, .inl (Option.some.inj aO).symm⟩
  · rw [if_neg e] at aO
    rw [if_neg e,if_neg e]
    exact ⟨z,aO, .inl rfl⟩
 |_=>exact fz.refl _⟩
end
end Go.bU
end
section
namespace Go.ba
open Go
section
variable {P:Program} {F:Nat→Prop} {lim:Nat→Nat} {w:World} {n:Nat} {fr:Fr} {m:ae} {ca:Act} {bE:List Nat}
theorem bc.Ov (st:bc F lim w n fr m ca bE) {b:Nat} {L:List U} (hm:m b=some (.cells L)) (j:Nat) (y:U) (aA:j<L.length) (ar:∀v os,aP w lim v (L.getD j .aS) os→aP w lim v y []):bc F lim w n fr (m.cQ b (some (.cells (L.set j y)))) ca bE:=by
 obtain ⟨os,cP,bW,h⟩:=st
 refine ⟨os,fun c=>if c=b then (fun i=>if i=j then [] else cP b i) else cP c,bW,h.size,h.defers,h.ez,fun c o iK=>?_,h.fc,fun c o iK i=>?_,h.fW,fun c iK=>?_,fun c iK=>?_⟩
 · by_cases e:c=b
   · subst e
     simp only [ae.cQ,if_true] at iK
     obtain rfl:=Option.some.inj iK
     obtain ⟨gY,av,fM⟩:=h.mem c _ hm
     refine ⟨?_,av,fM⟩
     cases gY with
     |cells cs e l os ag al au=>
      refine .cells cs e _ _ ag (by simpa using al) fun i ad=>?_
      have eV:i<L.length:=by simpa using ad
      simp only [if_true]
      by_cases lF:i=j
      · subst lF
        rw [if_pos rfl]
        have:=ar _ _ (au i eV)
        simpa [List.getD_eq_getElem?_getD,eV] using this
      · rw [if_neg lF]
        have:=au i eV
        simpa [List.getD_eq_getElem?_getD,List.getElem?_set_ne (Ne.symm lF)] using this
   · simp only [ae.cQ,if_neg e] at iK
     simp only [if_neg e]
     exact h.mem c o iK
 · by_cases e:c=b
   · subst e
     simp only [if_true]
     by_cases lF:i=j
     · simp [lF]
     · simp only [if_neg lF]
       exact h.ed c _ hm i
   · simp only [ae.cQ,if_neg e] at iK
     simp only [if_neg e]
     exact h.ed c o iK i
 · have:=h.free c iK
   refine ⟨this.1,?_,this.2.2⟩
   simp only [ae.cQ]
   by_cases e:c=b
   · subst e;rw [hm] at this;cases this.2.1
   · rw [if_neg e];exact this.2.1
 · have:=h.fresh c iK
   refine ⟨this.1,this.2.1,?_⟩
   simp only [ae.cQ]
   by_cases e:c=b
   · subst e;rw [hm] at this;cases this.2.2
   · rw [if_neg e];exact this.2.2
end
end Go.ba
namespace Go.bU
open Go Go.ba
mutual
theorem FV {bs gl:List Nat} (h:∀j,bs.getD j 0=gl.getD j 0):∀(v:aR),den bs v=den gl v
 | .aH _| .own _| .b _| .off=>by simp only [den]
 | .loc j o| .ms j o c| .mp j| .hj j k w q| .bS j k w q=>by simp only [den,h]
 | .agg l=>by simp only [den,s6 h l]
 | .dw l=>by simp only [den,s6 h l]
 | .fn f a c=>by simp only [den,s6 h a,s6 h c]
theorem s6 {bs gl:List Nat} (h:∀j,bs.getD j 0=gl.getD j 0):∀(l:List aR),bm bs l=bm gl l
 |[]=>by simp only [bm]
 |v::r=>by simp only [bm,FV h v,s6 h r]
end
theorem FW {bs gl:List Nat} (h:∀j,bs.getD j 0=gl.getD j 0):∀(fr:bJ),bb bs fr=bb gl fr
 |[]=>rfl
 |(t,v)::r=>by simp only [bb,FV h v,FW h r]
theorem Ow {bs gl:List Nat} (h:∀j,bs.getD j 0=gl.getD j 0) (o:bu):dV bs o=dV gl o:=by
 cases o with
 |cells l=>simp only [dV,s6 h l]
 |obj o=>rfl
section
variable {bs:List Nat} {L bF:List bu} {m:ae} {fr:bJ}
theorem Ox {i:Nat} (g:Good bs L m) (ad:i+1=L.length) (av:bF.length=i):Good (bs.take i) bF m:=by
 have:=g.len
 exact ⟨g.bN.sublist (List.take_sublist _ _),by rw [List.length_take,av];omega,fun b ag=>g.fresh b (List.mem_of_mem_take ag)⟩
theorem FX {i:Nat} (ad:bs.length=i+1):∀j,(bs.take i).getD j 0=(bs.set i 0).getD j 0:=fun j=>by
 simp only [List.getD_eq_getElem?_getD,List.getElem?_take,List.getElem?_set]
 by_cases h:j<i
 · rw [if_pos h,if_neg (by omega)]
 · rw [if_neg h]
   by_cases e:i=j
   · subst e;rw [if_pos rfl,if_pos (by omega)];rfl
   · rw [if_neg e,List.getElem?_eq_none (by omega)]
theorem Bk (bs:List Nat) (v:aR):∀(l:List aR) (j:Nat),bm bs (l.set j v)=(bm bs l).set j (den bs v)
 |[],j=>by simp only [List.set_nil,bm]
 |x::r,0=>by simp only [List.set_cons_zero,bm]
 |x::r,j+1=>by simp only [List.set_cons_succ,bm,Bk bs v r j]
theorem FY {c:fy} {A:cE} {R:Prop} {α:Type} (f:α→U) (aW:List α) (cA:List U) {i a j k cap w:Nat} {dK:List aR} (j7:nth L i=some (.obj (.cells (dM f aW)))) (ad:(Nat.beq (i+1) L.length&&Nat.ble c.bs.length i)=true) (aX:nth L a=some (.cells dK)) (aA:nth dK j=some (.ms i k cap))
 (aN:∀a,(f a).cells.length=w) (jN:0<w) (aU:∀a,(f a).plain=f a) (ak:k≤aW.length∧k≤140737488355328) (aK:(aW.take k).map f=cA)
 (h:vz i fr fun aZ=>vB i ((L.set a (.cells (dK.set j (.aH (.slice false cA))))).take i) fun bF=>A aZ bF m):lJ (oB c A fr L m) R:=⟨.inl ⟨fun new g n fY Q e7 F lim wd ca st=>by
 simp only [Bool.and_eq_true] at ad
 have qj:=Nat.eq_of_beq_eq_true ad.1
 have ie:=Nat.le_of_ble_eq_true ad.2
 rw [ig] at j7 aX aA
 obtain ⟨aZ,J,fM⟩:=Bg h
 obtain ⟨bF,aa,pe,gY⟩:=Bj J
 generalize cd:c.bs++new=B at g st
 have vE:=g.len
 have Oy:bF.length=i:=by rw [pe,List.length_take,List.length_set];omega
 have hm:=kp g j7
 simp only [dV] at hm
 obtain ⟨s1,s2,mR⟩:=ba.bc.MV st aN jN aU hm
 have FZ:=kp g aX
 simp only [dV] at FZ
 have F0:a<B.length:=by
  rw [vE]
  rcases Nat.lt_or_ge a L.length with h|h
  · exact h
  · rw [List.getElem?_eq_none h] at aX;cases aX
 have pb:j<dK.length:=by
  rcases Nat.lt_or_ge j dK.length with h|h
  · exact h
  · rw [List.getElem?_eq_none h] at aA;cases aA
 have qM:a≠i:=fun e=>by rw [e,j7] at aX;cases aX
 have gg:B.getD a 0≠B.getD i 0:=fun e=>qM (getD_inj g.bN F0 (by omega) e)
 have Oz:(bH B L m).cQ (B.getD i 0) none (B.getD a 0)=some (.cells (bm B dK)):=by
  simp only [ae.cQ,if_neg gg];exact FZ
 have jH:(bm B dK).getD j .aS= .ms ⟨B.getD i 0,0,none⟩ k cap:=by
  have:=(p9 (bs:=B) (n:=j) (l:=dK) (v:= .ms i k cap) (by rw [ig];exact aA)).1
  rw [this];simp only [den]
 have OA:=ba.bc.Ov s1 Oz j (.slice false cA) (by rw [ju];exact pb) (fun v os au=>by
  rw [jH] at au
  have e:=MR au
  subst e
  obtain ⟨aM,aC,c8⟩:=sa au
  rw [←aK]
  exact mR k cap v ak.1 ak.2 (by rw [aM];exact .ms _ _ _ aC c8))
 have dr:Good (B.take i) bF m:=Ox g qj Oy
 have Bl:c.bs <+: B.take i:=by
  rw [←cd,List.take_append,List.take_of_length_le ie]
  exact List.prefix_append _ _
 have OB:qi (bH (B.take i) bF m) (((bH B L m).cQ (B.getD i 0) none).cQ (B.getD a 0) (some (.cells ((bm B dK).set j (.slice false cA))))):=by
  intro b ei ag
  rcases Oo dr ag with ⟨q,x,cM,bI,rfl⟩|⟨cM,bI⟩
  · obtain ⟨o,gI,h4⟩:=gY B 0 q x bI
    have OC:q<i:=by
     rcases Nat.lt_or_ge q i with h|h
     · exact h
     · rw [List.getElem?_eq_none (by omega)] at bI;cases bI
    rw [List.getElem?_take_of_lt OC] at cM gI
    rw [←Ow (FX (bs:=B) (i:=i) (by omega)) x] at h4
    have og:B.getD q 0=b:=by rw [List.getD_eq_getElem?_getD,cM];rfl
    have OD:b≠B.getD i 0:=fun e=>by
     have:=getD_inj g.bN (by omega) (by omega) (og.trans e)
     omega
    by_cases e:a=q
    · subst e
      rw [List.getElem?_set_self (by omega)] at gI
      obtain rfl:=Option.some.inj gI
      simp only [dV,Bk] at h4
      refine ⟨.cells ((bm B dK).set j (.slice false cA)),by simp only [ae.cQ,←og,if_true],?_⟩
      have nM:den B (.aH (.slice false cA))= .slice false cA:=by simp only [den,U.plain]
      rw [nM] at h4
      exact h4
    · rw [List.getElem?_set_ne e] at gI
      have OE:b≠B.getD a 0:=fun aC=>e (getD_inj g.bN (by omega) F0 (og.trans aC)).symm
      have bl:=kp g gI
      rw [og] at bl
      exact ⟨dV B o,by simp only [ae.cQ,if_neg OE,if_neg OD];exact bl,h4⟩
  · have Bm:b∉B:=fun nU=>by rw [g.fresh b nU] at bI;cases bI
    have aY:b≠B.getD i 0:=fun e=>Bm (by rw [e,List.getD_eq_getElem?_getD,List.getElem?_eq_getElem (by omega)];exact List.getElem_mem _)
    have bG:b≠B.getD a 0:=fun e=>Bm (by rw [e,List.getD_eq_getElem?_getD,List.getElem?_eq_getElem (by omega)];exact List.getElem_mem _)
    refine ⟨ei,?_, .inl rfl⟩
    simp only [ae.cQ,if_neg aY,if_neg bG,bH]
    rw [mn (by rw [mZ g.len];exact Bm)]
    exact bI
 have hle:fz (bb (B.take i) aZ) (bb B fr):=by
  rw [FW (FX (bs:=B) (i:=i) (by omega))]
  exact fM B 0
 have dP:=de.less hle (de.oD OB (e7 aZ bF m (B.take i) Bl dr aa))
 exact wp_mono (dP F _ wd ca OA) fun e a w' ⟨l,f,m',q,fq,dQ⟩=>⟨l,f,m',q,fq,s2.trans dQ⟩⟩⟩
theorem F1 {c:fy} {A:cE} {R:Prop} (h:A fr L m):lJ (oB c A fr L m) R:=⟨.inl ⟨fun new g n fY Q e7=>e7 fr L m (c.bs++new) (List.prefix_append _ _) g h⟩⟩
end
end Go.bU
end
section
namespace Go.bU
open Go Go.ba
def qk (E:Nat):List aR→List aR
 |[]=>[]
 |v::r=>iX E v::qk E r
def Bn (E:Nat):bu→bu
 | .cells l=> .cells (qk E l)
 | .obj o=> .obj o
def pw (E:Nat):List bu→List bu
 |[]=>[]
 |o::r=>Bn E o::pw E r
section
variable {fr:bJ} {L:List bu} {m:ae}
theorem Bo (E:Nat):∀(l:List aR),(qk E l).length=l.length
 |[]=>rfl
 |v::r=>by simp only [qk,List.length_cons,Bo E r]
theorem F2 (E:Nat):∀(l:List bu),(pw E l).length=l.length
 |[]=>rfl
 |v::r=>by simp only [pw,List.length_cons,F2 E r]
theorem Bp (bs:List Nat) (E:Nat):∀(l:List aR) (i:Nat),j5 ((bm bs (qk E l)).getD i .aS) ((bm bs l).getD i .aS)
 |[],i=> .inl rfl
 |v::r,0=>by simp only [qk,bm,List.getD_cons_zero];exact Fx bs E v
 |v::r,i+1=>by simp only [qk,bm,List.getD_cons_succ];exact Bp bs E r i
theorem OF (bs:List Nat) (E:Nat) (o:bu):Bi (dV bs (Bn E o)) (dV bs o):=by
 cases o with
 |obj o=>exact .inl rfl
 |cells l=>exact .inr ⟨_,_,rfl,rfl,by rw [ju,ju,Bo],Bp bs E l⟩
theorem F3 (E:Nat):∀(l:List bu) (i:Nat),(pw E l)[i]?=(l[i]?).map (Bn E)
 |[],i=>by simp [pw]
 |v::r,0=>by simp [pw]
 |v::r,i+1=>by simp [pw,F3 E r i]
theorem bg.oD {P:Program} {f:FuncId} {args:List U} {K:U→ae→Prop} {m':ae} (al:qi m' m) (h:bg P f args m' K):bg P f args m K:=
 ⟨h.1,fun F lim w cargs cJ au st=>h.2 F lim w cargs cJ au (bc.oD st al)⟩
theorem qi.bf {bs:List Nat} {is:List Nat} {os fN:List bu} {aF:ae} (gi:(ij bs is).Nodup) (av:is.length=os.length) (l7:fN.length=os.length) (h:∀(i:Nat) ei,fN[i]?=some ei→∃o,os[i]?=some o∧Bi (dV bs ei) (dV bs o)):qi (aF.bf (k8 bs is fN)) (aF.bf (k8 bs is os)):=by
 intro b ei ag
 by_cases hm:b∈ij bs is
 · obtain ⟨i,Bc,rfl⟩:=s3 hm
   obtain ⟨j,aA⟩:=List.getElem?_of_mem Bc
   have xL:j<fN.length:=by
    rcases Nat.lt_or_ge j is.length with h|h
    · omega
    · rw [List.getElem?_eq_none h] at aA;cases aA
   have lH:=List.getElem?_eq_getElem xL
   obtain ⟨o,aL,hle⟩:=h j _ lH
   rw [A9 gi (by omega) aA lH] at ag
   obtain rfl:=Option.some.inj ag
   exact ⟨_,A9 gi av aA aL,hle⟩
 · rw [Ba hm] at ag
   exact ⟨ei,by rw [Ba hm];exact ag, .inl rfl⟩
theorem OG {b0:List Nat} {P:Program} {f:FuncId} {vs:List aR} {Q:aR→List bu→ae→Prop} {σ:Type} (E:Nat) (is:List Nat) (fO:σ→Prop) (y:σ→aR) (os:σ→List bu) (ad:isOk L.length is=true) (av:∀x,(os x).length=is.length)
 (h:∀bs (aF:ae),eF (ij bs is) aF→(∀b o,m b=some o→aF b=some o)→∀(K:U→ae→Prop),(∀x,fO x→K (den bs (y x)) (aF.bf (k8 bs is (os x))))→bg P f (bm bs vs) (aF.bf (k8 bs is (pw E (mr L is)))) K)
 (e7:∀x,fO x→fP (jw L is (os x)) fun bF=>Q (y x) bF m):nd P b0 f vs fr L m Q:=by
 refine ⟨σ,fO,y,fun x=>jw L is (os x),fun _=>m,fun new g K ab=>?_,fun x=>by rw [qh,Nat.beq_refl];rfl,fun x aq=>by have:=e7 x aq;rwa [gJ] at this⟩
 have gi:=vy g.bN (by rw [g.len];exact ad)
 have aM:=s5 g ad (s0 L is).symm
 rw [Be ad] at aM
 rw [aM]
 refine bg.oD (qi.bf gi (s0 L is).symm (F2 E _) fun i ei lH=>?_) (h (b0++new) _ ⟨gi,fun b ag=>by simp [rn,ag]⟩ (fun b o ag=>?_) K fun x aq=>?_)
 · rw [F3] at lH
   cases bl:(mr L is)[i]? with
   |none=>rw [bl] at lH;cases lH
   |some o=>
    rw [bl] at lH
    obtain rfl:=Option.some.inj lH
    exact ⟨o,rfl,OF _ E o⟩
 · have J:b∉b0++new:=fun hm=>by rw [g.fresh b hm] at ag;cases ag
   have aa:b∉ij (b0++new) is:=fun hm=>by
    obtain ⟨i,ie,e⟩:=s3 hm
    have cl:=(s4 ad).1 i ie
    rw [←g.len] at cl
    apply J
    rw [e,List.getD_eq_getElem?_getD,List.getElem?_eq_getElem cl]
    exact List.getElem_mem _
   simp only [rn,if_neg aa,bH]
   rw [mn (by rw [mZ g.len];exact J)]
   exact ag
 · have:=ab x aq [] (by rw [List.append_nil];exact ⟨g.bN,by rw [qh];exact g.len,g.fresh⟩)
   rw [List.append_nil,s5 g ad (av x).symm] at this
   exact this
end
end Go.bU
end
section
namespace Go.bU
open Go Go.ba
def xS (st:Bool) (z:List Z):U:=bif st then .agg (U.eU (bm [] (jQ z))) else ((bm [] (jQ z)).getD 0 .aS).plain
theorem fX.zeroV {P:Program} {t:Nat} {i:gS} (cO:fX P t i) (ao:i.z≠[]):∃z,ba.hy P t=some z∧z.plain=xS i.k.hR i.z:=by
 obtain ⟨v,J,aa,ai,aJ⟩:=cO.zero ao
 refine ⟨jI v,by simp only [ba.hy,J,aa,if_true],?_⟩
 unfold sC at ai
 split at ai
 · simp only [Bool.and_eq_true] at ai
   rw [xS,ai.1,cond_true,vp ai.2]
   simp only [jI,U.plain]
 · rename_i bn
   simp only [Bool.and_eq_true,Bool.not_eq_true'] at ai
   have uU:jI v=iu v:=by
    cases v with
    |agg cs=>exact absurd rfl (bn cs)
    |iface t u=>
     cases nQ:i.z with
     |nil=>exact absurd nQ ao
     |cons a r=>rw [nQ] at ai;simp [pg,q7] at ai
    |_=>rfl
   rw [xS,ai.1,cond_false,vp ai.2,uU]
   rfl
def F4:jf→Option TypeDesc
 | .str=>some .string
 | .int .i64=>some (.int .i64)
 |_=>none
structure F5 (T:hl) (t k e:Nat) (xT:TypeDesc) (z:U):Prop where
 t:da T t fun i=>match i.k with| .mp ea cD=>ea=k∧cD=e|_=>False
 k:da T k fun i=>F4 i.k=some xT
 e:da T e fun i=>(match i.z with|[]=>False|_=>True)∧xS i.k.hR i.z=z
section
variable {P:Program} {T:hl} {b0:List Nat} {fr:bJ} {L:List bu} {m:ae} {K:cE}
theorem F5.get (aV:eX P T=true) {t k e:Nat} {xT:TypeDesc} {z:U} (h:F5 T t k e xT z):P.underlying t=some (.map k e)∧P.underlying k=some xT∧∃z0,hy P e=some z0∧z0.plain=z:=by
 obtain ⟨i,dp,J⟩:=dT aV h.t
 obtain ⟨j,e8,aa⟩:=dT aV h.k
 obtain ⟨l,OH,ai,aJ⟩:=dT aV h.e
 have ao:l.z≠[]:=fun e=>by rw [e] at ai;exact ai
 refine ⟨?_,?_,?_⟩
 · split at J
   · rename_i ak
     obtain ⟨rfl,rfl⟩:=J
     exact dp.mp ak
   · exact J.elim
 · unfold F4 at aa
   split at aa
   · rename_i ak
     rw [←Option.some.inj aa];exact e8.str ak
   · rename_i ak
     rw [←Option.some.inj aa];exact e8.int ak
   · cases aa
 · obtain ⟨z0,rk,z2⟩:=OH.zeroV ao
   exact ⟨z0,rk,z2.trans aJ⟩
end
end Go.bU
end
section
namespace Go.bU
open Go Go.ba
theorem bg.OI {P:Program} {f:FuncId} {a cR:List U} {m:ae} {K:U→ae→Prop} (av:cR.length=a.length) (al:∀i,j5 (cR.getD i .aS) (a.getD i .aS)) (h:bg P f cR m K):bg P f a m K:=
 ⟨h.1,fun F lim w cargs cJ au st=>h.2 F lim w cargs (by omega) (fun i ad=>by
   rcases al i with e|e
   · rw [e];exact au i (by omega)
   · exact e _ _ _ _ (au i (by omega))) st⟩
section
variable {fr:bJ} {L:List bu} {m:ae}
theorem cF {b0:List Nat} {P:Program} {f:FuncId} {vs:List aR} {Q:aR→List bu→ae→Prop} {σ:Type} (E:Nat) (is:List Nat) (fO:σ→Prop) (y:σ→aR) (os:σ→List bu) (ad:isOk L.length is=true) (av:∀x,(os x).length=is.length)
 (h:∀bs (aF:ae),eF (ij bs is) aF→(∀b o,m b=some o→aF b=some o)→∀(K:U→ae→Prop),(∀x,fO x→K (den bs (y x)) (aF.bf (k8 bs is (os x))))→bg P f (bm bs (qk E vs)) (aF.bf (k8 bs is (pw E (mr L is)))) K)
 (e7:∀x,fO x→fP (jw L is (os x)) fun bF=>Q (y x) bF m):nd P b0 f vs fr L m Q:=
 OG E is fO y os ad av (fun bs aF gd aB K ab=>bg.OI (by rw [ju,ju,Bo]) (Bp bs E vs) (h bs aF gd aB K ab)) e7
end
end Go.bU
end
section
namespace Go.bU
open Go Go.ba
inductive nk where
 |d
 |z
 |f (i:Nat) (p:nk)
 |s (i:Nat) (p:nk)
 |o (i:Nat) (p q:nk)
def nk.ids:nk→List Nat
 | .o i _ q=>i::q.ids
 |_=>[]
def vF (o:Oper):Bool:=
 match o.op with
 | .move x| .nilCheck x| .fieldAddr _ x _=>kD x
 |_=>false
def lK (ops:Array Oper):nk→Bool→Nat→Array Bool→Bool
 | .d,_,_,l=>(Region.ready .any ops l).isEmpty
 | .z,top,_,_=>!top
 | .f i p,_,k,l=>
   match k with
   |0=>false
   |k+1=>(match ops[i]? with|some o=>q2 ops l i o&&vF o|none=>false)&&lK ops p true k (l.setIfInBounds i true)
 | .s i p,_,k,l=>
   match k with
   |0=>false
   |k+1=>!(Region.ready .any ops l).isEmpty&&((Region.ready .any ops l).all fun j=>j==i)&&lK ops p true k (l.setIfInBounds i true)
 | .o i p q,top,k,l=>
   match k with
   |0=>false
   |k+1=>(!top||(!(Region.ready .any ops l).isEmpty&&(Region.ready .any ops l).all fun j=>(i::q.ids).contains j))&&ops[i]?.isSome&&lK ops p true k (l.setIfInBounds i true)&&lK ops q false (k+1) l
def rr (c:fy) (d:Option Nat) (op:Op) (fr:bJ) (k:bJ→Prop):Prop:=
 match d,op with
 |some d, .move x=>eE fr x fun v=>k ((d,v)::fr)
 |some d, .nilCheck x=>eE fr x fun v=>
  match v with
  | .loc i off=>k ((d, .loc i off)::fr)
  |_=>False
 |some d, .fieldAddr s x f=>eE fr x fun a=>
  match a with
  | .loc i off=>da c.T s fun dp=>vf dp f fun o _=>k ((d, .loc i (off+o))::fr)
  |_=>False
 |_,_=>False
def px (c:fy) (bS:List Nat) (ops:List Oper) (K:cE):nk→cE
 | .d,fr,L,m=>K fr L m
 | .z,_,_,_=>True
 | .f i p,fr,L,m=>
   match nth ops i with
   |some o=>rr c o.dst o.op fr fun fr=>px c bS ops K p fr L m
   |none=>False
 | .s i p,fr,L,m=>
   match nth ops i with
   |some o=>qe c ops bS [o] fr L m fun fr L m=>px c bS ops K p fr L m
   |none=>False
 | .o i p q,fr,L,m=>
   (match nth ops i with
   |some o=>qe c ops bS [o] fr L m fun fr L m=>px c bS ops K p fr L m
   |none=>False)∧px c bS ops K q fr L m
end Go.bU
namespace Go.ba
open Go
section
variable {P:Program} {n:Nat} {fr:Fr} {m:ae} {ops:Array Oper} {fuel:Nat} {listed:Array Bool} {K:Fr→ae→Prop}
theorem eW.F6 (gg:Region.ready .any ops listed≠[]) (h:∀i∈Region.ready .any ops listed,∃o,ops[i]?=some o∧bR P n ops [o] (eW P n ops fuel (listed.setIfInBounds i true) K) fr m):eW P n ops (fuel+1) listed K fr m:=by
 intro F lim w ca Q st aO
 refine ⟨fun aG=>absurd aG gg,fun i ad=>?_⟩
 obtain ⟨o,aL,key⟩:=h i ad
 unfold wpOp
 rw [aL]
 simp only
 let hH:Exit→Act→World→Prop:=fun e a w'=>match e with
  | .normal=>wpAny P .any ops Q fuel (listed.setIfInBounds i true) a w'
  |e=>Q e a w'
 have hw:=key F lim w ca hH st (fun lim' w' aZ m' dX dP fq dQ=>dP F lim' w' dX Q fq fun jG h9 pQ mf sd ab sq pR=>aO jG h9 pQ mf sd ab sq (dQ.trans pR))
 have conv:∀{C:Act→World→Prop},o.wp P ca w C hH→o.wp P ca w C Q:=by
  intro C kM
  unfold Oper.wp at kM ⊢
  generalize (execOp ca.eval o).run P w=res at kM ⊢
  cases res with
  |ok s w'=>
   cases s with
   |enter f args=>
    refine kM.mono fun e h9 aT=>?_
    cases e<;>exact aT
   |_=>exact kM
  |_=>exact kM
 unfold wpList at hw
 split
 · next qZ=>
   rw [if_pos qZ] at hw
   rcases hw with hw|⟨J,aa⟩
   · exact .inl (conv hw)
   · exact .inr ⟨J,aa⟩
 · next qZ=>
   rw [if_neg qZ] at hw
   exact hw
theorem eW.ez (h:eW P n ops fuel listed K fr m):eW P n ops fuel listed (fun f m=>(∀t x,f.get t=some x→t<n)∧K f m) fr m:=fun F lim w ca Q st aO=>
 h F lim w ca Q st fun lim' w' f m' dX ak fq dQ=>aO lim' w' f m' dX ⟨fun t x aq=>by obtain ⟨_,_,_,s⟩:=fq;exact (s.ez t x aq).1,ak⟩ fq dQ
theorem eW.OJ {iZ:Fr→ae→Prop} (ab:∀f m,K f m→iZ f m) (h:eW P n ops fuel listed K fr m):eW P n ops fuel listed iZ fr m:=fun F lim w ca Q st aO=>
 h F lim w ca Q st fun lim' w' f m' dX ak fq dQ=>aO lim' w' f m' dX (ab _ _ ak) fq dQ
end
end Go.ba
namespace Go.bU
open Go Go.ba
section
variable {c:fy} {n:Nat} {ops:Array Oper} {K:Fr→ae→Prop} {bS:List Nat} {kN:cE}
theorem OK {b0 new:List Nat} (aV:eX c.P c.T=true) (bL:∀o∈ops.toList,eQ n o=true∧gh n o=true) {fuel i:Nat} {o:Oper} {listed:Array Bool} {fr:bJ} {aF:ae} {k:bJ→Prop} (aL:ops[i]?=some o) (ag:q2 ops listed i o=true) (aN:vF o=true)
 (h:rr c o.dst o.op fr k) (ak:∀aZ,k aZ→eW c.P n ops fuel (listed.setIfInBounds i true) K (bb (b0++new) aZ) aF):eW c.P n ops (fuel+1) listed K (bb (b0++new) fr) aF:=by
 have hm:=bL o (by rw [Array.mem_toList_iff];exact Array.mem_of_getElem? aL)
 cases bo:o.dst with
 |none=>rw [bo] at h;unfold rr at h;split at h<;>simp_all
 |some d=>
  have ib:=jZ hm.1 bo
  rw [bo] at h
  cases cB:o.op with
  |move x=>
   simp only [cB,rr] at h
   obtain ⟨v,J,e⟩:=e0 (b0++new) h
   rw [vF,cB] at aN
   have:=ak _ J
   simp only [bb] at this
   exact eW.M8 aL cB bo ib aN ag e.symm this
  |nilCheck x=>
   simp only [cB,rr] at h
   obtain ⟨v,J,e⟩:=e0 (b0++new) h
   rw [vF,cB] at aN
   split at J
   · have:=ak _ J
     simp only [bb] at this
     simp only [den] at e this
     exact eW.M9 aL cB bo ib aN ag e.symm this
   · exact J.elim
  |fieldAddr s x f=>
   simp only [cB,rr] at h
   obtain ⟨v,J,e⟩:=e0 (b0++new) h
   rw [vF,cB] at aN
   split at J
   · rename_i ii off
     obtain ⟨dp,cO,aa⟩:=dT aV J
     obtain ⟨dU,fd,hu,r9,i1,i2,ai⟩:=AI cO aa
     have:=ak _ ai
     simp only [bb] at this
     simp only [den] at e this
     exact eW.Na (side:=dS c.P fd.type=true∧c.P.cellsOf fd.type≠0) aL cB bo ib aN ag e.symm (by simp only [bO,hu,r9,←e]<;>rfl) ⟨i1,i2⟩ this
   · exact J.elim
  |_=>simp [cB,rr] at h
theorem vG {b0:List Nat} (aV:eX c.P c.T=true) (dh:c.bs=b0) (bL:∀o∈ops.toList,eQ n o=true∧gh n o=true∧rl o=true)
 (ab:∀aZ bF m' ee,Good (b0++ee) bF m'→kN aZ bF m'→K (bb (b0++ee) aZ) (bH (b0++ee) bF m')):
 ∀(p:nk) (top:Bool) (fuel:Nat) (listed:Array Bool) (fr:bJ) (L:List bu) (m:ae) (new:List Nat),lK ops p top fuel listed=true→Good (b0++new) L m→px c bS ops.toList kN p fr L m→
  (top=true→eW c.P n ops fuel listed K (bb (b0++new) fr) (bH (b0++new) L m))∧
  (∀f,fuel=f+1→∀i∈p.ids,∃o,ops[i]?=some o∧bR c.P n ops [o] (eW c.P n ops f (listed.setIfInBounds i true) K) (bb (b0++new) fr) (bH (b0++new) L m))
 | .d,top,fuel,listed,fr,L,m,new,aL,g,h=>by
   refine ⟨fun _=>eW.done ?_ (ab _ _ _ _ g h),fun f _ i ad=>by cases ad⟩
   simpa [lK] using aL
 | .z,top,fuel,listed,fr,L,m,new,aL,g,h=>by
   refine ⟨fun aB=>?_,fun f _ i ad=>by cases ad⟩
   subst aB;simp [lK] at aL
 | .f i p,top,fuel,listed,fr,L,m,new,aL,g,h=>by
   refine ⟨fun _=>?_,fun f _ i ad=>by cases ad⟩
   cases fuel with
   |zero=>simp [lK] at aL
   |succ k=>
    simp only [lK,Bool.and_eq_true] at aL
    simp only [px,ig,Array.getElem?_toList] at h
    cases ad:ops[i]? with
    |none=>rw [ad] at h;exact h.elim
    |some o=>
     rw [ad] at h aL
     simp only [Bool.and_eq_true] at aL
     exact OK aV (fun o aL=>⟨(bL o aL).1,(bL o aL).2.1⟩) ad aL.1.1 aL.1.2 h fun aZ ak=>(vG aV dh bL ab p true k _ aZ L m new aL.2 g ak).1 rfl
 | .s i p,top,fuel,listed,fr,L,m,new,aL,g,h=>by
   refine ⟨fun _=>?_,fun f _ i ad=>by cases ad⟩
   cases fuel with
   |zero=>simp [lK] at aL
   |succ k=>
    simp only [lK,Bool.and_eq_true,Bool.not_eq_true',List.all_eq_true,beq_iff_eq] at aL
    simp only [px,ig,Array.getElem?_toList] at h
    refine eW.F6 (fun e=>by rw [e] at aL;simp at aL) fun j aA=>?_
    obtain rfl:=aL.1.2 j aA
    cases ad:ops[j]? with
    |none=>rw [ad] at h;exact h.elim
    |some o=>
     rw [ad] at h
     refine ⟨o,rfl,sY aV dh [o] (fun ei lH=>?_) g h fun aZ bF m' ee dr ak=>(vG aV dh bL ab p true k _ aZ bF m' ee aL.2 dr ak).1 rfl⟩
     rw [List.mem_singleton.1 lH]
     exact bL o (by rw [Array.mem_toList_iff];exact Array.mem_of_getElem? ad)
 | .o i p q,top,fuel,listed,fr,L,m,new,aL,g,h=>by
   cases fuel with
   |zero=>simp [lK] at aL
   |succ k=>
    simp only [lK,Bool.and_eq_true] at aL
    obtain ⟨⟨⟨J,aa⟩,ai⟩,aJ⟩:=aL
    have key:∀f,k+1=f+1→∀j∈(nk.o i p q).ids,∃o,ops[j]?=some o∧bR c.P n ops [o] (eW c.P n ops f (listed.setIfInBounds j true) K) (bb (b0++new) fr) (bH (b0++new) L m):=by
     intro f aN j aA
     obtain rfl:k=f:=by omega
     simp only [px,ig,Array.getElem?_toList] at h
     simp only [nk.ids,List.mem_cons] at aA
     rcases aA with rfl|aA
     · cases ad:ops[j]? with
       |none=>rw [ad] at aa;cases aa
       |some o=>
        rw [ad] at h
        refine ⟨o,rfl,sY aV dh [o] (fun ei lH=>?_) g h.1 fun aZ bF m' ee dr ak=>(vG aV dh bL ab p true k _ aZ bF m' ee ai dr ak).1 rfl⟩
        rw [List.mem_singleton.1 lH]
        exact bL o (by rw [Array.mem_toList_iff];exact Array.mem_of_getElem? ad)
     · exact (vG aV dh bL ab q false (k+1) listed fr L m new aJ g h.2).2 k rfl j aA
    refine ⟨fun aB=>?_,key⟩
    subst aB
    simp only [Bool.not_true,Bool.false_or,Bool.and_eq_true,Bool.not_eq_true',List.all_eq_true,List.contains_iff_mem] at J
    exact eW.F6 (fun e=>by rw [e] at J;simp at J) fun j aA=>key k rfl j (by simpa [nk.ids] using J.2 j aA)
theorem gp {L:List bu} {m:ae} {fr:bJ} {id:Nat} {kn:cE} {A:Prop} {σ:Type} (aV:eX c.P c.T=true) (hm:c.P.follows .mixedOrders=true) (p:nk) (md:List (Nat×Nat)) (ks:List Nat) (k:Nat) (S:σ→sS) (fO:σ→Prop)
 (aU:(lK ops p true ops.size (Array.replicate ops.size false)&&ops.toList.all rl)=true)
 (cd:∀x,fO x→fP (S x).1 fun fr=>fP (S x).2.1 fun L=>kn fr L (S x).2.2)
 (dP:px c (po ops.toList) ops.toList (fun fr L m=>∃x,fits c md ks k fr L m (S x)∧fO x) p fr L m):lJ A (AO c id ops true kn fr L m):=by
 simp only [Bool.and_eq_true,List.all_eq_true] at aU
 refine ⟨.inr ⟨fun new g n Q ak e7=>?_⟩⟩
 have sj:=AZ ak
 simp only [kf,Bool.and_eq_true,List.all_eq_true] at ak
 refine de.vu (Q:=fun e f m=>∃fe m',fz fe f∧(∀b o,m' b=some o→m b=some o)∧Q e fe m') (fun e f m h=>h) ?_
 refine MH hm (List.range n) sj fun K ab=>?_
 have J:=(vG (K:=fun fr aF=>∃fe m',fz fe fr∧(∀b o,m' b=some o→aF b=some o)∧Q .normal fe m') aV rfl (fun o aL=>⟨(ak.1 o aL).1,(ak.1 o aL).2,aU.2 o aL⟩) (fun aZ bF m' ee dr ⟨x,aN,ay⟩=>by
  obtain ⟨g2,av,al,hlen⟩:=vx (b0:=c.bs) rfl dr aN
  have:=cd x ay
  rw [gJ,gJ] at this
  exact ⟨_,_,av,al,e7 _ _ _ _ (List.prefix_append _ _) g2 this⟩) p true _ _ fr L m new aU.1 g dP).1 rfl
 refine eW.OJ (fun f aF ⟨al,fe,m',av,uK,aO⟩=>ab _ _ ⟨fe,m',fun t x aq=>?_,uK,aO⟩) (eW.ez J)
 obtain ⟨y,aK,oy⟩:=av t x aq
 obtain ⟨z,ao,me⟩:=AY al t y aK
 rcases me with rfl|me
 · exact ⟨_,ao,oy⟩
 · refine ⟨_,ao, .inr fun w lim v os au=>?_⟩
   have aa:=me w lim v os au
   rcases oy with rfl|oy
   · exact aa
   · exact oy w lim v [] aa
end
end Go.bU
end
section
namespace Go.bU
open Go Go.ba
theorem bg.pl {P:Program} {f:FuncId} {a:List U} {m:ae} {K:U→ae→Prop} (h:bg P f a m fun x m'=>K x.plain m'):bg P f a m K:=
 ⟨h.1,fun F lim w cargs J aa ai=>(h.2 F lim w cargs J aa ai).mono fun _ _ ⟨v,x,lim',m',_,he,ab,au,al,aU⟩=>⟨v,x.plain,lim',m',[],he,ab,au.plain,al.drop,aU⟩⟩
example (l:List U) (n:Int):U.plain (.tuple [.slice true l, .int .i64 n, .err 3 n])= .tuple [.slice false l, .int .i64 n, .err 3 n]:=rfl
end Go.bU
end
section
namespace Go.ba
open Go RowKit
section
variable {P:Program} {F:Nat→Prop} {lim:Nat→Nat} {w w':World} {n:Nat} {fr:Fr} {m:ae} {ca:Act} {bE:List Nat}
theorem bc.below (st:bc F lim w n fr m ca bE) (h:Below w.heap.size w w'):bc F lim w' n fr m ca bE:=by
 have av:=h.block
 have aN:∀c,w.heap.size≤c→lim c=0:=fun c ar=>by
  obtain ⟨_,_,_,s⟩:=st
  exact (s.fresh c ar).1
 have hm:∀b,m b≠none→b<w.heap.size:=fun b ag=>st.oW ag
 have jH:∀b o,o<lim b→b<w.heap.size:=fun b o aL=>st.qE aL
 exact st.world h.size (fun _=>Nat.le_refl _) (fun b o aL=>by simp [World.cell?,av b (jH b o aL)]) (fun c ar=> .inr ⟨av c ar,rfl⟩) (fun b ag=>⟨av b (hm b ag),rfl⟩) (fun c ar=>aN c (Nat.le_trans h.size ar))
theorem F7 (st:bc F lim w n fr m ca bE) (h:Below w.heap.size w w'):dL F w lim w' lim:=
 ⟨h.os,h.tape,h.output,h.size,fun b ag=>⟨h.block b (st.pN ag),rfl⟩,fun _=>Nat.le_refl _,fun b o aL=>by simp [World.cell?,h.block b (st.qE aL)]⟩
theorem OL {f Bq OM:Nat} {xU:Nat} {e:TypeId} {z:Nat×Nat} {k9:TypeId} {p:Value} (aN:∃fn,P.funcs[f]?=some fn∧fn.body.isSome=true∧(fn.name== "runtime.NumGoroutine")=false)
 (bL:∀(s:ByteArray) (n:Int),s.size≤18→Lib.atoi s.data.toList=some n→∀w:World,Calls P f #[.string s] w fun e w'=>e= .returned (.tuple #[.int .i64 n, .nilIface])∧∃t,w'=Lib.bytesWorld w Bq t)
 (ON:∀(s:ByteArray),s.size≤18→Lib.atoi s.data.toList=none→∀(kb:Value) (w:World),w.cell? ⟨xU,0,none⟩=some kb→(kb= .nilIface∨∃Br Bs,kb= .iface Br Bs)→Calls P f #[.string s] w fun e w'=>∃N,e= .returned (.tuple #[.int .i64 0, .iface OM (.pointer (some ⟨N,0,none⟩))])∧Below w.heap.size w w')
 {s:List UInt8} {K:U→ae→Prop} (al:s.length≤18) (ag:∀n,Lib.atoi s=some n→-9223372036854775808≤n∧n≤9223372036854775807) (hm:m xU=some (.mK e z #[.iface k9 p]))
 (ab:K (.tuple [.int .i64 ((Lib.atoi s).getD 0), .opt (Lib.atoi s).isNone]) m):bg P f [.str s] m K:=by
 refine ⟨aN,fun F lim w cargs cJ au st=>?_⟩
 obtain ⟨x,rfl⟩:=Oj cJ
 have Bt:aP w lim x (.str s) []:=au 0 (by simp)
 obtain ⟨b,rfl,pV⟩:∃b:ByteArray,x= .string b∧b.data.toList=s:=by
  cases Bt with
  |str b _=>exact ⟨b,rfl,rfl⟩
 have F8:b.size≤18:=by rw [←pV] at al;simpa using al
 have dw:∀{fD:World} {n:Int} {v:Value} {o:Bool},-9223372036854775808≤n→n≤9223372036854775807→aP fD lim v (.opt o) []→aP fD lim (.tuple #[.int .i64 n,v]) (.tuple [.int .i64 n, .opt o]) []:=fun {fD n v o} J aa ai=>by
  have:=aP.tuple (w:=fD) (lim:=lim) #[.int .i64 n,v] [.int .i64 n, .opt o] (fun _=>[]) rfl (fun i ad=>by
   match i,ad with
   |0,_=>exact .int .i64 n J aa
   |1,_=>exact ai)
  exact this
 cases aX:Lib.atoi s with
 |some n=>
  rw [aX] at ab
  refine (bL b n F8 (by rw [pV];exact aX) w).mono fun aM k5 ⟨he,t,hw⟩=>?_
  subst he;subst hw
  exact ⟨_,_,lim,_,[],rfl,ab,dw (ag n aX).1 (ag n aX).2 .nA,st.below (Lib.bytesWorld_below _ _ _),F7 st (Lib.bytesWorld_below _ _ _)⟩
 |none=>
  rw [aX] at ab
  have ar:w.cell? ⟨xU,0,none⟩=some (.iface k9 p):=by
   obtain ⟨os,cP,bW,s⟩:=st
   have:=(s.mem xU _ hm).1
   cases this with
   |mK _ _ _ _ ag=>simp [World.cell?,ag]
  refine (ON b F8 (by rw [pV];exact aX) _ w ar (.inr ⟨k9,p,rfl⟩)).mono fun aM k5 ⟨N,he,hw⟩=>?_
  subst he
  exact ⟨_,_,lim,_,[],rfl,ab,dw (by decide) (by decide) (.nB _ _),st.below hw,F7 st hw⟩
end
end Go.ba
end
section
namespace Go.bU
open Go Go.ba
section
variable {P:Program} {b0:List Nat} {fr:bJ} {L:List bu} {m:ae} {K:cE}
theorem OO {d t s:Nat} {parts:Array (Nat×Operand)} {cL:Array Field} {z:U} (pre post:List aR) (q:List U) (hu:P.underlying t=some (.struct cL)) (ao:hy P t=some z) (pW:z.dy=true) (jn:∀f∈cL.toList,dS P f.type=true)
 (o4:∀bs,∀X:U,X.dy=true→∀p∈parts.toList,(nO (bd (bb bs fr)) s X p.2).dy=true)
 (uW:∀bs a k c,lD (fun i=>(cL[i]?).map fun f=>(f.offset,P.cellsOf f.type)) z.cells (parts.toList.map fun p=>(p.1,nO (bd (bb bs fr)) s (.ms a k c) p.2))=some (bm bs pre++ .ms a k c::bm bs post))
 (ly:∀bs,lD (fun i=>(cL[i]?).map fun f=>(f.offset,P.cellsOf f.type)) z.cells (parts.toList.map fun p=>(p.1,nO (bd (bb bs fr)) s (.slice true q) p.2))=some (bm bs pre++ .slice true q::bm bs post))
 (aq:jP fr s fun v=>v= .own q) (jo:(parts.toList.any fun p=>match p.2 with| .tmp t=>t==s|_=>false)=true) (h:K ((d, .agg (pre++ .own q::post))::(s, .aH (.slice false q))::fr) L m):
 hz P b0 (some d) (.build t parts) fr L m K:=⟨fun new g n ops ty pos af l kN bL aI ab=>by
 refine qX (stl:=[d]) bL aI ?_
 have au:bd (bb (b0++new) fr) s= .slice true q:=by
  rw [ko];rw [k6] at aq;rw [aq];rfl
 refine MN (P:=P) (ops:=ops) (stl:=[d]) (r:=[]) (K:=bR P n ops l kN) rfl s (bm (b0++new) pre) (bm (b0++new) post) (by simp) hu ao pW jn (o4 _) (uW _) (ly _) au jo ?_
 have:=ab _ _ _ (b0++new) (List.prefix_append _ _) g h
 have e:bm (b0++new) (pre++ .own q::post)=bm (b0++new) pre++ .slice true q::bm (b0++new) post:=by
  rw [lI,lI,lI,List.map_append,List.map_cons];rfl
 simp only [bb,den,e] at this
 rw [wR,au]
 exact this⟩
end
end Go.bU
end
section
namespace Go.ba
open Go
inductive s7:Value→Prop
 |u64 (n:Int):s7 (.int .u64 n)
 |iface (t:TypeId) (p:Value):s7 (.iface t p)
theorem OP {w:World} {lim:Nat→Nat} {v:Value} (bn:s7 v) {x:U} {os:List Nat} (h:aP w lim v x os) (aq:ho x):False:=by
 cases bn with
 |u64 n=>exact Om h aq
 |iface t p=>cases aq<;>cases h
theorem OQ {w:World} {lim lim':Nat→Nat} {B:Nat→Prop} (ar:∀b o v,B b→w.cell? ⟨b,o,none⟩=some v→s7 v) (av:∀b,¬B b→lim' b=lim b) {v:Value} {x:U} {os:List Nat} (h:aP w lim v x os):ho x→aP w lim' v x os:=by
 induction h with
 |bool b=>exact fun _=> .bool b
 |int k n bw ad=>exact fun _=> .int k n bw ad
 |str s h=>exact fun _=> .str s h
 |fL own=>exact fun _=> .fL own
 |empty a cap hm=>exact fun _=> .empty a cap hm
 |slice b off n cap sz l cv aI fu hm ey cJ fb F9 au aQ=>
  intro aq
  cases aq with
  |slice _ xN pe=>
   rcases Nat.eq_zero_or_pos n with aG|aG
   · subst aG
     have:l=[]:=List.eq_nil_of_length_eq_zero aI
     subst this
     exact .empty _ _ hm
   · have jo:∀i,i<n→l.getD i .aS∈l:=fun i ad=>by simp [List.getD_eq_getElem?_getD,show i<l.length by omega]
     have OR:∀(L:List U) (j:Nat),j<L.length→L.getD j .aS∈L:=fun L j aA=>by
      rw [List.getD_eq_getElem?_getD,List.getElem?_eq_getElem aA];exact List.getElem_mem _
     have bL:∀i j,i<n→j<sz→ho ((l.getD i .aS).cells.getD j .aS):=fun i j ad aA=>pe _ (jo i ad) _ (OR _ j (by rw [cJ i ad];exact aA))
     have Bu:0<sz:=by
      rw [←cJ 0 aG];exact List.length_pos_iff.2 (xN _ (jo 0 aG))
     have ag:¬B b:=fun e=>OP (ar b _ _ e (F9 0 0 aG Bu)) (au 0 0 aG Bu) (bL 0 0 aG Bu)
     exact .slice b off n cap sz l cv aI fu hm ey cJ (by rw [av b ag];exact fb) F9 fun i j ad aA=>aQ i j ad aA (bL i j ad aA)
 |agg cs xs os h au aQ=>
  intro aq
  cases aq with
  |agg _ pe=>
   exact .agg cs xs os h fun i ad=>aQ i ad (pe _ (by
    rw [List.getD_eq_getElem?_getD,List.getElem?_eq_getElem ad]
    exact List.getElem_mem _))
 |_=>intro aq;cases aq
structure Bv where
 e:TypeId
 z:Nat×Nat
 cs:Array Value
def vH (G:Nat→Option Bv):ae:=fun b=>(G b).map fun t=> .mK t.e t.z t.cs
section
variable {P:Program}
theorem OS {f:FuncId} {avs:List U} {cargs:Array Value} {G:Nat→Option Bv} {W:World} (h:bg P f avs (vH G) (fun x m'=>x= .bool true∧∀b t,G b=some t→m' b=some (.mK t.e t.z t.cs))) (al:cargs.size=avs.length)
 (aV:∀b t,G b=some t→W.heap[b]?=some (.cells t.cs t.e t.z)∧∀v∈t.cs.toList,s7 v)
 (au:∀i,i<avs.length→aP W (lE W) (cargs.getD i undef) (avs.getD i .aS) []) (aL:∀x∈avs,ho x):
 Calls P f cargs W fun e kL=>e= .returned (.bool true)∧RowKit.Below W.heap.size W kL:=by
 have cl:∀b t,G b=some t→b<W.heap.size:=fun b t ag=>by
  rcases Nat.lt_or_ge b W.heap.size with h|h
  · exact h
  · have:=(aV b t ag).1
    rw [Array.getElem?_eq_none h] at this;cases this
 have ar:∀b o v,(∃t,G b=some t)→W.cell? ⟨b,o,none⟩=some v→s7 v:=fun b o v ⟨t,ag⟩ bn=>by
  simp only [World.cell?,(aV b t ag).1] at bn
  exact (aV b t ag).2 v (by simpa using Array.mem_of_getElem? bn)
 have st:bc (fun b=>b<W.heap.size∧G b=none) (fun b=>if (G b).isSome then 0 else lE W b) W 0 [] (vH G) k0 []:=by
  refine ⟨fun _=>[],fun _ _=>[],fun _=> .none,rfl,rfl,fun t x aq=>by simp [Fr.get] at aq,fun b o h=>?_,fun t x aq=>by simp [Fr.get] at aq,fun b o h i=>⟨List.nodup_nil,fun c ar=>by cases ar⟩,by simp,fun c h=>absurd rfl h,fun b ag=>?_⟩
  · unfold vH at h
    cases aM:G b with
    |none=>rw [aM] at h;cases h
    |some t=>
     rw [aM] at h
     obtain rfl:=Option.some.inj h
     exact ⟨.mK t.e _ _ _ (aV b t aM).1,by simp,fun aT=>by cases aT.2⟩
  · have aM:G b=none:=by
     cases aM:G b with
     |none=>rfl
     |some t=>have:=cl b t aM;omega
    have:W.heap[b]?=none:=by simpa using ag
    exact ⟨by simp [aM,lE,this],fun aT=>by omega,by simp [vH,aM]⟩
 refine (h.2 _ _ W cargs al (fun i ad=>OQ (B:=fun b=>∃t,G b=some t) ar (fun b ag=>by
  have aM:G b=none:=by
   cases aM:G b with
   |none=>rfl
   |some t=>exact absurd ⟨t,aM⟩ ag
  simp [aM]) (au i ad) (aL _ (by rw [List.getD_eq_getElem?_getD,List.getElem?_eq_getElem ad];exact List.getElem_mem _))) st).mono fun e kL ⟨v,x,lim',m',os,he,ab,aq,db,aU⟩=>?_
 obtain ⟨ab,hm⟩:=ab
 subst ab
 cases aq
 refine ⟨he,aU.os,aU.tape,aU.output,aU.size,fun k ak=>?_⟩
 cases aM:G k with
 |some t=>
  obtain ⟨_,_,_,s⟩:=db
  have:=(s.mem k _ (hm k t aM)).1
  cases this with
  |mK _ _ _ _ ag=>rw [ag,(aV k t aM).1]
 |none=>exact (aU.res k ⟨ak,aM⟩).1
end
end Go.ba
end
section
namespace Go.ba
open Go Go.MapKept
section
variable {P:Program} {F:Nat→Prop} {lim:Nat→Nat} {w w':World} {n:Nat} {fr:Fr} {m:ae} {ca:Act} {bE:List Nat}
variable {ops:Array Oper} {stl:List Nat} {r:List Oper} {K:Fr→ae→Prop} {d:Nat} {ty:TypeId} {pos:String} {af:Array Edge} {gd:Option (Nat×Bool)} {L:List (Nat×fB)}
end
end Go.ba
namespace Go.bU
open Go Go.ba
theorem OT {bs:List Nat} {L:List bu} {m:ae} (g:Good bs L m) {b:Nat} {o:fB} (h:m b=some o):bH bs L m b=some o:=
 My h fun c ar=>by rw [mZ g.len] at ar;exact g.fresh c ar
section
variable {P:Program} {T:hl} {b0:List Nat} {fr:bJ} {L:List bu} {m:ae} {K:cE}
end
section
variable {c:fy} {L:List bu} {fr:bJ} {m:ae}
end
end Go.bU
end
section
namespace Go.bU
open Go Go.ba
def Bw {kk kO:Type} (m:ae) (q0:kk→U) (q1:kO→U) (o:Option Nat) (l:List (kk×kO)):Prop:=
 match o with
 |none=>l=[]
 |some b=>m b=some (.map (l.map (MK q0 q1)))
theorem Bw.up {kk kO:Type} {m aF:ae} {q0:kk→U} {q1:kO→U} {o:Option Nat} {l:List (kk×kO)} (aB:∀b o,m b=some o→aF b=some o) (h:Bw m q0 q1 o l):Bw aF q0 q1 o l:=by
 cases o with
 |none=>exact h
 |some b=>exact aB _ _ h
section
variable {P:Program} {T:hl} {b0:List Nat} {fr:bJ} {L:List bu} {m:ae} {K:cE}
end
end Go.bU
end
section
namespace Go.bU
open Go Go.ba
section
variable {P:Program} {b0:List Nat} {fr:bJ} {L:List bu} {m:ae}
theorem OU {f:FuncId} {vs:List aR} {Q:aR→List bu→ae→Prop} {σ:Type} (fO:σ→Prop) (o:σ→bu) (y:σ→aR) (al:(nb L.length fr&&kP L.length L)=true)
 (h:∀bs (aF:ae),bs.length=L.length→(∀b o,m b=some o→aF b=some o)→∀(K:U→ae→Prop),(∀x b,fO x→aF b=none→K (den (bs++[b]) (y x)) (aF.cQ b (some (dV (bs++[b]) (o x)))))→bg P f (bm bs vs) aF K)
 (e7:∀x,fO x→Q (y x) (L++[o x]) m):nd P b0 f vs fr L m Q:=by
 simp only [Bool.and_eq_true] at al
 refine ⟨σ,fO,y,fun x=>L++[o x],fun _=>m,fun new g K ab=>h (b0++new) _ g.len (fun _ _ ag=>OT g ag) K fun x b aq ag=>?_,fun x=>?_,e7⟩
 · obtain ⟨dr,e⟩:=An g (by rw [g.len];exact al.2) ag (o x)
   have:=ab x aq [b] dr
   rw [e] at this
   exact this
 · rw [al.1];cases Nat.beq (L++[o x]).length L.length<;>rfl
theorem OV {bs:List Nat} {b n:Nat} (h:bs.length=n):(bs++[b]).getD n 0=b:=by
 subst h
 rw [List.getD_eq_getElem?_getD,List.getElem?_append_right (Nat.le_refl _)];simp
end
section
variable {bs:List Nat} {L bF:List bu} {m:ae} {fr:bJ}
end
end Go.bU
end
section
namespace Go.ba
open Go
def s8 (P:Program) (f:FuncId) (j:Nat) (args:List U) (m:ae) (K:U→ae→Prop):Prop:=
 (∃fn,P.funcs[f]?=some fn∧fn.body.isSome=true∧(fn.name== "runtime.NumGoroutine")=false)∧
 ∀F lim w (cargs:Array Value) bE,cargs.size=args.length→(∀i,i<args.length→aP w lim (cargs.getD i undef) (args.getD i .aS) (if i=j then bE else []))→bc F lim w 0 [] m k0 bE→
  Calls P f cargs w fun e w'=>∃v x lim' m' os,e= .returned v∧K x m'∧aP w' lim' v x os∧bc F lim' w' 0 [] m' k0 os∧dL F w lim w' lim'
section
variable {P:Program} {F:Nat→Prop} {lim:Nat→Nat} {w:World} {n:Nat} {fr:Fr} {m:ae} {ca:Act} {bE:List Nat}
theorem OW {f:FuncId} {fn:Func} {c:Code} {j:Nat} {args:List U} {K:U→ae→Prop} (aN:P.funcs[f]?=some fn) (ag:fn.body=some c) (uH:(fn.name== "runtime.NumGoroutine")=false) (jq:args.length≤fn.ntmps)
 (h:de P fn.ntmps c (DY P fn K) (Fr.init 0 args) m):s8 P f j args m K:=by
 refine ⟨⟨fn,aN,by rw [ag];rfl,uH⟩,fun F lim w cargs bE al au st=>calls_of_wp aN ag ?_⟩
 have fq:bc F lim w fn.ntmps (Fr.init 0 args) m {tmps:=cargs++Array.replicate (fn.ntmps- cargs.size) undef,defers:=[]} []:=by
  obtain ⟨os,cP,bW,k⟩:=st
  refine ⟨fun t=>if t=j then bE else [],cP,fun c=>if bW c= .kA then .slot j else bW c,by simp;omega,rfl,fun t x aq=>?_,k.mem,fun t x aq=>?_,fun b o ag i=>⟨(k.ed b o ag i).1,fun c ar=>by simp [(k.ed b o ag i).2 c ar]⟩,⟨List.nodup_nil,fun c ar=>by cases ar⟩,fun c ar=>?_,k.fresh⟩
  · obtain ⟨_,J,aa⟩:=Fr.DW args 0 t x aq
    simp only [Nat.sub_zero] at J aa
    refine ⟨by omega,?_⟩
    have e:(cargs++Array.replicate (fn.ntmps- cargs.size) undef).getD t undef=cargs.getD t undef:=by
     simp [Array.getD_eq_getD_getElem?,Array.getElem?_append,show t<cargs.size from by omega]
    rw [e,←aa]
    exact au t J
  · by_cases aB:t=j
    · subst aB
      simp only [if_true]
      exact ⟨k.fW.1,fun c ar=>by simp [k.fW.2 c ar]⟩
    · simp [if_neg aB]
  · by_cases J:bW c= .kA
    · exact k.free c (by rw [J];simp)
    · simp only [J,if_false] at ar
      exact k.free c ar
 refine wp_mono (h F lim w _ fq) fun e a w' ⟨lim',aZ,m',q,s1,dQ⟩=>?_
 have uI:qT P fn aZ m' K→a.defers=[]∧∃v,(results fn a.tmps).run P w'= .ok v w'∧∃iw x lim' m' os,Ending.returned v= .returned iw∧K x m'∧aP w' lim' iw x os∧bc F lim' w' 0 [] m' k0 os∧dL F w lim w' lim':=fun q=>by
  obtain ⟨v,x,mf,os,J,aa,ai,aJ⟩:=D0 q s1
  exact ⟨s1.defers,v,J,v,x,lim',mf,os,rfl,aa,ai,aJ,dQ⟩
 cases e with
 |ret=>exact uI q
 |normal=>exact uI q
 |_=>exact q.elim
theorem bc.OX (h:bc F lim w n fr m ca bE):∃kB:Nat→Prop,(∀b,F b→kB b)∧bc kB lim w 0 [] m k0 bE∧
 ∀lim' w' m' os,bc kB lim' w' 0 [] m' k0 os→dL kB w lim w' lim'→bc F lim' w' n fr m' ca os:=by
 obtain ⟨os,cP,bW,h⟩:=h
 refine ⟨fun b=>F b∨(bW b).ix=true,fun b ag=> .inl ag,⟨os,cP,fun c=>if (bW c).ix then .none else bW c,rfl,rfl,fun t x aq=>by simp [Fr.get] at aq,fun b o ag=>?_,fun t x aq=>by simp [Fr.get] at aq,fun b o ag i=>⟨(h.ed b o ag i).1,fun c ar=>by simp [(h.ed b o ag i).2 c ar,Place.ix]⟩,⟨h.fW.1,fun c ar=>by simp [h.fW.2 c ar,Place.ix]⟩,fun c ar=>?_,fun b ag=>?_⟩,?_⟩
 · refine ⟨(h.mem b o ag).1,(h.mem b o ag).2.1,fun aN=>?_⟩
   rcases aN with aN|aN
   · exact (h.mem b o ag).2.2 aN
   · have:=(h.free b (by intro e;rw [e] at aN;simp [Place.ix] at aN)).2.1
     rw [ag] at this;cases this
 · by_cases al:(bW c).ix=true
   · simp [al] at ar
   · simp only [al] at ar
     have:=h.free c (by simpa using ar)
     exact ⟨fun aN=>aN.elim this.1 al,this.2⟩
 · have:=h.fresh b ag
   refine ⟨this.1,fun aN=>aN.elim this.2.1 (fun al=>?_),this.2.2⟩
   have:=(h.free b (by intro e;rw [e] at al;simp [Place.ix] at al)).2.2
   omega
 · intro lim' w' m' UA ⟨C4,zI,uA,k⟩ dQ
   have js:∀c,uA c≠ .none→¬(bW c).ix=true:=fun c ar al=>(k.free c ar).1 (.inr al)
   refine ⟨os,zI,fun c=>if (bW c).ix then bW c else uA c,h.size,h.defers,fun t x aq=>⟨(h.ez t x aq).1,(h.ez t x aq).2.gQ dQ.mono dQ.cell (fun c ar=>dQ.res c (.inr ?_))⟩,fun b o ag=>?_,fun t x aq=>⟨(h.fc t x aq).1,fun c ar=>?_⟩,fun b o ag i=>⟨(k.ed b o ag i).1,fun c ar=>?_⟩,⟨k.fW.1,fun c ar=>?_⟩,fun c ar=>?_,fun b ag=>?_⟩
   · rw [(h.fc t x aq).2 c ar];rfl
   · exact ⟨(k.mem b o ag).1,(k.mem b o ag).2.1,fun aN=>(k.mem b o ag).2.2 (.inl aN)⟩
   · have:=(h.fc t x aq).2 c ar
     simp [this,Place.ix]
   · have J:=(k.ed b o ag i).2 c ar
     have:=js c (by rw [J];simp)
     simp [this,J]
   · have J:=k.fW.2 c ar
     have:=js c (by rw [J];simp)
     simp [this,J]
   · by_cases al:(bW c).ix=true
     · have J:=h.free c (by intro e;rw [e] at al;simp [Place.ix] at al)
       refine ⟨J.1,?_,Nat.lt_of_lt_of_le J.2.2 dQ.size⟩
       cases hm:m' c with
       |none=>rfl
       |some o=>exact ((k.mem c o hm).2.2 (.inr al)).elim
     · have J:=k.free c (by simpa [al] using ar)
       exact ⟨fun aN=>J.1 (.inl aN),J.2⟩
   · have:=k.fresh b ag
     exact ⟨this.1,fun aN=>this.2.1 (.inl aN),this.2.2⟩
theorem OY {f:FuncId} {j:Nat} {args:List U} {K:U→ae→Prop} (ar:s8 P f j args m K) (st:bc F lim w n fr m ca bE) {cargs:Array Value} (al:cargs.size=args.length) (au:∀i,i<args.length→aP w lim (cargs.getD i undef) (args.getD i .aS) (if i=j then bE else []))
 {o:Oper} {next:Act→World→Prop} {Q:Exit→Act→World→Prop} (he:∀fn,P.funcs[f]?=some fn→fn.body.isSome=true→(fn.name== "runtime.NumGoroutine")=false→(execOp ca.eval o).run P w= .ok (.enter f cargs) w)
 (aI:∀v x lim' w' m' os,K x m'→aP w' lim' v x os→bc F lim' w' n fr m' ca os→dL F w lim w' lim'→next (ca.put o.dst v) w'):o.wp P ca w next Q:=by
 obtain ⟨⟨fn,J,aa,ai⟩,qS⟩:=ar
 obtain ⟨kB,fM,s1,s2⟩:=st.OX
 unfold Oper.wp
 rw [he fn J aa ai,Oper.upon_enter]
 refine (qS kB lim w cargs bE al au s1).mono fun e w' ⟨v,x,lim',m',os,he,ab,fw,gm,eN⟩=>?_
 subst he
 exact aI v x lim' w' m' os ab fw (s2 lim' w' m' os gm eN) (eN.weaken fM)
end
end Go.ba
namespace Go.bU
open Go Go.ba
section
variable {P:Program} {b0:List Nat} {fr:bJ} {L:List bu} {m:ae}
theorem Ga {c:fy} {f:FuncId} {fn:Func} {fY:Code} {j:Nat} {vs:List aR} {K:U→ae→Prop} (e:Bool) (aV:eX c.P c.T=true) (hm:c.P.follows .mixedOrders=true) (aN:c.P.funcs[f]?=some fn) (ag:fn.body=some fY) {k:Nat} (bL:cu c.xs fn fY k=true) (av:vs.length=k) (g:Good c.bs L m)
 (h:kR c fY (sX c false fn.results.toList K) (fun _ _ _ _=>False) (sX c e fn.results.toList K) (sV 0 vs) L m):s8 c.P f j (bm c.bs vs) (bH c.bs L m) K:=by
 simp only [cu,Bool.and_eq_true,Bool.not_eq_true'] at bL
 obtain ⟨⟨⟨h5,hU⟩,ni⟩,rm⟩:=bL
 refine OW aN ag h5 (by rw [ju,av];exact Nat.le_of_ble_eq_true hU) ?_
 have:=nX (b0:=c.bs) (new:=[]) aV hm rfl fY (by rw [List.append_nil];exact g) ni h
 rw [List.append_nil,A7] at this
 refine FJ c.E (vo fn.results.toList) (fun ex f aF aU=>?_) this
 obtain ⟨aZ,bF,m',ee,dr,rfl,rfl,cp⟩:=aU
 cases ex with
 |normal=>exact .inl (sZ aV rfl dr (by simpa using Nat.le_of_ble_eq_true rm) cp)
 |exit id=>exact cp.elim
 |ret=>
  simp only [sX] at cp
  cases e with
  |false=>exact .inl (sZ aV rfl dr (by simpa using Nat.le_of_ble_eq_true rm) cp)
  |true=>
   simp only at cp
   rw [gJ] at cp
   right
   rw [←A6]
   exact sZ aV rfl dr (by simpa using Nat.le_of_ble_eq_true rm) cp
 |_=>exact cp.elim
theorem xV {f:FuncId} {args:Array Operand} {cT:Array TypeId} {s d:Nat} {rest:List Operand} {l:List U} {us:List aR} {k:cE} (y:aR) (aX:args.toList= .tmp s::rest) (al:jP fr s fun v=>v= .own l) (au:p8 fr rest fun vs=>vs=us)
 (h:∀bs (aF:ae) (K:U→ae→Prop),K (den bs y) aF→s8 P f 0 (.slice true l::bm bs us) aF K)
 (aO:k ((d,y)::(s, .aH (.slice false l))::fr) L m):hz P b0 (some d) (.call ⟨.value (.func f),args,cT⟩) fr L m k:=⟨fun new g n ops ty pos af q kN bL aI ab=>by
 have vI:=FQ (bs:=b0++new) al (by simp)
 simp only [den] at vI
 obtain ⟨vs,rfl,aM⟩:=q5 (b0++new) au
 refine bR.step rfl fun F lim w ca st next Q k4=>?_
 have gZ:=kG bL
 obtain ⟨os,OZ,uX⟩:=st.take vI
 have dP:∀x∈rest,aP w lim (ca.eval x) (b4 (bd (bb (b0++new) fr)) x) []:=fun x aq=>by
  have dc:x∈args.toList:=by rw [aX];exact List.mem_cons_of_mem _ aq
  exact hQ st (gZ x (by simp [Op.operands,Call.operands];first|exact .inr (by simpa using dc)|simpa using dc))
 have cJ:(args.map ca.eval).size=(U.slice true l::bm (b0++new) vs).length:=by
  have:args.size=rest.length+1:=by rw [←Array.length_toList,aX];rfl
  rw [aM];simp [this]
 refine OY (h (b0++new) _ (fun x m'=>bR P n ops q kN (ba.er ((bb (b0++new) fr).put s (U.slice true l).plain) (some d) x) m') ?_) OZ cJ (fun i ad=>?_) (fun fn g1 g2 g3=>by simp [execOp,resolve,Deferred.ofValue,Act.eval,invoke,sn _ g1 g2 g3]) fun v x lim' w' m' fN O0 fw gm eN=>?_
 · have:=ab _ _ _ _ (List.prefix_append b0 new) g aO
   simp only [bb,den] at this
   exact this
 · have eV:i<args.size:=by
    have cU:=cJ
    simp only [Array.size_map] at cU
    omega
   have aC:(args.map ca.eval).getD i undef=ca.eval (args.toList.getD i (.tmp s)):=by
    simp [Array.getD,eV,List.getD_eq_getElem?_getD]
   rw [aC,aX]
   cases i with
   |zero=>simpa [Act.eval] using uX
   |succ i=>
    simp only [Nat.succ_ne_zero,if_false,List.getD_cons_succ]
    have ie:i<rest.length:=by
     have:args.size=rest.length+1:=by rw [←Array.length_toList,aX];rfl
     omega
    have c8:(bm (b0++new) vs).getD i .aS=b4 (bd (bb (b0++new) fr)) rest[i]:=by
     rw [aM];simp [List.getD_eq_getElem?_getD,ie]
    have fQ:rest.getD i (.tmp s)=rest[i]:=by simp [List.getD_eq_getElem?_getD,ie]
    rw [c8,fQ]
    exact dP _ (List.getElem_mem _)
 · exact k4 lim' w' _ m' _ O0 (gm.er (fun t aB=>jZ bL aB) fw) eN⟩
end
end Go.bU
end
