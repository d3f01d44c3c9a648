/-
  The abstract layer, part 38: a region of an open order with calls that change memory, one behind the other: what else is in it reads the same whichever of them were made.
-/
import Derived.Test.YtnahenbiipdlkaaGreatDoorWxk
section
namespace Go.bh
open Go
section
variable {P:Program} {n:Nat} {fr:Fr} {m:ad}
def j0 (fC:List Nat) (o:Oper):Bool:=match o.dst with|some d=>fC.contains d|none=>false
def Ac (ops:Array Oper):List Nat→Bool
 |a::b::r=>(closure ops b (nr ops b)).contains a&&Ac ops (b::r)
 |_=>true
def Ad (ops:Array Oper) (dp:List (Nat×Nat)):Bool:=
 CL ops&&Ac ops (dp.map (·.1))&&
 ((List.range ops.size).all fun i=>match ops[i]? with
   |some o=>!j0 (dp.map (·.2)) o||(dp.map (·.1)).contains i
   |none=>true)&&
 dp.all fun nw=>match ops[nw.1]? with
  |some o=>o.guard.isNone&&o.dst==some nw.2&&(match o.op with| .call ⟨.value (.func _),_,_⟩=>true|_=>false)&&
   ((List.range ops.size).all fun j=>match ops[j]? with
     |some q=>(decide (j<nw.1)||(match q.dst with|some e=>!(slotsOf ops o).contains e|none=>true))&&(decide (nw.1<j)||!(slotsOf ops q).contains nw.2)
     |none=>true)
  |none=>false
def oV (fr:Fr):List (Nat×R)→Fr
 |[]=>fr
 |(d,c)::r=>(oV fr r).put d c.plain
def xL (P:Program) (ops:Array Oper) (E:Fr):List ad→List (Nat×R)→Prop
 |m::m'::r,(p,c)::q=>(match ops[p]? with|some o=>(match o.op with| .call ⟨.value (.func f),args,_⟩=>∀K:R→ad→Prop,K c m'→bn P f (args.toList.map (bx (a1 E))) m K|_=>False)|none=>False)∧xL P ops E (m'::r) q
 |_,_=>True
def allM (p:ad→Prop):List ad→Prop
 |[]=>True
 |m::r=>p m∧allM p r
theorem QN {p:ad→Prop}:∀{l:List ad},allM p l→∀i,i<l.length→∀x,l[i]?=some x→p x:=by
 intro l
 induction l with
 |nil=>intro _ i ab;exact absurd ab (Nat.not_lt_zero _)
 |cons a l aQ=>
  intro h i ab x ah
  cases i with
  |zero=>simp at ah;subst ah;exact h.1
  |succ i=>exact aQ h.2 i (by simpa using ab) x (by simpa using ah)
theorem QO {ops:Array Oper} {E:Fr}:∀{q:List (Nat×R)} {gx:List ad},xL P ops E gx q→∀a,a<q.length→∀m m' p c,gx[a]?=some m→gx[a+1]?=some m'→q[a]?=some (p,c)→∃(o:Oper) (f:Nat) (args:Array Operand) (bC:Array TypeId),ops[p]?=some o∧o.op= .call ⟨.value (.func f),args,bC⟩∧∀K:R→ad→Prop,K c m'→bn P f (args.toList.map (bx (a1 E))) m K:=by
 intro q
 induction q with
 |nil=>intro gx _ a aH;exact absurd aH (Nat.not_lt_zero _)
 |cons x q aQ=>
  intro gx h a aH m m' p c I J ai
  match gx,I,J with
  |[],I,_=>simp at I
  |[y],_,J=>simp at J
  |y::z::gx,I,J=>
   obtain ⟨gr,hs⟩:=x
   cases a with
   |zero=>
    simp at I J ai
    obtain ⟨rfl,rfl⟩:=ai
    subst I;subst J
    have:=h.1
    split at this
    · next o av=>
      split at this
      · next f args bC bI=>exact ⟨o,f,args,bC,av,bI,this⟩
      · exact this.elim
    · exact this.elim
   |succ a=>exact aQ h.2 a (by simpa using aH) m m' p c (by simpa using I) (by simpa using J) (by simpa using ai)
theorem QP {ops:Array Oper}:∀{l:List Nat},Ac ops l=true→∀a x y,l[a]?=some x→l[a+1]?=some y→x∈closure ops y (nr ops y):=by
 intro l
 induction l with
 |nil=>intro _ a x y h;simp at h
 |cons z l aQ=>
  intro h a x y I J
  match l,h,J,aQ with
  |[],_,J,_=>simp at J
  |w::l,h,J,aQ=>
   simp only [Ac,Bool.and_eq_true] at h
   cases a with
   |zero=>simp at I J;subst I;subst J;simpa using h.1
   |succ a=>exact aQ h.2 a x y (by simpa using I) (by simpa using J)
theorem QQ {fr:Fr} {t:Nat}:∀{l:List (Nat×R)},t∉l.map Prod.fst→a1 (oV fr l) t=a1 fr t:=by
 intro l
 induction l with
 |nil=>intro _;rfl
 |cons x l aQ=>
  intro h
  simp only [List.map_cons,List.mem_cons,not_or] at h
  obtain ⟨d,c⟩:=x
  simp only [oV,uW]
  rw [if_neg (fun e=>h.1 e.symm),aQ h.2]
theorem QR {fr:Fr} {d:Nat} {c:R}:∀{l:List (Nat×R)},(l.map Prod.fst).Nodup→(d,c)∈l→a1 (oV fr l) d=c.plain:=by
 intro l
 induction l with
 |nil=>intro _ h;cases h
 |cons x l aQ=>
  intro aL h
  obtain ⟨fu,hs⟩:=x
  simp only [List.map_cons,List.nodup_cons] at aL
  simp only [oV,uW]
  rcases List.mem_cons.1 h with h|h
  · injection h with I J;subst I;subst J;rw [if_pos rfl]
  · rw [if_neg,aQ aL.2 h]
    intro e;subst e
    exact aL.1 (List.mem_map_of_mem (f:=Prod.fst) h)
theorem QS {ops:Array Oper} {m:ad} (q:Oper→Bool):∀(l:List Oper) (cs:List R) (fr:Fr) (K:Fr→Prop),hN P ops m cs (l.filter q) fr K→∃(T:Nat→Fr) (c:Nat→R) (val:Nat→R),T 0=fr∧K (T l.length)∧
 ∀i o,l[i]?=some o→(q o=true→(∃side,pv P ops m (c i) (a1 (T i)) o=some (side,val i)∧side)∧T (i+1)=dR (T i) o.dst (val i))∧(q o=false→T (i+1)=T i):=by
 intro l
 induction l with
 |nil=>intro cs fr K h;exact ⟨fun _=>fr,fun _=> .aP,fun _=> .aP,rfl,h,fun i o ab=>by simp at ab⟩
 |cons o l aQ=>
  intro cs fr K h
  cases aO:q o with
  |true=>
   rw [List.filter_cons_of_pos aO] at h
   simp only [hN] at h
   split at h
   · next side x aB=>
     obtain ⟨al,h⟩:=h
     obtain ⟨T,c,val,I,J,ai⟩:=aQ _ _ K h
     refine ⟨fun i=>match i with|0=>fr|i+1=>T i,fun i=>match i with|0=>cs.headD .aP|i+1=>c i,fun i=>match i with|0=>x|i+1=>val i,rfl,J,fun i dn ab=>?_⟩
     cases i with
     |zero=>
      simp at ab;subst ab
      exact ⟨fun _=>⟨⟨side,aB,al⟩,I⟩,fun aq=>by rw [aO] at aq;cases aq⟩
     |succ i=>exact ai i dn (by simpa using ab)
   · exact h.elim
  |false=>
   rw [List.filter_cons_of_neg (by simp [aO])] at h
   obtain ⟨T,c,val,I,J,ai⟩:=aQ _ _ K h
   refine ⟨fun i=>match i with|0=>fr|i+1=>T i,fun i=>match i with|0=> .aP|i+1=>c i,fun i=>match i with|0=> .aP|i+1=>val i,rfl,J,fun i dn ab=>?_⟩
   cases i with
   |zero=>
    simp at ab;subst ab
    exact ⟨fun aq=>absurd (aO.symm.trans aq) (by decide),fun _=>I⟩
   |succ i=>exact ai i dn (by simpa using ab)
theorem QT {ops:Array Oper} (D:Hr ops) (q:Oper→Bool) {T:Nat→Fr} {val:Nat→R} {HW:Fr} (aq:T 0=HW) (al:∀(i:Nat) (o:Oper),ops[i]?=some o→(q o=true→T (i+1)=dR (T i) o.dst (val i))∧(q o=false→T (i+1)=T i)):
 ∀i,i≤ops.size→∀t,(∀(j:Nat) (o:Oper),j<i→ops[j]?=some o→q o=true→o.dst=some t→a1 (T i) t=val j)∧((∀(j:Nat) (o:Oper),j<i→ops[j]?=some o→q o=true→o.dst≠some t)→a1 (T i) t=a1 HW t):=by
 intro i
 induction i with
 |zero=>intro _ t;exact ⟨fun j o ay=>absurd ay (Nat.not_lt_zero _),fun _=>by rw [aq]⟩
 |succ i aQ=>
  intro ab t
  have bG:i<ops.size:=ab
  obtain ⟨zO,zP⟩:=aQ (by omega) t
  have av:ops[i]?=some ops[i]:=Array.getElem?_eq_getElem bG
  obtain ⟨d,aY⟩:=D.dst i _ av
  cases aO:q ops[i] with
  |false=>
   rw [(al i _ av).2 aO]
   refine ⟨fun j o ay hr xM pK=>?_,fun hT=>zP fun j o ay hr=>hT j o (by omega) hr⟩
   refine zO j o ?_ hr xM pK
   rcases Nat.lt_succ_iff_lt_or_eq.1 ay with h|h
   · exact h
   · subst h
     rw [av] at hr;cases hr
     rw [aO] at xM;cases xM
  |true=>
   have aJ:=(al i _ av).1 aO
   rw [aY] at aJ
   simp only [dR] at aJ
   rw [aJ,uW]
   refine ⟨fun j o ay hr xM pK=>?_,fun hT=>?_⟩
   · by_cases e:d=t
     · subst e
       have:j=i:=D.apart j i o _ hr av (by rw [pK,aY])
       subst this
       simp
     · rw [if_neg e]
       refine zO j o ?_ hr xM pK
       rcases Nat.lt_succ_iff_lt_or_eq.1 ay with h|h
       · exact h
       · subst h
         rw [av] at hr
         cases hr
         rw [aY] at pK
         exact (e (by simpa using pK)).elim
   · have e:¬d=t:=fun e=>hT i _ (Nat.lt_succ_self i) av aO (by rw [aY,e])
     rw [if_neg e]
     exact zP fun j o ay hr=>hT j o (by omega) hr
set_option maxHeartbeats 2000000 in
theorem QU {id:Nat} {ops:Array Oper} {Q:Exit→Fr→ad→Prop} (hm:P.follows .mixedOrders=true) (dp:List (Nat×Nat×R)) (gx:List ad) (cs:List R) (ks:List Nat) (E:Fr) (M:ad) (aj:iL n ops ks=true)
 (aY:Ad ops (dp.map fun x=>(x.1,x.2.1))=true) (va:(dp.map fun x=>x.2.1).Nodup) (vb:gx[0]?=some m) (xN:gx[dp.length]?=some M) (hlen:gx.length=dp.length+1)
 (ag:xL P ops E gx (dp.map fun x=>(x.1,x.2.2)))
 (aB:allM (fun m=>hN P ops m cs (ops.toList.filter fun o=>!j0 (dp.map fun x=>x.2.1) o) (oV fr (dp.map fun x=>x.2)) (fun bb=>bb=E)) gx)
 (h:∀K:Fr→ad→Prop,(∀fr m,Q .normal fr m→K fr m)→K (E.keep ks) M):b7 P n (.region id ops true) Q fr m:=by
 replace h:=h (Q .normal) (fun _ _ h=>h)
 intro F lim w ca st
 simp only [Ad,Bool.and_eq_true,List.map_map,Function.comp_def] at aY
 obtain ⟨⟨⟨r3,QV⟩,QW⟩,QX⟩:=aY
 have D:=PO r3
 simp only [iL,Bool.and_eq_true,List.all_eq_true] at aj
 have bG:∀{i:Nat} {o:Oper},ops[i]?=some o→i<ops.size:=fun ab=>(Array.getElem?_eq_some_iff.1 ab).1
 have ih:∀a,a<dp.length→∃(p d:Nat) (c:R) (o:Oper) (f:Nat) (args:Array Operand) (bC:Array TypeId) (vc tu:ad),dp[a]?=some (p,d,c)∧ops[p]?=some o∧o.guard=none∧o.dst=some d∧o.op= .call ⟨.value (.func f),args,bC⟩∧gx[a]?=some vc∧gx[a+1]?=some tu∧
  (∀K:R→ad→Prop,K c tu→bn P f (args.toList.map (bx (a1 E))) vc K)∧
  (∀j q e,ops[j]?=some q→q.dst=some e→e∈slotsOf ops o→j<p)∧(∀j q,ops[j]?=some q→d∈slotsOf ops q→p<j):=by
  intro a aH
  obtain ⟨x,ah⟩:∃x,dp[a]?=some x:=⟨_,List.getElem?_eq_getElem aH⟩
  obtain ⟨p,d,c⟩:=x
  obtain ⟨vc,r4⟩:∃x,gx[a]?=some x:=⟨_,List.getElem?_eq_getElem (by omega)⟩
  obtain ⟨tu,kR⟩:∃x,gx[a+1]?=some x:=⟨_,List.getElem?_eq_getElem (by omega)⟩
  obtain ⟨o,f,args,bC,av,bI,qd⟩:=QO ag a (by simpa using aH) vc tu p c r4 kR (by simp [ah])
  have hS:(p,d,c)∈dp:=List.mem_of_getElem? ah
  have aC:=List.all_eq_true.1 QX (p,d) (List.mem_map.2 ⟨(p,d,c),hS,rfl⟩)
  simp only [av,Bool.and_eq_true,List.all_eq_true,List.mem_range] at aC
  obtain ⟨⟨⟨g1,g2⟩,_⟩,g3⟩:=aC
  refine ⟨p,d,c,o,f,args,bC,vc,tu,ah,av,by simpa using g1,by simpa using g2,bI,r4,kR,qd,fun j q e aO he De=>?_,fun j q aO De=>?_⟩
  · have:=g3 j (bG aO)
    simp only [aO,he,Bool.and_eq_true,Bool.or_eq_true,decide_eq_true_eq] at this
    rcases this.1 with h|h
    · exact h
    · have ag:(slotsOf ops o).contains e=true:=by simpa using De
      rw [ag] at h;cases h
  · have:=g3 j (bG aO)
    simp only [aO,Bool.and_eq_true,Bool.or_eq_true,decide_eq_true_eq] at this
    rcases this.2 with h|h
    · exact h
    · have ag:(slotsOf ops q).contains d=true:=by simpa using De
      rw [ag] at h;cases h
 have HX:∀i o,ops[i]?=some o→j0 (dp.map fun x=>x.2.1) o=true→∃(a d:Nat) (c:R),dp[a]?=some (i,d,c)∧o.dst=some d:=by
  intro i o av al
  have:=List.all_eq_true.1 QW i (by simpa using bG av)
  simp only [av,al,Bool.not_true,Bool.false_or] at this
  have ab:i∈dp.map fun x=>x.1:=by simpa using this
  obtain ⟨x,ah,e⟩:=List.mem_map.1 ab
  obtain ⟨a,dI,Df⟩:=List.getElem_of_mem ah
  obtain ⟨p,d,c⟩:=x
  simp only at e;subst e
  have HY:dp[a]?=some (p,d,c):=by rw [List.getElem?_eq_getElem dI,Df]
  obtain ⟨gr,fu,hs,dn,_,_,_,_,_,ax,aI,_,cR,_⟩:=ih a dI
  rw [HY] at ax
  obtain ⟨rfl,rfl,rfl⟩:p=gr∧d=fu∧c=hs:=by simpa using ax
  rw [av] at aI;cases aI
  exact ⟨a,d,c,HY,cR⟩
 have trace:∀j,j<gx.length→∀Ae,gx[j]?=some Ae→∃(T:Nat→Fr) (c:Nat→R) (val:Nat→R),T 0=oV fr (dp.map fun x=>x.2)∧T ops.size=E∧
  ∀i o,ops[i]?=some o→(j0 (dp.map fun x=>x.2.1) o=false→(∃side,pv P ops Ae (c i) (a1 (T i)) o=some (side,val i)∧side)∧T (i+1)=dR (T i) o.dst (val i))∧(j0 (dp.map fun x=>x.2.1) o=true→T (i+1)=T i):=by
  intro j ay Ae QY
  have:=QN aB j ay Ae QY
  obtain ⟨T,c,val,I,J,ai⟩:=QS _ _ _ _ _ this
  simp only [Array.getElem?_toList,Array.length_toList] at J ai
  exact ⟨T,c,val,I,J,fun i o av=>⟨fun al=>(ai i o av).1 (by rw [al];rfl),fun al=>(ai i o av).2 (by rw [al];rfl)⟩⟩
 have HZ:∀{T:Nat→Fr} {val:Nat→R},T 0=oV fr (dp.map fun x=>x.2)→(∀i o,ops[i]?=some o→(j0 (dp.map fun x=>x.2.1) o=false→T (i+1)=dR (T i) o.dst (val i))∧(j0 (dp.map fun x=>x.2.1) o=true→T (i+1)=T i))→_:=
  fun {T val} aq al=>QT D (fun o=>!j0 (dp.map fun x=>x.2.1) o) (T:=T) (val:=val) aq (fun i o av=>⟨fun h=>(al i o av).1 (by simpa using h),fun h=>(al i o av).2 (by simpa using h)⟩)
 have zk:(dp.map fun x=>x.2).map Prod.fst=dp.map fun x=>x.2.1:=by simp
 have Dg:∀t,t∉(dp.map fun x=>x.2.1)→a1 (oV fr (dp.map fun x=>x.2)) t=a1 fr t:=fun t ao=>QQ (by rw [zk];exact ao)
 have H0:∀t,t∈(dp.map fun x=>x.2.1)→∃(j:Nat) (o:Oper),ops[j]?=some o∧o.dst=some t:=fun t ao=>by
  obtain ⟨x,ah,e⟩:=List.mem_map.1 ao
  obtain ⟨a,dI,Df⟩:=List.getElem_of_mem ah
  obtain ⟨gr,fu,hs,dn,_,_,_,_,_,ax,aI,_,cR,_⟩:=ih a dI
  rw [List.getElem?_eq_getElem dI,Df] at ax
  have QZ:=Option.some.inj ax
  subst QZ
  exact ⟨gr,dn,aI,by rw [cR,←e]⟩
 have Dh:∀t,(∀(j:Nat) (o:Oper),ops[j]?=some o→j0 (dp.map fun x=>x.2.1) o=false→o.dst≠some t)→a1 E t=a1 (oV fr (dp.map fun x=>x.2)) t:=by
  intro t hT
  obtain ⟨T,c,val,I,J,ai⟩:=trace 0 (by omega) m vb
  have:=(HZ I (fun i o av=>⟨fun al=>((ai i o av).1 al).2,(ai i o av).2⟩) ops.size (Nat.le_refl _) t).2 fun j o _ av aO=>hT j o av (by simpa using aO)
  rw [J] at this
  exact this
 have H2:∀t,(∀(j:Nat) (o:Oper),ops[j]?=some o→o.dst≠some t)→a1 E t=a1 fr t:=by
  intro t hT
  rw [Dh t fun j o av _=>hT j o av]
  exact Dg t fun ao=>by
   obtain ⟨j,o,av,aY⟩:=H0 t ao
   exact hT j o av aY
 refine wp_region_any hm ?_
 have key:∀fuel (listed:Array Bool) bb lim' w' dj (r:Nat) (oW:ad),listed.size=ops.size→r≤dp.length→gx[r]?=some oW→
  (∀(a p d:Nat) (c:R),dp[a]?=some (p,d,c)→(listed.getD p false=true↔a<r))→
  (∀t,(∀(j:Nat) (o:Oper),ops[j]?=some o→listed.getD j false=true→o.dst=some t→a1 bb t=a1 E t)∧((∀(j:Nat) (o:Oper),ops[j]?=some o→listed.getD j false=true→o.dst≠some t)→a1 bb t=a1 fr t))→
  (∀(j:Nat) (o:Oper) (e:Edge),ops[j]?=some o→listed.getD j false=true→e∈o.after→Region.binds .any e=true→listed.getD e.on false=true)→
  ((List.range ops.size).filter fun j=>!listed.getD j false).length≤fuel→
  bd F lim' w' n bb oW dj []→dc F w lim w' lim'→wpAny P .any ops (ni F lim w n Q) fuel listed dj w':=by
  intro fuel
  have fin:∀(listed:Array Bool) bb lim' w' dj (r:Nat) (oW:ad),r≤dp.length→gx[r]?=some oW→(∀(a p d:Nat) (c:R),dp[a]?=some (p,d,c)→(listed.getD p false=true↔a<r))→
   (∀t,(∀(j:Nat) (o:Oper),ops[j]?=some o→listed.getD j false=true→o.dst=some t→a1 bb t=a1 E t)∧((∀(j:Nat) (o:Oper),ops[j]?=some o→listed.getD j false=true→o.dst≠some t)→a1 bb t=a1 fr t))→
   (∀j,j<ops.size→listed.getD j false=true)→bd F lim' w' n bb oW dj []→dc F w lim w' lim'→ni F lim w n Q .normal dj w':=fun listed bb lim' w' dj r oW au qY eh eI je s1 dL=>by
   have lF:∀t,a1 bb t=a1 E t:=fun t=>by
    obtain ⟨dt,a2⟩:=eI t
    by_cases hex:∃(j:Nat) (o:Oper),ops[j]?=some o∧o.dst=some t
    · obtain ⟨j,o,ay,av⟩:=hex
      exact dt j o ay (je j (bG ay)) av
    · rw [a2 fun j o ay _ av=>hex ⟨j,o,ay,av⟩,H2 t fun j o ay av=>hex ⟨j,o,ay,av⟩]
   have vd:r=dp.length:=by
    rcases Nat.lt_or_ge r dp.length with jI|w4
    · obtain ⟨p,d,c,o,_,_,_,_,_,ax,aI,_⟩:=ih r jI
      have:=(eh r p d c ax).1 (je p (bG aI))
      omega
    · omega
   subst vd
   rw [xN] at qY;cases qY
   have B1:Fr.keep ks E=Fr.keep ks bb:=by
    unfold Fr.keep
    exact List.map_congr_left fun t _=>by have:=lF t;simp only [a1] at this;rw [this]
   rw [B1] at h
   exact ⟨lim',_,M,h,s1.keep (fun t ao=>by simpa using aj.2 t ao),dL⟩
  have done:∀(listed:Array Bool),listed.size=ops.size→Region.ready .any ops listed=[]→∀j,j<ops.size→listed.getD j false=true:=fun listed jJ au j=>by
   induction j using Nat.strongRecOn with
   |_ j aQ=>
    intro ay
    cases ar:listed.getD j false with
    |true=>rfl
    |false=>
     have av:ops[j]?=some ops[j]:=Array.getElem?_eq_getElem ay
     have:j∈Region.ready .any ops listed:=by
      rw [mem_ready]
      refine ⟨?_,_,av,fun e he ae=>aQ e.on (D.back j _ e av he ae) (Nat.lt_trans (D.back j _ e av he ae) ay)⟩
      simp only [Array.getD_eq_getD_getElem?,Array.getElem?_eq_getElem (show j<listed.size by omega),Option.getD_some] at ar ⊢
      exact ar
     rw [au] at this;cases this
  induction fuel with
  |zero=>
   intro listed bb lim' w' dj r oW jJ vd qY eh eI Af xw s1 dL
   have je:∀j,j<ops.size→listed.getD j false=true:=fun j ay=>by
    cases ar:listed.getD j false with
    |true=>rfl
    |false=>
     have:j∈(List.range ops.size).filter fun j=>!listed.getD j false:=List.mem_filter.2 ⟨List.mem_range.2 ay,by rw [ar];rfl⟩
     have:=List.length_pos_of_mem this
     omega
   refine ⟨?_,fin listed bb lim' w' dj r oW vd qY eh eI je s1 dL⟩
   cases au:Region.ready .any ops listed with
   |nil=>rfl
   |cons j rs=>
    have ay:j∈Region.ready .any ops listed:=by rw [au];simp
    rw [mem_ready] at ay
    obtain ⟨I,o,av,_⟩:=ay
    have:=je j (bG av)
    simp only [Array.getD_eq_getD_getElem?,Array.getElem?_eq_getElem (show j<listed.size by have:=bG av;omega),Option.getD_some] at I this
    rw [I] at this;cases this
  |succ fuel aQ=>
   intro listed bb lim' w' dj r oW jJ vd qY eh eI Af xw s1 dL
   refine ⟨fun au=>fin listed bb lim' w' dj r oW vd qY eh eI (done listed jJ au) s1 dL,fun i ab=>?_⟩
   rw [mem_ready] at ab
   obtain ⟨hq,o,av,qT⟩:=ab
   have kT:=bG av
   have rX:listed.getD i false=false:=by
    simp only [Array.getD_eq_getD_getElem?,Array.getElem?_eq_getElem (show i<listed.size by omega),Option.getD_some] at hq ⊢
    exact hq
   obtain ⟨d,iN⟩:=D.dst i o av
   have cO:=aj.1 o (by rw [Array.mem_toList_iff];exact Array.mem_of_getElem? av)
   have H3:∀t∈slotsOf ops o,(∃(j:Nat) (p:Oper),ops[j]?=some p∧p.dst=some t∧j<i∧a1 bb t=a1 E t)∨(∃(j:Nat) (p:Oper),ops[j]?=some p∧p.dst=some t∧i≤j∧a1 bb t=a1 fr t)∨((∀(j:Nat) (p:Oper),ops[j]?=some p→p.dst≠some t)∧a1 bb t=a1 fr t):=fun t ao=>by
    obtain ⟨dt,a2⟩:=eI t
    by_cases hex:∃(j:Nat) (p:Oper),ops[j]?=some p∧p.dst=some t
    · obtain ⟨j,p,ay,aB⟩:=hex
      obtain ⟨ie,iC⟩:=D.looks i j o p t av ay aB ao
      have zQ:∀(hj:Nat) (gr:Oper),ops[hj]?=some gr→gr.dst=some t→hj=j:=fun hj gr iK Di=>D.apart hj j gr p iK ay (by rw [Di,aB])
      by_cases iM:j<i
      · obtain ⟨e,he,tm,tn⟩:=ie iM
        have n7:listed.getD j false=true:=by rw [←tm];exact qT e he tn
        exact .inl ⟨j,p,ay,aB,iM,dt j p ay n7 aB⟩
      · have CQ:listed.getD j false=false:=by
         by_cases hH:i<j
         · obtain ⟨e,he,tm,tn⟩:=iC hH
           cases n7:listed.getD j false with
           |false=>rfl
           |true=>
            have:=Af j p e ay n7 he tn
            rw [tm,rX] at this;cases this
         · have:i=j:=by omega
           subst this;exact rX
        exact .inr (.inl ⟨j,p,ay,aB,by omega,a2 (fun hj gr iK ic Di=>by
         rw [zQ hj gr iK Di,CQ] at ic
         cases ic)⟩)
    · exact .inr (.inr ⟨fun j p ay aB=>hex ⟨j,p,ay,aB⟩,a2 fun j p ay _ aB=>hex ⟨j,p,ay,aB⟩⟩)
   have next:∀(x:R) (dW:Nat) (Ag:ad),x=a1 E d→dW≤dp.length→gx[dW]?=some Ag→(∀(a p d:Nat) (c:R),dp[a]?=some (p,d,c)→((listed.setIfInBounds i true).getD p false=true↔a<dW))→
    ∀hC gG v,bd F hC gG n (bb.put d x) Ag (dj.put o.dst v) []→dc F w lim gG hC→wpAny P .any ops (ni F lim w n Q) fuel (listed.setIfInBounds i true) (dj.put o.dst v) gG:=by
    intro x dW Ag ah jC Q0 Q1 hC gG v s2 xy
    refine aQ (listed.setIfInBounds i true) (bb.put d x) hC gG _ dW Ag (by simp [jJ]) jC Q0 Q1 (fun t=>?_) (fun j p e ay ar he ae=>?_) ?_ s2 xy
    · obtain ⟨dt,a2⟩:=eI t
      rw [uW]
      refine ⟨fun j p ay ar aB=>?_,fun hT=>?_⟩
      · by_cases e:d=t
        · subst e;rw [if_pos rfl,ah]
        · rw [if_neg e]
          have iM:i≠j:=by
           intro b9
           subst b9
           rw [av] at ay
           have bI:o=p:=by simpa using ay
           rw [←bI,iN] at aB
           exact e (by simpa using aB)
          rw [getD_set_ne false iM] at ar
          exact dt j p ay ar aB
      · have e:¬d=t:=fun e=>hT i o av (by simp [show i<listed.size by omega]) (by rw [iN,e])
        rw [if_neg e]
        exact a2 fun j p ay ar=>hT j p ay (getD_set_true ar)
    · by_cases iM:i=j
      · subst iM
        rw [av] at ay;cases ay
        exact getD_set_true (qT e he ae)
      · rw [getD_set_ne false iM] at ar
        exact getD_set_true (Af j p e ay ar he ae)
    · have CR:∀x,(!(listed.setIfInBounds i true).getD x false)=true→(!listed.getD x false)=true:=by
       intro x ah
       cases ar:listed.getD x false with
       |false=>rfl
       |true=>rw [getD_set_true ar] at ah;simp at ah
      have:=filter_lt (fun j=>!listed.getD j false) (fun j=>!(listed.setIfInBounds i true).getD j false) CR (List.range ops.size) i (by simpa using kT) (by rw [rX];rfl) (by simp [show i<listed.size by omega])
      omega
   show wpOp P ops _ i _ dj w'
   unfold wpOp
   rw [av]
   show if Region.wanted o (yielded ops dj.tmps) then _ else _
   cases al:j0 (dp.map fun x=>x.2.1) o with
   |false=>
    obtain ⟨T,c,val,I,J,ai⟩:=trace r (by omega) oW qY
    have uX:=HZ I (fun i o av=>⟨fun al=>((ai i o av).1 al).2,(ai i o av).2⟩)
    obtain ⟨⟨side,xx,tl⟩,_⟩:=(ai i o av).1 al
    have mh:val i=a1 E d:=by
     have:=(uX ops.size (Nat.le_refl _) d).1 i o kT av (by simpa using al) iN
     rw [J] at this;exact this.symm
    have Q2:d∉(dp.map fun x=>x.2.1):=by
     simp only [j0,iN] at al
     intro hW
     have:(dp.map fun x=>x.2.1).contains d=true:=by simpa using hW
     rw [this] at al;cases al
    have lF:∀t∈slotsOf ops o,a1 (T i) t=a1 bb t:=fun t ao=>by
     obtain ⟨bH,ho⟩:=uX i (Nat.le_of_lt kT) t
     rcases H3 t ao with ⟨j,p,ay,aB,iM,e⟩|⟨j,p,ay,aB,hH,e⟩|⟨hT,e⟩
     · rw [e]
       cases mc:j0 (dp.map fun x=>x.2.1) p with
       |false=>
        rw [bH j p iM ay (by simpa using mc) aB]
        have:=(uX ops.size (Nat.le_refl _) t).1 j p (bG ay) ay (by simpa using mc) aB
        rw [J] at this;exact this.symm
       |true=>
        have un:∀(hj:Nat) (q:Oper),ops[hj]?=some q→j0 (dp.map fun x=>x.2.1) q=false→q.dst≠some t:=fun hj q iK aO Dj=>by
         simp only [j0,aB] at mc
         simp only [j0,Dj] at aO
         rw [mc] at aO;cases aO
        rw [ho fun hj q _ iK aO=>un hj q iK (by simpa using aO),Dh t un]
     · rw [e]
       have un:∀(hj:Nat) (q:Oper),ops[hj]?=some q→q.dst=some t→hj=j:=fun hj q iK aO=>D.apart hj j q p iK ay (by rw [aO,aB])
       rw [ho fun hj q jI iK _ Dj=>by have:=un hj q iK Dj;omega]
       refine Dg t fun hW=>?_
       have mc:j0 (dp.map fun x=>x.2.1) p=true:=by simp only [j0,aB];simpa using hW
       obtain ⟨a,fu,hs,ll,qZ⟩:=HX j p ay mc
       rw [aB] at qZ
       obtain rfl:t=fu:=by simpa using qZ
       have dI:a<dp.length:=(List.getElem?_eq_some_iff.1 ll).1
       obtain ⟨gr,fu,hs,dn,_,_,_,_,_,ax,aI,_,cR,_,_,_,_,_,g2⟩:=ih a dI
       rw [ll] at ax
       obtain ⟨rfl,rfl,rfl⟩:j=gr∧t=fu∧_=hs:=by simpa using ax
       have:=g2 i o av ao
       omega
     · rw [e,ho fun hj q _ iK _=>hT hj q iK]
       exact Dg t fun hW=>by
        obtain ⟨j,o,ay,aY⟩:=H0 t hW
        exact hT j o ay aY
    rw [Hl lF] at xx
    refine Hp cO.1 cO.2 xx tl iN s1 fun hC gG Q3 s2 xy _=>?_
    refine next (val i) r oW mh vd qY (fun a p fu hs ll=>?_) hC gG Q3 s2 (dL.trans xy)
    have ig:i≠p:=fun e=>by
     subst e
     have dI:a<dp.length:=(List.getElem?_eq_some_iff.1 ll).1
     obtain ⟨gr,Dk,r5,dn,_,_,_,_,_,ax,aI,_,cR,_⟩:=ih a dI
     rw [ll] at ax
     obtain ⟨rfl,rfl,rfl⟩:i=gr∧fu=Dk∧hs=r5:=by simpa using ax
     rw [av] at aI;cases aI
     rw [iN] at cR
     obtain rfl:d=fu:=by simpa using cR
     exact Q2 (List.mem_map.2 ⟨_,List.mem_of_getElem? ll,rfl⟩)
    rw [getD_set_ne false ig]
    exact eh a p fu hs ll
   |true=>
    obtain ⟨a,fu,hs,ll,qZ⟩:=HX i o av al
    rw [iN] at qZ
    obtain rfl:d=fu:=by simpa using qZ
    have dI:a<dp.length:=(List.getElem?_eq_some_iff.1 ll).1
    obtain ⟨gr,fu,r5,dn,f,args,bC,vc,tu,ax,aI,a8,cR,bI,r4,kR,qd,g1,g2⟩:=ih a dI
    rw [ll] at ax
    obtain ⟨rfl,rfl,rfl⟩:i=gr∧d=fu∧hs=r5:=by simpa using ax
    rw [av] at aI;cases aI
    have qP:r=a:=by
     have cX:¬a<r:=fun jI=>by
      have:=(eh a i d hs ll).2 jI
      rw [rX] at this;cases this
     have cI:a≤r:=by
      cases a with
      |zero=>exact Nat.zero_le _
      |succ a=>
       obtain ⟨gr,fu,r5,dn,_,_,_,_,_,ax,aI,_⟩:=ih a (by omega)
       have zr:=QP QV a gr i (by simp [ax]) (by simp [ll])
       have kq:=CN (p:=fun j=>listed.getD j false=true) (ops:=ops) (fun j ay e he=>by
        have Q4:j<ops.size:=by
         rcases Nat.lt_or_ge j ops.size with h|h
         · exact h
         · have:ops[j]?=none:=Array.getElem?_eq_none h
           simp [nr,this] at he
        have hr:ops[j]?=some ops[j]:=Array.getElem?_eq_getElem Q4
        obtain ⟨b9,qS,e8,rfl⟩:=(tj hr).1 he
        exact Af j _ b9 hr ay qS e8) i (nr ops i) (fun j ay=>by
         obtain ⟨b9,qS,e8,rfl⟩:=(tj av).1 ay
         exact qT b9 qS e8) gr zr
       have:=(eh a gr fu r5 ax).1 kq
       omega
     omega
    subst qP
    rw [qY] at r4;cases r4
    have Q5:∀t∈slotsOf ops o,a1 E t=a1 bb t:=fun t ao=>by
     rcases H3 t ao with ⟨j,p,ay,aB,iM,e⟩|⟨j,p,ay,aB,hH,e⟩|⟨hT,e⟩
     · exact e.symm
     · have:=g1 j p t ay aB ao;omega
     · rw [e,H2 t hT]
    have Q6:hs.plain=a1 E d:=by
     rw [Dh d fun j q ay aO Q7=>by
      simp only [j0,iN] at al
      simp only [j0,Q7] at aO
      rw [al] at aO;cases aO]
     exact (QR (by rw [zk];exact va) (List.mem_map.2 ⟨_,List.mem_of_getElem? ll,rfl⟩)).symm
    rw [if_pos (by simp [Region.wanted,a8])]
    refine .inl ?_
    have ft:=hV cO.1
    have jU:args.toList.map (bx (a1 E))=args.toList.map (bx (a1 bb)):=List.map_congr_left fun y aE=>uU (op:=o.op) (fun t ao=>Q5 t (List.mem_append.2 (.inr ao))) y (by rw [bI];simp [Op.operands,Call.operands];exact .inr (by simpa using aE))
    rw [jU] at qd
    have ck:=uS (ca:=dj) (a:=bx (a1 bb)) (args:=args) (fun y aE=>ff s1 (ft y (by rw [bI];simp [Op.operands,Call.operands];exact .inr (by simpa using aE))))
    refine xj (qd (fun bR m'=>bR=hs∧m'=tu) ⟨rfl,rfl⟩) s1 ck.1 ck.2 (fun fn g1 g2 g3=>by simp [execOp,bI,resolve,Deferred.ofValue,Act.eval,invoke,uR _ g1 g2 g3]) fun v x hC gG m' os U c1 kU ee=>?_
    obtain ⟨rfl,rfl⟩:=U
    have s2:bd F hC gG n (bb.put d x.plain) m' (dj.put o.dst v) []:=by rw [iN];exact kU.drop.set (iJ cO.1 iN) c1.plain
    refine next x.plain (r+1) m' Q6 (by omega) kR (fun a p fu r5 ve=>?_) hC gG v s2 (dL.trans ee)
    by_cases ig:i=p
    · subst ig
      have Q8:a=r:=by
       have I:dp.map (fun x=>x.2.1)=dp.map (fun x=>x.2.1):=rfl
       have Ah:a<dp.length:=(List.getElem?_eq_some_iff.1 ve).1
       obtain ⟨gr,Dk,c3,dn,_,_,_,_,_,ax,aI,_,H4,_⟩:=ih a Ah
       rw [ve] at ax
       obtain ⟨rfl,rfl,rfl⟩:i=gr∧fu=Dk∧r5=c3:=by simpa using ax
       rw [av] at aI;cases aI
       rw [iN] at H4
       obtain rfl:d=fu:=by simpa using H4
       have aL:=List.nodup_iff_pairwise_ne.1 va
       rw [List.pairwise_iff_getElem] at aL
       have H5:(dp.map fun x=>x.2.1)[a]'(by simpa using Ah)=d:=by
        have:=(List.getElem?_eq_some_iff.1 ve).2;simp [this]
       have H6:(dp.map fun x=>x.2.1)[r]'(by simpa using dI)=d:=by
        have:=(List.getElem?_eq_some_iff.1 ll).2;simp [this]
       rcases Nat.lt_trichotomy a r with jI|jI|jI
       · exact absurd (by rw [H5,H6]) (aL a r (by simpa using Ah) (by simpa using dI) jI)
       · exact jI
       · exact absurd (by rw [H5,H6]) (aL r a (by simpa using dI) (by simpa using Ah) jI)
      subst Q8
      have:(listed.setIfInBounds i true).getD i false=true:=by simp [show i<listed.size by omega]
      rw [this];simp
    · rw [getD_set_ne false ig]
      have eB:a≠r:=fun e=>by
       subst e
       rw [ll] at ve
       obtain ⟨I,_⟩:i=p∧_:=by simpa using ve
       exact ig I
      rw [eh a p fu r5 ve]
      omega
 refine key ops.size (Array.replicate ops.size false) fr lim _ ca 0 m (by simp) (Nat.zero_le _) vb (fun a p d c ll=>?_) (fun t=>⟨fun j o ay ar=>?_,fun _=>rfl⟩) (fun j o e ay ar=>?_) ?_ (st.heap (w':={w with drawn:=w.drawn+1}) rfl) (dc.drew F w lim)
 · have dI:a<dp.length:=(List.getElem?_eq_some_iff.1 ll).1
   obtain ⟨gr,fu,hs,dn,_,_,_,_,_,ax,aI,_⟩:=ih a dI
   rw [ll] at ax
   obtain ⟨rfl,rfl,rfl⟩:p=gr∧d=fu∧c=hs:=by simpa using ax
   have:=bG aI
   simp [Array.getD_eq_getD_getElem?,this]
 · have:=bG ay
   simp [Array.getD_eq_getD_getElem?,this] at ar
 · have:=bG ay
   simp [Array.getD_eq_getD_getElem?,this] at ar
 · refine Nat.le_trans (List.length_filter_le _ _) (by simp)
theorem H7 {id:Nat} {ops:Array Oper} {Q:Exit→Fr→ad→Prop} (hm:P.follows .mixedOrders=true) (nw:List (Nat×Nat)) (dp:List (Nat×Nat×R)) (gx:List ad) (cs:List R) (ks:List Nat) (E:Fr) (M:ad) (aj:iL n ops ks=true)
 (aY:Ad ops nw=true) (va:(nw.map Prod.snd).Nodup) (qZ:dp.map (fun x=>(x.1,x.2.1))=nw) (vb:gx[0]?=some m) (xN:gx[dp.length]?=some M) (hlen:gx.length=dp.length+1)
 (ag:xL P ops E gx (dp.map fun x=>(x.1,x.2.2)))
 (aB:allM (fun m=>hN P ops m cs (ops.toList.filter fun o=>!j0 (dp.map fun x=>x.2.1) o) (oV fr (dp.map fun x=>x.2)) (fun bb=>bb=E)) gx)
 (h:∀K:Fr→ad→Prop,(∀fr m,Q .normal fr m→K fr m)→K (E.keep ks) M):b7 P n (.region id ops true) Q fr m:=by
 subst qZ
 exact QU hm dp gx cs ks E M aj aY (by simpa [Function.comp_def] using va) vb xN hlen ag aB h
theorem Q9 {id:Nat} {ops:Array Oper} {x:Code} {Q:Exit→Fr→ad→Prop} (hm:P.follows .mixedOrders=true) (nw:List (Nat×Nat)) (dp:List (Nat×Nat×R)) (gx:List ad) (cs:List R) (ks:List Nat) (E:Fr) (M:ad) (aj:iL n ops ks=true)
 (aY:Ad ops nw=true) (va:(nw.map Prod.snd).Nodup) (qZ:dp.map (fun x=>(x.1,x.2.1))=nw) (vb:gx[0]?=some m) (xN:gx[dp.length]?=some M) (hlen:gx.length=dp.length+1)
 (ag:xL P ops E gx (dp.map fun x=>(x.1,x.2.2)))
 (aB:allM (fun m=>hN P ops m cs (ops.toList.filter fun o=>!j0 (dp.map fun x=>x.2.1) o) (oV fr (dp.map fun x=>x.2)) (fun bb=>bb=E)) gx)
 (h:∀K:Fr→ad→Prop,(∀fr m,b7 P n x Q fr m→K fr m)→K (E.keep ks) M):b7 P n (.seq (.region id ops true) x) Q fr m:=
 rJ fun K U=>H7 hm nw dp gx cs ks E M aj aY va qZ vb xN hlen ag aB fun iD xA=>h iD fun fr m aO=>xA _ _ (U _ _ aO)
theorem H8 {f:Nat} {args:List R} {m1 m2 H9 Ia:ad} (e:m1=H9) (aI:m2=Ia) {x:R} (h:∀K:R→ad→Prop,K x Ia→bn P f args H9 K):∀K:R→ad→Prop,K x m2→bn P f args m1 K:=by
 subst e;subst aI;exact h
end
end Go.bh
end
section
namespace Go.bh
open Go Go.RowKit Go.WideShapes Go.ChangeShapes
def xO (P:Program) (fuel:Nat) (t:TypeId) {α:Type} (f:α→R) (ok:α→Prop):Prop:=
 ∀(H:Type) (enc:TypeId×Value→H) (W:World) (sp:Nat→Bool) (cs:List Value) (d:DataW H) (ps:List MemPlace),DataW.trod enc P W 0 sp true fuel t cs=some (d,ps)→(∀n∈d.weights P t,n≤reachBytes)→
  ∃x:α,ok x∧(f x).cells.length=cs.length∧∀i,i<cs.length→aF W (ma W) (cs.getD i undef) ((f x).cells.getD i .aP) []
section
variable {P:Program} {fuel:Nat} {t e:TypeId}
theorem xO.mono {α:Type} {f:α→R} {ok Ib:α→Prop} (h:xO P fuel t f ok) (aj:∀x,ok x→Ib x):xO P fuel t f Ib:=fun H enc W sp cs d ps I J=>by
 obtain ⟨x,ai,ah⟩:=h H enc W sp cs d ps I J
 exact ⟨x,aj x ai,ah⟩
theorem xO.arg {α:Type} {f:α→R} {ok:α→Prop} {H:Type} {enc:TypeId×Value→H} {W:World} {sp:Nat→Bool} {cs:List Value} {v:Value} {d:DataW H} {ps:List MemPlace} (au:∀n,xO P n t f ok) (bc:v.cells.toList=cs) (aY:DataW.Trod enc P W 0 sp true t v d ps) (hw:∀n∈d.weights P t,n≤reachBytes):
 ∃x:α,ok x∧(f x).cells.length=cs.length∧∀i,i<cs.length→aF W (ma W) (cs.getD i undef) ((f x).cells.getD i .aP) []:=by
 obtain ⟨n,aL⟩:=aY
 rw [bc] at aL
 exact au n H enc W sp _ d ps aL hw
end
end Go.bh
end
section
namespace Go.bh
open Go Go.RowKit Go.WideShapes Go.ChangeShapes
structure nx (bk:{H:Type}→DataW H→Nat) (bkA:{H:Type}→List (DataW H)→Nat):Prop where
 cons:∀{H:Type} (d:DataW H) (l:List (DataW H)),bkA (d::l)=bk d+bkA l
 slice:∀{H:Type} (e s:List (DataW H)),bkA e+1≤bk (.slice e s)
 agg:∀{H:Type} (p:List (DataW H)),bkA p+1≤bk (.agg p)
def mN (bk:{H:Type}→DataW H→Nat) (P:Program) (fuel:Nat) (t:TypeId) {α:Type} (f:α→R) (sz:α→Nat):Prop:=
 ∀(H:Type) (enc:TypeId×Value→H) (W:World) (sp:Nat→Bool) (cs:List Value) (d:DataW H) (ps:List MemPlace),DataW.trod enc P W 0 sp true fuel t cs=some (d,ps)→(∀n∈d.weights P t,n≤reachBytes)→
  ∃x:α,sz x≤bk d∧(f x).cells.length=cs.length∧∀i,i<cs.length→aF W (ma W) (cs.getD i undef) ((f x).cells.getD i .aP) []
section
variable {bk:{H:Type}→DataW H→Nat} {bkA:{H:Type}→List (DataW H)→Nat} {P:Program} {fuel:Nat} {t e:TypeId}
theorem Rd.toB {α:Type} {f:α→R} (h:Rd P fuel t f):mN bk P fuel t f (fun _=>0):=by
 intro H enc W sp cs d ps I J
 obtain ⟨x,ai,aC⟩:=h H enc W sp cs d ps I J
 exact ⟨x,Nat.zero_le _,ai,aC⟩
theorem nx.at (b4:nx bk bkA) {H:Type}:∀{p:List (DataW H)} {i:Nat} {d:DataW H},p[i]?=some d→bk d≤bkA p
 |a::p,0,d,h=>by
  simp only [List.getElem?_cons_zero,Option.some.injEq] at h
  subst h;rw [b4.cons];omega
 |a::p,i+1,d,h=>by
  simp only [List.getElem?_cons_succ] at h
  have:=b4.at h
  rw [b4.cons];omega
 |[],i,d,h=>by simp at h
theorem nx.two (b4:nx bk bkA) {H:Type}:∀{p:List (DataW H)} {i j:Nat} {d fu:DataW H},i<j→p[i]?=some d→p[j]?=some fu→bk d+bk fu≤bkA p
 |a::p,0,j+1,d,fu,_,h,cb=>by
  simp only [List.getElem?_cons_zero,Option.some.injEq,List.getElem?_cons_succ] at h cb
  subst h
  have:=b4.at cb
  rw [b4.cons];omega
 |a::p,i+1,j+1,d,fu,hH,h,cb=>by
  simp only [List.getElem?_cons_succ] at h cb
  have:=b4.two (by omega) h cb
  rw [b4.cons];omega
 |a::p,i,0,d,fu,hH,h,cb=>by omega
 |[],i,j,d,fu,_,h,_=>by simp at h
theorem Ic (b4:nx bk bkA) {H:Type}:∀(fC:List (DataW H)) (g:Nat→Nat) (n:Nat),n≤fC.length→(∀i d,i<n→fC[i]?=some d→g i≤bk d)→((List.range n).map g).sum≤bkA fC
 |fC,g,0,_,_=>by simp
 |[],g,n+1,h,_=>by simp at h
 |d::fC,g,n+1,h,a8=>by
  have aq:=a8 0 d (by omega) rfl
  have aQ:=Ic b4 fC (fun i=>g (i+1)) n (by simp at h;omega) (fun i fu ab aY=>a8 (i+1) fu (by omega) (by simpa using aY))
  have e:(List.range (n+1)).map g=g 0::(List.range n).map (fun i=>g (i+1)):=by
   rw [List.range_succ_eq_map,List.map_cons,List.map_map];rfl
  rw [e,List.sum_cons,b4.cons];omega
theorem xP (b4:nx bk bkA) {α:Type} [Inhabited α] {f:α→R} {z:α→Nat} {sz:Nat} (ao:P.underlying t=some (.slice e)) (b2:P.cellsOf e=sz) (jg:0<sz) (Ra:0<P.bytesOf e) (aW:∀x,(f x).cells.length=sz) (au:∀n,n<fuel→mN bk P n e f z):mN bk P fuel t (uZ f) (fun l=>(l.map z).sum):=by
 intro H enc W sp cs d ps h hw
 rcases DataW.trod_slice ao h with ⟨rfl,_⟩|⟨a,len,cap,elems,rest,n,rfl,rfl,ah,ae,ar,hm,hlen,py,mc,Z9⟩
 · refine ⟨[],by simp,rfl,fun i ab=>?_⟩
   obtain rfl:i=0:=by simpa using ab
   exact .fz false
 simp only [Prod.mk.injEq] at ah
 obtain ⟨rfl,rfl⟩:=ah
 simp only [DataW.weights,ao] at hw
 have Ie:=hw _ (List.mem_cons_self ..)
 simp only [List.length_map] at Ie
 have Ig:len≤140737488355328:=by
  have I:len*1≤(elems.length+rest.length)*P.bytesOf e:=Nat.mul_le_mul (by omega) Ra
  unfold reachBytes at Ie;omega
 rcases Nat.eq_zero_or_pos len with aq|aq
 · subst aq
   refine ⟨[],by simp,rfl,fun i ab=>?_⟩
   obtain rfl:i=0:=by simpa using ab
   exact .empty a cap hm
 have each:∀i (ab:i<len),∃(x:α) (lg:List Value),z x≤bk (elems[i]'(by omega)).1∧W.cells? 0 (a.add (i*sz)) sz=some lg∧(∀j,j<sz→aF W (ma W) (lg.getD j undef) ((f x).cells.getD j .aP) []):=fun i ab=>by
  have I:=py i ab
  rw [b2,List.getElem?_eq_getElem (show i<elems.length by omega),Option.bind_eq_some_iff] at I
  obtain ⟨lg,J,ai⟩:=I
  have xk:DataW.trod enc P W 0 sp true n e lg=some ((elems[i]'(by omega)).1,(elems[i]'(by omega)).2):=ai
  obtain ⟨x,xQ,b5,eO⟩:=au n (Nat.lt_succ_self n) H enc W sp lg _ _ xk (fun k aj=>hw k (List.mem_cons_of_mem _ (List.mem_append_left _ (HJ (List.mem_map.2 ⟨_,List.getElem_mem (show i<elems.length by omega),rfl⟩) k aj))))
  have lL:lg.length=sz:=by rw [←b5,aW]
  exact ⟨x,lg,xQ,J,fun j ay=>eO j (by omega)⟩
 have mc:a.spot=none:=by
  obtain ⟨x,lg,_,I,_⟩:=each 0 aq
  have:=(World.cells?_some I).2.2 0 jg
  obtain ⟨b,off,spot⟩:=a
  cases spot with
  |none=>rfl
  |some s=>
   have lL:=(World.cells?_some I).2.1
   rw [List.getElem?_eq_getElem (by omega)] at this
   unfold World.cell? at this
   simp [Addr.add] at this
   split at this<;>simp_all
 obtain ⟨b,off,spot⟩:=a
 simp only at mc
 subst mc
 have a8:∀i:Nat,∃x:α×List Value,∀(ab:i<len),z x.1≤bk (elems[i]'(by omega)).1∧W.cells? 0 ((⟨b,off,none⟩:Addr).add (i*sz)) sz=some x.2∧(∀j,j<sz→aF W (ma W) (x.2.getD j undef) ((f x.1).cells.getD j .aP) []):=fun i=>by
  by_cases ab:i<len
  · obtain ⟨x,lg,aq,I,J⟩:=each i ab
    exact ⟨(x,lg),fun _=>⟨aq,I,J⟩⟩
  · exact ⟨(default,[]),fun h=>absurd h ab⟩
 obtain ⟨g,a8⟩:=Classical.axiomOfChoice a8
 have fU:∀i j,i<len→j<sz→W.cell? ⟨b,off+i*sz+j,none⟩=some ((g i).2.getD j undef):=fun i j ab ay=>by
  have I:=(a8 i ab).2.1
  have J:=(World.cells?_some I).2.2 j ay
  have ai:=(World.cells?_some I).2.1
  rw [Addr.add_lit,Addr.add_lit] at J
  rw [J,List.getD_eq_getElem?_getD,List.getElem?_eq_getElem (by omega)];rfl
 refine ⟨(List.range len).map fun i=>(g i).1,?_,rfl,fun i ab=>?_⟩
 · have I:=Ic b4 (elems.map Prod.fst) (fun i=>z (g i).1) len (by rw [List.length_map];omega) (fun i d ab aY=>by
    have j1:i<elems.length:=by omega
    rw [List.getElem?_map,List.getElem?_eq_getElem j1] at aY
    simp only [Option.map_some,Option.some.injEq] at aY
    subst aY
    exact (a8 i ab).1)
   have J:=b4.slice (elems.map Prod.fst) (rest.map Prod.fst)
   simp only [List.map_map]
   have e:((List.range len).map (z∘fun i=>(g i).1)).sum=((List.range len).map fun i=>z (g i).1).sum:=rfl
   show ((List.range len).map (z∘fun i=>(g i).1)).sum≤_
   rw [e]
   have ai:∀s:List (DataW H),bkA (elems.map Prod.fst)+1≤bk (DataW.slice (elems.map Prod.fst) s):=fun s=>b4.slice _ s
   exact Nat.le_trans I (Nat.le_trans (Nat.le_succ _) (ai _))
 obtain rfl:i=0:=by simpa using ab
 have gi:∀i,i<len→(((List.range len).map fun i=>(g i).1).map f).getD i .aP=f (g i).1:=fun i ab=>by
  simp [List.getD_eq_getElem?_getD,ab]
 refine aF.slice b off len cap sz _ (fun i j=>(g i).2.getD j undef) (by simp) ar hm Ig (fun i ab=>by rw [gi i ab];exact aW _) ?_ fU (fun i j ab ay=>by rw [gi i ab];exact (a8 i ab).2.2 j ay)
 have I:=PQ (fU (len- 1) (sz- 1) (by omega) (by omega))
 have J:len*sz=(len- 1)*sz+sz:=by rw [←Nat.succ_mul];congr 1;omega
 omega
theorem xR (b4:nx bk bkA) {cA:Array Field} (ao:P.underlying t=some (.struct cA)) {H:Type} {enc:TypeId×Value→H} {W:World} {sp:Nat→Bool} {cs:List Value} {d:DataW H} {ps:List MemPlace} (h:DataW.trod enc P W 0 sp true fuel t cs=some (d,ps)) (hw:∀n∈d.weights P t,n≤reachBytes):
 cs.length=P.cellsOf t∧∃p:List (DataW H),bkA p+1≤bk d∧∀(i:Nat) (f:Field) {α:Type} (g:α→R) (z:α→Nat),cA[i]?=some f→(∀n,n<fuel→mN bk P n f.type g z)→f.offset+P.cellsOf f.type≤P.cellsOf t→
  ∃(x:α) (Ih:DataW H),p[i]?=some Ih∧z x≤bk Ih∧(g x).cells.length=P.cellsOf f.type∧∀j,j<P.cellsOf f.type→aF W (ma W) (cs.getD (f.offset+j) undef) ((g x).cells.getD j .aP) []:=by
 obtain ⟨xs,n,rfl,ah,ar,Rb,aW⟩:=DataW.trod_struct ao h
 simp only [Prod.mk.injEq] at ah
 obtain ⟨rfl,rfl⟩:=ah
 refine ⟨ar,_,b4.agg _,fun i f α g z ab au av=>?_⟩
 have I:=aW i f ab
 have j1:i<xs.length:=by
  rw [Rb];exact (Array.getElem?_eq_some_iff.1 ab).1
 rw [List.getElem?_eq_getElem j1] at I
 have Dl:DataW.trod enc P W 0 sp true n f.type ((cs.drop f.offset).take (P.cellsOf f.type))=some ((xs[i]).1,(xs[i]).2):=I
 simp only [DataW.weights,ao] at hw
 obtain ⟨x,xQ,b5,eO⟩:=au n (Nat.lt_succ_self n) H enc W sp _ _ _ Dl (fun k aj=>hw k (HR (i:=i) (t:=f.type) (by simp [ab]) (by simp [j1]) k aj))
 have hlen:((cs.drop f.offset).take (P.cellsOf f.type)).length=P.cellsOf f.type:=by
  rw [List.length_take,List.length_drop];omega
 refine ⟨x,xs[i].1,by simp [j1],xQ,by rw [b5,hlen],fun j ay=>?_⟩
 have J:=eO j (by omega)
 have e:((cs.drop f.offset).take (P.cellsOf f.type)).getD j undef=cs.getD (f.offset+j) undef:=by
  simp [List.getD_eq_getElem?_getD,ay]
 rwa [e] at J
theorem mN.arg {α:Type} {f:α→R} {z:α→Nat} {H:Type} {enc:TypeId×Value→H} {W:World} {sp:Nat→Bool} {v:Value} {d:DataW H} {ps:List MemPlace} (au:∀n,mN bk P n t f z) (aW:∀x,(f x).cells=[f x]) (bc:v.cells.toList=[v]) (aY:DataW.Trod enc P W 0 sp true t v d ps) (hw:∀n∈d.weights P t,n≤reachBytes):
 ∃x:α,z x≤bk d∧aF W (ma W) v (f x) []:=by
 obtain ⟨n,aL⟩:=aY
 obtain ⟨x,aq,I,J⟩:=au n H enc W sp _ d ps aL hw
 refine ⟨x,aq,?_⟩
 rw [bc] at J
 have:=J 0 (by simp)
 rw [aW] at this
 exact this
end
end Go.bh
end
section
namespace Go.bh
open Go
section
variable {P:Program} {n:Nat} {fr:Fr} {m:ad} {ops:Array Oper} {fuel:Nat} {listed:Array Bool} {K:Fr→ad→Prop}
theorem Dm {Q ha:Exit→Act→World→Prop} (h:∀e a w,Q e a w→ha e a w) (ar:LetsOut Q→LetsOut ha) {md:Region.Mode}:∀(fuel:Nat) (listed:Array Bool) (a:Act) (w:World),wpAny P md ops Q fuel listed a w→wpAny P md ops ha fuel listed a w
 |0,_,_,_,ba=>⟨ba.1,h _ _ _ ba.2⟩
 |fuel+1,listed,a,w,ba=>by
  refine ⟨fun aq=>h _ _ _ (ba.1 aq),fun i ab=>?_⟩
  have I:=wpOp_mono (fun cw w' cb=>Dm h ar fuel _ cw w' cb) (ba.2 i ab)
  unfold wpOp at I ⊢
  cases av:ops[i]? with
  |none=>rw [av] at I;exact I
  |some o=>
   rw [av] at I
   simp only at I ⊢
   split
   · next hw=>
     rw [if_pos hw] at I
     refine I.imp (fun J=>?_) fun J=>⟨J.1,ar J.2⟩
     unfold Oper.wp at J ⊢
     generalize (execOp a.eval o).run P w=r at J ⊢
     cases r with
     |ok Rc w'=>
      cases Rc<;>simp only [Oper.upon] at J ⊢<;>
       first
        |exact J
        |exact Calls.mono J (fun e gG he=>by cases e<;>first|exact he|exact h _ _ _ he|exact ar he)
     |halt x w'=>cases x<;>simp only [Oper.upon] at J ⊢<;>first|exact J|exact h _ _ _ J|exact ar J
   · next hw=>
     rw [if_neg hw] at I
     exact I
def xS (ops:Array Oper) (listed:Array Bool) (i:Nat) (o:Oper):Bool:=
 o.guard.isNone&&(Region.ready .any ops listed).contains i&&
 (ops.toList.all fun q=>match q.op with| .select _ _=>false|_=>true)&&
 (List.range ops.size).all fun j=>match ops[j]? with
   |some q=>j==i||listed.getD j true||q.after.toList.any (fun e=>Region.binds .any e&&e.on==i)||o.apart ops q
   |none=>true
theorem b8.Dn {i:Nat} {o:Oper} {d:Nat} {x:R} (ab:ops[i]?=some o) (jm:o.dst=some d) (fl:d<n) (ae:xS ops listed i o=true)
 (bc:∀F lim w ca,bd F lim w n fr m ca []→∃v,(∀w',(execOp ca.eval o).run P w'= .ok (.value v) w')∧aF w lim v x [])
 (h:b8 P n ops fuel (listed.setIfInBounds i true) K (fr.put d x) m):b8 P n ops (fuel+1) listed K fr m:=by
 intro F lim w ca Q st aO
 obtain ⟨v,Dp,Dq⟩:=bc F lim w ca st
 simp only [xS,Bool.and_eq_true,List.all_eq_true,List.contains_iff_mem] at ae
 obtain ⟨⟨⟨a8,au⟩,al⟩,aH⟩:=ae
 let ha:Exit→Act→World→Prop:=fun e a w=>match e with
  | .normal=>Q .normal a w
  |e=>∀b w',Q e b w'
 have I:wpAny P .any ops ha fuel (listed.setIfInBounds i true) (ca.put (some d) v) w:=h F lim w (ca.put (some d) v) ha (show bd F lim w n (bh.dR fr (some d) x) m (ca.put (some d) v) [] from st.dR (fun t ao=>by cases ao;exact fl) Dq) aO
 have J:wpAny P .any ops ha (fuel+1) listed ca w:=by
  refine wpAny_first (v:=v) ab (fun j q cs b ay ag=>?_) (fun c a w ba=>ba) fuel listed ca w (fun j q ay iM n7 eB=>?_) au (.inl ⟨?_,Dp⟩) (by rw [jm];exact I)
  · have:=al q (by rw [Array.mem_toList_iff];exact Array.mem_of_getElem? ay)
    rw [ag] at this;cases this
  · have q0:j<ops.size:=(Array.getElem?_eq_some_iff.1 ay).1
    have:=aH j (List.mem_range.2 q0)
    rw [ay] at this
    simp only [Bool.or_eq_true,beq_iff_eq,List.any_eq_true,Bool.and_eq_true] at this
    rcases this with ((ai|ai)|⟨e,he,ai,aC⟩)|ai
    · exact absurd ai iM
    · rw [n7] at ai;cases ai
    · exact absurd aC (eB e (by simpa using he) ai)
    · exact ai
  · unfold Region.wanted
    cases gi:o.guard with
    |none=>rfl
    |some g=>rw [gi] at a8;cases a8
 have hm:∀e a w,ha e a w→Q e a w:=fun e a w ba=>by cases e<;>first|exact ba|exact ba a w
 exact Dm hm (fun ⟨a,w,ba⟩=>⟨a,w,hm _ _ _ ba⟩) _ _ _ _ J
theorem b8.Ii {i:Nat} {o:Oper} {y:Operand} {d:Nat} {x:R} (ab:ops[i]?=some o) (av:o.op= .move y) (jm:o.dst=some d) (fl:d<n) (aE:kl y=true) (ae:xS ops listed i o=true) (ah:bx (a1 fr) y=x)
 (h:b8 P n ops fuel (listed.setIfInBounds i true) K (fr.put d x) m):b8 P n ops (fuel+1) listed K fr m:=by
 refine b8.Dn ab jm fl ae (fun F lim w ca st=>?_) h
 subst ah
 exact ⟨ca.eval y,fun w'=>by simp [execOp,av],ff st aE⟩
theorem b8.Ij {i:Nat} {o:Oper} {y:Operand} {d:Nat} {a:Addr} (ab:ops[i]?=some o) (av:o.op= .nilCheck y) (jm:o.dst=some d) (fl:d<n) (aE:kl y=true) (ae:xS ops listed i o=true) (ah:bx (a1 fr) y= .ptr a)
 (h:b8 P n ops fuel (listed.setIfInBounds i true) K (fr.put d (.ptr a)) m):b8 P n ops (fuel+1) listed K fr m:=by
 refine b8.Dn ab jm fl ae (fun F lim w ca st=>?_) h
 have au:=ff st aE
 rw [ah] at au
 have he:=oN au
 exact ⟨.pointer (some a),fun w'=>by simp [execOp,av,he], .ptr a⟩
theorem b8.Ik {i:Nat} {o:Oper} {s:TypeId} {y:Operand} {f d:Nat} {a cw:Addr} {side:Prop} (ab:ops[i]?=some o) (av:o.op= .fieldAddr s y f) (jm:o.dst=some d) (fl:d<n) (aE:kl y=true) (ae:xS ops listed i o=true) (ah:bx (a1 fr) y= .ptr a)
 (aO:bw P m (bx (a1 fr)) (.fieldAddr s y f)=some (side, .ptr cw)) (al:side)
 (h:b8 P n ops fuel (listed.setIfInBounds i true) K (fr.put d (.ptr cw)) m):b8 P n ops (fuel+1) listed K fr m:=by
 refine b8.Dn ab jm fl ae (fun F lim w ca st=>?_) h
 have au:=ff st aE
 rw [ah] at au
 have he:=oN au
 refine ⟨.pointer (some cw),fun w'=>?_, .ptr cw⟩
 obtain ⟨v,I,J⟩:=GM (w:=w') (lim:=lim) (ca:=ca) av aO al (by rw [ah,he];exact .ptr a)
 rw [oN J] at I
 exact I
end
abbrev cS (b:Nat):R:= .ptr ⟨b,0,none⟩
abbrev bl (n:Int):R:= .int .i64 n
abbrev oX (l:List R):R:= .slice false l
abbrev iQ (l:List R):R:= .slice true l
abbrev bX (m:ad) (L:List (Nat×ed)):ad:=ad.aX m L
theorem bg:True:=trivial
abbrev dE:=@mL
abbrev hb:=@CS
abbrev ht:=@HG
abbrev r6:=@Qn
abbrev fg:=@oa
abbrev ln:=@rJ
abbrev jn:=@uI
abbrev r7:=@C2
abbrev Il:=@congrArg
theorem kV {α:Type} {p:α→Prop}:∀x∈([]:List α),p x:=fun _ h=>by cases h
theorem dF {a b:Nat} (h:Nat.ble a b=true):a≤b:=Nat.le_of_ble_eq_true h
end Go.bh
end
section
namespace Go.bS
open Go Go.bh
inductive bM where
 |lit (b:Bool)
 |lt (a b:Int)
 |le (a b:Int)
 |r8 (a b:Int)
 |eqs (a b:List UInt8)
 |Ai (a b:Bool)
 |not (c:bM)
 |raw (b:Bool)
def bM.val:bM→Bool
 | .lit b=>b
 | .lt a b=>decide (a<b)
 | .le a b=>decide (a≤b)
 | .r8 a b=>a==b
 | .eqs a b=>a==b
 | .Ai a b=>a==b
 | .not c=>!c.val
 | .raw b=>b
def bM.ways:bM→Prop→Prop→Prop
 | .lit true,t,_=>t
 | .lit false,_,f=>f
 | .lt a b,t,f=>(a<b→t)∧(b≤a→f)
 | .le a b,t,f=>(a≤b→t)∧(b<a→f)
 | .r8 a b,t,f=>(a=b→t)∧(a≠b→f)
 | .eqs a b,t,f=>(a=b→t)∧(a≠b→f)
 | .Ai a b,t,f=>(a=b→t)∧(a≠b→f)
 | .not c,t,f=>c.ways f t
 | .raw b,t,f=>(b=true→t)∧(b=false→f)
theorem bM.xT:∀(c:bM) {t f:Prop},c.ways t f→(c.val=true→t)∧(c.val=false→f)
 | .lit true,_,_,h=>⟨fun _=>h,fun e=>by cases e⟩
 | .lit false,_,_,h=>⟨(fun e=>by cases e),fun _=>h⟩
 | .lt a b,_,_,h=>⟨fun e=>h.1 (of_decide_eq_true e),fun e=>h.2 (Int.not_lt.1 (of_decide_eq_false e))⟩
 | .le a b,_,_,h=>⟨fun e=>h.1 (of_decide_eq_true e),fun e=>h.2 (Int.not_le.1 (of_decide_eq_false e))⟩
 | .r8 a b,_,_,h=>⟨fun e=>h.1 (eq_of_beq e),fun e=>h.2 (ne_of_beq_false e)⟩
 | .eqs a b,_,_,h=>⟨fun e=>h.1 (eq_of_beq e),fun e=>h.2 (ne_of_beq_false e)⟩
 | .Ai a b,_,_,h=>⟨fun e=>h.1 (eq_of_beq e),fun e=>h.2 (ne_of_beq_false e)⟩
 | .not c,_,_,h=>⟨fun e=>(xT c h).2 (dD e),fun e=>(xT c h).1 (dC e)⟩
 | .raw b,_,_,h=>h
inductive a6 where
 |aK (x:R)
 |own (l:List R)
 |b (c:bM)
 |loc (i off:Nat)
 |ms (i n cap:Nat)
 |mp (i:Nat)
 |hY (i:Nat) (k:Int) (w j:Nat)
 |bO (i o n cap:Nat)
 |agg (l:List a6)
 |ez (l:List a6)
 |fn (f:FuncId) (a c:List a6)
 |off
instance:Inhabited a6:=⟨.off⟩
mutual
def den (bs:List Nat):a6→R
 | .aK x=>x.plain
 | .own l=> .slice true l
 | .b c=> .bool c.val
 | .loc i off=> .ptr ⟨bs.getD i 0,off,none⟩
 | .ms i n cap=> .ms ⟨bs.getD i 0,0,none⟩ n cap
 | .mp i=> .map (bs.getD i 0)
 | .hY i k w j=> .ptr ⟨bs.getD i 0,0+k.toNat*w+j,none⟩
 | .bO i o n cap=> .ms ⟨bs.getD i 0,o,none⟩ n cap
 | .agg l=> .agg (bo bs l)
 | .ez l=> .tuple (bo bs l)
 | .fn f a c=> .func (.func f) (bo bs a) (bo bs c)
 | .off=> .lazy false .aP
def bo (bs:List Nat):List a6→List R
 |[]=>[]
 |v::r=>den bs v::bo bs r
end
theorem mi (bs:List Nat) (l:List a6):bo bs l=l.map (den bs):=by
 induction l with
 |nil=>simp only [bo,List.map_nil]
 |cons v r aQ=>simp only [bo,List.map_cons,aQ]
theorem kW (bs:List Nat) (l:List a6):(bo bs l).length=l.length:=by rw [mi,List.length_map]
mutual
theorem xU:∀(x:R),x.plain.plain=x.plain
 | .agg l=>by simp only [R.plain,Dr l]
 | .tuple l=>by simp only [R.plain,Dr l]
 | .lazy g x=>by simp only [R.plain,xU x]
 | .slice _ _=>by simp only [R.plain]
 | .bool _| .int _ _| .str _| .ptr _| .fc| .ref _| .ms _ _ _| .map _| .jS| .func _ _ _| .kP| .fz| .iface _ _| .nilIface| .err _ _| .opt _| .aP=>by simp only [R.plain]
theorem Dr:∀(l:List R),R.fe (R.fe l)=R.fe l
 |[]=>by simp only [R.fe]
 |x::r=>by simp only [R.fe,xU x,Dr r]
end
abbrev bT:=List (Nat×a6)
def bm (bs:List Nat):bT→Fr
 |[]=>[]
 |(t,v)::r=>(t,den bs v)::bm bs r
def eR:bT→Nat→a6
 |[],_=> .aK .aP
 |(s,x)::r,t=>bif Nat.beq s t then x else eR r t
def kX:bT→Nat→(a6→Prop)→Prop
 |[],_,k=>k (.aK .aP)
 |(s,x)::r,t,k=>bif Nat.beq s t then k x else kX r t k
theorem mj:∀(fr:bT) (t:Nat) (k:a6→Prop),kX fr t k=k (eR fr t)
 |[],_,_=>rfl
 |(s,x)::r,t,k=>by
  simp only [kX,eR]
  cases Nat.beq s t
  · exact mj r t k
  · rfl
theorem lo (bs:List Nat):∀(fr:bT) (t:Nat),a1 (bm bs fr) t=den bs (eR fr t)
 |[],t=>by simp only [bm,a1,Fr.get,Option.getD_none,eR,den,R.plain]
 |(s,x)::r,t=>by
  have aQ:=lo bs r t
  simp only [a1] at aQ
  simp only [bm,a1,Fr.get,eR]
  by_cases h:s=t
  · subst h;simp
  · have:Nat.beq s t=false:=by
     cases ae:Nat.beq s t with
     |false=>rfl
     |true=>exact absurd (Nat.eq_of_beq_eq_true ae) h
    simp only [h,if_false,this,cond_false,aQ]
def bF (b:Bool) (p:Prop):Prop:=
 match b with
 |true=>p
 |false=>False
theorem dN {b:Bool} {p:Prop}:bF b p↔b=true∧p:=by cases b<;>simp [bF]
def gy {α:Type}:List α→(List α→Prop)→Prop
 |[],k=>k []
 |x::r,k=>gy r (fun dW=>k (x::dW))
theorem hv {α:Type}:∀(l:List α) (k:List α→Prop),gy l k=k l
 |[],_=>rfl
 |x::r,k=>by rw [gy,hv r]
def nth {α:Type}:List α→Nat→Option α
 |[],_=>none
 |x::_,0=>some x
 |_::r,i+1=>nth r i
theorem j2 {α:Type}:∀(l:List α) (i:Nat),nth l i=l[i]?
 |[],_=>by simp [nth]
 |x::_,0=>by simp [nth]
 |_::r,i+1=>by simp [nth,j2 r i]
def xV:a6→(a6→Prop)→Prop
 | .own l,k=>k (.aK (.slice false l))
 | .aK x,k=>k (.aK x)
 | .b c,k=>k (.b c)
 | .loc i o,k=>k (.loc i o)
 | .ms i n c,k=>k (.ms i n c)
 | .mp i,k=>k (.mp i)
 | .hY i a w j,k=>k (.hY i a w j)
 | .bO i o n c,k=>k (.bO i o n c)
 | .fn f a c,k=>k (.fn f a c)
 | .agg _,_| .ez _,_| .off,_=>False
theorem oY (bs:List Nat):∀{v:a6} {k:a6→Prop},xV v k→∃u,k u∧den bs u=(den bs v).plain
 | .own l,_,h=>⟨_,h,by simp only [den,R.plain]⟩
 | .aK x,_,h=>⟨_,h,by simp only [den,xU]⟩
 | .b _,_,h| .loc _ _,_,h| .ms _ _ _,_,h| .mp _,_,h| .hY _ _ _ _,_,h| .bO _ _ _ _,_,h| .fn _ _ _,_,h=>⟨_,h,by simp only [den,R.plain]⟩
 | .agg _,_,h| .ez _,_,h| .off,_,h=>h.elim
def tv:List a6→(List a6→Prop)→Prop
 |[],k=>k []
 |v::r,k=>xV v (fun fX=>tv r (fun dW=>k (fX::dW)))
theorem vg (bs:List Nat):∀{l:List a6} {k:List a6→Prop},tv l k→∃u,k u∧bo bs u=R.fe (bo bs l)
 |[],_,h=>⟨_,h,by simp only [bo,R.fe]⟩
 |v::r,k,h=>by
  obtain ⟨fX,I,ax⟩:=oY bs h
  obtain ⟨dW,J,aI⟩:=vg bs I
  exact ⟨_,J,by simp only [bo,R.fe,ax,aI]⟩
def r9:a6→(a6→Prop)→Prop
 | .agg l,k=>tv l (fun l'=>k (.agg l'))
 | .off,k=>k .off
 | .ez l,k=>k (.ez l)
 |v,k=>xV v k
def q1:a6→Bool
 | .ez _=>false
 |_=>true
theorem vh (bs:List Nat) {v:a6} {k:a6→Prop} (aL:q1 v=true) (h:r9 v k):∃u,k u∧den bs u=(den bs v).plain:=by
 cases v with
 |agg l=>
  obtain ⟨u,I,e⟩:=vg bs h
  exact ⟨_,I,by simp only [den,R.plain,e]⟩
 |off=>exact ⟨_,h,by simp only [den,R.plain]⟩
 |ez l=>simp [q1] at aL
 |aK x=>exact oY bs h
 |own l=>exact oY bs h
 |b l=>exact oY bs h
 |loc i o=>exact oY bs h
 |ms i n c=>exact oY bs h
 |mp i=>exact oY bs h
 |hY i a w j=>exact oY bs h
 |bO i a w j=>exact oY bs h
 |fn f a c=>exact oY bs h
def oZ:R→(R→Prop)→Prop
 | .bool b,k=>k (.bool b)
 | .int cM n,k=>k (.int cM n)
 | .str s,k=>k (.str s)
 | .ptr a,k=>k (.ptr a)
 | .fc,k=>k .fc
 | .ref l,k=>k (.ref l)
 | .slice false l,k=>k (.slice false l)
 | .ms a n c,k=>k (.ms a n c)
 | .map b,k=>k (.map b)
 | .jS,k=>k .jS
 | .func f a c,k=>k (.func f a c)
 | .kP,k=>k .kP
 | .fz,k=>k .fz
 | .iface t v,k=>k (.iface t v)
 | .nilIface,k=>k .nilIface
 | .err t e,k=>k (.err t e)
 | .opt b,k=>k (.opt b)
 |_,_=>False
theorem qo {x:R} {k:R→Prop} (h:oZ x k):x.plain=x∧k x:=by
 cases x with
 |slice o l=>cases o with
  |true=>exact h.elim
  |false=>exact ⟨by simp only [R.plain],h⟩
 |agg l=>exact h.elim
 |tuple l=>exact h.elim
 |lazy g x=>exact h.elim
 |aP=>exact h.elim
 |_=>exact ⟨by simp only [R.plain],h⟩
def Aj:List R→(List R→Prop)→Prop
 |[],k=>k []
 |x::r,k=>oZ x (fun bR=>Aj r (fun dW=>k (bR::dW)))
theorem Ds:∀{l:List R} {k:List R→Prop},Aj l k→R.fe l=l∧k l
 |[],_,h=>⟨by simp only [R.fe],h⟩
 |x::r,k,h=>by
  obtain ⟨ax,I⟩:=qo h
  obtain ⟨aI,J⟩:=Ds I
  exact ⟨by simp only [R.fe,ax,aI],J⟩
def vi:R→(R→Prop)→Prop
 | .agg l,k=>Aj l (fun l'=>k (.agg l'))
 |x,k=>oZ x k
theorem Ak {x:R} {k:R→Prop} (h:vi x k):x.plain=x∧k x:=by
 cases x with
 |agg l=>
  obtain ⟨e,I⟩:=Ds h
  exact ⟨by simp only [R.plain,e],I⟩
 |_=>exact qo h
def Dt:R→(List R→Prop)→Prop
 | .agg l,k=>gy l k
 |x,k=>oZ x (fun bR=>k [bR])
theorem Re {x:R} {k:List R→Prop} (h:Dt x k):k x.cells:=by
 cases x with
 |agg l=>rw [Dt,hv] at h;exact h
 |slice o l=>exact (qo (x:= .slice o l) (k:=fun bR=>k [bR]) h).2
 |_=>first|exact (qo (k:=fun bR=>k [bR]) h).2|exact h|exact h.elim
def qp:R→a6
 | .bool b=> .b (.raw b)
 |x=> .aK x
theorem q2 (bs:List Nat) (x:R):den bs (qp x)=x.plain:=by
 cases x<;>simp only [qp,den,bM.val,R.plain]
def xW:R→(a6→Prop)→Prop
 | .bool b,k=>k (.b (.raw b))
 |x,k=>k (.aK x)
theorem Al (x:R) (k:a6→Prop):xW x k=k (qp x):=by
 cases x<;>rfl
def xX:Value→(a6→Prop)→Prop
 | .bool b,k=>k (.b (.lit b))
 | .int cM n,k=>k (.aK (.int cM n))
 | .string s,k=>gy s.data.toList (fun l=>k (.aK (.str l)))
 | .pointer none,k=>k (.aK .fc)
 | .slice none _ _,k=>k (.own [])
 | .map none,k=>k (.aK .jS)
 | .nilFunc,k=>k (.aK .kP)
 | .nilIface,k=>k (.aK .nilIface)
 |_,_=>False
theorem Im (bs:List Nat) {v:Value} {k:a6→Prop} (h:xX v k):∃u,k u∧den bs u=jc v:=by
 unfold xX at h
 split at h
 all_goals first|exact h.elim|exact ⟨_,h,by simp only [den,bM.val,jc,R.plain]⟩|skip
 rw [hv] at h
 exact ⟨_,h,by simp only [den,jc,R.plain]⟩
def Du:List Value→(List a6→Prop)→Prop
 |[],k=>k []
 |v::r,k=>xX v (fun fX=>Du r (fun dW=>k (fX::dW)))
theorem Io (bs:List Nat):∀{l:List Value} {k:List a6→Prop},Du l k→∃u,k u∧bo bs u=l.map jc
 |[],_,h=>⟨_,h,by simp only [bo,List.map_nil]⟩
 |v::r,k,h=>by
  obtain ⟨fX,I,ax⟩:=Im bs h
  obtain ⟨dW,J,aI⟩:=Io bs I
  exact ⟨_,J,by simp only [bo,List.map_cons,ax,aI]⟩
def Am:Value→(a6→Prop)→Prop
 | .agg cs,k=>Du cs.toList (fun l=>k (.agg l))
 | .iface t (.int cM n),k=>k (.aK (.iface t (.int cM n)))
 |v,k=>xX v k
theorem Ip (bs:List Nat) {v:Value} {k:a6→Prop} (h:Am v k):∃u,k u∧den bs u=kS v:=by
 unfold Am at h
 split at h
 · obtain ⟨u,I,e⟩:=Io bs h
   exact ⟨_,I,by simp only [den,kS,e]⟩
 · exact ⟨_,h,by simp only [den,kS,jc,R.plain]⟩
 · obtain ⟨u,I,e⟩:=Im bs h
   refine ⟨u,I,e.trans ?_⟩
   rename_i bc ab
   cases v<;>first|rfl|(simp only [xX] at h)
def eX (fr:bT):Operand→(a6→Prop)→Prop
 | .tmp t,k=>kX fr t (fun v=>bF (q1 v) (r9 v k))
 | .const v,k=>Am v k
 | .global g,k=>k (.aK (.ptr ⟨g,0,none⟩))
 | .func f,k=>k (.fn f [] [])
theorem e5 (bs:List Nat) {fr:bT} {x:Operand} {k:a6→Prop} (h:eX fr x k):∃v,k v∧den bs v=bx (a1 (bm bs fr)) x:=by
 cases x with
 |tmp t=>
  rw [eX,mj,dN] at h
  obtain ⟨v,I,e⟩:=vh bs h.1 h.2
  exact ⟨v,I,by rw [e,bx,lo]⟩
 |const v=>
  obtain ⟨u,I,e⟩:=Ip bs h
  exact ⟨u,I,e⟩
 |global g=>exact ⟨_,h,by simp only [den,R.plain,bx]⟩
 |func f=>exact ⟨_,h,by simp only [den,bo,bx]⟩
def An (fr:bT):Operand→(a6→Prop)→Prop
 | .tmp t,k=>kX fr t k
 | .const v,k=>Am v k
 | .global g,k=>k (.aK (.ptr ⟨g,0,none⟩))
 | .func f,k=>k (.fn f [] [])
def tw (fr:bT):List Operand→(List a6→Prop)→Prop
 |[],k=>k []
 |x::r,k=>eX fr x (fun v=>tw fr r (fun dW=>k (v::dW)))
theorem vj (bs:List Nat) {fr:bT}:∀{l:List Operand} {k:List a6→Prop},tw fr l k→∃u,k u∧bo bs u=l.map (bx (a1 (bm bs fr)))
 |[],_,h=>⟨_,h,by simp only [bo,List.map_nil]⟩
 |x::r,k,h=>by
  obtain ⟨v,I,ax⟩:=e5 bs h
  obtain ⟨dW,J,aI⟩:=vj bs I
  exact ⟨_,J,by simp only [bo,List.map_cons,ax,aI]⟩
inductive bz where
 |cells (l:List a6)
 |obj (o:ed)
def er (bs:List Nat):bz→ed
 | .cells l=> .cells (bo bs l)
 | .obj o=>o
def j3 (bs:List Nat) (L:List bz):List (Nat×ed):=bs.zip (L.map (er bs))
def bK (bs:List Nat) (L:List bz) (m:ad):ad:=m.aX (j3 bs L)
structure Good (bs:List Nat) (L:List bz) (m:ad):Prop where
 iR:bs.Nodup
 len:bs.length=L.length
 fresh:∀b∈bs,m b=none
theorem o0 {bs:List Nat} {L:List bz} (h:bs.length=L.length):(j3 bs L).map Prod.fst=bs:=by
 rw [j3,List.map_fst_zip]
 simp [h]
theorem Good.nodup {bs:List Nat} {L:List bz} {m:ad} (g:Good bs L m):((j3 bs L).map Prod.fst).Nodup:=by rw [o0 g.len];exact g.iR
theorem Iq {bs:List Nat} {L:List bz} {i:Nat} {o:bz} (h:bs.length=L.length) (av:L[i]?=some o):(j3 bs L)[i]?=some (bs.getD i 0,er bs o):=by
 have ab:i<L.length:=by
  rcases Nat.lt_or_ge i L.length with cb|cb
  · exact cb
  · rw [List.getElem?_eq_none cb] at av;cases av
 have ae:bs[i]?=some (bs.getD i 0):=by
  rw [List.getD_eq_getElem?_getD,List.getElem?_eq_getElem (by omega)];rfl
 simp only [j3,List.zip,List.getElem?_zipWith,ae,List.getElem?_map,av,Option.map_some]
theorem mO {bs:List Nat} {L:List bz} {m:ad} (g:Good bs L m) {i:Nat} {o:bz} (av:L[i]?=some o):bK bs L m (bs.getD i 0)=some (er bs o):=
 oa i g.nodup (Iq g.len av)
theorem Rf {bs:List Nat} {L:List bz} {i:Nat} {o:bz}:(j3 bs L).set i (bs.getD i 0,er bs o)=j3 bs (L.set i o)∨bs.length≤i:=by
 rcases Nat.lt_or_ge i bs.length with h|h
 · left
   have ae:bs=bs.set i (bs.getD i 0):=by
    rw [List.getD_eq_getElem?_getD,List.getElem?_eq_getElem h];simp
   simp only [j3,List.map_set]
   conv=>rhs;rw [ae,←ae]
   apply List.ext_getElem?
   intro j
   simp only [List.zip,List.getElem?_set,List.getElem?_zipWith,List.length_zipWith,List.length_map]
   by_cases ay:i=j
   · subst ay
     rw [List.getD_eq_getElem?_getD,List.getElem?_eq_getElem h]
     by_cases ar:i<L.length
     · have:i<min bs.length L.length:=by omega
       simp [ar,this]
     · have:¬i<min bs.length L.length:=by omega
       simp [ar,this]
   · simp [ay]
 · exact .inr h
theorem mem_set {bs:List Nat} {L:List bz} {m:ad} (g:Good bs L m) {i:Nat} {o dn:bz} (av:L[i]?=some o):(bK bs L m).bL (bs.getD i 0) (some (er bs dn))=bK bs (L.set i dn) m:=by
 rw [bK,xC i g.nodup (Iq g.len av)]
 rcases Rf (bs:=bs) (L:=L) (i:=i) (o:=dn) with h|h
 · rw [h];rfl
 · have n3:=g.len
   have:i<L.length:=by
    rcases Nat.lt_or_ge i L.length with cb|cb
    · exact cb
    · rw [List.getElem?_eq_none cb] at av;cases av
   omega
theorem Good.set {bs:List Nat} {L:List bz} {m:ad} (g:Good bs L m) (i:Nat) (o:bz):Good bs (L.set i o) m:=⟨g.iR,by rw [List.length_set];exact g.len,g.fresh⟩
def xY (n:Nat):a6→Bool
 | .loc i _| .ms i _ _| .mp i| .hY i _ _ _| .bO i _ _ _=>Nat.ble (i+1) n
 | .agg _| .ez _| .fn _ _ _=>false
 |_=>true
def sa (n:Nat):List a6→Bool
 |[]=>true
 |v::r=>bif xY n v then sa n r else false
def tx (n:Nat):a6→Bool
 | .agg l| .ez l=>sa n l
 | .fn _ a c=>bif sa n a then sa n c else false
 |v=>xY n v
def o1 (n:Nat):bT→Bool
 |[]=>true
 |(_,v)::r=>bif tx n v then o1 n r else false
def sb (n:Nat):List a6→Bool
 |[]=>true
 |v::r=>bif tx n v then sb n r else false
def Ao (n:Nat):bz→Bool
 | .cells l=>sb n l
 | .obj _=>true
def lp (n:Nat):List bz→Bool
 |[]=>true
 |o::r=>bif Ao n o then lp n r else false
theorem xZ {bs x:List Nat} {i:Nat} (h:Nat.ble (i+1) bs.length=true):(bs++x).getD i 0=bs.getD i 0:=by
 have cb:i<bs.length:=Nat.le_of_ble_eq_true h
 rw [List.getD_eq_getElem?_getD,List.getD_eq_getElem?_getD,List.getElem?_append_left cb]
theorem Ir {bs x:List Nat} {v:a6} (h:xY bs.length v=true):den (bs++x) v=den bs v:=by
 cases v with
 |loc i o=>simp only [den,xZ (x:=x) h]
 |ms i n c=>simp only [den,xZ (x:=x) h]
 |mp i=>simp only [den,xZ (x:=x) h]
 |hY i k w j=>simp only [den,xZ (x:=x) h]
 |bO i o n c=>simp only [den,xZ (x:=x) h]
 |agg l=>cases h
 |ez l=>cases h
 |fn f a c=>cases h
 |_=>simp only [den]
theorem vk {bs x:List Nat}:∀{l:List a6},sa bs.length l=true→bo (bs++x) l=bo bs l
 |[],_=>by simp only [bo]
 |v::r,h=>by
  simp only [sa] at h
  cases bc:xY bs.length v with
  |false=>rw [bc] at h;cases h
  |true=>rw [bc] at h;simp only [bo,Ir bc,vk (l:=r) h]
theorem Is {bs x:List Nat} {v:a6} (h:tx bs.length v=true):den (bs++x) v=den bs v:=by
 cases v with
 |agg l=>simp only [den,vk (x:=x) (l:=l) h]
 |ez l=>simp only [den,vk (x:=x) (l:=l) h]
 |fn f a c=>
  simp only [tx] at h
  cases aH:sa bs.length a with
  |false=>rw [aH] at h;cases h
  |true=>rw [aH] at h;simp only [den,vk (x:=x) aH,vk (x:=x) (l:=c) h]
 |_=>exact Ir h
theorem Dv {bs x:List Nat}:∀{l:List a6},sb bs.length l=true→bo (bs++x) l=bo bs l
 |[],_=>by simp only [bo]
 |v::r,h=>by
  simp only [sb] at h
  cases bc:tx bs.length v with
  |false=>rw [bc] at h;cases h
  |true=>rw [bc] at h;simp only [bo,Is bc,Dv (l:=r) h]
theorem vl {bs x:List Nat}:∀{fr:bT},o1 bs.length fr=true→bm (bs++x) fr=bm bs fr
 |[],_=>rfl
 |(t,v)::r,h=>by
  simp only [o1] at h
  cases bc:tx bs.length v with
  |false=>rw [bc] at h;cases h
  |true=>rw [bc] at h;simp only [bm,Is bc,vl (fr:=r) h]
theorem Dw {bs x:List Nat}:∀{L:List bz},lp bs.length L=true→L.map (er (bs++x))=L.map (er bs)
 |[],_=>rfl
 |o::r,h=>by
  simp only [lp] at h
  cases bc:Ao bs.length o with
  |false=>rw [bc] at h;cases h
  |true=>
   rw [bc] at h
   simp only [List.map_cons,Dw (L:=r) h]
   cases o with
   |cells l=>simp only [er,Dv (x:=x) (l:=l) bc]
   |obj o=>simp only [er]
theorem vm {bs:List Nat} {L:List bz} {m:ad} (g:Good bs L m) (al:lp bs.length L=true) {b:Nat} (ae:bK bs L m b=none) (o:bz):
 Good (bs++[b]) (L++[o]) m∧bK (bs++[b]) (L++[o]) m=(bK bs L m).bL b (some (er (bs++[b]) o)):=by
 have aW:=C0 ae
 rw [o0 g.len] at aW
 have pF:Good (bs++[b]) (L++[o]) m:=by
  refine ⟨?_,by simp [g.len],?_⟩
  · rw [List.nodup_append]
    exact ⟨g.iR,by simp,fun a aH c ag=>by simp at ag;subst ag;exact fun e=>aW.1 (e▸aH)⟩
  · intro c ag
    rcases List.mem_append.1 ag with h|h
    · exact g.fresh c h
    · simp at h;subst h;exact aW.2
 refine ⟨pF,?_⟩
 have e:j3 (bs++[b]) (L++[o])=j3 bs L++[(b,er (bs++[b]) o)]:=by
  simp only [j3,List.map_append,List.map_cons,List.map_nil,Dw (x:=[b]) al]
  rw [List.zip_append (by simp [g.len])]
  rfl
 have aB:(j3 (bs++[b]) (L++[o])).Perm ((b,er (bs++[b]) o)::j3 bs L):=by
  rw [e];exact List.perm_append_comm
 rw [bK,C1 pF.nodup aB]
 rfl
end Go.bS
end
section
namespace Go.bS
open Go Go.bh
inductive j4 where
 |int (k:IntKind)
 |str
 |bool
 |bO (e:Nat)
 |st (cA:List (Nat×Nat))
 |mp (k e:Nat)
 |ptr
 |ml
 |It
inductive Z where
 |i (k:IntKind)
 |s
 |b
 |p
 |l
 |m
 |f
 |n
structure hk where
 k:j4
 n:Nat
 y:Nat
 z:List Z
abbrev hZ:=List (Nat×hk)
def j4.ij:j4→Bool
 | .st _=>true
 |_=>false
def kindOk (P:Program) (d:TypeDesc):j4→Bool
 | .int k=>match d with| .int dU=>decide (k=dU)|_=>false
 | .str=>match d with| .string=>true|_=>false
 | .bool=>match d with| .bool=>true|_=>false
 | .bO e=>match d with| .slice b9=>Nat.beq e b9&&ef P e&&Nat.ble 1 (P.cellsOf e)&&kp P e|_=>false
 | .st cA=>match d with| .struct fa=>decide (fa.toList.map (fun f=>(f.offset,f.type))=cA)&&fa.toList.all (fun f=>ef P f.type&&!(Nat.beq (P.cellsOf f.type) 0))|_=>false
 | .mp k e=>match d with| .map dU b9=>Nat.beq k dU&&Nat.beq e b9|_=>false
 | .ptr=>match d with| .pointer _=>true|_=>false
 | .ml=>match d with| .interface _=>true|_=>false
 | .It=>match d with| .interface _| .struct _| .array _ _=>false|_=>true
def tz:Value→Z→Bool
 | .int k n, .i dU=>decide (k=dU)&&decide (n=0)
 | .string s, .s=>decide (s.data.toList=[])
 | .bool b, .b=>!b
 | .pointer none, .p=>true
 | .slice none n c, .l=>Nat.beq n 0&&Nat.beq c 0
 | .map none, .m=>true
 | .nilFunc, .f=>true
 | .nilIface, .n=>true
 |_,_=>false
def q3:List Value→List Z→Bool
 |[],[]=>true
 |v::r,z::s=>tz v z&&q3 r s
 |_,_=>false
def vn (v:Value) (st:Bool) (z:List Z):Bool:=
 match v with
 | .agg cs=>st&&q3 cs.toList z
 |v=>!st&&q3 [v] z
def Z.tA:Z→a6
 | .i k=> .aK (.int k 0)
 | .s=> .aK (.str [])
 | .b=> .b (.lit false)
 | .p=> .aK .fc
 | .l=> .own []
 | .m=> .aK .jS
 | .f=> .aK .kP
 | .n=> .aK .nilIface
def kY:List Z→List a6
 |[]=>[]
 |z::r=>z.tA::kY r
def Ap (P:Program) (t:Nat) (i:hk):Bool:=
 (match P.underlying t with|some d=>kindOk P d i.k&&(ld P t==i.k.ij)|none=>false)&&ef P t&&Nat.beq (P.cellsOf t) i.n&&Nat.beq (P.bytesOf t) i.y&&
 (match i.k with| .int _=>(P.info? t).map (·.comparable)==some true|_=>true)&&
 (match i.z with|[]=>true|z=>match (P.info? t).bind (·.zero) with|some v=>p5 v&&vn v i.k.ij z&&Nat.beq z.length i.n|none=>false)
def fm (P:Program) (T:hZ):Bool:=T.all fun p=>Ap P p.1 p.2
def du:hZ→Nat→(hk→Prop)→Prop
 |[],_,_=>False
 |(s,i)::r,t,k=>bif Nat.beq s t then k i else du r t k
section
variable {P:Program} {T:hZ}
theorem Rg (h:fm P T=true) {t:Nat} {k:hk→Prop}:du T t k→∃i,Ap P t i=true∧k i:=by
 induction T with
 |nil=>exact fun h=>h.elim
 |cons p r aQ=>
  obtain ⟨s,i⟩:=p
  simp only [fm,List.all_cons,Bool.and_eq_true] at h
  intro aj
  simp only [du] at aj
  cases ae:Nat.beq s t with
  |true=>
   rw [ae] at aj
   rw [Nat.eq_of_beq_eq_true ae] at h
   exact ⟨i,h.1,aj⟩
  |false=>
   rw [ae] at aj
   exact aQ h.2 aj
structure gz (P:Program) (t:Nat) (i:hk):Prop where
 u:∃d,P.underlying t=some d∧kindOk P d i.k=true
 tB:ld P t=i.k.ij
 is:ef P t=true
 cells:P.cellsOf t=i.n
 bytes:P.bytesOf t=i.y
 cmp:∀k,i.k= .int k→(P.info? t).map (·.comparable)=some true
 zero:i.z≠[]→∃v,(P.info? t).bind (·.zero)=some v∧p5 v=true∧vn v i.k.ij i.z=true∧i.z.length=i.n
theorem gz.of {t:Nat} {i:hk} (h:Ap P t i=true):gz P t i:=by
 simp only [Ap,Bool.and_eq_true] at h
 obtain ⟨⟨⟨⟨⟨I,J⟩,ai⟩,aC⟩,bE⟩,aN⟩:=h
 cases aY:P.underlying t with
 |none=>rw [aY] at I;cases I
 |some d=>
  rw [aY] at I
  simp only [Bool.and_eq_true,beq_iff_eq] at I
  refine ⟨⟨d,aY,I.1⟩,I.2,J,Nat.eq_of_beq_eq_true ai,Nat.eq_of_beq_eq_true aC,fun k aj=>?_,fun aA=>?_⟩
  · rw [aj] at bE;simpa using bE
  · cases pO:i.z with
    |nil=>exact absurd pO aA
    |cons z r=>
     rw [pO] at aN
     simp only at aN
     cases ab:(P.info? t).bind (·.zero) with
     |none=>rw [ab] at aN;cases aN
     |some v=>
      rw [ab] at aN
      simp only [Bool.and_eq_true] at aN
      exact ⟨v,rfl,aN.1.1,aN.1.2,Nat.eq_of_beq_eq_true aN.2⟩
theorem gz.int {t:Nat} {i:hk} (h:gz P t i) {k:IntKind} (aj:i.k= .int k):P.underlying t=some (.int k):=by
 obtain ⟨d,I,J⟩:=h.u
 rw [aj] at J
 cases d<;>simp [kindOk] at J
 rw [I,J]
theorem gz.str {t:Nat} {i:hk} (h:gz P t i) (aj:i.k= .str):P.underlying t=some .string:=by
 obtain ⟨d,I,J⟩:=h.u
 rw [aj] at J
 cases d<;>simp [kindOk] at J
 exact I
theorem gz.bool {t:Nat} {i:hk} (h:gz P t i) (aj:i.k= .bool):P.underlying t=some .bool:=by
 obtain ⟨d,I,J⟩:=h.u
 rw [aj] at J
 cases d<;>simp [kindOk] at J
 exact I
theorem gz.bO {t:Nat} {i:hk} (h:gz P t i) {e:Nat} (aj:i.k= .bO e):P.underlying t=some (.slice e)∧ef P e=true∧0<P.cellsOf e∧kp P e=true:=by
 obtain ⟨d,I,J⟩:=h.u
 rw [aj] at J
 cases d<;>simp [kindOk] at J
 obtain ⟨⟨⟨ai,aC⟩,aN⟩,bE⟩:=J
 obtain rfl:=ai
 exact ⟨I,aC,aN,bE⟩
theorem gz.st {t:Nat} {i:hk} (h:gz P t i) {cA:List (Nat×Nat)} (aj:i.k= .st cA):∃fa,P.underlying t=some (.struct fa)∧fa.toList.map (fun f=>(f.offset,f.type))=cA∧∀f∈fa.toList,ef P f.type=true∧P.cellsOf f.type≠0:=by
 obtain ⟨d,I,J⟩:=h.u
 rw [aj] at J
 cases d<;>simp only [kindOk] at J<;>try (cases J;done)
 simp only [Bool.and_eq_true,decide_eq_true_eq,List.all_eq_true,Bool.not_eq_true'] at J
 refine ⟨_,I,J.1,fun f aW=>⟨(J.2 f aW).1,fun e=>?_⟩⟩
 have:=(J.2 f aW).2
 rw [e] at this
 cases this
theorem gz.mp {t:Nat} {i:hk} (h:gz P t i) {k e:Nat} (aj:i.k= .mp k e):P.underlying t=some (.map k e):=by
 obtain ⟨d,I,J⟩:=h.u
 rw [aj] at J
 cases d<;>simp [kindOk] at J
 rw [I,J.1,J.2]
theorem gz.ml {t:Nat} {i:hk} (h:gz P t i) (aj:i.k= .ml):∃ms,P.underlying t=some (.interface ms):=by
 obtain ⟨d,I,J⟩:=h.u
 rw [aj] at J
 cases d<;>simp [kindOk] at J
 exact ⟨_,I⟩
theorem gz.ptr {t:Nat} {i:hk} (h:gz P t i) (aj:i.k= .ptr):∃ms,P.underlying t=some (.pointer ms):=by
 obtain ⟨d,I,J⟩:=h.u
 rw [aj] at J
 cases d<;>simp [kindOk] at J
 exact ⟨_,I⟩
def j4.tC:j4→Bool
 | .ml=>false
 |_=>true
theorem gz.tC {t:Nat} {i:hk} (h:gz P t i) (aj:i.k.tC=true):∃d,P.underlying t=some d∧∀ms,d≠ .interface ms:=by
 obtain ⟨d,I,J⟩:=h.u
 refine ⟨d,I,fun ms e=>?_⟩
 subst e
 cases ab:i.k<;>rw [ab] at J aj<;>simp [kindOk,j4.tC] at J aj
end
def vo (w:Bool) (cM:IntKind) (r:Int) (k:a6→Prop):Prop:=
 match w,cM with
 |false, .i64=>(-9223372036854775808≤r∧r≤9223372036854775807)∧k (.aK (.int .i64 r))
 |_,cM=>k (.aK (.int cM (cM.wrap r)))
theorem Aq {w:Bool} {cM:IntKind} {r:Int} {k:a6→Prop} (h:vo w cM r k):k (.aK (.int cM (cM.wrap r))):=by
 unfold vo at h
 split at h
 · rw [wrap64 _ h.1.1 h.1.2];exact h.2
 · exact h
def x0:IntKind→IntKind→Bool
 | .i64, .i64| .u8, .u8| .i8, .i8| .i16, .i16| .i32, .i32| .u16, .u16| .u32, .u32| .u64, .u64=>true
 |_,_=>false
theorem Ar {a b:IntKind} (h:x0 a b=true):a=b:=by cases a<;>cases b<;>first|rfl|cases h
def Iu (w:Bool) (op:BinOp) (cM:IntKind) (a b:Int) (k:a6→Prop):Prop:=
 match op with
 | .add=>vo w cM (a+b) k
 | .sub=>vo w cM (a- b) k
 | .mul=>vo w cM (a*b) k
 | .quo=>b≠0∧k (.aK (.int cM (cM.wrap (a.tdiv b))))
 | .rem=>(b≠0∧cM.min≤a.tmod b∧a.tmod b≤cM.max)∧k (.aK (.int cM (a.tmod b)))
 | .and=>k (.aK (.int cM (cM.wrap (BitVec.ofInt cM.bits a &&& BitVec.ofInt cM.bits b).toNat)))
 | .or=>k (.aK (.int cM (cM.wrap (BitVec.ofInt cM.bits a ||| BitVec.ofInt cM.bits b).toNat)))
 | .xor=>k (.aK (.int cM (cM.wrap (BitVec.ofInt cM.bits a ^^^ BitVec.ofInt cM.bits b).toNat)))
 | .eql=>k (.b (.r8 a b))
 | .neq=>k (.b (.not (.r8 a b)))
 | .lss=>k (.b (.lt a b))
 | .leq=>k (.b (.le a b))
 | .gtr=>k (.b (.lt b a))
 | .geq=>k (.b (.le b a))
 |_=>False
def Iv (op:BinOp) (cM:IntKind) (a b:Int) (k:a6→Prop):Prop:=
 match op with
 | .shl=>0≤b∧k (.aK (.int cM (cM.wrap (a*2^(min b.toNat cM.bits)))))
 | .shr=>(0≤b∧cM.min≤a.fdiv (2^(min b.toNat cM.bits))∧a.fdiv (2^(min b.toNat cM.bits))≤cM.max)∧k (.aK (.int cM (a.fdiv (2^(min b.toNat cM.bits)))))
 |_=>False
def Iw:BinOp→Bool
 | .shl| .shr=>true
 |_=>false
def Ix (op:BinOp) (a b:List UInt8) (k:a6→Prop):Prop:=
 match op with
 | .add=>a.length+b.length≤140737488355328∧k (.aK (.str (a++b)))
 | .eql=>k (.b (.eqs a b))
 | .neq=>k (.b (.not (.eqs a b)))
 | .lss=>k (.b (.raw (Op.bytesLess a b)))
 | .leq=>k (.b (.raw (Op.bytesLess a b||a==b)))
 | .gtr=>k (.b (.not (.raw (Op.bytesLess a b||a==b))))
 | .geq=>k (.b (.not (.raw (Op.bytesLess a b))))
 |_=>False
def x1 (op:BinOp) (c:bM) (k:a6→Prop):Prop:=
 match op with
 | .eql=>k (.b c)
 | .neq=>k (.b (.not c))
 |_=>False
def tD (op:BinOp) (c:Bool) (k:a6→Prop):Prop:=
 match op with
 | .eql=>k (.b (.lit c))
 | .neq=>k (.b (.lit (!c)))
 |_=>False
def vp:Operand→Bool
 | .const _=>true
 |_=>false
def j4.x2:j4→Bool
 | .ml=>true
 |_=>false
def j4.As:j4→Bool
 | .ptr=>true
 |_=>false
def j4.isBool:j4→Bool
 | .bool=>true
 |_=>false
def Dx (T:hZ) (w:Bool) (op:BinOp) (t:Nat) (Dy:Bool) (x y:a6) (k:a6→Prop):Prop:=
 match x,y with
 | .aK (.int cM a), .aK (.int q4 b)=>
   match Iw op with
   |true=>Iv op cM a b k
   |false=>bF (x0 cM q4) (Iu w op cM a b k)
 | .aK (.str a), .aK (.str b)=>Ix op a b k
 | .b c, .b d=>du T t fun i=>bF i.k.isBool (x1 op (.Ai c.val d.val) k)
 | .aK .nilIface, .aK .nilIface=>du T t fun i=>bF i.k.x2 (bF Dy (tD op true k))
 | .aK (.err _ e), .aK .nilIface=>du T t fun i=>bF i.k.x2 (bF Dy (x1 op (.r8 e 0) k))
 | .aK (.opt b), .aK .nilIface=>du T t fun i=>bF i.k.x2 (bF Dy (x1 op (.not (.raw b)) k))
 | .aK (.iface _ _), .aK .nilIface=>du T t fun i=>bF i.k.x2 (tD op false k)
 | .aK (.err hE e), .aK (.iface u (.int cM c))=>du T t fun i=>bF i.k.x2 (du T hE fun j=>bF (match j.k with| .int .i64=>true|_=>false) (bF (Nat.beq hE u) (bF (x0 .i64 cM) (c≠0∧x1 op (.r8 e c) k))))
 | .loc _ _, .aK .fc| .aK .fc, .loc _ _=>du T t fun i=>bF i.k.As (tD op false k)
 | .aK (.ref _), .aK .fc| .aK .fc, .aK (.ref _)=>du T t fun i=>bF i.k.As (tD op false k)
 | .aK (.ptr _), .aK .fc| .aK .fc, .aK (.ptr _)=>du T t fun i=>bF i.k.As (tD op false k)
 | .aK .fc, .aK .fc=>du T t fun i=>bF i.k.As (tD op true k)
 |_,_=>False
end Go.bS
end
section
namespace Go.bS
open Go Go.bh
structure Dz (l:List R) (n:Int) (Q:R→Prop):Prop where
 h:0≤n∧n<l.length
 q:Q (l.getD n.toNat .aP)
theorem fP {α:Type} [Inhabited α] {f:α→R} {xs:List α} {n:Int} {Q:R→Prop} (h:0≤n∧n<xs.length) (gI:Q (f (aa xs n))):Dz (xs.map f) n Q:=
 ⟨by simpa using h,by rw [idx_eq f xs n h.1 h.2];exact gI⟩
theorem e0 {α:Type} [Inhabited α] {f:α→R} (g:α→R) (e:∀a,f a=g a) {xs:List α} {n:Int} {Q:R→Prop} (h:0≤n∧n<xs.length) (gI:Q (g (aa xs n))):Dz (xs.map f) n Q:=
 fP h (by rw [e];exact gI)
structure Iy (l:List R) (Q:Int→Prop):Prop where
 q:Q l.length
theorem dq {α:Type} {f:α→R} {xs:List α} {Q:Int→Prop} (gI:Q xs.length):Iy (xs.map f) Q:=⟨by rw [List.length_map];exact gI⟩
structure Rh (w:Nat) (l:List R) (p:Int) (q:Option Int) (Q:List R→Prop):Prop where
 q:∃dA:Int,q.getD l.length=dA∧(0≤p∧p≤dA∧dA≤l.length∧∀x∈l,x.cells.length=w)∧Q ((l.drop p.toNat).take (dA- p).toNat)
structure Iz (l:List R) (Q:List UInt8→Prop):Prop where
 h:∀x∈l,∃k:Int,x= .int .u8 k
 q:Q (l.map bh.byteOf)
theorem pP {xs:List UInt8} {Q:List UInt8→Prop} (gI:Q xs):Iz (xs.map cB) Q:=
 ⟨fun x ah=>by obtain ⟨a,_,rfl⟩:=List.mem_map.1 ah;exact ⟨_,rfl⟩,by rw [N2];exact gI⟩
def DA (v:a6) (k:a6→Prop):Prop:=
 match v with
 | .loc i o=>k (.loc i o)
 | .hY i a w j=>k (.hY i a w j)
 | .aK (.ref l)=>k (.aK (.ref l))
 | .aK (.ptr p)=>k (.aK (.ptr p))
 | .fn f a c=>k (.fn f a c)
 | .aK (.func (.func f) b c)=>k (.aK (.func (.func f) b c))
 |_=>False
structure Ri (l:List R) (st:Bool) (n o:Nat) (Q:R→Prop):Prop where
 h:(bif st then o+n≤l.length else o<l.length)∧Q (bif st then R.agg ((l.drop o).take n) else l.getD o .aP)
def q5 (L:List bz) (i:hk) (v:a6) (k:a6→Prop):Prop:=
 match v with
 | .aK (.ref l)=>
   match i.k.ij with
   |true=>bF (Nat.ble i.n l.length) (Aj (l.take i.n) (fun l'=>k (.aK (.agg l'))))
   |false=>
    match l with
    |y::_=>oZ y (fun p6=>xW p6 k)
    |[]=>False
 | .loc b off=>
   match nth L b with
   |some (.cells l)=>
    match i.k.ij with
    |true=>bF (Nat.ble (off+i.n) l.length) (tv ((l.drop off).take i.n) (fun l'=>k (.agg l')))
    |false=>
     match nth l off with
     |some v=>xV v k
     |none=>False
   |_=>False
 | .hY b n w j=>
   match nth L b with
   |some (.obj (.cells l))=>Ri l i.k.ij i.n (0+n.toNat*w+j) fun x=>vi x fun bR=>xW bR k
   |_=>False
 |_=>False
def DB (o:Nat) (v:a6) (k:a6→Prop):Prop:=
 match v with
 | .loc b off=>k (.loc b (off+o))
 | .hY b n w j=>k (.hY b n w (j+o))
 | .aK (.ref l)=>bF (Nat.ble (o+1) l.length) (gy (l.drop o) (fun l'=>k (.aK (.ref l'))))
 | .aK (.ptr ⟨b,off,none⟩)=>k (.aK (.ptr ⟨b,off+o,none⟩))
 |_=>False
def DC (o:Nat) (j:hk) (v:a6) (k:a6→Prop):Prop:=
 match v with
 | .agg l=>
   match j.k.ij with
   |true=>bF (Nat.ble (o+j.n) l.length) (gy ((l.drop o).take j.n) (fun l'=>k (.agg l')))
   |false=>
    match nth l o with
    |some u=>k u
    |none=>False
 | .aK (.agg l)=>
   match j.k.ij with
   |true=>bF (Nat.ble (o+j.n) l.length) (gy ((l.drop o).take j.n) (fun l'=>k (.aK (.agg l'))))
   |false=>
    match nth l o with
    |some y=>oZ y (fun p6=>xW p6 k)
    |none=>False
 |_=>False
def x3 (i:hk) (f:Nat) (k:Nat→Nat→Prop):Prop:=
 match i.k with
 | .st cA=>
   match nth cA f with
   |some (o,t)=>k o t
   |none=>False
 |_=>False
def kA (i:hk) (k:Nat→Prop):Prop:=
 match i.k with
 | .bO e=>k e
 |_=>False
def DD (T:hZ) (t:Nat) (v:a6) (n:a6) (k:a6→Prop):Prop:=
 match v,n with
 | .aK (.slice _ l), .aK (.int _ n)=>du T t fun i=>kA i fun e=>du T e fun j=>Dz l n fun x=>Dt x fun cs=>bF (Nat.beq cs.length j.n) (k (.aK (.ref cs)))
 | .ms b len _, .aK (.int _ n)=>du T t fun i=>kA i fun e=>du T e fun j=>(0≤n∧n<len)∧k (.hY b n j.n 0)
 |_,_=>False
def j4.isStr:j4→Bool
 | .str=>true
 |_=>false
def DE (T:hZ) (t:Nat) (v:a6) (n:a6) (k:a6→Prop):Prop:=
 match v,n with
 | .aK (.str l), .aK (.int _ n)=>du T t fun i=>bF i.k.isStr ((0≤n∧n<l.length)∧k (.aK (.int .u8 (aa l n).toNat)))
 |_,_=>False
def tE (v:a6) (n:Nat) (k:a6→Prop):Prop:=
 match v with
 | .ez l=>
   match nth l n with
   |some u=>bF (q1 u) (r9 u k)
   |none=>False
 | .aK (.tuple l)=>
   match nth l n with
   |some y=>vi y (fun p6=>xW p6 k)
   |none=>False
 |_=>False
def Au (fr:bT) (x:Option Operand) (k:Option Int→Prop):Prop:=
 match x with
 |none=>k none
 |some y=>eX fr y fun v=>
  match v with
  | .aK (.int _ n)=>k (some n)
  |_=>False
def DF (T:hZ) (t:Nat) (v:a6) (p:Int) (q:Option Int) (k:a6→Prop):Prop:=
 match v with
 | .aK (.str l)=>du T t fun i=>bF i.k.isStr (
   match q with
   |some q=>(0≤p∧p≤q∧q≤l.length)∧k (.aK (.str (sub l p q)))
   |none=>(0≤p∧p≤l.length)∧k (.aK (.str (sub l p l.length))))
 | .aK (.slice _ l)=>du T t fun i=>kA i fun e=>du T e fun j=>Rh j.n l p q fun l'=>k (.aK (.slice false l'))
 | .ms b n c=>du T t fun i=>kA i fun e=>du T e fun j=>(0≤p∧p≤q.getD n∧q.getD n≤n)∧(p<c→k (.bO b (0+p.toNat*j.n) (q.getD n- p).toNat (c- p.toNat)))∧(c≤p→k (.aK .fz))
 |_=>False
def DG (a b:IntKind) (n:Int) (k:a6→Prop):Prop:=
 match a,b with
 | .i64, .i64=>(-9223372036854775808≤n∧n≤9223372036854775807)∧k (.aK (.int .i64 n))
 | .u8, .i64=>(-9223372036854775808≤n∧n≤9223372036854775807)∧k (.aK (.int .i64 n))
 |_, .u8=>k (.aK (.int .u8 (jk n).toNat))
 |_,b=>k (.aK (.int b (b.wrap n)))
def DH (T:hZ) (s d:Nat) (v:a6) (k:a6→Prop):Prop:=
 match v with
 | .aK (.int cM n)=>du T s fun _=>du T d fun j=>
   match j.k with
   | .int q4=>DG cM q4 n k
   |_=>False
 | .aK (.str l)=>du T s fun _=>du T d fun j=>bF j.k.isStr (k (.aK (.str l)))
 | .aK (.slice _ l)=>du T s fun i=>du T d fun j=>bF j.k.isStr (kA i fun e=>du T e fun h=>bF (match h.k with| .int .u8=>true|_=>false) (Iz l fun x=>k (.aK (.str x))))
 |_=>False
def DI (T:hZ) (t:Nat) (v:a6) (k:a6→Prop):Prop:=
 match v with
 | .aK (.iface u x)=>du T t fun i=>bF i.k.tC (bF (Nat.beq u t) (oZ x fun bR=>k (.ez [.aK bR, .b (.lit true)])))
 | .aK (.err u e)=>du T t fun i=>bF (match i.k,i.z with| .int .i64,[.i .i64]=>true|_,_=>false) (bF (Nat.beq u t) (k (.ez [.aK (.int .i64 e), .b (.not (.r8 e 0))])))
 |_=>False
def DJ (T:hZ) (t:Nat) (v:a6) (k:a6→Prop):Prop:=
 match v with
 | .aK x=>du T t fun i=>bF i.k.tC (vi x fun bR=>k (.aK (.iface t bR)))
 |_=>False
def j4.DK:j4→Bool
 | .mp _ _=>true
 |_=>false
def j4.zm:j4→Bool
 | .bO _=>true
 |_=>false
def DL (T:hZ) (L:List bz) (t:Nat) (v:a6) (k:a6→Prop):Prop:=
 match v with
 | .aK (.str l)=>du T t fun i=>bF i.k.isStr (k (.aK (.int .i64 l.length)))
 | .aK (.slice _ l)=>du T t fun i=>bF i.k.zm (Iy l fun n=>k (.aK (.int .i64 n)))
 | .ms _ n _=>du T t fun i=>bF i.k.zm (n≤9223372036854775807∧k (.aK (.int .i64 n)))
 | .aK .jS=>du T t fun i=>bF i.k.DK (k (.aK (.int .i64 0)))
 | .mp b=>du T t fun i=>bF i.k.DK (
   match nth L b with
   |some (.obj (.map l))=>∃n:Nat,l.length=n∧k (.aK (.int .i64 n))
   |_=>False)
 |_=>False
def DM (w:Bool) (op:UnOp) (v:a6) (k:a6→Prop):Prop:=
 match op,v with
 | .not, .b (.lit c)=>k (.b (.lit (!c)))
 | .not, .b (.not c)=>k (.b c)
 | .not, .b c=>k (.b (.not c))
 | .neg, .aK (.int cM n)=>vo w cM (-n) k
 |_,_=>False
def sc (T:hZ) (w:Bool) (fr:bT) (L:List bz) (op:Op) (k:a6→Prop):Prop:=
 match op with
 | .move x=>eX fr x k
 | .assign x=>eX fr x k
 | .load t x=>eX fr x fun v=>du T t fun i=>q5 L i v k
 | .nilCheck x=>eX fr x fun v=>DA v k
 | .binOp op t x y _=>eX fr x fun a=>eX fr y fun b=>Dx T w op t (vp x||vp y) a b k
 | .unOp op _ x=>eX fr x fun a=>DM w op a k
 | .convert s d x=>eX fr x fun a=>DH T s d a k
 | .makeInterface t x=>eX fr x fun a=>DJ T t a k
 | .fieldAddr s x f=>eX fr x fun a=>du T s fun i=>x3 i f fun o _=>DB o a k
 | .field s x f=>eX fr x fun a=>du T s fun i=>x3 i f fun o t=>du T t fun j=>DC o j a k
 | .indexAddr t x i=>eX fr x fun a=>eX fr i fun n=>DD T t a n k
 | .index t x i=>eX fr x fun a=>eX fr i fun n=>DE T t a n k
 | .extract (.tmp x) n=>kX fr x fun a=>tE a n k
 | .slice t x bD ab none=>eX fr x fun a=>Au fr bD fun p=>Au fr ab fun q=>DF T t a (p.getD 0) q k
 | .typeAssert x _ t true=>eX fr x fun a=>DI T t a k
 | .call ⟨.builtin .len,args,bC⟩=>
   match args.toList,bC.toList with
   |[x],[t]=>eX fr x fun a=>DL T L t a k
   |_,_=>False
 | .call ⟨.builtin .max,args,_⟩=>
   match args.toList with
   |[x,y]=>eX fr x fun a=>eX fr y fun b=>
    match a,b with
    | .aK (.int cM p), .aK (.int q4 q)=>bF (x0 cM q4) (k (.aK (.int cM (if q>p then q else p))))
    |_,_=>False
   |_=>False
 | .call ⟨.builtin .min,args,_⟩=>
   match args.toList with
   |[x,y]=>eX fr x fun a=>eX fr y fun b=>
    match a,b with
    | .aK (.int cM p), .aK (.int q4 q)=>bF (x0 cM q4) (k (.aK (.int cM (if q<p then q else p))))
    |_,_=>False
   |_=>False
 |_=>False
section
variable {P:Program} {T:hZ} {bs:List Nat} {fr:bT} {L:List bz} {m:ad}
theorem et (aJ:fm P T=true) {t:Nat} {k:hk→Prop} (h:du T t k):∃i,gz P t i∧k i:=by
 obtain ⟨i,I,J⟩:=Rg aJ h
 exact ⟨i,gz.of I,J⟩
theorem Av {op:BinOp} {c:bM} {k:a6→Prop} (h:x1 op c k):(op= .eql∧k (.b c))∨(op= .neq∧k (.b (.not c))):=by
 cases op<;>first|exact .inl ⟨rfl,h⟩|exact .inr ⟨rfl,h⟩|exact h.elim
theorem DN {op:BinOp} {c:Bool} {k:a6→Prop} (h:tD op c k):(op= .eql∧k (.b (.lit c)))∨(op= .neq∧k (.b (.lit (!c)))):=by
 cases op<;>first|exact .inl ⟨rfl,h⟩|exact .inr ⟨rfl,h⟩|exact h.elim
theorem jo {bs:List Nat} {o:Option (Prop×R)} {side:Prop} {u:a6} {k:a6→Prop} (aj:k u) (aO:o=some (side,den bs u)) (al:side):∃side z u,o=some (side,z)∧side∧z=den bs u∧k u:=⟨_,_,_,aO,al,rfl,aj⟩
theorem vq {x y:Operand}:(vp x||vp y)=true→((x matches .const _)||(y matches .const _))=true:=by
 intro h
 cases x<;>cases y<;>first|rfl|cases h
set_option maxHeartbeats 2000000 in
theorem Rj (aJ:fm P T=true) {w:Bool} {op:BinOp} {t:Nat} {x y:Operand} {a b:a6} {k:a6→Prop} (h:Dx T w op t (vp x||vp y) a b k):
 ∃side z u,mE P op t x y (den bs a) (den bs b)=some (side,z)∧side∧z=den bs u∧k u:=by
 unfold Dx at h
 split at h
 ·
  rename_i cM a q4 b
  split at h
  · cases op<;>simp only [Iv,Iw] at*<;>first|exact h.elim|(cases ‹false=true›;done)|skip
    · exact jo h.2 rfl h.1
    · exact jo h.2 rfl h.1
  · obtain ⟨e,J⟩:=dN.1 h
    obtain rfl:=Ar e
    clear h e
    cases op<;>simp only [Iu] at J<;>first|exact J.elim|skip
    · exact jo (Aq J) (by simp only [mE,nW,den,R.plain,if_true,bM.val]) True.intro
    · exact jo (Aq J) (by simp only [mE,nW,den,R.plain,if_true,bM.val]) True.intro
    · exact jo (Aq J) (by simp only [mE,nW,den,R.plain,if_true,bM.val]) True.intro
    · exact jo J.2 (by simp only [mE,nW,den,R.plain,if_true,bM.val]) J.1
    · exact jo J.2 (by simp only [mE,nW,den,R.plain,if_true,bM.val]) J.1
    all_goals exact jo J (by simp only [mE,nW,den,R.plain,if_true,bM.val]) True.intro
 · cases op<;>simp only [Ix] at h<;>first|exact h.elim|skip
   · exact jo h.2 (by simp only [mE,nW,den,R.plain,if_true,bM.val]) h.1
   all_goals exact jo h (by simp only [mE,nW,den,R.plain,if_true,bM.val]) True.intro
 · obtain ⟨i,cN,h⟩:=et aJ h
   obtain ⟨e,h⟩:=dN.1 h
   have aj:i.k= .bool:=by cases ab:i.k<;>rw [ab] at e<;>first|rfl|cases e
   rcases Av h with ⟨rfl,h⟩|⟨rfl,h⟩
   · exact jo h rfl (cN.bool aj)
   · exact jo h rfl (cN.bool aj)
 all_goals try exact h.elim
 all_goals
  obtain ⟨i,cN,h⟩:=et aJ h
  obtain ⟨e,h⟩:=dN.1 h
 · have aj:i.k= .ml:=by cases ab:i.k<;>rw [ab] at e<;>first|rfl|cases e
   obtain ⟨ms,hu⟩:=cN.ml aj
   obtain ⟨aI,h⟩:=dN.1 h
   rcases DN h with ⟨rfl,h⟩|⟨rfl,h⟩
   · exact jo h rfl ⟨by rw [hu],vq aI⟩
   · exact jo h rfl ⟨by rw [hu],vq aI⟩
 · have aj:i.k= .ml:=by cases ab:i.k<;>rw [ab] at e<;>first|rfl|cases e
   obtain ⟨ms,hu⟩:=cN.ml aj
   obtain ⟨aI,h⟩:=dN.1 h
   rcases Av h with ⟨rfl,h⟩|⟨rfl,h⟩
   · exact jo h rfl ⟨by rw [hu],vq aI⟩
   · exact jo h rfl ⟨by rw [hu],vq aI⟩
 · have aj:i.k= .ml:=by cases ab:i.k<;>rw [ab] at e<;>first|rfl|cases e
   obtain ⟨ms,hu⟩:=cN.ml aj
   obtain ⟨aI,h⟩:=dN.1 h
   rcases Av h with ⟨rfl,h⟩|⟨rfl,h⟩
   · exact jo h rfl ⟨by rw [hu],vq aI⟩
   · exact ⟨_,_,_,(rfl:mE P .neq t x y (den bs (.aK (.opt _))) (den bs (.aK .nilIface))=some (_, .bool _)),⟨by rw [hu],vq aI⟩,by simp only [den,bM.val,Bool.not_not],h⟩
 · have aj:i.k= .ml:=by cases ab:i.k<;>rw [ab] at e<;>first|rfl|cases e
   obtain ⟨ms,hu⟩:=cN.ml aj
   rcases DN h with ⟨rfl,h⟩|⟨rfl,h⟩
   · exact jo h rfl (by rw [hu])
   · exact jo h rfl (by rw [hu])
 · have aj:i.k= .ml:=by cases ab:i.k<;>rw [ab] at e<;>first|rfl|cases e
   obtain ⟨ms,hu⟩:=cN.ml aj
   obtain ⟨j,fD,h⟩:=et aJ h
   obtain ⟨aI,h⟩:=dN.1 h
   obtain ⟨cR,h⟩:=dN.1 h
   obtain ⟨kB,aN⟩:=dN.1 h
   have ay:j.k= .int .i64:=by
    split at aI
    · assumption
    · cases aI
   obtain rfl:=Nat.eq_of_beq_eq_true cR
   obtain rfl:=Ar kB
   rcases Av aN.2 with ⟨rfl,cb⟩|⟨rfl,cb⟩
   · exact jo cb rfl ⟨by rw [hu],rfl,fD.int ay,fD.cmp _ ay,rfl,aN.1⟩
   · exact jo cb rfl ⟨by rw [hu],rfl,fD.int ay,fD.cmp _ ay,rfl,aN.1⟩
 all_goals
  have aj:i.k= .ptr:=by cases ab:i.k<;>rw [ab] at e<;>first|rfl|cases e
  obtain ⟨ms,hu⟩:=cN.ptr aj
  rcases DN h with ⟨rfl,h⟩|⟨rfl,h⟩
  · exact jo h rfl (by rw [hu])
  · exact jo h rfl (by rw [hu])
end
end Go.bS
end
section
namespace Go.bS
open Go Go.bh
section
variable {P:Program} {T:hZ} {bs:List Nat} {fr:bT} {L:List bz} {m:ad} {k:a6→Prop}
def dY (o:Option (Prop×R)) (bs:List Nat) (k:a6→Prop):Prop:=∃side z u,o=some (side,z)∧side∧z=den bs u∧k u
theorem dY.mk {o:Option (Prop×R)} {side:Prop} {z:R} {u:a6} (aj:k u) (aO:o=some (side,z)) (al:side) (aA:z=den bs u):dY o bs k:=⟨_,_,_,aO,al,aA,aj⟩
theorem DO (l:List a6) (n:Nat):bo bs (l.drop n)=(bo bs l).drop n:=by rw [mi,mi,List.map_drop]
theorem DP (l:List a6) (n:Nat):bo bs (l.take n)=(bo bs l).take n:=by rw [mi,mi,List.map_take]
theorem sd {l:List a6} {n:Nat} {v:a6} (h:nth l n=some v):(bo bs l).getD n .aP=den bs v∧n<(bo bs l).length:=by
 rw [j2] at h
 have bG:n<l.length:=by
  rcases Nat.lt_or_ge n l.length with cb|cb
  · exact cb
  · rw [List.getElem?_eq_none cb] at h;cases h
 rw [mi]
 exact ⟨by rw [List.getD_eq_getElem?_getD,List.getElem?_map,h];rfl,by simpa using bG⟩
theorem IA {l:List R} {n:Nat} {v:R} (h:nth l n=some v):l.getD n .aP=v∧n<l.length:=by
 rw [j2] at h
 have bG:n<l.length:=by
  rcases Nat.lt_or_ge n l.length with cb|cb
  · exact cb
  · rw [List.getElem?_eq_none cb] at h;cases h
 exact ⟨by rw [List.getD_eq_getElem?_getD,h];rfl,bG⟩
theorem Rk (l:List R) (n:Nat):R.fe (l.take n)=(R.fe l).take n:=by rw [R.iI,R.iI,List.map_take]
theorem Rl (l:List R) (n:Nat):R.fe (l.drop n)=(R.fe l).drop n:=by rw [R.iI,R.iI,List.map_drop]
theorem x4 (l:List R):(R.fe l).length=l.length:=by rw [R.iI,List.length_map]
theorem vr {t:Nat} {i:hk} (cN:gz P t i) (h:i.k.ij=true) (l:List R) (off:Nat):apart P t l off= .agg ((l.drop off).take i.n):=by
 rw [apart,cN.tB,h,cN.cells];rfl
theorem vt {t:Nat} {i:hk} (cN:gz P t i) (h:i.k.ij=false) (l:List R) (off:Nat):apart P t l off=l.getD off .aP:=by
 rw [apart,cN.tB,h];rfl
theorem vu {t:Nat} {i:hk} (cN:gz P t i) (h:i.k.ij=true) {l:List R} {off:Nat} (ar:off+i.n≤l.length):jA P t l off:=
 rY cN.is (cN.tB.trans h) (by rw [cN.cells];exact ar)
theorem vv {t:Nat} {i:hk} (cN:gz P t i) (h:i.k.ij=false) {l:List R} {off:Nat} (ar:off<l.length):jA P t l off:=
 CS cN.is (cN.tB.trans h) ar
theorem IB {t:Nat} {i:hk} (cN:gz P t i) (g:Good bs L m) {v:a6} (h:q5 L i v k) {a:Operand→R} {x:Operand} (e:den bs v=a x):dY (bw P (bK bs L m) a (.load t x)) bs k:=by
 unfold q5 at h
 split at h
 · rename_i l
   have ax:a x= .ref l:=by rw [←e];simp only [den,R.plain]
   have aO:bw P (bK bs L m) a (.load t x)=some (jA P t l 0,apart P t l 0):=by simp only [bw,ax]
   cases bW:i.k.ij with
   |true=>
    rw [bW] at h
    obtain ⟨ae,h⟩:=dN.1 h
    obtain ⟨aB,h⟩:=Ds h
    exact dY.mk h aO (vu cN bW (by have:=Nat.le_of_ble_eq_true ae;omega)) (by rw [vr cN bW];simp only [den,R.plain,aB,List.drop_zero])
   |false=>
    rw [bW] at h
    cases l with
    |nil=>exact h.elim
    |cons y r=>
     obtain ⟨aB,h⟩:=qo h
     rw [Al] at h
     exact dY.mk h aO (vv cN bW (by simp)) (by rw [vt cN bW,q2,aB];simp only [List.getD_cons_zero])
 · rename_i b off
   split at h
   · rename_i l av
     rw [j2] at av
     have ax:a x= .ptr ⟨bs.getD b 0,off,none⟩:=by rw [←e];simp only [den]
     have hm:=mO g av
     have aO:bw P (bK bs L m) a (.load t x)=some (jA P t (bo bs l) off,(apart P t (bo bs l) off).plain):=by simp only [bw,ax,hm,er]
     cases bW:i.k.ij with
     |true=>
      rw [bW] at h
      obtain ⟨ae,h⟩:=dN.1 h
      obtain ⟨u,h,hu⟩:=vg bs h
      exact dY.mk h aO (vu cN bW (by rw [kW];exact Nat.le_of_ble_eq_true ae)) (by rw [vr cN bW];simp only [den,R.plain,hu,DP,DO])
     |false=>
      rw [bW] at h
      simp only at h
      split at h
      · rename_i v bc
        obtain ⟨u,h,hu⟩:=oY bs h
        obtain ⟨aI,bG⟩:=sd (bs:=bs) bc
        exact dY.mk h aO (vv cN bW bG) (by rw [vt cN bW,aI,hu])
      · exact h.elim
   · exact h.elim
 · rename_i b n w j
   split at h
   · rename_i l av
     rw [j2] at av
     have ax:a x= .ptr ⟨bs.getD b 0,0+n.toNat*w+j,none⟩:=by rw [←e];simp only [den]
     have hm:=mO g av
     have aO:bw P (bK bs L m) a (.load t x)=some (jA P t l (0+n.toNat*w+j),(apart P t l (0+n.toNat*w+j)).plain):=by simp only [bw,ax,hm,er]
     obtain ⟨I,h⟩:=h
     obtain ⟨aB,h⟩:=Ak h
     rw [Al] at h
     cases bW:i.k.ij with
     |true=>
      rw [bW] at I h aB
      exact dY.mk h aO (vu cN bW I) (by rw [vr cN bW,q2];rfl)
     |false=>
      rw [bW] at I h aB
      exact dY.mk h aO (vv cN bW I) (by rw [vt cN bW,q2];rfl)
   · exact h.elim
 · exact h.elim
theorem Rm {v:a6} (h:DA v k) {a:Operand→R} {x:Operand} (e:den bs v=a x):dY (bw P (bK bs L m) a (.nilCheck x)) bs k:=by
 unfold DA at h
 split at h
 all_goals first|exact h.elim|exact dY.mk h (by simp only [bw,←e,den,R.plain]<;>rfl) trivial (by simp only [den,R.plain])
theorem Rn {w:Bool} {op:UnOp} {t:Nat} {v:a6} (h:DM w op v k) {a:Operand→R} {x:Operand} (e:den bs v=a x):dY (bw P (bK bs L m) a (.unOp op t x)) bs k:=by
 unfold DM at h
 split at h
 · exact dY.mk h (by simp only [bw,←e,den,bM.val]<;>rfl) trivial (by simp only [den,bM.val])
 · exact dY.mk h (by simp only [bw,←e,den,bM.val]<;>rfl) trivial (by simp only [den,bM.val,Bool.not_not])
 · exact dY.mk h (by simp only [bw,←e,den,bM.val]<;>rfl) trivial (by simp only [den,bM.val])
 · exact dY.mk (Aq h) (by simp only [bw,←e,den,R.plain]<;>rfl) trivial (by simp only [den,R.plain,Int.zero_sub])
 · exact h.elim
theorem Ro (n:Int):(jk n).toNat=IntKind.u8.wrap n:=CY n
theorem Rp {a b:IntKind} {n:Int} (h:DG a b n k):∃z,k (.aK (.int b z))∧z=b.wrap n:=by
 unfold DG at h
 split at h
 · exact ⟨_,h.2,(wrap64 _ h.1.1 h.1.2).symm⟩
 · exact ⟨_,h.2,(wrap64 _ h.1.1 h.1.2).symm⟩
 · exact ⟨_,h,Ro n⟩
 · exact ⟨_,h,rfl⟩
theorem Rq (aJ:fm P T=true) {s d:Nat} {v:a6} (h:DH T s d v k) {a:Operand→R} {x:Operand} (e:den bs v=a x):dY (bw P (bK bs L m) a (.convert s d x)) bs k:=by
 unfold DH at h
 split at h
 · obtain ⟨i,bC,h⟩:=et aJ h
   obtain ⟨j,x5,h⟩:=et aJ h
   split at h
   · rename_i q4 aj
     obtain ⟨z,h,aA⟩:=Rp h
     exact dY.mk h (by simp only [bw,x5.int aj,←e,den,R.plain];rfl) bC.is (by simp only [den,R.plain,aA])
   · exact h.elim
 · obtain ⟨i,bC,h⟩:=et aJ h
   obtain ⟨j,x5,h⟩:=et aJ h
   obtain ⟨aj,h⟩:=dN.1 h
   have fs:j.k= .str:=by cases ay:j.k<;>rw [ay] at aj<;>first|rfl|cases aj
   exact dY.mk h (by simp only [bw,x5.str fs,←e,den,R.plain];rfl) bC.is (by simp only [den,R.plain])
 · obtain ⟨i,bC,h⟩:=et aJ h
   obtain ⟨j,x5,h⟩:=et aJ h
   obtain ⟨aj,h⟩:=dN.1 h
   have fs:j.k= .str:=by cases ay:j.k<;>rw [ay] at aj<;>first|rfl|cases aj
   unfold kA at h
   split at h
   · rename_i gJ gH
     obtain ⟨q,Aw,h⟩:=et aJ h
     obtain ⟨aO,h⟩:=dN.1 h
     have lH:q.k= .int .u8:=by
      split at aO
      · assumption
      · cases aO
     refine dY.mk h.2 (by simp only [bw,x5.str fs,←e,den,R.plain];rfl) ?_ ?_
     · exact ⟨gJ,(bC.bO gH).1,Aw.int lH,h.1⟩
     · simp only [den,R.plain]
   · exact h.elim
 · exact h.elim
theorem Rr (aJ:fm P T=true) {t:Nat} {v:a6} (h:DJ T t v k) {a:Operand→R} {x:Operand} (e:den bs v=a x):dY (bw P (bK bs L m) a (.makeInterface t x)) bs k:=by
 unfold DJ at h
 split at h
 · rename_i y
   obtain ⟨i,cN,h⟩:=et aJ h
   obtain ⟨aj,h⟩:=dN.1 h
   obtain ⟨aB,h⟩:=Ak h
   obtain ⟨d,aY,x6⟩:=cN.tC aj
   refine dY.mk (side:=True) (z:= .iface t (a x)) h ?_ trivial (by rw [←e];simp only [den,R.plain,aB])
   cases d<;>first|exact absurd rfl (x6 _)|simp only [bw,aY]
 · exact h.elim
theorem DQ {t:Nat} {i:hk} (cN:gz P t i) {f:Nat} {k:Nat→Nat→Prop} (h:x3 i f k):∃fa fd,P.underlying t=some (.struct fa)∧fa[f]?=some fd∧ef P fd.type=true∧P.cellsOf fd.type≠0∧k fd.offset fd.type:=by
 unfold x3 at h
 split at h
 · rename_i cA aj
   obtain ⟨fa,I,J,ai⟩:=cN.st aj
   split at h
   · rename_i o ty aL
     rw [j2,←J,List.getElem?_map] at aL
     cases aW:fa.toList[f]? with
     |none=>rw [aW] at aL;cases aL
     |some fd=>
      rw [aW] at aL
      simp only [Option.map_some,Option.some.injEq,Prod.mk.injEq] at aL
      obtain ⟨rfl,rfl⟩:=aL
      have hm:fd∈fa.toList:=List.mem_of_getElem? aW
      exact ⟨fa,fd,I,by simpa using aW,(ai _ hm).1,(ai _ hm).2,h⟩
   · exact h.elim
 · exact h.elim
theorem Rs {t f:Nat} {fa:Array Field} {fd:Field} (hu:P.underlying t=some (.struct fa)) (aW:fa[f]?=some fd) (I:ef P fd.type=true) (J:P.cellsOf fd.type≠0) {v:a6} (h:DB fd.offset v k)
 {a:Operand→R} {x:Operand} (e:den bs v=a x):dY (bw P (bK bs L m) a (.fieldAddr t x f)) bs k:=by
 unfold DB at h
 split at h
 · refine dY.mk h (by simp only [bw,hu,aW,←e,den]<;>rfl) ?_ ?_
   · exact ⟨I,J⟩
   · simp only [den]
 · refine dY.mk h (by simp only [bw,hu,aW,←e,den]<;>rfl) ?_ ?_
   · exact ⟨I,J⟩
   · simp only [den,Nat.add_assoc]
 · obtain ⟨ae,h⟩:=dN.1 h
   rw [hv] at h
   refine dY.mk h (by simp only [bw,hu,aW,←e,den,R.plain]<;>rfl) ?_ ?_
   · exact ⟨I,J,Nat.le_of_ble_eq_true ae⟩
   · simp only [den,R.plain]
 · refine dY.mk h (by simp only [bw,hu,aW,←e,den,R.plain]<;>rfl) ?_ ?_
   · exact ⟨I,J⟩
   · simp only [den,R.plain]
 · exact h.elim
theorem Rt {t f:Nat} {fa:Array Field} {fd:Field} (hu:P.underlying t=some (.struct fa)) (aW:fa[f]?=some fd) {j:hk} (cN:gz P fd.type j) {v:a6} (h:DC fd.offset j v k)
 {a:Operand→R} {x:Operand} (e:den bs v=a x):dY (bw P (bK bs L m) a (.field t x f)) bs k:=by
 unfold DC at h
 split at h
 · rename_i l
   have aO:bw P (bK bs L m) a (.field t x f)=some (jA P fd.type (bo bs l) fd.offset,apart P fd.type (bo bs l) fd.offset):=by simp only [bw,hu,aW,←e,den]
   cases bW:j.k.ij with
   |true=>
    rw [bW] at h
    obtain ⟨ae,h⟩:=dN.1 h
    rw [hv] at h
    exact dY.mk h aO (vu cN bW (by rw [kW];exact Nat.le_of_ble_eq_true ae)) (by rw [vr cN bW];simp only [den,DP,DO])
   |false=>
    rw [bW] at h
    simp only at h
    split at h
    · rename_i u CA
      obtain ⟨aI,bG⟩:=sd (bs:=bs) CA
      exact dY.mk h aO (vv cN bW bG) (by rw [vt cN bW,aI])
    · exact h.elim
 · rename_i l
   have aO:bw P (bK bs L m) a (.field t x f)=some (jA P fd.type (R.fe l) fd.offset,apart P fd.type (R.fe l) fd.offset):=by simp only [bw,hu,aW,←e,den,R.plain]
   cases bW:j.k.ij with
   |true=>
    rw [bW] at h
    obtain ⟨ae,h⟩:=dN.1 h
    rw [hv] at h
    exact dY.mk h aO (vu cN bW (by rw [x4];exact Nat.le_of_ble_eq_true ae)) (by rw [vr cN bW];simp only [den,R.plain,Rk,Rl])
   |false=>
    rw [bW] at h
    simp only at h
    split at h
    · rename_i y aE
      obtain ⟨aB,h⟩:=qo h
      rw [Al] at h
      obtain ⟨aI,bG⟩:=IA aE
      exact dY.mk h aO (vv cN bW (by rw [x4];exact bG)) (by rw [vt cN bW,oJ,aI,q2])
    · exact h.elim
 · exact h.elim
theorem Ru (aJ:fm P T=true) {t:Nat} {v n:a6} (h:DD T t v n k) {a:Operand→R} {x y:Operand} (e:den bs v=a x) (aI:den bs n=a y):dY (bw P (bK bs L m) a (.indexAddr t x y)) bs k:=by
 unfold DD at h
 split at h
 · rename_i o l cM dd
   obtain ⟨i,dZ,h⟩:=et aJ h
   unfold kA at h
   split at h
   · rename_i gJ gH
     obtain ⟨j,fD,h⟩:=et aJ h
     obtain ⟨ab,h⟩:=h
     have h:=Re h
     obtain ⟨ae,h⟩:=dN.1 h
     obtain ⟨I,J,ai,aC⟩:=dZ.bO gH
     refine dY.mk h (by simp only [bw,I,←e,←aI,den,R.plain];rfl) ?_ ?_
     · exact ⟨J,by omega,ab.1,ab.2,by rw [fD.cells];exact Nat.eq_of_beq_eq_true ae⟩
     · simp only [den,R.plain]
   · exact h.elim
 · rename_i b len cap cM dd
   obtain ⟨i,dZ,h⟩:=et aJ h
   unfold kA at h
   split at h
   · rename_i gJ gH
     obtain ⟨j,fD,h⟩:=et aJ h
     obtain ⟨I,J,ai,aC⟩:=dZ.bO gH
     refine dY.mk h.2 (by simp only [bw,I,←e,←aI,den,R.plain];rfl) ?_ ?_
     · exact ⟨J,h.1⟩
     · simp only [den,fD.cells,Nat.add_zero]
   · exact h.elim
 · exact h.elim
theorem Rv (aJ:fm P T=true) {t:Nat} {v n:a6} (h:DE T t v n k) {a:Operand→R} {x y:Operand} (e:den bs v=a x) (aI:den bs n=a y):dY (bw P (bK bs L m) a (.index t x y)) bs k:=by
 unfold DE at h
 split at h
 · obtain ⟨i,dZ,h⟩:=et aJ h
   obtain ⟨aj,h⟩:=dN.1 h
   have fs:i.k= .str:=by cases ay:i.k<;>rw [ay] at aj<;>first|rfl|cases aj
   exact dY.mk h.2 (by simp only [bw,dZ.str fs,←e,←aI,den,R.plain];rfl) h.1 (by simp only [den,R.plain,aa];rfl)
 · exact h.elim
theorem DR {n:Nat} {v:a6} (h:tE v n k) {a:Operand→R} {x:Operand} (e:(den bs v).plain=a x):dY (bw P (bK bs L m) a (.extract x n)) bs k:=by
 unfold tE at h
 split at h
 · rename_i l
   split at h
   · rename_i u hu
     obtain ⟨aL,h⟩:=dN.1 h
     obtain ⟨w,h,hw⟩:=vh bs aL h
     obtain ⟨aI,bG⟩:=sd (bs:=bs) hu
     exact dY.mk h (by simp only [bw,←e,den,R.plain];rfl) (by rw [x4];exact bG) (by rw [oJ,aI,hw])
   · exact h.elim
 · rename_i l
   split at h
   · rename_i y aE
     obtain ⟨aB,h⟩:=Ak h
     rw [Al] at h
     obtain ⟨aI,bG⟩:=IA aE
     exact dY.mk h (by simp only [bw,←e,den,R.plain];rfl) (by rw [x4,x4];exact bG) (by rw [oJ,oJ,aI,xU,q2])
   · exact h.elim
 · exact h.elim
theorem IC {bD:Option Operand} {k:Option Int→Prop} (h:Au fr bD k):∃p,k p∧∀d:Nat,l3 (bD.map (bx (a1 (bm bs fr)))) d=some (p.getD d):=by
 unfold Au at h
 split at h
 · exact ⟨_,h,fun d=>rfl⟩
 · obtain ⟨v,h,e⟩:=e5 bs h
   split at h
   · exact ⟨_,h,fun d=>by simp only [Option.map_some,←e,den,R.plain,l3,Option.getD_some]⟩
   · exact h.elim
theorem Rw (aJ:fm P T=true) {t:Nat} {v:a6} {p q:Option Int} (h:DF T t v (p.getD 0) q k) {a:Operand→R} {x:Operand} {bD ab:Option Operand} (e:den bs v=a x)
 (aB:∀d:Nat,l3 (bD.map a) d=some (p.getD d)) (aO:∀d:Nat,l3 (ab.map a) d=some (q.getD d)):dY (bw P (bK bs L m) a (.slice t x bD ab none)) bs k:=by
 have uP:l3 (bD.map a) 0=some (p.getD 0):=aB 0
 unfold DF at h
 split at h
 · rename_i l
   obtain ⟨i,dZ,h⟩:=et aJ h
   obtain ⟨aj,h⟩:=dN.1 h
   have fs:i.k= .str:=by cases ay:i.k<;>rw [ay] at aj<;>first|rfl|cases aj
   have q6:=aO l.length
   cases q with
   |some q=>
    refine dY.mk (side:=0≤p.getD 0∧p.getD 0≤q∧q≤l.length) (z:= .str ((l.drop (p.getD 0).toNat).take (q- p.getD 0).toNat)) h.2 ?_ h.1 (by simp only [den,R.plain,sub])
    simp only [Option.getD_some] at q6
    simp only [bw,dZ.str fs,←e,den,R.plain,uP,q6]
   |none=>
    refine dY.mk (side:=0≤p.getD 0∧p.getD 0≤(l.length:Int)∧(l.length:Int)≤l.length) (z:= .str ((l.drop (p.getD 0).toNat).take ((l.length:Int)- p.getD 0).toNat)) h.2 ?_ ⟨h.1.1,h.1.2,Int.le_refl _⟩ (by simp only [den,R.plain,sub])
    simp only [Option.getD_none] at q6
    simp only [bw,dZ.str fs,←e,den,R.plain,uP,q6]
 · rename_i o l
   obtain ⟨i,dZ,h⟩:=et aJ h
   unfold kA at h
   split at h
   · rename_i gJ gH
     obtain ⟨j,fD,h⟩:=et aJ h
     obtain ⟨dA,lH,I,h⟩:=h
     obtain ⟨jD,jE,mm,mP⟩:=dZ.bO gH
     have q6:=aO l.length
     rw [lH] at q6
     refine dY.mk h (by simp only [bw,jD,←e,den,R.plain,uP,q6]<;>rfl) ?_ ?_
     · exact ⟨jE,I.1,I.2.1,I.2.2.1,by rw [fD.cells];exact I.2.2.2⟩
     · simp only [den,R.plain]
   · exact h.elim
 · rename_i b n c
   obtain ⟨i,dZ,h⟩:=et aJ h
   unfold kA at h
   split at h
   · rename_i gJ gH
     obtain ⟨j,fD,h⟩:=et aJ h
     obtain ⟨⟨cX,cI,kZ⟩,I,J⟩:=h
     obtain ⟨jD,jE,mm,mP⟩:=dZ.bO gH
     have q6:=aO n
     have bc:bw P (bK bs L m) a (.slice t x bD ab none)=some (ef P gJ=true∧0≤p.getD 0∧p.getD 0≤q.getD n∧q.getD n≤n,if p.getD 0<c then .ms ⟨bs.getD b 0,0+(p.getD 0).toNat*P.cellsOf gJ,none⟩ (q.getD n- p.getD 0).toNat (c- (p.getD 0).toNat) else .fz):=by
      simp only [bw,jD,←e,den,R.plain,uP,q6]
     by_cases ag:p.getD 0<c
     · exact dY.mk (I ag) bc ⟨jE,cX,cI,kZ⟩ (by rw [if_pos ag,fD.cells];simp only [den])
     · rw [if_neg ag] at bc
       exact dY.mk (J (by omega)) bc ⟨jE,cX,cI,kZ⟩ (by simp only [den,R.plain])
   · exact h.elim
 · exact h.elim
theorem Rx (aJ:fm P T=true) {t s:Nat} {v:a6} (h:DI T t v k) {a:Operand→R} {x:Operand} (e:den bs v=a x):dY (bw P (bK bs L m) a (.typeAssert x s t true)) bs k:=by
 unfold DI at h
 split at h
 · obtain ⟨i,dZ,h⟩:=et aJ h
   obtain ⟨aj,h⟩:=dN.1 h
   obtain ⟨ae,J⟩:=dN.1 h
   obtain ⟨aB,ai⟩:=qo J
   obtain ⟨d,aY,x6⟩:=dZ.tC aj
   obtain rfl:=Nat.eq_of_beq_eq_true ae
   refine dY.mk (side:=True) ai ?_ trivial rfl
   simp only [bw,aY,←e,den,bo,R.plain,bM.val,aB]
   cases d<;>first|(simp only [if_true];done)|exact absurd rfl (x6 _)
 · obtain ⟨i,dZ,h⟩:=et aJ h
   obtain ⟨aj,h⟩:=dN.1 h
   obtain ⟨ae,J⟩:=dN.1 h
   obtain rfl:=Nat.eq_of_beq_eq_true ae
   have qc:i.k= .int .i64∧i.z=[.i .i64]:=by
    split at aj
    · exact ⟨by assumption,by assumption⟩
    · cases aj
   obtain ⟨v,aA,_,qa,_⟩:=dZ.zero (by rw [qc.2];simp)
   have bc:v= .int .i64 0:=by
    rw [qc.1,qc.2] at qa
    cases v<;>simp [vn,q3,tz,j4.ij] at qa
    rw [qa.1,qa.2]
   refine dY.mk (side:=(P.info? _).bind (·.zero)=some (.int .i64 0)) J ?_ (by rw [aA,bc]) rfl
   simp only [bw,dZ.int qc.1,←e,den,bo,R.plain,bM.val,if_true]
 · exact h.elim
theorem Ry (aJ:fm P T=true) (g:Good bs L m) {t:Nat} {v:a6} (h:DL T L t v k) {a:Operand→R} {x:Operand} (e:den bs v=a x) {args:Array Operand} {bC:Array TypeId} (aH:args.toList=[x]) (ao:bC.toList=[t]):
 dY (bw P (bK bs L m) a (.call ⟨.builtin .len,args,bC⟩)) bs k:=by
 have se:args[0]?=some x:=by rw [←Array.getElem?_toList,aH];rfl
 have x7:bC[0]?=some t:=by rw [←Array.getElem?_toList,ao];rfl
 unfold DL at h
 split at h
 · obtain ⟨i,dZ,h⟩:=et aJ h
   obtain ⟨aj,h⟩:=dN.1 h
   have fs:i.k= .str:=by cases ay:i.k<;>rw [ay] at aj<;>first|rfl|cases aj
   exact dY.mk h (by simp only [bw,se,x7,dZ.str fs,←e,den,R.plain];rfl) trivial (by simp only [den,R.plain])
 · obtain ⟨i,dZ,h⟩:=et aJ h
   obtain ⟨aj,h⟩:=dN.1 h
   obtain ⟨gJ,fs⟩:∃gJ,i.k= .bO gJ:=by cases ay:i.k<;>rw [ay] at aj<;>first|exact ⟨_,rfl⟩|cases aj
   exact dY.mk h.q (by simp only [bw,se,x7,(dZ.bO fs).1,←e,den,R.plain];rfl) trivial (by simp only [den,R.plain])
 · obtain ⟨i,dZ,h⟩:=et aJ h
   obtain ⟨aj,h⟩:=dN.1 h
   obtain ⟨gJ,fs⟩:∃gJ,i.k= .bO gJ:=by cases ay:i.k<;>rw [ay] at aj<;>first|exact ⟨_,rfl⟩|cases aj
   exact dY.mk h.2 (by simp only [bw,se,x7,(dZ.bO fs).1,←e,den];rfl) h.1 (by simp only [den,R.plain])
 · obtain ⟨i,dZ,h⟩:=et aJ h
   obtain ⟨aj,h⟩:=dN.1 h
   obtain ⟨gw,gJ,fs⟩:∃gw gJ,i.k= .mp gw gJ:=by cases ay:i.k<;>rw [ay] at aj<;>first|exact ⟨_,_,rfl⟩|cases aj
   exact dY.mk h (by simp only [bw,se,x7,dZ.mp fs,←e,den,R.plain];rfl) trivial (by simp only [den,R.plain])
 · obtain ⟨i,dZ,h⟩:=et aJ h
   obtain ⟨aj,h⟩:=dN.1 h
   obtain ⟨gw,gJ,fs⟩:∃gw gJ,i.k= .mp gw gJ:=by cases ay:i.k<;>rw [ay] at aj<;>first|exact ⟨_,_,rfl⟩|cases aj
   split at h
   · rename_i b _ l ar
     rw [j2] at ar
     obtain ⟨n,aL,h⟩:=h
     have hm:=mO g ar
     exact dY.mk h (by simp only [bw,se,x7,dZ.mp fs,←e,den,hm,er];rfl) trivial (by simp only [den,R.plain,aL])
   · exact h.elim
 · exact h.elim
set_option maxHeartbeats 2000000 in
theorem DS (aJ:fm P T=true) (g:Good bs L m) {w:Bool} {op:Op} (h:sc T w fr L op k):dY (bw P (bK bs L m) (bx (a1 (bm bs fr))) op) bs k:=by
 unfold sc at h
 split at h
 · obtain ⟨v,h,e⟩:=e5 bs h
   exact dY.mk h (by simp only [bw]) trivial e.symm
 · obtain ⟨v,h,e⟩:=e5 bs h
   exact dY.mk h (by simp only [bw]) trivial e.symm
 · obtain ⟨v,h,e⟩:=e5 bs h
   obtain ⟨i,cN,h⟩:=et aJ h
   exact IB cN g h e
 · obtain ⟨v,h,e⟩:=e5 bs h
   exact Rm h e
 · obtain ⟨v,h,e⟩:=e5 bs h
   obtain ⟨u,h,aI⟩:=e5 bs h
   have:=Rj (bs:=bs) aJ h
   rw [e,aI] at this
   simpa only [dY,bw] using this
 · obtain ⟨v,h,e⟩:=e5 bs h
   exact Rn h e
 · obtain ⟨v,h,e⟩:=e5 bs h
   exact Rq aJ h e
 · obtain ⟨v,h,e⟩:=e5 bs h
   exact Rr aJ h e
 · obtain ⟨v,h,e⟩:=e5 bs h
   obtain ⟨i,cN,h⟩:=et aJ h
   obtain ⟨fa,fd,I,J,ai,aC,h⟩:=DQ cN h
   exact Rs I J ai aC h e
 · obtain ⟨v,h,e⟩:=e5 bs h
   obtain ⟨i,cN,h⟩:=et aJ h
   obtain ⟨fa,fd,I,J,ai,aC,h⟩:=DQ cN h
   obtain ⟨j,fD,h⟩:=et aJ h
   exact Rt I J fD h e
 · obtain ⟨v,h,e⟩:=e5 bs h
   obtain ⟨u,h,aI⟩:=e5 bs h
   exact Ru aJ h e aI
 · obtain ⟨v,h,e⟩:=e5 bs h
   obtain ⟨u,h,aI⟩:=e5 bs h
   exact Rv aJ h e aI
 · rw [mj] at h
   exact DR h (by rw [bx,lo])
 · obtain ⟨v,h,e⟩:=e5 bs h
   obtain ⟨p,h,aB⟩:=IC (bs:=bs) h
   obtain ⟨q,h,aO⟩:=IC (bs:=bs) h
   exact Rw aJ h e aB aO
 · obtain ⟨v,h,e⟩:=e5 bs h
   exact Rx aJ h e
 · split at h
   · rename_i aH ao
     obtain ⟨v,h,e⟩:=e5 bs h
     exact Ry aJ g h e aH ao
   · exact h.elim
 · split at h
   · rename_i aH
     obtain ⟨v,h,e⟩:=e5 bs h
     obtain ⟨u,h,aI⟩:=e5 bs h
     split at h
     · obtain ⟨ae,J⟩:=dN.1 h
       obtain rfl:=Ar ae
       exact dY.mk (side:=True) J (by simp only [bw,aH,←e,←aI,den,R.plain,if_true]<;>rfl) trivial rfl
     · exact h.elim
   · exact h.elim
 · split at h
   · rename_i aH
     obtain ⟨v,h,e⟩:=e5 bs h
     obtain ⟨u,h,aI⟩:=e5 bs h
     split at h
     · obtain ⟨ae,J⟩:=dN.1 h
       obtain rfl:=Ar ae
       exact dY.mk (side:=True) J (by simp only [bw,aH,←e,←aI,den,R.plain,if_true]<;>rfl) trivial rfl
     · exact h.elim
   · exact h.elim
 · exact h.elim
end
end Go.bS
end
