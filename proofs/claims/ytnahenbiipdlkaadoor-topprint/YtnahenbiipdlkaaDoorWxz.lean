/-
  The abstract layer, part 20: a region whose order is open but for its end: what only reads in any order; then, in the text's order, what makes and writes.
-/
import Derived.Test.YtnahenbiipdlkaaDoorWwS
import Derived.ProofKit
import Derived.SizedLaws
import Derived.MapKept
import Derived.WideMake
import Derived.Maps.RangeRun
import Derived.Shelf.Sort.Plain
section
namespace Go.bb
open Go
section
variable {P:Program} {n:Nat} {fr:Fr} {m:ae}
def oL (ops:Array Oper) (i:Nat):List Nat:=
 match ops[i]? with
 |some o=>(o.after.toList.filter (Region.binds .any)).map (·.on)
 |none=>[]
def closure (ops:Array Oper):Nat→List Nat→List Nat
 |0,S=>S
 |j+1,S=>closure ops j (if S.contains j then oL ops j++S else S)
theorem Db {ops:Array Oper} {p:Nat→Prop} (aB:∀j,p j→∀e∈oL ops j,p e):∀(k:Nat) (S:List Nat),(∀j∈S,p j)→∀j∈closure ops k S,p j:=by
 intro k
 induction k with
 |zero=>intro S h;exact h
 |succ k aO=>
  intro S h
  simp only [closure]
  refine aO _ ?_
  split
  · next ah=>
    intro j aG
    rcases List.mem_append.1 aG with aG|aG
    · exact aB k (h k (by simpa using ah)) j aG
    · exact h j aG
  · exact h
theorem tH {ops:Array Oper} {i j:Nat} {o:Oper} (aD:ops[i]?=some o):j∈oL ops i↔∃e∈o.after,Region.binds .any e=true∧e.on=j:=by
 simp [oL,aD,and_assoc]
def qw (ops:Array Oper) (p:Nat) (hU:List (Nat×Nat)):Bool:=
 decide (p≤ops.size)&&
 ((List.range ops.size).all fun i=>(oL ops i).all fun e=>decide (e<i))&&
 ((List.range ops.size).all fun i=>decide (i<p)||(List.range i).all fun j=>(closure ops i (oL ops i)).contains j)&&
 ((List.range p).all fun i=>
   match ops[i]? with
   |some o=>
    o.dst.isSome&&
    (List.range p).all fun j=>
      match ops[j]? with
      |some q=>
       (decide (i=j)||!(o.dst==q.dst))&&
       (match q.dst with
       |some d=>!((slotsOf ops o).contains d)||(if j<i then vM o j else if i<j then vM q i else true)
       |none=>true)
      |none=>true
   |none=>true)&&
 hU.all fun (d,s)=>
  (List.range p).any (fun j=>match ops[j]? with|some o=>o.dst==some d&&o.guard.isNone&&(match o.op with| .move (.tmp t)=>t==s|_=>false)|none=>false)&&
  (List.range p).all fun j=>match ops[j]? with|some o=>!(o.dst==some s)|none=>true
structure yO (ops:Array Oper) (p:Nat):Prop where
 le:p≤ops.size
 back:∀(i:Nat) (o:Oper) (e:Edge),ops[i]?=some o→e∈o.after→Region.binds .any e=true→e.on<i
 tail:∀(i:Nat),p≤i→i<ops.size→∀j,j<i→j∈closure ops i (oL ops i)
 dst:∀(i:Nat) (o:Oper),i<p→ops[i]?=some o→∃d,o.dst=some d
 apart:∀(i j:Nat) (o q:Oper),i<p→j<p→ops[i]?=some o→ops[j]?=some q→o.dst=q.dst→i=j
 looks:∀(i j:Nat) (o q:Oper) (d:Nat),i<p→j<p→ops[i]?=some o→ops[j]?=some q→q.dst=some d→d∈slotsOf ops o→(j<i→∃e∈o.after,e.on=j∧Region.binds .any e=true)∧(i<j→∃e∈q.after,e.on=i∧Region.binds .any e=true)
theorem J9 {ops:Array Oper} {p:Nat} {hU:List (Nat×Nat)} (h:qw ops p hU=true):yO ops p:=by
 unfold qw at h
 rw [Bool.and_eq_true,Bool.and_eq_true,Bool.and_eq_true,Bool.and_eq_true] at h
 obtain ⟨⟨⟨⟨I,J⟩,ak⟩,aH⟩,_⟩:=h
 have bN:∀{i:Nat} {o:Oper},ops[i]?=some o→i<ops.size:=fun ab=>(Array.getElem?_eq_some_iff.1 ab).1
 simp only [List.all_eq_true,List.mem_range,decide_eq_true_eq,Bool.or_eq_true] at I J ak aH
 refine ⟨I,fun i o e ab he ag=>?_,fun i aB ab j aG=>?_,fun i o aB ab=>?_,fun i j o q iU jU ab aG a7=>?_,fun i j o q d iU jU ab aG aS a7=>?_⟩
 · exact J i (bN ab) e.on ((tH ab).2 ⟨e,he,ag,rfl⟩)
 · rcases ak i ab with h|h
   · omega
   · have:=h j aG
     simpa using this
 · have:=aH i aB
   simp only [ab,Bool.and_eq_true] at this
   exact Option.isSome_iff_exists.1 this.1
 · have:=aH i iU
   simp only [ab,Bool.and_eq_true,List.all_eq_true,List.mem_range] at this
   have:=this.2 j jU
   simp only [aG,Bool.and_eq_true,Bool.or_eq_true,decide_eq_true_eq] at this
   rcases this.1 with h|h
   · exact h
   · rw [a7] at h;simp at h
 · have:=aH i iU
   simp only [ab,Bool.and_eq_true,List.all_eq_true,List.mem_range] at this
   have:=this.2 j jU
   simp only [aG,aS,Bool.and_eq_true,Bool.or_eq_true] at this
   have:=this.2
   have ah:(slotsOf ops o).contains d=true:=by simpa using a7
   rw [ah] at this
   simp only [Bool.not_true,Bool.false_eq_true,false_or] at this
   refine ⟨fun oM=>?_,fun qx=>?_⟩
   · rw [if_pos oM] at this;exact C4 this
   · rw [if_neg (by omega),if_pos qx] at this;exact C4 this
theorem Ka {ops:Array Oper} {p:Nat} (D:yO ops p) {T:Nat→Fr} {val:Nat→aa} (aA:T 0=fr) (aj:∀(i:Nat) (o:Oper),i<p→ops[i]?=some o→T (i+1)=dX (T i) o.dst (val i)):
 ∀i,i≤p→∀t,(∀(j:Nat) (o:Oper),j<i→ops[j]?=some o→o.dst=some t→bc (T i) t=val j)∧((∀(j:Nat) (o:Oper),j<i→ops[j]?=some o→o.dst≠some t)→bc (T i) t=bc fr t):=by
 intro i
 induction i with
 |zero=>intro _ t;exact ⟨fun j o aG=>absurd aG (Nat.not_lt_zero _),fun _=>by rw [aA]⟩
 |succ i aO=>
  intro ab t
  have iU:i<p:=ab
  have bN:i<ops.size:=Nat.lt_of_lt_of_le iU D.le
  obtain ⟨Kb,Kc⟩:=aO (by omega) t
  have aD:ops[i]?=some ops[i]:=Array.getElem?_eq_getElem bN
  obtain ⟨d,a7⟩:=D.dst i _ iU aD
  have aC:=aj i _ iU aD
  rw [a7] at aC
  simp only [dX] at aC
  rw [aC,C5]
  refine ⟨fun j o aG lb vQ=>?_,fun oD=>?_⟩
  · by_cases e:d=t
    · subst e
      have:j=i:=D.apart j i o _ (by omega) iU lb aD (by rw [vQ,a7])
      subst this
      simp
    · rw [if_neg e]
      refine Kb j o ?_ lb vQ
      rcases Nat.lt_succ_iff_lt_or_eq.1 aG with h|h
      · exact h
      · subst h
        rw [aD] at lb
        cases lb
        rw [a7] at vQ
        exact (e (by simpa using vQ)).elim
  · have e:¬d=t:=fun e=>oD i _ (Nat.lt_succ_self i) aD (by rw [a7,e])
    rw [if_neg e]
    exact Kc fun j o aG lb=>oD j o (by omega) lb
theorem Kd {ops:Array Oper} {p:Nat} (D:yO ops p) {Q:Exit→Act→World→Prop}:∀(fuel k:Nat) (listed:Array Bool) (ca:Act) (w:World),p≤k→k≤ops.size→ops.size- k≤fuel→listed.size=ops.size→
 (∀j,j<ops.size→(listed.getD j false=true↔j<k))→wpList P ops Q (ops.toList.drop k) ca w→wpAny P .any ops Q fuel listed ca w:=by
 intro fuel
 have Ke:∀(k:Nat) (listed:Array Bool),k<ops.size→listed.size=ops.size→(∀j,j<ops.size→(listed.getD j false=true↔j<k))→k∈Region.ready .any ops listed:=fun k listed ai jV av=>by
  rw [mem_ready]
  have aD:ops[k]?=some ops[k]:=Array.getElem?_eq_getElem ai
  refine ⟨?_,_,aD,fun e he ag=>?_⟩
  · have:listed.getD k false≠true:=fun h=>absurd ((av k ai).1 h) (Nat.lt_irrefl _)
    simp only [Array.getD_eq_getD_getElem?,Array.getElem?_eq_getElem (show k<listed.size by omega),Option.getD_some] at this ⊢
    simpa using this
  · have:=D.back k _ e aD he ag
    exact (av e.on (by omega)).2 this
 have nil:∀(k:Nat) (listed:Array Bool) (ca:Act) (w:World),k≤ops.size→listed.size=ops.size→(∀j,j<ops.size→(listed.getD j false=true↔j<k))→wpList P ops Q (ops.toList.drop k) ca w→Region.ready .any ops listed=[]→Q .normal ca w:=fun k listed ca w ai jV av h aw=>by
  by_cases e:k=ops.size
  · subst e
    rw [List.drop_of_length_le (by simp)] at h
    exact h
  · have:=Ke k listed (by omega) jV av
    rw [aw] at this;cases this
 induction fuel with
 |zero=>
  intro k listed ca w Kf ai aM jV av h
  have e:k=ops.size:=by omega
  have aw:Region.ready .any ops listed=[]:=by
   cases aw:Region.ready .any ops listed with
   |nil=>rfl
   |cons j rs=>
    have aG:j∈Region.ready .any ops listed:=by rw [aw];simp
    rw [mem_ready] at aG
    obtain ⟨I,o,aD,_⟩:=aG
    have nW:j<ops.size:=(Array.getElem?_eq_some_iff.1 aD).1
    have:=(av j nW).2 (by omega)
    simp only [Array.getD_eq_getD_getElem?,Array.getElem?_eq_getElem (show j<listed.size by omega),Option.getD_some] at I this
    rw [I] at this;cases this
  exact ⟨aw,nil k listed ca w ai jV av h aw⟩
 |succ fuel aO=>
  intro k listed ca w Kf ai aM jV av h
  refine ⟨nil k listed ca w ai jV av h,fun i ab=>?_⟩
  have eX:=ab
  rw [mem_ready] at eX
  obtain ⟨lM,o,aD,tI⟩:=eX
  have kH:i<ops.size:=(Array.getElem?_eq_some_iff.1 aD).1
  have Sj:k≤i:=by
   rcases Nat.lt_or_ge i k with bN|th
   · have:=(av i kH).2 bN
     simp only [Array.getD_eq_getD_getElem?,Array.getElem?_eq_getElem (show i<listed.size by omega),Option.getD_some] at lM this
     rw [lM] at this;cases this
   · exact th
  have yP:i=k:=by
   rcases Nat.lt_or_ge k i with bN|th
   · have jN:=Db (ops:=ops) (p:=fun j=>j<k) (fun j aG e he=>by
      have nW:j<ops.size:=by omega
      have lb:ops[j]?=some ops[j]:=Array.getElem?_eq_getElem nW
      obtain ⟨oN,I,J,rfl⟩:=(tH lb).1 he
      have:=D.back j _ oN lb I J
      omega) i (oL ops i) (fun j aG=>by
      obtain ⟨oN,I,J,rfl⟩:=(tH aD).1 aG
      have ak:=tI oN I J
      have:=D.back i _ oN aD I J
      exact (av oN.on (by omega)).1 ak)
     have:=jN k (D.tail i (by omega) kH k bN)
     omega
   · omega
  subst yP
  have Kg:ops.toList.drop i=o::ops.toList.drop (i+1):=by
   have:i<ops.toList.length:=by simpa using kH
   rw [List.drop_eq_getElem_cons this]
   congr 1
   rw [Array.getElem?_eq_getElem kH] at aD
   simpa using aD
  rw [Kg] at h
  have key:∀a w,wpList P ops Q (ops.toList.drop (i+1)) a w→wpAny P .any ops Q fuel (listed.setIfInBounds i true) a w:=fun a w h=>aO (i+1) _ a w (by omega) (by omega) (by omega) (by simp [jV]) (fun j aG=>by
   by_cases e:i=j
   · subst e;simp [jV,aG]
   · rw [getD_set_ne false e,av j aG];omega) h
  show wpOp P ops _ i _ ca w
  unfold wpOp
  rw [aD]
  unfold wpList at h
  show if Region.wanted o (yielded ops ca.tmps) then _ else _
  split at h
  · next hw=>
    rw [if_pos hw]
    rcases h with h|h
    · exact .inl (Oper.wp_mono key h)
    · exact .inr h
  · next hw=>
    rw [if_neg hw]
    exact key _ _ h
def Fr.alias (fr:Fr):List (Nat×Nat)→Fr
 |[]=>fr
 |(d,s)::r=>Fr.alias ((fr.put s (bc fr s).plain).put d (bc fr s)) r
theorem aV.alias {F:Nat→Prop} {lim:Nat→Nat} {w:World} {ca:Act}:∀(hU:List (Nat×Nat)) {fr:Fr},aV F lim w n fr m ca []→(∀x∈hU,x.1<n∧x.2<n∧ca.tmps.getD x.1 undef=ca.tmps.getD x.2 undef)→aV F lim w n (fr.alias hU) m ca []:=by
 intro hU
 induction hU with
 |nil=>intro fr h _;exact h
 |cons a hU aO=>
  obtain ⟨d,s⟩:=a
  intro fr h eu
  obtain ⟨I,J,ak⟩:=eu (d,s) (by simp)
  simp only at I J ak
  refine aO ?_ fun x ao=>eu x (by simp [ao])
  obtain ⟨os,fa,eg⟩:=h.rI s J
  have gy:=fa.B1 I eg
  have b5:ca.tmps.size=n:=by obtain ⟨_,_,_,h⟩:=h;exact h.size
  have e:ca.put (some d) (ca.tmps.getD s undef)=ca:=by
   rw [←ak]
   obtain ⟨tmps,defers⟩:=ca
   have bY:tmps.setIfInBounds d (tmps.getD d undef)=tmps:=by
    apply Array.ext (by simp)
    intro i ab eX
    by_cases e:d=i
    · subst e;simp [Array.getD,eX]
    · rw [Array.getElem_setIfInBounds_ne eX e]
   simp only [Act.put,bY]
  rw [e,vD] at gy
  exact gy
end
end Go.bb
end
section
namespace Go.bb
open Go
section
variable {P:Program} {n:Nat} {fr:Fr} {m:ae}
theorem Kh {ops:Array Oper} {p:Nat} {hU:List (Nat×Nat)} (h:qw ops p hU=true):∀x∈hU,(∃j o,j<p∧ops[j]?=some o∧o.dst=some x.1∧o.guard=none∧o.op= .move (.tmp x.2))∧∀j o,j<p→ops[j]?=some o→o.dst≠some x.2:=by
 unfold qw at h
 rw [Bool.and_eq_true] at h
 obtain ⟨_,h⟩:=h
 intro ⟨d,s⟩ ao
 have:=List.all_eq_true.1 h _ ao
 simp only [Bool.and_eq_true,List.any_eq_true,List.all_eq_true,List.mem_range] at this
 obtain ⟨⟨j,aG,I⟩,J⟩:=this
 refine ⟨?_,fun j o aG aD=>?_⟩
 · split at I
   · next o aD=>
     simp only [Bool.and_eq_true,beq_iff_eq,Option.isNone_iff_eq_none] at I
     obtain ⟨⟨ak,aH⟩,aQ⟩:=I
     split at aQ
     · next t cb=>
       simp only [beq_iff_eq] at aQ
       subst aQ
       exact ⟨j,o,aG,aD,ak,aH,cb⟩
     · cases aQ
   · cases I
 · have:=J j aG
   simp only [aD] at this
   simpa using this
theorem Dc (ca:Act) (d t:Nat) (v:Value) (a7:d<ca.tmps.size):(ca.put (some d) v).tmps.getD t undef=if d=t then v else ca.tmps.getD t undef:=by
 simp only [Act.put,Array.getD_eq_getD_getElem?,Array.getElem?_setIfInBounds]
 split
 · next e=>subst e;simp [a7]
 · rfl
set_option maxHeartbeats 1000000 in
theorem Ki {id:Nat} {ops:Array Oper} {Q:Exit→Fr→ae→Prop} (hm:P.follows .mixedOrders=true) (p:Nat) (hU:List (Nat×Nat)) (cs:List aa) (ks:List Nat) (ai:jS n ops ks=true) (a7:qw ops p hU=true)
 (h:lP P ops m cs (ops.toList.take p) fr (fun aY=>bB P n ops (ops.toList.drop p) (fun fr m=>Q .normal (fr.keep ks) m) (aY.alias hU) m)):cV P n (.region id ops true) Q fr m:=by
 intro F lim w ca st
 have D:=J9 a7
 have A:=Kh a7
 simp only [jS,Bool.and_eq_true,List.all_eq_true] at ai
 obtain ⟨T,c,val,Dd,De,tJ⟩:=JZ _ _ _ _ h
 have hlen:(ops.toList.take p).length=p:=by simp [D.le]
 rw [hlen] at De
 replace tJ:∀i o,i<p→ops[i]?=some o→(∃side,pv P ops m (c i) (bc (T i)) o=some (side,val i)∧side)∧T (i+1)=dX (T i) o.dst (val i):=fun i o ab aD=>tJ i o (by rw [List.getElem?_take_of_lt ab];simpa using aD)
 have Df:=Ka D Dd (fun i o ab aD=>(tJ i o ab aD).2)
 have bN:∀{i:Nat} {o:Oper},ops[i]?=some o→i<ops.size:=fun ab=>(Array.getElem?_eq_some_iff.1 ab).1
 have dh:∀{i:Nat} {o:Oper},ops[i]?=some o→ef n o=true∧fy n o=true:=fun aD=>ai.1 _ (by rw [Array.mem_toList_iff];exact Array.mem_of_getElem? aD)
 have Kj:∀i,i≤p→∀t x,(T i).get t=some x→t<n:=by
  intro i
  induction i with
  |zero=>
   intro _ t x ao
   rw [Dd] at ao
   obtain ⟨_,_,_,st⟩:=st
   exact (st.dv t x ao).1
  |succ i aO=>
   intro ab t x ao
   have Kk:i<ops.size:=Nat.lt_of_lt_of_le ab D.le
   have aD:ops[i]?=some ops[i]:=Array.getElem?_eq_getElem Kk
   obtain ⟨d,mw⟩:=D.dst i _ ab aD
   rw [(tJ i _ ab aD).2,mw] at ao
   simp only [dX,Fr.oo] at ao
   split at ao
   · next e=>subst e;exact jr (dh aD).1 mw
   · exact aO (by omega) t x ao
 refine wp_region_any hm ?_
 have key:∀fuel (listed:Array Bool) aY lim' w' dw,listed.size=ops.size→(∀j,listed.getD j false=true→j<p)→
  (∀t,(∀(j:Nat) (o:Oper),ops[j]?=some o→listed.getD j false=true→o.dst=some t→bc aY t=val j)∧((∀(j:Nat) (o:Oper),ops[j]?=some o→listed.getD j false=true→o.dst≠some t)→bc aY t=bc fr t))→
  (∀(j:Nat) (o:Oper) (e:Edge),ops[j]?=some o→listed.getD j false=true→e∈o.after→Region.binds .any e=true→listed.getD e.on false=true)→
  (∀t,(∀j o,j<p→ops[j]?=some o→o.dst≠some t)→dw.tmps.getD t undef=ca.tmps.getD t undef)→
  (∀j o d s,ops[j]?=some o→listed.getD j false=true→o.dst=some d→o.guard=none→o.op= .move (.tmp s)→(∀j o,j<p→ops[j]?=some o→o.dst≠some s)→dw.tmps.getD d undef=ca.tmps.getD s undef)→
  ((List.range p).filter fun j=>!listed.getD j false).length+(ops.size- p)≤fuel→
  aV F lim' w' n aY m dw []→cU F w lim w' lim'→wpAny P .any ops (mX F lim w n Q) fuel listed dw w':=by
  intro fuel
  have fin:∀fuel (listed:Array Bool) aY lim' w' dw,listed.size=ops.size→(∀j,listed.getD j false=true→j<p)→
   (∀t,(∀(j:Nat) (o:Oper),ops[j]?=some o→listed.getD j false=true→o.dst=some t→bc aY t=val j)∧((∀(j:Nat) (o:Oper),ops[j]?=some o→listed.getD j false=true→o.dst≠some t)→bc aY t=bc fr t))→
   (∀t,(∀j o,j<p→ops[j]?=some o→o.dst≠some t)→dw.tmps.getD t undef=ca.tmps.getD t undef)→
   (∀j o d s,ops[j]?=some o→listed.getD j false=true→o.dst=some d→o.guard=none→o.op= .move (.tmp s)→(∀j o,j<p→ops[j]?=some o→o.dst≠some s)→dw.tmps.getD d undef=ca.tmps.getD s undef)→
   (∀j,j<p→listed.getD j false=true)→ops.size- p≤fuel→aV F lim' w' n aY m dw []→cU F w lim w' lim'→wpAny P .any ops (mX F lim w n Q) fuel listed dw w':=by
   intro fuel listed aY lim' w' dw jV kI e4 jR mv jN aM s1 cN
   have lN:∀t,bc aY t=bc (T p) t:=fun t=>by
    obtain ⟨cd,a2⟩:=e4 t
    obtain ⟨lH,ml⟩:=Df p (Nat.le_refl _) t
    by_cases hex:∃(j:Nat) (o:Oper),j<p∧ops[j]?=some o∧o.dst=some t
    · obtain ⟨j,o,jU,aG,aD⟩:=hex
      rw [cd j o aG (jN j jU) aD,lH j o jU aG aD]
    · rw [a2 fun j o aG av aD=>hex ⟨j,o,kI j av,aG,aD⟩,ml fun j o jU aG aD=>hex ⟨j,o,jU,aG,aD⟩]
   have s2:aV F lim' w' n (T p) m dw []:=s1.sub fun t x ao=>by
    have aw:=lN t
    have vG:bc (T p) t=x:=by simp [bc,ao]
    rw [vG] at aw
    cases a8:aY.get t with
    |some y=>
     simp only [bc,a8,Option.getD_some] at aw
     subst aw;exact .inl rfl
    |none=>
     simp only [bc,a8,Option.getD_none] at aw
     exact .inr ⟨aw.symm,Kj p (Nat.le_refl _) t x ao⟩
   have ht:=aV.alias hU s2 fun x ao=>by
    obtain ⟨⟨j,o,jU,aG,I,J,ak⟩,aH⟩:=A x ao
    refine ⟨jr (dh aG).1 I,?_,?_⟩
    · exact vF (dh aG).2 (y:= .tmp x.2) (by rw [ak];simp [Op.operands]) _ rfl
    · rw [mv j o x.1 x.2 aG (jN j jU) I J ak aH,jR x.2 aH]
   have Sk:∀o∈ops.toList.drop p,ef n o=true∧fy n o=true:=fun o aD=>ai.1 o (List.mem_of_mem_drop aD)
   have aC:=De F lim' w' dw (mX F lim w n Q) ht fun ji hF pq mY rA ad Kl eh=>
    ⟨ji,_,mY,ad,Kl.keep (fun t an=>by simpa using ai.2 t an),cN.trans eh⟩
   exact Kd D fuel p listed dw w' (Nat.le_refl _) D.le aM jV (fun j aG=>⟨fun h=>kI j h,fun h=>jN j h⟩) aC
  have least:∀(listed:Array Bool),listed.size=ops.size→(¬∀j,j<p→listed.getD j false=true)→Region.ready .any ops listed≠[]:=fun listed jV aJ aw=>aJ fun j=>by
   induction j using Nat.strongRecOn with
   |_ j aO=>
    intro aG
    cases av:listed.getD j false with
    |true=>rfl
    |false=>
     have nW:j<ops.size:=Nat.lt_of_lt_of_le aG D.le
     have aD:ops[j]?=some ops[j]:=Array.getElem?_eq_getElem nW
     have:j∈Region.ready .any ops listed:=by
      rw [mem_ready]
      refine ⟨?_,_,aD,fun e he ag=>aO e.on (D.back j _ e aD he ag) (Nat.lt_trans (D.back j _ e aD he ag) aG)⟩
      simp only [Array.getD_eq_getD_getElem?,Array.getElem?_eq_getElem (show j<listed.size by omega),Option.getD_some] at av ⊢
      exact av
     rw [aw] at this;cases this
  induction fuel with
  |zero=>
   intro listed aY lim' w' dw jV kI e4 km jR mv yQ s1 cN
   refine fin 0 listed aY lim' w' dw jV kI e4 jR mv (fun j aG=>?_) (by omega) s1 cN
   cases av:listed.getD j false with
   |true=>rfl
   |false=>
    have:j∈(List.range p).filter fun j=>!listed.getD j false:=List.mem_filter.2 ⟨List.mem_range.2 aG,by rw [av];rfl⟩
    have:=List.length_pos_of_mem this
    omega
  |succ fuel aO=>
   intro listed aY lim' w' dw jV kI e4 km jR mv yQ s1 cN
   by_cases jN:∀j,j<p→listed.getD j false=true
   · exact fin (fuel+1) listed aY lim' w' dw jV kI e4 jR mv jN (by omega) s1 cN
   refine ⟨fun aw=>(least listed jV jN aw).elim,fun i ab=>?_⟩
   rw [mem_ready] at ab
   obtain ⟨lM,o,aD,tI⟩:=ab
   have kH:=bN aD
   have iU:i<p:=by
    rcases Nat.lt_or_ge i p with h|h
    · exact h
    · exfalso
      apply jN
      intro j aG
      have:=Db (ops:=ops) (p:=fun j=>listed.getD j false=true) (fun j aG e he=>by
       have nW:j<ops.size:=Nat.lt_of_lt_of_le (kI j aG) D.le
       have lb:ops[j]?=some ops[j]:=Array.getElem?_eq_getElem nW
       obtain ⟨oN,I,J,rfl⟩:=(tH lb).1 he
       exact km j _ oN lb aG I J) i (oL ops i) (fun j aG=>by
       obtain ⟨oN,I,J,rfl⟩:=(tH aD).1 aG
       exact tI oN I J)
      exact this j (D.tail i h kH j (by omega))
   have yR:listed.getD i false=false:=by
    simp only [Array.getD_eq_getD_getElem?,Array.getElem?_eq_getElem (show i<listed.size by omega),Option.getD_some] at lM ⊢
    exact lM
   obtain ⟨⟨side,Dg,tK⟩,_⟩:=tJ i o iU aD
   obtain ⟨d,mw⟩:=D.dst i o iU aD
   have lN:∀t∈slotsOf ops o,bc (T i) t=bc aY t:=fun t an=>by
    obtain ⟨cd,a2⟩:=e4 t
    obtain ⟨lH,ml⟩:=Df i (Nat.le_of_lt iU) t
    by_cases hex:∃(j:Nat) (q:Oper),j<p∧ops[j]?=some q∧q.dst=some t
    · obtain ⟨j,q,jU,aG,aS⟩:=hex
      obtain ⟨h3,jo⟩:=D.looks i j o q t iU jU aD aG aS an
      have Dh:∀(nX:Nat) (ct:Oper),nX<p→ops[nX]?=some ct→ct.dst=some t→nX=j:=fun nX ct Km oK jT=>D.apart nX j ct q Km jU oK aG (by rw [jT,aS])
      by_cases oM:j<i
      · obtain ⟨e,he,yS,yT⟩:=h3 oM
        have tL:listed.getD j false=true:=by rw [←yS];exact tI e he yT
        rw [cd j q aG tL aS,lH j q oM aG aS]
      · have Kn:listed.getD j false=false:=by
         by_cases qx:i<j
         · obtain ⟨e,he,yS,yT⟩:=jo qx
           cases tL:listed.getD j false with
           |false=>rfl
           |true=>
            have:=km j q e aG tL he yT
            rw [yS,yR] at this;cases this
         · have:i=j:=by omega
           subst this;exact yR
        have bZ:=a2 (fun nX ct oK lD jT=>by
         rw [Dh nX ct (kI nX lD) oK jT,Kn] at lD
         cases lD)
        have bo:=ml (fun nX ct oK lb jT=>by
         have:=Dh nX ct (by omega) lb jT
         omega)
        rw [bZ,bo]
    · rw [a2 fun j q aG av aS=>hex ⟨j,q,kI j av,aG,aS⟩,ml fun j q oM aG aS=>hex ⟨j,q,by omega,aG,aS⟩]
   rw [JX lN] at Dg
   have hG:d<dw.tmps.size:=by
    have:=jr (dh aD).1 mw
    obtain ⟨_,_,_,s1⟩:=s1
    rw [s1.size];exact this
   show wpOp P ops _ i _ dw w'
   unfold wpOp
   rw [aD]
   show if Region.wanted o (yielded ops dw.tmps) then _ else _
   refine J3 (dh aD).1 (dh aD).2 Dg tK mw s1 fun ji hF v s2 Ko Kp=>?_
   rw [mw] at s2 ⊢
   have pH:∀j,(listed.setIfInBounds i true).getD j false=true→j=i∨listed.getD j false=true:=fun j av=>by
    by_cases e:i=j
    · exact .inl e.symm
    · rw [getD_set_ne false e] at av;exact .inr av
   refine aO (listed.setIfInBounds i true) (aY.put d (val i)) ji hF _ (by simp [jV]) (fun j av=>?_) (fun t=>?_) (fun j q e aG av he ag=>?_) (fun t an=>?_) (fun j q Di s aG av I J ak aH=>?_) ?_ s2 (cN.trans Ko)
   · rcases pH j av with rfl|av
     · exact iU
     · exact kI j av
   · obtain ⟨cd,a2⟩:=e4 t
     rw [C5]
     refine ⟨fun j q aG av aS=>?_,fun oD=>?_⟩
     · by_cases e:d=t
       · subst e
         have jU:j<p:=by
          rcases pH j av with rfl|av
          · exact iU
          · exact kI j av
         have:j=i:=D.apart j i q o jU iU aG aD (by rw [aS,mw])
         subst this;simp
       · rw [if_neg e]
         have oM:i≠j:=by
          intro bY
          subst bY
          rw [aD] at aG
          have Kq:o=q:=by simpa using aG
          rw [←Kq,mw] at aS
          exact e (by simpa using aS)
         rw [getD_set_ne false oM] at av
         exact cd j q aG av aS
     · have e:¬d=t:=fun e=>oD i o aD (by simp [show i<listed.size by omega]) (by rw [mw,e])
       rw [if_neg e]
       exact a2 fun j q aG av=>oD j q aG (getD_set_true av)
   · rcases pH j av with rfl|av
     · rw [aD] at aG;cases aG
       exact getD_set_true (tI e he ag)
     · exact getD_set_true (km j q e aG av he ag)
   · rw [Dc _ _ _ _ hG,if_neg (fun e=>an i o iU aD (by rw [mw,e]))]
     exact jR t an
   · rw [Dc _ _ _ _ hG]
     by_cases e:d=Di
     · rw [if_pos e]
       have jU:j<p:=by
        rcases pH j av with rfl|av
        · exact iU
        · exact kI j av
       have:j=i:=D.apart j i q o jU iU aG aD (by rw [I,mw,e])
       subst this
       rw [aD] at aG;cases aG
       rw [Kp s ak J]
       exact jR s aH
     · rw [if_neg e]
       rcases pH j av with rfl|av
       · rw [aD] at aG;cases aG
         rw [mw] at I
         exact (e (by simpa using I)).elim
       · exact mv j q Di s aG av I J ak aH
   · have Kr:∀x,(!(listed.setIfInBounds i true).getD x false)=true→(!listed.getD x false)=true:=by
      intro x ao
      cases av:listed.getD x false with
      |false=>rfl
      |true=>rw [getD_set_true av] at ao;simp at ao
     have:=filter_lt (fun j=>!listed.getD j false) (fun j=>!(listed.setIfInBounds i true).getD j false) Kr (List.range p) i (by simpa using iU) (by rw [yR];rfl) (by simp [show i<listed.size by omega])
     omega
 refine key ops.size (Array.replicate ops.size false) fr lim _ ca (by simp) (fun j av=>?_) (fun t=>⟨fun j o aG av=>?_,fun _=>rfl⟩) (fun j o e aG av=>?_) (fun _ _=>rfl) (fun j o d s aG av=>?_) ?_ (st.heap (w':={w with drawn:=w.drawn+1}) rfl) (cU.drew F w lim)
 · exfalso
   by_cases aG:j<ops.size
   · simp [Array.getD_eq_getD_getElem?,aG] at av
   · simp [Array.getD_eq_getD_getElem?,aG] at av
 · have:=bN aG
   simp [Array.getD_eq_getD_getElem?,this] at av
 · have:=bN aG
   simp [Array.getD_eq_getD_getElem?,this] at av
 · have:=bN aG
   simp [Array.getD_eq_getD_getElem?,this] at av
 · have:=List.length_filter_le (fun j=>!(Array.replicate ops.size false).getD j false) (List.range p)
   rw [List.length_range] at this
   have:=D.le
   omega
theorem Dj {ops:Array Oper}:∀(l:List Oper) {cs:List aa} {fr:Fr} {K iv:Fr→Prop},(∀fr,K fr→iv fr)→lP P ops m cs l fr K→lP P ops m cs l fr iv:=by
 intro l
 induction l with
 |nil=>intro cs fr K iv ad h;exact ad _ h
 |cons o l aO=>
  intro cs fr K iv ad h
  simp only [lP] at h ⊢
  split at h
  · exact ⟨h.1,aO ad h.2⟩
  · exact h
end
end Go.bb
end
section
namespace Go.bb
open Go
def U {α:Type} [Inhabited α] (xs:List α) (k:Int):α:=xs.getD k.toNat default
theorem wrap64 (n:Int) (I:-9223372036854775808≤n) (J:n≤9223372036854775807):IntKind.i64.wrap n=n:=
 B2 .i64 n (by simp [IntKind.min,IntKind.signed,IntKind.bits];omega) (by simp [IntKind.max,IntKind.signed,IntKind.bits];omega)
theorem idx_eq {α:Type} [Inhabited α] (f:α→aa) (xs:List α) (k:Int) (aA:0≤k) (I:k<xs.length):(xs.map f).getD k.toNat .aP=f (U xs k):=by
 have:k.toNat<xs.length:=by omega
 simp [U,List.getD_eq_getElem?_getD,this]
section
variable {P:Program} {n:Nat} {ops:Array Oper} {stl:List Nat} {r:List Oper} {K:Fr→ae→Prop} {fr:Fr} {m:ae} {d:Nat} {ty:TypeId} {pos:String} {af:Array Edge}
theorem Dk {t:TypeId} {l:List aa} {off:Nat} (I:dG P t=true) (J:jM P t=false) (ak:off<l.length):jk P t l off:=⟨I,by simp [J,ak]⟩
theorem Ks {t:TypeId} {l:List aa} {off:Nat} (I:dG P t=true) (J:jM P t=true) (ak:off+P.cellsOf t≤l.length):jk P t l off:=⟨I,by simp [J,ak]⟩
end
end Go.bb
end
section
namespace Go.bb
open Go
theorem dt {b:Bool} (h:(!b)=true):b=false:=by simpa using h
theorem dy {b:Bool} (h:(!b)=false):b=true:=by simpa using h
theorem fC {a b:Bool} (h:(a&&b)=true):a=true:=by cases a<;>simp_all
theorem gS {a b:Bool} (h:(a&&b)=true):b=true:=by cases a<;>simp_all
theorem gT {a b:Bool} (h:(a&&b)=false):a=false∨b=false:=by cases a<;>simp_all
theorem b8 {a b:Bool} (h:(a||b)=false):a=false:=by cases a<;>simp_all
theorem dC {a b:Bool} (h:(a||b)=false):b=false:=by cases a<;>simp_all
theorem dD {a b:Bool} (h:(a||b)=true):a=true∨b=true:=by cases a<;>simp_all
theorem ga {K:aa→ae→Prop} {x y:aa} {m:ae} (ad:K x m) (h:x=y):K y m:=h▸ad
def mx (n:Int):aa:= .int .i64 n
def cp (s:List UInt8):aa:= .str s
def ld {α:Type} (f:α→aa) (l:List α):aa:= .slice false (l.map f)
def sub {α:Type} (l:List α) (p q:Int):List α:=(l.drop p.toNat).take (q- p).toNat
section
variable {P:Program} {n:Nat} {fr:Fr} {m:ae}
theorem Kt {c:Code} {Q:Exit→Fr→ae→Prop} {σ:Type} (vR:σ→Fr) (vS:σ→ae) (fP:σ→Prop) (lR:σ→Nat) (ng:σ) (aA:fr=vR ng) (Ku:m=vS ng) (aW:fP ng)
 (h:∀s,fP s→cV P n c (x9 (fun aY m'=>∃ho,aY=vR ho∧m'=vS ho∧fP ho∧lR ho<lR s) Q) (vR s) (vS s)):cV P n (.loop c) Q fr m:=by
 have conv:∀{F:Nat→Prop} {lim:Nat→Nat} {w:World} {ji:Nat→Nat} {hF:World},cU F w lim hF ji→∀K a eN,Code.rounds P c (mX F ji hF n Q) K a eN→Code.rounds P c (mX F lim w n Q) K a eN:=by
  intro F lim w ji hF cN K
  induction K with
  |zero=>intro a eN h;exact h.elim
  |succ K Kv=>
   intro a eN h
   refine wp_mono h fun e a jW q=>?_
   cases e with
   |normal=>exact Kv _ _ q
   |_=>exact mX.from cN q
 have key:∀N s,fP s→lR s<N→∀F lim w ca,aV F lim w n (vR s) (vS s) ca []→Code.rounds P c (mX F lim w n Q) N ca w:=by
  intro N
  induction N with
  |zero=>intro s _ bN;omega
  |succ N aO=>
   intro s aj bN F lim w ca st
   refine wp_mono (h s aj F lim w ca st) fun e a hF ⟨ji,pq,mY,q,rM,pr⟩=>?_
   cases e with
   |normal=>
    obtain ⟨ho,rfl,rfl,Kw,nd⟩:=q
    exact conv pr _ _ _ (aO ho Kw (by omega) F ji hF a rM)
   |_=>exact ⟨ji,pq,mY,q,rM,pr⟩
 intro F lim w ca st
 subst aA Ku
 exact wp_loop_rounds (lR ng+1) (key _ ng aW (Nat.lt_succ_self _) F lim w ca st)
variable {ops:Array Oper} {stl:List Nat} {r:List Oper} {K:Fr→ae→Prop} {d:Nat} {ty:TypeId} {pos:String} {af:Array Edge}
variable {cs:List aa} {nh:Fr→Prop} {gd:Option (Nat×Bool)}
theorem Dl {c:aa} {o:Oper} (a8:ha ops fr o.guard=some true):pv P ops m c (bc fr) o=jD P m c (bc fr) o:=by
 unfold pv
 unfold ha at a8
 split
 · rfl
 · next j b kD=>
   rw [kD] at a8
   simp only at a8
   split
   · next g aG=>
     rw [aG] at a8
     simp only at a8
     rw [a8]
   · next aG=>rw [aG] at a8;cases a8
theorem Dm {c:aa} {o:Oper} (a8:ha ops fr o.guard=some false):pv P ops m c (bc fr) o=some (True, .lazy false .aP):=by
 unfold pv
 unfold ha at a8
 split
 · next kD=>rw [kD] at a8;cases a8
 · next j b kD=>
   rw [kD] at a8
   simp only at a8
   split
   · next g aG=>
     rw [aG] at a8
     simp only at a8
     rw [a8]
   · next aG=>rw [aG] at a8;cases a8
end
end Go.bb
end
section
namespace Go.bb
open Go
def rN (P:Program) (o:Oper) (K:Fr→ae→Prop) (fr:Fr) (m:ae):Prop:=
 ∀n,ef n o=true→fy n o=true→∀F lim w ca,aV F lim w n fr m ca []→
  ∃res v w' lim' aY m',(execOp ca.eval o).run P w= .ok res w'∧((res= .value v)∨(res= .skip∧v=undef))∧aV F lim' w' n aY m' (ca.put o.dst v) []∧cU F w lim w' lim'∧K aY m'
def jE (P:Program) (ops:Array Oper) (stl:List Nat) (o:Oper) (K:Fr→ae→Prop) (fr:Fr) (m:ae):Prop:=
 match o with
 |⟨dst,op,_,_,_,gd⟩=>
 match ha ops fr gd with
 |some true=>
  match op with
  | .pick c x y=>
    match bR (bc fr) c with
    | .bool true=>K (dX fr dst (bR (bc fr) x)) m
    | .bool false=>K (dX fr dst (bR (bc fr) y)) m
    |_=>False
  | .box _ x=>(fl (bc fr) x).ds=true∧∀b,m b=none→K (dX (fr.strip (mq x)) dst (.ptr ⟨b,0,none⟩)) (m.bX b (some (.cells (fl (bc fr) x).cells)))
  |_=>
   match ec P m (bc fr) stl dst op with
   | .val side ss m' x=>side∧K (dX (fr.strip ss) dst x) m'
   | .nK side ss m'=>side∧K (dX (fr.strip ss) dst .aP) m'
   | .new side ss mk fM=>side∧∀b,m b=none→K (dX (fr.strip ss) dst (mk b)) (m.bX b (some fM))
   | .call f args=>bp P f args m (vu K dst fr)
   | .stuck=>rN P o K fr m
 |some false=>
  match dst with
  |some d=>K (fr.put d (.lazy false .aP)) m
  |none=>K fr m
 |none=>False
def hV (P:Program) (ops:Array Oper) (stl:List Nat):List Oper→(Fr→ae→Prop)→Fr→ae→Prop
 |[],K=>K
 |o::r,K=>jE P ops stl o (hV P ops stl r K)
section
variable {P:Program} {F:Nat→Prop} {lim:Nat→Nat} {w:World} {n:Nat} {fr:Fr} {m:ae} {ca:Act} {bn:List Nat}
theorem qy {ops:Array Oper} {o:Oper} {z:Bool} (st:aV F lim w n fr m ca bn) (au:ha ops fr o.guard=some z):Region.wanted o (yielded ops ca.tmps)=z:=by
 unfold ha at au
 split at au
 · next a8=>obtain rfl:=Option.some.inj au;simp [Region.wanted,a8]
 · next j b a8=>
   split at au
   · next g aG=>
     obtain ⟨os,b3,bu,h⟩:=st
     cases aL:fr.get g with
     |none=>simp [bc,aL,pF] at au
     |some x=>
      simp only [bc,aL,Option.getD_some] at au
      obtain ⟨bN,aw⟩:=h.dv g _ aL
      have nd:g<ca.tmps.size:=by rw [h.size];exact bN
      have tv:ca.tmps[g]?=some (ca.tmps.getD g undef):=by
       rw [Array.getElem?_eq_getElem nd]
       simp [Array.getD,nd]
      have:=C0 au aw
      simp only [Region.wanted,a8,yielded,aG,Option.bind_some,tv]
      rw [←this]
      generalize ca.tmps.getD g undef=v
      cases v<;>rfl
   · cases au
theorem Kx {b:Nat} {cs:Array Value} {e:TypeId} {C7:Nat×Nat} (ag:w.heap[b]?=some (.cells cs e C7)):w.setRow b cs=w:=by
 have bN:b<w.heap.size:=(Array.getElem?_eq_some_iff.1 ag).1
 have:(w.heap.modify b fun| .cells _ elem frozen=> .cells cs elem frozen|o=>o)=w.heap:=by
  apply Array.ext (by simp)
  intro i ab eX
  rw [Array.getElem_modify]
  split
  · next e=>subst e;rw [Array.getElem?_eq_getElem bN] at ag;simp at ag;rw [ag]
  · rfl
 exact congrArg (fun h=>({w with heap:=h}:World)) this
theorem aV.Ky {t:TypeId} {x:Operand} (st:aV F lim w n fr m ca []) (ao:kc x=true) (aj:∀t,x= .tmp t→t<n) (an:(fl (bc fr) x).ds=true):
 ∃lim',m w.heap.size=none∧aV F lim' (w.alloc (.cells (ca.eval x).cells t)) n (fr.strip (mq x)) (m.bX w.heap.size (some (.cells (fl (bc fr) x).cells))) ca []∧cU F w lim (w.alloc (.cells (ca.eval x).cells t)) lim':=by
 obtain ⟨os,s1,s2⟩:=st.CM x ao aj
 obtain ⟨oss,h7,c2,c3⟩:=yf s2 an
 obtain ⟨cd,a2⟩:=s1.xR (ca.eval x).cells t (aa.ey (fl (bc fr) x).cells) (by rw [aa.hE,List.length_map];exact h7) (fun i ab=>by
  rw [mg]
  exact (c2 i (by simpa [aa.hE] using ab)).plain)
 have mm:=s1.ph
 have eh:=rJ st (.cells (ca.eval x).cells t)
 have bU:∀c,c∈os→c<w.heap.size:=fun c ah=>s2.BZ c ah
 have aw:∀i,i<(fl (bc fr) x).cells.length→aF (w.alloc (.cells (ca.eval x).cells t)) lim ((ca.eval x).cells.toList.getD i undef) ((fl (bc fr) x).cells.getD i .aP) (oss i):=fun i ab=>by
  have ah:=c2 i ab
  have e:(ca.eval x).cells.toList.getD i undef=(ca.eval x).cells.getD i undef:=by simp [List.getD_eq_getElem?_getD,Array.getD_eq_getD_getElem?]
  rw [e]
  refine ah.fX (fun _=>Nat.le_refl _) eh.cell fun c lF=>⟨kb w _ c ?_,rfl⟩
  exact ah.BZ c lF
 have pH:=mU w (.cells (ca.eval x).cells t)
 obtain ⟨lH,ml⟩:=a2.Cl (b:=w.heap.size) (off:=0) (l:=aa.ey (fl (bc fr) x).cells) (xs:=(fl (bc fr) x).cells) (vs:=(ca.eval x).cells.toList) (oss:=oss) (by simp [ae.bX]) pH
  (by simp [aa.hE]) (by simpa using h7) aw c3
 have av:(aa.ey (fl (bc fr) x).cells).length=(fl (bc fr) x).cells.length:=by simp [aa.hE]
 have ay:((ca.eval x).cells.toList.take 0++(ca.eval x).cells.toList++(ca.eval x).cells.toList.drop (0+(ca.eval x).cells.toList.length)).toArray=(ca.eval x).cells:=by
  rw [List.take_zero,List.nil_append,List.drop_of_length_le (by omega),List.append_nil]
 have az:(aa.ey (fl (bc fr) x).cells).take 0++(fl (bc fr) x).cells++(aa.ey (fl (bc fr) x).cells).drop (0+(fl (bc fr) x).cells.length)=(fl (bc fr) x).cells:=by
  rw [List.take_zero,List.nil_append,List.drop_of_length_le (by rw [av];omega),List.append_nil]
 rw [ay,az,Kx pH] at lH
 refine ⟨lim,cd,?_,eh⟩
 have cB:(m.bX w.heap.size (some (.cells (aa.ey (fl (bc fr) x).cells)))).bX w.heap.size (some (.cells (fl (bc fr) x).cells))=m.bX w.heap.size (some (.cells (fl (bc fr) x).cells)):=by
  funext c;simp only [ae.bX];split<;>rfl
 rw [cB] at lH
 exact lH
theorem Kz {ops:Array Oper} {stl:List Nat} {K:Fr→ae→Prop} {dst:Option Nat} {op:Op} {ty:TypeId} {pos:String} {af:Array Edge} {gd:Option (Nat×Bool)} (a8:ha ops fr gd=some true) (h:jE P ops stl ⟨dst,op,ty,pos,af,gd⟩ K fr m):
 (∃c x y b,op= .pick c x y∧bR (bc fr) c= .bool b∧K (dX fr dst (bR (bc fr) (if b then x else y))) m)∨
 (∃t x,op= .box t x∧(fl (bc fr) x).ds=true∧∀b,m b=none→K (dX (fr.strip (mq x)) dst (.ptr ⟨b,0,none⟩)) (m.bX b (some (.cells (fl (bc fr) x).cells))))∨mr P ops stl ⟨dst,op,ty,pos,af,none⟩ K fr m∨rN P ⟨dst,op,ty,pos,af,gd⟩ K fr m:=by
 simp only [jE,a8] at h
 split at h
 · next c x y=>
   split at h
   · next ah=>exact .inl ⟨c,x,y,true,rfl,ah,h⟩
   · next ah=>exact .inl ⟨c,x,y,false,rfl,ah,h⟩
   · exact h.elim
 · next t x=>exact .inr (.inl ⟨t,x,rfl,h⟩)
 · refine .inr (.inr ?_)
   simp only [mr]
   cases aN:ec P m (bc fr) stl dst op with
   |val side ss m' x=>rw [aN] at h;exact .inl h
   |nK side ss m'=>rw [aN] at h;exact .inl h
   |new side ss mk fM=>rw [aN] at h;exact .inl h
   |call f args=>rw [aN] at h;exact .inl h
   |stuck=>rw [aN] at h;exact .inr h
theorem rN.mono {o:Oper} {K iv:Fr→ae→Prop} (ad:∀fr m,K fr m→iv fr m) (h:rN P o K fr m):rN P o iv fr m:=fun n I J F lim w ca st=>by
 obtain ⟨res,v,w',lim',aY,m',a,b,c,d,e⟩:=h n I J F lim w ca st
 exact ⟨res,v,w',lim',aY,m',a,b,c,d,ad _ _ e⟩
theorem KA {ops:Array Oper} {stl:List Nat} {o:Oper} {K iv:Fr→ae→Prop} (ad:∀fr m,K fr m→iv fr m) (h:jE P ops stl o K fr m):jE P ops stl o iv fr m:=by
 obtain ⟨dst,op,ty,pos,af,gd⟩:=o
 unfold jE at h ⊢
 simp only at h ⊢
 split at h
 · split at h
   · split at h
     · exact ad _ _ h
     · exact ad _ _ h
     · exact h
   · exact ⟨h.1,fun b ag=>ad _ _ (h.2 b ag)⟩
   · have aN:=fun h=>JD (P:=P) (stl:=stl) (fr:=fr) (m:=m) (ops:=ops) (o:=⟨dst,op,ty,pos,af,none⟩) (K:=K) ad h
     simp only [mr] at aN
     cases aw:ec P m (bc fr) stl dst op with
     |val side ss m' x=>rw [aw] at h aN;exact aN h
     |nK side ss m'=>rw [aw] at h aN;exact aN h
     |new side ss mk fM=>rw [aw] at h aN;exact aN h
     |call f args=>rw [aw] at h aN;exact aN h
     |stuck=>rw [aw] at h;exact rN.mono ad h
 · split at h<;>exact ad _ _ h
 · exact h
theorem qz {ops:Array Oper} {stl:List Nat} {o:Oper} {l:List Oper} {K:Fr→ae→Prop} (ai:ef n o=true) (aJ:fy n o=true) (h:jE P ops stl o (bB P n ops l K) fr m):bB P n ops (o::l) K fr m:=by
 obtain ⟨dst,op,ty,pos,af,gd⟩:=o
 cases au:ha ops fr gd with
 |none=>simp [jE,au] at h
 |some z=>
  cases z with
  |true=>
   rcases Kz au h with ⟨c,x,y,b,rfl,ah,h⟩|⟨t,x,rfl,an,h⟩|h|h
   · intro F lim w ca Q st aS
     unfold wpList
     rw [if_pos (qy st au)]
     refine .inl ?_
     have hm:(if b then x else y)∈(Op.pick c x y).operands.toList:=by cases b<;>simp [Op.operands]
     obtain ⟨_,yU,rfl⟩:=s0 st (jO ai c (by simp [Op.operands]))
     rw [←td,ah] at yU
     have tM:ca.eval c= .bool b:=by
      generalize ca.eval c=v at yU
      cases yU
      rfl
     obtain ⟨_,tD,rfl⟩:=s0 st (jO ai (if b then x else y) hm)
     rw [←td] at tD
     refine mo (v:=ca.eval (if b then x else y)) ?_ (h.from aS (st.dX (fun t an=>jr ai an) tD) (.refl _ _ _))
     cases b<;>simp [execOp,tM,asBool]
   · intro F lim w ca Q st aS
     unfold wpList
     rw [if_pos (qy st au)]
     refine .inl ?_
     obtain ⟨lim',I,J,ak⟩:=st.Ky (t:=t) (x:=x) (jO ai x (by simp [Op.operands])) (vF aJ (by simp [Op.operands])) an
     refine mo (v:= .pointer (some ⟨w.heap.size,0,none⟩)) (w':=w.alloc (.cells (ca.eval x).cells t)) (by simp [execOp,Instr.box,newVar,newRow]) ?_
     exact (h _ I).from aS (J.dX (fun t an=>jr ai an) (.ptr _)) ak
   · have cm:=tw (o:=⟨dst,op,ty,pos,af,none⟩) ai aJ h
     intro F lim w ca Q st aS
     have:=cm F lim w ca Q st aS
     unfold wpList at this ⊢
     rw [if_pos (by simp [Region.wanted])] at this
     rw [if_pos (qy st au)]
     exact this
   · intro F lim w ca Q st aS
     unfold wpList
     rw [if_pos (qy st au)]
     refine .inl ?_
     obtain ⟨res,v,w',lim',aY,m',I,J,ak,aH,aQ⟩:=h n ai aJ F lim w ca st
     rcases J with rfl|⟨rfl,rfl⟩
     · exact mo I (aQ.from aS ak aH)
     · exact Ci I (aQ.from aS ak aH)
  |false=>
   simp only [jE,au] at h
   intro F lim w ca Q st aS
   unfold wpList
   rw [if_neg (by rw [qy (o:=⟨dst,op,ty,pos,af,gd⟩) st au];simp)]
   split at h
   · next d=>
     refine bB.from h aS ?_ (.refl _ _ _)
     exact st.set (jr ai rfl) (.k2 _)
   · refine bB.from h aS ?_ (.refl _ _ _)
     exact st
theorem Dn {ops:Array Oper} {stl:List Nat}:∀(l:List Oper) {K:Fr→ae→Prop} {fr:Fr} {m:ae},(∀o∈l,ef n o=true∧fy n o=true)→hV P ops stl l K fr m→bB P n ops l K fr m:=by
 intro l
 induction l with
 |nil=>intro K fr m _ h;exact bB.nil h
 |cons o l aO=>
  intro K fr m ai h
  have aD:=ai o (by simp)
  exact qz aD.1 aD.2 (KA (fun fr m aw=>aO (fun ez lf=>ai ez (by simp [lf])) aw) h)
theorem KB {id:Nat} {ops:Array Oper} {Q:Exit→Fr→ae→Prop} (stl ks:List Nat) (ai:jS n ops ks=true) (h:∀K:Fr→ae→Prop,(∀fr m,Q .normal fr m→K fr m)→hV P ops stl ops.toList (fun fr m=>K (fr.keep ks) m) fr m):cV P n (.region id ops false) Q fr m:=by
 simp only [jS,Bool.and_eq_true,List.all_eq_true] at ai
 exact Ch ks (by simpa [List.all_eq_true] using ai.2) (Dn _ (fun o aD=>by simpa using ai.1 o aD) (h _ fun _ _ h=>h))
theorem KC {id:Nat} {ops:Array Oper} {c:Code} {Q:Exit→Fr→ae→Prop} (stl ks:List Nat) (ai:jS n ops ks=true) (h:∀K:Fr→ae→Prop,(∀fr m,cV P n c Q fr m→K fr m)→hV P ops stl ops.toList (fun fr m=>K (fr.keep ks) m) fr m):cV P n (.seq (.region id ops false) c) Q fr m:=
 Cf fun K ad=>KB stl ks ai fun iv KD=>h iv fun fr m h=>KD _ _ (ad _ _ h)
variable {ops:Array Oper} {stl:List Nat} {r:List Oper} {K:Fr→ae→Prop} {d:Nat} {ty:TypeId} {pos:String} {af:Array Edge} {gd:Option (Nat×Bool)}
theorem aV.conv {aY:Fr} (h:aV F lim w n fr m ca bn) (ah:∀t bD,aY.get t=some bD→∃x,fr.get t=some x∧∀v os,aF w lim v x os→aF w lim v bD os):aV F lim w n aY m ca bn:=by
 obtain ⟨os,b3,bu,h⟩:=h
 refine ⟨os,b3,bu,h.size,h.defers,fun t x ao=>?_,h.mem,fun t x ao=>?_,h.dn,h.fs,h.free,h.fresh⟩
 · obtain ⟨y,aE,aw⟩:=ah t x ao
   exact ⟨(h.dv t y aE).1,aw _ _ (h.dv t y aE).2⟩
 · obtain ⟨y,aE,aw⟩:=ah t x ao
   exact h.ea t y aE
def aa.toErr (T:TypeId):aa→aa
 | .nilIface=> .err T 0
 | .iface u (.int .i64 c)=>if u=T∧c≠0 then .err T c else .iface u (.int .i64 c)
 |x=>x
theorem toErr_rep (T:TypeId) {v:Value} {x:aa} {os:List Nat} (h:aF w lim v x os):aF w lim v (x.toErr T) os:=by
 cases h with
 |nilIface=>exact .k1 T
 |iface t v x h=>
  unfold aa.toErr
  split
  · next he=>cases he
  · next u c he=>
    cases he
    split
    · next ah=>
      obtain ⟨rfl,aA⟩:=ah
      cases h with
      |int _ _ bh ab=>exact .ir _ _ aA bh ab
    · exact .iface _ _ _ h
  · exact .iface _ _ _ h
 |bool b=>exact .bool b
 |int k n bh ab=>exact .int k n bh ab
 |str s h=>exact .str s h
 |ptr a=>exact .ptr a
 |eK=>exact .eK
 |ref b off l cv I J ak=>exact .ref b off l cv I J ak
 |eR own=>exact .eR own
 |empty a cap hm=>exact .empty a cap hm
 |slice b off n cap sz l cv aJ et hm cF b5 eL ah aw=>exact .slice b off n cap sz l cv aJ et hm cF b5 eL ah aw
 |own b n cap sz l cv cur e aJ et hm cF aA ag jK b5 eL ah aw=>exact .own b n cap sz l cv cur e aJ et hm cF aA ag jK b5 eL ah aw
 |ms a len cap h hm=>exact .ms a len cap h hm
 |map b=>exact .map b
 |iq=>exact .iq
 |func fn f c bn eW aM ah sY sZ=>exact .func fn f c bn eW aM ah sY sZ
 |jg=>exact .jg
 |mQ a=>exact .mQ a
 |k1 t=>exact .k1 t
 |ir t e h bh ab=>exact .ir t e h bh ab
 |mR=>exact .mR
 |mS t v=>exact .mS t v
 |agg cs xs os h aw=>exact .agg cs xs os h aw
 |tuple cs xs os h aw=>exact .tuple cs xs os h aw
 |mT v x os h=>exact .mT v x os h
 |k2 x=>exact .k2 x
 |aP v=>exact .aP v
def Fr.toErr (T:TypeId) (bd:List Nat) (fr:Fr):Fr:=fr.map fun p=>if bd.contains p.1 then (p.1,p.2.toErr T) else p
theorem Fr.KE (T:TypeId) (bd:List Nat) (t:Nat):∀fr:Fr,(Fr.toErr T bd fr).get t=if bd.contains t then (fr.get t).map (aa.toErr T) else fr.get t:=by
 intro fr
 induction fr with
 |nil=>simp [Fr.toErr,Fr.get]
 |cons p fr aO=>
  obtain ⟨s,x⟩:=p
  unfold Fr.toErr at aO ⊢
  rw [List.map_cons]
  by_cases ah:bd.contains s
  · rw [if_pos ah]
    simp only [Fr.get]
    by_cases aj:s=t
    · subst aj;rw [if_pos rfl,if_pos ah,if_pos rfl];rfl
    · rw [if_neg aj,if_neg aj,aO]
  · rw [if_neg ah]
    simp only [Fr.get]
    by_cases aj:s=t
    · subst aj;rw [if_pos rfl,if_neg ah,if_pos rfl]
    · rw [if_neg aj,if_neg aj,aO]
def qA (a:Int):UInt8:=UInt8.ofNat (IntKind.u8.wrap a).toNat
theorem Dp (a:Int):((qA a).toNat:Int)=IntKind.u8.wrap a:=by
 have I:=(mj .u8 a).1
 have J:=(mj .u8 a).2
 simp [IntKind.min,IntKind.max,IntKind.signed,IntKind.bits] at I J
 simp [qA]
 omega
variable {cs:List aa} {nh:Fr→Prop}
end
end Go.bb
end
section
namespace Go.bb
open Go
def ae.a1 (m:ae):List (Nat×e2)→ae
 |[]=>m
 |(b,o)::r=>(ae.a1 m r).bX b (some o)
theorem nY {m:ae} {b:Nat}:∀{L:List (Nat×e2)},b∉L.map Prod.fst→m.a1 L b=m b:=by
 intro L
 induction L with
 |nil=>intro _;rfl
 |cons p L aO=>
  obtain ⟨c,o⟩:=p
  intro h
  simp only [List.map_cons,List.mem_cons,not_or] at h
  show (if b=c then some o else m.a1 L b)=m b
  rw [if_neg h.1,aO h.2]
theorem oO {m:ae} {b:Nat} {o:e2}:∀{L:List (Nat×e2)} (i:Nat),(L.map Prod.fst).Nodup→L[i]?=some (b,o)→m.a1 L b=some o:=by
 intro L
 induction L with
 |nil=>intro i _ h;simp at h
 |cons p L aO=>
  obtain ⟨c,ez⟩:=p
  intro i di h
  simp only [List.map_cons,List.nodup_cons] at di
  cases i with
  |zero=>
   simp at h
   obtain ⟨rfl,rfl⟩:=h
   show (if c=c then some ez else _)=_
   rw [if_pos rfl]
  |succ i=>
   simp at h
   have ag:b∈L.map Prod.fst:=List.mem_map.2 ⟨(b,o),List.mem_of_getElem? h,rfl⟩
   show (if b=c then some ez else m.a1 L b)=_
   rw [if_neg (fun (e:b=c)=>di.1 (e▸ag)),aO i di.2 h]
theorem yV {m:ae} {b:Nat} {o ez:e2}:∀{L:List (Nat×e2)} (i:Nat),(L.map Prod.fst).Nodup→L[i]?=some (b,o)→(m.a1 L).bX b (some ez)=m.a1 (L.set i (b,ez)):=by
 intro L
 induction L with
 |nil=>intro i _ h;simp at h
 |cons p L aO=>
  obtain ⟨c,vT⟩:=p
  intro i di h
  simp only [List.map_cons,List.nodup_cons] at di
  cases i with
  |zero=>
   simp at h
   obtain ⟨rfl,rfl⟩:=h
   funext x
   show (if x=c then some ez else if x=c then some vT else m.a1 L x)=(if x=c then some ez else m.a1 L x)
   by_cases ao:x=c<;>simp [ao]
  |succ i=>
   simp at h
   have ag:b∈L.map Prod.fst:=List.mem_map.2 ⟨(b,o),List.mem_of_getElem? h,rfl⟩
   have KF:b≠c:=fun (e:b=c)=>di.1 (e▸ag)
   funext x
   have:=congrFun (aO i di.2 h) x
   show (if x=b then some ez else if x=c then some vT else m.a1 L x)=(if x=c then some vT else m.a1 (L.set i (b,ez)) x)
   rw [←this]
   show _=(if x=c then some vT else if x=b then some ez else m.a1 L x)
   by_cases ao:x=b
   · subst ao;simp [KF]
   · simp [ao]
theorem KG {m:ae} {b:Nat}:∀{L:List (Nat×e2)},m.a1 L b=none→b∉L.map Prod.fst∧m b=none:=by
 intro L
 induction L with
 |nil=>intro h;exact ⟨by simp,h⟩
 |cons p L aO=>
  obtain ⟨c,o⟩:=p
  intro h
  have cm:(if b=c then some o else m.a1 L b)=none:=h
  by_cases ag:b=c
  · rw [if_pos ag] at cm;cases cm
  · rw [if_neg ag] at cm
    have:=aO cm
    exact ⟨by simp [ag];simpa using this.1,this.2⟩
theorem KH (m:ae) (L bK:List (Nat×e2)):m.a1 (L++bK)=(m.a1 bK).a1 L:=by
 induction L with
 |nil=>rfl
 |cons p L aO=>obtain ⟨c,o⟩:=p;show (ae.a1 m (L++bK)).bX c (some o)=((m.a1 bK).a1 L).bX c (some o);rw [aO]
theorem Dq {m:ae} {L bK:List (Nat×e2)} (di:(L.map Prod.fst).Nodup) (aB:L.Perm bK):m.a1 L=m.a1 bK:=by
 have KI:(bK.map Prod.fst).Nodup:=(aB.map Prod.fst).nodup_iff.1 di
 funext x
 by_cases ao:x∈L.map Prod.fst
 · obtain ⟨⟨c,o⟩,hm,rfl⟩:=List.mem_map.1 ao
   obtain ⟨i,ab⟩:=List.mem_iff_getElem?.1 hm
   obtain ⟨j,aG⟩:=List.mem_iff_getElem?.1 (aB.mem_iff.1 hm)
   rw [oO i di ab,oO j KI aG]
 · have tN:x∉bK.map Prod.fst:=fun h=>ao ((aB.map Prod.fst).mem_iff.2 h)
   rw [nY ao,nY tN]
theorem KJ {m:ae} {L Dr yW:List (Nat×e2)} (di:(L.map Prod.fst).Nodup) (aB:L.Perm (Dr++yW)):m.a1 L=(m.a1 yW).a1 Dr:=by
 rw [Dq di aB,KH]
section
variable {P:Program} {n:Nat} {fr:Fr} {m:ae} {ops:Array Oper} {stl:List Nat} {r:List Oper} {K:Fr→ae→Prop} {d:Nat} {ty:TypeId} {pos:String} {af:Array Edge} {gd:Option (Nat×Bool)} {L:List (Nat×e2)}
theorem KK (a8:ha ops fr gd=some true) {t:TypeId} {x:Operand} {b off:Nat} {l:List aa} {v:aa} (ao:bR (bc fr) x= .ptr ⟨b,off,none⟩) (hm:m.a1 L b=some (.cells l)) (bU:stl.contains d=false) (dh:jk P t l off) (ba:(apart P t l off).plain=v)
 (h:hV P ops stl r K (fr.put d v) (m.a1 L)):hV P ops stl (⟨some d, .load t x,ty,pos,af,gd⟩::r) K fr (m.a1 L):=by
 subst ba
 simp only [hV,jE,a8,ec,Option.map_some,Option.getD_some,bU,bq,ao,hm]
 exact ⟨dh,h⟩
theorem KL (a8:ha ops fr gd=some true) (i:Nat) {t:TypeId} {a x:Operand} {b off:Nat} {l l':List aa} {v:aa} (aN:bR (bc fr) a= .ptr ⟨b,off,none⟩) (ao:fl (bc fr) x=v) (di:(L.map Prod.fst).Nodup) (ab:L[i]?=some (b, .cells l))
 (I:v.ds=true) (J:v.cells.all aa.one=true) (ak:v.cells.length=P.cellsOf t) (nJ:dG P t=true) (aD:off+P.cellsOf t≤l.length) (av:l.take off++v.cells++l.drop (off+P.cellsOf t)=l')
 (h:hV P ops stl r K (fr.strip (mq x)) (m.a1 (L.set i (b, .cells l')))):hV P ops stl (⟨none, .store t a x,ty,pos,af,gd⟩::r) K fr (m.a1 L):=by
 subst av
 have hm:=oO (m:=m) i di ab
 simp only [hV,jE,a8,ec,aN,hm]
 refine ⟨⟨by rw [ao];exact I,by rw [ao];exact J,by rw [ao];exact ak,nJ,aD⟩,?_⟩
 rw [yV i di ab,ao]
 exact h
end
end Go.bb
end
section
namespace Go.bb
open Go
def en (P:Program) (n:Nat) (ops:Array Oper) (fuel:Nat) (listed:Array Bool) (K:Fr→ae→Prop) (fr:Fr) (m:ae):Prop:=
 ∀F lim w ca Q,aV F lim w n fr m ca []→(∀lim' w' aY m' dw,K aY m'→aV F lim' w' n aY m' dw []→cU F w lim w' lim'→Q Exit.normal dw w')→wpAny P .any ops Q fuel listed ca w
def yX (p:Nat→Prop):List Nat→Prop
 |[]=>True
 |i::r=>p i∧yX p r
theorem KM {p:Nat→Prop}:∀{l:List Nat},yX p l→∀i∈l,p i:=by
 intro l
 induction l with
 |nil=>intro _ i ab;cases ab
 |cons j l aO=>
  intro h i ab
  rcases List.mem_cons.1 ab with rfl|ab
  · exact h.1
  · exact aO h.2 i ab
section
variable {P:Program} {n:Nat} {fr:Fr} {m:ae} {ops:Array Oper} {fuel:Nat} {listed:Array Bool} {K:Fr→ae→Prop}
theorem en.done (aw:Region.ready .any ops listed=[]) (h:K fr m):en P n ops fuel listed K fr m:=by
 intro F lim w ca Q st aS
 have:=aS lim w fr m ca h st (.refl _ _ _)
 cases fuel with
 |zero=>exact ⟨aw,this⟩
 |succ fuel=>exact ⟨fun _=>this,fun i ab=>by rw [aw] at ab;cases ab⟩
theorem en.keep (ks:List Nat) (tc:(ks.all fun t=>decide (t<n))=true) (h:en P n ops fuel listed K (fr.keep ks) m):en P n ops fuel listed K fr m:=
 fun F lim w ca Q st aS=>h F lim w ca Q (st.keep (by simpa using tc)) aS
theorem en.step (stl:List Nat) (rs:List Nat) (aw:Region.ready .any ops listed=rs) (ek:rs≠[]) (ai:(ops.toList.all fun o=>ef n o&&fy n o)=true)
 (h:yX (fun i=>match ops[i]? with|some o=>hV P ops stl [o] (en P n ops fuel (listed.setIfInBounds i true) K) fr m|none=>False) rs):en P n ops (fuel+1) listed K fr m:=by
 intro F lim w ca Q st aS
 refine ⟨fun aA=>absurd (aw.symm.trans aA) ek,fun i ab=>?_⟩
 rw [aw] at ab
 have aj:=KM h i ab
 unfold wpOp
 cases aD:ops[i]? with
 |none=>rw [aD] at aj;exact aj.elim
 |some o=>
  rw [aD] at aj
  simp only at aj ⊢
  have dh:ef n o=true∧fy n o=true:=by
   have:=List.all_eq_true.1 ai o (by rw [Array.mem_toList_iff];exact Array.mem_of_getElem? aD)
   simpa using this
  have key:bB P n ops [o] (en P n ops fuel (listed.setIfInBounds i true) K) fr m:=Dn [o] (by simpa using dh) aj
  let gP:Exit→Act→World→Prop:=fun e a w'=>match e with
   | .normal=>wpAny P .any ops Q fuel (listed.setIfInBounds i true) a w'
   |e=>Q e a w'
  have hw:=key F lim w ca gP st (fun lim' w' aY m' dw cW fk cN=>cW F lim' w' dw Q fk fun ji hF pq mY rA ad rM pr=>aS ji hF pq mY rA ad rM (cN.trans pr))
  have conv:∀{C:Act→World→Prop},o.wp P ca w C gP→o.wp P ca w C Q:=by
   intro C km
   unfold Oper.wp at km ⊢
   generalize (execOp ca.eval o).run P w=res at km ⊢
   cases res with
   |ok s w'=>
    cases s with
    |enter f args=>
     refine km.mono fun e hF aL=>?_
     cases e<;>exact aL
    |_=>exact km
   |_=>exact km
  unfold wpList at hw
  split
  · next qB=>
    rw [if_pos qB] at hw
    rcases hw with hw|⟨I,J⟩
    · exact .inl (conv hw)
    · refine .inr ⟨I,?_⟩
      exact J
  · next qB=>
    rw [if_neg qB] at hw
    exact hw
theorem KN {id:Nat} {Q:Exit→Fr→ae→Prop} (hm:P.follows .mixedOrders=true) (ks:List Nat) (ai:jS n ops ks=true)
 (h:∀K:Fr→ae→Prop,(∀fr m,Q .normal fr m→K fr m)→en P n ops ops.size (Array.replicate ops.size false) (fun fr m=>K (fr.keep ks) m) fr m):cV P n (.region id ops true) Q fr m:=by
 intro F lim w ca st
 simp only [jS,Bool.and_eq_true,List.all_eq_true] at ai
 refine wp_region_any hm ?_
 refine h _ (fun _ _ h=>h) F lim _ ca _ (st.heap (w':={w with drawn:=w.drawn+1}) rfl) fun lim' w' aY m' dw ad fk cN=>?_
 exact ⟨lim',_,m',ad,fk.keep (fun t an=>by simpa using ai.2 t an),(cU.drew F w lim).trans cN⟩
end
end Go.bb
end
section
namespace Go.bb
open Go
section
variable {P:Program} {F:Nat→Prop} {lim:Nat→Nat} {w w':World} {n:Nat} {fr:Fr} {m:ae} {ca:Act} {bn:List Nat}
theorem Ds {args:Array Operand} (st:aV F lim w n fr m ca bn) (ai:∀y∈args.toList,kc y=true):∀i,i<(args.toList.map (bR (bc fr))).length→aF w lim ((args.map ca.eval).getD i undef) ((args.toList.map (bR (bc fr))).getD i .aP) []:=by
 intro i ab
 have eX:i<args.size:=by simpa using ab
 have:=gx st (ai args[i] (by simp))
 simpa [List.getD_eq_getElem?_getD,Array.getD_eq_getD_getElem?,eX] using this
theorem KO {ops:Array Oper} {stl:List Nat} {r:List Oper} {K:Fr→ae→Prop} {d:Nat} {ty:TypeId} {pos:String} {af:Array Edge} {gd:Option (Nat×Bool)} (a8:ha ops fr gd=some true) {fn:Fn} {first lK:Array Operand} {bn eW:List aa}
 (aM:first.toList.map (bR (bc fr))=bn) (ah:lK.toList.map (bR (bc fr))=eW) (h:hV P ops stl r K (fr.put d (.func fn bn eW)) m):
 hV P ops stl (⟨some d, .makeFunc fn first lK,ty,pos,af,gd⟩::r) K fr m:=by
 subst aM ah
 simp only [hV,jE,a8,ec,bq]
 intro n ai aJ F lim w ca st
 have fx:=jO ai
 refine ⟨_,_,w,lim,_,_,rfl, .inl rfl,st.dX (d:=some d) (fun t an=>jr ai an) (.func fn _ _ _ _ (by simp) (by simp) (Ds st fun y aE=>fx y (by simp [Op.operands];exact .inl (by simpa using aE))) (Ds st fun y aE=>fx y (by simp [Op.operands];exact .inr (by simpa using aE)))), .refl _ _ _,h⟩
theorem bp.conv {f:FuncId} {args yY:List aa} {K:aa→ae→Prop} (av:yY.length=args.length) (aw:∀w lim i v,aF w lim v (args.getD i .aP) []→aF w lim v (yY.getD i .aP) []) (h:bp P f yY m K):bp P f args m K:=
 ⟨h.1,fun F lim w cargs I J ak=>h.2 F lim w cargs (by rw [I,av]) (fun i ab=>aw w lim i _ (J i (by omega))) ak⟩
end
end Go.bb
end
section
namespace Go.bb
open Go Go.RowKit Go.WideShapes Go.ChangeShapes
def Rd (P:Program) (fuel:Nat) (t:TypeId) {α:Type} (f:α→aa):Prop:=
 ∀(H:Type) (enc:TypeId×Value→H) (W:World) (sp:Nat→Bool) (cs:List Value) (d:DataW H) (ps:List MemPlace),DataW.trod enc P W 0 sp true fuel t cs=some (d,ps)→(∀n∈d.weights P t,n≤reachBytes)→
  ∃x:α,(f x).cells.length=cs.length∧∀i,i<cs.length→aF W (mu W) (cs.getD i undef) ((f x).cells.getD i .aP) []
section
variable {P:Program} {fuel:Nat} {t e:TypeId}
theorem yZ (an:P.underlying t=some (.int .i64)):Rd P fuel t mx:=by
 intro H enc W sp cs d ps h _
 obtain ⟨n,rfl,_,hw⟩:=DataW.trod_int an h
 simp only [Lit.wf,IntKind.has,Bool.and_eq_true,decide_eq_true_eq] at hw
 refine ⟨n,rfl,fun i ab=>?_⟩
 obtain rfl:i=0:=by simpa using ab
 exact .int .i64 n hw.1 hw.2
theorem my (an:P.underlying t=some .string):Rd P fuel t cp:=by
 intro H enc W sp cs d ps h hw
 obtain ⟨s,rfl,ao,aj⟩:=DataW.trod_string an h
 simp only [Prod.mk.injEq] at ao
 obtain ⟨rfl,rfl⟩:=ao
 have I:=hw s.data.toList.length (by simp [DataW.weights])
 refine ⟨s.data.toList,rfl,fun i ab=>?_⟩
 obtain rfl:i=0:=by simpa using ab
 exact .str s (by unfold reachBytes at I;simp at I;omega)
theorem Dt {H:Type} {e:TypeId}:∀{fO:List (DataW H)} {d:DataW H},d∈fO→∀n∈d.weights P e,n∈DataW.weightsAll P e fO
 |a::fO,d,a7,n,aJ=>by
  simp only [DataW.weightsAll,List.mem_append]
  rcases List.mem_cons.1 a7 with rfl|a7
  · exact .inl aJ
  · exact .inr (Dt a7 n aJ)
theorem oP {α:Type} [Inhabited α] {f:α→aa} {sz:Nat} (an:P.underlying t=some (.slice e)) (b5:P.cellsOf e=sz) (js:0<sz) (KP:0<P.bytesOf e) (aM:∀x,(f x).cells.length=sz) (aw:∀n,n<fuel→Rd P n e f):Rd P fuel t (ld f):=by
 intro H enc W sp cs d ps h hw
 rcases DataW.trod_slice an h with ⟨rfl,_⟩|⟨a,len,cap,elems,rest,n,rfl,rfl,ao,ag,av,hm,hlen,mW,lQ,Du⟩
 · refine ⟨[],rfl,fun i ab=>?_⟩
   obtain rfl:i=0:=by simpa using ab
   exact .eR false
 simp only [Prod.mk.injEq] at ao
 obtain ⟨rfl,rfl⟩:=ao
 simp only [DataW.weights,an] at hw
 have Dv:=hw _ (List.mem_cons_self ..)
 simp only [List.length_map] at Dv
 have Dw:len≤140737488355328:=by
  have I:len*1≤(elems.length+rest.length)*P.bytesOf e:=Nat.mul_le_mul (by omega) KP
  unfold reachBytes at Dv;omega
 rcases Nat.eq_zero_or_pos len with aA|aA
 · subst aA
   refine ⟨[],rfl,fun i ab=>?_⟩
   obtain rfl:i=0:=by simpa using ab
   exact .empty a cap hm
 have each:∀i,i<len→∃(x:α) (k9:List Value),W.cells? 0 (a.add (i*sz)) sz=some k9∧(∀j,j<sz→aF W (mu W) (k9.getD j undef) ((f x).cells.getD j .aP) []):=fun i ab=>by
  have I:=mW i ab
  rw [b5,List.getElem?_eq_getElem (show i<elems.length by omega),Option.bind_eq_some_iff] at I
  obtain ⟨k9,J,ak⟩:=I
  have tt:DataW.trod enc P W 0 sp true n e k9=some ((elems[i]'(by omega)).1,(elems[i]'(by omega)).2):=ak
  obtain ⟨x,bA,cH⟩:=aw n (Nat.lt_succ_self n) H enc W sp k9 _ _ tt (fun k ai=>hw k (List.mem_cons_of_mem _ (List.mem_append_left _ (Dt (List.mem_map.2 ⟨_,List.getElem_mem (show i<elems.length by omega),rfl⟩) k ai))))
  have ni:k9.length=sz:=by rw [←bA,aM]
  exact ⟨x,k9,J,fun j aG=>cH j (by omega)⟩
 have lQ:a.spot=none:=by
  obtain ⟨x,k9,I,_⟩:=each 0 aA
  have:=(World.cells?_some I).2.2 0 js
  obtain ⟨b,off,spot⟩:=a
  cases spot with
  |none=>rfl
  |some s=>
   have ni:=(World.cells?_some I).2.1
   rw [List.getElem?_eq_getElem (by omega)] at this
   unfold World.cell? at this
   simp [Addr.add] at this
   split at this<;>simp_all
 obtain ⟨b,off,spot⟩:=a
 simp only at lQ
 subst lQ
 have a8:∀i:Nat,∃x:α×List Value,i<len→W.cells? 0 ((⟨b,off,none⟩:Addr).add (i*sz)) sz=some x.2∧(∀j,j<sz→aF W (mu W) (x.2.getD j undef) ((f x.1).cells.getD j .aP) []):=fun i=>by
  by_cases ab:i<len
  · obtain ⟨x,k9,I,J⟩:=each i ab
    exact ⟨(x,k9),fun _=>⟨I,J⟩⟩
  · exact ⟨(default,[]),fun h=>absurd h ab⟩
 obtain ⟨g,a8⟩:=Classical.axiomOfChoice a8
 have hR:∀i j,i<len→j<sz→W.cell? ⟨b,off+i*sz+j,none⟩=some ((g i).2.getD j undef):=fun i j ab aG=>by
  have I:=(a8 i ab).1
  have J:=(World.cells?_some I).2.2 j aG
  have ak:=(World.cells?_some I).2.1
  rw [Addr.add_lit,Addr.add_lit] at J
  rw [J,List.getD_eq_getElem?_getD,List.getElem?_eq_getElem (by omega)];rfl
 refine ⟨(List.range len).map fun i=>(g i).1,rfl,fun i ab=>?_⟩
 obtain rfl:i=0:=by simpa using ab
 have kD:∀i,i<len→(((List.range len).map fun i=>(g i).1).map f).getD i .aP=f (g i).1:=fun i ab=>by
  simp [List.getD_eq_getElem?_getD,ab]
 refine aF.slice b off len cap sz _ (fun i j=>(g i).2.getD j undef) (by simp) av hm Dw (fun i ab=>by rw [kD i ab];exact aM _) ?_ hR (fun i j ab aG=>by rw [kD i ab];exact (a8 i ab).2 j aG)
 have I:=J4 (hR (len- 1) (sz- 1) (by omega) (by omega))
 have J:len*sz=(len- 1)*sz+sz:=by rw [←Nat.succ_mul];congr 1;omega
 omega
theorem Rd.arg {α:Type} {f:α→aa} {H:Type} {enc:TypeId×Value→H} {W:World} {sp:Nat→Bool} {v:Value} {d:DataW H} {ps:List MemPlace} (aw:∀n,Rd P n t f) (aM:∀x,(f x).cells=[f x]) (ba:v.cells.toList=[v]) (a7:DataW.Trod enc P W 0 sp true t v d ps) (hw:∀n∈d.weights P t,n≤reachBytes):
 ∃x:α,aF W (mu W) v (f x) []:=by
 obtain ⟨n,aJ⟩:=a7
 obtain ⟨x,I,J⟩:=aw n H enc W sp _ d ps aJ hw
 refine ⟨x,?_⟩
 rw [ba] at J
 have:=J 0 (by simp)
 rw [aM] at this
 exact this
theorem Dx {H:Type} {bd:List TypeId} {fO:List (DataW H)} (h:(DataW.weightsEach P bd fO).all (· ≤reachBytes)=true) {j:Nat} {d:DataW H} (an:bd[j]?=some t) (a7:fO[j]?=some d):∀n∈d.weights P t,n≤reachBytes:=fun n aJ=>by
 simpa using List.all_eq_true.1 h _ (DataW.weights_mem_each an a7 n aJ)
end
end Go.bb
end
section
namespace Go.bb
open Go Go.MapKept
section
variable {cq dP:Type} [DecidableEq cq]
def mz:List (cq×dP)→cq→Option dP
 |[],_=>none
 |(a,b)::r,k=>if a=k then some b else mz r k
def rO {cq dP:Type} (cO:cq→aa) (vf:dP→aa) (p:cq×dP):aa×aa:=(cO p.1,vf p.2)
def hH:List (cq×dP)→cq→dP→List (cq×dP)
 |[],k,v=>[(k,v)]
 |(a,b)::r,k,v=>if a=k then (k,v)::r else (a,b)::hH r k v
def rP:List (cq×dP)→cq→List (cq×dP)
 |[],_=>[]
 |(a,b)::r,k=>if a=k then r else (a,b)::rP r k
def lS:List (cq×dP)→cq→Option Nat
 |[],_=>none
 |(a,_)::r,k=>if a=k then some 0 else (lS r k).map (· +1)
theorem y0:∀{l:List (cq×dP)} {k:cq},lS l k=none→mz l k=none∧rP l k=l∧∀v,hH l k v=l++[(k,v)]
 |[],_,_=>⟨rfl,rfl,fun _=>rfl⟩
 |(a,b)::r,k,h=>by
  unfold lS at h
  split at h
  · cases h
  · rename_i ek
    have aO:=y0 (l:=r) (k:=k) (by simpa using h)
    simp only [mz,rP,hH,if_neg ek,aO.1,aO.2.1,true_and]
    exact fun v=>by rw [aO.2.2 v];rfl
theorem y1:∀{l:List (cq×dP)} {k:cq} {j:Nat},lS l k=some j→∃b,l[j]?=some (k,b)∧mz l k=some b∧rP l k=l.eraseIdx j∧∀v,hH l k v=l.set j (k,v)
 |[],_,_,h=>by simp [lS] at h
 |(a,b)::r,k,j,h=>by
  unfold lS at h
  split at h
  · rename_i he
    subst he
    obtain rfl:0=j:=by simpa using h
    exact ⟨b,rfl,by simp [mz],by simp [rP],fun v=>by simp [hH]⟩
  · rename_i ek
    cases aw:lS r k with
    |none=>rw [aw] at h;cases h
    |some i=>
     rw [aw] at h
     obtain rfl:i+1=j:=by simpa using h
     obtain ⟨c,I,J,ak,aH⟩:=y1 aw
     exact ⟨c,by simpa using I,by simp [mz,ek,J],by simp [rP,ek,ak],fun v=>by simp [hH,ek,aH]⟩
end
def nZ (d:TypeDesc) {cq:Type} (cO:cq→aa) (eZ:cq→Value):Prop:=
 (∀w lim v a os,aF w lim v (cO a) os→v=eZ a)∧(∀a,IsKey d (eZ a))∧∀a b,eZ a=eZ b→a=b
def Dy (n:Int):Value:= .int .i64 n
theorem rQ:nZ (.int .i64) mx Dy:=by
 refine ⟨fun w lim v a os h=>?_,fun a=>by simp [IsKey,Dy],fun a b h=>by injection h⟩
 generalize he:mx a=x at h
 cases h<;>first|(cases he;done)|skip
 rename_i k n bh ab
 injection he with I J
 subst I J;rfl
section
variable {P:Program} {F:Nat→Prop} {lim:Nat→Nat} {w w':World} {n:Nat} {fr:Fr} {m:ae} {ca:Act} {bn:List Nat}
theorem y2 {cq dP:Type} [DecidableEq cq] {d:TypeDesc} {cO:cq→aa} {eZ:cq→Value} (he:nZ d cO eZ) (k:cq):∀(E:List MapEntry) (l:List (cq×dP)) (i:Nat),E.map (·.key)=l.map (fun p=>eZ p.1)→
 Instr.findNow d (eZ k) E i=some ((lS l k).map fun j=>(i+j,(E.getD j default).val))
 |[],[],_,_=>rfl
 |[],_::_,_,h=>by simp at h
 |_::_,[],_,h=>by simp at h
 |e::E,(a,b)::l,i,h=>by
  simp only [List.map_cons,List.cons.injEq] at h
  obtain ⟨I,J⟩:=h
  obtain ⟨r,aw,Dz⟩:=sameNow_of_keys (he.2.1 k) (he.2.1 a)
  simp only [Instr.findNow,I,aw]
  cases r with
  |true=>
   have ay:a=k:=(he.2.2 _ _ (Dz.1 rfl)).symm
   simp [lS,ay]
  |false=>
   have ay:a≠k:=fun q=>by
    have:=Dz.2 (by rw [q]);cases this
   rw [y2 he k E l (i+1) J]
   simp only [lS,if_neg ay,Option.map_map]
   congr 1
   cases lS l k with
   |none=>rfl
   |some j=>simp;omega
theorem DA {cq dP:Type} {d:TypeDesc} {cO:cq→aa} {eZ:cq→Value} {vf:dP→aa} (he:nZ d cO eZ) (st:aV F lim w n fr m ca bn) {b:Nat} {l:List (cq×dP)} (hm:m b=some (.map (l.map fun p=>(cO p.1,vf p.2)))):
 ∃es clock,w.heap[b]?=some (.map es clock)∧es.size=l.length∧es.toList.map (·.key)=l.map (fun p=>eZ p.1)∧(∀i p,l[i]?=some p→aF w lim (es.getD i default).val (vf p.2) [])∧(∀i j,i<j→j<l.length→(es.getD i default).born<(es.getD j default).born)∧(∀i,i<l.length→(es.getD i default).born<clock)∧
  l.length≤140737488355328∧(∀i p,l[i]?=some p→aF w lim (es.getD i default).key (cO p.1) [])∧lim b=0∧¬F b:=by
 obtain ⟨os,b3,bu,h⟩:=st
 obtain ⟨e4,av,dB⟩:=h.mem b _ hm
 generalize aD:b3 b=Sl at e4
 generalize eT:(l.map fun p=>(cO p.1,vf p.2))=L at e4
 cases e4 with
 |map es clock L ag aj cF ai ba oq nE os=>
  subst eT
  simp only [List.length_map] at aj cF ai ba oq nE
  have jC:∀i p,l[i]?=some p→(l.map fun p=>(cO p.1,vf p.2)).getD i (.aP, .aP)=(cO p.1,vf p.2):=fun i p aB=>by simp [List.getD_eq_getElem?_getD,aB]
  have bN:∀i p,l[i]?=some p→i<l.length:=fun i p aB=>(List.getElem?_eq_some_iff.1 aB).1
  have rR:∀i p,l[i]?=some p→aF w lim (es.getD i default).key (cO p.1) []:=fun i p aB=>by have:=ai i (bN i p aB);rwa [jC i p aB] at this
  refine ⟨es,clock,ag,aj,?_,fun i p aB=>by have:=ba i (bN i p aB);rwa [jC i p aB] at this,oq,nE,cF,rR,av,dB⟩
  refine List.ext_getElem (by simp [aj]) fun i I J=>?_
  have ab:i<l.length:=by simpa using J
  have eX:i<es.size:=by omega
  have:=he.1 _ _ _ _ _ (rR i l[i] (List.getElem?_eq_getElem ab))
  simpa [Array.getD,eX] using this
theorem aV.DB (st:aV F lim w n fr m ca bn) {b:Nat} {l l':List (aa×aa)} {es es':Array MapEntry} {clock clock':Nat} (hm:m b=some (.map l)) (ag:w.heap[b]?=some (.map es clock)) (aj:es'.size=l'.length) (cF:l'.length≤140737488355328)
 (eS:∀i,i<l'.length→aF w lim (es'.getD i default).key (l'.getD i (.aP, .aP)).1 []) (ba:∀i,i<l'.length→aF w lim (es'.getD i default).val (l'.getD i (.aP, .aP)).2 [])
 (oq:∀i j,i<j→j<l'.length→(es'.getD i default).born<(es'.getD j default).born) (nE:∀i,i<l'.length→(es'.getD i default).born<clock'):
 aV F lim {w with heap:=w.heap.setIfInBounds b (.map es' clock')} n fr (m.bX b (some (.map l'))) ca bn∧cU F w lim {w with heap:=w.heap.setIfInBounds b (.map es' clock')} lim:=by
 obtain ⟨os,b3,bu,h⟩:=st
 obtain ⟨e4,av,dB⟩:=h.mem b _ hm
 have vU:b<w.heap.size:=(Array.getElem?_eq_some_iff.1 ag).1
 generalize hw:({w with heap:=w.heap.setIfInBounds b (.map es' clock')}:World)=cf
 have ki:∀k,k≠b→cf.heap[k]?=w.heap[k]?:=fun k ai=>by rw [←hw];simp [Array.getElem?_setIfInBounds,Ne.symm ai]
 have nL:cf.heap[b]?=some (.map es' clock'):=by rw [←hw];simp [vU]
 have oF:cf.heap.size=w.heap.size:=by rw [←hw];simp
 have hR:∀k o,o<lim k→cf.cell? ⟨k,o,none⟩=w.cell? ⟨k,o,none⟩:=fun k o aD=>by
  have:k≠b:=fun e=>by subst e;omega
  simp [World.cell?,ki k this]
 have k3:∀c,m c=none→c≠b:=fun c ah e=>by subst e;rw [hm] at ah;cases ah
 have bU:∀{v x dI},aF w lim v x dI→(∀c∈dI,bu c≠ .none)→aF cf lim v x dI:=fun hr aD=>hr.fX (fun _=>Nat.le_refl _) hR (fun c ah=>⟨ki c (k3 c (h.free c (aD c ah)).2.1),rfl⟩)
 have DC:∀{v x},aF w lim v x []→aF cf lim v x []:=fun hr=>bU hr (by simp)
 refine ⟨?_,by rw [←hw],by rw [←hw],by rw [←hw],by rw [oF];exact Nat.le_refl _,fun k ai=>⟨ki k (fun e=>by subst e;exact dB ai),rfl⟩,fun _=>Nat.le_refl _,hR⟩
 refine ⟨os,b3,bu,h.size,h.defers,fun t x ao=>⟨(h.dv t x ao).1,bU (h.dv t x ao).2 (fun c ah=>by rw [(h.ea t x ao).2 c ah];simp)⟩,fun k o ai=>?_,h.ea,fun k o ai i=>?_,h.fs,fun c ah=>⟨(h.free c ah).1,?_,by rw [oF];exact (h.free c ah).2.2⟩,fun k ai=>?_⟩
 · by_cases fY:k=b
   · subst fY
     simp only [ae.bX,↓reduceIte,Option.some.injEq] at ai
     subst ai
     exact ⟨.map es' clock' l' nL aj cF (fun i ab=>DC (eS i ab)) (fun i ab=>DC (ba i ab)) oq nE _,av,dB⟩
   · simp only [ae.bX,if_neg fY] at ai
     have tO:=h.mem k o ai
     refine ⟨tO.1.fX (ki k fY) (fun _=>Nat.le_refl _) hR (fun i c ah=>⟨ki c (k3 c (h.free c ?_).2.1),rfl⟩),tO.2⟩
     rw [(h.dn k o ai i).2 c ah];simp
 · by_cases fY:k=b
   · subst fY;exact h.dn k _ hm i
   · simp only [ae.bX,if_neg fY] at ai
     exact h.dn k o ai i
 · have:=(h.free c ah).2.1
   simp only [ae.bX]
   rw [if_neg (k3 c this)];exact this
 · rw [oF] at ai
   have:=h.fresh k ai
   refine ⟨this.1,this.2.1,?_⟩
   simp only [ae.bX]
   rw [if_neg (by omega)];exact this.2.2
variable {ops:Array Oper} {stl:List Nat} {r:List Oper} {K:Fr→ae→Prop} {d:Nat} {ty:TypeId} {pos:String} {af:Array Edge} {gd:Option (Nat×Bool)} {L:List (Nat×e2)}
theorem DD {cq dP:Type} {dk:TypeDesc} {cO:cq→aa} {eZ:cq→Value} {vf:dP→aa} (he:nZ dk cO eZ) {es:Array MapEntry} {l l':List (cq×dP)} {es':Array MapEntry} (aj:es'.size=l'.length)
 (ai:∀i p,l'[i]?=some p→aF w lim (es'.getD i default).key (cO p.1) []∧aF w lim (es'.getD i default).val (vf p.2) []):
 (∀i,i<(l'.map fun p=>(cO p.1,vf p.2)).length→aF w lim (es'.getD i default).key ((l'.map fun p=>(cO p.1,vf p.2)).getD i (.aP, .aP)).1 [])∧(∀i,i<(l'.map fun p=>(cO p.1,vf p.2)).length→aF w lim (es'.getD i default).val ((l'.map fun p=>(cO p.1,vf p.2)).getD i (.aP, .aP)).2 []):=by
 have key:∀i,i<(l'.map fun p=>(cO p.1,vf p.2)).length→aF w lim (es'.getD i default).key ((l'.map fun p=>(cO p.1,vf p.2)).getD i (.aP, .aP)).1 []∧aF w lim (es'.getD i default).val ((l'.map fun p=>(cO p.1,vf p.2)).getD i (.aP, .aP)).2 []:=fun i ab=>by
  have eX:i<l'.length:=by simpa using ab
  have:=ai i _ (List.getElem?_eq_getElem eX)
  simpa [List.getD_eq_getElem?_getD,eX] using this
 exact ⟨fun i ab=>(key i ab).1,fun i ab=>(key i ab).2⟩
theorem KQ {α:Type} {es:Array α} {i:Nat} {d x:α} (h:es[i]?=some x):es.getD i d=x:=by
 rw [Array.getD_eq_getD_getElem?,h];rfl
theorem KR {cq dP:Type} [DecidableEq cq] {dk:TypeDesc} {cO:cq→aa} {eZ:cq→Value} {vf:dP→aa} (he:nZ dk cO eZ) (st:aV F lim w n fr m ca bn) {b:Nat} {l:List (cq×dP)} (hm:m b=some (.map (l.map fun p=>(cO p.1,vf p.2)))) {t ke ve:TypeId} (an:P.underlying t=some (.map ke ve)) (oQ:P.underlying ke=some dk)
 {tP kE:Value} {k:cq} {v:dP} (tQ:aF w lim tP (cO k) []) (vH:aF w lim kE (vf v) []) (cF:(hH l k v).length≤140737488355328):
 ∃w',(Instr.mapUpdate t (.map (some b)) tP kE).run P w= .ok () w'∧aV F lim w' n fr (m.bX b (some (.map ((hH l k v).map fun p=>(cO p.1,vf p.2))))) ca bn∧cU F w lim w' lim:=by
 obtain ⟨es,clock,ag,aj,y3,n0,oq,nE,hlen,rR,kJ,dB⟩:=DA he st hm
 obtain rfl:=he.1 _ _ _ _ _ tQ
 have aM:=y2 he k es.toList l 0 y3
 have ah:(Instr.checkKey false 10000 ke (eZ k)).run P w= .ok () w:=run_checkKey oQ (he.2.1 k) _ 9999
 have lT:=run_findKey (P:=P) (w:=w) oQ aM
 have KS:∀i p,l[i]?=some p→i<es.size:=fun i p aB=>by have:=(List.getElem?_eq_some_iff.1 aB).1;omega
 cases ab:lS l k with
 |none=>
  have I:=(y0 ab).2.2 v
  rw [ab] at lT
  simp only [Option.map_none] at lT
  have jC:∀i,(es.push {key:=eZ k,val:=kE,born:=clock}).getD i default=if i<es.size then es.getD i default else if i=es.size then {key:=eZ k,val:=kE,born:=clock} else default:=fun i=>by
   simp only [Array.getD_eq_getD_getElem?,Array.getElem?_push]
   by_cases J:i=es.size
   · subst J;simp
   · rw [if_neg J]
     by_cases ak:i<es.size
     · rw [if_pos ak]
     · rw [if_neg ak,if_neg J,Array.getElem?_eq_none (by omega)];rfl
  have hw:=DD (w:=w) (lim:=lim) he (es:=es) (l:=l) (l':=l++[(k,v)]) (es':=es.push {key:=eZ k,val:=kE,born:=clock}) (vf:=vf) (by simp [aj]) (fun i p aB=>by
   rw [jC]
   by_cases J:i<l.length
   · rw [List.getElem?_append_left J] at aB
     rw [if_pos (by omega)]
     exact ⟨rR i p aB,n0 i p aB⟩
   · rw [List.getElem?_append_right (by omega)] at aB
     have ak:i- l.length=0:=by
      rcases Nat.eq_zero_or_pos (i- l.length) with ak|ak
      · exact ak
      · rw [List.getElem?_eq_none (by simp;omega)] at aB;cases aB
     rw [ak] at aB
     obtain rfl:(k,v)=p:=by simpa using aB
     rw [if_neg (by omega),if_pos (by omega)]
     exact ⟨tQ,vH⟩)
  obtain ⟨s1,s2⟩:=st.DB (es':=es.push {key:=eZ k,val:=kE,born:=clock}) (clock':=clock+1) (l':=(l++[(k,v)]).map fun p=>(cO p.1,vf p.2)) hm ag (by simp [aj]) (by rw [←I];simpa using cF) hw.1 hw.2 (fun i j qx aG=>by
   simp only [List.length_map,List.length_append,List.length_singleton] at aG
   rw [jC,jC,if_pos (by omega)]
   by_cases J:j<es.size
   · rw [if_pos J];exact oq i j qx (by omega)
   · rw [if_neg J,if_pos (by omega)];exact nE i (by omega)) (fun i eX=>by
   simp only [List.length_map,List.length_append,List.length_singleton] at eX
   rw [jC]
   by_cases J:i<es.size
   · rw [if_pos J];have:=nE i (by omega);omega
   · rw [if_neg J,if_pos (by omega)];exact Nat.lt_succ_self _)
  refine ⟨_,?_,by rw [I];exact s1,s2⟩
  simp [Instr.mapUpdate,run_underlying an,run_getObj_map ag,ah,lT,Result.andThen,run_setObj_map _ ag]
 |some j=>
  obtain ⟨c,I,_,_,aH⟩:=y1 ab
  have aQ:=aH v
  rw [ab] at lT
  simp only [Option.map_some,Nat.zero_add] at lT
  have rS:j<l.length:=(List.getElem?_eq_some_iff.1 I).1
  have aG:j<es.size:=KS j _ I
  have KT:(es[j]?).map (·.key)=some (eZ k):=by
   have bw:=he.1 _ _ _ _ _ (rR j _ I)
   rw [Array.getElem?_eq_getElem aG]
   rw [KQ (Array.getElem?_eq_getElem aG)] at bw
   simp [bw]
  have jC:∀i,(es.modify j fun e=>{e with key:=eZ k,val:=kE}).getD i default=if i=j then {es.getD j default with key:=eZ k,val:=kE} else es.getD i default:=fun i=>by
   simp only [Array.getD_eq_getD_getElem?,Array.getElem?_modify]
   by_cases J:j=i
   · subst J;simp [Array.getElem?_eq_getElem aG]
   · rw [if_neg J,if_neg (Ne.symm J)]
  have hw:=DD (w:=w) (lim:=lim) he (es:=es) (l:=l) (l':=l.set j (k,v)) (es':=es.modify j fun e=>{e with key:=eZ k,val:=kE}) (vf:=vf) (by simp [aj]) (fun i p aB=>by
   rw [jC]
   rw [List.getElem?_set] at aB
   by_cases J:j=i
   · subst J
     rw [if_pos rfl,if_pos rS] at aB
     obtain rfl:(k,v)=p:=by simpa using aB
     rw [if_pos rfl];exact ⟨tQ,vH⟩
   · rw [if_neg J] at aB
     rw [if_neg (Ne.symm J)];exact ⟨rR i p aB,n0 i p aB⟩)
  have nj:∀i,((es.modify j fun e=>{e with key:=eZ k,val:=kE}).getD i default).born=(es.getD i default).born:=fun i=>by
   rw [jC];split
   · rename_i J;subst J;simp [Array.getD,aG]
   · rfl
  obtain ⟨s1,s2⟩:=st.DB (es':=es.modify j fun e=>{e with key:=eZ k,val:=kE}) (clock':=clock) (l':=(l.set j (k,v)).map fun p=>(cO p.1,vf p.2)) hm ag (by simp [aj]) (by rw [←aQ];simpa using cF) hw.1 hw.2 (fun i yF qx oK=>by
   rw [nj,nj];exact oq i yF qx (by simpa using oK)) (fun i eX=>by rw [nj];exact nE i (by simpa using eX))
  refine ⟨_,?_,by rw [aQ];exact s1,s2⟩
  have tc:(Instr.keyThatStays (((es[j]?).map (·.key)).getD (eZ k)) (eZ k)).run P w= .ok (eZ k) w:=by
   rw [KT];exact run_keyThatStays (he.2.1 k)
  simp only [Instr.mapUpdate,Sem.run_bind,run_underlying an,run_getObj_map ag,ah,lT,Result.andThen_ok,tc,run_setObj_map _ ag]
def oR:aa→Prop
 | .str s=>s.length≤140737488355328
 | .slice _ l=>l.length≤140737488355328
 |_=>True
def tR:aa→Prop
 | .agg l=>∀i,i<l.length→oR (l.getD i .aP)
 |x=>oR x
theorem KU {v:Value} {x:aa} {os:List Nat} (h:aF w lim v x os):oR x:=by
 cases h with
 |str s h=>show s.data.toList.length≤_;simp;exact h
 |eR own=>simp [oR]
 |empty a cap hm=>simp [oR]
 |slice b off n cap sz l cv aJ et hm cF=>show l.length≤_;omega
 |own b n cap sz l cv cur e aJ et hm cF=>show l.length≤_;omega
 |_=>trivial
theorem y4 {v:Value} {x:aa} {os:List Nat} (h:aF w lim v x os):tR x:=by
 cases h with
 |agg cs xs os h aw=>exact fun i ab=>KU (aw i ab)
 |str s h=>show s.data.toList.length≤_;simp;exact h
 |eR own=>simp [tR,oR]
 |empty a cap hm=>simp [tR,oR]
 |slice b off n cap sz l cv aJ et hm cF=>show l.length≤_;omega
 |own b n cap sz l cv cur e aJ et hm cF=>show l.length≤_;omega
 |_=>trivial
theorem dT {α:Type} {f:α→aa} {o:Bool} {l:List α} (h:oR (.slice o (l.map f))):l.length≤140737488355328:=by
 have:(l.map f).length≤140737488355328:=h
 simpa using this
end
end Go.bb
end
section
namespace Go.bb
open Go
section
variable {P:Program} {F:Nat→Prop} {lim:Nat→Nat} {w w':World} {n:Nat} {fr:Fr} {m:ae} {ca:Act} {bn:List Nat}
def nk (raw:Nat→aa) (s:Nat) (X:aa):Operand→aa
 | .tmp t=>if t=s then X else bR raw (.tmp t)
 |y=>bR raw y
theorem KV {t:TypeId} {cj:Array Field} {z:aa} {parts:Array (Nat×Operand)} {s:Nat} {l pre post:List aa} {os:List Nat} (st:aV F lim w n fr m ca bn)
 (hu:P.underlying t=some (.struct cj)) (au:gQ P t=some z) (pB:z.ds=true) (iR:∀f∈cj.toList,dG P f.type=true) (oE:∀X:aa,X.ds=true→∀p∈parts.toList,(nk (bc fr) s X p.2).ds=true)
 (tS:∀a k c,k8 (fun i=>(cj[i]?).map fun f=>(f.offset,P.cellsOf f.type)) z.cells (parts.toList.map fun p=>(p.1,nk (bc fr) s (.ms a k c) p.2))=some (pre++ .ms a k c::post))
 (iO:k8 (fun i=>(cj[i]?).map fun f=>(f.offset,P.cellsOf f.type)) z.cells (parts.toList.map fun p=>(p.1,nk (bc fr) s (.slice true l) p.2))=some (pre++ .slice true l::post))
 (fx:∀p∈parts.toList,kc p.2=true) (aw:aF w lim (ca.tmps.getD s undef) (.slice true l) os):
 ∃v,(Instr.build t (parts.map fun (i,x)=>(i,ca.eval x))).run P w= .ok v w∧aF w lim v (.agg (pre++ .slice true l::post)) os:=by
 have y5:∀X:aa,aF w lim (ca.tmps.getD s undef) X []→∀p∈parts.toList,aF w lim (ca.eval p.2) (nk (bc fr) s X p.2) []:=fun X qC p aB=>by
  have I:=gx st (fx p aB)
  cases tT:p.2 with
  |tmp t=>
   rw [tT] at I
   simp only [nk]
   split
   · rename_i e;subst e;exact qC
   · exact I
  |_=>rw [tT] at I;exact I
 generalize ba:ca.tmps.getD s undef=vs at aw y5
 have la:=aw
 cases aw with
 |eR own=>
  obtain ⟨v,I,J⟩:=yx (P:=P) (w:=w) (lim:=lim) (ca:=ca) hu au pB iR iO (y5 _ (.eR true)) (oE _ rfl)
  exact ⟨v,I,J⟩
 |own b iz cap sz l cv cur e I J ak aH aQ bw db cA dx eY hq=>
  obtain ⟨v,h4,iQ⟩:=yx (P:=P) (w:=w) (lim:=lim) (ca:=ca) hu au pB iR (tS ⟨b,0,none⟩ iz cap) (y5 _ (.ms _ _ _ J ak)) (oE _ rfl)
  refine ⟨v,h4,?_⟩
  obtain ⟨y6,iN,iQ⟩:∃y6,([]:List Nat)=y6∧aF w lim v (.agg (pre++ .ms ⟨b,0,none⟩ iz cap::post)) y6:=⟨[],rfl,iQ⟩
  cases iQ with
  |agg cs xs dI b5 tU=>
   have kF:=CI iN
   have ai:=tU pre.length (by simp)
   rw [kF pre.length (by simp)] at ai
   have jC:∀(X:aa) (i:Nat),(pre++X::post).getD i .aP=if i<pre.length then pre.getD i .aP else if i=pre.length then X else post.getD (i- pre.length- 1) .aP:=fun X i=>by
    simp only [List.getD_eq_getElem?_getD]
    by_cases ab:i<pre.length
    · rw [if_pos ab,List.getElem?_append_left ab]
    · rw [if_neg ab,List.getElem?_append_right (by omega)]
      by_cases he:i=pre.length
      · subst he;simp
      · rw [if_neg he]
        obtain ⟨d,a7⟩:∃d,i- pre.length=d+1:=⟨i- pre.length- 1,by omega⟩
        rw [a7];simp
   rw [jC,if_neg (by omega),if_pos rfl] at ai
   have n0:=(s7 ai).1
   have cW:=aF.agg (w:=w) (lim:=lim) cs (pre++ .slice true l::post) (fun i=>if i=pre.length then [b] else []) (by rw [b5];simp) (fun i ab=>by
    have eX:i<(pre++aa.ms ⟨b,0,none⟩ iz cap::post).length:=by simp at ab ⊢;exact ab
    have vV:=tU i eX
    rw [kF i eX] at vV
    rw [jC] at vV ⊢
    by_cases he:i=pre.length
    · subst he
      rw [if_neg (by omega),if_pos rfl,if_pos rfl,n0]
      exact la
    · rw [if_neg he] at vV
      rw [if_neg he,if_neg he]
      exact vV)
   have pw:(List.range (pre++aa.slice true l::post).length).flatMap (fun i=>if i=pre.length then [b] else [])=[b]:=by
    have:∀(k n:Nat),k<n→(List.range n).flatMap (fun i=>if i=k then [b] else [])=[b]:=fun k n=>by
     induction n with
     |zero=>intro h;omega
     |succ n aO=>
      intro h
      rw [List.range_succ,List.flatMap_append]
      by_cases ai:k=n
      · subst ai
        have aA:(List.range k).flatMap (fun i=>if i=k then [b] else [])=[]:=by
         rw [List.flatMap_eq_nil_iff]
         intro i ab
         have:=List.mem_range.1 ab
         rw [if_neg (by omega)]
        rw [aA];simp
      · rw [aO (by omega)];simp;omega
    exact this _ _ (by simp)
   rw [pw] at cW
   exact cW
theorem KW {ops:Array Oper} {stl:List Nat} {r:List Oper} {K:Fr→ae→Prop} {d:Nat} {ty:TypeId} {pos:String} {af:Array Edge} {gd:Option (Nat×Bool)} (a8:ha ops fr gd=some true) {t:TypeId} {cj:Array Field} {z:aa} {parts:Array (Nat×Operand)} (s:Nat) {l:List aa} (pre post:List aa)
 (bU:stl.contains d=true) (hu:P.underlying t=some (.struct cj)) (au:gQ P t=some z) (pB:z.ds=true) (iR:∀f∈cj.toList,dG P f.type=true) (oE:∀X:aa,X.ds=true→∀p∈parts.toList,(nk (bc fr) s X p.2).ds=true)
 (tS:∀a k c,k8 (fun i=>(cj[i]?).map fun f=>(f.offset,P.cellsOf f.type)) z.cells (parts.toList.map fun p=>(p.1,nk (bc fr) s (.ms a k c) p.2))=some (pre++ .ms a k c::post))
 (iO:k8 (fun i=>(cj[i]?).map fun f=>(f.offset,P.cellsOf f.type)) z.cells (parts.toList.map fun p=>(p.1,nk (bc fr) s (.slice true l) p.2))=some (pre++ .slice true l::post))
 (ao:bc fr s= .slice true l) (hp:(parts.toList.any fun p=>match p.2 with| .tmp t=>t==s|_=>false)=true) (h:hV P ops stl r K ((fr.strip [s]).put d (.agg (pre++ .slice true l::post))) m):
 hV P ops stl (⟨some d, .build t parts,ty,pos,af,gd⟩::r) K fr m:=by
 simp only [hV,jE,a8,ec,Option.map_some,Option.getD_some,bU,if_true]
 intro n ai aJ F lim w ca st
 have rn:s<n:=by
  obtain ⟨p,aB,nV⟩:=List.any_eq_true.1 hp
  have:=vF aJ (y:=p.2) (by simp [Op.operands];exact ⟨p.1,by simpa using aB⟩)
  cases tT:p.2 with
  |tmp t=>rw [tT] at nV this;simp at nV;subst nV;exact this t rfl
  |_=>rw [tT] at nV;simp at nV
 obtain ⟨os,s1,s2⟩:=st.rI s rn
 rw [ao] at s2
 have fx:∀p∈parts.toList,kc p.2=true:=fun p aB=>jO ai p.2 (by simp [Op.operands];exact ⟨p.1,by simpa using aB⟩)
 obtain ⟨v,h4,iQ⟩:=KV (P:=P) st hu au pB iR oE tS iO fx s2
 exact ⟨.value v,v,w,lim,_,_,by simp [execOp,h4], .inl rfl,s1.dX (d:=some d) (fun t an=>jr ai an) iQ, .refl _ _ _,h⟩
def pick {α:Type}:List α→List Nat→List α×List α
 |L,[]=>([],L)
 |L,i::is=>match L[i]? with
  |some a=>(a::(pick (L.eraseIdx i) is).1,(pick (L.eraseIdx i) is).2)
  |none=>pick L is
end
end Go.bb
end
section
namespace Go.bb
open Go Go.RowKit Go.WideShapes Go.ChangeShapes
section
variable {P:Program} {fuel:Nat} {t e:TypeId}
theorem DE {H:Type}:∀{bd:List TypeId} {fO:List (DataW H)} {i:Nat} {t:TypeId} {d:DataW H},bd[i]?=some t→fO[i]?=some d→∀n∈d.weights P t,n∈DataW.weightsEach P bd fO
 |a::bd,b::fO,0,t,d,an,a7,n,aJ=>by
  simp only [List.getElem?_cons_zero,Option.some.injEq] at an a7
  subst an;subst a7
  exact List.mem_append_left _ aJ
 |a::bd,b::fO,i+1,t,d,an,a7,n,aJ=>by
  simp only [List.getElem?_cons_succ] at an a7
  exact List.mem_append_right _ (DE an a7 n aJ)
 |[],_,i,t,d,an,_,_,_=>by simp at an
 |_::_,[],i,t,d,_,a7,_,_=>by simp at a7
theorem pI {cj:Array Field} (an:P.underlying t=some (.struct cj)) {H:Type} {enc:TypeId×Value→H} {W:World} {sp:Nat→Bool} {cs:List Value} {d:DataW H} {ps:List MemPlace} (h:DataW.trod enc P W 0 sp true fuel t cs=some (d,ps)) (hw:∀n∈d.weights P t,n≤reachBytes):
 cs.length=P.cellsOf t∧∀(i:Nat) (f:Field) {α:Type} (g:α→aa),cj[i]?=some f→(∀n,n<fuel→Rd P n f.type g)→f.offset+P.cellsOf f.type≤P.cellsOf t→
  ∃x:α,(g x).cells.length=P.cellsOf f.type∧∀j,j<P.cellsOf f.type→aF W (mu W) (cs.getD (f.offset+j) undef) ((g x).cells.getD j .aP) []:=by
 obtain ⟨xs,n,rfl,ao,av,rT,aM⟩:=DataW.trod_struct an h
 simp only [Prod.mk.injEq] at ao
 obtain ⟨rfl,rfl⟩:=ao
 refine ⟨av,fun i f α g ab aw aD=>?_⟩
 have I:=aM i f ab
 have jt:i<xs.length:=by
  rw [rT];exact (Array.getElem?_eq_some_iff.1 ab).1
 rw [List.getElem?_eq_getElem jt] at I
 have y7:DataW.trod enc P W 0 sp true n f.type ((cs.drop f.offset).take (P.cellsOf f.type))=some ((xs[i]).1,(xs[i]).2):=I
 simp only [DataW.weights,an] at hw
 obtain ⟨x,bA,cH⟩:=aw n (Nat.lt_succ_self n) H enc W sp _ _ _ y7 (fun k ai=>hw k (DE (i:=i) (t:=f.type) (by simp [ab]) (by simp [jt]) k ai))
 have hlen:((cs.drop f.offset).take (P.cellsOf f.type)).length=P.cellsOf f.type:=by
  rw [List.length_take,List.length_drop];omega
 refine ⟨x,by rw [bA,hlen],fun j aG=>?_⟩
 have J:=cH j (by omega)
 have e:((cs.drop f.offset).take (P.cellsOf f.type)).getD j undef=cs.getD (f.offset+j) undef:=by
  simp [List.getD_eq_getElem?_getD,aG]
 rwa [e] at J
end
end Go.bb
end
section
namespace Go.bb
open Go Go.MapKept
open Go.ChangeMaps (setBlock)
section
variable {P:Program} {F:Nat→Prop} {lim:Nat→Nat} {w w':World} {n:Nat} {fr:Fr} {m:ae} {ca:Act} {bn:List Nat}
theorem KX {b:Nat} {l:List (aa×aa)} {os:Nat→List Nat} (h:jB w lim b (.map l) os):∃(es:Array MapEntry) (clock:Nat),w.heap[b]?=some (.map es clock)∧es.size=l.length∧l.length≤140737488355328∧
 (∀i,i<l.length→aF w lim (es.getD i default).key (l.getD i (.aP, .aP)).1 [])∧(∀i,i<l.length→aF w lim (es.getD i default).val (l.getD i (.aP, .aP)).2 [])∧(∀i j,i<j→j<l.length→(es.getD i default).born<(es.getD j default).born)∧(∀i,i<l.length→(es.getD i default).born<clock):=by
 cases h with
 |map es clock l ag aj cF ai ba I J os=>exact ⟨es,clock,ag,aj,cF,ai,ba,I,J⟩
theorem aV.range (st:aV F lim w n fr m ca bn) {b:Nat} {l:List (aa×aa)} (hm:m b=some (.map l)):
 ∃es clock,w.heap[b]?=some (.map es clock)∧m w.heap.size=none∧aV F lim (w.alloc (.mapIter (some b) clock #[] clock)) n fr (m.bX b (some (.iter w.heap.size l []))) ca bn∧cU F w lim (w.alloc (.mapIter (some b) clock #[] clock)) lim:=by
 have au:=st.ph
 have DF:m w.heap.size=none:=by
  cases ag:m w.heap.size with
  |none=>rfl
  |some o=>exact absurd (st.ow (b:=w.heap.size) (by rw [ag];simp)) (Nat.lt_irrefl _)
 have KY:¬F w.heap.size:=fun aM=>absurd (st.ov aM) (Nat.lt_irrefl _)
 have vU:b<w.heap.size:=st.ow (by rw [hm];simp)
 have eh:=fun clock=>cU.alloc st (.mapIter (some b) clock #[] clock) 0
 have eL:(fun b=>if b=w.heap.size then 0 else lim b)=lim:=by funext b;by_cases ag:b=w.heap.size<;>simp [ag,au]
 rw [eL] at eh
 obtain ⟨os,b3,bu,h⟩:=st
 obtain ⟨e4,av,dB⟩:=h.mem b _ hm
 obtain ⟨es,clock,ag,aj,cF,ai,ba,I,J⟩:=KX e4
 refine ⟨es,clock,ag,DF,?_,eh clock⟩
 have qm:(w.alloc (.mapIter (some b) clock #[] clock)).heap.size=w.heap.size+1:=Array.size_push _
 have bU:∀{v x dI},aF w lim v x dI→(∀c∈dI,bu c≠ .none)→aF (w.alloc (.mapIter (some b) clock #[] clock)) lim v x dI:=fun hr aD=>
  hr.fX (fun _=>Nat.le_refl _) (eh clock).cell (fun c ah=>⟨kb w _ c (h.free c (aD c ah)).2.2,rfl⟩)
 have y8:∀c,bu c≠ .none→c≠w.heap.size:=fun c ah e=>by have:=(h.free c ah).2.2;omega
 refine ⟨os,fun k i=>if k=b then (if i=0 then [w.heap.size] else []) else b3 k i,fun c=>if c=w.heap.size then .nD b 0 else bu c,h.size,h.defers,fun t x ao=>⟨(h.dv t x ao).1,bU (h.dv t x ao).2 (fun c ah=>by rw [(h.ea t x ao).2 c ah];simp)⟩,fun k o eS=>?_,fun t x ao=>⟨(h.ea t x ao).1,fun c ah=>?_⟩,fun k o eS i=>?_,⟨h.fs.1,fun c ah=>?_⟩,fun c ah=>?_,fun k eS=>?_⟩
 · by_cases fY:k=b
   · subst fY
     simp only [ae.bX,↓reduceIte,Option.some.injEq] at eS
     subst eS
     refine ⟨.iter es clock w.heap.size l [] ((kb w _ k vU).trans ag) aj cF (fun i ab=>bU (ai i ab) (by simp)) (fun i ab=>bU (ba i ab) (by simp)) I J (mU w _) (by simp) _ (by simp),av,dB⟩
   · simp only [ae.bX,if_neg fY] at eS
     have tO:=h.mem k o eS
     simp only [if_neg fY]
     have KZ:k<w.heap.size:=by
      rcases Nat.lt_or_ge k w.heap.size with ak|ak
      · exact ak
      · rw [(h.fresh k ak).2.2] at eS;cases eS
     refine ⟨tO.1.fX (kb w _ k KZ) (fun _=>Nat.le_refl _) (eh clock).cell (fun i c ah=>⟨kb w _ c (h.free c ?_).2.2,rfl⟩),tO.2⟩
     rw [(h.dn k o eS i).2 c ah];simp
 · have ay:=(h.ea t x ao).2 c ah
   have az:c≠w.heap.size:=y8 c (by rw [ay];simp)
   simp only [if_neg az,ay]
 · by_cases fY:k=b
   · subst fY
     simp only [if_true]
     by_cases ab:i=0
     · subst ab;simp
     · simp [ab]
   · simp only [ae.bX,if_neg fY] at eS
     simp only [if_neg fY]
     refine ⟨(h.dn k o eS i).1,fun c ah=>?_⟩
     have ay:=(h.dn k o eS i).2 c ah
     have az:c≠w.heap.size:=y8 c (by rw [ay];simp)
     simp only [if_neg az,ay]
 · have ay:=h.fs.2 c ah
   have az:c≠w.heap.size:=y8 c (by rw [ay];simp)
   simp only [if_neg az,ay]
 · by_cases az:c=w.heap.size
   · subst az
     refine ⟨KY,?_,by rw [qm];omega⟩
     simp only [ae.bX]
     rw [if_neg (by omega)];exact DF
   · simp only [if_neg az] at ah
     have:=h.free c ah
     refine ⟨this.1,?_,by have:=this.2.2;rw [qm];omega⟩
     simp only [ae.bX]
     rw [if_neg (by intro e;subst e;rw [hm] at this;exact absurd this.2.1 (by simp))];exact this.2.1
 · have b5:w.heap.size+1≤k:=by rw [qm] at eS;exact eS
   have:=h.fresh k (by omega)
   refine ⟨this.1,this.2.1,?_⟩
   simp only [ae.bX]
   rw [if_neg (by omega)];exact this.2.2
variable {ops:Array Oper} {stl:List Nat} {r:List Oper} {K:Fr→ae→Prop} {d:Nat} {ty:TypeId} {pos:String} {af:Array Edge} {gd:Option (Nat×Bool)} {L:List (Nat×e2)}
section
variable {cq dP:Type} {cO:cq→aa} {vf:dP→aa}
end
end
end Go.bb
end
section
namespace Go.bb
open Go Go.Sort
open Go.Proofs (encStr)
section
variable {P:Program} {F:Nat→Prop} {lim:Nat→Nat} {w w':World} {n:Nat} {fr:Fr} {m:ae} {ca:Act} {bn:List Nat}
theorem K0 {v:Value} {s:List UInt8} {os:List Nat} (h:aF w lim v (.str s) os):v=encStr s∧s.length≤140737488355328∧os=[]:=by
 generalize he:aa.str s=x at h
 cases h<;>first|(cases he;done)|skip
 rename_i t an
 have e:s=t.data.toList:=by injection he
 subst e
 exact ⟨rfl,by simpa using an,rfl⟩
theorem K1 {s:List UInt8} (h:s.length≤140737488355328):aF w lim (encStr s) (.str s) []:=by
 have:=aF.str (w:=w) (lim:=lim) ⟨s.toArray⟩ (by simpa [ByteArray.size] using h)
 exact this
theorem aV.freeze (st:aV F lim w n fr m ca []) {b:Nat} {e0:List (List UInt8)} (hm:m b=some (.cells (e0.map cp))):
 aV F (fun c=>if c=b then e0.length else lim c) w n fr (m.bX b none) ca []∧cU F w lim w (fun c=>if c=b then e0.length else lim c)∧
 ∀k cap v,k≤e0.length→k≤140737488355328→aF w lim v (.ms ⟨b,0,none⟩ k cap) []→aF w (fun c=>if c=b then e0.length else lim c) v (.slice false ((e0.take k).map cp)) []:=by
 obtain ⟨os,b3,bu,h⟩:=st
 obtain ⟨e4,av,dB⟩:=h.mem b _ hm
 have eL:∀c,lim c≤if c=b then e0.length else lim c:=fun c=>by split<;>simp_all
 have iO:∀c,bu c≠ .none→c≠b:=fun c ah e=>by subst e;have:=(h.free c ah).2.1;rw [hm] at this;cases this
 have bU:∀{v x dI},aF w lim v x dI→(∀c∈dI,bu c≠ .none)→aF w (fun c=>if c=b then e0.length else lim c) v x dI:=fun hr aD=>hr.fX eL (fun _ _ _=>rfl) (fun c ah=>⟨rfl,if_neg (iO c (aD c ah))⟩)
 have vU:b<w.heap.size:=by
  rcases Nat.lt_or_ge b w.heap.size with ak|ak
  · exact ak
  · rw [(h.fresh b ak).2.2] at hm;cases hm
 refine ⟨⟨os,b3,bu,h.size,h.defers,fun t x ao=>⟨(h.dv t x ao).1,bU (h.dv t x ao).2 (fun c ah=>by rw [(h.ea t x ao).2 c ah];simp)⟩,fun c o ah=>?_,h.ea,fun c o ah i=>?_,h.fs,fun c ah=>⟨(h.free c ah).1,?_,(h.free c ah).2.2⟩,fun c ah=>?_⟩,⟨rfl,rfl,rfl,Nat.le_refl _,fun c ah=>⟨rfl,?_⟩,eL,fun _ _ _=>rfl⟩,fun k cap v ai au ba=>?_⟩
 · have h6:c≠b:=fun e=>by subst e;simp [ae.bX] at ah
   simp only [ae.bX,if_neg h6] at ah
   have:=h.mem c o ah
   refine ⟨this.1.fX rfl eL (fun _ _ _=>rfl) (fun i q aS=>⟨rfl,if_neg (iO q (by rw [(h.dn c o ah i).2 q aS];simp))⟩),by rw [if_neg h6];exact this.2.1,this.2.2⟩
 · have h6:c≠b:=fun e=>by subst e;simp [ae.bX] at ah
   simp only [ae.bX,if_neg h6] at ah
   exact h.dn c o ah i
 · have:=(h.free c ah).2.1
   simp only [ae.bX];split
   · rfl
   · exact this
 · have:=h.fresh c ah
   have h6:c≠b:=by omega
   refine ⟨by rw [if_neg h6];exact this.1,this.2.1,?_⟩
   simp only [ae.bX,if_neg h6];exact this.2.2
 · exact if_neg (fun e=>dB (by rw [←e];exact ah))
 · obtain ⟨rfl,K2,lF⟩:=s7 ba
   rcases Nat.eq_zero_or_pos k with aA|aA
   · subst aA
     exact .empty _ cap lF
   generalize qC:e0.map cp=X at e4
   cases e4 with
   |cells cs e l _ ag aj aw=>
    have b5:cs.size=e0.length:=by rw [aj,←qC];simp
    refine aF.slice b 0 k cap 1 _ (fun i _=>cs.getD i undef) (by simp;omega) K2 lF (by omega) (fun i ab=>?_) (by simp;omega) (fun i j ab aG=>?_) (fun i j ab aG=>?_)
    · have lL:i<e0.length:=by omega
      simp [List.getD_eq_getElem?_getD,ab,lL,cp,aa.cells]
    · obtain rfl:j=0:=by omega
      have K3:i<cs.size:=by omega
      simp [World.cell?,ag,Array.getD,K3]
    · obtain rfl:j=0:=by omega
      have lL:i<e0.length:=by omega
      have I:=aw i (by rw [←qC];simpa using lL)
      rw [←qC] at I
      have az:(e0.map cp).getD i .aP= .str e0[i]:=by simp [List.getD_eq_getElem?_getD,lL,cp]
      rw [az] at I
      have J:=K0 I
      have cB:(((e0.take k).map cp).getD i .aP).cells.getD 0 .aP= .str e0[i]:=by simp [List.getD_eq_getElem?_getD,ab,lL,cp,aa.cells]
      rw [cB,J.1]
      exact K1 J.2.1
end
end Go.bb
end
section
namespace Go.bb
open Go
section
variable {P:Program} {w:World} {lim:Nat→Nat} {v:Value} {x:aa} {os:List Nat} {n:Nat} {fr:Fr} {m:ae}
def tV:aa→Prop
 | .str s=>s.length≤140737488355328
 | .slice _ l=>l.length≤140737488355328
 | .int k i=>k.min≤i∧i≤k.max
 |_=>True
theorem DG (h:aF w lim v x os):tV x:=by
 cases h with
 |int k i bh ab=>exact ⟨bh,ab⟩
 |str s h=>show s.data.toList.length≤_;simp;exact h
 |eR own=>simp [tV]
 |empty a cap hm=>simp [tV]
 |slice b off n cap sz l cv aJ et hm cF=>show l.length≤_;omega
 |own b n cap sz l cv cur e aJ et hm cF=>show l.length≤_;omega
 |_=>trivial
def vW (l:List aa):Prop:=∀i j,i<l.length→j<(l.getD i .aP).cells.length→tV ((l.getD i .aP).cells.getD j .aP)
theorem DH {o:Bool} {l:List aa} (h:aF w lim v (.slice o l) os):vW l:=by
 intro i j ab aG
 cases h with
 |eR own=>simp at ab
 |empty a cap hm=>simp at ab
 |slice b off n cap sz l cv aJ et hm cF b5 eL ah aw=>exact DG (aw i j (by omega) (by rw [←b5 i (by omega)];exact aG))
 |own b n cap sz l cv cur e aJ et hm cF aA ag jK b5 eL ah aw=>exact DG (aw i j (by omega) (by rw [←b5 i (by omega)];exact aG))
theorem DI {α:Type} {f:α→aa} {l:List α} {a:α} (h:vW (l.map f)) (aN:a∈l) (j:Nat) (aG:j<(f a).cells.length):tV ((f a).cells.getD j .aP):=by
 obtain ⟨i,ab,e⟩:=List.getElem_of_mem aN
 have az:(l.map f).getD i .aP=f a:=by simp [List.getD_eq_getElem?_getD,ab,e]
 have:=h i j (by simpa using ab) (by rw [az];exact aG)
 rwa [az] at this
end
end Go.bb
end
section
namespace Go.bb
open Go Go.RowKit Go.WideShapes Go.ChangeShapes
def tW (P:Program) (fuel:Nat) (t:TypeId) {α:Type} (f:α→aa) (ok:α→Prop):Prop:=
 ∀(H:Type) (enc:TypeId×Value→H) (W:World) (sp:Nat→Bool) (cs:List Value) (d:DataW H) (ps:List MemPlace),DataW.trod enc P W 0 sp true fuel t cs=some (d,ps)→(∀n∈d.weights P t,n≤reachBytes)→
  ∃x:α,ok x∧(f x).cells.length=cs.length∧∀i,i<cs.length→aF W (mu W) (cs.getD i undef) ((f x).cells.getD i .aP) []
section
variable {P:Program} {fuel:Nat} {t e:TypeId}
theorem tW.mono {α:Type} {f:α→aa} {ok DJ:α→Prop} (h:tW P fuel t f ok) (ai:∀x,ok x→DJ x):tW P fuel t f DJ:=fun H enc W sp cs d ps I J=>by
 obtain ⟨x,ak,ao⟩:=h H enc W sp cs d ps I J
 exact ⟨x,ai x ak,ao⟩
theorem tW.arg {α:Type} {f:α→aa} {ok:α→Prop} {H:Type} {enc:TypeId×Value→H} {W:World} {sp:Nat→Bool} {cs:List Value} {v:Value} {d:DataW H} {ps:List MemPlace} (aw:∀n,tW P n t f ok) (ba:v.cells.toList=cs) (a7:DataW.Trod enc P W 0 sp true t v d ps) (hw:∀n∈d.weights P t,n≤reachBytes):
 ∃x:α,ok x∧(f x).cells.length=cs.length∧∀i,i<cs.length→aF W (mu W) (cs.getD i undef) ((f x).cells.getD i .aP) []:=by
 obtain ⟨n,aJ⟩:=a7
 rw [ba] at aJ
 exact aw n H enc W sp _ d ps aJ hw
end
end Go.bb
end
section
namespace Go.bb
open Go Go.MapKept
section
variable {P:Program} {F:Nat→Prop} {lim:Nat→Nat} {w w':World} {n:Nat} {fr:Fr} {m:ae} {ca:Act} {bn:List Nat}
variable {ops:Array Oper} {stl:List Nat} {r:List Oper} {K:Fr→ae→Prop} {d:Nat} {ty:TypeId} {pos:String} {af:Array Edge} {gd:Option (Nat×Bool)} {L:List (Nat×e2)}
theorem K4 {cq dP:Type} [DecidableEq cq] {dk:TypeDesc} {cO:cq→aa} {eZ:cq→Value} {vf:dP→aa} (he:nZ dk cO eZ) (st:aV F lim w n fr m ca bn) {b:Nat} {l:List (cq×dP)} (hm:m b=some (.map (l.map fun p=>(cO p.1,vf p.2)))) {t ke ve:TypeId} (an:P.underlying t=some (.map ke ve)) (oQ:P.underlying ke=some dk)
 {z:dP} {z0:aa} (au:gQ P ve=some z0) (y9:z0.plain=vf z) {tP:Value} {k:cq} (tQ:aF w lim tP (cO k) []) (ok:Bool):
 ∃v,aF w lim v (vf ((mz l k).getD z)) []∧(Instr.lookup t (.map (some b)) tP ok).run P w= .ok (if ok then .tuple #[v, .bool (mz l k).isSome] else v) w:=by
 obtain ⟨es,clock,ag,aj,y3,n0,_,_,_,_,_,_⟩:=DA he st hm
 obtain rfl:=he.1 _ _ _ _ _ tQ
 have aM:=y2 he k es.toList l 0 y3
 have ah:(Instr.checkKey es.isEmpty 10000 ke (eZ k)).run P w= .ok () w:=run_checkKey oQ (he.2.1 k) _ 9999
 have lT:=run_findKey (P:=P) (w:=w) oQ aM
 cases ab:lS l k with
 |none=>
  obtain ⟨v0,jX,z2,z3,z4⟩:=vC (P:=P) (w:=w) (lim:=lim) au
  have I:=(y0 ab).1
  refine ⟨v0,by rw [I];have:=z4.plain;rw [y9] at this;exact this,?_⟩
  rw [ab] at lT
  simp only [Option.map_none] at lT
  cases ok<;>simp [Instr.lookup,run_underlying an,run_getObj_map ag,ah,lT,Result.andThen,jX,I]
 |some j=>
  obtain ⟨c,I,J,_,_⟩:=y1 ab
  refine ⟨(es.toList.getD j default).val,?_,?_⟩
  · rw [J]
    have:=n0 j _ I
    rw [Array.getD_eq_getD_getElem?,←Array.getElem?_toList,←List.getD_eq_getElem?_getD] at this
    exact this
  · rw [ab] at lT
    simp only [Option.map_some,Nat.zero_add] at lT
    cases ok<;>simp only [Instr.lookup,Sem.run_bind,run_underlying an,run_getObj_map ag,ah,lT,Result.andThen_ok,Sem.run_pure,J,Option.isSome_some,if_true]<;>rfl
theorem K5 (a8:ha ops fr gd=some true) {cq dP:Type} [DecidableEq cq] {dk:TypeDesc} (cO:cq→aa) {eZ:cq→Value} (vf:dP→aa) (he:nZ dk cO eZ) (l:List (cq×dP)) (k:cq) (z:dP) {t ke ve:TypeId} {x y:Operand} {b:Nat} {v:aa} (an:P.underlying t=some (.map ke ve)) (oQ:P.underlying ke=some dk) {z0:aa} (au:gQ P ve=some z0) (y9:z0.plain=vf z)
 (ao:bR (bc fr) x= .map b) (aE:bR (bc fr) y=cO k) (hm:m.a1 L b=some (.map (l.map fun p=>(cO p.1,vf p.2)))) (ba:vf ((mz l k).getD z)=v) (h:hV P ops stl r K (fr.put d v) (m.a1 L)):
 hV P ops stl (⟨some d, .lookup t x y false,ty,pos,af,gd⟩::r) K fr (m.a1 L):=by
 subst ba
 simp only [hV,jE,a8,ec,bq,ao]
 intro n ai aJ F lim w ca st
 have fx:=jO ai
 have I:=gx st (fx x (by simp [Op.operands]))
 have J:=gx st (fx y (by simp [Op.operands]))
 rw [ao] at I
 rw [aE] at J
 have ay:ca.eval x= .map (some b):=by generalize ca.eval x=q at I;cases I;rfl
 obtain ⟨v,h4,iQ⟩:=K4 (P:=P) he st hm an oQ au y9 J false
 exact ⟨.value v,v,w,lim,_,_,by simp only [execOp,ay,Sem.run_bind,iQ];rfl, .inl rfl,st.dX (d:=some d) (fun t an=>jr ai an) h4, .refl _ _ _,h⟩
end
end Go.bb
end
section
namespace Go.bb
open Go
section
variable {P:Program} {n:Nat} {fr:Fr} {m:ae} {ops:Array Oper} {fuel:Nat} {listed:Array Bool} {K:Fr→ae→Prop}
theorem DK {Q gP:Exit→Act→World→Prop} (h:∀e a w,Q e a w→gP e a w) (av:LetsOut Q→LetsOut gP) {md:Region.Mode}:∀(fuel:Nat) (listed:Array Bool) (a:Act) (w:World),wpAny P md ops Q fuel listed a w→wpAny P md ops gP fuel listed a w
 |0,_,_,_,aL=>⟨aL.1,h _ _ _ aL.2⟩
 |fuel+1,listed,a,w,aL=>by
  refine ⟨fun aA=>h _ _ _ (aL.1 aA),fun i ab=>?_⟩
  have I:=wpOp_mono (fun b9 w' cm=>DK h av fuel _ b9 w' cm) (aL.2 i ab)
  unfold wpOp at I ⊢
  cases aD:ops[i]? with
  |none=>rw [aD] at I;exact I
  |some o=>
   rw [aD] at I
   simp only at I ⊢
   split
   · next hw=>
     rw [if_pos hw] at I
     refine I.imp (fun J=>?_) fun J=>⟨J.1,av J.2⟩
     unfold Oper.wp at J ⊢
     generalize (execOp a.eval o).run P w=r at J ⊢
     cases r with
     |ok K6 w'=>
      cases K6<;>simp only [Oper.upon] at J ⊢<;>
       first
        |exact J
        |exact Calls.mono J (fun e hF he=>by cases e<;>first|exact he|exact h _ _ _ he|exact av he)
     |halt x w'=>cases x<;>simp only [Oper.upon] at J ⊢<;>first|exact J|exact h _ _ _ J|exact av J
   · next hw=>
     rw [if_neg hw] at I
     exact I
def qD (ops:Array Oper) (listed:Array Bool) (i:Nat) (o:Oper):Bool:=
 o.guard.isNone&&(Region.ready .any ops listed).contains i&&
 (ops.toList.all fun q=>match q.op with| .select _ _=>false|_=>true)&&
 (List.range ops.size).all fun j=>match ops[j]? with
   |some q=>j==i||listed.getD j true||q.after.toList.any (fun e=>Region.binds .any e&&e.on==i)||o.apart ops q
   |none=>true
theorem en.za {i:Nat} {o:Oper} {d:Nat} {x:aa} (ab:ops[i]?=some o) (qE:o.dst=some d) (hG:d<n) (ag:qD ops listed i o=true)
 (ba:∀F lim w ca,aV F lim w n fr m ca []→∃v,(∀w',(execOp ca.eval o).run P w'= .ok (.value v) w')∧aF w lim v x [])
 (h:en P n ops fuel (listed.setIfInBounds i true) K (fr.put d x) m):en P n ops (fuel+1) listed K fr m:=by
 intro F lim w ca Q st aS
 obtain ⟨v,K7,K8⟩:=ba F lim w ca st
 simp only [qD,Bool.and_eq_true,List.all_eq_true,List.contains_iff_mem] at ag
 obtain ⟨⟨⟨a8,aw⟩,aj⟩,aN⟩:=ag
 let gP:Exit→Act→World→Prop:=fun e a w=>match e with
  | .normal=>Q .normal a w
  |e=>∀b w',Q e b w'
 have I:wpAny P .any ops gP fuel (listed.setIfInBounds i true) (ca.put (some d) v) w:=h F lim w (ca.put (some d) v) gP (show aV F lim w n (bb.dX fr (some d) x) m (ca.put (some d) v) [] from st.dX (fun t an=>by cases an;exact hG) K8) aS
 have J:wpAny P .any ops gP (fuel+1) listed ca w:=by
  refine wpAny_first (v:=v) ab (fun j q cs b aG ah=>?_) (fun c a w aL=>aL) fuel listed ca w (fun j q aG oM tL ek=>?_) aw (.inl ⟨?_,K7⟩) (by rw [qE];exact I)
  · have:=aj q (by rw [Array.mem_toList_iff];exact Array.mem_of_getElem? aG)
    rw [ah] at this;cases this
  · have zb:j<ops.size:=(Array.getElem?_eq_some_iff.1 aG).1
    have:=aN j (List.mem_range.2 zb)
    rw [aG] at this
    simp only [Bool.or_eq_true,beq_iff_eq,List.any_eq_true,Bool.and_eq_true] at this
    rcases this with ((ak|ak)|⟨e,he,ak,aH⟩)|ak
    · exact absurd ak oM
    · rw [tL] at ak;cases ak
    · exact absurd aH (ek e (by simpa using he) ak)
    · exact ak
  · unfold Region.wanted
    cases kD:o.guard with
    |none=>rfl
    |some g=>rw [kD] at a8;cases a8
 have hm:∀e a w,gP e a w→Q e a w:=fun e a w aL=>by cases e<;>first|exact aL|exact aL a w
 exact DK hm (fun ⟨a,w,aL⟩=>⟨a,w,hm _ _ _ aL⟩) _ _ _ _ J
theorem en.K9 {i:Nat} {o:Oper} {y:Operand} {d:Nat} {x:aa} (ab:ops[i]?=some o) (aD:o.op= .move y) (qE:o.dst=some d) (hG:d<n) (aE:kc y=true) (ag:qD ops listed i o=true) (ao:bR (bc fr) y=x)
 (h:en P n ops fuel (listed.setIfInBounds i true) K (fr.put d x) m):en P n ops (fuel+1) listed K fr m:=by
 refine en.za ab qE hG ag (fun F lim w ca st=>?_) h
 subst ao
 exact ⟨ca.eval y,fun w'=>by simp [execOp,aD],gx st aE⟩
theorem en.La {i:Nat} {o:Oper} {y:Operand} {d:Nat} {a:Addr} (ab:ops[i]?=some o) (aD:o.op= .nilCheck y) (qE:o.dst=some d) (hG:d<n) (aE:kc y=true) (ag:qD ops listed i o=true) (ao:bR (bc fr) y= .ptr a)
 (h:en P n ops fuel (listed.setIfInBounds i true) K (fr.put d (.ptr a)) m):en P n ops (fuel+1) listed K fr m:=by
 refine en.za ab qE hG ag (fun F lim w ca st=>?_) h
 have aw:=gx st aE
 rw [ao] at aw
 have he:=pk aw
 exact ⟨.pointer (some a),fun w'=>by simp [execOp,aD,he], .ptr a⟩
theorem en.Lb {i:Nat} {o:Oper} {s:TypeId} {y:Operand} {f d:Nat} {a b9:Addr} {side:Prop} (ab:ops[i]?=some o) (aD:o.op= .fieldAddr s y f) (qE:o.dst=some d) (hG:d<n) (aE:kc y=true) (ag:qD ops listed i o=true) (ao:bR (bc fr) y= .ptr a)
 (aS:bq P m (bR (bc fr)) (.fieldAddr s y f)=some (side, .ptr b9)) (aj:side)
 (h:en P n ops fuel (listed.setIfInBounds i true) K (fr.put d (.ptr b9)) m):en P n ops (fuel+1) listed K fr m:=by
 refine en.za ab qE hG ag (fun F lim w ca st=>?_) h
 have aw:=gx st aE
 rw [ao] at aw
 have he:=pk aw
 refine ⟨.pointer (some b9),fun w'=>?_, .ptr b9⟩
 obtain ⟨v,I,J⟩:=Cb (w:=w') (lim:=lim) (ca:=ca) aD aS aj (by rw [ao,he];exact .ptr a)
 rw [pk J] at I
 exact I
end
abbrev Sm (b:Nat):aa:= .ptr ⟨b,0,none⟩
abbrev Sn (n:Int):aa:= .int .i64 n
abbrev Sp (l:List aa):aa:= .slice false l
abbrev Sq (l:List aa):aa:= .slice true l
abbrev Sr (m:ae) (L:List (Nat×e2)):ae:=ae.a1 m L
theorem hb:True:=trivial
abbrev Ss:=@KC
abbrev St:=@Dk
abbrev Su:=@KK
abbrev Sv:=@KL
abbrev Sw:=@oO
abbrev Sx:=@Cf
abbrev Sy:=@Cg
abbrev Sz:=@KJ
abbrev SA:=@congrArg
theorem SB {α:Type} {p:α→Prop}:∀x∈([]:List α),p x:=fun _ h=>by cases h
theorem SC {a b:Nat} (h:Nat.ble a b=true):a≤b:=Nat.le_of_ble_eq_true h
end Go.bb
end
