/-
  The abstract layer, part 20: a region whose order is open but for its end: what only reads in any order; then, in the text's order, what makes and writes.
-/
import Derived.Test.YtnahenbiipdlkaaGreatDoorWwS
import Derived.ProofKit
import Derived.SizedLaws
import Derived.MapKept
import Derived.WideMake
import Derived.Maps.RangeRun
import Derived.Shelf.Sort.Plain
section
namespace Go.bg
open Go
section
variable {P:Program} {n:Nat} {fr:Fr} {m:ae}
def qq (ops:Array Oper) (i:Nat):List Nat:=
 match ops[i]? with
 |some o=>(o.after.toList.filter (Region.binds .any)).map (·.on)
 |none=>[]
def closure (ops:Array Oper):Nat→List Nat→List Nat
 |0,S=>S
 |j+1,S=>closure ops j (if S.contains j then qq ops j++S else S)
theorem Hn {ops:Array Oper} {p:Nat→Prop} (aQ:∀j,p j→∀e∈qq ops j,p e):∀(k:Nat) (S:List Nat),(∀j∈S,p j)→∀j∈closure ops k S,p j:=by
 intro k
 induction k with
 |zero=>intro S h;exact h
 |succ k aO=>
  intro S h
  simp only [closure]
  refine aO _ ?_
  split
  · next ao=>
    intro j aD
    rcases List.mem_append.1 aD with aD|aD
    · exact aQ k (h k (by simpa using ao)) j aD
    · exact h j aD
  · exact h
theorem xt {ops:Array Oper} {i j:Nat} {o:Oper} (aL:ops[i]?=some o):j∈qq ops i↔∃e∈o.after,Region.binds .any e=true∧e.on=j:=by
 simp [qq,aL,and_assoc]
def sO (ops:Array Oper) (p:Nat) (dJ:List (Nat×Nat)):Bool:=
 decide (p≤ops.size)&&
 ((List.range ops.size).all fun i=>(qq ops i).all fun e=>decide (e<i))&&
 ((List.range ops.size).all fun i=>decide (i<p)||(List.range i).all fun j=>(closure ops i (qq ops i)).contains j)&&
 ((List.range p).all fun i=>
   match ops[i]? with
   |some o=>
    o.dst.isSome&&
    (List.range p).all fun j=>
      match ops[j]? with
      |some q=>
       (decide (i=j)||!(o.dst==q.dst))&&
       (match q.dst with
       |some d=>!((slotsOf ops o).contains d)||(if j<i then zy o j else if i<j then zy q i else true)
       |none=>true)
      |none=>true
   |none=>true)&&
 dJ.all fun (d,s)=>
  (List.range p).any (fun j=>match ops[j]? with|some o=>o.dst==some d&&o.guard.isNone&&(match o.op with| .move (.tmp t)=>t==s|_=>false)|none=>false)&&
  (List.range p).all fun j=>match ops[j]? with|some o=>!(o.dst==some s)|none=>true
structure CG (ops:Array Oper) (p:Nat):Prop where
 le:p≤ops.size
 back:∀(i:Nat) (o:Oper) (e:Edge),ops[i]?=some o→e∈o.after→Region.binds .any e=true→e.on<i
 tail:∀(i:Nat),p≤i→i<ops.size→∀j,j<i→j∈closure ops i (qq ops i)
 dst:∀(i:Nat) (o:Oper),i<p→ops[i]?=some o→∃d,o.dst=some d
 apart:∀(i j:Nat) (o q:Oper),i<p→j<p→ops[i]?=some o→ops[j]?=some q→o.dst=q.dst→i=j
 looks:∀(i j:Nat) (o q:Oper) (d:Nat),i<p→j<p→ops[i]?=some o→ops[j]?=some q→q.dst=some d→d∈slotsOf ops o→(j<i→∃e∈o.after,e.on=j∧Region.binds .any e=true)∧(i<j→∃e∈q.after,e.on=i∧Region.binds .any e=true)
theorem OP {ops:Array Oper} {p:Nat} {dJ:List (Nat×Nat)} (h:sO ops p dJ=true):CG ops p:=by
 unfold sO at h
 rw [Bool.and_eq_true,Bool.and_eq_true,Bool.and_eq_true,Bool.and_eq_true] at h
 obtain ⟨⟨⟨⟨J,aa⟩,aj⟩,aG⟩,_⟩:=h
 have cl:∀{i:Nat} {o:Oper},ops[i]?=some o→i<ops.size:=fun ad=>(Array.getElem?_eq_some_iff.1 ad).1
 simp only [List.all_eq_true,List.mem_range,decide_eq_true_eq,Bool.or_eq_true] at J aa aj aG
 refine ⟨J,fun i o e ad he ah=>?_,fun i aQ ad j aD=>?_,fun i o aQ ad=>?_,fun i j o q jM kO ad aD aY=>?_,fun i j o q d jM kO ad aD aU aY=>?_⟩
 · exact aa i (cl ad) e.on ((xt ad).2 ⟨e,he,ah,rfl⟩)
 · rcases aj i ad with h|h
   · omega
   · have:=h j aD
     simpa using this
 · have:=aG i aQ
   simp only [ad,Bool.and_eq_true] at this
   exact Option.isSome_iff_exists.1 this.1
 · have:=aG i jM
   simp only [ad,Bool.and_eq_true,List.all_eq_true,List.mem_range] at this
   have:=this.2 j kO
   simp only [aD,Bool.and_eq_true,Bool.or_eq_true,decide_eq_true_eq] at this
   rcases this.1 with h|h
   · exact h
   · rw [aY] at h;simp at h
 · have:=aG i jM
   simp only [ad,Bool.and_eq_true,List.all_eq_true,List.mem_range] at this
   have:=this.2 j kO
   simp only [aD,aU,Bool.and_eq_true,Bool.or_eq_true] at this
   have:=this.2
   have ao:(slotsOf ops o).contains d=true:=by simpa using aY
   rw [ao] at this
   simp only [Bool.not_true,Bool.false_eq_true,false_or] at this
   refine ⟨fun qs=>?_,fun oV=>?_⟩
   · rw [if_pos qs] at this;exact Hg this
   · rw [if_neg (by omega),if_pos oV] at this;exact Hg this
theorem OQ {ops:Array Oper} {p:Nat} (D:CG ops p) {T:Nat→Fr} {val:Nat→ab} (aJ:T 0=fr) (aw:∀(i:Nat) (o:Oper),i<p→ops[i]?=some o→T (i+1)=fh (T i) o.dst (val i)):
 ∀i,i≤p→∀t,(∀(j:Nat) (o:Oper),j<i→ops[j]?=some o→o.dst=some t→br (T i) t=val j)∧((∀(j:Nat) (o:Oper),j<i→ops[j]?=some o→o.dst≠some t)→br (T i) t=br fr t):=by
 intro i
 induction i with
 |zero=>intro _ t;exact ⟨fun j o aD=>absurd aD (Nat.not_lt_zero _),fun _=>by rw [aJ]⟩
 |succ i aO=>
  intro ad t
  have jM:i<p:=ad
  have cl:i<ops.size:=Nat.lt_of_lt_of_le jM D.le
  obtain ⟨OR,OS⟩:=aO (by omega) t
  have aL:ops[i]?=some ops[i]:=Array.getElem?_eq_getElem cl
  obtain ⟨d,aY⟩:=D.dst i _ jM aL
  have aP:=aw i _ jM aL
  rw [aY] at aP
  simp only [fh] at aP
  rw [aP,Hh]
  refine ⟨fun j o aD mv zC=>?_,fun qh=>?_⟩
  · by_cases e:d=t
    · subst e
      have:j=i:=D.apart j i o _ (by omega) jM mv aL (by rw [zC,aY])
      subst this
      simp
    · rw [if_neg e]
      refine OR j o ?_ mv zC
      rcases Nat.lt_succ_iff_lt_or_eq.1 aD with h|h
      · exact h
      · subst h
        rw [aL] at mv
        cases mv
        rw [aY] at zC
        exact (e (by simpa using zC)).elim
  · have e:¬d=t:=fun e=>qh i _ (Nat.lt_succ_self i) aL (by rw [aY,e])
    rw [if_neg e]
    exact OS fun j o aD mv=>qh j o (by omega) mv
theorem OT {ops:Array Oper} {p:Nat} (D:CG ops p) {Q:Exit→Act→World→Prop}:∀(fuel k:Nat) (listed:Array Bool) (ca:Act) (w:World),p≤k→k≤ops.size→ops.size- k≤fuel→listed.size=ops.size→
 (∀j,j<ops.size→(listed.getD j false=true↔j<k))→wpList P ops Q (ops.toList.drop k) ca w→wpAny P .any ops Q fuel listed ca w:=by
 intro fuel
 have OU:∀(k:Nat) (listed:Array Bool),k<ops.size→listed.size=ops.size→(∀j,j<ops.size→(listed.getD j false=true↔j<k))→k∈Region.ready .any ops listed:=fun k listed al kP av=>by
  rw [mem_ready]
  have aL:ops[k]?=some ops[k]:=Array.getElem?_eq_getElem al
  refine ⟨?_,_,aL,fun e he ah=>?_⟩
  · have:listed.getD k false≠true:=fun h=>absurd ((av k al).1 h) (Nat.lt_irrefl _)
    simp only [Array.getD_eq_getD_getElem?,Array.getElem?_eq_getElem (show k<listed.size by omega),Option.getD_some] at this ⊢
    simpa using this
  · have:=D.back k _ e aL he ah
    exact (av e.on (by omega)).2 this
 have nil:∀(k:Nat) (listed:Array Bool) (ca:Act) (w:World),k≤ops.size→listed.size=ops.size→(∀j,j<ops.size→(listed.getD j false=true↔j<k))→wpList P ops Q (ops.toList.drop k) ca w→Region.ready .any ops listed=[]→Q .normal ca w:=fun k listed ca w al kP av h aA=>by
  by_cases e:k=ops.size
  · subst e
    rw [List.drop_of_length_le (by simp)] at h
    exact h
  · have:=OU k listed (by omega) kP av
    rw [aA] at this;cases this
 induction fuel with
 |zero=>
  intro k listed ca w OV al aZ kP av h
  have e:k=ops.size:=by omega
  have aA:Region.ready .any ops listed=[]:=by
   cases aA:Region.ready .any ops listed with
   |nil=>rfl
   |cons j rs=>
    have aD:j∈Region.ready .any ops listed:=by rw [aA];simp
    rw [mem_ready] at aD
    obtain ⟨J,o,aL,_⟩:=aD
    have pF:j<ops.size:=(Array.getElem?_eq_some_iff.1 aL).1
    have:=(av j pF).2 (by omega)
    simp only [Array.getD_eq_getD_getElem?,Array.getElem?_eq_getElem (show j<listed.size by omega),Option.getD_some] at J this
    rw [J] at this;cases this
  exact ⟨aA,nil k listed ca w al kP av h aA⟩
 |succ fuel aO=>
  intro k listed ca w OV al aZ kP av h
  refine ⟨nil k listed ca w al kP av h,fun i ad=>?_⟩
  have fo:=ad
  rw [mem_ready] at fo
  obtain ⟨mq,o,aL,xu⟩:=fo
  have lN:i<ops.size:=(Array.getElem?_eq_some_iff.1 aL).1
  have WB:k≤i:=by
   rcases Nat.lt_or_ge i k with cl|zi
   · have:=(av i lN).2 cl
     simp only [Array.getD_eq_getD_getElem?,Array.getElem?_eq_getElem (show i<listed.size by omega),Option.getD_some] at mq this
     rw [mq] at this;cases this
   · exact zi
  have CH:i=k:=by
   rcases Nat.lt_or_ge k i with cl|zi
   · have kH:=Hn (ops:=ops) (p:=fun j=>j<k) (fun j aD e he=>by
      have pF:j<ops.size:=by omega
      have mv:ops[j]?=some ops[j]:=Array.getElem?_eq_getElem pF
      obtain ⟨qt,J,aa,rfl⟩:=(xt mv).1 he
      have:=D.back j _ qt mv J aa
      omega) i (qq ops i) (fun j aD=>by
      obtain ⟨qt,J,aa,rfl⟩:=(xt aL).1 aD
      have aj:=xu qt J aa
      have:=D.back i _ qt aL J aa
      exact (av qt.on (by omega)).1 aj)
     have:=kH k (D.tail i (by omega) lN k cl)
     omega
   · omega
  subst CH
  have OW:ops.toList.drop i=o::ops.toList.drop (i+1):=by
   have:i<ops.toList.length:=by simpa using lN
   rw [List.drop_eq_getElem_cons this]
   congr 1
   rw [Array.getElem?_eq_getElem lN] at aL
   simpa using aL
  rw [OW] at h
  have key:∀a w,wpList P ops Q (ops.toList.drop (i+1)) a w→wpAny P .any ops Q fuel (listed.setIfInBounds i true) a w:=fun a w h=>aO (i+1) _ a w (by omega) (by omega) (by omega) (by simp [kP]) (fun j aD=>by
   by_cases e:i=j
   · subst e;simp [kP,aD]
   · rw [getD_set_ne false e,av j aD];omega) h
  show wpOp P ops _ i _ ca w
  unfold wpOp
  rw [aL]
  unfold wpList at h
  show if Region.wanted o (yielded ops ca.tmps) then _ else _
  split at h
  · next hw=>
    rw [if_pos hw]
    rcases h with h|h
    · exact .inl (Oper.wp_mono key h)
    · exact .inr h
  · next hw=>
    rw [if_neg hw]
    exact key _ _ h
def Fr.alias (fr:Fr):List (Nat×Nat)→Fr
 |[]=>fr
 |(d,s)::r=>Fr.alias ((fr.put s (br fr s).plain).put d (br fr s)) r
theorem bd.alias {F:Nat→Prop} {lim:Nat→Nat} {w:World} {ca:Act}:∀(dJ:List (Nat×Nat)) {fr:Fr},bd F lim w n fr m ca []→(∀x∈dJ,x.1<n∧x.2<n∧ca.tmps.getD x.1 undef=ca.tmps.getD x.2 undef)→bd F lim w n (fr.alias dJ) m ca []:=by
 intro dJ
 induction dJ with
 |nil=>intro fr h _;exact h
 |cons a dJ aO=>
  obtain ⟨d,s⟩:=a
  intro fr h fx
  obtain ⟨J,aa,aj⟩:=fx (d,s) (by simp)
  simp only at J aa aj
  refine aO ?_ fun x an=>fx x (by simp [an])
  obtain ⟨os,gv,fq⟩:=h.uK s aa
  have iJ:=gv.Gb J fq
  have cF:ca.tmps.size=n:=by obtain ⟨_,_,_,h⟩:=h;exact h.size
  have e:ca.put (some d) (ca.tmps.getD s undef)=ca:=by
   rw [←aj]
   obtain ⟨tmps,defers⟩:=ca
   have bR:tmps.setIfInBounds d (tmps.getD d undef)=tmps:=by
    apply Array.ext (by simp)
    intro i ad fo
    by_cases e:d=i
    · subst e;simp [Array.getD,fo]
    · rw [Array.getElem_setIfInBounds_ne fo e]
   simp only [Act.put,bR]
  rw [e,zp] at iJ
  exact iJ
end
end Go.bg
end
section
namespace Go.bg
open Go
section
variable {P:Program} {n:Nat} {fr:Fr} {m:ae}
theorem OX {ops:Array Oper} {p:Nat} {dJ:List (Nat×Nat)} (h:sO ops p dJ=true):∀x∈dJ,(∃j o,j<p∧ops[j]?=some o∧o.dst=some x.1∧o.guard=none∧o.op= .move (.tmp x.2))∧∀j o,j<p→ops[j]?=some o→o.dst≠some x.2:=by
 unfold sO at h
 rw [Bool.and_eq_true] at h
 obtain ⟨_,h⟩:=h
 intro ⟨d,s⟩ an
 have:=List.all_eq_true.1 h _ an
 simp only [Bool.and_eq_true,List.any_eq_true,List.all_eq_true,List.mem_range] at this
 obtain ⟨⟨j,aD,J⟩,aa⟩:=this
 refine ⟨?_,fun j o aD aL=>?_⟩
 · split at J
   · next o aL=>
     simp only [Bool.and_eq_true,beq_iff_eq,Option.isNone_iff_eq_none] at J
     obtain ⟨⟨aj,aG⟩,aR⟩:=J
     split at aR
     · next t cM=>
       simp only [beq_iff_eq] at aR
       subst aR
       exact ⟨j,o,aD,aL,aj,aG,cM⟩
     · cases aR
   · cases J
 · have:=aa j aD
   simp only [aL] at this
   simpa using this
theorem Ho (ca:Act) (d t:Nat) (v:Value) (aY:d<ca.tmps.size):(ca.put (some d) v).tmps.getD t undef=if d=t then v else ca.tmps.getD t undef:=by
 simp only [Act.put,Array.getD_eq_getD_getElem?,Array.getElem?_setIfInBounds]
 split
 · next e=>subst e;simp [aY]
 · rfl
set_option maxHeartbeats 1000000 in
theorem OY {id:Nat} {ops:Array Oper} {Q:Exit→Fr→ae→Prop} (hm:P.follows .mixedOrders=true) (p:Nat) (dJ:List (Nat×Nat)) (cs:List ab) (ks:List Nat) (al:kM n ops ks=true) (aY:sO ops p dJ=true)
 (h:ns P ops m cs (ops.toList.take p) fr (fun bf=>b6 P n ops (ops.toList.drop p) (fun fr m=>Q .normal (fr.keep ks) m) (bf.alias dJ) m)):dS P n (.region id ops true) Q fr m:=by
 intro F lim w ca st
 have D:=OP aY
 have A:=OX aY
 simp only [kM,Bool.and_eq_true,List.all_eq_true] at al
 obtain ⟨T,c,val,Hp,Hq,xv⟩:=OF _ _ _ _ h
 have hlen:(ops.toList.take p).length=p:=by simp [D.le]
 rw [hlen] at Hq
 replace xv:∀i o,i<p→ops[i]?=some o→(∃side,pv P ops m (c i) (br (T i)) o=some (side,val i)∧side)∧T (i+1)=fh (T i) o.dst (val i):=fun i o ad aL=>xv i o (by rw [List.getElem?_take_of_lt ad];simpa using aL)
 have Hr:=OQ D Hp (fun i o ad aL=>(xv i o ad aL).2)
 have cl:∀{i:Nat} {o:Oper},ops[i]?=some o→i<ops.size:=fun ad=>(Array.getElem?_eq_some_iff.1 ad).1
 have dc:∀{i:Nat} {o:Oper},ops[i]?=some o→fp n o=true∧gS n o=true:=fun aL=>al.1 _ (by rw [Array.mem_toList_iff];exact Array.mem_of_getElem? aL)
 have OZ:∀i,i≤p→∀t x,(T i).get t=some x→t<n:=by
  intro i
  induction i with
  |zero=>
   intro _ t x an
   rw [Hp] at an
   obtain ⟨_,_,_,st⟩:=st
   exact (st.eL t x an).1
  |succ i aO=>
   intro ad t x an
   have O0:i<ops.size:=Nat.lt_of_lt_of_le ad D.le
   have aL:ops[i]?=some ops[i]:=Array.getElem?_eq_getElem O0
   obtain ⟨d,n6⟩:=D.dst i _ ad aL
   rw [(xv i _ ad aL).2,n6] at an
   simp only [fh,Fr.p6] at an
   split at an
   · next e=>subst e;exact j4 (dc aL).1 n6
   · exact aO (by omega) t x an
 refine wp_region_any hm ?_
 have key:∀fuel (listed:Array Bool) bf lim' w' eM,listed.size=ops.size→(∀j,listed.getD j false=true→j<p)→
  (∀t,(∀(j:Nat) (o:Oper),ops[j]?=some o→listed.getD j false=true→o.dst=some t→br bf t=val j)∧((∀(j:Nat) (o:Oper),ops[j]?=some o→listed.getD j false=true→o.dst≠some t)→br bf t=br fr t))→
  (∀(j:Nat) (o:Oper) (e:Edge),ops[j]?=some o→listed.getD j false=true→e∈o.after→Region.binds .any e=true→listed.getD e.on false=true)→
  (∀t,(∀j o,j<p→ops[j]?=some o→o.dst≠some t)→eM.tmps.getD t undef=ca.tmps.getD t undef)→
  (∀j o d s,ops[j]?=some o→listed.getD j false=true→o.dst=some d→o.guard=none→o.op= .move (.tmp s)→(∀j o,j<p→ops[j]?=some o→o.dst≠some s)→eM.tmps.getD d undef=ca.tmps.getD s undef)→
  ((List.range p).filter fun j=>!listed.getD j false).length+(ops.size- p)≤fuel→
  bd F lim' w' n bf m eM []→dW F w lim w' lim'→wpAny P .any ops (oM F lim w n Q) fuel listed eM w':=by
  intro fuel
  have fin:∀fuel (listed:Array Bool) bf lim' w' eM,listed.size=ops.size→(∀j,listed.getD j false=true→j<p)→
   (∀t,(∀(j:Nat) (o:Oper),ops[j]?=some o→listed.getD j false=true→o.dst=some t→br bf t=val j)∧((∀(j:Nat) (o:Oper),ops[j]?=some o→listed.getD j false=true→o.dst≠some t)→br bf t=br fr t))→
   (∀t,(∀j o,j<p→ops[j]?=some o→o.dst≠some t)→eM.tmps.getD t undef=ca.tmps.getD t undef)→
   (∀j o d s,ops[j]?=some o→listed.getD j false=true→o.dst=some d→o.guard=none→o.op= .move (.tmp s)→(∀j o,j<p→ops[j]?=some o→o.dst≠some s)→eM.tmps.getD d undef=ca.tmps.getD s undef)→
   (∀j,j<p→listed.getD j false=true)→ops.size- p≤fuel→bd F lim' w' n bf m eM []→dW F w lim w' lim'→wpAny P .any ops (oM F lim w n Q) fuel listed eM w':=by
   intro fuel listed bf lim' w' eM kP n7 gu kL n5 kH aZ s1 fg
   have nq:∀t,br bf t=br (T p) t:=fun t=>by
    obtain ⟨ct,a2⟩:=gu t
    obtain ⟨hW,j1⟩:=Hr p (Nat.le_refl _) t
    by_cases hex:∃(j:Nat) (o:Oper),j<p∧ops[j]?=some o∧o.dst=some t
    · obtain ⟨j,o,kO,aD,aL⟩:=hex
      rw [ct j o aD (kH j kO) aL,hW j o kO aD aL]
    · rw [a2 fun j o aD av aL=>hex ⟨j,o,n7 j av,aD,aL⟩,j1 fun j o kO aD aL=>hex ⟨j,o,kO,aD,aL⟩]
   have s2:bd F lim' w' n (T p) m eM []:=s1.sub fun t x an=>by
    have aA:=nq t
    have zs:br (T p) t=x:=by simp [br,an]
    rw [zs] at aA
    cases bc:bf.get t with
    |some y=>
     simp only [br,bc,Option.getD_some] at aA
     subst aA;exact .inl rfl
    |none=>
     simp only [br,bc,Option.getD_none] at aA
     exact .inr ⟨aA.symm,OZ p (Nat.le_refl _) t x an⟩
   have j5:=bd.alias dJ s2 fun x an=>by
    obtain ⟨⟨j,o,kO,aD,J,aa,aj⟩,aG⟩:=A x an
    refine ⟨j4 (dc aD).1 J,?_,?_⟩
    · exact zr (dc aD).2 (y:= .tmp x.2) (by rw [aj];simp [Op.operands]) _ rfl
    · rw [n5 j o x.1 x.2 aD (kH j kO) J aa aj aG,kL x.2 aG]
   have WC:∀o∈ops.toList.drop p,fp n o=true∧gS n o=true:=fun o aL=>al.1 o (List.mem_of_mem_drop aL)
   have aP:=Hq F lim' w' eM (oM F lim w n Q) j5 fun jW iH rm oN uD U O1 ft=>
    ⟨jW,_,oN,U,O1.keep (fun t aq=>by simpa using al.2 t aq),fg.trans ft⟩
   exact OT D fuel p listed eM w' (Nat.le_refl _) D.le aZ kP (fun j aD=>⟨fun h=>n7 j h,fun h=>kH j h⟩) aP
  have least:∀(listed:Array Bool),listed.size=ops.size→(¬∀j,j<p→listed.getD j false=true)→Region.ready .any ops listed≠[]:=fun listed kP aM aA=>aM fun j=>by
   induction j using Nat.strongRecOn with
   |_ j aO=>
    intro aD
    cases av:listed.getD j false with
    |true=>rfl
    |false=>
     have pF:j<ops.size:=Nat.lt_of_lt_of_le aD D.le
     have aL:ops[j]?=some ops[j]:=Array.getElem?_eq_getElem pF
     have:j∈Region.ready .any ops listed:=by
      rw [mem_ready]
      refine ⟨?_,_,aL,fun e he ah=>aO e.on (D.back j _ e aL he ah) (Nat.lt_trans (D.back j _ e aL he ah) aD)⟩
      simp only [Array.getD_eq_getD_getElem?,Array.getElem?_eq_getElem (show j<listed.size by omega),Option.getD_some] at av ⊢
      exact av
     rw [aA] at this;cases this
  induction fuel with
  |zero=>
   intro listed bf lim' w' eM kP n7 gu lh kL n5 CI s1 fg
   refine fin 0 listed bf lim' w' eM kP n7 gu kL n5 (fun j aD=>?_) (by omega) s1 fg
   cases av:listed.getD j false with
   |true=>rfl
   |false=>
    have:j∈(List.range p).filter fun j=>!listed.getD j false:=List.mem_filter.2 ⟨List.mem_range.2 aD,by rw [av];rfl⟩
    have:=List.length_pos_of_mem this
    omega
  |succ fuel aO=>
   intro listed bf lim' w' eM kP n7 gu lh kL n5 CI s1 fg
   by_cases kH:∀j,j<p→listed.getD j false=true
   · exact fin (fuel+1) listed bf lim' w' eM kP n7 gu kL n5 kH (by omega) s1 fg
   refine ⟨fun aA=>(least listed kP kH aA).elim,fun i ad=>?_⟩
   rw [mem_ready] at ad
   obtain ⟨mq,o,aL,xu⟩:=ad
   have lN:=cl aL
   have jM:i<p:=by
    rcases Nat.lt_or_ge i p with h|h
    · exact h
    · exfalso
      apply kH
      intro j aD
      have:=Hn (ops:=ops) (p:=fun j=>listed.getD j false=true) (fun j aD e he=>by
       have pF:j<ops.size:=Nat.lt_of_lt_of_le (n7 j aD) D.le
       have mv:ops[j]?=some ops[j]:=Array.getElem?_eq_getElem pF
       obtain ⟨qt,J,aa,rfl⟩:=(xt mv).1 he
       exact lh j _ qt mv aD J aa) i (qq ops i) (fun j aD=>by
       obtain ⟨qt,J,aa,rfl⟩:=(xt aL).1 aD
       exact xu qt J aa)
      exact this j (D.tail i h lN j (by omega))
   have CJ:listed.getD i false=false:=by
    simp only [Array.getD_eq_getD_getElem?,Array.getElem?_eq_getElem (show i<listed.size by omega),Option.getD_some] at mq ⊢
    exact mq
   obtain ⟨⟨side,Hs,xw⟩,_⟩:=xv i o jM aL
   obtain ⟨d,n6⟩:=D.dst i o jM aL
   have nq:∀t∈slotsOf ops o,br (T i) t=br bf t:=fun t aq=>by
    obtain ⟨ct,a2⟩:=gu t
    obtain ⟨hW,j1⟩:=Hr i (Nat.le_of_lt jM) t
    by_cases hex:∃(j:Nat) (q:Oper),j<p∧ops[j]?=some q∧q.dst=some t
    · obtain ⟨j,q,kO,aD,aU⟩:=hex
      obtain ⟨hC,hd⟩:=D.looks i j o q t jM kO aL aD aU aq
      have Ht:∀(pG:Nat) (cj:Oper),pG<p→ops[pG]?=some cj→cj.dst=some t→pG=j:=fun pG cj O2 kk kN=>D.apart pG j cj q O2 kO kk aD (by rw [kN,aU])
      by_cases qs:j<i
      · obtain ⟨e,he,CK,CL⟩:=hC qs
        have xx:listed.getD j false=true:=by rw [←CK];exact xu e he CL
        rw [ct j q aD xx aU,hW j q qs aD aU]
      · have O3:listed.getD j false=false:=by
         by_cases oV:i<j
         · obtain ⟨e,he,CK,CL⟩:=hd oV
           cases xx:listed.getD j false with
           |false=>rfl
           |true=>
            have:=lh j q e aD xx he CL
            rw [CK,CJ] at this;cases this
         · have:i=j:=by omega
           subst this;exact CJ
        have cq:=a2 (fun pG cj kk nc kN=>by
         rw [Ht pG cj (n7 pG nc) kk kN,O3] at nc
         cases nc)
        have bl:=j1 (fun pG cj kk mv kN=>by
         have:=Ht pG cj (by omega) mv kN
         omega)
        rw [cq,bl]
    · rw [a2 fun j q aD av aU=>hex ⟨j,q,n7 j av,aD,aU⟩,j1 fun j q qs aD aU=>hex ⟨j,q,by omega,aD,aU⟩]
   rw [OD nq] at Hs
   have iI:d<eM.tmps.size:=by
    have:=j4 (dc aL).1 n6
    obtain ⟨_,_,_,s1⟩:=s1
    rw [s1.size];exact this
   show wpOp P ops _ i _ eM w'
   unfold wpOp
   rw [aL]
   show if Region.wanted o (yielded ops eM.tmps) then _ else _
   refine OJ (dc aL).1 (dc aL).2 Hs xw n6 s1 fun jW iH v s2 O4 O5=>?_
   rw [n6] at s2 ⊢
   have rC:∀j,(listed.setIfInBounds i true).getD j false=true→j=i∨listed.getD j false=true:=fun j av=>by
    by_cases e:i=j
    · exact .inl e.symm
    · rw [getD_set_ne false e] at av;exact .inr av
   refine aO (listed.setIfInBounds i true) (bf.put d (val i)) jW iH _ (by simp [kP]) (fun j av=>?_) (fun t=>?_) (fun j q e aD av he ah=>?_) (fun t aq=>?_) (fun j q j6 s aD av J aa aj aG=>?_) ?_ s2 (fg.trans O4)
   · rcases rC j av with rfl|av
     · exact jM
     · exact n7 j av
   · obtain ⟨ct,a2⟩:=gu t
     rw [Hh]
     refine ⟨fun j q aD av aU=>?_,fun qh=>?_⟩
     · by_cases e:d=t
       · subst e
         have kO:j<p:=by
          rcases rC j av with rfl|av
          · exact jM
          · exact n7 j av
         have:j=i:=D.apart j i q o kO jM aD aL (by rw [aU,n6])
         subst this;simp
       · rw [if_neg e]
         have qs:i≠j:=by
          intro bR
          subst bR
          rw [aL] at aD
          have O6:o=q:=by simpa using aD
          rw [←O6,n6] at aU
          exact e (by simpa using aU)
         rw [getD_set_ne false qs] at av
         exact ct j q aD av aU
     · have e:¬d=t:=fun e=>qh i o aL (by simp [show i<listed.size by omega]) (by rw [n6,e])
       rw [if_neg e]
       exact a2 fun j q aD av=>qh j q aD (getD_set_true av)
   · rcases rC j av with rfl|av
     · rw [aL] at aD;cases aD
       exact getD_set_true (xu e he ah)
     · exact getD_set_true (lh j q e aD av he ah)
   · rw [Ho _ _ _ _ iI,if_neg (fun e=>aq i o jM aL (by rw [n6,e]))]
     exact kL t aq
   · rw [Ho _ _ _ _ iI]
     by_cases e:d=j6
     · rw [if_pos e]
       have kO:j<p:=by
        rcases rC j av with rfl|av
        · exact jM
        · exact n7 j av
       have:j=i:=D.apart j i q o kO jM aD aL (by rw [J,n6,e])
       subst this
       rw [aL] at aD;cases aD
       rw [O5 s aj aa]
       exact kL s aG
     · rw [if_neg e]
       rcases rC j av with rfl|av
       · rw [aL] at aD;cases aD
         rw [n6] at J
         exact (e (by simpa using J)).elim
       · exact n5 j q j6 s aD av J aa aj aG
   · have O7:∀x,(!(listed.setIfInBounds i true).getD x false)=true→(!listed.getD x false)=true:=by
      intro x an
      cases av:listed.getD x false with
      |false=>rfl
      |true=>rw [getD_set_true av] at an;simp at an
     have:=filter_lt (fun j=>!listed.getD j false) (fun j=>!(listed.setIfInBounds i true).getD j false) O7 (List.range p) i (by simpa using jM) (by rw [CJ];rfl) (by simp [show i<listed.size by omega])
     omega
 refine key ops.size (Array.replicate ops.size false) fr lim _ ca (by simp) (fun j av=>?_) (fun t=>⟨fun j o aD av=>?_,fun _=>rfl⟩) (fun j o e aD av=>?_) (fun _ _=>rfl) (fun j o d s aD av=>?_) ?_ (st.heap (w':={w with drawn:=w.drawn+1}) rfl) (dW.drew F w lim)
 · exfalso
   by_cases aD:j<ops.size
   · simp [Array.getD_eq_getD_getElem?,aD] at av
   · simp [Array.getD_eq_getD_getElem?,aD] at av
 · have:=cl aD
   simp [Array.getD_eq_getD_getElem?,this] at av
 · have:=cl aD
   simp [Array.getD_eq_getD_getElem?,this] at av
 · have:=cl aD
   simp [Array.getD_eq_getD_getElem?,this] at av
 · have:=List.length_filter_le (fun j=>!(Array.replicate ops.size false).getD j false) (List.range p)
   rw [List.length_range] at this
   have:=D.le
   omega
theorem Hu {ops:Array Oper}:∀(l:List Oper) {cs:List ab} {fr:Fr} {K jq:Fr→Prop},(∀fr,K fr→jq fr)→ns P ops m cs l fr K→ns P ops m cs l fr jq:=by
 intro l
 induction l with
 |nil=>intro cs fr K jq U h;exact U _ h
 |cons o l aO=>
  intro cs fr K jq U h
  simp only [ns] at h ⊢
  split at h
  · exact ⟨h.1,aO U h.2⟩
  · exact h
end
end Go.bg
end
section
namespace Go.bg
open Go
def I {α:Type} [Inhabited α] (xs:List α) (k:Int):α:=xs.getD k.toNat default
theorem wrap64 (n:Int) (J:-9223372036854775808≤n) (aa:n≤9223372036854775807):IntKind.i64.wrap n=n:=
 BM .i64 n (by simp [IntKind.min,IntKind.signed,IntKind.bits];omega) (by simp [IntKind.max,IntKind.signed,IntKind.bits];omega)
theorem idx_eq {α:Type} [Inhabited α] (f:α→ab) (xs:List α) (k:Int) (aJ:0≤k) (J:k<xs.length):(xs.map f).getD k.toNat .aV=f (I xs k):=by
 have:k.toNat<xs.length:=by omega
 simp [I,List.getD_eq_getElem?_getD,this]
section
variable {P:Program} {n:Nat} {ops:Array Oper} {stl:List Nat} {r:List Oper} {K:Fr→ae→Prop} {fr:Fr} {m:ae} {d:Nat} {ty:TypeId} {pos:String} {af:Array Edge}
theorem Hv {t:TypeId} {l:List ab} {off:Nat} (J:eV P t=true) (aa:kF P t=false) (aj:off<l.length):jY P t l off:=⟨J,by simp [aa,aj]⟩
theorem O8 {t:TypeId} {l:List ab} {off:Nat} (J:eV P t=true) (aa:kF P t=true) (aj:off+P.cellsOf t≤l.length):jY P t l off:=⟨J,by simp [aa,aj]⟩
end
end Go.bg
end
section
namespace Go.bg
open Go
theorem dz {b:Bool} (h:(!b)=true):b=false:=by simpa using h
theorem du {b:Bool} (h:(!b)=false):b=true:=by simpa using h
theorem dH {a b:Bool} (h:(a&&b)=true):a=true:=by cases a<;>simp_all
theorem eA {a b:Bool} (h:(a&&b)=true):b=true:=by cases a<;>simp_all
theorem eB {a b:Bool} (h:(a&&b)=false):a=false∨b=false:=by cases a<;>simp_all
theorem cb {a b:Bool} (h:(a||b)=false):a=false:=by cases a<;>simp_all
theorem dp {a b:Bool} (h:(a||b)=false):b=false:=by cases a<;>simp_all
theorem dq {a b:Bool} (h:(a||b)=true):a=true∨b=true:=by cases a<;>simp_all
theorem cL {K:ab→ae→Prop} {x y:ab} {m:ae} (U:K x m) (h:x=y):K y m:=h▸U
def n8 (n:Int):ab:= .int .i64 n
def cm (s:List UInt8):ab:= .str s
def lj {α:Type} (f:α→ab) (l:List α):ab:= .slice false (l.map f)
def sub {α:Type} (l:List α) (p q:Int):List α:=(l.drop p.toNat).take (q- p).toNat
section
variable {P:Program} {n:Nat} {fr:Fr} {m:ae}
theorem O9 {c:Code} {Q:Exit→Fr→ae→Prop} {σ:Type} (zD:σ→Fr) (zE:σ→ae) (hg:σ→Prop) (nt:σ→Nat) (xy:σ) (aJ:fr=zD xy) (Pa:m=zE xy) (aE:hg xy)
 (h:∀s,hg s→dS P n c (B0 (fun bf m'=>∃hJ,bf=zD hJ∧m'=zE hJ∧hg hJ∧nt hJ<nt s) Q) (zD s) (zE s)):dS P n (.loop c) Q fr m:=by
 have conv:∀{F:Nat→Prop} {lim:Nat→Nat} {w:World} {jW:Nat→Nat} {iH:World},dW F w lim iH jW→∀K a eN,Code.rounds P c (oM F jW iH n Q) K a eN→Code.rounds P c (oM F lim w n Q) K a eN:=by
  intro F lim w jW iH fg K
  induction K with
  |zero=>intro a eN h;exact h.elim
  |succ K Pb=>
   intro a eN h
   refine wp_mono h fun e a ie q=>?_
   cases e with
   |normal=>exact Pb _ _ q
   |_=>exact oM.from fg q
 have key:∀N s,hg s→nt s<N→∀F lim w ca,bd F lim w n (zD s) (zE s) ca []→Code.rounds P c (oM F lim w n Q) N ca w:=by
  intro N
  induction N with
  |zero=>intro s _ cl;omega
  |succ N aO=>
   intro s aw cl F lim w ca st
   refine wp_mono (h s aw F lim w ca st) fun e a iH ⟨jW,rm,oN,q,uO,rn⟩=>?_
   cases e with
   |normal=>
    obtain ⟨hJ,rfl,rfl,Pc,oR⟩:=q
    exact conv rn _ _ _ (aO hJ Pc (by omega) F jW iH a uO)
   |_=>exact ⟨jW,rm,oN,q,uO,rn⟩
 intro F lim w ca st
 subst aJ Pa
 exact wp_loop_rounds (nt xy+1) (key _ xy aE (Nat.lt_succ_self _) F lim w ca st)
variable {ops:Array Oper} {stl:List Nat} {r:List Oper} {K:Fr→ae→Prop} {d:Nat} {ty:TypeId} {pos:String} {af:Array Edge}
variable {cs:List ab} {oW:Fr→Prop} {gd:Option (Nat×Bool)}
theorem Hw {c:ab} {o:Oper} (bc:h0 ops fr o.guard=some true):pv P ops m c (br fr) o=kl P m c (br fr) o:=by
 unfold pv
 unfold h0 at bc
 split
 · rfl
 · next j b lJ=>
   rw [lJ] at bc
   simp only at bc
   split
   · next g aD=>
     rw [aD] at bc
     simp only at bc
     rw [bc]
   · next aD=>rw [aD] at bc;cases bc
theorem Hx {c:ab} {o:Oper} (bc:h0 ops fr o.guard=some false):pv P ops m c (br fr) o=some (True, .lazy false .aV):=by
 unfold pv
 unfold h0 at bc
 split
 · next lJ=>rw [lJ] at bc;cases bc
 · next j b lJ=>
   rw [lJ] at bc
   simp only at bc
   split
   · next g aD=>
     rw [aD] at bc
     simp only at bc
     rw [bc]
   · next aD=>rw [aD] at bc;cases bc
end
end Go.bg
end
section
namespace Go.bg
open Go
def uP (P:Program) (o:Oper) (K:Fr→ae→Prop) (fr:Fr) (m:ae):Prop:=
 ∀n,fp n o=true→gS n o=true→∀F lim w ca,bd F lim w n fr m ca []→
  ∃res v w' lim' bf m',(execOp ca.eval o).run P w= .ok res w'∧((res= .value v)∨(res= .skip∧v=undef))∧bd F lim' w' n bf m' (ca.put o.dst v) []∧dW F w lim w' lim'∧K bf m'
def j7 (P:Program) (ops:Array Oper) (stl:List Nat) (o:Oper) (K:Fr→ae→Prop) (fr:Fr) (m:ae):Prop:=
 match o with
 |⟨dst,op,_,_,_,gd⟩=>
 match h0 ops fr gd with
 |some true=>
  match op with
  | .pick c x y=>
    match cA (br fr) c with
    | .bool true=>K (fh fr dst (cA (br fr) x)) m
    | .bool false=>K (fh fr dst (cA (br fr) y)) m
    |_=>False
  | .box _ x=>(gF (br fr) x).eH=true∧∀b,m b=none→K (fh (fr.strip (n1 x)) dst (.ptr ⟨b,0,none⟩)) (m.cE b (some (.cells (gF (br fr) x).cells)))
  |_=>
   match fl P m (br fr) stl dst op with
   | .val side ss m' x=>side∧K (fh (fr.strip ss) dst x) m'
   | .pq side ss m'=>side∧K (fh (fr.strip ss) dst .aV) m'
   | .new side ss mk hf=>side∧∀b,m b=none→K (fh (fr.strip ss) dst (mk b)) (m.cE b (some hf))
   | .call f args=>bh P f args m (zc K dst fr)
   | .stuck=>uP P o K fr m
 |some false=>
  match dst with
  |some d=>K (fr.put d (.lazy false .aV)) m
  |none=>K fr m
 |none=>False
def hQ (P:Program) (ops:Array Oper) (stl:List Nat):List Oper→(Fr→ae→Prop)→Fr→ae→Prop
 |[],K=>K
 |o::r,K=>j7 P ops stl o (hQ P ops stl r K)
section
variable {P:Program} {F:Nat→Prop} {lim:Nat→Nat} {w:World} {n:Nat} {fr:Fr} {m:ae} {ca:Act} {bL:List Nat}
theorem sP {ops:Array Oper} {o:Oper} {z:Bool} (st:bd F lim w n fr m ca bL) (ak:h0 ops fr o.guard=some z):Region.wanted o (yielded ops ca.tmps)=z:=by
 unfold h0 at ak
 split at ak
 · next bc=>obtain rfl:=Option.some.inj ak;simp [Region.wanted,bc]
 · next j b bc=>
   split at ak
   · next g aD=>
     obtain ⟨os,cI,bW,h⟩:=st
     cases aC:fr.get g with
     |none=>simp [br,aC,rA] at ak
     |some x=>
      simp only [br,aC,Option.getD_some] at ak
      obtain ⟨cl,aA⟩:=h.eL g _ aC
      have oR:g<ca.tmps.size:=by rw [h.size];exact cl
      have uM:ca.tmps[g]?=some (ca.tmps.getD g undef):=by
       rw [Array.getElem?_eq_getElem oR]
       simp [Array.getD,oR]
      have:=Hc ak aA
      simp only [Region.wanted,bc,yielded,aD,Option.bind_some,uM]
      rw [←this]
      generalize ca.tmps.getD g undef=v
      cases v<;>rfl
   · cases ak
theorem Pd {b:Nat} {cs:Array Value} {e:TypeId} {Hj:Nat×Nat} (ah:w.heap[b]?=some (.cells cs e Hj)):w.setRow b cs=w:=by
 have cl:b<w.heap.size:=(Array.getElem?_eq_some_iff.1 ah).1
 have:(w.heap.modify b fun| .cells _ elem frozen=> .cells cs elem frozen|o=>o)=w.heap:=by
  apply Array.ext (by simp)
  intro i ad fo
  rw [Array.getElem_modify]
  split
  · next e=>subst e;rw [Array.getElem?_eq_getElem cl] at ah;simp at ah;rw [ah]
  · rfl
 exact congrArg (fun h=>({w with heap:=h}:World)) this
theorem bd.Pe {t:TypeId} {x:Operand} (st:bd F lim w n fr m ca []) (an:k6 x=true) (aw:∀t,x= .tmp t→t<n) (aq:(gF (br fr) x).eH=true):
 ∃lim',m w.heap.size=none∧bd F lim' (w.alloc (.cells (ca.eval x).cells t)) n (fr.strip (n1 x)) (m.cE w.heap.size (some (.cells (gF (br fr) x).cells))) ca []∧dW F w lim (w.alloc (.cells (ca.eval x).cells t)) lim':=by
 obtain ⟨os,s1,s2⟩:=st.GX x an aw
 obtain ⟨oss,hF,c2,c3⟩:=B9 s2 aq
 obtain ⟨ct,a2⟩:=s1.BJ (ca.eval x).cells t (ab.fD (gF (br fr) x).cells) (by rw [ab.iG,List.length_map];exact hF) (fun i ad=>by
  rw [nV]
  exact (c2 i (by simpa [ab.iG] using ad)).plain)
 have kG:=s1.ri
 have ft:=uL st (.cells (ca.eval x).cells t)
 have b4:∀c,c∈os→c<w.heap.size:=fun c ao=>s2.F9 c ao
 have aA:∀i,i<(gF (br fr) x).cells.length→aN (w.alloc (.cells (ca.eval x).cells t)) lim ((ca.eval x).cells.toList.getD i undef) ((gF (br fr) x).cells.getD i .aV) (oss i):=fun i ad=>by
  have ao:=c2 i ad
  have e:(ca.eval x).cells.toList.getD i undef=(ca.eval x).cells.getD i undef:=by simp [List.getD_eq_getElem?_getD,Array.getD_eq_getD_getElem?]
  rw [e]
  refine ao.ho (fun _=>Nat.le_refl _) ft.cell fun c nf=>⟨k5 w _ c ?_,rfl⟩
  exact ao.F9 c nf
 have rC:=oJ w (.cells (ca.eval x).cells t)
 obtain ⟨hW,j1⟩:=a2.Gv (b:=w.heap.size) (off:=0) (l:=ab.fD (gF (br fr) x).cells) (xs:=(gF (br fr) x).cells) (vs:=(ca.eval x).cells.toList) (oss:=oss) (by simp [ae.cE]) rC
  (by simp [ab.iG]) (by simpa using hF) aA c3
 have av:(ab.fD (gF (br fr) x).cells).length=(gF (br fr) x).cells.length:=by simp [ab.iG]
 have aF:((ca.eval x).cells.toList.take 0++(ca.eval x).cells.toList++(ca.eval x).cells.toList.drop (0+(ca.eval x).cells.toList.length)).toArray=(ca.eval x).cells:=by
  rw [List.take_zero,List.nil_append,List.drop_of_length_le (by omega),List.append_nil]
 have az:(ab.fD (gF (br fr) x).cells).take 0++(gF (br fr) x).cells++(ab.fD (gF (br fr) x).cells).drop (0+(gF (br fr) x).cells.length)=(gF (br fr) x).cells:=by
  rw [List.take_zero,List.nil_append,List.drop_of_length_le (by rw [av];omega),List.append_nil]
 rw [aF,az,Pd rC] at hW
 refine ⟨lim,ct,?_,ft⟩
 have cS:(m.cE w.heap.size (some (.cells (ab.fD (gF (br fr) x).cells)))).cE w.heap.size (some (.cells (gF (br fr) x).cells))=m.cE w.heap.size (some (.cells (gF (br fr) x).cells)):=by
  funext c;simp only [ae.cE];split<;>rfl
 rw [cS] at hW
 exact hW
theorem Pf {ops:Array Oper} {stl:List Nat} {K:Fr→ae→Prop} {dst:Option Nat} {op:Op} {ty:TypeId} {pos:String} {af:Array Edge} {gd:Option (Nat×Bool)} (bc:h0 ops fr gd=some true) (h:j7 P ops stl ⟨dst,op,ty,pos,af,gd⟩ K fr m):
 (∃c x y b,op= .pick c x y∧cA (br fr) c= .bool b∧K (fh fr dst (cA (br fr) (if b then x else y))) m)∨
 (∃t x,op= .box t x∧(gF (br fr) x).eH=true∧∀b,m b=none→K (fh (fr.strip (n1 x)) dst (.ptr ⟨b,0,none⟩)) (m.cE b (some (.cells (gF (br fr) x).cells))))∨n2 P ops stl ⟨dst,op,ty,pos,af,none⟩ K fr m∨uP P ⟨dst,op,ty,pos,af,gd⟩ K fr m:=by
 simp only [j7,bc] at h
 split at h
 · next c x y=>
   split at h
   · next ao=>exact .inl ⟨c,x,y,true,rfl,ao,h⟩
   · next ao=>exact .inl ⟨c,x,y,false,rfl,ao,h⟩
   · exact h.elim
 · next t x=>exact .inr (.inl ⟨t,x,rfl,h⟩)
 · refine .inr (.inr ?_)
   simp only [n2]
   cases aT:fl P m (br fr) stl dst op with
   |val side ss m' x=>rw [aT] at h;exact .inl h
   |pq side ss m'=>rw [aT] at h;exact .inl h
   |new side ss mk hf=>rw [aT] at h;exact .inl h
   |call f args=>rw [aT] at h;exact .inl h
   |stuck=>rw [aT] at h;exact .inr h
theorem uP.mono {o:Oper} {K jq:Fr→ae→Prop} (U:∀fr m,K fr m→jq fr m) (h:uP P o K fr m):uP P o jq fr m:=fun n J aa F lim w ca st=>by
 obtain ⟨res,v,w',lim',bf,m',a,b,c,d,e⟩:=h n J aa F lim w ca st
 exact ⟨res,v,w',lim',bf,m',a,b,c,d,U _ _ e⟩
theorem Pg {ops:Array Oper} {stl:List Nat} {o:Oper} {K jq:Fr→ae→Prop} (U:∀fr m,K fr m→jq fr m) (h:j7 P ops stl o K fr m):j7 P ops stl o jq fr m:=by
 obtain ⟨dst,op,ty,pos,af,gd⟩:=o
 unfold j7 at h ⊢
 simp only at h ⊢
 split at h
 · split at h
   · split at h
     · exact U _ _ h
     · exact U _ _ h
     · exact h
   · exact ⟨h.1,fun b ah=>U _ _ (h.2 b ah)⟩
   · have aT:=fun h=>Oh (P:=P) (stl:=stl) (fr:=fr) (m:=m) (ops:=ops) (o:=⟨dst,op,ty,pos,af,none⟩) (K:=K) U h
     simp only [n2] at aT
     cases aA:fl P m (br fr) stl dst op with
     |val side ss m' x=>rw [aA] at h aT;exact aT h
     |pq side ss m'=>rw [aA] at h aT;exact aT h
     |new side ss mk hf=>rw [aA] at h aT;exact aT h
     |call f args=>rw [aA] at h aT;exact aT h
     |stuck=>rw [aA] at h;exact uP.mono U h
 · split at h<;>exact U _ _ h
 · exact h
theorem sQ {ops:Array Oper} {stl:List Nat} {o:Oper} {l:List Oper} {K:Fr→ae→Prop} (al:fp n o=true) (aM:gS n o=true) (h:j7 P ops stl o (b6 P n ops l K) fr m):b6 P n ops (o::l) K fr m:=by
 obtain ⟨dst,op,ty,pos,af,gd⟩:=o
 cases ak:h0 ops fr gd with
 |none=>simp [j7,ak] at h
 |some z=>
  cases z with
  |true=>
   rcases Pf ak h with ⟨c,x,y,b,rfl,ao,h⟩|⟨t,x,rfl,aq,h⟩|h|h
   · intro F lim w ca Q st aU
     unfold wpList
     rw [if_pos (sP st ak)]
     refine .inl ?_
     have hm:(if b then x else y)∈(Op.pick c x y).operands.toList:=by cases b<;>simp [Op.operands]
     obtain ⟨_,CM,rfl⟩:=wU st (kI al c (by simp [Op.operands]))
     rw [←w4,ao] at CM
     have xz:ca.eval c= .bool b:=by
      generalize ca.eval c=v at CM
      cases CM
      rfl
     obtain ⟨_,xo,rfl⟩:=wU st (kI al (if b then x else y) hm)
     rw [←w4] at xo
     refine n0 (v:=ca.eval (if b then x else y)) ?_ (h.from aU (st.fh (fun t aq=>j4 al aq) xo) (.refl _ _ _))
     cases b<;>simp [execOp,xz,asBool]
   · intro F lim w ca Q st aU
     unfold wpList
     rw [if_pos (sP st ak)]
     refine .inl ?_
     obtain ⟨lim',J,aa,aj⟩:=st.Pe (t:=t) (x:=x) (kI al x (by simp [Op.operands])) (zr aM (by simp [Op.operands])) aq
     refine n0 (v:= .pointer (some ⟨w.heap.size,0,none⟩)) (w':=w.alloc (.cells (ca.eval x).cells t)) (by simp [execOp,Instr.box,newVar,newRow]) ?_
     exact (h _ J).from aU (aa.fh (fun t aq=>j4 al aq) (.ptr _)) aj
   · have cN:=xh (o:=⟨dst,op,ty,pos,af,none⟩) al aM h
     intro F lim w ca Q st aU
     have:=cN F lim w ca Q st aU
     unfold wpList at this ⊢
     rw [if_pos (by simp [Region.wanted])] at this
     rw [if_pos (sP st ak)]
     exact this
   · intro F lim w ca Q st aU
     unfold wpList
     rw [if_pos (sP st ak)]
     refine .inl ?_
     obtain ⟨res,v,w',lim',bf,m',J,aa,aj,aG,aR⟩:=h n al aM F lim w ca st
     rcases aa with rfl|⟨rfl,rfl⟩
     · exact n0 J (aR.from aU aj aG)
     · exact Gs J (aR.from aU aj aG)
  |false=>
   simp only [j7,ak] at h
   intro F lim w ca Q st aU
   unfold wpList
   rw [if_neg (by rw [sP (o:=⟨dst,op,ty,pos,af,gd⟩) st ak];simp)]
   split at h
   · next d=>
     refine b6.from h aU ?_ (.refl _ _ _)
     exact st.set (j4 al rfl) (.mg _)
   · refine b6.from h aU ?_ (.refl _ _ _)
     exact st
theorem Hy {ops:Array Oper} {stl:List Nat}:∀(l:List Oper) {K:Fr→ae→Prop} {fr:Fr} {m:ae},(∀o∈l,fp n o=true∧gS n o=true)→hQ P ops stl l K fr m→b6 P n ops l K fr m:=by
 intro l
 induction l with
 |nil=>intro K fr m _ h;exact b6.nil h
 |cons o l aO=>
  intro K fr m al h
  have aL:=al o (by simp)
  exact sQ aL.1 aL.2 (Pg (fun fr m aA=>aO (fun fE mw=>al fE (by simp [mw])) aA) h)
theorem Ph {id:Nat} {ops:Array Oper} {Q:Exit→Fr→ae→Prop} (stl ks:List Nat) (al:kM n ops ks=true) (h:∀K:Fr→ae→Prop,(∀fr m,Q .normal fr m→K fr m)→hQ P ops stl ops.toList (fun fr m=>K (fr.keep ks) m) fr m):dS P n (.region id ops false) Q fr m:=by
 simp only [kM,Bool.and_eq_true,List.all_eq_true] at al
 exact Gr ks (by simpa [List.all_eq_true] using al.2) (Hy _ (fun o aL=>by simpa using al.1 o aL) (h _ fun _ _ h=>h))
theorem uQ {id:Nat} {ops:Array Oper} {c:Code} {Q:Exit→Fr→ae→Prop} (stl ks:List Nat) (al:kM n ops ks=true) (h:∀K:Fr→ae→Prop,(∀fr m,dS P n c Q fr m→K fr m)→hQ P ops stl ops.toList (fun fr m=>K (fr.keep ks) m) fr m):dS P n (.seq (.region id ops false) c) Q fr m:=
 B4 fun K U=>Ph stl ks al fun jq Pj=>h jq fun fr m h=>Pj _ _ (U _ _ h)
variable {ops:Array Oper} {stl:List Nat} {r:List Oper} {K:Fr→ae→Prop} {d:Nat} {ty:TypeId} {pos:String} {af:Array Edge} {gd:Option (Nat×Bool)}
theorem rD {op:Op} (bc:h0 ops fr gd=some false) (h:hQ P ops stl r K (fr.put d (.lazy false .aV)) m):hQ P ops stl (⟨some d,op,ty,pos,af,gd⟩::r) K fr m:=by
 simp only [hQ,j7,bc]
 exact h
theorem bd.conv {bf:Fr} (h:bd F lim w n fr m ca bL) (ao:∀t bH,bf.get t=some bH→∃x,fr.get t=some x∧∀v os,aN w lim v x os→aN w lim v bH os):bd F lim w n bf m ca bL:=by
 obtain ⟨os,cI,bW,h⟩:=h
 refine ⟨os,cI,bW,h.size,h.defers,fun t x an=>?_,h.mem,fun t x an=>?_,h.eF,h.gK,h.free,h.fresh⟩
 · obtain ⟨y,aK,aA⟩:=ao t x an
   exact ⟨(h.eL t y aK).1,aA _ _ (h.eL t y aK).2⟩
 · obtain ⟨y,aK,aA⟩:=ao t x an
   exact h.fj t y aK
def ab.toErr (T:TypeId):ab→ab
 | .nilIface=> .err T 0
 | .iface u (.int .i64 c)=>if u=T∧c≠0 then .err T c else .iface u (.int .i64 c)
 |x=>x
theorem toErr_rep (T:TypeId) {v:Value} {x:ab} {os:List Nat} (h:aN w lim v x os):aN w lim v (x.toErr T) os:=by
 cases h with
 |nilIface=>exact .mf T
 |iface t v x h=>
  unfold ab.toErr
  split
  · next he=>cases he
  · next u c he=>
    cases he
    split
    · next ao=>
      obtain ⟨rfl,aJ⟩:=ao
      cases h with
      |int _ _ ba ad=>exact .jn _ _ aJ ba ad
    · exact .iface _ _ _ h
  · exact .iface _ _ _ h
 |bool b=>exact .bool b
 |int k n ba ad=>exact .int k n ba ad
 |str s h=>exact .str s h
 |ptr a=>exact .ptr a
 |fT=>exact .fT
 |ref b off l cv J aa aj=>exact .ref b off l cv J aa aj
 |gb own=>exact .gb own
 |empty a cap hm=>exact .empty a cap hm
 |slice b off n cap sz l cv aM fB hm dI cF fU ao aA=>exact .slice b off n cap sz l cv aM fB hm dI cF fU ao aA
 |own b n cap sz l cv cur e aM fB hm dI aJ ah kD cF fU ao aA=>exact .own b n cap sz l cv cur e aM fB hm dI aJ ah kD cF fU ao aA
 |ms a len cap h hm=>exact .ms a len cap h hm
 |map b=>exact .map b
 |jm=>exact .jm
 |func fn f c bL gj aZ ao wS wT=>exact .func fn f c bL gj aZ ao wS wT
 |jU=>exact .jU
 |oF a=>exact .oF a
 |mf t=>exact .mf t
 |jn t e h ba ad=>exact .jn t e h ba ad
 |oG=>exact .oG
 |oH t v=>exact .oH t v
 |agg cs xs os h aA=>exact .agg cs xs os h aA
 |tuple cs xs os h aA=>exact .tuple cs xs os h aA
 |oI v x os h=>exact .oI v x os h
 |mg x=>exact .mg x
 |aV v=>exact .aV v
def Fr.toErr (T:TypeId) (di:List Nat) (fr:Fr):Fr:=fr.map fun p=>if di.contains p.1 then (p.1,p.2.toErr T) else p
theorem Fr.Pk (T:TypeId) (di:List Nat) (t:Nat):∀fr:Fr,(Fr.toErr T di fr).get t=if di.contains t then (fr.get t).map (ab.toErr T) else fr.get t:=by
 intro fr
 induction fr with
 |nil=>simp [Fr.toErr,Fr.get]
 |cons p fr aO=>
  obtain ⟨s,x⟩:=p
  unfold Fr.toErr at aO ⊢
  rw [List.map_cons]
  by_cases ao:di.contains s
  · rw [if_pos ao]
    simp only [Fr.get]
    by_cases aw:s=t
    · subst aw;rw [if_pos rfl,if_pos ao,if_pos rfl];rfl
    · rw [if_neg aw,if_neg aw,aO]
  · rw [if_neg ao]
    simp only [Fr.get]
    by_cases aw:s=t
    · subst aw;rw [if_pos rfl,if_neg ao,if_pos rfl]
    · rw [if_neg aw,if_neg aw,aO]
def ji (a:Int):UInt8:=UInt8.ofNat (IntKind.u8.wrap a).toNat
theorem zF (a:Int):((ji a).toNat:Int)=IntKind.u8.wrap a:=by
 have J:=(nY .u8 a).1
 have aa:=(nY .u8 a).2
 simp [IntKind.min,IntKind.max,IntKind.signed,IntKind.bits] at J aa
 simp [ji]
 omega
variable {cs:List ab} {oW:Fr→Prop}
end
end Go.bg
end
section
namespace Go.bg
open Go
def ae.aS (m:ae):List (Nat×gr)→ae
 |[]=>m
 |(b,o)::r=>(ae.aS m r).cE b (some o)
theorem pH {m:ae} {b:Nat}:∀{L:List (Nat×gr)},b∉L.map Prod.fst→m.aS L b=m b:=by
 intro L
 induction L with
 |nil=>intro _;rfl
 |cons p L aO=>
  obtain ⟨c,o⟩:=p
  intro h
  simp only [List.map_cons,List.mem_cons,not_or] at h
  show (if b=c then some o else m.aS L b)=m b
  rw [if_neg h.1,aO h.2]
theorem qu {m:ae} {b:Nat} {o:gr}:∀{L:List (Nat×gr)} (i:Nat),(L.map Prod.fst).Nodup→L[i]?=some (b,o)→m.aS L b=some o:=by
 intro L
 induction L with
 |nil=>intro i _ h;simp at h
 |cons p L aO=>
  obtain ⟨c,fE⟩:=p
  intro i gT h
  simp only [List.map_cons,List.nodup_cons] at gT
  cases i with
  |zero=>
   simp at h
   obtain ⟨rfl,rfl⟩:=h
   show (if c=c then some fE else _)=_
   rw [if_pos rfl]
  |succ i=>
   simp at h
   have ah:b∈L.map Prod.fst:=List.mem_map.2 ⟨(b,o),List.mem_of_getElem? h,rfl⟩
   show (if b=c then some fE else m.aS L b)=_
   rw [if_neg (fun (e:b=c)=>gT.1 (e▸ah)),aO i gT.2 h]
theorem CN {m:ae} {b:Nat} {o fE:gr}:∀{L:List (Nat×gr)} (i:Nat),(L.map Prod.fst).Nodup→L[i]?=some (b,o)→(m.aS L).cE b (some fE)=m.aS (L.set i (b,fE)):=by
 intro L
 induction L with
 |nil=>intro i _ h;simp at h
 |cons p L aO=>
  obtain ⟨c,zG⟩:=p
  intro i gT h
  simp only [List.map_cons,List.nodup_cons] at gT
  cases i with
  |zero=>
   simp at h
   obtain ⟨rfl,rfl⟩:=h
   funext x
   show (if x=c then some fE else if x=c then some zG else m.aS L x)=(if x=c then some fE else m.aS L x)
   by_cases an:x=c<;>simp [an]
  |succ i=>
   simp at h
   have ah:b∈L.map Prod.fst:=List.mem_map.2 ⟨(b,o),List.mem_of_getElem? h,rfl⟩
   have Pl:b≠c:=fun (e:b=c)=>gT.1 (e▸ah)
   funext x
   have:=congrFun (aO i gT.2 h) x
   show (if x=b then some fE else if x=c then some zG else m.aS L x)=(if x=c then some zG else m.aS (L.set i (b,fE)) x)
   rw [←this]
   show _=(if x=c then some zG else if x=b then some fE else m.aS L x)
   by_cases an:x=b
   · subst an;simp [Pl]
   · simp [an]
theorem Pm {m:ae} {b:Nat}:∀{L:List (Nat×gr)},m.aS L b=none→b∉L.map Prod.fst∧m b=none:=by
 intro L
 induction L with
 |nil=>intro h;exact ⟨by simp,h⟩
 |cons p L aO=>
  obtain ⟨c,o⟩:=p
  intro h
  have cN:(if b=c then some o else m.aS L b)=none:=h
  by_cases ah:b=c
  · rw [if_pos ah] at cN;cases cN
  · rw [if_neg ah] at cN
    have:=aO cN
    exact ⟨by simp [ah];simpa using this.1,this.2⟩
theorem Pn (m:ae) (L ch:List (Nat×gr)):m.aS (L++ch)=(m.aS ch).aS L:=by
 induction L with
 |nil=>rfl
 |cons p L aO=>obtain ⟨c,o⟩:=p;show (ae.aS m (L++ch)).cE c (some o)=((m.aS ch).aS L).cE c (some o);rw [aO]
theorem Hz {m:ae} {L ch:List (Nat×gr)} (gT:(L.map Prod.fst).Nodup) (aQ:L.Perm ch):m.aS L=m.aS ch:=by
 have Po:(ch.map Prod.fst).Nodup:=(aQ.map Prod.fst).nodup_iff.1 gT
 funext x
 by_cases an:x∈L.map Prod.fst
 · obtain ⟨⟨c,o⟩,hm,rfl⟩:=List.mem_map.1 an
   obtain ⟨i,ad⟩:=List.mem_iff_getElem?.1 hm
   obtain ⟨j,aD⟩:=List.mem_iff_getElem?.1 (aQ.mem_iff.1 hm)
   rw [qu i gT ad,qu j Po aD]
 · have Pp:x∉ch.map Prod.fst:=fun h=>an ((aQ.map Prod.fst).mem_iff.2 h)
   rw [pH an,pH Pp]
theorem Pq {m:ae} {L HA CO:List (Nat×gr)} (gT:(L.map Prod.fst).Nodup) (aQ:L.Perm (HA++CO)):m.aS L=(m.aS CO).aS HA:=by
 rw [Hz gT aQ,Pn]
section
variable {P:Program} {n:Nat} {fr:Fr} {m:ae} {ops:Array Oper} {stl:List Nat} {r:List Oper} {K:Fr→ae→Prop} {d:Nat} {ty:TypeId} {pos:String} {af:Array Edge} {gd:Option (Nat×Bool)} {L:List (Nat×gr)}
theorem Pr (bc:h0 ops fr gd=some true) {t:TypeId} {x:Operand} {b off:Nat} {l:List ab} {v:ab} (an:cA (br fr) x= .ptr ⟨b,off,none⟩) (hm:m.aS L b=some (.cells l)) (b4:stl.contains d=false) (dc:jY P t l off) (bw:(apart P t l off).plain=v)
 (h:hQ P ops stl r K (fr.put d v) (m.aS L)):hQ P ops stl (⟨some d, .load t x,ty,pos,af,gd⟩::r) K fr (m.aS L):=by
 subst bw
 simp only [hQ,j7,bc,fl,Option.map_some,Option.getD_some,b4,bS,an,hm]
 exact ⟨dc,h⟩
theorem Ps (bc:h0 ops fr gd=some true) (i:Nat) {t:TypeId} {a x:Operand} {b off:Nat} {l l':List ab} {v:ab} (aT:cA (br fr) a= .ptr ⟨b,off,none⟩) (an:gF (br fr) x=v) (gT:(L.map Prod.fst).Nodup) (ad:L[i]?=some (b, .cells l))
 (J:v.eH=true) (aa:v.cells.all ab.one=true) (aj:v.cells.length=P.cellsOf t) (j2:eV P t=true) (aL:off+P.cellsOf t≤l.length) (av:l.take off++v.cells++l.drop (off+P.cellsOf t)=l')
 (h:hQ P ops stl r K (fr.strip (n1 x)) (m.aS (L.set i (b, .cells l')))):hQ P ops stl (⟨none, .store t a x,ty,pos,af,gd⟩::r) K fr (m.aS L):=by
 subst av
 have hm:=qu (m:=m) i gT ad
 simp only [hQ,j7,bc,fl,aT,hm]
 refine ⟨⟨by rw [an];exact J,by rw [an];exact aa,by rw [an];exact aj,j2,aL⟩,?_⟩
 rw [CN i gT ad,an]
 exact h
end
end Go.bg
end
section
namespace Go.bg
open Go
def fy (P:Program) (n:Nat) (ops:Array Oper) (fuel:Nat) (listed:Array Bool) (K:Fr→ae→Prop) (fr:Fr) (m:ae):Prop:=
 ∀F lim w ca Q,bd F lim w n fr m ca []→(∀lim' w' bf m' eM,K bf m'→bd F lim' w' n bf m' eM []→dW F w lim w' lim'→Q Exit.normal eM w')→wpAny P .any ops Q fuel listed ca w
def CP (p:Nat→Prop):List Nat→Prop
 |[]=>True
 |i::r=>p i∧CP p r
theorem Pt {p:Nat→Prop}:∀{l:List Nat},CP p l→∀i∈l,p i:=by
 intro l
 induction l with
 |nil=>intro _ i ad;cases ad
 |cons j l aO=>
  intro h i ad
  rcases List.mem_cons.1 ad with rfl|ad
  · exact h.1
  · exact aO h.2 i ad
section
variable {P:Program} {n:Nat} {fr:Fr} {m:ae} {ops:Array Oper} {fuel:Nat} {listed:Array Bool} {K:Fr→ae→Prop}
theorem fy.done (aA:Region.ready .any ops listed=[]) (h:K fr m):fy P n ops fuel listed K fr m:=by
 intro F lim w ca Q st aU
 have:=aU lim w fr m ca h st (.refl _ _ _)
 cases fuel with
 |zero=>exact ⟨aA,this⟩
 |succ fuel=>exact ⟨fun _=>this,fun i ad=>by rw [aA] at ad;cases ad⟩
theorem fy.keep (ks:List Nat) (w3:(ks.all fun t=>decide (t<n))=true) (h:fy P n ops fuel listed K (fr.keep ks) m):fy P n ops fuel listed K fr m:=
 fun F lim w ca Q st aU=>h F lim w ca Q (st.keep (by simpa using w3)) aU
theorem fy.step (stl:List Nat) (rs:List Nat) (aA:Region.ready .any ops listed=rs) (fk:rs≠[]) (al:(ops.toList.all fun o=>fp n o&&gS n o)=true)
 (h:CP (fun i=>match ops[i]? with|some o=>hQ P ops stl [o] (fy P n ops fuel (listed.setIfInBounds i true) K) fr m|none=>False) rs):fy P n ops (fuel+1) listed K fr m:=by
 intro F lim w ca Q st aU
 refine ⟨fun aJ=>absurd (aA.symm.trans aJ) fk,fun i ad=>?_⟩
 rw [aA] at ad
 have aw:=Pt h i ad
 unfold wpOp
 cases aL:ops[i]? with
 |none=>rw [aL] at aw;exact aw.elim
 |some o=>
  rw [aL] at aw
  simp only at aw ⊢
  have dc:fp n o=true∧gS n o=true:=by
   have:=List.all_eq_true.1 al o (by rw [Array.mem_toList_iff];exact Array.mem_of_getElem? aL)
   simpa using this
  have key:b6 P n ops [o] (fy P n ops fuel (listed.setIfInBounds i true) K) fr m:=Hy [o] (by simpa using dc) aw
  let hX:Exit→Act→World→Prop:=fun e a w'=>match e with
   | .normal=>wpAny P .any ops Q fuel (listed.setIfInBounds i true) a w'
   |e=>Q e a w'
  have hw:=key F lim w ca hX st (fun lim' w' bf m' eM dZ gE fg=>dZ F lim' w' eM Q gE fun jW iH rm oN uD U uO rn=>aU jW iH rm oN uD U uO (fg.trans rn))
  have conv:∀{C:Act→World→Prop},o.wp P ca w C hX→o.wp P ca w C Q:=by
   intro C lh
   unfold Oper.wp at lh ⊢
   generalize (execOp ca.eval o).run P w=res at lh ⊢
   cases res with
   |ok s w'=>
    cases s with
    |enter f args=>
     refine lh.mono fun e iH aC=>?_
     cases e<;>exact aC
    |_=>exact lh
   |_=>exact lh
  unfold wpList at hw
  split
  · next sR=>
    rw [if_pos sR] at hw
    rcases hw with hw|⟨J,aa⟩
    · exact .inl (conv hw)
    · refine .inr ⟨J,?_⟩
      exact aa
  · next sR=>
    rw [if_neg sR] at hw
    exact hw
theorem Pu {id:Nat} {Q:Exit→Fr→ae→Prop} (hm:P.follows .mixedOrders=true) (ks:List Nat) (al:kM n ops ks=true)
 (h:∀K:Fr→ae→Prop,(∀fr m,Q .normal fr m→K fr m)→fy P n ops ops.size (Array.replicate ops.size false) (fun fr m=>K (fr.keep ks) m) fr m):dS P n (.region id ops true) Q fr m:=by
 intro F lim w ca st
 simp only [kM,Bool.and_eq_true,List.all_eq_true] at al
 refine wp_region_any hm ?_
 refine h _ (fun _ _ h=>h) F lim _ ca _ (st.heap (w':={w with drawn:=w.drawn+1}) rfl) fun lim' w' bf m' eM U gE fg=>?_
 exact ⟨lim',_,m',U,gE.keep (fun t aq=>by simpa using al.2 t aq),(dW.drew F w lim).trans fg⟩
end
end Go.bg
end
section
namespace Go.bg
open Go
section
variable {P:Program} {F:Nat→Prop} {lim:Nat→Nat} {w w':World} {n:Nat} {fr:Fr} {m:ae} {ca:Act} {bL:List Nat}
theorem HB {args:Array Operand} (st:bd F lim w n fr m ca bL) (al:∀y∈args.toList,k6 y=true):∀i,i<(args.toList.map (cA (br fr))).length→aN w lim ((args.map ca.eval).getD i undef) ((args.toList.map (cA (br fr))).getD i .aV) []:=by
 intro i ad
 have fo:i<args.size:=by simpa using ad
 have:=hE st (al args[i] (by simp))
 simpa [List.getD_eq_getElem?_getD,Array.getD_eq_getD_getElem?,fo] using this
theorem Pv {ops:Array Oper} {stl:List Nat} {r:List Oper} {K:Fr→ae→Prop} {d:Nat} {ty:TypeId} {pos:String} {af:Array Edge} {gd:Option (Nat×Bool)} (bc:h0 ops fr gd=some true) {fn:Fn} {first nk:Array Operand} {bL gj:List ab}
 (aZ:first.toList.map (cA (br fr))=bL) (ao:nk.toList.map (cA (br fr))=gj) (h:hQ P ops stl r K (fr.put d (.func fn bL gj)) m):
 hQ P ops stl (⟨some d, .makeFunc fn first nk,ty,pos,af,gd⟩::r) K fr m:=by
 subst aZ ao
 simp only [hQ,j7,bc,fl,bS]
 intro n al aM F lim w ca st
 have gR:=kI al
 refine ⟨_,_,w,lim,_,_,rfl, .inl rfl,st.fh (d:=some d) (fun t aq=>j4 al aq) (.func fn _ _ _ _ (by simp) (by simp) (HB st fun y aK=>gR y (by simp [Op.operands];exact .inl (by simpa using aK))) (HB st fun y aK=>gR y (by simp [Op.operands];exact .inr (by simpa using aK)))), .refl _ _ _,h⟩
theorem bh.conv {f:FuncId} {args CQ:List ab} {K:ab→ae→Prop} (av:CQ.length=args.length) (aA:∀w lim i v,aN w lim v (args.getD i .aV) []→aN w lim v (CQ.getD i .aV) []) (h:bh P f CQ m K):bh P f args m K:=
 ⟨h.1,fun F lim w cargs J aa aj=>h.2 F lim w cargs (by rw [J,av]) (fun i ad=>aA w lim i _ (aa i (by omega))) aj⟩
end
end Go.bg
end
section
namespace Go.bg
open Go Go.RowKit Go.WideShapes Go.ChangeShapes
def Rd (P:Program) (fuel:Nat) (t:TypeId) {α:Type} (f:α→ab):Prop:=
 ∀(H:Type) (enc:TypeId×Value→H) (W:World) (sp:Nat→Bool) (cs:List Value) (d:DataW H) (ps:List MemPlace),DataW.trod enc P W 0 sp true fuel t cs=some (d,ps)→(∀n∈d.weights P t,n≤reachBytes)→
  ∃x:α,(f x).cells.length=cs.length∧∀i,i<cs.length→aN W (mu W) (cs.getD i undef) ((f x).cells.getD i .aV) []
section
variable {P:Program} {fuel:Nat} {t e:TypeId}
theorem CR (aq:P.underlying t=some (.int .i64)):Rd P fuel t n8:=by
 intro H enc W sp cs d ps h _
 obtain ⟨n,rfl,_,hw⟩:=DataW.trod_int aq h
 simp only [Lit.wf,IntKind.has,Bool.and_eq_true,decide_eq_true_eq] at hw
 refine ⟨n,rfl,fun i ad=>?_⟩
 obtain rfl:i=0:=by simpa using ad
 exact .int .i64 n hw.1 hw.2
theorem n9 (aq:P.underlying t=some .string):Rd P fuel t cm:=by
 intro H enc W sp cs d ps h hw
 obtain ⟨s,rfl,an,aw⟩:=DataW.trod_string aq h
 simp only [Prod.mk.injEq] at an
 obtain ⟨rfl,rfl⟩:=an
 have J:=hw s.data.toList.length (by simp [DataW.weights])
 refine ⟨s.data.toList,rfl,fun i ad=>?_⟩
 obtain rfl:i=0:=by simpa using ad
 exact .str s (by unfold reachBytes at J;simp at J;omega)
theorem HC {H:Type} {e:TypeId}:∀{gk:List (DataW H)} {d:DataW H},d∈gk→∀n∈d.weights P e,n∈DataW.weightsAll P e gk
 |a::gk,d,aY,n,aM=>by
  simp only [DataW.weightsAll,List.mem_append]
  rcases List.mem_cons.1 aY with rfl|aY
  · exact .inl aM
  · exact .inr (HC aY n aM)
theorem Rd.arg {α:Type} {f:α→ab} {H:Type} {enc:TypeId×Value→H} {W:World} {sp:Nat→Bool} {v:Value} {d:DataW H} {ps:List MemPlace} (aA:∀n,Rd P n t f) (aZ:∀x,(f x).cells=[f x]) (bw:v.cells.toList=[v]) (aY:DataW.Trod enc P W 0 sp true t v d ps) (hw:∀n∈d.weights P t,n≤reachBytes):
 ∃x:α,aN W (mu W) v (f x) []:=by
 obtain ⟨n,aM⟩:=aY
 obtain ⟨x,J,aa⟩:=aA n H enc W sp _ d ps aM hw
 refine ⟨x,?_⟩
 rw [bw] at aa
 have:=aa 0 (by simp)
 rw [aZ] at this
 exact this
theorem HD {H:Type} {di:List TypeId} {gk:List (DataW H)} (h:(DataW.weightsEach P di gk).all (· ≤reachBytes)=true) {j:Nat} {d:DataW H} (aq:di[j]?=some t) (aY:gk[j]?=some d):∀n∈d.weights P t,n≤reachBytes:=fun n aM=>by
 simpa using List.all_eq_true.1 h _ (DataW.weights_mem_each aq aY n aM)
end
end Go.bg
end
section
namespace Go.bg
open Go Go.MapKept
section
variable {dh e7:Type} [DecidableEq dh]
def oa:List (dh×e7)→dh→Option e7
 |[],_=>none
 |(a,b)::r,k=>if a=k then some b else oa r k
def uR {dh e7:Type} (dP:dh→ab) (vf:e7→ab) (p:dh×e7):ab×ab:=(dP p.1,vf p.2)
def iK:List (dh×e7)→dh→e7→List (dh×e7)
 |[],k,v=>[(k,v)]
 |(a,b)::r,k,v=>if a=k then (k,v)::r else (a,b)::iK r k v
def uS:List (dh×e7)→dh→List (dh×e7)
 |[],_=>[]
 |(a,b)::r,k=>if a=k then r else (a,b)::uS r k
def nu:List (dh×e7)→dh→Option Nat
 |[],_=>none
 |(a,_)::r,k=>if a=k then some 0 else (nu r k).map (· +1)
theorem CS:∀{l:List (dh×e7)} {k:dh},nu l k=none→oa l k=none∧uS l k=l∧∀v,iK l k v=l++[(k,v)]
 |[],_,_=>⟨rfl,rfl,fun _=>rfl⟩
 |(a,b)::r,k,h=>by
  unfold nu at h
  split at h
  · cases h
  · rename_i fk
    have aO:=CS (l:=r) (k:=k) (by simpa using h)
    simp only [oa,uS,iK,if_neg fk,aO.1,aO.2.1,true_and]
    exact fun v=>by rw [aO.2.2 v];rfl
theorem CT:∀{l:List (dh×e7)} {k:dh} {j:Nat},nu l k=some j→∃b,l[j]?=some (k,b)∧oa l k=some b∧uS l k=l.eraseIdx j∧∀v,iK l k v=l.set j (k,v)
 |[],_,_,h=>by simp [nu] at h
 |(a,b)::r,k,j,h=>by
  unfold nu at h
  split at h
  · rename_i he
    subst he
    obtain rfl:0=j:=by simpa using h
    exact ⟨b,rfl,by simp [oa],by simp [uS],fun v=>by simp [iK]⟩
  · rename_i fk
    cases aA:nu r k with
    |none=>rw [aA] at h;cases h
    |some i=>
     rw [aA] at h
     obtain rfl:i+1=j:=by simpa using h
     obtain ⟨c,J,aa,aj,aG⟩:=CT aA
     exact ⟨c,by simpa using J,by simp [oa,fk,aa],by simp [uS,fk,aj],fun v=>by simp [iK,fk,aG]⟩
end
def pI (d:TypeDesc) {dh:Type} (dP:dh→ab) (gl:dh→Value):Prop:=
 (∀w lim v a os,aN w lim v (dP a) os→v=gl a)∧(∀a,IsKey d (gl a))∧∀a b,gl a=gl b→a=b
def HE (n:Int):Value:= .int .i64 n
theorem uT:pI (.int .i64) n8 HE:=by
 refine ⟨fun w lim v a os h=>?_,fun a=>by simp [IsKey,HE],fun a b h=>by injection h⟩
 generalize he:n8 a=x at h
 cases h<;>first|(cases he;done)|skip
 rename_i k n ba ad
 injection he with J aa
 subst J aa;rfl
section
variable {P:Program} {F:Nat→Prop} {lim:Nat→Nat} {w w':World} {n:Nat} {fr:Fr} {m:ae} {ca:Act} {bL:List Nat}
theorem CU {dh e7:Type} [DecidableEq dh] {d:TypeDesc} {dP:dh→ab} {gl:dh→Value} (he:pI d dP gl) (k:dh):∀(E:List MapEntry) (l:List (dh×e7)) (i:Nat),E.map (·.key)=l.map (fun p=>gl p.1)→
 Instr.findNow d (gl k) E i=some ((nu l k).map fun j=>(i+j,(E.getD j default).val))
 |[],[],_,_=>rfl
 |[],_::_,_,h=>by simp at h
 |_::_,[],_,h=>by simp at h
 |e::E,(a,b)::l,i,h=>by
  simp only [List.map_cons,List.cons.injEq] at h
  obtain ⟨J,aa⟩:=h
  obtain ⟨r,aA,HF⟩:=sameNow_of_keys (he.2.1 k) (he.2.1 a)
  simp only [Instr.findNow,J,aA]
  cases r with
  |true=>
   have aF:a=k:=(he.2.2 _ _ (HF.1 rfl)).symm
   simp [nu,aF]
  |false=>
   have aF:a≠k:=fun q=>by
    have:=HF.2 (by rw [q]);cases this
   rw [CU he k E l (i+1) aa]
   simp only [nu,if_neg aF,Option.map_map]
   congr 1
   cases nu l k with
   |none=>rfl
   |some j=>simp;omega
theorem HG {dh e7:Type} {d:TypeDesc} {dP:dh→ab} {gl:dh→Value} {vf:e7→ab} (he:pI d dP gl) (st:bd F lim w n fr m ca bL) {b:Nat} {l:List (dh×e7)} (hm:m b=some (.map (l.map fun p=>(dP p.1,vf p.2)))):
 ∃es clock,w.heap[b]?=some (.map es clock)∧es.size=l.length∧es.toList.map (·.key)=l.map (fun p=>gl p.1)∧(∀i p,l[i]?=some p→aN w lim (es.getD i default).val (vf p.2) [])∧(∀i j,i<j→j<l.length→(es.getD i default).born<(es.getD j default).born)∧(∀i,i<l.length→(es.getD i default).born<clock)∧
  l.length≤140737488355328∧(∀i p,l[i]?=some p→aN w lim (es.getD i default).key (dP p.1) [])∧lim b=0∧¬F b:=by
 obtain ⟨os,cI,bW,h⟩:=st
 obtain ⟨gu,av,ez⟩:=h.mem b _ hm
 generalize aL:cI b=WD at gu
 generalize ea:(l.map fun p=>(dP p.1,vf p.2))=L at gu
 cases gu with
 |map es clock L ah aw dI al bw p7 pj os=>
  subst ea
  simp only [List.length_map] at aw dI al bw p7 pj
  have ki:∀i p,l[i]?=some p→(l.map fun p=>(dP p.1,vf p.2)).getD i (.aV, .aV)=(dP p.1,vf p.2):=fun i p aQ=>by simp [List.getD_eq_getElem?_getD,aQ]
  have cl:∀i p,l[i]?=some p→i<l.length:=fun i p aQ=>(List.getElem?_eq_some_iff.1 aQ).1
  have uU:∀i p,l[i]?=some p→aN w lim (es.getD i default).key (dP p.1) []:=fun i p aQ=>by have:=al i (cl i p aQ);rwa [ki i p aQ] at this
  refine ⟨es,clock,ah,aw,?_,fun i p aQ=>by have:=bw i (cl i p aQ);rwa [ki i p aQ] at this,p7,pj,dI,uU,av,ez⟩
  refine List.ext_getElem (by simp [aw]) fun i J aa=>?_
  have ad:i<l.length:=by simpa using aa
  have fo:i<es.size:=by omega
  have:=he.1 _ _ _ _ _ (uU i l[i] (List.getElem?_eq_getElem ad))
  simpa [Array.getD,fo] using this
theorem bd.HH (st:bd F lim w n fr m ca bL) {b:Nat} {l l':List (ab×ab)} {es es':Array MapEntry} {clock clock':Nat} (hm:m b=some (.map l)) (ah:w.heap[b]?=some (.map es clock)) (aw:es'.size=l'.length) (dI:l'.length≤140737488355328)
 (fm:∀i,i<l'.length→aN w lim (es'.getD i default).key (l'.getD i (.aV, .aV)).1 []) (bw:∀i,i<l'.length→aN w lim (es'.getD i default).val (l'.getD i (.aV, .aV)).2 [])
 (p7:∀i j,i<j→j<l'.length→(es'.getD i default).born<(es'.getD j default).born) (pj:∀i,i<l'.length→(es'.getD i default).born<clock'):
 bd F lim {w with heap:=w.heap.setIfInBounds b (.map es' clock')} n fr (m.cE b (some (.map l'))) ca bL∧dW F w lim {w with heap:=w.heap.setIfInBounds b (.map es' clock')} lim:=by
 obtain ⟨os,cI,bW,h⟩:=st
 obtain ⟨gu,av,ez⟩:=h.mem b _ hm
 have zH:b<w.heap.size:=(Array.getElem?_eq_some_iff.1 ah).1
 generalize hw:({w with heap:=w.heap.setIfInBounds b (.map es' clock')}:World)=cU
 have lb:∀k,k≠b→cU.heap[k]?=w.heap[k]?:=fun k al=>by rw [←hw];simp [Array.getElem?_setIfInBounds,Ne.symm al]
 have pr:cU.heap[b]?=some (.map es' clock'):=by rw [←hw];simp [zH]
 have qj:cU.heap.size=w.heap.size:=by rw [←hw];simp
 have iT:∀k o,o<lim k→cU.cell? ⟨k,o,none⟩=w.cell? ⟨k,o,none⟩:=fun k o aL=>by
  have:k≠b:=fun e=>by subst e;omega
  simp [World.cell?,lb k this]
 have mh:∀c,m c=none→c≠b:=fun c ao e=>by subst e;rw [hm] at ao;cases ao
 have b4:∀{v x e0},aN w lim v x e0→(∀c∈e0,bW c≠ .none)→aN cU lim v x e0:=fun fM aL=>fM.ho (fun _=>Nat.le_refl _) iT (fun c ao=>⟨lb c (mh c (h.free c (aL c ao)).2.1),rfl⟩)
 have HI:∀{v x},aN w lim v x []→aN cU lim v x []:=fun fM=>b4 fM (by simp)
 refine ⟨?_,by rw [←hw],by rw [←hw],by rw [←hw],by rw [qj];exact Nat.le_refl _,fun k al=>⟨lb k (fun e=>by subst e;exact ez al),rfl⟩,fun _=>Nat.le_refl _,iT⟩
 refine ⟨os,cI,bW,h.size,h.defers,fun t x an=>⟨(h.eL t x an).1,b4 (h.eL t x an).2 (fun c ao=>by rw [(h.fj t x an).2 c ao];simp)⟩,fun k o al=>?_,h.fj,fun k o al i=>?_,h.gK,fun c ao=>⟨(h.free c ao).1,?_,by rw [qj];exact (h.free c ao).2.2⟩,fun k al=>?_⟩
 · by_cases hp:k=b
   · subst hp
     simp only [ae.cE,↓reduceIte,Option.some.injEq] at al
     subst al
     exact ⟨.map es' clock' l' pr aw dI (fun i ad=>HI (fm i ad)) (fun i ad=>HI (bw i ad)) p7 pj _,av,ez⟩
   · simp only [ae.cE,if_neg hp] at al
     have xA:=h.mem k o al
     refine ⟨xA.1.ho (lb k hp) (fun _=>Nat.le_refl _) iT (fun i c ao=>⟨lb c (mh c (h.free c ?_).2.1),rfl⟩),xA.2⟩
     rw [(h.eF k o al i).2 c ao];simp
 · by_cases hp:k=b
   · subst hp;exact h.eF k _ hm i
   · simp only [ae.cE,if_neg hp] at al
     exact h.eF k o al i
 · have:=(h.free c ao).2.1
   simp only [ae.cE]
   rw [if_neg (mh c this)];exact this
 · rw [qj] at al
   have:=h.fresh k al
   refine ⟨this.1,this.2.1,?_⟩
   simp only [ae.cE]
   rw [if_neg (by omega)];exact this.2.2
variable {ops:Array Oper} {stl:List Nat} {r:List Oper} {K:Fr→ae→Prop} {d:Nat} {ty:TypeId} {pos:String} {af:Array Edge} {gd:Option (Nat×Bool)} {L:List (Nat×gr)}
theorem HJ {dh e7:Type} {dk:TypeDesc} {dP:dh→ab} {gl:dh→Value} {vf:e7→ab} (he:pI dk dP gl) {es:Array MapEntry} {l l':List (dh×e7)} {es':Array MapEntry} (aw:es'.size=l'.length)
 (al:∀i p,l'[i]?=some p→aN w lim (es'.getD i default).key (dP p.1) []∧aN w lim (es'.getD i default).val (vf p.2) []):
 (∀i,i<(l'.map fun p=>(dP p.1,vf p.2)).length→aN w lim (es'.getD i default).key ((l'.map fun p=>(dP p.1,vf p.2)).getD i (.aV, .aV)).1 [])∧(∀i,i<(l'.map fun p=>(dP p.1,vf p.2)).length→aN w lim (es'.getD i default).val ((l'.map fun p=>(dP p.1,vf p.2)).getD i (.aV, .aV)).2 []):=by
 have key:∀i,i<(l'.map fun p=>(dP p.1,vf p.2)).length→aN w lim (es'.getD i default).key ((l'.map fun p=>(dP p.1,vf p.2)).getD i (.aV, .aV)).1 []∧aN w lim (es'.getD i default).val ((l'.map fun p=>(dP p.1,vf p.2)).getD i (.aV, .aV)).2 []:=fun i ad=>by
  have fo:i<l'.length:=by simpa using ad
  have:=al i _ (List.getElem?_eq_getElem fo)
  simpa [List.getD_eq_getElem?_getD,fo] using this
 exact ⟨fun i ad=>(key i ad).1,fun i ad=>(key i ad).2⟩
theorem Pw {α:Type} {es:Array α} {i:Nat} {d x:α} (h:es[i]?=some x):es.getD i d=x:=by
 rw [Array.getD_eq_getD_getElem?,h];rfl
theorem Px {dh e7:Type} [DecidableEq dh] {dk:TypeDesc} {dP:dh→ab} {gl:dh→Value} {vf:e7→ab} (he:pI dk dP gl) (st:bd F lim w n fr m ca bL) {b:Nat} {l:List (dh×e7)} (hm:m b=some (.map (l.map fun p=>(dP p.1,vf p.2)))) {t ke ve:TypeId} (aq:P.underlying t=some (.map ke ve)) (qv:P.underlying ke=some dk)
 {xB lK:Value} {k:dh} {v:e7} (xC:aN w lim xB (dP k) []) (zt:aN w lim lK (vf v) []) (dI:(iK l k v).length≤140737488355328):
 ∃w',(Instr.mapUpdate t (.map (some b)) xB lK).run P w= .ok () w'∧bd F lim w' n fr (m.cE b (some (.map ((iK l k v).map fun p=>(dP p.1,vf p.2))))) ca bL∧dW F w lim w' lim:=by
 obtain ⟨es,clock,ah,aw,CV,pJ,p7,pj,hlen,uU,hv,ez⟩:=HG he st hm
 obtain rfl:=he.1 _ _ _ _ _ xC
 have aZ:=CU he k es.toList l 0 CV
 have ao:(Instr.checkKey false 10000 ke (gl k)).run P w= .ok () w:=run_checkKey qv (he.2.1 k) _ 9999
 have nv:=run_findKey (P:=P) (w:=w) qv aZ
 have Py:∀i p,l[i]?=some p→i<es.size:=fun i p aQ=>by have:=(List.getElem?_eq_some_iff.1 aQ).1;omega
 cases ad:nu l k with
 |none=>
  have J:=(CS ad).2.2 v
  rw [ad] at nv
  simp only [Option.map_none] at nv
  have ki:∀i,(es.push {key:=gl k,val:=lK,born:=clock}).getD i default=if i<es.size then es.getD i default else if i=es.size then {key:=gl k,val:=lK,born:=clock} else default:=fun i=>by
   simp only [Array.getD_eq_getD_getElem?,Array.getElem?_push]
   by_cases aa:i=es.size
   · subst aa;simp
   · rw [if_neg aa]
     by_cases aj:i<es.size
     · rw [if_pos aj]
     · rw [if_neg aj,if_neg aa,Array.getElem?_eq_none (by omega)];rfl
  have hw:=HJ (w:=w) (lim:=lim) he (es:=es) (l:=l) (l':=l++[(k,v)]) (es':=es.push {key:=gl k,val:=lK,born:=clock}) (vf:=vf) (by simp [aw]) (fun i p aQ=>by
   rw [ki]
   by_cases aa:i<l.length
   · rw [List.getElem?_append_left aa] at aQ
     rw [if_pos (by omega)]
     exact ⟨uU i p aQ,pJ i p aQ⟩
   · rw [List.getElem?_append_right (by omega)] at aQ
     have aj:i- l.length=0:=by
      rcases Nat.eq_zero_or_pos (i- l.length) with aj|aj
      · exact aj
      · rw [List.getElem?_eq_none (by simp;omega)] at aQ;cases aQ
     rw [aj] at aQ
     obtain rfl:(k,v)=p:=by simpa using aQ
     rw [if_neg (by omega),if_pos (by omega)]
     exact ⟨xC,zt⟩)
  obtain ⟨s1,s2⟩:=st.HH (es':=es.push {key:=gl k,val:=lK,born:=clock}) (clock':=clock+1) (l':=(l++[(k,v)]).map fun p=>(dP p.1,vf p.2)) hm ah (by simp [aw]) (by rw [←J];simpa using dI) hw.1 hw.2 (fun i j oV aD=>by
   simp only [List.length_map,List.length_append,List.length_singleton] at aD
   rw [ki,ki,if_pos (by omega)]
   by_cases aa:j<es.size
   · rw [if_pos aa];exact p7 i j oV (by omega)
   · rw [if_neg aa,if_pos (by omega)];exact pj i (by omega)) (fun i fo=>by
   simp only [List.length_map,List.length_append,List.length_singleton] at fo
   rw [ki]
   by_cases aa:i<es.size
   · rw [if_pos aa];have:=pj i (by omega);omega
   · rw [if_neg aa,if_pos (by omega)];exact Nat.lt_succ_self _)
  refine ⟨_,?_,by rw [J];exact s1,s2⟩
  simp [Instr.mapUpdate,run_underlying aq,run_getObj_map ah,ao,nv,Result.andThen,run_setObj_map _ ah]
 |some j=>
  obtain ⟨c,J,_,_,aG⟩:=CT ad
  have aR:=aG v
  rw [ad] at nv
  simp only [Option.map_some,Nat.zero_add] at nv
  have rE:j<l.length:=(List.getElem?_eq_some_iff.1 J).1
  have aD:j<es.size:=Py j _ J
  have Pz:(es[j]?).map (·.key)=some (gl k):=by
   have bu:=he.1 _ _ _ _ _ (uU j _ J)
   rw [Array.getElem?_eq_getElem aD]
   rw [Pw (Array.getElem?_eq_getElem aD)] at bu
   simp [bu]
  have ki:∀i,(es.modify j fun e=>{e with key:=gl k,val:=lK}).getD i default=if i=j then {es.getD j default with key:=gl k,val:=lK} else es.getD i default:=fun i=>by
   simp only [Array.getD_eq_getD_getElem?,Array.getElem?_modify]
   by_cases aa:j=i
   · subst aa;simp [Array.getElem?_eq_getElem aD]
   · rw [if_neg aa,if_neg (Ne.symm aa)]
  have hw:=HJ (w:=w) (lim:=lim) he (es:=es) (l:=l) (l':=l.set j (k,v)) (es':=es.modify j fun e=>{e with key:=gl k,val:=lK}) (vf:=vf) (by simp [aw]) (fun i p aQ=>by
   rw [ki]
   rw [List.getElem?_set] at aQ
   by_cases aa:j=i
   · subst aa
     rw [if_pos rfl,if_pos rE] at aQ
     obtain rfl:(k,v)=p:=by simpa using aQ
     rw [if_pos rfl];exact ⟨xC,zt⟩
   · rw [if_neg aa] at aQ
     rw [if_neg (Ne.symm aa)];exact ⟨uU i p aQ,pJ i p aQ⟩)
  have nw:∀i,((es.modify j fun e=>{e with key:=gl k,val:=lK}).getD i default).born=(es.getD i default).born:=fun i=>by
   rw [ki];split
   · rename_i aa;subst aa;simp [Array.getD,aD]
   · rfl
  obtain ⟨s1,s2⟩:=st.HH (es':=es.modify j fun e=>{e with key:=gl k,val:=lK}) (clock':=clock) (l':=(l.set j (k,v)).map fun p=>(dP p.1,vf p.2)) hm ah (by simp [aw]) (by rw [←aR];simpa using dI) hw.1 hw.2 (fun i Cy oV kk=>by
   rw [nw,nw];exact p7 i Cy oV (by simpa using kk)) (fun i fo=>by rw [nw];exact pj i (by simpa using fo))
  refine ⟨_,?_,by rw [aR];exact s1,s2⟩
  have w3:(Instr.keyThatStays (((es[j]?).map (·.key)).getD (gl k)) (gl k)).run P w= .ok (gl k) w:=by
   rw [Pz];exact run_keyThatStays (he.2.1 k)
  simp only [Instr.mapUpdate,Sem.run_bind,run_underlying aq,run_getObj_map ah,ao,nv,Result.andThen_ok,w3,run_setObj_map _ ah]
def qw:ab→Prop
 | .str s=>s.length≤140737488355328
 | .slice _ l=>l.length≤140737488355328
 |_=>True
def xD:ab→Prop
 | .agg l=>∀i,i<l.length→qw (l.getD i .aV)
 |x=>qw x
theorem PA {v:Value} {x:ab} {os:List Nat} (h:aN w lim v x os):qw x:=by
 cases h with
 |str s h=>show s.data.toList.length≤_;simp;exact h
 |gb own=>simp [qw]
 |empty a cap hm=>simp [qw]
 |slice b off n cap sz l cv aM fB hm dI=>show l.length≤_;omega
 |own b n cap sz l cv cur e aM fB hm dI=>show l.length≤_;omega
 |_=>trivial
theorem CW {v:Value} {x:ab} {os:List Nat} (h:aN w lim v x os):xD x:=by
 cases h with
 |agg cs xs os h aA=>exact fun i ad=>PA (aA i ad)
 |str s h=>show s.data.toList.length≤_;simp;exact h
 |gb own=>simp [xD,qw]
 |empty a cap hm=>simp [xD,qw]
 |slice b off n cap sz l cv aM fB hm dI=>show l.length≤_;omega
 |own b n cap sz l cv cur e aM fB hm dI=>show l.length≤_;omega
 |_=>trivial
theorem dr {α:Type} {f:α→ab} {o:Bool} {l:List α} (h:qw (.slice o (l.map f))):l.length≤140737488355328:=by
 have:(l.map f).length≤140737488355328:=h
 simpa using this
end
end Go.bg
end
section
namespace Go.bg
open Go
section
variable {P:Program} {F:Nat→Prop} {lim:Nat→Nat} {w w':World} {n:Nat} {fr:Fr} {m:ae} {ca:Act} {bL:List Nat}
def oX (raw:Nat→ab) (s:Nat) (X:ab):Operand→ab
 | .tmp t=>if t=s then X else cA raw (.tmp t)
 |y=>cA raw y
theorem PB {t:TypeId} {c6:Array Field} {z:ab} {parts:Array (Nat×Operand)} {s:Nat} {l pre post:List ab} {os:List Nat} (st:bd F lim w n fr m ca bL)
 (hu:P.underlying t=some (.struct c6)) (ak:hY P t=some z) (rz:z.eH=true) (jJ:∀f∈c6.toList,eV P f.type=true) (qi:∀X:ab,X.eH=true→∀p∈parts.toList,(oX (br fr) s X p.2).eH=true)
 (xE:∀a k c,mn (fun i=>(c6[i]?).map fun f=>(f.offset,P.cellsOf f.type)) z.cells (parts.toList.map fun p=>(p.1,oX (br fr) s (.ms a k c) p.2))=some (pre++ .ms a k c::post))
 (jG:mn (fun i=>(c6[i]?).map fun f=>(f.offset,P.cellsOf f.type)) z.cells (parts.toList.map fun p=>(p.1,oX (br fr) s (.slice true l) p.2))=some (pre++ .slice true l::post))
 (gR:∀p∈parts.toList,k6 p.2=true) (aA:aN w lim (ca.tmps.getD s undef) (.slice true l) os):
 ∃v,(Instr.build t (parts.map fun (i,x)=>(i,ca.eval x))).run P w= .ok v w∧aN w lim v (.agg (pre++ .slice true l::post)) os:=by
 have CX:∀X:ab,aN w lim (ca.tmps.getD s undef) X []→∀p∈parts.toList,aN w lim (ca.eval p.2) (oX (br fr) s X p.2) []:=fun X sS p aQ=>by
  have J:=hE st (gR p aQ)
  cases xF:p.2 with
  |tmp t=>
   rw [xF] at J
   simp only [oX]
   split
   · rename_i e;subst e;exact sS
   · exact J
  |_=>rw [xF] at J;exact J
 generalize bw:ca.tmps.getD s undef=vs at aA CX
 have mr:=aA
 cases aA with
 |gb own=>
  obtain ⟨v,J,aa⟩:=Cq (P:=P) (w:=w) (lim:=lim) (ca:=ca) hu ak rz jJ jG (CX _ (.gb true)) (qi _ rfl)
  exact ⟨v,J,aa⟩
 |own b iw cap sz l cv cur e J aa aj aG aR bu cD cK cC eg fJ=>
  obtain ⟨v,jf,jI⟩:=Cq (P:=P) (w:=w) (lim:=lim) (ca:=ca) hu ak rz jJ (xE ⟨b,0,none⟩ iw cap) (CX _ (.ms _ _ _ aa aj)) (qi _ rfl)
  refine ⟨v,jf,?_⟩
  obtain ⟨CY,jF,jI⟩:∃CY,([]:List Nat)=CY∧aN w lim v (.agg (pre++ .ms ⟨b,0,none⟩ iw cap::post)) CY:=⟨[],rfl,jI⟩
  cases jI with
  |agg cs xs e0 cF xG=>
   have lL:=GU jF
   have al:=xG pre.length (by simp)
   rw [lL pre.length (by simp)] at al
   have ki:∀(X:ab) (i:Nat),(pre++X::post).getD i .aV=if i<pre.length then pre.getD i .aV else if i=pre.length then X else post.getD (i- pre.length- 1) .aV:=fun X i=>by
    simp only [List.getD_eq_getElem?_getD]
    by_cases ad:i<pre.length
    · rw [if_pos ad,List.getElem?_append_left ad]
    · rw [if_neg ad,List.getElem?_append_right (by omega)]
      by_cases he:i=pre.length
      · subst he;simp
      · rw [if_neg he]
        obtain ⟨d,aY⟩:∃d,i- pre.length=d+1:=⟨i- pre.length- 1,by omega⟩
        rw [aY];simp
   rw [ki,if_neg (by omega),if_pos rfl] at al
   have pJ:=(wZ al).1
   have dZ:=aN.agg (w:=w) (lim:=lim) cs (pre++ .slice true l::post) (fun i=>if i=pre.length then [b] else []) (by rw [cF];simp) (fun i ad=>by
    have fo:i<(pre++ab.ms ⟨b,0,none⟩ iw cap::post).length:=by simp at ad ⊢;exact ad
    have zI:=xG i fo
    rw [lL i fo] at zI
    rw [ki] at zI ⊢
    by_cases he:i=pre.length
    · subst he
      rw [if_neg (by omega),if_pos rfl,if_pos rfl,pJ]
      exact mr
    · rw [if_neg he] at zI
      rw [if_neg he,if_neg he]
      exact zI)
   have rq:(List.range (pre++ab.slice true l::post).length).flatMap (fun i=>if i=pre.length then [b] else [])=[b]:=by
    have:∀(k n:Nat),k<n→(List.range n).flatMap (fun i=>if i=k then [b] else [])=[b]:=fun k n=>by
     induction n with
     |zero=>intro h;omega
     |succ n aO=>
      intro h
      rw [List.range_succ,List.flatMap_append]
      by_cases al:k=n
      · subst al
        have aJ:(List.range k).flatMap (fun i=>if i=k then [b] else [])=[]:=by
         rw [List.flatMap_eq_nil_iff]
         intro i ad
         have:=List.mem_range.1 ad
         rw [if_neg (by omega)]
        rw [aJ];simp
      · rw [aO (by omega)];simp;omega
    exact this _ _ (by simp)
   rw [rq] at dZ
   exact dZ
theorem PC {ops:Array Oper} {stl:List Nat} {r:List Oper} {K:Fr→ae→Prop} {d:Nat} {ty:TypeId} {pos:String} {af:Array Edge} {gd:Option (Nat×Bool)} (bc:h0 ops fr gd=some true) {t:TypeId} {c6:Array Field} {z:ab} {parts:Array (Nat×Operand)} (s:Nat) {l:List ab} (pre post:List ab)
 (b4:stl.contains d=true) (hu:P.underlying t=some (.struct c6)) (ak:hY P t=some z) (rz:z.eH=true) (jJ:∀f∈c6.toList,eV P f.type=true) (qi:∀X:ab,X.eH=true→∀p∈parts.toList,(oX (br fr) s X p.2).eH=true)
 (xE:∀a k c,mn (fun i=>(c6[i]?).map fun f=>(f.offset,P.cellsOf f.type)) z.cells (parts.toList.map fun p=>(p.1,oX (br fr) s (.ms a k c) p.2))=some (pre++ .ms a k c::post))
 (jG:mn (fun i=>(c6[i]?).map fun f=>(f.offset,P.cellsOf f.type)) z.cells (parts.toList.map fun p=>(p.1,oX (br fr) s (.slice true l) p.2))=some (pre++ .slice true l::post))
 (an:br fr s= .slice true l) (iv:(parts.toList.any fun p=>match p.2 with| .tmp t=>t==s|_=>false)=true) (h:hQ P ops stl r K ((fr.strip [s]).put d (.agg (pre++ .slice true l::post))) m):
 hQ P ops stl (⟨some d, .build t parts,ty,pos,af,gd⟩::r) K fr m:=by
 simp only [hQ,j7,bc,fl,Option.map_some,Option.getD_some,b4,if_true]
 intro n al aM F lim w ca st
 have uv:s<n:=by
  obtain ⟨p,aQ,n4⟩:=List.any_eq_true.1 iv
  have:=zr aM (y:=p.2) (by simp [Op.operands];exact ⟨p.1,by simpa using aQ⟩)
  cases xF:p.2 with
  |tmp t=>rw [xF] at n4 this;simp at n4;subst n4;exact this t rfl
  |_=>rw [xF] at n4;simp at n4
 obtain ⟨os,s1,s2⟩:=st.uK s uv
 rw [an] at s2
 have gR:∀p∈parts.toList,k6 p.2=true:=fun p aQ=>kI al p.2 (by simp [Op.operands];exact ⟨p.1,by simpa using aQ⟩)
 obtain ⟨v,jf,jI⟩:=PB (P:=P) st hu ak rz jJ qi xE jG gR s2
 exact ⟨.value v,v,w,lim,_,_,by simp [execOp,jf], .inl rfl,s1.fh (d:=some d) (fun t aq=>j4 al aq) jI, .refl _ _ _,h⟩
def pick {α:Type}:List α→List Nat→List α×List α
 |L,[]=>([],L)
 |L,i::is=>match L[i]? with
  |some a=>(a::(pick (L.eraseIdx i) is).1,(pick (L.eraseIdx i) is).2)
  |none=>pick L is
end
end Go.bg
end
section
namespace Go.bg
open Go Go.RowKit Go.WideShapes Go.ChangeShapes
section
variable {P:Program} {fuel:Nat} {t e:TypeId}
theorem HK {H:Type}:∀{di:List TypeId} {gk:List (DataW H)} {i:Nat} {t:TypeId} {d:DataW H},di[i]?=some t→gk[i]?=some d→∀n∈d.weights P t,n∈DataW.weightsEach P di gk
 |a::di,b::gk,0,t,d,aq,aY,n,aM=>by
  simp only [List.getElem?_cons_zero,Option.some.injEq] at aq aY
  subst aq;subst aY
  exact List.mem_append_left _ aM
 |a::di,b::gk,i+1,t,d,aq,aY,n,aM=>by
  simp only [List.getElem?_cons_succ] at aq aY
  exact List.mem_append_right _ (HK aq aY n aM)
 |[],_,i,t,d,aq,_,_,_=>by simp at aq
 |_::_,[],i,t,d,_,aY,_,_=>by simp at aY
end
end Go.bg
end
section
namespace Go.bg
open Go Go.MapKept
open Go.ChangeMaps (setBlock)
section
variable {P:Program} {F:Nat→Prop} {lim:Nat→Nat} {w w':World} {n:Nat} {fr:Fr} {m:ae} {ca:Act} {bL:List Nat}
theorem PD {b:Nat} {l:List (ab×ab)} {os:Nat→List Nat} (h:kh w lim b (.map l) os):∃(es:Array MapEntry) (clock:Nat),w.heap[b]?=some (.map es clock)∧es.size=l.length∧l.length≤140737488355328∧
 (∀i,i<l.length→aN w lim (es.getD i default).key (l.getD i (.aV, .aV)).1 [])∧(∀i,i<l.length→aN w lim (es.getD i default).val (l.getD i (.aV, .aV)).2 [])∧(∀i j,i<j→j<l.length→(es.getD i default).born<(es.getD j default).born)∧(∀i,i<l.length→(es.getD i default).born<clock):=by
 cases h with
 |map es clock l ah aw dI al bw J aa os=>exact ⟨es,clock,ah,aw,dI,al,bw,J,aa⟩
theorem bd.range (st:bd F lim w n fr m ca bL) {b:Nat} {l:List (ab×ab)} (hm:m b=some (.map l)):
 ∃es clock,w.heap[b]?=some (.map es clock)∧m w.heap.size=none∧bd F lim (w.alloc (.mapIter (some b) clock #[] clock)) n fr (m.cE b (some (.iter w.heap.size l []))) ca bL∧dW F w lim (w.alloc (.mapIter (some b) clock #[] clock)) lim:=by
 have ak:=st.ri
 have HL:m w.heap.size=none:=by
  cases ah:m w.heap.size with
  |none=>rfl
  |some o=>exact absurd (st.qb (b:=w.heap.size) (by rw [ah];simp)) (Nat.lt_irrefl _)
 have PE:¬F w.heap.size:=fun aZ=>absurd (st.qa aZ) (Nat.lt_irrefl _)
 have zH:b<w.heap.size:=st.qb (by rw [hm];simp)
 have ft:=fun clock=>dW.alloc st (.mapIter (some b) clock #[] clock) 0
 have fU:(fun b=>if b=w.heap.size then 0 else lim b)=lim:=by funext b;by_cases ah:b=w.heap.size<;>simp [ah,ak]
 rw [fU] at ft
 obtain ⟨os,cI,bW,h⟩:=st
 obtain ⟨gu,av,ez⟩:=h.mem b _ hm
 obtain ⟨es,clock,ah,aw,dI,al,bw,J,aa⟩:=PD gu
 refine ⟨es,clock,ah,HL,?_,ft clock⟩
 have sH:(w.alloc (.mapIter (some b) clock #[] clock)).heap.size=w.heap.size+1:=Array.size_push _
 have b4:∀{v x e0},aN w lim v x e0→(∀c∈e0,bW c≠ .none)→aN (w.alloc (.mapIter (some b) clock #[] clock)) lim v x e0:=fun fM aL=>
  fM.ho (fun _=>Nat.le_refl _) (ft clock).cell (fun c ao=>⟨k5 w _ c (h.free c (aL c ao)).2.2,rfl⟩)
 have CZ:∀c,bW c≠ .none→c≠w.heap.size:=fun c ao e=>by have:=(h.free c ao).2.2;omega
 refine ⟨os,fun k i=>if k=b then (if i=0 then [w.heap.size] else []) else cI k i,fun c=>if c=w.heap.size then .ph b 0 else bW c,h.size,h.defers,fun t x an=>⟨(h.eL t x an).1,b4 (h.eL t x an).2 (fun c ao=>by rw [(h.fj t x an).2 c ao];simp)⟩,fun k o fm=>?_,fun t x an=>⟨(h.fj t x an).1,fun c ao=>?_⟩,fun k o fm i=>?_,⟨h.gK.1,fun c ao=>?_⟩,fun c ao=>?_,fun k fm=>?_⟩
 · by_cases hp:k=b
   · subst hp
     simp only [ae.cE,↓reduceIte,Option.some.injEq] at fm
     subst fm
     refine ⟨.iter es clock w.heap.size l [] ((k5 w _ k zH).trans ah) aw dI (fun i ad=>b4 (al i ad) (by simp)) (fun i ad=>b4 (bw i ad) (by simp)) J aa (oJ w _) (by simp) _ (by simp),av,ez⟩
   · simp only [ae.cE,if_neg hp] at fm
     have xA:=h.mem k o fm
     simp only [if_neg hp]
     have PF:k<w.heap.size:=by
      rcases Nat.lt_or_ge k w.heap.size with aj|aj
      · exact aj
      · rw [(h.fresh k aj).2.2] at fm;cases fm
     refine ⟨xA.1.ho (k5 w _ k PF) (fun _=>Nat.le_refl _) (ft clock).cell (fun i c ao=>⟨k5 w _ c (h.free c ?_).2.2,rfl⟩),xA.2⟩
     rw [(h.eF k o fm i).2 c ao];simp
 · have aF:=(h.fj t x an).2 c ao
   have az:c≠w.heap.size:=CZ c (by rw [aF];simp)
   simp only [if_neg az,aF]
 · by_cases hp:k=b
   · subst hp
     simp only [if_true]
     by_cases ad:i=0
     · subst ad;simp
     · simp [ad]
   · simp only [ae.cE,if_neg hp] at fm
     simp only [if_neg hp]
     refine ⟨(h.eF k o fm i).1,fun c ao=>?_⟩
     have aF:=(h.eF k o fm i).2 c ao
     have az:c≠w.heap.size:=CZ c (by rw [aF];simp)
     simp only [if_neg az,aF]
 · have aF:=h.gK.2 c ao
   have az:c≠w.heap.size:=CZ c (by rw [aF];simp)
   simp only [if_neg az,aF]
 · by_cases az:c=w.heap.size
   · subst az
     refine ⟨PE,?_,by rw [sH];omega⟩
     simp only [ae.cE]
     rw [if_neg (by omega)];exact HL
   · simp only [if_neg az] at ao
     have:=h.free c ao
     refine ⟨this.1,?_,by have:=this.2.2;rw [sH];omega⟩
     simp only [ae.cE]
     rw [if_neg (by intro e;subst e;rw [hm] at this;exact absurd this.2.1 (by simp))];exact this.2.1
 · have cF:w.heap.size+1≤k:=by rw [sH] at fm;exact fm
   have:=h.fresh k (by omega)
   refine ⟨this.1,this.2.1,?_⟩
   simp only [ae.cE]
   rw [if_neg (by omega)];exact this.2.2
variable {ops:Array Oper} {stl:List Nat} {r:List Oper} {K:Fr→ae→Prop} {d:Nat} {ty:TypeId} {pos:String} {af:Array Edge} {gd:Option (Nat×Bool)} {L:List (Nat×gr)}
section
variable {dh e7:Type} {dP:dh→ab} {vf:e7→ab}
end
end
end Go.bg
end
section
namespace Go.bg
open Go Go.Sort
open Go.Proofs (encStr)
section
variable {P:Program} {F:Nat→Prop} {lim:Nat→Nat} {w w':World} {n:Nat} {fr:Fr} {m:ae} {ca:Act} {bL:List Nat}
theorem PG {v:Value} {s:List UInt8} {os:List Nat} (h:aN w lim v (.str s) os):v=encStr s∧s.length≤140737488355328∧os=[]:=by
 generalize he:ab.str s=x at h
 cases h<;>first|(cases he;done)|skip
 rename_i t aq
 have e:s=t.data.toList:=by injection he
 subst e
 exact ⟨rfl,by simpa using aq,rfl⟩
theorem PH {s:List UInt8} (h:s.length≤140737488355328):aN w lim (encStr s) (.str s) []:=by
 have:=aN.str (w:=w) (lim:=lim) ⟨s.toArray⟩ (by simpa [ByteArray.size] using h)
 exact this
theorem bd.freeze (st:bd F lim w n fr m ca []) {b:Nat} {dv:List (List UInt8)} (hm:m b=some (.cells (dv.map cm))):
 bd F (fun c=>if c=b then dv.length else lim c) w n fr (m.cE b none) ca []∧dW F w lim w (fun c=>if c=b then dv.length else lim c)∧
 ∀k cap v,k≤dv.length→k≤140737488355328→aN w lim v (.ms ⟨b,0,none⟩ k cap) []→aN w (fun c=>if c=b then dv.length else lim c) v (.slice false ((dv.take k).map cm)) []:=by
 obtain ⟨os,cI,bW,h⟩:=st
 obtain ⟨gu,av,ez⟩:=h.mem b _ hm
 have fU:∀c,lim c≤if c=b then dv.length else lim c:=fun c=>by split<;>simp_all
 have jG:∀c,bW c≠ .none→c≠b:=fun c ao e=>by subst e;have:=(h.free c ao).2.1;rw [hm] at this;cases this
 have b4:∀{v x e0},aN w lim v x e0→(∀c∈e0,bW c≠ .none)→aN w (fun c=>if c=b then dv.length else lim c) v x e0:=fun fM aL=>fM.ho fU (fun _ _ _=>rfl) (fun c ao=>⟨rfl,if_neg (jG c (aL c ao))⟩)
 have zH:b<w.heap.size:=by
  rcases Nat.lt_or_ge b w.heap.size with aj|aj
  · exact aj
  · rw [(h.fresh b aj).2.2] at hm;cases hm
 refine ⟨⟨os,cI,bW,h.size,h.defers,fun t x an=>⟨(h.eL t x an).1,b4 (h.eL t x an).2 (fun c ao=>by rw [(h.fj t x an).2 c ao];simp)⟩,fun c o ao=>?_,h.fj,fun c o ao i=>?_,h.gK,fun c ao=>⟨(h.free c ao).1,?_,(h.free c ao).2.2⟩,fun c ao=>?_⟩,⟨rfl,rfl,rfl,Nat.le_refl _,fun c ao=>⟨rfl,?_⟩,fU,fun _ _ _=>rfl⟩,fun k cap v al ak bw=>?_⟩
 · have jh:c≠b:=fun e=>by subst e;simp [ae.cE] at ao
   simp only [ae.cE,if_neg jh] at ao
   have:=h.mem c o ao
   refine ⟨this.1.ho rfl fU (fun _ _ _=>rfl) (fun i q aU=>⟨rfl,if_neg (jG q (by rw [(h.eF c o ao i).2 q aU];simp))⟩),by rw [if_neg jh];exact this.2.1,this.2.2⟩
 · have jh:c≠b:=fun e=>by subst e;simp [ae.cE] at ao
   simp only [ae.cE,if_neg jh] at ao
   exact h.eF c o ao i
 · have:=(h.free c ao).2.1
   simp only [ae.cE];split
   · rfl
   · exact this
 · have:=h.fresh c ao
   have jh:c≠b:=by omega
   refine ⟨by rw [if_neg jh];exact this.1,this.2.1,?_⟩
   simp only [ae.cE,if_neg jh];exact this.2.2
 · exact if_neg (fun e=>ez (by rw [←e];exact ao))
 · obtain ⟨rfl,PI,nf⟩:=wZ bw
   rcases Nat.eq_zero_or_pos k with aJ|aJ
   · subst aJ
     exact .empty _ cap nf
   generalize sS:dv.map cm=X at gu
   cases gu with
   |cells cs e l _ ah aw aA=>
    have cF:cs.size=dv.length:=by rw [aw,←sS];simp
    refine aN.slice b 0 k cap 1 _ (fun i _=>cs.getD i undef) (by simp;omega) PI nf (by omega) (fun i ad=>?_) (by simp;omega) (fun i j ad aD=>?_) (fun i j ad aD=>?_)
    · have nn:i<dv.length:=by omega
      simp [List.getD_eq_getElem?_getD,ad,nn,cm,ab.cells]
    · obtain rfl:j=0:=by omega
      have PJ:i<cs.size:=by omega
      simp [World.cell?,ah,Array.getD,PJ]
    · obtain rfl:j=0:=by omega
      have nn:i<dv.length:=by omega
      have J:=aA i (by rw [←sS];simpa using nn)
      rw [←sS] at J
      have az:(dv.map cm).getD i .aV= .str dv[i]:=by simp [List.getD_eq_getElem?_getD,nn,cm]
      rw [az] at J
      have aa:=PG J
      have cS:(((dv.take k).map cm).getD i .aV).cells.getD 0 .aV= .str dv[i]:=by simp [List.getD_eq_getElem?_getD,ad,nn,cm,ab.cells]
      rw [cS,aa.1]
      exact PH aa.2.1
end
end Go.bg
end
section
namespace Go.bg
open Go
section
variable {P:Program} {w:World} {lim:Nat→Nat} {v:Value} {x:ab} {os:List Nat} {n:Nat} {fr:Fr} {m:ae}
def xH:ab→Prop
 | .str s=>s.length≤140737488355328
 | .slice _ l=>l.length≤140737488355328
 | .int k i=>k.min≤i∧i≤k.max
 |_=>True
theorem HM (h:aN w lim v x os):xH x:=by
 cases h with
 |int k i ba ad=>exact ⟨ba,ad⟩
 |str s h=>show s.data.toList.length≤_;simp;exact h
 |gb own=>simp [xH]
 |empty a cap hm=>simp [xH]
 |slice b off n cap sz l cv aM fB hm dI=>show l.length≤_;omega
 |own b n cap sz l cv cur e aM fB hm dI=>show l.length≤_;omega
 |_=>trivial
def zJ (l:List ab):Prop:=∀i j,i<l.length→j<(l.getD i .aV).cells.length→xH ((l.getD i .aV).cells.getD j .aV)
theorem HN {o:Bool} {l:List ab} (h:aN w lim v (.slice o l) os):zJ l:=by
 intro i j ad aD
 cases h with
 |gb own=>simp at ad
 |empty a cap hm=>simp at ad
 |slice b off n cap sz l cv aM fB hm dI cF fU ao aA=>exact HM (aA i j (by omega) (by rw [←cF i (by omega)];exact aD))
 |own b n cap sz l cv cur e aM fB hm dI aJ ah kD cF fU ao aA=>exact HM (aA i j (by omega) (by rw [←cF i (by omega)];exact aD))
theorem HO {α:Type} {f:α→ab} {l:List α} {a:α} (h:zJ (l.map f)) (aT:a∈l) (j:Nat) (aD:j<(f a).cells.length):xH ((f a).cells.getD j .aV):=by
 obtain ⟨i,ad,e⟩:=List.getElem_of_mem aT
 have az:(l.map f).getD i .aV=f a:=by simp [List.getD_eq_getElem?_getD,ad,e]
 have:=h i j (by simpa using ad) (by rw [az];exact aD)
 rwa [az] at this
end
end Go.bg
end
section
namespace Go.bg
open Go Go.RowKit Go.WideShapes Go.ChangeShapes
def xI (P:Program) (fuel:Nat) (t:TypeId) {α:Type} (f:α→ab) (ok:α→Prop):Prop:=
 ∀(H:Type) (enc:TypeId×Value→H) (W:World) (sp:Nat→Bool) (cs:List Value) (d:DataW H) (ps:List MemPlace),DataW.trod enc P W 0 sp true fuel t cs=some (d,ps)→(∀n∈d.weights P t,n≤reachBytes)→
  ∃x:α,ok x∧(f x).cells.length=cs.length∧∀i,i<cs.length→aN W (mu W) (cs.getD i undef) ((f x).cells.getD i .aV) []
section
variable {P:Program} {fuel:Nat} {t e:TypeId}
theorem xI.mono {α:Type} {f:α→ab} {ok HP:α→Prop} (h:xI P fuel t f ok) (al:∀x,ok x→HP x):xI P fuel t f HP:=fun H enc W sp cs d ps J aa=>by
 obtain ⟨x,aj,an⟩:=h H enc W sp cs d ps J aa
 exact ⟨x,al x aj,an⟩
theorem xI.arg {α:Type} {f:α→ab} {ok:α→Prop} {H:Type} {enc:TypeId×Value→H} {W:World} {sp:Nat→Bool} {cs:List Value} {v:Value} {d:DataW H} {ps:List MemPlace} (aA:∀n,xI P n t f ok) (bw:v.cells.toList=cs) (aY:DataW.Trod enc P W 0 sp true t v d ps) (hw:∀n∈d.weights P t,n≤reachBytes):
 ∃x:α,ok x∧(f x).cells.length=cs.length∧∀i,i<cs.length→aN W (mu W) (cs.getD i undef) ((f x).cells.getD i .aV) []:=by
 obtain ⟨n,aM⟩:=aY
 rw [bw] at aM
 exact aA n H enc W sp _ d ps aM hw
end
end Go.bg
end
section
namespace Go.bg
open Go Go.MapKept
section
variable {P:Program} {F:Nat→Prop} {lim:Nat→Nat} {w w':World} {n:Nat} {fr:Fr} {m:ae} {ca:Act} {bL:List Nat}
variable {ops:Array Oper} {stl:List Nat} {r:List Oper} {K:Fr→ae→Prop} {d:Nat} {ty:TypeId} {pos:String} {af:Array Edge} {gd:Option (Nat×Bool)} {L:List (Nat×gr)}
theorem PK {dh e7:Type} [DecidableEq dh] {dk:TypeDesc} {dP:dh→ab} {gl:dh→Value} {vf:e7→ab} (he:pI dk dP gl) (st:bd F lim w n fr m ca bL) {b:Nat} {l:List (dh×e7)} (hm:m b=some (.map (l.map fun p=>(dP p.1,vf p.2)))) {t ke ve:TypeId} (aq:P.underlying t=some (.map ke ve)) (qv:P.underlying ke=some dk)
 {z:e7} {z0:ab} (ak:hY P ve=some z0) (C0:z0.plain=vf z) {xB:Value} {k:dh} (xC:aN w lim xB (dP k) []) (ok:Bool):
 ∃v,aN w lim v (vf ((oa l k).getD z)) []∧(Instr.lookup t (.map (some b)) xB ok).run P w= .ok (if ok then .tuple #[v, .bool (oa l k).isSome] else v) w:=by
 obtain ⟨es,clock,ah,aw,CV,pJ,_,_,_,_,_,_⟩:=HG he st hm
 obtain rfl:=he.1 _ _ _ _ _ xC
 have aZ:=CU he k es.toList l 0 CV
 have ao:(Instr.checkKey es.isEmpty 10000 ke (gl k)).run P w= .ok () w:=run_checkKey qv (he.2.1 k) _ 9999
 have nv:=run_findKey (P:=P) (w:=w) qv aZ
 cases ad:nu l k with
 |none=>
  obtain ⟨v0,km,z2,z3,z4⟩:=zn (P:=P) (w:=w) (lim:=lim) ak
  have J:=(CS ad).1
  refine ⟨v0,by rw [J];have:=z4.plain;rw [C0] at this;exact this,?_⟩
  rw [ad] at nv
  simp only [Option.map_none] at nv
  cases ok<;>simp [Instr.lookup,run_underlying aq,run_getObj_map ah,ao,nv,Result.andThen,km,J]
 |some j=>
  obtain ⟨c,J,aa,_,_⟩:=CT ad
  refine ⟨(es.toList.getD j default).val,?_,?_⟩
  · rw [aa]
    have:=pJ j _ J
    rw [Array.getD_eq_getD_getElem?,←Array.getElem?_toList,←List.getD_eq_getElem?_getD] at this
    exact this
  · rw [ad] at nv
    simp only [Option.map_some,Nat.zero_add] at nv
    cases ok<;>simp only [Instr.lookup,Sem.run_bind,run_underlying aq,run_getObj_map ah,ao,nv,Result.andThen_ok,Sem.run_pure,aa,Option.isSome_some,if_true]<;>rfl
theorem PL (bc:h0 ops fr gd=some true) {dh e7:Type} [DecidableEq dh] {dk:TypeDesc} (dP:dh→ab) {gl:dh→Value} (vf:e7→ab) (he:pI dk dP gl) (l:List (dh×e7)) (k:dh) (z:e7) {t ke ve:TypeId} {x y:Operand} {b:Nat} {v:ab} (aq:P.underlying t=some (.map ke ve)) (qv:P.underlying ke=some dk) {z0:ab} (ak:hY P ve=some z0) (C0:z0.plain=vf z)
 (an:cA (br fr) x= .map b) (aK:cA (br fr) y=dP k) (hm:m.aS L b=some (.map (l.map fun p=>(dP p.1,vf p.2)))) (bw:vf ((oa l k).getD z)=v) (h:hQ P ops stl r K (fr.put d v) (m.aS L)):
 hQ P ops stl (⟨some d, .lookup t x y false,ty,pos,af,gd⟩::r) K fr (m.aS L):=by
 subst bw
 simp only [hQ,j7,bc,fl,bS,an]
 intro n al aM F lim w ca st
 have gR:=kI al
 have J:=hE st (gR x (by simp [Op.operands]))
 have aa:=hE st (gR y (by simp [Op.operands]))
 rw [an] at J
 rw [aK] at aa
 have aF:ca.eval x= .map (some b):=by generalize ca.eval x=q at J;cases J;rfl
 obtain ⟨v,jf,jI⟩:=PK (P:=P) he st hm aq qv ak C0 aa false
 exact ⟨.value v,v,w,lim,_,_,by simp only [execOp,aF,Sem.run_bind,jI];rfl, .inl rfl,st.fh (d:=some d) (fun t aq=>j4 al aq) jf, .refl _ _ _,h⟩
end
end Go.bg
end
section
namespace Go.bg
open Go Go.RowKit Go.WideShapes Go.ChangeShapes
structure kQ (bk:{H:Type}→DataW H→Nat) (bkA:{H:Type}→List (DataW H)→Nat):Prop where
 cons:∀{H:Type} (d:DataW H) (l:List (DataW H)),bkA (d::l)=bk d+bkA l
 slice:∀{H:Type} (e s:List (DataW H)),bkA e+1≤bk (.slice e s)
 agg:∀{H:Type} (p:List (DataW H)),bkA p+1≤bk (.agg p)
def kR (bk:{H:Type}→DataW H→Nat) (P:Program) (fuel:Nat) (t:TypeId) {α:Type} (f:α→ab) (sz:α→Nat):Prop:=
 ∀(H:Type) (enc:TypeId×Value→H) (W:World) (sp:Nat→Bool) (cs:List Value) (d:DataW H) (ps:List MemPlace),DataW.trod enc P W 0 sp true fuel t cs=some (d,ps)→(∀n∈d.weights P t,n≤reachBytes)→
  ∃x:α,sz x≤bk d∧(f x).cells.length=cs.length∧∀i,i<cs.length→aN W (mu W) (cs.getD i undef) ((f x).cells.getD i .aV) []
section
variable {bk:{H:Type}→DataW H→Nat} {bkA:{H:Type}→List (DataW H)→Nat} {P:Program} {fuel:Nat} {t e:TypeId}
theorem Rd.toB {α:Type} {f:α→ab} (h:Rd P fuel t f):kR bk P fuel t f (fun _=>0):=by
 intro H enc W sp cs d ps J aa
 obtain ⟨x,aj,aG⟩:=h H enc W sp cs d ps J aa
 exact ⟨x,Nat.zero_le _,aj,aG⟩
theorem kQ.at (df:kQ bk bkA) {H:Type}:∀{p:List (DataW H)} {i:Nat} {d:DataW H},p[i]?=some d→bk d≤bkA p
 |a::p,0,d,h=>by
  simp only [List.getElem?_cons_zero,Option.some.injEq] at h
  subst h;rw [df.cons];omega
 |a::p,i+1,d,h=>by
  simp only [List.getElem?_cons_succ] at h
  have:=df.at h
  rw [df.cons];omega
 |[],i,d,h=>by simp at h
theorem kQ.two (df:kQ bk bkA) {H:Type}:∀{p:List (DataW H)} {i j:Nat} {d j6:DataW H},i<j→p[i]?=some d→p[j]?=some j6→bk d+bk j6≤bkA p
 |a::p,0,j+1,d,j6,_,h,cN=>by
  simp only [List.getElem?_cons_zero,Option.some.injEq,List.getElem?_cons_succ] at h cN
  subst h
  have:=df.at cN
  rw [df.cons];omega
 |a::p,i+1,j+1,d,j6,oV,h,cN=>by
  simp only [List.getElem?_cons_succ] at h cN
  have:=df.two (by omega) h cN
  rw [df.cons];omega
 |a::p,i,0,d,j6,oV,h,cN=>by omega
 |[],i,j,d,j6,_,h,_=>by simp at h
theorem HQ (df:kQ bk bkA) {H:Type}:∀(gk:List (DataW H)) (g:Nat→Nat) (n:Nat),n≤gk.length→(∀i d,i<n→gk[i]?=some d→g i≤bk d)→((List.range n).map g).sum≤bkA gk
 |gk,g,0,_,_=>by simp
 |[],g,n+1,h,_=>by simp at h
 |d::gk,g,n+1,h,bc=>by
  have aJ:=bc 0 d (by omega) rfl
  have aO:=HQ df gk (fun i=>g (i+1)) n (by simp at h;omega) (fun i j6 ad aY=>bc (i+1) j6 (by omega) (by simpa using aY))
  have e:(List.range (n+1)).map g=g 0::(List.range n).map (fun i=>g (i+1)):=by
   rw [List.range_succ_eq_map,List.map_cons,List.map_map];rfl
  rw [e,List.sum_cons,df.cons];omega
theorem qx (df:kQ bk bkA) {α:Type} [Inhabited α] {f:α→ab} {z:α→Nat} {sz:Nat} (aq:P.underlying t=some (.slice e)) (cF:P.cellsOf e=sz) (kj:0<sz) (PM:0<P.bytesOf e) (aZ:∀x,(f x).cells.length=sz) (aA:∀n,n<fuel→kR bk P n e f z):kR bk P fuel t (lj f) (fun l=>(l.map z).sum):=by
 intro H enc W sp cs d ps h hw
 rcases DataW.trod_slice aq h with ⟨rfl,_⟩|⟨a,len,cap,elems,rest,n,rfl,rfl,an,ah,av,hm,hlen,oL,qp,WE⟩
 · refine ⟨[],by simp,rfl,fun i ad=>?_⟩
   obtain rfl:i=0:=by simpa using ad
   exact .gb false
 simp only [Prod.mk.injEq] at an
 obtain ⟨rfl,rfl⟩:=an
 simp only [DataW.weights,aq] at hw
 have HR:=hw _ (List.mem_cons_self ..)
 simp only [List.length_map] at HR
 have HS:len≤140737488355328:=by
  have J:len*1≤(elems.length+rest.length)*P.bytesOf e:=Nat.mul_le_mul (by omega) PM
  unfold reachBytes at HR;omega
 rcases Nat.eq_zero_or_pos len with aJ|aJ
 · subst aJ
   refine ⟨[],by simp,rfl,fun i ad=>?_⟩
   obtain rfl:i=0:=by simpa using ad
   exact .empty a cap hm
 have each:∀i (ad:i<len),∃(x:α) (mo:List Value),z x≤bk (elems[i]'(by omega)).1∧W.cells? 0 (a.add (i*sz)) sz=some mo∧(∀j,j<sz→aN W (mu W) (mo.getD j undef) ((f x).cells.getD j .aV) []):=fun i ad=>by
  have J:=oL i ad
  rw [cF,List.getElem?_eq_getElem (show i<elems.length by omega),Option.bind_eq_some_iff] at J
  obtain ⟨mo,aa,aj⟩:=J
  have xf:DataW.trod enc P W 0 sp true n e mo=some ((elems[i]'(by omega)).1,(elems[i]'(by omega)).2):=aj
  obtain ⟨x,j8,bp,cx⟩:=aA n (Nat.lt_succ_self n) H enc W sp mo _ _ xf (fun k al=>hw k (List.mem_cons_of_mem _ (List.mem_append_left _ (HC (List.mem_map.2 ⟨_,List.getElem_mem (show i<elems.length by omega),rfl⟩) k al))))
  have j9:mo.length=sz:=by rw [←bp,aZ]
  exact ⟨x,mo,j8,aa,fun j aD=>cx j (by omega)⟩
 have qp:a.spot=none:=by
  obtain ⟨x,mo,_,J,_⟩:=each 0 aJ
  have:=(World.cells?_some J).2.2 0 kj
  obtain ⟨b,off,spot⟩:=a
  cases spot with
  |none=>rfl
  |some s=>
   have j9:=(World.cells?_some J).2.1
   rw [List.getElem?_eq_getElem (by omega)] at this
   unfold World.cell? at this
   simp [Addr.add] at this
   split at this<;>simp_all
 obtain ⟨b,off,spot⟩:=a
 simp only at qp
 subst qp
 have bc:∀i:Nat,∃x:α×List Value,∀(ad:i<len),z x.1≤bk (elems[i]'(by omega)).1∧W.cells? 0 ((⟨b,off,none⟩:Addr).add (i*sz)) sz=some x.2∧(∀j,j<sz→aN W (mu W) (x.2.getD j undef) ((f x.1).cells.getD j .aV) []):=fun i=>by
  by_cases ad:i<len
  · obtain ⟨x,mo,aJ,J,aa⟩:=each i ad
    exact ⟨(x,mo),fun _=>⟨aJ,J,aa⟩⟩
  · exact ⟨(default,[]),fun h=>absurd h ad⟩
 obtain ⟨g,bc⟩:=Classical.axiomOfChoice bc
 have iT:∀i j,i<len→j<sz→W.cell? ⟨b,off+i*sz+j,none⟩=some ((g i).2.getD j undef):=fun i j ad aD=>by
  have J:=(bc i ad).2.1
  have aa:=(World.cells?_some J).2.2 j aD
  have aj:=(World.cells?_some J).2.1
  rw [Addr.add_lit,Addr.add_lit] at aa
  rw [aa,List.getD_eq_getElem?_getD,List.getElem?_eq_getElem (by omega)];rfl
 refine ⟨(List.range len).map fun i=>(g i).1,?_,rfl,fun i ad=>?_⟩
 · have J:=HQ df (elems.map Prod.fst) (fun i=>z (g i).1) len (by rw [List.length_map];omega) (fun i d ad aY=>by
    have ig:i<elems.length:=by omega
    rw [List.getElem?_map,List.getElem?_eq_getElem ig] at aY
    simp only [Option.map_some,Option.some.injEq] at aY
    subst aY
    exact (bc i ad).1)
   have aa:=df.slice (elems.map Prod.fst) (rest.map Prod.fst)
   simp only [List.map_map]
   have e:((List.range len).map (z∘fun i=>(g i).1)).sum=((List.range len).map fun i=>z (g i).1).sum:=rfl
   show ((List.range len).map (z∘fun i=>(g i).1)).sum≤_
   rw [e]
   have aj:∀s:List (DataW H),bkA (elems.map Prod.fst)+1≤bk (DataW.slice (elems.map Prod.fst) s):=fun s=>df.slice _ s
   exact Nat.le_trans J (Nat.le_trans (Nat.le_succ _) (aj _))
 obtain rfl:i=0:=by simpa using ad
 have lJ:∀i,i<len→(((List.range len).map fun i=>(g i).1).map f).getD i .aV=f (g i).1:=fun i ad=>by
  simp [List.getD_eq_getElem?_getD,ad]
 refine aN.slice b off len cap sz _ (fun i j=>(g i).2.getD j undef) (by simp) av hm HS (fun i ad=>by rw [lJ i ad];exact aZ _) ?_ iT (fun i j ad aD=>by rw [lJ i ad];exact (bc i ad).2.2 j aD)
 have J:=OK (iT (len- 1) (sz- 1) (by omega) (by omega))
 have aa:len*sz=(len- 1)*sz+sz:=by rw [←Nat.succ_mul];congr 1;omega
 omega
theorem rF (df:kQ bk bkA) {c6:Array Field} (aq:P.underlying t=some (.struct c6)) {H:Type} {enc:TypeId×Value→H} {W:World} {sp:Nat→Bool} {cs:List Value} {d:DataW H} {ps:List MemPlace} (h:DataW.trod enc P W 0 sp true fuel t cs=some (d,ps)) (hw:∀n∈d.weights P t,n≤reachBytes):
 cs.length=P.cellsOf t∧∃p:List (DataW H),bkA p+1≤bk d∧∀(i:Nat) (f:Field) {α:Type} (g:α→ab) (z:α→Nat),c6[i]?=some f→(∀n,n<fuel→kR bk P n f.type g z)→f.offset+P.cellsOf f.type≤P.cellsOf t→
  ∃(x:α) (HT:DataW H),p[i]?=some HT∧z x≤bk HT∧(g x).cells.length=P.cellsOf f.type∧∀j,j<P.cellsOf f.type→aN W (mu W) (cs.getD (f.offset+j) undef) ((g x).cells.getD j .aV) []:=by
 obtain ⟨xs,n,rfl,an,av,pK,aZ⟩:=DataW.trod_struct aq h
 simp only [Prod.mk.injEq] at an
 obtain ⟨rfl,rfl⟩:=an
 refine ⟨av,_,df.agg _,fun i f α g z ad aA aL=>?_⟩
 have J:=aZ i f ad
 have ig:i<xs.length:=by
  rw [pK];exact (Array.getElem?_eq_some_iff.1 ad).1
 rw [List.getElem?_eq_getElem ig] at J
 have C1:DataW.trod enc P W 0 sp true n f.type ((cs.drop f.offset).take (P.cellsOf f.type))=some ((xs[i]).1,(xs[i]).2):=J
 simp only [DataW.weights,aq] at hw
 obtain ⟨x,j8,bp,cx⟩:=aA n (Nat.lt_succ_self n) H enc W sp _ _ _ C1 (fun k al=>hw k (HK (i:=i) (t:=f.type) (by simp [ad]) (by simp [ig]) k al))
 have hlen:((cs.drop f.offset).take (P.cellsOf f.type)).length=P.cellsOf f.type:=by
  rw [List.length_take,List.length_drop];omega
 refine ⟨x,xs[i].1,by simp [ig],j8,by rw [bp,hlen],fun j aD=>?_⟩
 have aa:=cx j (by omega)
 have e:((cs.drop f.offset).take (P.cellsOf f.type)).getD j undef=cs.getD (f.offset+j) undef:=by
  simp [List.getD_eq_getElem?_getD,aD]
 rwa [e] at aa
theorem kR.arg {α:Type} {f:α→ab} {z:α→Nat} {H:Type} {enc:TypeId×Value→H} {W:World} {sp:Nat→Bool} {v:Value} {d:DataW H} {ps:List MemPlace} (aA:∀n,kR bk P n t f z) (aZ:∀x,(f x).cells=[f x]) (bw:v.cells.toList=[v]) (aY:DataW.Trod enc P W 0 sp true t v d ps) (hw:∀n∈d.weights P t,n≤reachBytes):
 ∃x:α,z x≤bk d∧aN W (mu W) v (f x) []:=by
 obtain ⟨n,aM⟩:=aY
 obtain ⟨x,aJ,J,aa⟩:=aA n H enc W sp _ d ps aM hw
 refine ⟨x,aJ,?_⟩
 rw [bw] at aa
 have:=aa 0 (by simp)
 rw [aZ] at this
 exact this
end
end Go.bg
end
section
namespace Go.bg
open Go
section
variable {P:Program} {n:Nat} {fr:Fr} {m:ae} {ops:Array Oper} {fuel:Nat} {listed:Array Bool} {K:Fr→ae→Prop}
theorem HU {Q hX:Exit→Act→World→Prop} (h:∀e a w,Q e a w→hX e a w) (av:LetsOut Q→LetsOut hX) {md:Region.Mode}:∀(fuel:Nat) (listed:Array Bool) (a:Act) (w:World),wpAny P md ops Q fuel listed a w→wpAny P md ops hX fuel listed a w
 |0,_,_,_,aC=>⟨aC.1,h _ _ _ aC.2⟩
 |fuel+1,listed,a,w,aC=>by
  refine ⟨fun aJ=>h _ _ _ (aC.1 aJ),fun i ad=>?_⟩
  have J:=wpOp_mono (fun bZ w' cN=>HU h av fuel _ bZ w' cN) (aC.2 i ad)
  unfold wpOp at J ⊢
  cases aL:ops[i]? with
  |none=>rw [aL] at J;exact J
  |some o=>
   rw [aL] at J
   simp only at J ⊢
   split
   · next hw=>
     rw [if_pos hw] at J
     refine J.imp (fun aa=>?_) fun aa=>⟨aa.1,av aa.2⟩
     unfold Oper.wp at aa ⊢
     generalize (execOp a.eval o).run P w=r at aa ⊢
     cases r with
     |ok PN w'=>
      cases PN<;>simp only [Oper.upon] at aa ⊢<;>
       first
        |exact aa
        |exact Calls.mono aa (fun e iH he=>by cases e<;>first|exact he|exact h _ _ _ he|exact av he)
     |halt x w'=>cases x<;>simp only [Oper.upon] at aa ⊢<;>first|exact aa|exact h _ _ _ aa|exact av aa
   · next hw=>
     rw [if_neg hw] at J
     exact J
def sT (ops:Array Oper) (listed:Array Bool) (i:Nat) (o:Oper):Bool:=
 o.guard.isNone&&(Region.ready .any ops listed).contains i&&
 (ops.toList.all fun q=>match q.op with| .select _ _=>false|_=>true)&&
 (List.range ops.size).all fun j=>match ops[j]? with
   |some q=>j==i||listed.getD j true||q.after.toList.any (fun e=>Region.binds .any e&&e.on==i)||o.apart ops q
   |none=>true
theorem fy.C2 {i:Nat} {o:Oper} {d:Nat} {x:ab} (ad:ops[i]?=some o) (sU:o.dst=some d) (iI:d<n) (ah:sT ops listed i o=true)
 (bw:∀F lim w ca,bd F lim w n fr m ca []→∃v,(∀w',(execOp ca.eval o).run P w'= .ok (.value v) w')∧aN w lim v x [])
 (h:fy P n ops fuel (listed.setIfInBounds i true) K (fr.put d x) m):fy P n ops (fuel+1) listed K fr m:=by
 intro F lim w ca Q st aU
 obtain ⟨v,PO,PQ⟩:=bw F lim w ca st
 simp only [sT,Bool.and_eq_true,List.all_eq_true,List.contains_iff_mem] at ah
 obtain ⟨⟨⟨bc,aA⟩,aw⟩,aT⟩:=ah
 let hX:Exit→Act→World→Prop:=fun e a w=>match e with
  | .normal=>Q .normal a w
  |e=>∀b w',Q e b w'
 have J:wpAny P .any ops hX fuel (listed.setIfInBounds i true) (ca.put (some d) v) w:=h F lim w (ca.put (some d) v) hX (show bd F lim w n (bg.fh fr (some d) x) m (ca.put (some d) v) [] from st.fh (fun t aq=>by cases aq;exact iI) PQ) aU
 have aa:wpAny P .any ops hX (fuel+1) listed ca w:=by
  refine wpAny_first (v:=v) ad (fun j q cs b aD ao=>?_) (fun c a w aC=>aC) fuel listed ca w (fun j q aD qs xx fk=>?_) aA (.inl ⟨?_,PO⟩) (by rw [sU];exact J)
  · have:=aw q (by rw [Array.mem_toList_iff];exact Array.mem_of_getElem? aD)
    rw [ao] at this;cases this
  · have qy:j<ops.size:=(Array.getElem?_eq_some_iff.1 aD).1
    have:=aT j (List.mem_range.2 qy)
    rw [aD] at this
    simp only [Bool.or_eq_true,beq_iff_eq,List.any_eq_true,Bool.and_eq_true] at this
    rcases this with ((aj|aj)|⟨e,he,aj,aG⟩)|aj
    · exact absurd aj qs
    · rw [xx] at aj;cases aj
    · exact absurd aG (fk e (by simpa using he) aj)
    · exact aj
  · unfold Region.wanted
    cases lJ:o.guard with
    |none=>rfl
    |some g=>rw [lJ] at bc;cases bc
 have hm:∀e a w,hX e a w→Q e a w:=fun e a w aC=>by cases e<;>first|exact aC|exact aC a w
 exact HU hm (fun ⟨a,w,aC⟩=>⟨a,w,hm _ _ _ aC⟩) _ _ _ _ aa
theorem fy.PR {i:Nat} {o:Oper} {y:Operand} {d:Nat} {x:ab} (ad:ops[i]?=some o) (aL:o.op= .move y) (sU:o.dst=some d) (iI:d<n) (aK:k6 y=true) (ah:sT ops listed i o=true) (an:cA (br fr) y=x)
 (h:fy P n ops fuel (listed.setIfInBounds i true) K (fr.put d x) m):fy P n ops (fuel+1) listed K fr m:=by
 refine fy.C2 ad sU iI ah (fun F lim w ca st=>?_) h
 subst an
 exact ⟨ca.eval y,fun w'=>by simp [execOp,aL],hE st aK⟩
theorem fy.PS {i:Nat} {o:Oper} {y:Operand} {d:Nat} {a:Addr} (ad:ops[i]?=some o) (aL:o.op= .nilCheck y) (sU:o.dst=some d) (iI:d<n) (aK:k6 y=true) (ah:sT ops listed i o=true) (an:cA (br fr) y= .ptr a)
 (h:fy P n ops fuel (listed.setIfInBounds i true) K (fr.put d (.ptr a)) m):fy P n ops (fuel+1) listed K fr m:=by
 refine fy.C2 ad sU iI ah (fun F lim w ca st=>?_) h
 have aA:=hE st aK
 rw [an] at aA
 have he:=rj aA
 exact ⟨.pointer (some a),fun w'=>by simp [execOp,aL,he], .ptr a⟩
theorem fy.PT {i:Nat} {o:Oper} {s:TypeId} {y:Operand} {f d:Nat} {a bZ:Addr} {side:Prop} (ad:ops[i]?=some o) (aL:o.op= .fieldAddr s y f) (sU:o.dst=some d) (iI:d<n) (aK:k6 y=true) (ah:sT ops listed i o=true) (an:cA (br fr) y= .ptr a)
 (aU:bS P m (cA (br fr)) (.fieldAddr s y f)=some (side, .ptr bZ)) (aw:side)
 (h:fy P n ops fuel (listed.setIfInBounds i true) K (fr.put d (.ptr bZ)) m):fy P n ops (fuel+1) listed K fr m:=by
 refine fy.C2 ad sU iI ah (fun F lim w ca st=>?_) h
 have aA:=hE st aK
 rw [an] at aA
 have he:=rj aA
 refine ⟨.pointer (some bZ),fun w'=>?_, .ptr bZ⟩
 obtain ⟨v,J,aa⟩:=Gl (w:=w') (lim:=lim) (ca:=ca) aL aU aw (by rw [an,he];exact .ptr a)
 rw [rj aa] at J
 exact J
end
abbrev WG (b:Nat):ab:= .ptr ⟨b,0,none⟩
abbrev WH (n:Int):ab:= .int .i64 n
abbrev WI (l:List ab):ab:= .slice false l
abbrev WJ (l:List ab):ab:= .slice true l
abbrev WK (m:ae) (L:List (Nat×gr)):ae:=ae.aS m L
theorem WL:True:=trivial
abbrev WM:=@uQ
abbrev WN:=@Hv
abbrev WO:=@Pr
abbrev WQ:=@Ps
abbrev WR:=@qu
abbrev WS:=@B4
abbrev WT:=@B5
abbrev WU:=@Pq
abbrev WV:=@congrArg
theorem WW {α:Type} {p:α→Prop}:∀x∈([]:List α),p x:=fun _ h=>by cases h
theorem WX {a b:Nat} (h:Nat.ble a b=true):a≤b:=Nat.le_of_ble_eq_true h
end Go.bg
end
