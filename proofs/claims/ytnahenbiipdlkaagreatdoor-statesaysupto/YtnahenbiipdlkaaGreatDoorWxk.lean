/-
  The abstract layer, part 20: a region whose order is open but for its end: what only reads in any order; then, in the text's order, what makes and writes.
-/
import Derived.Test.YtnahenbiipdlkaaGreatDoorWwS
import Derived.ProofKit
import Derived.SizedLaws
import Derived.MapKept
import Derived.WideMake
import Derived.Maps.RangeRun
import Derived.Shelf.Sort.Plain
section
namespace Go.bh
open Go
section
variable {P:Program} {n:Nat} {fr:Fr} {m:ad}
def nr (ops:Array Oper) (i:Nat):List Nat:=
 match ops[i]? with
 |some o=>(o.after.toList.filter (Region.binds .any)).map (·.on)
 |none=>[]
def closure (ops:Array Oper):Nat→List Nat→List Nat
 |0,S=>S
 |j+1,S=>closure ops j (if S.contains j then nr ops j++S else S)
theorem CN {ops:Array Oper} {p:Nat→Prop} (aB:∀j,p j→∀e∈nr ops j,p e):∀(k:Nat) (S:List Nat),(∀j∈S,p j)→∀j∈closure ops k S,p j:=by
 intro k
 induction k with
 |zero=>intro S h;exact h
 |succ k aQ=>
  intro S h
  simp only [closure]
  refine aQ _ ?_
  split
  · next ag=>
    intro j ay
    rcases List.mem_append.1 ay with ay|ay
    · exact aB k (h k (by simpa using ag)) j ay
    · exact h j ay
  · exact h
theorem tj {ops:Array Oper} {i j:Nat} {o:Oper} (av:ops[i]?=some o):j∈nr ops i↔∃e∈o.after,Region.binds .any e=true∧e.on=j:=by
 simp [nr,av,and_assoc]
def tk (ops:Array Oper) (p:Nat) (jj:List (Nat×Nat)):Bool:=
 decide (p≤ops.size)&&
 ((List.range ops.size).all fun i=>(nr ops i).all fun e=>decide (e<i))&&
 ((List.range ops.size).all fun i=>decide (i<p)||(List.range i).all fun j=>(closure ops i (nr ops i)).contains j)&&
 ((List.range p).all fun i=>
   match ops[i]? with
   |some o=>
    o.dst.isSome&&
    (List.range p).all fun j=>
      match ops[j]? with
      |some q=>
       (decide (i=j)||!(o.dst==q.dst))&&
       (match q.dst with
       |some d=>!((slotsOf ops o).contains d)||(if j<i then uV o j else if i<j then uV q i else true)
       |none=>true)
      |none=>true
   |none=>true)&&
 jj.all fun (d,s)=>
  (List.range p).any (fun j=>match ops[j]? with|some o=>o.dst==some d&&o.guard.isNone&&(match o.op with| .move (.tmp t)=>t==s|_=>false)|none=>false)&&
  (List.range p).all fun j=>match ops[j]? with|some o=>!(o.dst==some s)|none=>true
structure CO (ops:Array Oper) (p:Nat):Prop where
 le:p≤ops.size
 back:∀(i:Nat) (o:Oper) (e:Edge),ops[i]?=some o→e∈o.after→Region.binds .any e=true→e.on<i
 tail:∀(i:Nat),p≤i→i<ops.size→∀j,j<i→j∈closure ops i (nr ops i)
 dst:∀(i:Nat) (o:Oper),i<p→ops[i]?=some o→∃d,o.dst=some d
 apart:∀(i j:Nat) (o q:Oper),i<p→j<p→ops[i]?=some o→ops[j]?=some q→o.dst=q.dst→i=j
 looks:∀(i j:Nat) (o q:Oper) (d:Nat),i<p→j<p→ops[i]?=some o→ops[j]?=some q→q.dst=some d→d∈slotsOf ops o→(j<i→∃e∈o.after,e.on=j∧Region.binds .any e=true)∧(i<j→∃e∈q.after,e.on=i∧Region.binds .any e=true)
theorem PV {ops:Array Oper} {p:Nat} {jj:List (Nat×Nat)} (h:tk ops p jj=true):CO ops p:=by
 unfold tk at h
 rw [Bool.and_eq_true,Bool.and_eq_true,Bool.and_eq_true,Bool.and_eq_true] at h
 obtain ⟨⟨⟨⟨I,J⟩,ai⟩,aC⟩,_⟩:=h
 have bG:∀{i:Nat} {o:Oper},ops[i]?=some o→i<ops.size:=fun ab=>(Array.getElem?_eq_some_iff.1 ab).1
 simp only [List.all_eq_true,List.mem_range,decide_eq_true_eq,Bool.or_eq_true] at I J ai aC
 refine ⟨I,fun i o e ab he ae=>?_,fun i aB ab j ay=>?_,fun i o aB ab=>?_,fun i j o q ig lI ab ay aY=>?_,fun i j o q d ig lI ab ay aO aY=>?_⟩
 · exact J i (bG ab) e.on ((tj ab).2 ⟨e,he,ae,rfl⟩)
 · rcases ai i ab with h|h
   · omega
   · have:=h j ay
     simpa using this
 · have:=aC i aB
   simp only [ab,Bool.and_eq_true] at this
   exact Option.isSome_iff_exists.1 this.1
 · have:=aC i ig
   simp only [ab,Bool.and_eq_true,List.all_eq_true,List.mem_range] at this
   have:=this.2 j lI
   simp only [ay,Bool.and_eq_true,Bool.or_eq_true,decide_eq_true_eq] at this
   rcases this.1 with h|h
   · exact h
   · rw [aY] at h;simp at h
 · have:=aC i ig
   simp only [ab,Bool.and_eq_true,List.all_eq_true,List.mem_range] at this
   have:=this.2 j lI
   simp only [ay,aO,Bool.and_eq_true,Bool.or_eq_true] at this
   have:=this.2
   have ag:(slotsOf ops o).contains d=true:=by simpa using aY
   rw [ag] at this
   simp only [Bool.not_true,Bool.false_eq_true,false_or] at this
   refine ⟨fun iM=>?_,fun hH=>?_⟩
   · rw [if_pos iM] at this;exact zL this
   · rw [if_neg (by omega),if_pos hH] at this;exact zL this
theorem PW {ops:Array Oper} {p:Nat} (D:CO ops p) {T:Nat→Fr} {val:Nat→R} (aq:T 0=fr) (al:∀(i:Nat) (o:Oper),i<p→ops[i]?=some o→T (i+1)=dR (T i) o.dst (val i)):
 ∀i,i≤p→∀t,(∀(j:Nat) (o:Oper),j<i→ops[j]?=some o→o.dst=some t→a1 (T i) t=val j)∧((∀(j:Nat) (o:Oper),j<i→ops[j]?=some o→o.dst≠some t)→a1 (T i) t=a1 fr t):=by
 intro i
 induction i with
 |zero=>intro _ t;exact ⟨fun j o ay=>absurd ay (Nat.not_lt_zero _),fun _=>by rw [aq]⟩
 |succ i aQ=>
  intro ab t
  have ig:i<p:=ab
  have bG:i<ops.size:=Nat.lt_of_lt_of_le ig D.le
  obtain ⟨zO,zP⟩:=aQ (by omega) t
  have av:ops[i]?=some ops[i]:=Array.getElem?_eq_getElem bG
  obtain ⟨d,aY⟩:=D.dst i _ ig av
  have aJ:=al i _ ig av
  rw [aY] at aJ
  simp only [dR] at aJ
  rw [aJ,uW]
  refine ⟨fun j o ay hr pK=>?_,fun hT=>?_⟩
  · by_cases e:d=t
    · subst e
      have:j=i:=D.apart j i o _ (by omega) ig hr av (by rw [pK,aY])
      subst this
      simp
    · rw [if_neg e]
      refine zO j o ?_ hr pK
      rcases Nat.lt_succ_iff_lt_or_eq.1 ay with h|h
      · exact h
      · subst h
        rw [av] at hr
        cases hr
        rw [aY] at pK
        exact (e (by simpa using pK)).elim
  · have e:¬d=t:=fun e=>hT i _ (Nat.lt_succ_self i) av (by rw [aY,e])
    rw [if_neg e]
    exact zP fun j o ay hr=>hT j o (by omega) hr
theorem PX {ops:Array Oper} {p:Nat} (D:CO ops p) {Q:Exit→Act→World→Prop}:∀(fuel k:Nat) (listed:Array Bool) (ca:Act) (w:World),p≤k→k≤ops.size→ops.size- k≤fuel→listed.size=ops.size→
 (∀j,j<ops.size→(listed.getD j false=true↔j<k))→wpList P ops Q (ops.toList.drop k) ca w→wpAny P .any ops Q fuel listed ca w:=by
 intro fuel
 have PY:∀(k:Nat) (listed:Array Bool),k<ops.size→listed.size=ops.size→(∀j,j<ops.size→(listed.getD j false=true↔j<k))→k∈Region.ready .any ops listed:=fun k listed aj jJ ar=>by
  rw [mem_ready]
  have av:ops[k]?=some ops[k]:=Array.getElem?_eq_getElem aj
  refine ⟨?_,_,av,fun e he ae=>?_⟩
  · have:listed.getD k false≠true:=fun h=>absurd ((ar k aj).1 h) (Nat.lt_irrefl _)
    simp only [Array.getD_eq_getD_getElem?,Array.getElem?_eq_getElem (show k<listed.size by omega),Option.getD_some] at this ⊢
    simpa using this
  · have:=D.back k _ e av he ae
    exact (ar e.on (by omega)).2 this
 have nil:∀(k:Nat) (listed:Array Bool) (ca:Act) (w:World),k≤ops.size→listed.size=ops.size→(∀j,j<ops.size→(listed.getD j false=true↔j<k))→wpList P ops Q (ops.toList.drop k) ca w→Region.ready .any ops listed=[]→Q .normal ca w:=fun k listed ca w aj jJ ar h au=>by
  by_cases e:k=ops.size
  · subst e
    rw [List.drop_of_length_le (by simp)] at h
    exact h
  · have:=PY k listed (by omega) jJ ar
    rw [au] at this;cases this
 induction fuel with
 |zero=>
  intro k listed ca w PZ aj aW jJ ar h
  have e:k=ops.size:=by omega
  have au:Region.ready .any ops listed=[]:=by
   cases au:Region.ready .any ops listed with
   |nil=>rfl
   |cons j rs=>
    have ay:j∈Region.ready .any ops listed:=by rw [au];simp
    rw [mem_ready] at ay
    obtain ⟨I,o,av,_⟩:=ay
    have ql:j<ops.size:=(Array.getElem?_eq_some_iff.1 av).1
    have:=(ar j ql).2 (by omega)
    simp only [Array.getD_eq_getD_getElem?,Array.getElem?_eq_getElem (show j<listed.size by omega),Option.getD_some] at I this
    rw [I] at this;cases this
  exact ⟨au,nil k listed ca w aj jJ ar h au⟩
 |succ fuel aQ=>
  intro k listed ca w PZ aj aW jJ ar h
  refine ⟨nil k listed ca w aj jJ ar h,fun i ab=>?_⟩
  have eH:=ab
  rw [mem_ready] at eH
  obtain ⟨hq,o,av,qT⟩:=eH
  have kT:i<ops.size:=(Array.getElem?_eq_some_iff.1 av).1
  have Z6:k≤i:=by
   rcases Nat.lt_or_ge i k with bG|w4
   · have:=(ar i kT).2 bG
     simp only [Array.getD_eq_getD_getElem?,Array.getElem?_eq_getElem (show i<listed.size by omega),Option.getD_some] at hq this
     rw [hq] at this;cases this
   · exact w4
  have CP:i=k:=by
   rcases Nat.lt_or_ge k i with bG|w4
   · have je:=CN (ops:=ops) (p:=fun j=>j<k) (fun j ay e he=>by
      have ql:j<ops.size:=by omega
      have hr:ops[j]?=some ops[j]:=Array.getElem?_eq_getElem ql
      obtain ⟨pL,I,J,rfl⟩:=(tj hr).1 he
      have:=D.back j _ pL hr I J
      omega) i (nr ops i) (fun j ay=>by
      obtain ⟨pL,I,J,rfl⟩:=(tj av).1 ay
      have ai:=qT pL I J
      have:=D.back i _ pL av I J
      exact (ar pL.on (by omega)).1 ai)
     have:=je k (D.tail i (by omega) kT k bG)
     omega
   · omega
  subst CP
  have P0:ops.toList.drop i=o::ops.toList.drop (i+1):=by
   have:i<ops.toList.length:=by simpa using kT
   rw [List.drop_eq_getElem_cons this]
   congr 1
   rw [Array.getElem?_eq_getElem kT] at av
   simpa using av
  rw [P0] at h
  have key:∀a w,wpList P ops Q (ops.toList.drop (i+1)) a w→wpAny P .any ops Q fuel (listed.setIfInBounds i true) a w:=fun a w h=>aQ (i+1) _ a w (by omega) (by omega) (by omega) (by simp [jJ]) (fun j ay=>by
   by_cases e:i=j
   · subst e;simp [jJ,ay]
   · rw [getD_set_ne false e,ar j ay];omega) h
  show wpOp P ops _ i _ ca w
  unfold wpOp
  rw [av]
  unfold wpList at h
  show if Region.wanted o (yielded ops ca.tmps) then _ else _
  split at h
  · next hw=>
    rw [if_pos hw]
    rcases h with h|h
    · exact .inl (Oper.wp_mono key h)
    · exact .inr h
  · next hw=>
    rw [if_neg hw]
    exact key _ _ h
def Fr.alias (fr:Fr):List (Nat×Nat)→Fr
 |[]=>fr
 |(d,s)::r=>Fr.alias ((fr.put s (a1 fr s).plain).put d (a1 fr s)) r
theorem bd.alias {F:Nat→Prop} {lim:Nat→Nat} {w:World} {ca:Act}:∀(jj:List (Nat×Nat)) {fr:Fr},bd F lim w n fr m ca []→(∀x∈jj,x.1<n∧x.2<n∧ca.tmps.getD x.1 undef=ca.tmps.getD x.2 undef)→bd F lim w n (fr.alias jj) m ca []:=by
 intro jj
 induction jj with
 |nil=>intro fr h _;exact h
 |cons a jj aQ=>
  obtain ⟨d,s⟩:=a
  intro fr h dI
  obtain ⟨I,J,ai⟩:=dI (d,s) (by simp)
  simp only at I J ai
  refine aQ ?_ fun x ah=>dI x (by simp [ah])
  obtain ⟨os,jW,jX⟩:=h.uQ s J
  have nq:=jW.GA I jX
  have b2:ca.tmps.size=n:=by obtain ⟨_,_,_,h⟩:=h;exact h.size
  have e:ca.put (some d) (ca.tmps.getD s undef)=ca:=by
   rw [←ai]
   obtain ⟨tmps,defers⟩:=ca
   have b9:tmps.setIfInBounds d (tmps.getD d undef)=tmps:=by
    apply Array.ext (by simp)
    intro i ab eH
    by_cases e:d=i
    · subst e;simp [Array.getD,eH]
    · rw [Array.getElem_setIfInBounds_ne eH e]
   simp only [Act.put,b9]
  rw [e,zC] at nq
  exact nq
end
end Go.bh
end
section
namespace Go.bh
open Go
section
variable {P:Program} {n:Nat} {fr:Fr} {m:ad}
theorem P1 {ops:Array Oper} {p:Nat} {jj:List (Nat×Nat)} (h:tk ops p jj=true):∀x∈jj,(∃j o,j<p∧ops[j]?=some o∧o.dst=some x.1∧o.guard=none∧o.op= .move (.tmp x.2))∧∀j o,j<p→ops[j]?=some o→o.dst≠some x.2:=by
 unfold tk at h
 rw [Bool.and_eq_true] at h
 obtain ⟨_,h⟩:=h
 intro ⟨d,s⟩ ah
 have:=List.all_eq_true.1 h _ ah
 simp only [Bool.and_eq_true,List.any_eq_true,List.all_eq_true,List.mem_range] at this
 obtain ⟨⟨j,ay,I⟩,J⟩:=this
 refine ⟨?_,fun j o ay av=>?_⟩
 · split at I
   · next o av=>
     simp only [Bool.and_eq_true,beq_iff_eq,Option.isNone_iff_eq_none] at I
     obtain ⟨⟨ai,aC⟩,aN⟩:=I
     split at aN
     · next t bI=>
       simp only [beq_iff_eq] at aN
       subst aN
       exact ⟨j,o,ay,av,ai,aC,bI⟩
     · cases aN
   · cases I
 · have:=J j ay
   simp only [av] at this
   simpa using this
theorem Hx (ca:Act) (d t:Nat) (v:Value) (aY:d<ca.tmps.size):(ca.put (some d) v).tmps.getD t undef=if d=t then v else ca.tmps.getD t undef:=by
 simp only [Act.put,Array.getD_eq_getD_getElem?,Array.getElem?_setIfInBounds]
 split
 · next e=>subst e;simp [aY]
 · rfl
set_option maxHeartbeats 1000000 in
theorem P2 {id:Nat} {ops:Array Oper} {Q:Exit→Fr→ad→Prop} (hm:P.follows .mixedOrders=true) (p:Nat) (jj:List (Nat×Nat)) (cs:List R) (ks:List Nat) (aj:iL n ops ks=true) (aY:tk ops p jj=true)
 (h:hN P ops m cs (ops.toList.take p) fr (fun bb=>bQ P n ops (ops.toList.drop p) (fun fr m=>Q .normal (fr.keep ks) m) (bb.alias jj) m)):b7 P n (.region id ops true) Q fr m:=by
 intro F lim w ca st
 have D:=PV aY
 have A:=P1 aY
 simp only [iL,Bool.and_eq_true,List.all_eq_true] at aj
 obtain ⟨T,c,val,Hy,Hz,xu⟩:=PK _ _ _ _ h
 have hlen:(ops.toList.take p).length=p:=by simp [D.le]
 rw [hlen] at Hz
 replace xu:∀i o,i<p→ops[i]?=some o→(∃side,pv P ops m (c i) (a1 (T i)) o=some (side,val i)∧side)∧T (i+1)=dR (T i) o.dst (val i):=fun i o ab av=>xu i o (by rw [List.getElem?_take_of_lt ab];simpa using av)
 have uX:=PW D Hy (fun i o ab av=>(xu i o ab av).2)
 have bG:∀{i:Nat} {o:Oper},ops[i]?=some o→i<ops.size:=fun ab=>(Array.getElem?_eq_some_iff.1 ab).1
 have cO:∀{i:Nat} {o:Oper},ops[i]?=some o→eQ n o=true∧gv n o=true:=fun av=>aj.1 _ (by rw [Array.mem_toList_iff];exact Array.mem_of_getElem? av)
 have P3:∀i,i≤p→∀t x,(T i).get t=some x→t<n:=by
  intro i
  induction i with
  |zero=>
   intro _ t x ah
   rw [Hy] at ah
   obtain ⟨_,_,_,st⟩:=st
   exact (st.dX t x ah).1
  |succ i aQ=>
   intro ab t x ah
   have xv:i<ops.size:=Nat.lt_of_lt_of_le ab D.le
   have av:ops[i]?=some ops[i]:=Array.getElem?_eq_getElem xv
   obtain ⟨d,iN⟩:=D.dst i _ ab av
   rw [(xu i _ ab av).2,iN] at ah
   simp only [dR,Fr.qC] at ah
   split at ah
   · next e=>subst e;exact iJ (cO av).1 iN
   · exact aQ (by omega) t x ah
 refine wp_region_any hm ?_
 have key:∀fuel (listed:Array Bool) bb lim' w' dj,listed.size=ops.size→(∀j,listed.getD j false=true→j<p)→
  (∀t,(∀(j:Nat) (o:Oper),ops[j]?=some o→listed.getD j false=true→o.dst=some t→a1 bb t=val j)∧((∀(j:Nat) (o:Oper),ops[j]?=some o→listed.getD j false=true→o.dst≠some t)→a1 bb t=a1 fr t))→
  (∀(j:Nat) (o:Oper) (e:Edge),ops[j]?=some o→listed.getD j false=true→e∈o.after→Region.binds .any e=true→listed.getD e.on false=true)→
  (∀t,(∀j o,j<p→ops[j]?=some o→o.dst≠some t)→dj.tmps.getD t undef=ca.tmps.getD t undef)→
  (∀j o d s,ops[j]?=some o→listed.getD j false=true→o.dst=some d→o.guard=none→o.op= .move (.tmp s)→(∀j o,j<p→ops[j]?=some o→o.dst≠some s)→dj.tmps.getD d undef=ca.tmps.getD s undef)→
  ((List.range p).filter fun j=>!listed.getD j false).length+(ops.size- p)≤fuel→
  bd F lim' w' n bb m dj []→dc F w lim w' lim'→wpAny P .any ops (ni F lim w n Q) fuel listed dj w':=by
  intro fuel
  have fin:∀fuel (listed:Array Bool) bb lim' w' dj,listed.size=ops.size→(∀j,listed.getD j false=true→j<p)→
   (∀t,(∀(j:Nat) (o:Oper),ops[j]?=some o→listed.getD j false=true→o.dst=some t→a1 bb t=val j)∧((∀(j:Nat) (o:Oper),ops[j]?=some o→listed.getD j false=true→o.dst≠some t)→a1 bb t=a1 fr t))→
   (∀t,(∀j o,j<p→ops[j]?=some o→o.dst≠some t)→dj.tmps.getD t undef=ca.tmps.getD t undef)→
   (∀j o d s,ops[j]?=some o→listed.getD j false=true→o.dst=some d→o.guard=none→o.op= .move (.tmp s)→(∀j o,j<p→ops[j]?=some o→o.dst≠some s)→dj.tmps.getD d undef=ca.tmps.getD s undef)→
   (∀j,j<p→listed.getD j false=true)→ops.size- p≤fuel→bd F lim' w' n bb m dj []→dc F w lim w' lim'→wpAny P .any ops (ni F lim w n Q) fuel listed dj w':=by
   intro fuel listed bb lim' w' dj jJ oU eI kU oT je aW s1 dL
   have lF:∀t,a1 bb t=a1 (T p) t:=fun t=>by
    obtain ⟨dt,a2⟩:=eI t
    obtain ⟨bH,ho⟩:=uX p (Nat.le_refl _) t
    by_cases hex:∃(j:Nat) (o:Oper),j<p∧ops[j]?=some o∧o.dst=some t
    · obtain ⟨j,o,lI,ay,av⟩:=hex
      rw [dt j o ay (je j lI) av,bH j o lI ay av]
    · rw [a2 fun j o ay ar av=>hex ⟨j,o,oU j ar,ay,av⟩,ho fun j o lI ay av=>hex ⟨j,o,lI,ay,av⟩]
   have s2:bd F lim' w' n (T p) m dj []:=s1.sub fun t x ah=>by
    have au:=lF t
    have zG:a1 (T p) t=x:=by simp [a1,ah]
    rw [zG] at au
    cases a8:bb.get t with
    |some y=>
     simp only [a1,a8,Option.getD_some] at au
     subst au;exact .inl rfl
    |none=>
     simp only [a1,a8,Option.getD_none] at au
     exact .inr ⟨au.symm,P3 p (Nat.le_refl _) t x ah⟩
   have fk:=bd.alias jj s2 fun x ah=>by
    obtain ⟨⟨j,o,lI,ay,I,J,ai⟩,aC⟩:=A x ah
    refine ⟨iJ (cO ay).1 I,?_,?_⟩
    · exact zE (cO ay).2 (y:= .tmp x.2) (by rw [ai];simp [Op.operands]) _ rfl
    · rw [oT j o x.1 x.2 ay (je j lI) I J ai aC,kU x.2 aC]
   have Z7:∀o∈ops.toList.drop p,eQ n o=true∧gv n o=true:=fun o av=>aj.1 o (List.mem_of_mem_drop av)
   have aJ:=Hz F lim' w' dj (ni F lim w n Q) fk fun hC gG rK nj uJ U P4 ee=>
    ⟨hC,_,nj,U,P4.keep (fun t ao=>by simpa using aj.2 t ao),dL.trans ee⟩
   exact PX D fuel p listed dj w' (Nat.le_refl _) D.le aW jJ (fun j ay=>⟨fun h=>oU j h,fun h=>je j h⟩) aJ
  have least:∀(listed:Array Bool),listed.size=ops.size→(¬∀j,j<p→listed.getD j false=true)→Region.ready .any ops listed≠[]:=fun listed jJ aL au=>aL fun j=>by
   induction j using Nat.strongRecOn with
   |_ j aQ=>
    intro ay
    cases ar:listed.getD j false with
    |true=>rfl
    |false=>
     have ql:j<ops.size:=Nat.lt_of_lt_of_le ay D.le
     have av:ops[j]?=some ops[j]:=Array.getElem?_eq_getElem ql
     have:j∈Region.ready .any ops listed:=by
      rw [mem_ready]
      refine ⟨?_,_,av,fun e he ae=>aQ e.on (D.back j _ e av he ae) (Nat.lt_trans (D.back j _ e av he ae) ay)⟩
      simp only [Array.getD_eq_getD_getElem?,Array.getElem?_eq_getElem (show j<listed.size by omega),Option.getD_some] at ar ⊢
      exact ar
     rw [au] at this;cases this
  induction fuel with
  |zero=>
   intro listed bb lim' w' dj jJ oU eI ih kU oT xw s1 dL
   refine fin 0 listed bb lim' w' dj jJ oU eI kU oT (fun j ay=>?_) (by omega) s1 dL
   cases ar:listed.getD j false with
   |true=>rfl
   |false=>
    have:j∈(List.range p).filter fun j=>!listed.getD j false:=List.mem_filter.2 ⟨List.mem_range.2 ay,by rw [ar];rfl⟩
    have:=List.length_pos_of_mem this
    omega
  |succ fuel aQ=>
   intro listed bb lim' w' dj jJ oU eI ih kU oT xw s1 dL
   by_cases je:∀j,j<p→listed.getD j false=true
   · exact fin (fuel+1) listed bb lim' w' dj jJ oU eI kU oT je (by omega) s1 dL
   refine ⟨fun au=>(least listed jJ je au).elim,fun i ab=>?_⟩
   rw [mem_ready] at ab
   obtain ⟨hq,o,av,qT⟩:=ab
   have kT:=bG av
   have ig:i<p:=by
    rcases Nat.lt_or_ge i p with h|h
    · exact h
    · exfalso
      apply je
      intro j ay
      have:=CN (ops:=ops) (p:=fun j=>listed.getD j false=true) (fun j ay e he=>by
       have ql:j<ops.size:=Nat.lt_of_lt_of_le (oU j ay) D.le
       have hr:ops[j]?=some ops[j]:=Array.getElem?_eq_getElem ql
       obtain ⟨pL,I,J,rfl⟩:=(tj hr).1 he
       exact ih j _ pL hr ay I J) i (nr ops i) (fun j ay=>by
       obtain ⟨pL,I,J,rfl⟩:=(tj av).1 ay
       exact qT pL I J)
      exact this j (D.tail i h kT j (by omega))
   have rX:listed.getD i false=false:=by
    simp only [Array.getD_eq_getD_getElem?,Array.getElem?_eq_getElem (show i<listed.size by omega),Option.getD_some] at hq ⊢
    exact hq
   obtain ⟨⟨side,xx,tl⟩,_⟩:=xu i o ig av
   obtain ⟨d,iN⟩:=D.dst i o ig av
   have lF:∀t∈slotsOf ops o,a1 (T i) t=a1 bb t:=fun t ao=>by
    obtain ⟨dt,a2⟩:=eI t
    obtain ⟨bH,ho⟩:=uX i (Nat.le_of_lt ig) t
    by_cases hex:∃(j:Nat) (q:Oper),j<p∧ops[j]?=some q∧q.dst=some t
    · obtain ⟨j,q,lI,ay,aO⟩:=hex
      obtain ⟨ie,iC⟩:=D.looks i j o q t ig lI av ay aO ao
      have zQ:∀(hj:Nat) (dA:Oper),hj<p→ops[hj]?=some dA→dA.dst=some t→hj=j:=fun hj dA P5 iK lH=>D.apart hj j dA q P5 lI iK ay (by rw [lH,aO])
      by_cases iM:j<i
      · obtain ⟨e,he,tm,tn⟩:=ie iM
        have n7:listed.getD j false=true:=by rw [←tm];exact qT e he tn
        rw [dt j q ay n7 aO,bH j q iM ay aO]
      · have CQ:listed.getD j false=false:=by
         by_cases hH:i<j
         · obtain ⟨e,he,tm,tn⟩:=iC hH
           cases n7:listed.getD j false with
           |false=>rfl
           |true=>
            have:=ih j q e ay n7 he tn
            rw [tm,rX] at this;cases this
         · have:i=j:=by omega
           subst this;exact rX
        have cX:=a2 (fun hj dA iK ic lH=>by
         rw [zQ hj dA (oU hj ic) iK lH,CQ] at ic
         cases ic)
        have cI:=ho (fun hj dA iK hr lH=>by
         have:=zQ hj dA (by omega) hr lH
         omega)
        rw [cX,cI]
    · rw [a2 fun j q ay ar aO=>hex ⟨j,q,oU j ar,ay,aO⟩,ho fun j q iM ay aO=>hex ⟨j,q,by omega,ay,aO⟩]
   rw [Hl lF] at xx
   have fl:d<dj.tmps.size:=by
    have:=iJ (cO av).1 iN
    obtain ⟨_,_,_,s1⟩:=s1
    rw [s1.size];exact this
   show wpOp P ops _ i _ dj w'
   unfold wpOp
   rw [av]
   show if Region.wanted o (yielded ops dj.tmps) then _ else _
   refine Hp (cO av).1 (cO av).2 xx tl iN s1 fun hC gG v s2 xy P6=>?_
   rw [iN] at s2 ⊢
   have qm:∀j,(listed.setIfInBounds i true).getD j false=true→j=i∨listed.getD j false=true:=fun j ar=>by
    by_cases e:i=j
    · exact .inl e.symm
    · rw [getD_set_ne false e] at ar;exact .inr ar
   refine aQ (listed.setIfInBounds i true) (bb.put d (val i)) hC gG _ (by simp [jJ]) (fun j ar=>?_) (fun t=>?_) (fun j q e ay ar he ae=>?_) (fun t ao=>?_) (fun j q fu s ay ar I J ai aC=>?_) ?_ s2 (dL.trans xy)
   · rcases qm j ar with rfl|ar
     · exact ig
     · exact oU j ar
   · obtain ⟨dt,a2⟩:=eI t
     rw [uW]
     refine ⟨fun j q ay ar aO=>?_,fun hT=>?_⟩
     · by_cases e:d=t
       · subst e
         have lI:j<p:=by
          rcases qm j ar with rfl|ar
          · exact ig
          · exact oU j ar
         have:j=i:=D.apart j i q o lI ig ay av (by rw [aO,iN])
         subst this;simp
       · rw [if_neg e]
         have iM:i≠j:=by
          intro b9
          subst b9
          rw [av] at ay
          have P7:o=q:=by simpa using ay
          rw [←P7,iN] at aO
          exact e (by simpa using aO)
         rw [getD_set_ne false iM] at ar
         exact dt j q ay ar aO
     · have e:¬d=t:=fun e=>hT i o av (by simp [show i<listed.size by omega]) (by rw [iN,e])
       rw [if_neg e]
       exact a2 fun j q ay ar=>hT j q ay (getD_set_true ar)
   · rcases qm j ar with rfl|ar
     · rw [av] at ay;cases ay
       exact getD_set_true (qT e he ae)
     · exact getD_set_true (ih j q e ay ar he ae)
   · rw [Hx _ _ _ _ fl,if_neg (fun e=>ao i o ig av (by rw [iN,e]))]
     exact kU t ao
   · rw [Hx _ _ _ _ fl]
     by_cases e:d=fu
     · rw [if_pos e]
       have lI:j<p:=by
        rcases qm j ar with rfl|ar
        · exact ig
        · exact oU j ar
       have:j=i:=D.apart j i q o lI ig ay av (by rw [I,iN,e])
       subst this
       rw [av] at ay;cases ay
       rw [P6 s ai J]
       exact kU s aC
     · rw [if_neg e]
       rcases qm j ar with rfl|ar
       · rw [av] at ay;cases ay
         rw [iN] at I
         exact (e (by simpa using I)).elim
       · exact oT j q fu s ay ar I J ai aC
   · have CR:∀x,(!(listed.setIfInBounds i true).getD x false)=true→(!listed.getD x false)=true:=by
      intro x ah
      cases ar:listed.getD x false with
      |false=>rfl
      |true=>rw [getD_set_true ar] at ah;simp at ah
     have:=filter_lt (fun j=>!listed.getD j false) (fun j=>!(listed.setIfInBounds i true).getD j false) CR (List.range p) i (by simpa using ig) (by rw [rX];rfl) (by simp [show i<listed.size by omega])
     omega
 refine key ops.size (Array.replicate ops.size false) fr lim _ ca (by simp) (fun j ar=>?_) (fun t=>⟨fun j o ay ar=>?_,fun _=>rfl⟩) (fun j o e ay ar=>?_) (fun _ _=>rfl) (fun j o d s ay ar=>?_) ?_ (st.heap (w':={w with drawn:=w.drawn+1}) rfl) (dc.drew F w lim)
 · exfalso
   by_cases ay:j<ops.size
   · simp [Array.getD_eq_getD_getElem?,ay] at ar
   · simp [Array.getD_eq_getD_getElem?,ay] at ar
 · have:=bG ay
   simp [Array.getD_eq_getD_getElem?,this] at ar
 · have:=bG ay
   simp [Array.getD_eq_getD_getElem?,this] at ar
 · have:=bG ay
   simp [Array.getD_eq_getD_getElem?,this] at ar
 · have:=List.length_filter_le (fun j=>!(Array.replicate ops.size false).getD j false) (List.range p)
   rw [List.length_range] at this
   have:=D.le
   omega
theorem HA {ops:Array Oper}:∀(l:List Oper) {cs:List R} {fr:Fr} {K iD:Fr→Prop},(∀fr,K fr→iD fr)→hN P ops m cs l fr K→hN P ops m cs l fr iD:=by
 intro l
 induction l with
 |nil=>intro cs fr K iD U h;exact U _ h
 |cons o l aQ=>
  intro cs fr K iD U h
  simp only [hN] at h ⊢
  split at h
  · exact ⟨h.1,aQ U h.2⟩
  · exact h
end
end Go.bh
end
section
namespace Go.bh
open Go
def aa {α:Type} [Inhabited α] (xs:List α) (k:Int):α:=xs.getD k.toNat default
theorem wrap64 (n:Int) (I:-9223372036854775808≤n) (J:n≤9223372036854775807):IntKind.i64.wrap n=n:=
 GB .i64 n (by simp [IntKind.min,IntKind.signed,IntKind.bits];omega) (by simp [IntKind.max,IntKind.signed,IntKind.bits];omega)
theorem idx_eq {α:Type} [Inhabited α] (f:α→R) (xs:List α) (k:Int) (aq:0≤k) (I:k<xs.length):(xs.map f).getD k.toNat .aP=f (aa xs k):=by
 have:k.toNat<xs.length:=by omega
 simp [aa,List.getD_eq_getElem?_getD,this]
section
variable {P:Program} {n:Nat} {ops:Array Oper} {stl:List Nat} {r:List Oper} {K:Fr→ad→Prop} {fr:Fr} {m:ad} {d:Nat} {ty:TypeId} {pos:String} {af:Array Edge}
theorem HB {c:Code} {Q:Exit→Fr→ad→Prop} (ks:List Nat) (s6:(ks.all fun t=>decide (t<n))=true) (h:b7 P n c Q (fr.keep ks) m):b7 P n c Q fr m:=
 fun F lim w ca st=>h F lim w ca (st.keep (by simpa using s6))
theorem CS {t:TypeId} {l:List R} {off:Nat} (I:ef P t=true) (J:ld P t=false) (ai:off<l.length):jA P t l off:=⟨I,by simp [J,ai]⟩
theorem rY {t:TypeId} {l:List R} {off:Nat} (I:ef P t=true) (J:ld P t=true) (ai:off+P.cellsOf t≤l.length):jA P t l off:=⟨I,by simp [J,ai]⟩
end
end Go.bh
end
section
namespace Go.bh
open Go
theorem dD {b:Bool} (h:(!b)=true):b=false:=by simpa using h
theorem dC {b:Bool} (h:(!b)=false):b=true:=by simpa using h
theorem e4 {a b:Bool} (h:(a&&b)=true):a=true:=by cases a<;>simp_all
theorem fY {a b:Bool} (h:(a&&b)=true):b=true:=by cases a<;>simp_all
theorem fZ {a b:Bool} (h:(a&&b)=false):a=false∨b=false:=by cases a<;>simp_all
theorem bZ {a b:Bool} (h:(a||b)=false):a=false:=by cases a<;>simp_all
theorem c8 {a b:Bool} (h:(a||b)=false):b=false:=by cases a<;>simp_all
theorem da {a b:Bool} (h:(a||b)=true):a=true∨b=true:=by cases a<;>simp_all
theorem e9 {K:R→ad→Prop} {x y:R} {m:ad} (U:K x m) (h:x=y):K y m:=h▸U
def uY (n:Int):R:= .int .i64 n
def cf (s:List UInt8):R:= .str s
def uZ {α:Type} (f:α→R) (l:List α):R:= .slice false (l.map f)
def sub {α:Type} (l:List α) (p q:Int):List α:=(l.drop p.toNat).take (q- p).toNat
section
variable {P:Program} {n:Nat} {fr:Fr} {m:ad}
theorem CT {c:Code} {Q:Exit→Fr→ad→Prop} {σ:Type} (zR:σ→Fr) (zS:σ→ad) (gU:σ→Prop) (n8:σ→Nat) (me:σ) (aq:fr=zR me) (zT:m=zS me) (aM:gU me)
 (h:∀s,gU s→b7 P n c (Cg (fun bb m'=>∃hD,bb=zR hD∧m'=zS hD∧gU hD∧n8 hD<n8 s) Q) (zR s) (zS s)):b7 P n (.loop c) Q fr m:=by
 have conv:∀{F:Nat→Prop} {lim:Nat→Nat} {w:World} {hC:Nat→Nat} {gG:World},dc F w lim gG hC→∀K a lJ,Code.rounds P c (ni F hC gG n Q) K a lJ→Code.rounds P c (ni F lim w n Q) K a lJ:=by
  intro F lim w hC gG dL K
  induction K with
  |zero=>intro a lJ h;exact h.elim
  |succ K P8=>
   intro a lJ h
   refine wp_mono h fun e a HC q=>?_
   cases e with
   |normal=>exact P8 _ _ q
   |_=>exact ni.from dL q
 have key:∀N s,gU s→n8 s<N→∀F lim w ca,bd F lim w n (zR s) (zS s) ca []→Code.rounds P c (ni F lim w n Q) N ca w:=by
  intro N
  induction N with
  |zero=>intro s _ bG;omega
  |succ N aQ=>
   intro s al bG F lim w ca st
   refine wp_mono (h s al F lim w ca st) fun e a gG ⟨hC,rK,nj,q,u0,rL⟩=>?_
   cases e with
   |normal=>
    obtain ⟨hD,rfl,rfl,P9,jI⟩:=q
    exact conv rL _ _ _ (aQ hD P9 (by omega) F hC gG a u0)
   |_=>exact ⟨hC,rK,nj,q,u0,rL⟩
 intro F lim w ca st
 subst aq zT
 exact wp_loop_rounds (n8 me+1) (key _ me aM (Nat.lt_succ_self _) F lim w ca st)
variable {ops:Array Oper} {stl:List Nat} {r:List Oper} {K:Fr→ad→Prop} {d:Nat} {ty:TypeId} {pos:String} {af:Array Edge}
variable {cs:List R} {mf:Fr→Prop} {gd:Option (Nat×Bool)}
def tq:Op→Bool
 | .call ⟨.value (.func _),_,_⟩=>false
 | .call ⟨.value (.tmp _),_,_⟩=>false
 | .buildSlice _ _ _=>false
 | .build _ _=>false
 | .pick _ _ _=>false
 |_=>true
theorem CU {c:R} {o:Oper} (a8:eW ops fr o.guard=some true):pv P ops m c (a1 fr) o=kt P m c (a1 fr) o:=by
 unfold pv
 unfold eW at a8
 split
 · rfl
 · next j b gi=>
   rw [gi] at a8
   simp only at a8
   split
   · next g ay=>
     rw [ay] at a8
     simp only at a8
     rw [a8]
   · next ay=>rw [ay] at a8;cases a8
theorem HD {c:R} {o:Oper} (a8:eW ops fr o.guard=some false):pv P ops m c (a1 fr) o=some (True, .lazy false .aP):=by
 unfold pv
 unfold eW at a8
 split
 · next gi=>rw [gi] at a8;cases a8
 · next j b gi=>
   rw [gi] at a8
   simp only at a8
   split
   · next g ay=>
     rw [ay] at a8
     simp only at a8
     rw [a8]
   · next ay=>rw [ay] at a8;cases a8
theorem Qa (a8:eW ops fr gd=some true) {op:Op} {side:Prop} {x bR:R} (bI:tq op=true) (aO:bw P m (bx (a1 fr)) op=some (side,x)) (al:side) (ah:x=bR) (h:hN P ops m cs r (fr.put d bR) mf):
 hN P ops m cs (⟨some d,op,ty,pos,af,gd⟩::r) fr mf:=by
 subst ah
 have bp:kt P m (cs.headD .aP) (a1 fr) ⟨some d,op,ty,pos,af,gd⟩=some (side,x):=by
  unfold kt
  split
  · next h=>simp only at h;subst h;simp [tq] at bI
  · next h=>simp only at h;subst h;simp [tq] at bI
  · next h=>simp only at h;subst h;simp [tq] at bI
  · next h=>simp only at h;subst h;simp [tq] at bI
  · exact aO
 have ax:pv P ops m (cs.headD .aP) (a1 fr) ⟨some d,op,ty,pos,af,gd⟩=some (side,x):=by
  rw [CU a8,bp]
 have aI:∀zU,tq zU=true→(match zU with| .call ⟨.value (.func _),_,_⟩=>cs.tail|_=>cs)=cs:=by
  intro zU cb
  cases zU with
  |call c=>
   obtain ⟨callee,args,bC⟩:=c
   cases callee with
   |value o=>cases o<;>first|rfl|simp [tq] at cb
   |_=>rfl
  |_=>rfl
 simp only [hN,ax]
 refine ⟨al,?_⟩
 exact Eq.mpr (congrArg (fun z=>hN P ops m z r (dR fr (some d) x) mf) (aI op bI)) h
end
end Go.bh
end
section
namespace Go.bh
open Go
def u1 (P:Program) (o:Oper) (K:Fr→ad→Prop) (fr:Fr) (m:ad):Prop:=
 ∀n,eQ n o=true→gv n o=true→∀F lim w ca,bd F lim w n fr m ca []→
  ∃res v w' lim' bb m',(execOp ca.eval o).run P w= .ok res w'∧((res= .value v)∨(res= .skip∧v=undef))∧bd F lim' w' n bb m' (ca.put o.dst v) []∧dc F w lim w' lim'∧K bb m'
def hX (P:Program) (ops:Array Oper) (stl:List Nat) (o:Oper) (K:Fr→ad→Prop) (fr:Fr) (m:ad):Prop:=
 match o with
 |⟨dst,op,_,_,_,gd⟩=>
 match eW ops fr gd with
 |some true=>
  match op with
  | .pick c x y=>
    match bx (a1 fr) c with
    | .bool true=>K (dR fr dst (bx (a1 fr) x)) m
    | .bool false=>K (dR fr dst (bx (a1 fr) y)) m
    |_=>False
  | .box _ x=>(fV (a1 fr) x).eg=true∧∀b,m b=none→K (dR (fr.strip (nZ x)) dst (.ptr ⟨b,0,none⟩)) (m.bL b (some (.cells (fV (a1 fr) x).cells)))
  |_=>
   match eo P m (a1 fr) stl dst op with
   | .val side ss m' x=>side∧K (dR (fr.strip ss) dst x) m'
   | .p7 side ss m'=>side∧K (dR (fr.strip ss) dst .aP) m'
   | .new side ss mk gu=>side∧∀b,m b=none→K (dR (fr.strip ss) dst (mk b)) (m.bL b (some gu))
   | .call f args=>bn P f args m (zn K dst fr)
   | .stuck=>u1 P o K fr m
 |some false=>
  match dst with
  |some d=>K (fr.put d (.lazy false .aP)) m
  |none=>K fr m
 |none=>False
def cF (P:Program) (ops:Array Oper) (stl:List Nat):List Oper→(Fr→ad→Prop)→Fr→ad→Prop
 |[],K=>K
 |o::r,K=>hX P ops stl o (cF P ops stl r K)
section
variable {P:Program} {F:Nat→Prop} {lim:Nat→Nat} {w:World} {n:Nat} {fr:Fr} {m:ad} {ca:Act} {bu:List Nat}
theorem qU {ops:Array Oper} {o:Oper} {z:Bool} (st:bd F lim w n fr m ca bu) (aA:eW ops fr o.guard=some z):Region.wanted o (yielded ops ca.tmps)=z:=by
 unfold eW at aA
 split at aA
 · next a8=>obtain rfl:=Option.some.inj aA;simp [Region.wanted,a8]
 · next j b a8=>
   split at aA
   · next g ay=>
     obtain ⟨os,b6,bA,h⟩:=st
     cases ba:fr.get g with
     |none=>simp [a1,ba,rV] at aA
     |some x=>
      simp only [a1,ba,Option.getD_some] at aA
      obtain ⟨bG,au⟩:=h.dX g _ ba
      have jI:g<ca.tmps.size:=by rw [h.size];exact bG
      have xl:ca.tmps[g]?=some (ca.tmps.getD g undef):=by
       rw [Array.getElem?_eq_getElem jI]
       simp [Array.getD,jI]
      have:=Hm aA au
      simp only [Region.wanted,a8,yielded,ay,Option.bind_some,xl]
      rw [←this]
      generalize ca.tmps.getD g undef=v
      cases v<;>rfl
   · cases aA
theorem Qb {b:Nat} {cs:Array Value} {e:TypeId} {Ht:Nat×Nat} (ae:w.heap[b]?=some (.cells cs e Ht)):w.setRow b cs=w:=by
 have bG:b<w.heap.size:=(Array.getElem?_eq_some_iff.1 ae).1
 have:(w.heap.modify b fun| .cells _ elem frozen=> .cells cs elem frozen|o=>o)=w.heap:=by
  apply Array.ext (by simp)
  intro i ab eH
  rw [Array.getElem_modify]
  split
  · next e=>subst e;rw [Array.getElem?_eq_getElem bG] at ae;simp at ae;rw [ae]
  · rfl
 exact congrArg (fun h=>({w with heap:=h}:World)) this
theorem bd.Qc {t:TypeId} {x:Operand} (st:bd F lim w n fr m ca []) (ah:kl x=true) (al:∀t,x= .tmp t→t<n) (ao:(fV (a1 fr) x).eg=true):
 ∃lim',m w.heap.size=none∧bd F lim' (w.alloc (.cells (ca.eval x).cells t)) n (fr.strip (nZ x)) (m.bL w.heap.size (some (.cells (fV (a1 fr) x).cells))) ca []∧dc F w lim (w.alloc (.cells (ca.eval x).cells t)) lim':=by
 obtain ⟨os,s1,s2⟩:=st.G7 x ah al
 obtain ⟨oss,fH,c2,c3⟩:=zp s2 ao
 obtain ⟨dt,a2⟩:=s1.zg (ca.eval x).cells t (R.fe (fV (a1 fr) x).cells) (by rw [R.iI,List.length_map];exact fH) (fun i ab=>by
  rw [oJ]
  exact (c2 i (by simpa [R.iI] using ab)).plain)
 have km:=s1.rF
 have ee:=th st (.cells (ca.eval x).cells t)
 have bW:∀c,c∈os→c<w.heap.size:=fun c ag=>s2.Gy c ag
 have au:∀i,i<(fV (a1 fr) x).cells.length→aF (w.alloc (.cells (ca.eval x).cells t)) lim ((ca.eval x).cells.toList.getD i undef) ((fV (a1 fr) x).cells.getD i .aP) (oss i):=fun i ab=>by
  have ag:=c2 i ab
  have e:(ca.eval x).cells.toList.getD i undef=(ca.eval x).cells.getD i undef:=by simp [List.getD_eq_getElem?_getD,Array.getD_eq_getD_getElem?]
  rw [e]
  refine ag.fA (fun _=>Nat.le_refl _) ee.cell fun c lD=>⟨lC w _ c ?_,rfl⟩
  exact ag.Gy c lD
 have qm:=nV w (.cells (ca.eval x).cells t)
 obtain ⟨bH,ho⟩:=a2.GU (b:=w.heap.size) (off:=0) (l:=R.fe (fV (a1 fr) x).cells) (xs:=(fV (a1 fr) x).cells) (vs:=(ca.eval x).cells.toList) (oss:=oss) (by simp [ad.bL]) qm
  (by simp [R.iI]) (by simpa using fH) au c3
 have ar:(R.fe (fV (a1 fr) x).cells).length=(fV (a1 fr) x).cells.length:=by simp [R.iI]
 have ax:((ca.eval x).cells.toList.take 0++(ca.eval x).cells.toList++(ca.eval x).cells.toList.drop (0+(ca.eval x).cells.toList.length)).toArray=(ca.eval x).cells:=by
  rw [List.take_zero,List.nil_append,List.drop_of_length_le (by omega),List.append_nil]
 have aI:(R.fe (fV (a1 fr) x).cells).take 0++(fV (a1 fr) x).cells++(R.fe (fV (a1 fr) x).cells).drop (0+(fV (a1 fr) x).cells.length)=(fV (a1 fr) x).cells:=by
  rw [List.take_zero,List.nil_append,List.drop_of_length_le (by rw [ar];omega),List.append_nil]
 rw [ax,aI,Qb qm] at bH
 refine ⟨lim,dt,?_,ee⟩
 have cR:(m.bL w.heap.size (some (.cells (R.fe (fV (a1 fr) x).cells)))).bL w.heap.size (some (.cells (fV (a1 fr) x).cells))=m.bL w.heap.size (some (.cells (fV (a1 fr) x).cells)):=by
  funext c;simp only [ad.bL];split<;>rfl
 rw [cR] at bH
 exact bH
theorem Qd {ops:Array Oper} {stl:List Nat} {K:Fr→ad→Prop} {dst:Option Nat} {op:Op} {ty:TypeId} {pos:String} {af:Array Edge} {gd:Option (Nat×Bool)} (a8:eW ops fr gd=some true) (h:hX P ops stl ⟨dst,op,ty,pos,af,gd⟩ K fr m):
 (∃c x y b,op= .pick c x y∧bx (a1 fr) c= .bool b∧K (dR fr dst (bx (a1 fr) (if b then x else y))) m)∨
 (∃t x,op= .box t x∧(fV (a1 fr) x).eg=true∧∀b,m b=none→K (dR (fr.strip (nZ x)) dst (.ptr ⟨b,0,none⟩)) (m.bL b (some (.cells (fV (a1 fr) x).cells))))∨oQ P ops stl ⟨dst,op,ty,pos,af,none⟩ K fr m∨u1 P ⟨dst,op,ty,pos,af,gd⟩ K fr m:=by
 simp only [hX,a8] at h
 split at h
 · next c x y=>
   split at h
   · next ag=>exact .inl ⟨c,x,y,true,rfl,ag,h⟩
   · next ag=>exact .inl ⟨c,x,y,false,rfl,ag,h⟩
   · exact h.elim
 · next t x=>exact .inr (.inl ⟨t,x,rfl,h⟩)
 · refine .inr (.inr ?_)
   simp only [oQ]
   cases aH:eo P m (a1 fr) stl dst op with
   |val side ss m' x=>rw [aH] at h;exact .inl h
   |p7 side ss m'=>rw [aH] at h;exact .inl h
   |new side ss mk gu=>rw [aH] at h;exact .inl h
   |call f args=>rw [aH] at h;exact .inl h
   |stuck=>rw [aH] at h;exact .inr h
theorem u1.mono {o:Oper} {K iD:Fr→ad→Prop} (U:∀fr m,K fr m→iD fr m) (h:u1 P o K fr m):u1 P o iD fr m:=fun n I J F lim w ca st=>by
 obtain ⟨res,v,w',lim',bb,m',a,b,c,d,e⟩:=h n I J F lim w ca st
 exact ⟨res,v,w',lim',bb,m',a,b,c,d,U _ _ e⟩
theorem Qe {ops:Array Oper} {stl:List Nat} {o:Oper} {K iD:Fr→ad→Prop} (U:∀fr m,K fr m→iD fr m) (h:hX P ops stl o K fr m):hX P ops stl o iD fr m:=by
 obtain ⟨dst,op,ty,pos,af,gd⟩:=o
 unfold hX at h ⊢
 simp only at h ⊢
 split at h
 · split at h
   · split at h
     · exact U _ _ h
     · exact U _ _ h
     · exact h
   · exact ⟨h.1,fun b ae=>U _ _ (h.2 b ae)⟩
   · have aH:=fun h=>Pq (P:=P) (stl:=stl) (fr:=fr) (m:=m) (ops:=ops) (o:=⟨dst,op,ty,pos,af,none⟩) (K:=K) U h
     simp only [oQ] at aH
     cases au:eo P m (a1 fr) stl dst op with
     |val side ss m' x=>rw [au] at h aH;exact aH h
     |p7 side ss m'=>rw [au] at h aH;exact aH h
     |new side ss mk gu=>rw [au] at h aH;exact aH h
     |call f args=>rw [au] at h aH;exact aH h
     |stuck=>rw [au] at h;exact u1.mono U h
 · split at h<;>exact U _ _ h
 · exact h
theorem xz {ops:Array Oper} {stl:List Nat} {o:Oper} {l:List Oper} {K:Fr→ad→Prop} (aj:eQ n o=true) (aL:gv n o=true) (h:hX P ops stl o (bQ P n ops l K) fr m):bQ P n ops (o::l) K fr m:=by
 obtain ⟨dst,op,ty,pos,af,gd⟩:=o
 cases aA:eW ops fr gd with
 |none=>simp [hX,aA] at h
 |some z=>
  cases z with
  |true=>
   rcases Qd aA h with ⟨c,x,y,b,rfl,ag,h⟩|⟨t,x,rfl,ao,h⟩|h|h
   · intro F lim w ca Q st aO
     unfold wpList
     rw [if_pos (qU st aA)]
     refine .inl ?_
     have hm:(if b then x else y)∈(Op.pick c x y).operands.toList:=by cases b<;>simp [Op.operands]
     obtain ⟨_,CV,rfl⟩:=wP st (hV aj c (by simp [Op.operands]))
     rw [←wX,ag] at CV
     have u2:ca.eval c= .bool b:=by
      generalize ca.eval c=v at CV
      cases CV
      rfl
     obtain ⟨_,xp,rfl⟩:=wP st (hV aj (if b then x else y) hm)
     rw [←wX] at xp
     refine nk (v:=ca.eval (if b then x else y)) ?_ (h.from aO (st.dR (fun t ao=>iJ aj ao) xp) (.refl _ _ _))
     cases b<;>simp [execOp,u2,asBool]
   · intro F lim w ca Q st aO
     unfold wpList
     rw [if_pos (qU st aA)]
     refine .inl ?_
     obtain ⟨lim',I,J,ai⟩:=st.Qc (t:=t) (x:=x) (hV aj x (by simp [Op.operands])) (zE aL (by simp [Op.operands])) ao
     refine nk (v:= .pointer (some ⟨w.heap.size,0,none⟩)) (w':=w.alloc (.cells (ca.eval x).cells t)) (by simp [execOp,Instr.box,newVar,newRow]) ?_
     exact (h _ I).from aO (J.dR (fun t ao=>iJ aj ao) (.ptr _)) ai
   · have cb:=xm (o:=⟨dst,op,ty,pos,af,none⟩) aj aL h
     intro F lim w ca Q st aO
     have:=cb F lim w ca Q st aO
     unfold wpList at this ⊢
     rw [if_pos (by simp [Region.wanted])] at this
     rw [if_pos (qU st aA)]
     exact this
   · intro F lim w ca Q st aO
     unfold wpList
     rw [if_pos (qU st aA)]
     refine .inl ?_
     obtain ⟨res,v,w',lim',bb,m',I,J,ai,aC,aN⟩:=h n aj aL F lim w ca st
     rcases J with rfl|⟨rfl,rfl⟩
     · exact nk I (aN.from aO ai aC)
     · exact Ck I (aN.from aO ai aC)
  |false=>
   simp only [hX,aA] at h
   intro F lim w ca Q st aO
   unfold wpList
   rw [if_neg (by rw [qU (o:=⟨dst,op,ty,pos,af,gd⟩) st aA];simp)]
   split at h
   · next d=>
     refine bQ.from h aO ?_ (.refl _ _ _)
     exact st.set (iJ aj rfl) (.mD _)
   · refine bQ.from h aO ?_ (.refl _ _ _)
     exact st
theorem HE {ops:Array Oper} {stl:List Nat}:∀(l:List Oper) {K:Fr→ad→Prop} {fr:Fr} {m:ad},(∀o∈l,eQ n o=true∧gv n o=true)→cF P ops stl l K fr m→bQ P n ops l K fr m:=by
 intro l
 induction l with
 |nil=>intro K fr m _ h;exact bQ.nil h
 |cons o l aQ=>
  intro K fr m aj h
  have av:=aj o (by simp)
  exact xz av.1 av.2 (Qe (fun fr m au=>aQ (fun dn ns=>aj dn (by simp [ns])) au) h)
theorem n9 {id:Nat} {ops:Array Oper} {Q:Exit→Fr→ad→Prop} (stl ks:List Nat) (aj:iL n ops ks=true) (h:∀K:Fr→ad→Prop,(∀fr m,Q .normal fr m→K fr m)→cF P ops stl ops.toList (fun fr m=>K (fr.keep ks) m) fr m):b7 P n (.region id ops false) Q fr m:=by
 simp only [iL,Bool.and_eq_true,List.all_eq_true] at aj
 exact GQ ks (by simpa [List.all_eq_true] using aj.2) (HE _ (fun o av=>by simpa using aj.1 o av) (h _ fun _ _ h=>h))
theorem mL {id:Nat} {ops:Array Oper} {c:Code} {Q:Exit→Fr→ad→Prop} (stl ks:List Nat) (aj:iL n ops ks=true) (h:∀K:Fr→ad→Prop,(∀fr m,b7 P n c Q fr m→K fr m)→cF P ops stl ops.toList (fun fr m=>K (fr.keep ks) m) fr m):b7 P n (.seq (.region id ops false) c) Q fr m:=
 rJ fun K U=>n9 stl ks aj fun iD xA=>h iD fun fr m h=>xA _ _ (U _ _ h)
variable {ops:Array Oper} {stl:List Nat} {r:List Oper} {K:Fr→ad→Prop} {d:Nat} {ty:TypeId} {pos:String} {af:Array Edge} {gd:Option (Nat×Bool)}
def CW:Op→Bool
 | .pick _ _ _=>false
 | .box _ _=>false
 |_=>true
theorem ga {op:Op} (a8:eW ops fr gd=some false) (h:cF P ops stl r K (fr.put d (.lazy false .aP)) m):cF P ops stl (⟨some d,op,ty,pos,af,gd⟩::r) K fr m:=by
 simp only [cF,hX,a8]
 exact h
theorem xB {op:Op} {side:Prop} {x bR:R} (a8:eW ops fr gd=some true) (aB:CW op=true) (bI:eo P m (a1 fr) stl (some d) op=(match bw P m (bx (a1 fr)) op with|some (side,x)=> .val side [] m x|none=> .stuck))
 (aO:bw P m (bx (a1 fr)) op=some (side,x)) (al:side) (ah:x=bR) (h:cF P ops stl r K (fr.put d bR) m):cF P ops stl (⟨some d,op,ty,pos,af,gd⟩::r) K fr m:=by
 subst ah
 simp only [cF,hX,a8]
 split
 · simp [CW] at aB
 · simp [CW] at aB
 · simp only [bI,aO]
   exact ⟨al,h⟩
theorem zV {T CX:TypeId} {x y:Operand} {a b:Int} (a8:eW ops fr gd=some true) (ah:bx (a1 fr) x= .int .i64 a) (aE:bx (a1 fr) y= .int .i64 b) (bD:-9223372036854775808≤a+b) (ab:a+b≤9223372036854775807)
 (h:cF P ops stl r K (fr.put d (.int .i64 (a+b))) m):cF P ops stl (⟨some d, .binOp .add T x y CX,ty,pos,af,gd⟩::r) K fr m:=
 xB (side:=True) (x:= .int .i64 (IntKind.i64.wrap (a+b))) a8 rfl rfl (by simp only [bw,ah,aE,mE,nW,if_true]) trivial (by rw [wrap64 _ bD ab]) h
theorem Qf {T CX:TypeId} {x y:Operand} {a b:Int} (a8:eW ops fr gd=some true) (ah:bx (a1 fr) x= .int .i64 a) (aE:bx (a1 fr) y= .int .i64 b) (bD:-9223372036854775808≤a- b) (ab:a- b≤9223372036854775807)
 (h:cF P ops stl r K (fr.put d (.int .i64 (a- b))) m):cF P ops stl (⟨some d, .binOp .sub T x y CX,ty,pos,af,gd⟩::r) K fr m:=
 xB (side:=True) (x:= .int .i64 (IntKind.i64.wrap (a- b))) a8 rfl rfl (by simp only [bw,ah,aE,mE,nW,if_true]) trivial (by rw [wrap64 _ bD ab]) h
theorem Qg (a8:eW ops fr gd=some true) {α:Type} [Inhabited α] (f:α→R) (xs:List α) (k:Int) {own:Bool} {cM:IntKind} {t e:TypeId} {x i:Operand} {l:List R} (ao:P.underlying t=some (.slice e)) (ah:bx (a1 fr) x= .slice own l) (ar:l=xs.map f) (ab:bx (a1 fr) i= .int cM k)
 (lf:ef P e=true) (ag:P.cellsOf e≠0) (aW:∀a,(f a).cells.length=P.cellsOf e) (aq:0≤k) (I:k<xs.length) (h:cF P ops stl r K (fr.put d (.ref (f (aa xs k)).cells)) m):
 cF P ops stl (⟨some d, .indexAddr t x i,ty,pos,af,gd⟩::r) K fr m:=by
 subst ar
 refine xB (side:=ef P e=true∧P.cellsOf e≠0∧0≤k∧k<(xs.map f).length∧((xs.map f).getD k.toNat .aP).cells.length=P.cellsOf e) (x:= .ref ((xs.map f).getD k.toNat .aP).cells) a8 rfl rfl ?_ ⟨lf,ag,aq,by simpa using I,by rw [idx_eq f xs k aq I];exact aW _⟩ (by rw [idx_eq f xs k aq I]) h
 simp only [bw,ao,ah,ab]
theorem Qh (a8:eW ops fr gd=some true) {α:Type} (f:α→R) (xs:List α) {own:Bool} {t e:TypeId} {x:Operand} {l:List R} (ao:P.underlying t=some (.slice e)) (ah:bx (a1 fr) x= .slice own l) (ar:l=xs.map f)
 (h:cF P ops stl r K (fr.put d (.int .i64 xs.length)) m):cF P ops stl (⟨some d, .call ⟨.builtin .len,#[x],#[t]⟩,ty,pos,af,gd⟩::r) K fr m:=by
 subst ar
 exact xB (side:=True) (x:= .int .i64 (xs.map f).length) a8 rfl rfl (by simp [bw,ao,ah]) trivial (by simp) h
theorem Qi (a8:eW ops fr gd=some true) {α:Type} (f:α→R) (xs cV:List α) {own:Bool} {t e:TypeId} {s:Nat} {y:Operand} {l l':List R} (ao:P.underlying t=some (.slice e)) (ah:a1 fr s= .slice true l) (ar:l=xs.map f) (aE:bx (a1 fr) y= .slice own l') (ic:l'=cV.map f)
 (lf:ef P e=true) (ag:0<P.cellsOf e) (aA:kp P e=true) (ae:(xs.length+cV.length)*P.bytesOf e≤140737488355328) (iO:xs.length+cV.length≤140737488355328) (aW:∀a,(f a).cells.length=P.cellsOf e∧(f a).cells.all R.one=true)
 (h:cF P ops stl r K ((fr.put s (.slice false (xs.map f))).put d (.slice true ((xs++cV).map f))) m):cF P ops stl (⟨some d, .call ⟨.builtin .append,#[.tmp s,y],#[t,t]⟩,ty,pos,af,gd⟩::r) K fr m:=by
 subst ar ic
 simp only [cF,hX,a8,eo,ao,ah,aE]
 refine ⟨⟨trivial,lf,ag,aA,by simpa using ae,by simpa using iO,fun x ah=>?_,fun x ah=>?_⟩,?_⟩
 · obtain ⟨a,_,rfl⟩:=List.mem_map.1 ah
   exact (aW a).1
 · obtain ⟨a,_,rfl⟩:=List.mem_map.1 ah
   exact aW a
 · simp only [Fr.strip,ah,R.plain,dR,←List.map_append]
   exact h
theorem bd.conv {bb:Fr} (h:bd F lim w n fr m ca bu) (ag:∀t bR,bb.get t=some bR→∃x,fr.get t=some x∧∀v os,aF w lim v x os→aF w lim v bR os):bd F lim w n bb m ca bu:=by
 obtain ⟨os,b6,bA,h⟩:=h
 refine ⟨os,b6,bA,h.size,h.defers,fun t x ah=>?_,h.mem,fun t x ah=>?_,h.ds,h.fL,h.free,h.fresh⟩
 · obtain ⟨y,aE,au⟩:=ag t x ah
   exact ⟨(h.dX t y aE).1,au _ _ (h.dX t y aE).2⟩
 · obtain ⟨y,aE,au⟩:=ag t x ah
   exact h.ey t y aE
def R.toErr (T:TypeId):R→R
 | .nilIface=> .err T 0
 | .iface u (.int .i64 c)=>if u=T∧c≠0 then .err T c else .iface u (.int .i64 c)
 |x=>x
theorem toErr_rep (T:TypeId) {v:Value} {x:R} {os:List Nat} (h:aF w lim v x os):aF w lim v (x.toErr T) os:=by
 cases h with
 |nilIface=>exact .l2 T
 |iface t v x h=>
  unfold R.toErr
  split
  · next he=>cases he
  · next u c he=>
    cases he
    split
    · next ag=>
      obtain ⟨rfl,aq⟩:=ag
      cases h with
      |int _ _ bD ab=>exact .jb _ _ aq bD ab
    · exact .iface _ _ _ h
  · exact .iface _ _ _ h
 |bool b=>exact .bool b
 |int k n bD ab=>exact .int k n bD ab
 |str s h=>exact .str s h
 |ptr a=>exact .ptr a
 |fc=>exact .fc
 |ref b off l cv I J ai=>exact .ref b off l cv I J ai
 |fz own=>exact .fz own
 |empty a cap hm=>exact .empty a cap hm
 |slice b off n cap sz l cv aL dT hm cU b2 ek ag au=>exact .slice b off n cap sz l cv aL dT hm cU b2 ek ag au
 |own b n cap sz l cv cur e aL dT hm cU aq ae ib b2 ek ag au=>exact .own b n cap sz l cv cur e aL dT hm cU aq ae ib b2 ek ag au
 |ms a len cap h hm=>exact .ms a len cap h hm
 |map b=>exact .map b
 |jS=>exact .jS
 |func fn f c bu fK aW ag wM wN=>exact .func fn f c bu fK aW ag wM wN
 |kP=>exact .kP
 |pq a=>exact .pq a
 |l2 t=>exact .l2 t
 |jb t e h bD ab=>exact .jb t e h bD ab
 |mB=>exact .mB
 |mC t v=>exact .mC t v
 |agg cs xs os h au=>exact .agg cs xs os h au
 |tuple cs xs os h au=>exact .tuple cs xs os h au
 |pr v x os h=>exact .pr v x os h
 |mD x=>exact .mD x
 |aP v=>exact .aP v
def Fr.toErr (T:TypeId) (bC:List Nat) (fr:Fr):Fr:=fr.map fun p=>if bC.contains p.1 then (p.1,p.2.toErr T) else p
theorem Fr.HF (T:TypeId) (bC:List Nat) (t:Nat):∀fr:Fr,(Fr.toErr T bC fr).get t=if bC.contains t then (fr.get t).map (R.toErr T) else fr.get t:=by
 intro fr
 induction fr with
 |nil=>simp [Fr.toErr,Fr.get]
 |cons p fr aQ=>
  obtain ⟨s,x⟩:=p
  unfold Fr.toErr at aQ ⊢
  rw [List.map_cons]
  by_cases ag:bC.contains s
  · rw [if_pos ag]
    simp only [Fr.get]
    by_cases al:s=t
    · subst al;rw [if_pos rfl,if_pos ag,if_pos rfl];rfl
    · rw [if_neg al,if_neg al,aQ]
  · rw [if_neg ag]
    simp only [Fr.get]
    by_cases al:s=t
    · subst al;rw [if_pos rfl,if_neg ag,if_pos rfl]
    · rw [if_neg al,if_neg al,aQ]
theorem mM {c:Code} {Q:Exit→Fr→ad→Prop} (T:TypeId) (bC:List Nat) (h:b7 P n c Q (fr.toErr T bC) m):b7 P n c Q fr m:=
 fun F lim w ca st=>h F lim w ca (st.conv fun t bR ah=>by
  rw [Fr.HF] at ah
  split at ah
  · cases a8:fr.get t with
    |none=>rw [a8] at ah;cases ah
    |some x=>
     rw [a8] at ah
     cases ah
     exact ⟨x,rfl,fun v os au=>toErr_rep T au⟩
  · exact ⟨bR,ah,fun v os au=>au⟩)
def jk (a:Int):UInt8:=UInt8.ofNat (IntKind.u8.wrap a).toNat
theorem CY (a:Int):((jk a).toNat:Int)=IntKind.u8.wrap a:=by
 have I:=(oM .u8 a).1
 have J:=(oM .u8 a).2
 simp [IntKind.min,IntKind.max,IntKind.signed,IntKind.bits] at I J
 simp [jk]
 omega
variable {cs:List R} {mf:Fr→Prop}
end
end Go.bh
end
section
namespace Go.bh
open Go
def ad.aX (m:ad):List (Nat×ed)→ad
 |[]=>m
 |(b,o)::r=>(ad.aX m r).bL b (some o)
theorem nt {m:ad} {b:Nat}:∀{L:List (Nat×ed)},b∉L.map Prod.fst→m.aX L b=m b:=by
 intro L
 induction L with
 |nil=>intro _;rfl
 |cons p L aQ=>
  obtain ⟨c,o⟩:=p
  intro h
  simp only [List.map_cons,List.mem_cons,not_or] at h
  show (if b=c then some o else m.aX L b)=m b
  rw [if_neg h.1,aQ h.2]
theorem oa {m:ad} {b:Nat} {o:ed}:∀{L:List (Nat×ed)} (i:Nat),(L.map Prod.fst).Nodup→L[i]?=some (b,o)→m.aX L b=some o:=by
 intro L
 induction L with
 |nil=>intro i _ h;simp at h
 |cons p L aQ=>
  obtain ⟨c,dn⟩:=p
  intro i cd h
  simp only [List.map_cons,List.nodup_cons] at cd
  cases i with
  |zero=>
   simp at h
   obtain ⟨rfl,rfl⟩:=h
   show (if c=c then some dn else _)=_
   rw [if_pos rfl]
  |succ i=>
   simp at h
   have ae:b∈L.map Prod.fst:=List.mem_map.2 ⟨(b,o),List.mem_of_getElem? h,rfl⟩
   show (if b=c then some dn else m.aX L b)=_
   rw [if_neg (fun (e:b=c)=>cd.1 (e▸ae)),aQ i cd.2 h]
theorem xC {m:ad} {b:Nat} {o dn:ed}:∀{L:List (Nat×ed)} (i:Nat),(L.map Prod.fst).Nodup→L[i]?=some (b,o)→(m.aX L).bL b (some dn)=m.aX (L.set i (b,dn)):=by
 intro L
 induction L with
 |nil=>intro i _ h;simp at h
 |cons p L aQ=>
  obtain ⟨c,zW⟩:=p
  intro i cd h
  simp only [List.map_cons,List.nodup_cons] at cd
  cases i with
  |zero=>
   simp at h
   obtain ⟨rfl,rfl⟩:=h
   funext x
   show (if x=c then some dn else if x=c then some zW else m.aX L x)=(if x=c then some dn else m.aX L x)
   by_cases ah:x=c<;>simp [ah]
  |succ i=>
   simp at h
   have ae:b∈L.map Prod.fst:=List.mem_map.2 ⟨(b,o),List.mem_of_getElem? h,rfl⟩
   have CZ:b≠c:=fun (e:b=c)=>cd.1 (e▸ae)
   funext x
   have:=congrFun (aQ i cd.2 h) x
   show (if x=b then some dn else if x=c then some zW else m.aX L x)=(if x=c then some zW else m.aX (L.set i (b,dn)) x)
   rw [←this]
   show _=(if x=c then some zW else if x=b then some dn else m.aX L x)
   by_cases ah:x=b
   · subst ah;simp [CZ]
   · simp [ah]
theorem C0 {m:ad} {b:Nat}:∀{L:List (Nat×ed)},m.aX L b=none→b∉L.map Prod.fst∧m b=none:=by
 intro L
 induction L with
 |nil=>intro h;exact ⟨by simp,h⟩
 |cons p L aQ=>
  obtain ⟨c,o⟩:=p
  intro h
  have cb:(if b=c then some o else m.aX L b)=none:=h
  by_cases ae:b=c
  · rw [if_pos ae] at cb;cases cb
  · rw [if_neg ae] at cb
    have:=aQ cb
    exact ⟨by simp [ae];simpa using this.1,this.2⟩
theorem u3 {m:ad} {b:Nat} {L:List (Nat×ed)} (h:m.aX L b=none) (cd:(L.map Prod.fst).Nodup):(b::L.map Prod.fst).Nodup:=
 List.nodup_cons.2 ⟨(C0 h).1,cd⟩
theorem u4 {m:ad} {b:Nat} {L:List (Nat×ed)} (h:m.aX L b=none):m b=none:=(C0 h).2
theorem Qj {m:ad} {b:Nat} {o:ed} {L:List (Nat×ed)} (ae:m b=some o) (cE:∀c∈L.map Prod.fst,m c=none):m.aX L b=some o:=by
 rw [nt (fun h=>by rw [cE b h] at ae;cases ae),ae]
theorem ob {m:ad} (ku jZ:List (Nat×ed)) (cd:((ku++jZ).map Prod.fst).Nodup) (cE:∀c∈ku.map Prod.fst,m c=none):∀b o,m.aX jZ b=some o→m.aX (ku++jZ) b=some o:=by
 induction ku with
 |nil=>exact fun _ _ h=>h
 |cons p ku aQ=>
  obtain ⟨c,dn⟩:=p
  intro b o ae
  simp only [List.cons_append,List.map_cons,List.nodup_cons] at cd
  have h:=aQ cd.2 (fun x ah=>cE x (by simp [ah])) b o ae
  have CZ:b≠c:=by
   rintro rfl
   have I:b∉jZ.map Prod.fst:=fun ah=>cd.1 (by simp only [List.map_append,List.mem_append];exact .inr ah)
   rw [nt I,cE b (by simp)] at ae
   cases ae
  show (if b=c then some dn else m.aX (ku++jZ) b)=some o
  rw [if_neg CZ,h]
theorem Qk (m:ad) (L bJ:List (Nat×ed)):m.aX (L++bJ)=(m.aX bJ).aX L:=by
 induction L with
 |nil=>rfl
 |cons p L aQ=>obtain ⟨c,o⟩:=p;show (ad.aX m (L++bJ)).bL c (some o)=((m.aX bJ).aX L).bL c (some o);rw [aQ]
theorem C1 {m:ad} {L bJ:List (Nat×ed)} (cd:(L.map Prod.fst).Nodup) (aB:L.Perm bJ):m.aX L=m.aX bJ:=by
 have Ql:(bJ.map Prod.fst).Nodup:=(aB.map Prod.fst).nodup_iff.1 cd
 funext x
 by_cases ah:x∈L.map Prod.fst
 · obtain ⟨⟨c,o⟩,hm,rfl⟩:=List.mem_map.1 ah
   obtain ⟨i,ab⟩:=List.mem_iff_getElem?.1 hm
   obtain ⟨j,ay⟩:=List.mem_iff_getElem?.1 (aB.mem_iff.1 hm)
   rw [oa i cd ab,oa j Ql ay]
 · have xD:x∉bJ.map Prod.fst:=fun h=>ah ((aB.map Prod.fst).mem_iff.2 h)
   rw [nt ah,nt xD]
theorem C2 {m:ad} {L ku jZ:List (Nat×ed)} (cd:(L.map Prod.fst).Nodup) (aB:L.Perm (ku++jZ)):m.aX L=(m.aX jZ).aX ku:=by
 rw [C1 cd aB,Qk]
section
variable {P:Program} {n:Nat} {fr:Fr} {m:ad} {ops:Array Oper} {stl:List Nat} {r:List Oper} {K:Fr→ad→Prop} {d:Nat} {ty:TypeId} {pos:String} {af:Array Edge} {gd:Option (Nat×Bool)} {L:List (Nat×ed)}
theorem C3 (a8:eW ops fr gd=some true) {t:TypeId} {x:Operand} {v:R} (ah:fV (a1 fr) x=v) (ao:v.eg=true) (h:∀b,m.aX L b=none→cF P ops stl r K ((fr.strip (nZ x)).put d (.ptr ⟨b,0,none⟩)) (m.aX ((b, .cells v.cells)::L))):
 cF P ops stl (⟨some d, .box t x,ty,pos,af,gd⟩::r) K fr (m.aX L):=by
 subst ah
 simp only [cF,hX,a8]
 exact ⟨ao,h⟩
theorem Qm (a8:eW ops fr gd=some true) {t:TypeId} {z:R} (aA:hG P t=some z) (ao:z.eg=true) (h:∀b,m.aX L b=none→cF P ops stl r K (fr.put d (.ptr ⟨b,0,none⟩)) (m.aX ((b, .cells z.cells)::L))):
 cF P ops stl (⟨some d, .alloc t,ty,pos,af,gd⟩::r) K fr (m.aX L):=by
 simp only [cF,hX,a8,eo,aA]
 exact ⟨ao,h⟩
theorem HG (a8:eW ops fr gd=some true) {t:TypeId} {x:Operand} {b off:Nat} {l:List R} {v:R} (ah:bx (a1 fr) x= .ptr ⟨b,off,none⟩) (hm:m.aX L b=some (.cells l)) (bW:stl.contains d=false) (cO:jA P t l off) (bc:(apart P t l off).plain=v)
 (h:cF P ops stl r K (fr.put d v) (m.aX L)):cF P ops stl (⟨some d, .load t x,ty,pos,af,gd⟩::r) K fr (m.aX L):=by
 subst bc
 simp only [cF,hX,a8,eo,Option.map_some,Option.getD_some,bW,bw,ah,hm]
 exact ⟨cO,h⟩
theorem C4 (a8:eW ops fr gd=some true) {t:TypeId} {x:Operand} {b off i:Nat} {l:List R} (ah:bx (a1 fr) x= .ptr ⟨b,off,none⟩) (cd:(L.map Prod.fst).Nodup) (ab:L[i]?=some (b, .cells l)) (bW:stl.contains d=true) (lf:ef P t=true) (aH:ld P t=false) (av:off<l.length)
 (h:cF P ops stl r K (fr.put d (l.getD off .aP)) (m.aX (L.set i (b, .cells (l.set off (l.getD off .aP).plain))))):cF P ops stl (⟨some d, .load t x,ty,pos,af,gd⟩::r) K fr (m.aX L):=by
 have hm:=oa (m:=m) i cd ab
 simp only [cF,hX,a8,eo,Option.map_some,Option.getD_some,bW,ah,hm,if_true]
 refine ⟨⟨lf,aH,av⟩,?_⟩
 rw [xC i cd ab]
 exact h
theorem Qn (a8:eW ops fr gd=some true) (i:Nat) {t:TypeId} {a x:Operand} {b off:Nat} {l l':List R} {v:R} (aH:bx (a1 fr) a= .ptr ⟨b,off,none⟩) (ah:fV (a1 fr) x=v) (cd:(L.map Prod.fst).Nodup) (ab:L[i]?=some (b, .cells l))
 (I:v.eg=true) (J:v.cells.all R.one=true) (ai:v.cells.length=P.cellsOf t) (lf:ef P t=true) (av:off+P.cellsOf t≤l.length) (ar:l.take off++v.cells++l.drop (off+P.cellsOf t)=l')
 (h:cF P ops stl r K (fr.strip (nZ x)) (m.aX (L.set i (b, .cells l')))):cF P ops stl (⟨none, .store t a x,ty,pos,af,gd⟩::r) K fr (m.aX L):=by
 subst ar
 have hm:=oa (m:=m) i cd ab
 simp only [cF,hX,a8,eo,aH,hm]
 refine ⟨⟨by rw [ah];exact I,by rw [ah];exact J,by rw [ah];exact ai,lf,av⟩,?_⟩
 rw [xC i cd ab,ah]
 exact h
theorem u5 {m' nj:ad} {l:List Oper} (e:m'=nj) (h:cF P ops stl l K fr nj):cF P ops stl l K fr m':=e▸h
end
end Go.bh
end
section
namespace Go.bh
open Go
def b8 (P:Program) (n:Nat) (ops:Array Oper) (fuel:Nat) (listed:Array Bool) (K:Fr→ad→Prop) (fr:Fr) (m:ad):Prop:=
 ∀F lim w ca Q,bd F lim w n fr m ca []→(∀lim' w' bb m' dj,K bb m'→bd F lim' w' n bb m' dj []→dc F w lim w' lim'→Q Exit.normal dj w')→wpAny P .any ops Q fuel listed ca w
def C5 (p:Nat→Prop):List Nat→Prop
 |[]=>True
 |i::r=>p i∧C5 p r
theorem Qo {p:Nat→Prop}:∀{l:List Nat},C5 p l→∀i∈l,p i:=by
 intro l
 induction l with
 |nil=>intro _ i ab;cases ab
 |cons j l aQ=>
  intro h i ab
  rcases List.mem_cons.1 ab with rfl|ab
  · exact h.1
  · exact aQ h.2 i ab
section
variable {P:Program} {n:Nat} {fr:Fr} {m:ad} {ops:Array Oper} {fuel:Nat} {listed:Array Bool} {K:Fr→ad→Prop}
theorem b8.done (au:Region.ready .any ops listed=[]) (h:K fr m):b8 P n ops fuel listed K fr m:=by
 intro F lim w ca Q st aO
 have:=aO lim w fr m ca h st (.refl _ _ _)
 cases fuel with
 |zero=>exact ⟨au,this⟩
 |succ fuel=>exact ⟨fun _=>this,fun i ab=>by rw [au] at ab;cases ab⟩
theorem b8.keep (ks:List Nat) (s6:(ks.all fun t=>decide (t<n))=true) (h:b8 P n ops fuel listed K (fr.keep ks) m):b8 P n ops fuel listed K fr m:=
 fun F lim w ca Q st aO=>h F lim w ca Q (st.keep (by simpa using s6)) aO
theorem b8.step (stl:List Nat) (rs:List Nat) (au:Region.ready .any ops listed=rs) (eB:rs≠[]) (aj:(ops.toList.all fun o=>eQ n o&&gv n o)=true)
 (h:C5 (fun i=>match ops[i]? with|some o=>cF P ops stl [o] (b8 P n ops fuel (listed.setIfInBounds i true) K) fr m|none=>False) rs):b8 P n ops (fuel+1) listed K fr m:=by
 intro F lim w ca Q st aO
 refine ⟨fun aq=>absurd (au.symm.trans aq) eB,fun i ab=>?_⟩
 rw [au] at ab
 have al:=Qo h i ab
 unfold wpOp
 cases av:ops[i]? with
 |none=>rw [av] at al;exact al.elim
 |some o=>
  rw [av] at al
  simp only at al ⊢
  have cO:eQ n o=true∧gv n o=true:=by
   have:=List.all_eq_true.1 aj o (by rw [Array.mem_toList_iff];exact Array.mem_of_getElem? av)
   simpa using this
  have key:bQ P n ops [o] (b8 P n ops fuel (listed.setIfInBounds i true) K) fr m:=HE [o] (by simpa using cO) al
  let ha:Exit→Act→World→Prop:=fun e a w'=>match e with
   | .normal=>wpAny P .any ops Q fuel (listed.setIfInBounds i true) a w'
   |e=>Q e a w'
  have hw:=key F lim w ca ha st (fun lim' w' bb m' dj ck fM dL=>ck F lim' w' dj Q fM fun hC gG rK nj uJ U u0 rL=>aO hC gG rK nj uJ U u0 (dL.trans rL))
  have conv:∀{C:Act→World→Prop},o.wp P ca w C ha→o.wp P ca w C Q:=by
   intro C ih
   unfold Oper.wp at ih ⊢
   generalize (execOp ca.eval o).run P w=res at ih ⊢
   cases res with
   |ok s w'=>
    cases s with
    |enter f args=>
     refine ih.mono fun e gG ba=>?_
     cases e<;>exact ba
    |_=>exact ih
   |_=>exact ih
  unfold wpList at hw
  split
  · next tr=>
    rw [if_pos tr] at hw
    rcases hw with hw|⟨I,J⟩
    · exact .inl (conv hw)
    · refine .inr ⟨I,?_⟩
      exact J
  · next tr=>
    rw [if_neg tr] at hw
    exact hw
theorem HH {id:Nat} {Q:Exit→Fr→ad→Prop} (hm:P.follows .mixedOrders=true) (ks:List Nat) (aj:iL n ops ks=true)
 (h:∀K:Fr→ad→Prop,(∀fr m,Q .normal fr m→K fr m)→b8 P n ops ops.size (Array.replicate ops.size false) (fun fr m=>K (fr.keep ks) m) fr m):b7 P n (.region id ops true) Q fr m:=by
 intro F lim w ca st
 simp only [iL,Bool.and_eq_true,List.all_eq_true] at aj
 refine wp_region_any hm ?_
 refine h _ (fun _ _ h=>h) F lim _ ca _ (st.heap (w':={w with drawn:=w.drawn+1}) rfl) fun lim' w' bb m' dj U fM dL=>?_
 exact ⟨lim',_,m',U,fM.keep (fun t ao=>by simpa using aj.2 t ao),(dc.drew F w lim).trans dL⟩
theorem Qp {id:Nat} {c:Code} {Q:Exit→Fr→ad→Prop} (hm:P.follows .mixedOrders=true) (ks:List Nat) (aj:iL n ops ks=true)
 (h:∀K:Fr→ad→Prop,(∀fr m,b7 P n c Q fr m→K fr m)→b8 P n ops ops.size (Array.replicate ops.size false) (fun fr m=>K (fr.keep ks) m) fr m):b7 P n (.seq (.region id ops true) c) Q fr m:=
 rJ fun K U=>HH hm ks aj fun iD xA=>h iD fun fr m h=>xA _ _ (U _ _ h)
theorem Qq {id:Nat} {c:Code} {Q:Exit→Fr→ad→Prop} (hm:P.follows .mixedOrders=true) (ks:List Nat) (aj:iL n ops ks=true)
 (h:∀K:Fr→ad→Prop,(∀fr m,b7 P n c Q fr m→K fr m)→∀A,A=b8 P n ops→A ops.size (Array.replicate ops.size false) (fun fr m=>K (fr.keep ks) m) fr m):b7 P n (.seq (.region id ops true) c) Q fr m:=
 Qp hm ks aj fun K U=>h K U _ rfl
end
end Go.bh
end
section
namespace Go.bh
open Go
section
variable {P:Program} {F:Nat→Prop} {lim:Nat→Nat} {w w':World} {n:Nat} {fr:Fr} {m:ad} {ca:Act} {bu:List Nat}
theorem HI {args:Array Operand} (st:bd F lim w n fr m ca bu) (aj:∀y∈args.toList,kl y=true):∀i,i<(args.toList.map (bx (a1 fr))).length→aF w lim ((args.map ca.eval).getD i undef) ((args.toList.map (bx (a1 fr))).getD i .aP) []:=by
 intro i ab
 have eH:i<args.size:=by simpa using ab
 have:=ff st (aj args[i] (by simp))
 simpa [List.getD_eq_getElem?_getD,Array.getD_eq_getD_getElem?,eH] using this
theorem Qr {ops:Array Oper} {stl:List Nat} {r:List Oper} {K:Fr→ad→Prop} {d:Nat} {ty:TypeId} {pos:String} {af:Array Edge} {gd:Option (Nat×Bool)} (a8:eW ops fr gd=some true) {fn:Fn} {first n0:Array Operand} {bu fK:List R}
 (aW:first.toList.map (bx (a1 fr))=bu) (ag:n0.toList.map (bx (a1 fr))=fK) (h:cF P ops stl r K (fr.put d (.func fn bu fK)) m):
 cF P ops stl (⟨some d, .makeFunc fn first n0,ty,pos,af,gd⟩::r) K fr m:=by
 subst aW ag
 simp only [cF,hX,a8,eo,bw]
 intro n aj aL F lim w ca st
 have ft:=hV aj
 refine ⟨_,_,w,lim,_,_,rfl, .inl rfl,st.dR (d:=some d) (fun t ao=>iJ aj ao) (.func fn _ _ _ _ (by simp) (by simp) (HI st fun y aE=>ft y (by simp [Op.operands];exact .inl (by simpa using aE))) (HI st fun y aE=>ft y (by simp [Op.operands];exact .inr (by simpa using aE)))), .refl _ _ _,h⟩
theorem bn.conv {f:FuncId} {args C6:List R} {K:R→ad→Prop} (ar:C6.length=args.length) (au:∀w lim i v,aF w lim v (args.getD i .aP) []→aF w lim v (C6.getD i .aP) []) (h:bn P f C6 m K):bn P f args m K:=
 ⟨h.1,fun F lim w cargs I J ai=>h.2 F lim w cargs (by rw [I,ar]) (fun i ab=>au w lim i _ (J i (by omega))) ai⟩
end
end Go.bh
end
section
namespace Go.bh
open Go Go.RowKit Go.WideShapes Go.ChangeShapes
def Rd (P:Program) (fuel:Nat) (t:TypeId) {α:Type} (f:α→R):Prop:=
 ∀(H:Type) (enc:TypeId×Value→H) (W:World) (sp:Nat→Bool) (cs:List Value) (d:DataW H) (ps:List MemPlace),DataW.trod enc P W 0 sp true fuel t cs=some (d,ps)→(∀n∈d.weights P t,n≤reachBytes)→
  ∃x:α,(f x).cells.length=cs.length∧∀i,i<cs.length→aF W (ma W) (cs.getD i undef) ((f x).cells.getD i .aP) []
section
variable {P:Program} {fuel:Nat} {t e:TypeId}
theorem xE (ao:P.underlying t=some (.int .i64)):Rd P fuel t uY:=by
 intro H enc W sp cs d ps h _
 obtain ⟨n,rfl,_,hw⟩:=DataW.trod_int ao h
 simp only [Lit.wf,IntKind.has,Bool.and_eq_true,decide_eq_true_eq] at hw
 refine ⟨n,rfl,fun i ab=>?_⟩
 obtain rfl:i=0:=by simpa using ab
 exact .int .i64 n hw.1 hw.2
theorem u6 (ao:P.underlying t=some .string):Rd P fuel t cf:=by
 intro H enc W sp cs d ps h hw
 obtain ⟨s,rfl,ah,al⟩:=DataW.trod_string ao h
 simp only [Prod.mk.injEq] at ah
 obtain ⟨rfl,rfl⟩:=ah
 have I:=hw s.data.toList.length (by simp [DataW.weights])
 refine ⟨s.data.toList,rfl,fun i ab=>?_⟩
 obtain rfl:i=0:=by simpa using ab
 exact .str s (by unfold reachBytes at I;simp at I;omega)
theorem HJ {H:Type} {e:TypeId}:∀{fC:List (DataW H)} {d:DataW H},d∈fC→∀n∈d.weights P e,n∈DataW.weightsAll P e fC
 |a::fC,d,aY,n,aL=>by
  simp only [DataW.weightsAll,List.mem_append]
  rcases List.mem_cons.1 aY with rfl|aY
  · exact .inl aL
  · exact .inr (HJ aY n aL)
theorem Rd.arg {α:Type} {f:α→R} {H:Type} {enc:TypeId×Value→H} {W:World} {sp:Nat→Bool} {v:Value} {d:DataW H} {ps:List MemPlace} (au:∀n,Rd P n t f) (aW:∀x,(f x).cells=[f x]) (bc:v.cells.toList=[v]) (aY:DataW.Trod enc P W 0 sp true t v d ps) (hw:∀n∈d.weights P t,n≤reachBytes):
 ∃x:α,aF W (ma W) v (f x) []:=by
 obtain ⟨n,aL⟩:=aY
 obtain ⟨x,I,J⟩:=au n H enc W sp _ d ps aL hw
 refine ⟨x,?_⟩
 rw [bc] at J
 have:=J 0 (by simp)
 rw [aW] at this
 exact this
theorem HK {H:Type} {bC:List TypeId} {fC:List (DataW H)} (h:(DataW.weightsEach P bC fC).all (· ≤reachBytes)=true) {j:Nat} {d:DataW H} (ao:bC[j]?=some t) (aY:fC[j]?=some d):∀n∈d.weights P t,n≤reachBytes:=fun n aL=>by
 simpa using List.all_eq_true.1 h _ (DataW.weights_mem_each ao aY n aL)
end
end Go.bh
end
section
namespace Go.bh
open Go
section
variable {P:Program} {fr:Fr} {m:ad} {ops:Array Oper} {cs:List R} {r:List Oper} {mf:Fr→Prop} {d:Nat} {ty:TypeId} {pos:String} {af:Array Edge} {gd:Option (Nat×Bool)} {L:List (Nat×ed)}
theorem rZ (a8:eW ops fr gd=some true) {t:TypeId} {x:Operand} {b off:Nat} {l:List R} {v:R} (ah:bx (a1 fr) x= .ptr ⟨b,off,none⟩) (hm:m.aX L b=some (.cells l)) (cO:jA P t l off) (bc:(apart P t l off).plain=v)
 (h:hN P ops (m.aX L) cs r (fr.put d v) mf):hN P ops (m.aX L) cs (⟨some d, .load t x,ty,pos,af,gd⟩::r) fr mf:=
 Qa a8 (side:=jA P t l off) (x:=(apart P t l off).plain) rfl (by simp only [bw,ah,hm]) cO bc h
end
end Go.bh
end
section
namespace Go.bh
open Go Go.MapKept
section
variable {cq ep:Type} [DecidableEq cq]
def cn:List (cq×ep)→cq→Option ep
 |[],_=>none
 |(a,b)::r,k=>if a=k then some b else cn r k
def C7 {cq ep:Type} (dM:cq→R) (vf:ep→R) (p:cq×ep):R×R:=(dM p.1,vf p.2)
def dJ:List (cq×ep)→cq→ep→List (cq×ep)
 |[],k,v=>[(k,v)]
 |(a,b)::r,k,v=>if a=k then (k,v)::r else (a,b)::dJ r k v
def fO:List (cq×ep)→cq→List (cq×ep)
 |[],_=>[]
 |(a,b)::r,k=>if a=k then r else (a,b)::fO r k
def nu:List (cq×ep)→cq→Option Nat
 |[],_=>none
 |(a,_)::r,k=>if a=k then some 0 else (nu r k).map (· +1)
theorem zX:∀{l:List (cq×ep)} {k:cq},nu l k=none→cn l k=none∧fO l k=l∧∀v,dJ l k v=l++[(k,v)]
 |[],_,_=>⟨rfl,rfl,fun _=>rfl⟩
 |(a,b)::r,k,h=>by
  unfold nu at h
  split at h
  · cases h
  · rename_i eB
    have aQ:=zX (l:=r) (k:=k) (by simpa using h)
    simp only [cn,fO,dJ,if_neg eB,aQ.1,aQ.2.1,true_and]
    exact fun v=>by rw [aQ.2.2 v];rfl
theorem zY:∀{l:List (cq×ep)} {k:cq} {j:Nat},nu l k=some j→∃b,l[j]?=some (k,b)∧cn l k=some b∧fO l k=l.eraseIdx j∧∀v,dJ l k v=l.set j (k,v)
 |[],_,_,h=>by simp [nu] at h
 |(a,b)::r,k,j,h=>by
  unfold nu at h
  split at h
  · rename_i he
    subst he
    obtain rfl:0=j:=by simpa using h
    exact ⟨b,rfl,by simp [cn],by simp [fO],fun v=>by simp [dJ]⟩
  · rename_i eB
    cases au:nu r k with
    |none=>rw [au] at h;cases h
    |some i=>
     rw [au] at h
     obtain rfl:i+1=j:=by simpa using h
     obtain ⟨c,I,J,ai,aC⟩:=zY au
     exact ⟨c,by simpa using I,by simp [cn,eB,J],by simp [fO,eB,ai],fun v=>by simp [dJ,eB,aC]⟩
theorem HL (l:List (cq×ep)) (k:cq):(fO l k).length≤l.length:=by
 induction l with
 |nil=>simp [fO]
 |cons p r aQ=>obtain ⟨a,b⟩:=p;simp only [fO];split<;>simp<;>omega
theorem qV (l:List (cq×ep)) (k:cq) (v:ep):(dJ l k v).length≤l.length+1:=by
 induction l with
 |nil=>simp [dJ]
 |cons p r aQ=>obtain ⟨a,b⟩:=p;simp only [dJ];split<;>simp<;>omega
end
def pM (d:TypeDesc) {cq:Type} (dM:cq→R) (fv:cq→Value):Prop:=
 (∀w lim v a os,aF w lim v (dM a) os→v=fv a)∧(∀a,IsKey d (fv a))∧∀a b,fv a=fv b→a=b
def Qs (s:List UInt8):Value:= .string ⟨s.toArray⟩
theorem lK:pM .string cf Qs:=by
 refine ⟨fun w lim v a os h=>?_,fun a=>trivial,fun a b h=>?_⟩
 · generalize he:cf a=x at h
   cases h<;>first|(cases he;done)|skip
   rename_i s al
   have e:a=s.data.toList:=by injection he
   subst e;rfl
 · have:a.toArray=b.toArray:=by injection h with h;injection h
   simpa using congrArg Array.toList this
section
variable {P:Program} {F:Nat→Prop} {lim:Nat→Nat} {w w':World} {n:Nat} {fr:Fr} {m:ad} {ca:Act} {bu:List Nat}
theorem zZ {cq ep:Type} [DecidableEq cq] {d:TypeDesc} {dM:cq→R} {fv:cq→Value} (he:pM d dM fv) (k:cq):∀(E:List MapEntry) (l:List (cq×ep)) (i:Nat),E.map (·.key)=l.map (fun p=>fv p.1)→
 Instr.findNow d (fv k) E i=some ((nu l k).map fun j=>(i+j,(E.getD j default).val))
 |[],[],_,_=>rfl
 |[],_::_,_,h=>by simp at h
 |_::_,[],_,h=>by simp at h
 |e::E,(a,b)::l,i,h=>by
  simp only [List.map_cons,List.cons.injEq] at h
  obtain ⟨I,J⟩:=h
  obtain ⟨r,au,HM⟩:=sameNow_of_keys (he.2.1 k) (he.2.1 a)
  simp only [Instr.findNow,I,au]
  cases r with
  |true=>
   have ax:a=k:=(he.2.2 _ _ (HM.1 rfl)).symm
   simp [nu,ax]
  |false=>
   have ax:a≠k:=fun q=>by
    have:=HM.2 (by rw [q]);cases this
   rw [zZ he k E l (i+1) J]
   simp only [nu,if_neg ax,Option.map_map]
   congr 1
   cases nu l k with
   |none=>rfl
   |some j=>simp;omega
theorem C8 {cq ep:Type} {d:TypeDesc} {dM:cq→R} {fv:cq→Value} {vf:ep→R} (he:pM d dM fv) (st:bd F lim w n fr m ca bu) {b:Nat} {l:List (cq×ep)} (hm:m b=some (.map (l.map fun p=>(dM p.1,vf p.2)))):
 ∃es clock,w.heap[b]?=some (.map es clock)∧es.size=l.length∧es.toList.map (·.key)=l.map (fun p=>fv p.1)∧(∀i p,l[i]?=some p→aF w lim (es.getD i default).val (vf p.2) [])∧(∀i j,i<j→j<l.length→(es.getD i default).born<(es.getD j default).born)∧(∀i,i<l.length→(es.getD i default).born<clock)∧
  l.length≤140737488355328∧(∀i p,l[i]?=some p→aF w lim (es.getD i default).key (dM p.1) [])∧lim b=0∧¬F b:=by
 obtain ⟨os,b6,bA,h⟩:=st
 obtain ⟨eI,ar,cE⟩:=h.mem b _ hm
 replace ar:lim b=0:=ar
 generalize av:b6 b=Z8 at eI
 generalize eh:(l.map fun p=>(dM p.1,vf p.2))=L at eI
 cases eI with
 |map es clock L ae al cU aj bc nd nf os=>
  subst eh
  simp only [List.length_map] at al cU aj bc nd nf
  have jf:∀i p,l[i]?=some p→(l.map fun p=>(dM p.1,vf p.2)).getD i (.aP, .aP)=(dM p.1,vf p.2):=fun i p aB=>by simp [List.getD_eq_getElem?_getD,aB]
  have bG:∀i p,l[i]?=some p→i<l.length:=fun i p aB=>(List.getElem?_eq_some_iff.1 aB).1
  have qn:∀i p,l[i]?=some p→aF w lim (es.getD i default).key (dM p.1) []:=fun i p aB=>by have:=aj i (bG i p aB);rwa [jf i p aB] at this
  refine ⟨es,clock,ae,al,?_,fun i p aB=>by have:=bc i (bG i p aB);rwa [jf i p aB] at this,nd,nf,cU,qn,ar,cE⟩
  refine List.ext_getElem (by simp [al]) fun i I J=>?_
  have ab:i<l.length:=by simpa using J
  have eH:i<es.size:=by omega
  have:=he.1 _ _ _ _ _ (qn i l[i] (List.getElem?_eq_getElem ab))
  simpa [Array.getD,eH] using this
theorem bd.z1 (st:bd F lim w n fr m ca bu) {b:Nat} {l l':List (R×R)} {es es':Array MapEntry} {clock clock':Nat} (hm:m b=some (.map l)) (ae:w.heap[b]?=some (.map es clock)) (al:es'.size=l'.length) (cU:l'.length≤140737488355328)
 (fs:∀i,i<l'.length→aF w lim (es'.getD i default).key (l'.getD i (.aP, .aP)).1 []) (bc:∀i,i<l'.length→aF w lim (es'.getD i default).val (l'.getD i (.aP, .aP)).2 [])
 (nd:∀i j,i<j→j<l'.length→(es'.getD i default).born<(es'.getD j default).born) (nf:∀i,i<l'.length→(es'.getD i default).born<clock'):
 bd F lim {w with heap:=w.heap.setIfInBounds b (.map es' clock')} n fr (m.bL b (some (.map l'))) ca bu∧dc F w lim {w with heap:=w.heap.setIfInBounds b (.map es' clock')} lim:=by
 obtain ⟨os,b6,bA,h⟩:=st
 obtain ⟨eI,ar,cE⟩:=h.mem b _ hm
 replace ar:lim b=0:=ar
 have ts:b<w.heap.size:=(Array.getElem?_eq_some_iff.1 ae).1
 generalize hw:({w with heap:=w.heap.setIfInBounds b (.map es' clock')}:World)=cH
 have jG:∀k,k≠b→cH.heap[k]?=w.heap[k]?:=fun k aj=>by rw [←hw];simp [Array.getElem?_setIfInBounds,Ne.symm aj]
 have l7:cH.heap[b]?=some (.map es' clock'):=by rw [←hw];simp [ts]
 have np:cH.heap.size=w.heap.size:=by rw [←hw];simp
 have fU:∀k o,o<lim k→cH.cell? ⟨k,o,none⟩=w.cell? ⟨k,o,none⟩:=fun k o av=>by
  have:k≠b:=fun e=>by subst e;omega
  simp [World.cell?,jG k this]
 have kR:∀c,m c=none→c≠b:=fun c ag e=>by subst e;rw [hm] at ag;cases ag
 have bW:∀{v x dS},aF w lim v x dS→(∀c∈dS,bA c≠ .none)→aF cH lim v x dS:=fun c1 av=>c1.fA (fun _=>Nat.le_refl _) fU (fun c ag=>⟨jG c (kR c (h.free c (av c ag)).2.1),rfl⟩)
 have HN:∀{v x},aF w lim v x []→aF cH lim v x []:=fun c1=>bW c1 (by simp)
 refine ⟨?_,by rw [←hw],by rw [←hw],by rw [←hw],by rw [np];exact Nat.le_refl _,fun k aj=>⟨jG k (fun e=>by subst e;exact cE aj),rfl⟩,fun _=>Nat.le_refl _,fU⟩
 refine ⟨os,b6,bA,h.size,h.defers,fun t x ah=>⟨(h.dX t x ah).1,bW (h.dX t x ah).2 (fun c ag=>by rw [(h.ey t x ah).2 c ag];simp)⟩,fun k o aj=>?_,h.ey,fun k o aj i=>?_,h.fL,fun c ag=>⟨(h.free c ag).1,?_,by rw [np];exact (h.free c ag).2.2⟩,fun k aj=>?_⟩
 · by_cases gO:k=b
   · subst gO
     simp only [ad.bL,↓reduceIte,Option.some.injEq] at aj
     subst aj
     exact ⟨.map es' clock' l' l7 al cU (fun i ab=>HN (fs i ab)) (fun i ab=>HN (bc i ab)) nd nf _,ar,cE⟩
   · simp only [ad.bL,if_neg gO] at aj
     have xF:=h.mem k o aj
     refine ⟨xF.1.fA (jG k gO) (fun _=>Nat.le_refl _) fU (fun i c ag=>⟨jG c (kR c (h.free c ?_).2.1),rfl⟩),xF.2⟩
     rw [(h.ds k o aj i).2 c ag];simp
 · by_cases gO:k=b
   · subst gO;exact h.ds k _ hm i
   · simp only [ad.bL,if_neg gO] at aj
     exact h.ds k o aj i
 · have:=(h.free c ag).2.1
   simp only [ad.bL]
   rw [if_neg (kR c this)];exact this
 · rw [np] at aj
   have:=h.fresh k aj
   refine ⟨this.1,this.2.1,?_⟩
   simp only [ad.bL]
   rw [if_neg (by omega)];exact this.2.2
variable {ops:Array Oper} {stl:List Nat} {r:List Oper} {K:Fr→ad→Prop} {d:Nat} {ty:TypeId} {pos:String} {af:Array Edge} {gd:Option (Nat×Bool)} {L:List (Nat×ed)}
theorem HO (a8:eW ops fr gd=some true) {t gw kv:TypeId} (ao:P.underlying t=some (.map gw kv)) (h:∀b,m.aX L b=none→cF P ops stl r K (fr.put d (.map b)) (m.aX ((b, .map [])::L))):
 cF P ops stl (⟨some d, .makeMap t none,ty,pos,af,gd⟩::r) K fr (m.aX L):=by
 simp only [cF,hX,a8,eo,ao,Option.map_none]
 exact ⟨trivial,h⟩
theorem HP {cq ep:Type} [DecidableEq cq] {gV:TypeDesc} {dM:cq→R} {fv:cq→Value} {vf:ep→R} (he:pM gV dM fv) (st:bd F lim w n fr m ca bu) {b:Nat} {l:List (cq×ep)} (hm:m b=some (.map (l.map fun p=>(dM p.1,vf p.2)))) {t gw kv:TypeId} (ao:P.underlying t=some (.map gw kv)) (mg:P.underlying gw=some gV)
 {z:ep} (aA:hG P kv=some (vf z)) {r0:Value} {k:cq} (tt:aF w lim r0 (dM k) []) (ok:Bool):
 ∃v,aF w lim v (vf ((cn l k).getD z)) []∧(Instr.lookup t (.map (some b)) r0 ok).run P w= .ok (if ok then .tuple #[v, .bool (cn l k).isSome] else v) w:=by
 obtain ⟨es,clock,ae,al,xG,mh,_,_,_,_,_,_⟩:=C8 he st hm
 obtain rfl:=he.1 _ _ _ _ _ tt
 have aW:=zZ he k es.toList l 0 xG
 have ag:(Instr.checkKey es.isEmpty 10000 gw (fv k)).run P w= .ok () w:=run_checkKey mg (he.2.1 k) _ 9999
 have ky:=run_findKey (P:=P) (w:=w) mg aW
 cases ab:nu l k with
 |none=>
  obtain ⟨v0,kz,z2,z3,z4⟩:=zA (P:=P) (w:=w) (lim:=lim) aA
  have I:=(zX ab).1
  refine ⟨v0,by rw [I];exact z4,?_⟩
  rw [ab] at ky
  simp only [Option.map_none] at ky
  cases ok<;>simp [Instr.lookup,run_underlying ao,run_getObj_map ae,ag,ky,Result.andThen,kz,I]
 |some j=>
  obtain ⟨c,I,J,_,_⟩:=zY ab
  refine ⟨(es.toList.getD j default).val,?_,?_⟩
  · rw [J]
    have:=mh j _ I
    rw [Array.getD_eq_getD_getElem?,←Array.getElem?_toList,←List.getD_eq_getElem?_getD] at this
    exact this
  · rw [ab] at ky
    simp only [Option.map_some,Nat.zero_add] at ky
    cases ok<;>simp only [Instr.lookup,Sem.run_bind,run_underlying ao,run_getObj_map ae,ag,ky,Result.andThen_ok,Sem.run_pure,J,Option.isSome_some,if_true]<;>rfl
theorem z6 (a8:eW ops fr gd=some true) {cq ep:Type} [DecidableEq cq] {gV:TypeDesc} (dM:cq→R) {fv:cq→Value} (vf:ep→R) (he:pM gV dM fv) (l:List (cq×ep)) (k:cq) (z:ep) {t gw kv:TypeId} {x y:Operand} {b:Nat} {v:R} (ao:P.underlying t=some (.map gw kv)) (mg:P.underlying gw=some gV) (aA:hG P kv=some (vf z))
 (ah:bx (a1 fr) x= .map b) (aE:bx (a1 fr) y=dM k) (hm:m.aX L b=some (.map (l.map fun p=>(dM p.1,vf p.2)))) (bc:vf ((cn l k).getD z)=v) (h:cF P ops stl r K (fr.put d v) (m.aX L)):
 cF P ops stl (⟨some d, .lookup t x y false,ty,pos,af,gd⟩::r) K fr (m.aX L):=by
 subst bc
 simp only [cF,hX,a8,eo,bw,ah]
 intro n aj aL F lim w ca st
 have ft:=hV aj
 have I:=ff st (ft x (by simp [Op.operands]))
 have J:=ff st (ft y (by simp [Op.operands]))
 rw [ah] at I
 rw [aE] at J
 have ax:ca.eval x= .map (some b):=by generalize ca.eval x=q at I;cases I;rfl
 obtain ⟨v,hp,hF⟩:=HP (P:=P) he st hm ao mg aA J false
 exact ⟨.value v,v,w,lim,_,_,by simp only [execOp,ax,Sem.run_bind,hF];rfl, .inl rfl,st.dR (d:=some d) (fun t ao=>iJ aj ao) hp, .refl _ _ _,h⟩
theorem C9 (a8:eW ops fr gd=some true) {cq ep:Type} [DecidableEq cq] {gV:TypeDesc} (dM:cq→R) {fv:cq→Value} (vf:ep→R) (he:pM gV dM fv) (l:List (cq×ep)) (k:cq) (z:ep) {t gw kv:TypeId} {x y:Operand} {b:Nat} {v:R} (ao:P.underlying t=some (.map gw kv)) (mg:P.underlying gw=some gV) (aA:hG P kv=some (vf z))
 (ah:bx (a1 fr) x= .map b) (aE:bx (a1 fr) y=dM k) (hm:m.aX L b=some (.map (l.map fun p=>(dM p.1,vf p.2)))) (bc:vf ((cn l k).getD z)=v) (h:cF P ops stl r K (fr.put d (.tuple [v, .bool (cn l k).isSome])) (m.aX L)):
 cF P ops stl (⟨some d, .lookup t x y true,ty,pos,af,gd⟩::r) K fr (m.aX L):=by
 subst bc
 simp only [cF,hX,a8,eo,bw,ah]
 intro n aj aL F lim w ca st
 have ft:=hV aj
 have I:=ff st (ft x (by simp [Op.operands]))
 have J:=ff st (ft y (by simp [Op.operands]))
 rw [ah] at I
 rw [aE] at J
 have ax:ca.eval x= .map (some b):=by generalize ca.eval x=q at I;cases I;rfl
 obtain ⟨v,hp,hF⟩:=HP (P:=P) he st hm ao mg aA J true
 have aJ:aF w lim (.tuple #[v, .bool (cn l k).isSome]) (.tuple [vf ((cn l k).getD z), .bool (cn l k).isSome]) []:=by
  have:=aF.tuple (w:=w) (lim:=lim) #[v, .bool (cn l k).isSome] [vf ((cn l k).getD z), .bool (cn l k).isSome] (fun _=>[]) rfl (fun i ab=>by
   match i,ab with
   |0,_=>exact hp
   |1,_=>exact .bool _)
  rwa [flatMap_nil] at this
 exact ⟨.value (.tuple #[v, .bool (cn l k).isSome]),_,w,lim,_,_,by simp only [execOp,ax,Sem.run_bind,hF];rfl, .inl rfl,st.dR (d:=some d) (fun t ao=>iJ aj ao) aJ, .refl _ _ _,h⟩
theorem Qt (a8:eW ops fr gd=some true) {α:Type} (f:α→R×R) (l:List α) {t gw kv:TypeId} {x:Operand} {b:Nat} (ao:P.underlying t=some (.map gw kv)) (ah:bx (a1 fr) x= .map b) (hm:m.aX L b=some (.map (l.map f))) (h:cF P ops stl r K (fr.put d (.int .i64 l.length)) (m.aX L)):
 cF P ops stl (⟨some d, .call ⟨.builtin .len,#[x],#[t]⟩,ty,pos,af,gd⟩::r) K fr (m.aX L):=
 xB (side:=True) (x:= .int .i64 (l.map f).length) a8 rfl rfl (by simp [bw,ao,ah,hm]) trivial (by simp) h
theorem z7 {cq ep:Type} {gV:TypeDesc} {dM:cq→R} {fv:cq→Value} {vf:ep→R} (he:pM gV dM fv) {es:Array MapEntry} {l l':List (cq×ep)} {es':Array MapEntry} (al:es'.size=l'.length)
 (aj:∀i p,l'[i]?=some p→aF w lim (es'.getD i default).key (dM p.1) []∧aF w lim (es'.getD i default).val (vf p.2) []):
 (∀i,i<(l'.map fun p=>(dM p.1,vf p.2)).length→aF w lim (es'.getD i default).key ((l'.map fun p=>(dM p.1,vf p.2)).getD i (.aP, .aP)).1 [])∧(∀i,i<(l'.map fun p=>(dM p.1,vf p.2)).length→aF w lim (es'.getD i default).val ((l'.map fun p=>(dM p.1,vf p.2)).getD i (.aP, .aP)).2 []):=by
 have key:∀i,i<(l'.map fun p=>(dM p.1,vf p.2)).length→aF w lim (es'.getD i default).key ((l'.map fun p=>(dM p.1,vf p.2)).getD i (.aP, .aP)).1 []∧aF w lim (es'.getD i default).val ((l'.map fun p=>(dM p.1,vf p.2)).getD i (.aP, .aP)).2 []:=fun i ab=>by
  have eH:i<l'.length:=by simpa using ab
  have:=aj i _ (List.getElem?_eq_getElem eH)
  simpa [List.getD_eq_getElem?_getD,eH] using this
 exact ⟨fun i ab=>(key i ab).1,fun i ab=>(key i ab).2⟩
theorem Qu {α:Type} {es:Array α} {i:Nat} {d x:α} (h:es[i]?=some x):es.getD i d=x:=by
 rw [Array.getD_eq_getD_getElem?,h];rfl
theorem Qv {cq ep:Type} [DecidableEq cq] {gV:TypeDesc} {dM:cq→R} {fv:cq→Value} {vf:ep→R} (he:pM gV dM fv) (st:bd F lim w n fr m ca bu) {b:Nat} {l:List (cq×ep)} (hm:m b=some (.map (l.map fun p=>(dM p.1,vf p.2)))) {t gw kv:TypeId} (ao:P.underlying t=some (.map gw kv)) (mg:P.underlying gw=some gV)
 {r0 mH:Value} {k:cq} {v:ep} (tt:aF w lim r0 (dM k) []) (zH:aF w lim mH (vf v) []) (cU:(dJ l k v).length≤140737488355328):
 ∃w',(Instr.mapUpdate t (.map (some b)) r0 mH).run P w= .ok () w'∧bd F lim w' n fr (m.bL b (some (.map ((dJ l k v).map fun p=>(dM p.1,vf p.2))))) ca bu∧dc F w lim w' lim:=by
 obtain ⟨es,clock,ae,al,xG,mh,nd,nf,hlen,qn,iP,cE⟩:=C8 he st hm
 obtain rfl:=he.1 _ _ _ _ _ tt
 have aW:=zZ he k es.toList l 0 xG
 have ag:(Instr.checkKey false 10000 gw (fv k)).run P w= .ok () w:=run_checkKey mg (he.2.1 k) _ 9999
 have ky:=run_findKey (P:=P) (w:=w) mg aW
 have Qw:∀i p,l[i]?=some p→i<es.size:=fun i p aB=>by have:=(List.getElem?_eq_some_iff.1 aB).1;omega
 cases ab:nu l k with
 |none=>
  have I:=(zX ab).2.2 v
  rw [ab] at ky
  simp only [Option.map_none] at ky
  have jf:∀i,(es.push {key:=fv k,val:=mH,born:=clock}).getD i default=if i<es.size then es.getD i default else if i=es.size then {key:=fv k,val:=mH,born:=clock} else default:=fun i=>by
   simp only [Array.getD_eq_getD_getElem?,Array.getElem?_push]
   by_cases J:i=es.size
   · subst J;simp
   · rw [if_neg J]
     by_cases ai:i<es.size
     · rw [if_pos ai]
     · rw [if_neg ai,if_neg J,Array.getElem?_eq_none (by omega)];rfl
  have hw:=z7 (w:=w) (lim:=lim) he (es:=es) (l:=l) (l':=l++[(k,v)]) (es':=es.push {key:=fv k,val:=mH,born:=clock}) (vf:=vf) (by simp [al]) (fun i p aB=>by
   rw [jf]
   by_cases J:i<l.length
   · rw [List.getElem?_append_left J] at aB
     rw [if_pos (by omega)]
     exact ⟨qn i p aB,mh i p aB⟩
   · rw [List.getElem?_append_right (by omega)] at aB
     have ai:i- l.length=0:=by
      rcases Nat.eq_zero_or_pos (i- l.length) with ai|ai
      · exact ai
      · rw [List.getElem?_eq_none (by simp;omega)] at aB;cases aB
     rw [ai] at aB
     obtain rfl:(k,v)=p:=by simpa using aB
     rw [if_neg (by omega),if_pos (by omega)]
     exact ⟨tt,zH⟩)
  obtain ⟨s1,s2⟩:=st.z1 (es':=es.push {key:=fv k,val:=mH,born:=clock}) (clock':=clock+1) (l':=(l++[(k,v)]).map fun p=>(dM p.1,vf p.2)) hm ae (by simp [al]) (by rw [←I];simpa using cU) hw.1 hw.2 (fun i j hH ay=>by
   simp only [List.length_map,List.length_append,List.length_singleton] at ay
   rw [jf,jf,if_pos (by omega)]
   by_cases J:j<es.size
   · rw [if_pos J];exact nd i j hH (by omega)
   · rw [if_neg J,if_pos (by omega)];exact nf i (by omega)) (fun i eH=>by
   simp only [List.length_map,List.length_append,List.length_singleton] at eH
   rw [jf]
   by_cases J:i<es.size
   · rw [if_pos J];have:=nf i (by omega);omega
   · rw [if_neg J,if_pos (by omega)];exact Nat.lt_succ_self _)
  refine ⟨_,?_,by rw [I];exact s1,s2⟩
  simp [Instr.mapUpdate,run_underlying ao,run_getObj_map ae,ag,ky,Result.andThen,run_setObj_map _ ae]
 |some j=>
  obtain ⟨c,I,_,_,aC⟩:=zY ab
  have aN:=aC v
  rw [ab] at ky
  simp only [Option.map_some,Nat.zero_add] at ky
  have r1:j<l.length:=(List.getElem?_eq_some_iff.1 I).1
  have ay:j<es.size:=Qw j _ I
  have Qx:(es[j]?).map (·.key)=some (fv k):=by
   have bE:=he.1 _ _ _ _ _ (qn j _ I)
   rw [Array.getElem?_eq_getElem ay]
   rw [Qu (Array.getElem?_eq_getElem ay)] at bE
   simp [bE]
  have jf:∀i,(es.modify j fun e=>{e with key:=fv k,val:=mH}).getD i default=if i=j then {es.getD j default with key:=fv k,val:=mH} else es.getD i default:=fun i=>by
   simp only [Array.getD_eq_getD_getElem?,Array.getElem?_modify]
   by_cases J:j=i
   · subst J;simp [Array.getElem?_eq_getElem ay]
   · rw [if_neg J,if_neg (Ne.symm J)]
  have hw:=z7 (w:=w) (lim:=lim) he (es:=es) (l:=l) (l':=l.set j (k,v)) (es':=es.modify j fun e=>{e with key:=fv k,val:=mH}) (vf:=vf) (by simp [al]) (fun i p aB=>by
   rw [jf]
   rw [List.getElem?_set] at aB
   by_cases J:j=i
   · subst J
     rw [if_pos rfl,if_pos r1] at aB
     obtain rfl:(k,v)=p:=by simpa using aB
     rw [if_pos rfl];exact ⟨tt,zH⟩
   · rw [if_neg J] at aB
     rw [if_neg (Ne.symm J)];exact ⟨qn i p aB,mh i p aB⟩)
  have jK:∀i,((es.modify j fun e=>{e with key:=fv k,val:=mH}).getD i default).born=(es.getD i default).born:=fun i=>by
   rw [jf];split
   · rename_i J;subst J;simp [Array.getD,ay]
   · rfl
  obtain ⟨s1,s2⟩:=st.z1 (es':=es.modify j fun e=>{e with key:=fv k,val:=mH}) (clock':=clock) (l':=(l.set j (k,v)).map fun p=>(dM p.1,vf p.2)) hm ae (by simp [al]) (by rw [←aN];simpa using cU) hw.1 hw.2 (fun i xi hH iK=>by
   rw [jK,jK];exact nd i xi hH (by simpa using iK)) (fun i eH=>by rw [jK];exact nf i (by simpa using eH))
  refine ⟨_,?_,by rw [aN];exact s1,s2⟩
  have s6:(Instr.keyThatStays (((es[j]?).map (·.key)).getD (fv k)) (fv k)).run P w= .ok (fv k) w:=by
   rw [Qx];exact run_keyThatStays (he.2.1 k)
  simp only [Instr.mapUpdate,Sem.run_bind,run_underlying ao,run_getObj_map ae,ag,ky,Result.andThen_ok,s6,run_setObj_map _ ae]
theorem Qy {cq ep:Type} [DecidableEq cq] {gV:TypeDesc} {dM:cq→R} {fv:cq→Value} {vf:ep→R} (he:pM gV dM fv) (st:bd F lim w n fr m ca bu) {b:Nat} {l:List (cq×ep)} (hm:m b=some (.map (l.map fun p=>(dM p.1,vf p.2)))) {t t2 gw kv ty:TypeId} (ao:P.underlying t=some (.map gw kv)) (mg:P.underlying gw=some gV)
 {r0:Value} {k:cq} (tt:aF w lim r0 (dM k) []):
 ∃w',(Builtin.delete_ #[t,t2] ty #[.map (some b),r0]).run P w= .ok (.tuple #[]) w'∧bd F lim w' n fr (m.bL b (some (.map ((fO l k).map fun p=>(dM p.1,vf p.2))))) ca bu∧dc F w lim w' lim:=by
 obtain ⟨es,clock,ae,al,xG,mh,nd,nf,hlen,qn,iP,cE⟩:=C8 he st hm
 obtain rfl:=he.1 _ _ _ _ _ tt
 have aW:=zZ he k es.toList l 0 xG
 have ag:(Instr.checkKey es.isEmpty 10000 gw (fv k)).run P w= .ok () w:=run_checkKey mg (he.2.1 k) _ 9999
 have ky:=run_findKey (P:=P) (w:=w) mg aW
 cases ab:nu l k with
 |none=>
  have I:=(zX ab).2.1
  rw [ab] at ky
  simp only [Option.map_none] at ky
  have hw:=z7 (w:=w) (lim:=lim) he (es:=es) (l:=l) (l':=l) (es':=es) (vf:=vf) al (fun i p aB=>⟨qn i p aB,mh i p aB⟩)
  obtain ⟨s1,s2⟩:=st.z1 (es':=es) (clock':=clock) (l':=l.map fun p=>(dM p.1,vf p.2)) hm ae (by simp [al]) (by simpa using hlen) hw.1 hw.2 (fun i j hH ay=>nd i j hH (by simpa using ay)) (fun i eH=>nf i (by simpa using eH))
  refine ⟨_,?_,by rw [I];exact s1,s2⟩
  simp [Builtin.delete_,run_underlying ao,run_getObj_map ae,ag,ky,Result.andThen,run_setObj_map _ ae]
 |some j=>
  obtain ⟨c,I,_,ai,_⟩:=zY ab
  rw [ab] at ky
  simp only [Option.map_some,Nat.zero_add] at ky
  have r1:j<l.length:=(List.getElem?_eq_some_iff.1 I).1
  have ay:j<es.size:=by omega
  have Da:es.eraseIdxIfInBounds j=es.eraseIdx j ay:=by simp [Array.eraseIdxIfInBounds,ay]
  have jf:∀i,(es.eraseIdxIfInBounds j).getD i default=if i<j then es.getD i default else es.getD (i+1) default:=fun i=>by
   rw [Da]
   simp only [Array.getD_eq_getD_getElem?,←Array.getElem?_toList,Array.toList_eraseIdx,List.getElem?_eraseIdx]
   split<;>rfl
  have Qz:∀i,(l.eraseIdx j)[i]?=if i<j then l[i]? else l[i+1]?:=fun i=>by rw [List.getElem?_eraseIdx]
  have jl:(l.eraseIdx j).length=l.length- 1:=by rw [List.length_eraseIdx];simp [r1]
  have hw:=z7 (w:=w) (lim:=lim) he (es:=es) (l:=l) (l':=l.eraseIdx j) (es':=es.eraseIdxIfInBounds j) (vf:=vf) (by rw [Da,Array.size_eraseIdx,jl,al]) (fun i p aB=>by
   rw [jf]
   rw [Qz] at aB
   split at aB
   · rename_i J;rw [if_pos J];exact ⟨qn i p aB,mh i p aB⟩
   · rename_i J;rw [if_neg J];exact ⟨qn _ p aB,mh _ p aB⟩)
  obtain ⟨s1,s2⟩:=st.z1 (es':=es.eraseIdxIfInBounds j) (clock':=clock) (l':=(l.eraseIdx j).map fun p=>(dM p.1,vf p.2)) hm ae (by rw [Da,Array.size_eraseIdx,List.length_map,jl,al]) (by rw [List.length_map];omega) hw.1 hw.2 (fun i xi hH iK=>by
   rw [List.length_map,jl] at iK
   rw [jf,jf]
   split<;>split
   · exact nd i xi hH (by omega)
   · exact nd i _ (by omega) (by omega)
   · omega
   · exact nd _ _ (by omega) (by omega)) (fun i eH=>by
   rw [List.length_map,jl] at eH
   rw [jf];split
   · exact nf i (by omega)
   · exact nf _ (by omega))
  refine ⟨_,?_,by rw [ai];exact s1,s2⟩
  simp [Builtin.delete_,run_underlying ao,run_getObj_map ae,ag,ky,Result.andThen,run_setObj_map _ ae]
theorem u7 (a8:eW ops fr gd=some true) {cq ep:Type} [DecidableEq cq] {gV:TypeDesc} (i:Nat) (dM:cq→R) {fv:cq→Value} (vf:ep→R) (he:pM gV dM fv) (l:List (cq×ep)) (k:cq) (v:ep) {t gw kv:TypeId} {x y z:Operand} {b:Nat} (ao:P.underlying t=some (.map gw kv)) (mg:P.underlying gw=some gV)
 (ah:bx (a1 fr) x= .map b) (aE:bx (a1 fr) y=dM k) (aA:bx (a1 fr) z=vf v) (ab:L[i]?=some (b, .map (l.map fun p=>(dM p.1,vf p.2)))) (cd:(L.map Prod.fst).Nodup) (cU:(dJ l k v).length≤140737488355328)
 (h:cF P ops stl r K fr (m.aX (L.set i (b, .map ((dJ l k v).map fun p=>(dM p.1,vf p.2)))))):
 cF P ops stl (⟨none, .mapUpdate t x y z,ty,pos,af,gd⟩::r) K fr (m.aX L):=by
 simp only [cF,hX,a8,eo,bw]
 intro n aj aL F lim w ca st
 have ft:=hV aj
 have I:=ff st (ft x (by simp [Op.operands]))
 have J:=ff st (ft y (by simp [Op.operands]))
 have ai:=ff st (ft z (by simp [Op.operands]))
 rw [ah] at I
 rw [aE] at J
 rw [aA] at ai
 have ax:ca.eval x= .map (some b):=by generalize ca.eval x=q at I;cases I;rfl
 obtain ⟨w',hp,hF,pH⟩:=Qv (P:=P) he st (oa (m:=m) i cd ab) ao mg J ai cU
 rw [xC i cd ab] at hF
 exact ⟨.skip,undef,w',lim,_,_,by simp only [execOp,ax,Sem.run_bind,hp];rfl, .inr ⟨rfl,rfl⟩,hF,pH,h⟩
theorem z8 (a8:eW ops fr gd=some true) {cq ep:Type} [DecidableEq cq] {gV:TypeDesc} (i:Nat) (dM:cq→R) {fv:cq→Value} (vf:ep→R) (he:pM gV dM fv) (l:List (cq×ep)) (k:cq) {t t2 gw kv:TypeId} {x y:Operand} {b:Nat} (ao:P.underlying t=some (.map gw kv)) (mg:P.underlying gw=some gV)
 (ah:bx (a1 fr) x= .map b) (aE:bx (a1 fr) y=dM k) (ab:L[i]?=some (b, .map (l.map fun p=>(dM p.1,vf p.2)))) (cd:(L.map Prod.fst).Nodup)
 (h:cF P ops stl r K fr (m.aX (L.set i (b, .map ((fO l k).map fun p=>(dM p.1,vf p.2)))))):
 cF P ops stl (⟨none, .call ⟨.builtin .delete,#[x,y],#[t,t2]⟩,ty,pos,af,gd⟩::r) K fr (m.aX L):=by
 simp only [cF,hX,a8,eo,bw]
 intro n aj aL F lim w ca st
 have ft:=hV aj
 have I:=ff st (ft x (by simp [Op.operands,Call.operands]))
 have J:=ff st (ft y (by simp [Op.operands,Call.operands]))
 rw [ah] at I
 rw [aE] at J
 have ax:ca.eval x= .map (some b):=by generalize ca.eval x=q at I;cases I;rfl
 obtain ⟨w',hp,hF,pH⟩:=Qy (P:=P) (t2:=t2) (ty:=ty) he st (oa (m:=m) i cd ab) ao mg J
 rw [xC i cd ab] at hF
 have aI:(#[x,y]:Array Operand).map ca.eval=#[.map (some b),ca.eval y]:=by apply Array.ext';simp [ax]
 refine ⟨.value (.tuple #[]),_,w',lim,_,_,?_, .inl rfl,hF,pH,h⟩
 simp only [execOp,resolve,invoke,builtin,Sem.run_bind,Sem.run_pure,Result.andThen_ok,aI]
 rw [hp];rfl
theorem QA {c:Code} {Q:Exit→Fr→ad→Prop} (ku jZ:List (Nat×ed)) (cd:((ku++jZ).map Prod.fst).Nodup) (cE:∀b∈ku.map Prod.fst,m b=none) (h:b7 P n c Q fr (m.aX jZ)):b7 P n c Q fr (m.aX (ku++jZ)):=
 fun F lim w ca st=>h F lim w ca (st.rG (ob ku jZ cd cE))
def qW:R→Prop
 | .str s=>s.length≤140737488355328
 | .slice _ l=>l.length≤140737488355328
 |_=>True
def xH:R→Prop
 | .agg l=>∀i,i<l.length→qW (l.getD i .aP)
 |x=>qW x
theorem QB {v:Value} {x:R} {os:List Nat} (h:aF w lim v x os):qW x:=by
 cases h with
 |str s h=>show s.data.toList.length≤_;simp;exact h
 |fz own=>simp [qW]
 |empty a cap hm=>simp [qW]
 |slice b off n cap sz l cv aL dT hm cU=>show l.length≤_;omega
 |own b n cap sz l cv cur e aL dT hm cU=>show l.length≤_;omega
 |_=>trivial
theorem Db {v:Value} {x:R} {os:List Nat} (h:aF w lim v x os):xH x:=by
 cases h with
 |agg cs xs os h au=>exact fun i ab=>QB (au i ab)
 |str s h=>show s.data.toList.length≤_;simp;exact h
 |fz own=>simp [xH,qW]
 |empty a cap hm=>simp [xH,qW]
 |slice b off n cap sz l cv aL dT hm cU=>show l.length≤_;omega
 |own b n cap sz l cv cur e aL dT hm cU=>show l.length≤_;omega
 |_=>trivial
theorem gj {α:Type} {f:α→R} {o:Bool} {l:List α} (h:qW (.slice o (l.map f))):l.length≤140737488355328:=by
 have:(l.map f).length≤140737488355328:=h
 simpa using this
end
end Go.bh
end
section
namespace Go.bh
open Go
section
variable {P:Program} {F:Nat→Prop} {lim:Nat→Nat} {w w':World} {n:Nat} {fr:Fr} {m:ad} {ca:Act} {bu:List Nat}
def pN (raw:Nat→R) (s:Nat) (X:R):Operand→R
 | .tmp t=>if t=s then X else bx raw (.tmp t)
 |y=>bx raw y
theorem QC {t:TypeId} {cA:Array Field} {z:R} {parts:Array (Nat×Operand)} {s:Nat} {l pre post:List R} {os:List Nat} (st:bd F lim w n fr m ca bu)
 (hu:P.underlying t=some (.struct cA)) (aA:hG P t=some z) (rT:z.eg=true) (ko:∀f∈cA.toList,ef P f.type=true) (qM:∀X:R,X.eg=true→∀p∈parts.toList,(pN (a1 fr) s X p.2).eg=true)
 (u9:∀a k c,nn (fun i=>(cA[i]?).map fun f=>(f.offset,P.cellsOf f.type)) z.cells (parts.toList.map fun p=>(p.1,pN (a1 fr) s (.ms a k c) p.2))=some (pre++ .ms a k c::post))
 (hi:nn (fun i=>(cA[i]?).map fun f=>(f.offset,P.cellsOf f.type)) z.cells (parts.toList.map fun p=>(p.1,pN (a1 fr) s (.slice true l) p.2))=some (pre++ .slice true l::post))
 (ft:∀p∈parts.toList,kl p.2=true) (au:aF w lim (ca.tmps.getD s undef) (.slice true l) os):
 ∃v,(Instr.build t (parts.map fun (i,x)=>(i,ca.eval x))).run P w= .ok v w∧aF w lim v (.agg (pre++ .slice true l::post)) os:=by
 have xI:∀X:R,aF w lim (ca.tmps.getD s undef) X []→∀p∈parts.toList,aF w lim (ca.eval p.2) (pN (a1 fr) s X p.2) []:=fun X qX p aB=>by
  have I:=ff st (ft p aB)
  cases r2:p.2 with
  |tmp t=>
   rw [r2] at I
   simp only [pN]
   split
   · rename_i e;subst e;exact qX
   · exact I
  |_=>rw [r2] at I;exact I
 generalize bc:ca.tmps.getD s undef=vs at au xI
 have qb:=au
 cases au with
 |fz own=>
  obtain ⟨v,I,J⟩:=Cw (P:=P) (w:=w) (lim:=lim) (ca:=ca) hu aA rT ko hi (xI _ (.fz true)) (qM _ rfl)
  exact ⟨v,I,J⟩
 |own b jH cap sz l cv cur e I J ai aC aN bE dk cW dB dV fj=>
  obtain ⟨v,hp,hF⟩:=Cw (P:=P) (w:=w) (lim:=lim) (ca:=ca) hu aA rT ko (u9 ⟨b,0,none⟩ jH cap) (xI _ (.ms _ _ _ J ai)) (qM _ rfl)
  refine ⟨v,hp,?_⟩
  obtain ⟨Dc,kQ,hF⟩:∃Dc,([]:List Nat)=Dc∧aF w lim v (.agg (pre++ .ms ⟨b,0,none⟩ jH cap::post)) Dc:=⟨[],rfl,hF⟩
  cases hF with
  |agg cs xs dS b2 xJ=>
   have mJ:=G5 kQ
   have aj:=xJ pre.length (by simp)
   rw [mJ pre.length (by simp)] at aj
   have jf:∀(X:R) (i:Nat),(pre++X::post).getD i .aP=if i<pre.length then pre.getD i .aP else if i=pre.length then X else post.getD (i- pre.length- 1) .aP:=fun X i=>by
    simp only [List.getD_eq_getElem?_getD]
    by_cases ab:i<pre.length
    · rw [if_pos ab,List.getElem?_append_left ab]
    · rw [if_neg ab,List.getElem?_append_right (by omega)]
      by_cases he:i=pre.length
      · subst he;simp
      · rw [if_neg he]
        obtain ⟨d,aY⟩:∃d,i- pre.length=d+1:=⟨i- pre.length- 1,by omega⟩
        rw [aY];simp
   rw [jf,if_neg (by omega),if_pos rfl] at aj
   have mh:=(rH aj).1
   have ck:=aF.agg (w:=w) (lim:=lim) cs (pre++ .slice true l::post) (fun i=>if i=pre.length then [b] else []) (by rw [b2];simp) (fun i ab=>by
    have eH:i<(pre++R.ms ⟨b,0,none⟩ jH cap::post).length:=by simp at ab ⊢;exact ab
    have Aa:=xJ i eH
    rw [mJ i eH] at Aa
    rw [jf] at Aa ⊢
    by_cases he:i=pre.length
    · subst he
      rw [if_neg (by omega),if_pos rfl,if_pos rfl,mh]
      exact qb
    · rw [if_neg he] at Aa
      rw [if_neg he,if_neg he]
      exact Aa)
   have rN:(List.range (pre++R.slice true l::post).length).flatMap (fun i=>if i=pre.length then [b] else [])=[b]:=by
    have:∀(k n:Nat),k<n→(List.range n).flatMap (fun i=>if i=k then [b] else [])=[b]:=fun k n=>by
     induction n with
     |zero=>intro h;omega
     |succ n aQ=>
      intro h
      rw [List.range_succ,List.flatMap_append]
      by_cases aj:k=n
      · subst aj
        have aq:(List.range k).flatMap (fun i=>if i=k then [b] else [])=[]:=by
         rw [List.flatMap_eq_nil_iff]
         intro i ab
         have:=List.mem_range.1 ab
         rw [if_neg (by omega)]
        rw [aq];simp
      · rw [aQ (by omega)];simp;omega
    exact this _ _ (by simp)
   rw [rN] at ck
   exact ck
theorem QD {ops:Array Oper} {stl:List Nat} {r:List Oper} {K:Fr→ad→Prop} {d:Nat} {ty:TypeId} {pos:String} {af:Array Edge} {gd:Option (Nat×Bool)} (a8:eW ops fr gd=some true) {t:TypeId} {cA:Array Field} {z:R} {parts:Array (Nat×Operand)} (s:Nat) {l:List R} (pre post:List R)
 (bW:stl.contains d=true) (hu:P.underlying t=some (.struct cA)) (aA:hG P t=some z) (rT:z.eg=true) (ko:∀f∈cA.toList,ef P f.type=true) (qM:∀X:R,X.eg=true→∀p∈parts.toList,(pN (a1 fr) s X p.2).eg=true)
 (u9:∀a k c,nn (fun i=>(cA[i]?).map fun f=>(f.offset,P.cellsOf f.type)) z.cells (parts.toList.map fun p=>(p.1,pN (a1 fr) s (.ms a k c) p.2))=some (pre++ .ms a k c::post))
 (hi:nn (fun i=>(cA[i]?).map fun f=>(f.offset,P.cellsOf f.type)) z.cells (parts.toList.map fun p=>(p.1,pN (a1 fr) s (.slice true l) p.2))=some (pre++ .slice true l::post))
 (ah:a1 fr s= .slice true l) (hS:(parts.toList.any fun p=>match p.2 with| .tmp t=>t==s|_=>false)=true) (h:cF P ops stl r K ((fr.strip [s]).put d (.agg (pre++ .slice true l::post))) m):
 cF P ops stl (⟨some d, .build t parts,ty,pos,af,gd⟩::r) K fr m:=by
 simp only [cF,hX,a8,eo,Option.map_some,Option.getD_some,bW,if_true]
 intro n aj aL F lim w ca st
 have ux:s<n:=by
  obtain ⟨p,aB,qk⟩:=List.any_eq_true.1 hS
  have:=zE aL (y:=p.2) (by simp [Op.operands];exact ⟨p.1,by simpa using aB⟩)
  cases r2:p.2 with
  |tmp t=>rw [r2] at qk this;simp at qk;subst qk;exact this t rfl
  |_=>rw [r2] at qk;simp at qk
 obtain ⟨os,s1,s2⟩:=st.uQ s ux
 rw [ah] at s2
 have ft:∀p∈parts.toList,kl p.2=true:=fun p aB=>hV aj p.2 (by simp [Op.operands];exact ⟨p.1,by simpa using aB⟩)
 obtain ⟨v,hp,hF⟩:=QC (P:=P) st hu aA rT ko qM u9 hi ft s2
 exact ⟨.value v,v,w,lim,_,_,by simp [execOp,hp], .inl rfl,s1.dR (d:=some d) (fun t ao=>iJ aj ao) hF, .refl _ _ _,h⟩
def pick {α:Type}:List α→List Nat→List α×List α
 |L,[]=>([],L)
 |L,i::is=>match L[i]? with
  |some a=>(a::(pick (L.eraseIdx i) is).1,(pick (L.eraseIdx i) is).2)
  |none=>pick L is
theorem HQ {α:Type}:∀{l:List α} {i:Nat} {a:α},l[i]?=some a→l.Perm (a::l.eraseIdx i)
 |[],_,_,h=>by simp at h
 |x::l,0,a,h=>by
  obtain rfl:x=a:=by simpa using h
  exact .refl _
 |x::l,i+1,a,h=>((HQ (l:=l) (i:=i) (by simpa using h)).cons x).trans (.swap _ _ _)
theorem nv {α:Type}:∀(is:List Nat) (L:List α),L.Perm ((pick L is).1++(pick L is).2)
 |[],L=> .refl _
 |i::is,L=>by
  unfold pick
  split
  · next a h=>
    exact (HQ h).trans (List.Perm.cons _ (nv is _))
  · exact nv is L
theorem QE {L ku jZ:List (Nat×ed)} (cd:(L.map Prod.fst).Nodup) (aB:L.Perm (ku++jZ)):(jZ.map Prod.fst).Nodup:=by
 have h:=(aB.map Prod.fst).nodup_iff.1 cd
 rw [List.map_append] at h
 exact (List.nodup_append.1 h).2.1
theorem QF {c:Code} {Q:Exit→Fr→ad→Prop} {L:List (Nat×ed)} (ku jZ:List (Nat×ed)) (cd:(L.map Prod.fst).Nodup) (aB:L.Perm (ku++jZ)) (cE:∀b∈ku.map Prod.fst,m b=none) (h:b7 P n c Q fr (m.aX jZ)):b7 P n c Q fr (m.aX L):=by
 rw [C1 cd aB]
 exact QA ku jZ ((aB.map Prod.fst).nodup_iff.1 cd) cE h
end
end Go.bh
end
section
namespace Go.bh
open Go Go.RowKit Go.WideShapes Go.ChangeShapes
section
variable {P:Program} {fuel:Nat} {t e:TypeId}
theorem HR {H:Type}:∀{bC:List TypeId} {fC:List (DataW H)} {i:Nat} {t:TypeId} {d:DataW H},bC[i]?=some t→fC[i]?=some d→∀n∈d.weights P t,n∈DataW.weightsEach P bC fC
 |a::bC,b::fC,0,t,d,ao,aY,n,aL=>by
  simp only [List.getElem?_cons_zero,Option.some.injEq] at ao aY
  subst ao;subst aY
  exact List.mem_append_left _ aL
 |a::bC,b::fC,i+1,t,d,ao,aY,n,aL=>by
  simp only [List.getElem?_cons_succ] at ao aY
  exact List.mem_append_right _ (HR ao aY n aL)
 |[],_,i,t,d,ao,_,_,_=>by simp at ao
 |_::_,[],i,t,d,_,aY,_,_=>by simp at aY
end
end Go.bh
end
section
namespace Go.bh
open Go Go.MapKept
open Go.ChangeMaps (setBlock)
section
variable {P:Program} {F:Nat→Prop} {lim:Nat→Nat} {w w':World} {n:Nat} {fr:Fr} {m:ad} {ca:Act} {bu:List Nat}
theorem QG {b:Nat} {l:List (R×R)} {os:Nat→List Nat} (h:kk w lim b (.map l) os):∃(es:Array MapEntry) (clock:Nat),w.heap[b]?=some (.map es clock)∧es.size=l.length∧l.length≤140737488355328∧
 (∀i,i<l.length→aF w lim (es.getD i default).key (l.getD i (.aP, .aP)).1 [])∧(∀i,i<l.length→aF w lim (es.getD i default).val (l.getD i (.aP, .aP)).2 [])∧(∀i j,i<j→j<l.length→(es.getD i default).born<(es.getD j default).born)∧(∀i,i<l.length→(es.getD i default).born<clock):=by
 cases h with
 |map es clock l ae al cU aj bc I J os=>exact ⟨es,clock,ae,al,cU,aj,bc,I,J⟩
theorem bd.range (st:bd F lim w n fr m ca bu) {b:Nat} {l:List (R×R)} (hm:m b=some (.map l)):
 ∃es clock,w.heap[b]?=some (.map es clock)∧m w.heap.size=none∧bd F lim (w.alloc (.mapIter (some b) clock #[] clock)) n fr (m.bL b (some (.iter w.heap.size l []))) ca bu∧dc F w lim (w.alloc (.mapIter (some b) clock #[] clock)) lim:=by
 have aA:=st.rF
 have HS:m w.heap.size=none:=by
  cases ae:m w.heap.size with
  |none=>rfl
  |some o=>exact absurd (st.p4 (b:=w.heap.size) (by rw [ae];simp)) (Nat.lt_irrefl _)
 have QH:¬F w.heap.size:=fun aW=>absurd (st.pt aW) (Nat.lt_irrefl _)
 have ts:b<w.heap.size:=st.p4 (by rw [hm];simp)
 have ee:=fun clock=>dc.alloc st (.mapIter (some b) clock #[] clock) 0
 have ek:(fun b=>if b=w.heap.size then 0 else lim b)=lim:=by funext b;by_cases ae:b=w.heap.size<;>simp [ae,aA]
 rw [ek] at ee
 obtain ⟨os,b6,bA,h⟩:=st
 obtain ⟨eI,ar,cE⟩:=h.mem b _ hm
 replace ar:lim b=0:=ar
 obtain ⟨es,clock,ae,al,cU,aj,bc,I,J⟩:=QG eI
 refine ⟨es,clock,ae,HS,?_,ee clock⟩
 have pz:(w.alloc (.mapIter (some b) clock #[] clock)).heap.size=w.heap.size+1:=Array.size_push _
 have bW:∀{v x dS},aF w lim v x dS→(∀c∈dS,bA c≠ .none)→aF (w.alloc (.mapIter (some b) clock #[] clock)) lim v x dS:=fun c1 av=>
  c1.fA (fun _=>Nat.le_refl _) (ee clock).cell (fun c ag=>⟨lC w _ c (h.free c (av c ag)).2.2,rfl⟩)
 have Dd:∀c,bA c≠ .none→c≠w.heap.size:=fun c ag e=>by have:=(h.free c ag).2.2;omega
 refine ⟨os,fun k i=>if k=b then (if i=0 then [w.heap.size] else []) else b6 k i,fun c=>if c=w.heap.size then .nU b 0 else bA c,h.size,h.defers,fun t x ah=>⟨(h.dX t x ah).1,bW (h.dX t x ah).2 (fun c ag=>by rw [(h.ey t x ah).2 c ag];simp)⟩,fun k o fs=>?_,fun t x ah=>⟨(h.ey t x ah).1,fun c ag=>?_⟩,fun k o fs i=>?_,⟨h.fL.1,fun c ag=>?_⟩,fun c ag=>?_,fun k fs=>?_⟩
 · by_cases gO:k=b
   · subst gO
     simp only [ad.bL,↓reduceIte,Option.some.injEq] at fs
     subst fs
     refine ⟨.iter es clock w.heap.size l [] ((lC w _ k ts).trans ae) al cU (fun i ab=>bW (aj i ab) (by simp)) (fun i ab=>bW (bc i ab) (by simp)) I J (nV w _) (by simp) _ (by simp),ar,cE⟩
   · simp only [ad.bL,if_neg gO] at fs
     have xF:=h.mem k o fs
     simp only [if_neg gO]
     have QI:k<w.heap.size:=by
      rcases Nat.lt_or_ge k w.heap.size with ai|ai
      · exact ai
      · rw [(h.fresh k ai).2.2] at fs;cases fs
     refine ⟨xF.1.fA (lC w _ k QI) (fun _=>Nat.le_refl _) (ee clock).cell (fun i c ag=>⟨lC w _ c (h.free c ?_).2.2,rfl⟩),xF.2⟩
     rw [(h.ds k o fs i).2 c ag];simp
 · have ax:=(h.ey t x ah).2 c ag
   have aI:c≠w.heap.size:=Dd c (by rw [ax];simp)
   simp only [if_neg aI,ax]
 · by_cases gO:k=b
   · subst gO
     simp only [if_true]
     by_cases ab:i=0
     · subst ab;simp
     · simp [ab]
   · simp only [ad.bL,if_neg gO] at fs
     simp only [if_neg gO]
     refine ⟨(h.ds k o fs i).1,fun c ag=>?_⟩
     have ax:=(h.ds k o fs i).2 c ag
     have aI:c≠w.heap.size:=Dd c (by rw [ax];simp)
     simp only [if_neg aI,ax]
 · have ax:=h.fL.2 c ag
   have aI:c≠w.heap.size:=Dd c (by rw [ax];simp)
   simp only [if_neg aI,ax]
 · by_cases aI:c=w.heap.size
   · subst aI
     refine ⟨QH,?_,by rw [pz];omega⟩
     simp only [ad.bL]
     rw [if_neg (by omega)];exact HS
   · simp only [if_neg aI] at ag
     have:=h.free c ag
     refine ⟨this.1,?_,by have:=this.2.2;rw [pz];omega⟩
     simp only [ad.bL]
     rw [if_neg (by intro e;subst e;rw [hm] at this;exact absurd this.2.1 (by simp))];exact this.2.1
 · have b2:w.heap.size+1≤k:=by rw [pz] at fs;exact fs
   have:=h.fresh k (by omega)
   refine ⟨this.1,this.2.1,?_⟩
   simp only [ad.bL]
   rw [if_neg (by omega)];exact this.2.2
variable {ops:Array Oper} {stl:List Nat} {r:List Oper} {K:Fr→ad→Prop} {d:Nat} {ty:TypeId} {pos:String} {af:Array Edge} {gd:Option (Nat×Bool)} {L:List (Nat×ed)}
section
variable {cq ep:Type} {dM:cq→R} {vf:ep→R}
end
end
end Go.bh
end
section
namespace Go.bh
open Go Go.Sort
open Go.Proofs (encStr)
section
variable {P:Program} {F:Nat→Prop} {lim:Nat→Nat} {w w':World} {n:Nat} {fr:Fr} {m:ad} {ca:Act} {bu:List Nat}
theorem QJ {v:Value} {s:List UInt8} {os:List Nat} (h:aF w lim v (.str s) os):v=encStr s∧s.length≤140737488355328∧os=[]:=by
 generalize he:R.str s=x at h
 cases h<;>first|(cases he;done)|skip
 rename_i t ao
 have e:s=t.data.toList:=by injection he
 subst e
 exact ⟨rfl,by simpa using ao,rfl⟩
theorem QK {s:List UInt8} (h:s.length≤140737488355328):aF w lim (encStr s) (.str s) []:=by
 have:=aF.str (w:=w) (lim:=lim) ⟨s.toArray⟩ (by simpa [ByteArray.size] using h)
 exact this
theorem bd.freeze (st:bd F lim w n fr m ca []) {b:Nat} {gk:List (List UInt8)} (hm:m b=some (.cells (gk.map cf))):
 bd F (fun c=>if c=b then gk.length else lim c) w n fr (m.bL b none) ca []∧dc F w lim w (fun c=>if c=b then gk.length else lim c)∧
 ∀k cap v,k≤gk.length→k≤140737488355328→aF w lim v (.ms ⟨b,0,none⟩ k cap) []→aF w (fun c=>if c=b then gk.length else lim c) v (.slice false ((gk.take k).map cf)) []:=by
 obtain ⟨os,b6,bA,h⟩:=st
 obtain ⟨eI,ar,cE⟩:=h.mem b _ hm
 replace ar:lim b=0:=ar
 have ek:∀c,lim c≤if c=b then gk.length else lim c:=fun c=>by split<;>simp_all
 have hi:∀c,bA c≠ .none→c≠b:=fun c ag e=>by subst e;have:=(h.free c ag).2.1;rw [hm] at this;cases this
 have bW:∀{v x dS},aF w lim v x dS→(∀c∈dS,bA c≠ .none)→aF w (fun c=>if c=b then gk.length else lim c) v x dS:=fun c1 av=>c1.fA ek (fun _ _ _=>rfl) (fun c ag=>⟨rfl,if_neg (hi c (av c ag))⟩)
 have ts:b<w.heap.size:=by
  rcases Nat.lt_or_ge b w.heap.size with ai|ai
  · exact ai
  · rw [(h.fresh b ai).2.2] at hm;cases hm
 refine ⟨⟨os,b6,bA,h.size,h.defers,fun t x ah=>⟨(h.dX t x ah).1,bW (h.dX t x ah).2 (fun c ag=>by rw [(h.ey t x ah).2 c ag];simp)⟩,fun c o ag=>?_,h.ey,fun c o ag i=>?_,h.fL,fun c ag=>⟨(h.free c ag).1,?_,(h.free c ag).2.2⟩,fun c ag=>?_⟩,⟨rfl,rfl,rfl,Nat.le_refl _,fun c ag=>⟨rfl,?_⟩,ek,fun _ _ _=>rfl⟩,fun k cap v aj aA bc=>?_⟩
 · have jh:c≠b:=fun e=>by subst e;simp [ad.bL] at ag
   simp only [ad.bL,if_neg jh] at ag
   have:=h.mem c o ag
   refine ⟨this.1.fA rfl ek (fun _ _ _=>rfl) (fun i q aO=>⟨rfl,if_neg (hi q (by rw [(h.ds c o ag i).2 q aO];simp))⟩),by rw [if_neg jh];exact this.2.1,this.2.2⟩
 · have jh:c≠b:=fun e=>by subst e;simp [ad.bL] at ag
   simp only [ad.bL,if_neg jh] at ag
   exact h.ds c o ag i
 · have:=(h.free c ag).2.1
   simp only [ad.bL];split
   · rfl
   · exact this
 · have:=h.fresh c ag
   have jh:c≠b:=by omega
   refine ⟨by rw [if_neg jh];exact this.1,this.2.1,?_⟩
   simp only [ad.bL,if_neg jh];exact this.2.2
 · exact if_neg (fun e=>cE (by rw [←e];exact ag))
 · obtain ⟨rfl,QL,lD⟩:=rH bc
   rcases Nat.eq_zero_or_pos k with aq|aq
   · subst aq
     exact .empty _ cap lD
   generalize qX:gk.map cf=X at eI
   cases eI with
   |cells cs e l _ ae al au=>
    have b2:cs.size=gk.length:=by rw [al,←qX];simp
    refine aF.slice b 0 k cap 1 _ (fun i _=>cs.getD i undef) (by simp;omega) QL lD (by omega) (fun i ab=>?_) (by simp;omega) (fun i j ab ay=>?_) (fun i j ab ay=>?_)
    · have lj:i<gk.length:=by omega
      simp [List.getD_eq_getElem?_getD,ab,lj,cf,R.cells]
    · obtain rfl:j=0:=by omega
      have QM:i<cs.size:=by omega
      simp [World.cell?,ae,Array.getD,QM]
    · obtain rfl:j=0:=by omega
      have lj:i<gk.length:=by omega
      have I:=au i (by rw [←qX];simpa using lj)
      rw [←qX] at I
      have aI:(gk.map cf).getD i .aP= .str gk[i]:=by simp [List.getD_eq_getElem?_getD,lj,cf]
      rw [aI] at I
      have J:=QJ I
      have cR:(((gk.take k).map cf).getD i .aP).cells.getD 0 .aP= .str gk[i]:=by simp [List.getD_eq_getElem?_getD,ab,lj,cf,R.cells]
      rw [cR,J.1]
      exact QK J.2.1
end
end Go.bh
end
section
namespace Go.bh
open Go
section
variable {P:Program} {w:World} {lim:Nat→Nat} {v:Value} {x:R} {os:List Nat} {n:Nat} {fr:Fr} {m:ad}
def xK:R→Prop
 | .str s=>s.length≤140737488355328
 | .slice _ l=>l.length≤140737488355328
 | .int k i=>k.min≤i∧i≤k.max
 |_=>True
theorem HT (h:aF w lim v x os):xK x:=by
 cases h with
 |int k i bD ab=>exact ⟨bD,ab⟩
 |str s h=>show s.data.toList.length≤_;simp;exact h
 |fz own=>simp [xK]
 |empty a cap hm=>simp [xK]
 |slice b off n cap sz l cv aL dT hm cU=>show l.length≤_;omega
 |own b n cap sz l cv cur e aL dT hm cU=>show l.length≤_;omega
 |_=>trivial
def Ab (l:List R):Prop:=∀i j,i<l.length→j<(l.getD i .aP).cells.length→xK ((l.getD i .aP).cells.getD j .aP)
theorem HU {o:Bool} {l:List R} (h:aF w lim v (.slice o l) os):Ab l:=by
 intro i j ab ay
 cases h with
 |fz own=>simp at ab
 |empty a cap hm=>simp at ab
 |slice b off n cap sz l cv aL dT hm cU b2 ek ag au=>exact HT (au i j (by omega) (by rw [←b2 i (by omega)];exact ay))
 |own b n cap sz l cv cur e aL dT hm cU aq ae ib b2 ek ag au=>exact HT (au i j (by omega) (by rw [←b2 i (by omega)];exact ay))
theorem HV {α:Type} {f:α→R} {l:List α} {a:α} (h:Ab (l.map f)) (aH:a∈l) (j:Nat) (ay:j<(f a).cells.length):xK ((f a).cells.getD j .aP):=by
 obtain ⟨i,ab,e⟩:=List.getElem_of_mem aH
 have aI:(l.map f).getD i .aP=f a:=by simp [List.getD_eq_getElem?_getD,ab,e]
 have:=h i j (by simpa using ab) (by rw [aI];exact ay)
 rwa [aI] at this
end
end Go.bh
end
