/-
  The abstract layer, part 20: a region whose order is open but for its end: what only reads in any order; then, in the text's order, what makes and writes.
-/
import Derived.Test.YtnahenbiipdlkaaGreatDoorWwS
import Derived.ProofKit
import Derived.SizedLaws
import Derived.MapKept
import Derived.WideMake
import Derived.Maps.RangeRun
import Derived.Shelf.Sort.Plain
section
namespace Go.ba
open Go
section
variable {P:Program} {n:Nat} {fr:Fr} {m:ae}
def o9 (ops:Array Oper) (i:Nat):List Nat:=
 match ops[i]? with
 |some o=>(o.after.toList.filter (Region.binds .any)).map (·.on)
 |none=>[]
def closure (ops:Array Oper):Nat→List Nat→List Nat
 |0,S=>S
 |j+1,S=>closure ops j (if S.contains j then o9 ops j++S else S)
theorem Ee {ops:Array Oper} {p:Nat→Prop} (aU:∀j,p j→∀e∈o9 ops j,p e):∀(k:Nat) (S:List Nat),(∀j∈S,p j)→∀j∈closure ops k S,p j:=by
 intro k
 induction k with
 |zero=>intro S h;exact h
 |succ k aQ=>
  intro S h
  simp only [closure]
  refine aQ _ ?_
  split
  · next ar=>
    intro j aA
    rcases List.mem_append.1 aA with aA|aA
    · exact aU k (h k (by simpa using ar)) j aA
    · exact h j aA
  · exact h
theorem uQ {ops:Array Oper} {i j:Nat} {o:Oper} (aL:ops[i]?=some o):j∈o9 ops i↔∃e∈o.after,Region.binds .any e=true∧e.on=j:=by
 simp [o9,aL,and_assoc]
def qV (ops:Array Oper) (p:Nat) (iy:List (Nat×Nat)):Bool:=
 decide (p≤ops.size)&&
 ((List.range ops.size).all fun i=>(o9 ops i).all fun e=>decide (e<i))&&
 ((List.range ops.size).all fun i=>decide (i<p)||(List.range i).all fun j=>(closure ops i (o9 ops i)).contains j)&&
 ((List.range p).all fun i=>
   match ops[i]? with
   |some o=>
    o.dst.isSome&&
    (List.range p).all fun j=>
      match ops[j]? with
      |some q=>
       (decide (i=j)||!(o.dst==q.dst))&&
       (match q.dst with
       |some d=>!((slotsOf ops o).contains d)||(if j<i then wZ o j else if i<j then wZ q i else true)
       |none=>true)
      |none=>true
   |none=>true)&&
 iy.all fun (d,s)=>
  (List.range p).any (fun j=>match ops[j]? with|some o=>o.dst==some d&&o.guard.isNone&&(match o.op with| .move (.tmp t)=>t==s|_=>false)|none=>false)&&
  (List.range p).all fun j=>match ops[j]? with|some o=>!(o.dst==some s)|none=>true
structure zS (ops:Array Oper) (p:Nat):Prop where
 le:p≤ops.size
 back:∀(i:Nat) (o:Oper) (e:Edge),ops[i]?=some o→e∈o.after→Region.binds .any e=true→e.on<i
 tail:∀(i:Nat),p≤i→i<ops.size→∀j,j<i→j∈closure ops i (o9 ops i)
 dst:∀(i:Nat) (o:Oper),i<p→ops[i]?=some o→∃d,o.dst=some d
 apart:∀(i j:Nat) (o q:Oper),i<p→j<p→ops[i]?=some o→ops[j]?=some q→o.dst=q.dst→i=j
 looks:∀(i j:Nat) (o q:Oper) (d:Nat),i<p→j<p→ops[i]?=some o→ops[j]?=some q→q.dst=some d→d∈slotsOf ops o→(j<i→∃e∈o.after,e.on=j∧Region.binds .any e=true)∧(i<j→∃e∈q.after,e.on=i∧Region.binds .any e=true)
theorem L1 {ops:Array Oper} {p:Nat} {iy:List (Nat×Nat)} (h:qV ops p iy=true):zS ops p:=by
 unfold qV at h
 rw [Bool.and_eq_true,Bool.and_eq_true,Bool.and_eq_true,Bool.and_eq_true] at h
 obtain ⟨⟨⟨⟨J,aa⟩,ai⟩,aJ⟩,_⟩:=h
 have cl:∀{i:Nat} {o:Oper},ops[i]?=some o→i<ops.size:=fun ad=>(Array.getElem?_eq_some_iff.1 ad).1
 simp only [List.all_eq_true,List.mem_range,decide_eq_true_eq,Bool.or_eq_true] at J aa ai aJ
 refine ⟨J,fun i o e ad he ag=>?_,fun i aU ad j aA=>?_,fun i o aU ad=>?_,fun i j o q jt kh ad aA bo=>?_,fun i j o q d jt kh ad aA aO bo=>?_⟩
 · exact aa i (cl ad) e.on ((uQ ad).2 ⟨e,he,ag,rfl⟩)
 · rcases ai i ad with h|h
   · omega
   · have:=h j aA
     simpa using this
 · have:=aJ i aU
   simp only [ad,Bool.and_eq_true] at this
   exact Option.isSome_iff_exists.1 this.1
 · have:=aJ i jt
   simp only [ad,Bool.and_eq_true,List.all_eq_true,List.mem_range] at this
   have:=this.2 j kh
   simp only [aA,Bool.and_eq_true,Bool.or_eq_true,decide_eq_true_eq] at this
   rcases this.1 with h|h
   · exact h
   · rw [bo] at h;simp at h
 · have:=aJ i jt
   simp only [ad,Bool.and_eq_true,List.all_eq_true,List.mem_range] at this
   have:=this.2 j kh
   simp only [aA,aO,Bool.and_eq_true,Bool.or_eq_true] at this
   have:=this.2
   have ar:(slotsOf ops o).contains d=true:=by simpa using bo
   rw [ar] at this
   simp only [Bool.not_true,Bool.false_eq_true,false_or] at this
   refine ⟨fun pb=>?_,fun lG=>?_⟩
   · rw [if_pos pb] at this;exact D8 this
   · rw [if_neg (by omega),if_pos lG] at this;exact D8 this
theorem L2 {ops:Array Oper} {p:Nat} (D:zS ops p) {T:Nat→Fr} {val:Nat→U} (aG:T 0=fr) (al:∀(i:Nat) (o:Oper),i<p→ops[i]?=some o→T (i+1)=ep (T i) o.dst (val i)):
 ∀i,i≤p→∀t,(∀(j:Nat) (o:Oper),j<i→ops[j]?=some o→o.dst=some t→bd (T i) t=val j)∧((∀(j:Nat) (o:Oper),j<i→ops[j]?=some o→o.dst≠some t)→bd (T i) t=bd fr t):=by
 intro i
 induction i with
 |zero=>intro _ t;exact ⟨fun j o aA=>absurd aA (Nat.not_lt_zero _),fun _=>by rw [aG]⟩
 |succ i aQ=>
  intro ad t
  have jt:i<p:=ad
  have cl:i<ops.size:=Nat.lt_of_lt_of_le jt D.le
  obtain ⟨L3,L4⟩:=aQ (by omega) t
  have aL:ops[i]?=some ops[i]:=Array.getElem?_eq_getElem cl
  obtain ⟨d,bo⟩:=D.dst i _ jt aL
  have aV:=al i _ jt aL
  rw [bo] at aV
  simp only [ep] at aV
  rw [aV,D9]
  refine ⟨fun j o aA lH w3=>?_,fun o4=>?_⟩
  · by_cases e:d=t
    · subst e
      have:j=i:=D.apart j i o _ (by omega) jt lH aL (by rw [w3,bo])
      subst this
      simp
    · rw [if_neg e]
      refine L3 j o ?_ lH w3
      rcases Nat.lt_succ_iff_lt_or_eq.1 aA with h|h
      · exact h
      · subst h
        rw [aL] at lH
        cases lH
        rw [bo] at w3
        exact (e (by simpa using w3)).elim
  · have e:¬d=t:=fun e=>o4 i _ (Nat.lt_succ_self i) aL (by rw [bo,e])
    rw [if_neg e]
    exact L4 fun j o aA lH=>o4 j o (by omega) lH
theorem L5 {ops:Array Oper} {p:Nat} (D:zS ops p) {Q:Exit→Act→World→Prop}:∀(fuel k:Nat) (listed:Array Bool) (ca:Act) (w:World),p≤k→k≤ops.size→ops.size- k≤fuel→listed.size=ops.size→
 (∀j,j<ops.size→(listed.getD j false=true↔j<k))→wpList P ops Q (ops.toList.drop k) ca w→wpAny P .any ops Q fuel listed ca w:=by
 intro fuel
 have L6:∀(k:Nat) (listed:Array Bool),k<ops.size→listed.size=ops.size→(∀j,j<ops.size→(listed.getD j false=true↔j<k))→k∈Region.ready .any ops listed:=fun k listed ak ki av=>by
  rw [mem_ready]
  have aL:ops[k]?=some ops[k]:=Array.getElem?_eq_getElem ak
  refine ⟨?_,_,aL,fun e he ag=>?_⟩
  · have:listed.getD k false≠true:=fun h=>absurd ((av k ak).1 h) (Nat.lt_irrefl _)
    simp only [Array.getD_eq_getD_getElem?,Array.getElem?_eq_getElem (show k<listed.size by omega),Option.getD_some] at this ⊢
    simpa using this
  · have:=D.back k _ e aL he ag
    exact (av e.on (by omega)).2 this
 have nil:∀(k:Nat) (listed:Array Bool) (ca:Act) (w:World),k≤ops.size→listed.size=ops.size→(∀j,j<ops.size→(listed.getD j false=true↔j<k))→wpList P ops Q (ops.toList.drop k) ca w→Region.ready .any ops listed=[]→Q .normal ca w:=fun k listed ca w ak ki av h au=>by
  by_cases e:k=ops.size
  · subst e
    rw [List.drop_of_length_le (by simp)] at h
    exact h
  · have:=L6 k listed (by omega) ki av
    rw [au] at this;cases this
 induction fuel with
 |zero=>
  intro k listed ca w L7 ak aN ki av h
  have e:k=ops.size:=by omega
  have au:Region.ready .any ops listed=[]:=by
   cases au:Region.ready .any ops listed with
   |nil=>rfl
   |cons j rs=>
    have aA:j∈Region.ready .any ops listed:=by rw [au];simp
    rw [mem_ready] at aA
    obtain ⟨J,o,aL,_⟩:=aA
    have qW:j<ops.size:=(Array.getElem?_eq_some_iff.1 aL).1
    have:=(av j qW).2 (by omega)
    simp only [Array.getD_eq_getD_getElem?,Array.getElem?_eq_getElem (show j<listed.size by omega),Option.getD_some] at J this
    rw [J] at this;cases this
  exact ⟨au,nil k listed ca w ak ki av h au⟩
 |succ fuel aQ=>
  intro k listed ca w L7 ak aN ki av h
  refine ⟨nil k listed ca w ak ki av h,fun i ad=>?_⟩
  have eV:=ad
  rw [mem_ready] at eV
  obtain ⟨mj,o,aL,uR⟩:=eV
  have k4:i<ops.size:=(Array.getElem?_eq_some_iff.1 aL).1
  have Ue:k≤i:=by
   rcases Nat.lt_or_ge i k with cl|ur
   · have:=(av i k4).2 cl
     simp only [Array.getD_eq_getD_getElem?,Array.getElem?_eq_getElem (show i<listed.size by omega),Option.getD_some] at mj this
     rw [mj] at this;cases this
   · exact ur
  have zT:i=k:=by
   rcases Nat.lt_or_ge k i with cl|ur
   · have hx:=Ee (ops:=ops) (p:=fun j=>j<k) (fun j aA e he=>by
      have qW:j<ops.size:=by omega
      have lH:ops[j]?=some ops[j]:=Array.getElem?_eq_getElem qW
      obtain ⟨nN,J,aa,rfl⟩:=(uQ lH).1 he
      have:=D.back j _ nN lH J aa
      omega) i (o9 ops i) (fun j aA=>by
      obtain ⟨nN,J,aa,rfl⟩:=(uQ aL).1 aA
      have ai:=uR nN J aa
      have:=D.back i _ nN aL J aa
      exact (av nN.on (by omega)).1 ai)
     have:=hx k (D.tail i (by omega) k4 k cl)
     omega
   · omega
  subst zT
  have L8:ops.toList.drop i=o::ops.toList.drop (i+1):=by
   have:i<ops.toList.length:=by simpa using k4
   rw [List.drop_eq_getElem_cons this]
   congr 1
   rw [Array.getElem?_eq_getElem k4] at aL
   simpa using aL
  rw [L8] at h
  have key:∀a w,wpList P ops Q (ops.toList.drop (i+1)) a w→wpAny P .any ops Q fuel (listed.setIfInBounds i true) a w:=fun a w h=>aQ (i+1) _ a w (by omega) (by omega) (by omega) (by simp [ki]) (fun j aA=>by
   by_cases e:i=j
   · subst e;simp [ki,aA]
   · rw [getD_set_ne false e,av j aA];omega) h
  show wpOp P ops _ i _ ca w
  unfold wpOp
  rw [aL]
  unfold wpList at h
  show if Region.wanted o (yielded ops ca.tmps) then _ else _
  split at h
  · next hw=>
    rw [if_pos hw]
    rcases h with h|h
    · exact .inl (Oper.wp_mono key h)
    · exact .inr h
  · next hw=>
    rw [if_neg hw]
    exact key _ _ h
def Fr.alias (fr:Fr):List (Nat×Nat)→Fr
 |[]=>fr
 |(d,s)::r=>Fr.alias ((fr.put s (bd fr s).plain).put d (bd fr s)) r
theorem bc.alias {F:Nat→Prop} {lim:Nat→Nat} {w:World} {ca:Act}:∀(iy:List (Nat×Nat)) {fr:Fr},bc F lim w n fr m ca []→(∀x∈iy,x.1<n∧x.2<n∧ca.tmps.getD x.1 undef=ca.tmps.getD x.2 undef)→bc F lim w n (fr.alias iy) m ca []:=by
 intro iy
 induction iy with
 |nil=>intro fr h _;exact h
 |cons a iy aQ=>
  obtain ⟨d,s⟩:=a
  intro fr h eZ
  obtain ⟨J,aa,ai⟩:=eZ (d,s) (by simp)
  simp only at J aa ai
  refine aQ ?_ fun x aq=>eZ x (by simp [aq])
  obtain ⟨os,fj,ej⟩:=h.sl s aa
  have ic:=fj.CZ J ej
  have cJ:ca.tmps.size=n:=by obtain ⟨_,_,_,h⟩:=h;exact h.size
  have e:ca.put (some d) (ca.tmps.getD s undef)=ca:=by
   rw [←ai]
   obtain ⟨tmps,defers⟩:=ca
   have cD:tmps.setIfInBounds d (tmps.getD d undef)=tmps:=by
    apply Array.ext (by simp)
    intro i ad eV
    by_cases e:d=i
    · subst e;simp [Array.getD,eV]
    · rw [Array.getElem_setIfInBounds_ne eV e]
   simp only [Act.put,cD]
  rw [e,wS] at ic
  exact ic
end
end Go.ba
end
section
namespace Go.ba
open Go
section
variable {P:Program} {n:Nat} {fr:Fr} {m:ae}
theorem L9 {ops:Array Oper} {p:Nat} {iy:List (Nat×Nat)} (h:qV ops p iy=true):∀x∈iy,(∃j o,j<p∧ops[j]?=some o∧o.dst=some x.1∧o.guard=none∧o.op= .move (.tmp x.2))∧∀j o,j<p→ops[j]?=some o→o.dst≠some x.2:=by
 unfold qV at h
 rw [Bool.and_eq_true] at h
 obtain ⟨_,h⟩:=h
 intro ⟨d,s⟩ aq
 have:=List.all_eq_true.1 h _ aq
 simp only [Bool.and_eq_true,List.any_eq_true,List.all_eq_true,List.mem_range] at this
 obtain ⟨⟨j,aA,J⟩,aa⟩:=this
 refine ⟨?_,fun j o aA aL=>?_⟩
 · split at J
   · next o aL=>
     simp only [Bool.and_eq_true,beq_iff_eq,Option.isNone_iff_eq_none] at J
     obtain ⟨⟨ai,aJ⟩,aY⟩:=J
     split at aY
     · next t cB=>
       simp only [beq_iff_eq] at aY
       subst aY
       exact ⟨j,o,aA,aL,ai,aJ,cB⟩
     · cases aY
   · cases J
 · have:=aa j aA
   simp only [aL] at this
   simpa using this
theorem Ef (ca:Act) (d t:Nat) (v:Value) (bo:d<ca.tmps.size):(ca.put (some d) v).tmps.getD t undef=if d=t then v else ca.tmps.getD t undef:=by
 simp only [Act.put,Array.getD_eq_getD_getElem?,Array.getElem?_setIfInBounds]
 split
 · next e=>subst e;simp [bo]
 · rfl
set_option maxHeartbeats 1000000 in
theorem Ma {id:Nat} {ops:Array Oper} {Q:Exit→Fr→ae→Prop} (hm:P.follows .mixedOrders=true) (p:Nat) (iy:List (Nat×Nat)) (cs:List U) (ks:List Nat) (ak:kf n ops ks=true) (bo:qV ops p iy=true)
 (h:mm P ops m cs (ops.toList.take p) fr (fun aZ=>bS P n ops (ops.toList.drop p) (fun fr m=>Q .normal (fr.keep ks) m) (aZ.alias iy) m)):de P n (.region id ops true) Q fr m:=by
 intro F lim w ca st
 have D:=L1 bo
 have A:=L9 bo
 simp only [kf,Bool.and_eq_true,List.all_eq_true] at ak
 obtain ⟨T,c,val,Eg,Eh,uS⟩:=LP _ _ _ _ h
 have hlen:(ops.toList.take p).length=p:=by simp [D.le]
 rw [hlen] at Eh
 replace uS:∀i o,i<p→ops[i]?=some o→(∃side,pv P ops m (c i) (bd (T i)) o=some (side,val i)∧side)∧T (i+1)=ep (T i) o.dst (val i):=fun i o ad aL=>uS i o (by rw [List.getElem?_take_of_lt ad];simpa using aL)
 have Ei:=L2 D Eg (fun i o ad aL=>(uS i o ad aL).2)
 have cl:∀{i:Nat} {o:Oper},ops[i]?=some o→i<ops.size:=fun ad=>(Array.getElem?_eq_some_iff.1 ad).1
 have bL:∀{i:Nat} {o:Oper},ops[i]?=some o→eQ n o=true∧gh n o=true:=fun aL=>ak.1 _ (by rw [Array.mem_toList_iff];exact Array.mem_of_getElem? aL)
 have Mb:∀i,i≤p→∀t x,(T i).get t=some x→t<n:=by
  intro i
  induction i with
  |zero=>
   intro _ t x aq
   rw [Eg] at aq
   obtain ⟨_,_,_,st⟩:=st
   exact (st.ey t x aq).1
  |succ i aQ=>
   intro ad t x aq
   have Mc:i<ops.size:=Nat.lt_of_lt_of_le ad D.le
   have aL:ops[i]?=some ops[i]:=Array.getElem?_eq_getElem Mc
   obtain ⟨d,kj⟩:=D.dst i _ ad aL
   rw [(uS i _ ad aL).2,kj] at aq
   simp only [ep,Fr.oU] at aq
   split at aq
   · next e=>subst e;exact jZ (bL aL).1 kj
   · exact aQ (by omega) t x aq
 refine wp_region_any hm ?_
 have key:∀fuel (listed:Array Bool) aZ lim' w' dX,listed.size=ops.size→(∀j,listed.getD j false=true→j<p)→
  (∀t,(∀(j:Nat) (o:Oper),ops[j]?=some o→listed.getD j false=true→o.dst=some t→bd aZ t=val j)∧((∀(j:Nat) (o:Oper),ops[j]?=some o→listed.getD j false=true→o.dst≠some t)→bd aZ t=bd fr t))→
  (∀(j:Nat) (o:Oper) (e:Edge),ops[j]?=some o→listed.getD j false=true→e∈o.after→Region.binds .any e=true→listed.getD e.on false=true)→
  (∀t,(∀j o,j<p→ops[j]?=some o→o.dst≠some t)→dX.tmps.getD t undef=ca.tmps.getD t undef)→
  (∀j o d s,ops[j]?=some o→listed.getD j false=true→o.dst=some d→o.guard=none→o.op= .move (.tmp s)→(∀j o,j<p→ops[j]?=some o→o.dst≠some s)→dX.tmps.getD d undef=ca.tmps.getD s undef)→
  ((List.range p).filter fun j=>!listed.getD j false).length+(ops.size- p)≤fuel→
  bc F lim' w' n aZ m dX []→dL F w lim w' lim'→wpAny P .any ops (nG F lim w n Q) fuel listed dX w':=by
  intro fuel
  have fin:∀fuel (listed:Array Bool) aZ lim' w' dX,listed.size=ops.size→(∀j,listed.getD j false=true→j<p)→
   (∀t,(∀(j:Nat) (o:Oper),ops[j]?=some o→listed.getD j false=true→o.dst=some t→bd aZ t=val j)∧((∀(j:Nat) (o:Oper),ops[j]?=some o→listed.getD j false=true→o.dst≠some t)→bd aZ t=bd fr t))→
   (∀t,(∀j o,j<p→ops[j]?=some o→o.dst≠some t)→dX.tmps.getD t undef=ca.tmps.getD t undef)→
   (∀j o d s,ops[j]?=some o→listed.getD j false=true→o.dst=some d→o.guard=none→o.op= .move (.tmp s)→(∀j o,j<p→ops[j]?=some o→o.dst≠some s)→dX.tmps.getD d undef=ca.tmps.getD s undef)→
   (∀j,j<p→listed.getD j false=true)→ops.size- p≤fuel→bc F lim' w' n aZ m dX []→dL F w lim w' lim'→wpAny P .any ops (nG F lim w n Q) fuel listed dX w':=by
   intro fuel listed aZ lim' w' dX ki mW gY gm mV hx aN s1 dQ
   have j1:∀t,bd aZ t=bd (T p) t:=fun t=>by
    obtain ⟨cn,a2⟩:=gY t
    obtain ⟨ia,jX⟩:=Ei p (Nat.le_refl _) t
    by_cases hex:∃(j:Nat) (o:Oper),j<p∧ops[j]?=some o∧o.dst=some t
    · obtain ⟨j,o,kh,aA,aL⟩:=hex
      rw [cn j o aA (hx j kh) aL,ia j o kh aA aL]
    · rw [a2 fun j o aA av aL=>hex ⟨j,o,mW j av,aA,aL⟩,jX fun j o kh aA aL=>hex ⟨j,o,kh,aA,aL⟩]
   have s2:bc F lim' w' n (T p) m dX []:=s1.sub fun t x aq=>by
    have au:=j1 t
    have wV:bd (T p) t=x:=by simp [bd,aq]
    rw [wV] at au
    cases bl:aZ.get t with
    |some y=>
     simp only [bd,bl,Option.getD_some] at au
     subst au;exact .inl rfl
    |none=>
     simp only [bd,bl,Option.getD_none] at au
     exact .inr ⟨au.symm,Mb p (Nat.le_refl _) t x aq⟩
   have mS:=bc.alias iy s2 fun x aq=>by
    obtain ⟨⟨j,o,kh,aA,J,aa,ai⟩,aJ⟩:=A x aq
    refine ⟨jZ (bL aA).1 J,?_,?_⟩
    · exact wU (bL aA).2 (y:= .tmp x.2) (by rw [ai];simp [Op.operands]) _ rfl
    · rw [mV j o x.1 x.2 aA (hx j kh) J aa ai aJ,gm x.2 aJ]
   have Uf:∀o∈ops.toList.drop p,eQ n o=true∧gh n o=true:=fun o aL=>ak.1 o (List.mem_of_mem_drop aL)
   have aV:=Eh F lim' w' dX (nG F lim w n Q) mS fun jG h9 pR mg se ab Md eN=>
    ⟨jG,_,mg,ab,Md.keep (fun t aB=>by simpa using ak.2 t aB),dQ.trans eN⟩
   exact L5 D fuel p listed dX w' (Nat.le_refl _) D.le aN ki (fun j aA=>⟨fun h=>mW j h,fun h=>hx j h⟩) aV
  have least:∀(listed:Array Bool),listed.size=ops.size→(¬∀j,j<p→listed.getD j false=true)→Region.ready .any ops listed≠[]:=fun listed ki aI au=>aI fun j=>by
   induction j using Nat.strongRecOn with
   |_ j aQ=>
    intro aA
    cases av:listed.getD j false with
    |true=>rfl
    |false=>
     have qW:j<ops.size:=Nat.lt_of_lt_of_le aA D.le
     have aL:ops[j]?=some ops[j]:=Array.getElem?_eq_getElem qW
     have:j∈Region.ready .any ops listed:=by
      rw [mem_ready]
      refine ⟨?_,_,aL,fun e he ag=>aQ e.on (D.back j _ e aL he ag) (Nat.lt_trans (D.back j _ e aL he ag) aA)⟩
      simp only [Array.getD_eq_getD_getElem?,Array.getElem?_eq_getElem (show j<listed.size by omega),Option.getD_some] at av ⊢
      exact av
     rw [au] at this;cases this
  induction fuel with
  |zero=>
   intro listed aZ lim' w' dX ki mW gY kM gm mV Me s1 dQ
   refine fin 0 listed aZ lim' w' dX ki mW gY gm mV (fun j aA=>?_) (by omega) s1 dQ
   cases av:listed.getD j false with
   |true=>rfl
   |false=>
    have:j∈(List.range p).filter fun j=>!listed.getD j false:=List.mem_filter.2 ⟨List.mem_range.2 aA,by rw [av];rfl⟩
    have:=List.length_pos_of_mem this
    omega
  |succ fuel aQ=>
   intro listed aZ lim' w' dX ki mW gY kM gm mV Me s1 dQ
   by_cases hx:∀j,j<p→listed.getD j false=true
   · exact fin (fuel+1) listed aZ lim' w' dX ki mW gY gm mV hx (by omega) s1 dQ
   refine ⟨fun au=>(least listed ki hx au).elim,fun i ad=>?_⟩
   rw [mem_ready] at ad
   obtain ⟨mj,o,aL,uR⟩:=ad
   have k4:=cl aL
   have jt:i<p:=by
    rcases Nat.lt_or_ge i p with h|h
    · exact h
    · exfalso
      apply hx
      intro j aA
      have:=Ee (ops:=ops) (p:=fun j=>listed.getD j false=true) (fun j aA e he=>by
       have qW:j<ops.size:=Nat.lt_of_lt_of_le (mW j aA) D.le
       have lH:ops[j]?=some ops[j]:=Array.getElem?_eq_getElem qW
       obtain ⟨nN,J,aa,rfl⟩:=(uQ lH).1 he
       exact kM j _ nN lH aA J aa) i (o9 ops i) (fun j aA=>by
       obtain ⟨nN,J,aa,rfl⟩:=(uQ aL).1 aA
       exact uR nN J aa)
      exact this j (D.tail i h k4 j (by omega))
   have zU:listed.getD i false=false:=by
    simp only [Array.getD_eq_getD_getElem?,Array.getElem?_eq_getElem (show i<listed.size by omega),Option.getD_some] at mj ⊢
    exact mj
   obtain ⟨⟨side,Ej,uT⟩,_⟩:=uS i o jt aL
   obtain ⟨d,kj⟩:=D.dst i o jt aL
   have j1:∀t∈slotsOf ops o,bd (T i) t=bd aZ t:=fun t aB=>by
    obtain ⟨cn,a2⟩:=gY t
    obtain ⟨ia,jX⟩:=Ei i (Nat.le_of_lt jt) t
    by_cases hex:∃(j:Nat) (q:Oper),j<p∧ops[j]?=some q∧q.dst=some t
    · obtain ⟨j,q,kh,aA,aO⟩:=hex
      obtain ⟨hg,gR⟩:=D.looks i j o q t jt kh aL aA aO aB
      have Ek:∀(oA:Nat) (cY:Oper),oA<p→ops[oA]?=some cY→cY.dst=some t→oA=j:=fun oA cY Mf jr kg=>D.apart oA j cY q Mf kh jr aA (by rw [kg,aO])
      by_cases pb:j<i
      · obtain ⟨e,he,zV,zW⟩:=hg pb
        have pc:listed.getD j false=true:=by rw [←zV];exact uR e he zW
        rw [cn j q aA pc aO,ia j q pb aA aO]
      · have Mg:listed.getD j false=false:=by
         by_cases lG:i<j
         · obtain ⟨e,he,zV,zW⟩:=gR lG
           cases pc:listed.getD j false with
           |false=>rfl
           |true=>
            have:=kM j q e aA pc he zW
            rw [zV,zU] at this;cases this
         · have:i=j:=by omega
           subst this;exact zU
        have cM:=a2 (fun oA cY jr l8 kg=>by
         rw [Ek oA cY (mW oA l8) jr kg,Mg] at l8
         cases l8)
        have bI:=jX (fun oA cY jr lH kg=>by
         have:=Ek oA cY (by omega) lH kg
         omega)
        rw [cM,bI]
    · rw [a2 fun j q aA av aO=>hex ⟨j,q,mW j av,aA,aO⟩,jX fun j q pb aA aO=>hex ⟨j,q,by omega,aA,aO⟩]
   rw [LN j1] at Ej
   have ib:d<dX.tmps.size:=by
    have:=jZ (bL aL).1 kj
    obtain ⟨_,_,_,s1⟩:=s1
    rw [s1.size];exact this
   show wpOp P ops _ i _ dX w'
   unfold wpOp
   rw [aL]
   show if Region.wanted o (yielded ops dX.tmps) then _ else _
   refine LU (bL aL).1 (bL aL).2 Ej uT kj s1 fun jG h9 v s2 Mh Mi=>?_
   rw [kj] at s2 ⊢
   have p1:∀j,(listed.setIfInBounds i true).getD j false=true→j=i∨listed.getD j false=true:=fun j av=>by
    by_cases e:i=j
    · exact .inl e.symm
    · rw [getD_set_ne false e] at av;exact .inr av
   refine aQ (listed.setIfInBounds i true) (aZ.put d (val i)) jG h9 _ (by simp [ki]) (fun j av=>?_) (fun t=>?_) (fun j q e aA av he ag=>?_) (fun t aB=>?_) (fun j q jO s aA av J aa ai aJ=>?_) ?_ s2 (dQ.trans Mh)
   · rcases p1 j av with rfl|av
     · exact jt
     · exact mW j av
   · obtain ⟨cn,a2⟩:=gY t
     rw [D9]
     refine ⟨fun j q aA av aO=>?_,fun o4=>?_⟩
     · by_cases e:d=t
       · subst e
         have kh:j<p:=by
          rcases p1 j av with rfl|av
          · exact jt
          · exact mW j av
         have:j=i:=D.apart j i q o kh jt aA aL (by rw [aO,kj])
         subst this;simp
       · rw [if_neg e]
         have pb:i≠j:=by
          intro cD
          subst cD
          rw [aL] at aA
          have Mj:o=q:=by simpa using aA
          rw [←Mj,kj] at aO
          exact e (by simpa using aO)
         rw [getD_set_ne false pb] at av
         exact cn j q aA av aO
     · have e:¬d=t:=fun e=>o4 i o aL (by simp [show i<listed.size by omega]) (by rw [kj,e])
       rw [if_neg e]
       exact a2 fun j q aA av=>o4 j q aA (getD_set_true av)
   · rcases p1 j av with rfl|av
     · rw [aL] at aA;cases aA
       exact getD_set_true (uR e he ag)
     · exact getD_set_true (kM j q e aA av he ag)
   · rw [Ef _ _ _ _ ib,if_neg (fun e=>aB i o jt aL (by rw [kj,e]))]
     exact gm t aB
   · rw [Ef _ _ _ _ ib]
     by_cases e:d=jO
     · rw [if_pos e]
       have kh:j<p:=by
        rcases p1 j av with rfl|av
        · exact jt
        · exact mW j av
       have:j=i:=D.apart j i q o kh jt aA aL (by rw [J,kj,e])
       subst this
       rw [aL] at aA;cases aA
       rw [Mi s ai aa]
       exact gm s aJ
     · rw [if_neg e]
       rcases p1 j av with rfl|av
       · rw [aL] at aA;cases aA
         rw [kj] at J
         exact (e (by simpa using J)).elim
       · exact mV j q jO s aA av J aa ai aJ
   · have Mk:∀x,(!(listed.setIfInBounds i true).getD x false)=true→(!listed.getD x false)=true:=by
      intro x aq
      cases av:listed.getD x false with
      |false=>rfl
      |true=>rw [getD_set_true av] at aq;simp at aq
     have:=filter_lt (fun j=>!listed.getD j false) (fun j=>!(listed.setIfInBounds i true).getD j false) Mk (List.range p) i (by simpa using jt) (by rw [zU];rfl) (by simp [show i<listed.size by omega])
     omega
 refine key ops.size (Array.replicate ops.size false) fr lim _ ca (by simp) (fun j av=>?_) (fun t=>⟨fun j o aA av=>?_,fun _=>rfl⟩) (fun j o e aA av=>?_) (fun _ _=>rfl) (fun j o d s aA av=>?_) ?_ (st.heap (w':={w with drawn:=w.drawn+1}) rfl) (dL.drew F w lim)
 · exfalso
   by_cases aA:j<ops.size
   · simp [Array.getD_eq_getD_getElem?,aA] at av
   · simp [Array.getD_eq_getD_getElem?,aA] at av
 · have:=cl aA
   simp [Array.getD_eq_getD_getElem?,this] at av
 · have:=cl aA
   simp [Array.getD_eq_getD_getElem?,this] at av
 · have:=cl aA
   simp [Array.getD_eq_getD_getElem?,this] at av
 · have:=List.length_filter_le (fun j=>!(Array.replicate ops.size false).getD j false) (List.range p)
   rw [List.length_range] at this
   have:=D.le
   omega
theorem El {ops:Array Oper}:∀(l:List Oper) {cs:List U} {fr:Fr} {K iZ:Fr→Prop},(∀fr,K fr→iZ fr)→mm P ops m cs l fr K→mm P ops m cs l fr iZ:=by
 intro l
 induction l with
 |nil=>intro cs fr K iZ ab h;exact ab _ h
 |cons o l aQ=>
  intro cs fr K iZ ab h
  simp only [mm] at h ⊢
  split at h
  · exact ⟨h.1,aQ ab h.2⟩
  · exact h
end
end Go.ba
end
section
namespace Go.ba
open Go
def I {α:Type} [Inhabited α] (xs:List α) (k:Int):α:=xs.getD k.toNat default
theorem wrap64 (n:Int) (J:-9223372036854775808≤n) (aa:n≤9223372036854775807):IntKind.i64.wrap n=n:=
 C1 .i64 n (by simp [IntKind.min,IntKind.signed,IntKind.bits];omega) (by simp [IntKind.max,IntKind.signed,IntKind.bits];omega)
theorem idx_eq {α:Type} [Inhabited α] (f:α→U) (xs:List α) (k:Int) (aG:0≤k) (J:k<xs.length):(xs.map f).getD k.toNat .aS=f (I xs k):=by
 have:k.toNat<xs.length:=by omega
 simp [I,List.getD_eq_getElem?_getD,this]
section
variable {P:Program} {n:Nat} {ops:Array Oper} {stl:List Nat} {r:List Oper} {K:Fr→ae→Prop} {fr:Fr} {m:ae} {d:Nat} {ty:TypeId} {pos:String} {af:Array Edge}
theorem Em {t:TypeId} {l:List U} {off:Nat} (J:dS P t=true) (aa:jW P t=false) (ai:off<l.length):jJ P t l off:=⟨J,by simp [aa,ai]⟩
theorem Ml {t:TypeId} {l:List U} {off:Nat} (J:dS P t=true) (aa:jW P t=true) (ai:off+P.cellsOf t≤l.length):jJ P t l off:=⟨J,by simp [aa,ai]⟩
end
end Go.ba
end
section
namespace Go.ba
open Go
theorem ds {b:Bool} (h:(!b)=true):b=false:=by simpa using h
theorem dn {b:Bool} (h:(!b)=false):b=true:=by simpa using h
theorem eO {a b:Bool} (h:(a&&b)=true):a=true:=by cases a<;>simp_all
theorem fk {a b:Bool} (h:(a&&b)=true):b=true:=by cases a<;>simp_all
theorem fl {a b:Bool} (h:(a&&b)=false):a=false∨b=false:=by cases a<;>simp_all
theorem b8 {a b:Bool} (h:(a||b)=false):a=false:=by cases a<;>simp_all
theorem di {a b:Bool} (h:(a||b)=false):b=false:=by cases a<;>simp_all
theorem dj {a b:Bool} (h:(a||b)=true):a=true∨b=true:=by cases a<;>simp_all
theorem df {K:U→ae→Prop} {x y:U} {m:ae} (ab:K x m) (h:x=y):K y m:=h▸ab
def aE (n:Int):U:= .int .i64 n
def cS (s:List UInt8):U:= .str s
def bj {α:Type} (f:α→U) (l:List α):U:= .slice false (l.map f)
def sub {α:Type} (l:List α) (p q:Int):List α:=(l.drop p.toNat).take (q- p).toNat
section
variable {P:Program} {n:Nat} {fr:Fr} {m:ae}
theorem Mm {c:Code} {Q:Exit→Fr→ae→Prop} {σ:Type} (w4:σ→Fr) (w5:σ→ae) (fO:σ→Prop) (mn:σ→Nat) (uU:σ) (aG:fr=w4 uU) (Mn:m=w5 uU) (ay:fO uU)
 (h:∀s,fO s→de P n c (y6 (fun aZ m'=>∃h1,aZ=w4 h1∧m'=w5 h1∧fO h1∧mn h1<mn s) Q) (w4 s) (w5 s)):de P n (.loop c) Q fr m:=by
 have conv:∀{F:Nat→Prop} {lim:Nat→Nat} {w:World} {jG:Nat→Nat} {h9:World},dL F w lim h9 jG→∀K a k6,Code.rounds P c (nG F jG h9 n Q) K a k6→Code.rounds P c (nG F lim w n Q) K a k6:=by
  intro F lim w jG h9 dQ K
  induction K with
  |zero=>intro a k6 h;exact h.elim
  |succ K Mo=>
   intro a k6 h
   refine wp_mono h fun e a En q=>?_
   cases e with
   |normal=>exact Mo _ _ q
   |_=>exact nG.from dQ q
 have key:∀N s,fO s→mn s<N→∀F lim w ca,bc F lim w n (w4 s) (w5 s) ca []→Code.rounds P c (nG F lim w n Q) N ca w:=by
  intro N
  induction N with
  |zero=>intro s _ cl;omega
  |succ N aQ=>
   intro s al cl F lim w ca st
   refine wp_mono (h s al F lim w ca st) fun e a h9 ⟨jG,pR,mg,q,sr,pS⟩=>?_
   cases e with
   |normal=>
    obtain ⟨h1,rfl,rfl,Mp,nM⟩:=q
    exact conv pS _ _ _ (aQ h1 Mp (by omega) F jG h9 a sr)
   |_=>exact ⟨jG,pR,mg,q,sr,pS⟩
 intro F lim w ca st
 subst aG Mn
 exact wp_loop_rounds (mn uU+1) (key _ uU ay (Nat.lt_succ_self _) F lim w ca st)
variable {ops:Array Oper} {stl:List Nat} {r:List Oper} {K:Fr→ae→Prop} {d:Nat} {ty:TypeId} {pos:String} {af:Array Edge}
variable {cs:List U} {kN:Fr→Prop} {gd:Option (Nat×Bool)}
theorem Eo {c:U} {o:Oper} (bl:hI ops fr o.guard=some true):pv P ops m c (bd fr) o=j2 P m c (bd fr) o:=by
 unfold pv
 unfold hI at bl
 split
 · rfl
 · next j b me=>
   rw [me] at bl
   simp only at bl
   split
   · next g aA=>
     rw [aA] at bl
     simp only at bl
     rw [bl]
   · next aA=>rw [aA] at bl;cases bl
theorem Ep {c:U} {o:Oper} (bl:hI ops fr o.guard=some false):pv P ops m c (bd fr) o=some (True, .lazy false .aS):=by
 unfold pv
 unfold hI at bl
 split
 · next me=>rw [me] at bl;cases bl
 · next j b me=>
   rw [me] at bl
   simp only at bl
   split
   · next g aA=>
     rw [aA] at bl
     simp only at bl
     rw [bl]
   · next aA=>rw [aA] at bl;cases bl
end
end Go.ba
end
section
namespace Go.ba
open Go
def su (P:Program) (o:Oper) (K:Fr→ae→Prop) (fr:Fr) (m:ae):Prop:=
 ∀n,eQ n o=true→gh n o=true→∀F lim w ca,bc F lim w n fr m ca []→
  ∃res v w' lim' aZ m',(execOp ca.eval o).run P w= .ok res w'∧((res= .value v)∨(res= .skip∧v=undef))∧bc F lim' w' n aZ m' (ca.put o.dst v) []∧dL F w lim w' lim'∧K aZ m'
def j3 (P:Program) (ops:Array Oper) (stl:List Nat) (o:Oper) (K:Fr→ae→Prop) (fr:Fr) (m:ae):Prop:=
 match o with
 |⟨dst,op,_,_,_,gd⟩=>
 match hI ops fr gd with
 |some true=>
  match op with
  | .pick c x y=>
    match b4 (bd fr) c with
    | .bool true=>K (ep fr dst (b4 (bd fr) x)) m
    | .bool false=>K (ep fr dst (b4 (bd fr) y)) m
    |_=>False
  | .box _ x=>(eB (bd fr) x).dy=true∧∀b,m b=none→K (ep (fr.strip (kd x)) dst (.ptr ⟨b,0,none⟩)) (m.cQ b (some (.cells (eB (bd fr) x).cells)))
  |_=>
   match eC P m (bd fr) stl dst op with
   | .val side ss m' x=>side∧K (ep (fr.strip ss) dst x) m'
   | .nI side ss m'=>side∧K (ep (fr.strip ss) dst .aS) m'
   | .new side ss mk hG=>side∧∀b,m b=none→K (ep (fr.strip ss) dst (mk b)) (m.cQ b (some hG))
   | .call f args=>bg P f args m (wI K dst fr)
   | .stuck=>su P o K fr m
 |some false=>
  match dst with
  |some d=>K (fr.put d (.lazy false .aS)) m
  |none=>K fr m
 |none=>False
def hJ (P:Program) (ops:Array Oper) (stl:List Nat):List Oper→(Fr→ae→Prop)→Fr→ae→Prop
 |[],K=>K
 |o::r,K=>j3 P ops stl o (hJ P ops stl r K)
section
variable {P:Program} {F:Nat→Prop} {lim:Nat→Nat} {w:World} {n:Nat} {fr:Fr} {m:ae} {ca:Act} {bE:List Nat}
theorem qX {ops:Array Oper} {o:Oper} {z:Bool} (st:bc F lim w n fr m ca bE) (ao:hI ops fr o.guard=some z):Region.wanted o (yielded ops ca.tmps)=z:=by
 unfold hI at ao
 split at ao
 · next bl=>obtain rfl:=Option.some.inj ao;simp [Region.wanted,bl]
 · next j b bl=>
   split at ao
   · next g aA=>
     obtain ⟨os,cP,bW,h⟩:=st
     cases aT:fr.get g with
     |none=>simp [bd,aT,pZ] at ao
     |some x=>
      simp only [bd,aT,Option.getD_some] at ao
      obtain ⟨cl,au⟩:=h.ey g _ aT
      have nM:g<ca.tmps.size:=by rw [h.size];exact cl
      have sq:ca.tmps[g]?=some (ca.tmps.getD g undef):=by
       rw [Array.getElem?_eq_getElem nM]
       simp [Array.getD,nM]
      have:=D4 ao au
      simp only [Region.wanted,bl,yielded,aA,Option.bind_some,sq]
      rw [←this]
      generalize ca.tmps.getD g undef=v
      cases v<;>rfl
   · cases ao
theorem Mq {b:Nat} {cs:Array Value} {e:TypeId} {Eb:Nat×Nat} (ag:w.heap[b]?=some (.cells cs e Eb)):w.setRow b cs=w:=by
 have cl:b<w.heap.size:=(Array.getElem?_eq_some_iff.1 ag).1
 have:(w.heap.modify b fun| .cells _ elem frozen=> .cells cs elem frozen|o=>o)=w.heap:=by
  apply Array.ext (by simp)
  intro i ad eV
  rw [Array.getElem_modify]
  split
  · next e=>subst e;rw [Array.getElem?_eq_getElem cl] at ag;simp at ag;rw [ag]
  · rfl
 exact congrArg (fun h=>({w with heap:=h}:World)) this
theorem bc.Mr {t:TypeId} {x:Operand} (st:bc F lim w n fr m ca []) (aq:kD x=true) (al:∀t,x= .tmp t→t<n) (aB:(eB (bd fr) x).dy=true):
 ∃lim',m w.heap.size=none∧bc F lim' (w.alloc (.cells (ca.eval x).cells t)) n (fr.strip (kd x)) (m.cQ w.heap.size (some (.cells (eB (bd fr) x).cells))) ca []∧dL F w lim (w.alloc (.cells (ca.eval x).cells t)) lim':=by
 obtain ⟨os,s1,s2⟩:=st.DO x aq al
 obtain ⟨oss,jd,c2,c3⟩:=zg s2 aB
 obtain ⟨cn,a2⟩:=s1.C0 (ca.eval x).cells t (U.eU (eB (bd fr) x).cells) (by rw [U.h0,List.length_map];exact jd) (fun i ad=>by
  rw [mJ]
  exact (c2 i (by simpa [U.h0] using ad)).plain)
 have mb:=s1.pP
 have eN:=uA st (.cells (ca.eval x).cells t)
 have db:∀c,c∈os→c<w.heap.size:=fun c ar=>s2.CX c ar
 have au:∀i,i<(eB (bd fr) x).cells.length→aP (w.alloc (.cells (ca.eval x).cells t)) lim ((ca.eval x).cells.toList.getD i undef) ((eB (bd fr) x).cells.getD i .aS) (oss i):=fun i ad=>by
  have ar:=c2 i ad
  have e:(ca.eval x).cells.toList.getD i undef=(ca.eval x).cells.getD i undef:=by simp [List.getD_eq_getElem?_getD,Array.getD_eq_getD_getElem?]
  rw [e]
  refine ar.gQ (fun _=>Nat.le_refl _) eN.cell fun c l9=>⟨kC w _ c ?_,rfl⟩
  exact ar.CX c l9
 have p1:=qE w (.cells (ca.eval x).cells t)
 obtain ⟨ia,jX⟩:=a2.Dm (b:=w.heap.size) (off:=0) (l:=U.eU (eB (bd fr) x).cells) (xs:=(eB (bd fr) x).cells) (vs:=(ca.eval x).cells.toList) (oss:=oss) (by simp [ae.cQ]) p1
  (by simp [U.h0]) (by simpa using jd) au c3
 have av:(U.eU (eB (bd fr) x).cells).length=(eB (bd fr) x).cells.length:=by simp [U.h0]
 have aM:((ca.eval x).cells.toList.take 0++(ca.eval x).cells.toList++(ca.eval x).cells.toList.drop (0+(ca.eval x).cells.toList.length)).toArray=(ca.eval x).cells:=by
  rw [List.take_zero,List.nil_append,List.drop_of_length_le (by omega),List.append_nil]
 have aC:(U.eU (eB (bd fr) x).cells).take 0++(eB (bd fr) x).cells++(U.eU (eB (bd fr) x).cells).drop (0+(eB (bd fr) x).cells.length)=(eB (bd fr) x).cells:=by
  rw [List.take_zero,List.nil_append,List.drop_of_length_le (by rw [av];omega),List.append_nil]
 rw [aM,aC,Mq p1] at ia
 refine ⟨lim,cn,?_,eN⟩
 have c8:(m.cQ w.heap.size (some (.cells (U.eU (eB (bd fr) x).cells)))).cQ w.heap.size (some (.cells (eB (bd fr) x).cells))=m.cQ w.heap.size (some (.cells (eB (bd fr) x).cells)):=by
  funext c;simp only [ae.cQ];split<;>rfl
 rw [c8] at ia
 exact ia
theorem Ms {ops:Array Oper} {stl:List Nat} {K:Fr→ae→Prop} {dst:Option Nat} {op:Op} {ty:TypeId} {pos:String} {af:Array Edge} {gd:Option (Nat×Bool)} (bl:hI ops fr gd=some true) (h:j3 P ops stl ⟨dst,op,ty,pos,af,gd⟩ K fr m):
 (∃c x y b,op= .pick c x y∧b4 (bd fr) c= .bool b∧K (ep fr dst (b4 (bd fr) (if b then x else y))) m)∨
 (∃t x,op= .box t x∧(eB (bd fr) x).dy=true∧∀b,m b=none→K (ep (fr.strip (kd x)) dst (.ptr ⟨b,0,none⟩)) (m.cQ b (some (.cells (eB (bd fr) x).cells))))∨mO P ops stl ⟨dst,op,ty,pos,af,none⟩ K fr m∨su P ⟨dst,op,ty,pos,af,gd⟩ K fr m:=by
 simp only [j3,bl] at h
 split at h
 · next c x y=>
   split at h
   · next ar=>exact .inl ⟨c,x,y,true,rfl,ar,h⟩
   · next ar=>exact .inl ⟨c,x,y,false,rfl,ar,h⟩
   · exact h.elim
 · next t x=>exact .inr (.inl ⟨t,x,rfl,h⟩)
 · refine .inr (.inr ?_)
   simp only [mO]
   cases aX:eC P m (bd fr) stl dst op with
   |val side ss m' x=>rw [aX] at h;exact .inl h
   |nI side ss m'=>rw [aX] at h;exact .inl h
   |new side ss mk hG=>rw [aX] at h;exact .inl h
   |call f args=>rw [aX] at h;exact .inl h
   |stuck=>rw [aX] at h;exact .inr h
theorem su.mono {o:Oper} {K iZ:Fr→ae→Prop} (ab:∀fr m,K fr m→iZ fr m) (h:su P o K fr m):su P o iZ fr m:=fun n J aa F lim w ca st=>by
 obtain ⟨res,v,w',lim',aZ,m',a,b,c,d,e⟩:=h n J aa F lim w ca st
 exact ⟨res,v,w',lim',aZ,m',a,b,c,d,ab _ _ e⟩
theorem Mt {ops:Array Oper} {stl:List Nat} {o:Oper} {K iZ:Fr→ae→Prop} (ab:∀fr m,K fr m→iZ fr m) (h:j3 P ops stl o K fr m):j3 P ops stl o iZ fr m:=by
 obtain ⟨dst,op,ty,pos,af,gd⟩:=o
 unfold j3 at h ⊢
 simp only at h ⊢
 split at h
 · split at h
   · split at h
     · exact ab _ _ h
     · exact ab _ _ h
     · exact h
   · exact ⟨h.1,fun b ag=>ab _ _ (h.2 b ag)⟩
   · have aX:=fun h=>Lv (P:=P) (stl:=stl) (fr:=fr) (m:=m) (ops:=ops) (o:=⟨dst,op,ty,pos,af,none⟩) (K:=K) ab h
     simp only [mO] at aX
     cases au:eC P m (bd fr) stl dst op with
     |val side ss m' x=>rw [au] at h aX;exact aX h
     |nI side ss m'=>rw [au] at h aX;exact aX h
     |new side ss mk hG=>rw [au] at h aX;exact aX h
     |call f args=>rw [au] at h aX;exact aX h
     |stuck=>rw [au] at h;exact su.mono ab h
 · split at h<;>exact ab _ _ h
 · exact h
theorem qY {ops:Array Oper} {stl:List Nat} {o:Oper} {l:List Oper} {K:Fr→ae→Prop} (ak:eQ n o=true) (aI:gh n o=true) (h:j3 P ops stl o (bS P n ops l K) fr m):bS P n ops (o::l) K fr m:=by
 obtain ⟨dst,op,ty,pos,af,gd⟩:=o
 cases ao:hI ops fr gd with
 |none=>simp [j3,ao] at h
 |some z=>
  cases z with
  |true=>
   rcases Ms ao h with ⟨c,x,y,b,rfl,ar,h⟩|⟨t,x,rfl,aB,h⟩|h|h
   · intro F lim w ca Q st aO
     unfold wpList
     rw [if_pos (qX st ao)]
     refine .inl ?_
     have hm:(if b then x else y)∈(Op.pick c x y).operands.toList:=by cases b<;>simp [Op.operands]
     obtain ⟨_,zX,rfl⟩:=tY st (kG ak c (by simp [Op.operands]))
     rw [←ui,ar] at zX
     have uV:ca.eval c= .bool b:=by
      generalize ca.eval c=v at zX
      cases zX
      rfl
     obtain ⟨_,uM,rfl⟩:=tY st (kG ak (if b then x else y) hm)
     rw [←ui] at uM
     refine nH (v:=ca.eval (if b then x else y)) ?_ (h.from aO (st.ep (fun t aB=>jZ ak aB) uM) (.refl _ _ _))
     cases b<;>simp [execOp,uV,asBool]
   · intro F lim w ca Q st aO
     unfold wpList
     rw [if_pos (qX st ao)]
     refine .inl ?_
     obtain ⟨lim',J,aa,ai⟩:=st.Mr (t:=t) (x:=x) (kG ak x (by simp [Op.operands])) (wU aI (by simp [Op.operands])) aB
     refine nH (v:= .pointer (some ⟨w.heap.size,0,none⟩)) (w':=w.alloc (.cells (ca.eval x).cells t)) (by simp [execOp,Instr.box,newVar,newRow]) ?_
     exact (h _ J).from aO (aa.ep (fun t aB=>jZ ak aB) (.ptr _)) ai
   · have cp:=uE (o:=⟨dst,op,ty,pos,af,none⟩) ak aI h
     intro F lim w ca Q st aO
     have:=cp F lim w ca Q st aO
     unfold wpList at this ⊢
     rw [if_pos (by simp [Region.wanted])] at this
     rw [if_pos (qX st ao)]
     exact this
   · intro F lim w ca Q st aO
     unfold wpList
     rw [if_pos (qX st ao)]
     refine .inl ?_
     obtain ⟨res,v,w',lim',aZ,m',J,aa,ai,aJ,aY⟩:=h n ak aI F lim w ca st
     rcases aa with rfl|⟨rfl,rfl⟩
     · exact nH J (aY.from aO ai aJ)
     · exact Dj J (aY.from aO ai aJ)
  |false=>
   simp only [j3,ao] at h
   intro F lim w ca Q st aO
   unfold wpList
   rw [if_neg (by rw [qX (o:=⟨dst,op,ty,pos,af,gd⟩) st ao];simp)]
   split at h
   · next d=>
     refine bS.from h aO ?_ (.refl _ _ _)
     exact st.set (jZ ak rfl) (.ly _)
   · refine bS.from h aO ?_ (.refl _ _ _)
     exact st
theorem Er {ops:Array Oper} {stl:List Nat}:∀(l:List Oper) {K:Fr→ae→Prop} {fr:Fr} {m:ae},(∀o∈l,eQ n o=true∧gh n o=true)→hJ P ops stl l K fr m→bS P n ops l K fr m:=by
 intro l
 induction l with
 |nil=>intro K fr m _ h;exact bS.nil h
 |cons o l aQ=>
  intro K fr m ak h
  have aL:=ak o (by simp)
  exact qY aL.1 aL.2 (Mt (fun fr m au=>aQ (fun ei lI=>ak ei (by simp [lI])) au) h)
theorem Mu {id:Nat} {ops:Array Oper} {Q:Exit→Fr→ae→Prop} (stl ks:List Nat) (ak:kf n ops ks=true) (h:∀K:Fr→ae→Prop,(∀fr m,Q .normal fr m→K fr m)→hJ P ops stl ops.toList (fun fr m=>K (fr.keep ks) m) fr m):de P n (.region id ops false) Q fr m:=by
 simp only [kf,Bool.and_eq_true,List.all_eq_true] at ak
 exact Di ks (by simpa [List.all_eq_true] using ak.2) (Er _ (fun o aL=>by simpa using ak.1 o aL) (h _ fun _ _ h=>h))
theorem sv {id:Nat} {ops:Array Oper} {c:Code} {Q:Exit→Fr→ae→Prop} (stl ks:List Nat) (ak:kf n ops ks=true) (h:∀K:Fr→ae→Prop,(∀fr m,de P n c Q fr m→K fr m)→hJ P ops stl ops.toList (fun fr m=>K (fr.keep ks) m) fr m):de P n (.seq (.region id ops false) c) Q fr m:=
 za fun K ab=>Mu stl ks ak fun iZ Mv=>h iZ fun fr m h=>Mv _ _ (ab _ _ h)
variable {ops:Array Oper} {stl:List Nat} {r:List Oper} {K:Fr→ae→Prop} {d:Nat} {ty:TypeId} {pos:String} {af:Array Edge} {gd:Option (Nat×Bool)}
theorem p2 {op:Op} (bl:hI ops fr gd=some false) (h:hJ P ops stl r K (fr.put d (.lazy false .aS)) m):hJ P ops stl (⟨some d,op,ty,pos,af,gd⟩::r) K fr m:=by
 simp only [hJ,j3,bl]
 exact h
theorem bc.conv {aZ:Fr} (h:bc F lim w n fr m ca bE) (ar:∀t bX,aZ.get t=some bX→∃x,fr.get t=some x∧∀v os,aP w lim v x os→aP w lim v bX os):bc F lim w n aZ m ca bE:=by
 obtain ⟨os,cP,bW,h⟩:=h
 refine ⟨os,cP,bW,h.size,h.defers,fun t x aq=>?_,h.mem,fun t x aq=>?_,h.ed,h.fW,h.free,h.fresh⟩
 · obtain ⟨y,aK,au⟩:=ar t x aq
   exact ⟨(h.ey t y aK).1,au _ _ (h.ey t y aK).2⟩
 · obtain ⟨y,aK,au⟩:=ar t x aq
   exact h.fc t y aK
def U.toErr (T:TypeId):U→U
 | .nilIface=> .err T 0
 | .iface u (.int .i64 c)=>if u=T∧c≠0 then .err T c else .iface u (.int .i64 c)
 |x=>x
theorem toErr_rep (T:TypeId) {v:Value} {x:U} {os:List Nat} (h:aP w lim v x os):aP w lim v (x.toErr T) os:=by
 cases h with
 |nilIface=>exact .lx T
 |iface t v x h=>
  unfold U.toErr
  split
  · next he=>cases he
  · next u c he=>
    cases he
    split
    · next ar=>
      obtain ⟨rfl,aG⟩:=ar
      cases h with
      |int _ _ bw ad=>exact .iX _ _ aG bw ad
    · exact .iface _ _ _ h
  · exact .iface _ _ _ h
 |bool b=>exact .bool b
 |int k n bw ad=>exact .int k n bw ad
 |str s h=>exact .str s h
 |ptr a=>exact .ptr a
 |eM=>exact .eM
 |ref b off l cv J aa ai=>exact .ref b off l cv J aa ai
 |fL own=>exact .fL own
 |empty a cap hm=>exact .empty a cap hm
 |slice b off n cap sz l cv aI fu hm ew cJ fb ar au=>exact .slice b off n cap sz l cv aI fu hm ew cJ fb ar au
 |own b n cap sz l cv cur e aI fu hm ew aG ag mK cJ fb ar au=>exact .own b n cap sz l cv cur e aI fu hm ew aG ag mK cJ fb ar au
 |ms a len cap h hm=>exact .ms a len cap h hm
 |map b=>exact .map b
 |iW=>exact .iW
 |func fn f c bE dK aN ar tV tW=>exact .func fn f c bE dK aN ar tV tW
 |jF=>exact .jF
 |nA a=>exact .nA a
 |lx t=>exact .lx t
 |iX t e h bw ad=>exact .iX t e h bw ad
 |nB=>exact .nB
 |nC t v=>exact .nC t v
 |agg cs xs os h au=>exact .agg cs xs os h au
 |tuple cs xs os h au=>exact .tuple cs xs os h au
 |nD v x os h=>exact .nD v x os h
 |ly x=>exact .ly x
 |aS v=>exact .aS v
def Fr.toErr (T:TypeId) (cT:List Nat) (fr:Fr):Fr:=fr.map fun p=>if cT.contains p.1 then (p.1,p.2.toErr T) else p
theorem Fr.Mw (T:TypeId) (cT:List Nat) (t:Nat):∀fr:Fr,(Fr.toErr T cT fr).get t=if cT.contains t then (fr.get t).map (U.toErr T) else fr.get t:=by
 intro fr
 induction fr with
 |nil=>simp [Fr.toErr,Fr.get]
 |cons p fr aQ=>
  obtain ⟨s,x⟩:=p
  unfold Fr.toErr at aQ ⊢
  rw [List.map_cons]
  by_cases ar:cT.contains s
  · rw [if_pos ar]
    simp only [Fr.get]
    by_cases al:s=t
    · subst al;rw [if_pos rfl,if_pos ar,if_pos rfl];rfl
    · rw [if_neg al,if_neg al,aQ]
  · rw [if_neg ar]
    simp only [Fr.get]
    by_cases al:s=t
    · subst al;rw [if_pos rfl,if_neg ar,if_pos rfl]
    · rw [if_neg al,if_neg al,aQ]
def qZ (a:Int):UInt8:=UInt8.ofNat (IntKind.u8.wrap a).toNat
theorem Es (a:Int):((qZ a).toNat:Int)=IntKind.u8.wrap a:=by
 have J:=(mN .u8 a).1
 have aa:=(mN .u8 a).2
 simp [IntKind.min,IntKind.max,IntKind.signed,IntKind.bits] at J aa
 simp [qZ]
 omega
variable {cs:List U} {kN:Fr→Prop}
end
end Go.ba
end
section
namespace Go.ba
open Go
def ae.bf (m:ae):List (Nat×fB)→ae
 |[]=>m
 |(b,o)::r=>(ae.bf m r).cQ b (some o)
theorem mo {m:ae} {b:Nat}:∀{L:List (Nat×fB)},b∉L.map Prod.fst→m.bf L b=m b:=by
 intro L
 induction L with
 |nil=>intro _;rfl
 |cons p L aQ=>
  obtain ⟨c,o⟩:=p
  intro h
  simp only [List.map_cons,List.mem_cons,not_or] at h
  show (if b=c then some o else m.bf L b)=m b
  rw [if_neg h.1,aQ h.2]
theorem p3 {m:ae} {b:Nat} {o:fB}:∀{L:List (Nat×fB)} (i:Nat),(L.map Prod.fst).Nodup→L[i]?=some (b,o)→m.bf L b=some o:=by
 intro L
 induction L with
 |nil=>intro i _ h;simp at h
 |cons p L aQ=>
  obtain ⟨c,ei⟩:=p
  intro i gi h
  simp only [List.map_cons,List.nodup_cons] at gi
  cases i with
  |zero=>
   simp at h
   obtain ⟨rfl,rfl⟩:=h
   show (if c=c then some ei else _)=_
   rw [if_pos rfl]
  |succ i=>
   simp at h
   have ag:b∈L.map Prod.fst:=List.mem_map.2 ⟨(b,o),List.mem_of_getElem? h,rfl⟩
   show (if b=c then some ei else m.bf L b)=_
   rw [if_neg (fun (e:b=c)=>gi.1 (e▸ag)),aQ i gi.2 h]
theorem Et {m:ae} {b:Nat} {o ei:fB}:∀{L:List (Nat×fB)} (i:Nat),(L.map Prod.fst).Nodup→L[i]?=some (b,o)→(m.bf L).cQ b (some ei)=m.bf (L.set i (b,ei)):=by
 intro L
 induction L with
 |nil=>intro i _ h;simp at h
 |cons p L aQ=>
  obtain ⟨c,w6⟩:=p
  intro i gi h
  simp only [List.map_cons,List.nodup_cons] at gi
  cases i with
  |zero=>
   simp at h
   obtain ⟨rfl,rfl⟩:=h
   funext x
   show (if x=c then some ei else if x=c then some w6 else m.bf L x)=(if x=c then some ei else m.bf L x)
   by_cases aq:x=c<;>simp [aq]
  |succ i=>
   simp at h
   have ag:b∈L.map Prod.fst:=List.mem_map.2 ⟨(b,o),List.mem_of_getElem? h,rfl⟩
   have Mx:b≠c:=fun (e:b=c)=>gi.1 (e▸ag)
   funext x
   have:=congrFun (aQ i gi.2 h) x
   show (if x=b then some ei else if x=c then some w6 else m.bf L x)=(if x=c then some w6 else m.bf (L.set i (b,ei)) x)
   rw [←this]
   show _=(if x=c then some w6 else if x=b then some ei else m.bf L x)
   by_cases aq:x=b
   · subst aq;simp [Mx]
   · simp [aq]
theorem My {m:ae} {b:Nat}:∀{L:List (Nat×fB)},m.bf L b=none→b∉L.map Prod.fst∧m b=none:=by
 intro L
 induction L with
 |nil=>intro h;exact ⟨by simp,h⟩
 |cons p L aQ=>
  obtain ⟨c,o⟩:=p
  intro h
  have cp:(if b=c then some o else m.bf L b)=none:=h
  by_cases ag:b=c
  · rw [if_pos ag] at cp;cases cp
  · rw [if_neg ag] at cp
    have:=aQ cp
    exact ⟨by simp [ag];simpa using this.1,this.2⟩
theorem Mz {m:ae} {b:Nat} {o:fB} {L:List (Nat×fB)} (ag:m b=some o) (fM:∀c∈L.map Prod.fst,m c=none):m.bf L b=some o:=by
 rw [mo (fun h=>by rw [fM b h] at ag;cases ag),ag]
theorem MA (m:ae) (L bF:List (Nat×fB)):m.bf (L++bF)=(m.bf bF).bf L:=by
 induction L with
 |nil=>rfl
 |cons p L aQ=>obtain ⟨c,o⟩:=p;show (ae.bf m (L++bF)).cQ c (some o)=((m.bf bF).bf L).cQ c (some o);rw [aQ]
theorem zY {m:ae} {L bF:List (Nat×fB)} (gi:(L.map Prod.fst).Nodup) (aU:L.Perm bF):m.bf L=m.bf bF:=by
 have MB:(bF.map Prod.fst).Nodup:=(aU.map Prod.fst).nodup_iff.1 gi
 funext x
 by_cases aq:x∈L.map Prod.fst
 · obtain ⟨⟨c,o⟩,hm,rfl⟩:=List.mem_map.1 aq
   obtain ⟨i,ad⟩:=List.mem_iff_getElem?.1 hm
   obtain ⟨j,aA⟩:=List.mem_iff_getElem?.1 (aU.mem_iff.1 hm)
   rw [p3 i gi ad,p3 j MB aA]
 · have MC:x∉bF.map Prod.fst:=fun h=>aq ((aU.map Prod.fst).mem_iff.2 h)
   rw [mo aq,mo MC]
theorem MD {m:ae} {L Eu zZ:List (Nat×fB)} (gi:(L.map Prod.fst).Nodup) (aU:L.Perm (Eu++zZ)):m.bf L=(m.bf zZ).bf Eu:=by
 rw [zY gi aU,MA]
section
variable {P:Program} {n:Nat} {fr:Fr} {m:ae} {ops:Array Oper} {stl:List Nat} {r:List Oper} {K:Fr→ae→Prop} {d:Nat} {ty:TypeId} {pos:String} {af:Array Edge} {gd:Option (Nat×Bool)} {L:List (Nat×fB)}
theorem ME {α:Type} (f:α→U) (z:α) (aN:(f z).cells=[f z]) (k:Nat):(List.replicate k (f z).cells).flatten=(List.replicate k z).map f:=by
 rw [aN]
 induction k with
 |zero=>rfl
 |succ k aQ=>simp [List.replicate_succ,aQ]
theorem MF (bl:hI ops fr gd=some true) {α:Type} (f:α→U) (z:α) (k:Int) {t e:TypeId} {x y:Operand} (aB:P.underlying t=some (.slice e)) (aq:b4 (bd fr) x= .int .i64 k) (aK:b4 (bd fr) y= .int .i64 k) (ao:hy P e=some (f z)) (aN:(f z).cells=[f z])
 (mX:(f z).dy=true) (hh:dS P e=true) (ar:P.cellsOf e=1) (aG:0≤k) (ag:k*P.bytesOf e≤140737488355328) (ak:k≤140737488355328)
 (h:∀b,m.bf L b=none→hJ P ops stl r K (fr.put d (.ms ⟨b,0,none⟩ k.toNat k.toNat)) (m.bf ((b, .cells ((List.replicate k.toNat z).map f))::L))):
 hJ P ops stl (⟨some d, .makeSlice t x y,ty,pos,af,gd⟩::r) K fr (m.bf L):=by
 simp only [hJ,j3,bl,eC,aB,aq,aK,ao]
 refine ⟨⟨mX,hh,by rw [aN,ar];rfl,by rw [ar];exact Nat.one_pos,by trivial,aG,ag,ak⟩,fun b fv=>?_⟩
 have:=h b fv
 rw [ME f z aN]
 exact this
theorem MG (bl:hI ops fr gd=some true) {t:TypeId} {x:Operand} {b off:Nat} {l:List U} {v:U} (aq:b4 (bd fr) x= .ptr ⟨b,off,none⟩) (hm:m.bf L b=some (.cells l)) (db:stl.contains d=false) (bL:jJ P t l off) (bn:(apart P t l off).plain=v)
 (h:hJ P ops stl r K (fr.put d v) (m.bf L)):hJ P ops stl (⟨some d, .load t x,ty,pos,af,gd⟩::r) K fr (m.bf L):=by
 subst bn
 simp only [hJ,j3,bl,eC,Option.map_some,Option.getD_some,db,bO,aq,hm]
 exact ⟨bL,h⟩
theorem Ev (bl:hI ops fr gd=some true) (i:Nat) {t:TypeId} {a x:Operand} {b off:Nat} {l bC:List U} {v:U} (aX:b4 (bd fr) a= .ptr ⟨b,off,none⟩) (aq:eB (bd fr) x=v) (gi:(L.map Prod.fst).Nodup) (ad:L[i]?=some (b, .cells l))
 (J:v.dy=true) (aa:v.cells.all U.one=true) (ai:v.cells.length=P.cellsOf t) (hh:dS P t=true) (aL:off+P.cellsOf t≤l.length) (av:l.take off++v.cells++l.drop (off+P.cellsOf t)=bC)
 (h:hJ P ops stl r K (fr.strip (kd x)) (m.bf (L.set i (b, .cells bC)))):hJ P ops stl (⟨none, .store t a x,ty,pos,af,gd⟩::r) K fr (m.bf L):=by
 subst av
 have hm:=p3 (m:=m) i gi ad
 simp only [hJ,j3,bl,eC,aX,hm]
 refine ⟨⟨by rw [aq];exact J,by rw [aq];exact aa,by rw [aq];exact ai,hh,aL⟩,?_⟩
 rw [Et i gi ad,aq]
 exact h
end
end Go.ba
end
section
namespace Go.ba
open Go
def eW (P:Program) (n:Nat) (ops:Array Oper) (fuel:Nat) (listed:Array Bool) (K:Fr→ae→Prop) (fr:Fr) (m:ae):Prop:=
 ∀F lim w ca Q,bc F lim w n fr m ca []→(∀lim' w' aZ m' dX,K aZ m'→bc F lim' w' n aZ m' dX []→dL F w lim w' lim'→Q Exit.normal dX w')→wpAny P .any ops Q fuel listed ca w
def z1 (p:Nat→Prop):List Nat→Prop
 |[]=>True
 |i::r=>p i∧z1 p r
theorem MH {p:Nat→Prop}:∀{l:List Nat},z1 p l→∀i∈l,p i:=by
 intro l
 induction l with
 |nil=>intro _ i ad;cases ad
 |cons j l aQ=>
  intro h i ad
  rcases List.mem_cons.1 ad with rfl|ad
  · exact h.1
  · exact aQ h.2 i ad
section
variable {P:Program} {n:Nat} {fr:Fr} {m:ae} {ops:Array Oper} {fuel:Nat} {listed:Array Bool} {K:Fr→ae→Prop}
theorem eW.done (au:Region.ready .any ops listed=[]) (h:K fr m):eW P n ops fuel listed K fr m:=by
 intro F lim w ca Q st aO
 have:=aO lim w fr m ca h st (.refl _ _ _)
 cases fuel with
 |zero=>exact ⟨au,this⟩
 |succ fuel=>exact ⟨fun _=>this,fun i ad=>by rw [au] at ad;cases ad⟩
theorem eW.keep (ks:List Nat) (zc:(ks.all fun t=>decide (t<n))=true) (h:eW P n ops fuel listed K (fr.keep ks) m):eW P n ops fuel listed K fr m:=
 fun F lim w ca Q st aO=>h F lim w ca Q (st.keep (by simpa using zc)) aO
theorem eW.step (stl:List Nat) (rs:List Nat) (au:Region.ready .any ops listed=rs) (gg:rs≠[]) (ak:(ops.toList.all fun o=>eQ n o&&gh n o)=true)
 (h:z1 (fun i=>match ops[i]? with|some o=>hJ P ops stl [o] (eW P n ops fuel (listed.setIfInBounds i true) K) fr m|none=>False) rs):eW P n ops (fuel+1) listed K fr m:=by
 intro F lim w ca Q st aO
 refine ⟨fun aG=>absurd (au.symm.trans aG) gg,fun i ad=>?_⟩
 rw [au] at ad
 have al:=MH h i ad
 unfold wpOp
 cases aL:ops[i]? with
 |none=>rw [aL] at al;exact al.elim
 |some o=>
  rw [aL] at al
  simp only at al ⊢
  have bL:eQ n o=true∧gh n o=true:=by
   have:=List.all_eq_true.1 ak o (by rw [Array.mem_toList_iff];exact Array.mem_of_getElem? aL)
   simpa using this
  have key:bS P n ops [o] (eW P n ops fuel (listed.setIfInBounds i true) K) fr m:=Er [o] (by simpa using bL) al
  let hH:Exit→Act→World→Prop:=fun e a w'=>match e with
   | .normal=>wpAny P .any ops Q fuel (listed.setIfInBounds i true) a w'
   |e=>Q e a w'
  have hw:=key F lim w ca hH st (fun lim' w' aZ m' dX dP fq dQ=>dP F lim' w' dX Q fq fun jG h9 pR mg se ab sr pS=>aO jG h9 pR mg se ab sr (dQ.trans pS))
  have conv:∀{C:Act→World→Prop},o.wp P ca w C hH→o.wp P ca w C Q:=by
   intro C kM
   unfold Oper.wp at kM ⊢
   generalize (execOp ca.eval o).run P w=res at kM ⊢
   cases res with
   |ok s w'=>
    cases s with
    |enter f args=>
     refine kM.mono fun e h9 aT=>?_
     cases e<;>exact aT
    |_=>exact kM
   |_=>exact kM
  unfold wpList at hw
  split
  · next q0=>
    rw [if_pos q0] at hw
    rcases hw with hw|⟨J,aa⟩
    · exact .inl (conv hw)
    · refine .inr ⟨J,?_⟩
      exact aa
  · next q0=>
    rw [if_neg q0] at hw
    exact hw
theorem MI {id:Nat} {Q:Exit→Fr→ae→Prop} (hm:P.follows .mixedOrders=true) (ks:List Nat) (ak:kf n ops ks=true)
 (h:∀K:Fr→ae→Prop,(∀fr m,Q .normal fr m→K fr m)→eW P n ops ops.size (Array.replicate ops.size false) (fun fr m=>K (fr.keep ks) m) fr m):de P n (.region id ops true) Q fr m:=by
 intro F lim w ca st
 simp only [kf,Bool.and_eq_true,List.all_eq_true] at ak
 refine wp_region_any hm ?_
 refine h _ (fun _ _ h=>h) F lim _ ca _ (st.heap (w':={w with drawn:=w.drawn+1}) rfl) fun lim' w' aZ m' dX ab fq dQ=>?_
 exact ⟨lim',_,m',ab,fq.keep (fun t aB=>by simpa using ak.2 t aB),(dL.drew F w lim).trans dQ⟩
end
end Go.ba
end
section
namespace Go.ba
open Go
section
variable {P:Program} {F:Nat→Prop} {lim:Nat→Nat} {w w':World} {n:Nat} {fr:Fr} {m:ae} {ca:Act} {bE:List Nat}
theorem Ew {args:Array Operand} (st:bc F lim w n fr m ca bE) (ak:∀y∈args.toList,kD y=true):∀i,i<(args.toList.map (b4 (bd fr))).length→aP w lim ((args.map ca.eval).getD i undef) ((args.toList.map (b4 (bd fr))).getD i .aS) []:=by
 intro i ad
 have eV:i<args.size:=by simpa using ad
 have:=hQ st (ak args[i] (by simp))
 simpa [List.getD_eq_getElem?_getD,Array.getD_eq_getD_getElem?,eV] using this
theorem MJ {ops:Array Oper} {stl:List Nat} {r:List Oper} {K:Fr→ae→Prop} {d:Nat} {ty:TypeId} {pos:String} {af:Array Edge} {gd:Option (Nat×Bool)} (bl:hI ops fr gd=some true) {fn:Fn} {first mh:Array Operand} {bE dK:List U}
 (aN:first.toList.map (b4 (bd fr))=bE) (ar:mh.toList.map (b4 (bd fr))=dK) (h:hJ P ops stl r K (fr.put d (.func fn bE dK)) m):
 hJ P ops stl (⟨some d, .makeFunc fn first mh,ty,pos,af,gd⟩::r) K fr m:=by
 subst aN ar
 simp only [hJ,j3,bl,eC,bO]
 intro n ak aI F lim w ca st
 have gZ:=kG ak
 refine ⟨_,_,w,lim,_,_,rfl, .inl rfl,st.ep (d:=some d) (fun t aB=>jZ ak aB) (.func fn _ _ _ _ (by simp) (by simp) (Ew st fun y aK=>gZ y (by simp [Op.operands];exact .inl (by simpa using aK))) (Ew st fun y aK=>gZ y (by simp [Op.operands];exact .inr (by simpa using aK)))), .refl _ _ _,h⟩
theorem bg.conv {f:FuncId} {args z6:List U} {K:U→ae→Prop} (av:z6.length=args.length) (au:∀w lim i v,aP w lim v (args.getD i .aS) []→aP w lim v (z6.getD i .aS) []) (h:bg P f z6 m K):bg P f args m K:=
 ⟨h.1,fun F lim w cargs J aa ai=>h.2 F lim w cargs (by rw [J,av]) (fun i ad=>au w lim i _ (aa i (by omega))) ai⟩
end
end Go.ba
end
section
namespace Go.ba
open Go Go.RowKit Go.WideShapes Go.ChangeShapes
def Rd (P:Program) (fuel:Nat) (t:TypeId) {α:Type} (f:α→U):Prop:=
 ∀(H:Type) (enc:TypeId×Value→H) (W:World) (sp:Nat→Bool) (cs:List Value) (d:DataW H) (ps:List MemPlace),DataW.trod enc P W 0 sp true fuel t cs=some (d,ps)→(∀n∈d.weights P t,n≤reachBytes)→
  ∃x:α,(f x).cells.length=cs.length∧∀i,i<cs.length→aP W (lF W) (cs.getD i undef) ((f x).cells.getD i .aS) []
section
variable {P:Program} {fuel:Nat} {t e:TypeId}
theorem z7 (aB:P.underlying t=some (.int .i64)):Rd P fuel t aE:=by
 intro H enc W sp cs d ps h _
 obtain ⟨n,rfl,_,hw⟩:=DataW.trod_int aB h
 simp only [Lit.wf,IntKind.has,Bool.and_eq_true,decide_eq_true_eq] at hw
 refine ⟨n,rfl,fun i ad=>?_⟩
 obtain rfl:i=0:=by simpa using ad
 exact .int .i64 n hw.1 hw.2
theorem nO (aB:P.underlying t=some .string):Rd P fuel t cS:=by
 intro H enc W sp cs d ps h hw
 obtain ⟨s,rfl,aq,al⟩:=DataW.trod_string aB h
 simp only [Prod.mk.injEq] at aq
 obtain ⟨rfl,rfl⟩:=aq
 have J:=hw s.data.toList.length (by simp [DataW.weights])
 refine ⟨s.data.toList,rfl,fun i ad=>?_⟩
 obtain rfl:i=0:=by simpa using ad
 exact .str s (by unfold reachBytes at J;simp at J;omega)
theorem Ex {H:Type} {e:TypeId}:∀{fx:List (DataW H)} {d:DataW H},d∈fx→∀n∈d.weights P e,n∈DataW.weightsAll P e fx
 |a::fx,d,bo,n,aI=>by
  simp only [DataW.weightsAll,List.mem_append]
  rcases List.mem_cons.1 bo with rfl|bo
  · exact .inl aI
  · exact .inr (Ex bo n aI)
theorem Rd.arg {α:Type} {f:α→U} {H:Type} {enc:TypeId×Value→H} {W:World} {sp:Nat→Bool} {v:Value} {d:DataW H} {ps:List MemPlace} (au:∀n,Rd P n t f) (aN:∀x,(f x).cells=[f x]) (bn:v.cells.toList=[v]) (bo:DataW.Trod enc P W 0 sp true t v d ps) (hw:∀n∈d.weights P t,n≤reachBytes):
 ∃x:α,aP W (lF W) v (f x) []:=by
 obtain ⟨n,aI⟩:=bo
 obtain ⟨x,J,aa⟩:=au n H enc W sp _ d ps aI hw
 refine ⟨x,?_⟩
 rw [bn] at aa
 have:=aa 0 (by simp)
 rw [aN] at this
 exact this
theorem MK {H:Type} {cT:List TypeId} {fx:List (DataW H)} (h:(DataW.weightsEach P cT fx).all (· ≤reachBytes)=true) {j:Nat} {d:DataW H} (aB:cT[j]?=some t) (bo:fx[j]?=some d):∀n∈d.weights P t,n≤reachBytes:=fun n aI=>by
 simpa using List.all_eq_true.1 h _ (DataW.weights_mem_each aB bo n aI)
end
end Go.ba
end
section
namespace Go.ba
open Go Go.MapKept
section
variable {kk kO:Type} [DecidableEq kk]
def Ey:List (kk×kO)→kk→Option kO
 |[],_=>none
 |(a,b)::r,k=>if a=k then some b else Ey r k
def ML {kk kO:Type} (q1:kk→U) (q2:kO→U) (p:kk×kO):U×U:=(q1 p.1,q2 p.2)
def z8:List (kk×kO)→kk→kO→List (kk×kO)
 |[],k,v=>[(k,v)]
 |(a,b)::r,k,v=>if a=k then (k,v)::r else (a,b)::z8 r k v
end
section
variable {P:Program} {F:Nat→Prop} {lim:Nat→Nat} {w w':World} {n:Nat} {fr:Fr} {m:ae} {ca:Act} {bE:List Nat}
variable {ops:Array Oper} {stl:List Nat} {r:List Oper} {K:Fr→ae→Prop} {d:Nat} {ty:TypeId} {pos:String} {af:Array Edge} {gd:Option (Nat×Bool)} {L:List (Nat×fB)}
def pd:U→Prop
 | .str s=>s.length≤140737488355328
 | .slice _ l=>l.length≤140737488355328
 |_=>True
def uW:U→Prop
 | .agg l=>∀i,i<l.length→pd (l.getD i .aS)
 |x=>pd x
theorem MM {v:Value} {x:U} {os:List Nat} (h:aP w lim v x os):pd x:=by
 cases h with
 |str s h=>show s.data.toList.length≤_;simp;exact h
 |fL own=>simp [pd]
 |empty a cap hm=>simp [pd]
 |slice b off n cap sz l cv aI fu hm ew=>show l.length≤_;omega
 |own b n cap sz l cv cur e aI fu hm ew=>show l.length≤_;omega
 |_=>trivial
theorem Aa {v:Value} {x:U} {os:List Nat} (h:aP w lim v x os):uW x:=by
 cases h with
 |agg cs xs os h au=>exact fun i ad=>MM (au i ad)
 |str s h=>show s.data.toList.length≤_;simp;exact h
 |fL own=>simp [uW,pd]
 |empty a cap hm=>simp [uW,pd]
 |slice b off n cap sz l cv aI fu hm ew=>show l.length≤_;omega
 |own b n cap sz l cv cur e aI fu hm ew=>show l.length≤_;omega
 |_=>trivial
theorem cN {α:Type} {f:α→U} {o:Bool} {l:List α} (h:pd (.slice o (l.map f))):l.length≤140737488355328:=by
 have:(l.map f).length≤140737488355328:=h
 simpa using this
end
end Go.ba
end
section
namespace Go.ba
open Go
section
variable {P:Program} {F:Nat→Prop} {lim:Nat→Nat} {w w':World} {n:Nat} {fr:Fr} {m:ae} {ca:Act} {bE:List Nat}
def nP (raw:Nat→U) (s:Nat) (X:U):Operand→U
 | .tmp t=>if t=s then X else b4 raw (.tmp t)
 |y=>b4 raw y
theorem MN {t:TypeId} {cL:Array Field} {z:U} {parts:Array (Nat×Operand)} {s:Nat} {l pre post:List U} {os:List Nat} (st:bc F lim w n fr m ca bE)
 (hu:P.underlying t=some (.struct cL)) (ao:hy P t=some z) (pX:z.dy=true) (jn:∀f∈cL.toList,dS P f.type=true) (o5:∀X:U,X.dy=true→∀p∈parts.toList,(nP (bd fr) s X p.2).dy=true)
 (uX:∀a k c,lE (fun i=>(cL[i]?).map fun f=>(f.offset,P.cellsOf f.type)) z.cells (parts.toList.map fun p=>(p.1,nP (bd fr) s (.ms a k c) p.2))=some (pre++ .ms a k c::post))
 (lz:lE (fun i=>(cL[i]?).map fun f=>(f.offset,P.cellsOf f.type)) z.cells (parts.toList.map fun p=>(p.1,nP (bd fr) s (.slice true l) p.2))=some (pre++ .slice true l::post))
 (gZ:∀p∈parts.toList,kD p.2=true) (au:aP w lim (ca.tmps.getD s undef) (.slice true l) os):
 ∃v,(Instr.build t (parts.map fun (i,x)=>(i,ca.eval x))).run P w= .ok v w∧aP w lim v (.agg (pre++ .slice true l::post)) os:=by
 have uY:∀X:U,aP w lim (ca.tmps.getD s undef) X []→∀p∈parts.toList,aP w lim (ca.eval p.2) (nP (bd fr) s X p.2) []:=fun X Ab p aU=>by
  have J:=hQ st (gZ p aU)
  cases uZ:p.2 with
  |tmp t=>
   rw [uZ] at J
   simp only [nP]
   split
   · rename_i e;subst e;exact Ab
   · exact J
  |_=>rw [uZ] at J;exact J
 generalize bn:ca.tmps.getD s undef=vs at au uY
 have zB:=au
 cases au with
 |fL own=>
  obtain ⟨v,J,aa⟩:=zz (P:=P) (w:=w) (lim:=lim) (ca:=ca) hu ao pX jn lz (uY _ (.fL true)) (o5 _ rfl)
  exact ⟨v,J,aa⟩
 |own b iL cap sz l cv cur e J aa ai aJ aY bG c7 cV cU eH fF=>
  obtain ⟨v,lC,k0⟩:=zz (P:=P) (w:=w) (lim:=lim) (ca:=ca) hu ao pX jn (uX ⟨b,0,none⟩ iL cap) (uY _ (.ms _ _ _ aa ai)) (o5 _ rfl)
  refine ⟨v,lC,?_⟩
  obtain ⟨Ac,tX,k0⟩:∃Ac,([]:List Nat)=Ac∧aP w lim v (.agg (pre++ .ms ⟨b,0,none⟩ iL cap::post)) Ac:=⟨[],rfl,k0⟩
  cases k0 with
  |agg cs xs fN cJ u0=>
   have qR:=DK tX
   have ak:=u0 pre.length (by simp)
   rw [qR pre.length (by simp)] at ak
   have qO:∀(X:U) (i:Nat),(pre++X::post).getD i .aS=if i<pre.length then pre.getD i .aS else if i=pre.length then X else post.getD (i- pre.length- 1) .aS:=fun X i=>by
    simp only [List.getD_eq_getElem?_getD]
    by_cases ad:i<pre.length
    · rw [if_pos ad,List.getElem?_append_left ad]
    · rw [if_neg ad,List.getElem?_append_right (by omega)]
      by_cases he:i=pre.length
      · subst he;simp
      · rw [if_neg he]
        obtain ⟨d,bo⟩:∃d,i- pre.length=d+1:=⟨i- pre.length- 1,by omega⟩
        rw [bo];simp
   rw [qO,if_neg (by omega),if_pos rfl] at ak
   have w7:=(sb ak).1
   have dP:=aP.agg (w:=w) (lim:=lim) cs (pre++ .slice true l::post) (fun i=>if i=pre.length then [b] else []) (by rw [cJ];simp) (fun i ad=>by
    have eV:i<(pre++U.ms ⟨b,0,none⟩ iL cap::post).length:=by simp at ad ⊢;exact ad
    have w8:=u0 i eV
    rw [qR i eV] at w8
    rw [qO] at w8 ⊢
    by_cases he:i=pre.length
    · subst he
      rw [if_neg (by omega),if_pos rfl,if_pos rfl,w7]
      exact zB
    · rw [if_neg he] at w8
      rw [if_neg he,if_neg he]
      exact w8)
   have wK:(List.range (pre++U.slice true l::post).length).flatMap (fun i=>if i=pre.length then [b] else [])=[b]:=by
    have:∀(k n:Nat),k<n→(List.range n).flatMap (fun i=>if i=k then [b] else [])=[b]:=fun k n=>by
     induction n with
     |zero=>intro h;omega
     |succ n aQ=>
      intro h
      rw [List.range_succ,List.flatMap_append]
      by_cases ak:k=n
      · subst ak
        have aG:(List.range k).flatMap (fun i=>if i=k then [b] else [])=[]:=by
         rw [List.flatMap_eq_nil_iff]
         intro i ad
         have:=List.mem_range.1 ad
         rw [if_neg (by omega)]
        rw [aG];simp
      · rw [aQ (by omega)];simp;omega
    exact this _ _ (by simp)
   rw [wK] at dP
   exact dP
theorem MO {ops:Array Oper} {stl:List Nat} {r:List Oper} {K:Fr→ae→Prop} {d:Nat} {ty:TypeId} {pos:String} {af:Array Edge} {gd:Option (Nat×Bool)} (bl:hI ops fr gd=some true) {t:TypeId} {cL:Array Field} {z:U} {parts:Array (Nat×Operand)} (s:Nat) {l:List U} (pre post:List U)
 (db:stl.contains d=true) (hu:P.underlying t=some (.struct cL)) (ao:hy P t=some z) (pX:z.dy=true) (jn:∀f∈cL.toList,dS P f.type=true) (o5:∀X:U,X.dy=true→∀p∈parts.toList,(nP (bd fr) s X p.2).dy=true)
 (uX:∀a k c,lE (fun i=>(cL[i]?).map fun f=>(f.offset,P.cellsOf f.type)) z.cells (parts.toList.map fun p=>(p.1,nP (bd fr) s (.ms a k c) p.2))=some (pre++ .ms a k c::post))
 (lz:lE (fun i=>(cL[i]?).map fun f=>(f.offset,P.cellsOf f.type)) z.cells (parts.toList.map fun p=>(p.1,nP (bd fr) s (.slice true l) p.2))=some (pre++ .slice true l::post))
 (aq:bd fr s= .slice true l) (jo:(parts.toList.any fun p=>match p.2 with| .tmp t=>t==s|_=>false)=true) (h:hJ P ops stl r K ((fr.strip [s]).put d (.agg (pre++ .slice true l::post))) m):
 hJ P ops stl (⟨some d, .build t parts,ty,pos,af,gd⟩::r) K fr m:=by
 simp only [hJ,j3,bl,eC,Option.map_some,Option.getD_some,db,if_true]
 intro n ak aI F lim w ca st
 have r5:s<n:=by
  obtain ⟨p,aU,mT⟩:=List.any_eq_true.1 jo
  have:=wU aI (y:=p.2) (by simp [Op.operands];exact ⟨p.1,by simpa using aU⟩)
  cases uZ:p.2 with
  |tmp t=>rw [uZ] at mT this;simp at mT;subst mT;exact this t rfl
  |_=>rw [uZ] at mT;simp at mT
 obtain ⟨os,s1,s2⟩:=st.sl s r5
 rw [aq] at s2
 have gZ:∀p∈parts.toList,kD p.2=true:=fun p aU=>kG ak p.2 (by simp [Op.operands];exact ⟨p.1,by simpa using aU⟩)
 obtain ⟨v,lC,k0⟩:=MN (P:=P) st hu ao pX jn o5 uX lz gZ s2
 exact ⟨.value v,v,w,lim,_,_,by simp [execOp,lC], .inl rfl,s1.ep (d:=some d) (fun t aB=>jZ ak aB) k0, .refl _ _ _,h⟩
def pick {α:Type}:List α→List Nat→List α×List α
 |L,[]=>([],L)
 |L,i::is=>match L[i]? with
  |some a=>(a::(pick (L.eraseIdx i) is).1,(pick (L.eraseIdx i) is).2)
  |none=>pick L is
end
end Go.ba
end
section
namespace Go.ba
open Go Go.RowKit Go.WideShapes Go.ChangeShapes
section
variable {P:Program} {fuel:Nat} {t e:TypeId}
theorem Ez {H:Type}:∀{cT:List TypeId} {fx:List (DataW H)} {i:Nat} {t:TypeId} {d:DataW H},cT[i]?=some t→fx[i]?=some d→∀n∈d.weights P t,n∈DataW.weightsEach P cT fx
 |a::cT,b::fx,0,t,d,aB,bo,n,aI=>by
  simp only [List.getElem?_cons_zero,Option.some.injEq] at aB bo
  subst aB;subst bo
  exact List.mem_append_left _ aI
 |a::cT,b::fx,i+1,t,d,aB,bo,n,aI=>by
  simp only [List.getElem?_cons_succ] at aB bo
  exact List.mem_append_right _ (Ez aB bo n aI)
 |[],_,i,t,d,aB,_,_,_=>by simp at aB
 |_::_,[],i,t,d,_,bo,_,_=>by simp at bo
end
end Go.ba
end
section
namespace Go.ba
open Go Go.MapKept
open Go.ChangeMaps (setBlock)
section
variable {P:Program} {F:Nat→Prop} {lim:Nat→Nat} {w w':World} {n:Nat} {fr:Fr} {m:ae} {ca:Act} {bE:List Nat}
theorem MP {b:Nat} {l:List (U×U)} {os:Nat→List Nat} (h:ka w lim b (.map l) os):∃(es:Array MapEntry) (clock:Nat),w.heap[b]?=some (.map es clock)∧es.size=l.length∧l.length≤140737488355328∧
 (∀i,i<l.length→aP w lim (es.getD i default).key (l.getD i (.aS, .aS)).1 [])∧(∀i,i<l.length→aP w lim (es.getD i default).val (l.getD i (.aS, .aS)).2 [])∧(∀i j,i<j→j<l.length→(es.getD i default).born<(es.getD j default).born)∧(∀i,i<l.length→(es.getD i default).born<clock):=by
 cases h with
 |map es clock l ag al ew ak bn J aa os=>exact ⟨es,clock,ag,al,ew,ak,bn,J,aa⟩
theorem bc.range (st:bc F lim w n fr m ca bE) {b:Nat} {l:List (U×U)} (hm:m b=some (.map l)):
 ∃es clock,w.heap[b]?=some (.map es clock)∧m w.heap.size=none∧bc F lim (w.alloc (.mapIter (some b) clock #[] clock)) n fr (m.cQ b (some (.iter w.heap.size l []))) ca bE∧dL F w lim (w.alloc (.mapIter (some b) clock #[] clock)) lim:=by
 have ao:=st.pP
 have EA:m w.heap.size=none:=by
  cases ag:m w.heap.size with
  |none=>rfl
  |some o=>exact absurd (st.oX (b:=w.heap.size) (by rw [ag];simp)) (Nat.lt_irrefl _)
 have MQ:¬F w.heap.size:=fun aN=>absurd (st.pO aN) (Nat.lt_irrefl _)
 have EB:b<w.heap.size:=st.oX (by rw [hm];simp)
 have eN:=fun clock=>dL.alloc st (.mapIter (some b) clock #[] clock) 0
 have fb:(fun b=>if b=w.heap.size then 0 else lim b)=lim:=by funext b;by_cases ag:b=w.heap.size<;>simp [ag,ao]
 rw [fb] at eN
 obtain ⟨os,cP,bW,h⟩:=st
 obtain ⟨gY,av,fM⟩:=h.mem b _ hm
 obtain ⟨es,clock,ag,al,ew,ak,bn,J,aa⟩:=MP gY
 refine ⟨es,clock,ag,EA,?_,eN clock⟩
 have ue:(w.alloc (.mapIter (some b) clock #[] clock)).heap.size=w.heap.size+1:=Array.size_push _
 have db:∀{v x fN},aP w lim v x fN→(∀c∈fN,bW c≠ .none)→aP (w.alloc (.mapIter (some b) clock #[] clock)) lim v x fN:=fun fw aL=>
  fw.gQ (fun _=>Nat.le_refl _) (eN clock).cell (fun c ar=>⟨kC w _ c (h.free c (aL c ar)).2.2,rfl⟩)
 have Ad:∀c,bW c≠ .none→c≠w.heap.size:=fun c ar e=>by have:=(h.free c ar).2.2;omega
 refine ⟨os,fun k i=>if k=b then (if i=0 then [w.heap.size] else []) else cP k i,fun c=>if c=w.heap.size then .r4 b 0 else bW c,h.size,h.defers,fun t x aq=>⟨(h.ey t x aq).1,db (h.ey t x aq).2 (fun c ar=>by rw [(h.fc t x aq).2 c ar];simp)⟩,fun k o er=>?_,fun t x aq=>⟨(h.fc t x aq).1,fun c ar=>?_⟩,fun k o er i=>?_,⟨h.fW.1,fun c ar=>?_⟩,fun c ar=>?_,fun k er=>?_⟩
 · by_cases h3:k=b
   · subst h3
     simp only [ae.cQ,↓reduceIte,Option.some.injEq] at er
     subst er
     refine ⟨.iter es clock w.heap.size l [] ((kC w _ k EB).trans ag) al ew (fun i ad=>db (ak i ad) (by simp)) (fun i ad=>db (bn i ad) (by simp)) J aa (qE w _) (by simp) _ (by simp),av,fM⟩
   · simp only [ae.cQ,if_neg h3] at er
     have EC:=h.mem k o er
     simp only [if_neg h3]
     have MR:k<w.heap.size:=by
      rcases Nat.lt_or_ge k w.heap.size with ai|ai
      · exact ai
      · rw [(h.fresh k ai).2.2] at er;cases er
     refine ⟨EC.1.gQ (kC w _ k MR) (fun _=>Nat.le_refl _) (eN clock).cell (fun i c ar=>⟨kC w _ c (h.free c ?_).2.2,rfl⟩),EC.2⟩
     rw [(h.ed k o er i).2 c ar];simp
 · have aM:=(h.fc t x aq).2 c ar
   have aC:c≠w.heap.size:=Ad c (by rw [aM];simp)
   simp only [if_neg aC,aM]
 · by_cases h3:k=b
   · subst h3
     simp only [if_true]
     by_cases ad:i=0
     · subst ad;simp
     · simp [ad]
   · simp only [ae.cQ,if_neg h3] at er
     simp only [if_neg h3]
     refine ⟨(h.ed k o er i).1,fun c ar=>?_⟩
     have aM:=(h.ed k o er i).2 c ar
     have aC:c≠w.heap.size:=Ad c (by rw [aM];simp)
     simp only [if_neg aC,aM]
 · have aM:=h.fW.2 c ar
   have aC:c≠w.heap.size:=Ad c (by rw [aM];simp)
   simp only [if_neg aC,aM]
 · by_cases aC:c=w.heap.size
   · subst aC
     refine ⟨MQ,?_,by rw [ue];omega⟩
     simp only [ae.cQ]
     rw [if_neg (by omega)];exact EA
   · simp only [if_neg aC] at ar
     have:=h.free c ar
     refine ⟨this.1,?_,by have:=this.2.2;rw [ue];omega⟩
     simp only [ae.cQ]
     rw [if_neg (by intro e;subst e;rw [hm] at this;exact absurd this.2.1 (by simp))];exact this.2.1
 · have cJ:w.heap.size+1≤k:=by rw [ue] at er;exact er
   have:=h.fresh k (by omega)
   refine ⟨this.1,this.2.1,?_⟩
   simp only [ae.cQ]
   rw [if_neg (by omega)];exact this.2.2
variable {ops:Array Oper} {stl:List Nat} {r:List Oper} {K:Fr→ae→Prop} {d:Nat} {ty:TypeId} {pos:String} {af:Array Edge} {gd:Option (Nat×Bool)} {L:List (Nat×fB)}
section
variable {kk kO:Type} {q1:kk→U} {q2:kO→U}
end
end
end Go.ba
end
section
namespace Go.ba
open Go Go.Sort
open Go.Proofs (encStr)
section
variable {P:Program} {F:Nat→Prop} {lim:Nat→Nat} {w w':World} {n:Nat} {fr:Fr} {m:ae} {ca:Act} {bE:List Nat}
theorem MS {v:Value} {a:Addr} {k c:Nat} {os:List Nat} (h:aP w lim v (.ms a k c) os):os=[]:=by
 cases h;rfl
end
end Go.ba
end
section
namespace Go.ba
open Go
section
variable {P:Program} {w:World} {lim:Nat→Nat} {v:Value} {x:U} {os:List Nat} {n:Nat} {fr:Fr} {m:ae}
def u1:U→Prop
 | .str s=>s.length≤140737488355328
 | .slice _ l=>l.length≤140737488355328
 | .int k i=>k.min≤i∧i≤k.max
 |_=>True
theorem ED (h:aP w lim v x os):u1 x:=by
 cases h with
 |int k i bw ad=>exact ⟨bw,ad⟩
 |str s h=>show s.data.toList.length≤_;simp;exact h
 |fL own=>simp [u1]
 |empty a cap hm=>simp [u1]
 |slice b off n cap sz l cv aI fu hm ew=>show l.length≤_;omega
 |own b n cap sz l cv cur e aI fu hm ew=>show l.length≤_;omega
 |_=>trivial
def w9 (l:List U):Prop:=∀i j,i<l.length→j<(l.getD i .aS).cells.length→u1 ((l.getD i .aS).cells.getD j .aS)
theorem EE {o:Bool} {l:List U} (h:aP w lim v (.slice o l) os):w9 l:=by
 intro i j ad aA
 cases h with
 |fL own=>simp at ad
 |empty a cap hm=>simp at ad
 |slice b off n cap sz l cv aI fu hm ew cJ fb ar au=>exact ED (au i j (by omega) (by rw [←cJ i (by omega)];exact aA))
 |own b n cap sz l cv cur e aI fu hm ew aG ag mK cJ fb ar au=>exact ED (au i j (by omega) (by rw [←cJ i (by omega)];exact aA))
theorem EF {α:Type} {f:α→U} {l:List α} {a:α} (h:w9 (l.map f)) (aX:a∈l) (j:Nat) (aA:j<(f a).cells.length):u1 ((f a).cells.getD j .aS):=by
 obtain ⟨i,ad,e⟩:=List.getElem_of_mem aX
 have aC:(l.map f).getD i .aS=f a:=by simp [List.getD_eq_getElem?_getD,ad,e]
 have:=h i j (by simpa using ad) (by rw [aC];exact aA)
 rwa [aC] at this
end
end Go.ba
end
section
namespace Go.ba
open Go Go.RowKit Go.WideShapes Go.ChangeShapes
def u2 (P:Program) (fuel:Nat) (t:TypeId) {α:Type} (f:α→U) (ok:α→Prop):Prop:=
 ∀(H:Type) (enc:TypeId×Value→H) (W:World) (sp:Nat→Bool) (cs:List Value) (d:DataW H) (ps:List MemPlace),DataW.trod enc P W 0 sp true fuel t cs=some (d,ps)→(∀n∈d.weights P t,n≤reachBytes)→
  ∃x:α,ok x∧(f x).cells.length=cs.length∧∀i,i<cs.length→aP W (lF W) (cs.getD i undef) ((f x).cells.getD i .aS) []
section
variable {P:Program} {fuel:Nat} {t e:TypeId}
theorem u2.mono {α:Type} {f:α→U} {ok EG:α→Prop} (h:u2 P fuel t f ok) (ak:∀x,ok x→EG x):u2 P fuel t f EG:=fun H enc W sp cs d ps J aa=>by
 obtain ⟨x,ai,aq⟩:=h H enc W sp cs d ps J aa
 exact ⟨x,ak x ai,aq⟩
theorem u2.arg {α:Type} {f:α→U} {ok:α→Prop} {H:Type} {enc:TypeId×Value→H} {W:World} {sp:Nat→Bool} {cs:List Value} {v:Value} {d:DataW H} {ps:List MemPlace} (au:∀n,u2 P n t f ok) (bn:v.cells.toList=cs) (bo:DataW.Trod enc P W 0 sp true t v d ps) (hw:∀n∈d.weights P t,n≤reachBytes):
 ∃x:α,ok x∧(f x).cells.length=cs.length∧∀i,i<cs.length→aP W (lF W) (cs.getD i undef) ((f x).cells.getD i .aS) []:=by
 obtain ⟨n,aI⟩:=bo
 rw [bn] at aI
 exact au n H enc W sp _ d ps aI hw
end
end Go.ba
end
section
namespace Go.ba
open Go Go.Sort
def dM {α:Type} (f:α→U) (l:List α):List U:=(l.map f).flatMap U.cells
section
variable {α:Type} {f:α→U} {sz:Nat}
theorem sw (a:α) (l:List α):dM f (a::l)=(f a).cells++dM f l:=rfl
theorem EH (l bC:List α):dM f (l++bC)=dM f l++dM f bC:=by simp [dM]
theorem nQ (aN:∀a,(f a).cells.length=sz) (l:List α):(dM f l).length=l.length*sz:=by
 induction l with
 |nil=>simp [dM]
 |cons a l aQ=>rw [sw,List.length_append,aQ,aN,List.length_cons,Nat.add_mul,Nat.one_mul,Nat.add_comm]
theorem MT (aN:∀a,(f a).cells.length=sz) (jN:0<sz) (l:List α):∀q,q<l.length*sz→(dM f l).getD q .aS=((l.map f).getD (q/sz) .aS).cells.getD (q%sz) .aS:=by
 induction l with
 |nil=>intro q aO;simp at aO
 |cons a l aQ=>
  intro q aO
  rw [sw]
  by_cases Ae:q<sz
  · rw [mP (by rw [aN];omega),Nat.div_eq_of_lt Ae,Nat.mod_eq_of_lt Ae];rfl
  · obtain ⟨r,rfl⟩:=Nat.exists_eq_add_of_le (Nat.le_of_not_lt Ae)
    have aM:(sz+r)/sz=r/sz+1:=by rw [Nat.add_comm,Nat.add_div_right _ jN]
    rw [ot (by rw [aN];omega),aN,Nat.add_sub_cancel_left,aQ r (by simp [Nat.succ_mul] at aO;omega),aM,Nat.add_mod_left]
    simp [List.getD_eq_getElem?_getD]
theorem MU (aU:∀a,(f a).plain=f a) (l:List α):(dM f l).map U.plain=dM f l:=by
 induction l with
 |nil=>rfl
 |cons a l aQ=>rw [sw,List.map_append,aQ,←U.h0,←U.JN,aU]
theorem MV (aU:∀a,(f a).plain=f a) (l:List α):∀x∈dM f l,x.plain=x:=by
 intro x aq
 have h:=MU aU l
 obtain ⟨i,ad,rfl⟩:=List.getElem_of_mem aq
 have J:((dM f l).map U.plain)[i]'(by simpa using ad)=(dM f l)[i]:=by simp only [h]
 simpa using J
end
section
variable {P:Program} {F:Nat→Prop} {lim:Nat→Nat} {w w':World} {n:Nat} {fr:Fr} {m:ae} {ca:Act} {bE:List Nat}
theorem bc.MW {α:Type} {f:α→U} {sz:Nat} (st:bc F lim w n fr m ca []) {b:Nat} {aW:List α} (aN:∀a,(f a).cells.length=sz) (jN:0<sz) (aU:∀a,(f a).plain=f a) (hm:m b=some (.cells (dM f aW))):
 bc F (fun c=>if c=b then aW.length*sz else lim c) w n fr (m.cQ b none) ca []∧dL F w lim w (fun c=>if c=b then aW.length*sz else lim c)∧
 ∀k cap v,k≤aW.length→k≤140737488355328→aP w lim v (.ms ⟨b,0,none⟩ k cap) []→aP w (fun c=>if c=b then aW.length*sz else lim c) v (.slice false ((aW.take k).map f)) []:=by
 obtain ⟨os,cP,bW,h⟩:=st
 obtain ⟨gY,av,fM⟩:=h.mem b _ hm
 have fb:∀c,lim c≤if c=b then aW.length*sz else lim c:=fun c=>by split<;>simp_all
 have lz:∀c,bW c≠ .none→c≠b:=fun c ar e=>by subst e;have:=(h.free c ar).2.1;rw [hm] at this;cases this
 have db:∀{v x fN},aP w lim v x fN→(∀c∈fN,bW c≠ .none)→aP w (fun c=>if c=b then aW.length*sz else lim c) v x fN:=fun fw aL=>fw.gQ fb (fun _ _ _=>rfl) (fun c ar=>⟨rfl,if_neg (lz c (aL c ar))⟩)
 have EB:b<w.heap.size:=by
  rcases Nat.lt_or_ge b w.heap.size with ai|ai
  · exact ai
  · rw [(h.fresh b ai).2.2] at hm;cases hm
 refine ⟨⟨os,cP,bW,h.size,h.defers,fun t x aq=>⟨(h.ey t x aq).1,db (h.ey t x aq).2 (fun c ar=>by rw [(h.fc t x aq).2 c ar];simp)⟩,fun c o ar=>?_,h.fc,fun c o ar i=>?_,h.fW,fun c ar=>⟨(h.free c ar).1,?_,(h.free c ar).2.2⟩,fun c ar=>?_⟩,⟨rfl,rfl,rfl,Nat.le_refl _,fun c ar=>⟨rfl,?_⟩,fb,fun _ _ _=>rfl⟩,fun k cap v ak ao bn=>?_⟩
 · have iM:c≠b:=fun e=>by subst e;simp [ae.cQ] at ar
   simp only [ae.cQ,if_neg iM] at ar
   have:=h.mem c o ar
   refine ⟨this.1.gQ rfl fb (fun _ _ _=>rfl) (fun i q aO=>⟨rfl,if_neg (lz q (by rw [(h.ed c o ar i).2 q aO];simp))⟩),by rw [if_neg iM];exact this.2.1,this.2.2⟩
 · have iM:c≠b:=fun e=>by subst e;simp [ae.cQ] at ar
   simp only [ae.cQ,if_neg iM] at ar
   exact h.ed c o ar i
 · have:=(h.free c ar).2.1
   simp only [ae.cQ];split
   · rfl
   · exact this
 · have:=h.fresh c ar
   have iM:c≠b:=by omega
   refine ⟨by rw [if_neg iM];exact this.1,this.2.1,?_⟩
   simp only [ae.cQ,if_neg iM];exact this.2.2
 · exact if_neg (fun e=>fM (by rw [←e];exact ar))
 · obtain ⟨rfl,MX,l9⟩:=sb bn
   rcases Nat.eq_zero_or_pos k with aG|aG
   · subst aG
     exact .empty _ cap l9
   cases gY with
   |cells cs e l _ ag al au=>
    have cJ:cs.size=aW.length*sz:=by rw [al,nQ aN]
    have aO:∀i j,i<k→j<sz→i*sz+j<aW.length*sz∧(i*sz+j)/sz=i∧(i*sz+j)%sz=j:=fun i j ad aA=>by
     have ai:i*sz+sz≤aW.length*sz:=by rw [←Nat.succ_mul];exact Nat.mul_le_mul_right _ (by omega)
     refine ⟨by omega,?_,?_⟩
     · rw [Nat.mul_comm,Nat.mul_add_div (by omega),Nat.div_eq_of_lt aA,Nat.add_zero]
     · rw [Nat.mul_comm,Nat.mul_add_mod,Nat.mod_eq_of_lt aA]
    refine aP.slice b 0 k cap sz _ (fun i j=>cs.getD (i*sz+j) undef) (by simp;omega) MX l9 ao (fun i ad=>?_) (by simp;exact Nat.mul_le_mul_right _ ak) (fun i j ad aA=>?_) (fun i j ad aA=>?_)
    · have pV:i<aW.length:=by omega
      simp [List.getD_eq_getElem?_getD,ad,pV,aN]
    · have MY:i*sz+j<cs.size:=by rw [cJ];exact (aO i j ad aA).1
      simp [World.cell?,ag,Array.getD,MY]
    · have pV:i<aW.length:=by omega
      obtain ⟨cM,bI,gI⟩:=aO i j ad aA
      have J:=(au (i*sz+j) (by rw [nQ aN];exact cM)).plain
      have aa:=MV aU aW ((dM f aW).getD (i*sz+j) .aS) (by
       have:i*sz+j<(dM f aW).length:=by rw [nQ aN];exact cM
       simp [List.getD_eq_getElem?_getD,this])
      rw [aa,MT aN jN aW _ cM,bI,gI] at J
      have c8:((aW.take k).map f).getD i .aS=(aW.map f).getD i .aS:=by simp [List.getD_eq_getElem?_getD,ad,pV]
      rw [c8]
      exact J.gQ fb (fun _ _ _=>rfl) (by simp)
end
end Go.ba
end
section
namespace Go.ba
open Go
section
variable {α:Type} {f:α→U} {sz:Nat}
theorem MZ (xs:List α) (y:α) (k:Nat) (ak:k<xs.length):dM f (xs.set k y)=dM f (xs.take k)++((f y).cells++dM f (xs.drop (k+1))):=by
 rw [List.set_eq_take_append_cons_drop,if_pos ak,EH,sw]
theorem M0 (aN:∀a,(f a).cells.length=sz) (xs:List α) {k j n:Nat} (ak:k<xs.length) (aA:j+n≤sz):k*sz+j+n≤(dM f xs).length:=by
 rw [nQ aN]
 have:(k+1)*sz≤xs.length*sz:=Nat.mul_le_mul_right _ ak
 rw [Nat.add_mul,Nat.one_mul] at this
 omega
end
section
variable {α:Type} [Inhabited α] {f:α→U} {sz:Nat}
theorem Af (f:α→U) (xs:List α) (k:Nat) (ak:k<xs.length):dM f xs=dM f (xs.take k)++((f (xs.getD k default)).cells++dM f (xs.drop (k+1))):=by
 rw [←sw,←EH]
 congr 1
 have e:xs.getD k default=xs[k]:=by simp [ak]
 rw [e,←List.drop_eq_getElem_cons ak,List.take_append_drop]
theorem M1 (aN:∀a,(f a).cells.length=sz) (xs:List α) (k:Nat) (ak:k<xs.length) (j:Nat) (aA:j≤sz):(dM f xs).drop (k*sz+j)=(f (xs.getD k default)).cells.drop j++dM f (xs.drop (k+1)):=by
 have av:(dM f (xs.take k)).length=k*sz:=by rw [nQ aN,List.length_take,Nat.min_eq_left (Nat.le_of_lt ak)]
 rw [Af f xs k ak,←av,List.drop_length_add_append,List.drop_append_of_le_length (by rw [aN];exact aA)]
theorem M3 (aN:∀a,(f a).cells.length=sz) (xs:List α) (k:Nat) (ak:k<xs.length) (j:Nat) (aA:j≤sz):(dM f xs).take (k*sz+j)=dM f (xs.take k)++(f (xs.getD k default)).cells.take j:=by
 have av:(dM f (xs.take k)).length=k*sz:=by rw [nQ aN,List.length_take,Nat.min_eq_left (Nat.le_of_lt ak)]
 rw [Af f xs k ak,←av,List.take_length_add_append,List.take_append_of_le_length (by rw [aN];exact aA)]
end
section
variable {P:Program} {α:Type} {sz:Nat}
end
section
variable {P:Program} {n:Nat} {fr:Fr} {m:ae} {ops:Array Oper} {stl:List Nat} {r:List Oper} {K:Fr→ae→Prop} {d:Nat} {ty:TypeId} {pos:String} {af:Array Edge} {gd:Option (Nat×Bool)} {L:List (Nat×fB)} {cs:List U} {kN:Fr→Prop}
variable {α:Type} [Inhabited α] {sz:Nat}
theorem M4 (bl:hI ops fr gd=some true) (i:Nat) (f:α→U) (xs:List α) (y:α) (k:Int) (j:Nat) {t:TypeId} {a x:Operand} {b o:Nat} {v:U} (aX:b4 (bd fr) a= .ptr ⟨b,o,none⟩) (aL:o=k.toNat*sz+j) (aq:eB (bd fr) x=v) (gi:(L.map Prod.fst).Nodup) (ad:L[i]?=some (b, .cells (dM f xs)))
 (aN:∀a,(f a).cells.length=sz) (J:v.dy=true) (aa:v.cells.all U.one=true) (ai:v.cells.length=P.cellsOf t) (hh:dS P t=true) (aA:j+P.cellsOf t≤sz) (aK:(f (I xs k)).cells.take j++v.cells++(f (I xs k)).cells.drop (j+P.cellsOf t)=(f y).cells) (aG:0≤k) (ak:k<xs.length)
 (h:hJ P ops stl r K (fr.strip (kd x)) (m.bf (L.set i (b, .cells (dM f (xs.set k.toNat y)))))):hJ P ops stl (⟨none, .store t a x,ty,pos,af,gd⟩::r) K fr (m.bf L):=by
 subst aL
 have er:k.toNat<xs.length:=by omega
 refine Ev bl i aX aq gi ad J aa ai hh (M0 aN xs er aA) ?_ h
 rw [MZ xs y k.toNat er,M3 aN xs k.toNat er j (by omega),Nat.add_assoc,M1 aN xs k.toNat er _ aA,←aK]
 simp only [I,List.append_assoc]
end
end Go.ba
end
section
namespace Go.ba
open Go Go.RowKit Go.WideShapes Go.ChangeShapes
structure kl (bk:{H:Type}→DataW H→Nat) (bkA:{H:Type}→List (DataW H)→Nat):Prop where
 cons:∀{H:Type} (d:DataW H) (l:List (DataW H)),bkA (d::l)=bk d+bkA l
 slice:∀{H:Type} (e s:List (DataW H)),bkA e+1≤bk (.slice e s)
 agg:∀{H:Type} (p:List (DataW H)),bkA p+1≤bk (.agg p)
def km (bk:{H:Type}→DataW H→Nat) (P:Program) (fuel:Nat) (t:TypeId) {α:Type} (f:α→U) (sz:α→Nat):Prop:=
 ∀(H:Type) (enc:TypeId×Value→H) (W:World) (sp:Nat→Bool) (cs:List Value) (d:DataW H) (ps:List MemPlace),DataW.trod enc P W 0 sp true fuel t cs=some (d,ps)→(∀n∈d.weights P t,n≤reachBytes)→
  ∃x:α,sz x≤bk d∧(f x).cells.length=cs.length∧∀i,i<cs.length→aP W (lF W) (cs.getD i undef) ((f x).cells.getD i .aS) []
section
variable {bk:{H:Type}→DataW H→Nat} {bkA:{H:Type}→List (DataW H)→Nat} {P:Program} {fuel:Nat} {t e:TypeId}
theorem Rd.toB {α:Type} {f:α→U} (h:Rd P fuel t f):km bk P fuel t f (fun _=>0):=by
 intro H enc W sp cs d ps J aa
 obtain ⟨x,ai,aJ⟩:=h H enc W sp cs d ps J aa
 exact ⟨x,Nat.zero_le _,ai,aJ⟩
theorem kl.at (cd:kl bk bkA) {H:Type}:∀{p:List (DataW H)} {i:Nat} {d:DataW H},p[i]?=some d→bk d≤bkA p
 |a::p,0,d,h=>by
  simp only [List.getElem?_cons_zero,Option.some.injEq] at h
  subst h;rw [cd.cons];omega
 |a::p,i+1,d,h=>by
  simp only [List.getElem?_cons_succ] at h
  have:=cd.at h
  rw [cd.cons];omega
 |[],i,d,h=>by simp at h
theorem kl.two (cd:kl bk bkA) {H:Type}:∀{p:List (DataW H)} {i j:Nat} {d jO:DataW H},i<j→p[i]?=some d→p[j]?=some jO→bk d+bk jO≤bkA p
 |a::p,0,j+1,d,jO,_,h,cp=>by
  simp only [List.getElem?_cons_zero,Option.some.injEq,List.getElem?_cons_succ] at h cp
  subst h
  have:=cd.at cp
  rw [cd.cons];omega
 |a::p,i+1,j+1,d,jO,lG,h,cp=>by
  simp only [List.getElem?_cons_succ] at h cp
  have:=cd.two (by omega) h cp
  rw [cd.cons];omega
 |a::p,i,0,d,jO,lG,h,cp=>by omega
 |[],i,j,d,jO,_,h,_=>by simp at h
theorem EI (cd:kl bk bkA) {H:Type}:∀(fx:List (DataW H)) (g:Nat→Nat) (n:Nat),n≤fx.length→(∀i d,i<n→fx[i]?=some d→g i≤bk d)→((List.range n).map g).sum≤bkA fx
 |fx,g,0,_,_=>by simp
 |[],g,n+1,h,_=>by simp at h
 |d::fx,g,n+1,h,bl=>by
  have aG:=bl 0 d (by omega) rfl
  have aQ:=EI cd fx (fun i=>g (i+1)) n (by simp at h;omega) (fun i jO ad bo=>bl (i+1) jO (by omega) (by simpa using bo))
  have e:(List.range (n+1)).map g=g 0::(List.range n).map (fun i=>g (i+1)):=by
   rw [List.range_succ_eq_map,List.map_cons,List.map_map];rfl
  rw [e,List.sum_cons,cd.cons];omega
theorem pe (cd:kl bk bkA) {α:Type} [Inhabited α] {f:α→U} {z:α→Nat} {sz:Nat} (aB:P.underlying t=some (.slice e)) (cJ:P.cellsOf e=sz) (jN:0<sz) (M5:0<P.bytesOf e) (aN:∀x,(f x).cells.length=sz) (au:∀n,n<fuel→km bk P n e f z):km bk P fuel t (bj f) (fun l=>(l.map z).sum):=by
 intro H enc W sp cs d ps h hw
 rcases DataW.trod_slice aB h with ⟨rfl,_⟩|⟨a,len,cap,elems,rest,n,rfl,rfl,aq,ag,av,hm,hlen,nF,mU,Ug⟩
 · refine ⟨[],by simp,rfl,fun i ad=>?_⟩
   obtain rfl:i=0:=by simpa using ad
   exact .fL false
 simp only [Prod.mk.injEq] at aq
 obtain ⟨rfl,rfl⟩:=aq
 simp only [DataW.weights,aB] at hw
 have EJ:=hw _ (List.mem_cons_self ..)
 simp only [List.length_map] at EJ
 have EK:len≤140737488355328:=by
  have J:len*1≤(elems.length+rest.length)*P.bytesOf e:=Nat.mul_le_mul (by omega) M5
  unfold reachBytes at EJ;omega
 rcases Nat.eq_zero_or_pos len with aG|aG
 · subst aG
   refine ⟨[],by simp,rfl,fun i ad=>?_⟩
   obtain rfl:i=0:=by simpa using ad
   exact .empty a cap hm
 have each:∀i (ad:i<len),∃(x:α) (kH:List Value),z x≤bk (elems[i]'(by omega)).1∧W.cells? 0 (a.add (i*sz)) sz=some kH∧(∀j,j<sz→aP W (lF W) (kH.getD j undef) ((f x).cells.getD j .aS) []):=fun i ad=>by
  have J:=nF i ad
  rw [cJ,List.getElem?_eq_getElem (show i<elems.length by omega),Option.bind_eq_some_iff] at J
  obtain ⟨kH,aa,ai⟩:=J
  have uC:DataW.trod enc P W 0 sp true n e kH=some ((elems[i]'(by omega)).1,(elems[i]'(by omega)).2):=ai
  obtain ⟨x,u3,bU,dc⟩:=au n (Nat.lt_succ_self n) H enc W sp kH _ _ uC (fun k ak=>hw k (List.mem_cons_of_mem _ (List.mem_append_left _ (Ex (List.mem_map.2 ⟨_,List.getElem_mem (show i<elems.length by omega),rfl⟩) k ak))))
  have pf:kH.length=sz:=by rw [←bU,aN]
  exact ⟨x,kH,u3,aa,fun j aA=>dc j (by omega)⟩
 have mU:a.spot=none:=by
  obtain ⟨x,kH,_,J,_⟩:=each 0 aG
  have:=(World.cells?_some J).2.2 0 jN
  obtain ⟨b,off,spot⟩:=a
  cases spot with
  |none=>rfl
  |some s=>
   have pf:=(World.cells?_some J).2.1
   rw [List.getElem?_eq_getElem (by omega)] at this
   unfold World.cell? at this
   simp [Addr.add] at this
   split at this<;>simp_all
 obtain ⟨b,off,spot⟩:=a
 simp only at mU
 subst mU
 have bl:∀i:Nat,∃x:α×List Value,∀(ad:i<len),z x.1≤bk (elems[i]'(by omega)).1∧W.cells? 0 ((⟨b,off,none⟩:Addr).add (i*sz)) sz=some x.2∧(∀j,j<sz→aP W (lF W) (x.2.getD j undef) ((f x.1).cells.getD j .aS) []):=fun i=>by
  by_cases ad:i<len
  · obtain ⟨x,kH,aG,J,aa⟩:=each i ad
    exact ⟨(x,kH),fun _=>⟨aG,J,aa⟩⟩
  · exact ⟨(default,[]),fun h=>absurd h ad⟩
 obtain ⟨g,bl⟩:=Classical.axiomOfChoice bl
 have jH:∀i j,i<len→j<sz→W.cell? ⟨b,off+i*sz+j,none⟩=some ((g i).2.getD j undef):=fun i j ad aA=>by
  have J:=(bl i ad).2.1
  have aa:=(World.cells?_some J).2.2 j aA
  have ai:=(World.cells?_some J).2.1
  rw [Addr.add_lit,Addr.add_lit] at aa
  rw [aa,List.getD_eq_getElem?_getD,List.getElem?_eq_getElem (by omega)];rfl
 refine ⟨(List.range len).map fun i=>(g i).1,?_,rfl,fun i ad=>?_⟩
 · have J:=EI cd (elems.map Prod.fst) (fun i=>z (g i).1) len (by rw [List.length_map];omega) (fun i d ad bo=>by
    have ie:i<elems.length:=by omega
    rw [List.getElem?_map,List.getElem?_eq_getElem ie] at bo
    simp only [Option.map_some,Option.some.injEq] at bo
    subst bo
    exact (bl i ad).1)
   have aa:=cd.slice (elems.map Prod.fst) (rest.map Prod.fst)
   simp only [List.map_map]
   have e:((List.range len).map (z∘fun i=>(g i).1)).sum=((List.range len).map fun i=>z (g i).1).sum:=rfl
   show ((List.range len).map (z∘fun i=>(g i).1)).sum≤_
   rw [e]
   have ai:∀s:List (DataW H),bkA (elems.map Prod.fst)+1≤bk (DataW.slice (elems.map Prod.fst) s):=fun s=>cd.slice _ s
   exact Nat.le_trans J (Nat.le_trans (Nat.le_succ _) (ai _))
 obtain rfl:i=0:=by simpa using ad
 have me:∀i,i<len→(((List.range len).map fun i=>(g i).1).map f).getD i .aS=f (g i).1:=fun i ad=>by
  simp [List.getD_eq_getElem?_getD,ad]
 refine aP.slice b off len cap sz _ (fun i j=>(g i).2.getD j undef) (by simp) av hm EK (fun i ad=>by rw [me i ad];exact aN _) ?_ jH (fun i j ad aA=>by rw [me i ad];exact (bl i ad).2.2 j aA)
 have J:=LV (jH (len- 1) (sz- 1) (by omega) (by omega))
 have aa:len*sz=(len- 1)*sz+sz:=by rw [←Nat.succ_mul];congr 1;omega
 omega
theorem p4 (cd:kl bk bkA) {cL:Array Field} (aB:P.underlying t=some (.struct cL)) {H:Type} {enc:TypeId×Value→H} {W:World} {sp:Nat→Bool} {cs:List Value} {d:DataW H} {ps:List MemPlace} (h:DataW.trod enc P W 0 sp true fuel t cs=some (d,ps)) (hw:∀n∈d.weights P t,n≤reachBytes):
 cs.length=P.cellsOf t∧∃p:List (DataW H),bkA p+1≤bk d∧∀(i:Nat) (f:Field) {α:Type} (g:α→U) (z:α→Nat),cL[i]?=some f→(∀n,n<fuel→km bk P n f.type g z)→f.offset+P.cellsOf f.type≤P.cellsOf t→
  ∃(x:α) (EL:DataW H),p[i]?=some EL∧z x≤bk EL∧(g x).cells.length=P.cellsOf f.type∧∀j,j<P.cellsOf f.type→aP W (lF W) (cs.getD (f.offset+j) undef) ((g x).cells.getD j .aS) []:=by
 obtain ⟨xs,n,rfl,aq,av,sx,aN⟩:=DataW.trod_struct aB h
 simp only [Prod.mk.injEq] at aq
 obtain ⟨rfl,rfl⟩:=aq
 refine ⟨av,_,cd.agg _,fun i f α g z ad au aL=>?_⟩
 have J:=aN i f ad
 have ie:i<xs.length:=by
  rw [sx];exact (Array.getElem?_eq_some_iff.1 ad).1
 rw [List.getElem?_eq_getElem ie] at J
 have Ag:DataW.trod enc P W 0 sp true n f.type ((cs.drop f.offset).take (P.cellsOf f.type))=some ((xs[i]).1,(xs[i]).2):=J
 simp only [DataW.weights,aB] at hw
 obtain ⟨x,u3,bU,dc⟩:=au n (Nat.lt_succ_self n) H enc W sp _ _ _ Ag (fun k ak=>hw k (Ez (i:=i) (t:=f.type) (by simp [ad]) (by simp [ie]) k ak))
 have hlen:((cs.drop f.offset).take (P.cellsOf f.type)).length=P.cellsOf f.type:=by
  rw [List.length_take,List.length_drop];omega
 refine ⟨x,xs[i].1,by simp [ie],u3,by rw [bU,hlen],fun j aA=>?_⟩
 have aa:=dc j (by omega)
 have e:((cs.drop f.offset).take (P.cellsOf f.type)).getD j undef=cs.getD (f.offset+j) undef:=by
  simp [List.getD_eq_getElem?_getD,aA]
 rwa [e] at aa
theorem km.arg {α:Type} {f:α→U} {z:α→Nat} {H:Type} {enc:TypeId×Value→H} {W:World} {sp:Nat→Bool} {v:Value} {d:DataW H} {ps:List MemPlace} (au:∀n,km bk P n t f z) (aN:∀x,(f x).cells=[f x]) (bn:v.cells.toList=[v]) (bo:DataW.Trod enc P W 0 sp true t v d ps) (hw:∀n∈d.weights P t,n≤reachBytes):
 ∃x:α,z x≤bk d∧aP W (lF W) v (f x) []:=by
 obtain ⟨n,aI⟩:=bo
 obtain ⟨x,aG,J,aa⟩:=au n H enc W sp _ d ps aI hw
 refine ⟨x,aG,?_⟩
 rw [bn] at aa
 have:=aa 0 (by simp)
 rw [aN] at this
 exact this
end
end Go.ba
end
section
namespace Go.ba
open Go
section
variable {P:Program} {n:Nat} {fr:Fr} {m:ae} {ops:Array Oper} {fuel:Nat} {listed:Array Bool} {K:Fr→ae→Prop}
theorem EM {Q hH:Exit→Act→World→Prop} (h:∀e a w,Q e a w→hH e a w) (av:LetsOut Q→LetsOut hH) {md:Region.Mode}:∀(fuel:Nat) (listed:Array Bool) (a:Act) (w:World),wpAny P md ops Q fuel listed a w→wpAny P md ops hH fuel listed a w
 |0,_,_,_,aT=>⟨aT.1,h _ _ _ aT.2⟩
 |fuel+1,listed,a,w,aT=>by
  refine ⟨fun aG=>h _ _ _ (aT.1 aG),fun i ad=>?_⟩
  have J:=wpOp_mono (fun cR w' cp=>EM h av fuel _ cR w' cp) (aT.2 i ad)
  unfold wpOp at J ⊢
  cases aL:ops[i]? with
  |none=>rw [aL] at J;exact J
  |some o=>
   rw [aL] at J
   simp only at J ⊢
   split
   · next hw=>
     rw [if_pos hw] at J
     refine J.imp (fun aa=>?_) fun aa=>⟨aa.1,av aa.2⟩
     unfold Oper.wp at aa ⊢
     generalize (execOp a.eval o).run P w=r at aa ⊢
     cases r with
     |ok M6 w'=>
      cases M6<;>simp only [Oper.upon] at aa ⊢<;>
       first
        |exact aa
        |exact Calls.mono aa (fun e h9 he=>by cases e<;>first|exact he|exact h _ _ _ he|exact av he)
     |halt x w'=>cases x<;>simp only [Oper.upon] at aa ⊢<;>first|exact aa|exact h _ _ _ aa|exact av aa
   · next hw=>
     rw [if_neg hw] at J
     exact J
def q3 (ops:Array Oper) (listed:Array Bool) (i:Nat) (o:Oper):Bool:=
 o.guard.isNone&&(Region.ready .any ops listed).contains i&&
 (ops.toList.all fun q=>match q.op with| .select _ _=>false|_=>true)&&
 (List.range ops.size).all fun j=>match ops[j]? with
   |some q=>j==i||listed.getD j true||q.after.toList.any (fun e=>Region.binds .any e&&e.on==i)||o.apart ops q
   |none=>true
theorem eW.Ah {i:Nat} {o:Oper} {d:Nat} {x:U} (ad:ops[i]?=some o) (q4:o.dst=some d) (ib:d<n) (ag:q3 ops listed i o=true)
 (bn:∀F lim w ca,bc F lim w n fr m ca []→∃v,(∀w',(execOp ca.eval o).run P w'= .ok (.value v) w')∧aP w lim v x [])
 (h:eW P n ops fuel (listed.setIfInBounds i true) K (fr.put d x) m):eW P n ops (fuel+1) listed K fr m:=by
 intro F lim w ca Q st aO
 obtain ⟨v,M7,M8⟩:=bn F lim w ca st
 simp only [q3,Bool.and_eq_true,List.all_eq_true,List.contains_iff_mem] at ag
 obtain ⟨⟨⟨bl,au⟩,al⟩,aX⟩:=ag
 let hH:Exit→Act→World→Prop:=fun e a w=>match e with
  | .normal=>Q .normal a w
  |e=>∀b w',Q e b w'
 have J:wpAny P .any ops hH fuel (listed.setIfInBounds i true) (ca.put (some d) v) w:=h F lim w (ca.put (some d) v) hH (show bc F lim w n (ba.ep fr (some d) x) m (ca.put (some d) v) [] from st.ep (fun t aB=>by cases aB;exact ib) M8) aO
 have aa:wpAny P .any ops hH (fuel+1) listed ca w:=by
  refine wpAny_first (v:=v) ad (fun j q cs b aA ar=>?_) (fun c a w aT=>aT) fuel listed ca w (fun j q aA pb pc gg=>?_) au (.inl ⟨?_,M7⟩) (by rw [q4];exact J)
  · have:=al q (by rw [Array.mem_toList_iff];exact Array.mem_of_getElem? aA)
    rw [ar] at this;cases this
  · have u4:j<ops.size:=(Array.getElem?_eq_some_iff.1 aA).1
    have:=aX j (List.mem_range.2 u4)
    rw [aA] at this
    simp only [Bool.or_eq_true,beq_iff_eq,List.any_eq_true,Bool.and_eq_true] at this
    rcases this with ((ai|ai)|⟨e,he,ai,aJ⟩)|ai
    · exact absurd ai pb
    · rw [pc] at ai;cases ai
    · exact absurd aJ (gg e (by simpa using he) ai)
    · exact ai
  · unfold Region.wanted
    cases me:o.guard with
    |none=>rfl
    |some g=>rw [me] at bl;cases bl
 have hm:∀e a w,hH e a w→Q e a w:=fun e a w aT=>by cases e<;>first|exact aT|exact aT a w
 exact EM hm (fun ⟨a,w,aT⟩=>⟨a,w,hm _ _ _ aT⟩) _ _ _ _ aa
theorem eW.M9 {i:Nat} {o:Oper} {y:Operand} {d:Nat} {x:U} (ad:ops[i]?=some o) (aL:o.op= .move y) (q4:o.dst=some d) (ib:d<n) (aK:kD y=true) (ag:q3 ops listed i o=true) (aq:b4 (bd fr) y=x)
 (h:eW P n ops fuel (listed.setIfInBounds i true) K (fr.put d x) m):eW P n ops (fuel+1) listed K fr m:=by
 refine eW.Ah ad q4 ib ag (fun F lim w ca st=>?_) h
 subst aq
 exact ⟨ca.eval y,fun w'=>by simp [execOp,aL],hQ st aK⟩
theorem eW.Na {i:Nat} {o:Oper} {y:Operand} {d:Nat} {a:Addr} (ad:ops[i]?=some o) (aL:o.op= .nilCheck y) (q4:o.dst=some d) (ib:d<n) (aK:kD y=true) (ag:q3 ops listed i o=true) (aq:b4 (bd fr) y= .ptr a)
 (h:eW P n ops fuel (listed.setIfInBounds i true) K (fr.put d (.ptr a)) m):eW P n ops (fuel+1) listed K fr m:=by
 refine eW.Ah ad q4 ib ag (fun F lim w ca st=>?_) h
 have au:=hQ st aK
 rw [aq] at au
 have he:=pQ au
 exact ⟨.pointer (some a),fun w'=>by simp [execOp,aL,he], .ptr a⟩
theorem eW.Nb {i:Nat} {o:Oper} {s:TypeId} {y:Operand} {f d:Nat} {a cR:Addr} {side:Prop} (ad:ops[i]?=some o) (aL:o.op= .fieldAddr s y f) (q4:o.dst=some d) (ib:d<n) (aK:kD y=true) (ag:q3 ops listed i o=true) (aq:b4 (bd fr) y= .ptr a)
 (aO:bO P m (b4 (bd fr)) (.fieldAddr s y f)=some (side, .ptr cR)) (al:side)
 (h:eW P n ops fuel (listed.setIfInBounds i true) K (fr.put d (.ptr cR)) m):eW P n ops (fuel+1) listed K fr m:=by
 refine eW.Ah ad q4 ib ag (fun F lim w ca st=>?_) h
 have au:=hQ st aK
 rw [aq] at au
 have he:=pQ au
 refine ⟨.pointer (some cR),fun w'=>?_, .ptr cR⟩
 obtain ⟨v,J,aa⟩:=Db (w:=w') (lim:=lim) (ca:=ca) aL aO al (by rw [aq,he];exact .ptr a)
 rw [pQ aa] at J
 exact J
end
abbrev Uh (b:Nat):U:= .ptr ⟨b,0,none⟩
abbrev Ui (n:Int):U:= .int .i64 n
abbrev Uj (l:List U):U:= .slice false l
abbrev Uk (l:List U):U:= .slice true l
abbrev Ul (m:ae) (L:List (Nat×fB)):ae:=ae.bf m L
theorem Um:True:=trivial
abbrev Un:=@sv
abbrev Uo:=@Em
abbrev Up:=@MG
abbrev Uq:=@Ev
abbrev Ur:=@p3
abbrev Us:=@za
abbrev Ut:=@zb
abbrev Uu:=@MD
abbrev Uv:=@congrArg
theorem Uw {α:Type} {p:α→Prop}:∀x∈([]:List α),p x:=fun _ h=>by cases h
theorem Ux {a b:Nat} (h:Nat.ble a b=true):a≤b:=Nat.le_of_ble_eq_true h
end Go.ba
end
section
namespace Go.bV
open Go Go.ba
inductive bD where
 |lit (b:Bool)
 |lt (a b:Int)
 |le (a b:Int)
 |p5 (a b:Int)
 |eqs (a b:List UInt8)
 |xa (a b:Bool)
 |not (c:bD)
 |raw (b:Bool)
def bD.val:bD→Bool
 | .lit b=>b
 | .lt a b=>decide (a<b)
 | .le a b=>decide (a≤b)
 | .p5 a b=>a==b
 | .eqs a b=>a==b
 | .xa a b=>a==b
 | .not c=>!c.val
 | .raw b=>b
def bD.ways:bD→Prop→Prop→Prop
 | .lit true,t,_=>t
 | .lit false,_,f=>f
 | .lt a b,t,f=>(a<b→t)∧(b≤a→f)
 | .le a b,t,f=>(a≤b→t)∧(b<a→f)
 | .p5 a b,t,f=>(a=b→t)∧(a≠b→f)
 | .eqs a b,t,f=>(a=b→t)∧(a≠b→f)
 | .xa a b,t,f=>(a=b→t)∧(a≠b→f)
 | .not c,t,f=>c.ways f t
 | .raw b,t,f=>(b=true→t)∧(b=false→f)
theorem bD.u5:∀(c:bD) {t f:Prop},c.ways t f→(c.val=true→t)∧(c.val=false→f)
 | .lit true,_,_,h=>⟨fun _=>h,fun e=>by cases e⟩
 | .lit false,_,_,h=>⟨(fun e=>by cases e),fun _=>h⟩
 | .lt a b,_,_,h=>⟨fun e=>h.1 (of_decide_eq_true e),fun e=>h.2 (Int.not_lt.1 (of_decide_eq_false e))⟩
 | .le a b,_,_,h=>⟨fun e=>h.1 (of_decide_eq_true e),fun e=>h.2 (Int.not_le.1 (of_decide_eq_false e))⟩
 | .p5 a b,_,_,h=>⟨fun e=>h.1 (eq_of_beq e),fun e=>h.2 (ne_of_beq_false e)⟩
 | .eqs a b,_,_,h=>⟨fun e=>h.1 (eq_of_beq e),fun e=>h.2 (ne_of_beq_false e)⟩
 | .xa a b,_,_,h=>⟨fun e=>h.1 (eq_of_beq e),fun e=>h.2 (ne_of_beq_false e)⟩
 | .not c,_,_,h=>⟨fun e=>(u5 c h).2 (ds e),fun e=>(u5 c h).1 (dn e)⟩
 | .raw b,_,_,h=>h
inductive aR where
 |aH (x:U)
 |own (l:List U)
 |b (c:bD)
 |loc (i off:Nat)
 |ms (i n cap:Nat)
 |mp (i:Nat)
 |hj (i:Nat) (k:Int) (w j:Nat)
 |bT (i o n cap:Nat)
 |agg (l:List aR)
 |dw (l:List aR)
 |fn (f:FuncId) (a c:List aR)
 |off
instance:Inhabited aR:=⟨.off⟩
mutual
def den (bs:List Nat):aR→U
 | .aH x=>x.plain
 | .own l=> .slice true l
 | .b c=> .bool c.val
 | .loc i off=> .ptr ⟨bs.getD i 0,off,none⟩
 | .ms i n cap=> .ms ⟨bs.getD i 0,0,none⟩ n cap
 | .mp i=> .map (bs.getD i 0)
 | .hj i k w j=> .ptr ⟨bs.getD i 0,0+k.toNat*w+j,none⟩
 | .bT i o n cap=> .ms ⟨bs.getD i 0,o,none⟩ n cap
 | .agg l=> .agg (bm bs l)
 | .dw l=> .tuple (bm bs l)
 | .fn f a c=> .func (.func f) (bm bs a) (bm bs c)
 | .off=> .lazy false .aS
def bm (bs:List Nat):List aR→List U
 |[]=>[]
 |v::r=>den bs v::bm bs r
end
theorem lJ (bs:List Nat) (l:List aR):bm bs l=l.map (den bs):=by
 induction l with
 |nil=>simp only [bm,List.map_nil]
 |cons v r aQ=>simp only [bm,List.map_cons,aQ]
theorem ju (bs:List Nat) (l:List aR):(bm bs l).length=l.length:=by rw [lJ,List.length_map]
mutual
theorem sy:∀(x:U),x.plain.plain=x.plain
 | .agg l=>by simp only [U.plain,Ai l]
 | .tuple l=>by simp only [U.plain,Ai l]
 | .lazy g x=>by simp only [U.plain,sy x]
 | .slice _ _=>by simp only [U.plain]
 | .bool _| .int _ _| .str _| .ptr _| .eM| .ref _| .ms _ _ _| .map _| .iW| .func _ _ _| .jF| .fL| .iface _ _| .nilIface| .err _ _| .opt _| .aS=>by simp only [U.plain]
theorem Ai:∀(l:List U),U.eU (U.eU l)=U.eU l
 |[]=>by simp only [U.eU]
 |x::r=>by simp only [U.eU,sy x,Ai r]
end
abbrev bJ:=List (Nat×aR)
def bb (bs:List Nat):bJ→Fr
 |[]=>[]
 |(t,v)::r=>(t,den bs v)::bb bs r
def eR:bJ→Nat→aR
 |[],_=> .aH .aS
 |(s,x)::r,t=>bif Nat.beq s t then x else eR r t
def jP:bJ→Nat→(aR→Prop)→Prop
 |[],_,k=>k (.aH .aS)
 |(s,x)::r,t,k=>bif Nat.beq s t then k x else jP r t k
theorem k7:∀(fr:bJ) (t:Nat) (k:aR→Prop),jP fr t k=k (eR fr t)
 |[],_,_=>rfl
 |(s,x)::r,t,k=>by
  simp only [jP,eR]
  cases Nat.beq s t
  · exact k7 r t k
  · rfl
theorem ko (bs:List Nat):∀(fr:bJ) (t:Nat),bd (bb bs fr) t=den bs (eR fr t)
 |[],t=>by simp only [bb,bd,Fr.get,Option.getD_none,eR,den,U.plain]
 |(s,x)::r,t=>by
  have aQ:=ko bs r t
  simp only [bd] at aQ
  simp only [bb,bd,Fr.get,eR]
  by_cases h:s=t
  · subst h;simp
  · have:Nat.beq s t=false:=by
     cases ag:Nat.beq s t with
     |false=>rfl
     |true=>exact absurd (Nat.eq_of_beq_eq_true ag) h
    simp only [h,if_false,this,cond_false,aQ]
def b5 (b:Bool) (p:Prop):Prop:=
 match b with
 |true=>p
 |false=>False
theorem dN {b:Bool} {p:Prop}:b5 b p↔b=true∧p:=by cases b<;>simp [b5]
def fP {α:Type}:List α→(List α→Prop)→Prop
 |[],k=>k []
 |x::r,k=>fP r (fun et=>k (x::et))
theorem gJ {α:Type}:∀(l:List α) (k:List α→Prop),fP l k=k l
 |[],_=>rfl
 |x::r,k=>by rw [fP,gJ r]
def nth {α:Type}:List α→Nat→Option α
 |[],_=>none
 |x::_,0=>some x
 |_::r,i+1=>nth r i
theorem ig {α:Type}:∀(l:List α) (i:Nat),nth l i=l[i]?
 |[],_=>by simp [nth]
 |x::_,0=>by simp [nth]
 |_::r,i+1=>by simp [nth,ig r i]
def u6:aR→(aR→Prop)→Prop
 | .own l,k=>k (.aH (.slice false l))
 | .aH x,k=>k (.aH x)
 | .b c,k=>k (.b c)
 | .loc i o,k=>k (.loc i o)
 | .ms i n c,k=>k (.ms i n c)
 | .mp i,k=>k (.mp i)
 | .hj i a w j,k=>k (.hj i a w j)
 | .bT i o n c,k=>k (.bT i o n c)
 | .fn f a c,k=>k (.fn f a c)
 | .agg _,_| .dw _,_| .off,_=>False
theorem mY (bs:List Nat):∀{v:aR} {k:aR→Prop},u6 v k→∃u,k u∧den bs u=(den bs v).plain
 | .own l,_,h=>⟨_,h,by simp only [den,U.plain]⟩
 | .aH x,_,h=>⟨_,h,by simp only [den,sy]⟩
 | .b _,_,h| .loc _ _,_,h| .ms _ _ _,_,h| .mp _,_,h| .hj _ _ _ _,_,h| .bT _ _ _ _,_,h| .fn _ _ _,_,h=>⟨_,h,by simp only [den,U.plain]⟩
 | .agg _,_,h| .dw _,_,h| .off,_,h=>h.elim
def q5:List aR→(List aR→Prop)→Prop
 |[],k=>k []
 |v::r,k=>u6 v (fun iw=>q5 r (fun et=>k (iw::et)))
theorem sA (bs:List Nat):∀{l:List aR} {k:List aR→Prop},q5 l k→∃u,k u∧bm bs u=U.eU (bm bs l)
 |[],_,h=>⟨_,h,by simp only [bm,U.eU]⟩
 |v::r,k,h=>by
  obtain ⟨iw,J,aM⟩:=mY bs h
  obtain ⟨et,aa,aC⟩:=sA bs J
  exact ⟨_,aa,by simp only [bm,U.eU,aM,aC]⟩
def p6:aR→(aR→Prop)→Prop
 | .agg l,k=>q5 l (fun bC=>k (.agg bC))
 | .off,k=>k .off
 | .dw l,k=>k (.dw l)
 |v,k=>u6 v k
def pg:aR→Bool
 | .dw _=>false
 |_=>true
theorem sB (bs:List Nat) {v:aR} {k:aR→Prop} (aI:pg v=true) (h:p6 v k):∃u,k u∧den bs u=(den bs v).plain:=by
 cases v with
 |agg l=>
  obtain ⟨u,J,e⟩:=sA bs h
  exact ⟨_,J,by simp only [den,U.plain,e]⟩
 |off=>exact ⟨_,h,by simp only [den,U.plain]⟩
 |dw l=>simp [pg] at aI
 |aH x=>exact mY bs h
 |own l=>exact mY bs h
 |b l=>exact mY bs h
 |loc i o=>exact mY bs h
 |ms i n c=>exact mY bs h
 |mp i=>exact mY bs h
 |hj i a w j=>exact mY bs h
 |bT i a w j=>exact mY bs h
 |fn f a c=>exact mY bs h
def mZ:U→(U→Prop)→Prop
 | .bool b,k=>k (.bool b)
 | .int dk n,k=>k (.int dk n)
 | .str s,k=>k (.str s)
 | .ptr a,k=>k (.ptr a)
 | .eM,k=>k .eM
 | .ref l,k=>k (.ref l)
 | .slice false l,k=>k (.slice false l)
 | .ms a n c,k=>k (.ms a n c)
 | .map b,k=>k (.map b)
 | .iW,k=>k .iW
 | .func f a c,k=>k (.func f a c)
 | .jF,k=>k .jF
 | .fL,k=>k .fL
 | .iface t v,k=>k (.iface t v)
 | .nilIface,k=>k .nilIface
 | .err t e,k=>k (.err t e)
 | .opt b,k=>k (.opt b)
 |_,_=>False
theorem oB {x:U} {k:U→Prop} (h:mZ x k):x.plain=x∧k x:=by
 cases x with
 |slice o l=>cases o with
  |true=>exact h.elim
  |false=>exact ⟨by simp only [U.plain],h⟩
 |agg l=>exact h.elim
 |tuple l=>exact h.elim
 |lazy g x=>exact h.elim
 |aS=>exact h.elim
 |_=>exact ⟨by simp only [U.plain],h⟩
def xb:List U→(List U→Prop)→Prop
 |[],k=>k []
 |x::r,k=>mZ x (fun bX=>xb r (fun et=>k (bX::et)))
theorem Aj:∀{l:List U} {k:List U→Prop},xb l k→U.eU l=l∧k l
 |[],_,h=>⟨by simp only [U.eU],h⟩
 |x::r,k,h=>by
  obtain ⟨aM,J⟩:=oB h
  obtain ⟨aC,aa⟩:=Aj J
  exact ⟨by simp only [U.eU,aM,aC],aa⟩
def sC:U→(U→Prop)→Prop
 | .agg l,k=>xb l (fun bC=>k (.agg bC))
 |x,k=>mZ x k
theorem xc {x:U} {k:U→Prop} (h:sC x k):x.plain=x∧k x:=by
 cases x with
 |agg l=>
  obtain ⟨e,J⟩:=Aj h
  exact ⟨by simp only [U.plain,e],J⟩
 |_=>exact oB h
def Ak:U→(List U→Prop)→Prop
 | .agg l,k=>fP l k
 |x,k=>mZ x (fun bX=>k [bX])
theorem Nc {x:U} {k:List U→Prop} (h:Ak x k):k x.cells:=by
 cases x with
 |agg l=>rw [Ak,gJ] at h;exact h
 |slice o l=>exact (oB (x:= .slice o l) (k:=fun bX=>k [bX]) h).2
 |_=>first|exact (oB (k:=fun bX=>k [bX]) h).2|exact h|exact h.elim
def p7:U→aR
 | .bool b=> .b (.raw b)
 |x=> .aH x
theorem p8 (bs:List Nat) (x:U):den bs (p7 x)=x.plain:=by
 cases x<;>simp only [p7,den,bD.val,U.plain]
def u7:U→(aR→Prop)→Prop
 | .bool b,k=>k (.b (.raw b))
 |x,k=>k (.aH x)
theorem xd (x:U) (k:aR→Prop):u7 x k=k (p7 x):=by
 cases x<;>rfl
def u9:Value→(aR→Prop)→Prop
 | .bool b,k=>k (.b (.lit b))
 | .int dk n,k=>k (.aH (.int dk n))
 | .string s,k=>fP s.data.toList (fun l=>k (.aH (.str l)))
 | .pointer none,k=>k (.aH .eM)
 | .slice none _ _,k=>k (.own [])
 | .map none,k=>k (.aH .iW)
 | .nilFunc,k=>k (.aH .jF)
 | .nilIface,k=>k (.aH .nilIface)
 |_,_=>False
theorem EN (bs:List Nat) {v:Value} {k:aR→Prop} (h:u9 v k):∃u,k u∧den bs u=iu v:=by
 unfold u9 at h
 split at h
 all_goals first|exact h.elim|exact ⟨_,h,by simp only [den,bD.val,iu,U.plain]⟩|skip
 rw [gJ] at h
 exact ⟨_,h,by simp only [den,iu,U.plain]⟩
def Al:List Value→(List aR→Prop)→Prop
 |[],k=>k []
 |v::r,k=>u9 v (fun iw=>Al r (fun et=>k (iw::et)))
theorem EO (bs:List Nat):∀{l:List Value} {k:List aR→Prop},Al l k→∃u,k u∧bm bs u=l.map iu
 |[],_,h=>⟨_,h,by simp only [bm,List.map_nil]⟩
 |v::r,k,h=>by
  obtain ⟨iw,J,aM⟩:=EN bs h
  obtain ⟨et,aa,aC⟩:=EO bs J
  exact ⟨_,aa,by simp only [bm,List.map_cons,aM,aC]⟩
def xe:Value→(aR→Prop)→Prop
 | .agg cs,k=>Al cs.toList (fun l=>k (.agg l))
 | .iface t (.int dk n),k=>k (.aH (.iface t (.int dk n)))
 |v,k=>u9 v k
theorem EP (bs:List Nat) {v:Value} {k:aR→Prop} (h:xe v k):∃u,k u∧den bs u=jI v:=by
 unfold xe at h
 split at h
 · obtain ⟨u,J,e⟩:=EO bs h
   exact ⟨_,J,by simp only [den,jI,e]⟩
 · exact ⟨_,h,by simp only [den,jI,iu,U.plain]⟩
 · obtain ⟨u,J,e⟩:=EN bs h
   refine ⟨u,J,e.trans ?_⟩
   rename_i bn ad
   cases v<;>first|rfl|(simp only [u9] at h)
def eD (fr:bJ):Operand→(aR→Prop)→Prop
 | .tmp t,k=>jP fr t (fun v=>b5 (pg v) (p6 v k))
 | .const v,k=>xe v k
 | .global g,k=>k (.aH (.ptr ⟨g,0,none⟩))
 | .func f,k=>k (.fn f [] [])
theorem e0 (bs:List Nat) {fr:bJ} {x:Operand} {k:aR→Prop} (h:eD fr x k):∃v,k v∧den bs v=b4 (bd (bb bs fr)) x:=by
 cases x with
 |tmp t=>
  rw [eD,k7,dN] at h
  obtain ⟨v,J,e⟩:=sB bs h.1 h.2
  exact ⟨v,J,by rw [e,b4,ko]⟩
 |const v=>
  obtain ⟨u,J,e⟩:=EP bs h
  exact ⟨u,J,e⟩
 |global g=>exact ⟨_,h,by simp only [den,U.plain,b4]⟩
 |func f=>exact ⟨_,h,by simp only [den,bm,b4]⟩
def xf (fr:bJ):Operand→(aR→Prop)→Prop
 | .tmp t,k=>jP fr t k
 | .const v,k=>xe v k
 | .global g,k=>k (.aH (.ptr ⟨g,0,none⟩))
 | .func f,k=>k (.fn f [] [])
def p9 (fr:bJ):List Operand→(List aR→Prop)→Prop
 |[],k=>k []
 |x::r,k=>eD fr x (fun v=>p9 fr r (fun et=>k (v::et)))
theorem q6 (bs:List Nat) {fr:bJ}:∀{l:List Operand} {k:List aR→Prop},p9 fr l k→∃u,k u∧bm bs u=l.map (b4 (bd (bb bs fr)))
 |[],_,h=>⟨_,h,by simp only [bm,List.map_nil]⟩
 |x::r,k,h=>by
  obtain ⟨v,J,aM⟩:=e0 bs h
  obtain ⟨et,aa,aC⟩:=q6 bs J
  exact ⟨_,aa,by simp only [bm,List.map_cons,aM,aC]⟩
inductive bu where
 |cells (l:List aR)
 |obj (o:fB)
def dV (bs:List Nat):bu→fB
 | .cells l=> .cells (bm bs l)
 | .obj o=>o
def hk (bs:List Nat) (L:List bu):List (Nat×fB):=bs.zip (L.map (dV bs))
def bH (bs:List Nat) (L:List bu) (m:ae):ae:=m.bf (hk bs L)
structure Good (bs:List Nat) (L:List bu) (m:ae):Prop where
 bN:bs.Nodup
 len:bs.length=L.length
 fresh:∀b∈bs,m b=none
theorem na {bs:List Nat} {L:List bu} (h:bs.length=L.length):(hk bs L).map Prod.fst=bs:=by
 rw [hk,List.map_fst_zip]
 simp [h]
theorem Good.nodup {bs:List Nat} {L:List bu} {m:ae} (g:Good bs L m):((hk bs L).map Prod.fst).Nodup:=by rw [na g.len];exact g.bN
theorem Am {bs:List Nat} {L:List bu} {i:Nat} {o:bu} (h:bs.length=L.length) (aL:L[i]?=some o):(hk bs L)[i]?=some (bs.getD i 0,dV bs o):=by
 have ad:i<L.length:=by
  rcases Nat.lt_or_ge i L.length with cp|cp
  · exact cp
  · rw [List.getElem?_eq_none cp] at aL;cases aL
 have ag:bs[i]?=some (bs.getD i 0):=by
  rw [List.getD_eq_getElem?_getD,List.getElem?_eq_getElem (by omega)];rfl
 simp only [hk,List.zip,List.getElem?_zipWith,ag,List.getElem?_map,aL,Option.map_some]
theorem kp {bs:List Nat} {L:List bu} {m:ae} (g:Good bs L m) {i:Nat} {o:bu} (aL:L[i]?=some o):bH bs L m (bs.getD i 0)=some (dV bs o):=
 p3 i g.nodup (Am g.len aL)
theorem ER {bs:List Nat} {L:List bu} {i:Nat} {o:bu}:(hk bs L).set i (bs.getD i 0,dV bs o)=hk bs (L.set i o)∨bs.length≤i:=by
 rcases Nat.lt_or_ge i bs.length with h|h
 · left
   have ag:bs=bs.set i (bs.getD i 0):=by
    rw [List.getD_eq_getElem?_getD,List.getElem?_eq_getElem h];simp
   simp only [hk,List.map_set]
   conv=>rhs;rw [ag,←ag]
   apply List.ext_getElem?
   intro j
   simp only [List.zip,List.getElem?_set,List.getElem?_zipWith,List.length_zipWith,List.length_map]
   by_cases aA:i=j
   · subst aA
     rw [List.getD_eq_getElem?_getD,List.getElem?_eq_getElem h]
     by_cases av:i<L.length
     · have:i<min bs.length L.length:=by omega
       simp [av,this]
     · have:¬i<min bs.length L.length:=by omega
       simp [av,this]
   · simp [aA]
 · exact .inr h
theorem mem_set {bs:List Nat} {L:List bu} {m:ae} (g:Good bs L m) {i:Nat} {o ei:bu} (aL:L[i]?=some o):(bH bs L m).cQ (bs.getD i 0) (some (dV bs ei))=bH bs (L.set i ei) m:=by
 rw [bH,Et i g.nodup (Am g.len aL)]
 rcases ER (bs:=bs) (L:=L) (i:=i) (o:=ei) with h|h
 · rw [h];rfl
 · have qQ:=g.len
   have:i<L.length:=by
    rcases Nat.lt_or_ge i L.length with cp|cp
    · exact cp
    · rw [List.getElem?_eq_none cp] at aL;cases aL
   omega
theorem Good.set {bs:List Nat} {L:List bu} {m:ae} (g:Good bs L m) (i:Nat) (o:bu):Good bs (L.set i o) m:=⟨g.bN,by rw [List.length_set];exact g.len,g.fresh⟩
def va (n:Nat):aR→Bool
 | .loc i _| .ms i _ _| .mp i| .hj i _ _ _| .bT i _ _ _=>Nat.ble (i+1) n
 | .agg _| .dw _| .fn _ _ _=>false
 |_=>true
def nb (n:Nat):List aR→Bool
 |[]=>true
 |v::r=>bif va n v then nb n r else false
def xg (n:Nat):aR→Bool
 | .agg l| .dw l=>nb n l
 | .fn _ a c=>bif nb n a then nb n c else false
 |v=>va n v
def nc (n:Nat):bJ→Bool
 |[]=>true
 |(_,v)::r=>bif xg n v then nc n r else false
def xh (n:Nat):bu→Bool
 | .cells l=>nb n l
 | .obj _=>true
def kP (n:Nat):List bu→Bool
 |[]=>true
 |o::r=>bif xh n o then kP n r else false
theorem vb {bs x:List Nat} {i:Nat} (h:Nat.ble (i+1) bs.length=true):(bs++x).getD i 0=bs.getD i 0:=by
 have cp:i<bs.length:=Nat.le_of_ble_eq_true h
 rw [List.getD_eq_getElem?_getD,List.getD_eq_getElem?_getD,List.getElem?_append_left cp]
theorem ES {bs x:List Nat} {v:aR} (h:va bs.length v=true):den (bs++x) v=den bs v:=by
 cases v with
 |loc i o=>simp only [den,vb (x:=x) h]
 |ms i n c=>simp only [den,vb (x:=x) h]
 |mp i=>simp only [den,vb (x:=x) h]
 |hj i k w j=>simp only [den,vb (x:=x) h]
 |bT i o n c=>simp only [den,vb (x:=x) h]
 |agg l=>cases h
 |dw l=>cases h
 |fn f a c=>cases h
 |_=>simp only [den]
theorem q7 {bs x:List Nat}:∀{l:List aR},nb bs.length l=true→bm (bs++x) l=bm bs l
 |[],_=>by simp only [bm]
 |v::r,h=>by
  simp only [nb] at h
  cases bn:va bs.length v with
  |false=>rw [bn] at h;cases h
  |true=>rw [bn] at h;simp only [bm,ES bn,q7 (l:=r) h]
theorem Nd {bs x:List Nat} {v:aR} (h:xg bs.length v=true):den (bs++x) v=den bs v:=by
 cases v with
 |agg l=>simp only [den,q7 (x:=x) (l:=l) h]
 |dw l=>simp only [den,q7 (x:=x) (l:=l) h]
 |fn f a c=>
  simp only [xg] at h
  cases aX:nb bs.length a with
  |false=>rw [aX] at h;cases h
  |true=>rw [aX] at h;simp only [den,q7 (x:=x) aX,q7 (x:=x) (l:=c) h]
 |_=>exact ES h
theorem vc {bs x:List Nat}:∀{fr:bJ},nc bs.length fr=true→bb (bs++x) fr=bb bs fr
 |[],_=>rfl
 |(t,v)::r,h=>by
  simp only [nc] at h
  cases bn:xg bs.length v with
  |false=>rw [bn] at h;cases h
  |true=>rw [bn] at h;simp only [bb,Nd bn,vc (fr:=r) h]
theorem An {bs x:List Nat}:∀{L:List bu},kP bs.length L=true→L.map (dV (bs++x))=L.map (dV bs)
 |[],_=>rfl
 |o::r,h=>by
  simp only [kP] at h
  cases bn:xh bs.length o with
  |false=>rw [bn] at h;cases h
  |true=>
   rw [bn] at h
   simp only [List.map_cons,An (L:=r) h]
   cases o with
   |cells l=>simp only [dV,q7 (x:=x) (l:=l) bn]
   |obj o=>simp only [dV]
theorem Ao {bs:List Nat} {L:List bu} {m:ae} (g:Good bs L m) (al:kP bs.length L=true) {b:Nat} (ag:bH bs L m b=none) (o:bu):
 Good (bs++[b]) (L++[o]) m∧bH (bs++[b]) (L++[o]) m=(bH bs L m).cQ b (some (dV (bs++[b]) o)):=by
 have aN:=My ag
 rw [na g.len] at aN
 have wR:Good (bs++[b]) (L++[o]) m:=by
  refine ⟨?_,by simp [g.len],?_⟩
  · rw [List.nodup_append]
    exact ⟨g.bN,by simp,fun a aX c ar=>by simp at ar;subst ar;exact fun e=>aN.1 (e▸aX)⟩
  · intro c ar
    rcases List.mem_append.1 ar with h|h
    · exact g.fresh c h
    · simp at h;subst h;exact aN.2
 refine ⟨wR,?_⟩
 have e:hk (bs++[b]) (L++[o])=hk bs L++[(b,dV (bs++[b]) o)]:=by
  simp only [hk,List.map_append,List.map_cons,List.map_nil,An (x:=[b]) al]
  rw [List.zip_append (by simp [g.len])]
  rfl
 have aU:(hk (bs++[b]) (L++[o])).Perm ((b,dV (bs++[b]) o)::hk bs L):=by
  rw [e];exact List.perm_append_comm
 rw [bH,zY wR.nodup aU]
 rfl
end Go.bV
end
