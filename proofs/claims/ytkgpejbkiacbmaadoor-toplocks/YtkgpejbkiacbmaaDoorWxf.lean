/-
  The abstract layer, part 20: a region whose order is open but for its end: what only reads in any order; then, in the text's order, what makes and writes.
-/
import Derived.Test.YtkgpejbkiacbmaaDoorWwS
import Derived.ProofKit
import Derived.SizedLaws
import Derived.MapKept
import Derived.WideMake
section
namespace Go.Aw
open Go
section
variable {P : Program} {n : Nat} {fr : Fr} {m : AMem}
def edges (ops : Array Oper) (i : Nat) : List Nat :=
  match ops[i]? with
  | some o => (o.after.toList.filter (Region.binds .any)).map (·.on)
  | none => []
def closure (ops : Array Oper) : Nat → List Nat → List Nat
  | 0, S => S
  | j + 1, S => closure ops j (if S.contains j then edges ops j ++ S else S)
theorem closure_listed {ops : Array Oper} {p : Nat → Prop} (hp : ∀ j, p j → ∀ e ∈ edges ops j, p e) : ∀ (k : Nat) (S : List Nat), (∀ j ∈ S, p j) → ∀ j ∈ closure ops k S, p j := by
  intro k
  induction k with
  | zero => intro S h; exact h
  | succ k ih =>
    intro S h
    simp only [closure]
    refine ih _ ?_
    split
    · next hc =>
      intro j hj
      rcases List.mem_append.1 hj with hj | hj
      · exact hp k (h k (by simpa using hc)) j hj
      · exact h j hj
    · exact h
theorem edges_mem {ops : Array Oper} {i j : Nat} {o : Oper} (ho : ops[i]? = some o) : j ∈ edges ops i ↔ ∃ e ∈ o.after, Region.binds .any e = true ∧ e.on = j := by
  simp [edges, ho, and_assoc]
def drawTail (ops : Array Oper) (p : Nat) (al : List (Nat × Nat)) : Bool :=
  decide (p ≤ ops.size) &&
  ((List.range ops.size).all fun i => (edges ops i).all fun e => decide (e < i)) &&
  ((List.range ops.size).all fun i => decide (i < p) || (List.range i).all fun j => (closure ops i (edges ops i)).contains j) &&
  ((List.range p).all fun i =>
    match ops[i]? with
    | some o =>
      o.dst.isSome &&
      (List.range p).all fun j =>
        match ops[j]? with
        | some q =>
          (decide (i = j) || !(o.dst == q.dst)) &&
          (match q.dst with
          | some d => !((slotsOf ops o).contains d) || (if j < i then edgeTo o j else if i < j then edgeTo q i else true)
          | none => true)
        | none => true
    | none => true) &&
  al.all fun (d, s) =>
    (List.range p).any (fun j => match ops[j]? with | some o => o.dst == some d && o.guard.isNone && (match o.op with | .move (.tmp t) => t == s | _ => false) | none => false) &&
    (List.range p).all fun j => match ops[j]? with | some o => !(o.dst == some s) | none => true
structure TailFacts (ops : Array Oper) (p : Nat) : Prop where
  le : p ≤ ops.size
  back : ∀ (i : Nat) (o : Oper) (e : Edge), ops[i]? = some o → e ∈ o.after → Region.binds .any e = true → e.on < i
  tail : ∀ (i : Nat), p ≤ i → i < ops.size → ∀ j, j < i → j ∈ closure ops i (edges ops i)
  dst : ∀ (i : Nat) (o : Oper), i < p → ops[i]? = some o → ∃ d, o.dst = some d
  apart : ∀ (i j : Nat) (o q : Oper), i < p → j < p → ops[i]? = some o → ops[j]? = some q → o.dst = q.dst → i = j
  looks : ∀ (i j : Nat) (o q : Oper) (d : Nat), i < p → j < p → ops[i]? = some o → ops[j]? = some q → q.dst = some d → d ∈ slotsOf ops o → (j < i → ∃ e ∈ o.after, e.on = j ∧ Region.binds .any e = true) ∧ (i < j → ∃ e ∈ q.after, e.on = i ∧ Region.binds .any e = true)
theorem tailFacts {ops : Array Oper} {p : Nat} {al : List (Nat × Nat)} (h : drawTail ops p al = true) : TailFacts ops p := by
  unfold drawTail at h
  rw [Bool.and_eq_true, Bool.and_eq_true, Bool.and_eq_true, Bool.and_eq_true] at h
  obtain ⟨⟨⟨⟨h1, h2⟩, h3⟩, h4⟩, _⟩ := h
  have hlt : ∀ {i : Nat} {o : Oper}, ops[i]? = some o → i < ops.size := fun hi => (Array.getElem?_eq_some_iff.1 hi).1
  simp only [List.all_eq_true, List.mem_range, decide_eq_true_eq, Bool.or_eq_true] at h1 h2 h3 h4
  refine ⟨h1, fun i o e hi he hb => ?_, fun i hp hi j hj => ?_, fun i o hp hi => ?_, fun i j o q hip hjp hi hj hd => ?_, fun i j o q d hip hjp hi hj hq hd => ?_⟩
  · exact h2 i (hlt hi) e.on ((edges_mem hi).2 ⟨e, he, hb, rfl⟩)
  · rcases h3 i hi with h | h
    · omega
    · have := h j hj
      simpa using this
  · have := h4 i hp
    simp only [hi, Bool.and_eq_true] at this
    exact Option.isSome_iff_exists.1 this.1
  · have := h4 i hip
    simp only [hi, Bool.and_eq_true, List.all_eq_true, List.mem_range] at this
    have := this.2 j hjp
    simp only [hj, Bool.and_eq_true, Bool.or_eq_true, decide_eq_true_eq] at this
    rcases this.1 with h | h
    · exact h
    · rw [hd] at h; simp at h
  · have := h4 i hip
    simp only [hi, Bool.and_eq_true, List.all_eq_true, List.mem_range] at this
    have := this.2 j hjp
    simp only [hj, hq, Bool.and_eq_true, Bool.or_eq_true] at this
    have := this.2
    have hc : (slotsOf ops o).contains d = true := by simpa using hd
    rw [hc] at this
    simp only [Bool.not_true, Bool.false_eq_true, false_or] at this
    refine ⟨fun hji => ?_, fun hij => ?_⟩
    · rw [if_pos hji] at this; exact edgeTo_iff this
    · rw [if_neg (by omega), if_pos hij] at this; exact edgeTo_iff this
theorem text_frames' {ops : Array Oper} {p : Nat} (D : TailFacts ops p) {T : Nat → Fr} {val : Nat → AV} (h0 : T 0 = fr) (hs : ∀ (i : Nat) (o : Oper), i < p → ops[i]? = some o → T (i + 1) = putO (T i) o.dst (val i)) :
    ∀ i, i ≤ p → ∀ t, (∀ (j : Nat) (o : Oper), j < i → ops[j]? = some o → o.dst = some t → rawOf (T i) t = val j) ∧ ((∀ (j : Nat) (o : Oper), j < i → ops[j]? = some o → o.dst ≠ some t) → rawOf (T i) t = rawOf fr t) := by
  intro i
  induction i with
  | zero => intro _ t; exact ⟨fun j o hj => absurd hj (Nat.not_lt_zero _), fun _ => by rw [h0]⟩
  | succ i ih =>
    intro hi t
    have hip : i < p := hi
    have hlt : i < ops.size := Nat.lt_of_lt_of_le hip D.le
    obtain ⟨ih1, ih2⟩ := ih (by omega) t
    have ho : ops[i]? = some ops[i] := Array.getElem?_eq_getElem hlt
    obtain ⟨d, hd⟩ := D.dst i _ hip ho
    have hT := hs i _ hip ho
    rw [hd] at hT
    simp only [putO] at hT
    rw [hT, rawOf_put]
    refine ⟨fun j o hj hjo hdt => ?_, fun hno => ?_⟩
    · by_cases e : d = t
      · subst e
        have : j = i := D.apart j i o _ (by omega) hip hjo ho (by rw [hdt, hd])
        subst this
        simp
      · rw [if_neg e]
        refine ih1 j o ?_ hjo hdt
        rcases Nat.lt_succ_iff_lt_or_eq.1 hj with h | h
        · exact h
        · subst h
          rw [ho] at hjo
          cases hjo
          rw [hd] at hdt
          exact (e (by simpa using hdt)).elim
    · have e : ¬ d = t := fun e => hno i _ (Nat.lt_succ_self i) ho (by rw [hd, e])
      rw [if_neg e]
      exact ih2 fun j o hj hjo => hno j o (by omega) hjo
theorem tail_wp {ops : Array Oper} {p : Nat} (D : TailFacts ops p) {Q : Exit → Act → World → Prop} : ∀ (fuel k : Nat) (listed : Array Bool) (ca : Act) (w : World), p ≤ k → k ≤ ops.size → ops.size - k ≤ fuel → listed.size = ops.size →
    (∀ j, j < ops.size → (listed.getD j false = true ↔ j < k)) → wpList P ops Q (ops.toList.drop k) ca w → wpAny P .any ops Q fuel listed ca w := by
  intro fuel
  have rdy : ∀ (k : Nat) (listed : Array Bool), k < ops.size → listed.size = ops.size → (∀ j, j < ops.size → (listed.getD j false = true ↔ j < k)) → k ∈ Region.ready .any ops listed := fun k listed hk hls hl => by
    rw [mem_ready]
    have ho : ops[k]? = some ops[k] := Array.getElem?_eq_getElem hk
    refine ⟨?_, _, ho, fun e he hb => ?_⟩
    · have : listed.getD k false ≠ true := fun h => absurd ((hl k hk).1 h) (Nat.lt_irrefl _)
      simp only [Array.getD_eq_getD_getElem?, Array.getElem?_eq_getElem (show k < listed.size by omega), Option.getD_some] at this ⊢
      simpa using this
    · have := D.back k _ e ho he hb
      exact (hl e.on (by omega)).2 this
  have nil : ∀ (k : Nat) (listed : Array Bool) (ca : Act) (w : World), k ≤ ops.size → listed.size = ops.size → (∀ j, j < ops.size → (listed.getD j false = true ↔ j < k)) → wpList P ops Q (ops.toList.drop k) ca w → Region.ready .any ops listed = [] → Q .normal ca w := fun k listed ca w hk hls hl h hr => by
    by_cases e : k = ops.size
    · subst e
      rw [List.drop_of_length_le (by simp)] at h
      exact h
    · have := rdy k listed (by omega) hls hl
      rw [hr] at this; cases this
  induction fuel with
  | zero =>
    intro k listed ca w hpk hk hf hls hl h
    have e : k = ops.size := by omega
    have hr : Region.ready .any ops listed = [] := by
      cases hr : Region.ready .any ops listed with
      | nil => rfl
      | cons j rs =>
        have hj : j ∈ Region.ready .any ops listed := by rw [hr]; simp
        rw [mem_ready] at hj
        obtain ⟨h1, o, ho, _⟩ := hj
        have hjs : j < ops.size := (Array.getElem?_eq_some_iff.1 ho).1
        have := (hl j hjs).2 (by omega)
        simp only [Array.getD_eq_getD_getElem?, Array.getElem?_eq_getElem (show j < listed.size by omega), Option.getD_some] at h1 this
        rw [h1] at this; cases this
    exact ⟨hr, nil k listed ca w hk hls hl h hr⟩
  | succ fuel ih =>
    intro k listed ca w hpk hk hf hls hl h
    refine ⟨nil k listed ca w hk hls hl h, fun i hi => ?_⟩
    have hi' := hi
    rw [mem_ready] at hi'
    obtain ⟨hnl, o, ho, hedge⟩ := hi'
    have hio : i < ops.size := (Array.getElem?_eq_some_iff.1 ho).1
    have hki : k ≤ i := by
      rcases Nat.lt_or_ge i k with hlt | hge
      · have := (hl i hio).2 hlt
        simp only [Array.getD_eq_getD_getElem?, Array.getElem?_eq_getElem (show i < listed.size by omega), Option.getD_some] at hnl this
        rw [hnl] at this; cases this
      · exact hge
    have hik : i = k := by
      rcases Nat.lt_or_ge k i with hlt | hge
      · have hall := closure_listed (ops := ops) (p := fun j => j < k) (fun j hj e he => by
          have hjs : j < ops.size := by omega
          have hjo : ops[j]? = some ops[j] := Array.getElem?_eq_getElem hjs
          obtain ⟨ed, h1, h2, rfl⟩ := (edges_mem hjo).1 he
          have := D.back j _ ed hjo h1 h2
          omega) i (edges ops i) (fun j hj => by
          obtain ⟨ed, h1, h2, rfl⟩ := (edges_mem ho).1 hj
          have h3 := hedge ed h1 h2
          have := D.back i _ ed ho h1 h2
          exact (hl ed.on (by omega)).1 h3)
        have := hall k (D.tail i (by omega) hio k hlt)
        omega
      · omega
    subst hik
    have hdrop : ops.toList.drop i = o :: ops.toList.drop (i + 1) := by
      have : i < ops.toList.length := by simpa using hio
      rw [List.drop_eq_getElem_cons this]
      congr 1
      rw [Array.getElem?_eq_getElem hio] at ho
      simpa using ho
    rw [hdrop] at h
    have key : ∀ a w, wpList P ops Q (ops.toList.drop (i + 1)) a w → wpAny P .any ops Q fuel (listed.setIfInBounds i true) a w := fun a w h => ih (i + 1) _ a w (by omega) (by omega) (by omega) (by simp [hls]) (fun j hj => by
      by_cases e : i = j
      · subst e; simp [hls, hj]
      · rw [getD_set_ne false e, hl j hj]; omega) h
    show wpOp P ops _ i _ ca w
    unfold wpOp
    rw [ho]
    unfold wpList at h
    show if Region.wanted o (yielded ops ca.tmps) then _ else _
    split at h
    · next hw =>
      rw [if_pos hw]
      rcases h with h | h
      · exact .inl (Oper.wp_mono key h)
      · exact .inr h
    · next hw =>
      rw [if_neg hw]
      exact key _ _ h
def Fr.alias (fr : Fr) : List (Nat × Nat) → Fr
  | [] => fr
  | (d, s) :: r => Fr.alias ((fr.put s (rawOf fr s).plain).put d (rawOf fr s)) r
theorem St.alias {F : Nat → Prop} {lim : Nat → Nat} {w : World} {ca : Act} : ∀ (al : List (Nat × Nat)) {fr : Fr}, St F lim w n fr m ca [] → (∀ x ∈ al, x.1 < n ∧ x.2 < n ∧ ca.tmps.getD x.1 undef = ca.tmps.getD x.2 undef) → St F lim w n (fr.alias al) m ca [] := by
  intro al
  induction al with
  | nil => intro fr h _; exact h
  | cons a al ih =>
    obtain ⟨d, s⟩ := a
    intro fr h hal
    obtain ⟨h1, h2, h3⟩ := hal (d, s) (by simp)
    simp only at h1 h2 h3
    refine ih ?_ fun x hx => hal x (by simp [hx])
    obtain ⟨os, k1, k2⟩ := h.takeRaw s h2
    have k3 := k1.setOwn h1 k2
    have hsz : ca.tmps.size = n := by obtain ⟨_, _, _, h⟩ := h; exact h.size
    have e : ca.put (some d) (ca.tmps.getD s undef) = ca := by
      rw [← h3]
      obtain ⟨tmps, defers⟩ := ca
      have e' : tmps.setIfInBounds d (tmps.getD d undef) = tmps := by
        apply Array.ext (by simp)
        intro i hi hi'
        by_cases e : d = i
        · subst e; simp [Array.getD, hi']
        · rw [Array.getElem_setIfInBounds_ne hi' e]
      simp only [Act.put, e']
    rw [e, strip_one] at k3
    exact k3
end
end Go.Aw
end
section
namespace Go.Aw
open Go
section
variable {P : Program} {n : Nat} {fr : Fr} {m : AMem}
theorem alias_facts {ops : Array Oper} {p : Nat} {al : List (Nat × Nat)} (h : drawTail ops p al = true) : ∀ x ∈ al, (∃ j o, j < p ∧ ops[j]? = some o ∧ o.dst = some x.1 ∧ o.guard = none ∧ o.op = .move (.tmp x.2)) ∧ ∀ j o, j < p → ops[j]? = some o → o.dst ≠ some x.2 := by
  unfold drawTail at h
  rw [Bool.and_eq_true] at h
  obtain ⟨_, h⟩ := h
  intro ⟨d, s⟩ hx
  have := List.all_eq_true.1 h _ hx
  simp only [Bool.and_eq_true, List.any_eq_true, List.all_eq_true, List.mem_range] at this
  obtain ⟨⟨j, hj, h1⟩, h2⟩ := this
  refine ⟨?_, fun j o hj ho => ?_⟩
  · split at h1
    · next o ho =>
      simp only [Bool.and_eq_true, beq_iff_eq, Option.isNone_iff_eq_none] at h1
      obtain ⟨⟨h3, h4⟩, h5⟩ := h1
      split at h5
      · next t hop =>
        simp only [beq_iff_eq] at h5
        subst h5
        exact ⟨j, o, hj, ho, h3, h4, hop⟩
      · cases h5
    · cases h1
  · have := h2 j hj
    simp only [ho] at this
    simpa using this
theorem getD_put (ca : Act) (d t : Nat) (v : Value) (hd : d < ca.tmps.size) : (ca.put (some d) v).tmps.getD t undef = if d = t then v else ca.tmps.getD t undef := by
  simp only [Act.put, Array.getD_eq_getD_getElem?, Array.getElem?_setIfInBounds]
  split
  · next e => subst e; simp [hd]
  · rfl
set_option maxHeartbeats 1000000 in
theorem awp_draw_tail0 {id : Nat} {ops : Array Oper} {Q : Exit → Fr → AMem → Prop} (hm : P.follows .mixedOrders = true) (p : Nat) (al : List (Nat × Nat)) (cs : List AV) (ks : List Nat) (hk : okAll n ops ks = true) (hd : drawTail ops p al = true)
    (h : pseq P ops m cs (ops.toList.take p) fr (fun fr' => AOps P n ops (ops.toList.drop p) (fun fr m => Q .normal (fr.keep ks) m) (fr'.alias al) m)) : AWP P n (.region id ops true) Q fr m := by
  intro F lim w ca st
  have D := tailFacts hd
  have A := alias_facts hd
  simp only [okAll, Bool.and_eq_true, List.all_eq_true] at hk
  obtain ⟨T, c, val, hT0, hTK, hTs⟩ := pseq_trace _ _ _ _ h
  have hlen : (ops.toList.take p).length = p := by simp [D.le]
  rw [hlen] at hTK
  replace hTs : ∀ i o, i < p → ops[i]? = some o → (∃ side, pv P ops m (c i) (rawOf (T i)) o = some (side, val i) ∧ side) ∧ T (i + 1) = putO (T i) o.dst (val i) := fun i o hi ho => hTs i o (by rw [List.getElem?_take_of_lt hi]; simpa using ho)
  have hTf := text_frames' D hT0 (fun i o hi ho => (hTs i o hi ho).2)
  have hlt : ∀ {i : Nat} {o : Oper}, ops[i]? = some o → i < ops.size := fun hi => (Array.getElem?_eq_some_iff.1 hi).1
  have hok : ∀ {i : Nat} {o : Oper}, ops[i]? = some o → okOper n o = true ∧ tmpsOk n o = true := fun ho => hk.1 _ (by rw [Array.mem_toList_iff]; exact Array.mem_of_getElem? ho)
  have hTn : ∀ i, i ≤ p → ∀ t x, (T i).get t = some x → t < n := by
    intro i
    induction i with
    | zero =>
      intro _ t x hx
      rw [hT0] at hx
      obtain ⟨_, _, _, st⟩ := st
      exact (st.slots t x hx).1
    | succ i ih =>
      intro hi t x hx
      have his : i < ops.size := Nat.lt_of_lt_of_le hi D.le
      have ho : ops[i]? = some ops[i] := Array.getElem?_eq_getElem his
      obtain ⟨d, hod⟩ := D.dst i _ hi ho
      rw [(hTs i _ hi ho).2, hod] at hx
      simp only [putO, Fr.get_put] at hx
      split at hx
      · next e => subst e; exact okOper_dst (hok ho).1 hod
      · exact ih (by omega) t x hx
  refine wp_region_any hm ?_
  have key : ∀ fuel (listed : Array Bool) fr' lim' w' ca', listed.size = ops.size → (∀ j, listed.getD j false = true → j < p) →
      (∀ t, (∀ (j : Nat) (o : Oper), ops[j]? = some o → listed.getD j false = true → o.dst = some t → rawOf fr' t = val j) ∧ ((∀ (j : Nat) (o : Oper), ops[j]? = some o → listed.getD j false = true → o.dst ≠ some t) → rawOf fr' t = rawOf fr t)) →
      (∀ (j : Nat) (o : Oper) (e : Edge), ops[j]? = some o → listed.getD j false = true → e ∈ o.after → Region.binds .any e = true → listed.getD e.on false = true) →
      (∀ t, (∀ j o, j < p → ops[j]? = some o → o.dst ≠ some t) → ca'.tmps.getD t undef = ca.tmps.getD t undef) →
      (∀ j o d s, ops[j]? = some o → listed.getD j false = true → o.dst = some d → o.guard = none → o.op = .move (.tmp s) → (∀ j o, j < p → ops[j]? = some o → o.dst ≠ some s) → ca'.tmps.getD d undef = ca.tmps.getD s undef) →
      ((List.range p).filter fun j => !listed.getD j false).length + (ops.size - p) ≤ fuel →
      St F lim' w' n fr' m ca' [] → Pres F w lim w' lim' → wpAny P .any ops (APost F lim w n Q) fuel listed ca' w' := by
    intro fuel
    have fin : ∀ fuel (listed : Array Bool) fr' lim' w' ca', listed.size = ops.size → (∀ j, listed.getD j false = true → j < p) →
        (∀ t, (∀ (j : Nat) (o : Oper), ops[j]? = some o → listed.getD j false = true → o.dst = some t → rawOf fr' t = val j) ∧ ((∀ (j : Nat) (o : Oper), ops[j]? = some o → listed.getD j false = true → o.dst ≠ some t) → rawOf fr' t = rawOf fr t)) →
        (∀ t, (∀ j o, j < p → ops[j]? = some o → o.dst ≠ some t) → ca'.tmps.getD t undef = ca.tmps.getD t undef) →
        (∀ j o d s, ops[j]? = some o → listed.getD j false = true → o.dst = some d → o.guard = none → o.op = .move (.tmp s) → (∀ j o, j < p → ops[j]? = some o → o.dst ≠ some s) → ca'.tmps.getD d undef = ca.tmps.getD s undef) →
        (∀ j, j < p → listed.getD j false = true) → ops.size - p ≤ fuel → St F lim' w' n fr' m ca' [] → Pres F w lim w' lim' → wpAny P .any ops (APost F lim w n Q) fuel listed ca' w' := by
      intro fuel listed fr' lim' w' ca' hls hlp hM hS hV hall hf s1 pr
      have hraw : ∀ t, rawOf fr' t = rawOf (T p) t := fun t => by
        obtain ⟨a1, a2⟩ := hM t
        obtain ⟨b1, b2⟩ := hTf p (Nat.le_refl _) t
        by_cases hex : ∃ (j : Nat) (o : Oper), j < p ∧ ops[j]? = some o ∧ o.dst = some t
        · obtain ⟨j, o, hjp, hj, ho⟩ := hex
          rw [a1 j o hj (hall j hjp) ho, b1 j o hjp hj ho]
        · rw [a2 fun j o hj hl ho => hex ⟨j, o, hlp j hl, hj, ho⟩, b2 fun j o hjp hj ho => hex ⟨j, o, hjp, hj, ho⟩]
      have s2 : St F lim' w' n (T p) m ca' [] := s1.sub fun t x hx => by
        have hr := hraw t
        have hxr : rawOf (T p) t = x := by simp [rawOf, hx]
        rw [hxr] at hr
        cases hg : fr'.get t with
        | some y =>
          simp only [rawOf, hg, Option.getD_some] at hr
          subst hr; exact .inl rfl
        | none =>
          simp only [rawOf, hg, Option.getD_none] at hr
          exact .inr ⟨hr.symm, hTn p (Nat.le_refl _) t x hx⟩
      have s3 := St.alias al s2 fun x hx => by
        obtain ⟨⟨j, o, hjp, hj, h1, h2, h3⟩, h4⟩ := A x hx
        refine ⟨okOper_dst (hok hj).1 h1, ?_, ?_⟩
        · exact tmpsOk_lt (hok hj).2 (y := .tmp x.2) (by rw [h3]; simp [Op.operands]) _ rfl
        · rw [hV j o x.1 x.2 hj (hall j hjp) h1 h2 h3 h4, hS x.2 h4]
      have hops : ∀ o ∈ ops.toList.drop p, okOper n o = true ∧ tmpsOk n o = true := fun o ho => hk.1 o (List.mem_of_mem_drop ho)
      have hT := hTK F lim' w' ca' (APost F lim w n Q) s3 fun lim'' w'' fr'' m'' ca'' hK hSt hP =>
        ⟨lim'', _, m'', hK, hSt.keep (fun t ht => by simpa using hk.2 t ht), pr.trans hP⟩
      exact tail_wp D fuel p listed ca' w' (Nat.le_refl _) D.le hf hls (fun j hj => ⟨fun h => hlp j h, fun h => hall j h⟩) hT
    have least : ∀ (listed : Array Bool), listed.size = ops.size → (¬ ∀ j, j < p → listed.getD j false = true) → Region.ready .any ops listed ≠ [] := fun listed hls hn hr => hn fun j => by
      induction j using Nat.strongRecOn with
      | _ j ih =>
        intro hj
        cases hl : listed.getD j false with
        | true => rfl
        | false =>
          have hjs : j < ops.size := Nat.lt_of_lt_of_le hj D.le
          have ho : ops[j]? = some ops[j] := Array.getElem?_eq_getElem hjs
          have : j ∈ Region.ready .any ops listed := by
            rw [mem_ready]
            refine ⟨?_, _, ho, fun e he hb => ih e.on (D.back j _ e ho he hb) (Nat.lt_trans (D.back j _ e ho he hb) hj)⟩
            simp only [Array.getD_eq_getD_getElem?, Array.getElem?_eq_getElem (show j < listed.size by omega), Option.getD_some] at hl ⊢
            exact hl
          rw [hr] at this; cases this
    induction fuel with
    | zero =>
      intro listed fr' lim' w' ca' hls hlp hM hC hS hV hcnt s1 pr
      refine fin 0 listed fr' lim' w' ca' hls hlp hM hS hV (fun j hj => ?_) (by omega) s1 pr
      cases hl : listed.getD j false with
      | true => rfl
      | false =>
        have : j ∈ (List.range p).filter fun j => !listed.getD j false := List.mem_filter.2 ⟨List.mem_range.2 hj, by rw [hl]; rfl⟩
        have := List.length_pos_of_mem this
        omega
    | succ fuel ih =>
      intro listed fr' lim' w' ca' hls hlp hM hC hS hV hcnt s1 pr
      by_cases hall : ∀ j, j < p → listed.getD j false = true
      · exact fin (fuel + 1) listed fr' lim' w' ca' hls hlp hM hS hV hall (by omega) s1 pr
      refine ⟨fun hr => (least listed hls hall hr).elim, fun i hi => ?_⟩
      rw [mem_ready] at hi
      obtain ⟨hnl, o, ho, hedge⟩ := hi
      have hio := hlt ho
      have hip : i < p := by
        rcases Nat.lt_or_ge i p with h | h
        · exact h
        · exfalso
          apply hall
          intro j hj
          have := closure_listed (ops := ops) (p := fun j => listed.getD j false = true) (fun j hj e he => by
            have hjs : j < ops.size := Nat.lt_of_lt_of_le (hlp j hj) D.le
            have hjo : ops[j]? = some ops[j] := Array.getElem?_eq_getElem hjs
            obtain ⟨ed, h1, h2, rfl⟩ := (edges_mem hjo).1 he
            exact hC j _ ed hjo hj h1 h2) i (edges ops i) (fun j hj => by
            obtain ⟨ed, h1, h2, rfl⟩ := (edges_mem ho).1 hj
            exact hedge ed h1 h2)
          exact this j (D.tail i h hio j (by omega))
      have hnl' : listed.getD i false = false := by
        simp only [Array.getD_eq_getD_getElem?, Array.getElem?_eq_getElem (show i < listed.size by omega), Option.getD_some] at hnl ⊢
        exact hnl
      obtain ⟨⟨side, hpv, hside⟩, _⟩ := hTs i o hip ho
      obtain ⟨d, hod⟩ := D.dst i o hip ho
      have hraw : ∀ t ∈ slotsOf ops o, rawOf (T i) t = rawOf fr' t := fun t ht => by
        obtain ⟨a1, a2⟩ := hM t
        obtain ⟨b1, b2⟩ := hTf i (Nat.le_of_lt hip) t
        by_cases hex : ∃ (j : Nat) (q : Oper), j < p ∧ ops[j]? = some q ∧ q.dst = some t
        · obtain ⟨j, q, hjp, hj, hq⟩ := hex
          obtain ⟨l1, l2⟩ := D.looks i j o q t hip hjp ho hj hq ht
          have huniq : ∀ (j' : Nat) (q' : Oper), j' < p → ops[j']? = some q' → q'.dst = some t → j' = j := fun j' q' hjp' hj' hq' => D.apart j' j q' q hjp' hjp hj' hj (by rw [hq', hq])
          by_cases hji : j < i
          · obtain ⟨e, he, heon, heb⟩ := l1 hji
            have hlj : listed.getD j false = true := by rw [← heon]; exact hedge e he heb
            rw [a1 j q hj hlj hq, b1 j q hji hj hq]
          · have hnlj : listed.getD j false = false := by
              by_cases hij : i < j
              · obtain ⟨e, he, heon, heb⟩ := l2 hij
                cases hlj : listed.getD j false with
                | false => rfl
                | true =>
                  have := hC j q e hj hlj he heb
                  rw [heon, hnl'] at this; cases this
              · have : i = j := by omega
                subst this; exact hnl'
            have q1 := a2 (fun j' q' hj' hl' hq' => by
              rw [huniq j' q' (hlp j' hl') hj' hq', hnlj] at hl'
              cases hl')
            have q2 := b2 (fun j' q' hj' hjo hq' => by
              have := huniq j' q' (by omega) hjo hq'
              omega)
            rw [q1, q2]
        · rw [a2 fun j q hj hl hq => hex ⟨j, q, hlp j hl, hj, hq⟩, b2 fun j q hji hj hq => hex ⟨j, q, by omega, hj, hq⟩]
      rw [pv_congr hraw] at hpv
      have hdn : d < ca'.tmps.size := by
        have := okOper_dst (hok ho).1 hod
        obtain ⟨_, _, _, s1⟩ := s1
        rw [s1.size]; exact this
      show wpOp P ops _ i _ ca' w'
      unfold wpOp
      rw [ho]
      show if Region.wanted o (yielded ops ca'.tmps) then _ else _
      refine pv_step (hok ho).1 (hok ho).2 hpv hside hod s1 fun lim'' w'' v s2 pr2 hmv => ?_
      rw [hod] at s2 ⊢
      have hnew : ∀ j, (listed.setIfInBounds i true).getD j false = true → j = i ∨ listed.getD j false = true := fun j hl => by
        by_cases e : i = j
        · exact .inl e.symm
        · rw [getD_set_ne false e] at hl; exact .inr hl
      refine ih (listed.setIfInBounds i true) (fr'.put d (val i)) lim'' w'' _ (by simp [hls]) (fun j hl => ?_) (fun t => ?_) (fun j q e hj hl he hb => ?_) (fun t ht => ?_) (fun j q d' s hj hl h1 h2 h3 h4 => ?_) ?_ s2 (pr.trans pr2)
      · rcases hnew j hl with rfl | hl
        · exact hip
        · exact hlp j hl
      · obtain ⟨a1, a2⟩ := hM t
        rw [rawOf_put]
        refine ⟨fun j q hj hl hq => ?_, fun hno => ?_⟩
        · by_cases e : d = t
          · subst e
            have hjp : j < p := by
              rcases hnew j hl with rfl | hl
              · exact hip
              · exact hlp j hl
            have : j = i := D.apart j i q o hjp hip hj ho (by rw [hq, hod])
            subst this; simp
          · rw [if_neg e]
            have hji : i ≠ j := by
              intro e'
              subst e'
              rw [ho] at hj
              have hoq : o = q := by simpa using hj
              rw [← hoq, hod] at hq
              exact e (by simpa using hq)
            rw [getD_set_ne false hji] at hl
            exact a1 j q hj hl hq
        · have e : ¬ d = t := fun e => hno i o ho (by simp [show i < listed.size by omega]) (by rw [hod, e])
          rw [if_neg e]
          exact a2 fun j q hj hl => hno j q hj (getD_set_true hl)
      · rcases hnew j hl with rfl | hl
        · rw [ho] at hj; cases hj
          exact getD_set_true (hedge e he hb)
        · exact getD_set_true (hC j q e hj hl he hb)
      · rw [getD_put _ _ _ _ hdn, if_neg (fun e => ht i o hip ho (by rw [hod, e]))]
        exact hS t ht
      · rw [getD_put _ _ _ _ hdn]
        by_cases e : d = d'
        · rw [if_pos e]
          have hjp : j < p := by
            rcases hnew j hl with rfl | hl
            · exact hip
            · exact hlp j hl
          have : j = i := D.apart j i q o hjp hip hj ho (by rw [h1, hod, e])
          subst this
          rw [ho] at hj; cases hj
          rw [hmv s h3 h2]
          exact hS s h4
        · rw [if_neg e]
          rcases hnew j hl with rfl | hl
          · rw [ho] at hj; cases hj
            rw [hod] at h1
            exact (e (by simpa using h1)).elim
          · exact hV j q d' s hj hl h1 h2 h3 h4
      · have hmono : ∀ x, (!(listed.setIfInBounds i true).getD x false) = true → (!listed.getD x false) = true := by
          intro x hx
          cases hl : listed.getD x false with
          | false => rfl
          | true => rw [getD_set_true hl] at hx; simp at hx
        have := filter_lt (fun j => !listed.getD j false) (fun j => !(listed.setIfInBounds i true).getD j false) hmono (List.range p) i (by simpa using hip) (by rw [hnl']; rfl) (by simp [show i < listed.size by omega])
        omega
  refine key ops.size (Array.replicate ops.size false) fr lim _ ca (by simp) (fun j hl => ?_) (fun t => ⟨fun j o hj hl => ?_, fun _ => rfl⟩) (fun j o e hj hl => ?_) (fun _ _ => rfl) (fun j o d s hj hl => ?_) ?_ (st.heap (w' := { w with drawn := w.drawn + 1 }) rfl) (Pres.drew F w lim)
  · exfalso
    by_cases hj : j < ops.size
    · simp [Array.getD_eq_getD_getElem?, hj] at hl
    · simp [Array.getD_eq_getD_getElem?, hj] at hl
  · have := hlt hj
    simp [Array.getD_eq_getD_getElem?, this] at hl
  · have := hlt hj
    simp [Array.getD_eq_getD_getElem?, this] at hl
  · have := hlt hj
    simp [Array.getD_eq_getD_getElem?, this] at hl
  · have := List.length_filter_le (fun j => !(Array.replicate ops.size false).getD j false) (List.range p)
    rw [List.length_range] at this
    have := D.le
    omega
theorem pseq_mono {ops : Array Oper} : ∀ (l : List Oper) {cs : List AV} {fr : Fr} {K K' : Fr → Prop}, (∀ fr, K fr → K' fr) → pseq P ops m cs l fr K → pseq P ops m cs l fr K' := by
  intro l
  induction l with
  | nil => intro cs fr K K' hK h; exact hK _ h
  | cons o l ih =>
    intro cs fr K K' hK h
    simp only [pseq] at h ⊢
    split at h
    · exact ⟨h.1, ih hK h.2⟩
    · exact h
end
end Go.Aw
end
section
namespace Go.Aw
open Go
def gI {α : Type} [Inhabited α] (xs : List α) (k : Int) : α := xs.getD k.toNat default
theorem wrap64 (n : Int) (h1 : -9223372036854775808 ≤ n) (h2 : n ≤ 9223372036854775807) : IntKind.i64.wrap n = n :=
  wrap_of_range .i64 n (by simp [IntKind.min, IntKind.signed, IntKind.bits]; omega) (by simp [IntKind.max, IntKind.signed, IntKind.bits]; omega)
theorem idx_eq {α : Type} [Inhabited α] (f : α → AV) (xs : List α) (k : Int) (h0 : 0 ≤ k) (h1 : k < xs.length) : (xs.map f).getD k.toNat .junk = f (gI xs k) := by
  have : k.toNat < xs.length := by omega
  simp [gI, List.getD_eq_getElem?_getD, this]
section
variable {P : Program} {n : Nat} {ops : Array Oper} {stl : List Nat} {r : List Oper} {K : Fr → AMem → Prop} {fr : Fr} {m : AMem} {d : Nat} {ty : TypeId} {pos : String} {af : Array Edge}
theorem awp_keep {c : Code} {Q : Exit → Fr → AMem → Prop} (ks : List Nat) (hks : (ks.all fun t => decide (t < n)) = true) (h : AWP P n c Q (fr.keep ks) m) : AWP P n c Q fr m :=
  fun F lim w ca st => h F lim w ca (st.keep (by simpa using hks))
theorem apartOk_one {t : TypeId} {l : List AV} {off : Nat} (h1 : isU P t = true) (h2 : aggT P t = false) (h3 : off < l.length) : apartOk P t l off := ⟨h1, by simp [h2, h3]⟩
theorem apartOk_agg {t : TypeId} {l : List AV} {off : Nat} (h1 : isU P t = true) (h2 : aggT P t = true) (h3 : off + P.cellsOf t ≤ l.length) : apartOk P t l off := ⟨h1, by simp [h2, h3]⟩
end
end Go.Aw
end
section
namespace Go.Aw
open Go
theorem bnT {b : Bool} (h : (!b) = true) : b = false := by simpa using h
theorem bnF {b : Bool} (h : (!b) = false) : b = true := by simpa using h
theorem bandL {a b : Bool} (h : (a && b) = true) : a = true := by cases a <;> simp_all
theorem bandR {a b : Bool} (h : (a && b) = true) : b = true := by cases a <;> simp_all
theorem bandF {a b : Bool} (h : (a && b) = false) : a = false ∨ b = false := by cases a <;> simp_all
theorem borL {a b : Bool} (h : (a || b) = false) : a = false := by cases a <;> simp_all
theorem borR {a b : Bool} (h : (a || b) = false) : b = false := by cases a <;> simp_all
theorem borT {a b : Bool} (h : (a || b) = true) : a = true ∨ b = true := by cases a <;> simp_all
theorem K_eq {K : AV → AMem → Prop} {x y : AV} {m : AMem} (hK : K x m) (h : x = y) : K y m := h ▸ hK
def intAV (n : Int) : AV := .int .i64 n
def strAV (s : List UInt8) : AV := .str s
def lstAV {α : Type} (f : α → AV) (l : List α) : AV := .slice false (l.map f)
def sub {α : Type} (l : List α) (p q : Int) : List α := (l.drop p.toNat).take (q - p).toNat
section
variable {P : Program} {n : Nat} {fr : Fr} {m : AMem}
theorem awp_loop_st {c : Code} {Q : Exit → Fr → AMem → Prop} {σ : Type} (fro : σ → Fr) (mo : σ → AMem) (I : σ → Prop) (μ : σ → Nat) (s0 : σ) (h0 : fr = fro s0) (hm0 : m = mo s0) (hI : I s0)
    (h : ∀ s, I s → AWP P n c (AThen (fun fr' m' => ∃ s', fr' = fro s' ∧ m' = mo s' ∧ I s' ∧ μ s' < μ s) Q) (fro s) (mo s)) : AWP P n (.loop c) Q fr m := by
  have conv : ∀ {F : Nat → Prop} {lim : Nat → Nat} {w : World} {lim'' : Nat → Nat} {w'' : World}, Pres F w lim w'' lim'' → ∀ K a w3, Code.rounds P c (APost F lim'' w'' n Q) K a w3 → Code.rounds P c (APost F lim w n Q) K a w3 := by
    intro F lim w lim'' w'' pr K
    induction K with
    | zero => intro a w3 h; exact h.elim
    | succ K ihK =>
      intro a w3 h
      refine wp_mono h fun e a w4 q => ?_
      cases e with
      | normal => exact ihK _ _ q
      | _ => exact APost.from pr q
  have key : ∀ N s, I s → μ s < N → ∀ F lim w ca, St F lim w n (fro s) (mo s) ca [] → Code.rounds P c (APost F lim w n Q) N ca w := by
    intro N
    induction N with
    | zero => intro s _ hlt; omega
    | succ N ih =>
      intro s hs hlt F lim w ca st
      refine wp_mono (h s hs F lim w ca st) fun e a w'' ⟨lim'', fr'', m'', q, st'', pr'⟩ => ?_
      cases e with
      | normal =>
        obtain ⟨s', rfl, rfl, hI', hlt'⟩ := q
        exact conv pr' _ _ _ (ih s' hI' (by omega) F lim'' w'' a st'')
      | _ => exact ⟨lim'', fr'', m'', q, st'', pr'⟩
  intro F lim w ca st
  subst h0 hm0
  exact wp_loop_rounds (μ s0 + 1) (key _ s0 hI (Nat.lt_succ_self _) F lim w ca st)
variable {ops : Array Oper} {stl : List Nat} {r : List Oper} {K : Fr → AMem → Prop} {d : Nat} {ty : TypeId} {pos : String} {af : Array Edge}
variable {cs : List AV} {KK : Fr → Prop} {gd : Option (Nat × Bool)}
def readOp : Op → Bool
  | .call ⟨.value (.func _), _, _⟩ => false
  | .call ⟨.value (.tmp _), _, _⟩ => false
  | .buildSlice _ _ _ => false
  | .build _ _ => false
  | .pick _ _ _ => false
  | _ => true
theorem pv_on {c : AV} {o : Oper} (hg : gOn ops fr o.guard = some true) : pv P ops m c (rawOf fr) o = pv0 P m c (rawOf fr) o := by
  unfold pv
  unfold gOn at hg
  split
  · rfl
  · next j b hgd =>
    rw [hgd] at hg
    simp only at hg
    split
    · next g hj =>
      rw [hj] at hg
      simp only at hg
      rw [hg]
    · next hj => rw [hj] at hg; cases hg
theorem pv_off {c : AV} {o : Oper} (hg : gOn ops fr o.guard = some false) : pv P ops m c (rawOf fr) o = some (True, .lazy false .junk) := by
  unfold pv
  unfold gOn at hg
  split
  · next hgd => rw [hgd] at hg; cases hg
  · next j b hgd =>
    rw [hgd] at hg
    simp only at hg
    split
    · next g hj =>
      rw [hj] at hg
      simp only at hg
      rw [hg]
    · next hj => rw [hj] at hg; cases hg
theorem pq_qv (hg : gOn ops fr gd = some true) {op : Op} {side : Prop} {x x' : AV} (hop : readOp op = true) (hq : qv P m (evP (rawOf fr)) op = some (side, x)) (hs : side) (hx : x = x') (h : pseq P ops m cs r (fr.put d x') KK) :
    pseq P ops m cs (⟨some d, op, ty, pos, af, gd⟩ :: r) fr KK := by
  subst hx
  have e0 : pv0 P m (cs.headD .junk) (rawOf fr) ⟨some d, op, ty, pos, af, gd⟩ = some (side, x) := by
    unfold pv0
    split
    · next h => simp only at h; subst h; simp [readOp] at hop
    · next h => simp only at h; subst h; simp [readOp] at hop
    · next h => simp only at h; subst h; simp [readOp] at hop
    · next h => simp only at h; subst h; simp [readOp] at hop
    · exact hq
  have e1 : pv P ops m (cs.headD .junk) (rawOf fr) ⟨some d, op, ty, pos, af, gd⟩ = some (side, x) := by
    rw [pv_on hg, e0]
  have e2 : ∀ op', readOp op' = true → (match op' with | .call ⟨.value (.func _), _, _⟩ => cs.tail | _ => cs) = cs := by
    intro op' h'
    cases op' with
    | call c =>
      obtain ⟨callee, args, ts⟩ := c
      cases callee with
      | value o => cases o <;> first | rfl | simp [readOp] at h'
      | _ => rfl
    | _ => rfl
  simp only [pseq, e1]
  refine ⟨hs, ?_⟩
  exact Eq.mpr (congrArg (fun z => pseq P ops m z r (putO fr (some d) x) KK) (e2 op hop)) h
end
end Go.Aw
end
section
namespace Go.Aw
open Go
def SemOp (P : Program) (o : Oper) (K : Fr → AMem → Prop) (fr : Fr) (m : AMem) : Prop :=
  ∀ n, okOper n o = true → tmpsOk n o = true → ∀ F lim w ca, St F lim w n fr m ca [] →
    ∃ res v w' lim' fr' m', (execOp ca.eval o).run P w = .ok res w' ∧ ((res = .value v) ∨ (res = .skip ∧ v = undef)) ∧ St F lim' w' n fr' m' (ca.put o.dst v) [] ∧ Pres F w lim w' lim' ∧ K fr' m'
def aopR (P : Program) (ops : Array Oper) (stl : List Nat) (o : Oper) (K : Fr → AMem → Prop) (fr : Fr) (m : AMem) : Prop :=
  match o with
  | ⟨dst, op, _, _, _, gd⟩ =>
  match gOn ops fr gd with
  | some true =>
    match op with
    | .pick c x y =>
      match evP (rawOf fr) c with
      | .bool true => K (putO fr dst (evP (rawOf fr) x)) m
      | .bool false => K (putO fr dst (evP (rawOf fr) y)) m
      | _ => False
    | .box _ x => (evR (rawOf fr) x).topOk = true ∧ ∀ b, m b = none → K (putO (fr.strip (slotOf x)) dst (.ptr ⟨b, 0, none⟩)) (m.upd b (some (.cells (evR (rawOf fr) x).cells)))
    | _ =>
      match ares P m (rawOf fr) stl dst op with
      | .val side ss m' x => side ∧ K (putO (fr.strip ss) dst x) m'
      | .eff side ss m' => side ∧ K (putO (fr.strip ss) dst .junk) m'
      | .new side ss mk ob => side ∧ ∀ b, m b = none → K (putO (fr.strip ss) dst (mk b)) (m.upd b (some ob))
      | .call f args => ACalls P f args m (Kont K dst fr)
      | .stuck => SemOp P o K fr m
  | some false =>
    match dst with
    | some d => K (fr.put d (.lazy false .junk)) m
    | none => K fr m
  | none => False
def aopsR (P : Program) (ops : Array Oper) (stl : List Nat) : List Oper → (Fr → AMem → Prop) → Fr → AMem → Prop
  | [], K => K
  | o :: r, K => aopR P ops stl o (aopsR P ops stl r K)
section
variable {P : Program} {F : Nat → Prop} {lim : Nat → Nat} {w : World} {n : Nat} {fr : Fr} {m : AMem} {ca : Act} {fl : List Nat}
theorem wanted_gOn {ops : Array Oper} {o : Oper} {z : Bool} (st : St F lim w n fr m ca fl) (hz : gOn ops fr o.guard = some z) : Region.wanted o (yielded ops ca.tmps) = z := by
  unfold gOn at hz
  split at hz
  · next hg => obtain rfl := Option.some.inj hz; simp [Region.wanted, hg]
  · next j b hg =>
    split at hz
    · next g hj =>
      obtain ⟨os, om, ow, h⟩ := st
      cases hh : fr.get g with
      | none => simp [rawOf, hh, gLit] at hz
      | some x =>
        simp only [rawOf, hh, Option.getD_some] at hz
        obtain ⟨hlt, hr⟩ := h.slots g _ hh
        have hlt' : g < ca.tmps.size := by rw [h.size]; exact hlt
        have hv' : ca.tmps[g]? = some (ca.tmps.getD g undef) := by
          rw [Array.getElem?_eq_getElem hlt']
          simp [Array.getD, hlt']
        have := gLit_rep hz hr
        simp only [Region.wanted, hg, yielded, hj, Option.bind_some, hv']
        rw [← this]
        generalize ca.tmps.getD g undef = v
        cases v <;> rfl
    · cases hz
theorem setRow_same {b : Nat} {cs : Array Value} {e : TypeId} {fz : Nat × Nat} (hb : w.heap[b]? = some (.cells cs e fz)) : w.setRow b cs = w := by
  have hlt : b < w.heap.size := (Array.getElem?_eq_some_iff.1 hb).1
  have : (w.heap.modify b fun | .cells _ elem frozen => .cells cs elem frozen | o => o) = w.heap := by
    apply Array.ext (by simp)
    intro i hi hi'
    rw [Array.getElem_modify]
    split
    · next e => subst e; rw [Array.getElem?_eq_getElem hlt] at hb; simp at hb; rw [hb]
    · rfl
  exact congrArg (fun h => ({ w with heap := h } : World)) this
theorem St.boxOwn {t : TypeId} {x : Operand} (st : St F lim w n fr m ca []) (hx : opdOk x = true) (hs : ∀ t, x = .tmp t → t < n) (ht : (evR (rawOf fr) x).topOk = true) :
    ∃ lim', m w.heap.size = none ∧ St F lim' (w.alloc (.cells (ca.eval x).cells t)) n (fr.strip (slotOf x)) (m.upd w.heap.size (some (.cells (evR (rawOf fr) x).cells))) ca [] ∧ Pres F w lim (w.alloc (.cells (ca.eval x).cells t)) lim' := by
  obtain ⟨os, s1, s2⟩ := st.takeOpd x hx hs
  obtain ⟨oss, c1, c2, c3⟩ := rep_cells s2 ht
  obtain ⟨a1, a2⟩ := s1.allocMem (ca.eval x).cells t (AV.plainL (evR (rawOf fr) x).cells) (by rw [AV.plainL_eq, List.length_map]; exact c1) (fun i hi => by
    rw [getD_map_plain]
    exact (c2 i (by simpa [AV.plainL_eq] using hi)).plain)
  have hlo := s1.lim_new
  have hP := pres_new st (.cells (ca.eval x).cells t)
  have hst : ∀ c, c ∈ os → c < w.heap.size := fun c hc => s2.owned_lt c hc
  have hr : ∀ i, i < (evR (rawOf fr) x).cells.length → Rep (w.alloc (.cells (ca.eval x).cells t)) lim ((ca.eval x).cells.toList.getD i undef) ((evR (rawOf fr) x).cells.getD i .junk) (oss i) := fun i hi => by
    have hc := c2 i hi
    have e : (ca.eval x).cells.toList.getD i undef = (ca.eval x).cells.getD i undef := by simp [List.getD_eq_getElem?_getD, Array.getD_eq_getD_getElem?]
    rw [e]
    refine hc.stable (fun _ => Nat.le_refl _) hP.cell fun c hcm => ⟨heapOld w _ c ?_, rfl⟩
    exact hc.owned_lt c hcm
  have hnew := heapNew w (.cells (ca.eval x).cells t)
  obtain ⟨b1, b2⟩ := a2.storeMem (b := w.heap.size) (off := 0) (l := AV.plainL (evR (rawOf fr) x).cells) (xs := (evR (rawOf fr) x).cells) (vs := (ca.eval x).cells.toList) (oss := oss) (by simp [AMem.upd]) hnew
    (by simp [AV.plainL_eq]) (by simpa using c1) hr c3
  have hl : (AV.plainL (evR (rawOf fr) x).cells).length = (evR (rawOf fr) x).cells.length := by simp [AV.plainL_eq]
  have e1 : ((ca.eval x).cells.toList.take 0 ++ (ca.eval x).cells.toList ++ (ca.eval x).cells.toList.drop (0 + (ca.eval x).cells.toList.length)).toArray = (ca.eval x).cells := by
    rw [List.take_zero, List.nil_append, List.drop_of_length_le (by omega), List.append_nil]
  have e2 : (AV.plainL (evR (rawOf fr) x).cells).take 0 ++ (evR (rawOf fr) x).cells ++ (AV.plainL (evR (rawOf fr) x).cells).drop (0 + (evR (rawOf fr) x).cells.length) = (evR (rawOf fr) x).cells := by
    rw [List.take_zero, List.nil_append, List.drop_of_length_le (by rw [hl]; omega), List.append_nil]
  rw [e1, e2, setRow_same hnew] at b1
  refine ⟨lim, a1, ?_, hP⟩
  have e3 : (m.upd w.heap.size (some (.cells (AV.plainL (evR (rawOf fr) x).cells)))).upd w.heap.size (some (.cells (evR (rawOf fr) x).cells)) = m.upd w.heap.size (some (.cells (evR (rawOf fr) x).cells)) := by
    funext c; simp only [AMem.upd]; split <;> rfl
  rw [e3] at b1
  exact b1
theorem aopR_plain {ops : Array Oper} {stl : List Nat} {K : Fr → AMem → Prop} {dst : Option Nat} {op : Op} {ty : TypeId} {pos : String} {af : Array Edge} {gd : Option (Nat × Bool)} (hg : gOn ops fr gd = some true) (h : aopR P ops stl ⟨dst, op, ty, pos, af, gd⟩ K fr m) :
    (∃ c x y b, op = .pick c x y ∧ evP (rawOf fr) c = .bool b ∧ K (putO fr dst (evP (rawOf fr) (if b then x else y))) m) ∨
    (∃ t x, op = .box t x ∧ (evR (rawOf fr) x).topOk = true ∧ ∀ b, m b = none → K (putO (fr.strip (slotOf x)) dst (.ptr ⟨b, 0, none⟩)) (m.upd b (some (.cells (evR (rawOf fr) x).cells)))) ∨ aop P ops stl ⟨dst, op, ty, pos, af, none⟩ K fr m ∨ SemOp P ⟨dst, op, ty, pos, af, gd⟩ K fr m := by
  simp only [aopR, hg] at h
  split at h
  · next c x y =>
    split at h
    · next hc => exact .inl ⟨c, x, y, true, rfl, hc, h⟩
    · next hc => exact .inl ⟨c, x, y, false, rfl, hc, h⟩
    · exact h.elim
  · next t x => exact .inr (.inl ⟨t, x, rfl, h⟩)
  · refine .inr (.inr ?_)
    simp only [aop]
    cases ha : ares P m (rawOf fr) stl dst op with
    | val side ss m' x => rw [ha] at h; exact .inl h
    | eff side ss m' => rw [ha] at h; exact .inl h
    | new side ss mk ob => rw [ha] at h; exact .inl h
    | call f args => rw [ha] at h; exact .inl h
    | stuck => rw [ha] at h; exact .inr h
theorem SemOp.mono {o : Oper} {K K' : Fr → AMem → Prop} (hK : ∀ fr m, K fr m → K' fr m) (h : SemOp P o K fr m) : SemOp P o K' fr m := fun n h1 h2 F lim w ca st => by
  obtain ⟨res, v, w', lim', fr', m', a, b, c, d, e⟩ := h n h1 h2 F lim w ca st
  exact ⟨res, v, w', lim', fr', m', a, b, c, d, hK _ _ e⟩
theorem aopR_mono {ops : Array Oper} {stl : List Nat} {o : Oper} {K K' : Fr → AMem → Prop} (hK : ∀ fr m, K fr m → K' fr m) (h : aopR P ops stl o K fr m) : aopR P ops stl o K' fr m := by
  obtain ⟨dst, op, ty, pos, af, gd⟩ := o
  unfold aopR at h ⊢
  simp only at h ⊢
  split at h
  · split at h
    · split at h
      · exact hK _ _ h
      · exact hK _ _ h
      · exact h
    · exact ⟨h.1, fun b hb => hK _ _ (h.2 b hb)⟩
    · have ha := fun h => aop_mono (P := P) (stl := stl) (fr := fr) (m := m) (ops := ops) (o := ⟨dst, op, ty, pos, af, none⟩) (K := K) hK h
      simp only [aop] at ha
      cases hr : ares P m (rawOf fr) stl dst op with
      | val side ss m' x => rw [hr] at h ha; exact ha h
      | eff side ss m' => rw [hr] at h ha; exact ha h
      | new side ss mk ob => rw [hr] at h ha; exact ha h
      | call f args => rw [hr] at h ha; exact ha h
      | stuck => rw [hr] at h; exact SemOp.mono hK h
  · split at h <;> exact hK _ _ h
  · exact h
theorem aopR_sound {ops : Array Oper} {stl : List Nat} {o : Oper} {l : List Oper} {K : Fr → AMem → Prop} (hk : okOper n o = true) (hn : tmpsOk n o = true) (h : aopR P ops stl o (AOps P n ops l K) fr m) : AOps P n ops (o :: l) K fr m := by
  obtain ⟨dst, op, ty, pos, af, gd⟩ := o
  cases hz : gOn ops fr gd with
  | none => simp [aopR, hz] at h
  | some z =>
    cases z with
    | true =>
      rcases aopR_plain hz h with ⟨c, x, y, b, rfl, hc, h⟩ | ⟨t, x, rfl, ht, h⟩ | h | h
      · intro F lim w ca Q st hq
        unfold wpList
        rw [if_pos (wanted_gOn st hz)]
        refine .inl ?_
        have hm : (if b then x else y) ∈ (Op.pick c x y).operands.toList := by cases b <;> simp [Op.operands]
        obtain ⟨_, hcr, rfl⟩ := ev_rep st (okOper_opd hk c (by simp [Op.operands]))
        rw [← evP_eq, hc] at hcr
        have hcv : ca.eval c = .bool b := by
          generalize ca.eval c = v at hcr
          cases hcr
          rfl
        obtain ⟨_, hpr, rfl⟩ := ev_rep st (okOper_opd hk (if b then x else y) hm)
        rw [← evP_eq] at hpr
        refine wp_of_value (v := ca.eval (if b then x else y)) ?_ (h.from hq (st.putO (fun t ht => okOper_dst hk ht) hpr) (.refl _ _ _))
        cases b <;> simp [execOp, hcv, asBool]
      · intro F lim w ca Q st hq
        unfold wpList
        rw [if_pos (wanted_gOn st hz)]
        refine .inl ?_
        obtain ⟨lim', h1, h2, h3⟩ := st.boxOwn (t := t) (x := x) (okOper_opd hk x (by simp [Op.operands])) (tmpsOk_lt hn (by simp [Op.operands])) ht
        refine wp_of_value (v := .pointer (some ⟨w.heap.size, 0, none⟩)) (w' := w.alloc (.cells (ca.eval x).cells t)) (by simp [execOp, Instr.box, newVar, newRow]) ?_
        exact (h _ h1).from hq (h2.putO (fun t ht => okOper_dst hk ht) (.ptr _)) h3
      · have h' := aop_sound (o := ⟨dst, op, ty, pos, af, none⟩) hk hn h
        intro F lim w ca Q st hq
        have := h' F lim w ca Q st hq
        unfold wpList at this ⊢
        rw [if_pos (by simp [Region.wanted])] at this
        rw [if_pos (wanted_gOn st hz)]
        exact this
      · intro F lim w ca Q st hq
        unfold wpList
        rw [if_pos (wanted_gOn st hz)]
        refine .inl ?_
        obtain ⟨res, v, w', lim', fr', m', h1, h2, h3, h4, h5⟩ := h n hk hn F lim w ca st
        rcases h2 with rfl | ⟨rfl, rfl⟩
        · exact wp_of_value h1 (h5.from hq h3 h4)
        · exact wp_of_skip h1 (h5.from hq h3 h4)
    | false =>
      simp only [aopR, hz] at h
      intro F lim w ca Q st hq
      unfold wpList
      rw [if_neg (by rw [wanted_gOn (o := ⟨dst, op, ty, pos, af, gd⟩) st hz]; simp)]
      split at h
      · next d =>
        refine AOps.from h hq ?_ (.refl _ _ _)
        exact st.set (okOper_dst hk rfl) (.lazyF _)
      · refine AOps.from h hq ?_ (.refl _ _ _)
        exact st
theorem aopsR_sound {ops : Array Oper} {stl : List Nat} : ∀ (l : List Oper) {K : Fr → AMem → Prop} {fr : Fr} {m : AMem}, (∀ o ∈ l, okOper n o = true ∧ tmpsOk n o = true) → aopsR P ops stl l K fr m → AOps P n ops l K fr m := by
  intro l
  induction l with
  | nil => intro K fr m _ h; exact AOps.nil h
  | cons o l ih =>
    intro K fr m hk h
    have ho := hk o (by simp)
    exact aopR_sound ho.1 ho.2 (aopR_mono (fun fr m hr => ih (fun o' ho' => hk o' (by simp [ho'])) hr) h)
theorem awp_reg2 {id : Nat} {ops : Array Oper} {Q : Exit → Fr → AMem → Prop} (stl ks : List Nat) (hk : okAll n ops ks = true) (h : ∀ K : Fr → AMem → Prop, (∀ fr m, Q .normal fr m → K fr m) → aopsR P ops stl ops.toList (fun fr m => K (fr.keep ks) m) fr m) : AWP P n (.region id ops false) Q fr m := by
  simp only [okAll, Bool.and_eq_true, List.all_eq_true] at hk
  exact awp_region ks (by simpa [List.all_eq_true] using hk.2) (aopsR_sound _ (fun o ho => by simpa using hk.1 o ho) (h _ fun _ _ h => h))
theorem awp_reg2_seq {id : Nat} {ops : Array Oper} {c : Code} {Q : Exit → Fr → AMem → Prop} (stl ks : List Nat) (hk : okAll n ops ks = true) (h : ∀ K : Fr → AMem → Prop, (∀ fr m, AWP P n c Q fr m → K fr m) → aopsR P ops stl ops.toList (fun fr m => K (fr.keep ks) m) fr m) : AWP P n (.seq (.region id ops false) c) Q fr m :=
  awp_seq_k fun K hK => awp_reg2 stl ks hk fun K' hK' => h K' fun fr m h => hK' _ _ (hK _ _ h)
variable {ops : Array Oper} {stl : List Nat} {r : List Oper} {K : Fr → AMem → Prop} {d : Nat} {ty : TypeId} {pos : String} {af : Array Edge} {gd : Option (Nat × Bool)}
def notPick : Op → Bool
  | .pick _ _ _ => false
  | .box _ _ => false
  | _ => true
theorem ar_off {op : Op} (hg : gOn ops fr gd = some false) (h : aopsR P ops stl r K (fr.put d (.lazy false .junk)) m) : aopsR P ops stl (⟨some d, op, ty, pos, af, gd⟩ :: r) K fr m := by
  simp only [aopsR, aopR, hg]
  exact h
theorem ar_qv {op : Op} {side : Prop} {x x' : AV} (hg : gOn ops fr gd = some true) (hp : notPick op = true) (hop : ares P m (rawOf fr) stl (some d) op = (match qv P m (evP (rawOf fr)) op with | some (side, x) => .val side [] m x | none => .stuck))
    (hq : qv P m (evP (rawOf fr)) op = some (side, x)) (hs : side) (hx : x = x') (h : aopsR P ops stl r K (fr.put d x') m) : aopsR P ops stl (⟨some d, op, ty, pos, af, gd⟩ :: r) K fr m := by
  subst hx
  simp only [aopsR, aopR, hg]
  split
  · simp [notPick] at hp
  · simp [notPick] at hp
  · simp only [hop, hq]
    exact ⟨hs, h⟩
theorem ar_add {T T2 : TypeId} {x y : Operand} {a b : Int} (hg : gOn ops fr gd = some true) (hx : evP (rawOf fr) x = .int .i64 a) (hy : evP (rawOf fr) y = .int .i64 b) (lo : -9223372036854775808 ≤ a + b) (hi : a + b ≤ 9223372036854775807)
    (h : aopsR P ops stl r K (fr.put d (.int .i64 (a + b))) m) : aopsR P ops stl (⟨some d, .binOp .add T x y T2, ty, pos, af, gd⟩ :: r) K fr m :=
  ar_qv (side := True) (x := .int .i64 (IntKind.i64.wrap (a + b))) hg rfl rfl (by simp only [qv, hx, hy, anil, abin, if_true]) trivial (by rw [wrap64 _ lo hi]) h
theorem ar_sub {T T2 : TypeId} {x y : Operand} {a b : Int} (hg : gOn ops fr gd = some true) (hx : evP (rawOf fr) x = .int .i64 a) (hy : evP (rawOf fr) y = .int .i64 b) (lo : -9223372036854775808 ≤ a - b) (hi : a - b ≤ 9223372036854775807)
    (h : aopsR P ops stl r K (fr.put d (.int .i64 (a - b))) m) : aopsR P ops stl (⟨some d, .binOp .sub T x y T2, ty, pos, af, gd⟩ :: r) K fr m :=
  ar_qv (side := True) (x := .int .i64 (IntKind.i64.wrap (a - b))) hg rfl rfl (by simp only [qv, hx, hy, anil, abin, if_true]) trivial (by rw [wrap64 _ lo hi]) h
theorem ar_index (hg : gOn ops fr gd = some true) {α : Type} [Inhabited α] (f : α → AV) (xs : List α) (k : Int) {own : Bool} {kd : IntKind} {t e : TypeId} {x i : Operand} {l : List AV} (ht : P.underlying t = some (.slice e)) (hx : evP (rawOf fr) x = .slice own l) (hl : l = xs.map f) (hi : evP (rawOf fr) i = .int kd k)
    (hU : isU P e = true) (hc : P.cellsOf e ≠ 0) (hf : ∀ a, (f a).cells.length = P.cellsOf e) (h0 : 0 ≤ k) (h1 : k < xs.length) (h : aopsR P ops stl r K (fr.put d (.ref (f (gI xs k)).cells)) m) :
    aopsR P ops stl (⟨some d, .indexAddr t x i, ty, pos, af, gd⟩ :: r) K fr m := by
  subst hl
  refine ar_qv (side := isU P e = true ∧ P.cellsOf e ≠ 0 ∧ 0 ≤ k ∧ k < (xs.map f).length ∧ ((xs.map f).getD k.toNat .junk).cells.length = P.cellsOf e) (x := .ref ((xs.map f).getD k.toNat .junk).cells) hg rfl rfl ?_ ⟨hU, hc, h0, by simpa using h1, by rw [idx_eq f xs k h0 h1]; exact hf _⟩ (by rw [idx_eq f xs k h0 h1]) h
  simp only [qv, ht, hx, hi]
theorem ar_len (hg : gOn ops fr gd = some true) {α : Type} (f : α → AV) (xs : List α) {own : Bool} {t e : TypeId} {x : Operand} {l : List AV} (ht : P.underlying t = some (.slice e)) (hx : evP (rawOf fr) x = .slice own l) (hl : l = xs.map f)
    (h : aopsR P ops stl r K (fr.put d (.int .i64 xs.length)) m) : aopsR P ops stl (⟨some d, .call ⟨.builtin .len, #[x], #[t]⟩, ty, pos, af, gd⟩ :: r) K fr m := by
  subst hl
  exact ar_qv (side := True) (x := .int .i64 (xs.map f).length) hg rfl rfl (by simp [qv, ht, hx]) trivial (by simp) h
theorem ar_append (hg : gOn ops fr gd = some true) {α : Type} (f : α → AV) (xs ys : List α) {own : Bool} {t e : TypeId} {s : Nat} {y : Operand} {l l' : List AV} (ht : P.underlying t = some (.slice e)) (hx : rawOf fr s = .slice true l) (hl : l = xs.map f) (hy : evP (rawOf fr) y = .slice own l') (hl' : l' = ys.map f)
    (hU : isU P e = true) (hc : 0 < P.cellsOf e) (hz : zOk P e = true) (hb : (xs.length + ys.length) * P.bytesOf e ≤ 140737488355328) (hb1 : xs.length + ys.length ≤ 140737488355328) (hf : ∀ a, (f a).cells.length = P.cellsOf e ∧ (f a).cells.all AV.one = true)
    (h : aopsR P ops stl r K ((fr.put s (.slice false (xs.map f))).put d (.slice true ((xs ++ ys).map f))) m) : aopsR P ops stl (⟨some d, .call ⟨.builtin .append, #[.tmp s, y], #[t, t]⟩, ty, pos, af, gd⟩ :: r) K fr m := by
  subst hl hl'
  simp only [aopsR, aopR, hg, ares, ht, hx, hy]
  refine ⟨⟨trivial, hU, hc, hz, by simpa using hb, by simpa using hb1, fun x hx => ?_, fun x hx => ?_⟩, ?_⟩
  · obtain ⟨a, _, rfl⟩ := List.mem_map.1 hx
    exact (hf a).1
  · obtain ⟨a, _, rfl⟩ := List.mem_map.1 hx
    exact hf a
  · simp only [Fr.strip, hx, AV.plain, putO, ← List.map_append]
    exact h
theorem St.conv {fr' : Fr} (h : St F lim w n fr m ca fl) (hc : ∀ t x', fr'.get t = some x' → ∃ x, fr.get t = some x ∧ ∀ v os, Rep w lim v x os → Rep w lim v x' os) : St F lim w n fr' m ca fl := by
  obtain ⟨os, om, ow, h⟩ := h
  refine ⟨os, om, ow, h.size, h.defers, fun t x hx => ?_, h.mem, fun t x hx => ?_, h.ownM, h.ownF, h.free, h.fresh⟩
  · obtain ⟨y, hy, hr⟩ := hc t x hx
    exact ⟨(h.slots t y hy).1, hr _ _ (h.slots t y hy).2⟩
  · obtain ⟨y, hy, hr⟩ := hc t x hx
    exact h.ownS t y hy
def AV.toErr (T : TypeId) : AV → AV
  | .nilIface => .err T 0
  | .iface u (.int .i64 c) => if u = T ∧ c ≠ 0 then .err T c else .iface u (.int .i64 c)
  | x => x
theorem toErr_rep (T : TypeId) {v : Value} {x : AV} {os : List Nat} (h : Rep w lim v x os) : Rep w lim v (x.toErr T) os := by
  cases h with
  | nilIface => exact .errN T
  | iface t v x h =>
    unfold AV.toErr
    split
    · next he => cases he
    · next u c he =>
      cases he
      split
      · next hc =>
        obtain ⟨rfl, h0⟩ := hc
        cases h with
        | int _ _ lo hi => exact .errS _ _ h0 lo hi
      · exact .iface _ _ _ h
    · exact .iface _ _ _ h
  | bool b => exact .bool b
  | int k n lo hi => exact .int k n lo hi
  | str s h => exact .str s h
  | ptr a => exact .ptr a
  | nilptr => exact .nilptr
  | ref b off l cv h1 h2 h3 => exact .ref b off l cv h1 h2 h3
  | nils own => exact .nils own
  | empty a cap hm => exact .empty a cap hm
  | slice b off n cap sz l cv hn hcap hm hbig hsz hlim hc hr => exact .slice b off n cap sz l cv hn hcap hm hbig hsz hlim hc hr
  | own b n cap sz l cv cur e hn hcap hm hbig h0 hb hcur hsz hlim hc hr => exact .own b n cap sz l cv cur e hn hcap hm hbig h0 hb hcur hsz hlim hc hr
  | ms a len cap h hm => exact .ms a len cap h hm
  | map b => exact .map b
  | nilmap => exact .nilmap
  | func fn f c fl cl hf hc hrf hrc => exact .func fn f c fl cl hf hc hrf hrc
  | nilfunc => exact .nilfunc
  | nilS a => exact .nilS a
  | errN t => exact .errN t
  | errS t e h lo hi => exact .errS t e h lo hi
  | optN => exact .optN
  | optS t v => exact .optS t v
  | agg cs xs os h hr => exact .agg cs xs os h hr
  | tuple cs xs os h hr => exact .tuple cs xs os h hr
  | lazyT v x os h => exact .lazyT v x os h
  | lazyF x => exact .lazyF x
  | junk v => exact .junk v
def Fr.toErr (T : TypeId) (ts : List Nat) (fr : Fr) : Fr := fr.map fun p => if ts.contains p.1 then (p.1, p.2.toErr T) else p
theorem Fr.get_toErr (T : TypeId) (ts : List Nat) (t : Nat) : ∀ fr : Fr, (Fr.toErr T ts fr).get t = if ts.contains t then (fr.get t).map (AV.toErr T) else fr.get t := by
  intro fr
  induction fr with
  | nil => simp [Fr.toErr, Fr.get]
  | cons p fr ih =>
    obtain ⟨s, x⟩ := p
    unfold Fr.toErr at ih ⊢
    rw [List.map_cons]
    by_cases hc : ts.contains s
    · rw [if_pos hc]
      simp only [Fr.get]
      by_cases hs : s = t
      · subst hs; rw [if_pos rfl, if_pos hc, if_pos rfl]; rfl
      · rw [if_neg hs, if_neg hs, ih]
    · rw [if_neg hc]
      simp only [Fr.get]
      by_cases hs : s = t
      · subst hs; rw [if_pos rfl, if_neg hc, if_pos rfl]
      · rw [if_neg hs, if_neg hs, ih]
theorem awp_toErr {c : Code} {Q : Exit → Fr → AMem → Prop} (T : TypeId) (ts : List Nat) (h : AWP P n c Q (fr.toErr T ts) m) : AWP P n c Q fr m :=
  fun F lim w ca st => h F lim w ca (st.conv fun t x' hx => by
    rw [Fr.get_toErr] at hx
    split at hx
    · cases hg : fr.get t with
      | none => rw [hg] at hx; cases hx
      | some x =>
        rw [hg] at hx
        cases hx
        exact ⟨x, rfl, fun v os hr => toErr_rep T hr⟩
    · exact ⟨x', hx, fun v os hr => hr⟩)
def u8w (a : Int) : UInt8 := UInt8.ofNat (IntKind.u8.wrap a).toNat
theorem u8w_toNat (a : Int) : ((u8w a).toNat : Int) = IntKind.u8.wrap a := by
  have h1 := (wrap_min .u8 a).1
  have h2 := (wrap_min .u8 a).2
  simp [IntKind.min, IntKind.max, IntKind.signed, IntKind.bits] at h1 h2
  simp [u8w]
  omega
variable {cs : List AV} {KK : Fr → Prop}
end
end Go.Aw
end
section
namespace Go.Aw
open Go
def AMem.wth (m : AMem) : List (Nat × AObj) → AMem
  | [] => m
  | (b, o) :: r => (AMem.wth m r).upd b (some o)
theorem wth_other {m : AMem} {b : Nat} : ∀ {L : List (Nat × AObj)}, b ∉ L.map Prod.fst → m.wth L b = m b := by
  intro L
  induction L with
  | nil => intro _; rfl
  | cons p L ih =>
    obtain ⟨c, o⟩ := p
    intro h
    simp only [List.map_cons, List.mem_cons, not_or] at h
    show (if b = c then some o else m.wth L b) = m b
    rw [if_neg h.1, ih h.2]
theorem wth_get {m : AMem} {b : Nat} {o : AObj} : ∀ {L : List (Nat × AObj)} (i : Nat), (L.map Prod.fst).Nodup → L[i]? = some (b, o) → m.wth L b = some o := by
  intro L
  induction L with
  | nil => intro i _ h; simp at h
  | cons p L ih =>
    obtain ⟨c, o'⟩ := p
    intro i hN h
    simp only [List.map_cons, List.nodup_cons] at hN
    cases i with
    | zero =>
      simp at h
      obtain ⟨rfl, rfl⟩ := h
      show (if c = c then some o' else _) = _
      rw [if_pos rfl]
    | succ i =>
      simp at h
      have hb : b ∈ L.map Prod.fst := List.mem_map.2 ⟨(b, o), List.mem_of_getElem? h, rfl⟩
      show (if b = c then some o' else m.wth L b) = _
      rw [if_neg (fun (e : b = c) => hN.1 (e ▸ hb)), ih i hN.2 h]
theorem wth_set {m : AMem} {b : Nat} {o o' : AObj} : ∀ {L : List (Nat × AObj)} (i : Nat), (L.map Prod.fst).Nodup → L[i]? = some (b, o) → (m.wth L).upd b (some o') = m.wth (L.set i (b, o')) := by
  intro L
  induction L with
  | nil => intro i _ h; simp at h
  | cons p L ih =>
    obtain ⟨c, o''⟩ := p
    intro i hN h
    simp only [List.map_cons, List.nodup_cons] at hN
    cases i with
    | zero =>
      simp at h
      obtain ⟨rfl, rfl⟩ := h
      funext x
      show (if x = c then some o' else if x = c then some o'' else m.wth L x) = (if x = c then some o' else m.wth L x)
      by_cases hx : x = c <;> simp [hx]
    | succ i =>
      simp at h
      have hb : b ∈ L.map Prod.fst := List.mem_map.2 ⟨(b, o), List.mem_of_getElem? h, rfl⟩
      have hbc : b ≠ c := fun (e : b = c) => hN.1 (e ▸ hb)
      funext x
      have := congrFun (ih i hN.2 h) x
      show (if x = b then some o' else if x = c then some o'' else m.wth L x) = (if x = c then some o'' else m.wth (L.set i (b, o')) x)
      rw [← this]
      show _ = (if x = c then some o'' else if x = b then some o' else m.wth L x)
      by_cases hx : x = b
      · subst hx; simp [hbc]
      · simp [hx]
theorem wth_fresh {m : AMem} {b : Nat} : ∀ {L : List (Nat × AObj)}, m.wth L b = none → b ∉ L.map Prod.fst ∧ m b = none := by
  intro L
  induction L with
  | nil => intro h; exact ⟨by simp, h⟩
  | cons p L ih =>
    obtain ⟨c, o⟩ := p
    intro h
    have h' : (if b = c then some o else m.wth L b) = none := h
    by_cases hb : b = c
    · rw [if_pos hb] at h'; cases h'
    · rw [if_neg hb] at h'
      have := ih h'
      exact ⟨by simp [hb]; simpa using this.1, this.2⟩
theorem wth_nodup {m : AMem} {b : Nat} {L : List (Nat × AObj)} (h : m.wth L b = none) (hN : (L.map Prod.fst).Nodup) : (b :: L.map Prod.fst).Nodup :=
  List.nodup_cons.2 ⟨(wth_fresh h).1, hN⟩
theorem wth_none {m : AMem} {b : Nat} {L : List (Nat × AObj)} (h : m.wth L b = none) : m b = none := (wth_fresh h).2
theorem wth_old {m : AMem} {b : Nat} {o : AObj} {L : List (Nat × AObj)} (hb : m b = some o) (hF : ∀ c ∈ L.map Prod.fst, m c = none) : m.wth L b = some o := by
  rw [wth_other (fun h => by rw [hF b h] at hb; cases hb), hb]
theorem wth_sub2 {m : AMem} (L1 L2 : List (Nat × AObj)) (hN : ((L1 ++ L2).map Prod.fst).Nodup) (hF : ∀ c ∈ L1.map Prod.fst, m c = none) : ∀ b o, m.wth L2 b = some o → m.wth (L1 ++ L2) b = some o := by
  induction L1 with
  | nil => exact fun _ _ h => h
  | cons p L1 ih =>
    obtain ⟨c, o'⟩ := p
    intro b o hb
    simp only [List.cons_append, List.map_cons, List.nodup_cons] at hN
    have h := ih hN.2 (fun x hx => hF x (by simp [hx])) b o hb
    have hbc : b ≠ c := by
      rintro rfl
      have h1 : b ∉ L2.map Prod.fst := fun hx => hN.1 (by simp only [List.map_append, List.mem_append]; exact .inr hx)
      rw [wth_other h1, hF b (by simp)] at hb
      cases hb
    show (if b = c then some o' else m.wth (L1 ++ L2) b) = some o
    rw [if_neg hbc, h]
theorem wth_append (m : AMem) (L L' : List (Nat × AObj)) : m.wth (L ++ L') = (m.wth L').wth L := by
  induction L with
  | nil => rfl
  | cons p L ih => obtain ⟨c, o⟩ := p; show (AMem.wth m (L ++ L')).upd c (some o) = ((m.wth L').wth L).upd c (some o); rw [ih]
theorem wth_perm {m : AMem} {L L' : List (Nat × AObj)} (hN : (L.map Prod.fst).Nodup) (hp : L.Perm L') : m.wth L = m.wth L' := by
  have hN' : (L'.map Prod.fst).Nodup := (hp.map Prod.fst).nodup_iff.1 hN
  funext x
  by_cases hx : x ∈ L.map Prod.fst
  · obtain ⟨⟨c, o⟩, hm, rfl⟩ := List.mem_map.1 hx
    obtain ⟨i, hi⟩ := List.mem_iff_getElem?.1 hm
    obtain ⟨j, hj⟩ := List.mem_iff_getElem?.1 (hp.mem_iff.1 hm)
    rw [wth_get i hN hi, wth_get j hN' hj]
  · have hx' : x ∉ L'.map Prod.fst := fun h => hx ((hp.map Prod.fst).mem_iff.2 h)
    rw [wth_other hx, wth_other hx']
theorem wth_split {m : AMem} {L L1 L2 : List (Nat × AObj)} (hN : (L.map Prod.fst).Nodup) (hp : L.Perm (L1 ++ L2)) : m.wth L = (m.wth L2).wth L1 := by
  rw [wth_perm hN hp, wth_append]
section
variable {P : Program} {n : Nat} {fr : Fr} {m : AMem} {ops : Array Oper} {stl : List Nat} {r : List Oper} {K : Fr → AMem → Prop} {d : Nat} {ty : TypeId} {pos : String} {af : Array Edge} {gd : Option (Nat × Bool)} {L : List (Nat × AObj)}
theorem ar_box (hg : gOn ops fr gd = some true) {t : TypeId} {x : Operand} {v : AV} (hx : evR (rawOf fr) x = v) (ht : v.topOk = true) (h : ∀ b, m.wth L b = none → aopsR P ops stl r K ((fr.strip (slotOf x)).put d (.ptr ⟨b, 0, none⟩)) (m.wth ((b, .cells v.cells) :: L))) :
    aopsR P ops stl (⟨some d, .box t x, ty, pos, af, gd⟩ :: r) K fr (m.wth L) := by
  subst hx
  simp only [aopsR, aopR, hg]
  exact ⟨ht, h⟩
theorem ar_alloc (hg : gOn ops fr gd = some true) {t : TypeId} {z : AV} (hz : zeroA P t = some z) (ht : z.topOk = true) (h : ∀ b, m.wth L b = none → aopsR P ops stl r K (fr.put d (.ptr ⟨b, 0, none⟩)) (m.wth ((b, .cells z.cells) :: L))) :
    aopsR P ops stl (⟨some d, .alloc t, ty, pos, af, gd⟩ :: r) K fr (m.wth L) := by
  simp only [aopsR, aopR, hg, ares, hz]
  exact ⟨ht, h⟩
theorem flatten_one {α : Type} (f : α → AV) (z : α) (hf : (f z).cells = [f z]) (k : Nat) : (List.replicate k (f z).cells).flatten = (List.replicate k z).map f := by
  rw [hf]
  induction k with
  | zero => rfl
  | succ k ih => simp [List.replicate_succ, ih]
theorem ar_loadp (hg : gOn ops fr gd = some true) {t : TypeId} {x : Operand} {b off : Nat} {l : List AV} {v : AV} (hx : evP (rawOf fr) x = .ptr ⟨b, off, none⟩) (hm : m.wth L b = some (.cells l)) (hst : stl.contains d = false) (hok : apartOk P t l off) (hv : (apart P t l off).plain = v)
    (h : aopsR P ops stl r K (fr.put d v) (m.wth L)) : aopsR P ops stl (⟨some d, .load t x, ty, pos, af, gd⟩ :: r) K fr (m.wth L) := by
  subst hv
  simp only [aopsR, aopR, hg, ares, Option.map_some, Option.getD_some, hst, qv, hx, hm]
  exact ⟨hok, h⟩
theorem ar_loads (hg : gOn ops fr gd = some true) {t : TypeId} {x : Operand} {b off i : Nat} {l : List AV} (hx : evP (rawOf fr) x = .ptr ⟨b, off, none⟩) (hN : (L.map Prod.fst).Nodup) (hi : L[i]? = some (b, .cells l)) (hst : stl.contains d = true) (hU : isU P t = true) (ha : aggT P t = false) (ho : off < l.length)
    (h : aopsR P ops stl r K (fr.put d (l.getD off .junk)) (m.wth (L.set i (b, .cells (l.set off (l.getD off .junk).plain))))) : aopsR P ops stl (⟨some d, .load t x, ty, pos, af, gd⟩ :: r) K fr (m.wth L) := by
  have hm := wth_get (m := m) i hN hi
  simp only [aopsR, aopR, hg, ares, Option.map_some, Option.getD_some, hst, hx, hm, if_true]
  refine ⟨⟨hU, ha, ho⟩, ?_⟩
  rw [wth_set i hN hi]
  exact h
theorem ar_storep (hg : gOn ops fr gd = some true) (i : Nat) {t : TypeId} {a x : Operand} {b off : Nat} {l l' : List AV} {v : AV} (ha : evP (rawOf fr) a = .ptr ⟨b, off, none⟩) (hx : evR (rawOf fr) x = v) (hN : (L.map Prod.fst).Nodup) (hi : L[i]? = some (b, .cells l))
    (h1 : v.topOk = true) (h2 : v.cells.all AV.one = true) (h3 : v.cells.length = P.cellsOf t) (hU : isU P t = true) (ho : off + P.cellsOf t ≤ l.length) (hl : l.take off ++ v.cells ++ l.drop (off + P.cellsOf t) = l')
    (h : aopsR P ops stl r K (fr.strip (slotOf x)) (m.wth (L.set i (b, .cells l')))) : aopsR P ops stl (⟨none, .store t a x, ty, pos, af, gd⟩ :: r) K fr (m.wth L) := by
  subst hl
  have hm := wth_get (m := m) i hN hi
  simp only [aopsR, aopR, hg, ares, ha, hm]
  refine ⟨⟨by rw [hx]; exact h1, by rw [hx]; exact h2, by rw [hx]; exact h3, hU, ho⟩, ?_⟩
  rw [wth_set i hN hi, hx]
  exact h
theorem ar_mem {m' m'' : AMem} {l : List Oper} (e : m' = m'') (h : aopsR P ops stl l K fr m'') : aopsR P ops stl l K fr m' := e ▸ h
end
end Go.Aw
end
section
namespace Go.Aw
open Go
def AAny (P : Program) (n : Nat) (ops : Array Oper) (fuel : Nat) (listed : Array Bool) (K : Fr → AMem → Prop) (fr : Fr) (m : AMem) : Prop :=
  ∀ F lim w ca Q, St F lim w n fr m ca [] → (∀ lim' w' fr' m' ca', K fr' m' → St F lim' w' n fr' m' ca' [] → Pres F w lim w' lim' → Q Exit.normal ca' w') → wpAny P .any ops Q fuel listed ca w
def allOf (p : Nat → Prop) : List Nat → Prop
  | [] => True
  | i :: r => p i ∧ allOf p r
theorem allOf_mem {p : Nat → Prop} : ∀ {l : List Nat}, allOf p l → ∀ i ∈ l, p i := by
  intro l
  induction l with
  | nil => intro _ i hi; cases hi
  | cons j l ih =>
    intro h i hi
    rcases List.mem_cons.1 hi with rfl | hi
    · exact h.1
    · exact ih h.2 i hi
section
variable {P : Program} {n : Nat} {fr : Fr} {m : AMem} {ops : Array Oper} {fuel : Nat} {listed : Array Bool} {K : Fr → AMem → Prop}
theorem AAny.done (hr : Region.ready .any ops listed = []) (h : K fr m) : AAny P n ops fuel listed K fr m := by
  intro F lim w ca Q st hq
  have := hq lim w fr m ca h st (.refl _ _ _)
  cases fuel with
  | zero => exact ⟨hr, this⟩
  | succ fuel => exact ⟨fun _ => this, fun i hi => by rw [hr] at hi; cases hi⟩
theorem AAny.keep (ks : List Nat) (hks : (ks.all fun t => decide (t < n)) = true) (h : AAny P n ops fuel listed K (fr.keep ks) m) : AAny P n ops fuel listed K fr m :=
  fun F lim w ca Q st hq => h F lim w ca Q (st.keep (by simpa using hks)) hq
theorem AAny.step (stl : List Nat) (rs : List Nat) (hr : Region.ready .any ops listed = rs) (hne : rs ≠ []) (hk : (ops.toList.all fun o => okOper n o && tmpsOk n o) = true)
    (h : allOf (fun i => match ops[i]? with | some o => aopsR P ops stl [o] (AAny P n ops fuel (listed.setIfInBounds i true) K) fr m | none => False) rs) : AAny P n ops (fuel + 1) listed K fr m := by
  intro F lim w ca Q st hq
  refine ⟨fun h0 => absurd (hr.symm.trans h0) hne, fun i hi => ?_⟩
  rw [hr] at hi
  have hs := allOf_mem h i hi
  unfold wpOp
  cases ho : ops[i]? with
  | none => rw [ho] at hs; exact hs.elim
  | some o =>
    rw [ho] at hs
    simp only at hs ⊢
    have hok : okOper n o = true ∧ tmpsOk n o = true := by
      have := List.all_eq_true.1 hk o (by rw [Array.mem_toList_iff]; exact Array.mem_of_getElem? ho)
      simpa using this
    have key : AOps P n ops [o] (AAny P n ops fuel (listed.setIfInBounds i true) K) fr m := aopsR_sound [o] (by simpa using hok) hs
    let Q' : Exit → Act → World → Prop := fun e a w' => match e with
      | .normal => wpAny P .any ops Q fuel (listed.setIfInBounds i true) a w'
      | e => Q e a w'
    have hw := key F lim w ca Q' st (fun lim' w' fr' m' ca' hA st' pr => hA F lim' w' ca' Q st' fun lim'' w'' fr'' m'' ca'' hK st'' pr' => hq lim'' w'' fr'' m'' ca'' hK st'' (pr.trans pr'))
    have conv : ∀ {C : Act → World → Prop}, o.wp P ca w C Q' → o.wp P ca w C Q := by
      intro C hC
      unfold Oper.wp at hC ⊢
      generalize (execOp ca.eval o).run P w = res at hC ⊢
      cases res with
      | ok s w' =>
        cases s with
        | enter f args =>
          refine hC.mono fun e w'' hh => ?_
          cases e <;> exact hh
        | _ => exact hC
      | _ => exact hC
    unfold wpList at hw
    split
    · next hwt =>
      rw [if_pos hwt] at hw
      rcases hw with hw | ⟨h1, h2⟩
      · exact .inl (conv hw)
      · refine .inr ⟨h1, ?_⟩
        exact h2
    · next hwt =>
      rw [if_neg hwt] at hw
      exact hw
theorem awp_any {id : Nat} {Q : Exit → Fr → AMem → Prop} (hm : P.follows .mixedOrders = true) (ks : List Nat) (hk : okAll n ops ks = true)
    (h : ∀ K : Fr → AMem → Prop, (∀ fr m, Q .normal fr m → K fr m) → AAny P n ops ops.size (Array.replicate ops.size false) (fun fr m => K (fr.keep ks) m) fr m) : AWP P n (.region id ops true) Q fr m := by
  intro F lim w ca st
  simp only [okAll, Bool.and_eq_true, List.all_eq_true] at hk
  refine wp_region_any hm ?_
  refine h _ (fun _ _ h => h) F lim _ ca _ (st.heap (w' := { w with drawn := w.drawn + 1 }) rfl) fun lim' w' fr' m' ca' hK st' pr => ?_
  exact ⟨lim', _, m', hK, st'.keep (fun t ht => by simpa using hk.2 t ht), (Pres.drew F w lim).trans pr⟩
theorem awp_any_seq {id : Nat} {c : Code} {Q : Exit → Fr → AMem → Prop} (hm : P.follows .mixedOrders = true) (ks : List Nat) (hk : okAll n ops ks = true)
    (h : ∀ K : Fr → AMem → Prop, (∀ fr m, AWP P n c Q fr m → K fr m) → AAny P n ops ops.size (Array.replicate ops.size false) (fun fr m => K (fr.keep ks) m) fr m) : AWP P n (.seq (.region id ops true) c) Q fr m :=
  awp_seq_k fun K hK => awp_any hm ks hk fun K' hK' => h K' fun fr m h => hK' _ _ (hK _ _ h)
theorem awp_anyA_seq {id : Nat} {c : Code} {Q : Exit → Fr → AMem → Prop} (hm : P.follows .mixedOrders = true) (ks : List Nat) (hk : okAll n ops ks = true)
    (h : ∀ K : Fr → AMem → Prop, (∀ fr m, AWP P n c Q fr m → K fr m) → ∀ A, A = AAny P n ops → A ops.size (Array.replicate ops.size false) (fun fr m => K (fr.keep ks) m) fr m) : AWP P n (.seq (.region id ops true) c) Q fr m :=
  awp_any_seq hm ks hk fun K hK => h K hK _ rfl
end
end Go.Aw
end
section
namespace Go.Aw
open Go
section
variable {P : Program} {F : Nat → Prop} {lim : Nat → Nat} {w w' : World} {n : Nat} {fr : Fr} {m : AMem} {ca : Act} {fl : List Nat}
theorem upd_self {b : Nat} {o : AObj} (h : m b = some o) : (m.upd b none).upd b (some o) = m := by
  funext c
  simp only [AMem.upd]
  by_cases hc : c = b
  · subst hc; simp [h]
  · simp [hc]
theorem upd_upd {b : Nat} {o o' : Option AObj} : (m.upd b o).upd b o' = m.upd b o' := by
  funext c
  simp only [AMem.upd]
  by_cases hc : c = b <;> simp [hc]
theorem rep_app {A B : List Value} {X Y : List AV} (hA : A.length = X.length) (r1 : ∀ q, q < X.length → Rep w lim (A.getD q undef) (X.getD q .junk) []) (r2 : ∀ q, q < Y.length → Rep w lim (B.getD q undef) (Y.getD q .junk) []) :
    ∀ q, q < (X ++ Y).length → Rep w lim ((A ++ B).getD q undef) ((X ++ Y).getD q .junk) [] := by
  intro q hq
  by_cases h : q < X.length
  · rw [getD_append_lt h, List.getD_eq_getElem?_getD, List.getElem?_append_left (by omega), ← List.getD_eq_getElem?_getD]; exact r1 q h
  · rw [getD_append_ge (by omega), List.getD_eq_getElem?_getD, List.getElem?_append_right (by omega), ← List.getD_eq_getElem?_getD, hA]
    rw [List.length_append] at hq
    exact r2 _ (by omega)
set_option maxHeartbeats 1000000 in
theorem appendMs_sound (st : St F lim w n fr m ca []) {t e ty : TypeId} {z : AV} (ht : P.underlying t = some (.slice e)) (hz : zOk P e = true) (hzA : zeroA P e = some z) (hpos : 0 < P.cellsOf e) {b k cap : Nat} {L : List AV} {vy : Value} {l' : List AV}
    (hm : m b = some (.cells L)) (hL : L.length = cap * P.cellsOf e) (hk : k ≤ cap) (hcm : cap ≤ maxLen) (hy : Rep w lim vy (.slice false l') []) (hbytes : (k + l'.length) * P.bytesOf e ≤ 140737488355328) (hbig : k + l'.length ≤ 140737488355328)
    (hpl : ∀ x ∈ L, x.plain = x) (hl' : ∀ x ∈ l', x.cells.length = P.cellsOf e ∧ x.cells.all AV.one = true) (htop : z.topOk = true) :
    ∃ b' cap' w' lim' rest, (Builtin.append_ #[t, t] ty #[.slice (some ⟨b, 0, none⟩) k cap, vy]).run P w = .ok (.slice (some ⟨b', 0, none⟩) (k + l'.length) cap') w' ∧ k + l'.length ≤ cap' ∧ cap' ≤ maxLen ∧
      ((b' = b ∧ cap' = cap ∧ rest = L.drop ((k + l'.length) * P.cellsOf e)) ∨ (m b' = none ∧ rest = (List.replicate (cap' - (k + l'.length)) z.cells).flatten)) ∧
      St F lim' w' n fr ((m.upd b none).upd b' (some (.cells (L.take (k * P.cellsOf e) ++ l'.flatMap AV.cells ++ rest)))) ca [] ∧ Pres F w lim w' lim' := by
  obtain ⟨i, zv, hi, hiz, hck, hzA', hzc⟩ := info_of_zOk hz
  obtain ⟨hcs, hbs⟩ := cellsOf_info hi
  rw [hzA] at hzA'
  have hze : z = cval zv := Option.some.inj hzA'
  have hgl : ∀ (l : List AV) i, i < l.length → l.getD i .junk ∈ l := fun l i hi => by simp [List.getD_eq_getElem?_getD, hi]
  have hmx : ∀ k : Nat, k ≤ 140737488355328 → k ≤ maxLen := fun k hk => by simp only [maxLen]; omega
  rw [hcs] at hL hpos hl'
  rw [hcs]
  by_cases hnil : l' = []
  · subst hnil
    have hvy : ∃ a c, vy = .slice a 0 c := by
      obtain ⟨a, c, rfl, _⟩ := rep_slice_len hy
      exact ⟨a, c, rfl⟩
    obtain ⟨a, c, rfl⟩ := hvy
    refine ⟨b, cap, w, lim, L.drop (k * i.size), by simpa using run_append_zero t e ty i ht hi _ k cap hk a c, by simpa using hk, hcm, .inl ⟨rfl, rfl, by simp⟩, ?_, .refl _ _ _⟩
    simp only [List.flatMap_nil, List.append_nil, List.take_append_drop]
    rw [upd_self hm]; exact st
  have hpos' : 0 < l'.length := List.length_pos_iff.2 hnil
  rcases rep_slice_cases hy with ⟨rfl, _⟩ | ⟨rfl, _⟩ | ⟨yb, yoff, ycap, ysz, ycv, rfl, hycap, hym, hybig, hysz, hylim, hyc, hyr⟩
  · exact (hnil rfl).elim
  · exact (hnil rfl).elim
  have hys : ysz = i.size := by rw [← hysz 0 hpos', (hl' _ (hgl l' 0 hpos')).1]
  subst hys
  have hnews := flatVals_cells (w := w) hpos hyc
  have hnl : (flatVals ycv l'.length i.size).length = l'.length * i.size := by simp [flatVals]
  have hone : ∀ u ∈ flatVals ycv l'.length i.size, u.oneCell' = true := fun u hu => by
    obtain ⟨k, hk, rfl⟩ := List.mem_map.1 hu
    have hk' : k < l'.length * i.size := by simpa using hk
    have hia : k / i.size < l'.length := Nat.div_lt_of_lt_mul (by rw [Nat.mul_comm]; exact hk')
    have hja := Nat.mod_lt k hpos
    exact one_cell_of (hl' _ (hgl l' _ hia)).2 (by rw [hysz _ hia]; exact hja) (hyr _ _ hia hja)
  rw [hbs] at hbytes
  have hflen : (l'.flatMap AV.cells).length = l'.length * i.size := by
    have : ∀ l : List AV, (∀ x ∈ l, x.cells.length = i.size) → (l.flatMap AV.cells).length = l.length * i.size := fun l hl => by
      induction l with
      | nil => simp
      | cons v l ih => rw [List.flatMap_cons, List.length_append, ih (fun u hu => hl u (by simp [hu]))]; simp [hl v (by simp), Nat.add_mul, Nat.add_comm]
    exact this l' (fun x hx => (hl' x hx).1)
  have hfget : ∀ q, q < l'.length * i.size → (l'.flatMap AV.cells).getD q .junk = (l'.getD (q / i.size) .junk).cells.getD (q % i.size) .junk := by
    have : ∀ l : List AV, (∀ x ∈ l, x.cells.length = i.size) → ∀ q, q < l.length * i.size → (l.flatMap AV.cells).getD q .junk = (l.getD (q / i.size) .junk).cells.getD (q % i.size) .junk := fun l hl => by
      induction l with
      | nil => intro q hq; simp at hq
      | cons v l ih =>
        intro q hq
        have hv := hl v (by simp)
        rw [List.flatMap_cons]
        by_cases hqs : q < i.size
        · rw [getD_append_lt (by omega), Nat.div_eq_of_lt hqs, Nat.mod_eq_of_lt hqs]; rfl
        · obtain ⟨r, rfl⟩ := Nat.exists_eq_add_of_le (Nat.le_of_not_lt hqs)
          have e1 : (i.size + r) / i.size = r / i.size + 1 := by rw [Nat.add_comm, Nat.add_div_right _ hpos]
          rw [getD_append_ge (by omega), hv, Nat.add_sub_cancel_left, ih (fun u hu => hl u (by simp [hu])) r (by simp [Nat.succ_mul] at hq; omega), e1, Nat.add_mod_left]
          simp [List.getD_eq_getElem?_getD]
    exact this l' (fun x hx => (hl' x hx).1)
  have hnewr : ∀ q, q < (l'.flatMap AV.cells).length → Rep w lim ((flatVals ycv l'.length i.size).getD q undef) ((l'.flatMap AV.cells).getD q .junk) [] := fun q hq => by
    rw [hflen] at hq
    have h1 : q / i.size < l'.length := Nat.div_lt_of_lt_mul (by rw [Nat.mul_comm]; exact hq)
    have h2 := Nat.mod_lt q hpos
    have h3 := flatVals_get (cv := ycv) (n := l'.length) (sz := i.size) h1 h2
    have h4 : q / i.size * i.size + q % i.size = q := by rw [Nat.mul_comm]; exact Nat.div_add_mod q i.size
    rw [h4] at h3
    rw [hfget q hq, List.getD_eq_getElem?_getD, h3]
    exact hyr _ _ h1 h2
  have hM : ∃ cs e', w.heap[b]? = some (.cells cs e' (0, 0)) ∧ cs.size = L.length ∧ ∀ q, q < L.length → Rep w lim (cs.getD q undef) (L.getD q .junk) [] := by
    obtain ⟨os, om, ow, h⟩ := st
    have hM := (h.mem b _ hm).1
    cases hM with
    | cells cs e' l _ hb hs hr =>
      refine ⟨cs, e', hb, hs, fun q hq => ?_⟩
      have := (hr q hq).plain
      rwa [hpl _ (hgl L q hq)] at this
  obtain ⟨cs, e', hb, hcsz, hcr⟩ := hM
  have hh63 : ((k + l'.length : Nat) : Int) ≤ 9223372036854775807 := by omega
  by_cases hroom : k + l'.length ≤ cap
  · have hfit : k * i.size + (flatVals ycv l'.length i.size).length ≤ cs.size := by
      rw [hnl, hcsz, hL, ← Nat.add_mul]; exact Nat.mul_le_mul_right _ hroom
    have hrun := run_append_room' (P := P) (w := w) t e ty i ht hi b k cap cs e' hb ⟨yb, yoff, none⟩ l'.length ycap _ hnl hnews hone hroom hfit
    obtain ⟨s1, s2⟩ := st.storeMem (off := k * i.size) (xs := l'.flatMap AV.cells) (vs := flatVals ycv l'.length i.size) (oss := fun _ => []) hm hb (by rw [hflen, hL, ← Nat.add_mul]; exact Nat.mul_le_mul_right _ hroom) (by rw [hnl, hflen]) hnewr (by rw [flatMap_nil])
    refine ⟨b, cap, _, _, _, hrun, hroom, hcm, .inl ⟨rfl, rfl, rfl⟩, ?_, s2⟩
    rw [upd_upd]
    rw [hflen, ← Nat.add_mul] at s1
    exact s1
  · have hcell : ∀ q, q < L.length → w.cell? ⟨b, q, none⟩ = some (cs.getD q undef) := fun q hq => by
      have hq' : q < cs.size := by omega
      simp [World.cell?, hb, Array.getD, hq']
    have hkL : k * i.size ≤ L.length := by rw [hL]; exact Nat.mul_le_mul_right _ hk
    have holds : ∀ j u, (cs.toList.take (k * i.size))[j]? = some u → w.cell? ((⟨b, 0, none⟩ : Addr).add j) = some u := fun j u hj => by
      rw [List.getElem?_take] at hj
      split at hj
      · rename_i hjk
        have e1 : (⟨b, 0, none⟩ : Addr).add j = ⟨b, 0 + j, none⟩ := Addr.add_lit b 0 j
        rw [e1, Nat.zero_add]
        simpa [World.cell?, hb] using hj
      · cases hj
    have hol : (cs.toList.take (k * i.size)).length = k * i.size := by simp; omega
    have hfits := growslice_fits (need := k + l'.length) (old := cap) (bytes := i.bytes) (by omega) hbytes
    have hrun := run_append_grow (P := P) w t ty e i zv ht hi hiz ⟨b, 0, none⟩ k cap _ hol holds ⟨yb, yoff, none⟩ l'.length ycap _ hnl hnews (by omega) hh63 hfits
    have hcap := grownCap_ge w (k + l'.length) cap e
    have hcapm := grownCap_le_maxLen w (k + l'.length) cap e (hmx _ hbig)
    generalize grownCap w (k + l'.length) cap e = cap' at hrun hcap hcapm
    have stD : St F lim w.drew n fr m ca [] := st.heap rfl
    obtain ⟨v0, z1, z2, z3, z4⟩ := zero_run (P := P) (w := w) (lim := lim) (t := e) hzA
    have hzs : z.cells.length = i.size := by rw [hze, cval_cells, hzc]
    have hzr : ∀ q, q < i.size → Rep w lim (zv.cells.getD q undef) (z.cells.getD q .junk) [] := fun q hq => by
      have h1 := rep_cval (w := w) (lim := lim) hck
      rw [← hze] at h1
      exact (rep_cellsR h1 htop).2 q (by omega)
    have hlen : (L.take (k * i.size) ++ l'.flatMap AV.cells ++ (List.replicate (cap' - (k + l'.length)) z.cells).flatten).length = cap' * i.size := by
      have : (List.replicate (cap' - (k + l'.length)) z.cells).flatten.length = (cap' - (k + l'.length)) * i.size := by
        rw [List.length_flatten]; simp [hzs]
      simp only [List.length_append, List.length_take, hflen, this]
      rw [Nat.min_eq_left hkL, ← Nat.add_mul, ← Nat.add_mul]; congr 1; omega
    have hsize : ((cs.toList.take (k * i.size)).toArray ++ (flatVals ycv l'.length i.size).toArray ++ Builtin.zeroCells zv.cells (cap' - (k + l'.length))).size = cap' * i.size := by
      simp only [Array.size_append, List.size_toArray, size_zeroCells, hzc, hol, hnl, ← Nat.add_mul]
      congr 1; omega
    have hA := stD.allocMem ((cs.toList.take (k * i.size)).toArray ++ (flatVals ycv l'.length i.size).toArray ++ Builtin.zeroCells zv.cells (cap' - (k + l'.length))) e (L.take (k * i.size) ++ l'.flatMap AV.cells ++ (List.replicate (cap' - (k + l'.length)) z.cells).flatten) (by rw [hsize, hlen]) (fun q hq => by
      refine Rep.stable (w := w) (lim := lim) ?_ (fun _ => Nat.le_refl _) (fun _ _ _ => rfl) (by simp)
      rw [Array.getD_eq_getD_getElem?, ← Array.getElem?_toList, ← List.getD_eq_getElem?_getD]
      simp only [Array.toList_append]
      refine rep_app (by simp [hflen, hnl]; omega) (rep_app (by simp; omega) (fun q hq => ?_) hnewr) (fun q hq => ?_) q hq
      · rw [List.length_take] at hq
        have h1 := hcr q (by omega)
        rw [List.getD_eq_getElem?_getD, List.getElem?_take, if_pos (by omega), List.getD_eq_getElem?_getD, List.getElem?_take, if_pos (by omega)]
        rw [Array.getD_eq_getD_getElem?, ← Array.getElem?_toList, List.getD_eq_getElem?_getD] at h1
        exact h1
      · have hq' : q < (cap' - (k + l'.length)) * i.size := by
          rw [List.length_flatten] at hq; simpa [hzs] using hq
        rw [flatten_getD _ i.size _ hzs hpos q hq']
        have h1 := hzr (q % i.size) (Nat.mod_lt _ hpos)
        have h2 : (Builtin.zeroCells zv.cells (cap' - (k + l'.length))).toList.getD q undef = zv.cells.getD (q % i.size) undef := by
          have h3 : q % i.size < zv.cells.size := by rw [hzc]; exact Nat.mod_lt _ hpos
          have h4 : q < (cap' - (k + l'.length)) * zv.cells.size := by rw [hzc]; exact hq'
          have h5 : q % zv.cells.size < zv.cells.size := Nat.mod_lt _ (by omega)
          rw [← hzc]
          simp [Builtin.zeroCells, List.getD_eq_getElem?_getD, Array.getD_eq_getD_getElem?, h4, h5]
        rw [h2]; exact h1)
    have hPN := pres_new stD (.cells ((cs.toList.take (k * i.size)).toArray ++ (flatVals ycv l'.length i.size).toArray ++ Builtin.zeroCells zv.cells (cap' - (k + l'.length))) e)
    refine ⟨w.heap.size, cap', _, lim, _, hrun, hcap, hcapm, .inr ⟨hA.1, rfl⟩, ?_, ?_⟩
    · refine hA.2.memSub fun c o hc => ?_
      have eD : w.drew.heap.size = w.heap.size := rfl
      simp only [AMem.upd, eD] at hc ⊢
      by_cases h1 : c = w.heap.size
      · rw [if_pos h1] at hc; rw [if_pos h1]; exact hc
      · rw [if_neg h1] at hc; rw [if_neg h1]
        by_cases h2 : c = b
        · rw [if_pos h2] at hc; cases hc
        · rw [if_neg h2] at hc; exact hc
    · exact ⟨rfl, rfl, rfl, Nat.le_trans (Nat.le_of_eq rfl) hPN.size, hPN.res, hPN.mono, hPN.cell⟩
theorem eraseIdx_split {α : Type} {L : List α} {i : Nat} {x : α} (h : L[i]? = some x) : L.Perm (x :: L.eraseIdx i) := by
  induction L generalizing i with
  | nil => simp at h
  | cons a L ih =>
    cases i with
    | zero => simp at h; subst h; exact List.Perm.refl _
    | succ i =>
      simp only [List.getElem?_cons_succ] at h
      simp only [List.eraseIdx_cons_succ]
      exact ((ih h).cons a).trans (List.Perm.swap x a _)
theorem ar_appendMs {ops : Array Oper} {stl : List Nat} {r : List Oper} {K : Fr → AMem → Prop} {d : Nat} {ty : TypeId} {pos : String} {af : Array Edge} {gd : Option (Nat × Bool)} {L : List (Nat × AObj)} (hg : gOn ops fr gd = some true) (i : Nat) {α : Type} (f : α → AV) (zs ys : List α) (z0 : α) (k : Nat) {own : Bool} {t e : TypeId} {s b : Nat} {y : Operand} {l' : List AV}
    (ht : P.underlying t = some (.slice e)) (hx : rawOf fr s = .ms ⟨b, 0, none⟩ k zs.length) (hy : evP (rawOf fr) y = .slice own l') (hl' : l' = ys.map f) (hz : zOk P e = true) (hzA : zeroA P e = some (f z0)) (hc : P.cellsOf e = 1)
    (hi : L[i]? = some (b, .cells (zs.map f))) (hN : (L.map Prod.fst).Nodup) (hF : m b = none) (hp : ∀ a, (f a).plain = f a) (htop : (f z0).topOk = true) (hf : ∀ a, (f a).cells = [f a]) (hf1 : ∀ a, (f a).one = true)
    (hk : k ≤ zs.length) (hb1 : (k + ys.length) * P.bytesOf e ≤ 140737488355328) (hb2 : k + ys.length ≤ 140737488355328)
    (h : ∀ (b' : Nat) (zs' : List α), m b' = none → (b' :: (L.eraseIdx i).map Prod.fst).Nodup → zs'.take (k + ys.length) = zs.take k ++ ys → k + ys.length ≤ zs'.length →
      aopsR P ops stl r K (fr.put d (.ms ⟨b', 0, none⟩ (k + ys.length) zs'.length)) (m.wth ((b', .cells (zs'.map f)) :: L.eraseIdx i))) :
    aopsR P ops stl (⟨some d, .call ⟨.builtin .append, #[.tmp s, y], #[t, t]⟩, ty, pos, af, gd⟩ :: r) K fr (m.wth L) := by
  simp only [aopsR, aopR, hg, ares, ht, hx, hy]
  intro n hk' hn F lim w ca st
  have hperm := eraseIdx_split hi
  have hN' := hN
  have hm1 := wth_perm (m := m) hN hperm
  have hNp : ((b :: (L.eraseIdx i).map Prod.fst)).Nodup := by
    have := (hperm.map Prod.fst).nodup_iff.1 hN
    simpa using this
  have hget := wth_get (m := m) i hN hi
  subst hl'
  have hvs := evP_rep st (okOper_opd hk' (.tmp s) (by simp [Op.operands, Call.operands]))
  have hxp : evP (rawOf fr) (.tmp s) = .ms ⟨b, 0, none⟩ k zs.length := by simp [evP, hx, AV.plain]
  rw [hxp] at hvs
  obtain ⟨hv, hkc, hcm⟩ := rep_ms_inv hvs
  have hvy := evP_rep st (okOper_opd hk' y (by simp [Op.operands, Call.operands]))
  rw [hy] at hvy
  have hvy' : Rep w lim (ca.eval y) (.slice false (ys.map f)) [] := by simpa [AV.plain] using hvy.plain
  obtain ⟨b', cap', w', lim', rest, r1, r2, r3, r4, r5, r6⟩ := appendMs_sound (P := P) (ty := ty) st ht hz hzA (by rw [hc]; exact Nat.one_pos) hget (by simp [hc]) hk hcm hvy' (by simpa using hb1) (by simpa using hb2)
    (fun x hx => by obtain ⟨a, _, rfl⟩ := List.mem_map.1 hx; exact hp a) (fun x hx => by obtain ⟨a, _, rfl⟩ := List.mem_map.1 hx; rw [hf, hc]; simp [hf1]) htop
  have hflat : ∀ l : List α, (l.map f).flatMap AV.cells = l.map f := fun l => by
    induction l with
    | nil => rfl
    | cons a l ih => rw [List.map_cons, List.flatMap_cons, ih, hf]; rfl
  rw [hc, Nat.mul_one, hflat] at r5
  simp only [List.length_map] at r1 r2
  obtain ⟨zs', hzs, hlen, hb'⟩ : ∃ zs' : List α, (List.take k (zs.map f) ++ ys.map f ++ rest = zs'.map f) ∧ (zs'.length = cap' ∧ zs'.take (k + ys.length) = zs.take k ++ ys) ∧ (m b' = none ∧ (b' :: (L.eraseIdx i).map Prod.fst).Nodup) := by
    rcases r4 with ⟨rfl, rfl, rfl⟩ | ⟨hb', rfl⟩
    · refine ⟨zs.take k ++ ys ++ zs.drop (k + ys.length), by simp [hc, List.map_take, List.map_drop], ⟨by simp; omega, ?_⟩, hF, hNp⟩
      rw [List.take_append_of_le_length (by simp; omega)]
      exact List.take_of_length_le (by simp; omega)
    · refine ⟨zs.take k ++ ys ++ List.replicate (cap' - (k + ys.length)) z0, ?_, ⟨by simp; omega, ?_⟩, ?_⟩
      · rw [List.length_map, flatten_one f z0 (hf z0)]; simp [List.map_take]
      · rw [List.take_append_of_le_length (by simp; omega)]
        exact List.take_of_length_le (by simp; omega)
      · have h1 := wth_fresh hb'
        refine ⟨h1.2, List.nodup_cons.2 ⟨fun hmem => h1.1 ?_, (List.nodup_cons.1 hNp).2⟩⟩
        have : b' ∈ (b :: (L.eraseIdx i).map Prod.fst) := List.mem_cons_of_mem _ hmem
        exact ((hperm.map Prod.fst).mem_iff).2 (by simpa using this)
  rw [hzs] at r5
  have hmem : ((m.wth L).upd b none).upd b' (some (.cells (zs'.map f))) = m.wth ((b', .cells (zs'.map f)) :: L.eraseIdx i) := by
    funext c
    show _ = if c = b' then _ else _
    simp only [AMem.upd]
    by_cases h1 : c = b'
    · simp [h1]
    · rw [if_neg h1, if_neg h1]
      by_cases h2 : c = b
      · subst h2
        rw [if_pos rfl, wth_other (List.nodup_cons.1 hNp).1, hF]
      · rw [if_neg h2, hm1]
        show (if c = b then _ else _) = _
        rw [if_neg h2]
  rw [hmem] at r5
  rw [← hlen.1] at r1 r3 r2
  refine ⟨_, _, w', lim', _, _, ?_, .inl rfl, r5.putO (d := some d) (fun t ht => okOper_dst hk' ht) (.ms _ _ _ r2 r3), r6, h b' zs' hb'.1 hb'.2 hlen.2 r2⟩
  have e1 : (#[Operand.tmp s, y] : Array Operand).map ca.eval = #[.slice (some ⟨b, 0, none⟩) k zs.length, ca.eval y] := by apply Array.ext'; simp [hv]
  simp only [execOp, resolve, invoke, builtin, Sem.run_bind, Sem.run_pure, Result.andThen_ok, e1]
  rw [r1]; rfl
theorem rep_args {args : Array Operand} (st : St F lim w n fr m ca fl) (hk : ∀ y ∈ args.toList, opdOk y = true) : ∀ i, i < (args.toList.map (evP (rawOf fr))).length → Rep w lim ((args.map ca.eval).getD i undef) ((args.toList.map (evP (rawOf fr))).getD i .junk) [] := by
  intro i hi
  have hi' : i < args.size := by simpa using hi
  have := evP_rep st (hk args[i] (by simp))
  simpa [List.getD_eq_getElem?_getD, Array.getD_eq_getD_getElem?, hi'] using this
theorem ar_makeFunc {ops : Array Oper} {stl : List Nat} {r : List Oper} {K : Fr → AMem → Prop} {d : Nat} {ty : TypeId} {pos : String} {af : Array Edge} {gd : Option (Nat × Bool)} (hg : gOn ops fr gd = some true) {fn : Fn} {first caps : Array Operand} {fl cl : List AV}
    (hf : first.toList.map (evP (rawOf fr)) = fl) (hc : caps.toList.map (evP (rawOf fr)) = cl) (h : aopsR P ops stl r K (fr.put d (.func fn fl cl)) m) :
    aopsR P ops stl (⟨some d, .makeFunc fn first caps, ty, pos, af, gd⟩ :: r) K fr m := by
  subst hf hc
  simp only [aopsR, aopR, hg, ares, qv]
  intro n hk hn F lim w ca st
  have hopd := okOper_opd hk
  refine ⟨_, _, w, lim, _, _, rfl, .inl rfl, st.putO (d := some d) (fun t ht => okOper_dst hk ht) (.func fn _ _ _ _ (by simp) (by simp) (rep_args st fun y hy => hopd y (by simp [Op.operands]; exact .inl (by simpa using hy))) (rep_args st fun y hy => hopd y (by simp [Op.operands]; exact .inr (by simpa using hy)))), .refl _ _ _, h⟩
theorem ACalls.conv {f : FuncId} {args args' : List AV} {K : AV → AMem → Prop} (hl : args'.length = args.length) (hr : ∀ w lim i v, Rep w lim v (args.getD i .junk) [] → Rep w lim v (args'.getD i .junk) []) (h : ACalls P f args' m K) : ACalls P f args m K :=
  ⟨h.1, fun F lim w cargs h1 h2 h3 => h.2 F lim w cargs (by rw [h1, hl]) (fun i hi => hr w lim i _ (h2 i (by omega))) h3⟩
end
end Go.Aw
end
section
namespace Go.Aw
open Go Go.RowKit Go.WideShapes Go.ChangeShapes
def Rd (P : Program) (fuel : Nat) (t : TypeId) {α : Type} (f : α → AV) : Prop :=
  ∀ (H : Type) (enc : TypeId × Value → H) (W : World) (sp : Nat → Bool) (cs : List Value) (d : DataW H) (ps : List MemPlace), DataW.trod enc P W 0 sp true fuel t cs = some (d, ps) → (∀ n ∈ d.weights P t, n ≤ reachBytes) →
    ∃ x : α, (f x).cells.length = cs.length ∧ ∀ i, i < cs.length → Rep W (limOf W) (cs.getD i undef) ((f x).cells.getD i .junk) []
section
variable {P : Program} {fuel : Nat} {t e : TypeId}
theorem rd_int (ht : P.underlying t = some (.int .i64)) : Rd P fuel t intAV := by
  intro H enc W sp cs d ps h _
  obtain ⟨n, rfl, _, hw⟩ := DataW.trod_int ht h
  simp only [Lit.wf, IntKind.has, Bool.and_eq_true, decide_eq_true_eq] at hw
  refine ⟨n, rfl, fun i hi => ?_⟩
  obtain rfl : i = 0 := by simpa using hi
  exact .int .i64 n hw.1 hw.2
theorem rd_string (ht : P.underlying t = some .string) : Rd P fuel t strAV := by
  intro H enc W sp cs d ps h hw
  obtain ⟨s, rfl, hx, hs⟩ := DataW.trod_string ht h
  simp only [Prod.mk.injEq] at hx
  obtain ⟨rfl, rfl⟩ := hx
  have h1 := hw s.data.toList.length (by simp [DataW.weights])
  refine ⟨s.data.toList, rfl, fun i hi => ?_⟩
  obtain rfl : i = 0 := by simpa using hi
  exact .str s (by unfold reachBytes at h1; simp at h1; omega)
theorem weightsAll_mem {H : Type} {e : TypeId} : ∀ {ds : List (DataW H)} {d : DataW H}, d ∈ ds → ∀ n ∈ d.weights P e, n ∈ DataW.weightsAll P e ds
  | a :: ds, d, hd, n, hn => by
    simp only [DataW.weightsAll, List.mem_append]
    rcases List.mem_cons.1 hd with rfl | hd
    · exact .inl hn
    · exact .inr (weightsAll_mem hd n hn)
theorem rd_slice {α : Type} [Inhabited α] {f : α → AV} {sz : Nat} (ht : P.underlying t = some (.slice e)) (hsz : P.cellsOf e = sz) (hpos : 0 < sz) (hby : 0 < P.bytesOf e) (hf : ∀ x, (f x).cells.length = sz) (hr : ∀ n, n < fuel → Rd P n e f) : Rd P fuel t (lstAV f) := by
  intro H enc W sp cs d ps h hw
  rcases DataW.trod_slice ht h with ⟨rfl, _⟩ | ⟨a, len, cap, elems, rest, n, rfl, rfl, hx, hb, hl, hm, hlen, hel, hsp, hns⟩
  · refine ⟨[], rfl, fun i hi => ?_⟩
    obtain rfl : i = 0 := by simpa using hi
    exact .nils false
  simp only [Prod.mk.injEq] at hx
  obtain ⟨rfl, rfl⟩ := hx
  simp only [DataW.weights, ht] at hw
  have hw0 := hw _ (List.mem_cons_self ..)
  simp only [List.length_map] at hw0
  have hlen2 : len ≤ 140737488355328 := by
    have h1 : len * 1 ≤ (elems.length + rest.length) * P.bytesOf e := Nat.mul_le_mul (by omega) hby
    unfold reachBytes at hw0; omega
  rcases Nat.eq_zero_or_pos len with h0 | h0
  · subst h0
    refine ⟨[], rfl, fun i hi => ?_⟩
    obtain rfl : i = 0 := by simpa using hi
    exact .empty a cap hm
  have each : ∀ i, i < len → ∃ (x : α) (cs' : List Value), W.cells? 0 (a.add (i * sz)) sz = some cs' ∧ (∀ j, j < sz → Rep W (limOf W) (cs'.getD j undef) ((f x).cells.getD j .junk) []) := fun i hi => by
    have h1 := hel i hi
    rw [hsz, List.getElem?_eq_getElem (show i < elems.length by omega), Option.bind_eq_some_iff] at h1
    obtain ⟨cs', h2, h3⟩ := h1
    have h3' : DataW.trod enc P W 0 sp true n e cs' = some ((elems[i]'(by omega)).1, (elems[i]'(by omega)).2) := h3
    obtain ⟨x, hx1, hx2⟩ := hr n (Nat.lt_succ_self n) H enc W sp cs' _ _ h3' (fun k hk => hw k (List.mem_cons_of_mem _ (List.mem_append_left _ (weightsAll_mem (List.mem_map.2 ⟨_, List.getElem_mem (show i < elems.length by omega), rfl⟩) k hk))))
    have hl2 : cs'.length = sz := by rw [← hx1, hf]
    exact ⟨x, cs', h2, fun j hj => hx2 j (by omega)⟩
  have hsp : a.spot = none := by
    obtain ⟨x, cs', h1, _⟩ := each 0 h0
    have := (World.cells?_some h1).2.2 0 hpos
    obtain ⟨b, off, spot⟩ := a
    cases spot with
    | none => rfl
    | some s =>
      have hl2 := (World.cells?_some h1).2.1
      rw [List.getElem?_eq_getElem (by omega)] at this
      unfold World.cell? at this
      simp [Addr.add] at this
      split at this <;> simp_all
  obtain ⟨b, off, spot⟩ := a
  simp only at hsp
  subst hsp
  have hg : ∀ i : Nat, ∃ x : α × List Value, i < len → W.cells? 0 ((⟨b, off, none⟩ : Addr).add (i * sz)) sz = some x.2 ∧ (∀ j, j < sz → Rep W (limOf W) (x.2.getD j undef) ((f x.1).cells.getD j .junk) []) := fun i => by
    by_cases hi : i < len
    · obtain ⟨x, cs', h1, h2⟩ := each i hi
      exact ⟨(x, cs'), fun _ => ⟨h1, h2⟩⟩
    · exact ⟨(default, []), fun h => absurd h hi⟩
  obtain ⟨g, hg⟩ := Classical.axiomOfChoice hg
  have hcell : ∀ i j, i < len → j < sz → W.cell? ⟨b, off + i * sz + j, none⟩ = some ((g i).2.getD j undef) := fun i j hi hj => by
    have h1 := (hg i hi).1
    have h2 := (World.cells?_some h1).2.2 j hj
    have h3 := (World.cells?_some h1).2.1
    rw [Addr.add_lit, Addr.add_lit] at h2
    rw [h2, List.getD_eq_getElem?_getD, List.getElem?_eq_getElem (by omega)]; rfl
  refine ⟨(List.range len).map fun i => (g i).1, rfl, fun i hi => ?_⟩
  obtain rfl : i = 0 := by simpa using hi
  have hgd : ∀ i, i < len → (((List.range len).map fun i => (g i).1).map f).getD i .junk = f (g i).1 := fun i hi => by
    simp [List.getD_eq_getElem?_getD, hi]
  refine Rep.slice b off len cap sz _ (fun i j => (g i).2.getD j undef) (by simp) hl hm hlen2 (fun i hi => by rw [hgd i hi]; exact hf _) ?_ hcell (fun i j hi hj => by rw [hgd i hi]; exact (hg i hi).2 j hj)
  have h1 := limOf_cell (hcell (len - 1) (sz - 1) (by omega) (by omega))
  have h2 : len * sz = (len - 1) * sz + sz := by rw [← Nat.succ_mul]; congr 1; omega
  omega
theorem Rd.arg {α : Type} {f : α → AV} {H : Type} {enc : TypeId × Value → H} {W : World} {sp : Nat → Bool} {v : Value} {d : DataW H} {ps : List MemPlace} (hr : ∀ n, Rd P n t f) (hf : ∀ x, (f x).cells = [f x]) (hv : v.cells.toList = [v]) (hd : DataW.Trod enc P W 0 sp true t v d ps) (hw : ∀ n ∈ d.weights P t, n ≤ reachBytes) :
    ∃ x : α, Rep W (limOf W) v (f x) [] := by
  obtain ⟨n, hn⟩ := hd
  obtain ⟨x, h1, h2⟩ := hr n H enc W sp _ d ps hn hw
  refine ⟨x, ?_⟩
  rw [hv] at h2
  have := h2 0 (by simp)
  rw [hf] at this
  exact this
theorem sized_arg {H : Type} {ts : List TypeId} {ds : List (DataW H)} (h : (DataW.weightsEach P ts ds).all (· ≤ reachBytes) = true) {j : Nat} {d : DataW H} (ht : ts[j]? = some t) (hd : ds[j]? = some d) : ∀ n ∈ d.weights P t, n ≤ reachBytes := fun n hn => by
  simpa using List.all_eq_true.1 h _ (DataW.weights_mem_each ht hd n hn)
end
end Go.Aw
end
section
namespace Go.Aw
open Go
section
variable {P : Program} {fr : Fr} {m : AMem} {ops : Array Oper} {cs : List AV} {r : List Oper} {KK : Fr → Prop} {d : Nat} {ty : TypeId} {pos : String} {af : Array Edge} {gd : Option (Nat × Bool)} {L : List (Nat × AObj)}
theorem pq_loadp (hg : gOn ops fr gd = some true) {t : TypeId} {x : Operand} {b off : Nat} {l : List AV} {v : AV} (hx : evP (rawOf fr) x = .ptr ⟨b, off, none⟩) (hm : m.wth L b = some (.cells l)) (hok : apartOk P t l off) (hv : (apart P t l off).plain = v)
    (h : pseq P ops (m.wth L) cs r (fr.put d v) KK) : pseq P ops (m.wth L) cs (⟨some d, .load t x, ty, pos, af, gd⟩ :: r) fr KK :=
  pq_qv hg (side := apartOk P t l off) (x := (apart P t l off).plain) rfl (by simp only [qv, hx, hm]) hok hv h
end
end Go.Aw
end
section
namespace Go.Aw
open Go Go.MapKept
section
variable {κ ν : Type} [DecidableEq κ]
def mget : List (κ × ν) → κ → Option ν
  | [], _ => none
  | (a, b) :: r, k => if a = k then some b else mget r k
def mapAV {κ ν : Type} (kf : κ → AV) (vf : ν → AV) (p : κ × ν) : AV × AV := (kf p.1, vf p.2)
def mput : List (κ × ν) → κ → ν → List (κ × ν)
  | [], k, v => [(k, v)]
  | (a, b) :: r, k, v => if a = k then (k, v) :: r else (a, b) :: mput r k v
def mdel : List (κ × ν) → κ → List (κ × ν)
  | [], _ => []
  | (a, b) :: r, k => if a = k then r else (a, b) :: mdel r k
def midx : List (κ × ν) → κ → Option Nat
  | [], _ => none
  | (a, _) :: r, k => if a = k then some 0 else (midx r k).map (· + 1)
theorem midx_none : ∀ {l : List (κ × ν)} {k : κ}, midx l k = none → mget l k = none ∧ mdel l k = l ∧ ∀ v, mput l k v = l ++ [(k, v)]
  | [], _, _ => ⟨rfl, rfl, fun _ => rfl⟩
  | (a, b) :: r, k, h => by
    unfold midx at h
    split at h
    · cases h
    · rename_i hne
      have ih := midx_none (l := r) (k := k) (by simpa using h)
      simp only [mget, mdel, mput, if_neg hne, ih.1, ih.2.1, true_and]
      exact fun v => by rw [ih.2.2 v]; rfl
theorem midx_some : ∀ {l : List (κ × ν)} {k : κ} {j : Nat}, midx l k = some j → ∃ b, l[j]? = some (k, b) ∧ mget l k = some b ∧ mdel l k = l.eraseIdx j ∧ ∀ v, mput l k v = l.set j (k, v)
  | [], _, _, h => by simp [midx] at h
  | (a, b) :: r, k, j, h => by
    unfold midx at h
    split at h
    · rename_i he
      subst he
      obtain rfl : 0 = j := by simpa using h
      exact ⟨b, rfl, by simp [mget], by simp [mdel], fun v => by simp [mput]⟩
    · rename_i hne
      cases hr : midx r k with
      | none => rw [hr] at h; cases h
      | some i =>
        rw [hr] at h
        obtain rfl : i + 1 = j := by simpa using h
        obtain ⟨c, h1, h2, h3, h4⟩ := midx_some hr
        exact ⟨c, by simpa using h1, by simp [mget, hne, h2], by simp [mdel, hne, h3], fun v => by simp [mput, hne, h4]⟩
theorem mdel_len (l : List (κ × ν)) (k : κ) : (mdel l k).length ≤ l.length := by
  induction l with
  | nil => simp [mdel]
  | cons p r ih => obtain ⟨a, b⟩ := p; simp only [mdel]; split <;> simp <;> omega
theorem mput_len (l : List (κ × ν)) (k : κ) (v : ν) : (mput l k v).length ≤ l.length + 1 := by
  induction l with
  | nil => simp [mput]
  | cons p r ih => obtain ⟨a, b⟩ := p; simp only [mput]; split <;> simp <;> omega
end
def KeyEnc (d : TypeDesc) {κ : Type} (kf : κ → AV) (kc : κ → Value) : Prop :=
  (∀ w lim v a os, Rep w lim v (kf a) os → v = kc a) ∧ (∀ a, IsKey d (kc a)) ∧ ∀ a b, kc a = kc b → a = b
def strKey (s : List UInt8) : Value := .string ⟨s.toArray⟩
theorem strKey_ok : KeyEnc .string strAV strKey := by
  refine ⟨fun w lim v a os h => ?_, fun a => trivial, fun a b h => ?_⟩
  · generalize he : strAV a = x at h
    cases h <;> first | (cases he; done) | skip
    rename_i s hs
    have e : a = s.data.toList := by injection he
    subst e; rfl
  · have : a.toArray = b.toArray := by injection h with h; injection h
    simpa using congrArg Array.toList this
section
variable {P : Program} {F : Nat → Prop} {lim : Nat → Nat} {w w' : World} {n : Nat} {fr : Fr} {m : AMem} {ca : Act} {fl : List Nat}
theorem findNow_midx {κ ν : Type} [DecidableEq κ] {d : TypeDesc} {kf : κ → AV} {kc : κ → Value} (he : KeyEnc d kf kc) (k : κ) : ∀ (E : List MapEntry) (l : List (κ × ν)) (i : Nat), E.map (·.key) = l.map (fun p => kc p.1) →
    Instr.findNow d (kc k) E i = some ((midx l k).map fun j => (i + j, (E.getD j default).val))
  | [], [], _, _ => rfl
  | [], _ :: _, _, h => by simp at h
  | _ :: _, [], _, h => by simp at h
  | e :: E, (a, b) :: l, i, h => by
    simp only [List.map_cons, List.cons.injEq] at h
    obtain ⟨h1, h2⟩ := h
    obtain ⟨r, hr, hiff⟩ := sameNow_of_keys (he.2.1 k) (he.2.1 a)
    simp only [Instr.findNow, h1, hr]
    cases r with
    | true =>
      have e1 : a = k := (he.2.2 _ _ (hiff.1 rfl)).symm
      simp [midx, e1]
    | false =>
      have e1 : a ≠ k := fun q => by
        have := hiff.2 (by rw [q]); cases this
      rw [findNow_midx he k E l (i + 1) h2]
      simp only [midx, if_neg e1, Option.map_map]
      congr 1
      cases midx l k with
      | none => rfl
      | some j => simp; omega
theorem map_inv {κ ν : Type} {d : TypeDesc} {kf : κ → AV} {kc : κ → Value} {vf : ν → AV} (he : KeyEnc d kf kc) (st : St F lim w n fr m ca fl) {b : Nat} {l : List (κ × ν)} (hm : m b = some (.map (l.map fun p => (kf p.1, vf p.2)))) :
    ∃ es clock, w.heap[b]? = some (.map es clock) ∧ es.size = l.length ∧ es.toList.map (·.key) = l.map (fun p => kc p.1) ∧ (∀ i p, l[i]? = some p → Rep w lim (es.getD i default).val (vf p.2) []) ∧ (∀ i j, i < j → j < l.length → (es.getD i default).born < (es.getD j default).born) ∧ (∀ i, i < l.length → (es.getD i default).born < clock) ∧
      l.length ≤ 140737488355328 ∧ (∀ i p, l[i]? = some p → Rep w lim (es.getD i default).key (kf p.1) []) ∧ lim b = 0 ∧ ¬ F b := by
  obtain ⟨os, om, ow, h⟩ := st
  obtain ⟨hM, hl, hF⟩ := h.mem b _ hm
  generalize ho : om b = omb at hM
  generalize hL : (l.map fun p => (kf p.1, vf p.2)) = L at hM
  cases hM with
  | map es clock L hb hs hbig hk hv hborn hclock os =>
    subst hL
    simp only [List.length_map] at hs hbig hk hv hborn hclock
    have hget : ∀ i p, l[i]? = some p → (l.map fun p => (kf p.1, vf p.2)).getD i (.junk, .junk) = (kf p.1, vf p.2) := fun i p hp => by simp [List.getD_eq_getElem?_getD, hp]
    have hlt : ∀ i p, l[i]? = some p → i < l.length := fun i p hp => (List.getElem?_eq_some_iff.1 hp).1
    have hkr : ∀ i p, l[i]? = some p → Rep w lim (es.getD i default).key (kf p.1) [] := fun i p hp => by have := hk i (hlt i p hp); rwa [hget i p hp] at this
    refine ⟨es, clock, hb, hs, ?_, fun i p hp => by have := hv i (hlt i p hp); rwa [hget i p hp] at this, hborn, hclock, hbig, hkr, hl, hF⟩
    refine List.ext_getElem (by simp [hs]) fun i h1 h2 => ?_
    have hi : i < l.length := by simpa using h2
    have hi' : i < es.size := by omega
    have := he.1 _ _ _ _ _ (hkr i l[i] (List.getElem?_eq_getElem hi))
    simpa [Array.getD, hi'] using this
theorem St.storeMap (st : St F lim w n fr m ca fl) {b : Nat} {l l' : List (AV × AV)} {es es' : Array MapEntry} {clock clock' : Nat} (hm : m b = some (.map l)) (hb : w.heap[b]? = some (.map es clock)) (hs : es'.size = l'.length) (hbig : l'.length ≤ 140737488355328)
    (hk' : ∀ i, i < l'.length → Rep w lim (es'.getD i default).key (l'.getD i (.junk, .junk)).1 []) (hv : ∀ i, i < l'.length → Rep w lim (es'.getD i default).val (l'.getD i (.junk, .junk)).2 [])
    (hborn : ∀ i j, i < j → j < l'.length → (es'.getD i default).born < (es'.getD j default).born) (hclock : ∀ i, i < l'.length → (es'.getD i default).born < clock') :
    St F lim { w with heap := w.heap.setIfInBounds b (.map es' clock') } n fr (m.upd b (some (.map l'))) ca fl ∧ Pres F w lim { w with heap := w.heap.setIfInBounds b (.map es' clock') } lim := by
  obtain ⟨os, om, ow, h⟩ := st
  obtain ⟨hM, hl, hF⟩ := h.mem b _ hm
  have hblt : b < w.heap.size := (Array.getElem?_eq_some_iff.1 hb).1
  generalize hw : ({ w with heap := w.heap.setIfInBounds b (.map es' clock') } : World) = w1
  have hother : ∀ k, k ≠ b → w1.heap[k]? = w.heap[k]? := fun k hk => by rw [← hw]; simp [Array.getElem?_setIfInBounds, Ne.symm hk]
  have hself : w1.heap[b]? = some (.map es' clock') := by rw [← hw]; simp [hblt]
  have hsize : w1.heap.size = w.heap.size := by rw [← hw]; simp
  have hcell : ∀ k o, o < lim k → w1.cell? ⟨k, o, none⟩ = w.cell? ⟨k, o, none⟩ := fun k o ho => by
    have : k ≠ b := fun e => by subst e; omega
    simp [World.cell?, hother k this]
  have hmb : ∀ c, m c = none → c ≠ b := fun c hc e => by subst e; rw [hm] at hc; cases hc
  have hst : ∀ {v x os'}, Rep w lim v x os' → (∀ c ∈ os', ow c ≠ .none) → Rep w1 lim v x os' := fun hR ho => hR.stable (fun _ => Nat.le_refl _) hcell (fun c hc => ⟨hother c (hmb c (h.free c (ho c hc)).2.1), rfl⟩)
  have hst0 : ∀ {v x}, Rep w lim v x [] → Rep w1 lim v x [] := fun hR => hst hR (by simp)
  refine ⟨?_, by rw [← hw], by rw [← hw], by rw [← hw], by rw [hsize]; exact Nat.le_refl _, fun k hk => ⟨hother k (fun e => by subst e; exact hF hk), rfl⟩, fun _ => Nat.le_refl _, hcell⟩
  refine ⟨os, om, ow, h.size, h.defers, fun t x hx => ⟨(h.slots t x hx).1, hst (h.slots t x hx).2 (fun c hc => by rw [(h.ownS t x hx).2 c hc]; simp)⟩, fun k o hk => ?_, h.ownS, fun k o hk i => ?_, h.ownF, fun c hc => ⟨(h.free c hc).1, ?_, by rw [hsize]; exact (h.free c hc).2.2⟩, fun k hk => ?_⟩
  · by_cases hkb : k = b
    · subst hkb
      simp only [AMem.upd, ↓reduceIte, Option.some.injEq] at hk
      subst hk
      exact ⟨.map es' clock' l' hself hs hbig (fun i hi => hst0 (hk' i hi)) (fun i hi => hst0 (hv i hi)) hborn hclock _, hl, hF⟩
    · simp only [AMem.upd, if_neg hkb] at hk
      have hM' := h.mem k o hk
      refine ⟨hM'.1.stable (hother k hkb) (fun _ => Nat.le_refl _) hcell (fun i c hc => ⟨hother c (hmb c (h.free c ?_).2.1), rfl⟩), hM'.2⟩
      rw [(h.ownM k o hk i).2 c hc]; simp
  · by_cases hkb : k = b
    · subst hkb; exact h.ownM k _ hm i
    · simp only [AMem.upd, if_neg hkb] at hk
      exact h.ownM k o hk i
  · have := (h.free c hc).2.1
    simp only [AMem.upd]
    rw [if_neg (hmb c this)]; exact this
  · rw [hsize] at hk
    have := h.fresh k hk
    refine ⟨this.1, this.2.1, ?_⟩
    simp only [AMem.upd]
    rw [if_neg (by omega)]; exact this.2.2
variable {ops : Array Oper} {stl : List Nat} {r : List Oper} {K : Fr → AMem → Prop} {d : Nat} {ty : TypeId} {pos : String} {af : Array Edge} {gd : Option (Nat × Bool)} {L : List (Nat × AObj)}
theorem ar_makeMap (hg : gOn ops fr gd = some true) {t ke ve : TypeId} (ht : P.underlying t = some (.map ke ve)) (h : ∀ b, m.wth L b = none → aopsR P ops stl r K (fr.put d (.map b)) (m.wth ((b, .map []) :: L))) :
    aopsR P ops stl (⟨some d, .makeMap t none, ty, pos, af, gd⟩ :: r) K fr (m.wth L) := by
  simp only [aopsR, aopR, hg, ares, ht, Option.map_none]
  exact ⟨trivial, h⟩
theorem lookup_run {κ ν : Type} [DecidableEq κ] {dk : TypeDesc} {kf : κ → AV} {kc : κ → Value} {vf : ν → AV} (he : KeyEnc dk kf kc) (st : St F lim w n fr m ca fl) {b : Nat} {l : List (κ × ν)} (hm : m b = some (.map (l.map fun p => (kf p.1, vf p.2)))) {t ke ve : TypeId} (ht : P.underlying t = some (.map ke ve)) (hke : P.underlying ke = some dk)
    {z : ν} (hz : zeroA P ve = some (vf z)) {kv : Value} {k : κ} (hkv : Rep w lim kv (kf k) []) (ok : Bool) :
    ∃ v, Rep w lim v (vf ((mget l k).getD z)) [] ∧ (Instr.lookup t (.map (some b)) kv ok).run P w = .ok (if ok then .tuple #[v, .bool (mget l k).isSome] else v) w := by
  obtain ⟨es, clock, hb, hs, hkeys, hval, _, _, _, _, _, _⟩ := map_inv he st hm
  obtain rfl := he.1 _ _ _ _ _ hkv
  have hf := findNow_midx he k es.toList l 0 hkeys
  have hc : (Instr.checkKey es.isEmpty 10000 ke (kc k)).run P w = .ok () w := run_checkKey hke (he.2.1 k) _ 9999
  have hfk := run_findKey (P := P) (w := w) hke hf
  cases hi : midx l k with
  | none =>
    obtain ⟨v0, z1, z2, z3, z4⟩ := zero_run (P := P) (w := w) (lim := lim) hz
    have h1 := (midx_none hi).1
    refine ⟨v0, by rw [h1]; exact z4, ?_⟩
    rw [hi] at hfk
    simp only [Option.map_none] at hfk
    cases ok <;> simp [Instr.lookup, run_underlying ht, run_getObj_map hb, hc, hfk, Result.andThen, z1, h1]
  | some j =>
    obtain ⟨c, h1, h2, _, _⟩ := midx_some hi
    refine ⟨(es.toList.getD j default).val, ?_, ?_⟩
    · rw [h2]
      have := hval j _ h1
      rw [Array.getD_eq_getD_getElem?, ← Array.getElem?_toList, ← List.getD_eq_getElem?_getD] at this
      exact this
    · rw [hi] at hfk
      simp only [Option.map_some, Nat.zero_add] at hfk
      cases ok <;> simp only [Instr.lookup, Sem.run_bind, run_underlying ht, run_getObj_map hb, hc, hfk, Result.andThen_ok, Sem.run_pure, h2, Option.isSome_some, if_true] <;> rfl
theorem ar_lookup (hg : gOn ops fr gd = some true) {κ ν : Type} [DecidableEq κ] {dk : TypeDesc} (kf : κ → AV) {kc : κ → Value} (vf : ν → AV) (he : KeyEnc dk kf kc) (l : List (κ × ν)) (k : κ) (z : ν) {t ke ve : TypeId} {x y : Operand} {b : Nat} {v : AV} (ht : P.underlying t = some (.map ke ve)) (hke : P.underlying ke = some dk) (hz : zeroA P ve = some (vf z))
    (hx : evP (rawOf fr) x = .map b) (hy : evP (rawOf fr) y = kf k) (hm : m.wth L b = some (.map (l.map fun p => (kf p.1, vf p.2)))) (hv : vf ((mget l k).getD z) = v) (h : aopsR P ops stl r K (fr.put d v) (m.wth L)) :
    aopsR P ops stl (⟨some d, .lookup t x y false, ty, pos, af, gd⟩ :: r) K fr (m.wth L) := by
  subst hv
  simp only [aopsR, aopR, hg, ares, qv, hx]
  intro n hk hn F lim w ca st
  have hopd := okOper_opd hk
  have h1 := evP_rep st (hopd x (by simp [Op.operands]))
  have h2 := evP_rep st (hopd y (by simp [Op.operands]))
  rw [hx] at h1
  rw [hy] at h2
  have e1 : ca.eval x = .map (some b) := by generalize ca.eval x = q at h1; cases h1; rfl
  obtain ⟨v, r1, r2⟩ := lookup_run (P := P) he st hm ht hke hz h2 false
  exact ⟨.value v, v, w, lim, _, _, by simp only [execOp, e1, Sem.run_bind, r2]; rfl, .inl rfl, st.putO (d := some d) (fun t ht => okOper_dst hk ht) r1, .refl _ _ _, h⟩
theorem ar_lookupOk (hg : gOn ops fr gd = some true) {κ ν : Type} [DecidableEq κ] {dk : TypeDesc} (kf : κ → AV) {kc : κ → Value} (vf : ν → AV) (he : KeyEnc dk kf kc) (l : List (κ × ν)) (k : κ) (z : ν) {t ke ve : TypeId} {x y : Operand} {b : Nat} {v : AV} (ht : P.underlying t = some (.map ke ve)) (hke : P.underlying ke = some dk) (hz : zeroA P ve = some (vf z))
    (hx : evP (rawOf fr) x = .map b) (hy : evP (rawOf fr) y = kf k) (hm : m.wth L b = some (.map (l.map fun p => (kf p.1, vf p.2)))) (hv : vf ((mget l k).getD z) = v) (h : aopsR P ops stl r K (fr.put d (.tuple [v, .bool (mget l k).isSome])) (m.wth L)) :
    aopsR P ops stl (⟨some d, .lookup t x y true, ty, pos, af, gd⟩ :: r) K fr (m.wth L) := by
  subst hv
  simp only [aopsR, aopR, hg, ares, qv, hx]
  intro n hk hn F lim w ca st
  have hopd := okOper_opd hk
  have h1 := evP_rep st (hopd x (by simp [Op.operands]))
  have h2 := evP_rep st (hopd y (by simp [Op.operands]))
  rw [hx] at h1
  rw [hy] at h2
  have e1 : ca.eval x = .map (some b) := by generalize ca.eval x = q at h1; cases h1; rfl
  obtain ⟨v, r1, r2⟩ := lookup_run (P := P) he st hm ht hke hz h2 true
  have hT : Rep w lim (.tuple #[v, .bool (mget l k).isSome]) (.tuple [vf ((mget l k).getD z), .bool (mget l k).isSome]) [] := by
    have := Rep.tuple (w := w) (lim := lim) #[v, .bool (mget l k).isSome] [vf ((mget l k).getD z), .bool (mget l k).isSome] (fun _ => []) rfl (fun i hi => by
      match i, hi with
      | 0, _ => exact r1
      | 1, _ => exact .bool _)
    rwa [flatMap_nil] at this
  exact ⟨.value (.tuple #[v, .bool (mget l k).isSome]), _, w, lim, _, _, by simp only [execOp, e1, Sem.run_bind, r2]; rfl, .inl rfl, st.putO (d := some d) (fun t ht => okOper_dst hk ht) hT, .refl _ _ _, h⟩
theorem ar_lenMap (hg : gOn ops fr gd = some true) {α : Type} (f : α → AV × AV) (l : List α) {t ke ve : TypeId} {x : Operand} {b : Nat} (ht : P.underlying t = some (.map ke ve)) (hx : evP (rawOf fr) x = .map b) (hm : m.wth L b = some (.map (l.map f))) (h : aopsR P ops stl r K (fr.put d (.int .i64 l.length)) (m.wth L)) :
    aopsR P ops stl (⟨some d, .call ⟨.builtin .len, #[x], #[t]⟩, ty, pos, af, gd⟩ :: r) K fr (m.wth L) :=
  ar_qv (side := True) (x := .int .i64 (l.map f).length) hg rfl rfl (by simp [qv, ht, hx, hm]) trivial (by simp) h
theorem map_write {κ ν : Type} {dk : TypeDesc} {kf : κ → AV} {kc : κ → Value} {vf : ν → AV} (he : KeyEnc dk kf kc) {es : Array MapEntry} {l l' : List (κ × ν)} {es' : Array MapEntry} (hs : es'.size = l'.length)
    (hk : ∀ i p, l'[i]? = some p → Rep w lim (es'.getD i default).key (kf p.1) [] ∧ Rep w lim (es'.getD i default).val (vf p.2) []) :
    (∀ i, i < (l'.map fun p => (kf p.1, vf p.2)).length → Rep w lim (es'.getD i default).key ((l'.map fun p => (kf p.1, vf p.2)).getD i (.junk, .junk)).1 []) ∧ (∀ i, i < (l'.map fun p => (kf p.1, vf p.2)).length → Rep w lim (es'.getD i default).val ((l'.map fun p => (kf p.1, vf p.2)).getD i (.junk, .junk)).2 []) := by
  have key : ∀ i, i < (l'.map fun p => (kf p.1, vf p.2)).length → Rep w lim (es'.getD i default).key ((l'.map fun p => (kf p.1, vf p.2)).getD i (.junk, .junk)).1 [] ∧ Rep w lim (es'.getD i default).val ((l'.map fun p => (kf p.1, vf p.2)).getD i (.junk, .junk)).2 [] := fun i hi => by
    have hi' : i < l'.length := by simpa using hi
    have := hk i _ (List.getElem?_eq_getElem hi')
    simpa [List.getD_eq_getElem?_getD, hi'] using this
  exact ⟨fun i hi => (key i hi).1, fun i hi => (key i hi).2⟩
theorem arr_getD {α : Type} {es : Array α} {i : Nat} {d x : α} (h : es[i]? = some x) : es.getD i d = x := by
  rw [Array.getD_eq_getD_getElem?, h]; rfl
theorem put_run {κ ν : Type} [DecidableEq κ] {dk : TypeDesc} {kf : κ → AV} {kc : κ → Value} {vf : ν → AV} (he : KeyEnc dk kf kc) (st : St F lim w n fr m ca fl) {b : Nat} {l : List (κ × ν)} (hm : m b = some (.map (l.map fun p => (kf p.1, vf p.2)))) {t ke ve : TypeId} (ht : P.underlying t = some (.map ke ve)) (hke : P.underlying ke = some dk)
    {kv vv : Value} {k : κ} {v : ν} (hkv : Rep w lim kv (kf k) []) (hvv : Rep w lim vv (vf v) []) (hbig : (mput l k v).length ≤ 140737488355328) :
    ∃ w', (Instr.mapUpdate t (.map (some b)) kv vv).run P w = .ok () w' ∧ St F lim w' n fr (m.upd b (some (.map ((mput l k v).map fun p => (kf p.1, vf p.2))))) ca fl ∧ Pres F w lim w' lim := by
  obtain ⟨es, clock, hb, hs, hkeys, hval, hborn, hclock, hlen, hkr, hl0, hF⟩ := map_inv he st hm
  obtain rfl := he.1 _ _ _ _ _ hkv
  have hf := findNow_midx he k es.toList l 0 hkeys
  have hc : (Instr.checkKey false 10000 ke (kc k)).run P w = .ok () w := run_checkKey hke (he.2.1 k) _ 9999
  have hfk := run_findKey (P := P) (w := w) hke hf
  have hgk : ∀ i p, l[i]? = some p → i < es.size := fun i p hp => by have := (List.getElem?_eq_some_iff.1 hp).1; omega
  cases hi : midx l k with
  | none =>
    have h1 := (midx_none hi).2.2 v
    rw [hi] at hfk
    simp only [Option.map_none] at hfk
    have hget : ∀ i, (es.push { key := kc k, val := vv, born := clock }).getD i default = if i < es.size then es.getD i default else if i = es.size then { key := kc k, val := vv, born := clock } else default := fun i => by
      simp only [Array.getD_eq_getD_getElem?, Array.getElem?_push]
      by_cases h2 : i = es.size
      · subst h2; simp
      · rw [if_neg h2]
        by_cases h3 : i < es.size
        · rw [if_pos h3]
        · rw [if_neg h3, if_neg h2, Array.getElem?_eq_none (by omega)]; rfl
    have hw := map_write (w := w) (lim := lim) he (es := es) (l := l) (l' := l ++ [(k, v)]) (es' := es.push { key := kc k, val := vv, born := clock }) (vf := vf) (by simp [hs]) (fun i p hp => by
      rw [hget]
      by_cases h2 : i < l.length
      · rw [List.getElem?_append_left h2] at hp
        rw [if_pos (by omega)]
        exact ⟨hkr i p hp, hval i p hp⟩
      · rw [List.getElem?_append_right (by omega)] at hp
        have h3 : i - l.length = 0 := by
          rcases Nat.eq_zero_or_pos (i - l.length) with h3 | h3
          · exact h3
          · rw [List.getElem?_eq_none (by simp; omega)] at hp; cases hp
        rw [h3] at hp
        obtain rfl : (k, v) = p := by simpa using hp
        rw [if_neg (by omega), if_pos (by omega)]
        exact ⟨hkv, hvv⟩)
    obtain ⟨s1, s2⟩ := st.storeMap (es' := es.push { key := kc k, val := vv, born := clock }) (clock' := clock + 1) (l' := (l ++ [(k, v)]).map fun p => (kf p.1, vf p.2)) hm hb (by simp [hs]) (by rw [← h1]; simpa using hbig) hw.1 hw.2 (fun i j hij hj => by
      simp only [List.length_map, List.length_append, List.length_singleton] at hj
      rw [hget, hget, if_pos (by omega)]
      by_cases h2 : j < es.size
      · rw [if_pos h2]; exact hborn i j hij (by omega)
      · rw [if_neg h2, if_pos (by omega)]; exact hclock i (by omega)) (fun i hi' => by
      simp only [List.length_map, List.length_append, List.length_singleton] at hi'
      rw [hget]
      by_cases h2 : i < es.size
      · rw [if_pos h2]; have := hclock i (by omega); omega
      · rw [if_neg h2, if_pos (by omega)]; exact Nat.lt_succ_self _)
    refine ⟨_, ?_, by rw [h1]; exact s1, s2⟩
    simp [Instr.mapUpdate, run_underlying ht, run_getObj_map hb, hc, hfk, Result.andThen, run_setObj_map _ hb]
  | some j =>
    obtain ⟨c, h1, _, _, h4⟩ := midx_some hi
    have h5 := h4 v
    rw [hi] at hfk
    simp only [Option.map_some, Nat.zero_add] at hfk
    have hjl : j < l.length := (List.getElem?_eq_some_iff.1 h1).1
    have hj : j < es.size := hgk j _ h1
    have hkj : (es[j]?).map (·.key) = some (kc k) := by
      have h6 := he.1 _ _ _ _ _ (hkr j _ h1)
      rw [Array.getElem?_eq_getElem hj]
      rw [arr_getD (Array.getElem?_eq_getElem hj)] at h6
      simp [h6]
    have hget : ∀ i, (es.modify j fun e => { e with key := kc k, val := vv }).getD i default = if i = j then { es.getD j default with key := kc k, val := vv } else es.getD i default := fun i => by
      simp only [Array.getD_eq_getD_getElem?, Array.getElem?_modify]
      by_cases h2 : j = i
      · subst h2; simp [Array.getElem?_eq_getElem hj]
      · rw [if_neg h2, if_neg (Ne.symm h2)]
    have hw := map_write (w := w) (lim := lim) he (es := es) (l := l) (l' := l.set j (k, v)) (es' := es.modify j fun e => { e with key := kc k, val := vv }) (vf := vf) (by simp [hs]) (fun i p hp => by
      rw [hget]
      rw [List.getElem?_set] at hp
      by_cases h2 : j = i
      · subst h2
        rw [if_pos rfl, if_pos hjl] at hp
        obtain rfl : (k, v) = p := by simpa using hp
        rw [if_pos rfl]; exact ⟨hkv, hvv⟩
      · rw [if_neg h2] at hp
        rw [if_neg (Ne.symm h2)]; exact ⟨hkr i p hp, hval i p hp⟩)
    have hb2 : ∀ i, ((es.modify j fun e => { e with key := kc k, val := vv }).getD i default).born = (es.getD i default).born := fun i => by
      rw [hget]; split
      · rename_i h2; subst h2; simp [Array.getD, hj]
      · rfl
    obtain ⟨s1, s2⟩ := st.storeMap (es' := es.modify j fun e => { e with key := kc k, val := vv }) (clock' := clock) (l' := (l.set j (k, v)).map fun p => (kf p.1, vf p.2)) hm hb (by simp [hs]) (by rw [← h5]; simpa using hbig) hw.1 hw.2 (fun i i' hij hj' => by
      rw [hb2, hb2]; exact hborn i i' hij (by simpa using hj')) (fun i hi' => by rw [hb2]; exact hclock i (by simpa using hi'))
    refine ⟨_, ?_, by rw [h5]; exact s1, s2⟩
    have hks : (Instr.keyThatStays (((es[j]?).map (·.key)).getD (kc k)) (kc k)).run P w = .ok (kc k) w := by
      rw [hkj]; exact run_keyThatStays (he.2.1 k)
    simp only [Instr.mapUpdate, Sem.run_bind, run_underlying ht, run_getObj_map hb, hc, hfk, Result.andThen_ok, hks, run_setObj_map _ hb]
theorem del_run {κ ν : Type} [DecidableEq κ] {dk : TypeDesc} {kf : κ → AV} {kc : κ → Value} {vf : ν → AV} (he : KeyEnc dk kf kc) (st : St F lim w n fr m ca fl) {b : Nat} {l : List (κ × ν)} (hm : m b = some (.map (l.map fun p => (kf p.1, vf p.2)))) {t t2 ke ve ty : TypeId} (ht : P.underlying t = some (.map ke ve)) (hke : P.underlying ke = some dk)
    {kv : Value} {k : κ} (hkv : Rep w lim kv (kf k) []) :
    ∃ w', (Builtin.delete_ #[t, t2] ty #[.map (some b), kv]).run P w = .ok (.tuple #[]) w' ∧ St F lim w' n fr (m.upd b (some (.map ((mdel l k).map fun p => (kf p.1, vf p.2))))) ca fl ∧ Pres F w lim w' lim := by
  obtain ⟨es, clock, hb, hs, hkeys, hval, hborn, hclock, hlen, hkr, hl0, hF⟩ := map_inv he st hm
  obtain rfl := he.1 _ _ _ _ _ hkv
  have hf := findNow_midx he k es.toList l 0 hkeys
  have hc : (Instr.checkKey es.isEmpty 10000 ke (kc k)).run P w = .ok () w := run_checkKey hke (he.2.1 k) _ 9999
  have hfk := run_findKey (P := P) (w := w) hke hf
  cases hi : midx l k with
  | none =>
    have h1 := (midx_none hi).2.1
    rw [hi] at hfk
    simp only [Option.map_none] at hfk
    have hw := map_write (w := w) (lim := lim) he (es := es) (l := l) (l' := l) (es' := es) (vf := vf) hs (fun i p hp => ⟨hkr i p hp, hval i p hp⟩)
    obtain ⟨s1, s2⟩ := st.storeMap (es' := es) (clock' := clock) (l' := l.map fun p => (kf p.1, vf p.2)) hm hb (by simp [hs]) (by simpa using hlen) hw.1 hw.2 (fun i j hij hj => hborn i j hij (by simpa using hj)) (fun i hi' => hclock i (by simpa using hi'))
    refine ⟨_, ?_, by rw [h1]; exact s1, s2⟩
    simp [Builtin.delete_, run_underlying ht, run_getObj_map hb, hc, hfk, Result.andThen, run_setObj_map _ hb]
  | some j =>
    obtain ⟨c, h1, _, h3, _⟩ := midx_some hi
    rw [hi] at hfk
    simp only [Option.map_some, Nat.zero_add] at hfk
    have hjl : j < l.length := (List.getElem?_eq_some_iff.1 h1).1
    have hj : j < es.size := by omega
    have hee : es.eraseIdxIfInBounds j = es.eraseIdx j hj := by simp [Array.eraseIdxIfInBounds, hj]
    have hget : ∀ i, (es.eraseIdxIfInBounds j).getD i default = if i < j then es.getD i default else es.getD (i + 1) default := fun i => by
      rw [hee]
      simp only [Array.getD_eq_getD_getElem?, ← Array.getElem?_toList, Array.toList_eraseIdx, List.getElem?_eraseIdx]
      split <;> rfl
    have hlg : ∀ i, (l.eraseIdx j)[i]? = if i < j then l[i]? else l[i + 1]? := fun i => by rw [List.getElem?_eraseIdx]
    have hll : (l.eraseIdx j).length = l.length - 1 := by rw [List.length_eraseIdx]; simp [hjl]
    have hw := map_write (w := w) (lim := lim) he (es := es) (l := l) (l' := l.eraseIdx j) (es' := es.eraseIdxIfInBounds j) (vf := vf) (by rw [hee, Array.size_eraseIdx, hll, hs]) (fun i p hp => by
      rw [hget]
      rw [hlg] at hp
      split at hp
      · rename_i h2; rw [if_pos h2]; exact ⟨hkr i p hp, hval i p hp⟩
      · rename_i h2; rw [if_neg h2]; exact ⟨hkr _ p hp, hval _ p hp⟩)
    obtain ⟨s1, s2⟩ := st.storeMap (es' := es.eraseIdxIfInBounds j) (clock' := clock) (l' := (l.eraseIdx j).map fun p => (kf p.1, vf p.2)) hm hb (by rw [hee, Array.size_eraseIdx, List.length_map, hll, hs]) (by rw [List.length_map]; omega) hw.1 hw.2 (fun i i' hij hj' => by
      rw [List.length_map, hll] at hj'
      rw [hget, hget]
      split <;> split
      · exact hborn i i' hij (by omega)
      · exact hborn i _ (by omega) (by omega)
      · omega
      · exact hborn _ _ (by omega) (by omega)) (fun i hi' => by
      rw [List.length_map, hll] at hi'
      rw [hget]; split
      · exact hclock i (by omega)
      · exact hclock _ (by omega))
    refine ⟨_, ?_, by rw [h3]; exact s1, s2⟩
    simp [Builtin.delete_, run_underlying ht, run_getObj_map hb, hc, hfk, Result.andThen, run_setObj_map _ hb]
theorem ar_mapUpdate (hg : gOn ops fr gd = some true) {κ ν : Type} [DecidableEq κ] {dk : TypeDesc} (i : Nat) (kf : κ → AV) {kc : κ → Value} (vf : ν → AV) (he : KeyEnc dk kf kc) (l : List (κ × ν)) (k : κ) (v : ν) {t ke ve : TypeId} {x y z : Operand} {b : Nat} (ht : P.underlying t = some (.map ke ve)) (hke : P.underlying ke = some dk)
    (hx : evP (rawOf fr) x = .map b) (hy : evP (rawOf fr) y = kf k) (hz : evP (rawOf fr) z = vf v) (hi : L[i]? = some (b, .map (l.map fun p => (kf p.1, vf p.2)))) (hN : (L.map Prod.fst).Nodup) (hbig : (mput l k v).length ≤ 140737488355328)
    (h : aopsR P ops stl r K fr (m.wth (L.set i (b, .map ((mput l k v).map fun p => (kf p.1, vf p.2)))))) :
    aopsR P ops stl (⟨none, .mapUpdate t x y z, ty, pos, af, gd⟩ :: r) K fr (m.wth L) := by
  simp only [aopsR, aopR, hg, ares, qv]
  intro n hk hn F lim w ca st
  have hopd := okOper_opd hk
  have h1 := evP_rep st (hopd x (by simp [Op.operands]))
  have h2 := evP_rep st (hopd y (by simp [Op.operands]))
  have h3 := evP_rep st (hopd z (by simp [Op.operands]))
  rw [hx] at h1
  rw [hy] at h2
  rw [hz] at h3
  have e1 : ca.eval x = .map (some b) := by generalize ca.eval x = q at h1; cases h1; rfl
  obtain ⟨w', r1, r2, r3⟩ := put_run (P := P) he st (wth_get (m := m) i hN hi) ht hke h2 h3 hbig
  rw [wth_set i hN hi] at r2
  exact ⟨.skip, undef, w', lim, _, _, by simp only [execOp, e1, Sem.run_bind, r1]; rfl, .inr ⟨rfl, rfl⟩, r2, r3, h⟩
theorem ar_delete (hg : gOn ops fr gd = some true) {κ ν : Type} [DecidableEq κ] {dk : TypeDesc} (i : Nat) (kf : κ → AV) {kc : κ → Value} (vf : ν → AV) (he : KeyEnc dk kf kc) (l : List (κ × ν)) (k : κ) {t t2 ke ve : TypeId} {x y : Operand} {b : Nat} (ht : P.underlying t = some (.map ke ve)) (hke : P.underlying ke = some dk)
    (hx : evP (rawOf fr) x = .map b) (hy : evP (rawOf fr) y = kf k) (hi : L[i]? = some (b, .map (l.map fun p => (kf p.1, vf p.2)))) (hN : (L.map Prod.fst).Nodup)
    (h : aopsR P ops stl r K fr (m.wth (L.set i (b, .map ((mdel l k).map fun p => (kf p.1, vf p.2)))))) :
    aopsR P ops stl (⟨none, .call ⟨.builtin .delete, #[x, y], #[t, t2]⟩, ty, pos, af, gd⟩ :: r) K fr (m.wth L) := by
  simp only [aopsR, aopR, hg, ares, qv]
  intro n hk hn F lim w ca st
  have hopd := okOper_opd hk
  have h1 := evP_rep st (hopd x (by simp [Op.operands, Call.operands]))
  have h2 := evP_rep st (hopd y (by simp [Op.operands, Call.operands]))
  rw [hx] at h1
  rw [hy] at h2
  have e1 : ca.eval x = .map (some b) := by generalize ca.eval x = q at h1; cases h1; rfl
  obtain ⟨w', r1, r2, r3⟩ := del_run (P := P) (t2 := t2) (ty := ty) he st (wth_get (m := m) i hN hi) ht hke h2
  rw [wth_set i hN hi] at r2
  have e2 : (#[x, y] : Array Operand).map ca.eval = #[.map (some b), ca.eval y] := by apply Array.ext'; simp [e1]
  refine ⟨.value (.tuple #[]), _, w', lim, _, _, ?_, .inl rfl, r2, r3, h⟩
  simp only [execOp, resolve, invoke, builtin, Sem.run_bind, Sem.run_pure, Result.andThen_ok, e2]
  rw [r1]; rfl
theorem awp_drop {c : Code} {Q : Exit → Fr → AMem → Prop} (L1 L2 : List (Nat × AObj)) (hN : ((L1 ++ L2).map Prod.fst).Nodup) (hF : ∀ b ∈ L1.map Prod.fst, m b = none) (h : AWP P n c Q fr (m.wth L2)) : AWP P n c Q fr (m.wth (L1 ++ L2)) :=
  fun F lim w ca st => h F lim w ca (st.memSub (wth_sub2 L1 L2 hN hF))
def bd1 : AV → Prop
  | .str s => s.length ≤ 140737488355328
  | .slice _ l => l.length ≤ 140737488355328
  | _ => True
def bdA : AV → Prop
  | .agg l => ∀ i, i < l.length → bd1 (l.getD i .junk)
  | x => bd1 x
theorem rep_bd1 {v : Value} {x : AV} {os : List Nat} (h : Rep w lim v x os) : bd1 x := by
  cases h with
  | str s h => show s.data.toList.length ≤ _; simp; exact h
  | nils own => simp [bd1]
  | empty a cap hm => simp [bd1]
  | slice b off n cap sz l cv hn hcap hm hbig => show l.length ≤ _; omega
  | own b n cap sz l cv cur e hn hcap hm hbig => show l.length ≤ _; omega
  | _ => trivial
theorem rep_bdA {v : Value} {x : AV} {os : List Nat} (h : Rep w lim v x os) : bdA x := by
  cases h with
  | agg cs xs os h hr => exact fun i hi => rep_bd1 (hr i hi)
  | str s h => show s.data.toList.length ≤ _; simp; exact h
  | nils own => simp [bdA, bd1]
  | empty a cap hm => simp [bdA, bd1]
  | slice b off n cap sz l cv hn hcap hm hbig => show l.length ≤ _; omega
  | own b n cap sz l cv cur e hn hcap hm hbig => show l.length ≤ _; omega
  | _ => trivial
theorem bd_map {α : Type} {f : α → AV} {o : Bool} {l : List α} (h : bd1 (.slice o (l.map f))) : l.length ≤ 140737488355328 := by
  have : (l.map f).length ≤ 140737488355328 := h
  simpa using this
theorem awp_strip {c : Code} {Q : Exit → Fr → AMem → Prop} (s : Nat) (hs : decide (s < n) = true) (h : AWP P n c Q (fr.strip [s]) m) : AWP P n c Q fr m := fun F lim w ca st => by
  obtain ⟨os, h1, _⟩ := st.takeRaw s (of_decide_eq_true hs)
  exact h F lim w ca h1.drop
end
end Go.Aw
end
section
namespace Go.Aw
open Go
section
variable {P : Program} {F : Nat → Prop} {lim : Nat → Nat} {w w' : World} {n : Nat} {fr : Fr} {m : AMem} {ca : Act} {fl : List Nat}
def pick {α : Type} : List α → List Nat → List α × List α
  | L, [] => ([], L)
  | L, i :: is => match L[i]? with
    | some a => (a :: (pick (L.eraseIdx i) is).1, (pick (L.eraseIdx i) is).2)
    | none => pick L is
theorem pick_one {α : Type} : ∀ {l : List α} {i : Nat} {a : α}, l[i]? = some a → l.Perm (a :: l.eraseIdx i)
  | [], _, _, h => by simp at h
  | x :: l, 0, a, h => by
    obtain rfl : x = a := by simpa using h
    exact .refl _
  | x :: l, i + 1, a, h => ((pick_one (l := l) (i := i) (by simpa using h)).cons x).trans (.swap _ _ _)
theorem pick_perm {α : Type} : ∀ (is : List Nat) (L : List α), L.Perm ((pick L is).1 ++ (pick L is).2)
  | [], L => .refl _
  | i :: is, L => by
    unfold pick
    split
    · next a h =>
      exact (pick_one h).trans (List.Perm.cons _ (pick_perm is _))
    · exact pick_perm is L
theorem drop_nodup {L L1 L2 : List (Nat × AObj)} (hN : (L.map Prod.fst).Nodup) (hp : L.Perm (L1 ++ L2)) : (L2.map Prod.fst).Nodup := by
  have h := (hp.map Prod.fst).nodup_iff.1 hN
  rw [List.map_append] at h
  exact (List.nodup_append.1 h).2.1
theorem awp_dropP {c : Code} {Q : Exit → Fr → AMem → Prop} {L : List (Nat × AObj)} (L1 L2 : List (Nat × AObj)) (hN : (L.map Prod.fst).Nodup) (hp : L.Perm (L1 ++ L2)) (hF : ∀ b ∈ L1.map Prod.fst, m b = none) (h : AWP P n c Q fr (m.wth L2)) : AWP P n c Q fr (m.wth L) := by
  rw [wth_perm hN hp]
  exact awp_drop L1 L2 ((hp.map Prod.fst).nodup_iff.1 hN) hF h
end
end Go.Aw
end
section
namespace Go.Aw
open Go Go.RowKit Go.WideShapes Go.ChangeShapes
section
variable {P : Program} {fuel : Nat} {t e : TypeId}
theorem weightsEach_mem {H : Type} : ∀ {ts : List TypeId} {ds : List (DataW H)} {i : Nat} {t : TypeId} {d : DataW H}, ts[i]? = some t → ds[i]? = some d → ∀ n ∈ d.weights P t, n ∈ DataW.weightsEach P ts ds
  | a :: ts, b :: ds, 0, t, d, ht, hd, n, hn => by
    simp only [List.getElem?_cons_zero, Option.some.injEq] at ht hd
    subst ht; subst hd
    exact List.mem_append_left _ hn
  | a :: ts, b :: ds, i + 1, t, d, ht, hd, n, hn => by
    simp only [List.getElem?_cons_succ] at ht hd
    exact List.mem_append_right _ (weightsEach_mem ht hd n hn)
  | [], _, i, t, d, ht, _, _, _ => by simp at ht
  | _ :: _, [], i, t, d, _, hd, _, _ => by simp at hd
theorem rd_fields {fs : Array Field} (ht : P.underlying t = some (.struct fs)) {H : Type} {enc : TypeId × Value → H} {W : World} {sp : Nat → Bool} {cs : List Value} {d : DataW H} {ps : List MemPlace} (h : DataW.trod enc P W 0 sp true fuel t cs = some (d, ps)) (hw : ∀ n ∈ d.weights P t, n ≤ reachBytes) :
    cs.length = P.cellsOf t ∧ ∀ (i : Nat) (f : Field) {α : Type} (g : α → AV), fs[i]? = some f → (∀ n, n < fuel → Rd P n f.type g) → f.offset + P.cellsOf f.type ≤ P.cellsOf t →
      ∃ x : α, (g x).cells.length = P.cellsOf f.type ∧ ∀ j, j < P.cellsOf f.type → Rep W (limOf W) (cs.getD (f.offset + j) undef) ((g x).cells.getD j .junk) [] := by
  obtain ⟨xs, n, rfl, hx, hl, hxl, hf⟩ := DataW.trod_struct ht h
  simp only [Prod.mk.injEq] at hx
  obtain ⟨rfl, rfl⟩ := hx
  refine ⟨hl, fun i f α g hi hr ho => ?_⟩
  have h1 := hf i f hi
  have hi2 : i < xs.length := by
    rw [hxl]; exact (Array.getElem?_eq_some_iff.1 hi).1
  rw [List.getElem?_eq_getElem hi2] at h1
  have h1' : DataW.trod enc P W 0 sp true n f.type ((cs.drop f.offset).take (P.cellsOf f.type)) = some ((xs[i]).1, (xs[i]).2) := h1
  simp only [DataW.weights, ht] at hw
  obtain ⟨x, hx1, hx2⟩ := hr n (Nat.lt_succ_self n) H enc W sp _ _ _ h1' (fun k hk => hw k (weightsEach_mem (i := i) (t := f.type) (by simp [hi]) (by simp [hi2]) k hk))
  have hlen : ((cs.drop f.offset).take (P.cellsOf f.type)).length = P.cellsOf f.type := by
    rw [List.length_take, List.length_drop]; omega
  refine ⟨x, by rw [hx1, hlen], fun j hj => ?_⟩
  have h2 := hx2 j (by omega)
  have e : ((cs.drop f.offset).take (P.cellsOf f.type)).getD j undef = cs.getD (f.offset + j) undef := by
    simp [List.getD_eq_getElem?_getD, hj]
  rwa [e] at h2
end
end Go.Aw
end
