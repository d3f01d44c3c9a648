/-
  The abstract layer, part 20: a region whose order is open but for its end: what only reads in any order; then, in the text's order, what makes and writes.
-/
import Derived.Test.YtoeghipbkmaccaaWwR
namespace Go.Aw
open Go

section
variable {P : Program} {n : Nat} {fr : Fr} {m : AMem}

def edges (ops : Array Oper) (i : Nat) : List Nat :=
  match ops[i]? with
  | some o => (o.after.toList.filter (Region.binds .any)).map (·.on)
  | none => []

/-- What stands before, at one remove or more. -/
def closure (ops : Array Oper) : Nat → List Nat → List Nat
  | 0, S => S
  | j + 1, S => closure ops j (if S.contains j then edges ops j ++ S else S)

theorem closure_listed {ops : Array Oper} {p : Nat → Prop} (hp : ∀ j, p j → ∀ e ∈ edges ops j, p e) : ∀ (k : Nat) (S : List Nat), (∀ j ∈ S, p j) → ∀ j ∈ closure ops k S, p j := by
  intro k
  induction k with
  | zero => intro S h; exact h
  | succ k ih =>
    intro S h
    simp only [closure]
    refine ih _ ?_
    split
    · next hc =>
      intro j hj
      rcases List.mem_append.1 hj with hj | hj
      · exact hp k (h k (by simpa using hc)) j hj
      · exact h j hj
    · exact h

theorem edges_mem {ops : Array Oper} {i j : Nat} {o : Oper} (ho : ops[i]? = some o) : j ∈ edges ops i ↔ ∃ e ∈ o.after, Region.binds .any e = true ∧ e.on = j := by
  simp [edges, ho, and_assoc]

/-- The first p read, in any order; each one behind them stands behind all before it. -/
def drawTail (ops : Array Oper) (p : Nat) (al : List (Nat × Nat)) : Bool :=
  decide (p ≤ ops.size) &&
  ((List.range ops.size).all fun i => (edges ops i).all fun e => decide (e < i)) &&
  ((List.range ops.size).all fun i => decide (i < p) || (List.range i).all fun j => (closure ops i (edges ops i)).contains j) &&
  ((List.range p).all fun i =>
    match ops[i]? with
    | some o =>
      o.dst.isSome &&
      (List.range p).all fun j =>
        match ops[j]? with
        | some q =>
          (decide (i = j) || !(o.dst == q.dst)) &&
          (match q.dst with
          | some d => !((slotsOf ops o).contains d) || (if j < i then edgeTo o j else if i < j then edgeTo q i else true)
          | none => true)
        | none => true
    | none => true) &&
  al.all fun (d, s) =>
    (List.range p).any (fun j => match ops[j]? with | some o => o.dst == some d && o.guard.isNone && (match o.op with | .move (.tmp t) => t == s | _ => false) | none => false) &&
    (List.range p).all fun j => match ops[j]? with | some o => !(o.dst == some s) | none => true

structure TailFacts (ops : Array Oper) (p : Nat) : Prop where
  le : p ≤ ops.size
  back : ∀ (i : Nat) (o : Oper) (e : Edge), ops[i]? = some o → e ∈ o.after → Region.binds .any e = true → e.on < i
  tail : ∀ (i : Nat), p ≤ i → i < ops.size → ∀ j, j < i → j ∈ closure ops i (edges ops i)
  dst : ∀ (i : Nat) (o : Oper), i < p → ops[i]? = some o → ∃ d, o.dst = some d
  apart : ∀ (i j : Nat) (o q : Oper), i < p → j < p → ops[i]? = some o → ops[j]? = some q → o.dst = q.dst → i = j
  looks : ∀ (i j : Nat) (o q : Oper) (d : Nat), i < p → j < p → ops[i]? = some o → ops[j]? = some q → q.dst = some d → d ∈ slotsOf ops o → (j < i → ∃ e ∈ o.after, e.on = j ∧ Region.binds .any e = true) ∧ (i < j → ∃ e ∈ q.after, e.on = i ∧ Region.binds .any e = true)

theorem tailFacts {ops : Array Oper} {p : Nat} {al : List (Nat × Nat)} (h : drawTail ops p al = true) : TailFacts ops p := by
  unfold drawTail at h
  rw [Bool.and_eq_true, Bool.and_eq_true, Bool.and_eq_true, Bool.and_eq_true] at h
  obtain ⟨⟨⟨⟨h1, h2⟩, h3⟩, h4⟩, _⟩ := h
  have hlt : ∀ {i : Nat} {o : Oper}, ops[i]? = some o → i < ops.size := fun hi => (Array.getElem?_eq_some_iff.1 hi).1
  simp only [List.all_eq_true, List.mem_range, decide_eq_true_eq, Bool.or_eq_true] at h1 h2 h3 h4
  refine ⟨h1, fun i o e hi he hb => ?_, fun i hp hi j hj => ?_, fun i o hp hi => ?_, fun i j o q hip hjp hi hj hd => ?_, fun i j o q d hip hjp hi hj hq hd => ?_⟩
  · exact h2 i (hlt hi) e.on ((edges_mem hi).2 ⟨e, he, hb, rfl⟩)
  · rcases h3 i hi with h | h
    · omega
    · have := h j hj
      simpa using this
  · have := h4 i hp
    simp only [hi, Bool.and_eq_true] at this
    exact Option.isSome_iff_exists.1 this.1
  · have := h4 i hip
    simp only [hi, Bool.and_eq_true, List.all_eq_true, List.mem_range] at this
    have := this.2 j hjp
    simp only [hj, Bool.and_eq_true, Bool.or_eq_true, decide_eq_true_eq] at this
    rcases this.1 with h | h
    · exact h
    · rw [hd] at h; simp at h
  · have := h4 i hip
    simp only [hi, Bool.and_eq_true, List.all_eq_true, List.mem_range] at this
    have := this.2 j hjp
    simp only [hj, hq, Bool.and_eq_true, Bool.or_eq_true] at this
    have := this.2
    have hc : (slotsOf ops o).contains d = true := by simpa using hd
    rw [hc] at this
    simp only [Bool.not_true, Bool.false_eq_true, false_or] at this
    refine ⟨fun hji => ?_, fun hij => ?_⟩
    · rw [if_pos hji] at this; exact edgeTo_iff this
    · rw [if_neg (by omega), if_pos hij] at this; exact edgeTo_iff this

theorem text_frames' {ops : Array Oper} {p : Nat} (D : TailFacts ops p) {T : Nat → Fr} {val : Nat → AV} (h0 : T 0 = fr) (hs : ∀ (i : Nat) (o : Oper), i < p → ops[i]? = some o → T (i + 1) = putO (T i) o.dst (val i)) :
    ∀ i, i ≤ p → ∀ t, (∀ (j : Nat) (o : Oper), j < i → ops[j]? = some o → o.dst = some t → rawOf (T i) t = val j) ∧ ((∀ (j : Nat) (o : Oper), j < i → ops[j]? = some o → o.dst ≠ some t) → rawOf (T i) t = rawOf fr t) := by
  intro i
  induction i with
  | zero => intro _ t; exact ⟨fun j o hj => absurd hj (Nat.not_lt_zero _), fun _ => by rw [h0]⟩
  | succ i ih =>
    intro hi t
    have hip : i < p := hi
    have hlt : i < ops.size := Nat.lt_of_lt_of_le hip D.le
    obtain ⟨ih1, ih2⟩ := ih (by omega) t
    have ho : ops[i]? = some ops[i] := Array.getElem?_eq_getElem hlt
    obtain ⟨d, hd⟩ := D.dst i _ hip ho
    have hT := hs i _ hip ho
    rw [hd] at hT
    simp only [putO] at hT
    rw [hT, rawOf_put]
    refine ⟨fun j o hj hjo hdt => ?_, fun hno => ?_⟩
    · by_cases e : d = t
      · subst e
        have : j = i := D.apart j i o _ (by omega) hip hjo ho (by rw [hdt, hd])
        subst this
        simp
      · rw [if_neg e]
        refine ih1 j o ?_ hjo hdt
        rcases Nat.lt_succ_iff_lt_or_eq.1 hj with h | h
        · exact h
        · subst h
          rw [ho] at hjo
          cases hjo
          rw [hd] at hdt
          exact (e (by simpa using hdt)).elim
    · have e : ¬ d = t := fun e => hno i _ (Nat.lt_succ_self i) ho (by rw [hd, e])
      rw [if_neg e]
      exact ih2 fun j o hj hjo => hno j o (by omega) hjo

/-- The end of the region, in the text's order. -/
theorem tail_wp {ops : Array Oper} {p : Nat} (D : TailFacts ops p) {Q : Exit → Act → World → Prop} : ∀ (fuel k : Nat) (listed : Array Bool) (ca : Act) (w : World), p ≤ k → k ≤ ops.size → ops.size - k ≤ fuel → listed.size = ops.size →
    (∀ j, j < ops.size → (listed.getD j false = true ↔ j < k)) → wpList P ops Q (ops.toList.drop k) ca w → wpAny P .any ops Q fuel listed ca w := by
  intro fuel
  have rdy : ∀ (k : Nat) (listed : Array Bool), k < ops.size → listed.size = ops.size → (∀ j, j < ops.size → (listed.getD j false = true ↔ j < k)) → k ∈ Region.ready .any ops listed := fun k listed hk hls hl => by
    rw [mem_ready]
    have ho : ops[k]? = some ops[k] := Array.getElem?_eq_getElem hk
    refine ⟨?_, _, ho, fun e he hb => ?_⟩
    · have : listed.getD k false ≠ true := fun h => absurd ((hl k hk).1 h) (Nat.lt_irrefl _)
      simp only [Array.getD_eq_getD_getElem?, Array.getElem?_eq_getElem (show k < listed.size by omega), Option.getD_some] at this ⊢
      simpa using this
    · have := D.back k _ e ho he hb
      exact (hl e.on (by omega)).2 this
  have nil : ∀ (k : Nat) (listed : Array Bool) (ca : Act) (w : World), k ≤ ops.size → listed.size = ops.size → (∀ j, j < ops.size → (listed.getD j false = true ↔ j < k)) → wpList P ops Q (ops.toList.drop k) ca w → Region.ready .any ops listed = [] → Q .normal ca w := fun k listed ca w hk hls hl h hr => by
    by_cases e : k = ops.size
    · subst e
      rw [List.drop_of_length_le (by simp)] at h
      exact h
    · have := rdy k listed (by omega) hls hl
      rw [hr] at this; cases this
  induction fuel with
  | zero =>
    intro k listed ca w hpk hk hf hls hl h
    have e : k = ops.size := by omega
    have hr : Region.ready .any ops listed = [] := by
      cases hr : Region.ready .any ops listed with
      | nil => rfl
      | cons j rs =>
        have hj : j ∈ Region.ready .any ops listed := by rw [hr]; simp
        rw [mem_ready] at hj
        obtain ⟨h1, o, ho, _⟩ := hj
        have hjs : j < ops.size := (Array.getElem?_eq_some_iff.1 ho).1
        have := (hl j hjs).2 (by omega)
        simp only [Array.getD_eq_getD_getElem?, Array.getElem?_eq_getElem (show j < listed.size by omega), Option.getD_some] at h1 this
        rw [h1] at this; cases this
    exact ⟨hr, nil k listed ca w hk hls hl h hr⟩
  | succ fuel ih =>
    intro k listed ca w hpk hk hf hls hl h
    refine ⟨nil k listed ca w hk hls hl h, fun i hi => ?_⟩
    have hi' := hi
    rw [mem_ready] at hi'
    obtain ⟨hnl, o, ho, hedge⟩ := hi'
    have hio : i < ops.size := (Array.getElem?_eq_some_iff.1 ho).1
    have hki : k ≤ i := by
      rcases Nat.lt_or_ge i k with hlt | hge
      · have := (hl i hio).2 hlt
        simp only [Array.getD_eq_getD_getElem?, Array.getElem?_eq_getElem (show i < listed.size by omega), Option.getD_some] at hnl this
        rw [hnl] at this; cases this
      · exact hge
    have hik : i = k := by
      rcases Nat.lt_or_ge k i with hlt | hge
      · have hall := closure_listed (ops := ops) (p := fun j => j < k) (fun j hj e he => by
          have hjs : j < ops.size := by omega
          have hjo : ops[j]? = some ops[j] := Array.getElem?_eq_getElem hjs
          obtain ⟨ed, h1, h2, rfl⟩ := (edges_mem hjo).1 he
          have := D.back j _ ed hjo h1 h2
          omega) i (edges ops i) (fun j hj => by
          obtain ⟨ed, h1, h2, rfl⟩ := (edges_mem ho).1 hj
          have h3 := hedge ed h1 h2
          have := D.back i _ ed ho h1 h2
          exact (hl ed.on (by omega)).1 h3)
        have := hall k (D.tail i (by omega) hio k hlt)
        omega
      · omega
    subst hik
    have hdrop : ops.toList.drop i = o :: ops.toList.drop (i + 1) := by
      have : i < ops.toList.length := by simpa using hio
      rw [List.drop_eq_getElem_cons this]
      congr 1
      rw [Array.getElem?_eq_getElem hio] at ho
      simpa using ho
    rw [hdrop] at h
    have key : ∀ a w, wpList P ops Q (ops.toList.drop (i + 1)) a w → wpAny P .any ops Q fuel (listed.setIfInBounds i true) a w := fun a w h => ih (i + 1) _ a w (by omega) (by omega) (by omega) (by simp [hls]) (fun j hj => by
      by_cases e : i = j
      · subst e; simp [hls, hj]
      · rw [getD_set_ne false e, hl j hj]; omega) h
    show wpOp P ops _ i _ ca w
    unfold wpOp
    rw [ho]
    unfold wpList at h
    show if Region.wanted o (yielded ops ca.tmps) then _ else _
    split at h
    · next hw =>
      rw [if_pos hw]
      rcases h with h | h
      · exact .inl (Oper.wp_mono key h)
      · exact .inr h
    · next hw =>
      rw [if_neg hw]
      exact key _ _ h

/-- What slots own, taken over by the slots that hold the same. -/
def Fr.alias (fr : Fr) : List (Nat × Nat) → Fr
  | [] => fr
  | (d, s) :: r => Fr.alias ((fr.put s (rawOf fr s).plain).put d (rawOf fr s)) r

theorem St.alias {F : Nat → Prop} {lim : Nat → Nat} {w : World} {ca : Act} : ∀ (al : List (Nat × Nat)) {fr : Fr}, St F lim w n fr m ca [] → (∀ x ∈ al, x.1 < n ∧ x.2 < n ∧ ca.tmps.getD x.1 undef = ca.tmps.getD x.2 undef) → St F lim w n (fr.alias al) m ca [] := by
  intro al
  induction al with
  | nil => intro fr h _; exact h
  | cons a al ih =>
    obtain ⟨d, s⟩ := a
    intro fr h hal
    obtain ⟨h1, h2, h3⟩ := hal (d, s) (by simp)
    simp only at h1 h2 h3
    refine ih ?_ fun x hx => hal x (by simp [hx])
    obtain ⟨os, k1, k2⟩ := h.takeRaw s h2
    have k3 := k1.setOwn h1 k2
    have hsz : ca.tmps.size = n := by obtain ⟨_, _, _, h⟩ := h; exact h.size
    have e : ca.put (some d) (ca.tmps.getD s undef) = ca := by
      rw [← h3]
      obtain ⟨tmps, defers⟩ := ca
      have e' : tmps.setIfInBounds d (tmps.getD d undef) = tmps := by
        apply Array.ext (by simp)
        intro i hi hi'
        by_cases e : d = i
        · subst e; simp [Array.getD, hi']
        · rw [Array.getElem_setIfInBounds_ne hi' e]
      simp only [Act.put, e']
    rw [e, strip_one] at k3
    exact k3

end
end Go.Aw
