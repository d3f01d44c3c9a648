import Derived.Test.YtfpbolgpaipiiaaProg
import Derived.Test.YtfpbolgpaipiiaaMix
import Derived.Test.YtfpbolgpaipiiaaWxc
import Derived.Test.YtfpbolgpaipiiaaGr11
namespace Go.Proofs
open Go Go.Aw
set_option maxRecDepth 100000


def ordTo (needs : List (List Int)) (D : Int → Int) (w : Int) : List Int := (upto w).flatMap fun v => (upto needs.length).filter fun i => D i == v + 1
theorem flatten_nonempty {α : Type} [BEq α] [LawfulBEq α] (ls : List (List α)) : (ls.filter (· != [])).flatten = ls.flatten := by
  induction ls with
  | nil => rfl
  | cons a ls ih =>
    by_cases h : a = []
    · subst h; simp [ih]
    · simp [h, ih]
theorem groups_flat (needs : List (List Int)) (D : Int → Int) (w : Int) : (groupsTo needs D w).flatten = ordTo needs D w := by
  rw [groupsTo, flatten_nonempty, ordTo, List.flatMap]
theorem ordTo_succ {needs : List (List Int)} {D : Int → Int} {w : Int} (h : 0 ≤ w) : ordTo needs D (w + 1) = ordTo needs D w ++ (upto needs.length).filter fun i => D i == w + 1 := by
  rw [ordTo, upto_succ h, List.flatMap_append]; simp [ordTo]
theorem ordTo_mem {needs : List (List Int)} {D : Int → Int} {w x : Int} : x ∈ ordTo needs D w ↔ InN needs x ∧ 1 ≤ D x ∧ D x ≤ w := by
  simp only [ordTo, List.mem_flatMap, upto_mem, List.mem_filter, beq_iff_eq, InN]
  exact ⟨fun ⟨v, hv, hx, e⟩ => ⟨hx, by omega, by omega⟩, fun ⟨hx, h1, h2⟩ => ⟨D x - 1, by omega, hx, by omega⟩⟩
theorem upto_pair (n : Nat) : (upto (n : Int)).Pairwise (· < ·) := by
  induction n with
  | zero => simp [upto]
  | succ n ih =>
    have e : ((n + 1 : Nat) : Int) = (n : Int) + 1 := by omega
    rw [e, upto_succ (by omega), List.pairwise_append]
    exact ⟨ih, by simp, fun a ha b hb => by have := upto_mem.1 ha; simp at hb; omega⟩
theorem ordTo_pair (needs : List (List Int)) (D : Int → Int) : ∀ w : Nat, (ordTo needs D w).Pairwise fun a b => D a < D b ∨ (D a = D b ∧ a < b) := by
  intro w
  induction w with
  | zero => simp [ordTo, upto]
  | succ w ih =>
    have e : ((w + 1 : Nat) : Int) = (w : Int) + 1 := by omega
    rw [e, ordTo_succ (by omega), List.pairwise_append]
    refine ⟨ih, ?_, fun a ha b hb => ?_⟩
    · have h1 := (upto_pair needs.length).filter (fun i => D i == (w : Int) + 1)
      refine h1.imp_of_mem fun {a b} ha hb hab => ?_
      have ha := (List.mem_filter.1 ha).2
      have hb := (List.mem_filter.1 hb).2
      simp at ha hb
      exact .inr ⟨by omega, hab⟩
    · have h1 := ordTo_mem.1 ha
      have h2 := (List.mem_filter.1 hb).2
      simp at h2
      exact .inl (by omega)
theorem ordTo_len {needs : List (List Int)} {D : Int → Int} (hD : ∀ j, InN needs j → 1 ≤ D j) : ∀ w : Nat, (ordTo needs D w).length = ((upto needs.length).filter fun i => decide (D i ≤ w)).length := by
  intro w
  induction w with
  | zero =>
    have : ((upto needs.length).filter fun i => decide (D i ≤ ((0 : Nat) : Int))) = [] := by
      rw [List.filter_eq_nil_iff]
      intro i hi
      have := hD i (upto_mem.1 hi)
      simp; omega
    rw [this]; simp [ordTo, upto]
  | succ w ih =>
    have e : ((w + 1 : Nat) : Int) = (w : Int) + 1 := by omega
    rw [e, ordTo_succ (by omega), List.length_append, ih, ← filter_or_len _ _ _ (fun i _ hh => by simp at hh; omega)]
    congr 1
    refine List.filter_congr fun i _ => ?_
    rw [Bool.eq_iff_iff]
    simp; omega
/-- What is known of an order. -/
structure OrdI (needs : List (List Int)) (D : Int → Int) (l : List Int) : Prop where
  len : l.length = needs.length
  rng : ∀ q : Int, 0 ≤ q → q < l.length → InN needs (gI l q)
  lt : ∀ p q : Int, 0 ≤ p → p < q → q < l.length → D (gI l p) < D (gI l q) ∨ (D (gI l p) = D (gI l q) ∧ gI l p < gI l q)
  sur : ∀ j, InN needs j → ∃ q : Int, 0 ≤ q ∧ q < l.length ∧ gI l q = j
theorem ord_ok {needs : List (List Int)} {D : Int → Int} (hD : IsDepth needs D) : OrdI needs D (groupsTo needs D needs.length).flatten := by
  rw [groups_flat]
  refine ⟨?_, fun q h0 h1 => (ordTo_mem.1 (gI_mem h0 h1)).1, fun p q h0 h1 h2 => ?_, fun j hj => ?_⟩
  · rw [ordTo_len (fun j hj => (hD j hj).1), List.filter_eq_self.2 (fun i hi => by
      have := (hD i (upto_mem.1 hi)).2.1
      simpa using this)]
    simp [upto]
  · have h := List.pairwise_iff_getElem.1 (ordTo_pair needs D needs.length) p.toNat q.toNat (by omega) (by omega) (by omega)
    simpa [gI, List.getD_eq_getElem?_getD, show p.toNat < (ordTo needs D needs.length).length by omega, show q.toNat < (ordTo needs D needs.length).length by omega] using h
  · have hm : j ∈ ordTo needs D needs.length := ordTo_mem.2 ⟨hj, (hD j hj).1, (hD j hj).2.1⟩
    obtain ⟨k, hk, e⟩ := List.getElem_of_mem hm
    exact ⟨k, by omega, by omega, by simpa [gI, List.getD_eq_getElem?_getD, hk] using e⟩
/-- Places that were noted. -/
structure PlI (needs : List (List Int)) (l pl : List Int) (k : Int) : Prop where
  len : pl.length = needs.length
  old : ∀ j, InN needs j → gI pl j < 0 ∨ ∃ q : Int, 0 ≤ q ∧ q < k ∧ gI l q = j
  new : ∀ q : Int, 0 ≤ q → q < k → gI pl (gI l q) = q
theorem PlI.step {needs : List (List Int)} {D : Int → Int} {l pl : List Int} {k : Int} (ho : OrdI needs D l) (h : PlI needs l pl k) (h0 : 0 ≤ k) (hk : k < l.length) : PlI needs l (pl.set (gI l k).toNat k) (k + 1) := by
  have hr := ho.rng k h0 hk
  have hne : ∀ q, 0 ≤ q → q < k → gI l q ≠ gI l k := fun q h1 h2 e => by
    have := ho.lt q k h1 h2 hk
    rw [e] at this; omega
  refine ⟨by rw [List.length_set]; exact h.len, fun j hj => ?_, fun q h1 h2 => ?_⟩
  · rw [gI_set hr.1 (by rw [h.len]; exact hr.2) hj.1]
    split
    · rename_i e; exact .inr ⟨k, h0, by omega, e.symm⟩
    · rcases h.old j hj with h3 | ⟨q, h3, h4, h5⟩
      · exact .inl h3
      · exact .inr ⟨q, h3, by omega, h5⟩
  · rw [gI_set hr.1 (by rw [h.len]; exact hr.2) (ho.rng q h1 (by omega)).1]
    split
    · rename_i e
      by_cases hq : q = k
      · exact hq.symm
      · exact absurd e (hne q h1 (by omega))
    · rename_i e
      have hq : q ≠ k := fun hq => e (by rw [hq])
      exact h.new q h1 (by omega)
theorem PlI.fresh {needs : List (List Int)} {D : Int → Int} {l pl : List Int} {k : Int} (ho : OrdI needs D l) (h : PlI needs l pl k) (h0 : 0 ≤ k) (hk : k < l.length) : gI pl (gI l k) < 0 := by
  rcases h.old _ (ho.rng k h0 hk) with h1 | ⟨q, h1, h2, h3⟩
  · exact h1
  · have := ho.lt q k h1 h2 hk
    rw [h3] at this; omega
theorem PlI.lt {needs : List (List Int)} {D : Int → Int} {l pl : List Int} (hD : IsDepth needs D) (hok : okN needs = true) (ho : OrdI needs D l) (h : PlI needs l pl l.length) {i k : Int} (hi : InN needs i) (hk : k ∈ gI needs i) : gI pl k < gI pl i := by
  obtain ⟨p, p0, p1, rfl⟩ := ho.sur k (need_in hok hi hk)
  obtain ⟨q, q0, q1, rfl⟩ := ho.sur i hi
  rw [h.new p p0 p1, h.new q q0 q1]
  have h1 := (hD _ hi).2.2.1 _ hk
  by_cases hpq : p < q
  · exact hpq
  · exfalso
    by_cases e : p = q
    · subst e; omega
    · have := ho.lt q p q0 (by omega) p1
      omega
theorem filter_lt {l : List Int} {p q : Int → Bool} (h : ∀ x ∈ l, p x = true → q x = true) {k : Int} (hk : k ∈ l) (h1 : p k = false) (h2 : q k = true) : (l.filter p).length < (l.filter q).length := by
  induction l with
  | nil => cases hk
  | cons a l ih =>
    have hle : (l.filter p).length ≤ (l.filter q).length := by
      have hh : ∀ x ∈ l, p x = true → q x = true := fun x hx => h x (by simp [hx])
      clear ih hk h
      induction l with
      | nil => simp
      | cons b l ih =>
        have := ih (fun x hx => hh x (by simp [hx]))
        have hb := hh b (by simp)
        cases hp : p b <;> cases hq : q b <;> simp_all [List.filter_cons] <;> omega
    rcases List.mem_cons.1 hk with rfl | hk
    · simp [List.filter_cons, h1, h2]; omega
    · have := ih (fun x hx => h x (by simp [hx])) hk
      have ha := h a (by simp)
      cases hp : p a <;> cases hq : q a <;> simp_all [List.filter_cons] <;> omega
theorem rch_sub {f : Int → List Int} {l : List Int} {k : Int} (hk : Rch f l k) {x : Int} (hx : Rch f (f k) x) : Rch f l x := by
  induction hx with
  | here hm => exact .step hk hm
  | step _ hy ih => exact .step ih hy
theorem cyc_self {needs : List (List Int)} (hok : okN needs = true) {U : Int → Prop} {j : Int} (hU : IsCyc needs U) (hj : U j) : ∃ i, InN needs i ∧ Rch (underF needs) (gI needs i) i := by
  by_cases hno : ∃ i, InN needs i ∧ Rch (underF needs) (gI needs i) i
  · exact hno
  · exfalso
    have key : ∀ n : Nat, ∀ j, U j → (rchL (underF needs) (gI needs j) needs.length).length = n → False := by
      intro n
      induction n using Nat.strongRecOn with
      | ind n ih =>
        intro j hj hn
        obtain ⟨hin, k, hk, hUk⟩ := hU j hj
        have hkin := (hU k hUk).1
        refine ih _ ?_ k hUk rfl
        rw [← hn]
        unfold rchL
        refine filter_lt (k := k) (fun x _ hx => ?_) (upto_mem.2 hkin) ?_ ?_
        · have hx' := (@decide_eq_true_iff _ (Classical.propDecidable _)).1 hx
          exact (@decide_eq_true_iff _ (Classical.propDecidable _)).2 (rch_sub (.here hk) hx')
        · rw [Bool.eq_false_iff]
          intro hx
          exact hno ⟨k, hkin, (@decide_eq_true_iff _ (Classical.propDecidable _)).1 hx⟩
        · exact (@decide_eq_true_iff _ (Classical.propDecidable _)).2 (.here hk)
    exact key _ j hj rfl
theorem cyc_under {needs : List (List Int)} (hok : okN needs = true) {i : Int} (hi : InN needs i) (h : Rch (underF needs) (gI needs i) i) : ∃ q : Int, 0 ≤ q ∧ q < (reachR needs (gI needs i) false).1.length ∧ gI (reachR needs (gI needs i) false).1 q = i := by
  have hl : okL needs.length (gI needs i) = true := under_ok hok i hi.1 hi.2
  rw [reach_under hok hl]
  have hm : i ∈ rchL (underF needs) (gI needs i) needs.length := List.mem_filter.2 ⟨upto_mem.2 hi, (@decide_eq_true_iff _ (Classical.propDecidable _)).2 h⟩
  obtain ⟨k, hk, e⟩ := List.getElem_of_mem hm
  exact ⟨k, by omega, by simpa using hk, by
    show (rchL _ _ _).getD (k : Int).toNat default = i
    rw [Int.toNat_natCast, List.getD_eq_getElem?_getD, List.getElem?_eq_getElem hk]; exact e⟩

end Go.Proofs
