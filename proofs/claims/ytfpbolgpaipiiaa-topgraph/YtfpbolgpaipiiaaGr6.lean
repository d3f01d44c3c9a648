import Derived.Test.YtfpbolgpaipiiaaProg
import Derived.Test.YtfpbolgpaipiiaaMix
import Derived.Test.YtfpbolgpaipiiaaWwZ
import Derived.Test.YtfpbolgpaipiiaaGr5
namespace Go.Proofs
open Go Go.Aw
set_option maxRecDepth 100000


/-- All that is marked in s is marked in t. -/
def MarkLe (s t : List Bool) : Prop := ∀ x, 0 ≤ x → gI s x = true → gI t x = true
theorem MarkLe.refl (s : List Bool) : MarkLe s s := fun _ _ h => h
theorem MarkLe.trans {s t u : List Bool} (h : MarkLe s t) (k : MarkLe t u) : MarkLe s u := fun x h0 hx => k x h0 (h x h0 hx)
theorem gI_lt {l : List Bool} {x : Int} (h0 : 0 ≤ x) (h : gI l x = true) : x < l.length := by
  by_cases hx : x.toNat < l.length
  · omega
  · simp [gI, List.getD_eq_getElem?_getD, List.getElem?_eq_none (Nat.le_of_not_lt hx)] at h
def EOk (n : Int) (E : List (Int × Int)) : Prop := ∀ e ∈ E, (0 ≤ e.1 ∧ e.1 < n) ∧ 0 ≤ e.2 ∧ e.2 < n
theorem es_le {s : List Bool} {e : Int × Int} (h : 0 ≤ e.2 ∧ e.2 < s.length) : MarkLe s (es s e) := by
  intro x h0 hx
  unfold es
  split
  · rw [gI_set h.1 h.2 h0]; split
    · rfl
    · exact hx
  · exact hx
theorem foldEs_le (E : List (Int × Int)) : ∀ s : List Bool, EOk s.length E → MarkLe s (E.foldl es s) := by
  induction E with
  | nil => intro s _; exact MarkLe.refl s
  | cons e E ih =>
    intro s h
    rw [List.foldl_cons]
    exact (es_le (h e (by simp)).2).trans (ih _ (fun e he => by rw [es_len]; exact h e (by simp [he])))
theorem falses_le {s : List Bool} {e : Int × Int} (h : 0 ≤ e.2 ∧ e.2 < s.length) : falses (es s e) ≤ falses s := by
  unfold es
  split
  · by_cases hx : gI s e.2 = true
    · have : s.set e.2.toNat true = s := by
        refine List.ext_getElem (by simp) fun i h1 h2 => ?_
        rw [List.getElem_set]
        split
        · rename_i hi
          have : e.2.toNat < s.length := by omega
          simp [gI, List.getD_eq_getElem?_getD, this] at hx
          rw [← hi.symm.symm] at h2; subst hi; exact hx.symm
        · rfl
      rw [this]; exact Nat.le_refl _
    · have := falses_set h.1 h.2 (by simpa using hx); omega
  · exact Nat.le_refl _
/-- A round adds one mark at least, or nothing is left to add. -/
theorem foldEs_or (E : List (Int × Int)) : ∀ s : List Bool, EOk s.length E → (falses (E.foldl es s) < falses s ∨ (E.foldl es s = s ∧ ∀ e ∈ E, gI s e.1 = true → gI s e.2 = true)) ∧ falses (E.foldl es s) ≤ falses s := by
  induction E with
  | nil => intro s _; exact ⟨.inr ⟨rfl, by simp⟩, Nat.le_refl _⟩
  | cons e E ih =>
    intro s h
    rw [List.foldl_cons]
    have hk : EOk (es s e).length E := fun e he => by rw [es_len]; exact h e (by simp [he])
    have := ih (es s e) hk
    have hb := (h e (by simp)).2
    refine ⟨?_, Nat.le_trans this.2 (falses_le hb)⟩
    by_cases h1 : gI s e.1 = true
    · by_cases h2 : gI s e.2 = true
      · have e1 : es s e = s := by
          unfold es; rw [if_pos h1]
          refine List.ext_getElem (by simp) fun i h1 h2' => ?_
          rw [List.getElem_set]
          split
          · rename_i hi
            subst hi
            simp [gI, List.getD_eq_getElem?_getD, h2'] at h2
            exact h2.symm
          · rfl
        rw [e1] at this ⊢
        rcases this.1 with h3 | ⟨h3, h4⟩
        · exact .inl h3
        · refine .inr ⟨h3, fun e' he' h5 => ?_⟩
          rcases List.mem_cons.1 he' with rfl | he'
          · exact h2
          · exact h4 e' he' h5
      · left
        have := this.2
        unfold es at this ⊢
        rw [if_pos h1] at this ⊢
        have := falses_set hb.1 hb.2 (by simpa using h2)
        omega
    · have e1 : es s e = s := by unfold es; rw [if_neg h1]
      rw [e1] at this ⊢
      rcases this.1 with h3 | ⟨h3, h4⟩
      · exact .inl h3
      · refine .inr ⟨h3, fun e' he' h5 => ?_⟩
        rcases List.mem_cons.1 he' with rfl | he'
        · exact absurd h5 h1
        · exact h4 e' he' h5
def Closed (E : List (Int × Int)) (s : List Bool) : Prop := ∀ e ∈ E, gI s e.1 = true → gI s e.2 = true
theorem rounds_le (E : List (Int × Int)) (s : List Bool) (h : EOk s.length E) : ∀ r, MarkLe s (roundsR E r s)
  | 0 => MarkLe.refl s
  | r + 1 => (rounds_le E s h r).trans (foldEs_le E _ (by rw [rounds_len]; exact h))
theorem rounds_or (E : List (Int × Int)) (s : List Bool) (h : EOk s.length E) : ∀ r, falses (roundsR E r s) + r ≤ falses s ∨ Closed E (roundsR E r s)
  | 0 => .inl (by simp [roundsR])
  | r + 1 => by
    have hk : EOk (roundsR E r s).length E := by rw [rounds_len]; exact h
    have h2 := (foldEs_or E (roundsR E r s) hk).1
    rcases h2 with h2 | ⟨h2, h3⟩
    · rcases rounds_or E s h r with h1 | h1
      · left; rw [roundsR]; omega
      · exfalso
        have h4 : E.foldl es (roundsR E r s) = roundsR E r s := by
          have : ∀ (E' : List (Int × Int)), (∀ e ∈ E', e ∈ E) → E'.foldl es (roundsR E r s) = roundsR E r s := by
            intro E'
            induction E' with
            | nil => intro _; rfl
            | cons e E' ih =>
              intro hs
              rw [List.foldl_cons]
              have e1 : es (roundsR E r s) e = roundsR E r s := by
                unfold es
                split
                · rename_i h5
                  have h6 := h1 e (hs e (by simp)) h5
                  refine List.ext_getElem (by simp) fun i _ h2' => ?_
                  rw [List.getElem_set]
                  split
                  · rename_i hi
                    subst hi
                    simp [gI, List.getD_eq_getElem?_getD, h2'] at h6
                    exact h6.symm
                  · rfl
                · rfl
              rw [e1]
              exact ih (fun e he => hs e (by simp [he]))
          exact this E (fun _ h => h)
        rw [h4] at h2; omega
    · right; rw [roundsR, h2]; exact h3
theorem falses_zero {s : List Bool} (h : falses s = 0) {x : Int} (h0 : 0 ≤ x) (hx : x < s.length) : gI s x = true := by
  have hm := gI_mem (l := s) h0 hx
  by_cases hb : gI s x = true
  · exact hb
  · exfalso
    have : gI s x ∈ s.filter (!·) := List.mem_filter.2 ⟨hm, by simpa using hb⟩
    rw [List.length_eq_zero_iff.1 h] at this
    cases this
theorem rounds_closed (E : List (Int × Int)) (s : List Bool) (h : EOk s.length E) : Closed E (roundsR E s.length s) := by
  rcases rounds_or E s h s.length with h1 | h1
  · have h2 : falses s ≤ s.length := List.length_filter_le _ _
    intro e he _
    exact falses_zero (by omega) (h e he).2.1 (by rw [rounds_len]; exact (h e he).2.2)
  · exact h1
def edgeF (E : List (Int × Int)) (x : Int) : List Int := (E.filter (·.1 == x)).map (·.2)
theorem edgeF_mem {E : List (Int × Int)} {x y : Int} : y ∈ edgeF E x ↔ (x, y) ∈ E := by
  simp only [edgeF, List.mem_map, List.mem_filter]
  constructor
  · rintro ⟨⟨a, b⟩, ⟨h1, h2⟩, rfl⟩
    simp at h2; subst h2; exact h1
  · intro h; exact ⟨(x, y), ⟨h, by simp⟩, rfl⟩
theorem foldEs_sound {f : Int → List Int} {l : List Int} (E : List (Int × Int)) (hE : ∀ e ∈ E, e.2 ∈ f e.1) : ∀ s : List Bool, EOk s.length E → (∀ x, 0 ≤ x → gI s x = true → Rch f l x) → ∀ x, 0 ≤ x → gI (E.foldl es s) x = true → Rch f l x := by
  induction E with
  | nil => intro s _ h; exact h
  | cons e E ih =>
    intro s hk h
    rw [List.foldl_cons]
    refine ih (fun e he => hE e (by simp [he])) _ (fun e he => by rw [es_len]; exact hk e (by simp [he])) ?_
    have hb := hk e (by simp)
    intro x h0 hx
    unfold es at hx
    split at hx
    · rename_i h1
      rw [gI_set hb.2.1 hb.2.2 h0] at hx
      split at hx
      · rename_i h2; subst h2
        exact .step (h _ hb.1.1 h1) (hE e (by simp))
      · exact h x h0 hx
    · exact h x h0 hx
theorem rounds_sound {f : Int → List Int} {l : List Int} (E : List (Int × Int)) (hE : ∀ e ∈ E, e.2 ∈ f e.1) (s : List Bool) (hk : EOk s.length E) (h : ∀ x, 0 ≤ x → gI s x = true → Rch f l x) : ∀ r, ∀ x, 0 ≤ x → gI (roundsR E r s) x = true → Rch f l x
  | 0 => h
  | r + 1 => foldEs_sound E hE _ (by rw [rounds_len]; exact hk) (rounds_sound E hE s hk h r)
theorem initR_mem {n : Int} {l : List Int} (hl : okL n l = true) : ∀ x, 0 ≤ x → (gI (initR n l) x = true ↔ x ∈ l) := by
  have key : ∀ (l : List Int) (s : List Bool), okL s.length l = true → ∀ x, 0 ≤ x → (gI (l.foldl (fun s k => s.set k.toNat true) s) x = true ↔ x ∈ l ∨ gI s x = true) := by
    intro l
    induction l with
    | nil => intro s _ x _; simp
    | cons a l ih =>
      intro s h x h0
      rw [List.foldl_cons]
      simp only [okL, List.all_cons, Bool.and_eq_true, decide_eq_true_eq] at h
      rw [ih _ (by rw [List.length_set]; exact h.2) x h0, gI_set h.1.1 h.1.2 h0, List.mem_cons]
      by_cases hx : x = a
      · simp [hx]
      · simp [hx]
  intro x h0
  have hn : 0 ≤ n ∨ l = [] := by
    cases l with
    | nil => exact .inr rfl
    | cons a l => simp only [okL, List.all_cons, Bool.and_eq_true, decide_eq_true_eq] at hl; left; omega
  have hz : gI (List.replicate n.toNat false) x = false := by
    simp only [gI, List.getD_eq_getElem?_getD, List.getElem?_replicate]
    split <;> rfl
  rcases hn with hn | rfl
  · rw [initR, key l _ (by rw [List.length_replicate, Int.toNat_of_nonneg hn]; exact hl) x h0, hz]; simp
  · simp [initR, hz]
theorem reachR_eq {needs : List (List Int)} {l : List Int} {over : Bool} {f : Int → List Int} (hl : okL needs.length l = true) (hE : EOk needs.length (edgesTo needs over needs.length)) (hf : ∀ x y, y ∈ f x ↔ (x, y) ∈ edgesTo needs over needs.length) : reachR needs l over = (rchL f l needs.length, 0) := by
  rw [reachR, if_pos hl]
  congr 1
  have hlen : (initR needs.length l).length = needs.length := by rw [initR_len]; omega
  have hE' : EOk (initR needs.length l).length (edgesTo needs over needs.length) := by rw [hlen]; exact hE
  refine seenTo_eq fun x h0 h1 => ⟨fun h => ?_, fun h => ?_⟩
  · refine rounds_sound (f := f) (l := l) _ (fun e he => (hf _ _).2 he) _ hE' (fun x h0 hx => .here ((initR_mem hl x h0).1 hx)) _ x h0 h
  · have hr : ∀ x, Rch f l x → 0 ≤ x ∧ gI (roundsR (edgesTo needs over needs.length) needs.length (initR needs.length l)) x = true := by
      intro x hx
      induction hx with
      | @here x hm =>
        have h0 := List.all_eq_true.1 hl x hm
        simp at h0
        exact ⟨h0.1, rounds_le _ _ hE' _ _ h0.1 ((initR_mem hl _ h0.1).2 hm)⟩
      | step _ hy ih =>
        have he := (hf _ _).1 hy
        have hc := rounds_closed (edgesTo needs over needs.length) (initR needs.length l) hE'
        rw [hlen] at hc
        exact ⟨(hE _ he).2.1, hc _ he ih.2⟩
    exact (hr x h).2
theorem edgesTo_mem {needs : List (List Int)} {over : Bool} {n : Int} {x y : Int} : (x, y) ∈ edgesTo needs over n ↔ if over = true then (0 ≤ y ∧ y < n) ∧ x ∈ gI needs y else (0 ≤ x ∧ x < n) ∧ y ∈ gI needs x := by
  cases over
  · simp only [edgesTo, mkE, List.mem_flatMap, List.mem_map, upto_mem, Bool.false_eq_true, if_false, Prod.mk.injEq]
    exact ⟨fun ⟨a, ha, b, hb, e1, e2⟩ => by subst e1 e2; exact ⟨ha, hb⟩, fun h => ⟨x, h.1, y, h.2, rfl, rfl⟩⟩
  · simp only [edgesTo, mkE, List.mem_flatMap, List.mem_map, upto_mem, if_true, Prod.mk.injEq]
    exact ⟨fun ⟨a, ha, b, hb, e1, e2⟩ => by subst e1 e2; exact ⟨ha, hb⟩, fun h => ⟨y, h.1, x, h.2, rfl, rfl⟩⟩
theorem edgesTo_ok {needs : List (List Int)} {over : Bool} (h : okN needs = true) : EOk needs.length (edgesTo needs over needs.length) := by
  intro ⟨x, y⟩ he
  have key : ∀ a b : Int, 0 ≤ a → a < needs.length → b ∈ gI needs a → 0 ≤ b ∧ b < needs.length := by
    intro a b h0 h1 hb
    have := List.all_eq_true.1 (List.all_eq_true.1 h _ (gI_mem h0 h1)) b hb
    simpa using this
  rw [edgesTo_mem] at he
  cases over
  · simp at he; exact ⟨he.1, key _ _ he.1.1 he.1.2 he.2⟩
  · simp at he; exact ⟨key _ _ he.1.1 he.1.2 he.2, he.1⟩
theorem overF_mem {needs : List (List Int)} {x y : Int} : y ∈ overF needs x ↔ (0 ≤ y ∧ y < needs.length) ∧ x ∈ gI needs y := by
  simp only [overF, overTo, List.mem_flatMap, List.mem_map, List.mem_filter, upto_mem]
  constructor
  · rintro ⟨i, hi, z, ⟨hz, hzx⟩, rfl⟩
    simp at hzx; subst hzx; exact ⟨hi, hz⟩
  · rintro ⟨h1, h2⟩; exact ⟨y, h1, x, ⟨h2, by simp⟩, rfl⟩
def underG (needs : List (List Int)) (x : Int) : List Int := if 0 ≤ x ∧ x < needs.length then gI needs x else []
theorem rchL_congr {f g : Int → List Int} {l : List Int} {n : Int} (h : ∀ x, Rch f l x ↔ Rch g l x) : rchL f l n = rchL g l n := by
  unfold rchL
  refine List.filter_congr fun x _ => ?_
  rw [Bool.eq_iff_iff]
  exact (@decide_eq_true_iff _ (Classical.propDecidable _)).trans ((h x).trans (@decide_eq_true_iff _ (Classical.propDecidable _)).symm)
theorem reach_under {needs : List (List Int)} {l : List Int} (h : okN needs = true) (hl : okL needs.length l = true) : reachR needs l false = (rchL (underF needs) l needs.length, 0) := by
  have hg : ∀ x y, y ∈ underG needs x ↔ (x, y) ∈ edgesTo needs false needs.length := fun x y => by
    rw [edgesTo_mem, if_neg (show ¬ (false = true) by decide), underG]
    split
    · rename_i hh; exact Iff.intro (fun a => And.intro hh a) (fun a => a.2)
    · rename_i hh; exact Iff.intro (fun a => absurd a (by simp)) (fun a => absurd a.1 hh)
  rw [reachR_eq (f := underG needs) hl (edgesTo_ok h) hg]
  congr 1
  have key : ∀ x, (Rch (underF needs) l x → (0 ≤ x ∧ x < needs.length) ∧ Rch (underG needs) l x) := by
    intro x hx
    induction hx with
    | here hm => exact ⟨by simpa using List.all_eq_true.1 hl _ hm, .here hm⟩
    | step _ hy ih =>
      have h1 := gI_mem (l := needs) ih.1.1 ih.1.2
      refine ⟨by simpa using List.all_eq_true.1 (List.all_eq_true.1 h _ h1) _ hy, .step ih.2 ?_⟩
      rw [underG, if_pos ih.1]; exact hy
  refine rchL_congr fun x => ⟨fun hx => ?_, fun hx => (key x hx).2⟩
  induction hx with
  | here hm => exact .here hm
  | step _ hy ih =>
    refine .step ih ?_
    unfold underG at hy
    split at hy
    · exact hy
    · cases hy
theorem reach_over {needs : List (List Int)} {l : List Int} (h : okN needs = true) (hl : okL needs.length l = true) : reachR needs l true = (rchL (overF needs) l needs.length, 0) :=
  reachR_eq hl (edgesTo_ok h) (fun x y => by rw [edgesTo_mem, overF_mem]; simp)

end Go.Proofs
