/-
  Values and acts that a law is handed read as typed data.
-/
import Derived.Test.YtoeghipbkmaccaaVa1
import Derived.Test.YtoeghipbkmaccaaWxx
section
namespace Go.Proofs
open Go Go.Aw Go.RowKit Go.WideShapes Go.ChangeShapes
set_option maxRecDepth 100000
theorem valIn_len (v : Val) : (valIn v).cells.length = 5 := by cases v; rfl
theorem fldIn_len (v : Str × Val) : (fldIn v).cells.length = 6 := by
  obtain ⟨s, v⟩ := v
  cases v; rfl
end Go.Proofs
end
section
namespace Go.Proofs
open Go Go.Aw Go.RowKit Go.WideShapes Go.ChangeShapes
set_option maxRecDepth 100000
section
variable {bk : {H : Type} → DataW H → Nat} {bkA : {H : Type} → List (DataW H) → Nat}
theorem sum_depL (l : List Val) : (l.map depV).sum = depL l := by
  induction l with
  | nil => rfl
  | cons v r ih => rw [List.map_cons, List.sum_cons, ih]; rfl
theorem sum_depF (l : List (Str × Val)) : (l.map fun p => depV p.2).sum = depF l := by
  induction l with
  | nil => rfl
  | cons p r ih =>
    obtain ⟨s, v⟩ := p
    cases v with
    | mk k n t l f => rw [List.map_cons, List.sum_cons, ih]; rfl
theorem rdB_fld {n : Nat} (hB : BulkOk bk bkA) (ih : ∀ k, k < n → RdB bk Try.prog k 46 valIn depV) : RdB bk Try.prog n 147 fldIn (fun p => depV p.2) := by
  intro H enc W sp cs d ps h hw
  obtain ⟨hl, p, hp, hf⟩ := rdB_fields hB Try.underlying147 h hw
  obtain ⟨s, _, _, _, _, hs⟩ := hf 0 _ strAV (fun _ => 0) rfl (fun _ _ => (rd_string (by rfl)).toB) (by decide)
  obtain ⟨v, dv, h1, h2, _, hv⟩ := hf 1 _ valIn depV rfl (fun k hk => ih k hk) (by decide)
  have h3 := hB.at h1
  refine ⟨(s, v), by simp only; omega, by rw [fldIn_len, hl]; rfl, fun i hi => ?_⟩
  rw [hl] at hi
  replace hi : i < 6 := hi
  cases v with
  | mk k n t l f =>
    match i, hi with
    | 0, _ => exact hs 0 (by decide)
    | 1, _ => exact hv 0 (by decide)
    | 2, _ => exact hv 1 (by decide)
    | 3, _ => exact hv 2 (by decide)
    | 4, _ => exact hv 3 (by decide)
    | 5, _ => exact hv 4 (by decide)
theorem rdB_val (hB : BulkOk bk bkA) (n : Nat) : RdB bk Try.prog n 46 valIn depV := by
  induction n using Nat.strongRecOn with
  | ind n ih =>
    intro H enc W sp cs d ps h hw
    obtain ⟨hl, p, hp, hf⟩ := rdB_fields hB Try.underlying46 h hw
    obtain ⟨k, _, _, _, _, hk⟩ := hf 0 _ intAV (fun _ => 0) rfl (fun _ _ => (rd_int (by rfl)).toB) (by decide)
    obtain ⟨m, _, _, _, _, hm⟩ := hf 1 _ intAV (fun _ => 0) rfl (fun _ _ => (rd_int (by rfl)).toB) (by decide)
    obtain ⟨s, _, _, _, _, hs⟩ := hf 2 _ strAV (fun _ => 0) rfl (fun _ _ => (rd_string (by rfl)).toB) (by decide)
    obtain ⟨l, dl, l1, l2, _, hll⟩ := hf 3 _ (lstAV valIn) _ rfl (fun j hj => rdB_slice hB (by rfl) (by rfl) (by decide) (by decide) valIn_len (fun i hi => ih i (by omega))) (by decide)
    obtain ⟨f, df, f1, f2, _, hff⟩ := hf 4 _ (lstAV fldIn) _ rfl (fun j hj => rdB_slice hB (by rfl) (by rfl) (by decide) (by decide) fldIn_len (fun i hi => rdB_fld hB (fun q hq => ih q (by omega)))) (by decide)
    have h3 := hB.two (by decide) l1 f1
    replace l2 : (l.map depV).sum ≤ bk dl := l2
    replace f2 : (f.map fun p => depV p.2).sum ≤ bk df := f2
    rw [sum_depL] at l2
    rw [sum_depF] at f2
    replace h3 : bk dl + bk df ≤ bkA p := h3
    have h4 : depL l + depF f + 1 ≤ bk d := by omega
    refine ⟨.mk k m s l f, by rw [depV]; exact h4, by rw [valIn_len, hl]; rfl, fun i hi => ?_⟩
    rw [hl] at hi
    replace hi : i < 5 := hi
    rw [valIn_eq]
    match i, hi with
    | 0, _ => exact hk 0 (by decide)
    | 1, _ => exact hm 0 (by decide)
    | 2, _ => exact hs 0 (by decide)
    | 3, _ => exact hll 0 (by decide)
    | 4, _ => exact hff 0 (by decide)
theorem rdB_act (hB : BulkOk bk bkA) (n : Nat) : RdB bk Try.prog n 48 actAV (fun a => depV a.v) := by
  intro H enc W sp cs d ps h hw
  obtain ⟨hl, p, hp, hf⟩ := rdB_fields hB Try.underlying48 h hw
  obtain ⟨k, _, _, _, _, hk⟩ := hf 0 _ strAV (fun _ => 0) rfl (fun _ _ => (rd_string (by rfl)).toB) (by decide)
  obtain ⟨s, _, _, _, _, hs⟩ := hf 1 _ strAV (fun _ => 0) rfl (fun _ _ => (rd_string (by rfl)).toB) (by decide)
  obtain ⟨t, _, _, _, _, ht⟩ := hf 2 _ strAV (fun _ => 0) rfl (fun _ _ => (rd_string (by rfl)).toB) (by decide)
  obtain ⟨a, _, _, _, _, ha⟩ := hf 3 _ intAV (fun _ => 0) rfl (fun _ _ => (rd_int (by rfl)).toB) (by decide)
  obtain ⟨b, _, _, _, _, hb⟩ := hf 4 _ intAV (fun _ => 0) rfl (fun _ _ => (rd_int (by rfl)).toB) (by decide)
  obtain ⟨v, dv, v1, v2, _, hv⟩ := hf 5 _ valIn depV rfl (fun _ _ => rdB_val hB _) (by decide)
  obtain ⟨ns, _, _, _, _, hns⟩ := hf 6 _ (lstAV strAV) (fun _ => 0) rfl (fun _ _ => Rd.toB (rd_slice (by rfl) (by rfl) (by decide) (by decide) (fun _ => rfl) (fun _ _ => rd_string (by rfl)))) (by decide)
  rw [valIn_eq] at hv
  have h3 := hB.at v1
  refine ⟨⟨k, s, t, a, b, v, ns⟩, by simp only; omega, hl.symm, fun i hi => ?_⟩
  rw [hl] at hi
  replace hi : i < 11 := hi
  match i, hi with
  | 0, _ => exact hk 0 (by decide)
  | 1, _ => exact hs 0 (by decide)
  | 2, _ => exact ht 0 (by decide)
  | 3, _ => exact ha 0 (by decide)
  | 4, _ => exact hb 0 (by decide)
  | 5, _ => exact hv 0 (by decide)
  | 6, _ => exact hv 1 (by decide)
  | 7, _ => exact hv 2 (by decide)
  | 8, _ => exact hv 3 (by decide)
  | 9, _ => exact hv 4 (by decide)
  | 10, _ => exact hns 0 (by decide)
theorem mem_sum {α : Type} (z : α → Nat) {l : List α} {a : α} (h : a ∈ l) : z a ≤ (l.map z).sum := by
  induction l with
  | nil => cases h
  | cons b r ih =>
    rw [List.map_cons, List.sum_cons]
    rcases List.mem_cons.1 h with rfl | h
    · omega
    · have := ih h; omega
end
end Go.Proofs
end
