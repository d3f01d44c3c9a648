/-
  Values and acts that a law is handed read as typed data.
-/
import Derived.Test.YtoeghipbkmaccaaWl8
import Derived.Test.YtoeghipbkmaccaaWl1
namespace Go.Proofs
open Go Go.Aw Go.RowKit Go.WideShapes Go.ChangeShapes
set_option maxRecDepth 100000

theorem valIn_len (v : Val) : (valIn v).cells.length = 5 := by cases v; rfl
theorem fldIn_len (v : Str × Val) : (fldIn v).cells.length = 6 := by
  obtain ⟨s, v⟩ := v
  cases v; rfl

theorem rd_fld {n : Nat} (ih : ∀ k, k < n → Rd Try.prog k 46 valIn) : Rd Try.prog n 147 fldIn := by
  intro H enc W sp cs d ps h hw
  obtain ⟨hl, hf⟩ := rd_fields Try.underlying147 h hw
  obtain ⟨s, _, hs⟩ := hf 0 _ strAV rfl (fun _ _ => rd_string (by rfl)) (by decide)
  obtain ⟨v, _, hv⟩ := hf 1 _ valIn rfl (fun k hk => ih k hk) (by decide)
  refine ⟨(s, v), by rw [fldIn_len, hl]; rfl, fun i hi => ?_⟩
  rw [hl] at hi
  replace hi : i < 6 := hi
  cases v with
  | mk k n t l f =>
    match i, hi with
    | 0, _ => exact hs 0 (by decide)
    | 1, _ => exact hv 0 (by decide)
    | 2, _ => exact hv 1 (by decide)
    | 3, _ => exact hv 2 (by decide)
    | 4, _ => exact hv 3 (by decide)
    | 5, _ => exact hv 4 (by decide)

theorem rd_val (n : Nat) : Rd Try.prog n 46 valIn := by
  induction n using Nat.strongRecOn with
  | ind n ih =>
    intro H enc W sp cs d ps h hw
    obtain ⟨hl, hf⟩ := rd_fields Try.underlying46 h hw
    obtain ⟨k, _, hk⟩ := hf 0 _ intAV rfl (fun _ _ => rd_int (by rfl)) (by decide)
    obtain ⟨m, _, hm⟩ := hf 1 _ intAV rfl (fun _ _ => rd_int (by rfl)) (by decide)
    obtain ⟨s, _, hs⟩ := hf 2 _ strAV rfl (fun _ _ => rd_string (by rfl)) (by decide)
    obtain ⟨l, _, hll⟩ := hf 3 _ (lstAV valIn) rfl (fun j hj => rd_slice (by rfl) (by rfl) (by decide) (by decide) valIn_len (fun i hi => ih i (by omega))) (by decide)
    obtain ⟨f, _, hff⟩ := hf 4 _ (lstAV fldIn) rfl (fun j hj => rd_slice (by rfl) (by rfl) (by decide) (by decide) fldIn_len (fun i hi => rd_fld (fun q hq => ih q (by omega)))) (by decide)
    refine ⟨.mk k m s l f, by rw [valIn_len, hl]; rfl, fun i hi => ?_⟩
    rw [hl] at hi
    replace hi : i < 5 := hi
    rw [valIn_eq]
    match i, hi with
    | 0, _ => exact hk 0 (by decide)
    | 1, _ => exact hm 0 (by decide)
    | 2, _ => exact hs 0 (by decide)
    | 3, _ => exact hll 0 (by decide)
    | 4, _ => exact hff 0 (by decide)

theorem rd_act (n : Nat) : Rd Try.prog n 48 actAV := by
  intro H enc W sp cs d ps h hw
  obtain ⟨hl, hf⟩ := rd_fields Try.underlying48 h hw
  obtain ⟨k, _, hk⟩ := hf 0 _ strAV rfl (fun _ _ => rd_string (by rfl)) (by decide)
  obtain ⟨s, _, hs⟩ := hf 1 _ strAV rfl (fun _ _ => rd_string (by rfl)) (by decide)
  obtain ⟨t, _, ht⟩ := hf 2 _ strAV rfl (fun _ _ => rd_string (by rfl)) (by decide)
  obtain ⟨a, _, ha⟩ := hf 3 _ intAV rfl (fun _ _ => rd_int (by rfl)) (by decide)
  obtain ⟨b, _, hb⟩ := hf 4 _ intAV rfl (fun _ _ => rd_int (by rfl)) (by decide)
  obtain ⟨v, _, hv⟩ := hf 5 _ valIn rfl (fun _ _ => rd_val _) (by decide)
  obtain ⟨ns, _, hns⟩ := hf 6 _ (lstAV strAV) rfl (fun _ _ => rd_slice (by rfl) (by rfl) (by decide) (by decide) (fun _ => rfl) (fun _ _ => rd_string (by rfl))) (by decide)
  rw [valIn_eq] at hv
  refine ⟨⟨k, s, t, a, b, v, ns⟩, hl.symm, fun i hi => ?_⟩
  rw [hl] at hi
  replace hi : i < 11 := hi
  match i, hi with
  | 0, _ => exact hk 0 (by decide)
  | 1, _ => exact hs 0 (by decide)
  | 2, _ => exact ht 0 (by decide)
  | 3, _ => exact ha 0 (by decide)
  | 4, _ => exact hb 0 (by decide)
  | 5, _ => exact hv 0 (by decide)
  | 6, _ => exact hv 1 (by decide)
  | 7, _ => exact hv 2 (by decide)
  | 8, _ => exact hv 3 (by decide)
  | 9, _ => exact hv 4 (by decide)
  | 10, _ => exact hns 0 (by decide)

end Go.Proofs
