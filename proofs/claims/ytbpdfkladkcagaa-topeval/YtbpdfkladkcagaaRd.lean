/-
  Values, fields and expressions that a law is handed read as typed data, of which no list is too long.
-/
import Derived.Test.YtbpdfkladkcagaaEv1
import Derived.Test.YtbpdfkladkcagaaWl4
namespace Go.Proofs
open Go Go.Aw Go.RowKit Go.WideShapes Go.ChangeShapes
set_option maxRecDepth 100000

theorem valIn_len (v : Val) : (valIn v).cells.length = 5 := by cases v; rfl
theorem fldIn_len (v : Str × Val) : (fldIn v).cells.length = 6 := by
  obtain ⟨s, v⟩ := v
  cases v; rfl
theorem expIn_len (e : Exp) : (expIn e).cells.length = 10 := by cases e; rfl
theorem valIn_agg (v : Val) : ∃ l, valIn v = .agg l := ⟨_, valIn_eq v⟩
theorem expIn_agg (e : Exp) : ∃ l, expIn e = .agg l := ⟨_, expIn_eq e⟩

theorem bytesV : Try.prog.bytesOf 25 = 80 := by kernel_rfl
theorem bytesF : Try.prog.bytesOf 46 = 96 := by kernel_rfl
theorem bytesE : Try.prog.bytesOf 29 = 168 := by kernel_rfl
theorem rdP_fld {n : Nat} (ih : ∀ k, k < n → RdP Try.prog k 25 valIn okV) : RdP Try.prog n 46 fldIn (fun p => okV p.2) := by
  intro H enc W sp cs d ps h hw
  obtain ⟨hl, hf⟩ := rdP_fields Try.underlying46 h hw
  obtain ⟨s, _, _, hs⟩ := hf 0 _ strAV (fun _ => True) rfl (fun _ _ => (rd_string (by rfl)).toP) (by decide)
  obtain ⟨v, hok, _, hv⟩ := hf 1 _ valIn okV rfl (fun k hk => ih k hk) (by decide)
  refine ⟨(s, v), hok, by rw [fldIn_len, hl]; rfl, fun i hi => ?_⟩
  rw [hl] at hi
  replace hi : i < 6 := hi
  cases v with
  | mk k n t l f =>
    match i, hi with
    | 0, _ => exact hs 0 (by decide)
    | 1, _ => exact hv 0 (by decide)
    | 2, _ => exact hv 1 (by decide)
    | 3, _ => exact hv 2 (by decide)
    | 4, _ => exact hv 3 (by decide)
    | 5, _ => exact hv 4 (by decide)

theorem rdP_val (n : Nat) : RdP Try.prog n 25 valIn okV := by
  induction n using Nat.strongRecOn with
  | ind n ih =>
    intro H enc W sp cs d ps h hw
    obtain ⟨hl, hf⟩ := rdP_fields Try.underlying25 h hw
    obtain ⟨k, _, _, hk⟩ := hf 0 _ intAV (fun _ => True) rfl (fun _ _ => (rd_int (by rfl)).toP) (by decide)
    obtain ⟨m, _, _, hm⟩ := hf 1 _ intAV (fun _ => True) rfl (fun _ _ => (rd_int (by rfl)).toP) (by decide)
    obtain ⟨s, _, _, hs⟩ := hf 2 _ strAV (fun _ => True) rfl (fun _ _ => (rd_string (by rfl)).toP) (by decide)
    obtain ⟨l, hl1, _, hll⟩ := hf 3 _ (lstAV valIn) _ rfl (fun j hj => rdP_slice (e := 25) (by rfl) (by rfl) (by decide) (by decide) valIn_len okV (fun i hi => ih i (by omega))) (by decide)
    obtain ⟨f, hf1, _, hff⟩ := hf 4 _ (lstAV fldIn) _ rfl (fun j hj => rdP_slice (e := 46) (by rfl) (by rfl) (by decide) (by decide) fldIn_len (fun p => okV p.2) (fun i hi => rdP_fld (fun q hq => ih q (by omega)))) (by decide)
    have b1 : l.length * 80 ≤ 140737488355328 := by have := hl1.1; rw [bytesV] at this; unfold reachBytes at this; omega
    have b2 : f.length * 96 ≤ 140737488355328 := by have := hf1.1; rw [bytesF] at this; unfold reachBytes at this; omega
    refine ⟨.mk k m s l f, (okV_iff _).2 ⟨⟨by simp only [Val.l]; omega, by simp only [Val.f]; omega⟩, hl1.2, hf1.2⟩, by rw [valIn_len, hl]; rfl, fun i hi => ?_⟩
    rw [hl] at hi
    replace hi : i < 5 := hi
    rw [valIn_eq]
    match i, hi with
    | 0, _ => exact hk 0 (by decide)
    | 1, _ => exact hm 0 (by decide)
    | 2, _ => exact hs 0 (by decide)
    | 3, _ => exact hll 0 (by decide)
    | 4, _ => exact hff 0 (by decide)

theorem rdP_exp (n : Nat) : RdP Try.prog n 29 expIn okE := by
  induction n using Nat.strongRecOn with
  | ind n ih =>
    intro H enc W sp cs d ps h hw
    obtain ⟨hl, hf⟩ := rdP_fields Try.underlying29 h hw
    obtain ⟨k, _, _, hk⟩ := hf 0 _ intAV (fun _ => True) rfl (fun _ _ => (rd_int (by rfl)).toP) (by decide)
    obtain ⟨v, hv1, _, hv⟩ := hf 1 _ valIn okV rfl (fun _ _ => rdP_val _) (by decide)
    obtain ⟨s, _, _, hs⟩ := hf 2 _ strAV (fun _ => True) rfl (fun _ _ => (rd_string (by rfl)).toP) (by decide)
    obtain ⟨t, _, _, ht⟩ := hf 3 _ strAV (fun _ => True) rfl (fun _ _ => (rd_string (by rfl)).toP) (by decide)
    obtain ⟨a, ha1, _, ha⟩ := hf 4 _ (lstAV expIn) _ rfl (fun j hj => rdP_slice (e := 29) (by rfl) (by rfl) (by decide) (by decide) expIn_len okE (fun i hi => ih i (by omega))) (by decide)
    obtain ⟨ns, _, _, hns⟩ := hf 5 _ (lstAV strAV) (fun _ => True) rfl (fun _ _ => Rd.toP (rd_slice (by rfl) (by rfl) (by decide) (by decide) (fun _ => rfl) (fun _ _ => rd_string (by rfl)))) (by decide)
    have b1 : a.length * 168 ≤ 140737488355328 := by have := ha1.1; rw [bytesE] at this; unfold reachBytes at this; omega
    refine ⟨.mk k v s t a ns, (okE_iff _).2 ⟨⟨hv1, by simp only [Exp.a]; omega⟩, ha1.2⟩, by rw [expIn_len, hl]; rfl, fun i hi => ?_⟩
    rw [hl] at hi
    replace hi : i < 10 := hi
    rw [expIn_eq]
    rw [valIn_eq] at hv
    match i, hi with
    | 0, _ => exact hk 0 (by decide)
    | 1, _ => exact hv 0 (by decide)
    | 2, _ => exact hv 1 (by decide)
    | 3, _ => exact hv 2 (by decide)
    | 4, _ => exact hv 3 (by decide)
    | 5, _ => exact hv 4 (by decide)
    | 6, _ => exact hs 0 (by decide)
    | 7, _ => exact ht 0 (by decide)
    | 8, _ => exact ha 0 (by decide)
    | 9, _ => exact hns 0 (by decide)
theorem rdP_flds (n : Nat) {t : TypeId} (ht : Try.prog.underlying t = some (.slice 46)) : RdP Try.prog n t (lstAV fldIn) (fun l => l.length * 96 ≤ 140737488355328 ∧ ∀ p ∈ l, okV p.2) :=
  (rdP_slice (e := 46) ht (by rfl) (by decide) (by decide) fldIn_len (fun p => okV p.2) (fun i hi => rdP_fld (fun q hq => rdP_val q))).mono fun l hl => ⟨by have := hl.1; rw [bytesF] at this; unfold reachBytes at this; omega, hl.2⟩
end Go.Proofs
