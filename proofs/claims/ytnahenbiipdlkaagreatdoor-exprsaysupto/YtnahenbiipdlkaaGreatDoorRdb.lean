/-
  Values that a law is handed read as typed data, no greater than their bulk; none reads as a cell of a table of u64s.
-/
import Derived.Test.YtnahenbiipdlkaaGreatDoorPx20
import Derived.Test.YtnahenbiipdlkaaGreatDoorWxz
namespace Go.Aw
open Go Go.RowKit Go.WideShapes Go.ChangeShapes
theorem RdB.argS {bk : {H : Type} → DataW H → Nat} {P : Program} {t : TypeId} {α : Type} {f : α → AV} {z : α → Nat} {H : Type} {enc : TypeId × Value → H} {W : World} {sp : Nat → Bool} {cs : Array Value} {d : DataW H} {ps : List MemPlace} (hr : ∀ n, RdB bk P n t f z) (hf : ∀ x, ∃ l, f x = .agg l) (hd : DataW.Trod enc P W 0 sp true t (.agg cs) d ps) (hw : ∀ n ∈ d.weights P t, n ≤ reachBytes) :
    ∃ x : α, z x ≤ bk d ∧ Rep W (limOf W) (.agg cs) (f x) [] := by
  obtain ⟨n, hn⟩ := hd
  obtain ⟨x, h0, h1, h2⟩ := hr n H enc W sp _ d ps hn hw
  obtain ⟨l, e⟩ := hf x
  refine ⟨x, h0, ?_⟩
  rw [e] at h1 h2 ⊢
  simp only [AV.cells] at h1 h2
  have hl : cs.size = l.length := by simpa [Value.cells] using h1.symm
  have := Rep.agg (w := W) (lim := limOf W) cs l (fun _ => []) hl (fun i hi => by
    have := h2 i (by simpa [Value.cells, hl] using hi)
    simpa [Value.cells, List.getD_eq_getElem?_getD, Array.getD_eq_getD_getElem?] using this)
  rwa [flatMap_nil] at this
end Go.Aw
namespace Go.Proofs
open Go Go.Aw Go.RowKit Go.WideShapes Go.ChangeShapes
set_option maxRecDepth 100000
theorem valIn_len (v : Val) : (valIn v).cells.length = 5 := by cases v; rfl
theorem fldIn_len (v : Str × Val) : (fldIn v).cells.length = 6 := by
  obtain ⟨s, v⟩ := v
  cases v; rfl
section
variable {bk : {H : Type} → DataW H → Nat} {bkA : {H : Type} → List (DataW H) → Nat}
theorem sum_depL (l : List Val) : (l.map depV).sum = depL l := by
  induction l with
  | nil => rfl
  | cons v r ih => rw [List.map_cons, List.sum_cons, ih]; rfl
theorem sum_depF (l : List (Str × Val)) : (l.map fun p => depV p.2).sum = depF l := by
  induction l with
  | nil => rfl
  | cons p r ih =>
    obtain ⟨s, v⟩ := p
    cases v with
    | mk k n t l f => rw [List.map_cons, List.sum_cons, ih]; rfl
theorem rdB_fld {n : Nat} (hB : BulkOk bk bkA) (ih : ∀ k, k < n → RdB bk Tryz.prog k 25 valIn depV) : RdB bk Tryz.prog n 168 fldIn (fun p => depV p.2) := by
  intro H enc W sp cs d ps h hw
  obtain ⟨hl, p, hp, hf⟩ := rdB_fields hB Tryz.underlying168 h hw
  obtain ⟨s, _, _, _, _, hs⟩ := hf 0 _ strAV (fun _ => 0) rfl (fun _ _ => (rd_string (by rfl)).toB) (by decide)
  obtain ⟨v, dv, h1, h2, _, hv⟩ := hf 1 _ valIn depV rfl (fun k hk => ih k hk) (by decide)
  have h3 := hB.at h1
  refine ⟨(s, v), by simp only; omega, by rw [fldIn_len, hl]; rfl, fun i hi => ?_⟩
  rw [hl] at hi
  replace hi : i < 6 := hi
  cases v with
  | mk k n t l f =>
    match i, hi with
    | 0, _ => exact hs 0 (by decide)
    | 1, _ => exact hv 0 (by decide)
    | 2, _ => exact hv 1 (by decide)
    | 3, _ => exact hv 2 (by decide)
    | 4, _ => exact hv 3 (by decide)
    | 5, _ => exact hv 4 (by decide)
theorem rdB_val (hB : BulkOk bk bkA) (n : Nat) : RdB bk Tryz.prog n 25 valIn depV := by
  induction n using Nat.strongRecOn with
  | ind n ih =>
    intro H enc W sp cs d ps h hw
    obtain ⟨hl, p, hp, hf⟩ := rdB_fields hB Tryz.underlying25 h hw
    obtain ⟨k, _, _, _, _, hk⟩ := hf 0 _ intAV (fun _ => 0) rfl (fun _ _ => (rd_int (by rfl)).toB) (by decide)
    obtain ⟨m, _, _, _, _, hm⟩ := hf 1 _ intAV (fun _ => 0) rfl (fun _ _ => (rd_int (by rfl)).toB) (by decide)
    obtain ⟨s, _, _, _, _, hs⟩ := hf 2 _ strAV (fun _ => 0) rfl (fun _ _ => (rd_string (by rfl)).toB) (by decide)
    obtain ⟨l, dl, l1, l2, _, hll⟩ := hf 3 _ (lstAV valIn) _ rfl (fun j hj => rdB_slice hB (by rfl) (by rfl) (by decide) (by decide) valIn_len (fun i hi => ih i (by omega))) (by decide)
    obtain ⟨f, df, f1, f2, _, hff⟩ := hf 4 _ (lstAV fldIn) _ rfl (fun j hj => rdB_slice hB (by rfl) (by rfl) (by decide) (by decide) fldIn_len (fun i hi => rdB_fld hB (fun q hq => ih q (by omega)))) (by decide)
    have h3 := hB.two (by decide) l1 f1
    replace l2 : (l.map depV).sum ≤ bk dl := l2
    replace f2 : (f.map fun p => depV p.2).sum ≤ bk df := f2
    rw [sum_depL] at l2
    rw [sum_depF] at f2
    replace h3 : bk dl + bk df ≤ bkA p := h3
    have h4 : depL l + depF f + 1 ≤ bk d := by omega
    refine ⟨.mk k m s l f, by rw [depV]; exact h4, by rw [valIn_len, hl]; rfl, fun i hi => ?_⟩
    rw [hl] at hi
    replace hi : i < 5 := hi
    rw [valIn_eq]
    match i, hi with
    | 0, _ => exact hk 0 (by decide)
    | 1, _ => exact hm 0 (by decide)
    | 2, _ => exact hs 0 (by decide)
    | 3, _ => exact hll 0 (by decide)
    | 4, _ => exact hff 0 (by decide)
theorem bulk3 (hB : BulkOk bk bkA) {H : Type} : ∀ {p : List (DataW H)} {i j k : Nat} {d d' d2 : DataW H}, i < j → j < k → p[i]? = some d → p[j]? = some d' → p[k]? = some d2 → bk d + bk d' + bk d2 ≤ bkA p
  | a :: p, 0, j + 1, k + 1, d, d', d2, _, hjk, h, h', h2 => by
    simp only [List.getElem?_cons_zero, Option.some.injEq, List.getElem?_cons_succ] at h h' h2
    subst h
    have := hB.two (by omega) h' h2
    rw [hB.cons]; omega
  | a :: p, i + 1, j + 1, k + 1, d, d', d2, hij, hjk, h, h', h2 => by
    simp only [List.getElem?_cons_succ] at h h' h2
    have := bulk3 hB (by omega) (by omega) h h' h2
    rw [hB.cons]; omega
  | a :: p, i, 0, k, d, d', d2, hij, _, _, _, _ => by omega
  | a :: p, i, j + 1, 0, d, d', d2, _, hjk, _, _, _ => by omega
  | [], i, j, k, d, d', d2, _, _, h, _, _ => by simp at h
theorem _root_.Go.Aw.Rd.toB1 {P : Program} {fuel : Nat} {t : TypeId} {α : Type} {f : α → AV} (h1 : ∀ {H : Type} (d : DataW H), 1 ≤ bk d) (h : Rd P fuel t f) : RdB bk P fuel t f (fun _ => 1) := by
  intro H enc W sp cs d ps h2 h3
  obtain ⟨x, h4, h5⟩ := h H enc W sp cs d ps h2 h3
  exact ⟨x, h1 d, h4, h5⟩
theorem sum_szL (l : List Exp) : (l.map szE).sum = szL l := by
  induction l with
  | nil => rfl
  | cons v r ih => rw [List.map_cons, List.sum_cons, ih]; rfl
theorem sum_one (l : List Str) : (l.map fun _ => 1).sum = l.length := by
  induction l with
  | nil => rfl
  | cons v r ih => rw [List.map_cons, List.sum_cons, ih, List.length_cons]; omega
theorem expIn_len (e : Exp) : (expIn e).cells.length = 10 := by cases e; rfl
theorem expIn_agg (e : Exp) : ∃ l, expIn e = .agg l := ⟨_, expIn_eq e⟩
theorem rdB_exp (hB : BulkOk bk bkA) (h1 : ∀ {H : Type} (d : DataW H), 1 ≤ bk d) (n : Nat) : RdB bk Tryz.prog n 29 expIn szE := by
  induction n using Nat.strongRecOn with
  | ind n ih =>
    intro H enc W sp cs d ps h hw
    obtain ⟨hl, p, hp, hf⟩ := rdB_fields hB Tryz.underlying29 h hw
    obtain ⟨k, _, _, _, _, hk⟩ := hf 0 _ intAV (fun _ => 0) rfl (fun _ _ => (rd_int (by rfl)).toB) (by decide)
    obtain ⟨v, dv, v1, v2, _, hv⟩ := hf 1 _ valIn depV rfl (fun j _ => rdB_val hB j) (by decide)
    obtain ⟨s, _, _, _, _, hs⟩ := hf 2 _ strAV (fun _ => 0) rfl (fun _ _ => (rd_string (by rfl)).toB) (by decide)
    obtain ⟨t, _, _, _, _, ht⟩ := hf 3 _ strAV (fun _ => 0) rfl (fun _ _ => (rd_string (by rfl)).toB) (by decide)
    obtain ⟨a, da, a1, a2, _, ha⟩ := hf 4 _ (lstAV expIn) _ rfl (fun j hj => rdB_slice hB (by rfl) (by rfl) (by decide) (by decide) expIn_len (fun i hi => ih i (by omega))) (by decide)
    obtain ⟨m, dm, m1, m2, _, hm⟩ := hf 5 _ (lstAV strAV) _ rfl (fun j hj => rdB_slice hB (by rfl) (by rfl) (by decide) (by decide) (fun _ => rfl) (fun i hi => (rd_string (by rfl)).toB1 h1)) (by decide)
    have h3 := bulk3 hB (by decide) (by decide) v1 a1 m1
    replace a2 : (a.map szE).sum ≤ bk da := a2
    replace m2 : (m.map fun _ => 1).sum ≤ bk dm := m2
    rw [sum_szL] at a2
    rw [sum_one] at m2
    replace h3 : bk dv + bk da + bk dm ≤ bkA p := h3
    have h4 : depV v + m.length + szL a + 1 ≤ bk d := by omega
    refine ⟨.mk k v s t a m, by rw [szE]; exact h4, by rw [expIn_len, hl]; rfl, fun i hi => ?_⟩
    rw [hl] at hi
    replace hi : i < 10 := hi
    rw [expIn_eq]
    simp only [valIn_eq] at hv
    match i, hi with
    | 0, _ => exact hk 0 (by decide)
    | 1, _ => exact hv 0 (by decide)
    | 2, _ => exact hv 1 (by decide)
    | 3, _ => exact hv 2 (by decide)
    | 4, _ => exact hv 3 (by decide)
    | 5, _ => exact hv 4 (by decide)
    | 6, _ => exact hs 0 (by decide)
    | 7, _ => exact ht 0 (by decide)
    | 8, _ => exact ha 0 (by decide)
    | 9, _ => exact hm 0 (by decide)
end
theorem okT_valN : ∀ (n : Nat) (v : Val), depV v < n → OkT (valIn v)
  | 0, _, h => absurd h (Nat.not_lt_zero _)
  | n + 1, v, h => by
    have e := depV_eq v
    rw [valIn_eq, valTop]
    have hl : ∀ w ∈ v.l, OkT (valIn w) := fun w hw => okT_valN n w (by have := depL_mem hw; omega)
    have hf : ∀ p ∈ v.f, OkT (fldIn p) := fun p hp => by
      have h2 := okT_valN n p.2 (by have := depF_mem hp; omega)
      rw [valIn_eq, valTop] at h2
      cases h2 with
      | agg _ h3 =>
        rw [fldIn_eq, fldTop]
        refine .agg _ fun y hy => ?_
        rcases List.mem_cons.1 hy with rfl | hy
        · exact .str _
        · exact h3 y hy
    refine .agg _ fun y hy => ?_
    simp only [List.mem_cons, List.not_mem_nil, or_false] at hy
    rcases hy with rfl | rfl | rfl | rfl | rfl
    · exact .int _ _ (by decide)
    · exact .int _ _ (by decide)
    · exact .str _
    · refine .slice _ (fun x hx => ?_) fun x hx y hy => ?_
      · obtain ⟨w, _, rfl⟩ := List.mem_map.1 hx
        exact fun e => by have := valIn_len w; rw [e] at this; cases this
      · obtain ⟨w, hw, rfl⟩ := List.mem_map.1 hx
        have h2 := hl w hw
        rw [valIn_eq, valTop] at h2
        rw [valIn_eq, valTop] at hy
        cases h2 with
        | agg _ h3 => exact h3 y hy
    · refine .slice _ (fun x hx => ?_) fun x hx y hy => ?_
      · obtain ⟨p, _, rfl⟩ := List.mem_map.1 hx
        exact fun e => by have := fldIn_len p; rw [e] at this; cases this
      · obtain ⟨p, hp, rfl⟩ := List.mem_map.1 hx
        have h2 := hf p hp
        rw [fldIn_eq, fldTop] at h2
        rw [fldIn_eq, fldTop] at hy
        cases h2 with
        | agg _ h3 => exact h3 y hy
theorem okT_val (v : Val) : OkT (valIn v) := okT_valN _ v (Nat.lt_succ_self _)
theorem okT_fld (p : Str × Val) : OkT (fldIn p) := by
  have h2 := okT_val p.2
  rw [valIn_eq, valTop] at h2
  cases h2 with
  | agg _ h3 =>
    rw [fldIn_eq, fldTop]
    refine .agg _ fun y hy => ?_
    rcases List.mem_cons.1 hy with rfl | hy
    · exact .str _
    · exact h3 y hy
theorem okT_flds (l : List (Str × Val)) : OkT (lstAV fldIn l) := by
  refine .slice _ (fun x hx => ?_) fun x hx y hy => ?_
  · obtain ⟨p, _, rfl⟩ := List.mem_map.1 hx
    exact fun e => by have := fldIn_len p; rw [e] at this; cases this
  · obtain ⟨p, hp, rfl⟩ := List.mem_map.1 hx
    have h2 := okT_fld p
    rw [fldIn_eq, fldTop] at h2
    rw [fldIn_eq, fldTop] at hy
    cases h2 with
    | agg _ h3 => exact h3 y hy
theorem okT_strs (l : List Str) : OkT (.slice false (l.map strAV)) := by
  refine .slice _ (fun x hx => ?_) fun x hx y hy => ?_
  · obtain ⟨s, _, rfl⟩ := List.mem_map.1 hx
    exact List.cons_ne_nil _ _
  · obtain ⟨s, _, rfl⟩ := List.mem_map.1 hx
    rw [List.mem_singleton.1 (show y ∈ [AV.str s] from hy)]; exact .str _
theorem okT_vals (l : List Val) : OkT (.slice false (l.map valIn)) := by
  refine .slice _ (fun x hx => ?_) fun x hx y hy => ?_
  · obtain ⟨w, _, rfl⟩ := List.mem_map.1 hx
    exact fun e => by have := valIn_len w; rw [e] at this; cases this
  · obtain ⟨w, hw, rfl⟩ := List.mem_map.1 hx
    have h2 := okT_val w
    rw [valIn_eq, valTop] at h2
    rw [valIn_eq, valTop] at hy
    cases h2 with
    | agg _ h3 => exact h3 y hy
theorem okT_expN : ∀ (n : Nat) (e : Exp), depE e < n → OkT (expIn e)
  | 0, _, h => absurd h (Nat.not_lt_zero _)
  | n + 1, e, h => by
    rw [expIn_eq, expTop]
    have hl : ∀ x ∈ e.a, OkT (expIn x) := fun x hx => okT_expN n x (by have := depE_mem hx; omega)
    refine .agg _ fun y hy => ?_
    simp only [List.mem_cons, List.not_mem_nil, or_false] at hy
    rcases hy with rfl | rfl | rfl | rfl | rfl | rfl | rfl | rfl | rfl | rfl
    · exact .int _ _ (by decide)
    · exact .int _ _ (by decide)
    · exact .int _ _ (by decide)
    · exact .str _
    · exact okT_vals _
    · exact okT_flds _
    · exact .str _
    · exact .str _
    · refine .slice _ (fun x hx => ?_) fun x hx y hy => ?_
      · obtain ⟨w, _, rfl⟩ := List.mem_map.1 hx
        exact fun q => by have := expIn_len w; rw [q] at this; cases this
      · obtain ⟨w, hw, rfl⟩ := List.mem_map.1 hx
        have h2 := hl w hw
        rw [expIn_eq, expTop] at h2
        rw [expIn_eq, expTop] at hy
        cases h2 with
        | agg _ h3 => exact h3 y hy
    · exact okT_strs _
theorem okT_exp (e : Exp) : OkT (expIn e) := okT_expN _ e (Nat.lt_succ_self _)
end Go.Proofs
