import Derived.Test.YtfpbolgpaipiiaaProg
import Derived.Test.YtfpbolgpaipiiaaMix
import Derived.Test.YtfpbolgpaipiiaaWxc
import Derived.Test.YtfpbolgpaipiiaaTl1
namespace Go.Proofs
open Go Go.Aw
set_option maxRecDepth 100000


/-- A token as the lexer makes it. -/
def Good (t : Tok) : Prop :=
  (t.1 = 1 ∧ t.2.2.length ≤ 12 ∧ (∀ c ∈ t.2.2, wordB c = true) ∧ ∃ c r, t.2.2 = c :: r ∧ letterB c = true) ∨
  (t.1 = 2 ∧ t.2.2.length ≤ 10 ∧ (∀ c ∈ t.2.2, digitB c = true) ∧ (∃ c r, t.2.2 = c :: r ∧ (c.toNat = 48 → r = []))) ∨
  (t.1 = 3 ∧ t.2.2.length ≤ 40) ∨
  (t.1 = 4 ∧ (t.2.2 = [61, 61] ∨ ∃ c, t.2.2 = [c] ∧ c ∈ signsL))
def printT (t : Tok) : List UInt8 := (if t.1 = 3 then quoteS t.2.2 else t.2.2) ++ [10]
theorem run_drop {f : UInt8 → Bool} {T w r : List UInt8} {a : Int} (h0 : 0 ≤ a) (hT : T.drop a.toNat = w ++ 10 :: r) (hw : ∀ c ∈ w, f c = true) (hn : f 10 = false) : runI f T a = a + w.length := by
  have : ((T.drop a.toNat).takeWhile f).length = w.length := by
    rw [hT]
    have : (w ++ 10 :: r).takeWhile f = w := by
      clear hT
      induction w with
      | nil => simp [hn]
      | cons c w ih => simp only [List.cons_append, List.takeWhile_cons, hw c (by simp), if_true]; rw [ih (fun c hc => hw c (by simp [hc]))]
    rw [this]
  unfold runI runN
  rw [this]; omega
theorem sub_drop {T w r : List UInt8} {a : Int} (h0 : 0 ≤ a) (hT : T.drop a.toNat = w ++ r) : sub T a (a + w.length) = w := by
  unfold sub
  rw [hT, show (a + (w.length : Int) - a).toNat = w.length by omega]
  simp
theorem gI_of_drop {T r : List UInt8} {c : UInt8} {a : Int} (h0 : 0 ≤ a) (hT : T.drop a.toNat = c :: r) : gI T a = c ∧ a < T.length := by
  have hlt : a.toNat < T.length := by
    by_cases h : a.toNat < T.length
    · exact h
    · rw [List.drop_eq_nil_of_le (by omega)] at hT; cases hT
  rw [List.drop_eq_getElem_cons hlt] at hT
  injection hT with h1 h2
  exact ⟨by simp [gI, List.getD_eq_getElem?_getD, hlt, h1], by omega⟩
theorem drop_more {T w r : List UInt8} {a : Int} (h0 : 0 ≤ a) (hT : T.drop a.toNat = w ++ r) : T.drop (a + w.length).toNat = r := by
  have : (a + (w.length : Int)).toNat = a.toNat + w.length := by omega
  rw [this, ← List.drop_drop, hT]; simp
theorem hexD_idx (n : Nat) (h : n < 16) : Lib.indexByte sixteenL (hexD n) = n := by
  have h2 : ∀ k : Fin 16, Lib.indexByte sixteenL (hexD k.1) = k.1 := by decide +kernel
  exact h2 ⟨n, h⟩
theorem byteV_back (c : UInt8) : byteV ((c.toNat / 16 : Nat) : Int) ((c.toNat % 16 : Nat) : Int) = c := by
  unfold byteV
  have : (16 * ((c.toNat / 16 : Nat) : Int) + ((c.toNat % 16 : Nat) : Int)).toNat = c.toNat := by omega
  rw [this]; simp
theorem getD_drop {T : List UInt8} {i k : Nat} : (T.drop i).getD k 0 = T.getD (i + k) 0 := by
  simp [List.getD_eq_getElem?_getD, List.getElem?_drop]
theorem hexD_range (n : Nat) (h : n < 16) : (hexD n).toNat ≠ 34 ∧ (hexD n).toNat ≠ 92 := by
  have h2 : ∀ k : Fin 16, (hexD k.1).toNat ≠ 34 ∧ (hexD k.1).toNat ≠ 92 := by decide +kernel
  exact h2 ⟨n, h⟩
/-- A byte that was quoted is read back. -/
theorem quote_esc {T r : List UInt8} {c : UInt8} {i : Nat} {b : List UInt8} (hT : T.drop i = escB c ++ r) : quoteL T i b = quoteL T (i + (escB c).length) (b ++ [c]) := by
  have hc := c.toNat_lt
  have hlen : i + (escB c ++ r).length = T.length ∨ (escB c ++ r) = [] := by
    by_cases h : i ≤ T.length
    · left; rw [← hT, List.length_drop]; omega
    · right; rw [← hT]; exact List.drop_eq_nil_of_le (by omega)
  have hg : ∀ k, T.getD (i + k) 0 = (escB c ++ r).getD k 0 := fun k => by rw [← hT, getD_drop]
  have hg0 := hg 0
  have hg1 := hg 1
  have hg2 := hg 2
  have hg3 := hg 3
  unfold escB at hlen hg0 hg1 hg2 hg3 ⊢
  split
  · rename_i h
    rw [if_pos h] at hlen hg0 hg1
    simp at hlen hg0 hg1
    rw [quoteL_esc (by omega) (by simp [hg0]) ⟨by omega, by rw [show T.getD (i + 1) 0 = c by simpa using hg1]; exact h⟩, show T.getD (i + 1) 0 = c by simpa using hg1]
    rfl
  · rename_i h
    split
    · rename_i h2
      rw [if_neg h, if_pos h2] at hlen hg0 hg1 hg2 hg3
      simp at hlen hg0 hg1 hg2 hg3
      have e1 : T.getD (i + 1) 0 = 120 := by simpa using hg1
      have e2 : T.getD (i + 2) 0 = hexD (c.toNat / 16) := by simpa using hg2
      have e3 : T.getD (i + 3) 0 = hexD (c.toNat % 16) := by simpa using hg3
      have x2 := hexD_idx (c.toNat / 16) (by omega)
      have x3 := hexD_idx (c.toNat % 16) (by omega)
      rw [quoteL_hex (by omega) (by simp [hg0]) (by rw [e1]; rintro ⟨_, h | h⟩ <;> exact absurd h (by decide)) ⟨by omega, by rw [e1]; rfl, by rw [e2, x2]; omega, by rw [e3, x3]; omega⟩, e2, e3, x2, x3, byteV_back]
      rfl
    · rename_i h2
      rw [if_neg h, if_neg h2] at hlen hg0
      simp at hlen hg0
      have e0 : T.getD i 0 = c := by simpa using hg0
      rw [quoteL_one (by omega) (by rw [e0]; omega) (by rw [e0]; exact h2) (by rw [e0]; omega), e0]
      rfl
theorem quote_all {T r : List UInt8} : ∀ (s : List UInt8) (i : Nat) (b : List UInt8), T.drop i = s.flatMap escB ++ 34 :: r → (b ++ s).length ≤ 40 → quoteL T i b = (0, b ++ s, ((i + (s.flatMap escB).length + 1 : Nat) : Int))
  | [], i, b, hT, hl => by
    have hg : T.getD i 0 = 34 ∧ i < T.length := by
      have hlt : i < T.length := by
        by_cases h : i < T.length
        · exact h
        · rw [List.drop_eq_nil_of_le (by omega)] at hT; simp at hT
      rw [List.drop_eq_getElem_cons hlt] at hT
      injection hT with h1 h2
      exact ⟨by simp [List.getD_eq_getElem?_getD, hlt, h1], hlt⟩
    rw [quoteL_close hg.2 (by rw [hg.1]; rfl) (by simp at hl; omega)]
    simp
  | c :: s, i, b, hT, hl => by
    rw [List.flatMap_cons, List.append_assoc] at hT
    rw [quote_esc hT, quote_all (r := r) s (i + (escB c).length) (b ++ [c]) (by rw [← List.drop_drop, hT]; simp) (by simpa using hl)]
    simp [List.flatMap_cons, Nat.add_assoc]
theorem sign_facts {c : UInt8} (h : c ∈ signsL) : letterB c = false ∧ digitB c = false ∧ (c.toNat : Int) ≠ 34 ∧ (c.toNat : Int) ≠ 35 ∧ (c.toNat : Int) ≠ 32 ∧ (c.toNat : Int) ≠ 10 ∧ 0 ≤ Lib.indexByte signsL c := by
  have h2 : ∀ c ∈ signsL, letterB c = false ∧ digitB c = false ∧ (c.toNat : Int) ≠ 34 ∧ (c.toNat : Int) ≠ 35 ∧ (c.toNat : Int) ≠ 32 ∧ (c.toNat : Int) ≠ 10 ∧ 0 ≤ Lib.indexByte signsL c := by decide +kernel
  exact h2 c h
theorem letter_facts {c : UInt8} (h : letterB c = true) : digitB c = false ∧ (c.toNat : Int) ≠ 34 ∧ (c.toNat : Int) ≠ 35 ∧ (c.toNat : Int) ≠ 32 ∧ (c.toNat : Int) ≠ 10 := by
  have := letterB_p.1 h
  refine ⟨?_, by omega, by omega, by omega, by omega⟩
  rw [Bool.eq_false_iff]; intro h2; have := digitB_p.1 h2; omega
theorem digit_facts {c : UInt8} (h : digitB c = true) : letterB c = false ∧ (c.toNat : Int) ≠ 34 ∧ (c.toNat : Int) ≠ 35 ∧ (c.toNat : Int) ≠ 32 ∧ (c.toNat : Int) ≠ 10 := by
  have := digitB_p.1 h
  refine ⟨?_, by omega, by omega, by omega, by omega⟩
  rw [Bool.eq_false_iff]; intro h2; have := letterB_p.1 h2; omega
/-- A token that is printed is read as it. -/
theorem one_print {T r : List UInt8} {t : Tok} {a : Int} (hg : Good t) (h0 : 0 ≤ a) (hT : T.drop a.toNat = printT t ++ r) :
    a < T.length ∧ ¬ (((gI T a).toNat : Int) = 32 ∨ ((gI T a).toNat : Int) = 10) ∧ ((gI T a).toNat : Int) ≠ 35 ∧ oneI T a = (t.1, t.2.2, a + (printT t).length - 1, 0) := by
  obtain ⟨k, p, w⟩ := t
  rcases hg with ⟨h1, h2, h3, c, q, h4, h5⟩ | ⟨h1, h2, h3, c, q, h4, h5⟩ | ⟨h1, h2⟩ | ⟨h1, h2⟩
  · simp only at h1 h2 h3 h4; subst h1
    have hp : printT (1, p, w) = w ++ [10] := rfl
    rw [hp, List.append_assoc] at hT
    have hw := run_drop (f := wordB) h0 hT h3 (by decide)
    have hs := sub_drop h0 hT
    subst h4
    obtain ⟨g1, g2⟩ := gI_of_drop h0 hT
    have hl := letter_facts h5
    rw [g1]
    refine ⟨g2, by omega, by omega, ?_⟩
    rw [oneI_letter (by rw [g1]; exact h5), hw, if_neg (by omega), hs, hp]
    simp only [Prod.mk.injEq, true_and]
    simp
    omega
  · simp only at h1 h2 h3 h4; subst h1
    have hp : printT (2, p, w) = w ++ [10] := rfl
    rw [hp, List.append_assoc] at hT
    have hw := run_drop (f := digitB) h0 hT h3 (by decide)
    have hs := sub_drop h0 hT
    subst h4
    obtain ⟨g1, g2⟩ := gI_of_drop h0 hT
    have hd := h3 c (by simp)
    have hl := digit_facts hd
    rw [g1]
    refine ⟨g2, by omega, by omega, ?_⟩
    rw [oneI_digit (by rw [g1, hl.1]; simp) (by rw [g1]; exact hd), hw, g1, if_neg (by
      intro hh
      rcases hh with hh | ⟨hh, hk⟩
      · omega
      · have := h5 (by omega)
        subst this; simp at hk), hs, hp]
    simp only [Prod.mk.injEq, true_and]
    simp
    omega
  · simp only at h1 h2; subst h1
    have hp : printT (3, p, w) = quoteS w ++ [10] := rfl
    rw [hp] at hT
    have hT' : T.drop a.toNat = 34 :: (w.flatMap escB ++ 34 :: (10 :: r)) := by rw [hT]; simp [quoteS]
    obtain ⟨g1, g2⟩ := gI_of_drop h0 hT'
    have hd : T.drop (a + 1).toNat = w.flatMap escB ++ 34 :: (10 :: r) := by
      have : (a + 1).toNat = a.toNat + 1 := by omega
      rw [this, ← List.drop_drop, hT']; simp
    have hq : qI T (a + 1) [] = (0, w, a + (quoteS w).length) := by
      unfold qI
      rw [quote_all w _ [] hd (by simpa using h2)]
      simp [quoteS]; omega
    rw [g1]
    refine ⟨g2, by decide, by decide, ?_⟩
    rw [oneI_quote (by rw [g1]; rfl), hq, hp]
    simp
    omega
  · simp only at h1 h2; subst h1
    have hp : printT (4, p, w) = w ++ [10] := rfl
    rw [hp, List.append_assoc] at hT
    have hs := sub_drop h0 hT
    rcases h2 with rfl | ⟨c, rfl, hc⟩
    · obtain ⟨g1, g2⟩ := gI_of_drop (r := [61] ++ ([10] ++ r)) h0 hT
      have hd : T.drop (a + 1).toNat = 61 :: ([10] ++ r) := drop_more (w := [61]) h0 hT
      obtain ⟨g3, g4⟩ := gI_of_drop (a := a + 1) (by omega) hd
      rw [g1]
      refine ⟨g2, by decide, by decide, ?_⟩
      unfold oneI
      rw [g1, if_neg (by decide), if_neg (by decide), if_neg (by decide), if_pos ⟨by decide, g4, by rw [g3]; decide⟩, hp]
      simp
      omega
    · have hf := sign_facts hc
      obtain ⟨g1, g2⟩ := gI_of_drop (r := [10] ++ r) h0 hT
      have hd : T.drop (a + 1).toNat = 10 :: r := drop_more (w := [c]) h0 hT
      obtain ⟨g3, g4⟩ := gI_of_drop (a := a + 1) (by omega) hd
      rw [g1]
      refine ⟨g2, by omega, by omega, ?_⟩
      unfold oneI
      rw [g1, if_neg (by rw [hf.1]; simp), if_neg (by rw [hf.2.1]; simp), if_neg hf.2.2.1, if_neg (by rw [g3]; intro hh; exact absurd hh.2.2 (by decide)), if_pos hf.2.2.2.2.2.2, hp]
      have : sub T a (a + 1) = [c] := hs
      rw [this]; simp
      omega
/-- Tokens that are printed, one behind the other, are read as they. -/
theorem tok_print {T : List UInt8} : ∀ (l : List Tok) (n : Nat) (a : Int) (out : List Tok), (∀ t ∈ l, Good t) → 0 ≤ a → T.drop a.toNat = l.flatMap printT → a ≤ T.length → T.length - a < n →
    ∃ l' : List Tok, tokF n T a out = (out ++ l', 0, 0) ∧ l'.map (fun t => (t.1, t.2.2)) = l.map (fun t => (t.1, t.2.2))
  | [], n, a, out, _, h0, hT, ha, hn => by
    have : T.length ≤ a := by
      have := congrArg List.length hT
      simp at this; omega
    obtain ⟨n, rfl⟩ : ∃ k, n = k + 1 := ⟨n - 1, by omega⟩
    exact ⟨[], by rw [tok_end this]; simp, rfl⟩
  | t :: l, n, a, out, hg, h0, hT, ha, hn => by
    rw [List.flatMap_cons] at hT
    obtain ⟨g1, g2, g3, g4⟩ := one_print (hg t (by simp)) h0 hT
    have hlen := congrArg List.length hT
    rw [List.length_drop, List.length_append] at hlen
    have hpl : 2 ≤ (printT t).length := by
      rcases hg t (by simp) with ⟨h1, _, _, c, q, h4, _⟩ | ⟨h1, _, _, c, q, h4, _⟩ | ⟨h1, _⟩ | ⟨h1, h4⟩
      · simp [printT, h1, h4]
      · simp [printT, h1, h4]
      · simp [printT, h1, quoteS]
      · rcases h4 with h4 | ⟨c, h4, _⟩ <;> simp [printT, h1, h4]
    obtain ⟨n, rfl⟩ : ∃ k, n = k + 2 := ⟨n - 2, by omega⟩
    rw [tok_one g1 g2 g3 (by rw [g4]), g4]
    have hsplit : ∃ w, printT t = w ++ [10] := ⟨_, rfl⟩
    obtain ⟨w, hw⟩ := hsplit
    have hwl : (printT t).length = w.length + 1 := by rw [hw]; simp
    have hd : T.drop (a + (printT t).length - 1).toNat = 10 :: l.flatMap printT := by
      rw [hw, List.append_assoc] at hT
      have := drop_more h0 hT
      rw [show a + ((printT t).length : Int) - 1 = a + w.length by omega]
      exact this
    obtain ⟨x1, x2⟩ := gI_of_drop (a := a + (printT t).length - 1) (by omega) hd
    show ∃ l', tokF (n + 1) T (a + (printT t).length - 1) (out ++ [(t.1, a, t.2.2)]) = _ ∧ _
    rw [tok_sp x2 (.inr (by rw [x1]; rfl))]
    have hd2 : T.drop (a + (printT t).length - 1 + 1).toNat = l.flatMap printT := drop_more (w := [10]) (by omega) hd
    obtain ⟨l', h1, h2⟩ := tok_print l n (a + (printT t).length - 1 + 1) (out ++ [(t.1, a, t.2.2)]) (fun t ht => hg t (by simp [ht])) (by omega) hd2 (by omega) (by omega)
    exact ⟨(t.1, a, t.2.2) :: l', by rw [h1]; simp, by simp [h2]⟩

end Go.Proofs
