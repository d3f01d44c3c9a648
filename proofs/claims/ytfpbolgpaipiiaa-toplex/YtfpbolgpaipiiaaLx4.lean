import Derived.Test.YtfpbolgpaipiiaaProg
import Derived.Test.YtfpbolgpaipiiaaMix
import Derived.Test.YtfpbolgpaipiiaaWwX
import Derived.Test.YtfpbolgpaipiiaaLx3
namespace Go.Proofs
open Go Go.Aw
set_option maxRecDepth 100000


/-- A token: kind, place, text. -/
abbrev Tok := Int × Int × List UInt8
def tokAV (t : Tok) : AV := .agg [.int .i64 t.1, .int .i64 t.2.1, .str t.2.2]
/-- The tokens of a text from a place on, behind those that were read: they, where it is wrong, what. -/
def tokF : Nat → List UInt8 → Int → List Tok → List Tok × Int × Int
  | 0, _, _, out => (out, 0, 0)
  | n + 1, s, a, out =>
    if a < s.length then
      if ((gI s a).toNat : Int) = 32 ∨ ((gI s a).toNat : Int) = 10 then tokF n s (a + 1) out
      else if ((gI s a).toNat : Int) = 35 then tokF n s (runI noLineB s a) out
      else if (oneI s a).2.2.2 ≠ 0 then ([], a, (oneI s a).2.2.2)
      else tokF n s (oneI s a).2.2.1 (out ++ [((oneI s a).1, a, (oneI s a).2.1)])
    else (out, 0, 0)

def tokR (s : List UInt8) : List Tok × Int × Int := if 4000 < (s.length : Int) then ([], 0, 2) else tokF (s.length + 1) s 0 []

theorem tok_end {n : Nat} {s : List UInt8} {a : Int} {out : List Tok} (h : s.length ≤ a) : tokF (n + 1) s a out = (out, 0, 0) := by rw [tokF, if_neg (by omega)]
theorem tok_sp {n : Nat} {s : List UInt8} {a : Int} {out : List Tok} (h : a < s.length) (hc : ((gI s a).toNat : Int) = 32 ∨ ((gI s a).toNat : Int) = 10) : tokF (n + 1) s a out = tokF n s (a + 1) out := by rw [tokF, if_pos h, if_pos hc]
theorem tok_com {n : Nat} {s : List UInt8} {a : Int} {out : List Tok} (h : a < s.length) (hc : ((gI s a).toNat : Int) = 35) : tokF (n + 1) s a out = tokF n s (runI noLineB s a) out := by rw [tokF, if_pos h, if_neg (by omega), if_pos hc]
theorem tok_bad {n : Nat} {s : List UInt8} {a : Int} {out : List Tok} (h : a < s.length) (hc : ¬ (((gI s a).toNat : Int) = 32 ∨ ((gI s a).toNat : Int) = 10)) (h5 : ((gI s a).toNat : Int) ≠ 35) (he : (oneI s a).2.2.2 ≠ 0) : tokF (n + 1) s a out = ([], a, (oneI s a).2.2.2) := by
  rw [tokF, if_pos h, if_neg hc, if_neg h5, if_pos he]
theorem tok_one {n : Nat} {s : List UInt8} {a : Int} {out : List Tok} (h : a < s.length) (hc : ¬ (((gI s a).toNat : Int) = 32 ∨ ((gI s a).toNat : Int) = 10)) (h5 : ((gI s a).toNat : Int) ≠ 35) (he : (oneI s a).2.2.2 = 0) :
    tokF (n + 1) s a out = tokF n s (oneI s a).2.2.1 (out ++ [((oneI s a).1, a, (oneI s a).2.1)]) := by
  rw [tokF, if_pos h, if_neg hc, if_neg h5, if_neg (by simpa using he)]

theorem quoteL_facts (s : List UInt8) (i : Nat) (b : List UInt8) : 0 ≤ (quoteL s i b).1 ∧ ((quoteL s i b).1 = 0 → (i : Int) < (quoteL s i b).2.2 ∧ (quoteL s i b).2.2 ≤ s.length) := by
  fun_induction quoteL s i b <;> simp_all <;> omega
theorem qI_facts (s : List UInt8) (a : Int) (h0 : 0 ≤ a) (b : List UInt8) : 0 ≤ (qI s a b).1 ∧ ((qI s a b).1 = 0 → a < (qI s a b).2.2 ∧ (qI s a b).2.2 ≤ s.length) := by
  have := quoteL_facts s a.toNat b
  rw [qI]
  refine ⟨this.1, fun h => ?_⟩
  have := this.2 h
  omega
theorem oneI_nn (s : List UInt8) (a : Int) : 0 ≤ (oneI s a).2.2.2 := by
  unfold oneI
  split
  · split <;> simp
  · split
    · split <;> simp
    · split
      · rw [qI]; exact (quoteL_facts _ _ _).1
      · split
        · simp
        · split <;> simp

theorem oneI_end {s : List UInt8} {a : Int} (h0 : 0 ≤ a) (ha : a < s.length) (he : (oneI s a).2.2.2 = 0) : a < (oneI s a).2.2.1 ∧ (oneI s a).2.2.1 ≤ s.length := by
  have hw := runI_le wordB (s := s) h0 (by omega)
  have hd := runI_le digitB (s := s) h0 (by omega)
  have hw1 : letterB (gI s a) = true → a + 1 ≤ runI wordB s a := fun hl => by
    rw [runI_step h0 ha (by simp [wordB, hl])]; exact runI_ge _ (by omega)
  have hd1 : digitB (gI s a) = true → a + 1 ≤ runI digitB s a := fun hl => by
    rw [runI_step h0 ha hl]; exact runI_ge _ (by omega)
  unfold oneI at he ⊢
  split
  · next hl =>
    have := hw1 hl
    split <;> simp_all <;> omega
  · split
    · next hl =>
      have := hd1 hl
      split <;> simp_all <;> omega
    · split
      · next h34 =>
        simp_all
        have := (qI_facts s (a + 1) (by omega) []).2 he
        omega
      · split
        · simp; omega
        · split <;> simp_all <;> omega

set_option maxHeartbeats 1000000 in
theorem u_refTokens (s : List UInt8) (hs : s.length ≤ 16777216) (m : AMem) (K : AV → AMem → Prop) (hK : K (.tuple [.slice false ((tokR s).1.map tokAV), .int .i64 (tokR s).2.1, .int .i64 (tokR s).2.2]) m) : ACalls Try.prog 22 [.str s] m K := by
  refine acalls_enter Try.func22 rfl (by decide) (Nat.le_of_ble_eq_true rfl) ?_
  show AWP _ _ _ _ [(0, .str s)] m
  refine awp_reg2_seq [] [0] (by decide) ?_
  intro K1 hK1
  refine ⟨trivial, trivial, trivial, ?_⟩
  show K1 [(0, .str s)] m
  refine hK1 _ _ ?_; clear hK1 K1
  refine awp_seq_k ?_; intro K2 hK2
  refine awp_reg2_seq [] [0, 14] (by decide) ?_
  intro K1 hK1
  refine ⟨trivial, trivial, trivial, ?_⟩
  show K1 [(0, .str s), (14, .bool (decide (4000 < (s.length : Int))))] m
  refine hK1 _ _ ?_; clear hK1 K1
  refine awp_cond rfl rfl (fun h1 => ?_) (fun h1 => ?_)
  · replace h1 : 4000 < (s.length : Int) := (of_decide_eq_true h1)
    refine awp_reg2_seq [] [2, 3, 4] (by decide) ?_
    intro K1 hK1
    refine ⟨trivial, trivial, trivial, ?_⟩
    show K1 [(2, .slice true []), (3, .int .i64 0), (4, .int .i64 2)] m
    refine hK1 _ _ ?_; clear hK1 K1
    refine awp_ret ?_
    refine ⟨trivial, trivial, trivial, _, fun _ _ h => h, ?_⟩
    show K (.tuple [.slice false [], .int .i64 0, .int .i64 2]) m
   
    refine K_eq hK ?_
    rw [tokR, if_pos h1]; rfl
  · replace h1 : (s.length : Int) ≤ 4000 := (Int.not_lt.1 (of_decide_eq_false h1))
    have hR : tokR s = tokF (s.length + 1) s 0 [] := by rw [tokR, if_neg (by omega)]
    refine awp_skip ?_
    refine hK2 _ _ ?_; clear hK2
    refine awp_reg2_seq [] [0, 5] (by decide) ?_
    intro K1 hK1
    refine ⟨trivial, ?_⟩
    show K1 [(0, .str s), (5, .slice true [])] m
    refine hK1 _ _ ?_; clear hK1 K1
    refine awp_reg2_seq [] [0, 5, 6] (by decide) ?_
    intro K1 hK1
    refine ⟨trivial, ?_⟩
    show K1 [(0, .str s), (5, .slice true []), (6, .int .i64 0)] m
    refine hK1 _ _ ?_; clear hK1 K1
    refine awp_seq_k ?_; intro K3 hK3
    refine awp_block ?_
    refine awp_keep [0, 5, 6] (by decide) ?_
    refine awp_loop_st (σ := (List Tok) × Int) (fun ⟨l, at_⟩ => [(0, .str s), (5, .slice true (l.map tokAV)), (6, .int .i64 at_)]) (fun _ => m) (fun ⟨l, at_⟩ => 0 ≤ at_ ∧ at_ ≤ s.length ∧ (l.length : Int) ≤ at_ ∧ ∃ n : Nat, s.length - at_ < n ∧ tokF (s.length + 1) s 0 [] = tokF n s at_ l) (fun ⟨l, at_⟩ => s.length - at_.toNat) ([], 0) rfl rfl ?_ ?_
    · show 0 ≤ ((0 : Int)) ∧ ((0 : Int)) ≤ s.length ∧ ((([] : (List Tok))).length : Int) ≤ ((0 : Int)) ∧ ∃ n : Nat, s.length - ((0 : Int)) < n ∧ tokF (s.length + 1) s 0 [] = tokF n s ((0 : Int)) (([] : (List Tok)))
      exact ⟨by omega, by omega, by simp, s.length + 1, by omega, rfl⟩
    · rintro ⟨l, at_⟩ hI
      replace hI : 0 ≤ at_ ∧ at_ ≤ s.length ∧ (l.length : Int) ≤ at_ ∧ ∃ n : Nat, s.length - at_ < n ∧ tokF (s.length + 1) s 0 [] = tokF n s at_ l := hI
      obtain ⟨n, hn, ht⟩ := hI.2.2.2
      show AWP _ _ _ _ [(0, .str s), (5, .slice true (l.map tokAV)), (6, .int .i64 at_)] m
      refine awp_seq_k ?_; intro K4 hK4
      refine awp_reg2_seq [] [0, 5, 6, 18] (by decide) ?_
      intro K1 hK1
      refine ⟨trivial, trivial, trivial, trivial, ?_⟩
      show K1 [(0, .str s), (5, .slice true (l.map tokAV)), (6, .int .i64 at_), (18, .bool (decide (at_ < (s.length : Int))))] m
      refine hK1 _ _ ?_; clear hK1 K1
      refine awp_cond rfl rfl (fun h2 => ?_) (fun h2 => ?_)
      · replace h2 : at_ < (s.length : Int) := (of_decide_eq_true h2)
        obtain ⟨n, rfl⟩ : ∃ k, n = k + 1 := ⟨n - 1, by omega⟩
        refine awp_skip ?_
        refine hK4 _ _ ?_; clear hK4
        refine awp_block ?_
        refine awp_reg2_seq [] [0, 5, 6, 7] (by decide) ?_
        intro K1 hK1
        refine ⟨trivial, trivial, ⟨(by omega), (by omega)⟩, trivial, ?_⟩
        show K1 [(0, .str s), (5, .slice true (l.map tokAV)), (6, .int .i64 at_), (7, .int .u8 ((gI s at_).toNat))] m
        refine hK1 _ _ ?_; clear hK1 K1
        refine awp_seq_k ?_; intro K5 hK5
        refine awp_reg2_seq [] [0, 5, 6, 7, 27] (by decide) ?_
        intro K1 hK1
        suffices key : K1 [(0, .str s), (5, .slice true (l.map tokAV)), (6, .int .i64 at_), (7, .int .u8 ((gI s at_).toNat)), (27, .bool ((((gI s at_).toNat : Int) == 32) || (((gI s at_).toNat : Int) == 10)))] m by
          refine ⟨trivial, trivial, trivial, ?_⟩
          show aopsR _ _ _ _ _ [(24, .bool (((gI s at_).toNat : Int) == 32)), (23, .bool (((gI s at_).toNat : Int) == 32)), (22, .int .u8 ((gI s at_).toNat)), (0, .str s), (5, .slice true (l.map tokAV)), (6, .int .i64 at_), (7, .int .u8 ((gI s at_).toNat))] _
          revert key
          cases h3 : (((gI s at_).toNat : Int) == 32)
          · replace h3 : ((gI s at_).toNat : Int) ≠ 32 := (ne_of_beq_false h3)
            intro key
            refine ⟨trivial, trivial, ?_⟩
            exact key
          · replace h3 : ((gI s at_).toNat : Int) = 32 := (eq_of_beq h3)
            intro key
            refine ar_off rfl (ar_off rfl ?_)
            exact key
        refine hK1 _ _ ?_; clear hK1 K1
        refine awp_cond rfl rfl (fun h4 => ?_) (fun h4 => ?_)
        · replace h4 : (((gI s at_).toNat : Int) = 32) ∨ (((gI s at_).toNat : Int) = 10) := ((borT h4).imp (fun q => (eq_of_beq q)) (fun q => (eq_of_beq q)))
          refine awp_reg2_seq [] [0, 5, 6] (by decide) ?_
          intro K1 hK1
          refine ⟨trivial, ?_⟩
          refine ar_add rfl (a := at_) (b := 1) rfl rfl (by omega) (by omega) ?_
          refine ⟨trivial, ?_⟩
          show K1 [(0, .str s), (5, .slice true (l.map tokAV)), (6, .int .i64 (at_ + 1))] m
          refine hK1 _ _ ?_; clear hK1 K1
          refine awp_exit ?_
          refine ⟨(l, at_ + 1), rfl, rfl, ?_, ?_⟩
          · show 0 ≤ ((at_ + 1 : Int)) ∧ ((at_ + 1 : Int)) ≤ s.length ∧ (l.length : Int) ≤ ((at_ + 1 : Int)) ∧ ∃ n : Nat, s.length - ((at_ + 1 : Int)) < n ∧ tokF (s.length + 1) s 0 [] = tokF n s ((at_ + 1 : Int)) l
            exact ⟨by omega, by omega, by omega, n, by omega, by rw [ht, tok_sp h2 h4]⟩
          · show s.length - ((at_ + 1 : Int)).toNat < s.length - at_.toNat
            omega
        · replace h4 : (((gI s at_).toNat : Int) ≠ 32) ∧ (((gI s at_).toNat : Int) ≠ 10) := ⟨(ne_of_beq_false (borL h4)), (ne_of_beq_false (borR h4))⟩
          refine awp_skip ?_
          refine hK5 _ _ ?_; clear hK5
          refine awp_seq_k ?_; intro K6 hK6
          refine awp_reg2_seq [] [0, 5, 6, 31] (by decide) ?_
          intro K1 hK1
          refine ⟨trivial, trivial, ?_⟩
          show K1 [(0, .str s), (5, .slice true (l.map tokAV)), (6, .int .i64 at_), (31, .bool (((gI s at_).toNat : Int) == 35))] m
          refine hK1 _ _ ?_; clear hK1 K1
          refine awp_cond rfl rfl (fun h5 => ?_) (fun h5 => ?_)
          · replace h5 : ((gI s at_).toNat : Int) = 35 := (eq_of_beq h5)
            refine awp_seq_k ?_; intro K7 hK7
            refine awp_block ?_
            refine awp_keep [0, 5, 6] (by decide) ?_
            refine awp_loop_st (σ := Int) (fun at_2 => [(0, .str s), (5, .slice true (l.map tokAV)), (6, .int .i64 at_2)]) (fun _ => m) (fun at_2 => at_ ≤ at_2 ∧ at_2 ≤ s.length ∧ runI noLineB s at_ = runI noLineB s at_2) (fun at_2 => s.length - at_2.toNat) (at_) rfl rfl ?_ ?_
            · show at_ ≤ ((at_ : Int)) ∧ ((at_ : Int)) ≤ s.length ∧ runI noLineB s at_ = runI noLineB s ((at_ : Int))
              first | omega | (refine ⟨?_, ?_⟩ <;> first | omega | simp) | simp
            · rintro at_2 hI2
              replace hI2 : at_ ≤ at_2 ∧ at_2 ≤ s.length ∧ runI noLineB s at_ = runI noLineB s at_2 := hI2
              show AWP _ _ _ _ [(0, .str s), (5, .slice true (l.map tokAV)), (6, .int .i64 at_2)] m
              refine awp_seq_k ?_; intro K8 hK8
              refine awp_reg2_seq [] [0, 5, 6, 41] (by decide) ?_
              intro K1 hK1
              suffices key : K1 [(0, .str s), (5, .slice true (l.map tokAV)), (6, .int .i64 at_2), (41, .bool ((decide (at_2 < (s.length : Int))) && (!(((gI s at_2).toNat : Int) == 10))))] m by
                refine ⟨trivial, trivial, trivial, trivial, trivial, ?_⟩
                show aopsR _ _ _ _ _ [(36, .bool (decide (at_2 < (s.length : Int)))), (35, .bool (decide (at_2 < (s.length : Int)))), (34, .int .i64 (s.length : Int)), (33, .str s), (32, .int .i64 at_2), (0, .str s), (5, .slice true (l.map tokAV)), (6, .int .i64 at_2)] _
                revert key
                cases h6 : (decide (at_2 < (s.length : Int)))
                · replace h6 : (s.length : Int) ≤ at_2 := (Int.not_lt.1 (of_decide_eq_false h6))
                  intro key
                  refine ar_off rfl (ar_off rfl (ar_off rfl (ar_off rfl ?_)))
                  exact key
                · replace h6 : at_2 < (s.length : Int) := (of_decide_eq_true h6)
                  intro key
                  refine ⟨trivial, trivial, ⟨(by omega), (by omega)⟩, trivial, ?_⟩
                  exact key
              refine hK1 _ _ ?_; clear hK1 K1
              refine awp_cond rfl rfl (fun h7 => ?_) (fun h7 => ?_)
              · replace h7 : (at_2 < (s.length : Int)) ∧ (((gI s at_2).toNat : Int) ≠ 10) := ⟨(of_decide_eq_true (bandL h7)), (ne_of_beq_false (bnT (bandR h7)))⟩
                refine awp_skip ?_
                refine hK8 _ _ ?_; clear hK8
                refine awp_block ?_
                refine awp_reg2 [] [0, 5, 6] (by decide) ?_
                intro K1 hK1
                refine ⟨trivial, ?_⟩
                refine ar_add rfl (a := at_2) (b := 1) rfl rfl (by omega) (by omega) ?_
                refine ⟨trivial, ?_⟩
                show K1 [(0, .str s), (5, .slice true (l.map tokAV)), (6, .int .i64 (at_2 + 1))] m
                refine hK1 _ _ ?_; clear hK1 K1
                refine ⟨(at_2 + 1), rfl, rfl, ?_, ?_⟩
                · show at_ ≤ ((at_2 + 1 : Int)) ∧ ((at_2 + 1 : Int)) ≤ s.length ∧ runI noLineB s at_ = runI noLineB s ((at_2 + 1 : Int))
                  exact ⟨by omega, by omega, by rw [hI2.2.2]; exact runI_step (by omega) h7.1 (by simp [noLineB]; omega)⟩
                · show s.length - ((at_2 + 1 : Int)).toNat < s.length - at_2.toNat
                  omega
              · replace h7 : ((s.length : Int) ≤ at_2) ∨ (((gI s at_2).toNat : Int) = 10) := ((bandF h7).imp (fun q => (Int.not_lt.1 (of_decide_eq_false q))) (fun q => (eq_of_beq (bnF q))))
                have hrun : runI noLineB s at_ = at_2 := hI2.2.2.trans (runI_stop (by omega) (fun hl => by simp [noLineB]; omega))
                have hgt : at_ < at_2 := by
                  rcases Int.lt_or_eq_of_le hI2.1 with hlt | rfl
                  · exact hlt
                  · omega
                refine awp_exit ?_
                refine hK7 _ _ ?_; clear hK7
                refine awp_keep [0, 5, 6] (by decide) ?_
                show AWP _ _ _ _ [(0, .str s), (5, .slice true (l.map tokAV)), (6, .int .i64 at_2)] m
                refine awp_exit ?_
                refine ⟨(l, at_2), rfl, rfl, ?_, ?_⟩
                · show 0 ≤ ((at_2 : Int)) ∧ ((at_2 : Int)) ≤ s.length ∧ (l.length : Int) ≤ ((at_2 : Int)) ∧ ∃ n : Nat, s.length - ((at_2 : Int)) < n ∧ tokF (s.length + 1) s 0 [] = tokF n s ((at_2 : Int)) l
                  exact ⟨by omega, by omega, by omega, n, by omega, by rw [ht, tok_com h2 h5, hrun]⟩
                · show s.length - ((at_2 : Int)).toNat < s.length - at_.toNat
                  omega
          · replace h5 : ((gI s at_).toNat : Int) ≠ 35 := (ne_of_beq_false h5)
            refine awp_skip ?_
            refine hK6 _ _ ?_; clear hK6
            refine awp_reg2_seq [] [0, 5, 6, 8, 9, 10, 11] (by decide) ?_
            intro K1 hK1
            refine ⟨trivial, trivial, ?_⟩
            refine u_one s at_ (by omega) (by omega) (by omega) _ _ ?_
            refine ⟨trivial, (Nat.le_of_ble_eq_true rfl), (Nat.le_of_ble_eq_true rfl), (Nat.le_of_ble_eq_true rfl), (Nat.le_of_ble_eq_true rfl), trivial, trivial, trivial, trivial, ?_⟩
            show K1 [(0, .str s), (5, .slice true (l.map tokAV)), (6, .int .i64 at_), (8, .int .i64 ((oneI s at_).1)), (9, .str ((oneI s at_).2.1)), (10, .int .i64 ((oneI s at_).2.2.1)), (11, .int .i64 ((oneI s at_).2.2.2))] m
            refine hK1 _ _ ?_; clear hK1 K1
            refine awp_seq_k ?_; intro K9 hK9
            refine awp_reg2_seq [] [0, 5, 6, 8, 9, 10, 11, 53] (by decide) ?_
            intro K1 hK1
            refine ⟨trivial, trivial, ?_⟩
            show K1 [(0, .str s), (5, .slice true (l.map tokAV)), (6, .int .i64 at_), (8, .int .i64 ((oneI s at_).1)), (9, .str ((oneI s at_).2.1)), (10, .int .i64 ((oneI s at_).2.2.1)), (11, .int .i64 ((oneI s at_).2.2.2)), (53, .bool (decide (0 < (oneI s at_).2.2.2)))] m
            refine hK1 _ _ ?_; clear hK1 K1
            refine awp_cond rfl rfl (fun h8 => ?_) (fun h8 => ?_)
            · replace h8 : 0 < (oneI s at_).2.2.2 := (of_decide_eq_true h8)
              refine awp_reg2_seq [] [2, 3, 4] (by decide) ?_
              intro K1 hK1
              refine ⟨trivial, trivial, trivial, trivial, trivial, ?_⟩
              show K1 [(2, .slice true []), (3, .int .i64 at_), (4, .int .i64 ((oneI s at_).2.2.2))] m
              refine hK1 _ _ ?_; clear hK1 K1
              refine awp_ret ?_
              refine ⟨trivial, trivial, trivial, _, fun _ _ h => h, ?_⟩
              show K (.tuple [.slice false [], .int .i64 at_, .int .i64 ((oneI s at_).2.2.2)]) m
             
              refine K_eq hK ?_
              rw [hR, ht, tok_bad h2 (by omega) h5 (by omega)]; rfl
            · replace h8 : (oneI s at_).2.2.2 ≤ 0 := (Int.not_lt.1 (of_decide_eq_false h8))
              have hnn := oneI_nn s at_
              have he := oneI_end hI.1 h2 (by omega)
              refine awp_skip ?_
              refine hK9 _ _ ?_; clear hK9
              refine awp_reg2_seq [56] [0, 5, 10] (by decide) ?_
              intro K1 hK1
              refine ⟨trivial, trivial, trivial, trivial, ⟨rfl, by simp only [List.forall_mem_cons]; exact ⟨rfl, rfl, rfl, fun _ h => by cases h⟩, by simp only [List.forall_mem_cons]; exact ⟨rfl, rfl, rfl, fun _ h => by cases h⟩⟩, ⟨rfl, Nat.le_of_ble_eq_true rfl, rfl, Nat.le_of_ble_eq_true rfl, rfl, by simp only [List.forall_mem_cons]; exact ⟨⟨rfl, rfl⟩, fun _ h => by cases h⟩⟩, ?_⟩
              refine ar_append rfl tokAV l ([((oneI s at_).1, at_, (oneI s at_).2.1)] : List Tok) rfl rfl rfl rfl rfl rfl (Nat.le_of_ble_eq_true rfl) rfl (by (simp only [show Try.prog.bytesOf 55 = 32 from rfl, List.length_append, List.length_cons, List.length_nil]; omega)) (by (simp only [List.length_append, List.length_cons, List.length_nil]; omega)) (fun _ => ⟨rfl, rfl⟩) ?_
              refine ⟨trivial, ?_⟩
              show K1 [(0, .str s), (5, .slice true ((l ++ ([((oneI s at_).1, at_, (oneI s at_).2.1)] : List Tok)).map tokAV)), (10, .int .i64 ((oneI s at_).2.2.1))] m
              refine hK1 _ _ ?_; clear hK1 K1
              refine awp_reg2 [] [0, 5, 6] (by decide) ?_
              intro K1 hK1
              refine ⟨trivial, trivial, ?_⟩
              show K1 [(0, .str s), (5, .slice true ((l ++ ([((oneI s at_).1, at_, (oneI s at_).2.1)] : List Tok)).map tokAV)), (6, .int .i64 ((oneI s at_).2.2.1))] m
              refine hK1 _ _ ?_; clear hK1 K1
              refine ⟨(l ++ ([((oneI s at_).1, at_, (oneI s at_).2.1)] : List Tok), (oneI s at_).2.2.1), rfl, rfl, ?_, ?_⟩
              · show 0 ≤ (((oneI s at_).2.2.1 : Int)) ∧ (((oneI s at_).2.2.1 : Int)) ≤ s.length ∧ (((l ++ ([((oneI s at_).1, at_, (oneI s at_).2.1)] : List Tok) : (List Tok))).length : Int) ≤ (((oneI s at_).2.2.1 : Int)) ∧ ∃ n : Nat, s.length - (((oneI s at_).2.2.1 : Int)) < n ∧ tokF (s.length + 1) s 0 [] = tokF n s (((oneI s at_).2.2.1 : Int)) ((l ++ ([((oneI s at_).1, at_, (oneI s at_).2.1)] : List Tok) : (List Tok)))
                exact ⟨by omega, by omega, by simp; omega, n, by omega, by rw [ht, tok_one h2 (by omega) h5 (by omega)]⟩
              · show s.length - (((oneI s at_).2.2.1 : Int)).toNat < s.length - at_.toNat
                omega
      · replace h2 : (s.length : Int) ≤ at_ := (Int.not_lt.1 (of_decide_eq_false h2))
        obtain ⟨n, rfl⟩ : ∃ k, n = k + 1 := ⟨n - 1, by omega⟩
        refine awp_exit ?_
        refine hK3 _ _ ?_; clear hK3
        refine awp_reg2_seq [] [2, 3, 4] (by decide) ?_
        intro K1 hK1
        refine ⟨trivial, trivial, trivial, trivial, ?_⟩
        show K1 [(2, .slice false (l.map tokAV)), (3, .int .i64 0), (4, .int .i64 0)] m
        refine hK1 _ _ ?_; clear hK1 K1
        refine awp_ret ?_
        refine ⟨trivial, trivial, trivial, _, fun _ _ h => h, ?_⟩
        show K (.tuple [.slice false (l.map tokAV), .int .i64 0, .int .i64 0]) m
       
        refine K_eq hK ?_
        rw [hR, ht, tok_end h2]

end Go.Proofs
