import Derived.Test.YtfpbolgpaipiiaaProg
import Derived.Test.YtfpbolgpaipiiaaMix
import Derived.Test.YtfpbolgpaipiiaaWwX
import Derived.Test.YtfpbolgpaipiiaaLx4
namespace Go.Proofs
open Go Go.Aw
set_option maxRecDepth 100000


theorem gI_drop (s : List UInt8) (a : Int) (h0 : 0 ≤ a) (k : Nat) : (s.drop a.toNat).getD k 0 = gI s (a + k) := by
  obtain ⟨n, rfl⟩ := Int.eq_ofNat_of_zero_le h0
  have : ((n : Int) + (k : Int)) = ((n + k : Nat) : Int) := by simp
  rw [this, gI_str]
  simp [List.getD_eq_getElem?_getD]
theorem u8_of {c : UInt8} {n : Nat} (h : (c.toNat : Int) = n) (hn : n < 256) : c = UInt8.ofNat n := by
  apply UInt8.toNat_inj.1
  simp [Nat.mod_eq_of_lt hn]; omega
theorem hasPre_two (t : List UInt8) : Lib.hasPrefix t [61, 61] = true ↔ 2 ≤ t.length ∧ t.getD 0 0 = 61 ∧ t.getD 1 0 = 61 := by
  match t with
  | [] => simp [Lib.hasPrefix]
  | [x] => simp [Lib.hasPrefix]
  | x :: y :: r => simp [Lib.hasPrefix]; try exact ⟨fun h => ⟨h.1.symm, h.2.symm⟩, fun h => ⟨h.1.symm, h.2.symm⟩⟩
theorem sub_all (s : List UInt8) (a : Int) (h0 : 0 ≤ a) (ha : a < s.length) : sub s a s.length = s.drop a.toNat := by
  unfold sub
  rw [List.take_of_length_le]
  simp; omega
theorem oneI_sign {s : List UInt8} {a : Int} (h0 : 0 ≤ a) (ha : a < s.length) (h1 : ¬ letterB (gI s a) = true) (h2 : ¬ digitB (gI s a) = true) (h3 : ((gI s a).toNat : Int) ≠ 34) :
    oneI s a = if signN (sub s a s.length) = 0 then (0, [], 0, 4) else (4, sub s a (a + signN (sub s a s.length)), a + signN (sub s a s.length), 0) := by
  rw [oneI, if_neg h1, if_neg h2, if_neg h3, sub_all s a h0 ha]
  have e0 := gI_drop s a h0 0
  have e1 := gI_drop s a h0 1
  have z0 : a + ((0 : Nat) : Int) = a := by omega
  have z1 : a + ((1 : Nat) : Int) = a + 1 := by omega
  rw [z0] at e0
  rw [z1] at e1
  have hl : (s.drop a.toNat).length = s.length - a.toNat := by simp
  have hd := drop_cons (s := s) (i := a.toNat) (by omega)
  by_cases hp : Lib.hasPrefix (s.drop a.toNat) [61, 61] = true
  · have hq := (hasPre_two _).1 hp
    rw [e0, e1] at hq
    rw [signN, if_pos hp, if_pos ⟨by rw [hq.2.1]; rfl, by omega, by rw [hq.2.2]; rfl⟩]
    have hd1 := drop_cons (s := s) (i := a.toNat + 1) (by omega)
    have g0 : s.getD a.toNat 0 = 61 := hq.2.1
    have g1 : s.getD (a.toNat + 1) 0 = 61 := by
      have := hq.2.2
      rw [gI] at this
      have e : (a + 1).toNat = a.toNat + 1 := by omega
      rw [e] at this; exact this
    have : sub s a (a + 2) = [61, 61] := by
      unfold sub
      rw [hd, hd1, g0, g1]
      have : (a + 2 - a).toNat = 2 := by omega
      rw [this]; rfl
    simp [this]
  · have hn : ¬ (((gI s a).toNat : Int) = 61 ∧ a + 1 < s.length ∧ ((gI s (a + 1)).toNat : Int) = 61) := by
      intro hh
      apply hp
      rw [hasPre_two, e0, e1]
      refine ⟨by omega, ?_, ?_⟩
      · exact u8_of (n := 61) hh.1 (by omega)
      · exact u8_of (n := 61) hh.2.2 (by omega)
    rw [if_neg hn, signN, if_neg hp, e0]
    by_cases hi : 0 ≤ Lib.indexByte signsL (gI s a)
    · simp [hi]
    · simp [hi]

theorem oneI_letter {s : List UInt8} {a : Int} (h : letterB (gI s a) = true) : oneI s a = if 12 < runI wordB s a - a then (0, [], 0, 1) else (1, sub s a (runI wordB s a), runI wordB s a, 0) := by rw [oneI, if_pos h]
theorem oneI_digit {s : List UInt8} {a : Int} (h1 : ¬ letterB (gI s a) = true) (h : digitB (gI s a) = true) : oneI s a = if 10 < runI digitB s a - a ∨ (((gI s a).toNat : Int) = 48 ∧ a + 1 < runI digitB s a) then (0, [], 0, 1) else (2, sub s a (runI digitB s a), runI digitB s a, 0) := by rw [oneI, if_neg h1, if_pos h]
theorem oneI_quote {s : List UInt8} {a : Int} (h : ((gI s a).toNat : Int) = 34) : oneI s a = (if (qI s (a + 1) []).1 = 0 then 3 else 0, (qI s (a + 1) []).2.1, (qI s (a + 1) []).2.2, (qI s (a + 1) []).1) := by
  rw [oneI, if_neg (fun hb => by have := letterB_p.1 hb; omega), if_neg (fun hb => by have := digitB_p.1 hb; omega), if_pos h]
theorem signN_range (t : List UInt8) : 0 ≤ signN t ∧ signN t ≤ 2 := by unfold signN; split <;> (try split) <;> simp
theorem signN_le {s : List UInt8} {a : Int} (h0 : 0 ≤ a) (ha : a < s.length) : a + signN (sub s a s.length) ≤ s.length := by
  rw [sub_all s a h0 ha]
  unfold signN
  split
  · next h => have := ((hasPre_two _).1 h).1; simp at this; omega
  · split <;> omega
theorem tok_step {n : Nat} {s : List UInt8} {a : Int} {out : List Tok} {k : Int} {t : List UInt8} {e : Int} (h : a < s.length) (hc : ¬ (((gI s a).toNat : Int) = 32 ∨ ((gI s a).toNat : Int) = 10)) (h5 : ((gI s a).toNat : Int) ≠ 35) (he : oneI s a = (k, t, e, 0)) :
    tokF (n + 1) s a out = tokF n s e (out ++ [(k, a, t)]) := by rw [tok_one h hc h5 (by rw [he]), he]
theorem tok_err {n : Nat} {s : List UInt8} {a : Int} {out : List Tok} {k : Int} {t : List UInt8} {e f : Int} (h : a < s.length) (hc : ¬ (((gI s a).toNat : Int) = 32 ∨ ((gI s a).toNat : Int) = 10)) (h5 : ((gI s a).toNat : Int) ≠ 35) (he : oneI s a = (k, t, e, f)) (hf : f ≠ 0) :
    tokF (n + 1) s a out = ([], a, f) := by rw [tok_bad h hc h5 (by rw [he]; exact hf), he]

theorem u_run (s : List UInt8) (a : Int) (g : FuncId) (f : UInt8 → Bool) (h0 : 0 ≤ a) (ha : a ≤ s.length) (hs : s.length ≤ 140737488355328) (hf : ∀ c m, PureCall Try.prog g [.int .u8 (c : UInt8).toNat] m (.bool (f c))) (m : AMem) (K : AV → AMem → Prop) (hK : K (.int .i64 (runI f s a)) m) : ACalls Try.prog 30 [.str s, .int .i64 a, .func (.func g) [] []] m K := by
  refine acalls_enter Try.func30 rfl (by decide) (Nat.le_of_ble_eq_true rfl) ?_
  show AWP _ _ _ _ [(0, .str s), (1, .int .i64 a), (2, .func (.func g) [] [])] m
  refine awp_reg2_seq [] [0, 1, 2] (by decide) ?_
  intro K1 hK1
  refine ⟨trivial, ?_⟩
  show K1 [(0, .str s), (1, .int .i64 a), (2, .func (.func g) [] [])] m
  refine hK1 _ _ ?_; clear hK1 K1
  refine awp_seq_k ?_; intro K2 hK2
  refine awp_block ?_
  refine awp_keep [0, 1, 2] (by decide) ?_
  refine awp_loop_st (σ := Int) (fun at_ => [(0, .str s), (1, .int .i64 at_), (2, .func (.func g) [] [])]) (fun _ => m) (fun at_ => 0 ≤ at_ ∧ at_ ≤ s.length ∧ runI f s a = runI f s at_) (fun at_ => s.length - at_.toNat) (a) rfl rfl ?_ ?_
  · show 0 ≤ ((a : Int)) ∧ ((a : Int)) ≤ s.length ∧ runI f s a = runI f s ((a : Int))
    exact ⟨by omega, by omega, rfl⟩
  · rintro at_ hI
    replace hI : 0 ≤ at_ ∧ at_ ≤ s.length ∧ runI f s a = runI f s at_ := hI
    show AWP _ _ _ _ [(0, .str s), (1, .int .i64 at_), (2, .func (.func g) [] [])] m
    refine awp_seq_k ?_; intro K3 hK3
    refine awp_reg2_seq [] [0, 1, 2, 17] (by decide) ?_
    intro K1 hK1
    suffices key : K1 [(0, .str s), (1, .int .i64 at_), (2, .func (.func g) [] []), (17, .bool ((decide (at_ < (s.length : Int))) && (f (gI s at_))))] m by
      refine ⟨trivial, trivial, trivial, trivial, trivial, ?_⟩
      show aopsR _ _ _ _ _ [(11, .bool (decide (at_ < (s.length : Int)))), (10, .bool (decide (at_ < (s.length : Int)))), (9, .int .i64 (s.length : Int)), (8, .str s), (7, .int .i64 at_), (0, .str s), (1, .int .i64 at_), (2, .func (.func g) [] [])] _
      revert key
      cases h1 : (decide (at_ < (s.length : Int)))
      · replace h1 : (s.length : Int) ≤ at_ := (Int.not_lt.1 (of_decide_eq_false h1))
        intro key
        refine ar_off rfl (ar_off rfl (ar_off rfl (ar_off rfl (ar_off rfl ?_))))
        exact key
      · replace h1 : at_ < (s.length : Int) := (of_decide_eq_true h1)
        intro key
        refine ⟨trivial, trivial, trivial, ⟨(by omega), (by omega)⟩, ?_⟩
        refine hf (gI s at_) _ _ ?_
        exact key
    refine hK1 _ _ ?_; clear hK1 K1
    refine awp_cond rfl rfl (fun h2 => ?_) (fun h2 => ?_)
    · replace h2 : (at_ < (s.length : Int)) ∧ (f (gI s at_) = true) := ⟨(of_decide_eq_true (bandL h2)), (bandR h2)⟩
      refine awp_skip ?_
      refine hK3 _ _ ?_; clear hK3
      refine awp_block ?_
      refine awp_reg2 [] [0, 1, 2] (by decide) ?_
      intro K1 hK1
      refine ⟨trivial, ?_⟩
      refine ar_add rfl (a := at_) (b := 1) rfl rfl (by omega) (by omega) ?_
      refine ⟨trivial, ?_⟩
      show K1 [(0, .str s), (1, .int .i64 (at_ + 1)), (2, .func (.func g) [] [])] m
      refine hK1 _ _ ?_; clear hK1 K1
      refine ⟨(at_ + 1), rfl, rfl, ?_, ?_⟩
      · show 0 ≤ ((at_ + 1 : Int)) ∧ ((at_ + 1 : Int)) ≤ s.length ∧ runI f s a = runI f s ((at_ + 1 : Int))
        exact ⟨by omega, by omega, by rw [hI.2.2]; exact runI_step hI.1 h2.1 h2.2⟩
      · show s.length - ((at_ + 1 : Int)).toNat < s.length - at_.toNat
        omega
    · replace h2 : ((s.length : Int) ≤ at_) ∨ (f (gI s at_) = false) := ((bandF h2).imp (fun q => (Int.not_lt.1 (of_decide_eq_false q))) (fun q => q))
      refine awp_exit ?_
      refine hK2 _ _ ?_; clear hK2
      refine awp_reg2_seq [] [6] (by decide) ?_
      intro K1 hK1
      refine ⟨trivial, trivial, ?_⟩
      show K1 [(6, .int .i64 at_)] m
      refine hK1 _ _ ?_; clear hK1 K1
      refine awp_ret ?_
      refine ⟨trivial, _, fun _ _ h => h, ?_⟩
      show K (.int .i64 at_) m
     
      refine K_eq hK (congrArg (AV.int .i64) ?_)
      rw [hI.2.2]; exact runI_stop hI.1 (fun hl => by rcases h2 with h2 | h2; (omega); exact h2)

set_option maxHeartbeats 1000000 in
theorem u_Tokens (s : List UInt8) (hs : s.length ≤ 16777216) (m : AMem) (K : AV → AMem → Prop) (hK : K (.tuple [.slice false ((tokR s).1.map tokAV), .int .i64 (tokR s).2.1, .err 57 (tokR s).2.2]) m) : ACalls Try.prog 21 [.str s] m K := by
  refine acalls_enter Try.func21 rfl (by decide) (Nat.le_of_ble_eq_true rfl) ?_
  show AWP _ _ _ _ [(0, .str s)] m
  refine awp_reg2_seq [] [0] (by decide) ?_
  intro K1 hK1
  refine ⟨trivial, trivial, trivial, ?_⟩
  show K1 [(0, .str s)] m
  refine hK1 _ _ ?_; clear hK1 K1
  refine awp_seq_k ?_; intro K2 hK2
  refine awp_reg2_seq [] [0, 16] (by decide) ?_
  intro K1 hK1
  refine ⟨trivial, trivial, trivial, ?_⟩
  show K1 [(0, .str s), (16, .bool (decide (4000 < (s.length : Int))))] m
  refine hK1 _ _ ?_; clear hK1 K1
  refine awp_cond rfl rfl (fun h1 => ?_) (fun h1 => ?_)
  · replace h1 : 4000 < (s.length : Int) := (of_decide_eq_true h1)
    refine awp_reg2_seq [] [2, 3, 4] (by decide) ?_
    intro K1 hK1
    refine ⟨trivial, trivial, trivial, trivial, ?_⟩
    show K1 [(2, .slice true []), (3, .int .i64 0), (4, .iface 57 (.int .i64 2))] m
    refine hK1 _ _ ?_; clear hK1 K1
    refine awp_toErr 57 [4] ?_
    show AWP _ _ _ _ [(2, .slice true []), (3, .int .i64 0), (4, .err 57 2)] m
    refine awp_ret ?_
    refine ⟨trivial, trivial, trivial, _, fun _ _ h => h, ?_⟩
    show K (.tuple [.slice false [], .int .i64 0, .err 57 2]) m
   
    refine K_eq hK ?_
    rw [tokR, if_pos h1]; rfl
  · replace h1 : (s.length : Int) ≤ 4000 := (Int.not_lt.1 (of_decide_eq_false h1))
    have hR : tokR s = tokF (s.length + 1) s 0 [] := by rw [tokR, if_neg (by omega)]
    refine awp_skip ?_
    refine hK2 _ _ ?_; clear hK2
    refine awp_reg2_seq [] [0, 5] (by decide) ?_
    intro K1 hK1
    refine ⟨trivial, ?_⟩
    show K1 [(0, .str s), (5, .slice true [])] m
    refine hK1 _ _ ?_; clear hK1 K1
    refine awp_seq_k ?_; intro K3 hK3
    refine awp_reg2_seq [] [0, 5, 6] (by decide) ?_
    intro K1 hK1
    refine ⟨trivial, ?_⟩
    show K1 [(0, .str s), (5, .slice true []), (6, .int .i64 0)] m
    refine hK1 _ _ ?_; clear hK1 K1
    refine awp_block ?_
    refine awp_keep [0, 5, 6] (by decide) ?_
    refine awp_loop_st (σ := (List Tok) × Int) (fun ⟨out, at_⟩ => [(0, .str s), (5, .slice true (out.map tokAV)), (6, .int .i64 at_)]) (fun _ => m) (fun ⟨out, at_⟩ => 0 ≤ at_ ∧ at_ ≤ s.length ∧ (out.length : Int) ≤ at_ ∧ ∃ n : Nat, s.length - at_ < n ∧ tokF (s.length + 1) s 0 [] = tokF n s at_ out) (fun ⟨out, at_⟩ => s.length - at_.toNat) ([], 0) rfl rfl ?_ ?_
    · show 0 ≤ ((0 : Int)) ∧ ((0 : Int)) ≤ s.length ∧ ((([] : (List Tok))).length : Int) ≤ ((0 : Int)) ∧ ∃ n : Nat, s.length - ((0 : Int)) < n ∧ tokF (s.length + 1) s 0 [] = tokF n s ((0 : Int)) (([] : (List Tok)))
      exact ⟨by omega, by omega, by simp, s.length + 1, by omega, rfl⟩
    · rintro ⟨out, at_⟩ hI
      replace hI : 0 ≤ at_ ∧ at_ ≤ s.length ∧ (out.length : Int) ≤ at_ ∧ ∃ n : Nat, s.length - at_ < n ∧ tokF (s.length + 1) s 0 [] = tokF n s at_ out := hI
      obtain ⟨n, hn, ht⟩ := hI.2.2.2
      show AWP _ _ _ _ [(0, .str s), (5, .slice true (out.map tokAV)), (6, .int .i64 at_)] m
      refine awp_seq_k ?_; intro K4 hK4
      refine awp_reg2_seq [] [0, 5, 6, 21] (by decide) ?_
      intro K1 hK1
      refine ⟨trivial, trivial, trivial, trivial, ?_⟩
      show K1 [(0, .str s), (5, .slice true (out.map tokAV)), (6, .int .i64 at_), (21, .bool (decide (at_ < (s.length : Int))))] m
      refine hK1 _ _ ?_; clear hK1 K1
      refine awp_cond rfl rfl (fun h2 => ?_) (fun h2 => ?_)
      · replace h2 : at_ < (s.length : Int) := (of_decide_eq_true h2)
        obtain ⟨n, rfl⟩ : ∃ k, n = k + 1 := ⟨n - 1, by omega⟩
        refine awp_skip ?_
        refine hK4 _ _ ?_; clear hK4
        refine awp_block ?_
        refine awp_reg2_seq [] [0, 5, 6, 7] (by decide) ?_
        intro K1 hK1
        refine ⟨trivial, trivial, ⟨(by omega), (by omega)⟩, trivial, ?_⟩
        show K1 [(0, .str s), (5, .slice true (out.map tokAV)), (6, .int .i64 at_), (7, .int .u8 ((gI s at_).toNat))] m
        refine hK1 _ _ ?_; clear hK1 K1
        refine awp_block ?_
        refine awp_reg2_seq [] [0, 5, 6, 7, 47] (by decide) ?_
        intro K1 hK1
        suffices key : K1 [(0, .str s), (5, .slice true (out.map tokAV)), (6, .int .i64 at_), (7, .int .u8 ((gI s at_).toNat)), (47, .bool ((((gI s at_).toNat : Int) == 32) || (((gI s at_).toNat : Int) == 10)))] m by
          refine ⟨trivial, trivial, trivial, ?_⟩
          show aopsR _ _ _ _ _ [(50, .bool (((gI s at_).toNat : Int) == 32)), (49, .bool (((gI s at_).toNat : Int) == 32)), (48, .int .u8 ((gI s at_).toNat)), (0, .str s), (5, .slice true (out.map tokAV)), (6, .int .i64 at_), (7, .int .u8 ((gI s at_).toNat))] _
          revert key
          cases h3 : (((gI s at_).toNat : Int) == 32)
          · replace h3 : ((gI s at_).toNat : Int) ≠ 32 := (ne_of_beq_false h3)
            intro key
            refine ⟨trivial, trivial, ?_⟩
            refine ⟨trivial, ?_⟩
            exact key
          · replace h3 : ((gI s at_).toNat : Int) = 32 := (eq_of_beq h3)
            intro key
            refine ar_off rfl (ar_off rfl ?_)
            refine ⟨trivial, ?_⟩
            exact key
        refine hK1 _ _ ?_; clear hK1 K1
        refine awp_cond rfl rfl (fun h4 => ?_) (fun h4 => ?_)
        · replace h4 : (((gI s at_).toNat : Int) = 32) ∨ (((gI s at_).toNat : Int) = 10) := ((borT h4).imp (fun q => (eq_of_beq q)) (fun q => (eq_of_beq q)))
          refine awp_reg2 [] [0, 5, 6] (by decide) ?_
          intro K1 hK1
          refine ⟨trivial, ?_⟩
          refine ar_add rfl (a := at_) (b := 1) rfl rfl (by omega) (by omega) ?_
          refine ⟨trivial, ?_⟩
          show K1 [(0, .str s), (5, .slice true (out.map tokAV)), (6, .int .i64 (at_ + 1))] m
          refine hK1 _ _ ?_; clear hK1 K1
          refine ⟨(out, at_ + 1), rfl, rfl, ?_, ?_⟩
          · show 0 ≤ ((at_ + 1 : Int)) ∧ ((at_ + 1 : Int)) ≤ s.length ∧ (out.length : Int) ≤ ((at_ + 1 : Int)) ∧ ∃ n : Nat, s.length - ((at_ + 1 : Int)) < n ∧ tokF (s.length + 1) s 0 [] = tokF n s ((at_ + 1 : Int)) out
            exact ⟨by omega, by omega, by omega, n, by omega, by rw [ht, tok_sp h2 h4]⟩
          · show s.length - ((at_ + 1 : Int)).toNat < s.length - at_.toNat
            omega
        · replace h4 : (((gI s at_).toNat : Int) ≠ 32) ∧ (((gI s at_).toNat : Int) ≠ 10) := ⟨(ne_of_beq_false (borL h4)), (ne_of_beq_false (borR h4))⟩
          refine awp_reg2_seq [] [0, 5, 6, 7, 56] (by decide) ?_
          intro K1 hK1
          refine ⟨trivial, trivial, trivial, ?_⟩
          show K1 [(0, .str s), (5, .slice true (out.map tokAV)), (6, .int .i64 at_), (7, .int .u8 ((gI s at_).toNat)), (56, .bool (((gI s at_).toNat : Int) == 35))] m
          refine hK1 _ _ ?_; clear hK1 K1
          refine awp_cond rfl rfl (fun h5 => ?_) (fun h5 => ?_)
          · replace h5 : ((gI s at_).toNat : Int) = 35 := (eq_of_beq h5)
            have hr := runI_le noLineB (s := s) hI.1 (by omega)
            have hg : at_ + 1 ≤ runI noLineB s at_ := by rw [runI_step hI.1 h2 (by simp [noLineB]; omega)]; exact runI_ge _ (by omega)
            refine awp_reg2 [] [0, 5, 6] (by decide) ?_
            intro K1 hK1
            refine ⟨trivial, trivial, ?_⟩
            refine u_run s at_ 31 noLineB (by omega) (by omega) (by omega) (fun c m K hK => t_noLine c m K hK) _ _ ?_
            refine ⟨trivial, ?_⟩
            show K1 [(0, .str s), (5, .slice true (out.map tokAV)), (6, .int .i64 (runI noLineB s at_))] m
            refine hK1 _ _ ?_; clear hK1 K1
            refine ⟨(out, runI noLineB s at_), rfl, rfl, ?_, ?_⟩
            · show 0 ≤ ((runI noLineB s at_ : Int)) ∧ ((runI noLineB s at_ : Int)) ≤ s.length ∧ (out.length : Int) ≤ ((runI noLineB s at_ : Int)) ∧ ∃ n : Nat, s.length - ((runI noLineB s at_ : Int)) < n ∧ tokF (s.length + 1) s 0 [] = tokF n s ((runI noLineB s at_ : Int)) out
              exact ⟨by omega, by omega, by omega, n, by omega, by rw [ht, tok_com h2 h5]⟩
            · show s.length - ((runI noLineB s at_ : Int)).toNat < s.length - at_.toNat
              omega
          · replace h5 : ((gI s at_).toNat : Int) ≠ 35 := (ne_of_beq_false h5)
            refine awp_reg2_seq [] [0, 5, 6, 7, 62] (by decide) ?_
            intro K1 hK1
            refine ⟨trivial, ?_⟩
            refine t_letter (gI s at_) _ _ ?_
            refine ⟨trivial, ?_⟩
            show K1 [(0, .str s), (5, .slice true (out.map tokAV)), (6, .int .i64 at_), (7, .int .u8 ((gI s at_).toNat)), (62, .bool (letterB (gI s at_)))] m
            refine hK1 _ _ ?_; clear hK1 K1
            refine awp_cond rfl rfl (fun h6 => ?_) (fun h6 => ?_)
            · replace h6 : letterB (gI s at_) = true := h6
              have hr := runI_le wordB (s := s) hI.1 (by omega)
              have hg : at_ + 1 ≤ runI wordB s at_ := by rw [runI_step hI.1 h2 (by simp [wordB, h6])]; exact runI_ge _ (by omega)
              have e1 := oneI_letter h6
              refine awp_reg2_seq [] [0, 5, 6, 8] (by decide) ?_
              intro K1 hK1
              refine ⟨trivial, trivial, ?_⟩
              refine u_run s at_ 33 wordB (by omega) (by omega) (by omega) (fun c m K hK => t_word c m K hK) _ _ ?_
              refine ⟨trivial, ?_⟩
              show K1 [(0, .str s), (5, .slice true (out.map tokAV)), (6, .int .i64 at_), (8, .int .i64 (runI wordB s at_))] m
              refine hK1 _ _ ?_; clear hK1 K1
              refine awp_seq_k ?_; intro K5 hK5
              refine awp_reg2_seq [] [0, 5, 6, 8, 71] (by decide) ?_
              intro K1 hK1
              refine ⟨trivial, trivial, ?_⟩
              refine ar_sub rfl (a := runI wordB s at_) (b := at_) rfl rfl (by omega) (by omega) ?_
              refine ⟨trivial, ?_⟩
              show K1 [(0, .str s), (5, .slice true (out.map tokAV)), (6, .int .i64 at_), (8, .int .i64 (runI wordB s at_)), (71, .bool (decide (12 < (runI wordB s at_) - at_)))] m
              refine hK1 _ _ ?_; clear hK1 K1
              refine awp_cond rfl rfl (fun h7 => ?_) (fun h7 => ?_)
              · replace h7 : 12 < (runI wordB s at_) - at_ := (of_decide_eq_true h7)
                refine awp_reg2_seq [] [2, 3, 4] (by decide) ?_
                intro K1 hK1
                refine ⟨trivial, trivial, trivial, trivial, trivial, ?_⟩
                show K1 [(2, .slice true []), (3, .int .i64 at_), (4, .iface 57 (.int .i64 1))] m
                refine hK1 _ _ ?_; clear hK1 K1
                refine awp_toErr 57 [4] ?_
                show AWP _ _ _ _ [(2, .slice true []), (3, .int .i64 at_), (4, .err 57 1)] m
                refine awp_ret ?_
                refine ⟨trivial, trivial, trivial, _, fun _ _ h => h, ?_⟩
                show K (.tuple [.slice false [], .int .i64 at_, .err 57 1]) m
               
                refine K_eq hK ?_
                rw [hR, ht, tok_err h2 (by omega) h5 (e1.trans (if_pos h7)) (by omega)]; rfl
              · replace h7 : (runI wordB s at_) - at_ ≤ 12 := (Int.not_lt.1 (of_decide_eq_false h7))
                refine awp_skip ?_
                refine hK5 _ _ ?_; clear hK5
                refine awp_reg2_seq [74] [0, 5, 8] (by decide) ?_
                intro K1 hK1
                refine ⟨trivial, trivial, trivial, trivial, trivial, ⟨(by omega), (by omega), (by omega)⟩, ⟨rfl, by simp only [List.forall_mem_cons]; exact ⟨rfl, rfl, rfl, fun _ h => by cases h⟩, by simp only [List.forall_mem_cons]; exact ⟨rfl, rfl, rfl, fun _ h => by cases h⟩⟩, ⟨rfl, Nat.le_of_ble_eq_true rfl, rfl, Nat.le_of_ble_eq_true rfl, rfl, by simp only [List.forall_mem_cons]; exact ⟨⟨rfl, rfl⟩, fun _ h => by cases h⟩⟩, ?_⟩
                refine ar_append rfl tokAV out ([(1, at_, sub s at_ (runI wordB s at_))] : List Tok) rfl rfl rfl rfl rfl rfl (Nat.le_of_ble_eq_true rfl) rfl (by (simp only [show Try.prog.bytesOf 55 = 32 from rfl, List.length_append, List.length_cons, List.length_nil]; omega)) (by (simp only [List.length_append, List.length_cons, List.length_nil]; omega)) (fun _ => ⟨rfl, rfl⟩) ?_
                refine ⟨trivial, ?_⟩
                show K1 [(0, .str s), (5, .slice true ((out ++ ([(1, at_, sub s at_ (runI wordB s at_))] : List Tok)).map tokAV)), (8, .int .i64 (runI wordB s at_))] m
                refine hK1 _ _ ?_; clear hK1 K1
                refine awp_reg2 [] [0, 5, 6] (by decide) ?_
                intro K1 hK1
                refine ⟨trivial, trivial, ?_⟩
                show K1 [(0, .str s), (5, .slice true ((out ++ ([(1, at_, sub s at_ (runI wordB s at_))] : List Tok)).map tokAV)), (6, .int .i64 (runI wordB s at_))] m
                refine hK1 _ _ ?_; clear hK1 K1
                refine ⟨(out ++ ([(1, at_, sub s at_ (runI wordB s at_))] : List Tok), runI wordB s at_), rfl, rfl, ?_, ?_⟩
                · show 0 ≤ ((runI wordB s at_ : Int)) ∧ ((runI wordB s at_ : Int)) ≤ s.length ∧ (((out ++ ([(1, at_, sub s at_ (runI wordB s at_))] : List Tok) : (List Tok))).length : Int) ≤ ((runI wordB s at_ : Int)) ∧ ∃ n : Nat, s.length - ((runI wordB s at_ : Int)) < n ∧ tokF (s.length + 1) s 0 [] = tokF n s ((runI wordB s at_ : Int)) ((out ++ ([(1, at_, sub s at_ (runI wordB s at_))] : List Tok) : (List Tok)))
                  exact ⟨by omega, by omega, by simp; omega, n, by omega, by rw [ht, tok_step h2 (by omega) h5 (e1.trans (if_neg (by omega)))]⟩
                · show s.length - ((runI wordB s at_ : Int)).toNat < s.length - at_.toNat
                  omega
            · replace h6 : letterB (gI s at_) = false := h6
              refine awp_reg2_seq [] [0, 5, 6, 7, 84] (by decide) ?_
              intro K1 hK1
              refine ⟨trivial, ?_⟩
              refine t_digit (gI s at_) _ _ ?_
              refine ⟨trivial, ?_⟩
              show K1 [(0, .str s), (5, .slice true (out.map tokAV)), (6, .int .i64 at_), (7, .int .u8 ((gI s at_).toNat)), (84, .bool (digitB (gI s at_)))] m
              refine hK1 _ _ ?_; clear hK1 K1
              refine awp_cond rfl rfl (fun h8 => ?_) (fun h8 => ?_)
              · replace h8 : digitB (gI s at_) = true := h8
                have hr := runI_le digitB (s := s) hI.1 (by omega)
                have hg : at_ + 1 ≤ runI digitB s at_ := by rw [runI_step hI.1 h2 h8]; exact runI_ge _ (by omega)
                have e1 := oneI_digit (by rw [h6]; simp) h8
                refine awp_reg2_seq [] [0, 5, 6, 7, 9] (by decide) ?_
                intro K1 hK1
                refine ⟨trivial, trivial, ?_⟩
                refine u_run s at_ 34 digitB (by omega) (by omega) (by omega) (fun c m K hK => t_digit c m K hK) _ _ ?_
                refine ⟨trivial, ?_⟩
                show K1 [(0, .str s), (5, .slice true (out.map tokAV)), (6, .int .i64 at_), (7, .int .u8 ((gI s at_).toNat)), (9, .int .i64 (runI digitB s at_))] m
                refine hK1 _ _ ?_; clear hK1 K1
                refine awp_seq_k ?_; intro K6 hK6
                refine awp_reg2_seq [] [0, 5, 6, 9, 103] (by decide) ?_
                intro K1 hK1
                suffices key : K1 [(0, .str s), (5, .slice true (out.map tokAV)), (6, .int .i64 at_), (9, .int .i64 (runI digitB s at_)), (103, .bool ((decide (10 < (runI digitB s at_) - at_)) || ((((gI s at_).toNat : Int) == 48) && (decide (1 < (runI digitB s at_) - at_)))))] m by
                  refine ⟨trivial, trivial, ?_⟩
                  refine ar_sub rfl (a := runI digitB s at_) (b := at_) rfl rfl (by omega) (by omega) ?_
                  refine ⟨trivial, trivial, ?_⟩
                  show aopsR _ _ _ _ _ [(94, .bool (decide (10 < (runI digitB s at_) - at_))), (93, .bool (decide (10 < (runI digitB s at_) - at_))), (92, .int .i64 ((runI digitB s at_) - at_)), (91, .int .i64 at_), (90, .int .i64 (runI digitB s at_)), (0, .str s), (5, .slice true (out.map tokAV)), (6, .int .i64 at_), (7, .int .u8 ((gI s at_).toNat)), (9, .int .i64 (runI digitB s at_))] _
                  revert key
                  cases h9 : (decide (10 < (runI digitB s at_) - at_))
                  · replace h9 : (runI digitB s at_) - at_ ≤ 10 := (Int.not_lt.1 (of_decide_eq_false h9))
                    intro key
                    refine ⟨trivial, trivial, trivial, ?_⟩
                    show aopsR _ _ _ _ _ [(97, .bool (((gI s at_).toNat : Int) == 48)), (96, .bool (((gI s at_).toNat : Int) == 48)), (95, .int .u8 ((gI s at_).toNat)), (94, .bool false), (93, .bool false), (92, .int .i64 ((runI digitB s at_) - at_)), (91, .int .i64 at_), (90, .int .i64 (runI digitB s at_)), (0, .str s), (5, .slice true (out.map tokAV)), (6, .int .i64 at_), (7, .int .u8 ((gI s at_).toNat)), (9, .int .i64 (runI digitB s at_))] _
                    revert key
                    cases h10 : (((gI s at_).toNat : Int) == 48)
                    · replace h10 : ((gI s at_).toNat : Int) ≠ 48 := (ne_of_beq_false h10)
                      intro key
                      refine ar_off rfl (ar_off rfl (ar_off rfl (ar_off rfl ?_)))
                      exact key
                    · replace h10 : ((gI s at_).toNat : Int) = 48 := (eq_of_beq h10)
                      intro key
                      refine ⟨trivial, trivial, ?_⟩
                      refine ar_sub rfl (a := runI digitB s at_) (b := at_) rfl rfl (by omega) (by omega) ?_
                      refine ⟨trivial, ?_⟩
                      exact key
                  · replace h9 : 10 < (runI digitB s at_) - at_ := (of_decide_eq_true h9)
                    intro key
                    refine ar_off rfl (ar_off rfl (ar_off rfl (ar_off rfl (ar_off rfl (ar_off rfl (ar_off rfl (ar_off rfl ?_)))))))
                    exact key
                refine hK1 _ _ ?_; clear hK1 K1
                refine awp_cond rfl rfl (fun h11 => ?_) (fun h11 => ?_)
                · replace h11 : (10 < (runI digitB s at_) - at_) ∨ ((((gI s at_).toNat : Int) = 48) ∧ (1 < (runI digitB s at_) - at_)) := ((borT h11).imp (fun q => (of_decide_eq_true q)) (fun q => ⟨(eq_of_beq (bandL q)), (of_decide_eq_true (bandR q))⟩))
                  refine awp_reg2_seq [] [2, 3, 4] (by decide) ?_
                  intro K1 hK1
                  refine ⟨trivial, trivial, trivial, trivial, trivial, ?_⟩
                  show K1 [(2, .slice true []), (3, .int .i64 at_), (4, .iface 57 (.int .i64 1))] m
                  refine hK1 _ _ ?_; clear hK1 K1
                  refine awp_toErr 57 [4] ?_
                  show AWP _ _ _ _ [(2, .slice true []), (3, .int .i64 at_), (4, .err 57 1)] m
                  refine awp_ret ?_
                  refine ⟨trivial, trivial, trivial, _, fun _ _ h => h, ?_⟩
                  show K (.tuple [.slice false [], .int .i64 at_, .err 57 1]) m
                 
                  refine K_eq hK ?_
                  rw [hR, ht, tok_err h2 (by omega) h5 (e1.trans (if_pos (by omega))) (by omega)]; rfl
                · replace h11 : ((runI digitB s at_) - at_ ≤ 10) ∧ ((((gI s at_).toNat : Int) ≠ 48) ∨ ((runI digitB s at_) - at_ ≤ 1)) := ⟨(Int.not_lt.1 (of_decide_eq_false (borL h11))), ((bandF (borR h11)).imp (fun q => (ne_of_beq_false q)) (fun q => (Int.not_lt.1 (of_decide_eq_false q))))⟩
                  refine awp_skip ?_
                  refine hK6 _ _ ?_; clear hK6
                  refine awp_reg2_seq [106] [0, 5, 9] (by decide) ?_
                  intro K1 hK1
                  refine ⟨trivial, trivial, trivial, trivial, trivial, ⟨(by omega), (by omega), (by omega)⟩, ⟨rfl, by simp only [List.forall_mem_cons]; exact ⟨rfl, rfl, rfl, fun _ h => by cases h⟩, by simp only [List.forall_mem_cons]; exact ⟨rfl, rfl, rfl, fun _ h => by cases h⟩⟩, ⟨rfl, Nat.le_of_ble_eq_true rfl, rfl, Nat.le_of_ble_eq_true rfl, rfl, by simp only [List.forall_mem_cons]; exact ⟨⟨rfl, rfl⟩, fun _ h => by cases h⟩⟩, ?_⟩
                  refine ar_append rfl tokAV out ([(2, at_, sub s at_ (runI digitB s at_))] : List Tok) rfl rfl rfl rfl rfl rfl (Nat.le_of_ble_eq_true rfl) rfl (by (simp only [show Try.prog.bytesOf 55 = 32 from rfl, List.length_append, List.length_cons, List.length_nil]; omega)) (by (simp only [List.length_append, List.length_cons, List.length_nil]; omega)) (fun _ => ⟨rfl, rfl⟩) ?_
                  refine ⟨trivial, ?_⟩
                  show K1 [(0, .str s), (5, .slice true ((out ++ ([(2, at_, sub s at_ (runI digitB s at_))] : List Tok)).map tokAV)), (9, .int .i64 (runI digitB s at_))] m
                  refine hK1 _ _ ?_; clear hK1 K1
                  refine awp_reg2 [] [0, 5, 6] (by decide) ?_
                  intro K1 hK1
                  refine ⟨trivial, trivial, ?_⟩
                  show K1 [(0, .str s), (5, .slice true ((out ++ ([(2, at_, sub s at_ (runI digitB s at_))] : List Tok)).map tokAV)), (6, .int .i64 (runI digitB s at_))] m
                  refine hK1 _ _ ?_; clear hK1 K1
                  refine ⟨(out ++ ([(2, at_, sub s at_ (runI digitB s at_))] : List Tok), runI digitB s at_), rfl, rfl, ?_, ?_⟩
                  · show 0 ≤ ((runI digitB s at_ : Int)) ∧ ((runI digitB s at_ : Int)) ≤ s.length ∧ (((out ++ ([(2, at_, sub s at_ (runI digitB s at_))] : List Tok) : (List Tok))).length : Int) ≤ ((runI digitB s at_ : Int)) ∧ ∃ n : Nat, s.length - ((runI digitB s at_ : Int)) < n ∧ tokF (s.length + 1) s 0 [] = tokF n s ((runI digitB s at_ : Int)) ((out ++ ([(2, at_, sub s at_ (runI digitB s at_))] : List Tok) : (List Tok)))
                    exact ⟨by omega, by omega, by simp; omega, n, by omega, by rw [ht, tok_step h2 (by omega) h5 (e1.trans (if_neg (by omega)))]⟩
                  · show s.length - ((runI digitB s at_ : Int)).toNat < s.length - at_.toNat
                    omega
              · replace h8 : digitB (gI s at_) = false := h8
                refine awp_reg2_seq [] [0, 5, 6, 116] (by decide) ?_
                intro K1 hK1
                refine ⟨trivial, trivial, trivial, ?_⟩
                show K1 [(0, .str s), (5, .slice true (out.map tokAV)), (6, .int .i64 at_), (116, .bool (((gI s at_).toNat : Int) == 34))] m
                refine hK1 _ _ ?_; clear hK1 K1
                refine awp_cond rfl rfl (fun h12 => ?_) (fun h12 => ?_)
                · replace h12 : ((gI s at_).toNat : Int) = 34 := (eq_of_beq h12)
                  have hq := qI_facts s (at_ + 1) (by omega) []
                  have e1 := oneI_quote h12
                  refine awp_reg2_seq [] [0, 5, 6, 10, 11, 12] (by decide) ?_
                  intro K1 hK1
                  refine ⟨trivial, trivial, ?_⟩
                  refine u_lexQuoted s at_ (by omega) (by omega) (by omega) _ _ ?_
                  refine ⟨trivial, (Nat.le_of_ble_eq_true rfl), (Nat.le_of_ble_eq_true rfl), (Nat.le_of_ble_eq_true rfl), trivial, trivial, trivial, ?_⟩
                  show K1 [(0, .str s), (5, .slice true (out.map tokAV)), (6, .int .i64 at_), (10, .str ((qI s (at_ + 1) []).2.1)), (11, .int .i64 ((qI s (at_ + 1) []).2.2)), (12, .err 57 ((qI s (at_ + 1) []).1))] m
                  refine hK1 _ _ ?_; clear hK1 K1
                  refine awp_seq_k ?_; intro K7 hK7
                  refine awp_reg2_seq [] [0, 5, 6, 10, 11, 12, 127] (by decide) ?_
                  intro K1 hK1
                  refine ⟨trivial, ⟨rfl, rfl⟩, ?_⟩
                  show K1 [(0, .str s), (5, .slice true (out.map tokAV)), (6, .int .i64 at_), (10, .str ((qI s (at_ + 1) []).2.1)), (11, .int .i64 ((qI s (at_ + 1) []).2.2)), (12, .err 57 ((qI s (at_ + 1) []).1)), (127, .bool (!(((qI s (at_ + 1) []).1) == 0)))] m
                  refine hK1 _ _ ?_; clear hK1 K1
                  refine awp_cond rfl rfl (fun h13 => ?_) (fun h13 => ?_)
                  · replace h13 : (qI s (at_ + 1) []).1 ≠ 0 := (ne_of_beq_false (bnT h13))
                    refine awp_reg2_seq [] [2, 3, 4] (by decide) ?_
                    intro K1 hK1
                    refine ⟨trivial, trivial, trivial, trivial, trivial, ?_⟩
                    show K1 [(2, .slice true []), (3, .int .i64 at_), (4, .err 57 ((qI s (at_ + 1) []).1))] m
                    refine hK1 _ _ ?_; clear hK1 K1
                    refine awp_ret ?_
                    refine ⟨trivial, trivial, trivial, _, fun _ _ h => h, ?_⟩
                    show K (.tuple [.slice false [], .int .i64 at_, .err 57 ((qI s (at_ + 1) []).1)]) m
                   
                    refine K_eq hK ?_
                    rw [hR, ht, tok_err h2 (by omega) h5 e1 h13]; rfl
                  · replace h13 : (qI s (at_ + 1) []).1 = 0 := (eq_of_beq (bnF h13))
                    have hq2 := hq.2 h13
                    have e2 : oneI s at_ = (3, (qI s (at_ + 1) []).2.1, (qI s (at_ + 1) []).2.2, 0) := by rw [e1, h13]; rfl
                    refine awp_skip ?_
                    refine hK7 _ _ ?_; clear hK7
                    refine awp_reg2_seq [130] [0, 5, 11] (by decide) ?_
                    intro K1 hK1
                    refine ⟨trivial, trivial, trivial, ⟨rfl, by simp only [List.forall_mem_cons]; exact ⟨rfl, rfl, rfl, fun _ h => by cases h⟩, by simp only [List.forall_mem_cons]; exact ⟨rfl, rfl, rfl, fun _ h => by cases h⟩⟩, ⟨rfl, Nat.le_of_ble_eq_true rfl, rfl, Nat.le_of_ble_eq_true rfl, rfl, by simp only [List.forall_mem_cons]; exact ⟨⟨rfl, rfl⟩, fun _ h => by cases h⟩⟩, ?_⟩
                    refine ar_append rfl tokAV out ([(3, at_, (qI s (at_ + 1) []).2.1)] : List Tok) rfl rfl rfl rfl rfl rfl (Nat.le_of_ble_eq_true rfl) rfl (by (simp only [show Try.prog.bytesOf 55 = 32 from rfl, List.length_append, List.length_cons, List.length_nil]; omega)) (by (simp only [List.length_append, List.length_cons, List.length_nil]; omega)) (fun _ => ⟨rfl, rfl⟩) ?_
                    refine ⟨trivial, ?_⟩
                    show K1 [(0, .str s), (5, .slice true ((out ++ ([(3, at_, (qI s (at_ + 1) []).2.1)] : List Tok)).map tokAV)), (11, .int .i64 ((qI s (at_ + 1) []).2.2))] m
                    refine hK1 _ _ ?_; clear hK1 K1
                    refine awp_reg2 [] [0, 5, 6] (by decide) ?_
                    intro K1 hK1
                    refine ⟨trivial, trivial, ?_⟩
                    show K1 [(0, .str s), (5, .slice true ((out ++ ([(3, at_, (qI s (at_ + 1) []).2.1)] : List Tok)).map tokAV)), (6, .int .i64 ((qI s (at_ + 1) []).2.2))] m
                    refine hK1 _ _ ?_; clear hK1 K1
                    refine ⟨(out ++ ([(3, at_, (qI s (at_ + 1) []).2.1)] : List Tok), (qI s (at_ + 1) []).2.2), rfl, rfl, ?_, ?_⟩
                    · show 0 ≤ (((qI s (at_ + 1) []).2.2 : Int)) ∧ (((qI s (at_ + 1) []).2.2 : Int)) ≤ s.length ∧ (((out ++ ([(3, at_, (qI s (at_ + 1) []).2.1)] : List Tok) : (List Tok))).length : Int) ≤ (((qI s (at_ + 1) []).2.2 : Int)) ∧ ∃ n : Nat, s.length - (((qI s (at_ + 1) []).2.2 : Int)) < n ∧ tokF (s.length + 1) s 0 [] = tokF n s (((qI s (at_ + 1) []).2.2 : Int)) ((out ++ ([(3, at_, (qI s (at_ + 1) []).2.1)] : List Tok) : (List Tok)))
                      exact ⟨by omega, by omega, by simp; omega, n, by omega, by rw [ht, tok_step h2 (by omega) h5 e2]⟩
                    · show s.length - (((qI s (at_ + 1) []).2.2 : Int)).toNat < s.length - at_.toNat
                      omega
                · replace h12 : ((gI s at_).toNat : Int) ≠ 34 := (ne_of_beq_false h12)
                  have e1 := oneI_sign hI.1 h2 (by rw [h6]; simp) (by rw [h8]; simp) h12
                  have hn2 := signN_range (sub s at_ s.length)
                  refine awp_reg2_seq [] [0, 5, 6, 13] (by decide) ?_
                  intro K1 hK1
                  refine ⟨trivial, trivial, ⟨(by omega), (by omega), (by omega)⟩, ?_⟩
                  refine t_sign (sub s at_ (s.length : Int)) (by simp [sub]; omega) _ _ ?_
                  refine ⟨trivial, ?_⟩
                  show K1 [(0, .str s), (5, .slice true (out.map tokAV)), (6, .int .i64 at_), (13, .int .i64 (signN (sub s at_ (s.length : Int))))] m
                  refine hK1 _ _ ?_; clear hK1 K1
                  refine awp_seq_k ?_; intro K8 hK8
                  refine awp_reg2_seq [] [0, 5, 6, 13, 30] (by decide) ?_
                  intro K1 hK1
                  refine ⟨trivial, trivial, ?_⟩
                  show K1 [(0, .str s), (5, .slice true (out.map tokAV)), (6, .int .i64 at_), (13, .int .i64 (signN (sub s at_ (s.length : Int)))), (30, .bool ((signN (sub s at_ (s.length : Int))) == 0))] m
                  refine hK1 _ _ ?_; clear hK1 K1
                  refine awp_cond rfl rfl (fun h14 => ?_) (fun h14 => ?_)
                  · replace h14 : signN (sub s at_ (s.length : Int)) = 0 := (eq_of_beq h14)
                    refine awp_reg2_seq [] [2, 3, 4] (by decide) ?_
                    intro K1 hK1
                    refine ⟨trivial, trivial, trivial, trivial, trivial, ?_⟩
                    show K1 [(2, .slice true []), (3, .int .i64 at_), (4, .iface 57 (.int .i64 4))] m
                    refine hK1 _ _ ?_; clear hK1 K1
                    refine awp_toErr 57 [4] ?_
                    show AWP _ _ _ _ [(2, .slice true []), (3, .int .i64 at_), (4, .err 57 4)] m
                    refine awp_ret ?_
                    refine ⟨trivial, trivial, trivial, _, fun _ _ h => h, ?_⟩
                    show K (.tuple [.slice false [], .int .i64 at_, .err 57 4]) m
                   
                    refine K_eq hK ?_
                    rw [hR, ht, tok_err h2 (by omega) h5 (e1.trans (if_pos h14)) (by omega)]; rfl
                  · replace h14 : signN (sub s at_ (s.length : Int)) ≠ 0 := (ne_of_beq_false h14)
                    have hn3 : at_ + signN (sub s at_ s.length) ≤ s.length := by
                      rcases hI.2.1 with hh
                      exact signN_le hI.1 h2
                    refine awp_skip ?_
                    refine hK8 _ _ ?_; clear hK8
                    refine awp_reg2_seq [33] [0, 5, 6, 13] (by decide) ?_
                    intro K1 hK1
                    refine ⟨trivial, trivial, trivial, trivial, trivial, trivial, ?_⟩
                    refine ar_add rfl (a := at_) (b := signN (sub s at_ (s.length : Int))) rfl rfl (by omega) (by omega) ?_
                    refine ⟨⟨(by omega), (by omega), (by omega)⟩, ⟨rfl, by simp only [List.forall_mem_cons]; exact ⟨rfl, rfl, rfl, fun _ h => by cases h⟩, by simp only [List.forall_mem_cons]; exact ⟨rfl, rfl, rfl, fun _ h => by cases h⟩⟩, ⟨rfl, Nat.le_of_ble_eq_true rfl, rfl, Nat.le_of_ble_eq_true rfl, rfl, by simp only [List.forall_mem_cons]; exact ⟨⟨rfl, rfl⟩, fun _ h => by cases h⟩⟩, ?_⟩
                    refine ar_append rfl tokAV out ([(4, at_, sub s at_ (at_ + (signN (sub s at_ (s.length : Int)))))] : List Tok) rfl rfl rfl rfl rfl rfl (Nat.le_of_ble_eq_true rfl) rfl (by (simp only [show Try.prog.bytesOf 55 = 32 from rfl, List.length_append, List.length_cons, List.length_nil]; omega)) (by (simp only [List.length_append, List.length_cons, List.length_nil]; omega)) (fun _ => ⟨rfl, rfl⟩) ?_
                    refine ⟨trivial, ?_⟩
                    show K1 [(0, .str s), (5, .slice true ((out ++ ([(4, at_, sub s at_ (at_ + (signN (sub s at_ (s.length : Int)))))] : List Tok)).map tokAV)), (6, .int .i64 at_), (13, .int .i64 (signN (sub s at_ (s.length : Int))))] m
                    refine hK1 _ _ ?_; clear hK1 K1
                    refine awp_reg2 [] [0, 5, 6] (by decide) ?_
                    intro K1 hK1
                    refine ⟨trivial, trivial, ?_⟩
                    refine ar_add rfl (a := at_) (b := signN (sub s at_ (s.length : Int))) rfl rfl (by omega) (by omega) ?_
                    refine ⟨trivial, ?_⟩
                    show K1 [(0, .str s), (5, .slice true ((out ++ ([(4, at_, sub s at_ (at_ + (signN (sub s at_ (s.length : Int)))))] : List Tok)).map tokAV)), (6, .int .i64 (at_ + (signN (sub s at_ (s.length : Int)))))] m
                    refine hK1 _ _ ?_; clear hK1 K1
                    refine ⟨(out ++ ([(4, at_, sub s at_ (at_ + (signN (sub s at_ (s.length : Int)))))] : List Tok), at_ + (signN (sub s at_ (s.length : Int)))), rfl, rfl, ?_, ?_⟩
                    · show 0 ≤ ((at_ + (signN (sub s at_ (s.length : Int))) : Int)) ∧ ((at_ + (signN (sub s at_ (s.length : Int))) : Int)) ≤ s.length ∧ (((out ++ ([(4, at_, sub s at_ (at_ + (signN (sub s at_ (s.length : Int)))))] : List Tok) : (List Tok))).length : Int) ≤ ((at_ + (signN (sub s at_ (s.length : Int))) : Int)) ∧ ∃ n : Nat, s.length - ((at_ + (signN (sub s at_ (s.length : Int))) : Int)) < n ∧ tokF (s.length + 1) s 0 [] = tokF n s ((at_ + (signN (sub s at_ (s.length : Int))) : Int)) ((out ++ ([(4, at_, sub s at_ (at_ + (signN (sub s at_ (s.length : Int)))))] : List Tok) : (List Tok)))
                      exact ⟨by omega, by omega, by simp; omega, n, by omega, by rw [ht, tok_step h2 (by omega) h5 (e1.trans (if_neg h14))]⟩
                    · show s.length - ((at_ + (signN (sub s at_ (s.length : Int))) : Int)).toNat < s.length - at_.toNat
                      omega
      · replace h2 : (s.length : Int) ≤ at_ := (Int.not_lt.1 (of_decide_eq_false h2))
        obtain ⟨n, rfl⟩ : ∃ k, n = k + 1 := ⟨n - 1, by omega⟩
        refine awp_exit ?_
        refine hK3 _ _ ?_; clear hK3
        refine awp_reg2_seq [] [2, 3, 4] (by decide) ?_
        intro K1 hK1
        refine ⟨trivial, trivial, trivial, trivial, ?_⟩
        show K1 [(2, .slice false (out.map tokAV)), (3, .int .i64 0), (4, .nilIface)] m
        refine hK1 _ _ ?_; clear hK1 K1
        refine awp_toErr 57 [4] ?_
        show AWP _ _ _ _ [(2, .slice false (out.map tokAV)), (3, .int .i64 0), (4, .err 57 0)] m
        refine awp_ret ?_
        refine ⟨trivial, trivial, trivial, _, fun _ _ h => h, ?_⟩
        show K (.tuple [.slice false (out.map tokAV), .int .i64 0, .err 57 0]) m
       
        refine K_eq hK ?_
        rw [hR, ht, tok_end h2]

end Go.Proofs
