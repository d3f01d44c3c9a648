import Derived.Test.YtfpbolgpaipiiaaProg
import Derived.Test.YtfpbolgpaipiiaaMix
import Derived.Test.YtfpbolgpaipiiaaWwX
import Derived.Test.YtfpbolgpaipiiaaLx2
namespace Go.Proofs
open Go Go.Aw
set_option maxRecDepth 100000


/-- One token from place a on: kind, text, where it ends, what is wrong. -/
def oneI (s : List UInt8) (a : Int) : Int × List UInt8 × Int × Int :=
  if letterB (gI s a) = true then
    (if 12 < runI wordB s a - a then (0, [], 0, 1) else (1, sub s a (runI wordB s a), runI wordB s a, 0))
  else if digitB (gI s a) = true then
    (if 10 < runI digitB s a - a ∨ (((gI s a).toNat : Int) = 48 ∧ a + 1 < runI digitB s a) then (0, [], 0, 1) else (2, sub s a (runI digitB s a), runI digitB s a, 0))
  else if ((gI s a).toNat : Int) = 34 then
    (if (qI s (a + 1) []).1 = 0 then 3 else 0, (qI s (a + 1) []).2.1, (qI s (a + 1) []).2.2, (qI s (a + 1) []).1)
  else if ((gI s a).toNat : Int) = 61 ∧ a + 1 < s.length ∧ ((gI s (a + 1)).toNat : Int) = 61 then (4, [61, 61], a + 2, 0)
  else if 0 ≤ Lib.indexByte signsL (gI s a) then (4, sub s a (a + 1), a + 1, 0)
  else (0, [], 0, 4)

def oneI_AV (r : Int × List UInt8 × Int × Int) : AV := .tuple [.int .i64 r.1, .str r.2.1, .int .i64 r.2.2.1, .int .i64 r.2.2.2]


set_option maxHeartbeats 1000000 in
theorem u_one (s : List UInt8) (a : Int) (hs : s.length ≤ 16777216) (h0 : 0 ≤ a) (ha : a < s.length) (m : AMem) (K : AV → AMem → Prop) (hK : K (oneI_AV (oneI s a)) m) : ACalls Try.prog 37 [.str s, .int .i64 a] m K := by
  refine acalls_enter Try.func37 rfl (by decide) (Nat.le_of_ble_eq_true rfl) ?_
  show AWP _ _ _ _ [(0, .str s), (1, .int .i64 a)] m
  refine awp_reg2_seq [] [0, 1] (by decide) ?_
  intro K1 hK1
  refine ⟨trivial, trivial, trivial, trivial, ?_⟩
  show K1 [(0, .str s), (1, .int .i64 a)] m
  refine hK1 _ _ ?_; clear hK1 K1
  refine awp_reg2_seq [] [0, 1, 8] (by decide) ?_
  intro K1 hK1
  refine ⟨trivial, trivial, ⟨(by omega), (by omega)⟩, trivial, ?_⟩
  show K1 [(0, .str s), (1, .int .i64 a), (8, .int .u8 ((gI s a).toNat))] m
  refine hK1 _ _ ?_; clear hK1 K1
  refine awp_reg2_seq [] [0, 1, 8, 9] (by decide) ?_
  intro K1 hK1
  refine ⟨trivial, trivial, ?_⟩
  show K1 [(0, .str s), (1, .int .i64 a), (8, .int .u8 ((gI s a).toNat)), (9, .int .i64 a)] m
  refine hK1 _ _ ?_; clear hK1 K1
  refine awp_seq_k ?_; intro K2 hK2
  refine awp_reg2_seq [] [0, 1, 8, 9, 21] (by decide) ?_
  intro K1 hK1
  suffices key : K1 [(0, .str s), (1, .int .i64 a), (8, .int .u8 ((gI s a).toNat)), (9, .int .i64 a), (21, .bool ((decide (97 ≤ ((gI s a).toNat : Int))) && (decide (((gI s a).toNat : Int) ≤ 122))))] m by
    refine ⟨trivial, trivial, trivial, ?_⟩
    show aopsR _ _ _ _ _ [(18, .bool (decide (97 ≤ ((gI s a).toNat : Int)))), (17, .bool (decide (97 ≤ ((gI s a).toNat : Int)))), (16, .int .u8 ((gI s a).toNat)), (0, .str s), (1, .int .i64 a), (8, .int .u8 ((gI s a).toNat)), (9, .int .i64 a)] _
    revert key
    cases h1 : (decide (97 ≤ ((gI s a).toNat : Int)))
    · replace h1 : ((gI s a).toNat : Int) < 97 := (Int.not_le.1 (of_decide_eq_false h1))
      intro key
      refine ar_off rfl (ar_off rfl ?_)
      exact key
    · replace h1 : 97 ≤ ((gI s a).toNat : Int) := (of_decide_eq_true h1)
      intro key
      refine ⟨trivial, trivial, ?_⟩
      exact key
  refine hK1 _ _ ?_; clear hK1 K1
  refine awp_cond rfl rfl (fun h2 => ?_) (fun h2 => ?_)
  · replace h2 : (97 ≤ ((gI s a).toNat : Int)) ∧ (((gI s a).toNat : Int) ≤ 122) := ⟨(of_decide_eq_true (bandL h2)), (of_decide_eq_true (bandR h2))⟩
    refine awp_seq_k ?_; intro K3 hK3
    refine awp_block ?_
    refine awp_keep [0, 1, 9] (by decide) ?_
    refine awp_loop_st (σ := Int) (fun end_ => [(0, .str s), (1, .int .i64 a), (9, .int .i64 end_)]) (fun _ => m) (fun end_ => a ≤ end_ ∧ end_ ≤ s.length ∧ runI wordB s a = runI wordB s end_) (fun end_ => s.length - end_.toNat) (a) rfl rfl ?_ ?_
    · show a ≤ ((a : Int)) ∧ ((a : Int)) ≤ s.length ∧ runI wordB s a = runI wordB s ((a : Int))
      first | omega | (refine ⟨?_, ?_⟩ <;> first | omega | simp) | simp
    · rintro end_ hI
      replace hI : a ≤ end_ ∧ end_ ≤ s.length ∧ runI wordB s a = runI wordB s end_ := hI
      show AWP _ _ _ _ [(0, .str s), (1, .int .i64 a), (9, .int .i64 end_)] m
      refine awp_seq_k ?_; intro K4 hK4
      refine awp_reg2_seq [] [0, 1, 9, 49] (by decide) ?_
      intro K1 hK1
      suffices key : K1 [(0, .str s), (1, .int .i64 a), (9, .int .i64 end_), (49, .bool ((decide (end_ < (s.length : Int))) && (((decide (97 ≤ ((gI s end_).toNat : Int))) && (decide (((gI s end_).toNat : Int) ≤ 122))) || ((decide (48 ≤ ((gI s end_).toNat : Int))) && (decide (((gI s end_).toNat : Int) ≤ 57))))))] m by
        refine ⟨trivial, trivial, trivial, trivial, trivial, ?_⟩
        show aopsR _ _ _ _ _ [(26, .bool (decide (end_ < (s.length : Int)))), (25, .bool (decide (end_ < (s.length : Int)))), (24, .int .i64 (s.length : Int)), (23, .str s), (22, .int .i64 end_), (0, .str s), (1, .int .i64 a), (9, .int .i64 end_)] _
        revert key
        cases h3 : (decide (end_ < (s.length : Int)))
        · replace h3 : (s.length : Int) ≤ end_ := (Int.not_lt.1 (of_decide_eq_false h3))
          intro key
          refine ar_off rfl (ar_off rfl (ar_off rfl (ar_off rfl (ar_off rfl (ar_off rfl (ar_off rfl (ar_off rfl (ar_off rfl (ar_off rfl (ar_off rfl (ar_off rfl (ar_off rfl (ar_off rfl (ar_off rfl (ar_off rfl (ar_off rfl (ar_off rfl (ar_off rfl (ar_off rfl (ar_off rfl (ar_off rfl ?_)))))))))))))))))))))
          exact key
        · replace h3 : end_ < (s.length : Int) := (of_decide_eq_true h3)
          intro key
          refine ⟨trivial, trivial, ⟨(by omega), (by omega)⟩, trivial, trivial, ?_⟩
          show aopsR _ _ _ _ _ [(31, .bool (decide (97 ≤ ((gI s end_).toNat : Int)))), (30, .bool (decide (97 ≤ ((gI s end_).toNat : Int)))), (29, .int .u8 ((gI s end_).toNat)), (28, .int .i64 end_), (27, .str s), (26, .bool true), (25, .bool true), (24, .int .i64 (s.length : Int)), (23, .str s), (22, .int .i64 end_), (0, .str s), (1, .int .i64 a), (9, .int .i64 end_)] _
          revert key
          cases h4 : (decide (97 ≤ ((gI s end_).toNat : Int)))
          · replace h4 : ((gI s end_).toNat : Int) < 97 := (Int.not_le.1 (of_decide_eq_false h4))
            intro key
            refine ar_off rfl (ar_off rfl (ar_off rfl (ar_off rfl ?_)))
            refine ⟨trivial, trivial, trivial, ⟨(by omega), (by omega)⟩, trivial, trivial, ?_⟩
            show aopsR _ _ _ _ _ [(42, .bool (decide (48 ≤ ((gI s end_).toNat : Int)))), (41, .bool (decide (48 ≤ ((gI s end_).toNat : Int)))), (40, .int .u8 ((gI s end_).toNat)), (39, .int .i64 end_), (38, .str s), (37, .bool false), (36, .bool false), (35, .lazy false (.junk)), (34, .lazy false (.junk)), (33, .lazy false (.junk)), (32, .lazy false (.junk)), (31, .bool false), (30, .bool false), (29, .int .u8 ((gI s end_).toNat)), (28, .int .i64 end_), (27, .str s), (26, .bool true), (25, .bool true), (24, .int .i64 (s.length : Int)), (23, .str s), (22, .int .i64 end_), (0, .str s), (1, .int .i64 a), (9, .int .i64 end_)] _
            revert key
            cases h5 : (decide (48 ≤ ((gI s end_).toNat : Int)))
            · replace h5 : ((gI s end_).toNat : Int) < 48 := (Int.not_le.1 (of_decide_eq_false h5))
              intro key
              refine ar_off rfl (ar_off rfl (ar_off rfl (ar_off rfl ?_)))
              exact key
            · replace h5 : 48 ≤ ((gI s end_).toNat : Int) := (of_decide_eq_true h5)
              intro key
              refine ⟨trivial, trivial, ⟨(by omega), (by omega)⟩, trivial, ?_⟩
              exact key
          · replace h4 : 97 ≤ ((gI s end_).toNat : Int) := (of_decide_eq_true h4)
            intro key
            refine ⟨trivial, trivial, ⟨(by omega), (by omega)⟩, trivial, ?_⟩
            refine ⟨trivial, ?_⟩
            show aopsR _ _ _ _ _ [(37, .bool (decide (((gI s end_).toNat : Int) ≤ 122))), (36, .bool (decide (((gI s end_).toNat : Int) ≤ 122))), (35, .bool (decide (((gI s end_).toNat : Int) ≤ 122))), (34, .int .u8 ((gI s end_).toNat)), (33, .int .i64 end_), (32, .str s), (31, .bool true), (30, .bool true), (29, .int .u8 ((gI s end_).toNat)), (28, .int .i64 end_), (27, .str s), (26, .bool true), (25, .bool true), (24, .int .i64 (s.length : Int)), (23, .str s), (22, .int .i64 end_), (0, .str s), (1, .int .i64 a), (9, .int .i64 end_)] _
            revert key
            cases h6 : (decide (((gI s end_).toNat : Int) ≤ 122))
            · replace h6 : 122 < ((gI s end_).toNat : Int) := (Int.not_le.1 (of_decide_eq_false h6))
              intro key
              refine ⟨trivial, trivial, ⟨(by omega), (by omega)⟩, trivial, trivial, ?_⟩
              show aopsR _ _ _ _ _ [(42, .bool (decide (48 ≤ ((gI s end_).toNat : Int)))), (41, .bool (decide (48 ≤ ((gI s end_).toNat : Int)))), (40, .int .u8 ((gI s end_).toNat)), (39, .int .i64 end_), (38, .str s), (37, .bool false), (36, .bool false), (35, .bool false), (34, .int .u8 ((gI s end_).toNat)), (33, .int .i64 end_), (32, .str s), (31, .bool true), (30, .bool true), (29, .int .u8 ((gI s end_).toNat)), (28, .int .i64 end_), (27, .str s), (26, .bool true), (25, .bool true), (24, .int .i64 (s.length : Int)), (23, .str s), (22, .int .i64 end_), (0, .str s), (1, .int .i64 a), (9, .int .i64 end_)] _
              revert key
              cases h7 : (decide (48 ≤ ((gI s end_).toNat : Int)))
              · replace h7 : ((gI s end_).toNat : Int) < 48 := (Int.not_le.1 (of_decide_eq_false h7))
                intro key
                refine ar_off rfl (ar_off rfl (ar_off rfl (ar_off rfl ?_)))
                exact key
              · replace h7 : 48 ≤ ((gI s end_).toNat : Int) := (of_decide_eq_true h7)
                intro key
                refine ⟨trivial, trivial, ⟨(by omega), (by omega)⟩, trivial, ?_⟩
                exact key
            · replace h6 : ((gI s end_).toNat : Int) ≤ 122 := (of_decide_eq_true h6)
              intro key
              refine ar_off rfl (ar_off rfl (ar_off rfl (ar_off rfl (ar_off rfl (ar_off rfl (ar_off rfl (ar_off rfl (ar_off rfl (ar_off rfl ?_)))))))))
              exact key
      refine hK1 _ _ ?_; clear hK1 K1
      refine awp_cond rfl rfl (fun h8 => ?_) (fun h8 => ?_)
      · replace h8 : (end_ < (s.length : Int)) ∧ (((97 ≤ ((gI s end_).toNat : Int)) ∧ (((gI s end_).toNat : Int) ≤ 122)) ∨ ((48 ≤ ((gI s end_).toNat : Int)) ∧ (((gI s end_).toNat : Int) ≤ 57))) := ⟨(of_decide_eq_true (bandL h8)), ((borT (bandR h8)).imp (fun q => ⟨(of_decide_eq_true (bandL q)), (of_decide_eq_true (bandR q))⟩) (fun q => ⟨(of_decide_eq_true (bandL q)), (of_decide_eq_true (bandR q))⟩))⟩
        refine awp_skip ?_
        refine hK4 _ _ ?_; clear hK4
        refine awp_block ?_
        refine awp_reg2 [] [0, 1, 9] (by decide) ?_
        intro K1 hK1
        refine ⟨trivial, ?_⟩
        refine ar_add rfl (a := end_) (b := 1) rfl rfl (by omega) (by omega) ?_
        refine ⟨trivial, ?_⟩
        show K1 [(0, .str s), (1, .int .i64 a), (9, .int .i64 (end_ + 1))] m
        refine hK1 _ _ ?_; clear hK1 K1
        refine ⟨(end_ + 1), rfl, rfl, ?_, ?_⟩
        · show a ≤ ((end_ + 1 : Int)) ∧ ((end_ + 1 : Int)) ≤ s.length ∧ runI wordB s a = runI wordB s ((end_ + 1 : Int))
          exact ⟨by omega, by omega, by rw [hI.2.2]; exact runI_step (by omega) h8.1 (wordB_p.2 h8.2)⟩
        · show s.length - ((end_ + 1 : Int)).toNat < s.length - end_.toNat
          omega
      · replace h8 : ((s.length : Int) ≤ end_) ∨ (((((gI s end_).toNat : Int) < 97) ∨ (122 < ((gI s end_).toNat : Int))) ∧ ((((gI s end_).toNat : Int) < 48) ∨ (57 < ((gI s end_).toNat : Int)))) := ((bandF h8).imp (fun q => (Int.not_lt.1 (of_decide_eq_false q))) (fun q => ⟨((bandF (borL q)).imp (fun q => (Int.not_le.1 (of_decide_eq_false q))) (fun q => (Int.not_le.1 (of_decide_eq_false q)))), ((bandF (borR q)).imp (fun q => (Int.not_le.1 (of_decide_eq_false q))) (fun q => (Int.not_le.1 (of_decide_eq_false q))))⟩))
        have e : runI wordB s a = end_ := hI.2.2.trans (runI_stop (by omega) (fun hl => by rw [Bool.eq_false_iff]; intro hb; have := wordB_p.1 hb; omega))
        refine awp_exit ?_
        refine hK3 _ _ ?_; clear hK3
        refine awp_seq_k ?_; intro K5 hK5
        refine awp_reg2_seq [] [0, 1, 9, 55] (by decide) ?_
        intro K1 hK1
        refine ⟨trivial, trivial, ?_⟩
        refine ar_sub rfl (a := end_) (b := a) rfl rfl (by omega) (by omega) ?_
        refine ⟨trivial, ?_⟩
        show K1 [(0, .str s), (1, .int .i64 a), (9, .int .i64 end_), (55, .bool (decide (12 < end_ - a)))] m
        refine hK1 _ _ ?_; clear hK1 K1
        refine awp_cond rfl rfl (fun h9 => ?_) (fun h9 => ?_)
        · replace h9 : 12 < end_ - a := (of_decide_eq_true h9)
          refine awp_reg2_seq [] [4, 5, 6, 7] (by decide) ?_
          intro K1 hK1
          refine ⟨trivial, trivial, trivial, trivial, ?_⟩
          show K1 [(4, .int .i64 0), (5, .str ([])), (6, .int .i64 0), (7, .int .i64 1)] m
          refine hK1 _ _ ?_; clear hK1 K1
          refine awp_ret ?_
          refine ⟨trivial, trivial, trivial, trivial, _, fun _ _ h => h, ?_⟩
          show K (.tuple [.int .i64 0, .str ([]), .int .i64 0, .int .i64 1]) m
         
          refine K_eq hK ?_
          rw [oneI, if_pos (letterB_p.2 h2), e, if_pos (by omega)]; rfl
        · replace h9 : end_ - a ≤ 12 := (Int.not_lt.1 (of_decide_eq_false h9))
          refine awp_skip ?_
          refine hK5 _ _ ?_; clear hK5
          refine awp_draw_seq Try.mixed [] [4, 5, 6, 7] (by decide) (by decide) ?_
          intro K1 hK1
          refine ⟨trivial, trivial, trivial, ⟨(by omega), (by omega), (by omega)⟩, trivial, trivial, trivial, trivial, trivial, ?_⟩
          show K1 [(4, .int .i64 1), (5, .str (sub s a end_)), (6, .int .i64 end_), (7, .int .i64 0)] m
          refine hK1 _ _ ?_; clear hK1 K1
          refine awp_ret ?_
          refine ⟨trivial, trivial, trivial, trivial, _, fun _ _ h => h, ?_⟩
          show K (.tuple [.int .i64 1, .str (sub s a end_), .int .i64 end_, .int .i64 0]) m
         
          refine K_eq hK ?_
          rw [oneI, if_pos (letterB_p.2 h2), e, if_neg (by omega)]; rfl
  · replace h2 : (((gI s a).toNat : Int) < 97) ∨ (122 < ((gI s a).toNat : Int)) := ((bandF h2).imp (fun q => (Int.not_le.1 (of_decide_eq_false q))) (fun q => (Int.not_le.1 (of_decide_eq_false q))))
    have hl2 : ¬ letterB (gI s a) = true := fun hb => by have := letterB_p.1 hb; omega
    refine awp_skip ?_
    refine hK2 _ _ ?_; clear hK2
    refine awp_seq_k ?_; intro K6 hK6
    refine awp_reg2_seq [] [0, 1, 8, 9, 66] (by decide) ?_
    intro K1 hK1
    suffices key : K1 [(0, .str s), (1, .int .i64 a), (8, .int .u8 ((gI s a).toNat)), (9, .int .i64 a), (66, .bool ((decide (48 ≤ ((gI s a).toNat : Int))) && (decide (((gI s a).toNat : Int) ≤ 57))))] m by
      refine ⟨trivial, trivial, trivial, ?_⟩
      show aopsR _ _ _ _ _ [(63, .bool (decide (48 ≤ ((gI s a).toNat : Int)))), (62, .bool (decide (48 ≤ ((gI s a).toNat : Int)))), (61, .int .u8 ((gI s a).toNat)), (0, .str s), (1, .int .i64 a), (8, .int .u8 ((gI s a).toNat)), (9, .int .i64 a), (21, .bool ((decide (97 ≤ ((gI s a).toNat : Int))) && (decide (((gI s a).toNat : Int) ≤ 122))))] _
      revert key
      cases h10 : (decide (48 ≤ ((gI s a).toNat : Int)))
      · replace h10 : ((gI s a).toNat : Int) < 48 := (Int.not_le.1 (of_decide_eq_false h10))
        intro key
        refine ar_off rfl (ar_off rfl ?_)
        exact key
      · replace h10 : 48 ≤ ((gI s a).toNat : Int) := (of_decide_eq_true h10)
        intro key
        refine ⟨trivial, trivial, ?_⟩
        exact key
    refine hK1 _ _ ?_; clear hK1 K1
    refine awp_cond rfl rfl (fun h11 => ?_) (fun h11 => ?_)
    · replace h11 : (48 ≤ ((gI s a).toNat : Int)) ∧ (((gI s a).toNat : Int) ≤ 57) := ⟨(of_decide_eq_true (bandL h11)), (of_decide_eq_true (bandR h11))⟩
      refine awp_seq_k ?_; intro K7 hK7
      refine awp_block ?_
      refine awp_keep [0, 1, 8, 9] (by decide) ?_
      refine awp_loop_st (σ := Int) (fun end_ => [(0, .str s), (1, .int .i64 a), (8, .int .u8 ((gI s a).toNat)), (9, .int .i64 end_)]) (fun _ => m) (fun end_ => a ≤ end_ ∧ end_ ≤ s.length ∧ runI digitB s a = runI digitB s end_) (fun end_ => s.length - end_.toNat) (a) rfl rfl ?_ ?_
      · show a ≤ ((a : Int)) ∧ ((a : Int)) ≤ s.length ∧ runI digitB s a = runI digitB s ((a : Int))
        first | omega | (refine ⟨?_, ?_⟩ <;> first | omega | simp) | simp
      · rintro end_ hI
        replace hI : a ≤ end_ ∧ end_ ≤ s.length ∧ runI digitB s a = runI digitB s end_ := hI
        show AWP _ _ _ _ [(0, .str s), (1, .int .i64 a), (8, .int .u8 ((gI s a).toNat)), (9, .int .i64 end_)] m
        refine awp_seq_k ?_; intro K8 hK8
        refine awp_reg2_seq [] [0, 1, 8, 9, 82] (by decide) ?_
        intro K1 hK1
        suffices key : K1 [(0, .str s), (1, .int .i64 a), (8, .int .u8 ((gI s a).toNat)), (9, .int .i64 end_), (82, .bool (((decide (end_ < (s.length : Int))) && (decide (48 ≤ ((gI s end_).toNat : Int)))) && (decide (((gI s end_).toNat : Int) ≤ 57))))] m by
          refine ⟨trivial, trivial, trivial, trivial, trivial, ?_⟩
          show aopsR _ _ _ _ _ [(71, .bool (decide (end_ < (s.length : Int)))), (70, .bool (decide (end_ < (s.length : Int)))), (69, .int .i64 (s.length : Int)), (68, .str s), (67, .int .i64 end_), (0, .str s), (1, .int .i64 a), (8, .int .u8 ((gI s a).toNat)), (9, .int .i64 end_)] _
          revert key
          cases h12 : (decide (end_ < (s.length : Int)))
          · replace h12 : (s.length : Int) ≤ end_ := (Int.not_lt.1 (of_decide_eq_false h12))
            intro key
            refine ar_off rfl (ar_off rfl (ar_off rfl (ar_off rfl ?_)))
            refine ⟨trivial, ?_⟩
            refine ar_off rfl (ar_off rfl (ar_off rfl (ar_off rfl ?_)))
            exact key
          · replace h12 : end_ < (s.length : Int) := (of_decide_eq_true h12)
            intro key
            refine ⟨trivial, trivial, ⟨(by omega), (by omega)⟩, trivial, ?_⟩
            refine ⟨trivial, ?_⟩
            show aopsR _ _ _ _ _ [(77, .bool (decide (48 ≤ ((gI s end_).toNat : Int)))), (76, .bool (decide (48 ≤ ((gI s end_).toNat : Int)))), (75, .bool (decide (48 ≤ ((gI s end_).toNat : Int)))), (74, .int .u8 ((gI s end_).toNat)), (73, .int .i64 end_), (72, .str s), (71, .bool true), (70, .bool true), (69, .int .i64 (s.length : Int)), (68, .str s), (67, .int .i64 end_), (0, .str s), (1, .int .i64 a), (8, .int .u8 ((gI s a).toNat)), (9, .int .i64 end_)] _
            revert key
            cases h13 : (decide (48 ≤ ((gI s end_).toNat : Int)))
            · replace h13 : ((gI s end_).toNat : Int) < 48 := (Int.not_le.1 (of_decide_eq_false h13))
              intro key
              refine ar_off rfl (ar_off rfl (ar_off rfl (ar_off rfl ?_)))
              exact key
            · replace h13 : 48 ≤ ((gI s end_).toNat : Int) := (of_decide_eq_true h13)
              intro key
              refine ⟨trivial, trivial, ⟨(by omega), (by omega)⟩, trivial, ?_⟩
              exact key
        refine hK1 _ _ ?_; clear hK1 K1
        refine awp_cond rfl rfl (fun h14 => ?_) (fun h14 => ?_)
        · replace h14 : ((end_ < (s.length : Int)) ∧ (48 ≤ ((gI s end_).toNat : Int))) ∧ (((gI s end_).toNat : Int) ≤ 57) := ⟨⟨(of_decide_eq_true (bandL (bandL h14))), (of_decide_eq_true (bandR (bandL h14)))⟩, (of_decide_eq_true (bandR h14))⟩
          refine awp_skip ?_
          refine hK8 _ _ ?_; clear hK8
          refine awp_block ?_
          refine awp_reg2 [] [0, 1, 8, 9] (by decide) ?_
          intro K1 hK1
          refine ⟨trivial, ?_⟩
          refine ar_add rfl (a := end_) (b := 1) rfl rfl (by omega) (by omega) ?_
          refine ⟨trivial, ?_⟩
          show K1 [(0, .str s), (1, .int .i64 a), (8, .int .u8 ((gI s a).toNat)), (9, .int .i64 (end_ + 1))] m
          refine hK1 _ _ ?_; clear hK1 K1
          refine ⟨(end_ + 1), rfl, rfl, ?_, ?_⟩
          · show a ≤ ((end_ + 1 : Int)) ∧ ((end_ + 1 : Int)) ≤ s.length ∧ runI digitB s a = runI digitB s ((end_ + 1 : Int))
            exact ⟨by omega, by omega, by rw [hI.2.2]; exact runI_step (by omega) h14.1.1 (digitB_p.2 ⟨h14.1.2, h14.2⟩)⟩
          · show s.length - ((end_ + 1 : Int)).toNat < s.length - end_.toNat
            omega
        · replace h14 : (((s.length : Int) ≤ end_) ∨ (((gI s end_).toNat : Int) < 48)) ∨ (57 < ((gI s end_).toNat : Int)) := ((bandF h14).imp (fun q => ((bandF q).imp (fun q => (Int.not_lt.1 (of_decide_eq_false q))) (fun q => (Int.not_le.1 (of_decide_eq_false q))))) (fun q => (Int.not_le.1 (of_decide_eq_false q))))
          have e : runI digitB s a = end_ := hI.2.2.trans (runI_stop (by omega) (fun hl => by rw [Bool.eq_false_iff]; intro hb; have := digitB_p.1 hb; omega))
          refine awp_exit ?_
          refine hK7 _ _ ?_; clear hK7
          refine awp_seq_k ?_; intro K9 hK9
          refine awp_reg2_seq [] [0, 1, 9, 98] (by decide) ?_
          intro K1 hK1
          suffices key : K1 [(0, .str s), (1, .int .i64 a), (9, .int .i64 end_), (98, .bool ((decide (10 < end_ - a)) || ((((gI s a).toNat : Int) == 48) && (decide (a + 1 < end_)))))] m by
            refine ⟨trivial, trivial, ?_⟩
            refine ar_sub rfl (a := end_) (b := a) rfl rfl (by omega) (by omega) ?_
            refine ⟨trivial, trivial, ?_⟩
            show aopsR _ _ _ _ _ [(89, .bool (decide (10 < end_ - a))), (88, .bool (decide (10 < end_ - a))), (87, .int .i64 (end_ - a)), (86, .int .i64 a), (85, .int .i64 end_), (0, .str s), (1, .int .i64 a), (8, .int .u8 ((gI s a).toNat)), (9, .int .i64 end_), (82, .bool (((decide (end_ < (s.length : Int))) && (decide (48 ≤ ((gI s end_).toNat : Int)))) && (decide (((gI s end_).toNat : Int) ≤ 57))))] _
            revert key
            cases h15 : (decide (10 < end_ - a))
            · replace h15 : end_ - a ≤ 10 := (Int.not_lt.1 (of_decide_eq_false h15))
              intro key
              refine ⟨trivial, trivial, trivial, ?_⟩
              show aopsR _ _ _ _ _ [(92, .bool (((gI s a).toNat : Int) == 48)), (91, .bool (((gI s a).toNat : Int) == 48)), (90, .int .u8 ((gI s a).toNat)), (89, .bool false), (88, .bool false), (87, .int .i64 (end_ - a)), (86, .int .i64 a), (85, .int .i64 end_), (0, .str s), (1, .int .i64 a), (8, .int .u8 ((gI s a).toNat)), (9, .int .i64 end_), (82, .bool (((decide (end_ < (s.length : Int))) && (decide (48 ≤ ((gI s end_).toNat : Int)))) && (decide (((gI s end_).toNat : Int) ≤ 57))))] _
              revert key
              cases h16 : (((gI s a).toNat : Int) == 48)
              · replace h16 : ((gI s a).toNat : Int) ≠ 48 := (ne_of_beq_false h16)
                intro key
                refine ar_off rfl (ar_off rfl (ar_off rfl (ar_off rfl ?_)))
                exact key
              · replace h16 : ((gI s a).toNat : Int) = 48 := (eq_of_beq h16)
                intro key
                refine ⟨trivial, trivial, ?_⟩
                refine ar_add rfl (a := a) (b := 1) rfl rfl (by omega) (by omega) ?_
                refine ⟨trivial, ?_⟩
                exact key
            · replace h15 : 10 < end_ - a := (of_decide_eq_true h15)
              intro key
              refine ar_off rfl (ar_off rfl (ar_off rfl (ar_off rfl (ar_off rfl (ar_off rfl (ar_off rfl (ar_off rfl ?_)))))))
              exact key
          refine hK1 _ _ ?_; clear hK1 K1
          refine awp_cond rfl rfl (fun h17 => ?_) (fun h17 => ?_)
          · replace h17 : (10 < end_ - a) ∨ ((((gI s a).toNat : Int) = 48) ∧ (a + 1 < end_)) := ((borT h17).imp (fun q => (of_decide_eq_true q)) (fun q => ⟨(eq_of_beq (bandL q)), (of_decide_eq_true (bandR q))⟩))
            refine awp_reg2_seq [] [4, 5, 6, 7] (by decide) ?_
            intro K1 hK1
            refine ⟨trivial, trivial, trivial, trivial, ?_⟩
            show K1 [(4, .int .i64 0), (5, .str ([])), (6, .int .i64 0), (7, .int .i64 1)] m
            refine hK1 _ _ ?_; clear hK1 K1
            refine awp_ret ?_
            refine ⟨trivial, trivial, trivial, trivial, _, fun _ _ h => h, ?_⟩
            show K (.tuple [.int .i64 0, .str ([]), .int .i64 0, .int .i64 1]) m
           
            refine K_eq hK ?_
            rw [oneI, if_neg hl2, if_pos (digitB_p.2 h11), e, if_pos (by omega)]; rfl
          · replace h17 : (end_ - a ≤ 10) ∧ ((((gI s a).toNat : Int) ≠ 48) ∨ (end_ ≤ a + 1)) := ⟨(Int.not_lt.1 (of_decide_eq_false (borL h17))), ((bandF (borR h17)).imp (fun q => (ne_of_beq_false q)) (fun q => (Int.not_lt.1 (of_decide_eq_false q))))⟩
            refine awp_skip ?_
            refine hK9 _ _ ?_; clear hK9
            refine awp_draw_seq Try.mixed [] [4, 5, 6, 7] (by decide) (by decide) ?_
            intro K1 hK1
            refine ⟨trivial, trivial, trivial, ⟨(by omega), (by omega), (by omega)⟩, trivial, trivial, trivial, trivial, trivial, ?_⟩
            show K1 [(4, .int .i64 2), (5, .str (sub s a end_)), (6, .int .i64 end_), (7, .int .i64 0)] m
            refine hK1 _ _ ?_; clear hK1 K1
            refine awp_ret ?_
            refine ⟨trivial, trivial, trivial, trivial, _, fun _ _ h => h, ?_⟩
            show K (.tuple [.int .i64 2, .str (sub s a end_), .int .i64 end_, .int .i64 0]) m
           
            refine K_eq hK ?_
            rw [oneI, if_neg hl2, if_pos (digitB_p.2 h11), e, if_neg (by omega)]; rfl
    · replace h11 : (((gI s a).toNat : Int) < 48) ∨ (57 < ((gI s a).toNat : Int)) := ((bandF h11).imp (fun q => (Int.not_le.1 (of_decide_eq_false q))) (fun q => (Int.not_le.1 (of_decide_eq_false q))))
      have hd : ¬ digitB (gI s a) = true := fun hb => by have := digitB_p.1 hb; omega
      refine awp_skip ?_
      refine hK6 _ _ ?_; clear hK6
      refine awp_seq_k ?_; intro K10 hK10
      refine awp_reg2_seq [] [0, 1, 8, 105] (by decide) ?_
      intro K1 hK1
      refine ⟨trivial, trivial, ?_⟩
      show K1 [(0, .str s), (1, .int .i64 a), (8, .int .u8 ((gI s a).toNat)), (105, .bool (((gI s a).toNat : Int) == 34))] m
      refine hK1 _ _ ?_; clear hK1 K1
      refine awp_cond rfl rfl (fun h18 => ?_) (fun h18 => ?_)
      · replace h18 : ((gI s a).toNat : Int) = 34 := (eq_of_beq h18)
        refine awp_reg2_seq [] [4, 5, 6, 7] (by decide) ?_
        intro K1 hK1
        refine ⟨trivial, trivial, ?_⟩
        refine u_refQuoted s a (by omega) (by omega) (by omega) _ _ ?_
        refine ⟨(Nat.le_of_ble_eq_true rfl), (Nat.le_of_ble_eq_true rfl), (Nat.le_of_ble_eq_true rfl), (Nat.le_of_ble_eq_true rfl), trivial, trivial, trivial, trivial, ?_⟩
        show K1 [(4, .int .i64 (if (qI s (a + 1) []).1 = 0 then 3 else 0)), (5, .str ((qI s (a + 1) []).2.1)), (6, .int .i64 ((qI s (a + 1) []).2.2)), (7, .int .i64 ((qI s (a + 1) []).1))] m
        refine hK1 _ _ ?_; clear hK1 K1
        refine awp_ret ?_
        refine ⟨trivial, trivial, trivial, trivial, _, fun _ _ h => h, ?_⟩
        show K (.tuple [.int .i64 (if (qI s (a + 1) []).1 = 0 then 3 else 0), .str ((qI s (a + 1) []).2.1), .int .i64 ((qI s (a + 1) []).2.2), .int .i64 ((qI s (a + 1) []).1)]) m
       
        refine K_eq hK ?_
        rw [oneI, if_neg hl2, if_neg hd, if_pos h18]; rfl
      · replace h18 : ((gI s a).toNat : Int) ≠ 34 := (ne_of_beq_false h18)
        refine awp_skip ?_
        refine hK10 _ _ ?_; clear hK10
        refine awp_seq_k ?_; intro K11 hK11
        refine awp_reg2_seq [] [0, 1, 8, 128] (by decide) ?_
        intro K1 hK1
        suffices key : K1 [(0, .str s), (1, .int .i64 a), (8, .int .u8 ((gI s a).toNat)), (128, .bool (((((gI s a).toNat : Int) == 61) && (decide (a + 1 < (s.length : Int)))) && (((gI s (a + 1)).toNat : Int) == 61)))] m by
          refine ⟨trivial, trivial, trivial, ?_⟩
          show aopsR _ _ _ _ _ [(115, .bool (((gI s a).toNat : Int) == 61)), (114, .bool (((gI s a).toNat : Int) == 61)), (113, .int .u8 ((gI s a).toNat)), (0, .str s), (1, .int .i64 a), (8, .int .u8 ((gI s a).toNat)), (105, .bool (((gI s a).toNat : Int) == 34))] _
          revert key
          cases h19 : (((gI s a).toNat : Int) == 61)
          · replace h19 : ((gI s a).toNat : Int) ≠ 61 := (ne_of_beq_false h19)
            intro key
            refine ar_off rfl (ar_off rfl (ar_off rfl (ar_off rfl (ar_off rfl ?_))))
            refine ⟨trivial, ?_⟩
            refine ar_off rfl (ar_off rfl (ar_off rfl (ar_off rfl (ar_off rfl ?_))))
            exact key
          · replace h19 : ((gI s a).toNat : Int) = 61 := (eq_of_beq h19)
            intro key
            refine ⟨trivial, ?_⟩
            refine ar_add rfl (a := a) (b := 1) rfl rfl (by omega) (by omega) ?_
            refine ⟨trivial, trivial, trivial, ?_⟩
            refine ⟨trivial, ?_⟩
            show aopsR _ _ _ _ _ [(122, .bool (decide (a + 1 < (s.length : Int)))), (121, .bool (decide (a + 1 < (s.length : Int)))), (120, .bool (decide (a + 1 < (s.length : Int)))), (119, .int .i64 (s.length : Int)), (118, .str s), (117, .int .i64 (a + 1)), (116, .int .i64 a), (115, .bool true), (114, .bool true), (113, .int .u8 ((gI s a).toNat)), (0, .str s), (1, .int .i64 a), (8, .int .u8 ((gI s a).toNat)), (105, .bool (((gI s a).toNat : Int) == 34))] _
            revert key
            cases h20 : (decide (a + 1 < (s.length : Int)))
            · replace h20 : (s.length : Int) ≤ a + 1 := (Int.not_lt.1 (of_decide_eq_false h20))
              intro key
              refine ar_off rfl (ar_off rfl (ar_off rfl (ar_off rfl (ar_off rfl ?_))))
              exact key
            · replace h20 : a + 1 < (s.length : Int) := (of_decide_eq_true h20)
              intro key
              refine ⟨trivial, trivial, ?_⟩
              refine ar_add rfl (a := a) (b := 1) rfl rfl (by omega) (by omega) ?_
              refine ⟨⟨(by omega), (by omega)⟩, trivial, ?_⟩
              exact key
        refine hK1 _ _ ?_; clear hK1 K1
        refine awp_cond rfl rfl (fun h21 => ?_) (fun h21 => ?_)
        · replace h21 : ((((gI s a).toNat : Int) = 61) ∧ (a + 1 < (s.length : Int))) ∧ (((gI s (a + 1)).toNat : Int) = 61) := ⟨⟨(eq_of_beq (bandL (bandL h21))), (of_decide_eq_true (bandR (bandL h21)))⟩, (eq_of_beq (bandR h21))⟩
          refine awp_reg2_seq [] [4, 5, 6, 7] (by decide) ?_
          intro K1 hK1
          refine ⟨trivial, ?_⟩
          refine ar_add rfl (a := a) (b := 2) rfl rfl (by omega) (by omega) ?_
          refine ⟨trivial, trivial, trivial, trivial, ?_⟩
          show K1 [(4, .int .i64 4), (5, .str ([61, 61] : List UInt8)), (6, .int .i64 (a + 2)), (7, .int .i64 0)] m
          refine hK1 _ _ ?_; clear hK1 K1
          refine awp_ret ?_
          refine ⟨trivial, trivial, trivial, trivial, _, fun _ _ h => h, ?_⟩
          show K (.tuple [.int .i64 4, .str ([61, 61] : List UInt8), .int .i64 (a + 2), .int .i64 0]) m
         
          refine K_eq hK ?_
          rw [oneI, if_neg hl2, if_neg hd, if_neg h18, if_pos (by omega)]; rfl
        · replace h21 : ((((gI s a).toNat : Int) ≠ 61) ∨ ((s.length : Int) ≤ a + 1)) ∨ (((gI s (a + 1)).toNat : Int) ≠ 61) := ((bandF h21).imp (fun q => ((bandF q).imp (fun q => (ne_of_beq_false q)) (fun q => (Int.not_lt.1 (of_decide_eq_false q))))) (fun q => (ne_of_beq_false q)))
          have h61 : ¬ (((gI s a).toNat : Int) = 61 ∧ a + 1 < s.length ∧ ((gI s (a + 1)).toNat : Int) = 61) := by omega
          refine awp_skip ?_
          refine hK11 _ _ ?_; clear hK11
          refine awp_reg2_seq [] [0, 1, 8, 10] (by decide) ?_
          intro K1 hK1
          refine ⟨trivial, ?_⟩
          show K1 [(0, .str s), (1, .int .i64 a), (8, .int .u8 ((gI s a).toNat)), (10, .str ([61, 123, 125, 91, 93, 40, 41, 58, 44, 46, 43, 63, 45] : List UInt8))] m
          refine hK1 _ _ ?_; clear hK1 K1
          refine awp_seq_k ?_; intro K12 hK12
          refine awp_reg2_seq [] [0, 1, 8, 10, 11] (by decide) ?_
          intro K1 hK1
          refine ⟨trivial, ?_⟩
          show K1 [(0, .str s), (1, .int .i64 a), (8, .int .u8 ((gI s a).toNat)), (10, .str ([61, 123, 125, 91, 93, 40, 41, 58, 44, 46, 43, 63, 45] : List UInt8)), (11, .int .i64 0)] m
          refine hK1 _ _ ?_; clear hK1 K1
          refine awp_block ?_
          refine awp_keep [0, 1, 8, 10, 11] (by decide) ?_
          refine awp_loop_st (σ := Int) (fun i => [(0, .str s), (1, .int .i64 a), (8, .int .u8 ((gI s a).toNat)), (10, .str ([61, 123, 125, 91, 93, 40, 41, 58, 44, 46, 43, 63, 45] : List UInt8)), (11, .int .i64 i)]) (fun _ => m) (fun i => 0 ≤ i ∧ i ≤ 13 ∧ ∀ j : Nat, (j : Int) < i → signsL.getD j 0 ≠ gI s a) (fun i => 13 - i.toNat) (0) rfl rfl ?_ ?_
          · show 0 ≤ ((0 : Int)) ∧ ((0 : Int)) ≤ 13 ∧ ∀ j : Nat, (j : Int) < ((0 : Int)) → signsL.getD j 0 ≠ gI s a
            exact ⟨by omega, by omega, fun j hj => by omega⟩
          · rintro i hI
            replace hI : 0 ≤ i ∧ i ≤ 13 ∧ ∀ j : Nat, (j : Int) < i → signsL.getD j 0 ≠ gI s a := hI
            show AWP _ _ _ _ [(0, .str s), (1, .int .i64 a), (8, .int .u8 ((gI s a).toNat)), (10, .str ([61, 123, 125, 91, 93, 40, 41, 58, 44, 46, 43, 63, 45] : List UInt8)), (11, .int .i64 i)] m
            refine awp_seq_k ?_; intro K13 hK13
            refine awp_reg2_seq [] [0, 1, 8, 10, 11, 134] (by decide) ?_
            intro K1 hK1
            refine ⟨trivial, trivial, trivial, trivial, ?_⟩
            show K1 [(0, .str s), (1, .int .i64 a), (8, .int .u8 ((gI s a).toNat)), (10, .str ([61, 123, 125, 91, 93, 40, 41, 58, 44, 46, 43, 63, 45] : List UInt8)), (11, .int .i64 i), (134, .bool (decide (i < 13)))] m
            refine hK1 _ _ ?_; clear hK1 K1
            refine awp_cond rfl rfl (fun h22 => ?_) (fun h22 => ?_)
            · replace h22 : i < 13 := (of_decide_eq_true h22)
              refine awp_skip ?_
              refine hK13 _ _ ?_; clear hK13
              refine awp_seq_k ?_; intro K14 hK14
              refine awp_block ?_
              refine awp_reg2_seq [] [0, 1, 8, 10, 11, 141] (by decide) ?_
              intro K1 hK1
              refine ⟨trivial, trivial, ⟨(by omega), (by omega)⟩, trivial, trivial, ?_⟩
              show K1 [(0, .str s), (1, .int .i64 a), (8, .int .u8 ((gI s a).toNat)), (10, .str ([61, 123, 125, 91, 93, 40, 41, 58, 44, 46, 43, 63, 45] : List UInt8)), (11, .int .i64 i), (141, .bool (((gI ([61, 123, 125, 91, 93, 40, 41, 58, 44, 46, 43, 63, 45] : List UInt8) i).toNat : Int) == ((gI s a).toNat : Int)))] m
              refine hK1 _ _ ?_; clear hK1 K1
              refine awp_cond rfl rfl (fun h23 => ?_) (fun h23 => ?_)
              · replace h23 : ((gI ([61, 123, 125, 91, 93, 40, 41, 58, 44, 46, 43, 63, 45] : List UInt8) i).toNat : Int) = ((gI s a).toNat : Int) := (eq_of_beq h23)
                refine awp_draw_seq Try.mixed [] [4, 5, 6, 7] (by decide) (by decide) ?_
                intro K1 hK1
                refine ⟨trivial, trivial, trivial, ?_⟩
                refine pq_add rfl (a := a) (b := 1) rfl rfl (by omega) (by omega) ?_
                refine ⟨⟨(by omega), (by omega), (by omega)⟩, trivial, ?_⟩
                refine pq_add rfl (a := a) (b := 1) rfl rfl (by omega) (by omega) ?_
                refine ⟨trivial, trivial, trivial, trivial, ?_⟩
                show K1 [(4, .int .i64 4), (5, .str (sub s a (a + 1))), (6, .int .i64 (a + 1)), (7, .int .i64 0)] m
                refine hK1 _ _ ?_; clear hK1 K1
                refine awp_ret ?_
                refine ⟨trivial, trivial, trivial, trivial, _, fun _ _ h => h, ?_⟩
                show K (.tuple [.int .i64 4, .str (sub s a (a + 1)), .int .i64 (a + 1), .int .i64 0]) m
               
                refine K_eq hK ?_
                have hk : Lib.indexByte signsL (gI s a) = (i.toNat : Nat) := indexByte_at (by simp [signsL]; omega) (fun j hj => hI.2.2 j (by omega)) (uint8_ext (by rw [← h23]; obtain ⟨n, rfl⟩ := Int.eq_ofNat_of_zero_le hI.1; rw [gI_str]; rfl))
                rw [oneI, if_neg hl2, if_neg hd, if_neg h18, if_neg h61, if_pos (by rw [hk]; omega)]; rfl
              · replace h23 : ((gI ([61, 123, 125, 91, 93, 40, 41, 58, 44, 46, 43, 63, 45] : List UInt8) i).toNat : Int) ≠ ((gI s a).toNat : Int) := (ne_of_beq_false h23)
                refine awp_skip ?_
                refine hK14 _ _ ?_; clear hK14
                refine awp_reg2 [] [0, 1, 8, 10, 11] (by decide) ?_
                intro K1 hK1
                refine ⟨trivial, ?_⟩
                refine ar_add rfl (a := i) (b := 1) rfl rfl (by omega) (by omega) ?_
                refine ⟨trivial, ?_⟩
                show K1 [(0, .str s), (1, .int .i64 a), (8, .int .u8 ((gI s a).toNat)), (10, .str ([61, 123, 125, 91, 93, 40, 41, 58, 44, 46, 43, 63, 45] : List UInt8)), (11, .int .i64 (i + 1))] m
                refine hK1 _ _ ?_; clear hK1 K1
                refine ⟨(i + 1), rfl, rfl, ?_, ?_⟩
                · show 0 ≤ ((i + 1 : Int)) ∧ ((i + 1 : Int)) ≤ 13 ∧ ∀ j : Nat, (j : Int) < ((i + 1 : Int)) → signsL.getD j 0 ≠ gI s a
                  refine ⟨by omega, by omega, fun j hj => ?_⟩
                  by_cases e : (j : Int) = i
                  · intro he; apply h23; rw [← he, ← e, gI_str]; rfl
                  · exact hI.2.2 j (by omega)
                · show 13 - ((i + 1 : Int)).toNat < 13 - i.toNat
                  omega
            · replace h22 : 13 ≤ i := (Int.not_lt.1 (of_decide_eq_false h22))
              refine awp_exit ?_
              refine hK12 _ _ ?_; clear hK12
              refine awp_reg2_seq [] [4, 5, 6, 7] (by decide) ?_
              intro K1 hK1
              refine ⟨trivial, trivial, trivial, trivial, ?_⟩
              show K1 [(4, .int .i64 0), (5, .str ([])), (6, .int .i64 0), (7, .int .i64 4)] m
              refine hK1 _ _ ?_; clear hK1 K1
              refine awp_ret ?_
              refine ⟨trivial, trivial, trivial, trivial, _, fun _ _ h => h, ?_⟩
              show K (.tuple [.int .i64 0, .str ([]), .int .i64 0, .int .i64 4]) m
             
              refine K_eq hK ?_
              have hk : Lib.indexByte signsL (gI s a) = -1 := indexByte_none (fun j hj => hI.2.2 j (by simp [signsL] at hj; omega))
              rw [oneI, if_neg hl2, if_neg hd, if_neg h18, if_neg h61, if_neg (by rw [hk]; omega)]; rfl

end Go.Proofs
