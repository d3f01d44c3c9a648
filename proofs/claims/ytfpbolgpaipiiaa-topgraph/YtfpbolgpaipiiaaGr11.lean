import Derived.Test.YtfpbolgpaipiiaaProg
import Derived.Test.YtfpbolgpaipiiaaMix
import Derived.Test.YtfpbolgpaipiiaaWxa
import Derived.Test.YtfpbolgpaipiiaaGr10
namespace Go.Proofs
open Go Go.Aw
set_option maxRecDepth 100000


theorem light_facts {needs : List (List Int)} (h : lightN needs = true) : needs.length ≤ 80 ∧ ∀ w ∈ needs, w.length ≤ 1048576 := by
  simp only [lightN, Bool.and_eq_true, decide_eq_true_eq, List.all_eq_true] at h
  exact ⟨by omega, fun w hw => by have := h.1.2 w hw; omega⟩
theorem newE_zero {needs : List (List Int)} (h : newE needs = 0) : needs.length ≤ 64 ∧ okN needs = true := by
  unfold newE at h
  split at h
  · cases h
  · split at h
    · rename_i h1 h2; exact ⟨by omega, h2⟩
    · cases h
theorem newE_pos {needs : List (List Int)} (h : newE needs ≠ 0) : ((64 : Int) < needs.length ∧ newE needs = 2) ∨ ((needs.length : Int) ≤ 64 ∧ newE needs = 1 ∧ ¬ okN needs = true) := by
  unfold newE at h ⊢
  split
  · rename_i h1; exact .inl ⟨h1, rfl⟩
  · rename_i h1
    split
    · rename_i h2; rw [if_neg h1, if_pos h2] at h; exact absurd rfl h
    · rename_i h2; exact .inr ⟨by omega, rfl, h2⟩
theorem newE_nn (needs : List (List Int)) : 0 ≤ newE needs := by unfold newE; split <;> (try split) <;> omega
theorem wavesF_nn (f : Nat) : ∀ needs left lv out, 0 ≤ (wavesF f needs left lv out).2 := by
  induction f with
  | zero => intro needs left lv out; exact Int.le_refl _
  | succ f ih =>
    intro needs left lv out
    rw [wavesF]
    split
    · exact Int.le_refl _
    · split
      · show (0 : Int) ≤ 8; omega
      · exact ih _ _ _ _
theorem wavesR_nn (needs : List (List Int)) : 0 ≤ (wavesR needs).2 := wavesF_nn _ _ _ _ _
theorem reachR_nn (needs : List (List Int)) (l : List Int) (o : Bool) : 0 ≤ (reachR needs l o).2 := by unfold reachR; split <;> simp
theorem reachR_len (needs : List (List Int)) (l : List Int) (o : Bool) : (reachR needs l o).1.length ≤ needs.length := by
  unfold reachR; split
  · have := seenTo_len (roundsR (edgesTo needs o needs.length) needs.length (initR needs.length l)) needs.length; simp at this ⊢; omega
  · simp
theorem flatW_len {needs : List (List Int)} (hn : needs.length ≤ 64) : (wavesR needs).1.flatten.length ≤ 65 * 64 := by
  have h := wavesR_len needs
  refine Nat.le_trans (flat_len (B := 64) (fun w hw => Nat.le_trans (h.2 w hw) hn)) (Nat.mul_le_mul_right _ (by omega))


theorem u_same_eq (e : Int) (he : 0 ≤ e) (m : AMem) (K : AV → AMem → Prop) (hK : K (.bool true) m) : ACalls Try.prog 10 [.err 57 e, .int .i64 e] m K := u_same e e he m K (by rw [show (e == e) = true from by simp]; exact hK)
theorem u_SameNumbers_eq (xs : List Int) (hx : xs.length ≤ 140737488355328) (m : AMem) (K : AV → AMem → Prop) (hK : K (.bool true) m) : ACalls Try.prog 15 [.slice false (xs.map intAV), .slice false (xs.map intAV)] m K := u_SameNumbers xs xs hx m K (by rw [decide_eq_true rfl]; exact hK)
theorem u_SameLists_eq (xs : List (List Int)) (hx : xs.length ≤ 140737488355328) (hB : ∀ w ∈ xs, w.length ≤ 140737488355328) (m : AMem) (K : AV → AMem → Prop) (hK : K (.bool true) m) : ACalls Try.prog 14 [.slice false (xs.map (lstAV intAV)), .slice false (xs.map (lstAV intAV))] m K := u_SameLists xs xs hx hB m K (by rw [decide_eq_true rfl]; exact hK)

set_option maxHeartbeats 2000000 in
theorem u_GraphSays1 (needs : List (List Int)) (l : List Int) (hE : newE needs ≠ 0) (m : AMem)  (K : AV → AMem → Prop) (hK : K (.bool true) m) : ACalls Try.prog 3 [.slice false (needs.map (lstAV intAV)), .slice false (l.map intAV)] m K := by
  have hnn := newE_nn needs
  have hpos := newE_pos hE
  refine acalls_enter Try.func3 rfl (by decide) (Nat.le_of_ble_eq_true rfl) ?_
  show AWP _ _ _ _ [(0, .slice false (needs.map (lstAV intAV))), (1, .slice false (l.map intAV))] m
  refine awp_reg2_seq [] [0, 1] (by decide) ?_
  intro K1 hK1
  refine ⟨trivial, ?_⟩
  show K1 [(0, .slice false (needs.map (lstAV intAV))), (1, .slice false (l.map intAV))] m
  refine hK1 _ _ ?_; clear hK1 K1
  refine awp_reg2_seq [] [0, 1, 5] (by decide) ?_
  intro K1 hK1
  refine u_leans _ _ ?_
  refine ⟨trivial, ?_⟩
  show K1 [(0, .slice false (needs.map (lstAV intAV))), (1, .slice false (l.map intAV)), (5, .bool true)] m
  refine hK1 _ _ ?_; clear hK1 K1
  refine awp_seq_k ?_; intro K2 hK2
  refine awp_reg2_seq [] [0, 1, 5, 32] (by decide) ?_
  intro K1 hK1
  suffices key : K1 [(0, .slice false (needs.map (lstAV intAV))), (1, .slice false (l.map intAV)), (5, .bool true), (32, .bool ((!(lightN needs)) || (decide (100 < (l.length : Int)))))] m by
    refine ⟨trivial, trivial, trivial, trivial, ?_⟩
    refine u_LightNeeds needs _ _ ?_
    refine ⟨trivial, ?_⟩
    refine ⟨trivial, ?_⟩
    show aopsR _ _ _ _ _ [(28, .bool (!(lightN needs))), (27, .bool (!(lightN needs))), (26, .bool (!(lightN needs))), (25, .bool (lightN needs)), (24, .slice false (needs.map (lstAV intAV))), (23, .bool false), (22, .bool false), (21, .bool true), (0, .slice false (needs.map (lstAV intAV))), (1, .slice false (l.map intAV)), (5, .bool true)] _
    revert key
    cases h1 : (lightN needs)
    · replace h1 : lightN needs = false := h1
      intro key
      refine ar_off rfl (ar_off rfl (ar_off rfl ?_))
      exact key
    · replace h1 : lightN needs = true := h1
      intro key
      refine ⟨trivial, ?_⟩
      refine ar_len rfl intAV l rfl rfl rfl ?_
      refine ⟨trivial, ?_⟩
      exact key
  refine hK1 _ _ ?_; clear hK1 K1
  refine awp_cond rfl rfl (fun h2 => ?_) (fun h2 => ?_)
  · replace h2 : (lightN needs = false) ∨ (100 < (l.length : Int)) := ((borT h2).imp (fun q => (bnT q)) (fun q => (of_decide_eq_true q)))
    refine awp_reg2_seq [] [4] (by decide) ?_
    intro K1 hK1
    refine ⟨trivial, trivial, ?_⟩
    show K1 [(4, .bool true)] m
    refine hK1 _ _ ?_; clear hK1 K1
    refine awp_ret ?_
    refine ⟨trivial, m, fun _ _ h => h, ?_⟩
    show K (.bool true) m
   
    exact hK
  · replace h2 : (lightN needs = true) ∧ ((l.length : Int) ≤ 100) := ⟨(bnF (borL h2)), (Int.not_lt.1 (of_decide_eq_false (borR h2)))⟩
    have hlg := light_facts h2.1
    have hlg1 := hlg.1
    refine awp_skip ?_
    refine hK2 _ _ ?_; clear hK2
    refine awp_reg2_seq [] [0, 1, 6, 7] (by decide) ?_
    intro K1 hK1
    refine ⟨trivial, ?_⟩
    refine u_New_err needs hE (by omega) hlg.2 _ _ ?_
    refine ⟨trivial, (Nat.le_of_ble_eq_true rfl), (Nat.le_of_ble_eq_true rfl), trivial, trivial, ?_⟩
    show K1 [(0, .slice false (needs.map (lstAV intAV))), (1, .slice false (l.map intAV)), (6, .nilptr), (7, .err 57 (newE needs))] m
    refine hK1 _ _ ?_; clear hK1 K1
    refine awp_seq_k ?_; intro K3 hK3
    refine awp_reg2_seq [] [0, 1, 6, 7, 41] (by decide) ?_
    intro K1 hK1
    refine ⟨trivial, ?_⟩
    refine ar_len rfl (lstAV intAV) needs rfl rfl rfl ?_
    refine ⟨trivial, ?_⟩
    show K1 [(0, .slice false (needs.map (lstAV intAV))), (1, .slice false (l.map intAV)), (6, .nilptr), (7, .err 57 (newE needs)), (41, .bool (decide (64 < (needs.length : Int))))] m
    refine hK1 _ _ ?_; clear hK1 K1
    refine awp_cond rfl rfl (fun h3 => ?_) (fun h3 => ?_)
    · replace h3 : 64 < (needs.length : Int) := (of_decide_eq_true h3)
      refine awp_reg2_seq [] [4] (by decide) ?_
      intro K1 hK1
      suffices key : K1 [(4, .bool ((newE needs) == 2))] m by
        refine ⟨trivial, ?_⟩
        refine u_same (newE needs) 2 (by first | omega | decide | assumption) _ _ ?_
        refine ⟨trivial, ?_⟩
        show aopsR _ _ _ _ _ [(44, .bool ((newE needs) == 2)), (43, .bool ((newE needs) == 2)), (42, .err 57 (newE needs)), (0, .slice false (needs.map (lstAV intAV))), (1, .slice false (l.map intAV)), (6, .nilptr), (7, .err 57 (newE needs)), (41, .bool (decide (64 < (needs.length : Int))))] _
        revert key
        cases h4 : ((newE needs) == 2)
        · replace h4 : (newE needs) ≠ 2 := (ne_of_beq_false h4)
          intro key
          refine ar_off rfl (ar_off rfl ?_)
          refine ⟨trivial, ?_⟩
          exact key
        · replace h4 : (newE needs) = 2 := (eq_of_beq h4)
          intro key
          refine ⟨trivial, rfl, ?_⟩
          refine ⟨trivial, ?_⟩
          exact key
      refine hK1 _ _ ?_; clear hK1 K1
      refine awp_ret ?_
      refine ⟨trivial, m, fun _ _ h => h, ?_⟩
      show K (.bool ((newE needs) == 2)) m
     
      refine K_eq hK (congrArg AV.bool ?_)
      rcases hpos with h | h
      · rw [h.2]; rfl
      · omega
    · replace h3 : (needs.length : Int) ≤ 64 := (Int.not_lt.1 (of_decide_eq_false h3))
      refine awp_skip ?_
      refine hK3 _ _ ?_; clear hK3
      refine awp_seq_k ?_; intro K4 hK4
      refine awp_reg2_seq [] [0, 1, 6, 7, 8] (by decide) ?_
      intro K1 hK1
      refine ⟨trivial, ?_⟩
      show K1 [(0, .slice false (needs.map (lstAV intAV))), (1, .slice false (l.map intAV)), (6, .nilptr), (7, .err 57 (newE needs)), (8, .int .i64 0)] m
      refine hK1 _ _ ?_; clear hK1 K1
      refine awp_block ?_
      refine awp_keep [0, 1, 6, 7, 8] (by decide) ?_
      refine awp_loop_st (σ := Int) (fun i => [(0, .slice false (needs.map (lstAV intAV))), (1, .slice false (l.map intAV)), (6, .nilptr), (7, .err 57 (newE needs)), (8, .int .i64 i)]) (fun _ => m) (fun i => 0 ≤ i ∧ i ≤ needs.length ∧ (needs.take i.toNat).all (okL needs.length) = true) (fun i => needs.length - i.toNat) (0) rfl rfl ?_ ?_
      · show 0 ≤ ((0 : Int)) ∧ ((0 : Int)) ≤ needs.length ∧ (needs.take ((0 : Int)).toNat).all (okL needs.length) = true
        exact ⟨by omega, by omega, by simp⟩
      · rintro i hI
        replace hI : 0 ≤ i ∧ i ≤ needs.length ∧ (needs.take i.toNat).all (okL needs.length) = true := hI
        show AWP _ _ _ _ [(0, .slice false (needs.map (lstAV intAV))), (1, .slice false (l.map intAV)), (6, .nilptr), (7, .err 57 (newE needs)), (8, .int .i64 i)] m
        refine awp_seq_k ?_; intro K5 hK5
        refine awp_reg2_seq [] [0, 1, 6, 7, 8, 51] (by decide) ?_
        intro K1 hK1
        refine ⟨trivial, trivial, ?_⟩
        refine ar_len rfl (lstAV intAV) needs rfl rfl rfl ?_
        refine ⟨trivial, ?_⟩
        show K1 [(0, .slice false (needs.map (lstAV intAV))), (1, .slice false (l.map intAV)), (6, .nilptr), (7, .err 57 (newE needs)), (8, .int .i64 i), (51, .bool (decide (i < (needs.length : Int))))] m
        refine hK1 _ _ ?_; clear hK1 K1
        refine awp_cond rfl rfl (fun h5 => ?_) (fun h5 => ?_)
        · replace h5 : i < (needs.length : Int) := (of_decide_eq_true h5)
          refine awp_skip ?_
          refine hK5 _ _ ?_; clear hK5
          refine awp_seq_k ?_; intro K6 hK6
          refine awp_block ?_
          refine awp_reg2_seq [] [0, 1, 6, 7, 8, 9] (by decide) ?_
          intro K1 hK1
          refine ⟨trivial, ?_⟩
          show K1 [(0, .slice false (needs.map (lstAV intAV))), (1, .slice false (l.map intAV)), (6, .nilptr), (7, .err 57 (newE needs)), (8, .int .i64 i), (9, .int .i64 0)] m
          refine hK1 _ _ ?_; clear hK1 K1
          refine awp_block ?_
          refine awp_keep [0, 1, 6, 7, 8, 9] (by decide) ?_
          refine awp_loop_st (σ := Int) (fun q => [(0, .slice false (needs.map (lstAV intAV))), (1, .slice false (l.map intAV)), (6, .nilptr), (7, .err 57 (newE needs)), (8, .int .i64 i), (9, .int .i64 q)]) (fun _ => m) (fun q => 0 ≤ q ∧ q ≤ (gI needs i).length ∧ ((gI needs i).take q.toNat).all (fun z => decide (0 ≤ z) && decide (z < needs.length)) = true) (fun q => (gI needs i).length - q.toNat) (0) rfl rfl ?_ ?_
          · show 0 ≤ ((0 : Int)) ∧ ((0 : Int)) ≤ (gI needs i).length ∧ ((gI needs i).take ((0 : Int)).toNat).all (fun z => decide (0 ≤ z) && decide (z < needs.length)) = true
            exact ⟨by omega, by omega, by simp⟩
          · rintro q hI2
            replace hI2 : 0 ≤ q ∧ q ≤ (gI needs i).length ∧ ((gI needs i).take q.toNat).all (fun z => decide (0 ≤ z) && decide (z < needs.length)) = true := hI2
            have hwb := hlg.2 _ (gI_mem (l := needs) (i := i) hI.1 h5)
            show AWP _ _ _ _ [(0, .slice false (needs.map (lstAV intAV))), (1, .slice false (l.map intAV)), (6, .nilptr), (7, .err 57 (newE needs)), (8, .int .i64 i), (9, .int .i64 q)] m
            refine awp_seq_k ?_; intro K7 hK7
            refine awp_reg2_seq [] [0, 1, 6, 7, 8, 9, 60] (by decide) ?_
            intro K1 hK1
            refine ⟨trivial, trivial, trivial, ?_⟩
            refine ar_index rfl (lstAV intAV) needs i rfl rfl rfl rfl rfl (by decide) (fun _ => rfl) (by omega) (by omega) ?_
            refine ⟨(apartOk_one rfl rfl (Nat.le_of_ble_eq_true rfl)), ?_⟩
            refine ar_len rfl intAV (gI needs i) rfl rfl rfl ?_
            refine ⟨trivial, ?_⟩
            show K1 [(0, .slice false (needs.map (lstAV intAV))), (1, .slice false (l.map intAV)), (6, .nilptr), (7, .err 57 (newE needs)), (8, .int .i64 i), (9, .int .i64 q), (60, .bool (decide (q < ((gI needs i).length : Int))))] m
            refine hK1 _ _ ?_; clear hK1 K1
            refine awp_cond rfl rfl (fun h6 => ?_) (fun h6 => ?_)
            · replace h6 : q < ((gI needs i).length : Int) := (of_decide_eq_true h6)
              refine awp_skip ?_
              refine hK7 _ _ ?_; clear hK7
              refine awp_seq_k ?_; intro K8 hK8
              refine awp_block ?_
              refine awp_reg2_seq [] [0, 1, 6, 7, 8, 9, 82] (by decide) ?_
              intro K1 hK1
              suffices key : K1 [(0, .slice false (needs.map (lstAV intAV))), (1, .slice false (l.map intAV)), (6, .nilptr), (7, .err 57 (newE needs)), (8, .int .i64 i), (9, .int .i64 q), (82, .bool ((decide (gI (gI needs i) q < 0)) || (decide ((needs.length : Int) ≤ gI (gI needs i) q))))] m by
                refine ⟨trivial, trivial, ?_⟩
                refine ar_index rfl (lstAV intAV) needs i rfl rfl rfl rfl rfl (by decide) (fun _ => rfl) (by omega) (by omega) ?_
                refine ⟨(apartOk_one rfl rfl (Nat.le_of_ble_eq_true rfl)), trivial, ?_⟩
                refine ar_index rfl intAV (gI needs i) q rfl rfl rfl rfl rfl (by decide) (fun _ => rfl) (by omega) (by omega) ?_
                refine ⟨(apartOk_one rfl rfl (Nat.le_of_ble_eq_true rfl)), trivial, trivial, ?_⟩
                show aopsR _ _ _ _ _ [(71, .bool (decide (gI (gI needs i) q < 0))), (70, .bool (decide (gI (gI needs i) q < 0))), (69, .int .i64 (gI (gI needs i) q)), (68, .ref (AV.cells (.int .i64 (gI (gI needs i) q)))), (67, .int .i64 q), (66, .slice false ((gI needs i).map intAV)), (65, .ref (AV.cells (.slice false ((gI needs i).map intAV)))), (64, .int .i64 i), (63, .slice false (needs.map (lstAV intAV))), (0, .slice false (needs.map (lstAV intAV))), (1, .slice false (l.map intAV)), (6, .nilptr), (7, .err 57 (newE needs)), (8, .int .i64 i), (9, .int .i64 q), (60, .bool (decide (q < ((gI needs i).length : Int))))] _
                revert key
                cases h7 : (decide (gI (gI needs i) q < 0))
                · replace h7 : 0 ≤ gI (gI needs i) q := (Int.not_lt.1 (of_decide_eq_false h7))
                  intro key
                  refine ⟨trivial, trivial, ?_⟩
                  refine ar_index rfl (lstAV intAV) needs i rfl rfl rfl rfl rfl (by decide) (fun _ => rfl) (by omega) (by omega) ?_
                  refine ⟨(apartOk_one rfl rfl (Nat.le_of_ble_eq_true rfl)), trivial, ?_⟩
                  refine ar_index rfl intAV (gI needs i) q rfl rfl rfl rfl rfl (by decide) (fun _ => rfl) (by omega) (by omega) ?_
                  refine ⟨(apartOk_one rfl rfl (Nat.le_of_ble_eq_true rfl)), trivial, ?_⟩
                  refine ar_len rfl (lstAV intAV) needs rfl rfl rfl ?_
                  refine ⟨trivial, ?_⟩
                  exact key
                · replace h7 : gI (gI needs i) q < 0 := (of_decide_eq_true h7)
                  intro key
                  refine ar_off rfl (ar_off rfl (ar_off rfl (ar_off rfl (ar_off rfl (ar_off rfl (ar_off rfl (ar_off rfl (ar_off rfl (ar_off rfl ?_)))))))))
                  exact key
              refine hK1 _ _ ?_; clear hK1 K1
              refine awp_cond rfl rfl (fun h8 => ?_) (fun h8 => ?_)
              · replace h8 : (gI (gI needs i) q < 0) ∨ ((needs.length : Int) ≤ gI (gI needs i) q) := ((borT h8).imp (fun q => (of_decide_eq_true q)) (fun q => (of_decide_eq_true q)))
                have e : ¬ okN needs = true := by
                  intro hh
                  have := okN_gI hh hI.1 h5 hI2.1 h6
                  omega
                refine awp_reg2_seq [] [4] (by decide) ?_
                intro K1 hK1
                suffices key : K1 [(4, .bool ((newE needs) == 1))] m by
                  refine ⟨trivial, ?_⟩
                  refine u_same (newE needs) 1 (by first | omega | decide | assumption) _ _ ?_
                  refine ⟨trivial, ?_⟩
                  show aopsR _ _ _ _ _ [(85, .bool ((newE needs) == 1)), (84, .bool ((newE needs) == 1)), (83, .err 57 (newE needs)), (0, .slice false (needs.map (lstAV intAV))), (1, .slice false (l.map intAV)), (6, .nilptr), (7, .err 57 (newE needs)), (8, .int .i64 i), (9, .int .i64 q), (82, .bool ((decide (gI (gI needs i) q < 0)) || (decide ((needs.length : Int) ≤ gI (gI needs i) q))))] _
                  revert key
                  cases h9 : ((newE needs) == 1)
                  · replace h9 : (newE needs) ≠ 1 := (ne_of_beq_false h9)
                    intro key
                    refine ar_off rfl (ar_off rfl ?_)
                    refine ⟨trivial, ?_⟩
                    exact key
                  · replace h9 : (newE needs) = 1 := (eq_of_beq h9)
                    intro key
                    refine ⟨trivial, rfl, ?_⟩
                    refine ⟨trivial, ?_⟩
                    exact key
                refine hK1 _ _ ?_; clear hK1 K1
                refine awp_ret ?_
                refine ⟨trivial, m, fun _ _ h => h, ?_⟩
                show K (.bool ((newE needs) == 1)) m
               
                refine K_eq hK (congrArg AV.bool ?_)
                rcases hpos with h | h
                · omega
                · rw [h.2.1]; rfl
              · replace h8 : (0 ≤ gI (gI needs i) q) ∧ (gI (gI needs i) q < (needs.length : Int)) := ⟨(Int.not_lt.1 (of_decide_eq_false (borL h8))), (Int.not_le.1 (of_decide_eq_false (borR h8)))⟩
                refine awp_skip ?_
                refine hK8 _ _ ?_; clear hK8
                refine awp_reg2 [] [0, 1, 6, 7, 8, 9] (by decide) ?_
                intro K1 hK1
                refine ⟨trivial, ?_⟩
                refine ar_add rfl (a := q) (b := 1) rfl rfl (by omega) (by omega) ?_
                refine ⟨trivial, ?_⟩
                show K1 [(0, .slice false (needs.map (lstAV intAV))), (1, .slice false (l.map intAV)), (6, .nilptr), (7, .err 57 (newE needs)), (8, .int .i64 i), (9, .int .i64 (q + 1))] m
                refine hK1 _ _ ?_; clear hK1 K1
                refine ⟨(q + 1), rfl, rfl, ?_, ?_⟩
                · show 0 ≤ ((q + 1 : Int)) ∧ ((q + 1 : Int)) ≤ (gI needs i).length ∧ ((gI needs i).take ((q + 1 : Int)).toNat).all (fun z => decide (0 ≤ z) && decide (z < needs.length)) = true
                  exact ⟨by omega, by omega, all_take_succ (l := gI needs i) (p := fun z => decide (0 ≤ z) && decide (z < needs.length)) hI2.1 h6 hI2.2.2 (by simp; omega)⟩
                · show (gI needs i).length - ((q + 1 : Int)).toNat < (gI needs i).length - q.toNat
                  omega
            · replace h6 : ((gI needs i).length : Int) ≤ q := (Int.not_lt.1 (of_decide_eq_false h6))
              refine awp_exit ?_
              refine hK6 _ _ ?_; clear hK6
              refine awp_reg2 [] [0, 1, 6, 7, 8] (by decide) ?_
              intro K1 hK1
              refine ⟨trivial, ?_⟩
              refine ar_add rfl (a := i) (b := 1) rfl rfl (by omega) (by omega) ?_
              refine ⟨trivial, ?_⟩
              show K1 [(0, .slice false (needs.map (lstAV intAV))), (1, .slice false (l.map intAV)), (6, .nilptr), (7, .err 57 (newE needs)), (8, .int .i64 (i + 1))] m
              refine hK1 _ _ ?_; clear hK1 K1
              refine ⟨(i + 1), rfl, rfl, ?_, ?_⟩
              · show 0 ≤ ((i + 1 : Int)) ∧ ((i + 1 : Int)) ≤ needs.length ∧ (needs.take ((i + 1 : Int)).toNat).all (okL needs.length) = true
                exact ⟨by omega, by omega, by rw [take_succ_gI hI.1 h5, List.all_append, hI.2.2]; simp; exact all_of_take h6 hI2.2.2⟩
              · show needs.length - ((i + 1 : Int)).toNat < needs.length - i.toNat
                omega
        · replace h5 : (needs.length : Int) ≤ i := (Int.not_lt.1 (of_decide_eq_false h5))
          refine awp_exit ?_
          refine hK4 _ _ ?_; clear hK4
          refine awp_seq_k ?_; intro K9 hK9
          refine awp_reg2_seq [] [0, 1, 6, 94] (by decide) ?_
          intro K1 hK1
          suffices key : K1 [(0, .slice false (needs.map (lstAV intAV))), (1, .slice false (l.map intAV)), (6, .nilptr), (94, .bool ((!((newE needs) == 0)) || true))] m by
            refine ⟨trivial, ⟨rfl, rfl⟩, trivial, ?_⟩
            show aopsR _ _ _ _ _ [(91, .bool (!((newE needs) == 0))), (90, .bool (!((newE needs) == 0))), (89, .err 57 (newE needs)), (0, .slice false (needs.map (lstAV intAV))), (1, .slice false (l.map intAV)), (6, .nilptr), (7, .err 57 (newE needs)), (8, .int .i64 i), (51, .bool (decide (i < (needs.length : Int))))] _
            revert key
            cases h10 : ((newE needs) == 0)
            · replace h10 : (newE needs) ≠ 0 := (ne_of_beq_false h10)
              intro key
              refine ar_off rfl (ar_off rfl ?_)
              exact key
            · replace h10 : (newE needs) = 0 := (eq_of_beq h10)
              intro key
              refine ⟨trivial, rfl, ?_⟩
              exact key
          refine hK1 _ _ ?_; clear hK1 K1
          refine awp_cond rfl rfl (fun h11 => ?_) (fun h11 => ?_)
          · replace h11 : ((newE needs) ≠ 0) ∨ (True) := ((borT h11).imp (fun q => (ne_of_beq_false (bnT q))) (fun q => trivial))
            refine awp_reg2_seq [] [4] (by decide) ?_
            intro K1 hK1
            refine ⟨trivial, ?_⟩
            show K1 [(4, .bool false)] m
            refine hK1 _ _ ?_; clear hK1 K1
            refine awp_ret ?_
            refine ⟨trivial, m, fun _ _ h => h, ?_⟩
            show K (.bool false) m
           
            have e : okN needs = true := all_of_take h5 hI.2.2
            rcases hpos with h | h
            · omega
            · exact absurd e h.2.2
          · replace h11 : ((newE needs) = 0) ∧ (False) := ⟨(eq_of_beq (bnF (borL h11))), (by cases (borR h11))⟩
            exact h11.2.elim

set_option maxHeartbeats 2000000 in
theorem u_GraphSays0 (needs : List (List Int)) (l : List Int) (hE : newE needs = 0) (m : AMem)  (K : AV → AMem → Prop) (hK : K (.bool true) m) : ACalls Try.prog 3 [.slice false (needs.map (lstAV intAV)), .slice false (l.map intAV)] m K := by
  have hz := newE_zero hE
  have hz1 := hz.1
  have hok := hz.2
  have hwn := wavesR_nn needs
  have hr1 := reachR_nn needs l false
  have hr2 := reachR_nn needs l true
  have hr3 := reachR_len needs l false
  have hr4 := reachR_len needs l true
  have hwl := wavesR_len needs
  have hwl1 := hwl.1
  have hfl := flatW_len hz1
  refine acalls_enter Try.func3 rfl (by decide) (Nat.le_of_ble_eq_true rfl) ?_
  show AWP _ _ _ _ [(0, .slice false (needs.map (lstAV intAV))), (1, .slice false (l.map intAV))] m
  refine awp_reg2_seq [] [0, 1] (by decide) ?_
  intro K1 hK1
  refine ⟨trivial, ?_⟩
  show K1 [(0, .slice false (needs.map (lstAV intAV))), (1, .slice false (l.map intAV))] m
  refine hK1 _ _ ?_; clear hK1 K1
  refine awp_reg2_seq [] [0, 1, 5] (by decide) ?_
  intro K1 hK1
  refine u_leans _ _ ?_
  refine ⟨trivial, ?_⟩
  show K1 [(0, .slice false (needs.map (lstAV intAV))), (1, .slice false (l.map intAV)), (5, .bool true)] m
  refine hK1 _ _ ?_; clear hK1 K1
  refine awp_seq_k ?_; intro K2 hK2
  refine awp_reg2_seq [] [0, 1, 5, 32] (by decide) ?_
  intro K1 hK1
  suffices key : K1 [(0, .slice false (needs.map (lstAV intAV))), (1, .slice false (l.map intAV)), (5, .bool true), (32, .bool ((!(lightN needs)) || (decide (100 < (l.length : Int)))))] m by
    refine ⟨trivial, trivial, trivial, trivial, ?_⟩
    refine u_LightNeeds needs _ _ ?_
    refine ⟨trivial, ?_⟩
    refine ⟨trivial, ?_⟩
    show aopsR _ _ _ _ _ [(28, .bool (!(lightN needs))), (27, .bool (!(lightN needs))), (26, .bool (!(lightN needs))), (25, .bool (lightN needs)), (24, .slice false (needs.map (lstAV intAV))), (23, .bool false), (22, .bool false), (21, .bool true), (0, .slice false (needs.map (lstAV intAV))), (1, .slice false (l.map intAV)), (5, .bool true)] _
    revert key
    cases h1 : (lightN needs)
    · replace h1 : lightN needs = false := h1
      intro key
      refine ar_off rfl (ar_off rfl (ar_off rfl ?_))
      exact key
    · replace h1 : lightN needs = true := h1
      intro key
      refine ⟨trivial, ?_⟩
      refine ar_len rfl intAV l rfl rfl rfl ?_
      refine ⟨trivial, ?_⟩
      exact key
  refine hK1 _ _ ?_; clear hK1 K1
  refine awp_cond rfl rfl (fun h2 => ?_) (fun h2 => ?_)
  · replace h2 : (lightN needs = false) ∨ (100 < (l.length : Int)) := ((borT h2).imp (fun q => (bnT q)) (fun q => (of_decide_eq_true q)))
    refine awp_reg2_seq [] [4] (by decide) ?_
    intro K1 hK1
    refine ⟨trivial, trivial, ?_⟩
    show K1 [(4, .bool true)] m
    refine hK1 _ _ ?_; clear hK1 K1
    refine awp_ret ?_
    refine ⟨trivial, m, fun _ _ h => h, ?_⟩
    show K (.bool true) m
   
    exact hK
  · replace h2 : (lightN needs = true) ∧ ((l.length : Int) ≤ 100) := ⟨(bnF (borL h2)), (Int.not_lt.1 (of_decide_eq_false (borR h2)))⟩
    have hlg := light_facts h2.1
    have hlg1 := hlg.1
    refine awp_skip ?_
    refine hK2 _ _ ?_; clear hK2
    refine awp_reg2_seq [] [0, 1, 6, 7] (by decide) ?_
    intro K1 hK1
    refine ⟨trivial, ?_⟩
    refine u_New_ok needs hE (by omega) hlg.2 _ _ ?_
    intro b1 hb1
    have hFb1 : m b1 = none := wth_none (m := m) (L := []) hb1
    have hNb1 : ([b1] : List Nat).Nodup := wth_nodup (m := m) (L := []) hb1 List.nodup_nil
    show aopsR _ _ _ _ _ _ (AMem.wth m [(b1, .cells [.slice true (needs.map (lstAV intAV))])])
    refine ⟨trivial, (Nat.le_of_ble_eq_true rfl), (Nat.le_of_ble_eq_true rfl), trivial, trivial, ?_⟩
    show K1 [(0, .slice false (needs.map (lstAV intAV))), (1, .slice false (l.map intAV)), (6, .ptr ⟨b1, 0, none⟩), (7, .err 57 0)] (AMem.wth m [(b1, .cells [.slice true (needs.map (lstAV intAV))])])
    refine hK1 _ _ ?_; clear hK1 K1
    refine awp_seq_k ?_; intro K3 hK3
    refine awp_reg2_seq [] [0, 1, 6, 7, 41] (by decide) ?_
    intro K1 hK1
    refine ⟨trivial, ?_⟩
    refine ar_len rfl (lstAV intAV) needs rfl rfl rfl ?_
    refine ⟨trivial, ?_⟩
    show K1 [(0, .slice false (needs.map (lstAV intAV))), (1, .slice false (l.map intAV)), (6, .ptr ⟨b1, 0, none⟩), (7, .err 57 0), (41, .bool (decide (64 < (needs.length : Int))))] (AMem.wth m [(b1, .cells [.slice true (needs.map (lstAV intAV))])])
    refine hK1 _ _ ?_; clear hK1 K1
    refine awp_cond rfl rfl (fun h3 => ?_) (fun h3 => ?_)
    · replace h3 : 64 < (needs.length : Int) := (of_decide_eq_true h3)
      omega
    · replace h3 : (needs.length : Int) ≤ 64 := (Int.not_lt.1 (of_decide_eq_false h3))
      refine awp_skip ?_
      refine hK3 _ _ ?_; clear hK3
      refine awp_seq_k ?_; intro K4 hK4
      refine awp_reg2_seq [] [0, 1, 6, 7, 8] (by decide) ?_
      intro K1 hK1
      refine ⟨trivial, ?_⟩
      show K1 [(0, .slice false (needs.map (lstAV intAV))), (1, .slice false (l.map intAV)), (6, .ptr ⟨b1, 0, none⟩), (7, .err 57 0), (8, .int .i64 0)] (AMem.wth m [(b1, .cells [.slice true (needs.map (lstAV intAV))])])
      refine hK1 _ _ ?_; clear hK1 K1
      refine awp_block ?_
      refine awp_keep [0, 1, 6, 7, 8] (by decide) ?_
      refine awp_loop_st (σ := Int) (fun i => [(0, .slice false (needs.map (lstAV intAV))), (1, .slice false (l.map intAV)), (6, .ptr ⟨b1, 0, none⟩), (7, .err 57 0), (8, .int .i64 i)]) (fun _ => (AMem.wth m [(b1, .cells [.slice true (needs.map (lstAV intAV))])])) (fun i => 0 ≤ i ∧ i ≤ needs.length ∧ (needs.take i.toNat).all (okL needs.length) = true) (fun i => needs.length - i.toNat) (0) rfl rfl ?_ ?_
      · show 0 ≤ ((0 : Int)) ∧ ((0 : Int)) ≤ needs.length ∧ (needs.take ((0 : Int)).toNat).all (okL needs.length) = true
        exact ⟨by omega, by omega, by simp⟩
      · rintro i hI
        replace hI : 0 ≤ i ∧ i ≤ needs.length ∧ (needs.take i.toNat).all (okL needs.length) = true := hI
        show AWP _ _ _ _ [(0, .slice false (needs.map (lstAV intAV))), (1, .slice false (l.map intAV)), (6, .ptr ⟨b1, 0, none⟩), (7, .err 57 0), (8, .int .i64 i)] (AMem.wth m [(b1, .cells [.slice true (needs.map (lstAV intAV))])])
        refine awp_seq_k ?_; intro K5 hK5
        refine awp_reg2_seq [] [0, 1, 6, 7, 8, 51] (by decide) ?_
        intro K1 hK1
        refine ⟨trivial, trivial, ?_⟩
        refine ar_len rfl (lstAV intAV) needs rfl rfl rfl ?_
        refine ⟨trivial, ?_⟩
        show K1 [(0, .slice false (needs.map (lstAV intAV))), (1, .slice false (l.map intAV)), (6, .ptr ⟨b1, 0, none⟩), (7, .err 57 0), (8, .int .i64 i), (51, .bool (decide (i < (needs.length : Int))))] (AMem.wth m [(b1, .cells [.slice true (needs.map (lstAV intAV))])])
        refine hK1 _ _ ?_; clear hK1 K1
        refine awp_cond rfl rfl (fun h4 => ?_) (fun h4 => ?_)
        · replace h4 : i < (needs.length : Int) := (of_decide_eq_true h4)
          refine awp_skip ?_
          refine hK5 _ _ ?_; clear hK5
          refine awp_seq_k ?_; intro K6 hK6
          refine awp_block ?_
          refine awp_reg2_seq [] [0, 1, 6, 7, 8, 9] (by decide) ?_
          intro K1 hK1
          refine ⟨trivial, ?_⟩
          show K1 [(0, .slice false (needs.map (lstAV intAV))), (1, .slice false (l.map intAV)), (6, .ptr ⟨b1, 0, none⟩), (7, .err 57 0), (8, .int .i64 i), (9, .int .i64 0)] (AMem.wth m [(b1, .cells [.slice true (needs.map (lstAV intAV))])])
          refine hK1 _ _ ?_; clear hK1 K1
          refine awp_block ?_
          refine awp_keep [0, 1, 6, 7, 8, 9] (by decide) ?_
          refine awp_loop_st (σ := Int) (fun q => [(0, .slice false (needs.map (lstAV intAV))), (1, .slice false (l.map intAV)), (6, .ptr ⟨b1, 0, none⟩), (7, .err 57 0), (8, .int .i64 i), (9, .int .i64 q)]) (fun _ => (AMem.wth m [(b1, .cells [.slice true (needs.map (lstAV intAV))])])) (fun q => 0 ≤ q ∧ q ≤ (gI needs i).length ∧ ((gI needs i).take q.toNat).all (fun z => decide (0 ≤ z) && decide (z < needs.length)) = true) (fun q => (gI needs i).length - q.toNat) (0) rfl rfl ?_ ?_
          · show 0 ≤ ((0 : Int)) ∧ ((0 : Int)) ≤ (gI needs i).length ∧ ((gI needs i).take ((0 : Int)).toNat).all (fun z => decide (0 ≤ z) && decide (z < needs.length)) = true
            exact ⟨by omega, by omega, by simp⟩
          · rintro q hI2
            replace hI2 : 0 ≤ q ∧ q ≤ (gI needs i).length ∧ ((gI needs i).take q.toNat).all (fun z => decide (0 ≤ z) && decide (z < needs.length)) = true := hI2
            have hwb := hlg.2 _ (gI_mem (l := needs) (i := i) hI.1 h4)
            show AWP _ _ _ _ [(0, .slice false (needs.map (lstAV intAV))), (1, .slice false (l.map intAV)), (6, .ptr ⟨b1, 0, none⟩), (7, .err 57 0), (8, .int .i64 i), (9, .int .i64 q)] (AMem.wth m [(b1, .cells [.slice true (needs.map (lstAV intAV))])])
            refine awp_seq_k ?_; intro K7 hK7
            refine awp_reg2_seq [] [0, 1, 6, 7, 8, 9, 60] (by decide) ?_
            intro K1 hK1
            refine ⟨trivial, trivial, trivial, ?_⟩
            refine ar_index rfl (lstAV intAV) needs i rfl rfl rfl rfl rfl (by decide) (fun _ => rfl) (by omega) (by omega) ?_
            refine ⟨(apartOk_one rfl rfl (Nat.le_of_ble_eq_true rfl)), ?_⟩
            refine ar_len rfl intAV (gI needs i) rfl rfl rfl ?_
            refine ⟨trivial, ?_⟩
            show K1 [(0, .slice false (needs.map (lstAV intAV))), (1, .slice false (l.map intAV)), (6, .ptr ⟨b1, 0, none⟩), (7, .err 57 0), (8, .int .i64 i), (9, .int .i64 q), (60, .bool (decide (q < ((gI needs i).length : Int))))] (AMem.wth m [(b1, .cells [.slice true (needs.map (lstAV intAV))])])
            refine hK1 _ _ ?_; clear hK1 K1
            refine awp_cond rfl rfl (fun h5 => ?_) (fun h5 => ?_)
            · replace h5 : q < ((gI needs i).length : Int) := (of_decide_eq_true h5)
              refine awp_skip ?_
              refine hK7 _ _ ?_; clear hK7
              refine awp_seq_k ?_; intro K8 hK8
              refine awp_block ?_
              refine awp_reg2_seq [] [0, 1, 6, 7, 8, 9, 82] (by decide) ?_
              intro K1 hK1
              suffices key : K1 [(0, .slice false (needs.map (lstAV intAV))), (1, .slice false (l.map intAV)), (6, .ptr ⟨b1, 0, none⟩), (7, .err 57 0), (8, .int .i64 i), (9, .int .i64 q), (82, .bool ((decide (gI (gI needs i) q < 0)) || (decide ((needs.length : Int) ≤ gI (gI needs i) q))))] (AMem.wth m [(b1, .cells [.slice true (needs.map (lstAV intAV))])]) by
                refine ⟨trivial, trivial, ?_⟩
                refine ar_index rfl (lstAV intAV) needs i rfl rfl rfl rfl rfl (by decide) (fun _ => rfl) (by omega) (by omega) ?_
                refine ⟨(apartOk_one rfl rfl (Nat.le_of_ble_eq_true rfl)), trivial, ?_⟩
                refine ar_index rfl intAV (gI needs i) q rfl rfl rfl rfl rfl (by decide) (fun _ => rfl) (by omega) (by omega) ?_
                refine ⟨(apartOk_one rfl rfl (Nat.le_of_ble_eq_true rfl)), trivial, trivial, ?_⟩
                show aopsR _ _ _ _ _ [(71, .bool (decide (gI (gI needs i) q < 0))), (70, .bool (decide (gI (gI needs i) q < 0))), (69, .int .i64 (gI (gI needs i) q)), (68, .ref (AV.cells (.int .i64 (gI (gI needs i) q)))), (67, .int .i64 q), (66, .slice false ((gI needs i).map intAV)), (65, .ref (AV.cells (.slice false ((gI needs i).map intAV)))), (64, .int .i64 i), (63, .slice false (needs.map (lstAV intAV))), (0, .slice false (needs.map (lstAV intAV))), (1, .slice false (l.map intAV)), (6, .ptr ⟨b1, 0, none⟩), (7, .err 57 0), (8, .int .i64 i), (9, .int .i64 q), (60, .bool (decide (q < ((gI needs i).length : Int))))] _
                revert key
                cases h6 : (decide (gI (gI needs i) q < 0))
                · replace h6 : 0 ≤ gI (gI needs i) q := (Int.not_lt.1 (of_decide_eq_false h6))
                  intro key
                  refine ⟨trivial, trivial, ?_⟩
                  refine ar_index rfl (lstAV intAV) needs i rfl rfl rfl rfl rfl (by decide) (fun _ => rfl) (by omega) (by omega) ?_
                  refine ⟨(apartOk_one rfl rfl (Nat.le_of_ble_eq_true rfl)), trivial, ?_⟩
                  refine ar_index rfl intAV (gI needs i) q rfl rfl rfl rfl rfl (by decide) (fun _ => rfl) (by omega) (by omega) ?_
                  refine ⟨(apartOk_one rfl rfl (Nat.le_of_ble_eq_true rfl)), trivial, ?_⟩
                  refine ar_len rfl (lstAV intAV) needs rfl rfl rfl ?_
                  refine ⟨trivial, ?_⟩
                  exact key
                · replace h6 : gI (gI needs i) q < 0 := (of_decide_eq_true h6)
                  intro key
                  refine ar_off rfl (ar_off rfl (ar_off rfl (ar_off rfl (ar_off rfl (ar_off rfl (ar_off rfl (ar_off rfl (ar_off rfl (ar_off rfl ?_)))))))))
                  exact key
              refine hK1 _ _ ?_; clear hK1 K1
              refine awp_cond rfl rfl (fun h7 => ?_) (fun h7 => ?_)
              · replace h7 : (gI (gI needs i) q < 0) ∨ ((needs.length : Int) ≤ gI (gI needs i) q) := ((borT h7).imp (fun q => (of_decide_eq_true q)) (fun q => (of_decide_eq_true q)))
                have := okN_gI hok hI.1 h4 hI2.1 h5
                omega
              · replace h7 : (0 ≤ gI (gI needs i) q) ∧ (gI (gI needs i) q < (needs.length : Int)) := ⟨(Int.not_lt.1 (of_decide_eq_false (borL h7))), (Int.not_le.1 (of_decide_eq_false (borR h7)))⟩
                refine awp_skip ?_
                refine hK8 _ _ ?_; clear hK8
                refine awp_reg2 [] [0, 1, 6, 7, 8, 9] (by decide) ?_
                intro K1 hK1
                refine ⟨trivial, ?_⟩
                refine ar_add rfl (a := q) (b := 1) rfl rfl (by omega) (by omega) ?_
                refine ⟨trivial, ?_⟩
                show K1 [(0, .slice false (needs.map (lstAV intAV))), (1, .slice false (l.map intAV)), (6, .ptr ⟨b1, 0, none⟩), (7, .err 57 0), (8, .int .i64 i), (9, .int .i64 (q + 1))] (AMem.wth m [(b1, .cells [.slice true (needs.map (lstAV intAV))])])
                refine hK1 _ _ ?_; clear hK1 K1
                refine ⟨(q + 1), rfl, rfl, ?_, ?_⟩
                · show 0 ≤ ((q + 1 : Int)) ∧ ((q + 1 : Int)) ≤ (gI needs i).length ∧ ((gI needs i).take ((q + 1 : Int)).toNat).all (fun z => decide (0 ≤ z) && decide (z < needs.length)) = true
                  exact ⟨by omega, by omega, all_take_succ (l := gI needs i) (p := fun z => decide (0 ≤ z) && decide (z < needs.length)) hI2.1 h5 hI2.2.2 (by simp; omega)⟩
                · show (gI needs i).length - ((q + 1 : Int)).toNat < (gI needs i).length - q.toNat
                  omega
            · replace h5 : ((gI needs i).length : Int) ≤ q := (Int.not_lt.1 (of_decide_eq_false h5))
              refine awp_exit ?_
              refine hK6 _ _ ?_; clear hK6
              refine awp_reg2 [] [0, 1, 6, 7, 8] (by decide) ?_
              intro K1 hK1
              refine ⟨trivial, ?_⟩
              refine ar_add rfl (a := i) (b := 1) rfl rfl (by omega) (by omega) ?_
              refine ⟨trivial, ?_⟩
              show K1 [(0, .slice false (needs.map (lstAV intAV))), (1, .slice false (l.map intAV)), (6, .ptr ⟨b1, 0, none⟩), (7, .err 57 0), (8, .int .i64 (i + 1))] (AMem.wth m [(b1, .cells [.slice true (needs.map (lstAV intAV))])])
              refine hK1 _ _ ?_; clear hK1 K1
              refine ⟨(i + 1), rfl, rfl, ?_, ?_⟩
              · show 0 ≤ ((i + 1 : Int)) ∧ ((i + 1 : Int)) ≤ needs.length ∧ (needs.take ((i + 1 : Int)).toNat).all (okL needs.length) = true
                exact ⟨by omega, by omega, by rw [take_succ_gI hI.1 h4, List.all_append, hI.2.2]; simp; exact all_of_take h5 hI2.2.2⟩
              · show needs.length - ((i + 1 : Int)).toNat < needs.length - i.toNat
                omega
        · replace h4 : (needs.length : Int) ≤ i := (Int.not_lt.1 (of_decide_eq_false h4))
          refine awp_exit ?_
          refine hK4 _ _ ?_; clear hK4
          refine awp_seq_k ?_; intro K9 hK9
          refine awp_reg2_seq [] [0, 1, 6, 94] (by decide) ?_
          intro K1 hK1
          suffices key : K1 [(0, .slice false (needs.map (lstAV intAV))), (1, .slice false (l.map intAV)), (6, .ptr ⟨b1, 0, none⟩), (94, .bool false)] (AMem.wth m [(b1, .cells [.slice true (needs.map (lstAV intAV))])]) by
            refine ⟨trivial, ⟨rfl, rfl⟩, trivial, trivial, rfl, ?_⟩
            exact key
          refine hK1 _ _ ?_; clear hK1 K1
          refine awp_cond rfl rfl (fun hc => ?_) (fun hc => ?_)
          · cases hc
          clear hc
          refine awp_skip ?_
          refine hK9 _ _ ?_; clear hK9
          refine awp_reg2_seq [] [0, 1, 6, 7, 10] (by decide) ?_
          intro K1 hK1
          refine ⟨trivial, ?_⟩
          refine u_Waves b1 needs hok hz.1 hlg.2 _ _ ?_
          show aopsR _ _ _ _ _ _ (AMem.wth m [(b1, .cells [.slice true (needs.map (lstAV intAV))])])
          refine ⟨trivial, (Nat.le_of_ble_eq_true rfl), (Nat.le_of_ble_eq_true rfl), trivial, trivial, ?_⟩
          show K1 [(0, .slice false (needs.map (lstAV intAV))), (1, .slice false (l.map intAV)), (6, .ptr ⟨b1, 0, none⟩), (7, .err 57 ((wavesR needs).2)), (10, .slice false (((wavesR needs).1).map (lstAV intAV)))] (AMem.wth m [(b1, .cells [.slice true (needs.map (lstAV intAV))])])
          refine hK1 _ _ ?_; clear hK1 K1
          refine awp_reg2_seq [] [0, 1, 6, 7, 10, 11, 12] (by decide) ?_
          intro K1 hK1
          refine ⟨trivial, ?_⟩
          refine u_refWaves needs hok hz.1 hlg.2 _ _ ?_
          refine ⟨trivial, (Nat.le_of_ble_eq_true rfl), (Nat.le_of_ble_eq_true rfl), trivial, trivial, ?_⟩
          show K1 [(0, .slice false (needs.map (lstAV intAV))), (1, .slice false (l.map intAV)), (6, .ptr ⟨b1, 0, none⟩), (7, .err 57 ((wavesR needs).2)), (10, .slice false (((wavesR needs).1).map (lstAV intAV))), (11, .slice false (((wavesR needs).1).map (lstAV intAV))), (12, .int .i64 ((wavesR needs).2))] (AMem.wth m [(b1, .cells [.slice true (needs.map (lstAV intAV))])])
          refine hK1 _ _ ?_; clear hK1 K1
          refine awp_reg2_seq [] [0, 1, 6, 7, 10, 11, 12, 13, 14] (by decide) ?_
          intro K1 hK1
          refine ⟨trivial, ?_⟩
          refine u_Order b1 needs hok hz.1 hlg.2 _ _ ?_
          show aopsR _ _ _ _ _ _ (AMem.wth m [(b1, .cells [.slice true (needs.map (lstAV intAV))])])
          refine ⟨trivial, (Nat.le_of_ble_eq_true rfl), (Nat.le_of_ble_eq_true rfl), trivial, trivial, ?_⟩
          show K1 [(0, .slice false (needs.map (lstAV intAV))), (1, .slice false (l.map intAV)), (6, .ptr ⟨b1, 0, none⟩), (7, .err 57 ((wavesR needs).2)), (10, .slice false (((wavesR needs).1).map (lstAV intAV))), (11, .slice false (((wavesR needs).1).map (lstAV intAV))), (12, .int .i64 ((wavesR needs).2)), (13, .slice false (((wavesR needs).1.flatten).map intAV)), (14, .err 57 ((wavesR needs).2))] (AMem.wth m [(b1, .cells [.slice true (needs.map (lstAV intAV))])])
          refine hK1 _ _ ?_; clear hK1 K1
          refine awp_seq_k ?_; intro K10 hK10
          refine awp_reg2_seq [] [0, 1, 6, 132] (by decide) ?_
          intro K1 hK1
          suffices key : K1 [(0, .slice false (needs.map (lstAV intAV))), (1, .slice false (l.map intAV)), (6, .ptr ⟨b1, 0, none⟩), (132, .bool false)] (AMem.wth m [(b1, .cells [.slice true (needs.map (lstAV intAV))])]) by
            refine ⟨trivial, trivial, ?_⟩
            refine u_same_eq ((wavesR needs).2) (by assumption) _ _ ?_
            refine ⟨trivial, trivial, trivial, trivial, ?_⟩
            refine u_same_eq ((wavesR needs).2) (by assumption) _ _ ?_
            refine ⟨trivial, ?_⟩
            refine ⟨trivial, trivial, trivial, ?_⟩
            refine u_SameLists_eq ((wavesR needs).1) (by omega) (fun w hw => by have := hwl.2 w hw; omega) _ _ ?_
            refine ⟨trivial, ?_⟩
            refine ⟨trivial, trivial, trivial, ?_⟩
            refine u_Flat (wavesR needs).1 (by omega) (fun w hw => by have := hwl.2 w hw; omega) _ _ ?_
            refine u_SameNumbers_eq ((wavesR needs).1.flatten) (by omega) _ _ ?_
            refine ⟨trivial, ?_⟩
            exact key
          refine hK1 _ _ ?_; clear hK1 K1
          refine awp_cond rfl rfl (fun hc => ?_) (fun hc => ?_)
          · cases hc
          clear hc
          refine awp_skip ?_
          refine hK10 _ _ ?_; clear hK10
          refine awp_reg2_seq [] [0, 1, 6, 7, 15] (by decide) ?_
          intro K1 hK1
          refine ⟨trivial, trivial, ?_⟩
          refine u_Under b1 needs l hok hz.1 hlg.2 (by omega) _ _ ?_
          show aopsR _ _ _ _ _ _ (AMem.wth m [(b1, .cells [.slice true (needs.map (lstAV intAV))])])
          refine ⟨trivial, (Nat.le_of_ble_eq_true rfl), (Nat.le_of_ble_eq_true rfl), trivial, trivial, ?_⟩
          show K1 [(0, .slice false (needs.map (lstAV intAV))), (1, .slice false (l.map intAV)), (6, .ptr ⟨b1, 0, none⟩), (7, .err 57 ((reachR needs l false).2)), (15, .slice false (((reachR needs l false).1).map intAV))] (AMem.wth m [(b1, .cells [.slice true (needs.map (lstAV intAV))])])
          refine hK1 _ _ ?_; clear hK1 K1
          refine awp_reg2_seq [] [0, 1, 6, 7, 12, 15, 16] (by decide) ?_
          intro K1 hK1
          refine ⟨trivial, trivial, ?_⟩
          refine u_refReach needs l false hok hz.1 hlg.2 (by omega) _ _ ?_
          refine ⟨trivial, (Nat.le_of_ble_eq_true rfl), (Nat.le_of_ble_eq_true rfl), trivial, trivial, ?_⟩
          show K1 [(0, .slice false (needs.map (lstAV intAV))), (1, .slice false (l.map intAV)), (6, .ptr ⟨b1, 0, none⟩), (7, .err 57 ((reachR needs l false).2)), (12, .int .i64 ((reachR needs l false).2)), (15, .slice false (((reachR needs l false).1).map intAV)), (16, .slice false (((reachR needs l false).1).map intAV))] (AMem.wth m [(b1, .cells [.slice true (needs.map (lstAV intAV))])])
          refine hK1 _ _ ?_; clear hK1 K1
          refine awp_reg2_seq [] [0, 1, 7, 12, 14, 15, 16, 17] (by decide) ?_
          intro K1 hK1
          refine ⟨trivial, trivial, ?_⟩
          refine u_Over b1 needs l hok hz.1 hlg.2 (by omega) _ _ ?_
          show aopsR _ _ _ _ _ _ (AMem.wth m [(b1, .cells [.slice true (needs.map (lstAV intAV))])])
          refine ⟨trivial, (Nat.le_of_ble_eq_true rfl), (Nat.le_of_ble_eq_true rfl), trivial, trivial, ?_⟩
          show K1 [(0, .slice false (needs.map (lstAV intAV))), (1, .slice false (l.map intAV)), (7, .err 57 ((reachR needs l false).2)), (12, .int .i64 ((reachR needs l false).2)), (14, .err 57 ((reachR needs l true).2)), (15, .slice false (((reachR needs l false).1).map intAV)), (16, .slice false (((reachR needs l false).1).map intAV)), (17, .slice false (((reachR needs l true).1).map intAV))] (AMem.wth m [(b1, .cells [.slice true (needs.map (lstAV intAV))])])
          refine hK1 _ _ ?_; clear hK1 K1
          refine awp_reg2_seq [] [7, 12, 14, 15, 16, 17, 18, 19] (by decide) ?_
          intro K1 hK1
          refine ⟨trivial, trivial, ?_⟩
          refine u_refReach needs l true hok hz.1 hlg.2 (by omega) _ _ ?_
          refine ⟨trivial, (Nat.le_of_ble_eq_true rfl), (Nat.le_of_ble_eq_true rfl), trivial, trivial, ?_⟩
          show K1 [(7, .err 57 ((reachR needs l false).2)), (12, .int .i64 ((reachR needs l false).2)), (14, .err 57 ((reachR needs l true).2)), (15, .slice false (((reachR needs l false).1).map intAV)), (16, .slice false (((reachR needs l false).1).map intAV)), (17, .slice false (((reachR needs l true).1).map intAV)), (18, .slice false (((reachR needs l true).1).map intAV)), (19, .int .i64 ((reachR needs l true).2))] (AMem.wth m [(b1, .cells [.slice true (needs.map (lstAV intAV))])])
          refine hK1 _ _ ?_; clear hK1 K1
          refine awp_reg2_seq [] [4] (by decide) ?_
          intro K1 hK1
          suffices key : K1 [(4, .bool true)] (AMem.wth m [(b1, .cells [.slice true (needs.map (lstAV intAV))])]) by
            refine ⟨trivial, trivial, ?_⟩
            refine u_same_eq ((reachR needs l false).2) (by assumption) _ _ ?_
            refine ⟨trivial, trivial, trivial, ?_⟩
            refine u_same_eq ((reachR needs l true).2) (by assumption) _ _ ?_
            refine ⟨trivial, trivial, trivial, ?_⟩
            refine u_SameNumbers_eq ((reachR needs l false).1) (by omega) _ _ ?_
            refine ⟨trivial, trivial, trivial, ?_⟩
            refine u_SameNumbers_eq ((reachR needs l true).1) (by omega) _ _ ?_
            refine ⟨trivial, ?_⟩
            exact key
          refine hK1 _ _ ?_; clear hK1 K1
          refine awp_ret ?_
          refine ⟨trivial, m, (wth_sub2 (m := m) [(b1, .cells [.slice true (needs.map (lstAV intAV))])] [] hNb1 (by simp only [List.map_cons, List.map_nil, List.forall_mem_cons]; exact ⟨hFb1, fun _ h => by cases h⟩)), ?_⟩
          show K (.bool true) m
         
          exact hK


theorem u_GraphSays (needs : List (List Int)) (l : List Int) (m : AMem) (K : AV → AMem → Prop) (hK : K (.bool true) m) : ACalls Try.prog 3 [.slice false (needs.map (lstAV intAV)), .slice false (l.map intAV)] m K := by
  by_cases hE : newE needs = 0
  · exact u_GraphSays0 needs l hE m K hK
  · exact u_GraphSays1 needs l hE m K hK

end Go.Proofs
