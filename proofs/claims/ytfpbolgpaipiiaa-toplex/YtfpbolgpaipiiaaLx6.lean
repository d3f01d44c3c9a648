import Derived.Test.YtfpbolgpaipiiaaProg
import Derived.Test.YtfpbolgpaipiiaaMix
import Derived.Test.YtfpbolgpaipiiaaWwX
import Derived.Test.YtfpbolgpaipiiaaLx5
namespace Go.Proofs
open Go Go.Aw
set_option maxRecDepth 100000


theorem u_TokensE (s : List UInt8) (r : List Tok × Int × Int) (hr : tokR s = r) (hs : s.length ≤ 16777216) (m) (K : AV → AMem → Prop) (hK : K (.tuple [.slice false (r.1.map tokAV), .int .i64 r.2.1, .err 57 r.2.2]) m) : ACalls Try.prog 21 [.str s] m K := by
  subst hr; exact u_Tokens s hs m K hK
theorem tokF_nn (n : Nat) (s : List UInt8) (a : Int) (out : List Tok) : 0 ≤ (tokF n s a out).2.2 := by
  fun_induction tokF n s a out <;> simp_all [oneI_nn]
theorem tokR_nn (s : List UInt8) : 0 ≤ (tokR s).2.2 := by
  unfold tokR; split
  · simp
  · exact tokF_nn _ _ _ _
theorem tokF_len (n : Nat) (s : List UInt8) (a : Int) (out : List Tok) : (tokF n s a out).1.length ≤ out.length + n := by
  fun_induction tokF n s a out <;> simp_all <;> omega
theorem tokR_len (s : List UInt8) : (tokR s).1.length ≤ 4001 := by
  unfold tokR; split
  · simp
  · have := tokF_len (s.length + 1) s 0 []
    simp at this; omega
theorem take_gI {α : Type} [Inhabited α] {xs ys : List α} {i : Int} (h0 : 0 ≤ i) (hi : i < xs.length) (hi' : i < ys.length) (h : xs.take i.toNat = ys.take i.toNat) (he : gI xs i = gI ys i) : xs.take (i + 1).toNat = ys.take (i + 1).toNat := by
  obtain ⟨n, rfl⟩ := Int.eq_ofNat_of_zero_le h0
  have e : ((n : Int) + 1).toNat = n + 1 := by omega
  have hn : n < xs.length := by omega
  have hn' : n < ys.length := by omega
  rw [e, List.take_succ_eq_append_getElem hn, List.take_succ_eq_append_getElem hn']
  simp [gI, List.getD_eq_getElem?_getD, hn, hn'] at he h
  rw [h, he]
theorem take_all {α : Type} {xs ys : List α} {i : Int} (hl : (xs.length : Int) = ys.length) (hi : i = xs.length) (h : xs.take i.toNat = ys.take i.toNat) : xs = ys := by
  subst hi
  have e : (xs.length : Int).toNat = ys.length := by omega
  rw [Int.toNat_natCast, List.take_length] at h
  rw [h]
  exact List.take_of_length_le (by omega)

theorem u_same (e f : Int) (he : 0 ≤ e) (m : AMem) (K : AV → AMem → Prop) (hK : K (.bool (e == f)) m) : ACalls Try.prog 10 [.err 57 e, .int .i64 f] m K := by
  refine acalls_enter Try.func10 rfl (by decide) (Nat.le_of_ble_eq_true rfl) ?_
  show AWP _ _ _ _ [(0, .err 57 e), (1, .int .i64 f)] m
  refine awp_reg2_seq [] [0, 1] (by decide) ?_
  intro K1 hK1
  refine ⟨trivial, ?_⟩
  show K1 [(0, .err 57 e), (1, .int .i64 f)] m
  refine hK1 _ _ ?_; clear hK1 K1
  refine awp_seq_k ?_; intro K2 hK2
  refine awp_reg2_seq [] [0, 1, 8] (by decide) ?_
  intro K1 hK1
  refine ⟨trivial, ⟨rfl, rfl⟩, ?_⟩
  show K1 [(0, .err 57 e), (1, .int .i64 f), (8, .bool (e == 0))] m
  refine hK1 _ _ ?_; clear hK1 K1
  refine awp_cond rfl rfl (fun h1 => ?_) (fun h1 => ?_)
  · replace h1 : e = 0 := (eq_of_beq h1)
    refine awp_reg2_seq [] [4] (by decide) ?_
    intro K1 hK1
    refine ⟨trivial, trivial, trivial, ?_⟩
    show K1 [(4, .bool (f == 0))] m
    refine hK1 _ _ ?_; clear hK1 K1
    refine awp_ret ?_
    refine ⟨trivial, _, fun _ _ h => h, ?_⟩
    show K (.bool (f == 0)) m
   
    refine K_eq hK (congrArg AV.bool ?_)
    rw [Bool.eq_iff_iff]; simp; omega
  · replace h1 : e ≠ 0 := (ne_of_beq_false h1)
    refine awp_skip ?_
    refine hK2 _ _ ?_; clear hK2
    refine awp_reg2_seq [] [1, 5, 6] (by decide) ?_
    intro K1 hK1
    refine ⟨trivial, rfl, trivial, (Nat.le_of_ble_eq_true rfl), (Nat.le_of_ble_eq_true rfl), trivial, trivial, ?_⟩
    show K1 [(1, .int .i64 f), (5, .int .i64 e), (6, .bool (!(e == 0)))] m
    refine hK1 _ _ ?_; clear hK1 K1
    refine awp_reg2_seq [] [4] (by decide) ?_
    intro K1 hK1
    suffices key : K1 [(4, .bool (((!(e == 0)) && (decide (0 < f))) && (e == f)))] m by
      refine ⟨trivial, trivial, ?_⟩
      show aopsR _ _ _ _ _ [(17, .bool (!(e == 0))), (16, .bool (!(e == 0))), (1, .int .i64 f), (5, .int .i64 e), (6, .bool (!(e == 0)))] _
      revert key
      cases h2 : (e == 0)
      · replace h2 : e ≠ 0 := (ne_of_beq_false h2)
        intro key
        refine ⟨trivial, trivial, ?_⟩
        refine ⟨trivial, ?_⟩
        show aopsR _ _ _ _ _ [(21, .bool (decide (0 < f))), (20, .bool (decide (0 < f))), (19, .bool (decide (0 < f))), (18, .int .i64 f), (17, .bool true), (16, .bool true), (1, .int .i64 f), (5, .int .i64 e), (6, .bool true)] _
        revert key
        cases h3 : (decide (0 < f))
        · replace h3 : f ≤ 0 := (Int.not_lt.1 (of_decide_eq_false h3))
          intro key
          refine ar_off rfl (ar_off rfl (ar_off rfl ?_))
          refine ⟨trivial, ?_⟩
          exact key
        · replace h3 : 0 < f := (of_decide_eq_true h3)
          intro key
          refine ⟨trivial, trivial, trivial, ?_⟩
          refine ⟨trivial, ?_⟩
          exact key
      · replace h2 : e = 0 := (eq_of_beq h2)
        intro key
        refine ar_off rfl (ar_off rfl ?_)
        refine ⟨trivial, ?_⟩
        refine ar_off rfl (ar_off rfl (ar_off rfl ?_))
        refine ⟨trivial, ?_⟩
        exact key
    refine hK1 _ _ ?_; clear hK1 K1
    refine awp_ret ?_
    refine ⟨trivial, _, fun _ _ h => h, ?_⟩
    show K (.bool (((!(e == 0)) && (decide (0 < f))) && (e == f))) m
   
    refine K_eq hK (congrArg AV.bool ?_)
    rw [Bool.eq_iff_iff]; simp; omega

theorem u_SameTokens (xs ys : List Tok) (hx : xs.length ≤ 140737488355328) (m : AMem) (K : AV → AMem → Prop) (hK : K (.bool (decide (xs = ys))) m) : ACalls Try.prog 23 [.slice false (xs.map tokAV), .slice false (ys.map tokAV)] m K := by
  refine acalls_enter Try.func23 rfl (by decide) (Nat.le_of_ble_eq_true rfl) ?_
  show AWP _ _ _ _ [(0, .slice false (xs.map tokAV)), (1, .slice false (ys.map tokAV))] m
  refine awp_reg2_seq [] [0, 1] (by decide) ?_
  intro K1 hK1
  refine ⟨trivial, ?_⟩
  show K1 [(0, .slice false (xs.map tokAV)), (1, .slice false (ys.map tokAV))] m
  refine hK1 _ _ ?_; clear hK1 K1
  refine awp_seq_k ?_; intro K2 hK2
  refine awp_reg2_seq [] [0, 1, 10] (by decide) ?_
  intro K1 hK1
  refine ⟨trivial, ?_⟩
  refine ar_len rfl tokAV xs rfl rfl rfl ?_
  refine ⟨trivial, ?_⟩
  refine ar_len rfl tokAV ys rfl rfl rfl ?_
  refine ⟨trivial, ?_⟩
  show K1 [(0, .slice false (xs.map tokAV)), (1, .slice false (ys.map tokAV)), (10, .bool (!((xs.length : Int) == (ys.length : Int))))] m
  refine hK1 _ _ ?_; clear hK1 K1
  refine awp_cond rfl rfl (fun h1 => ?_) (fun h1 => ?_)
  · replace h1 : (xs.length : Int) ≠ (ys.length : Int) := (ne_of_beq_false (bnT h1))
    refine awp_reg2_seq [] [4] (by decide) ?_
    intro K1 hK1
    refine ⟨trivial, ?_⟩
    show K1 [(4, .bool false)] m
    refine hK1 _ _ ?_; clear hK1 K1
    refine awp_ret ?_
    refine ⟨trivial, _, fun _ _ h => h, ?_⟩
    show K (.bool false) m
   
    refine K_eq hK (congrArg AV.bool ?_)
    simp only [decide_eq_false_iff_not]; rintro rfl; omega
  · replace h1 : (xs.length : Int) = (ys.length : Int) := (eq_of_beq (bnF h1))
    refine awp_skip ?_
    refine hK2 _ _ ?_; clear hK2
    refine awp_seq_k ?_; intro K3 hK3
    refine awp_reg2_seq [] [0, 1, 5] (by decide) ?_
    intro K1 hK1
    refine ⟨trivial, ?_⟩
    show K1 [(0, .slice false (xs.map tokAV)), (1, .slice false (ys.map tokAV)), (5, .int .i64 0)] m
    refine hK1 _ _ ?_; clear hK1 K1
    refine awp_block ?_
    refine awp_keep [0, 1, 5] (by decide) ?_
    refine awp_loop_st (σ := Int) (fun i => [(0, .slice false (xs.map tokAV)), (1, .slice false (ys.map tokAV)), (5, .int .i64 i)]) (fun _ => m) (fun i => 0 ≤ i ∧ i ≤ xs.length ∧ xs.take i.toNat = ys.take i.toNat) (fun i => xs.length - i.toNat) (0) rfl rfl ?_ ?_
    · show 0 ≤ ((0 : Int)) ∧ ((0 : Int)) ≤ xs.length ∧ xs.take ((0 : Int)).toNat = ys.take ((0 : Int)).toNat
      exact ⟨by omega, by omega, rfl⟩
    · rintro i hI
      replace hI : 0 ≤ i ∧ i ≤ xs.length ∧ xs.take i.toNat = ys.take i.toNat := hI
      show AWP _ _ _ _ [(0, .slice false (xs.map tokAV)), (1, .slice false (ys.map tokAV)), (5, .int .i64 i)] m
      refine awp_seq_k ?_; intro K4 hK4
      refine awp_reg2_seq [] [0, 1, 5, 14] (by decide) ?_
      intro K1 hK1
      refine ⟨trivial, trivial, ?_⟩
      refine ar_len rfl tokAV xs rfl rfl rfl ?_
      refine ⟨trivial, ?_⟩
      show K1 [(0, .slice false (xs.map tokAV)), (1, .slice false (ys.map tokAV)), (5, .int .i64 i), (14, .bool (decide (i < (xs.length : Int))))] m
      refine hK1 _ _ ?_; clear hK1 K1
      refine awp_cond rfl rfl (fun h2 => ?_) (fun h2 => ?_)
      · replace h2 : i < (xs.length : Int) := (of_decide_eq_true h2)
        refine awp_skip ?_
        refine hK4 _ _ ?_; clear hK4
        refine awp_seq_k ?_; intro K5 hK5
        refine awp_block ?_
        refine awp_draw_seq Try.mixed [] [0, 1, 5, 25] (by decide) (by decide) ?_
        intro K1 hK1
        refine ⟨trivial, trivial, ?_⟩
        refine pq_index rfl tokAV xs i rfl rfl rfl rfl rfl (by decide) (fun _ => rfl) (by omega) (by omega) ?_
        refine ⟨(apartOk_agg rfl rfl (Nat.le_of_ble_eq_true rfl)), trivial, trivial, ?_⟩
        refine pq_index rfl tokAV ys i rfl rfl rfl rfl rfl (by decide) (fun _ => rfl) (by omega) (by omega) ?_
        refine ⟨(apartOk_agg rfl rfl (Nat.le_of_ble_eq_true rfl)), ⟨Try.stoodInHeld55, Try.eqGuardType55, ⟨⟨rfl, rfl⟩, by decide, ⟨⟨rfl, rfl⟩, by decide, ⟨rfl, by decide, trivial⟩⟩⟩⟩, ?_⟩
        show K1 [(0, .slice false (xs.map tokAV)), (1, .slice false (ys.map tokAV)), (5, .int .i64 i), (25, .bool (!((((gI xs i).1) == ((gI ys i).1)) && ((((gI xs i).2.1) == ((gI ys i).2.1)) && ((((gI xs i).2.2) == ((gI ys i).2.2)) && true)))))] m
        refine hK1 _ _ ?_; clear hK1 K1
        refine awp_cond rfl rfl (fun h3 => ?_) (fun h3 => ?_)
        · replace h3 : ((gI xs i).1 ≠ (gI ys i).1) ∨ (((gI xs i).2.1 ≠ (gI ys i).2.1) ∨ (((gI xs i).2.2 ≠ (gI ys i).2.2) ∨ (False))) := ((bandF (bnT h3)).imp (fun q => (ne_of_beq_false q)) (fun q => ((bandF q).imp (fun q => (ne_of_beq_false q)) (fun q => ((bandF q).imp (fun q => (ne_of_beq_false q)) (fun q => (by cases q)))))))
          refine awp_reg2_seq [] [4] (by decide) ?_
          intro K1 hK1
          refine ⟨trivial, ?_⟩
          show K1 [(4, .bool false)] m
          refine hK1 _ _ ?_; clear hK1 K1
          refine awp_ret ?_
          refine ⟨trivial, _, fun _ _ h => h, ?_⟩
          show K (.bool false) m
         
          refine K_eq hK (congrArg AV.bool ?_)
          simp only [decide_eq_false_iff_not]; rintro rfl; simp at h3
        · replace h3 : ((gI xs i).1 = (gI ys i).1) ∧ (((gI xs i).2.1 = (gI ys i).2.1) ∧ (((gI xs i).2.2 = (gI ys i).2.2) ∧ (True))) := ⟨(eq_of_beq (bandL (bnF h3))), ⟨(eq_of_beq (bandL (bandR (bnF h3)))), ⟨(eq_of_beq (bandL (bandR (bandR (bnF h3))))), trivial⟩⟩⟩
          refine awp_skip ?_
          refine hK5 _ _ ?_; clear hK5
          refine awp_reg2 [] [0, 1, 5] (by decide) ?_
          intro K1 hK1
          refine ⟨trivial, ?_⟩
          refine ar_add rfl (a := i) (b := 1) rfl rfl (by omega) (by omega) ?_
          refine ⟨trivial, ?_⟩
          show K1 [(0, .slice false (xs.map tokAV)), (1, .slice false (ys.map tokAV)), (5, .int .i64 (i + 1))] m
          refine hK1 _ _ ?_; clear hK1 K1
          refine ⟨(i + 1), rfl, rfl, ?_, ?_⟩
          · show 0 ≤ ((i + 1 : Int)) ∧ ((i + 1 : Int)) ≤ xs.length ∧ xs.take ((i + 1 : Int)).toNat = ys.take ((i + 1 : Int)).toNat
            exact ⟨by omega, by omega, take_gI hI.1 h2 (by omega) hI.2.2 (Prod.ext h3.1 (Prod.ext h3.2.1 h3.2.2.1))⟩
          · show xs.length - ((i + 1 : Int)).toNat < xs.length - i.toNat
            omega
      · replace h2 : (xs.length : Int) ≤ i := (Int.not_lt.1 (of_decide_eq_false h2))
        refine awp_exit ?_
        refine hK3 _ _ ?_; clear hK3
        refine awp_reg2_seq [] [4] (by decide) ?_
        intro K1 hK1
        refine ⟨trivial, ?_⟩
        show K1 [(4, .bool true)] m
        refine hK1 _ _ ?_; clear hK1 K1
        refine awp_ret ?_
        refine ⟨trivial, _, fun _ _ h => h, ?_⟩
        show K (.bool true) m
       
        refine K_eq hK (congrArg AV.bool ?_)
        rw [decide_eq_true_eq]; exact take_all h1 (by omega) hI.2.2

theorem u_signs   (m : AMem) (K : AV → AMem → Prop) (hK : K (.bool true) m) : ACalls Try.prog 20 [] m K := by
  refine acalls_enter Try.func20 rfl (by decide) (Nat.le_of_ble_eq_true rfl) ?_
  show AWP _ _ _ _ [] m
  refine awp_reg2_seq [] [] (by decide) ?_
  intro K1 hK1
  refine ⟨trivial, ?_⟩
  show K1 [] m
  refine hK1 _ _ ?_; clear hK1 K1
  refine awp_reg2_seq [] [1, 2, 3] (by decide) ?_
  intro K1 hK1
  refine u_TokensE ([97, 32, 61, 61, 32, 34, 120, 34, 32, 35, 32, 98, 10, 49, 50] : List UInt8) ([(1, 0, [97]), (4, 2, [61, 61]), (3, 5, [120]), (2, 13, [49, 50])], 0, 0) (by decide +kernel) (by decide) _ _ ?_
  refine ⟨trivial, (Nat.le_of_ble_eq_true rfl), (Nat.le_of_ble_eq_true rfl), (Nat.le_of_ble_eq_true rfl), trivial, trivial, trivial, ?_⟩
  show K1 [(1, .slice false [.agg [.int .i64 1, .int .i64 0, .str ([97])], .agg [.int .i64 4, .int .i64 2, .str ([61, 61])], .agg [.int .i64 3, .int .i64 5, .str ([120])], .agg [.int .i64 2, .int .i64 13, .str ([49, 50])]]), (2, .int .i64 0), (3, .err 57 0)] m
  refine hK1 _ _ ?_; clear hK1 K1
  refine awp_reg2_seq [] [0] (by decide) ?_
  intro K1 hK1
  suffices key : K1 [(0, .bool (((((gI ([(1, 0, [97]), (4, 2, [61, 61]), (3, 5, [120]), (2, 13, [49, 50])] : List Tok) 1).2.2) == ([61, 61] : List UInt8)) && (((gI ([(1, 0, [97]), (4, 2, [61, 61]), (3, 5, [120]), (2, 13, [49, 50])] : List Tok) 2).2.2) == ([120] : List UInt8))) && (((gI ([(1, 0, [97]), (4, 2, [61, 61]), (3, 5, [120]), (2, 13, [49, 50])] : List Tok) 3).2.1) == 13)))] m by
    refine ⟨trivial, ?_⟩
    refine u_same 0 0 (by first | omega | decide | exact tokR_nn _) _ _ ?_
    refine ⟨trivial, trivial, trivial, ?_⟩
    refine ⟨trivial, trivial, trivial, trivial, ?_⟩
    refine ⟨trivial, trivial, ?_⟩
    refine ar_index rfl tokAV ([(1, 0, [97]), (4, 2, [61, 61]), (3, 5, [120]), (2, 13, [49, 50])] : List Tok) 1 rfl rfl rfl rfl rfl (by decide) (fun _ => rfl) (by decide) (by decide) ?_
    refine ⟨⟨rfl, by decide, (Nat.le_of_ble_eq_true rfl)⟩, (apartOk_one rfl rfl (Nat.le_of_ble_eq_true rfl)), trivial, ?_⟩
    refine ⟨trivial, ?_⟩
    show aopsR _ _ _ _ _ [(27, .bool (((gI ([(1, 0, [97]), (4, 2, [61, 61]), (3, 5, [120]), (2, 13, [49, 50])] : List Tok) 1).2.2) == ([61, 61] : List UInt8))), (26, .bool (((gI ([(1, 0, [97]), (4, 2, [61, 61]), (3, 5, [120]), (2, 13, [49, 50])] : List Tok) 1).2.2) == ([61, 61] : List UInt8))), (25, .bool (((gI ([(1, 0, [97]), (4, 2, [61, 61]), (3, 5, [120]), (2, 13, [49, 50])] : List Tok) 1).2.2) == ([61, 61] : List UInt8))), (24, .str ((gI ([(1, 0, [97]), (4, 2, [61, 61]), (3, 5, [120]), (2, 13, [49, 50])] : List Tok) 1).2.2)), (23, .ref [.str ((gI ([(1, 0, [97]), (4, 2, [61, 61]), (3, 5, [120]), (2, 13, [49, 50])] : List Tok) 1).2.2)]), (22, .ref (AV.cells (tokAV (gI ([(1, 0, [97]), (4, 2, [61, 61]), (3, 5, [120]), (2, 13, [49, 50])] : List Tok) 1)))), (21, .slice false [.agg [.int .i64 1, .int .i64 0, .str ([97])], .agg [.int .i64 4, .int .i64 2, .str ([61, 61])], .agg [.int .i64 3, .int .i64 5, .str ([120])], .agg [.int .i64 2, .int .i64 13, .str ([49, 50])]]), (20, .bool true), (19, .bool true), (18, .bool true), (17, .int .i64 4), (16, .slice false [.agg [.int .i64 1, .int .i64 0, .str ([97])], .agg [.int .i64 4, .int .i64 2, .str ([61, 61])], .agg [.int .i64 3, .int .i64 5, .str ([120])], .agg [.int .i64 2, .int .i64 13, .str ([49, 50])]]), (15, .bool true), (14, .bool true), (13, .bool true), (12, .int .i64 0), (11, .bool true), (10, .bool true), (9, .err 57 0), (1, .slice false [.agg [.int .i64 1, .int .i64 0, .str ([97])], .agg [.int .i64 4, .int .i64 2, .str ([61, 61])], .agg [.int .i64 3, .int .i64 5, .str ([120])], .agg [.int .i64 2, .int .i64 13, .str ([49, 50])]]), (2, .int .i64 0), (3, .err 57 0)] _
    revert key
    cases h1 : (((gI ([(1, 0, [97]), (4, 2, [61, 61]), (3, 5, [120]), (2, 13, [49, 50])] : List Tok) 1).2.2) == ([61, 61] : List UInt8))
    · replace h1 : (gI ([(1, 0, [97]), (4, 2, [61, 61]), (3, 5, [120]), (2, 13, [49, 50])] : List Tok) 1).2.2 ≠ ([61, 61] : List UInt8) := (ne_of_beq_false h1)
      intro key
      refine ar_off rfl (ar_off rfl (ar_off rfl (ar_off rfl (ar_off rfl ?_))))
      refine ⟨trivial, ?_⟩
      refine ar_off rfl (ar_off rfl (ar_off rfl (ar_off rfl (ar_off rfl ?_))))
      refine ⟨trivial, ?_⟩
      exact key
    · replace h1 : (gI ([(1, 0, [97]), (4, 2, [61, 61]), (3, 5, [120]), (2, 13, [49, 50])] : List Tok) 1).2.2 = ([61, 61] : List UInt8) := (eq_of_beq h1)
      intro key
      refine ⟨trivial, ?_⟩
      refine ar_index rfl tokAV ([(1, 0, [97]), (4, 2, [61, 61]), (3, 5, [120]), (2, 13, [49, 50])] : List Tok) 2 rfl rfl rfl rfl rfl (by decide) (fun _ => rfl) (by decide) (by decide) ?_
      refine ⟨⟨rfl, by decide, (Nat.le_of_ble_eq_true rfl)⟩, (apartOk_one rfl rfl (Nat.le_of_ble_eq_true rfl)), trivial, ?_⟩
      refine ⟨trivial, ?_⟩
      show aopsR _ _ _ _ _ [(34, .bool (((gI ([(1, 0, [97]), (4, 2, [61, 61]), (3, 5, [120]), (2, 13, [49, 50])] : List Tok) 2).2.2) == ([120] : List UInt8))), (33, .bool (((gI ([(1, 0, [97]), (4, 2, [61, 61]), (3, 5, [120]), (2, 13, [49, 50])] : List Tok) 2).2.2) == ([120] : List UInt8))), (32, .bool (((gI ([(1, 0, [97]), (4, 2, [61, 61]), (3, 5, [120]), (2, 13, [49, 50])] : List Tok) 2).2.2) == ([120] : List UInt8))), (31, .str ((gI ([(1, 0, [97]), (4, 2, [61, 61]), (3, 5, [120]), (2, 13, [49, 50])] : List Tok) 2).2.2)), (30, .ref [.str ((gI ([(1, 0, [97]), (4, 2, [61, 61]), (3, 5, [120]), (2, 13, [49, 50])] : List Tok) 2).2.2)]), (29, .ref (AV.cells (tokAV (gI ([(1, 0, [97]), (4, 2, [61, 61]), (3, 5, [120]), (2, 13, [49, 50])] : List Tok) 2)))), (28, .slice false [.agg [.int .i64 1, .int .i64 0, .str ([97])], .agg [.int .i64 4, .int .i64 2, .str ([61, 61])], .agg [.int .i64 3, .int .i64 5, .str ([120])], .agg [.int .i64 2, .int .i64 13, .str ([49, 50])]]), (27, .bool true), (26, .bool true), (25, .bool true), (24, .str ((gI ([(1, 0, [97]), (4, 2, [61, 61]), (3, 5, [120]), (2, 13, [49, 50])] : List Tok) 1).2.2)), (23, .ref [.str ((gI ([(1, 0, [97]), (4, 2, [61, 61]), (3, 5, [120]), (2, 13, [49, 50])] : List Tok) 1).2.2)]), (22, .ref (AV.cells (tokAV (gI ([(1, 0, [97]), (4, 2, [61, 61]), (3, 5, [120]), (2, 13, [49, 50])] : List Tok) 1)))), (21, .slice false [.agg [.int .i64 1, .int .i64 0, .str ([97])], .agg [.int .i64 4, .int .i64 2, .str ([61, 61])], .agg [.int .i64 3, .int .i64 5, .str ([120])], .agg [.int .i64 2, .int .i64 13, .str ([49, 50])]]), (20, .bool true), (19, .bool true), (18, .bool true), (17, .int .i64 4), (16, .slice false [.agg [.int .i64 1, .int .i64 0, .str ([97])], .agg [.int .i64 4, .int .i64 2, .str ([61, 61])], .agg [.int .i64 3, .int .i64 5, .str ([120])], .agg [.int .i64 2, .int .i64 13, .str ([49, 50])]]), (15, .bool true), (14, .bool true), (13, .bool true), (12, .int .i64 0), (11, .bool true), (10, .bool true), (9, .err 57 0), (1, .slice false [.agg [.int .i64 1, .int .i64 0, .str ([97])], .agg [.int .i64 4, .int .i64 2, .str ([61, 61])], .agg [.int .i64 3, .int .i64 5, .str ([120])], .agg [.int .i64 2, .int .i64 13, .str ([49, 50])]]), (2, .int .i64 0), (3, .err 57 0)] _
      revert key
      cases h2 : (((gI ([(1, 0, [97]), (4, 2, [61, 61]), (3, 5, [120]), (2, 13, [49, 50])] : List Tok) 2).2.2) == ([120] : List UInt8))
      · replace h2 : (gI ([(1, 0, [97]), (4, 2, [61, 61]), (3, 5, [120]), (2, 13, [49, 50])] : List Tok) 2).2.2 ≠ ([120] : List UInt8) := (ne_of_beq_false h2)
        intro key
        refine ar_off rfl (ar_off rfl (ar_off rfl (ar_off rfl (ar_off rfl ?_))))
        refine ⟨trivial, ?_⟩
        exact key
      · replace h2 : (gI ([(1, 0, [97]), (4, 2, [61, 61]), (3, 5, [120]), (2, 13, [49, 50])] : List Tok) 2).2.2 = ([120] : List UInt8) := (eq_of_beq h2)
        intro key
        refine ⟨trivial, ?_⟩
        refine ar_index rfl tokAV ([(1, 0, [97]), (4, 2, [61, 61]), (3, 5, [120]), (2, 13, [49, 50])] : List Tok) 3 rfl rfl rfl rfl rfl (by decide) (fun _ => rfl) (by decide) (by decide) ?_
        refine ⟨⟨rfl, by decide, (Nat.le_of_ble_eq_true rfl)⟩, (apartOk_one rfl rfl (Nat.le_of_ble_eq_true rfl)), trivial, ?_⟩
        refine ⟨trivial, ?_⟩
        exact key
  refine hK1 _ _ ?_; clear hK1 K1
  refine awp_ret ?_
  refine ⟨trivial, _, fun _ _ h => h, ?_⟩
  show K (.bool (((((gI ([(1, 0, [97]), (4, 2, [61, 61]), (3, 5, [120]), (2, 13, [49, 50])] : List Tok) 1).2.2) == ([61, 61] : List UInt8)) && (((gI ([(1, 0, [97]), (4, 2, [61, 61]), (3, 5, [120]), (2, 13, [49, 50])] : List Tok) 2).2.2) == ([120] : List UInt8))) && (((gI ([(1, 0, [97]), (4, 2, [61, 61]), (3, 5, [120]), (2, 13, [49, 50])] : List Tok) 3).2.1) == 13))) m
 
  refine K_eq hK (congrArg AV.bool ?_)
  decide +kernel

theorem u_LexSays (s : List UInt8)  (m : AMem) (K : AV → AMem → Prop) (hK : K (.bool true) m) : ACalls Try.prog 4 [.str s] m K := by
  refine acalls_enter Try.func4 rfl (by decide) (Nat.le_of_ble_eq_true rfl) ?_
  show AWP _ _ _ _ [(0, .str s)] m
  refine awp_reg2_seq [] [0] (by decide) ?_
  intro K1 hK1
  refine ⟨trivial, ?_⟩
  show K1 [(0, .str s)] m
  refine hK1 _ _ ?_; clear hK1 K1
  refine awp_reg2_seq [] [0, 3] (by decide) ?_
  intro K1 hK1
  refine u_signs _ _ ?_
  refine ⟨trivial, ?_⟩
  show K1 [(0, .str s), (3, .bool true)] m
  refine hK1 _ _ ?_; clear hK1 K1
  refine awp_seq_k ?_; intro K2 hK2
  refine awp_reg2_seq [] [0, 3, 17] (by decide) ?_
  intro K1 hK1
  suffices key : K1 [(0, .str s), (3, .bool true), (17, .bool (decide (5000 < (s.length : Int))))] m by
    refine ⟨trivial, trivial, trivial, trivial, trivial, trivial, ?_⟩
    exact key
  refine hK1 _ _ ?_; clear hK1 K1
  refine awp_cond rfl rfl (fun h1 => ?_) (fun h1 => ?_)
  · replace h1 : 5000 < (s.length : Int) := (of_decide_eq_true h1)
    refine awp_reg2_seq [] [2] (by decide) ?_
    intro K1 hK1
    refine ⟨trivial, trivial, ?_⟩
    show K1 [(2, .bool true)] m
    refine hK1 _ _ ?_; clear hK1 K1
    refine awp_ret ?_
    refine ⟨trivial, _, fun _ _ h => h, ?_⟩
    show K (.bool true) m
   
    exact hK
  · replace h1 : (s.length : Int) ≤ 5000 := (Int.not_lt.1 (of_decide_eq_false h1))
    refine awp_skip ?_
    refine hK2 _ _ ?_; clear hK2
    refine awp_reg2_seq [] [0, 4, 5, 6] (by decide) ?_
    intro K1 hK1
    refine ⟨trivial, ?_⟩
    refine u_Tokens s (by omega) _ _ ?_
    refine ⟨trivial, (Nat.le_of_ble_eq_true rfl), (Nat.le_of_ble_eq_true rfl), (Nat.le_of_ble_eq_true rfl), trivial, trivial, trivial, ?_⟩
    show K1 [(0, .str s), (4, .slice false (((tokR s).1).map tokAV)), (5, .int .i64 ((tokR s).2.1)), (6, .err 57 ((tokR s).2.2))] m
    refine hK1 _ _ ?_; clear hK1 K1
    refine awp_reg2_seq [] [4, 5, 6, 7, 8, 9] (by decide) ?_
    intro K1 hK1
    refine ⟨trivial, ?_⟩
    refine u_refTokens s (by omega) _ _ ?_
    refine ⟨trivial, (Nat.le_of_ble_eq_true rfl), (Nat.le_of_ble_eq_true rfl), (Nat.le_of_ble_eq_true rfl), trivial, trivial, trivial, ?_⟩
    show K1 [(4, .slice false (((tokR s).1).map tokAV)), (5, .int .i64 ((tokR s).2.1)), (6, .err 57 ((tokR s).2.2)), (7, .slice false (((tokR s).1).map tokAV)), (8, .int .i64 ((tokR s).2.1)), (9, .int .i64 ((tokR s).2.2))] m
    refine hK1 _ _ ?_; clear hK1 K1
    refine awp_reg2_seq [] [2] (by decide) ?_
    intro K1 hK1
    suffices key : K1 [(2, .bool (((((tokR s).2.2) == ((tokR s).2.2)) && (((tokR s).2.1) == ((tokR s).2.1))) && (decide ((tokR s).1 = (tokR s).1))))] m by
      refine ⟨trivial, trivial, ?_⟩
      refine u_same ((tokR s).2.2) ((tokR s).2.2) (by first | omega | decide | exact tokR_nn _) _ _ ?_
      refine ⟨trivial, ?_⟩
      show aopsR _ _ _ _ _ [(34, .bool (((tokR s).2.2) == ((tokR s).2.2))), (33, .bool (((tokR s).2.2) == ((tokR s).2.2))), (32, .int .i64 ((tokR s).2.2)), (31, .err 57 ((tokR s).2.2)), (4, .slice false (((tokR s).1).map tokAV)), (5, .int .i64 ((tokR s).2.1)), (6, .err 57 ((tokR s).2.2)), (7, .slice false (((tokR s).1).map tokAV)), (8, .int .i64 ((tokR s).2.1)), (9, .int .i64 ((tokR s).2.2))] _
      revert key
      cases h2 : (((tokR s).2.2) == ((tokR s).2.2))
      · replace h2 : (tokR s).2.2 ≠ (tokR s).2.2 := (ne_of_beq_false h2)
        intro key
        refine ar_off rfl (ar_off rfl (ar_off rfl ?_))
        refine ⟨trivial, ?_⟩
        refine ar_off rfl (ar_off rfl (ar_off rfl ?_))
        refine ⟨trivial, ?_⟩
        exact key
      · replace h2 : (tokR s).2.2 = (tokR s).2.2 := (eq_of_beq h2)
        intro key
        refine ⟨trivial, trivial, trivial, ?_⟩
        refine ⟨trivial, ?_⟩
        show aopsR _ _ _ _ _ [(39, .bool (((tokR s).2.1) == ((tokR s).2.1))), (38, .bool (((tokR s).2.1) == ((tokR s).2.1))), (37, .bool (((tokR s).2.1) == ((tokR s).2.1))), (36, .int .i64 ((tokR s).2.1)), (35, .int .i64 ((tokR s).2.1)), (34, .bool true), (33, .bool true), (32, .int .i64 ((tokR s).2.2)), (31, .err 57 ((tokR s).2.2)), (4, .slice false (((tokR s).1).map tokAV)), (5, .int .i64 ((tokR s).2.1)), (6, .err 57 ((tokR s).2.2)), (7, .slice false (((tokR s).1).map tokAV)), (8, .int .i64 ((tokR s).2.1)), (9, .int .i64 ((tokR s).2.2))] _
        revert key
        cases h3 : (((tokR s).2.1) == ((tokR s).2.1))
        · replace h3 : (tokR s).2.1 ≠ (tokR s).2.1 := (ne_of_beq_false h3)
          intro key
          refine ar_off rfl (ar_off rfl (ar_off rfl ?_))
          refine ⟨trivial, ?_⟩
          exact key
        · replace h3 : (tokR s).2.1 = (tokR s).2.1 := (eq_of_beq h3)
          intro key
          refine ⟨trivial, trivial, ?_⟩
          refine u_SameTokens ((tokR s).1) ((tokR s).1) (by have := tokR_len s; omega) _ _ ?_
          refine ⟨trivial, ?_⟩
          exact key
    refine hK1 _ _ ?_; clear hK1 K1
    refine awp_ret ?_
    refine ⟨trivial, _, fun _ _ h => h, ?_⟩
    show K (.bool (((((tokR s).2.2) == ((tokR s).2.2)) && (((tokR s).2.1) == ((tokR s).2.1))) && (decide ((tokR s).1 = (tokR s).1)))) m
   
    refine K_eq hK (congrArg AV.bool ?_)
    simp

end Go.Proofs
