import Derived.Test.YtoeghipbkmaccaaDoorProg
import Derived.Test.YtoeghipbkmaccaaDoorMix
import Derived.Test.YtoeghipbkmaccaaDoorWxf
import Derived.Test.YtoeghipbkmaccaaDoorWxg
namespace Go.Proofs
open Go Go.Aw
set_option maxRecDepth 100000


def errAV : Int → AV := .err 23
theorem take_gI {α : Type} [Inhabited α] {xs ys : List α} {i : Int} (h0 : 0 ≤ i) (hi : i < xs.length) (hi' : i < ys.length) (h : xs.take i.toNat = ys.take i.toNat) (he : gI xs i = gI ys i) : xs.take (i + 1).toNat = ys.take (i + 1).toNat := by
  obtain ⟨n, rfl⟩ := Int.eq_ofNat_of_zero_le h0
  have e : ((n : Int) + 1).toNat = n + 1 := by omega
  have hn : n < xs.length := by omega
  have hn' : n < ys.length := by omega
  rw [e, List.take_succ_eq_append_getElem hn, List.take_succ_eq_append_getElem hn']
  simp [gI, List.getD_eq_getElem?_getD, hn, hn'] at he h
  rw [h, he]
theorem take_all {α : Type} {xs ys : List α} {i : Int} (hl : (xs.length : Int) = ys.length) (hi : i = xs.length) (h : xs.take i.toNat = ys.take i.toNat) : xs = ys := by
  subst hi
  have e : (xs.length : Int).toNat = ys.length := by omega
  rw [Int.toNat_natCast, List.take_length] at h
  rw [h]
  exact List.take_of_length_le (by omega)

theorem u_same (e f : Int) (he : 0 ≤ e) (m : AMem)  (K : AV → AMem → Prop) (hK : K (.bool (e == f)) m) : ACalls Tryd.prog 7 [.err 23 e, .int .i64 f] m K := by
  refine acalls_enter Tryd.func7 rfl (by decide) (Nat.le_of_ble_eq_true rfl) ?_
  show AWP _ _ _ _ [(0, .err 23 e), (1, .int .i64 f)] m
  refine awp_reg2_seq [] [0, 1] (by decide) ?_
  intro K1 hK1
  refine ⟨trivial, ?_⟩
  show K1 [(0, .err 23 e), (1, .int .i64 f)] m
  refine hK1 _ _ ?_; clear hK1 K1
  refine awp_seq_k ?_; intro K2 hK2
  refine awp_reg2_seq [] [0, 1, 8] (by decide) ?_
  intro K1 hK1
  refine ⟨trivial, ⟨rfl, rfl⟩, ?_⟩
  show K1 [(0, .err 23 e), (1, .int .i64 f), (8, .bool (e == 0))] m
  refine hK1 _ _ ?_; clear hK1 K1
  refine awp_cond rfl rfl (fun h1 => ?_) (fun h1 => ?_)
  · replace h1 : e = 0 := (eq_of_beq h1)
    refine awp_reg2_seq [] [4] (by decide) ?_
    intro K1 hK1
    refine ⟨trivial, trivial, trivial, ?_⟩
    show K1 [(4, .bool (f == 0))] m
    refine hK1 _ _ ?_; clear hK1 K1
    refine awp_ret ?_
    refine ⟨trivial, m, fun _ _ h => h, ?_⟩
    show K (.bool (f == 0)) m
   
    refine K_eq hK (congrArg AV.bool ?_)
    rw [Bool.eq_iff_iff]; simp; omega
  · replace h1 : e ≠ 0 := (ne_of_beq_false h1)
    refine awp_skip ?_
    refine hK2 _ _ ?_; clear hK2
    refine awp_reg2_seq [] [1, 5, 6] (by decide) ?_
    intro K1 hK1
    refine ⟨trivial, rfl, trivial, (Nat.le_of_ble_eq_true rfl), (Nat.le_of_ble_eq_true rfl), trivial, trivial, ?_⟩
    show K1 [(1, .int .i64 f), (5, .int .i64 e), (6, .bool (!(e == 0)))] m
    refine hK1 _ _ ?_; clear hK1 K1
    refine awp_reg2_seq [] [4] (by decide) ?_
    intro K1 hK1
    suffices key : K1 [(4, .bool (((!(e == 0)) && (decide (0 < f))) && (e == f)))] m by
      refine ⟨trivial, trivial, ?_⟩
      show aopsR _ _ _ _ _ [(17, .bool (!(e == 0))), (16, .bool (!(e == 0))), (1, .int .i64 f), (5, .int .i64 e), (6, .bool (!(e == 0)))] _
      revert key
      cases h2 : (e == 0)
      · replace h2 : e ≠ 0 := (ne_of_beq_false h2)
        intro key
        refine ⟨trivial, trivial, ?_⟩
        refine ⟨trivial, ?_⟩
        show aopsR _ _ _ _ _ [(21, .bool (decide (0 < f))), (20, .bool (decide (0 < f))), (19, .bool (decide (0 < f))), (18, .int .i64 f), (17, .bool true), (16, .bool true), (1, .int .i64 f), (5, .int .i64 e), (6, .bool true)] _
        revert key
        cases h3 : (decide (0 < f))
        · replace h3 : f ≤ 0 := (Int.not_lt.1 (of_decide_eq_false h3))
          intro key
          refine ar_off rfl (ar_off rfl (ar_off rfl ?_))
          refine ⟨trivial, ?_⟩
          exact key
        · replace h3 : 0 < f := (of_decide_eq_true h3)
          intro key
          refine ⟨trivial, trivial, trivial, ?_⟩
          refine ⟨trivial, ?_⟩
          exact key
      · replace h2 : e = 0 := (eq_of_beq h2)
        intro key
        refine ar_off rfl (ar_off rfl ?_)
        refine ⟨trivial, ?_⟩
        refine ar_off rfl (ar_off rfl (ar_off rfl ?_))
        refine ⟨trivial, ?_⟩
        exact key
    refine hK1 _ _ ?_; clear hK1 K1
    refine awp_ret ?_
    refine ⟨trivial, m, fun _ _ h => h, ?_⟩
    show K (.bool (((!(e == 0)) && (decide (0 < f))) && (e == f))) m
   
    refine K_eq hK (congrArg AV.bool ?_)
    rw [Bool.eq_iff_iff]; simp; omega

theorem u_SameNumbers (xs ys : List Int) (hx : xs.length ≤ 140737488355328) (m : AMem)  (K : AV → AMem → Prop) (hK : K (.bool (decide (xs = ys))) m) : ACalls Tryd.prog 8 [.slice false (xs.map intAV), .slice false (ys.map intAV)] m K := by
  refine acalls_enter Tryd.func8 rfl (by decide) (Nat.le_of_ble_eq_true rfl) ?_
  show AWP _ _ _ _ [(0, .slice false (xs.map intAV)), (1, .slice false (ys.map intAV))] m
  refine awp_reg2_seq [] [0, 1] (by decide) ?_
  intro K1 hK1
  refine ⟨trivial, ?_⟩
  show K1 [(0, .slice false (xs.map intAV)), (1, .slice false (ys.map intAV))] m
  refine hK1 _ _ ?_; clear hK1 K1
  refine awp_seq_k ?_; intro K2 hK2
  refine awp_reg2_seq [] [0, 1, 10] (by decide) ?_
  intro K1 hK1
  refine ⟨trivial, ?_⟩
  refine ar_len rfl intAV xs rfl rfl rfl ?_
  refine ⟨trivial, ?_⟩
  refine ar_len rfl intAV ys rfl rfl rfl ?_
  refine ⟨trivial, ?_⟩
  show K1 [(0, .slice false (xs.map intAV)), (1, .slice false (ys.map intAV)), (10, .bool (!((xs.length : Int) == (ys.length : Int))))] m
  refine hK1 _ _ ?_; clear hK1 K1
  refine awp_cond rfl rfl (fun h1 => ?_) (fun h1 => ?_)
  · replace h1 : (xs.length : Int) ≠ (ys.length : Int) := (ne_of_beq_false (bnT h1))
    refine awp_reg2_seq [] [4] (by decide) ?_
    intro K1 hK1
    refine ⟨trivial, ?_⟩
    show K1 [(4, .bool false)] m
    refine hK1 _ _ ?_; clear hK1 K1
    refine awp_ret ?_
    refine ⟨trivial, m, fun _ _ h => h, ?_⟩
    show K (.bool false) m
   
    refine K_eq hK (congrArg AV.bool ?_)
    simp only [decide_eq_false_iff_not]; rintro rfl; omega
  · replace h1 : (xs.length : Int) = (ys.length : Int) := (eq_of_beq (bnF h1))
    refine awp_skip ?_
    refine hK2 _ _ ?_; clear hK2
    refine awp_seq_k ?_; intro K3 hK3
    refine awp_reg2_seq [] [0, 1, 5] (by decide) ?_
    intro K1 hK1
    refine ⟨trivial, ?_⟩
    show K1 [(0, .slice false (xs.map intAV)), (1, .slice false (ys.map intAV)), (5, .int .i64 0)] m
    refine hK1 _ _ ?_; clear hK1 K1
    refine awp_block ?_
    refine awp_keep [0, 1, 5] (by decide) ?_
    refine awp_loop_st (σ := Int) (fun i => [(0, .slice false (xs.map intAV)), (1, .slice false (ys.map intAV)), (5, .int .i64 i)]) (fun _ => m) (fun i => 0 ≤ i ∧ i ≤ xs.length ∧ xs.take i.toNat = ys.take i.toNat) (fun i => xs.length - i.toNat) (0) rfl rfl ?_ ?_
    · show 0 ≤ ((0 : Int)) ∧ ((0 : Int)) ≤ xs.length ∧ xs.take ((0 : Int)).toNat = ys.take ((0 : Int)).toNat
      exact ⟨by omega, by omega, rfl⟩
    · rintro i hI
      replace hI : 0 ≤ i ∧ i ≤ xs.length ∧ xs.take i.toNat = ys.take i.toNat := hI
      show AWP _ _ _ _ [(0, .slice false (xs.map intAV)), (1, .slice false (ys.map intAV)), (5, .int .i64 i)] m
      refine awp_seq_k ?_; intro K4 hK4
      refine awp_reg2_seq [] [0, 1, 5, 14] (by decide) ?_
      intro K1 hK1
      refine ⟨trivial, trivial, ?_⟩
      refine ar_len rfl intAV xs rfl rfl rfl ?_
      refine ⟨trivial, ?_⟩
      show K1 [(0, .slice false (xs.map intAV)), (1, .slice false (ys.map intAV)), (5, .int .i64 i), (14, .bool (decide (i < (xs.length : Int))))] m
      refine hK1 _ _ ?_; clear hK1 K1
      refine awp_cond rfl rfl (fun h2 => ?_) (fun h2 => ?_)
      · replace h2 : i < (xs.length : Int) := (of_decide_eq_true h2)
        refine awp_skip ?_
        refine hK4 _ _ ?_; clear hK4
        refine awp_seq_k ?_; intro K5 hK5
        refine awp_block ?_
        refine awp_draw_seq Tryd.mixed [] [0, 1, 5, 25] (by decide) (by decide) ?_
        intro K1 hK1
        refine ⟨trivial, trivial, ?_⟩
        refine pq_index rfl intAV xs i rfl rfl rfl rfl rfl (by decide) (fun _ => rfl) (by omega) (by omega) ?_
        refine ⟨(apartOk_one rfl rfl (Nat.le_of_ble_eq_true rfl)), trivial, trivial, ?_⟩
        refine pq_index rfl intAV ys i rfl rfl rfl rfl rfl (by decide) (fun _ => rfl) (by omega) (by omega) ?_
        refine ⟨(apartOk_one rfl rfl (Nat.le_of_ble_eq_true rfl)), trivial, ?_⟩
        show K1 [(0, .slice false (xs.map intAV)), (1, .slice false (ys.map intAV)), (5, .int .i64 i), (25, .bool (!((gI xs i) == (gI ys i))))] m
        refine hK1 _ _ ?_; clear hK1 K1
        refine awp_cond rfl rfl (fun h3 => ?_) (fun h3 => ?_)
        · replace h3 : gI xs i ≠ gI ys i := (ne_of_beq_false (bnT h3))
          refine awp_reg2_seq [] [4] (by decide) ?_
          intro K1 hK1
          refine ⟨trivial, ?_⟩
          show K1 [(4, .bool false)] m
          refine hK1 _ _ ?_; clear hK1 K1
          refine awp_ret ?_
          refine ⟨trivial, m, fun _ _ h => h, ?_⟩
          show K (.bool false) m
         
          refine K_eq hK (congrArg AV.bool ?_)
          simp only [decide_eq_false_iff_not]; rintro rfl; simp at h3
        · replace h3 : gI xs i = gI ys i := (eq_of_beq (bnF h3))
          refine awp_skip ?_
          refine hK5 _ _ ?_; clear hK5
          refine awp_reg2 [] [0, 1, 5] (by decide) ?_
          intro K1 hK1
          refine ⟨trivial, ?_⟩
          refine ar_add rfl (a := i) (b := 1) rfl rfl (by omega) (by omega) ?_
          refine ⟨trivial, ?_⟩
          show K1 [(0, .slice false (xs.map intAV)), (1, .slice false (ys.map intAV)), (5, .int .i64 (i + 1))] m
          refine hK1 _ _ ?_; clear hK1 K1
          refine ⟨(i + 1), rfl, rfl, ?_, ?_⟩
          · show 0 ≤ ((i + 1 : Int)) ∧ ((i + 1 : Int)) ≤ xs.length ∧ xs.take ((i + 1 : Int)).toNat = ys.take ((i + 1 : Int)).toNat
            exact ⟨by omega, by omega, take_gI hI.1 h2 (by omega) hI.2.2 h3⟩
          · show xs.length - ((i + 1 : Int)).toNat < xs.length - i.toNat
            omega
      · replace h2 : (xs.length : Int) ≤ i := (Int.not_lt.1 (of_decide_eq_false h2))
        refine awp_exit ?_
        refine hK3 _ _ ?_; clear hK3
        refine awp_reg2_seq [] [4] (by decide) ?_
        intro K1 hK1
        refine ⟨trivial, ?_⟩
        show K1 [(4, .bool true)] m
        refine hK1 _ _ ?_; clear hK1 K1
        refine awp_ret ?_
        refine ⟨trivial, m, fun _ _ h => h, ?_⟩
        show K (.bool true) m
       
        refine K_eq hK (congrArg AV.bool ?_)
        rw [decide_eq_true_eq]; exact take_all h1 (by omega) hI.2.2

theorem u_small16   (m : AMem)  (K : AV → AMem → Prop) (hK : K (.str [49, 54]) m) : ACalls Tryd.prog 102 [.int .i64 16] m K := by
  refine acalls_enter Tryd.func102 rfl (by decide) (Nat.le_of_ble_eq_true rfl) ?_
  show AWP _ _ _ _ [(0, .int .i64 16)] m
  refine awp_reg2_seq [] [0] (by decide) ?_
  intro K1 hK1
  refine ⟨trivial, ?_⟩
  show K1 [(0, .int .i64 16)] m
  refine hK1 _ _ ?_; clear hK1 K1
  refine awp_seq_k ?_; intro K2 hK2
  refine awp_reg2_seq [] [0, 4] (by decide) ?_
  intro K1 hK1
  refine ⟨trivial, trivial, ?_⟩
  show K1 [(0, .int .i64 16), (4, .bool false)] m
  refine hK1 _ _ ?_; clear hK1 K1
  refine awp_cond rfl rfl (fun hcz => ?_) (fun hcz => ?_)
  · cases hcz
  clear hcz
  refine awp_skip ?_
  refine hK2 _ _ ?_; clear hK2
  refine awp_reg2_seq [] [2] (by decide) ?_
  intro K1 hK1
  refine ⟨trivial, ?_⟩
  refine ar_mul rfl (a := 16) (b := 2) rfl rfl (by omega) (by omega) ?_
  refine ⟨trivial, ?_⟩
  refine ar_mul rfl (a := 16) (b := 2) rfl rfl (by omega) (by omega) ?_
  refine ar_add rfl (a := 16 * 2) (b := 2) rfl rfl (by omega) (by omega) ?_
  refine ⟨⟨(by omega), (by omega), (by decide)⟩, trivial, ?_⟩
  show K1 [(2, .str (sub ([48, 48, 48, 49, 48, 50, 48, 51, 48, 52, 48, 53, 48, 54, 48, 55, 48, 56, 48, 57, 49, 48, 49, 49, 49, 50, 49, 51, 49, 52, 49, 53, 49, 54, 49, 55, 49, 56, 49, 57, 50, 48, 50, 49, 50, 50, 50, 51, 50, 52, 50, 53, 50, 54, 50, 55, 50, 56, 50, 57, 51, 48, 51, 49, 51, 50, 51, 51, 51, 52, 51, 53, 51, 54, 51, 55, 51, 56, 51, 57, 52, 48, 52, 49, 52, 50, 52, 51, 52, 52, 52, 53, 52, 54, 52, 55, 52, 56, 52, 57, 53, 48, 53, 49, 53, 50, 53, 51, 53, 52, 53, 53, 53, 54, 53, 55, 53, 56, 53, 57, 54, 48, 54, 49, 54, 50, 54, 51, 54, 52, 54, 53, 54, 54, 54, 55, 54, 56, 54, 57, 55, 48, 55, 49, 55, 50, 55, 51, 55, 52, 55, 53, 55, 54, 55, 55, 55, 56, 55, 57, 56, 48, 56, 49, 56, 50, 56, 51, 56, 52, 56, 53, 56, 54, 56, 55, 56, 56, 56, 57, 57, 48, 57, 49, 57, 50, 57, 51, 57, 52, 57, 53, 57, 54, 57, 55, 57, 56, 57, 57] : List UInt8) (16 * 2) ((16 * 2) + 2)))] m
  refine hK1 _ _ ?_; clear hK1 K1
  refine awp_ret ?_
  refine ⟨trivial, m, fun _ _ h => h, ?_⟩
  show K (.str (sub ([48, 48, 48, 49, 48, 50, 48, 51, 48, 52, 48, 53, 48, 54, 48, 55, 48, 56, 48, 57, 49, 48, 49, 49, 49, 50, 49, 51, 49, 52, 49, 53, 49, 54, 49, 55, 49, 56, 49, 57, 50, 48, 50, 49, 50, 50, 50, 51, 50, 52, 50, 53, 50, 54, 50, 55, 50, 56, 50, 57, 51, 48, 51, 49, 51, 50, 51, 51, 51, 52, 51, 53, 51, 54, 51, 55, 51, 56, 51, 57, 52, 48, 52, 49, 52, 50, 52, 51, 52, 52, 52, 53, 52, 54, 52, 55, 52, 56, 52, 57, 53, 48, 53, 49, 53, 50, 53, 51, 53, 52, 53, 53, 53, 54, 53, 55, 53, 56, 53, 57, 54, 48, 54, 49, 54, 50, 54, 51, 54, 52, 54, 53, 54, 54, 54, 55, 54, 56, 54, 57, 55, 48, 55, 49, 55, 50, 55, 51, 55, 52, 55, 53, 55, 54, 55, 55, 55, 56, 55, 57, 56, 48, 56, 49, 56, 50, 56, 51, 56, 52, 56, 53, 56, 54, 56, 55, 56, 56, 56, 57, 57, 48, 57, 49, 57, 50, 57, 51, 57, 52, 57, 53, 57, 54, 57, 55, 57, 56, 57, 57] : List UInt8) (16 * 2) ((16 * 2) + 2))) m
 
  refine K_eq hK (congrArg AV.str ?_)
  rfl

theorem u_FormatInt16   (m : AMem)  (K : AV → AMem → Prop) (hK : K (.str [49, 54]) m) : ACalls Tryd.prog 82 [.int .i64 16, .int .i64 10] m K := by
  refine acalls_enter Tryd.func82 rfl (by decide) (Nat.le_of_ble_eq_true rfl) ?_
  show AWP _ _ _ _ [(0, .int .i64 16), (1, .int .i64 10)] m
  refine awp_reg2_seq [] [0, 1] (by decide) ?_
  intro K1 hK1
  refine ⟨trivial, ?_⟩
  show K1 [(0, .int .i64 16), (1, .int .i64 10)] m
  refine hK1 _ _ ?_; clear hK1 K1
  refine awp_seq_k ?_; intro K2 hK2
  refine awp_reg2_seq [] [0, 1, 11] (by decide) ?_
  intro K1 hK1
  refine ⟨trivial, trivial, ?_⟩
  show K1 [(0, .int .i64 16), (1, .int .i64 10), (11, .bool true)] m
  refine hK1 _ _ ?_; clear hK1 K1
  refine awp_cond rfl rfl (fun hcz => ?_) (fun hcz => ?_)
  rotate_left; · cases hcz
  clear hcz
  refine awp_seq_k ?_; intro K3 hK3
  refine awp_reg2_seq [] [0, 17] (by decide) ?_
  intro K1 hK1
  suffices key : K1 [(0, .int .i64 16), (17, .bool true)] m by
    refine ⟨trivial, trivial, trivial, trivial, trivial, ?_⟩
    exact key
  refine hK1 _ _ ?_; clear hK1 K1
  refine awp_cond rfl rfl (fun hcz => ?_) (fun hcz => ?_)
  rotate_left; · cases hcz
  clear hcz
  refine awp_reg2_seq [] [4] (by decide) ?_
  intro K1 hK1
  refine ⟨trivial, ?_⟩
  refine u_small16 _ _ ?_
  refine ⟨trivial, ?_⟩
  show K1 [(4, .str ([49, 54] : List UInt8))] m
  refine hK1 _ _ ?_; clear hK1 K1
  refine awp_ret ?_
  refine ⟨trivial, m, fun _ _ h => h, ?_⟩
  show K (.str ([49, 54] : List UInt8)) m
 
  exact hK

theorem u_iItoa16   (m : AMem)  (K : AV → AMem → Prop) (hK : K (.str [49, 54]) m) : ACalls Tryd.prog 70 [.int .i64 16] m K := by
  refine acalls_enter Tryd.func70 rfl (by decide) (Nat.le_of_ble_eq_true rfl) ?_
  show AWP _ _ _ _ [(0, .int .i64 16)] m
  refine awp_reg2_seq [] [0] (by decide) ?_
  intro K1 hK1
  refine ⟨trivial, ?_⟩
  show K1 [(0, .int .i64 16)] m
  refine hK1 _ _ ?_; clear hK1 K1
  refine awp_reg2_seq [] [2] (by decide) ?_
  intro K1 hK1
  refine ⟨trivial, ?_⟩
  refine u_FormatInt16 _ _ ?_
  refine ⟨trivial, ?_⟩
  show K1 [(2, .str ([49, 54] : List UInt8))] m
  refine hK1 _ _ ?_; clear hK1 K1
  refine awp_ret ?_
  refine ⟨trivial, m, fun _ _ h => h, ?_⟩
  show K (.str ([49, 54] : List UInt8)) m
 
  exact hK

theorem u_Itoa16   (m : AMem)  (K : AV → AMem → Prop) (hK : K (.str [49, 54]) m) : ACalls Tryd.prog 45 [.int .i64 16] m K := by
  refine acalls_enter Tryd.func45 rfl (by decide) (Nat.le_of_ble_eq_true rfl) ?_
  show AWP _ _ _ _ [(0, .int .i64 16)] m
  refine awp_reg2_seq [] [0] (by decide) ?_
  intro K1 hK1
  refine ⟨trivial, ?_⟩
  show K1 [(0, .int .i64 16)] m
  refine hK1 _ _ ?_; clear hK1 K1
  refine awp_reg2_seq [] [2] (by decide) ?_
  intro K1 hK1
  refine ⟨trivial, ?_⟩
  refine u_iItoa16 _ _ ?_
  refine ⟨trivial, ?_⟩
  show K1 [(2, .str ([49, 54] : List UInt8))] m
  refine hK1 _ _ ?_; clear hK1 K1
  refine awp_ret ?_
  refine ⟨trivial, m, fun _ _ h => h, ?_⟩
  show K (.str ([49, 54] : List UInt8)) m
 
  exact hK

def numsA : List Int := [40, 12, 6, 60, 1000000000, 8, 8, 6, 4000, 40, 4000, 400, 40, 4, 80, 300]
def numsB : List Int := numsA ++ [0, 1, 2, 3, 4, 5, 1, 2, 3, 4, 1, 2, 3, 4, 5, 6, 7, 8, 9, 10, 1, 2, 3]
def errs16 : List Int := [1, 2, 3, 4, 5, 6, 7, 8, 9, 10, 11, 12, 13, 14, 15, 16]
theorem errs16_get (i : Int) (h0 : 0 ≤ i) (h : i < 16) : gI errs16 i = i + 1 := by
  have k : ∀ n : Nat, n < 16 → gI errs16 (n : Int) = (n : Int) + 1 := by decide
  have := k i.toNat (by omega)
  rwa [Int.toNat_of_nonneg h0] at this
theorem u_Error16   (m : AMem)  (K : AV → AMem → Prop) (hK : K (.str (([119, 97, 118, 101, 119, 114, 105, 103, 104, 116, 58, 32, 101, 114, 114, 111, 114, 32] : List UInt8) ++ ([49, 54] : List UInt8))) m) : ACalls Tryd.prog 9 [.int .i64 16] m K := by
  refine acalls_enter Tryd.func9 rfl (by decide) (Nat.le_of_ble_eq_true rfl) ?_
  show AWP _ _ _ _ [(0, .int .i64 16)] m
  refine awp_reg2_seq [] [0] (by decide) ?_
  intro K1 hK1
  refine ⟨trivial, ?_⟩
  show K1 [(0, .int .i64 16)] m
  refine hK1 _ _ ?_; clear hK1 K1
  refine awp_reg2_seq [] [2] (by decide) ?_
  intro K1 hK1
  refine ⟨trivial, ?_⟩
  refine u_Itoa16 _ _ ?_
  refine ⟨(by (simp only [List.length_append, List.length_cons, List.length_nil]; omega)), trivial, ?_⟩
  show K1 [(2, .str (([119, 97, 118, 101, 119, 114, 105, 103, 104, 116, 58, 32, 101, 114, 114, 111, 114, 32] : List UInt8) ++ ([49, 54] : List UInt8)))] m
  refine hK1 _ _ ?_; clear hK1 K1
  refine awp_ret ?_
  refine ⟨trivial, m, fun _ _ h => h, ?_⟩
  show K (.str (([119, 97, 118, 101, 119, 114, 105, 103, 104, 116, 58, 32, 101, 114, 114, 111, 114, 32] : List UInt8) ++ ([49, 54] : List UInt8))) m
 
  exact hK

set_option maxHeartbeats 8000000 in
theorem u_Names   (m : AMem)  (K : AV → AMem → Prop) (hK : K (.bool true) m) : ACalls Tryd.prog 3 [] m K := by
  have hA : numsA.length = 16 := rfl
  have hE : errs16.length = 16 := rfl
  refine acalls_enter Tryd.func3 rfl (by decide) (Nat.le_of_ble_eq_true rfl) ?_
  show AWP _ _ _ _ [] m
  refine awp_reg2_seq [] [] (by decide) ?_
  intro K1 hK1
  refine ⟨trivial, ?_⟩
  show K1 [] m
  refine hK1 _ _ ?_; clear hK1 K1
  refine awp_reg2_seq [] [1] (by decide) ?_
  intro K1 hK1
  refine ⟨⟨rfl, Nat.le_of_ble_eq_true rfl, rfl, Nat.le_of_ble_eq_true rfl, rfl, by simp only [List.forall_mem_cons]; exact ⟨⟨rfl, rfl⟩, ⟨rfl, rfl⟩, ⟨rfl, rfl⟩, ⟨rfl, rfl⟩, ⟨rfl, rfl⟩, ⟨rfl, rfl⟩, ⟨rfl, rfl⟩, ⟨rfl, rfl⟩, ⟨rfl, rfl⟩, ⟨rfl, rfl⟩, ⟨rfl, rfl⟩, ⟨rfl, rfl⟩, ⟨rfl, rfl⟩, ⟨rfl, rfl⟩, ⟨rfl, rfl⟩, ⟨rfl, rfl⟩, fun _ h => by cases h⟩⟩, trivial, ?_⟩
  show K1 [(1, .slice true [.int .i64 40, .int .i64 12, .int .i64 6, .int .i64 60, .int .i64 1000000000, .int .i64 8, .int .i64 8, .int .i64 6, .int .i64 4000, .int .i64 40, .int .i64 4000, .int .i64 400, .int .i64 40, .int .i64 4, .int .i64 80, .int .i64 300])] m
  refine hK1 _ _ ?_; clear hK1 K1
  
  show AWP _ _ _ _ [(1, .slice true (numsA.map intAV))] m
  refine awp_reg2_seq [] [1, 2] (by decide) ?_
  intro K1 hK1
  refine ⟨⟨rfl, Nat.le_of_ble_eq_true rfl, rfl, Nat.le_of_ble_eq_true rfl, rfl, by simp only [List.forall_mem_cons]; exact ⟨⟨rfl, rfl⟩, ⟨rfl, rfl⟩, ⟨rfl, rfl⟩, ⟨rfl, rfl⟩, ⟨rfl, rfl⟩, ⟨rfl, rfl⟩, ⟨rfl, rfl⟩, ⟨rfl, rfl⟩, ⟨rfl, rfl⟩, ⟨rfl, rfl⟩, ⟨rfl, rfl⟩, ⟨rfl, rfl⟩, ⟨rfl, rfl⟩, ⟨rfl, rfl⟩, ⟨rfl, rfl⟩, ⟨rfl, rfl⟩, fun _ h => by cases h⟩⟩, trivial, ?_⟩
  show K1 [(1, .slice true (numsA.map intAV)), (2, .slice true [.int .i64 40, .int .i64 12, .int .i64 6, .int .i64 60, .int .i64 1000000000, .int .i64 8, .int .i64 8, .int .i64 6, .int .i64 4000, .int .i64 40, .int .i64 4000, .int .i64 400, .int .i64 40, .int .i64 4, .int .i64 80, .int .i64 300])] m
  refine hK1 _ _ ?_; clear hK1 K1
  
  show AWP _ _ _ _ [(1, .slice true (numsA.map intAV)), (2, .slice true (numsA.map intAV))] m
  refine awp_reg2_seq [7] [1, 2] (by decide) ?_
  intro K1 hK1
  refine ⟨trivial, ⟨rfl, Nat.le_of_ble_eq_true rfl, rfl, Nat.le_of_ble_eq_true rfl, rfl, by simp only [List.forall_mem_cons]; exact ⟨⟨rfl, rfl⟩, ⟨rfl, rfl⟩, ⟨rfl, rfl⟩, ⟨rfl, rfl⟩, ⟨rfl, rfl⟩, ⟨rfl, rfl⟩, ⟨rfl, rfl⟩, ⟨rfl, rfl⟩, ⟨rfl, rfl⟩, ⟨rfl, rfl⟩, ⟨rfl, rfl⟩, ⟨rfl, rfl⟩, ⟨rfl, rfl⟩, ⟨rfl, rfl⟩, ⟨rfl, rfl⟩, ⟨rfl, rfl⟩, ⟨rfl, rfl⟩, ⟨rfl, rfl⟩, ⟨rfl, rfl⟩, ⟨rfl, rfl⟩, ⟨rfl, rfl⟩, ⟨rfl, rfl⟩, ⟨rfl, rfl⟩, fun _ h => by cases h⟩⟩, ?_⟩
  refine ar_append rfl intAV numsA ([0, 1, 2, 3, 4, 5, 1, 2, 3, 4, 1, 2, 3, 4, 5, 6, 7, 8, 9, 10, 1, 2, 3] : List Int) rfl rfl rfl rfl rfl rfl (Nat.le_of_ble_eq_true rfl) rfl (by (simp only [show Tryd.prog.bytesOf 3 = 8 from rfl, List.length_append, List.length_cons, List.length_nil]; omega)) (by (first | omega | (simp only [List.length_append, List.length_cons, List.length_nil]; omega))) (fun _ => ⟨rfl, rfl⟩) ?_
  refine ⟨trivial, ?_⟩
  show K1 [(1, .slice true ((numsA ++ ([0, 1, 2, 3, 4, 5, 1, 2, 3, 4, 1, 2, 3, 4, 5, 6, 7, 8, 9, 10, 1, 2, 3] : List Int)).map intAV)), (2, .slice true (numsA.map intAV))] m
  refine hK1 _ _ ?_; clear hK1 K1
  
  show AWP _ _ _ _ [(1, .slice true (numsB.map intAV)), (2, .slice true (numsA.map intAV))] m
  refine awp_reg2_seq [10] [1, 2] (by decide) ?_
  intro K1 hK1
  refine ⟨trivial, ⟨rfl, Nat.le_of_ble_eq_true rfl, rfl, Nat.le_of_ble_eq_true rfl, rfl, by simp only [List.forall_mem_cons]; exact ⟨⟨rfl, rfl⟩, ⟨rfl, rfl⟩, ⟨rfl, rfl⟩, ⟨rfl, rfl⟩, ⟨rfl, rfl⟩, ⟨rfl, rfl⟩, ⟨rfl, rfl⟩, ⟨rfl, rfl⟩, ⟨rfl, rfl⟩, ⟨rfl, rfl⟩, ⟨rfl, rfl⟩, ⟨rfl, rfl⟩, ⟨rfl, rfl⟩, ⟨rfl, rfl⟩, ⟨rfl, rfl⟩, ⟨rfl, rfl⟩, ⟨rfl, rfl⟩, ⟨rfl, rfl⟩, ⟨rfl, rfl⟩, ⟨rfl, rfl⟩, ⟨rfl, rfl⟩, ⟨rfl, rfl⟩, ⟨rfl, rfl⟩, fun _ h => by cases h⟩⟩, ?_⟩
  refine ar_append rfl intAV numsA ([0, 1, 2, 3, 4, 5, 1, 2, 3, 4, 1, 2, 3, 4, 5, 6, 7, 8, 9, 10, 1, 2, 3] : List Int) rfl rfl rfl rfl rfl rfl (Nat.le_of_ble_eq_true rfl) rfl (by (simp only [show Tryd.prog.bytesOf 3 = 8 from rfl, List.length_append, List.length_cons, List.length_nil]; omega)) (by (first | omega | (simp only [List.length_append, List.length_cons, List.length_nil]; omega))) (fun _ => ⟨rfl, rfl⟩) ?_
  refine ⟨trivial, ?_⟩
  show K1 [(1, .slice true (numsB.map intAV)), (2, .slice true ((numsA ++ ([0, 1, 2, 3, 4, 5, 1, 2, 3, 4, 1, 2, 3, 4, 5, 6, 7, 8, 9, 10, 1, 2, 3] : List Int)).map intAV))] m
  refine hK1 _ _ ?_; clear hK1 K1
  
  show AWP _ _ _ _ [(1, .slice true (numsB.map intAV)), (2, .slice true (numsB.map intAV))] m
  refine awp_reg2_seq [] [1, 2, 3] (by decide) ?_
  intro K1 hK1
  refine ⟨trivial, trivial, trivial, trivial, trivial, trivial, trivial, trivial, trivial, trivial, trivial, trivial, trivial, trivial, trivial, trivial, ⟨rfl, Nat.le_of_ble_eq_true rfl, rfl, Nat.le_of_ble_eq_true rfl, rfl, by simp only [List.forall_mem_cons]; exact ⟨⟨rfl, rfl⟩, ⟨rfl, rfl⟩, ⟨rfl, rfl⟩, ⟨rfl, rfl⟩, ⟨rfl, rfl⟩, ⟨rfl, rfl⟩, ⟨rfl, rfl⟩, ⟨rfl, rfl⟩, ⟨rfl, rfl⟩, ⟨rfl, rfl⟩, ⟨rfl, rfl⟩, ⟨rfl, rfl⟩, ⟨rfl, rfl⟩, ⟨rfl, rfl⟩, ⟨rfl, rfl⟩, ⟨rfl, rfl⟩, fun _ h => by cases h⟩⟩, trivial, ?_⟩
  show K1 [(1, .slice true (numsB.map intAV)), (2, .slice true (numsB.map intAV)), (3, .slice true [.iface 23 (.int .i64 1), .iface 23 (.int .i64 2), .iface 23 (.int .i64 3), .iface 23 (.int .i64 4), .iface 23 (.int .i64 5), .iface 23 (.int .i64 6), .iface 23 (.int .i64 7), .iface 23 (.int .i64 8), .iface 23 (.int .i64 9), .iface 23 (.int .i64 10), .iface 23 (.int .i64 11), .iface 23 (.int .i64 12), .iface 23 (.int .i64 13), .iface 23 (.int .i64 14), .iface 23 (.int .i64 15), .iface 23 (.int .i64 16)])] m
  refine hK1 _ _ ?_; clear hK1 K1
  refine awp_mapErr 23 [3] ?_
  show AWP _ _ _ _ [(1, .slice true (numsB.map intAV)), (2, .slice true (numsB.map intAV)), (3, .slice true (errs16.map errAV))] m
  refine awp_seq_k ?_; intro K2 hK2
  refine awp_reg2_seq [] [1, 2, 3, 4] (by decide) ?_
  intro K1 hK1
  refine ⟨trivial, ?_⟩
  show K1 [(1, .slice true (numsB.map intAV)), (2, .slice true (numsB.map intAV)), (3, .slice true (errs16.map errAV)), (4, .int .i64 0)] m
  refine hK1 _ _ ?_; clear hK1 K1
  refine awp_block ?_
  refine awp_keep [1, 2, 3, 4] (by decide) ?_
  refine awp_loop_st (σ := Int) (fun i => [(1, .slice true (numsB.map intAV)), (2, .slice true (numsB.map intAV)), (3, .slice true (errs16.map errAV)), (4, .int .i64 i)]) (fun _ => m) (fun i => 0 ≤ i ∧ i ≤ 16) (fun i => 16 - i.toNat) (0) rfl rfl ?_ ?_
  · show 0 ≤ ((0 : Int)) ∧ ((0 : Int)) ≤ 16
    first | omega | (refine ⟨?_, ?_⟩ <;> first | omega | simp) | simp
  · rintro i hI
    replace hI : 0 ≤ i ∧ i ≤ 16 := hI
    show AWP _ _ _ _ [(1, .slice true (numsB.map intAV)), (2, .slice true (numsB.map intAV)), (3, .slice true (errs16.map errAV)), (4, .int .i64 i)] m
    refine awp_seq_k ?_; intro K3 hK3
    refine awp_reg2_seq [] [1, 2, 3, 4, 33] (by decide) ?_
    intro K1 hK1
    refine ⟨trivial, trivial, ?_⟩
    refine ar_len rfl errAV errs16 rfl rfl rfl ?_
    refine ⟨trivial, ?_⟩
    show K1 [(1, .slice true (numsB.map intAV)), (2, .slice true (numsB.map intAV)), (3, .slice true (errs16.map errAV)), (4, .int .i64 i), (33, .bool (decide (i < (errs16.length : Int))))] m
    refine hK1 _ _ ?_; clear hK1 K1
    refine awp_cond rfl rfl (fun h1 => ?_) (fun h1 => ?_)
    · replace h1 : i < (errs16.length : Int) := (of_decide_eq_true h1)
      refine awp_skip ?_
      refine hK3 _ _ ?_; clear hK3
      refine awp_seq_k ?_; intro K4 hK4
      refine awp_block ?_
      refine awp_reg2_seq [] [1, 2, 3, 4, 43] (by decide) ?_
      intro K1 hK1
      refine ⟨trivial, trivial, ?_⟩
      refine ar_index rfl errAV errs16 i rfl rfl rfl rfl rfl (by decide) (fun _ => rfl) (by omega) (by omega) ?_
      refine ⟨(apartOk_one rfl rfl (Nat.le_of_ble_eq_true rfl)), trivial, ?_⟩
      refine ar_add rfl (a := i) (b := 1) rfl rfl (by omega) (by omega) ?_
      refine u_same (gI errs16 i) (i + 1) (by rw [errs16_get i hI.1 (by omega)]; omega) _ _ ?_
      refine ⟨trivial, ?_⟩
      show K1 [(1, .slice true (numsB.map intAV)), (2, .slice true (numsB.map intAV)), (3, .slice true (errs16.map errAV)), (4, .int .i64 i), (43, .bool (!((gI errs16 i) == (i + 1))))] m
      refine hK1 _ _ ?_; clear hK1 K1
      refine awp_cond rfl rfl (fun h2 => ?_) (fun h2 => ?_)
      · replace h2 : gI errs16 i ≠ i + 1 := (ne_of_beq_false (bnT h2))
        exact absurd (errs16_get i hI.1 (by omega)) h2
      · replace h2 : gI errs16 i = i + 1 := (eq_of_beq (bnF h2))
        refine awp_skip ?_
        refine hK4 _ _ ?_; clear hK4
        refine awp_reg2 [] [1, 2, 3, 4] (by decide) ?_
        intro K1 hK1
        refine ⟨trivial, ?_⟩
        refine ar_add rfl (a := i) (b := 1) rfl rfl (by omega) (by omega) ?_
        refine ⟨trivial, ?_⟩
        show K1 [(1, .slice true (numsB.map intAV)), (2, .slice true (numsB.map intAV)), (3, .slice true (errs16.map errAV)), (4, .int .i64 (i + 1))] m
        refine hK1 _ _ ?_; clear hK1 K1
        refine ⟨(i + 1), rfl, rfl, ?_, ?_⟩
        · show 0 ≤ ((i + 1 : Int)) ∧ ((i + 1 : Int)) ≤ 16
          (first | omega | (simp_all; done) | (simp_all; omega))
        · show 16 - ((i + 1 : Int)).toNat < 16 - i.toNat
          omega
    · replace h1 : (errs16.length : Int) ≤ i := (Int.not_lt.1 (of_decide_eq_false h1))
      refine awp_exit ?_
      refine hK2 _ _ ?_; clear hK2
      refine awp_reg2_seq [] [0] (by decide) ?_
      intro K1 hK1
      suffices key : K1 [(0, .bool ((decide (numsB = numsB)) && ((([119, 97, 118, 101, 119, 114, 105, 103, 104, 116, 58, 32, 101, 114, 114, 111, 114, 32] : List UInt8) ++ ([49, 54] : List UInt8)) == ([119, 97, 118, 101, 119, 114, 105, 103, 104, 116, 58, 32, 101, 114, 114, 111, 114, 32, 49, 54] : List UInt8))))] m by
        refine ⟨trivial, trivial, ?_⟩
        refine u_SameNumbers numsB numsB (by first | omega | decide) _ _ ?_
        refine ⟨trivial, ?_⟩
        show aopsR _ _ _ _ _ [(47, .bool (decide (numsB = numsB))), (46, .bool (decide (numsB = numsB))), (45, .slice false (numsB.map intAV)), (44, .slice false (numsB.map intAV)), (1, .slice true (numsB.map intAV)), (2, .slice true (numsB.map intAV)), (3, .slice true (errs16.map errAV)), (4, .int .i64 i), (33, .bool (decide (i < (errs16.length : Int))))] _
        revert key
        cases h3 : (decide (numsB = numsB))
        · replace h3 : decide (numsB = numsB) = false := h3
          intro key
          refine ar_off rfl (ar_off rfl ?_)
          refine ⟨trivial, ?_⟩
          exact key
        · replace h3 : decide (numsB = numsB) = true := h3
          intro key
          refine u_Error16 _ _ ?_
          refine ⟨trivial, ?_⟩
          refine ⟨trivial, ?_⟩
          exact key
      refine hK1 _ _ ?_; clear hK1 K1
      refine awp_ret ?_
      refine ⟨trivial, m, fun _ _ h => h, ?_⟩
      show K (.bool ((decide (numsB = numsB)) && ((([119, 97, 118, 101, 119, 114, 105, 103, 104, 116, 58, 32, 101, 114, 114, 111, 114, 32] : List UInt8) ++ ([49, 54] : List UInt8)) == ([119, 97, 118, 101, 119, 114, 105, 103, 104, 116, 58, 32, 101, 114, 114, 111, 114, 32, 49, 54] : List UInt8)))) m
     
      exact hK

end Go.Proofs
