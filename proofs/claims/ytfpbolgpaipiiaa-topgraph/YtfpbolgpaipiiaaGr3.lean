import Derived.Test.YtfpbolgpaipiiaaProg
import Derived.Test.YtfpbolgpaipiiaaMix
import Derived.Test.YtfpbolgpaipiiaaWwZ
import Derived.Test.YtfpbolgpaipiiaaGr2
namespace Go.Proofs
open Go Go.Aw
set_option maxRecDepth 100000


theorem wavesF_len (f : Nat) : ∀ needs left lv out, (wavesF f needs left lv out).1.length ≤ out.length + f ∧ ((∀ w ∈ out, w.length ≤ needs.length) → ∀ w ∈ (wavesF f needs left lv out).1, w.length ≤ needs.length) := by
  induction f with
  | zero => intro needs left lv out; exact ⟨by simp [wavesF], fun h => by simpa [wavesF] using h⟩
  | succ f ih =>
    intro needs left lv out
    rw [wavesF]
    split
    · exact ⟨by simp, fun h => h⟩
    · split
      · exact ⟨by simp, fun _ => by simp⟩
      · have := ih needs (left - (waveTo needs lv needs.length).length) (setAll lv (waveTo needs lv needs.length) (out.length + 1 : Nat)) (out ++ [waveTo needs lv needs.length])
        refine ⟨Nat.le_trans this.1 (by simp; omega), fun h => this.2 fun w hw => ?_⟩
        rcases List.mem_append.1 hw with hw | hw
        · exact h w hw
        · simp at hw; subst hw; have := waveTo_len needs lv needs.length; omega
theorem wavesR_len (needs : List (List Int)) : (wavesR needs).1.length ≤ needs.length + 1 ∧ ∀ w ∈ (wavesR needs).1, w.length ≤ needs.length := by
  have := wavesF_len (needs.length + 1) needs needs.length (List.replicate needs.length 0) []
  exact ⟨by simpa [wavesR] using this.1, this.2 (by simp)⟩
theorem flat_len {ls : List (List Int)} {B : Nat} (h : ∀ w ∈ ls, w.length ≤ B) : ls.flatten.length ≤ ls.length * B := by
  induction ls with
  | nil => simp
  | cons x ls ih =>
    have h1 := h x (by simp)
    have h2 := ih (fun w hw => h w (by simp [hw]))
    simp [Nat.succ_mul] at h2 ⊢; omega
theorem flat_take_succ {ls : List (List Int)} {i : Int} (h0 : 0 ≤ i) (hi : i < ls.length) : (ls.take (i + 1).toNat).flatten = (ls.take i.toNat).flatten ++ gI ls i := by
  rw [take_succ_gI h0 hi]; simp

theorem u_Order (g : Nat) (needs : List (List Int)) (hok : okN needs = true) (hn : needs.length ≤ 64) (hl : ∀ l ∈ needs, l.length ≤ 1048576) (m : AMem)  (K : AV → AMem → Prop) (hK : K (.tuple [.slice false ((wavesR needs).1.flatten.map intAV), .err 57 (wavesR needs).2]) (AMem.wth m [(g, .cells [.slice true (needs.map (lstAV intAV))])])) : ACalls Try.prog 13 [.ptr ⟨g, 0, none⟩] (AMem.wth m [(g, .cells [.slice true (needs.map (lstAV intAV))])]) K := by
  have hwl := wavesR_len needs
  refine acalls_enter Try.func13 rfl (by decide) (Nat.le_of_ble_eq_true rfl) ?_
  show AWP _ _ _ _ [(0, .ptr ⟨g, 0, none⟩)] (AMem.wth m [(g, .cells [.slice true (needs.map (lstAV intAV))])])
  refine awp_reg2_seq [] [0] (by decide) ?_
  intro K1 hK1
  refine ⟨trivial, trivial, ?_⟩
  show K1 [(0, .ptr ⟨g, 0, none⟩)] (AMem.wth m [(g, .cells [.slice true (needs.map (lstAV intAV))])])
  refine hK1 _ _ ?_; clear hK1 K1
  refine awp_reg2_seq [] [4, 5] (by decide) ?_
  intro K1 hK1
  refine ⟨trivial, ?_⟩
  refine u_Waves g needs hok hn hl _ _ ?_
  show aopsR _ _ _ _ _ _ (AMem.wth m [(g, .cells [.slice true (needs.map (lstAV intAV))])])
  refine ⟨trivial, (Nat.le_of_ble_eq_true rfl), (Nat.le_of_ble_eq_true rfl), trivial, trivial, ?_⟩
  show K1 [(4, .slice false (((wavesR needs).1).map (lstAV intAV))), (5, .err 57 ((wavesR needs).2))] (AMem.wth m [(g, .cells [.slice true (needs.map (lstAV intAV))])])
  refine hK1 _ _ ?_; clear hK1 K1
  refine awp_reg2_seq [] [4, 5, 6] (by decide) ?_
  intro K1 hK1
  refine ⟨trivial, ?_⟩
  show K1 [(4, .slice false (((wavesR needs).1).map (lstAV intAV))), (5, .err 57 ((wavesR needs).2)), (6, .slice true [])] (AMem.wth m [(g, .cells [.slice true (needs.map (lstAV intAV))])])
  refine hK1 _ _ ?_; clear hK1 K1
  refine awp_seq_k ?_; intro K2 hK2
  refine awp_reg2_seq [] [5, 6, 14, 15, 16] (by decide) ?_
  intro K1 hK1
  refine ⟨trivial, ?_⟩
  refine ar_len rfl (lstAV intAV) ((wavesR needs).1) rfl rfl rfl ?_
  refine ⟨trivial, ?_⟩
  show K1 [(5, .err 57 ((wavesR needs).2)), (6, .slice true []), (14, .slice false (((wavesR needs).1).map (lstAV intAV))), (15, .int .i64 (((wavesR needs).1).length : Int)), (16, .int .i64 0)] (AMem.wth m [(g, .cells [.slice true (needs.map (lstAV intAV))])])
  refine hK1 _ _ ?_; clear hK1 K1
  refine awp_block ?_
  refine awp_keep [5, 6, 14, 15, 16] (by decide) ?_
  refine awp_loop_st (σ := (List Int) × Int) (fun ⟨out, i⟩ => [(5, .err 57 ((wavesR needs).2)), (6, .slice true (out.map intAV)), (14, .slice false (((wavesR needs).1).map (lstAV intAV))), (15, .int .i64 (((wavesR needs).1).length : Int)), (16, .int .i64 i)]) (fun _ => (AMem.wth m [(g, .cells [.slice true (needs.map (lstAV intAV))])])) (fun ⟨out, i⟩ => 0 ≤ i ∧ i ≤ (wavesR needs).1.length ∧ out = ((wavesR needs).1.take i.toNat).flatten) (fun ⟨out, i⟩ => (wavesR needs).1.length - i.toNat) ([], 0) rfl rfl ?_ ?_
  · show 0 ≤ ((0 : Int)) ∧ ((0 : Int)) ≤ (wavesR needs).1.length ∧ (([] : (List Int))) = ((wavesR needs).1.take ((0 : Int)).toNat).flatten
    exact ⟨by omega, by omega, by simp⟩
  · rintro ⟨out, i⟩ hI
    replace hI : 0 ≤ i ∧ i ≤ (wavesR needs).1.length ∧ out = ((wavesR needs).1.take i.toNat).flatten := hI
    show AWP _ _ _ _ [(5, .err 57 ((wavesR needs).2)), (6, .slice true (out.map intAV)), (14, .slice false (((wavesR needs).1).map (lstAV intAV))), (15, .int .i64 (((wavesR needs).1).length : Int)), (16, .int .i64 i)] (AMem.wth m [(g, .cells [.slice true (needs.map (lstAV intAV))])])
    refine awp_reg2_seq [] [5, 6, 14, 15, 16, 17] (by decide) ?_
    intro K1 hK1
    refine ⟨trivial, ?_⟩
    show K1 [(5, .err 57 ((wavesR needs).2)), (6, .slice true (out.map intAV)), (14, .slice false (((wavesR needs).1).map (lstAV intAV))), (15, .int .i64 (((wavesR needs).1).length : Int)), (16, .int .i64 i), (17, .bool (decide (i < (((wavesR needs).1).length : Int))))] (AMem.wth m [(g, .cells [.slice true (needs.map (lstAV intAV))])])
    refine hK1 _ _ ?_; clear hK1 K1
    refine awp_seq_k ?_; intro K3 hK3
    refine awp_cond rfl rfl (fun h1 => ?_) (fun h1 => ?_)
    · replace h1 : i < (((wavesR needs).1).length : Int) := (of_decide_eq_true h1)
      have hb : out.length ≤ 65 * 64 := by
        rw [hI.2.2]
        refine Nat.le_trans (flat_len (B := 64) (fun w hw => Nat.le_trans (hwl.2 w (List.mem_of_mem_take hw)) hn)) (Nat.mul_le_mul_right _ ?_)
        simp; omega
      have hb2 := hwl.2 _ (gI_mem (l := (wavesR needs).1) (i := i) hI.1 h1)
      refine awp_skip ?_
      refine hK3 _ _ ?_; clear hK3
      refine awp_seq_k ?_; intro K4 hK4
      refine awp_block ?_
      refine awp_reg2_seq [] [5, 6, 8, 14, 15, 16] (by decide) ?_
      intro K1 hK1
      refine ar_index rfl (lstAV intAV) ((wavesR needs).1) i rfl rfl rfl rfl rfl (by decide) (fun _ => rfl) (by omega) (by omega) ?_
      refine ⟨(apartOk_one rfl rfl (Nat.le_of_ble_eq_true rfl)), trivial, ?_⟩
      show K1 [(5, .err 57 ((wavesR needs).2)), (6, .slice true (out.map intAV)), (8, .slice false ((gI ((wavesR needs).1) i).map intAV)), (14, .slice false (((wavesR needs).1).map (lstAV intAV))), (15, .int .i64 (((wavesR needs).1).length : Int)), (16, .int .i64 i)] (AMem.wth m [(g, .cells [.slice true (needs.map (lstAV intAV))])])
      refine hK1 _ _ ?_; clear hK1 K1
      refine awp_reg2 [20] [5, 6, 14, 15, 16] (by decide) ?_
      intro K1 hK1
      refine ⟨trivial, trivial, ?_⟩
      refine ar_append rfl intAV out (gI ((wavesR needs).1) i) rfl rfl rfl rfl rfl rfl (Nat.le_of_ble_eq_true rfl) rfl (by (simp only [show Try.prog.bytesOf 3 = 8 from rfl, List.length_append, List.length_cons, List.length_nil]; omega)) (by (first | omega | (simp only [List.length_append, List.length_cons, List.length_nil]; omega))) (fun _ => ⟨rfl, rfl⟩) ?_
      refine ⟨trivial, ?_⟩
      show K1 [(5, .err 57 ((wavesR needs).2)), (6, .slice true ((out ++ (gI ((wavesR needs).1) i)).map intAV)), (14, .slice false (((wavesR needs).1).map (lstAV intAV))), (15, .int .i64 (((wavesR needs).1).length : Int)), (16, .int .i64 i)] (AMem.wth m [(g, .cells [.slice true (needs.map (lstAV intAV))])])
      refine hK1 _ _ ?_; clear hK1 K1
      refine hK4 _ _ ?_; clear hK4
      refine awp_reg2 [] [5, 6, 14, 15, 16] (by decide) ?_
      intro K1 hK1
      refine ar_add rfl (a := i) (b := 1) rfl rfl (by omega) (by omega) ?_
      refine ⟨trivial, ?_⟩
      show K1 [(5, .err 57 ((wavesR needs).2)), (6, .slice true ((out ++ (gI ((wavesR needs).1) i)).map intAV)), (14, .slice false (((wavesR needs).1).map (lstAV intAV))), (15, .int .i64 (((wavesR needs).1).length : Int)), (16, .int .i64 (i + 1))] (AMem.wth m [(g, .cells [.slice true (needs.map (lstAV intAV))])])
      refine hK1 _ _ ?_; clear hK1 K1
      refine ⟨(out ++ (gI ((wavesR needs).1) i), i + 1), rfl, rfl, ?_, ?_⟩
      · show 0 ≤ ((i + 1 : Int)) ∧ ((i + 1 : Int)) ≤ (wavesR needs).1.length ∧ ((out ++ (gI ((wavesR needs).1) i) : (List Int))) = ((wavesR needs).1.take ((i + 1 : Int)).toNat).flatten
        exact ⟨by omega, by omega, by rw [hI.2.2, flat_take_succ hI.1 h1]⟩
      · show (wavesR needs).1.length - ((i + 1 : Int)).toNat < (wavesR needs).1.length - i.toNat
        omega
    · replace h1 : (((wavesR needs).1).length : Int) ≤ i := (Int.not_lt.1 (of_decide_eq_false h1))
      refine awp_exit ?_
      refine hK2 _ _ ?_; clear hK2
      refine awp_reg2_seq [] [2, 3] (by decide) ?_
      intro K1 hK1
      refine ⟨trivial, trivial, trivial, trivial, ?_⟩
      show K1 [(2, .slice false (out.map intAV)), (3, .err 57 ((wavesR needs).2))] (AMem.wth m [(g, .cells [.slice true (needs.map (lstAV intAV))])])
      refine hK1 _ _ ?_; clear hK1 K1
      refine awp_ret ?_
      refine ⟨trivial, trivial, (AMem.wth m [(g, .cells [.slice true (needs.map (lstAV intAV))])]), fun _ _ h => h, ?_⟩
      show K (.tuple [.slice false (out.map intAV), .err 57 ((wavesR needs).2)]) (AMem.wth m [(g, .cells [.slice true (needs.map (lstAV intAV))])])
     
      refine K_eq hK ?_
      rw [hI.2.2, take_full h1]

theorem u_Flat (ls : List (List Int)) (hb : ls.length ≤ 1000) (hB : ∀ w ∈ ls, w.length ≤ 1000) (m : AMem)  (K : AV → AMem → Prop) (hK : K (.slice false (ls.flatten.map intAV)) m) : ACalls Try.prog 16 [.slice false (ls.map (lstAV intAV))] m K := by
  refine acalls_enter Try.func16 rfl (by decide) (Nat.le_of_ble_eq_true rfl) ?_
  show AWP _ _ _ _ [(0, .slice false (ls.map (lstAV intAV)))] m
  refine awp_reg2_seq [] [0] (by decide) ?_
  intro K1 hK1
  refine ⟨trivial, ?_⟩
  show K1 [(0, .slice false (ls.map (lstAV intAV)))] m
  refine hK1 _ _ ?_; clear hK1 K1
  refine awp_reg2_seq [] [0, 3] (by decide) ?_
  intro K1 hK1
  refine ⟨trivial, ?_⟩
  show K1 [(0, .slice false (ls.map (lstAV intAV))), (3, .slice true [])] m
  refine hK1 _ _ ?_; clear hK1 K1
  refine awp_seq_k ?_; intro K2 hK2
  refine awp_reg2_seq [] [0, 3, 4] (by decide) ?_
  intro K1 hK1
  refine ⟨trivial, ?_⟩
  show K1 [(0, .slice false (ls.map (lstAV intAV))), (3, .slice true []), (4, .int .i64 0)] m
  refine hK1 _ _ ?_; clear hK1 K1
  refine awp_block ?_
  refine awp_keep [0, 3, 4] (by decide) ?_
  refine awp_loop_st (σ := (List Int) × Int) (fun ⟨out, i⟩ => [(0, .slice false (ls.map (lstAV intAV))), (3, .slice true (out.map intAV)), (4, .int .i64 i)]) (fun _ => m) (fun ⟨out, i⟩ => 0 ≤ i ∧ i ≤ ls.length ∧ out = (ls.take i.toNat).flatten) (fun ⟨out, i⟩ => ls.length - i.toNat) ([], 0) rfl rfl ?_ ?_
  · show 0 ≤ ((0 : Int)) ∧ ((0 : Int)) ≤ ls.length ∧ (([] : (List Int))) = (ls.take ((0 : Int)).toNat).flatten
    exact ⟨by omega, by omega, by simp⟩
  · rintro ⟨out, i⟩ hI
    replace hI : 0 ≤ i ∧ i ≤ ls.length ∧ out = (ls.take i.toNat).flatten := hI
    show AWP _ _ _ _ [(0, .slice false (ls.map (lstAV intAV))), (3, .slice true (out.map intAV)), (4, .int .i64 i)] m
    refine awp_seq_k ?_; intro K3 hK3
    refine awp_reg2_seq [] [0, 3, 4, 8] (by decide) ?_
    intro K1 hK1
    refine ⟨trivial, trivial, ?_⟩
    refine ar_len rfl (lstAV intAV) ls rfl rfl rfl ?_
    refine ⟨trivial, ?_⟩
    show K1 [(0, .slice false (ls.map (lstAV intAV))), (3, .slice true (out.map intAV)), (4, .int .i64 i), (8, .bool (decide (i < (ls.length : Int))))] m
    refine hK1 _ _ ?_; clear hK1 K1
    refine awp_cond rfl rfl (fun h1 => ?_) (fun h1 => ?_)
    · replace h1 : i < (ls.length : Int) := (of_decide_eq_true h1)
      have hb1 : out.length ≤ 1000 * 1000 := by
        rw [hI.2.2]
        refine Nat.le_trans (flat_len (B := 1000) (fun w hw => hB w (List.mem_of_mem_take hw))) (Nat.mul_le_mul_right _ ?_)
        simp; omega
      have hb2 := hB _ (gI_mem (l := ls) (i := i) hI.1 h1)
      refine awp_skip ?_
      refine hK3 _ _ ?_; clear hK3
      refine awp_seq_k ?_; intro K4 hK4
      refine awp_block ?_
      refine awp_reg2 [11] [0, 3, 4] (by decide) ?_
      intro K1 hK1
      refine ⟨trivial, trivial, trivial, ?_⟩
      refine ar_index rfl (lstAV intAV) ls i rfl rfl rfl rfl rfl (by decide) (fun _ => rfl) (by omega) (by omega) ?_
      refine ⟨(apartOk_one rfl rfl (Nat.le_of_ble_eq_true rfl)), ?_⟩
      refine ar_append rfl intAV out (gI ls i) rfl rfl rfl rfl rfl rfl (Nat.le_of_ble_eq_true rfl) rfl (by (simp only [show Try.prog.bytesOf 3 = 8 from rfl, List.length_append, List.length_cons, List.length_nil]; omega)) (by (first | omega | (simp only [List.length_append, List.length_cons, List.length_nil]; omega))) (fun _ => ⟨rfl, rfl⟩) ?_
      refine ⟨trivial, ?_⟩
      show K1 [(0, .slice false (ls.map (lstAV intAV))), (3, .slice true ((out ++ (gI ls i)).map intAV)), (4, .int .i64 i)] m
      refine hK1 _ _ ?_; clear hK1 K1
      refine hK4 _ _ ?_; clear hK4
      refine awp_reg2 [] [0, 3, 4] (by decide) ?_
      intro K1 hK1
      refine ⟨trivial, ?_⟩
      refine ar_add rfl (a := i) (b := 1) rfl rfl (by omega) (by omega) ?_
      refine ⟨trivial, ?_⟩
      show K1 [(0, .slice false (ls.map (lstAV intAV))), (3, .slice true ((out ++ (gI ls i)).map intAV)), (4, .int .i64 (i + 1))] m
      refine hK1 _ _ ?_; clear hK1 K1
      refine ⟨(out ++ (gI ls i), i + 1), rfl, rfl, ?_, ?_⟩
      · show 0 ≤ ((i + 1 : Int)) ∧ ((i + 1 : Int)) ≤ ls.length ∧ ((out ++ (gI ls i) : (List Int))) = (ls.take ((i + 1 : Int)).toNat).flatten
        exact ⟨by omega, by omega, by rw [hI.2.2, flat_take_succ hI.1 h1]⟩
      · show ls.length - ((i + 1 : Int)).toNat < ls.length - i.toNat
        omega
    · replace h1 : (ls.length : Int) ≤ i := (Int.not_lt.1 (of_decide_eq_false h1))
      refine awp_exit ?_
      refine hK2 _ _ ?_; clear hK2
      refine awp_reg2_seq [] [2] (by decide) ?_
      intro K1 hK1
      refine ⟨trivial, trivial, ?_⟩
      show K1 [(2, .slice false (out.map intAV))] m
      refine hK1 _ _ ?_; clear hK1 K1
      refine awp_ret ?_
      refine ⟨trivial, m, fun _ _ h => h, ?_⟩
      show K (.slice false (out.map intAV)) m
     
      refine K_eq hK ?_
      rw [hI.2.2, take_full h1]

theorem u_SameNumbers (xs ys : List Int) (hx : xs.length ≤ 140737488355328) (m : AMem)  (K : AV → AMem → Prop) (hK : K (.bool (decide (xs = ys))) m) : ACalls Try.prog 15 [.slice false (xs.map intAV), .slice false (ys.map intAV)] m K := by
  refine acalls_enter Try.func15 rfl (by decide) (Nat.le_of_ble_eq_true rfl) ?_
  show AWP _ _ _ _ [(0, .slice false (xs.map intAV)), (1, .slice false (ys.map intAV))] m
  refine awp_reg2_seq [] [0, 1] (by decide) ?_
  intro K1 hK1
  refine ⟨trivial, ?_⟩
  show K1 [(0, .slice false (xs.map intAV)), (1, .slice false (ys.map intAV))] m
  refine hK1 _ _ ?_; clear hK1 K1
  refine awp_seq_k ?_; intro K2 hK2
  refine awp_reg2_seq [] [0, 1, 10] (by decide) ?_
  intro K1 hK1
  refine ⟨trivial, ?_⟩
  refine ar_len rfl intAV xs rfl rfl rfl ?_
  refine ⟨trivial, ?_⟩
  refine ar_len rfl intAV ys rfl rfl rfl ?_
  refine ⟨trivial, ?_⟩
  show K1 [(0, .slice false (xs.map intAV)), (1, .slice false (ys.map intAV)), (10, .bool (!((xs.length : Int) == (ys.length : Int))))] m
  refine hK1 _ _ ?_; clear hK1 K1
  refine awp_cond rfl rfl (fun h1 => ?_) (fun h1 => ?_)
  · replace h1 : (xs.length : Int) ≠ (ys.length : Int) := (ne_of_beq_false (bnT h1))
    refine awp_reg2_seq [] [4] (by decide) ?_
    intro K1 hK1
    refine ⟨trivial, ?_⟩
    show K1 [(4, .bool false)] m
    refine hK1 _ _ ?_; clear hK1 K1
    refine awp_ret ?_
    refine ⟨trivial, m, fun _ _ h => h, ?_⟩
    show K (.bool false) m
   
    refine K_eq hK (congrArg AV.bool ?_)
    simp only [decide_eq_false_iff_not]; rintro rfl; omega
  · replace h1 : (xs.length : Int) = (ys.length : Int) := (eq_of_beq (bnF h1))
    refine awp_skip ?_
    refine hK2 _ _ ?_; clear hK2
    refine awp_seq_k ?_; intro K3 hK3
    refine awp_reg2_seq [] [0, 1, 5] (by decide) ?_
    intro K1 hK1
    refine ⟨trivial, ?_⟩
    show K1 [(0, .slice false (xs.map intAV)), (1, .slice false (ys.map intAV)), (5, .int .i64 0)] m
    refine hK1 _ _ ?_; clear hK1 K1
    refine awp_block ?_
    refine awp_keep [0, 1, 5] (by decide) ?_
    refine awp_loop_st (σ := Int) (fun i => [(0, .slice false (xs.map intAV)), (1, .slice false (ys.map intAV)), (5, .int .i64 i)]) (fun _ => m) (fun i => 0 ≤ i ∧ i ≤ xs.length ∧ xs.take i.toNat = ys.take i.toNat) (fun i => xs.length - i.toNat) (0) rfl rfl ?_ ?_
    · show 0 ≤ ((0 : Int)) ∧ ((0 : Int)) ≤ xs.length ∧ xs.take ((0 : Int)).toNat = ys.take ((0 : Int)).toNat
      exact ⟨by omega, by omega, rfl⟩
    · rintro i hI
      replace hI : 0 ≤ i ∧ i ≤ xs.length ∧ xs.take i.toNat = ys.take i.toNat := hI
      show AWP _ _ _ _ [(0, .slice false (xs.map intAV)), (1, .slice false (ys.map intAV)), (5, .int .i64 i)] m
      refine awp_seq_k ?_; intro K4 hK4
      refine awp_reg2_seq [] [0, 1, 5, 14] (by decide) ?_
      intro K1 hK1
      refine ⟨trivial, trivial, ?_⟩
      refine ar_len rfl intAV xs rfl rfl rfl ?_
      refine ⟨trivial, ?_⟩
      show K1 [(0, .slice false (xs.map intAV)), (1, .slice false (ys.map intAV)), (5, .int .i64 i), (14, .bool (decide (i < (xs.length : Int))))] m
      refine hK1 _ _ ?_; clear hK1 K1
      refine awp_cond rfl rfl (fun h2 => ?_) (fun h2 => ?_)
      · replace h2 : i < (xs.length : Int) := (of_decide_eq_true h2)
        refine awp_skip ?_
        refine hK4 _ _ ?_; clear hK4
        refine awp_seq_k ?_; intro K5 hK5
        refine awp_block ?_
        refine awp_draw_seq Try.mixed [] [0, 1, 5, 25] (by decide) (by decide) ?_
        intro K1 hK1
        refine ⟨trivial, trivial, ?_⟩
        refine pq_index rfl intAV xs i rfl rfl rfl rfl rfl (by decide) (fun _ => rfl) (by omega) (by omega) ?_
        refine ⟨(apartOk_one rfl rfl (Nat.le_of_ble_eq_true rfl)), trivial, trivial, ?_⟩
        refine pq_index rfl intAV ys i rfl rfl rfl rfl rfl (by decide) (fun _ => rfl) (by omega) (by omega) ?_
        refine ⟨(apartOk_one rfl rfl (Nat.le_of_ble_eq_true rfl)), trivial, ?_⟩
        show K1 [(0, .slice false (xs.map intAV)), (1, .slice false (ys.map intAV)), (5, .int .i64 i), (25, .bool (!((gI xs i) == (gI ys i))))] m
        refine hK1 _ _ ?_; clear hK1 K1
        refine awp_cond rfl rfl (fun h3 => ?_) (fun h3 => ?_)
        · replace h3 : gI xs i ≠ gI ys i := (ne_of_beq_false (bnT h3))
          refine awp_reg2_seq [] [4] (by decide) ?_
          intro K1 hK1
          refine ⟨trivial, ?_⟩
          show K1 [(4, .bool false)] m
          refine hK1 _ _ ?_; clear hK1 K1
          refine awp_ret ?_
          refine ⟨trivial, m, fun _ _ h => h, ?_⟩
          show K (.bool false) m
         
          refine K_eq hK (congrArg AV.bool ?_)
          simp only [decide_eq_false_iff_not]; rintro rfl; simp at h3
        · replace h3 : gI xs i = gI ys i := (eq_of_beq (bnF h3))
          refine awp_skip ?_
          refine hK5 _ _ ?_; clear hK5
          refine awp_reg2 [] [0, 1, 5] (by decide) ?_
          intro K1 hK1
          refine ⟨trivial, ?_⟩
          refine ar_add rfl (a := i) (b := 1) rfl rfl (by omega) (by omega) ?_
          refine ⟨trivial, ?_⟩
          show K1 [(0, .slice false (xs.map intAV)), (1, .slice false (ys.map intAV)), (5, .int .i64 (i + 1))] m
          refine hK1 _ _ ?_; clear hK1 K1
          refine ⟨(i + 1), rfl, rfl, ?_, ?_⟩
          · show 0 ≤ ((i + 1 : Int)) ∧ ((i + 1 : Int)) ≤ xs.length ∧ xs.take ((i + 1 : Int)).toNat = ys.take ((i + 1 : Int)).toNat
            exact ⟨by omega, by omega, take_gI hI.1 h2 (by omega) hI.2.2 h3⟩
          · show xs.length - ((i + 1 : Int)).toNat < xs.length - i.toNat
            omega
      · replace h2 : (xs.length : Int) ≤ i := (Int.not_lt.1 (of_decide_eq_false h2))
        refine awp_exit ?_
        refine hK3 _ _ ?_; clear hK3
        refine awp_reg2_seq [] [4] (by decide) ?_
        intro K1 hK1
        refine ⟨trivial, ?_⟩
        show K1 [(4, .bool true)] m
        refine hK1 _ _ ?_; clear hK1 K1
        refine awp_ret ?_
        refine ⟨trivial, m, fun _ _ h => h, ?_⟩
        show K (.bool true) m
       
        refine K_eq hK (congrArg AV.bool ?_)
        rw [decide_eq_true_eq]; exact take_all h1 (by omega) hI.2.2

theorem u_SameLists (xs ys : List (List Int)) (hx : xs.length ≤ 140737488355328) (hB : ∀ w ∈ xs, w.length ≤ 140737488355328) (m : AMem)  (K : AV → AMem → Prop) (hK : K (.bool (decide (xs = ys))) m) : ACalls Try.prog 14 [.slice false (xs.map (lstAV intAV)), .slice false (ys.map (lstAV intAV))] m K := by
  refine acalls_enter Try.func14 rfl (by decide) (Nat.le_of_ble_eq_true rfl) ?_
  show AWP _ _ _ _ [(0, .slice false (xs.map (lstAV intAV))), (1, .slice false (ys.map (lstAV intAV)))] m
  refine awp_reg2_seq [] [0, 1] (by decide) ?_
  intro K1 hK1
  refine ⟨trivial, ?_⟩
  show K1 [(0, .slice false (xs.map (lstAV intAV))), (1, .slice false (ys.map (lstAV intAV)))] m
  refine hK1 _ _ ?_; clear hK1 K1
  refine awp_seq_k ?_; intro K2 hK2
  refine awp_reg2_seq [] [0, 1, 11] (by decide) ?_
  intro K1 hK1
  refine ⟨trivial, ?_⟩
  refine ar_len rfl (lstAV intAV) xs rfl rfl rfl ?_
  refine ⟨trivial, ?_⟩
  refine ar_len rfl (lstAV intAV) ys rfl rfl rfl ?_
  refine ⟨trivial, ?_⟩
  show K1 [(0, .slice false (xs.map (lstAV intAV))), (1, .slice false (ys.map (lstAV intAV))), (11, .bool (!((xs.length : Int) == (ys.length : Int))))] m
  refine hK1 _ _ ?_; clear hK1 K1
  refine awp_cond rfl rfl (fun h1 => ?_) (fun h1 => ?_)
  · replace h1 : (xs.length : Int) ≠ (ys.length : Int) := (ne_of_beq_false (bnT h1))
    refine awp_reg2_seq [] [4] (by decide) ?_
    intro K1 hK1
    refine ⟨trivial, ?_⟩
    show K1 [(4, .bool false)] m
    refine hK1 _ _ ?_; clear hK1 K1
    refine awp_ret ?_
    refine ⟨trivial, m, fun _ _ h => h, ?_⟩
    show K (.bool false) m
   
    refine K_eq hK (congrArg AV.bool ?_)
    simp only [decide_eq_false_iff_not]; rintro rfl; omega
  · replace h1 : (xs.length : Int) = (ys.length : Int) := (eq_of_beq (bnF h1))
    refine awp_skip ?_
    refine hK2 _ _ ?_; clear hK2
    refine awp_seq_k ?_; intro K3 hK3
    refine awp_reg2_seq [] [0, 1, 5] (by decide) ?_
    intro K1 hK1
    refine ⟨trivial, ?_⟩
    show K1 [(0, .slice false (xs.map (lstAV intAV))), (1, .slice false (ys.map (lstAV intAV))), (5, .int .i64 0)] m
    refine hK1 _ _ ?_; clear hK1 K1
    refine awp_block ?_
    refine awp_keep [0, 1, 5] (by decide) ?_
    refine awp_loop_st (σ := Int) (fun i => [(0, .slice false (xs.map (lstAV intAV))), (1, .slice false (ys.map (lstAV intAV))), (5, .int .i64 i)]) (fun _ => m) (fun i => 0 ≤ i ∧ i ≤ xs.length ∧ xs.take i.toNat = ys.take i.toNat) (fun i => xs.length - i.toNat) (0) rfl rfl ?_ ?_
    · show 0 ≤ ((0 : Int)) ∧ ((0 : Int)) ≤ xs.length ∧ xs.take ((0 : Int)).toNat = ys.take ((0 : Int)).toNat
      exact ⟨by omega, by omega, rfl⟩
    · rintro i hI
      replace hI : 0 ≤ i ∧ i ≤ xs.length ∧ xs.take i.toNat = ys.take i.toNat := hI
      show AWP _ _ _ _ [(0, .slice false (xs.map (lstAV intAV))), (1, .slice false (ys.map (lstAV intAV))), (5, .int .i64 i)] m
      refine awp_seq_k ?_; intro K4 hK4
      refine awp_reg2_seq [] [0, 1, 5, 15] (by decide) ?_
      intro K1 hK1
      refine ⟨trivial, trivial, ?_⟩
      refine ar_len rfl (lstAV intAV) xs rfl rfl rfl ?_
      refine ⟨trivial, ?_⟩
      show K1 [(0, .slice false (xs.map (lstAV intAV))), (1, .slice false (ys.map (lstAV intAV))), (5, .int .i64 i), (15, .bool (decide (i < (xs.length : Int))))] m
      refine hK1 _ _ ?_; clear hK1 K1
      refine awp_cond rfl rfl (fun h2 => ?_) (fun h2 => ?_)
      · replace h2 : i < (xs.length : Int) := (of_decide_eq_true h2)
        have hb2 := hB _ (gI_mem (l := xs) (i := i) hI.1 h2)
        refine awp_skip ?_
        refine hK4 _ _ ?_; clear hK4
        refine awp_seq_k ?_; intro K5 hK5
        refine awp_block ?_
        refine awp_draw_seq Try.mixed [(.bool (decide (gI xs i = gI ys i)))] [0, 1, 5, 6] (by decide) (by decide) ?_
        intro K1 hK1
        refine ⟨trivial, trivial, ?_⟩
        refine pq_index rfl (lstAV intAV) xs i rfl rfl rfl rfl rfl (by decide) (fun _ => rfl) (by omega) (by omega) ?_
        refine ⟨(apartOk_one rfl rfl (Nat.le_of_ble_eq_true rfl)), trivial, trivial, ?_⟩
        refine pq_index rfl (lstAV intAV) ys i rfl rfl rfl rfl rfl (by decide) (fun _ => rfl) (by omega) (by omega) ?_
        refine ⟨(apartOk_one rfl rfl (Nat.le_of_ble_eq_true rfl)), (fun Kc hKc => u_SameNumbers (gI xs i) (gI ys i) (by first | omega | assumption) _ Kc hKc), trivial, ?_⟩
        show K1 [(0, .slice false (xs.map (lstAV intAV))), (1, .slice false (ys.map (lstAV intAV))), (5, .int .i64 i), (6, .bool (decide (gI xs i = gI ys i)))] m
        refine hK1 _ _ ?_; clear hK1 K1
        refine awp_reg2_seq [] [0, 1, 5, 28] (by decide) ?_
        intro K1 hK1
        refine ⟨trivial, trivial, ?_⟩
        show K1 [(0, .slice false (xs.map (lstAV intAV))), (1, .slice false (ys.map (lstAV intAV))), (5, .int .i64 i), (28, .bool (!(decide (gI xs i = gI ys i))))] m
        refine hK1 _ _ ?_; clear hK1 K1
        refine awp_cond rfl rfl (fun h3 => ?_) (fun h3 => ?_)
        · replace h3 : decide (gI xs i = gI ys i) = false := (bnT h3)
          refine awp_reg2_seq [] [4] (by decide) ?_
          intro K1 hK1
          refine ⟨trivial, ?_⟩
          show K1 [(4, .bool false)] m
          refine hK1 _ _ ?_; clear hK1 K1
          refine awp_ret ?_
          refine ⟨trivial, m, fun _ _ h => h, ?_⟩
          show K (.bool false) m
         
          refine K_eq hK (congrArg AV.bool ?_)
          simp only [decide_eq_false_iff_not]; rintro rfl; simp at h3
        · replace h3 : decide (gI xs i = gI ys i) = true := (bnF h3)
          refine awp_skip ?_
          refine hK5 _ _ ?_; clear hK5
          refine awp_reg2 [] [0, 1, 5] (by decide) ?_
          intro K1 hK1
          refine ⟨trivial, ?_⟩
          refine ar_add rfl (a := i) (b := 1) rfl rfl (by omega) (by omega) ?_
          refine ⟨trivial, ?_⟩
          show K1 [(0, .slice false (xs.map (lstAV intAV))), (1, .slice false (ys.map (lstAV intAV))), (5, .int .i64 (i + 1))] m
          refine hK1 _ _ ?_; clear hK1 K1
          refine ⟨(i + 1), rfl, rfl, ?_, ?_⟩
          · show 0 ≤ ((i + 1 : Int)) ∧ ((i + 1 : Int)) ≤ xs.length ∧ xs.take ((i + 1 : Int)).toNat = ys.take ((i + 1 : Int)).toNat
            exact ⟨by omega, by omega, take_gI hI.1 h2 (by omega) hI.2.2 (of_decide_eq_true h3)⟩
          · show xs.length - ((i + 1 : Int)).toNat < xs.length - i.toNat
            omega
      · replace h2 : (xs.length : Int) ≤ i := (Int.not_lt.1 (of_decide_eq_false h2))
        refine awp_exit ?_
        refine hK3 _ _ ?_; clear hK3
        refine awp_reg2_seq [] [4] (by decide) ?_
        intro K1 hK1
        refine ⟨trivial, ?_⟩
        show K1 [(4, .bool true)] m
        refine hK1 _ _ ?_; clear hK1 K1
        refine awp_ret ?_
        refine ⟨trivial, m, fun _ _ h => h, ?_⟩
        show K (.bool true) m
       
        refine K_eq hK (congrArg AV.bool ?_)
        rw [decide_eq_true_eq]; exact take_all h1 (by omega) hI.2.2


def sumLen (ls : List (List Int)) : Int := ((ls.map List.length).sum : Nat)
def lightN (needs : List (List Int)) : Bool := decide ((needs.length : Int) ≤ 80) && needs.all (fun l => decide ((l.length : Int) ≤ 100)) && decide (sumLen needs < 500)
theorem sumLen_snoc (ls : List (List Int)) (l : List Int) : sumLen (ls ++ [l]) = sumLen ls + l.length := by simp [sumLen]

theorem u_LightNeeds (needs : List (List Int))  (m : AMem)  (K : AV → AMem → Prop) (hK : K (.bool (lightN needs)) m) : ACalls Try.prog 8 [.slice false (needs.map (lstAV intAV))] m K := by
  refine acalls_enter Try.func8 rfl (by decide) (Nat.le_of_ble_eq_true rfl) ?_
  show AWP _ _ _ _ [(0, .slice false (needs.map (lstAV intAV)))] m
  refine awp_reg2_seq [] [0] (by decide) ?_
  intro K1 hK1
  refine ⟨trivial, ?_⟩
  show K1 [(0, .slice false (needs.map (lstAV intAV)))] m
  refine hK1 _ _ ?_; clear hK1 K1
  refine awp_seq_k ?_; intro K2 hK2
  refine awp_reg2_seq [] [0, 7] (by decide) ?_
  intro K1 hK1
  refine ⟨trivial, ?_⟩
  refine ar_len rfl (lstAV intAV) needs rfl rfl rfl ?_
  refine ⟨trivial, ?_⟩
  show K1 [(0, .slice false (needs.map (lstAV intAV))), (7, .bool (decide (80 < (needs.length : Int))))] m
  refine hK1 _ _ ?_; clear hK1 K1
  refine awp_cond rfl rfl (fun h1 => ?_) (fun h1 => ?_)
  · replace h1 : 80 < (needs.length : Int) := (of_decide_eq_true h1)
    refine awp_reg2_seq [] [2] (by decide) ?_
    intro K1 hK1
    refine ⟨trivial, ?_⟩
    show K1 [(2, .bool false)] m
    refine hK1 _ _ ?_; clear hK1 K1
    refine awp_ret ?_
    refine ⟨trivial, m, fun _ _ h => h, ?_⟩
    show K (.bool false) m
   
    refine K_eq hK (congrArg AV.bool ?_)
    rw [lightN, decide_eq_false (by omega)]; rfl
  · replace h1 : (needs.length : Int) ≤ 80 := (Int.not_lt.1 (of_decide_eq_false h1))
    refine awp_skip ?_
    refine hK2 _ _ ?_; clear hK2
    refine awp_reg2_seq [] [0, 3] (by decide) ?_
    intro K1 hK1
    refine ⟨trivial, ?_⟩
    show K1 [(0, .slice false (needs.map (lstAV intAV))), (3, .int .i64 0)] m
    refine hK1 _ _ ?_; clear hK1 K1
    refine awp_seq_k ?_; intro K3 hK3
    refine awp_reg2_seq [] [0, 3, 4] (by decide) ?_
    intro K1 hK1
    refine ⟨trivial, ?_⟩
    show K1 [(0, .slice false (needs.map (lstAV intAV))), (3, .int .i64 0), (4, .int .i64 0)] m
    refine hK1 _ _ ?_; clear hK1 K1
    refine awp_block ?_
    refine awp_keep [0, 3, 4] (by decide) ?_
    refine awp_loop_st (σ := Int × Int) (fun ⟨n_, i⟩ => [(0, .slice false (needs.map (lstAV intAV))), (3, .int .i64 n_), (4, .int .i64 i)]) (fun _ => m) (fun ⟨n_, i⟩ => 0 ≤ i ∧ i ≤ needs.length ∧ n_ = sumLen (needs.take i.toNat) ∧ 0 ≤ n_ ∧ n_ ≤ 100 * i ∧ (needs.take i.toNat).all (fun l => decide ((l.length : Int) ≤ 100)) = true) (fun ⟨n_, i⟩ => needs.length - i.toNat) (0, 0) rfl rfl ?_ ?_
    · show 0 ≤ ((0 : Int)) ∧ ((0 : Int)) ≤ needs.length ∧ ((0 : Int)) = sumLen (needs.take ((0 : Int)).toNat) ∧ 0 ≤ ((0 : Int)) ∧ ((0 : Int)) ≤ 100 * ((0 : Int)) ∧ (needs.take ((0 : Int)).toNat).all (fun l => decide ((l.length : Int) ≤ 100)) = true
      exact ⟨by omega, by omega, by simp [sumLen], by omega, by omega, by simp⟩
    · rintro ⟨n_, i⟩ hI
      replace hI : 0 ≤ i ∧ i ≤ needs.length ∧ n_ = sumLen (needs.take i.toNat) ∧ 0 ≤ n_ ∧ n_ ≤ 100 * i ∧ (needs.take i.toNat).all (fun l => decide ((l.length : Int) ≤ 100)) = true := hI
      show AWP _ _ _ _ [(0, .slice false (needs.map (lstAV intAV))), (3, .int .i64 n_), (4, .int .i64 i)] m
      refine awp_seq_k ?_; intro K4 hK4
      refine awp_reg2_seq [] [0, 3, 4, 11] (by decide) ?_
      intro K1 hK1
      refine ⟨trivial, trivial, ?_⟩
      refine ar_len rfl (lstAV intAV) needs rfl rfl rfl ?_
      refine ⟨trivial, ?_⟩
      show K1 [(0, .slice false (needs.map (lstAV intAV))), (3, .int .i64 n_), (4, .int .i64 i), (11, .bool (decide (i < (needs.length : Int))))] m
      refine hK1 _ _ ?_; clear hK1 K1
      refine awp_cond rfl rfl (fun h2 => ?_) (fun h2 => ?_)
      · replace h2 : i < (needs.length : Int) := (of_decide_eq_true h2)
        refine awp_skip ?_
        refine hK4 _ _ ?_; clear hK4
        refine awp_seq_k ?_; intro K5 hK5
        refine awp_block ?_
        refine awp_seq_k ?_; intro K6 hK6
        refine awp_reg2_seq [] [0, 3, 4, 19] (by decide) ?_
        intro K1 hK1
        refine ⟨trivial, trivial, ?_⟩
        refine ar_index rfl (lstAV intAV) needs i rfl rfl rfl rfl rfl (by decide) (fun _ => rfl) (by omega) (by omega) ?_
        refine ⟨(apartOk_one rfl rfl (Nat.le_of_ble_eq_true rfl)), ?_⟩
        refine ar_len rfl intAV (gI needs i) rfl rfl rfl ?_
        refine ⟨trivial, ?_⟩
        show K1 [(0, .slice false (needs.map (lstAV intAV))), (3, .int .i64 n_), (4, .int .i64 i), (19, .bool (decide (100 < ((gI needs i).length : Int))))] m
        refine hK1 _ _ ?_; clear hK1 K1
        refine awp_cond rfl rfl (fun h3 => ?_) (fun h3 => ?_)
        · replace h3 : 100 < ((gI needs i).length : Int) := (of_decide_eq_true h3)
          refine awp_reg2_seq [] [2] (by decide) ?_
          intro K1 hK1
          refine ⟨trivial, ?_⟩
          show K1 [(2, .bool false)] m
          refine hK1 _ _ ?_; clear hK1 K1
          refine awp_ret ?_
          refine ⟨trivial, m, fun _ _ h => h, ?_⟩
          show K (.bool false) m
         
          refine K_eq hK (congrArg AV.bool ?_)
          rw [lightN, Bool.and_eq_false_iff]; left; rw [Bool.and_eq_false_iff]; right; rw [Bool.eq_false_iff]; intro hh; have := List.all_eq_true.1 hh _ (gI_mem (l := needs) hI.1 h2); simp at this; omega
        · replace h3 : ((gI needs i).length : Int) ≤ 100 := (Int.not_lt.1 (of_decide_eq_false h3))
          refine awp_skip ?_
          refine hK6 _ _ ?_; clear hK6
          refine awp_reg2 [] [0, 3, 4] (by decide) ?_
          intro K1 hK1
          refine ⟨trivial, trivial, trivial, ?_⟩
          refine ar_index rfl (lstAV intAV) needs i rfl rfl rfl rfl rfl (by decide) (fun _ => rfl) (by omega) (by omega) ?_
          refine ⟨(apartOk_one rfl rfl (Nat.le_of_ble_eq_true rfl)), ?_⟩
          refine ar_len rfl intAV (gI needs i) rfl rfl rfl ?_
          refine ar_add rfl (a := n_) (b := ((gI needs i).length : Int)) rfl rfl (by omega) (by omega) ?_
          refine ⟨trivial, ?_⟩
          show K1 [(0, .slice false (needs.map (lstAV intAV))), (3, .int .i64 (n_ + ((gI needs i).length : Int))), (4, .int .i64 i)] m
          refine hK1 _ _ ?_; clear hK1 K1
          refine hK5 _ _ ?_; clear hK5
          refine awp_reg2 [] [0, 3, 4] (by decide) ?_
          intro K1 hK1
          refine ⟨trivial, ?_⟩
          refine ar_add rfl (a := i) (b := 1) rfl rfl (by omega) (by omega) ?_
          refine ⟨trivial, ?_⟩
          show K1 [(0, .slice false (needs.map (lstAV intAV))), (3, .int .i64 (n_ + ((gI needs i).length : Int))), (4, .int .i64 (i + 1))] m
          refine hK1 _ _ ?_; clear hK1 K1
          refine ⟨(n_ + ((gI needs i).length : Int), i + 1), rfl, rfl, ?_, ?_⟩
          · show 0 ≤ ((i + 1 : Int)) ∧ ((i + 1 : Int)) ≤ needs.length ∧ ((n_ + ((gI needs i).length : Int) : Int)) = sumLen (needs.take ((i + 1 : Int)).toNat) ∧ 0 ≤ ((n_ + ((gI needs i).length : Int) : Int)) ∧ ((n_ + ((gI needs i).length : Int) : Int)) ≤ 100 * ((i + 1 : Int)) ∧ (needs.take ((i + 1 : Int)).toNat).all (fun l => decide ((l.length : Int) ≤ 100)) = true
            exact ⟨by omega, by omega, by rw [take_succ_gI hI.1 h2, sumLen_snoc, hI.2.2.1], by omega, by omega, all_take_succ hI.1 h2 hI.2.2.2.2.2 (by simp; omega)⟩
          · show needs.length - ((i + 1 : Int)).toNat < needs.length - i.toNat
            omega
      · replace h2 : (needs.length : Int) ≤ i := (Int.not_lt.1 (of_decide_eq_false h2))
        refine awp_exit ?_
        refine hK3 _ _ ?_; clear hK3
        refine awp_reg2_seq [] [2] (by decide) ?_
        intro K1 hK1
        refine ⟨trivial, trivial, trivial, ?_⟩
        show K1 [(2, .bool (decide (n_ < 500)))] m
        refine hK1 _ _ ?_; clear hK1 K1
        refine awp_ret ?_
        refine ⟨trivial, m, fun _ _ h => h, ?_⟩
        show K (.bool (decide (n_ < 500))) m
       
        refine K_eq hK (congrArg AV.bool ?_)
        have e := all_of_take h2 hI.2.2.2.2.2
        rw [lightN, e, hI.2.2.1, take_full h2, decide_eq_true (by omega)]; simp

end Go.Proofs
