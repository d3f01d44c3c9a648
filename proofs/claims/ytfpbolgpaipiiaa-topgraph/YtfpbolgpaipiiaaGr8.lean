import Derived.Test.YtfpbolgpaipiiaaProg
import Derived.Test.YtfpbolgpaipiiaaMix
import Derived.Test.YtfpbolgpaipiiaaWwZ
import Derived.Test.YtfpbolgpaipiiaaGr7
namespace Go.Proofs
open Go Go.Aw
set_option maxRecDepth 100000


def waveAt (needs : List (List Int)) (lv : List Int) (w k : Int) : List Int := (upto k).filter fun i => gI lv i == w
theorem waveAt_succ {needs : List (List Int)} {lv : List Int} {w k : Int} (h : 0 ≤ k) : waveAt needs lv w (k + 1) = if gI lv k = w then waveAt needs lv w k ++ [k] else waveAt needs lv w k := by
  rw [waveAt, upto_succ h, List.filter_append]
  by_cases hr : gI lv k = w <;> simp [hr, waveAt]
theorem waveAt_len (needs : List (List Int)) (lv : List Int) (w k : Int) : (waveAt needs lv w k).length ≤ k.toNat := by
  refine Nat.le_trans (List.length_filter_le _ _) ?_
  simp [upto]
theorem groupsTo_len (needs : List (List Int)) (D : Int → Int) (w : Int) : (groupsTo needs D w).length ≤ w.toNat := by
  refine Nat.le_trans (List.length_filter_le _ _) ?_
  simp [upto]
theorem groupsTo_wave {needs : List (List Int)} {lv : List Int} {w : Int} (h : 1 ≤ w) : groupsTo needs (gI lv) w = if waveAt needs lv w needs.length = [] then groupsTo needs (gI lv) (w - 1) else groupsTo needs (gI lv) (w - 1) ++ [waveAt needs lv w needs.length] := by
  have e : w = (w - 1) + 1 := by omega
  have e2 : w - 1 + 1 = w := by omega
  conv => lhs; rw [e]
  rw [groupsTo_succ (by omega), e2]; rfl

set_option maxHeartbeats 2000000 in
theorem u_refWaves (needs : List (List Int)) (hok : okN needs = true) (hn : needs.length ≤ 64) (hl : ∀ w ∈ needs, w.length ≤ 1048576) (m : AMem)  (K : AV → AMem → Prop) (hK : K (.tuple [.slice false ((wavesR needs).1.map (lstAV intAV)), .int .i64 (wavesR needs).2]) m) : ACalls Try.prog 12 [.slice false (needs.map (lstAV intAV))] m K := by
  refine acalls_enter Try.func12 rfl (by decide) (Nat.le_of_ble_eq_true rfl) ?_
  show AWP _ _ _ _ [(0, .slice false (needs.map (lstAV intAV)))] m
  refine awp_reg2_seq [] [0] (by decide) ?_
  intro K1 hK1
  refine ⟨trivial, trivial, ?_⟩
  show K1 [(0, .slice false (needs.map (lstAV intAV)))] m
  refine hK1 _ _ ?_; clear hK1 K1
  refine awp_reg2_seq [] [0, 4] (by decide) ?_
  intro K1 hK1
  refine ⟨trivial, ?_⟩
  refine ar_len rfl (lstAV intAV) needs rfl rfl rfl ?_
  refine ⟨trivial, ?_⟩
  show K1 [(0, .slice false (needs.map (lstAV intAV))), (4, .int .i64 (needs.length : Int))] m
  refine hK1 _ _ ?_; clear hK1 K1
  refine awp_reg2_seq [] [0, 4, 5] (by decide) ?_
  intro K1 hK1
  refine ⟨trivial, ?_⟩
  refine ar_makeSlice rfl (m := m) (L := []) intAV 0 (needs.length : Int) rfl rfl rfl rfl rfl rfl rfl rfl (by omega) (by simp only [show Try.prog.bytesOf 3 = 8 from rfl]; omega) (by omega) ?_
  intro b1 hb1
  have hFb1 : m b1 = none := wth_none (m := m) (L := []) hb1
  have hNb1 : ([b1] : List Nat).Nodup := wth_nodup (m := m) (L := []) hb1 List.nodup_nil
  refine ⟨trivial, ?_⟩
  show K1 [(0, .slice false (needs.map (lstAV intAV))), (4, .int .i64 (needs.length : Int)), (5, .ms ⟨b1, 0, none⟩ (((needs.length : Int)).toNat) (((needs.length : Int)).toNat))] (AMem.wth m [(b1, .cells ((List.replicate ((needs.length : Int)).toNat 0).map intAV))])
  refine hK1 _ _ ?_; clear hK1 K1
  refine awp_seq_k ?_; intro K2 hK2
  refine awp_reg2_seq [] [0, 4, 5, 6] (by decide) ?_
  intro K1 hK1
  refine ⟨trivial, ?_⟩
  show K1 [(0, .slice false (needs.map (lstAV intAV))), (4, .int .i64 (needs.length : Int)), (5, .ms ⟨b1, 0, none⟩ (((needs.length : Int)).toNat) (((needs.length : Int)).toNat)), (6, .int .i64 0)] (AMem.wth m [(b1, .cells ((List.replicate ((needs.length : Int)).toNat 0).map intAV))])
  refine hK1 _ _ ?_; clear hK1 K1
  refine awp_block ?_
  refine awp_keep [0, 4, 5, 6] (by decide) ?_
  refine awp_loop_st (σ := Int × (List Int)) (fun ⟨r, lv⟩ => [(0, .slice false (needs.map (lstAV intAV))), (4, .int .i64 (needs.length : Int)), (5, .ms ⟨b1, 0, none⟩ (((needs.length : Int)).toNat) (((needs.length : Int)).toNat)), (6, .int .i64 r)]) (fun ⟨r, lv⟩ => (AMem.wth m [(b1, .cells (lv.map intAV))])) (fun ⟨r, lv⟩ => 0 ≤ r ∧ r ≤ needs.length + 1 ∧ RI needs lv r 0) (fun ⟨r, lv⟩ => (needs.length + 1) - r.toNat) (0, List.replicate ((needs.length : Int)).toNat 0) rfl rfl ?_ ?_
  · show 0 ≤ ((0 : Int)) ∧ ((0 : Int)) ≤ needs.length + 1 ∧ RI needs ((List.replicate ((needs.length : Int)).toNat 0 : (List Int))) ((0 : Int)) 0
    exact ⟨by omega, by omega, by simpa using RI.start needs⟩
  · rintro ⟨r, lv⟩ hI
    replace hI : 0 ≤ r ∧ r ≤ needs.length + 1 ∧ RI needs lv r 0 := hI
    have hl0 := hI.2.2.len
    show AWP _ _ _ _ [(0, .slice false (needs.map (lstAV intAV))), (4, .int .i64 (needs.length : Int)), (5, .ms ⟨b1, 0, none⟩ (((needs.length : Int)).toNat) (((needs.length : Int)).toNat)), (6, .int .i64 r)] (AMem.wth m [(b1, .cells (lv.map intAV))])
    refine awp_seq_k ?_; intro K3 hK3
    refine awp_reg2_seq [] [0, 4, 5, 6, 20] (by decide) ?_
    intro K1 hK1
    refine ⟨trivial, trivial, trivial, ?_⟩
    show K1 [(0, .slice false (needs.map (lstAV intAV))), (4, .int .i64 (needs.length : Int)), (5, .ms ⟨b1, 0, none⟩ (((needs.length : Int)).toNat) (((needs.length : Int)).toNat)), (6, .int .i64 r), (20, .bool (decide (r ≤ (needs.length : Int))))] (AMem.wth m [(b1, .cells (lv.map intAV))])
    refine hK1 _ _ ?_; clear hK1 K1
    refine awp_cond rfl rfl (fun h1 => ?_) (fun h1 => ?_)
    · replace h1 : r ≤ (needs.length : Int) := (of_decide_eq_true h1)
      refine awp_skip ?_
      refine hK3 _ _ ?_; clear hK3
      refine awp_seq_k ?_; intro K4 hK4
      refine awp_block ?_
      refine awp_reg2_seq [] [0, 4, 5, 6, 7] (by decide) ?_
      intro K1 hK1
      refine ⟨trivial, ?_⟩
      show K1 [(0, .slice false (needs.map (lstAV intAV))), (4, .int .i64 (needs.length : Int)), (5, .ms ⟨b1, 0, none⟩ (((needs.length : Int)).toNat) (((needs.length : Int)).toNat)), (6, .int .i64 r), (7, .int .i64 0)] (AMem.wth m [(b1, .cells (lv.map intAV))])
      refine hK1 _ _ ?_; clear hK1 K1
      refine awp_block ?_
      refine awp_keep [0, 4, 5, 6, 7] (by decide) ?_
      refine awp_loop_st (σ := Int × (List Int)) (fun ⟨i, lv1⟩ => [(0, .slice false (needs.map (lstAV intAV))), (4, .int .i64 (needs.length : Int)), (5, .ms ⟨b1, 0, none⟩ (((needs.length : Int)).toNat) (((needs.length : Int)).toNat)), (6, .int .i64 r), (7, .int .i64 i)]) (fun ⟨i, lv1⟩ => (AMem.wth m [(b1, .cells (lv1.map intAV))])) (fun ⟨i, lv1⟩ => 0 ≤ i ∧ i ≤ needs.length ∧ RI needs lv1 r i) (fun ⟨i, lv1⟩ => needs.length - i.toNat) (0, lv) rfl rfl ?_ ?_
      · show 0 ≤ ((0 : Int)) ∧ ((0 : Int)) ≤ needs.length ∧ RI needs ((lv : (List Int))) r ((0 : Int))
        exact ⟨by omega, by omega, hI.2.2⟩
      · rintro ⟨i, lv1⟩ hI2
        replace hI2 : 0 ≤ i ∧ i ≤ needs.length ∧ RI needs lv1 r i := hI2
        have hl1 := hI2.2.2.len
        show AWP _ _ _ _ [(0, .slice false (needs.map (lstAV intAV))), (4, .int .i64 (needs.length : Int)), (5, .ms ⟨b1, 0, none⟩ (((needs.length : Int)).toNat) (((needs.length : Int)).toNat)), (6, .int .i64 r), (7, .int .i64 i)] (AMem.wth m [(b1, .cells (lv1.map intAV))])
        refine awp_seq_k ?_; intro K5 hK5
        refine awp_reg2_seq [] [0, 4, 5, 6, 7, 25] (by decide) ?_
        intro K1 hK1
        refine ⟨trivial, trivial, trivial, ?_⟩
        show K1 [(0, .slice false (needs.map (lstAV intAV))), (4, .int .i64 (needs.length : Int)), (5, .ms ⟨b1, 0, none⟩ (((needs.length : Int)).toNat) (((needs.length : Int)).toNat)), (6, .int .i64 r), (7, .int .i64 i), (25, .bool (decide (i < (needs.length : Int))))] (AMem.wth m [(b1, .cells (lv1.map intAV))])
        refine hK1 _ _ ?_; clear hK1 K1
        refine awp_cond rfl rfl (fun h2 => ?_) (fun h2 => ?_)
        · replace h2 : i < (needs.length : Int) := (of_decide_eq_true h2)
          have hlj := hl _ (gI_mem (l := needs) (i := i) hI2.1 h2)
          refine awp_skip ?_
          refine hK5 _ _ ?_; clear hK5
          refine awp_seq_k ?_; intro K6 hK6
          refine awp_block ?_
          refine awp_reg2_seq [] [0, 4, 5, 6, 7, 8] (by decide) ?_
          intro K1 hK1
          refine ⟨trivial, ?_⟩
          show K1 [(0, .slice false (needs.map (lstAV intAV))), (4, .int .i64 (needs.length : Int)), (5, .ms ⟨b1, 0, none⟩ (((needs.length : Int)).toNat) (((needs.length : Int)).toNat)), (6, .int .i64 r), (7, .int .i64 i), (8, .int .i64 1)] (AMem.wth m [(b1, .cells (lv1.map intAV))])
          refine hK1 _ _ ?_; clear hK1 K1
          refine awp_seq_k ?_; intro K7 hK7
          refine awp_reg2_seq [] [0, 4, 5, 6, 7, 8, 9] (by decide) ?_
          intro K1 hK1
          refine ⟨trivial, ?_⟩
          show K1 [(0, .slice false (needs.map (lstAV intAV))), (4, .int .i64 (needs.length : Int)), (5, .ms ⟨b1, 0, none⟩ (((needs.length : Int)).toNat) (((needs.length : Int)).toNat)), (6, .int .i64 r), (7, .int .i64 i), (8, .int .i64 1), (9, .int .i64 0)] (AMem.wth m [(b1, .cells (lv1.map intAV))])
          refine hK1 _ _ ?_; clear hK1 K1
          refine awp_block ?_
          refine awp_keep [0, 4, 5, 6, 7, 8, 9] (by decide) ?_
          refine awp_loop_st (σ := Int × Int) (fun ⟨up, k⟩ => [(0, .slice false (needs.map (lstAV intAV))), (4, .int .i64 (needs.length : Int)), (5, .ms ⟨b1, 0, none⟩ (((needs.length : Int)).toNat) (((needs.length : Int)).toNat)), (6, .int .i64 r), (7, .int .i64 i), (8, .int .i64 up), (9, .int .i64 k)]) (fun _ => (AMem.wth m [(b1, .cells (lv1.map intAV))])) (fun ⟨up, k⟩ => 0 ≤ k ∧ k ≤ (gI needs i).length ∧ UI lv1 ((gI needs i).take k.toNat) up ∧ up ≤ needs.length + 1) (fun ⟨up, k⟩ => (gI needs i).length - k.toNat) (1, 0) rfl rfl ?_ ?_
          · show 0 ≤ ((0 : Int)) ∧ ((0 : Int)) ≤ (gI needs i).length ∧ UI lv1 ((gI needs i).take ((0 : Int)).toNat) ((1 : Int)) ∧ ((1 : Int)) ≤ needs.length + 1
            exact ⟨by omega, by omega, by simpa using UI.nil lv1, by omega⟩
          · rintro ⟨up, k⟩ hI3
            replace hI3 : 0 ≤ k ∧ k ≤ (gI needs i).length ∧ UI lv1 ((gI needs i).take k.toNat) up ∧ up ≤ needs.length + 1 := hI3
            show AWP _ _ _ _ [(0, .slice false (needs.map (lstAV intAV))), (4, .int .i64 (needs.length : Int)), (5, .ms ⟨b1, 0, none⟩ (((needs.length : Int)).toNat) (((needs.length : Int)).toNat)), (6, .int .i64 r), (7, .int .i64 i), (8, .int .i64 up), (9, .int .i64 k)] (AMem.wth m [(b1, .cells (lv1.map intAV))])
            refine awp_seq_k ?_; intro K8 hK8
            refine awp_reg2_seq [] [0, 4, 5, 6, 7, 8, 9, 34] (by decide) ?_
            intro K1 hK1
            refine ⟨trivial, trivial, trivial, ?_⟩
            refine ar_index rfl (lstAV intAV) needs i rfl rfl rfl rfl rfl (by decide) (fun _ => rfl) (by omega) (by omega) ?_
            refine ⟨(apartOk_one rfl rfl (Nat.le_of_ble_eq_true rfl)), ?_⟩
            refine ar_len rfl intAV (gI needs i) rfl rfl rfl ?_
            refine ⟨trivial, ?_⟩
            show K1 [(0, .slice false (needs.map (lstAV intAV))), (4, .int .i64 (needs.length : Int)), (5, .ms ⟨b1, 0, none⟩ (((needs.length : Int)).toNat) (((needs.length : Int)).toNat)), (6, .int .i64 r), (7, .int .i64 i), (8, .int .i64 up), (9, .int .i64 k), (34, .bool (decide (k < ((gI needs i).length : Int))))] (AMem.wth m [(b1, .cells (lv1.map intAV))])
            refine hK1 _ _ ?_; clear hK1 K1
            refine awp_cond rfl rfl (fun h3 => ?_) (fun h3 => ?_)
            · replace h3 : k < ((gI needs i).length : Int) := (of_decide_eq_true h3)
              have hg := okN_gI hok hI2.1 h2 hI3.1 h3
              have hr := hI2.2.2.rng _ hg
              refine awp_skip ?_
              refine hK8 _ _ ?_; clear hK8
              refine awp_seq_k ?_; intro K9 hK9
              refine awp_block ?_
              refine awp_reg2 [] [0, 4, 5, 6, 7, 8, 9] (by decide) ?_
              intro K1 hK1
              refine ⟨trivial, trivial, trivial, trivial, ?_⟩
              refine ar_index rfl (lstAV intAV) needs i rfl rfl rfl rfl rfl (by decide) (fun _ => rfl) (by omega) (by omega) ?_
              refine ⟨(apartOk_one rfl rfl (Nat.le_of_ble_eq_true rfl)), trivial, ?_⟩
              refine ar_index rfl intAV (gI needs i) k rfl rfl rfl rfl rfl (by decide) (fun _ => rfl) (by omega) (by omega) ?_
              refine ⟨(apartOk_one rfl rfl (Nat.le_of_ble_eq_true rfl)), ⟨rfl, (by omega), (by omega)⟩, ?_⟩
              refine ar_loadm rfl (m := m) (L := [(b1, .cells (lv1.map intAV))]) intAV lv1 (gI (gI needs i) k) rfl rfl (wth_get (m := m) (L := [(b1, .cells (lv1.map intAV))]) 0 hNb1 rfl) rfl rfl rfl (fun _ => rfl) (by omega) (by omega) ?_
              refine ar_add rfl (a := 1) (b := gI lv1 (gI (gI needs i) k)) rfl rfl (by omega) (by omega) ?_
              refine ⟨trivial, trivial, ?_⟩
              show K1 [(0, .slice false (needs.map (lstAV intAV))), (4, .int .i64 (needs.length : Int)), (5, .ms ⟨b1, 0, none⟩ (((needs.length : Int)).toNat) (((needs.length : Int)).toNat)), (6, .int .i64 r), (7, .int .i64 i), (8, .int .i64 (if 1 + (gI lv1 (gI (gI needs i) k)) > up then 1 + (gI lv1 (gI (gI needs i) k)) else up)), (9, .int .i64 k)] (AMem.wth m [(b1, .cells (lv1.map intAV))])
              refine hK1 _ _ ?_; clear hK1 K1
              refine hK9 _ _ ?_; clear hK9
              refine awp_reg2 [] [0, 4, 5, 6, 7, 8, 9] (by decide) ?_
              intro K1 hK1
              refine ⟨trivial, ?_⟩
              refine ar_add rfl (a := k) (b := 1) rfl rfl (by omega) (by omega) ?_
              refine ⟨trivial, ?_⟩
              show K1 [(0, .slice false (needs.map (lstAV intAV))), (4, .int .i64 (needs.length : Int)), (5, .ms ⟨b1, 0, none⟩ (((needs.length : Int)).toNat) (((needs.length : Int)).toNat)), (6, .int .i64 r), (7, .int .i64 i), (8, .int .i64 (if 1 + (gI lv1 (gI (gI needs i) k)) > up then 1 + (gI lv1 (gI (gI needs i) k)) else up)), (9, .int .i64 (k + 1))] (AMem.wth m [(b1, .cells (lv1.map intAV))])
              refine hK1 _ _ ?_; clear hK1 K1
              refine ⟨(if 1 + (gI lv1 (gI (gI needs i) k)) > up then 1 + (gI lv1 (gI (gI needs i) k)) else up, k + 1), rfl, rfl, ?_, ?_⟩
              · show 0 ≤ ((k + 1 : Int)) ∧ ((k + 1 : Int)) ≤ (gI needs i).length ∧ UI lv1 ((gI needs i).take ((k + 1 : Int)).toNat) ((if 1 + (gI lv1 (gI (gI needs i) k)) > up then 1 + (gI lv1 (gI (gI needs i) k)) else up : Int)) ∧ ((if 1 + (gI lv1 (gI (gI needs i) k)) > up then 1 + (gI lv1 (gI (gI needs i) k)) else up : Int)) ≤ needs.length + 1
                exact ⟨by omega, by omega, by rw [take_succ_gI hI3.1 h3]; exact hI3.2.2.1.snoc hr.1, by split <;> omega⟩
              · show (gI needs i).length - ((k + 1 : Int)).toNat < (gI needs i).length - k.toNat
                omega
            · replace h3 : ((gI needs i).length : Int) ≤ k := (Int.not_lt.1 (of_decide_eq_false h3))
              refine awp_exit ?_
              refine hK7 _ _ ?_; clear hK7
              refine awp_reg2_seq [] [0, 4, 5, 6, 7, 8] (by decide) ?_
              intro K1 hK1
              refine ⟨trivial, trivial, trivial, ⟨rfl, (by omega), (by omega)⟩, ?_⟩
              refine ar_storem rfl 0 (m := m) (L := [(b1, .cells (lv1.map intAV))]) intAV lv1 up i rfl rfl rfl hNb1 rfl rfl rfl rfl rfl rfl (by omega) (by omega) ?_
              show K1 [(0, .slice false (needs.map (lstAV intAV))), (4, .int .i64 (needs.length : Int)), (5, .ms ⟨b1, 0, none⟩ (((needs.length : Int)).toNat) (((needs.length : Int)).toNat)), (6, .int .i64 r), (7, .int .i64 i), (8, .int .i64 up)] (AMem.wth m [(b1, .cells ((lv1.set (i).toNat up).map intAV))])
              refine hK1 _ _ ?_; clear hK1 K1
              refine awp_reg2_seq [] [0, 4, 5, 6, 7, 56] (by decide) ?_
              intro K1 hK1
              refine ⟨trivial, trivial, trivial, ?_⟩
              show K1 [(0, .slice false (needs.map (lstAV intAV))), (4, .int .i64 (needs.length : Int)), (5, .ms ⟨b1, 0, none⟩ (((needs.length : Int)).toNat) (((needs.length : Int)).toNat)), (6, .int .i64 r), (7, .int .i64 i), (56, .bool (decide ((needs.length : Int) < up)))] (AMem.wth m [(b1, .cells ((lv1.set (i).toNat up).map intAV))])
              refine hK1 _ _ ?_; clear hK1 K1
              refine awp_cond rfl rfl (fun h4 => ?_) (fun h4 => ?_)
              · replace h4 : (needs.length : Int) < up := (of_decide_eq_true h4)
                refine awp_reg2_seq [] [2, 3] (by decide) ?_
                intro K1 hK1
                refine ⟨trivial, trivial, ?_⟩
                show K1 [(2, .slice true []), (3, .int .i64 8)] (AMem.wth m [(b1, .cells ((lv1.set (i).toNat up).map intAV))])
                refine hK1 _ _ ?_; clear hK1 K1
                refine awp_ret ?_
                refine ⟨trivial, trivial, m, (wth_sub2 (m := m) [(b1, .cells ((lv1.set (i).toNat up).map intAV))] [] hNb1 (by simp only [List.map_cons, List.map_nil, List.forall_mem_cons]; exact ⟨hFb1, fun _ h => by cases h⟩)), ?_⟩
                show K (.tuple [.slice false [], .int .i64 8]) m
               
                have hu : UI lv1 (gI needs i) up := by rw [← take_full h3]; exact hI3.2.2.1
                have e := wavesR_err hok (hI2.2.2.none hok ⟨hI2.1, h2⟩ hu h4)
                rw [e] at hK; exact hK
              · replace h4 : up ≤ (needs.length : Int) := (Int.not_lt.1 (of_decide_eq_false h4))
                refine awp_skip ?_
                refine hK6 _ _ ?_; clear hK6
                refine awp_reg2 [] [0, 4, 5, 6, 7] (by decide) ?_
                intro K1 hK1
                refine ⟨trivial, ?_⟩
                refine ar_add rfl (a := i) (b := 1) rfl rfl (by omega) (by omega) ?_
                refine ⟨trivial, ?_⟩
                show K1 [(0, .slice false (needs.map (lstAV intAV))), (4, .int .i64 (needs.length : Int)), (5, .ms ⟨b1, 0, none⟩ (((needs.length : Int)).toNat) (((needs.length : Int)).toNat)), (6, .int .i64 r), (7, .int .i64 (i + 1))] (AMem.wth m [(b1, .cells ((lv1.set (i).toNat up).map intAV))])
                refine hK1 _ _ ?_; clear hK1 K1
                refine ⟨(i + 1, lv1.set (i).toNat up), rfl, rfl, ?_, ?_⟩
                · show 0 ≤ ((i + 1 : Int)) ∧ ((i + 1 : Int)) ≤ needs.length ∧ RI needs ((lv1.set (i).toNat up : (List Int))) r ((i + 1 : Int))
                  exact ⟨by omega, by omega, hI2.2.2.step hok ⟨hI2.1, h2⟩ (by rw [← take_full h3]; exact hI3.2.2.1) h4⟩
                · show needs.length - ((i + 1 : Int)).toNat < needs.length - i.toNat
                  omega
        · replace h2 : (needs.length : Int) ≤ i := (Int.not_lt.1 (of_decide_eq_false h2))
          refine awp_exit ?_
          refine hK4 _ _ ?_; clear hK4
          refine awp_reg2 [] [0, 4, 5, 6] (by decide) ?_
          intro K1 hK1
          refine ⟨trivial, ?_⟩
          refine ar_add rfl (a := r) (b := 1) rfl rfl (by omega) (by omega) ?_
          refine ⟨trivial, ?_⟩
          show K1 [(0, .slice false (needs.map (lstAV intAV))), (4, .int .i64 (needs.length : Int)), (5, .ms ⟨b1, 0, none⟩ (((needs.length : Int)).toNat) (((needs.length : Int)).toNat)), (6, .int .i64 (r + 1))] (AMem.wth m [(b1, .cells (lv1.map intAV))])
          refine hK1 _ _ ?_; clear hK1 K1
          refine ⟨(r + 1, lv1), rfl, rfl, ?_, ?_⟩
          · show 0 ≤ ((r + 1 : Int)) ∧ ((r + 1 : Int)) ≤ needs.length + 1 ∧ RI needs ((lv1 : (List Int))) ((r + 1 : Int)) 0
            exact ⟨by omega, by omega, hI2.2.2.round h2⟩
          · show (needs.length + 1) - ((r + 1 : Int)).toNat < (needs.length + 1) - r.toNat
            omega
    · replace h1 : (needs.length : Int) < r := (Int.not_le.1 (of_decide_eq_false h1))
      refine awp_exit ?_
      refine hK2 _ _ ?_; clear hK2
      refine awp_reg2_seq [] [4, 5, 10] (by decide) ?_
      intro K1 hK1
      refine ⟨trivial, ?_⟩
      show K1 [(4, .int .i64 (needs.length : Int)), (5, .ms ⟨b1, 0, none⟩ (((needs.length : Int)).toNat) (((needs.length : Int)).toNat)), (10, .slice true [])] (AMem.wth m [(b1, .cells (lv.map intAV))])
      refine hK1 _ _ ?_; clear hK1 K1
      refine awp_seq_k ?_; intro K10 hK10
      refine awp_reg2_seq [] [4, 5, 10, 11] (by decide) ?_
      intro K1 hK1
      refine ⟨trivial, ?_⟩
      show K1 [(4, .int .i64 (needs.length : Int)), (5, .ms ⟨b1, 0, none⟩ (((needs.length : Int)).toNat) (((needs.length : Int)).toNat)), (10, .slice true []), (11, .int .i64 1)] (AMem.wth m [(b1, .cells (lv.map intAV))])
      refine hK1 _ _ ?_; clear hK1 K1
      refine awp_block ?_
      refine awp_keep [4, 5, 10, 11] (by decide) ?_
      refine awp_loop_st (σ := (List (List Int)) × Int) (fun ⟨out, w⟩ => [(4, .int .i64 (needs.length : Int)), (5, .ms ⟨b1, 0, none⟩ (((needs.length : Int)).toNat) (((needs.length : Int)).toNat)), (10, .slice true (out.map (lstAV intAV))), (11, .int .i64 w)]) (fun _ => (AMem.wth m [(b1, .cells (lv.map intAV))])) (fun ⟨out, w⟩ => 1 ≤ w ∧ w ≤ needs.length + 1 ∧ out = groupsTo needs (gI lv) (w - 1)) (fun ⟨out, w⟩ => (needs.length + 1) - w.toNat) ([], 1) rfl rfl ?_ ?_
      · show 1 ≤ ((1 : Int)) ∧ ((1 : Int)) ≤ needs.length + 1 ∧ (([] : (List (List Int)))) = groupsTo needs (gI lv) (((1 : Int)) - 1)
        exact ⟨by omega, by omega, by simp [groupsTo, upto]⟩
      · rintro ⟨out, w⟩ hI2
        replace hI2 : 1 ≤ w ∧ w ≤ needs.length + 1 ∧ out = groupsTo needs (gI lv) (w - 1) := hI2
        have hog := groupsTo_len needs (gI lv) (w - 1)
        rw [← hI2.2.2] at hog
        show AWP _ _ _ _ [(4, .int .i64 (needs.length : Int)), (5, .ms ⟨b1, 0, none⟩ (((needs.length : Int)).toNat) (((needs.length : Int)).toNat)), (10, .slice true (out.map (lstAV intAV))), (11, .int .i64 w)] (AMem.wth m [(b1, .cells (lv.map intAV))])
        refine awp_seq_k ?_; intro K11 hK11
        refine awp_reg2_seq [] [4, 5, 10, 11, 59] (by decide) ?_
        intro K1 hK1
        refine ⟨trivial, trivial, trivial, ?_⟩
        show K1 [(4, .int .i64 (needs.length : Int)), (5, .ms ⟨b1, 0, none⟩ (((needs.length : Int)).toNat) (((needs.length : Int)).toNat)), (10, .slice true (out.map (lstAV intAV))), (11, .int .i64 w), (59, .bool (decide (w ≤ (needs.length : Int))))] (AMem.wth m [(b1, .cells (lv.map intAV))])
        refine hK1 _ _ ?_; clear hK1 K1
        refine awp_cond rfl rfl (fun h5 => ?_) (fun h5 => ?_)
        · replace h5 : w ≤ (needs.length : Int) := (of_decide_eq_true h5)
          refine awp_skip ?_
          refine hK11 _ _ ?_; clear hK11
          refine awp_seq_k ?_; intro K12 hK12
          refine awp_block ?_
          refine awp_reg2_seq [] [4, 5, 10, 11, 12] (by decide) ?_
          intro K1 hK1
          refine ⟨trivial, ?_⟩
          show K1 [(4, .int .i64 (needs.length : Int)), (5, .ms ⟨b1, 0, none⟩ (((needs.length : Int)).toNat) (((needs.length : Int)).toNat)), (10, .slice true (out.map (lstAV intAV))), (11, .int .i64 w), (12, .slice true [])] (AMem.wth m [(b1, .cells (lv.map intAV))])
          refine hK1 _ _ ?_; clear hK1 K1
          refine awp_seq_k ?_; intro K13 hK13
          refine awp_reg2_seq [] [4, 5, 10, 11, 12, 13] (by decide) ?_
          intro K1 hK1
          refine ⟨trivial, ?_⟩
          show K1 [(4, .int .i64 (needs.length : Int)), (5, .ms ⟨b1, 0, none⟩ (((needs.length : Int)).toNat) (((needs.length : Int)).toNat)), (10, .slice true (out.map (lstAV intAV))), (11, .int .i64 w), (12, .slice true []), (13, .int .i64 0)] (AMem.wth m [(b1, .cells (lv.map intAV))])
          refine hK1 _ _ ?_; clear hK1 K1
          refine awp_block ?_
          refine awp_keep [4, 5, 10, 11, 12, 13] (by decide) ?_
          refine awp_loop_st (σ := (List Int) × Int) (fun ⟨wave, q⟩ => [(4, .int .i64 (needs.length : Int)), (5, .ms ⟨b1, 0, none⟩ (((needs.length : Int)).toNat) (((needs.length : Int)).toNat)), (10, .slice true (out.map (lstAV intAV))), (11, .int .i64 w), (12, .slice true (wave.map intAV)), (13, .int .i64 q)]) (fun _ => (AMem.wth m [(b1, .cells (lv.map intAV))])) (fun ⟨wave, q⟩ => 0 ≤ q ∧ q ≤ needs.length ∧ wave = waveAt needs lv w q) (fun ⟨wave, q⟩ => needs.length - q.toNat) ([], 0) rfl rfl ?_ ?_
          · show 0 ≤ ((0 : Int)) ∧ ((0 : Int)) ≤ needs.length ∧ (([] : (List Int))) = waveAt needs lv w ((0 : Int))
            exact ⟨by omega, by omega, by simp [waveAt, upto]⟩
          · rintro ⟨wave, q⟩ hI3
            replace hI3 : 0 ≤ q ∧ q ≤ needs.length ∧ wave = waveAt needs lv w q := hI3
            have hwl := waveAt_len needs lv w q
            rw [← hI3.2.2] at hwl
            show AWP _ _ _ _ [(4, .int .i64 (needs.length : Int)), (5, .ms ⟨b1, 0, none⟩ (((needs.length : Int)).toNat) (((needs.length : Int)).toNat)), (10, .slice true (out.map (lstAV intAV))), (11, .int .i64 w), (12, .slice true (wave.map intAV)), (13, .int .i64 q)] (AMem.wth m [(b1, .cells (lv.map intAV))])
            refine awp_seq_k ?_; intro K14 hK14
            refine awp_reg2_seq [] [4, 5, 10, 11, 12, 13, 64] (by decide) ?_
            intro K1 hK1
            refine ⟨trivial, trivial, trivial, ?_⟩
            show K1 [(4, .int .i64 (needs.length : Int)), (5, .ms ⟨b1, 0, none⟩ (((needs.length : Int)).toNat) (((needs.length : Int)).toNat)), (10, .slice true (out.map (lstAV intAV))), (11, .int .i64 w), (12, .slice true (wave.map intAV)), (13, .int .i64 q), (64, .bool (decide (q < (needs.length : Int))))] (AMem.wth m [(b1, .cells (lv.map intAV))])
            refine hK1 _ _ ?_; clear hK1 K1
            refine awp_cond rfl rfl (fun h6 => ?_) (fun h6 => ?_)
            · replace h6 : q < (needs.length : Int) := (of_decide_eq_true h6)
              refine awp_skip ?_
              refine hK14 _ _ ?_; clear hK14
              refine awp_seq_k ?_; intro K15 hK15
              refine awp_block ?_
              refine awp_reg2_seq [] [4, 5, 10, 11, 12, 13, 72] (by decide) ?_
              intro K1 hK1
              refine ⟨trivial, trivial, ⟨rfl, (by omega), (by omega)⟩, ?_⟩
              refine ar_loadm rfl (m := m) (L := [(b1, .cells (lv.map intAV))]) intAV lv q rfl rfl (wth_get (m := m) (L := [(b1, .cells (lv.map intAV))]) 0 hNb1 rfl) rfl rfl rfl (fun _ => rfl) (by omega) (by omega) ?_
              refine ⟨trivial, trivial, ?_⟩
              show K1 [(4, .int .i64 (needs.length : Int)), (5, .ms ⟨b1, 0, none⟩ (((needs.length : Int)).toNat) (((needs.length : Int)).toNat)), (10, .slice true (out.map (lstAV intAV))), (11, .int .i64 w), (12, .slice true (wave.map intAV)), (13, .int .i64 q), (72, .bool ((gI lv q) == w))] (AMem.wth m [(b1, .cells (lv.map intAV))])
              refine hK1 _ _ ?_; clear hK1 K1
              refine awp_cond rfl rfl (fun h7 => ?_) (fun h7 => ?_)
              · replace h7 : gI lv q = w := (eq_of_beq h7)
                refine awp_reg2 [73] [4, 5, 10, 11, 12, 13] (by decide) ?_
                intro K1 hK1
                refine ⟨trivial, trivial, ⟨rfl, Nat.le_of_ble_eq_true rfl, rfl, Nat.le_of_ble_eq_true rfl, rfl, by simp only [List.forall_mem_cons]; exact ⟨⟨rfl, rfl⟩, fun _ h => by cases h⟩⟩, ?_⟩
                refine ar_append rfl intAV wave ([q] : List Int) rfl rfl rfl rfl rfl rfl (Nat.le_of_ble_eq_true rfl) rfl (by (simp only [show Try.prog.bytesOf 3 = 8 from rfl, List.length_append, List.length_cons, List.length_nil]; omega)) (by (first | omega | (simp only [List.length_append, List.length_cons, List.length_nil]; omega))) (fun _ => ⟨rfl, rfl⟩) ?_
                refine ⟨trivial, ?_⟩
                show K1 [(4, .int .i64 (needs.length : Int)), (5, .ms ⟨b1, 0, none⟩ (((needs.length : Int)).toNat) (((needs.length : Int)).toNat)), (10, .slice true (out.map (lstAV intAV))), (11, .int .i64 w), (12, .slice true ((wave ++ ([q] : List Int)).map intAV)), (13, .int .i64 q)] (AMem.wth m [(b1, .cells (lv.map intAV))])
                refine hK1 _ _ ?_; clear hK1 K1
                refine hK15 _ _ ?_; clear hK15
                refine awp_reg2 [] [4, 5, 10, 11, 12, 13] (by decide) ?_
                intro K1 hK1
                refine ⟨trivial, ?_⟩
                refine ar_add rfl (a := q) (b := 1) rfl rfl (by omega) (by omega) ?_
                refine ⟨trivial, ?_⟩
                show K1 [(4, .int .i64 (needs.length : Int)), (5, .ms ⟨b1, 0, none⟩ (((needs.length : Int)).toNat) (((needs.length : Int)).toNat)), (10, .slice true (out.map (lstAV intAV))), (11, .int .i64 w), (12, .slice true ((wave ++ ([q] : List Int)).map intAV)), (13, .int .i64 (q + 1))] (AMem.wth m [(b1, .cells (lv.map intAV))])
                refine hK1 _ _ ?_; clear hK1 K1
                refine ⟨(wave ++ ([q] : List Int), q + 1), rfl, rfl, ?_, ?_⟩
                · show 0 ≤ ((q + 1 : Int)) ∧ ((q + 1 : Int)) ≤ needs.length ∧ ((wave ++ ([q] : List Int) : (List Int))) = waveAt needs lv w ((q + 1 : Int))
                  exact ⟨by omega, by omega, by rw [waveAt_succ hI3.1, if_pos h7, ← hI3.2.2]⟩
                · show needs.length - ((q + 1 : Int)).toNat < needs.length - q.toNat
                  omega
              · replace h7 : gI lv q ≠ w := (ne_of_beq_false h7)
                refine awp_skip ?_
                refine hK15 _ _ ?_; clear hK15
                refine awp_reg2 [] [4, 5, 10, 11, 12, 13] (by decide) ?_
                intro K1 hK1
                refine ⟨trivial, ?_⟩
                refine ar_add rfl (a := q) (b := 1) rfl rfl (by omega) (by omega) ?_
                refine ⟨trivial, ?_⟩
                show K1 [(4, .int .i64 (needs.length : Int)), (5, .ms ⟨b1, 0, none⟩ (((needs.length : Int)).toNat) (((needs.length : Int)).toNat)), (10, .slice true (out.map (lstAV intAV))), (11, .int .i64 w), (12, .slice true (wave.map intAV)), (13, .int .i64 (q + 1))] (AMem.wth m [(b1, .cells (lv.map intAV))])
                refine hK1 _ _ ?_; clear hK1 K1
                refine ⟨(wave, q + 1), rfl, rfl, ?_, ?_⟩
                · show 0 ≤ ((q + 1 : Int)) ∧ ((q + 1 : Int)) ≤ needs.length ∧ wave = waveAt needs lv w ((q + 1 : Int))
                  exact ⟨by omega, by omega, by rw [waveAt_succ hI3.1, if_neg h7, ← hI3.2.2]⟩
                · show needs.length - ((q + 1 : Int)).toNat < needs.length - q.toNat
                  omega
            · replace h6 : (needs.length : Int) ≤ q := (Int.not_lt.1 (of_decide_eq_false h6))
              refine awp_exit ?_
              refine hK13 _ _ ?_; clear hK13
              refine awp_reg2_seq [] [4, 5, 10, 11, 12, 79] (by decide) ?_
              intro K1 hK1
              refine ⟨trivial, ?_⟩
              refine ar_len rfl intAV wave rfl rfl rfl ?_
              refine ⟨trivial, ?_⟩
              show K1 [(4, .int .i64 (needs.length : Int)), (5, .ms ⟨b1, 0, none⟩ (((needs.length : Int)).toNat) (((needs.length : Int)).toNat)), (10, .slice true (out.map (lstAV intAV))), (11, .int .i64 w), (12, .slice true (wave.map intAV)), (79, .bool (decide (0 < (wave.length : Int))))] (AMem.wth m [(b1, .cells (lv.map intAV))])
              refine hK1 _ _ ?_; clear hK1 K1
              refine awp_cond rfl rfl (fun h8 => ?_) (fun h8 => ?_)
              · replace h8 : 0 < (wave.length : Int) := (of_decide_eq_true h8)
                refine awp_reg2 [80] [4, 5, 10, 11] (by decide) ?_
                intro K1 hK1
                refine ⟨trivial, trivial, ⟨rfl, Nat.le_of_ble_eq_true rfl, rfl, Nat.le_of_ble_eq_true rfl, rfl, by simp only [List.forall_mem_cons]; exact ⟨⟨rfl, rfl⟩, fun _ h => by cases h⟩⟩, ?_⟩
                refine ar_append rfl (lstAV intAV) out ([wave] : List (List Int)) rfl rfl rfl rfl rfl rfl (Nat.le_of_ble_eq_true rfl) rfl (by (simp only [show Try.prog.bytesOf 23 = 24 from rfl, List.length_append, List.length_cons, List.length_nil]; omega)) (by (first | omega | (simp only [List.length_append, List.length_cons, List.length_nil]; omega))) (fun _ => ⟨rfl, rfl⟩) ?_
                refine ⟨trivial, ?_⟩
                show K1 [(4, .int .i64 (needs.length : Int)), (5, .ms ⟨b1, 0, none⟩ (((needs.length : Int)).toNat) (((needs.length : Int)).toNat)), (10, .slice true ((out ++ ([wave] : List (List Int))).map (lstAV intAV))), (11, .int .i64 w)] (AMem.wth m [(b1, .cells (lv.map intAV))])
                refine hK1 _ _ ?_; clear hK1 K1
                refine hK12 _ _ ?_; clear hK12
                refine awp_reg2 [] [4, 5, 10, 11] (by decide) ?_
                intro K1 hK1
                refine ⟨trivial, ?_⟩
                refine ar_add rfl (a := w) (b := 1) rfl rfl (by omega) (by omega) ?_
                refine ⟨trivial, ?_⟩
                show K1 [(4, .int .i64 (needs.length : Int)), (5, .ms ⟨b1, 0, none⟩ (((needs.length : Int)).toNat) (((needs.length : Int)).toNat)), (10, .slice true ((out ++ ([wave] : List (List Int))).map (lstAV intAV))), (11, .int .i64 (w + 1))] (AMem.wth m [(b1, .cells (lv.map intAV))])
                refine hK1 _ _ ?_; clear hK1 K1
                refine ⟨(out ++ ([wave] : List (List Int)), w + 1), rfl, rfl, ?_, ?_⟩
                · show 1 ≤ ((w + 1 : Int)) ∧ ((w + 1 : Int)) ≤ needs.length + 1 ∧ ((out ++ ([wave] : List (List Int)) : (List (List Int)))) = groupsTo needs (gI lv) (((w + 1 : Int)) - 1)
                  have e : q = needs.length := by omega
                  have e2 : w + 1 - 1 = w := by omega
                  rw [e] at hI3
                  exact ⟨by omega, by omega, by rw [e2, groupsTo_wave hI2.1, ← hI3.2.2, if_neg (by intro h0; rw [h0] at h8; simp at h8), ← hI2.2.2]⟩
                · show (needs.length + 1) - ((w + 1 : Int)).toNat < (needs.length + 1) - w.toNat
                  omega
              · replace h8 : (wave.length : Int) ≤ 0 := (Int.not_lt.1 (of_decide_eq_false h8))
                refine awp_skip ?_
                refine hK12 _ _ ?_; clear hK12
                refine awp_reg2 [] [4, 5, 10, 11] (by decide) ?_
                intro K1 hK1
                refine ⟨trivial, ?_⟩
                refine ar_add rfl (a := w) (b := 1) rfl rfl (by omega) (by omega) ?_
                refine ⟨trivial, ?_⟩
                show K1 [(4, .int .i64 (needs.length : Int)), (5, .ms ⟨b1, 0, none⟩ (((needs.length : Int)).toNat) (((needs.length : Int)).toNat)), (10, .slice true (out.map (lstAV intAV))), (11, .int .i64 (w + 1))] (AMem.wth m [(b1, .cells (lv.map intAV))])
                refine hK1 _ _ ?_; clear hK1 K1
                refine ⟨(out, w + 1), rfl, rfl, ?_, ?_⟩
                · show 1 ≤ ((w + 1 : Int)) ∧ ((w + 1 : Int)) ≤ needs.length + 1 ∧ out = groupsTo needs (gI lv) (((w + 1 : Int)) - 1)
                  have e : q = needs.length := by omega
                  have e2 : w + 1 - 1 = w := by omega
                  rw [e] at hI3
                  exact ⟨by omega, by omega, by rw [e2, groupsTo_wave hI2.1, ← hI3.2.2, if_pos (List.length_eq_zero_iff.1 (by omega)), ← hI2.2.2]⟩
                · show (needs.length + 1) - ((w + 1 : Int)).toNat < (needs.length + 1) - w.toNat
                  omega
        · replace h5 : (needs.length : Int) < w := (Int.not_le.1 (of_decide_eq_false h5))
          refine awp_exit ?_
          refine hK10 _ _ ?_; clear hK10
          refine awp_reg2_seq [] [2, 3] (by decide) ?_
          intro K1 hK1
          refine ⟨trivial, trivial, trivial, ?_⟩
          show K1 [(2, .slice false (out.map (lstAV intAV))), (3, .int .i64 0)] (AMem.wth m [(b1, .cells (lv.map intAV))])
          refine hK1 _ _ ?_; clear hK1 K1
          refine awp_ret ?_
          refine ⟨trivial, trivial, m, (wth_sub2 (m := m) [(b1, .cells (lv.map intAV))] [] hNb1 (by simp only [List.map_cons, List.map_nil, List.forall_mem_cons]; exact ⟨hFb1, fun _ h => by cases h⟩)), ?_⟩
          show K (.tuple [.slice false (out.map (lstAV intAV)), .int .i64 0]) m
         
          have e : w - 1 = needs.length := by omega
          rw [wavesR_ok hok hI.2.2 h1, ← e, ← hI2.2.2] at hK; exact hK

end Go.Proofs
