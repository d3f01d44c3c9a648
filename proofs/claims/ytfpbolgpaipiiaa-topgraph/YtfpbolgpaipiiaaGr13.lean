import Derived.Test.YtfpbolgpaipiiaaProg
import Derived.Test.YtfpbolgpaipiiaaMix
import Derived.Test.YtfpbolgpaipiiaaWxc
import Derived.Test.YtfpbolgpaipiiaaGr12
namespace Go.Proofs
open Go Go.Aw
set_option maxRecDepth 100000

theorem u_number (e : Int)  (m : AMem)  (K : AV → AMem → Prop) (hK : K (.int .i64 e) m) : ACalls Try.prog 24 [.err 57 e] m K := by
  refine acalls_enter Try.func24 rfl (by decide) (Nat.le_of_ble_eq_true rfl) ?_
  show AWP _ _ _ _ [(0, .err 57 e)] m
  refine awp_reg2_seq [] [0] (by decide) ?_
  intro K1 hK1
  refine ⟨trivial, ?_⟩
  show K1 [(0, .err 57 e)] m
  refine hK1 _ _ ?_; clear hK1 K1
  refine awp_seq_k ?_; intro K2 hK2
  refine awp_reg2_seq [] [0, 6] (by decide) ?_
  intro K1 hK1
  refine ⟨trivial, ⟨rfl, rfl⟩, ?_⟩
  show K1 [(0, .err 57 e), (6, .bool (e == 0))] m
  refine hK1 _ _ ?_; clear hK1 K1
  refine awp_cond rfl rfl (fun h1 => ?_) (fun h1 => ?_)
  · replace h1 : e = 0 := (eq_of_beq h1)
    refine awp_reg2_seq [] [2] (by decide) ?_
    intro K1 hK1
    refine ⟨trivial, ?_⟩
    show K1 [(2, .int .i64 0)] m
    refine hK1 _ _ ?_; clear hK1 K1
    refine awp_ret ?_
    refine ⟨trivial, m, fun _ _ h => h, ?_⟩
    show K (.int .i64 0) m
   
    refine K_eq hK (congrArg (AV.int .i64) ?_)
    rw [h1]
  · replace h1 : e ≠ 0 := (ne_of_beq_false h1)
    refine awp_skip ?_
    refine hK2 _ _ ?_; clear hK2
    refine awp_reg2_seq [] [3, 4] (by decide) ?_
    intro K1 hK1
    refine ⟨trivial, rfl, trivial, (Nat.le_of_ble_eq_true rfl), (Nat.le_of_ble_eq_true rfl), trivial, trivial, ?_⟩
    show K1 [(3, .int .i64 e), (4, .bool (!(e == 0)))] m
    refine hK1 _ _ ?_; clear hK1 K1
    refine awp_seq_k ?_; intro K3 hK3
    refine awp_reg2_seq [] [3, 13] (by decide) ?_
    intro K1 hK1
    refine ⟨trivial, trivial, ?_⟩
    show K1 [(3, .int .i64 e), (13, .bool (!(!(e == 0))))] m
    refine hK1 _ _ ?_; clear hK1 K1
    refine awp_cond rfl rfl (fun h2 => ?_) (fun h2 => ?_)
    · replace h2 : e = 0 := (eq_of_beq (bnF (bnT h2)))
      refine awp_reg2_seq [] [2] (by decide) ?_
      intro K1 hK1
      refine ⟨trivial, ?_⟩
      show K1 [(2, .int .i64 (-1))] m
      refine hK1 _ _ ?_; clear hK1 K1
      refine awp_ret ?_
      refine ⟨trivial, m, fun _ _ h => h, ?_⟩
      show K (.int .i64 (-1)) m
     
      refine K_eq hK (congrArg (AV.int .i64) ?_)
      omega
    · replace h2 : e ≠ 0 := (ne_of_beq_false (bnT (bnF h2)))
      refine awp_skip ?_
      refine hK3 _ _ ?_; clear hK3
      refine awp_reg2_seq [] [2] (by decide) ?_
      intro K1 hK1
      refine ⟨trivial, trivial, ?_⟩
      show K1 [(2, .int .i64 e)] m
      refine hK1 _ _ ?_; clear hK1 K1
      refine awp_ret ?_
      refine ⟨trivial, m, fun _ _ h => h, ?_⟩
      show K (.int .i64 e) m
     
      exact hK


theorem u_Waves_top (g : Nat) (m : AMem) (K : AV → AMem → Prop) (hK : K (.tuple [.slice false (([] : List (List Int)).map (lstAV intAV)), .err 57 8]) (AMem.wth m [(g, .cells [.slice true (([[0]] : List (List Int)).map (lstAV intAV))])])) : ACalls Try.prog 11 [.ptr ⟨g, 0, none⟩] (AMem.wth m [(g, .cells [.slice true (([[0]] : List (List Int)).map (lstAV intAV))])]) K := by
  refine u_Waves g [[0]] (by decide) (by decide) (by decide) m K ?_
  have e : wavesR [[0]] = ([], 8) := by decide
  rw [e]; exact hK

theorem u_cyclic (g : Nat) (needs : List (List Int)) (hok : okN needs = true) (hz : needs.length ≤ 64 ∧ True) (hl : ∀ w ∈ needs, w.length ≤ 1048576) (h1000 : ∀ w ∈ needs, w.length ≤ 1000) (hc : ∃ U j, IsCyc needs U ∧ U j) (m : AMem)  (K : AV → AMem → Prop) (hK : K (.bool true) (AMem.wth m [(g, .cells [.slice true (needs.map (lstAV intAV))])])) : ACalls Try.prog 25 [.ptr ⟨g, 0, none⟩, .slice false (needs.map (lstAV intAV))] (AMem.wth m [(g, .cells [.slice true (needs.map (lstAV intAV))])]) K := by
  obtain ⟨U, j, hU, hj⟩ := hc
  obtain ⟨c, hci, hcr⟩ := cyc_self hok hU hj
  have hcu := cyc_under hok hci hcr
  have hci2 := hci.2
  have hci1 := hci.1
  refine acalls_enter Try.func25 rfl (by decide) (Nat.le_of_ble_eq_true rfl) ?_
  show AWP _ _ _ _ [(0, .ptr ⟨g, 0, none⟩), (1, .slice false (needs.map (lstAV intAV)))] (AMem.wth m [(g, .cells [.slice true (needs.map (lstAV intAV))])])
  refine awp_reg2_seq [] [0, 1] (by decide) ?_
  intro K1 hK1
  refine ⟨trivial, ?_⟩
  show K1 [(0, .ptr ⟨g, 0, none⟩), (1, .slice false (needs.map (lstAV intAV)))] (AMem.wth m [(g, .cells [.slice true (needs.map (lstAV intAV))])])
  refine hK1 _ _ ?_; clear hK1 K1
  refine awp_seq_k ?_; intro K2 hK2
  refine awp_reg2_seq [] [0, 1, 5] (by decide) ?_
  intro K1 hK1
  refine ⟨trivial, ?_⟩
  show K1 [(0, .ptr ⟨g, 0, none⟩), (1, .slice false (needs.map (lstAV intAV))), (5, .int .i64 0)] (AMem.wth m [(g, .cells [.slice true (needs.map (lstAV intAV))])])
  refine hK1 _ _ ?_; clear hK1 K1
  refine awp_block ?_
  refine awp_keep [0, 1, 5] (by decide) ?_
  refine awp_loop_st (σ := Int) (fun i => [(0, .ptr ⟨g, 0, none⟩), (1, .slice false (needs.map (lstAV intAV))), (5, .int .i64 i)]) (fun _ => (AMem.wth m [(g, .cells [.slice true (needs.map (lstAV intAV))])])) (fun i => 0 ≤ i ∧ i ≤ c) (fun i => needs.length - i.toNat) (0) rfl rfl ?_ ?_
  · show 0 ≤ ((0 : Int)) ∧ ((0 : Int)) ≤ c
    exact ⟨by omega, by omega⟩
  · rintro i hI
    replace hI : 0 ≤ i ∧ i ≤ c := hI
    show AWP _ _ _ _ [(0, .ptr ⟨g, 0, none⟩), (1, .slice false (needs.map (lstAV intAV))), (5, .int .i64 i)] (AMem.wth m [(g, .cells [.slice true (needs.map (lstAV intAV))])])
    refine awp_seq_k ?_; intro K3 hK3
    refine awp_reg2_seq [] [0, 1, 5, 12] (by decide) ?_
    intro K1 hK1
    refine ⟨trivial, trivial, ?_⟩
    refine ar_len rfl (lstAV intAV) needs rfl rfl rfl ?_
    refine ⟨trivial, ?_⟩
    show K1 [(0, .ptr ⟨g, 0, none⟩), (1, .slice false (needs.map (lstAV intAV))), (5, .int .i64 i), (12, .bool (decide (i < (needs.length : Int))))] (AMem.wth m [(g, .cells [.slice true (needs.map (lstAV intAV))])])
    refine hK1 _ _ ?_; clear hK1 K1
    refine awp_cond rfl rfl (fun h1 => ?_) (fun h1 => ?_)
    · replace h1 : i < (needs.length : Int) := (of_decide_eq_true h1)
      have hlw := h1000 _ (gI_mem (l := needs) (i := i) hI.1 h1)
      have hrl := reachR_len needs (gI needs i) false
      have hz1 := hz.1
      have herr : (reachR needs (gI needs i) false).2 = 0 := by
        have ho : okL needs.length (gI needs i) = true := under_ok hok i hI.1 h1
        rw [reach_under hok ho]
      refine awp_skip ?_
      refine hK3 _ _ ?_; clear hK3
      refine awp_seq_k ?_; intro K4 hK4
      refine awp_block ?_
      refine awp_reg2_seq [] [0, 1, 5, 6, 7] (by decide) ?_
      intro K1 hK1
      refine ⟨trivial, trivial, trivial, ?_⟩
      refine ar_index rfl (lstAV intAV) needs i rfl rfl rfl rfl rfl (by decide) (fun _ => rfl) (by omega) (by omega) ?_
      refine ⟨(apartOk_one rfl rfl (Nat.le_of_ble_eq_true rfl)), ?_⟩
      refine u_Under g needs (gI needs i) hok hz.1 hl (by omega) _ _ ?_
      show aopsR _ _ _ _ _ _ (AMem.wth m [(g, .cells [.slice true (needs.map (lstAV intAV))])])
      refine ⟨trivial, (Nat.le_of_ble_eq_true rfl), (Nat.le_of_ble_eq_true rfl), trivial, trivial, ?_⟩
      show K1 [(0, .ptr ⟨g, 0, none⟩), (1, .slice false (needs.map (lstAV intAV))), (5, .int .i64 i), (6, .slice false (((reachR needs (gI needs i) false).1).map intAV)), (7, .err 57 ((reachR needs (gI needs i) false).2))] (AMem.wth m [(g, .cells [.slice true (needs.map (lstAV intAV))])])
      refine hK1 _ _ ?_; clear hK1 K1
      refine awp_seq_k ?_; intro K5 hK5
      refine awp_reg2_seq [] [0, 1, 5, 6, 25] (by decide) ?_
      intro K1 hK1
      refine ⟨trivial, ⟨rfl, rfl⟩, ?_⟩
      show K1 [(0, .ptr ⟨g, 0, none⟩), (1, .slice false (needs.map (lstAV intAV))), (5, .int .i64 i), (6, .slice false (((reachR needs (gI needs i) false).1).map intAV)), (25, .bool (!(((reachR needs (gI needs i) false).2) == 0)))] (AMem.wth m [(g, .cells [.slice true (needs.map (lstAV intAV))])])
      refine hK1 _ _ ?_; clear hK1 K1
      refine awp_cond rfl rfl (fun h2 => ?_) (fun h2 => ?_)
      · replace h2 : (reachR needs (gI needs i) false).2 ≠ 0 := (ne_of_beq_false (bnT h2))
        exact absurd herr h2
      · replace h2 : (reachR needs (gI needs i) false).2 = 0 := (eq_of_beq (bnF h2))
        refine awp_skip ?_
        refine hK5 _ _ ?_; clear hK5
        refine awp_reg2_seq [] [0, 1, 5, 6, 8] (by decide) ?_
        intro K1 hK1
        refine ⟨trivial, ?_⟩
        show K1 [(0, .ptr ⟨g, 0, none⟩), (1, .slice false (needs.map (lstAV intAV))), (5, .int .i64 i), (6, .slice false (((reachR needs (gI needs i) false).1).map intAV)), (8, .int .i64 0)] (AMem.wth m [(g, .cells [.slice true (needs.map (lstAV intAV))])])
        refine hK1 _ _ ?_; clear hK1 K1
        refine awp_block ?_
        refine awp_keep [0, 1, 5, 6, 8] (by decide) ?_
        refine awp_loop_st (σ := Int) (fun q => [(0, .ptr ⟨g, 0, none⟩), (1, .slice false (needs.map (lstAV intAV))), (5, .int .i64 i), (6, .slice false (((reachR needs (gI needs i) false).1).map intAV)), (8, .int .i64 q)]) (fun _ => (AMem.wth m [(g, .cells [.slice true (needs.map (lstAV intAV))])])) (fun q => 0 ≤ q ∧ q ≤ (reachR needs (gI needs i) false).1.length ∧ (i = c → ∀ p, 0 ≤ p → p < q → gI (reachR needs (gI needs i) false).1 p ≠ c)) (fun q => (reachR needs (gI needs i) false).1.length - q.toNat) (0) rfl rfl ?_ ?_
        · show 0 ≤ ((0 : Int)) ∧ ((0 : Int)) ≤ (reachR needs (gI needs i) false).1.length ∧ (i = c → ∀ p, 0 ≤ p → p < ((0 : Int)) → gI (reachR needs (gI needs i) false).1 p ≠ c)
          exact ⟨by omega, by omega, fun _ p h0 h1 => by omega⟩
        · rintro q hI2
          replace hI2 : 0 ≤ q ∧ q ≤ (reachR needs (gI needs i) false).1.length ∧ (i = c → ∀ p, 0 ≤ p → p < q → gI (reachR needs (gI needs i) false).1 p ≠ c) := hI2
          show AWP _ _ _ _ [(0, .ptr ⟨g, 0, none⟩), (1, .slice false (needs.map (lstAV intAV))), (5, .int .i64 i), (6, .slice false (((reachR needs (gI needs i) false).1).map intAV)), (8, .int .i64 q)] (AMem.wth m [(g, .cells [.slice true (needs.map (lstAV intAV))])])
          refine awp_seq_k ?_; intro K6 hK6
          refine awp_reg2_seq [] [0, 1, 5, 6, 8, 29] (by decide) ?_
          intro K1 hK1
          refine ⟨trivial, trivial, ?_⟩
          refine ar_len rfl intAV ((reachR needs (gI needs i) false).1) rfl rfl rfl ?_
          refine ⟨trivial, ?_⟩
          show K1 [(0, .ptr ⟨g, 0, none⟩), (1, .slice false (needs.map (lstAV intAV))), (5, .int .i64 i), (6, .slice false (((reachR needs (gI needs i) false).1).map intAV)), (8, .int .i64 q), (29, .bool (decide (q < (((reachR needs (gI needs i) false).1).length : Int))))] (AMem.wth m [(g, .cells [.slice true (needs.map (lstAV intAV))])])
          refine hK1 _ _ ?_; clear hK1 K1
          refine awp_cond rfl rfl (fun h3 => ?_) (fun h3 => ?_)
          · replace h3 : q < (((reachR needs (gI needs i) false).1).length : Int) := (of_decide_eq_true h3)
            refine awp_skip ?_
            refine hK6 _ _ ?_; clear hK6
            refine awp_seq_k ?_; intro K7 hK7
            refine awp_block ?_
            refine awp_reg2_seq [] [0, 1, 5, 6, 8, 37] (by decide) ?_
            intro K1 hK1
            refine ⟨trivial, trivial, ?_⟩
            refine ar_index rfl intAV ((reachR needs (gI needs i) false).1) q rfl rfl rfl rfl rfl (by decide) (fun _ => rfl) (by omega) (by omega) ?_
            refine ⟨(apartOk_one rfl rfl (Nat.le_of_ble_eq_true rfl)), trivial, trivial, ?_⟩
            show K1 [(0, .ptr ⟨g, 0, none⟩), (1, .slice false (needs.map (lstAV intAV))), (5, .int .i64 i), (6, .slice false (((reachR needs (gI needs i) false).1).map intAV)), (8, .int .i64 q), (37, .bool ((gI ((reachR needs (gI needs i) false).1) q) == i))] (AMem.wth m [(g, .cells [.slice true (needs.map (lstAV intAV))])])
            refine hK1 _ _ ?_; clear hK1 K1
            refine awp_cond rfl rfl (fun h4 => ?_) (fun h4 => ?_)
            · replace h4 : gI ((reachR needs (gI needs i) false).1) q = i := (eq_of_beq h4)
              refine awp_reg2_seq [] [4] (by decide) ?_
              intro K1 hK1
              refine ⟨trivial, ?_⟩
              show K1 [(4, .bool true)] (AMem.wth m [(g, .cells [.slice true (needs.map (lstAV intAV))])])
              refine hK1 _ _ ?_; clear hK1 K1
              refine awp_ret ?_
              refine ⟨trivial, (AMem.wth m [(g, .cells [.slice true (needs.map (lstAV intAV))])]), fun _ _ h => h, ?_⟩
              show K (.bool true) (AMem.wth m [(g, .cells [.slice true (needs.map (lstAV intAV))])])
             
              exact hK
            · replace h4 : gI ((reachR needs (gI needs i) false).1) q ≠ i := (ne_of_beq_false h4)
              refine awp_skip ?_
              refine hK7 _ _ ?_; clear hK7
              refine awp_reg2 [] [0, 1, 5, 6, 8] (by decide) ?_
              intro K1 hK1
              refine ⟨trivial, ?_⟩
              refine ar_add rfl (a := q) (b := 1) rfl rfl (by omega) (by omega) ?_
              refine ⟨trivial, ?_⟩
              show K1 [(0, .ptr ⟨g, 0, none⟩), (1, .slice false (needs.map (lstAV intAV))), (5, .int .i64 i), (6, .slice false (((reachR needs (gI needs i) false).1).map intAV)), (8, .int .i64 (q + 1))] (AMem.wth m [(g, .cells [.slice true (needs.map (lstAV intAV))])])
              refine hK1 _ _ ?_; clear hK1 K1
              refine ⟨(q + 1), rfl, rfl, ?_, ?_⟩
              · show 0 ≤ ((q + 1 : Int)) ∧ ((q + 1 : Int)) ≤ (reachR needs (gI needs i) false).1.length ∧ (i = c → ∀ p, 0 ≤ p → p < ((q + 1 : Int)) → gI (reachR needs (gI needs i) false).1 p ≠ c)
                refine ⟨by omega, by omega, fun e p p0 p1 => ?_⟩
                by_cases hp : p = q
                · subst hp; rw [← e]; exact h4
                · exact hI2.2.2 e p p0 (by omega)
              · show (reachR needs (gI needs i) false).1.length - ((q + 1 : Int)).toNat < (reachR needs (gI needs i) false).1.length - q.toNat
                omega
          · replace h3 : (((reachR needs (gI needs i) false).1).length : Int) ≤ q := (Int.not_lt.1 (of_decide_eq_false h3))
            have hne : i ≠ c := fun e => by
              obtain ⟨p, p0, p1, p2⟩ := hcu
              rw [← e] at p1 p2
              exact hI2.2.2 e p p0 (by omega) (p2.trans e)
            refine awp_exit ?_
            refine hK4 _ _ ?_; clear hK4
            refine awp_reg2 [] [0, 1, 5] (by decide) ?_
            intro K1 hK1
            refine ⟨trivial, ?_⟩
            refine ar_add rfl (a := i) (b := 1) rfl rfl (by omega) (by omega) ?_
            refine ⟨trivial, ?_⟩
            show K1 [(0, .ptr ⟨g, 0, none⟩), (1, .slice false (needs.map (lstAV intAV))), (5, .int .i64 (i + 1))] (AMem.wth m [(g, .cells [.slice true (needs.map (lstAV intAV))])])
            refine hK1 _ _ ?_; clear hK1 K1
            refine ⟨(i + 1), rfl, rfl, ?_, ?_⟩
            · show 0 ≤ ((i + 1 : Int)) ∧ ((i + 1 : Int)) ≤ c
              exact ⟨by omega, by omega⟩
            · show needs.length - ((i + 1 : Int)).toNat < needs.length - i.toNat
              omega
    · replace h1 : (needs.length : Int) ≤ i := (Int.not_lt.1 (of_decide_eq_false h1))
      omega


theorem light_1000 {needs : List (List Int)} (h : lightN needs = true) : ∀ w ∈ needs, w.length ≤ 1000 := by
  simp only [lightN, Bool.and_eq_true, decide_eq_true_eq, List.all_eq_true] at h
  exact fun w hw => by have := h.1.2 w hw; omega


theorem u_OrderT (g : Nat) (needs : List (List Int)) {r : List (List Int) × Int} (hok : okN needs = true) (hn : needs.length ≤ 64) (hl : ∀ l ∈ needs, l.length ≤ 1048576) (hw : wavesR needs = r) (m : AMem) (K : AV → AMem → Prop) (hK : K (.tuple [.slice false (r.1.flatten.map intAV), .err 57 r.2]) (AMem.wth m [(g, .cells [.slice true (needs.map (lstAV intAV))])])) : ACalls Try.prog 13 [.ptr ⟨g, 0, none⟩] (AMem.wth m [(g, .cells [.slice true (needs.map (lstAV intAV))])]) K := by
  subst hw; exact u_Order g needs hok hn hl m K hK

set_option maxHeartbeats 2000000 in
theorem u_TopGraph1 (needs : List (List Int)) (hE : newE needs ≠ 0) (m : AMem)  (K : AV → AMem → Prop) (hK : K (.bool true) m) : ACalls Try.prog 5 [.slice false (needs.map (lstAV intAV))] m K := by
  have hpos := newE_pos hE
  refine acalls_enter Try.func5 rfl (by decide) (Nat.le_of_ble_eq_true rfl) ?_
  show AWP _ _ _ _ [(0, .slice false (needs.map (lstAV intAV)))] m
  refine awp_reg2_seq [] [0] (by decide) ?_
  intro K1 hK1
  refine ⟨trivial, ?_⟩
  show K1 [(0, .slice false (needs.map (lstAV intAV)))] m
  refine hK1 _ _ ?_; clear hK1 K1
  refine awp_reg2_seq [] [0, 3, 4] (by decide) ?_
  intro K1 hK1
  refine ⟨⟨rfl, Nat.le_of_ble_eq_true rfl, rfl, Nat.le_of_ble_eq_true rfl, rfl, by simp only [List.forall_mem_cons]; exact ⟨⟨rfl, rfl⟩, fun _ h => by cases h⟩⟩, ⟨rfl, Nat.le_of_ble_eq_true rfl, rfl, Nat.le_of_ble_eq_true rfl, rfl, by simp only [List.forall_mem_cons]; exact ⟨⟨rfl, rfl⟩, fun _ h => by cases h⟩⟩, ?_⟩
  refine u_New_ok [[0]] (by decide) (by decide) (by decide) _ _ ?_
  intro b1 hb1
  have hFb1 : m b1 = none := wth_none (m := m) (L := []) hb1
  have hNb1 : ([b1] : List Nat).Nodup := wth_nodup (m := m) (L := []) hb1 List.nodup_nil
  show aopsR _ _ _ _ _ _ (AMem.wth m [(b1, .cells [.slice true (([[0]] : List (List Int)).map (lstAV intAV))])])
  refine ⟨trivial, (Nat.le_of_ble_eq_true rfl), (Nat.le_of_ble_eq_true rfl), trivial, trivial, ?_⟩
  show K1 [(0, .slice false (needs.map (lstAV intAV))), (3, .ptr ⟨b1, 0, none⟩), (4, .err 57 0)] (AMem.wth m [(b1, .cells [.slice true (([[0]] : List (List Int)).map (lstAV intAV))])])
  refine hK1 _ _ ?_; clear hK1 K1
  refine awp_seq_k ?_; intro K2 hK2
  refine awp_reg2_seq [] [0, 3, 25] (by decide) ?_
  intro K1 hK1
  suffices key : K1 [(0, .slice false (needs.map (lstAV intAV))), (3, .ptr ⟨b1, 0, none⟩), (25, .bool false)] (AMem.wth m [(b1, .cells [.slice true (([[0]] : List (List Int)).map (lstAV intAV))])]) by
    refine ⟨trivial, ⟨rfl, rfl⟩, trivial, trivial, rfl, ?_⟩
    exact key
  refine hK1 _ _ ?_; clear hK1 K1
  refine awp_cond rfl rfl (fun hcz => ?_) (fun hcz => ?_)
  · cases hcz
  clear hcz
  refine awp_skip ?_
  refine hK2 _ _ ?_; clear hK2
  refine awp_reg2_seq [] [0, 6] (by decide) ?_
  intro K1 hK1
  refine ⟨trivial, ?_⟩
  refine u_Waves_top b1 _ _ ?_
  show aopsR _ _ _ _ _ _ (AMem.wth m [(b1, .cells [.slice true (([[0]] : List (List Int)).map (lstAV intAV))])])
  refine ⟨trivial, (Nat.le_of_ble_eq_true rfl), (Nat.le_of_ble_eq_true rfl), trivial, trivial, ?_⟩
  show K1 [(0, .slice false (needs.map (lstAV intAV))), (6, .err 57 8)] (AMem.wth m [(b1, .cells [.slice true (([[0]] : List (List Int)).map (lstAV intAV))])])
  refine hK1 _ _ ?_; clear hK1 K1
  refine awp_seq_k ?_; intro K3 hK3
  refine awp_reg2_seq [] [0, 33] (by decide) ?_
  intro K1 hK1
  refine ⟨trivial, ?_⟩
  refine u_number 8 _ _ ?_
  refine ⟨trivial, ?_⟩
  show K1 [(0, .slice false (needs.map (lstAV intAV))), (33, .bool false)] (AMem.wth m [(b1, .cells [.slice true (([[0]] : List (List Int)).map (lstAV intAV))])])
  refine hK1 _ _ ?_; clear hK1 K1
  refine awp_cond rfl rfl (fun hcz => ?_) (fun hcz => ?_)
  · cases hcz
  clear hcz
  refine awp_skip ?_
  refine hK3 _ _ ?_; clear hK3
  refine awp_seq_k ?_; intro K4 hK4
  refine awp_reg2_seq [] [0, 41] (by decide) ?_
  intro K1 hK1
  suffices key : K1 [(0, .slice false (needs.map (lstAV intAV))), (41, .bool ((!(lightN needs)) || (decide (64 < (needs.length : Int)))))] (AMem.wth m [(b1, .cells [.slice true (([[0]] : List (List Int)).map (lstAV intAV))])]) by
    refine ⟨trivial, ?_⟩
    refine u_LightNeeds needs _ _ ?_
    refine ⟨trivial, trivial, ?_⟩
    show aopsR _ _ _ _ _ [(37, .bool (!(lightN needs))), (36, .bool (!(lightN needs))), (35, .bool (lightN needs)), (34, .slice false (needs.map (lstAV intAV))), (0, .slice false (needs.map (lstAV intAV))), (33, .bool false)] _
    revert key
    cases h1 : (lightN needs)
    · replace h1 : lightN needs = false := h1
      intro key
      refine ar_off rfl (ar_off rfl (ar_off rfl ?_))
      exact key
    · replace h1 : lightN needs = true := h1
      intro key
      refine ⟨trivial, ?_⟩
      refine ar_len rfl (lstAV intAV) needs rfl rfl rfl ?_
      refine ⟨trivial, ?_⟩
      exact key
  refine hK1 _ _ ?_; clear hK1 K1
  refine awp_cond rfl rfl (fun h2 => ?_) (fun h2 => ?_)
  · replace h2 : (lightN needs = false) ∨ (64 < (needs.length : Int)) := ((borT h2).imp (fun q => (bnT q)) (fun q => (of_decide_eq_true q)))
    refine awp_reg2_seq [] [2] (by decide) ?_
    intro K1 hK1
    refine ⟨trivial, ?_⟩
    show K1 [(2, .bool true)] (AMem.wth m [(b1, .cells [.slice true (([[0]] : List (List Int)).map (lstAV intAV))])])
    refine hK1 _ _ ?_; clear hK1 K1
    refine awp_ret ?_
    refine ⟨trivial, m, (wth_sub2 (m := m) [(b1, .cells [.slice true (([[0]] : List (List Int)).map (lstAV intAV))])] [] hNb1 (by simp only [List.map_cons, List.map_nil, List.forall_mem_cons]; exact ⟨hFb1, fun _ h => by cases h⟩)), ?_⟩
    show K (.bool true) m
   
    refine K_eq hK (congrArg AV.bool ?_)
    rfl
  · replace h2 : (lightN needs = true) ∧ ((needs.length : Int) ≤ 64) := ⟨(bnF (borL h2)), (Int.not_lt.1 (of_decide_eq_false (borR h2)))⟩
    have hlg := light_facts h2.1
    have hlg1 := hlg.1
    have hl1000 := light_1000 h2.1
    refine awp_skip ?_
    refine hK4 _ _ ?_; clear hK4
    refine awp_reg2_seq [] [0, 3, 4] (by decide) ?_
    intro K1 hK1
    refine ⟨trivial, ?_⟩
    refine u_New_err needs hE (by omega) hlg.2 _ _ ?_
    refine ⟨trivial, (Nat.le_of_ble_eq_true rfl), (Nat.le_of_ble_eq_true rfl), trivial, trivial, ?_⟩
    show K1 [(0, .slice false (needs.map (lstAV intAV))), (3, .nilptr), (4, .err 57 (newE needs))] (AMem.wth m [(b1, .cells [.slice true (([[0]] : List (List Int)).map (lstAV intAV))])])
    refine hK1 _ _ ?_; clear hK1 K1
    refine awp_seq_k ?_; intro K5 hK5
    refine awp_reg2_seq [] [0, 3, 4, 48] (by decide) ?_
    intro K1 hK1
    refine ⟨trivial, ⟨rfl, rfl⟩, ?_⟩
    show K1 [(0, .slice false (needs.map (lstAV intAV))), (3, .nilptr), (4, .err 57 (newE needs)), (48, .bool (!((newE needs) == 0)))] (AMem.wth m [(b1, .cells [.slice true (([[0]] : List (List Int)).map (lstAV intAV))])])
    refine hK1 _ _ ?_; clear hK1 K1
    refine awp_cond rfl rfl (fun h3 => ?_) (fun h3 => ?_)
    · replace h3 : (newE needs) ≠ 0 := (ne_of_beq_false (bnT h3))
      refine awp_reg2_seq [] [2] (by decide) ?_
      intro K1 hK1
      refine ⟨trivial, ?_⟩
      refine u_number (newE needs) _ _ ?_
      refine ⟨trivial, trivial, ?_⟩
      show K1 [(2, .bool ((newE needs) == 1))] (AMem.wth m [(b1, .cells [.slice true (([[0]] : List (List Int)).map (lstAV intAV))])])
      refine hK1 _ _ ?_; clear hK1 K1
      refine awp_ret ?_
      refine ⟨trivial, m, (wth_sub2 (m := m) [(b1, .cells [.slice true (([[0]] : List (List Int)).map (lstAV intAV))])] [] hNb1 (by simp only [List.map_cons, List.map_nil, List.forall_mem_cons]; exact ⟨hFb1, fun _ h => by cases h⟩)), ?_⟩
      show K (.bool ((newE needs) == 1)) m
     
      refine K_eq hK (congrArg AV.bool ?_)
      rcases hpos with h | h
      · omega
      · rw [h.2.1]; rfl
    · replace h3 : (newE needs) = 0 := (eq_of_beq (bnF h3))
      exact absurd h3 hE

set_option maxHeartbeats 4000000 in
theorem u_TopGraphA (needs : List (List Int)) (hE : newE needs = 0) {D : Int → Int} (hD : IsDepth needs D) (hw : wavesR needs = (groupsTo needs D needs.length, 0)) (m : AMem)  (K : AV → AMem → Prop) (hK : K (.bool true) m) : ACalls Try.prog 5 [.slice false (needs.map (lstAV intAV))] m K := by
  have hz := newE_zero hE
  have hz1 := hz.1
  have hok := hz.2
  have ho := ord_ok hD
  have hol := ho.len
  refine acalls_enter Try.func5 rfl (by decide) (Nat.le_of_ble_eq_true rfl) ?_
  show AWP _ _ _ _ [(0, .slice false (needs.map (lstAV intAV)))] m
  refine awp_reg2_seq [] [0] (by decide) ?_
  intro K1 hK1
  refine ⟨trivial, ?_⟩
  show K1 [(0, .slice false (needs.map (lstAV intAV)))] m
  refine hK1 _ _ ?_; clear hK1 K1
  refine awp_reg2_seq [] [0, 3, 4] (by decide) ?_
  intro K1 hK1
  refine ⟨⟨rfl, Nat.le_of_ble_eq_true rfl, rfl, Nat.le_of_ble_eq_true rfl, rfl, by simp only [List.forall_mem_cons]; exact ⟨⟨rfl, rfl⟩, fun _ h => by cases h⟩⟩, ⟨rfl, Nat.le_of_ble_eq_true rfl, rfl, Nat.le_of_ble_eq_true rfl, rfl, by simp only [List.forall_mem_cons]; exact ⟨⟨rfl, rfl⟩, fun _ h => by cases h⟩⟩, ?_⟩
  refine u_New_ok [[0]] (by decide) (by decide) (by decide) _ _ ?_
  intro b1 hb1
  have hFb1 : m b1 = none := wth_none (m := m) (L := []) hb1
  have hNb1 : ([b1] : List Nat).Nodup := wth_nodup (m := m) (L := []) hb1 List.nodup_nil
  show aopsR _ _ _ _ _ _ (AMem.wth m [(b1, .cells [.slice true (([[0]] : List (List Int)).map (lstAV intAV))])])
  refine ⟨trivial, (Nat.le_of_ble_eq_true rfl), (Nat.le_of_ble_eq_true rfl), trivial, trivial, ?_⟩
  show K1 [(0, .slice false (needs.map (lstAV intAV))), (3, .ptr ⟨b1, 0, none⟩), (4, .err 57 0)] (AMem.wth m [(b1, .cells [.slice true (([[0]] : List (List Int)).map (lstAV intAV))])])
  refine hK1 _ _ ?_; clear hK1 K1
  refine awp_seq_k ?_; intro K2 hK2
  refine awp_reg2_seq [] [0, 3, 25] (by decide) ?_
  intro K1 hK1
  suffices key : K1 [(0, .slice false (needs.map (lstAV intAV))), (3, .ptr ⟨b1, 0, none⟩), (25, .bool false)] (AMem.wth m [(b1, .cells [.slice true (([[0]] : List (List Int)).map (lstAV intAV))])]) by
    refine ⟨trivial, ⟨rfl, rfl⟩, trivial, trivial, rfl, ?_⟩
    exact key
  refine hK1 _ _ ?_; clear hK1 K1
  refine awp_cond rfl rfl (fun hcz => ?_) (fun hcz => ?_)
  · cases hcz
  clear hcz
  refine awp_skip ?_
  refine hK2 _ _ ?_; clear hK2
  refine awp_reg2_seq [] [0, 6] (by decide) ?_
  intro K1 hK1
  refine ⟨trivial, ?_⟩
  refine u_Waves_top b1 _ _ ?_
  show aopsR _ _ _ _ _ _ (AMem.wth m [(b1, .cells [.slice true (([[0]] : List (List Int)).map (lstAV intAV))])])
  refine ⟨trivial, (Nat.le_of_ble_eq_true rfl), (Nat.le_of_ble_eq_true rfl), trivial, trivial, ?_⟩
  show K1 [(0, .slice false (needs.map (lstAV intAV))), (6, .err 57 8)] (AMem.wth m [(b1, .cells [.slice true (([[0]] : List (List Int)).map (lstAV intAV))])])
  refine hK1 _ _ ?_; clear hK1 K1
  refine awp_seq_k ?_; intro K3 hK3
  refine awp_reg2_seq [] [0, 33] (by decide) ?_
  intro K1 hK1
  refine ⟨trivial, ?_⟩
  refine u_number 8 _ _ ?_
  refine ⟨trivial, ?_⟩
  show K1 [(0, .slice false (needs.map (lstAV intAV))), (33, .bool false)] (AMem.wth m [(b1, .cells [.slice true (([[0]] : List (List Int)).map (lstAV intAV))])])
  refine hK1 _ _ ?_; clear hK1 K1
  refine awp_cond rfl rfl (fun hcz => ?_) (fun hcz => ?_)
  · cases hcz
  clear hcz
  refine awp_skip ?_
  refine hK3 _ _ ?_; clear hK3
  refine awp_seq_k ?_; intro K4 hK4
  refine awp_reg2_seq [] [0, 41] (by decide) ?_
  intro K1 hK1
  suffices key : K1 [(0, .slice false (needs.map (lstAV intAV))), (41, .bool ((!(lightN needs)) || (decide (64 < (needs.length : Int)))))] (AMem.wth m [(b1, .cells [.slice true (([[0]] : List (List Int)).map (lstAV intAV))])]) by
    refine ⟨trivial, ?_⟩
    refine u_LightNeeds needs _ _ ?_
    refine ⟨trivial, trivial, ?_⟩
    show aopsR _ _ _ _ _ [(37, .bool (!(lightN needs))), (36, .bool (!(lightN needs))), (35, .bool (lightN needs)), (34, .slice false (needs.map (lstAV intAV))), (0, .slice false (needs.map (lstAV intAV))), (33, .bool false)] _
    revert key
    cases h1 : (lightN needs)
    · replace h1 : lightN needs = false := h1
      intro key
      refine ar_off rfl (ar_off rfl (ar_off rfl ?_))
      exact key
    · replace h1 : lightN needs = true := h1
      intro key
      refine ⟨trivial, ?_⟩
      refine ar_len rfl (lstAV intAV) needs rfl rfl rfl ?_
      refine ⟨trivial, ?_⟩
      exact key
  refine hK1 _ _ ?_; clear hK1 K1
  refine awp_cond rfl rfl (fun h2 => ?_) (fun h2 => ?_)
  · replace h2 : (lightN needs = false) ∨ (64 < (needs.length : Int)) := ((borT h2).imp (fun q => (bnT q)) (fun q => (of_decide_eq_true q)))
    refine awp_reg2_seq [] [2] (by decide) ?_
    intro K1 hK1
    refine ⟨trivial, ?_⟩
    show K1 [(2, .bool true)] (AMem.wth m [(b1, .cells [.slice true (([[0]] : List (List Int)).map (lstAV intAV))])])
    refine hK1 _ _ ?_; clear hK1 K1
    refine awp_ret ?_
    refine ⟨trivial, m, (wth_sub2 (m := m) [(b1, .cells [.slice true (([[0]] : List (List Int)).map (lstAV intAV))])] [] hNb1 (by simp only [List.map_cons, List.map_nil, List.forall_mem_cons]; exact ⟨hFb1, fun _ h => by cases h⟩)), ?_⟩
    show K (.bool true) m
   
    exact hK
  · replace h2 : (lightN needs = true) ∧ ((needs.length : Int) ≤ 64) := ⟨(bnF (borL h2)), (Int.not_lt.1 (of_decide_eq_false (borR h2)))⟩
    have hlg := light_facts h2.1
    have hlg1 := hlg.1
    have hl1000 := light_1000 h2.1
    refine awp_skip ?_
    refine hK4 _ _ ?_; clear hK4
    refine awp_reg2_seq [] [0, 3, 4] (by decide) ?_
    intro K1 hK1
    refine ⟨trivial, ?_⟩
    refine u_New_ok needs hE (by omega) hlg.2 _ _ ?_
    intro b2 hb2
    have hFb2 : m b2 = none := wth_none (m := m) (L := [(b1, .cells [.slice true (([[0]] : List (List Int)).map (lstAV intAV))])]) hb2
    have hNb2 : ([b2, b1] : List Nat).Nodup := wth_nodup (m := m) (L := [(b1, .cells [.slice true (([[0]] : List (List Int)).map (lstAV intAV))])]) hb2 hNb1
    show aopsR _ _ _ _ _ _ (AMem.wth m [(b2, .cells [.slice true (needs.map (lstAV intAV))]), (b1, .cells [.slice true (([[0]] : List (List Int)).map (lstAV intAV))])])
    refine ⟨trivial, (Nat.le_of_ble_eq_true rfl), (Nat.le_of_ble_eq_true rfl), trivial, trivial, ?_⟩
    show K1 [(0, .slice false (needs.map (lstAV intAV))), (3, .ptr ⟨b2, 0, none⟩), (4, .err 57 0)] (AMem.wth m [(b2, .cells [.slice true (needs.map (lstAV intAV))]), (b1, .cells [.slice true (([[0]] : List (List Int)).map (lstAV intAV))])])
    refine hK1 _ _ ?_; clear hK1 K1
    refine awp_seq_k ?_; intro K5 hK5
    refine awp_reg2_seq [] [0, 3, 4, 48] (by decide) ?_
    intro K1 hK1
    refine ⟨trivial, ⟨rfl, rfl⟩, ?_⟩
    show K1 [(0, .slice false (needs.map (lstAV intAV))), (3, .ptr ⟨b2, 0, none⟩), (4, .err 57 0), (48, .bool false)] (AMem.wth m [(b2, .cells [.slice true (needs.map (lstAV intAV))]), (b1, .cells [.slice true (([[0]] : List (List Int)).map (lstAV intAV))])])
    refine hK1 _ _ ?_; clear hK1 K1
    refine awp_cond rfl rfl (fun hcz => ?_) (fun hcz => ?_)
    · cases hcz
    clear hcz
    refine awp_skip ?_
    refine hK5 _ _ ?_; clear hK5
    refine awp_reg2_seq [] [0, 3, 4, 7] (by decide) ?_
    intro K1 hK1
    refine ⟨trivial, ?_⟩
    refine ar_mem (wth_split (m := m) (L := [(b2, .cells [.slice true (needs.map (lstAV intAV))]), (b1, .cells [.slice true (([[0]] : List (List Int)).map (lstAV intAV))])]) (L1 := [(b2, .cells [.slice true (needs.map (lstAV intAV))])]) (L2 := [(b1, .cells [.slice true (([[0]] : List (List Int)).map (lstAV intAV))])]) hNb2 (List.Perm.trans (show List.Perm ([(b2, .cells [.slice true (needs.map (lstAV intAV))]), (b1, .cells [.slice true (([[0]] : List (List Int)).map (lstAV intAV))])] : List (Nat × AObj)) (((b2, .cells [.slice true (needs.map (lstAV intAV))]) : Nat × AObj) :: (([] : List (Nat × AObj)) ++ ([(b1, .cells [.slice true (([[0]] : List (List Int)).map (lstAV intAV))])] : List (Nat × AObj)))) from List.perm_middle (l₁ := ([] : List (Nat × AObj))) (a := ((b2, .cells [.slice true (needs.map (lstAV intAV))]) : Nat × AObj)) (l₂ := ([(b1, .cells [.slice true (([[0]] : List (List Int)).map (lstAV intAV))])] : List (Nat × AObj)))) (List.Perm.cons _ (List.Perm.refl _)))) ?_
    refine u_OrderT b2 needs hok hz1 hlg.2 hw _ _ ?_
    show aopsR _ _ _ _ _ _ (AMem.wth (AMem.wth m [(b1, .cells [.slice true (([[0]] : List (List Int)).map (lstAV intAV))])]) [(b2, .cells [.slice true (needs.map (lstAV intAV))])])
    refine ar_mem (wth_split (m := m) (L := [(b2, .cells [.slice true (needs.map (lstAV intAV))]), (b1, .cells [.slice true (([[0]] : List (List Int)).map (lstAV intAV))])]) (L1 := [(b2, .cells [.slice true (needs.map (lstAV intAV))])]) (L2 := [(b1, .cells [.slice true (([[0]] : List (List Int)).map (lstAV intAV))])]) hNb2 (List.Perm.trans (show List.Perm ([(b2, .cells [.slice true (needs.map (lstAV intAV))]), (b1, .cells [.slice true (([[0]] : List (List Int)).map (lstAV intAV))])] : List (Nat × AObj)) (((b2, .cells [.slice true (needs.map (lstAV intAV))]) : Nat × AObj) :: (([] : List (Nat × AObj)) ++ ([(b1, .cells [.slice true (([[0]] : List (List Int)).map (lstAV intAV))])] : List (Nat × AObj)))) from List.perm_middle (l₁ := ([] : List (Nat × AObj))) (a := ((b2, .cells [.slice true (needs.map (lstAV intAV))]) : Nat × AObj)) (l₂ := ([(b1, .cells [.slice true (([[0]] : List (List Int)).map (lstAV intAV))])] : List (Nat × AObj)))) (List.Perm.cons _ (List.Perm.refl _)))).symm ?_
    refine ⟨trivial, (Nat.le_of_ble_eq_true rfl), (Nat.le_of_ble_eq_true rfl), trivial, trivial, ?_⟩
    show K1 [(0, .slice false (needs.map (lstAV intAV))), (3, .ptr ⟨b2, 0, none⟩), (4, .err 57 0), (7, .slice false (((groupsTo needs D needs.length).flatten).map intAV))] (AMem.wth m [(b2, .cells [.slice true (needs.map (lstAV intAV))]), (b1, .cells [.slice true (([[0]] : List (List Int)).map (lstAV intAV))])])
    refine hK1 _ _ ?_; clear hK1 K1
    refine awp_reg2_seq [] [0, 3, 4, 7, 8] (by decide) ?_
    intro K1 hK1
    refine ⟨trivial, ?_⟩
    refine ar_len rfl (lstAV intAV) needs rfl rfl rfl ?_
    refine ⟨trivial, ?_⟩
    show K1 [(0, .slice false (needs.map (lstAV intAV))), (3, .ptr ⟨b2, 0, none⟩), (4, .err 57 0), (7, .slice false (((groupsTo needs D needs.length).flatten).map intAV)), (8, .int .i64 (needs.length : Int))] (AMem.wth m [(b2, .cells [.slice true (needs.map (lstAV intAV))]), (b1, .cells [.slice true (([[0]] : List (List Int)).map (lstAV intAV))])])
    refine hK1 _ _ ?_; clear hK1 K1
    refine awp_reg2_seq [] [0, 3, 4, 7, 8, 9] (by decide) ?_
    intro K1 hK1
    refine ⟨trivial, ?_⟩
    refine ar_makeSlice rfl (m := m) (L := [(b2, .cells [.slice true (needs.map (lstAV intAV))]), (b1, .cells [.slice true (([[0]] : List (List Int)).map (lstAV intAV))])]) intAV 0 (needs.length : Int) rfl rfl rfl rfl rfl rfl rfl rfl (by omega) (by simp only [show Try.prog.bytesOf 3 = 8 from rfl]; omega) (by omega) ?_
    intro b3 hb3
    have hFb3 : m b3 = none := wth_none (m := m) (L := [(b2, .cells [.slice true (needs.map (lstAV intAV))]), (b1, .cells [.slice true (([[0]] : List (List Int)).map (lstAV intAV))])]) hb3
    have hNb3 : ([b3, b2, b1] : List Nat).Nodup := wth_nodup (m := m) (L := [(b2, .cells [.slice true (needs.map (lstAV intAV))]), (b1, .cells [.slice true (([[0]] : List (List Int)).map (lstAV intAV))])]) hb3 hNb2
    refine ⟨trivial, ?_⟩
    show K1 [(0, .slice false (needs.map (lstAV intAV))), (3, .ptr ⟨b2, 0, none⟩), (4, .err 57 0), (7, .slice false (((groupsTo needs D needs.length).flatten).map intAV)), (8, .int .i64 (needs.length : Int)), (9, .ms ⟨b3, 0, none⟩ (((needs.length : Int)).toNat) (((needs.length : Int)).toNat))] (AMem.wth m [(b3, .cells ((List.replicate ((needs.length : Int)).toNat 0).map intAV)), (b2, .cells [.slice true (needs.map (lstAV intAV))]), (b1, .cells [.slice true (([[0]] : List (List Int)).map (lstAV intAV))])])
    refine hK1 _ _ ?_; clear hK1 K1
    refine awp_seq_k ?_; intro K6 hK6
    refine awp_reg2_seq [] [0, 3, 4, 7, 8, 9, 10] (by decide) ?_
    intro K1 hK1
    refine ⟨trivial, ?_⟩
    show K1 [(0, .slice false (needs.map (lstAV intAV))), (3, .ptr ⟨b2, 0, none⟩), (4, .err 57 0), (7, .slice false (((groupsTo needs D needs.length).flatten).map intAV)), (8, .int .i64 (needs.length : Int)), (9, .ms ⟨b3, 0, none⟩ (((needs.length : Int)).toNat) (((needs.length : Int)).toNat)), (10, .int .i64 0)] (AMem.wth m [(b3, .cells ((List.replicate ((needs.length : Int)).toNat 0).map intAV)), (b2, .cells [.slice true (needs.map (lstAV intAV))]), (b1, .cells [.slice true (([[0]] : List (List Int)).map (lstAV intAV))])])
    refine hK1 _ _ ?_; clear hK1 K1
    refine awp_block ?_
    refine awp_keep [0, 3, 4, 7, 8, 9, 10] (by decide) ?_
    refine awp_loop_st (σ := Int × (List Int)) (fun ⟨i, pl⟩ => [(0, .slice false (needs.map (lstAV intAV))), (3, .ptr ⟨b2, 0, none⟩), (4, .err 57 0), (7, .slice false (((groupsTo needs D needs.length).flatten).map intAV)), (8, .int .i64 (needs.length : Int)), (9, .ms ⟨b3, 0, none⟩ (((needs.length : Int)).toNat) (((needs.length : Int)).toNat)), (10, .int .i64 i)]) (fun ⟨i, pl⟩ => (AMem.wth m [(b3, .cells (pl.map intAV)), (b2, .cells [.slice true (needs.map (lstAV intAV))]), (b1, .cells [.slice true (([[0]] : List (List Int)).map (lstAV intAV))])])) (fun ⟨i, pl⟩ => 0 ≤ i ∧ i ≤ needs.length ∧ pl.length = needs.length ∧ ∀ j, 0 ≤ j → j < i → gI pl j = -1) (fun ⟨i, pl⟩ => needs.length - i.toNat) (0, List.replicate ((needs.length : Int)).toNat 0) rfl rfl ?_ ?_
    · show 0 ≤ ((0 : Int)) ∧ ((0 : Int)) ≤ needs.length ∧ ((List.replicate ((needs.length : Int)).toNat 0 : (List Int))).length = needs.length ∧ ∀ j, 0 ≤ j → j < ((0 : Int)) → gI ((List.replicate ((needs.length : Int)).toNat 0 : (List Int))) j = -1
      exact ⟨by omega, by omega, by simp, fun j h0 h1 => by omega⟩
    · rintro ⟨i, pl⟩ hI
      replace hI : 0 ≤ i ∧ i ≤ needs.length ∧ pl.length = needs.length ∧ ∀ j, 0 ≤ j → j < i → gI pl j = -1 := hI
      show AWP _ _ _ _ [(0, .slice false (needs.map (lstAV intAV))), (3, .ptr ⟨b2, 0, none⟩), (4, .err 57 0), (7, .slice false (((groupsTo needs D needs.length).flatten).map intAV)), (8, .int .i64 (needs.length : Int)), (9, .ms ⟨b3, 0, none⟩ (((needs.length : Int)).toNat) (((needs.length : Int)).toNat)), (10, .int .i64 i)] (AMem.wth m [(b3, .cells (pl.map intAV)), (b2, .cells [.slice true (needs.map (lstAV intAV))]), (b1, .cells [.slice true (([[0]] : List (List Int)).map (lstAV intAV))])])
      refine awp_seq_k ?_; intro K7 hK7
      refine awp_reg2_seq [] [0, 3, 4, 7, 8, 9, 10, 63] (by decide) ?_
      intro K1 hK1
      refine ⟨trivial, trivial, trivial, ?_⟩
      show K1 [(0, .slice false (needs.map (lstAV intAV))), (3, .ptr ⟨b2, 0, none⟩), (4, .err 57 0), (7, .slice false (((groupsTo needs D needs.length).flatten).map intAV)), (8, .int .i64 (needs.length : Int)), (9, .ms ⟨b3, 0, none⟩ (((needs.length : Int)).toNat) (((needs.length : Int)).toNat)), (10, .int .i64 i), (63, .bool (decide (i < (needs.length : Int))))] (AMem.wth m [(b3, .cells (pl.map intAV)), (b2, .cells [.slice true (needs.map (lstAV intAV))]), (b1, .cells [.slice true (([[0]] : List (List Int)).map (lstAV intAV))])])
      refine hK1 _ _ ?_; clear hK1 K1
      refine awp_cond rfl rfl (fun h3 => ?_) (fun h3 => ?_)
      · replace h3 : i < (needs.length : Int) := (of_decide_eq_true h3)
        refine awp_skip ?_
        refine hK7 _ _ ?_; clear hK7
        refine awp_seq_k ?_; intro K8 hK8
        refine awp_block ?_
        refine awp_reg2 [] [0, 3, 4, 7, 8, 9, 10] (by decide) ?_
        intro K1 hK1
        refine ⟨trivial, trivial, ⟨rfl, (by omega), (by omega)⟩, ?_⟩
        refine ar_storem rfl 0 (m := m) (L := [(b3, .cells (pl.map intAV)), (b2, .cells [.slice true (needs.map (lstAV intAV))]), (b1, .cells [.slice true (([[0]] : List (List Int)).map (lstAV intAV))])]) intAV pl (-1) i rfl rfl rfl hNb3 rfl rfl rfl rfl rfl rfl (by omega) (by omega) ?_
        show K1 [(0, .slice false (needs.map (lstAV intAV))), (3, .ptr ⟨b2, 0, none⟩), (4, .err 57 0), (7, .slice false (((groupsTo needs D needs.length).flatten).map intAV)), (8, .int .i64 (needs.length : Int)), (9, .ms ⟨b3, 0, none⟩ (((needs.length : Int)).toNat) (((needs.length : Int)).toNat)), (10, .int .i64 i)] (AMem.wth m [(b3, .cells ((pl.set (i).toNat (-1)).map intAV)), (b2, .cells [.slice true (needs.map (lstAV intAV))]), (b1, .cells [.slice true (([[0]] : List (List Int)).map (lstAV intAV))])])
        refine hK1 _ _ ?_; clear hK1 K1
        refine hK8 _ _ ?_; clear hK8
        refine awp_reg2 [] [0, 3, 4, 7, 8, 9, 10] (by decide) ?_
        intro K1 hK1
        refine ⟨trivial, ?_⟩
        refine ar_add rfl (a := i) (b := 1) rfl rfl (by omega) (by omega) ?_
        refine ⟨trivial, ?_⟩
        show K1 [(0, .slice false (needs.map (lstAV intAV))), (3, .ptr ⟨b2, 0, none⟩), (4, .err 57 0), (7, .slice false (((groupsTo needs D needs.length).flatten).map intAV)), (8, .int .i64 (needs.length : Int)), (9, .ms ⟨b3, 0, none⟩ (((needs.length : Int)).toNat) (((needs.length : Int)).toNat)), (10, .int .i64 (i + 1))] (AMem.wth m [(b3, .cells ((pl.set (i).toNat (-1)).map intAV)), (b2, .cells [.slice true (needs.map (lstAV intAV))]), (b1, .cells [.slice true (([[0]] : List (List Int)).map (lstAV intAV))])])
        refine hK1 _ _ ?_; clear hK1 K1
        refine ⟨(i + 1, pl.set (i).toNat (-1)), rfl, rfl, ?_, ?_⟩
        · show 0 ≤ ((i + 1 : Int)) ∧ ((i + 1 : Int)) ≤ needs.length ∧ ((pl.set (i).toNat (-1) : (List Int))).length = needs.length ∧ ∀ j, 0 ≤ j → j < ((i + 1 : Int)) → gI ((pl.set (i).toNat (-1) : (List Int))) j = -1
          refine ⟨by omega, by omega, by simpa using hI.2.2.1, fun j h0 h1 => ?_⟩
          rw [gI_set hI.1 (by omega) h0]
          split
          · rfl
          · exact hI.2.2.2 j h0 (by omega)
        · show needs.length - ((i + 1 : Int)).toNat < needs.length - i.toNat
          omega
      · replace h3 : (needs.length : Int) ≤ i := (Int.not_lt.1 (of_decide_eq_false h3))
        refine awp_exit ?_
        refine hK6 _ _ ?_; clear hK6
        refine awp_seq_k ?_; intro K9 hK9
        refine awp_reg2_seq [] [0, 3, 4, 7, 8, 9, 11] (by decide) ?_
        intro K1 hK1
        refine ⟨trivial, ?_⟩
        show K1 [(0, .slice false (needs.map (lstAV intAV))), (3, .ptr ⟨b2, 0, none⟩), (4, .err 57 0), (7, .slice false (((groupsTo needs D needs.length).flatten).map intAV)), (8, .int .i64 (needs.length : Int)), (9, .ms ⟨b3, 0, none⟩ (((needs.length : Int)).toNat) (((needs.length : Int)).toNat)), (11, .int .i64 0)] (AMem.wth m [(b3, .cells (pl.map intAV)), (b2, .cells [.slice true (needs.map (lstAV intAV))]), (b1, .cells [.slice true (([[0]] : List (List Int)).map (lstAV intAV))])])
        refine hK1 _ _ ?_; clear hK1 K1
        refine awp_block ?_
        refine awp_keep [0, 3, 4, 7, 8, 9, 11] (by decide) ?_
        refine awp_loop_st (σ := Int × (List Int)) (fun ⟨k, p1⟩ => [(0, .slice false (needs.map (lstAV intAV))), (3, .ptr ⟨b2, 0, none⟩), (4, .err 57 0), (7, .slice false (((groupsTo needs D needs.length).flatten).map intAV)), (8, .int .i64 (needs.length : Int)), (9, .ms ⟨b3, 0, none⟩ (((needs.length : Int)).toNat) (((needs.length : Int)).toNat)), (11, .int .i64 k)]) (fun ⟨k, p1⟩ => (AMem.wth m [(b3, .cells (p1.map intAV)), (b2, .cells [.slice true (needs.map (lstAV intAV))]), (b1, .cells [.slice true (([[0]] : List (List Int)).map (lstAV intAV))])])) (fun ⟨k, p1⟩ => 0 ≤ k ∧ k ≤ ((groupsTo needs D needs.length).flatten).length ∧ PlI needs ((groupsTo needs D needs.length).flatten) p1 k) (fun ⟨k, p1⟩ => ((groupsTo needs D needs.length).flatten).length - k.toNat) (0, pl) rfl rfl ?_ ?_
        · show 0 ≤ ((0 : Int)) ∧ ((0 : Int)) ≤ ((groupsTo needs D needs.length).flatten).length ∧ PlI needs ((groupsTo needs D needs.length).flatten) ((pl : (List Int))) ((0 : Int))
          exact ⟨by omega, by omega, by omega, fun j hj => .inl (by have := hI.2.2.2 j hj.1 (by have := hj.2; omega); omega), fun q h0 h1 => by omega⟩
        · rintro ⟨k, p1⟩ hI2
          replace hI2 : 0 ≤ k ∧ k ≤ ((groupsTo needs D needs.length).flatten).length ∧ PlI needs ((groupsTo needs D needs.length).flatten) p1 k := hI2
          have hpl := hI2.2.2.len
          show AWP _ _ _ _ [(0, .slice false (needs.map (lstAV intAV))), (3, .ptr ⟨b2, 0, none⟩), (4, .err 57 0), (7, .slice false (((groupsTo needs D needs.length).flatten).map intAV)), (8, .int .i64 (needs.length : Int)), (9, .ms ⟨b3, 0, none⟩ (((needs.length : Int)).toNat) (((needs.length : Int)).toNat)), (11, .int .i64 k)] (AMem.wth m [(b3, .cells (p1.map intAV)), (b2, .cells [.slice true (needs.map (lstAV intAV))]), (b1, .cells [.slice true (([[0]] : List (List Int)).map (lstAV intAV))])])
          refine awp_seq_k ?_; intro K10 hK10
          refine awp_reg2_seq [] [0, 3, 4, 7, 8, 9, 11, 72] (by decide) ?_
          intro K1 hK1
          refine ⟨trivial, trivial, ?_⟩
          refine ar_len rfl intAV ((groupsTo needs D needs.length).flatten) rfl rfl rfl ?_
          refine ⟨trivial, ?_⟩
          show K1 [(0, .slice false (needs.map (lstAV intAV))), (3, .ptr ⟨b2, 0, none⟩), (4, .err 57 0), (7, .slice false (((groupsTo needs D needs.length).flatten).map intAV)), (8, .int .i64 (needs.length : Int)), (9, .ms ⟨b3, 0, none⟩ (((needs.length : Int)).toNat) (((needs.length : Int)).toNat)), (11, .int .i64 k), (72, .bool (decide (k < (((groupsTo needs D needs.length).flatten).length : Int))))] (AMem.wth m [(b3, .cells (p1.map intAV)), (b2, .cells [.slice true (needs.map (lstAV intAV))]), (b1, .cells [.slice true (([[0]] : List (List Int)).map (lstAV intAV))])])
          refine hK1 _ _ ?_; clear hK1 K1
          refine awp_cond rfl rfl (fun h4 => ?_) (fun h4 => ?_)
          · replace h4 : k < (((groupsTo needs D needs.length).flatten).length : Int) := (of_decide_eq_true h4)
            have hro := ho.rng k hI2.1 h4
            have hro1 := hro.1
            have hro2 := hro.2
            have hfr := hI2.2.2.fresh ho hI2.1 h4
            refine awp_skip ?_
            refine hK10 _ _ ?_; clear hK10
            refine awp_seq_k ?_; intro K11 hK11
            refine awp_block ?_
            refine awp_seq_k ?_; intro K12 hK12
            refine awp_reg2_seq [] [0, 3, 4, 7, 8, 9, 11, 97] (by decide) ?_
            intro K1 hK1
            suffices key : K1 [(0, .slice false (needs.map (lstAV intAV))), (3, .ptr ⟨b2, 0, none⟩), (4, .err 57 0), (7, .slice false (((groupsTo needs D needs.length).flatten).map intAV)), (8, .int .i64 (needs.length : Int)), (9, .ms ⟨b3, 0, none⟩ (((needs.length : Int)).toNat) (((needs.length : Int)).toNat)), (11, .int .i64 k), (97, .bool (((decide (gI ((groupsTo needs D needs.length).flatten) k < 0)) || (decide ((needs.length : Int) ≤ gI ((groupsTo needs D needs.length).flatten) k))) || (decide (0 ≤ gI p1 (gI ((groupsTo needs D needs.length).flatten) k)))))] (AMem.wth m [(b3, .cells (p1.map intAV)), (b2, .cells [.slice true (needs.map (lstAV intAV))]), (b1, .cells [.slice true (([[0]] : List (List Int)).map (lstAV intAV))])]) by
              refine ⟨trivial, trivial, ?_⟩
              refine ar_index rfl intAV ((groupsTo needs D needs.length).flatten) k rfl rfl rfl rfl rfl (by decide) (fun _ => rfl) (by omega) (by omega) ?_
              refine ⟨(apartOk_one rfl rfl (Nat.le_of_ble_eq_true rfl)), trivial, trivial, ?_⟩
              show aopsR _ _ _ _ _ [(80, .bool (decide (gI ((groupsTo needs D needs.length).flatten) k < 0))), (79, .bool (decide (gI ((groupsTo needs D needs.length).flatten) k < 0))), (78, .int .i64 (gI ((groupsTo needs D needs.length).flatten) k)), (77, .ref (AV.cells (.int .i64 (gI ((groupsTo needs D needs.length).flatten) k)))), (76, .int .i64 k), (75, .slice false (((groupsTo needs D needs.length).flatten).map intAV)), (0, .slice false (needs.map (lstAV intAV))), (3, .ptr ⟨b2, 0, none⟩), (4, .err 57 0), (7, .slice false (((groupsTo needs D needs.length).flatten).map intAV)), (8, .int .i64 (needs.length : Int)), (9, .ms ⟨b3, 0, none⟩ (((needs.length : Int)).toNat) (((needs.length : Int)).toNat)), (11, .int .i64 k), (72, .bool (decide (k < (((groupsTo needs D needs.length).flatten).length : Int))))] _
              revert key
              cases h5 : (decide (gI ((groupsTo needs D needs.length).flatten) k < 0))
              · replace h5 : 0 ≤ gI ((groupsTo needs D needs.length).flatten) k := (Int.not_lt.1 (of_decide_eq_false h5))
                intro key
                refine ⟨trivial, trivial, ?_⟩
                refine ar_index rfl intAV ((groupsTo needs D needs.length).flatten) k rfl rfl rfl rfl rfl (by decide) (fun _ => rfl) (by omega) (by omega) ?_
                refine ⟨(apartOk_one rfl rfl (Nat.le_of_ble_eq_true rfl)), trivial, trivial, ?_⟩
                refine ⟨trivial, ?_⟩
                show aopsR _ _ _ _ _ [(88, .bool (decide ((needs.length : Int) ≤ gI ((groupsTo needs D needs.length).flatten) k))), (87, .bool (decide ((needs.length : Int) ≤ gI ((groupsTo needs D needs.length).flatten) k))), (86, .bool (decide ((needs.length : Int) ≤ gI ((groupsTo needs D needs.length).flatten) k))), (85, .int .i64 (needs.length : Int)), (84, .int .i64 (gI ((groupsTo needs D needs.length).flatten) k)), (83, .ref (AV.cells (.int .i64 (gI ((groupsTo needs D needs.length).flatten) k)))), (82, .int .i64 k), (81, .slice false (((groupsTo needs D needs.length).flatten).map intAV)), (80, .bool false), (79, .bool false), (78, .int .i64 (gI ((groupsTo needs D needs.length).flatten) k)), (77, .ref (AV.cells (.int .i64 (gI ((groupsTo needs D needs.length).flatten) k)))), (76, .int .i64 k), (75, .slice false (((groupsTo needs D needs.length).flatten).map intAV)), (0, .slice false (needs.map (lstAV intAV))), (3, .ptr ⟨b2, 0, none⟩), (4, .err 57 0), (7, .slice false (((groupsTo needs D needs.length).flatten).map intAV)), (8, .int .i64 (needs.length : Int)), (9, .ms ⟨b3, 0, none⟩ (((needs.length : Int)).toNat) (((needs.length : Int)).toNat)), (11, .int .i64 k), (72, .bool (decide (k < (((groupsTo needs D needs.length).flatten).length : Int))))] _
                revert key
                cases h6 : (decide ((needs.length : Int) ≤ gI ((groupsTo needs D needs.length).flatten) k))
                · replace h6 : gI ((groupsTo needs D needs.length).flatten) k < (needs.length : Int) := (Int.not_le.1 (of_decide_eq_false h6))
                  intro key
                  refine ⟨trivial, trivial, trivial, ?_⟩
                  refine ar_index rfl intAV ((groupsTo needs D needs.length).flatten) k rfl rfl rfl rfl rfl (by decide) (fun _ => rfl) (by omega) (by omega) ?_
                  refine ⟨(apartOk_one rfl rfl (Nat.le_of_ble_eq_true rfl)), ⟨rfl, (by omega), (by omega)⟩, ?_⟩
                  refine ar_loadm rfl (m := m) (L := [(b3, .cells (p1.map intAV)), (b2, .cells [.slice true (needs.map (lstAV intAV))]), (b1, .cells [.slice true (([[0]] : List (List Int)).map (lstAV intAV))])]) intAV p1 (gI ((groupsTo needs D needs.length).flatten) k) rfl rfl (wth_get (m := m) (L := [(b3, .cells (p1.map intAV)), (b2, .cells [.slice true (needs.map (lstAV intAV))]), (b1, .cells [.slice true (([[0]] : List (List Int)).map (lstAV intAV))])]) 0 hNb3 rfl) rfl rfl rfl (fun _ => rfl) (by omega) (by omega) ?_
                  refine ⟨trivial, ?_⟩
                  exact key
                · replace h6 : (needs.length : Int) ≤ gI ((groupsTo needs D needs.length).flatten) k := (of_decide_eq_true h6)
                  intro key
                  refine ar_off rfl (ar_off rfl (ar_off rfl (ar_off rfl (ar_off rfl (ar_off rfl (ar_off rfl (ar_off rfl ?_)))))))
                  exact key
              · replace h5 : gI ((groupsTo needs D needs.length).flatten) k < 0 := (of_decide_eq_true h5)
                intro key
                refine ar_off rfl (ar_off rfl (ar_off rfl (ar_off rfl (ar_off rfl (ar_off rfl ?_)))))
                refine ⟨trivial, ?_⟩
                refine ar_off rfl (ar_off rfl (ar_off rfl (ar_off rfl (ar_off rfl (ar_off rfl (ar_off rfl (ar_off rfl ?_)))))))
                exact key
            refine hK1 _ _ ?_; clear hK1 K1
            refine awp_cond rfl rfl (fun h7 => ?_) (fun h7 => ?_)
            · replace h7 : ((gI ((groupsTo needs D needs.length).flatten) k < 0) ∨ ((needs.length : Int) ≤ gI ((groupsTo needs D needs.length).flatten) k)) ∨ (0 ≤ gI p1 (gI ((groupsTo needs D needs.length).flatten) k)) := ((borT h7).imp (fun q => ((borT q).imp (fun q => (of_decide_eq_true q)) (fun q => (of_decide_eq_true q)))) (fun q => (of_decide_eq_true q)))
              omega
            · replace h7 : ((0 ≤ gI ((groupsTo needs D needs.length).flatten) k) ∧ (gI ((groupsTo needs D needs.length).flatten) k < (needs.length : Int))) ∧ (gI p1 (gI ((groupsTo needs D needs.length).flatten) k) < 0) := ⟨⟨(Int.not_lt.1 (of_decide_eq_false (borL (borL h7)))), (Int.not_le.1 (of_decide_eq_false (borR (borL h7))))⟩, (Int.not_le.1 (of_decide_eq_false (borR h7)))⟩
              refine awp_skip ?_
              refine hK12 _ _ ?_; clear hK12
              refine awp_reg2 [] [0, 3, 4, 7, 8, 9, 11] (by decide) ?_
              intro K1 hK1
              refine ⟨trivial, trivial, trivial, ?_⟩
              refine ar_index rfl intAV ((groupsTo needs D needs.length).flatten) k rfl rfl rfl rfl rfl (by decide) (fun _ => rfl) (by omega) (by omega) ?_
              refine ⟨(apartOk_one rfl rfl (Nat.le_of_ble_eq_true rfl)), trivial, ⟨rfl, (by omega), (by omega)⟩, ?_⟩
              refine ar_storem rfl 0 (m := m) (L := [(b3, .cells (p1.map intAV)), (b2, .cells [.slice true (needs.map (lstAV intAV))]), (b1, .cells [.slice true (([[0]] : List (List Int)).map (lstAV intAV))])]) intAV p1 k (gI ((groupsTo needs D needs.length).flatten) k) rfl rfl rfl hNb3 rfl rfl rfl rfl rfl rfl (by omega) (by omega) ?_
              show K1 [(0, .slice false (needs.map (lstAV intAV))), (3, .ptr ⟨b2, 0, none⟩), (4, .err 57 0), (7, .slice false (((groupsTo needs D needs.length).flatten).map intAV)), (8, .int .i64 (needs.length : Int)), (9, .ms ⟨b3, 0, none⟩ (((needs.length : Int)).toNat) (((needs.length : Int)).toNat)), (11, .int .i64 k)] (AMem.wth m [(b3, .cells ((p1.set (gI ((groupsTo needs D needs.length).flatten) k).toNat k).map intAV)), (b2, .cells [.slice true (needs.map (lstAV intAV))]), (b1, .cells [.slice true (([[0]] : List (List Int)).map (lstAV intAV))])])
              refine hK1 _ _ ?_; clear hK1 K1
              refine hK11 _ _ ?_; clear hK11
              refine awp_reg2 [] [0, 3, 4, 7, 8, 9, 11] (by decide) ?_
              intro K1 hK1
              refine ⟨trivial, ?_⟩
              refine ar_add rfl (a := k) (b := 1) rfl rfl (by omega) (by omega) ?_
              refine ⟨trivial, ?_⟩
              show K1 [(0, .slice false (needs.map (lstAV intAV))), (3, .ptr ⟨b2, 0, none⟩), (4, .err 57 0), (7, .slice false (((groupsTo needs D needs.length).flatten).map intAV)), (8, .int .i64 (needs.length : Int)), (9, .ms ⟨b3, 0, none⟩ (((needs.length : Int)).toNat) (((needs.length : Int)).toNat)), (11, .int .i64 (k + 1))] (AMem.wth m [(b3, .cells ((p1.set (gI ((groupsTo needs D needs.length).flatten) k).toNat k).map intAV)), (b2, .cells [.slice true (needs.map (lstAV intAV))]), (b1, .cells [.slice true (([[0]] : List (List Int)).map (lstAV intAV))])])
              refine hK1 _ _ ?_; clear hK1 K1
              refine ⟨(k + 1, p1.set (gI ((groupsTo needs D needs.length).flatten) k).toNat k), rfl, rfl, ?_, ?_⟩
              · show 0 ≤ ((k + 1 : Int)) ∧ ((k + 1 : Int)) ≤ ((groupsTo needs D needs.length).flatten).length ∧ PlI needs ((groupsTo needs D needs.length).flatten) ((p1.set (gI ((groupsTo needs D needs.length).flatten) k).toNat k : (List Int))) ((k + 1 : Int))
                exact ⟨by omega, by omega, hI2.2.2.step ho hI2.1 h4⟩
              · show ((groupsTo needs D needs.length).flatten).length - ((k + 1 : Int)).toNat < ((groupsTo needs D needs.length).flatten).length - k.toNat
                omega
          · replace h4 : (((groupsTo needs D needs.length).flatten).length : Int) ≤ k := (Int.not_lt.1 (of_decide_eq_false h4))
            have hkl : k = ((groupsTo needs D needs.length).flatten).length := by omega
            have hP := hkl ▸ hI2.2.2
            refine awp_exit ?_
            refine hK9 _ _ ?_; clear hK9
            refine awp_seq_k ?_; intro K13 hK13
            refine awp_reg2_seq [] [0, 3, 4, 7, 8, 9, 106] (by decide) ?_
            intro K1 hK1
            refine ⟨trivial, ⟨rfl, rfl⟩, ?_⟩
            show K1 [(0, .slice false (needs.map (lstAV intAV))), (3, .ptr ⟨b2, 0, none⟩), (4, .err 57 0), (7, .slice false (((groupsTo needs D needs.length).flatten).map intAV)), (8, .int .i64 (needs.length : Int)), (9, .ms ⟨b3, 0, none⟩ (((needs.length : Int)).toNat) (((needs.length : Int)).toNat)), (106, .bool false)] (AMem.wth m [(b3, .cells (p1.map intAV)), (b2, .cells [.slice true (needs.map (lstAV intAV))]), (b1, .cells [.slice true (([[0]] : List (List Int)).map (lstAV intAV))])])
            refine hK1 _ _ ?_; clear hK1 K1
            refine awp_cond rfl rfl (fun hcz => ?_) (fun hcz => ?_)
            · cases hcz
            clear hcz
            refine awp_skip ?_
            refine hK13 _ _ ?_; clear hK13
            refine awp_seq_k ?_; intro K14 hK14
            refine awp_reg2_seq [] [0, 8, 9, 123] (by decide) ?_
            intro K1 hK1
            refine ⟨trivial, ?_⟩
            refine ar_len rfl intAV ((groupsTo needs D needs.length).flatten) rfl rfl rfl ?_
            refine ⟨trivial, trivial, ?_⟩
            show K1 [(0, .slice false (needs.map (lstAV intAV))), (8, .int .i64 (needs.length : Int)), (9, .ms ⟨b3, 0, none⟩ (((needs.length : Int)).toNat) (((needs.length : Int)).toNat)), (123, .bool (!((((groupsTo needs D needs.length).flatten).length : Int) == (needs.length : Int))))] (AMem.wth m [(b3, .cells (p1.map intAV)), (b2, .cells [.slice true (needs.map (lstAV intAV))]), (b1, .cells [.slice true (([[0]] : List (List Int)).map (lstAV intAV))])])
            refine hK1 _ _ ?_; clear hK1 K1
            refine awp_cond rfl rfl (fun h8 => ?_) (fun h8 => ?_)
            · replace h8 : (((groupsTo needs D needs.length).flatten).length : Int) ≠ (needs.length : Int) := (ne_of_beq_false (bnT h8))
              exact absurd (by omega) h8
            · replace h8 : (((groupsTo needs D needs.length).flatten).length : Int) = (needs.length : Int) := (eq_of_beq (bnF h8))
              refine awp_skip ?_
              refine hK14 _ _ ?_; clear hK14
              refine awp_seq_k ?_; intro K15 hK15
              refine awp_reg2_seq [] [0, 8, 9, 12] (by decide) ?_
              intro K1 hK1
              refine ⟨trivial, ?_⟩
              show K1 [(0, .slice false (needs.map (lstAV intAV))), (8, .int .i64 (needs.length : Int)), (9, .ms ⟨b3, 0, none⟩ (((needs.length : Int)).toNat) (((needs.length : Int)).toNat)), (12, .int .i64 0)] (AMem.wth m [(b3, .cells (p1.map intAV)), (b2, .cells [.slice true (needs.map (lstAV intAV))]), (b1, .cells [.slice true (([[0]] : List (List Int)).map (lstAV intAV))])])
              refine hK1 _ _ ?_; clear hK1 K1
              refine awp_block ?_
              refine awp_keep [0, 8, 9, 12] (by decide) ?_
              refine awp_loop_st (σ := Int) (fun u => [(0, .slice false (needs.map (lstAV intAV))), (8, .int .i64 (needs.length : Int)), (9, .ms ⟨b3, 0, none⟩ (((needs.length : Int)).toNat) (((needs.length : Int)).toNat)), (12, .int .i64 u)]) (fun _ => (AMem.wth m [(b3, .cells (p1.map intAV)), (b2, .cells [.slice true (needs.map (lstAV intAV))]), (b1, .cells [.slice true (([[0]] : List (List Int)).map (lstAV intAV))])])) (fun u => 0 ≤ u ∧ u ≤ needs.length) (fun u => needs.length - u.toNat) (0) rfl rfl ?_ ?_
              · show 0 ≤ ((0 : Int)) ∧ ((0 : Int)) ≤ needs.length
                first | omega | (refine ⟨?_, ?_⟩ <;> first | omega | simp) | simp
              · rintro u hI3
                replace hI3 : 0 ≤ u ∧ u ≤ needs.length := hI3
                show AWP _ _ _ _ [(0, .slice false (needs.map (lstAV intAV))), (8, .int .i64 (needs.length : Int)), (9, .ms ⟨b3, 0, none⟩ (((needs.length : Int)).toNat) (((needs.length : Int)).toNat)), (12, .int .i64 u)] (AMem.wth m [(b3, .cells (p1.map intAV)), (b2, .cells [.slice true (needs.map (lstAV intAV))]), (b1, .cells [.slice true (([[0]] : List (List Int)).map (lstAV intAV))])])
                refine awp_seq_k ?_; intro K16 hK16
                refine awp_reg2_seq [] [0, 8, 9, 12, 126] (by decide) ?_
                intro K1 hK1
                refine ⟨trivial, trivial, trivial, ?_⟩
                show K1 [(0, .slice false (needs.map (lstAV intAV))), (8, .int .i64 (needs.length : Int)), (9, .ms ⟨b3, 0, none⟩ (((needs.length : Int)).toNat) (((needs.length : Int)).toNat)), (12, .int .i64 u), (126, .bool (decide (u < (needs.length : Int))))] (AMem.wth m [(b3, .cells (p1.map intAV)), (b2, .cells [.slice true (needs.map (lstAV intAV))]), (b1, .cells [.slice true (([[0]] : List (List Int)).map (lstAV intAV))])])
                refine hK1 _ _ ?_; clear hK1 K1
                refine awp_cond rfl rfl (fun h9 => ?_) (fun h9 => ?_)
                · replace h9 : u < (needs.length : Int) := (of_decide_eq_true h9)
                  have hlw := hl1000 _ (gI_mem (l := needs) (i := u) hI3.1 h9)
                  refine awp_skip ?_
                  refine hK16 _ _ ?_; clear hK16
                  refine awp_seq_k ?_; intro K17 hK17
                  refine awp_block ?_
                  refine awp_reg2_seq [] [0, 8, 9, 12, 13] (by decide) ?_
                  intro K1 hK1
                  refine ⟨trivial, ?_⟩
                  show K1 [(0, .slice false (needs.map (lstAV intAV))), (8, .int .i64 (needs.length : Int)), (9, .ms ⟨b3, 0, none⟩ (((needs.length : Int)).toNat) (((needs.length : Int)).toNat)), (12, .int .i64 u), (13, .int .i64 0)] (AMem.wth m [(b3, .cells (p1.map intAV)), (b2, .cells [.slice true (needs.map (lstAV intAV))]), (b1, .cells [.slice true (([[0]] : List (List Int)).map (lstAV intAV))])])
                  refine hK1 _ _ ?_; clear hK1 K1
                  refine awp_block ?_
                  refine awp_keep [0, 8, 9, 12, 13] (by decide) ?_
                  refine awp_loop_st (σ := Int) (fun v => [(0, .slice false (needs.map (lstAV intAV))), (8, .int .i64 (needs.length : Int)), (9, .ms ⟨b3, 0, none⟩ (((needs.length : Int)).toNat) (((needs.length : Int)).toNat)), (12, .int .i64 u), (13, .int .i64 v)]) (fun _ => (AMem.wth m [(b3, .cells (p1.map intAV)), (b2, .cells [.slice true (needs.map (lstAV intAV))]), (b1, .cells [.slice true (([[0]] : List (List Int)).map (lstAV intAV))])])) (fun v => 0 ≤ v ∧ v ≤ (gI needs u).length) (fun v => (gI needs u).length - v.toNat) (0) rfl rfl ?_ ?_
                  · show 0 ≤ ((0 : Int)) ∧ ((0 : Int)) ≤ (gI needs u).length
                    first | omega | (refine ⟨?_, ?_⟩ <;> first | omega | simp) | simp
                  · rintro v hI4
                    replace hI4 : 0 ≤ v ∧ v ≤ (gI needs u).length := hI4
                    show AWP _ _ _ _ [(0, .slice false (needs.map (lstAV intAV))), (8, .int .i64 (needs.length : Int)), (9, .ms ⟨b3, 0, none⟩ (((needs.length : Int)).toNat) (((needs.length : Int)).toNat)), (12, .int .i64 u), (13, .int .i64 v)] (AMem.wth m [(b3, .cells (p1.map intAV)), (b2, .cells [.slice true (needs.map (lstAV intAV))]), (b1, .cells [.slice true (([[0]] : List (List Int)).map (lstAV intAV))])])
                    refine awp_seq_k ?_; intro K18 hK18
                    refine awp_reg2_seq [] [0, 8, 9, 12, 13, 135] (by decide) ?_
                    intro K1 hK1
                    refine ⟨trivial, trivial, trivial, ?_⟩
                    refine ar_index rfl (lstAV intAV) needs u rfl rfl rfl rfl rfl (by decide) (fun _ => rfl) (by omega) (by omega) ?_
                    refine ⟨(apartOk_one rfl rfl (Nat.le_of_ble_eq_true rfl)), ?_⟩
                    refine ar_len rfl intAV (gI needs u) rfl rfl rfl ?_
                    refine ⟨trivial, ?_⟩
                    show K1 [(0, .slice false (needs.map (lstAV intAV))), (8, .int .i64 (needs.length : Int)), (9, .ms ⟨b3, 0, none⟩ (((needs.length : Int)).toNat) (((needs.length : Int)).toNat)), (12, .int .i64 u), (13, .int .i64 v), (135, .bool (decide (v < ((gI needs u).length : Int))))] (AMem.wth m [(b3, .cells (p1.map intAV)), (b2, .cells [.slice true (needs.map (lstAV intAV))]), (b1, .cells [.slice true (([[0]] : List (List Int)).map (lstAV intAV))])])
                    refine hK1 _ _ ?_; clear hK1 K1
                    refine awp_cond rfl rfl (fun h10 => ?_) (fun h10 => ?_)
                    · replace h10 : v < ((gI needs u).length : Int) := (of_decide_eq_true h10)
                      have hg := okN_gI hok hI3.1 h9 hI4.1 h10
                      have hg1 := hg.1
                      have hg2 := hg.2
                      refine awp_skip ?_
                      refine hK18 _ _ ?_; clear hK18
                      refine awp_seq_k ?_; intro K19 hK19
                      refine awp_block ?_
                      refine awp_draw_seq Try.mixed [] [0, 8, 9, 12, 13, 152] (by decide) (by decide) ?_
                      intro K1 hK1
                      refine ⟨trivial, trivial, trivial, ?_⟩
                      refine pq_index rfl (lstAV intAV) needs u rfl rfl rfl rfl rfl (by decide) (fun _ => rfl) (by omega) (by omega) ?_
                      refine ⟨(apartOk_one rfl rfl (Nat.le_of_ble_eq_true rfl)), trivial, ?_⟩
                      refine pq_index rfl intAV (gI needs u) v rfl rfl rfl rfl rfl (by decide) (fun _ => rfl) (by omega) (by omega) ?_
                      refine ⟨(apartOk_one rfl rfl (Nat.le_of_ble_eq_true rfl)), ⟨rfl, (by omega), (by omega)⟩, ?_⟩
                      refine pq_loadm rfl (m := m) (L := [(b3, .cells (p1.map intAV)), (b2, .cells [.slice true (needs.map (lstAV intAV))]), (b1, .cells [.slice true (([[0]] : List (List Int)).map (lstAV intAV))])]) intAV p1 (gI (gI needs u) v) rfl rfl (wth_get (m := m) (L := [(b3, .cells (p1.map intAV)), (b2, .cells [.slice true (needs.map (lstAV intAV))]), (b1, .cells [.slice true (([[0]] : List (List Int)).map (lstAV intAV))])]) 0 hNb3 rfl) rfl rfl (fun _ => rfl) (by omega) (by omega) ?_
                      refine ⟨trivial, trivial, ⟨rfl, (by omega), (by omega)⟩, ?_⟩
                      refine pq_loadm rfl (m := m) (L := [(b3, .cells (p1.map intAV)), (b2, .cells [.slice true (needs.map (lstAV intAV))]), (b1, .cells [.slice true (([[0]] : List (List Int)).map (lstAV intAV))])]) intAV p1 u rfl rfl (wth_get (m := m) (L := [(b3, .cells (p1.map intAV)), (b2, .cells [.slice true (needs.map (lstAV intAV))]), (b1, .cells [.slice true (([[0]] : List (List Int)).map (lstAV intAV))])]) 0 hNb3 rfl) rfl rfl (fun _ => rfl) (by omega) (by omega) ?_
                      refine ⟨trivial, ?_⟩
                      show K1 [(0, .slice false (needs.map (lstAV intAV))), (8, .int .i64 (needs.length : Int)), (9, .ms ⟨b3, 0, none⟩ (((needs.length : Int)).toNat) (((needs.length : Int)).toNat)), (12, .int .i64 u), (13, .int .i64 v), (152, .bool (decide (gI p1 u ≤ gI p1 (gI (gI needs u) v))))] (AMem.wth m [(b3, .cells (p1.map intAV)), (b2, .cells [.slice true (needs.map (lstAV intAV))]), (b1, .cells [.slice true (([[0]] : List (List Int)).map (lstAV intAV))])])
                      refine hK1 _ _ ?_; clear hK1 K1
                      refine awp_cond rfl rfl (fun h11 => ?_) (fun h11 => ?_)
                      · replace h11 : gI p1 u ≤ gI p1 (gI (gI needs u) v) := (of_decide_eq_true h11)
                        have := hP.lt hD hok ho (i := u) ⟨hI3.1, h9⟩ (gI_mem hI4.1 h10)
                        omega
                      · replace h11 : gI p1 (gI (gI needs u) v) < gI p1 u := (Int.not_le.1 (of_decide_eq_false h11))
                        refine awp_skip ?_
                        refine hK19 _ _ ?_; clear hK19
                        refine awp_reg2 [] [0, 8, 9, 12, 13] (by decide) ?_
                        intro K1 hK1
                        refine ⟨trivial, ?_⟩
                        refine ar_add rfl (a := v) (b := 1) rfl rfl (by omega) (by omega) ?_
                        refine ⟨trivial, ?_⟩
                        show K1 [(0, .slice false (needs.map (lstAV intAV))), (8, .int .i64 (needs.length : Int)), (9, .ms ⟨b3, 0, none⟩ (((needs.length : Int)).toNat) (((needs.length : Int)).toNat)), (12, .int .i64 u), (13, .int .i64 (v + 1))] (AMem.wth m [(b3, .cells (p1.map intAV)), (b2, .cells [.slice true (needs.map (lstAV intAV))]), (b1, .cells [.slice true (([[0]] : List (List Int)).map (lstAV intAV))])])
                        refine hK1 _ _ ?_; clear hK1 K1
                        refine ⟨(v + 1), rfl, rfl, ?_, ?_⟩
                        · show 0 ≤ ((v + 1 : Int)) ∧ ((v + 1 : Int)) ≤ (gI needs u).length
                          (first | omega | (simp_all; done) | (simp_all; omega))
                        · show (gI needs u).length - ((v + 1 : Int)).toNat < (gI needs u).length - v.toNat
                          omega
                    · replace h10 : ((gI needs u).length : Int) ≤ v := (Int.not_lt.1 (of_decide_eq_false h10))
                      refine awp_exit ?_
                      refine hK17 _ _ ?_; clear hK17
                      refine awp_reg2 [] [0, 8, 9, 12] (by decide) ?_
                      intro K1 hK1
                      refine ⟨trivial, ?_⟩
                      refine ar_add rfl (a := u) (b := 1) rfl rfl (by omega) (by omega) ?_
                      refine ⟨trivial, ?_⟩
                      show K1 [(0, .slice false (needs.map (lstAV intAV))), (8, .int .i64 (needs.length : Int)), (9, .ms ⟨b3, 0, none⟩ (((needs.length : Int)).toNat) (((needs.length : Int)).toNat)), (12, .int .i64 (u + 1))] (AMem.wth m [(b3, .cells (p1.map intAV)), (b2, .cells [.slice true (needs.map (lstAV intAV))]), (b1, .cells [.slice true (([[0]] : List (List Int)).map (lstAV intAV))])])
                      refine hK1 _ _ ?_; clear hK1 K1
                      refine ⟨(u + 1), rfl, rfl, ?_, ?_⟩
                      · show 0 ≤ ((u + 1 : Int)) ∧ ((u + 1 : Int)) ≤ needs.length
                        (first | omega | (simp_all; done) | (simp_all; omega))
                      · show needs.length - ((u + 1 : Int)).toNat < needs.length - u.toNat
                        omega
                · replace h9 : (needs.length : Int) ≤ u := (Int.not_lt.1 (of_decide_eq_false h9))
                  refine awp_exit ?_
                  refine hK15 _ _ ?_; clear hK15
                  refine awp_reg2_seq [] [2] (by decide) ?_
                  intro K1 hK1
                  refine ⟨trivial, ?_⟩
                  show K1 [(2, .bool true)] (AMem.wth m [(b3, .cells (p1.map intAV)), (b2, .cells [.slice true (needs.map (lstAV intAV))]), (b1, .cells [.slice true (([[0]] : List (List Int)).map (lstAV intAV))])])
                  refine hK1 _ _ ?_; clear hK1 K1
                  refine awp_ret ?_
                  refine ⟨trivial, m, (wth_sub2 (m := m) [(b3, .cells (p1.map intAV)), (b2, .cells [.slice true (needs.map (lstAV intAV))]), (b1, .cells [.slice true (([[0]] : List (List Int)).map (lstAV intAV))])] [] hNb3 (by simp only [List.map_cons, List.map_nil, List.forall_mem_cons]; exact ⟨hFb3, hFb2, hFb1, fun _ h => by cases h⟩)), ?_⟩
                  show K (.bool true) m
                 
                  exact hK

set_option maxHeartbeats 4000000 in
theorem u_TopGraphB (needs : List (List Int)) (hE : newE needs = 0) (hc : ∃ U j, IsCyc needs U ∧ U j) (hw : wavesR needs = ([], 8)) (m : AMem)  (K : AV → AMem → Prop) (hK : K (.bool true) m) : ACalls Try.prog 5 [.slice false (needs.map (lstAV intAV))] m K := by
  have hz := newE_zero hE
  have hz1 := hz.1
  have hok := hz.2
  refine acalls_enter Try.func5 rfl (by decide) (Nat.le_of_ble_eq_true rfl) ?_
  show AWP _ _ _ _ [(0, .slice false (needs.map (lstAV intAV)))] m
  refine awp_reg2_seq [] [0] (by decide) ?_
  intro K1 hK1
  refine ⟨trivial, ?_⟩
  show K1 [(0, .slice false (needs.map (lstAV intAV)))] m
  refine hK1 _ _ ?_; clear hK1 K1
  refine awp_reg2_seq [] [0, 3, 4] (by decide) ?_
  intro K1 hK1
  refine ⟨⟨rfl, Nat.le_of_ble_eq_true rfl, rfl, Nat.le_of_ble_eq_true rfl, rfl, by simp only [List.forall_mem_cons]; exact ⟨⟨rfl, rfl⟩, fun _ h => by cases h⟩⟩, ⟨rfl, Nat.le_of_ble_eq_true rfl, rfl, Nat.le_of_ble_eq_true rfl, rfl, by simp only [List.forall_mem_cons]; exact ⟨⟨rfl, rfl⟩, fun _ h => by cases h⟩⟩, ?_⟩
  refine u_New_ok [[0]] (by decide) (by decide) (by decide) _ _ ?_
  intro b1 hb1
  have hFb1 : m b1 = none := wth_none (m := m) (L := []) hb1
  have hNb1 : ([b1] : List Nat).Nodup := wth_nodup (m := m) (L := []) hb1 List.nodup_nil
  show aopsR _ _ _ _ _ _ (AMem.wth m [(b1, .cells [.slice true (([[0]] : List (List Int)).map (lstAV intAV))])])
  refine ⟨trivial, (Nat.le_of_ble_eq_true rfl), (Nat.le_of_ble_eq_true rfl), trivial, trivial, ?_⟩
  show K1 [(0, .slice false (needs.map (lstAV intAV))), (3, .ptr ⟨b1, 0, none⟩), (4, .err 57 0)] (AMem.wth m [(b1, .cells [.slice true (([[0]] : List (List Int)).map (lstAV intAV))])])
  refine hK1 _ _ ?_; clear hK1 K1
  refine awp_seq_k ?_; intro K2 hK2
  refine awp_reg2_seq [] [0, 3, 25] (by decide) ?_
  intro K1 hK1
  suffices key : K1 [(0, .slice false (needs.map (lstAV intAV))), (3, .ptr ⟨b1, 0, none⟩), (25, .bool false)] (AMem.wth m [(b1, .cells [.slice true (([[0]] : List (List Int)).map (lstAV intAV))])]) by
    refine ⟨trivial, ⟨rfl, rfl⟩, trivial, trivial, rfl, ?_⟩
    exact key
  refine hK1 _ _ ?_; clear hK1 K1
  refine awp_cond rfl rfl (fun hcz => ?_) (fun hcz => ?_)
  · cases hcz
  clear hcz
  refine awp_skip ?_
  refine hK2 _ _ ?_; clear hK2
  refine awp_reg2_seq [] [0, 6] (by decide) ?_
  intro K1 hK1
  refine ⟨trivial, ?_⟩
  refine u_Waves_top b1 _ _ ?_
  show aopsR _ _ _ _ _ _ (AMem.wth m [(b1, .cells [.slice true (([[0]] : List (List Int)).map (lstAV intAV))])])
  refine ⟨trivial, (Nat.le_of_ble_eq_true rfl), (Nat.le_of_ble_eq_true rfl), trivial, trivial, ?_⟩
  show K1 [(0, .slice false (needs.map (lstAV intAV))), (6, .err 57 8)] (AMem.wth m [(b1, .cells [.slice true (([[0]] : List (List Int)).map (lstAV intAV))])])
  refine hK1 _ _ ?_; clear hK1 K1
  refine awp_seq_k ?_; intro K3 hK3
  refine awp_reg2_seq [] [0, 33] (by decide) ?_
  intro K1 hK1
  refine ⟨trivial, ?_⟩
  refine u_number 8 _ _ ?_
  refine ⟨trivial, ?_⟩
  show K1 [(0, .slice false (needs.map (lstAV intAV))), (33, .bool false)] (AMem.wth m [(b1, .cells [.slice true (([[0]] : List (List Int)).map (lstAV intAV))])])
  refine hK1 _ _ ?_; clear hK1 K1
  refine awp_cond rfl rfl (fun hcz => ?_) (fun hcz => ?_)
  · cases hcz
  clear hcz
  refine awp_skip ?_
  refine hK3 _ _ ?_; clear hK3
  refine awp_seq_k ?_; intro K4 hK4
  refine awp_reg2_seq [] [0, 41] (by decide) ?_
  intro K1 hK1
  suffices key : K1 [(0, .slice false (needs.map (lstAV intAV))), (41, .bool ((!(lightN needs)) || (decide (64 < (needs.length : Int)))))] (AMem.wth m [(b1, .cells [.slice true (([[0]] : List (List Int)).map (lstAV intAV))])]) by
    refine ⟨trivial, ?_⟩
    refine u_LightNeeds needs _ _ ?_
    refine ⟨trivial, trivial, ?_⟩
    show aopsR _ _ _ _ _ [(37, .bool (!(lightN needs))), (36, .bool (!(lightN needs))), (35, .bool (lightN needs)), (34, .slice false (needs.map (lstAV intAV))), (0, .slice false (needs.map (lstAV intAV))), (33, .bool false)] _
    revert key
    cases h1 : (lightN needs)
    · replace h1 : lightN needs = false := h1
      intro key
      refine ar_off rfl (ar_off rfl (ar_off rfl ?_))
      exact key
    · replace h1 : lightN needs = true := h1
      intro key
      refine ⟨trivial, ?_⟩
      refine ar_len rfl (lstAV intAV) needs rfl rfl rfl ?_
      refine ⟨trivial, ?_⟩
      exact key
  refine hK1 _ _ ?_; clear hK1 K1
  refine awp_cond rfl rfl (fun h2 => ?_) (fun h2 => ?_)
  · replace h2 : (lightN needs = false) ∨ (64 < (needs.length : Int)) := ((borT h2).imp (fun q => (bnT q)) (fun q => (of_decide_eq_true q)))
    refine awp_reg2_seq [] [2] (by decide) ?_
    intro K1 hK1
    refine ⟨trivial, ?_⟩
    show K1 [(2, .bool true)] (AMem.wth m [(b1, .cells [.slice true (([[0]] : List (List Int)).map (lstAV intAV))])])
    refine hK1 _ _ ?_; clear hK1 K1
    refine awp_ret ?_
    refine ⟨trivial, m, (wth_sub2 (m := m) [(b1, .cells [.slice true (([[0]] : List (List Int)).map (lstAV intAV))])] [] hNb1 (by simp only [List.map_cons, List.map_nil, List.forall_mem_cons]; exact ⟨hFb1, fun _ h => by cases h⟩)), ?_⟩
    show K (.bool true) m
   
    exact hK
  · replace h2 : (lightN needs = true) ∧ ((needs.length : Int) ≤ 64) := ⟨(bnF (borL h2)), (Int.not_lt.1 (of_decide_eq_false (borR h2)))⟩
    have hlg := light_facts h2.1
    have hlg1 := hlg.1
    have hl1000 := light_1000 h2.1
    refine awp_skip ?_
    refine hK4 _ _ ?_; clear hK4
    refine awp_reg2_seq [] [0, 3, 4] (by decide) ?_
    intro K1 hK1
    refine ⟨trivial, ?_⟩
    refine u_New_ok needs hE (by omega) hlg.2 _ _ ?_
    intro b2 hb2
    have hFb2 : m b2 = none := wth_none (m := m) (L := [(b1, .cells [.slice true (([[0]] : List (List Int)).map (lstAV intAV))])]) hb2
    have hNb2 : ([b2, b1] : List Nat).Nodup := wth_nodup (m := m) (L := [(b1, .cells [.slice true (([[0]] : List (List Int)).map (lstAV intAV))])]) hb2 hNb1
    show aopsR _ _ _ _ _ _ (AMem.wth m [(b2, .cells [.slice true (needs.map (lstAV intAV))]), (b1, .cells [.slice true (([[0]] : List (List Int)).map (lstAV intAV))])])
    refine ⟨trivial, (Nat.le_of_ble_eq_true rfl), (Nat.le_of_ble_eq_true rfl), trivial, trivial, ?_⟩
    show K1 [(0, .slice false (needs.map (lstAV intAV))), (3, .ptr ⟨b2, 0, none⟩), (4, .err 57 0)] (AMem.wth m [(b2, .cells [.slice true (needs.map (lstAV intAV))]), (b1, .cells [.slice true (([[0]] : List (List Int)).map (lstAV intAV))])])
    refine hK1 _ _ ?_; clear hK1 K1
    refine awp_seq_k ?_; intro K5 hK5
    refine awp_reg2_seq [] [0, 3, 4, 48] (by decide) ?_
    intro K1 hK1
    refine ⟨trivial, ⟨rfl, rfl⟩, ?_⟩
    show K1 [(0, .slice false (needs.map (lstAV intAV))), (3, .ptr ⟨b2, 0, none⟩), (4, .err 57 0), (48, .bool false)] (AMem.wth m [(b2, .cells [.slice true (needs.map (lstAV intAV))]), (b1, .cells [.slice true (([[0]] : List (List Int)).map (lstAV intAV))])])
    refine hK1 _ _ ?_; clear hK1 K1
    refine awp_cond rfl rfl (fun hcz => ?_) (fun hcz => ?_)
    · cases hcz
    clear hcz
    refine awp_skip ?_
    refine hK5 _ _ ?_; clear hK5
    refine awp_reg2_seq [] [0, 3, 4, 7] (by decide) ?_
    intro K1 hK1
    refine ⟨trivial, ?_⟩
    refine ar_mem (wth_split (m := m) (L := [(b2, .cells [.slice true (needs.map (lstAV intAV))]), (b1, .cells [.slice true (([[0]] : List (List Int)).map (lstAV intAV))])]) (L1 := [(b2, .cells [.slice true (needs.map (lstAV intAV))])]) (L2 := [(b1, .cells [.slice true (([[0]] : List (List Int)).map (lstAV intAV))])]) hNb2 (List.Perm.trans (show List.Perm ([(b2, .cells [.slice true (needs.map (lstAV intAV))]), (b1, .cells [.slice true (([[0]] : List (List Int)).map (lstAV intAV))])] : List (Nat × AObj)) (((b2, .cells [.slice true (needs.map (lstAV intAV))]) : Nat × AObj) :: (([] : List (Nat × AObj)) ++ ([(b1, .cells [.slice true (([[0]] : List (List Int)).map (lstAV intAV))])] : List (Nat × AObj)))) from List.perm_middle (l₁ := ([] : List (Nat × AObj))) (a := ((b2, .cells [.slice true (needs.map (lstAV intAV))]) : Nat × AObj)) (l₂ := ([(b1, .cells [.slice true (([[0]] : List (List Int)).map (lstAV intAV))])] : List (Nat × AObj)))) (List.Perm.cons _ (List.Perm.refl _)))) ?_
    refine u_OrderT b2 needs hok hz1 hlg.2 hw _ _ ?_
    show aopsR _ _ _ _ _ _ (AMem.wth (AMem.wth m [(b1, .cells [.slice true (([[0]] : List (List Int)).map (lstAV intAV))])]) [(b2, .cells [.slice true (needs.map (lstAV intAV))])])
    refine ar_mem (wth_split (m := m) (L := [(b2, .cells [.slice true (needs.map (lstAV intAV))]), (b1, .cells [.slice true (([[0]] : List (List Int)).map (lstAV intAV))])]) (L1 := [(b2, .cells [.slice true (needs.map (lstAV intAV))])]) (L2 := [(b1, .cells [.slice true (([[0]] : List (List Int)).map (lstAV intAV))])]) hNb2 (List.Perm.trans (show List.Perm ([(b2, .cells [.slice true (needs.map (lstAV intAV))]), (b1, .cells [.slice true (([[0]] : List (List Int)).map (lstAV intAV))])] : List (Nat × AObj)) (((b2, .cells [.slice true (needs.map (lstAV intAV))]) : Nat × AObj) :: (([] : List (Nat × AObj)) ++ ([(b1, .cells [.slice true (([[0]] : List (List Int)).map (lstAV intAV))])] : List (Nat × AObj)))) from List.perm_middle (l₁ := ([] : List (Nat × AObj))) (a := ((b2, .cells [.slice true (needs.map (lstAV intAV))]) : Nat × AObj)) (l₂ := ([(b1, .cells [.slice true (([[0]] : List (List Int)).map (lstAV intAV))])] : List (Nat × AObj)))) (List.Perm.cons _ (List.Perm.refl _)))).symm ?_
    refine ⟨trivial, (Nat.le_of_ble_eq_true rfl), (Nat.le_of_ble_eq_true rfl), trivial, trivial, ?_⟩
    show K1 [(0, .slice false (needs.map (lstAV intAV))), (3, .ptr ⟨b2, 0, none⟩), (4, .err 57 8), (7, .slice false (([] : List Int).map intAV))] (AMem.wth m [(b2, .cells [.slice true (needs.map (lstAV intAV))]), (b1, .cells [.slice true (([[0]] : List (List Int)).map (lstAV intAV))])])
    refine hK1 _ _ ?_; clear hK1 K1
    refine awp_reg2_seq [] [0, 3, 4, 7, 8] (by decide) ?_
    intro K1 hK1
    refine ⟨trivial, ?_⟩
    refine ar_len rfl (lstAV intAV) needs rfl rfl rfl ?_
    refine ⟨trivial, ?_⟩
    show K1 [(0, .slice false (needs.map (lstAV intAV))), (3, .ptr ⟨b2, 0, none⟩), (4, .err 57 8), (7, .slice false (([] : List Int).map intAV)), (8, .int .i64 (needs.length : Int))] (AMem.wth m [(b2, .cells [.slice true (needs.map (lstAV intAV))]), (b1, .cells [.slice true (([[0]] : List (List Int)).map (lstAV intAV))])])
    refine hK1 _ _ ?_; clear hK1 K1
    refine awp_reg2_seq [] [0, 3, 4, 7, 8, 9] (by decide) ?_
    intro K1 hK1
    refine ⟨trivial, ?_⟩
    refine ar_makeSlice rfl (m := m) (L := [(b2, .cells [.slice true (needs.map (lstAV intAV))]), (b1, .cells [.slice true (([[0]] : List (List Int)).map (lstAV intAV))])]) intAV 0 (needs.length : Int) rfl rfl rfl rfl rfl rfl rfl rfl (by omega) (by simp only [show Try.prog.bytesOf 3 = 8 from rfl]; omega) (by omega) ?_
    intro b3 hb3
    have hFb3 : m b3 = none := wth_none (m := m) (L := [(b2, .cells [.slice true (needs.map (lstAV intAV))]), (b1, .cells [.slice true (([[0]] : List (List Int)).map (lstAV intAV))])]) hb3
    have hNb3 : ([b3, b2, b1] : List Nat).Nodup := wth_nodup (m := m) (L := [(b2, .cells [.slice true (needs.map (lstAV intAV))]), (b1, .cells [.slice true (([[0]] : List (List Int)).map (lstAV intAV))])]) hb3 hNb2
    refine ⟨trivial, ?_⟩
    show K1 [(0, .slice false (needs.map (lstAV intAV))), (3, .ptr ⟨b2, 0, none⟩), (4, .err 57 8), (7, .slice false (([] : List Int).map intAV)), (8, .int .i64 (needs.length : Int)), (9, .ms ⟨b3, 0, none⟩ (((needs.length : Int)).toNat) (((needs.length : Int)).toNat))] (AMem.wth m [(b3, .cells ((List.replicate ((needs.length : Int)).toNat 0).map intAV)), (b2, .cells [.slice true (needs.map (lstAV intAV))]), (b1, .cells [.slice true (([[0]] : List (List Int)).map (lstAV intAV))])])
    refine hK1 _ _ ?_; clear hK1 K1
    refine awp_seq_k ?_; intro K6 hK6
    refine awp_reg2_seq [] [0, 3, 4, 7, 8, 9, 10] (by decide) ?_
    intro K1 hK1
    refine ⟨trivial, ?_⟩
    show K1 [(0, .slice false (needs.map (lstAV intAV))), (3, .ptr ⟨b2, 0, none⟩), (4, .err 57 8), (7, .slice false (([] : List Int).map intAV)), (8, .int .i64 (needs.length : Int)), (9, .ms ⟨b3, 0, none⟩ (((needs.length : Int)).toNat) (((needs.length : Int)).toNat)), (10, .int .i64 0)] (AMem.wth m [(b3, .cells ((List.replicate ((needs.length : Int)).toNat 0).map intAV)), (b2, .cells [.slice true (needs.map (lstAV intAV))]), (b1, .cells [.slice true (([[0]] : List (List Int)).map (lstAV intAV))])])
    refine hK1 _ _ ?_; clear hK1 K1
    refine awp_block ?_
    refine awp_keep [0, 3, 4, 7, 8, 9, 10] (by decide) ?_
    refine awp_loop_st (σ := Int × (List Int)) (fun ⟨i, pl⟩ => [(0, .slice false (needs.map (lstAV intAV))), (3, .ptr ⟨b2, 0, none⟩), (4, .err 57 8), (7, .slice false (([] : List Int).map intAV)), (8, .int .i64 (needs.length : Int)), (9, .ms ⟨b3, 0, none⟩ (((needs.length : Int)).toNat) (((needs.length : Int)).toNat)), (10, .int .i64 i)]) (fun ⟨i, pl⟩ => (AMem.wth m [(b3, .cells (pl.map intAV)), (b2, .cells [.slice true (needs.map (lstAV intAV))]), (b1, .cells [.slice true (([[0]] : List (List Int)).map (lstAV intAV))])])) (fun ⟨i, pl⟩ => 0 ≤ i ∧ i ≤ needs.length ∧ pl.length = needs.length ∧ ∀ j, 0 ≤ j → j < i → gI pl j = -1) (fun ⟨i, pl⟩ => needs.length - i.toNat) (0, List.replicate ((needs.length : Int)).toNat 0) rfl rfl ?_ ?_
    · show 0 ≤ ((0 : Int)) ∧ ((0 : Int)) ≤ needs.length ∧ ((List.replicate ((needs.length : Int)).toNat 0 : (List Int))).length = needs.length ∧ ∀ j, 0 ≤ j → j < ((0 : Int)) → gI ((List.replicate ((needs.length : Int)).toNat 0 : (List Int))) j = -1
      exact ⟨by omega, by omega, by simp, fun j h0 h1 => by omega⟩
    · rintro ⟨i, pl⟩ hI
      replace hI : 0 ≤ i ∧ i ≤ needs.length ∧ pl.length = needs.length ∧ ∀ j, 0 ≤ j → j < i → gI pl j = -1 := hI
      show AWP _ _ _ _ [(0, .slice false (needs.map (lstAV intAV))), (3, .ptr ⟨b2, 0, none⟩), (4, .err 57 8), (7, .slice false (([] : List Int).map intAV)), (8, .int .i64 (needs.length : Int)), (9, .ms ⟨b3, 0, none⟩ (((needs.length : Int)).toNat) (((needs.length : Int)).toNat)), (10, .int .i64 i)] (AMem.wth m [(b3, .cells (pl.map intAV)), (b2, .cells [.slice true (needs.map (lstAV intAV))]), (b1, .cells [.slice true (([[0]] : List (List Int)).map (lstAV intAV))])])
      refine awp_seq_k ?_; intro K7 hK7
      refine awp_reg2_seq [] [0, 3, 4, 7, 8, 9, 10, 63] (by decide) ?_
      intro K1 hK1
      refine ⟨trivial, trivial, trivial, ?_⟩
      show K1 [(0, .slice false (needs.map (lstAV intAV))), (3, .ptr ⟨b2, 0, none⟩), (4, .err 57 8), (7, .slice false (([] : List Int).map intAV)), (8, .int .i64 (needs.length : Int)), (9, .ms ⟨b3, 0, none⟩ (((needs.length : Int)).toNat) (((needs.length : Int)).toNat)), (10, .int .i64 i), (63, .bool (decide (i < (needs.length : Int))))] (AMem.wth m [(b3, .cells (pl.map intAV)), (b2, .cells [.slice true (needs.map (lstAV intAV))]), (b1, .cells [.slice true (([[0]] : List (List Int)).map (lstAV intAV))])])
      refine hK1 _ _ ?_; clear hK1 K1
      refine awp_cond rfl rfl (fun h3 => ?_) (fun h3 => ?_)
      · replace h3 : i < (needs.length : Int) := (of_decide_eq_true h3)
        refine awp_skip ?_
        refine hK7 _ _ ?_; clear hK7
        refine awp_seq_k ?_; intro K8 hK8
        refine awp_block ?_
        refine awp_reg2 [] [0, 3, 4, 7, 8, 9, 10] (by decide) ?_
        intro K1 hK1
        refine ⟨trivial, trivial, ⟨rfl, (by omega), (by omega)⟩, ?_⟩
        refine ar_storem rfl 0 (m := m) (L := [(b3, .cells (pl.map intAV)), (b2, .cells [.slice true (needs.map (lstAV intAV))]), (b1, .cells [.slice true (([[0]] : List (List Int)).map (lstAV intAV))])]) intAV pl (-1) i rfl rfl rfl hNb3 rfl rfl rfl rfl rfl rfl (by omega) (by omega) ?_
        show K1 [(0, .slice false (needs.map (lstAV intAV))), (3, .ptr ⟨b2, 0, none⟩), (4, .err 57 8), (7, .slice false (([] : List Int).map intAV)), (8, .int .i64 (needs.length : Int)), (9, .ms ⟨b3, 0, none⟩ (((needs.length : Int)).toNat) (((needs.length : Int)).toNat)), (10, .int .i64 i)] (AMem.wth m [(b3, .cells ((pl.set (i).toNat (-1)).map intAV)), (b2, .cells [.slice true (needs.map (lstAV intAV))]), (b1, .cells [.slice true (([[0]] : List (List Int)).map (lstAV intAV))])])
        refine hK1 _ _ ?_; clear hK1 K1
        refine hK8 _ _ ?_; clear hK8
        refine awp_reg2 [] [0, 3, 4, 7, 8, 9, 10] (by decide) ?_
        intro K1 hK1
        refine ⟨trivial, ?_⟩
        refine ar_add rfl (a := i) (b := 1) rfl rfl (by omega) (by omega) ?_
        refine ⟨trivial, ?_⟩
        show K1 [(0, .slice false (needs.map (lstAV intAV))), (3, .ptr ⟨b2, 0, none⟩), (4, .err 57 8), (7, .slice false (([] : List Int).map intAV)), (8, .int .i64 (needs.length : Int)), (9, .ms ⟨b3, 0, none⟩ (((needs.length : Int)).toNat) (((needs.length : Int)).toNat)), (10, .int .i64 (i + 1))] (AMem.wth m [(b3, .cells ((pl.set (i).toNat (-1)).map intAV)), (b2, .cells [.slice true (needs.map (lstAV intAV))]), (b1, .cells [.slice true (([[0]] : List (List Int)).map (lstAV intAV))])])
        refine hK1 _ _ ?_; clear hK1 K1
        refine ⟨(i + 1, pl.set (i).toNat (-1)), rfl, rfl, ?_, ?_⟩
        · show 0 ≤ ((i + 1 : Int)) ∧ ((i + 1 : Int)) ≤ needs.length ∧ ((pl.set (i).toNat (-1) : (List Int))).length = needs.length ∧ ∀ j, 0 ≤ j → j < ((i + 1 : Int)) → gI ((pl.set (i).toNat (-1) : (List Int))) j = -1
          refine ⟨by omega, by omega, by simpa using hI.2.2.1, fun j h0 h1 => ?_⟩
          rw [gI_set hI.1 (by omega) h0]
          split
          · rfl
          · exact hI.2.2.2 j h0 (by omega)
        · show needs.length - ((i + 1 : Int)).toNat < needs.length - i.toNat
          omega
      · replace h3 : (needs.length : Int) ≤ i := (Int.not_lt.1 (of_decide_eq_false h3))
        refine awp_exit ?_
        refine hK6 _ _ ?_; clear hK6
        refine awp_seq_k ?_; intro K9 hK9
        refine awp_reg2_seq [] [0, 3, 4, 7, 8, 9, 11] (by decide) ?_
        intro K1 hK1
        refine ⟨trivial, ?_⟩
        show K1 [(0, .slice false (needs.map (lstAV intAV))), (3, .ptr ⟨b2, 0, none⟩), (4, .err 57 8), (7, .slice false (([] : List Int).map intAV)), (8, .int .i64 (needs.length : Int)), (9, .ms ⟨b3, 0, none⟩ (((needs.length : Int)).toNat) (((needs.length : Int)).toNat)), (11, .int .i64 0)] (AMem.wth m [(b3, .cells (pl.map intAV)), (b2, .cells [.slice true (needs.map (lstAV intAV))]), (b1, .cells [.slice true (([[0]] : List (List Int)).map (lstAV intAV))])])
        refine hK1 _ _ ?_; clear hK1 K1
        refine awp_block ?_
        refine awp_keep [0, 3, 4, 7, 8, 9, 11] (by decide) ?_
        refine awp_loop_st (σ := Int × (List Int)) (fun ⟨k, p1⟩ => [(0, .slice false (needs.map (lstAV intAV))), (3, .ptr ⟨b2, 0, none⟩), (4, .err 57 8), (7, .slice false (([] : List Int).map intAV)), (8, .int .i64 (needs.length : Int)), (9, .ms ⟨b3, 0, none⟩ (((needs.length : Int)).toNat) (((needs.length : Int)).toNat)), (11, .int .i64 k)]) (fun ⟨k, p1⟩ => (AMem.wth m [(b3, .cells (p1.map intAV)), (b2, .cells [.slice true (needs.map (lstAV intAV))]), (b1, .cells [.slice true (([[0]] : List (List Int)).map (lstAV intAV))])])) (fun ⟨k, p1⟩ => k = 0) (fun ⟨k, p1⟩ => 0) (0, pl) rfl rfl ?_ ?_
        · show ((0 : Int)) = 0
          first | omega | (refine ⟨?_, ?_⟩ <;> first | omega | simp) | simp
        · rintro ⟨k, p1⟩ hI2
          replace hI2 : k = 0 := hI2
          show AWP _ _ _ _ [(0, .slice false (needs.map (lstAV intAV))), (3, .ptr ⟨b2, 0, none⟩), (4, .err 57 8), (7, .slice false (([] : List Int).map intAV)), (8, .int .i64 (needs.length : Int)), (9, .ms ⟨b3, 0, none⟩ (((needs.length : Int)).toNat) (((needs.length : Int)).toNat)), (11, .int .i64 k)] (AMem.wth m [(b3, .cells (p1.map intAV)), (b2, .cells [.slice true (needs.map (lstAV intAV))]), (b1, .cells [.slice true (([[0]] : List (List Int)).map (lstAV intAV))])])
          refine awp_seq_k ?_; intro K10 hK10
          refine awp_reg2_seq [] [0, 3, 4, 7, 8, 9, 11, 72] (by decide) ?_
          intro K1 hK1
          refine ⟨trivial, trivial, ?_⟩
          refine ar_len rfl intAV ([] : List Int) rfl rfl rfl ?_
          refine ⟨trivial, ?_⟩
          show K1 [(0, .slice false (needs.map (lstAV intAV))), (3, .ptr ⟨b2, 0, none⟩), (4, .err 57 8), (7, .slice false (([] : List Int).map intAV)), (8, .int .i64 (needs.length : Int)), (9, .ms ⟨b3, 0, none⟩ (((needs.length : Int)).toNat) (((needs.length : Int)).toNat)), (11, .int .i64 k), (72, .bool (decide (k < (([] : List Int).length : Int))))] (AMem.wth m [(b3, .cells (p1.map intAV)), (b2, .cells [.slice true (needs.map (lstAV intAV))]), (b1, .cells [.slice true (([[0]] : List (List Int)).map (lstAV intAV))])])
          refine hK1 _ _ ?_; clear hK1 K1
          refine awp_cond rfl rfl (fun h4 => ?_) (fun h4 => ?_)
          · replace h4 : k < (([] : List Int).length : Int) := (of_decide_eq_true h4)
            exact absurd h4 (by rw [hI2]; decide)
          · replace h4 : (([] : List Int).length : Int) ≤ k := (Int.not_lt.1 (of_decide_eq_false h4))
            refine awp_exit ?_
            refine hK9 _ _ ?_; clear hK9
            refine awp_seq_k ?_; intro K11 hK11
            refine awp_reg2_seq [] [0, 3, 4, 7, 8, 9, 106] (by decide) ?_
            intro K1 hK1
            refine ⟨trivial, ⟨rfl, rfl⟩, ?_⟩
            show K1 [(0, .slice false (needs.map (lstAV intAV))), (3, .ptr ⟨b2, 0, none⟩), (4, .err 57 8), (7, .slice false (([] : List Int).map intAV)), (8, .int .i64 (needs.length : Int)), (9, .ms ⟨b3, 0, none⟩ (((needs.length : Int)).toNat) (((needs.length : Int)).toNat)), (106, .bool true)] (AMem.wth m [(b3, .cells (p1.map intAV)), (b2, .cells [.slice true (needs.map (lstAV intAV))]), (b1, .cells [.slice true (([[0]] : List (List Int)).map (lstAV intAV))])])
            refine hK1 _ _ ?_; clear hK1 K1
            refine awp_cond rfl rfl (fun hcz => ?_) (fun hcz => ?_)
            rotate_left; · cases hcz
            clear hcz
            refine awp_reg2_seq [] [2] (by decide) ?_
            intro K1 hK1
            suffices key : K1 [(2, .bool ((([] : List Int).length : Int) == 0))] (AMem.wth m [(b3, .cells (p1.map intAV)), (b2, .cells [.slice true (needs.map (lstAV intAV))]), (b1, .cells [.slice true (([[0]] : List (List Int)).map (lstAV intAV))])]) by
              refine ⟨trivial, ?_⟩
              refine ar_len rfl intAV ([] : List Int) rfl rfl rfl ?_
              refine ⟨trivial, trivial, ?_⟩
              show aopsR _ _ _ _ _ [(110, .bool ((([] : List Int).length : Int) == 0)), (109, .bool ((([] : List Int).length : Int) == 0)), (108, .int .i64 (([] : List Int).length : Int)), (107, .slice false (([] : List Int).map intAV)), (0, .slice false (needs.map (lstAV intAV))), (3, .ptr ⟨b2, 0, none⟩), (4, .err 57 8), (7, .slice false (([] : List Int).map intAV)), (8, .int .i64 (needs.length : Int)), (9, .ms ⟨b3, 0, none⟩ (((needs.length : Int)).toNat) (((needs.length : Int)).toNat)), (106, .bool true)] _
              revert key
              cases h5 : ((([] : List Int).length : Int) == 0)
              · replace h5 : (([] : List Int).length : Int) ≠ 0 := (ne_of_beq_false h5)
                intro key
                refine ar_off rfl (ar_off rfl (ar_off rfl ?_))
                refine ⟨trivial, ?_⟩
                refine ar_off rfl (ar_off rfl (ar_off rfl ?_))
                refine ⟨trivial, ?_⟩
                exact key
              · replace h5 : (([] : List Int).length : Int) = 0 := (eq_of_beq h5)
                intro key
                refine ⟨trivial, ?_⟩
                refine u_number 8 _ _ ?_
                refine ⟨trivial, ?_⟩
                refine ⟨trivial, trivial, trivial, ?_⟩
                refine ar_mem (wth_split (m := m) (L := [(b3, .cells (p1.map intAV)), (b2, .cells [.slice true (needs.map (lstAV intAV))]), (b1, .cells [.slice true (([[0]] : List (List Int)).map (lstAV intAV))])]) (L1 := [(b2, .cells [.slice true (needs.map (lstAV intAV))])]) (L2 := [(b3, .cells (p1.map intAV)), (b1, .cells [.slice true (([[0]] : List (List Int)).map (lstAV intAV))])]) hNb3 (List.Perm.trans (show List.Perm ([(b3, .cells (p1.map intAV)), (b2, .cells [.slice true (needs.map (lstAV intAV))]), (b1, .cells [.slice true (([[0]] : List (List Int)).map (lstAV intAV))])] : List (Nat × AObj)) (((b2, .cells [.slice true (needs.map (lstAV intAV))]) : Nat × AObj) :: (([(b3, .cells (p1.map intAV))] : List (Nat × AObj)) ++ ([(b1, .cells [.slice true (([[0]] : List (List Int)).map (lstAV intAV))])] : List (Nat × AObj)))) from List.perm_middle (l₁ := ([(b3, .cells (p1.map intAV))] : List (Nat × AObj))) (a := ((b2, .cells [.slice true (needs.map (lstAV intAV))]) : Nat × AObj)) (l₂ := ([(b1, .cells [.slice true (([[0]] : List (List Int)).map (lstAV intAV))])] : List (Nat × AObj)))) (List.Perm.cons _ (List.Perm.refl _)))) ?_
                refine u_cyclic b2 needs hok ⟨hz1, trivial⟩ hlg.2 hl1000 hc _ _ ?_
                show aopsR _ _ _ _ _ _ (AMem.wth (AMem.wth m [(b3, .cells (p1.map intAV)), (b1, .cells [.slice true (([[0]] : List (List Int)).map (lstAV intAV))])]) [(b2, .cells [.slice true (needs.map (lstAV intAV))])])
                refine ar_mem (wth_split (m := m) (L := [(b3, .cells (p1.map intAV)), (b2, .cells [.slice true (needs.map (lstAV intAV))]), (b1, .cells [.slice true (([[0]] : List (List Int)).map (lstAV intAV))])]) (L1 := [(b2, .cells [.slice true (needs.map (lstAV intAV))])]) (L2 := [(b3, .cells (p1.map intAV)), (b1, .cells [.slice true (([[0]] : List (List Int)).map (lstAV intAV))])]) hNb3 (List.Perm.trans (show List.Perm ([(b3, .cells (p1.map intAV)), (b2, .cells [.slice true (needs.map (lstAV intAV))]), (b1, .cells [.slice true (([[0]] : List (List Int)).map (lstAV intAV))])] : List (Nat × AObj)) (((b2, .cells [.slice true (needs.map (lstAV intAV))]) : Nat × AObj) :: (([(b3, .cells (p1.map intAV))] : List (Nat × AObj)) ++ ([(b1, .cells [.slice true (([[0]] : List (List Int)).map (lstAV intAV))])] : List (Nat × AObj)))) from List.perm_middle (l₁ := ([(b3, .cells (p1.map intAV))] : List (Nat × AObj))) (a := ((b2, .cells [.slice true (needs.map (lstAV intAV))]) : Nat × AObj)) (l₂ := ([(b1, .cells [.slice true (([[0]] : List (List Int)).map (lstAV intAV))])] : List (Nat × AObj)))) (List.Perm.cons _ (List.Perm.refl _)))).symm ?_
                refine ⟨trivial, ?_⟩
                exact key
            refine hK1 _ _ ?_; clear hK1 K1
            refine awp_ret ?_
            refine ⟨trivial, m, (wth_sub2 (m := m) [(b3, .cells (p1.map intAV)), (b2, .cells [.slice true (needs.map (lstAV intAV))]), (b1, .cells [.slice true (([[0]] : List (List Int)).map (lstAV intAV))])] [] hNb3 (by simp only [List.map_cons, List.map_nil, List.forall_mem_cons]; exact ⟨hFb3, hFb2, hFb1, fun _ h => by cases h⟩)), ?_⟩
            show K (.bool ((([] : List Int).length : Int) == 0)) m
           
            exact hK


theorem u_TopGraph (needs : List (List Int)) (m : AMem) (K : AV → AMem → Prop) (hK : K (.bool true) m) : ACalls Try.prog 5 [.slice false (needs.map (lstAV intAV))] m K := by
  by_cases hE : newE needs = 0
  · rcases wavesR_cases (newE_zero hE).2 with ⟨D, hD, hw⟩ | ⟨hc, hw⟩
    · exact u_TopGraphA needs hE hD hw m K hK
    · exact u_TopGraphB needs hE hc hw m K hK
  · exact u_TopGraph1 needs hE m K hK

end Go.Proofs
