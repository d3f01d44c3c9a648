import Derived.Test.YtfpbolgpaipiiaaProg
import Derived.Test.YtfpbolgpaipiiaaMix
import Derived.Test.YtfpbolgpaipiiaaWwZ
namespace Go.Proofs
open Go Go.Aw
set_option maxRecDepth 100000


/-- A part's needs are numbers of parts. -/
def okL (n : Int) (l : List Int) : Bool := l.all fun k => decide (0 ≤ k) && decide (k < n)
def okN (needs : List (List Int)) : Bool := needs.all (okL needs.length)
theorem okL_gI {n : Int} {l : List Int} (h : okL n l = true) {i : Int} (h0 : 0 ≤ i) (hi : i < l.length) : 0 ≤ gI l i ∧ gI l i < n := by
  have hm : gI l i ∈ l := by
    simp only [gI, List.getD_eq_getElem?_getD, List.getElem?_eq_getElem (show i.toNat < l.length by omega), Option.getD_some]
    exact List.getElem_mem _
  have := List.all_eq_true.1 h _ hm
  simpa using this
theorem gI_mem {α : Type} [Inhabited α] {l : List α} {i : Int} (h0 : 0 ≤ i) (hi : i < l.length) : gI l i ∈ l := by
  simp only [gI, List.getD_eq_getElem?_getD, List.getElem?_eq_getElem (show i.toNat < l.length by omega), Option.getD_some]
  exact List.getElem_mem _
theorem take_succ_gI {α : Type} [Inhabited α] {l : List α} {i : Int} (h0 : 0 ≤ i) (hi : i < l.length) : l.take (i + 1).toNat = l.take i.toNat ++ [gI l i] := by
  have e : (i + 1).toNat = i.toNat + 1 := by omega
  have hn : i.toNat < l.length := by omega
  rw [e, List.take_succ_eq_append_getElem hn]
  simp [gI, List.getD_eq_getElem?_getD, hn]
theorem all_take_succ {α : Type} [Inhabited α] {l : List α} {i : Int} {p : α → Bool} (h0 : 0 ≤ i) (hi : i < l.length) (h : (l.take i.toNat).all p = true) (hp : p (gI l i) = true) : (l.take (i + 1).toNat).all p = true := by
  rw [take_succ_gI h0 hi, List.all_append, h]; simp [hp]
theorem all_of_take {α : Type} {l : List α} {i : Int} {p : α → Bool} (hi : l.length ≤ i) (h : (l.take i.toNat).all p = true) : l.all p = true := by
  rwa [List.take_of_length_le (by omega)] at h
def newE (needs : List (List Int)) : Int := if (64 : Int) < needs.length then 2 else if okN needs = true then 0 else 1

set_option maxHeartbeats 2000000 in
theorem u_New (needs : List (List Int)) (hs : needs.length ≤ 1048576) (hl : ∀ l ∈ needs, l.length ≤ 1048576) (m : AMem)  (K : AV → AMem → Prop) (hE : newE needs ≠ 0 → K (.tuple [.nilptr, .err 57 (newE needs)]) m) (hK : newE needs = 0 → ∀ g, m g = none → K (.tuple [.ptr ⟨g, 0, none⟩, .err 57 0]) (AMem.wth m [(g, .cells [.slice true (needs.map (lstAV intAV))])])) : ACalls Try.prog 9 [.slice false (needs.map (lstAV intAV))] m K := by
  refine acalls_enter Try.func9 rfl (by decide) (Nat.le_of_ble_eq_true rfl) ?_
  show AWP _ _ _ _ [(0, .slice false (needs.map (lstAV intAV)))] m
  refine awp_reg2_seq [] [0] (by decide) ?_
  intro K1 hK1
  refine ⟨trivial, trivial, ?_⟩
  show K1 [(0, .slice false (needs.map (lstAV intAV)))] m
  refine hK1 _ _ ?_; clear hK1 K1
  refine awp_seq_k ?_; intro K2 hK2
  refine awp_reg2_seq [] [0, 11] (by decide) ?_
  intro K1 hK1
  refine ⟨trivial, ?_⟩
  refine ar_len rfl (lstAV intAV) needs rfl rfl rfl ?_
  refine ⟨trivial, ?_⟩
  show K1 [(0, .slice false (needs.map (lstAV intAV))), (11, .bool (decide (64 < (needs.length : Int))))] m
  refine hK1 _ _ ?_; clear hK1 K1
  refine awp_cond rfl rfl (fun h1 => ?_) (fun h1 => ?_)
  · replace h1 : 64 < (needs.length : Int) := (of_decide_eq_true h1)
    refine awp_reg2_seq [] [2, 3] (by decide) ?_
    intro K1 hK1
    refine ⟨trivial, trivial, trivial, ?_⟩
    show K1 [(2, .nilptr), (3, .iface 57 (.int .i64 2))] m
    refine hK1 _ _ ?_; clear hK1 K1
    refine awp_toErr 57 [3] ?_
    show AWP _ _ _ _ [(2, .nilptr), (3, .err 57 2)] m
    refine awp_ret ?_
    refine ⟨trivial, trivial, m, fun _ _ h => h, ?_⟩
    show K (.tuple [.nilptr, .err 57 2]) m
   
    have e : newE needs = 2 := by rw [newE, if_pos h1]
    rw [e] at hE; exact hE (by decide)
  · replace h1 : (needs.length : Int) ≤ 64 := (Int.not_lt.1 (of_decide_eq_false h1))
    have e0 : ∀ {l : List Int} {i : Int}, 0 ≤ i → i < l.length → okL needs.length l = true → 0 ≤ gI l i ∧ gI l i < needs.length := fun a b c => okL_gI c a b
    refine awp_skip ?_
    refine hK2 _ _ ?_; clear hK2
    refine awp_reg2_seq [] [0, 4] (by decide) ?_
    intro K1 hK1
    refine ⟨⟨rfl, by simp only [List.forall_mem_cons]; exact ⟨rfl, fun _ h => by cases h⟩, fun _ h => by cases h⟩, ?_⟩
    refine ar_box rfl (m := m) (L := []) (v := .agg [.slice true []]) rfl rfl ?_
    intro b1 hb1
    have hFb1 : m b1 = none := wth_none (m := m) (L := []) hb1
    have hNb1 : ([b1] : List Nat).Nodup := wth_nodup (m := m) (L := []) hb1 List.nodup_nil
    refine ⟨trivial, ?_⟩
    show K1 [(0, .slice false (needs.map (lstAV intAV))), (4, .ptr ⟨b1, 0, none⟩)] (AMem.wth m [(b1, .cells [.slice true []])])
    refine hK1 _ _ ?_; clear hK1 K1
    refine awp_seq_k ?_; intro K3 hK3
    refine awp_reg2_seq [] [0, 4, 15, 16, 17] (by decide) ?_
    intro K1 hK1
    refine ⟨trivial, ?_⟩
    refine ar_len rfl (lstAV intAV) needs rfl rfl rfl ?_
    refine ⟨trivial, ?_⟩
    show K1 [(0, .slice false (needs.map (lstAV intAV))), (4, .ptr ⟨b1, 0, none⟩), (15, .slice false (needs.map (lstAV intAV))), (16, .int .i64 (needs.length : Int)), (17, .int .i64 0)] (AMem.wth m [(b1, .cells [.slice true []])])
    refine hK1 _ _ ?_; clear hK1 K1
    refine awp_block ?_
    refine awp_keep [0, 4, 15, 16, 17] (by decide) ?_
    refine awp_loop_st (σ := Int × (List (List Int))) (fun ⟨j, nd⟩ => [(0, .slice false (needs.map (lstAV intAV))), (4, .ptr ⟨b1, 0, none⟩), (15, .slice false (needs.map (lstAV intAV))), (16, .int .i64 (needs.length : Int)), (17, .int .i64 j)]) (fun ⟨j, nd⟩ => (AMem.wth m [(b1, .cells [.slice true (nd.map (lstAV intAV))])])) (fun ⟨j, nd⟩ => 0 ≤ j ∧ j ≤ needs.length ∧ nd = needs.take j.toNat ∧ nd.all (okL needs.length) = true) (fun ⟨j, nd⟩ => needs.length - j.toNat) (0, []) rfl rfl ?_ ?_
    · show 0 ≤ ((0 : Int)) ∧ ((0 : Int)) ≤ needs.length ∧ (([] : (List (List Int)))) = needs.take ((0 : Int)).toNat ∧ (([] : (List (List Int)))).all (okL needs.length) = true
      exact ⟨by omega, by omega, by simp, by simp⟩
    · rintro ⟨j, nd⟩ hI
      replace hI : 0 ≤ j ∧ j ≤ needs.length ∧ nd = needs.take j.toNat ∧ nd.all (okL needs.length) = true := hI
      show AWP _ _ _ _ [(0, .slice false (needs.map (lstAV intAV))), (4, .ptr ⟨b1, 0, none⟩), (15, .slice false (needs.map (lstAV intAV))), (16, .int .i64 (needs.length : Int)), (17, .int .i64 j)] (AMem.wth m [(b1, .cells [.slice true (nd.map (lstAV intAV))])])
      refine awp_reg2_seq [] [0, 4, 15, 16, 17, 18] (by decide) ?_
      intro K1 hK1
      refine ⟨trivial, ?_⟩
      show K1 [(0, .slice false (needs.map (lstAV intAV))), (4, .ptr ⟨b1, 0, none⟩), (15, .slice false (needs.map (lstAV intAV))), (16, .int .i64 (needs.length : Int)), (17, .int .i64 j), (18, .bool (decide (j < (needs.length : Int))))] (AMem.wth m [(b1, .cells [.slice true (nd.map (lstAV intAV))])])
      refine hK1 _ _ ?_; clear hK1 K1
      refine awp_seq_k ?_; intro K4 hK4
      refine awp_cond rfl rfl (fun h2 => ?_) (fun h2 => ?_)
      · replace h2 : j < (needs.length : Int) := (of_decide_eq_true h2)
        have hlen := hl _ (gI_mem (l := needs) (i := j) hI.1 h2)
        have hnd : nd.length ≤ 64 := by rw [hI.2.2.1, List.length_take]; omega
        refine awp_skip ?_
        refine hK4 _ _ ?_; clear hK4
        refine awp_seq_k ?_; intro K5 hK5
        refine awp_block ?_
        refine awp_reg2_seq [] [0, 4, 6, 15, 16, 17] (by decide) ?_
        intro K1 hK1
        refine ar_index rfl (lstAV intAV) needs j rfl rfl rfl rfl rfl (by decide) (fun _ => rfl) (by omega) (by omega) ?_
        refine ⟨(apartOk_one rfl rfl (Nat.le_of_ble_eq_true rfl)), trivial, ?_⟩
        show K1 [(0, .slice false (needs.map (lstAV intAV))), (4, .ptr ⟨b1, 0, none⟩), (6, .slice false ((gI needs j).map intAV)), (15, .slice false (needs.map (lstAV intAV))), (16, .int .i64 (needs.length : Int)), (17, .int .i64 j)] (AMem.wth m [(b1, .cells [.slice true (nd.map (lstAV intAV))])])
        refine hK1 _ _ ?_; clear hK1 K1
        refine awp_seq_k ?_; intro K6 hK6
        refine awp_reg2_seq [] [0, 4, 6, 15, 16, 17, 21, 22, 23] (by decide) ?_
        intro K1 hK1
        refine ⟨trivial, ?_⟩
        refine ar_len rfl intAV (gI needs j) rfl rfl rfl ?_
        refine ⟨trivial, ?_⟩
        show K1 [(0, .slice false (needs.map (lstAV intAV))), (4, .ptr ⟨b1, 0, none⟩), (6, .slice false ((gI needs j).map intAV)), (15, .slice false (needs.map (lstAV intAV))), (16, .int .i64 (needs.length : Int)), (17, .int .i64 j), (21, .slice false ((gI needs j).map intAV)), (22, .int .i64 ((gI needs j).length : Int)), (23, .int .i64 0)] (AMem.wth m [(b1, .cells [.slice true (nd.map (lstAV intAV))])])
        refine hK1 _ _ ?_; clear hK1 K1
        refine awp_block ?_
        refine awp_keep [0, 4, 6, 15, 16, 17, 21, 22, 23] (by decide) ?_
        refine awp_loop_st (σ := Int) (fun i => [(0, .slice false (needs.map (lstAV intAV))), (4, .ptr ⟨b1, 0, none⟩), (6, .slice false ((gI needs j).map intAV)), (15, .slice false (needs.map (lstAV intAV))), (16, .int .i64 (needs.length : Int)), (17, .int .i64 j), (21, .slice false ((gI needs j).map intAV)), (22, .int .i64 ((gI needs j).length : Int)), (23, .int .i64 i)]) (fun _ => (AMem.wth m [(b1, .cells [.slice true (nd.map (lstAV intAV))])])) (fun i => 0 ≤ i ∧ i ≤ (gI needs j).length ∧ ((gI needs j).take i.toNat).all (fun k => decide (0 ≤ k) && decide (k < needs.length)) = true) (fun i => (gI needs j).length - i.toNat) (0) rfl rfl ?_ ?_
        · show 0 ≤ ((0 : Int)) ∧ ((0 : Int)) ≤ (gI needs j).length ∧ ((gI needs j).take ((0 : Int)).toNat).all (fun k => decide (0 ≤ k) && decide (k < needs.length)) = true
          exact ⟨by omega, by omega, by simp⟩
        · rintro i hI2
          replace hI2 : 0 ≤ i ∧ i ≤ (gI needs j).length ∧ ((gI needs j).take i.toNat).all (fun k => decide (0 ≤ k) && decide (k < needs.length)) = true := hI2
          show AWP _ _ _ _ [(0, .slice false (needs.map (lstAV intAV))), (4, .ptr ⟨b1, 0, none⟩), (6, .slice false ((gI needs j).map intAV)), (15, .slice false (needs.map (lstAV intAV))), (16, .int .i64 (needs.length : Int)), (17, .int .i64 j), (21, .slice false ((gI needs j).map intAV)), (22, .int .i64 ((gI needs j).length : Int)), (23, .int .i64 i)] (AMem.wth m [(b1, .cells [.slice true (nd.map (lstAV intAV))])])
          refine awp_reg2_seq [] [0, 4, 6, 15, 16, 17, 21, 22, 23, 24] (by decide) ?_
          intro K1 hK1
          refine ⟨trivial, ?_⟩
          show K1 [(0, .slice false (needs.map (lstAV intAV))), (4, .ptr ⟨b1, 0, none⟩), (6, .slice false ((gI needs j).map intAV)), (15, .slice false (needs.map (lstAV intAV))), (16, .int .i64 (needs.length : Int)), (17, .int .i64 j), (21, .slice false ((gI needs j).map intAV)), (22, .int .i64 ((gI needs j).length : Int)), (23, .int .i64 i), (24, .bool (decide (i < ((gI needs j).length : Int))))] (AMem.wth m [(b1, .cells [.slice true (nd.map (lstAV intAV))])])
          refine hK1 _ _ ?_; clear hK1 K1
          refine awp_seq_k ?_; intro K7 hK7
          refine awp_cond rfl rfl (fun h3 => ?_) (fun h3 => ?_)
          · replace h3 : i < ((gI needs j).length : Int) := (of_decide_eq_true h3)
            refine awp_skip ?_
            refine hK7 _ _ ?_; clear hK7
            refine awp_seq_k ?_; intro K8 hK8
            refine awp_block ?_
            refine awp_reg2_seq [] [0, 4, 6, 8, 15, 16, 17, 21, 22, 23] (by decide) ?_
            intro K1 hK1
            refine ar_index rfl intAV (gI needs j) i rfl rfl rfl rfl rfl (by decide) (fun _ => rfl) (by omega) (by omega) ?_
            refine ⟨(apartOk_one rfl rfl (Nat.le_of_ble_eq_true rfl)), trivial, ?_⟩
            show K1 [(0, .slice false (needs.map (lstAV intAV))), (4, .ptr ⟨b1, 0, none⟩), (6, .slice false ((gI needs j).map intAV)), (8, .int .i64 (gI (gI needs j) i)), (15, .slice false (needs.map (lstAV intAV))), (16, .int .i64 (needs.length : Int)), (17, .int .i64 j), (21, .slice false ((gI needs j).map intAV)), (22, .int .i64 ((gI needs j).length : Int)), (23, .int .i64 i)] (AMem.wth m [(b1, .cells [.slice true (nd.map (lstAV intAV))])])
            refine hK1 _ _ ?_; clear hK1 K1
            refine awp_reg2_seq [] [0, 4, 6, 15, 16, 17, 21, 22, 23, 34] (by decide) ?_
            intro K1 hK1
            suffices key : K1 [(0, .slice false (needs.map (lstAV intAV))), (4, .ptr ⟨b1, 0, none⟩), (6, .slice false ((gI needs j).map intAV)), (15, .slice false (needs.map (lstAV intAV))), (16, .int .i64 (needs.length : Int)), (17, .int .i64 j), (21, .slice false ((gI needs j).map intAV)), (22, .int .i64 ((gI needs j).length : Int)), (23, .int .i64 i), (34, .bool ((decide (gI (gI needs j) i < 0)) || (decide ((needs.length : Int) ≤ gI (gI needs j) i))))] (AMem.wth m [(b1, .cells [.slice true (nd.map (lstAV intAV))])]) by
              refine ⟨trivial, trivial, trivial, ?_⟩
              show aopsR _ _ _ _ _ [(29, .bool (decide (gI (gI needs j) i < 0))), (28, .bool (decide (gI (gI needs j) i < 0))), (27, .int .i64 (gI (gI needs j) i)), (0, .slice false (needs.map (lstAV intAV))), (4, .ptr ⟨b1, 0, none⟩), (6, .slice false ((gI needs j).map intAV)), (8, .int .i64 (gI (gI needs j) i)), (15, .slice false (needs.map (lstAV intAV))), (16, .int .i64 (needs.length : Int)), (17, .int .i64 j), (21, .slice false ((gI needs j).map intAV)), (22, .int .i64 ((gI needs j).length : Int)), (23, .int .i64 i)] _
              revert key
              cases h4 : (decide (gI (gI needs j) i < 0))
              · replace h4 : 0 ≤ gI (gI needs j) i := (Int.not_lt.1 (of_decide_eq_false h4))
                intro key
                refine ⟨trivial, trivial, ?_⟩
                refine ar_len rfl (lstAV intAV) needs rfl rfl rfl ?_
                refine ⟨trivial, ?_⟩
                exact key
              · replace h4 : gI (gI needs j) i < 0 := (of_decide_eq_true h4)
                intro key
                refine ar_off rfl (ar_off rfl (ar_off rfl (ar_off rfl ?_)))
                exact key
            refine hK1 _ _ ?_; clear hK1 K1
            refine awp_cond rfl rfl (fun h5 => ?_) (fun h5 => ?_)
            · replace h5 : (gI (gI needs j) i < 0) ∨ ((needs.length : Int) ≤ gI (gI needs j) i) := ((borT h5).imp (fun q => (of_decide_eq_true q)) (fun q => (of_decide_eq_true q)))
              refine awp_reg2_seq [] [2, 3] (by decide) ?_
              intro K1 hK1
              refine ⟨trivial, trivial, trivial, ?_⟩
              show K1 [(2, .nilptr), (3, .iface 57 (.int .i64 1))] (AMem.wth m [(b1, .cells [.slice true (nd.map (lstAV intAV))])])
              refine hK1 _ _ ?_; clear hK1 K1
              refine awp_toErr 57 [3] ?_
              show AWP _ _ _ _ [(2, .nilptr), (3, .err 57 1)] (AMem.wth m [(b1, .cells [.slice true (nd.map (lstAV intAV))])])
              refine awp_ret ?_
              refine ⟨trivial, trivial, m, (wth_sub2 (m := m) [(b1, .cells [.slice true (nd.map (lstAV intAV))])] [] hNb1 (by simp only [List.map_cons, List.map_nil, List.forall_mem_cons]; exact ⟨hFb1, fun _ h => by cases h⟩)), ?_⟩
              show K (.tuple [.nilptr, .err 57 1]) m
             
              have e : newE needs = 1 := by
                rw [newE, if_neg (by omega), if_neg]
                intro hh
                have hk : okL needs.length (gI needs j) = true := List.all_eq_true.1 hh _ (gI_mem (l := needs) hI.1 h2)
                have := e0 hI2.1 h3 hk
                omega
              rw [e] at hE; exact hE (by decide)
            · replace h5 : (0 ≤ gI (gI needs j) i) ∧ (gI (gI needs j) i < (needs.length : Int)) := ⟨(Int.not_lt.1 (of_decide_eq_false (borL h5))), (Int.not_le.1 (of_decide_eq_false (borR h5)))⟩
              refine awp_skip ?_
              refine hK8 _ _ ?_; clear hK8
              refine awp_reg2 [] [0, 4, 6, 15, 16, 17, 21, 22, 23] (by decide) ?_
              intro K1 hK1
              refine ar_add rfl (a := i) (b := 1) rfl rfl (by omega) (by omega) ?_
              refine ⟨trivial, ?_⟩
              show K1 [(0, .slice false (needs.map (lstAV intAV))), (4, .ptr ⟨b1, 0, none⟩), (6, .slice false ((gI needs j).map intAV)), (15, .slice false (needs.map (lstAV intAV))), (16, .int .i64 (needs.length : Int)), (17, .int .i64 j), (21, .slice false ((gI needs j).map intAV)), (22, .int .i64 ((gI needs j).length : Int)), (23, .int .i64 (i + 1))] (AMem.wth m [(b1, .cells [.slice true (nd.map (lstAV intAV))])])
              refine hK1 _ _ ?_; clear hK1 K1
              refine ⟨(i + 1), rfl, rfl, ?_, ?_⟩
              · show 0 ≤ ((i + 1 : Int)) ∧ ((i + 1 : Int)) ≤ (gI needs j).length ∧ ((gI needs j).take ((i + 1 : Int)).toNat).all (fun k => decide (0 ≤ k) && decide (k < needs.length)) = true
                exact ⟨by omega, by omega, all_take_succ (l := gI needs j) (p := fun k => decide (0 ≤ k) && decide (k < needs.length)) hI2.1 h3 hI2.2.2 (by simp; omega)⟩
              · show (gI needs j).length - ((i + 1 : Int)).toNat < (gI needs j).length - i.toNat
                omega
          · replace h3 : ((gI needs j).length : Int) ≤ i := (Int.not_lt.1 (of_decide_eq_false h3))
            refine awp_exit ?_
            refine hK6 _ _ ?_; clear hK6
            refine awp_anyA Try.mixed [0, 4, 15, 16, 17] (by decide) ?_
            intro K1 hK1
            intro A hA
            suffices key : ∀ (_ : True), K1 [(0, .slice false (needs.map (lstAV intAV))), (4, .ptr ⟨b1, 0, none⟩), (15, .slice false (needs.map (lstAV intAV))), (16, .int .i64 (needs.length : Int)), (17, .int .i64 j)] (AMem.wth m [(b1, .cells [.slice true ((nd ++ ([gI needs j] : List (List Int))).map (lstAV intAV))])]) by
              have s0 : ∀ (_ : True), A 0 #[true, true, true, true, true, true, true, true, true, true, true, true] (fun fr m => K1 (fr.keep [0, 4, 15, 16, 17]) m) [(0, .slice false (needs.map (lstAV intAV))), (4, .ptr ⟨b1, 0, none⟩), (15, .slice false (needs.map (lstAV intAV))), (16, .int .i64 (needs.length : Int)), (17, .int .i64 j)] (AMem.wth m [(b1, .cells [.slice true ((nd ++ ([gI needs j] : List (List Int))).map (lstAV intAV))])]) := by
                intro _
                subst hA
                exact AAny.done (by decide +kernel) (key trivial)
              have s1 : ∀ (_ : True), A 1 #[true, true, true, true, true, true, true, true, true, true, true, false] (fun fr m => K1 (fr.keep [0, 4, 15, 16, 17]) m) [(0, .slice false (needs.map (lstAV intAV))), (4, .ptr ⟨b1, 0, none⟩), (15, .slice false (needs.map (lstAV intAV))), (16, .int .i64 (needs.length : Int)), (17, .int .i64 j), (45, .slice true ((nd ++ ([gI needs j] : List (List Int))).map (lstAV intAV))), (47, .ptr ⟨b1, 0, none⟩)] (AMem.wth m [(b1, .cells [.slice false (nd.map (lstAV intAV))])]) := by
                intro _
                subst hA
                refine AAny.step [41] [11] (by decide +kernel) (by simp) (by decide) ⟨?_, trivial⟩
                · show aopsR _ _ _ [_] _ _ _
                  refine ar_storep rfl 0 (m := m) (L := [(b1, .cells [.slice false (nd.map (lstAV intAV))])]) (v := .slice true ((nd ++ ([gI needs j] : List (List Int))).map (lstAV intAV))) (l' := [.slice true ((nd ++ ([gI needs j] : List (List Int))).map (lstAV intAV))]) rfl rfl hNb1 rfl rfl rfl rfl rfl (Nat.le_of_ble_eq_true rfl) rfl ?_
                  refine AAny.keep [0, 4, 15, 16, 17] (by decide) ?_
                  exact s0 trivial
              have s2 : ∀ (_ : True), A 2 #[true, true, true, true, true, true, true, true, true, true, false, false] (fun fr m => K1 (fr.keep [0, 4, 15, 16, 17]) m) [(0, .slice false (needs.map (lstAV intAV))), (4, .ptr ⟨b1, 0, none⟩), (15, .slice false (needs.map (lstAV intAV))), (16, .int .i64 (needs.length : Int)), (17, .int .i64 j), (45, .slice true ((nd ++ ([gI needs j] : List (List Int))).map (lstAV intAV))), (46, .ptr ⟨b1, 0, none⟩)] (AMem.wth m [(b1, .cells [.slice false (nd.map (lstAV intAV))])]) := by
                intro _
                subst hA
                refine AAny.step [41] [10] (by decide +kernel) (by simp) (by decide) ⟨?_, trivial⟩
                · show aopsR _ _ _ [_] _ _ _
                  refine ⟨⟨rfl, by decide⟩, ?_⟩
                  refine AAny.keep [0, 4, 15, 16, 17, 45, 47] (by decide) ?_
                  exact s1 trivial
              have s3 : ∀ (_ : True), A 3 #[true, true, true, true, true, true, true, true, true, false, false, false] (fun fr m => K1 (fr.keep [0, 4, 15, 16, 17]) m) [(0, .slice false (needs.map (lstAV intAV))), (4, .ptr ⟨b1, 0, none⟩), (15, .slice false (needs.map (lstAV intAV))), (16, .int .i64 (needs.length : Int)), (17, .int .i64 j), (37, .ptr ⟨b1, 0, none⟩), (45, .slice true ((nd ++ ([gI needs j] : List (List Int))).map (lstAV intAV)))] (AMem.wth m [(b1, .cells [.slice false (nd.map (lstAV intAV))])]) := by
                intro _
                subst hA
                refine AAny.step [41] [9] (by decide +kernel) (by simp) (by decide) ⟨?_, trivial⟩
                · show aopsR _ _ _ [_] _ _ _
                  refine ⟨trivial, ?_⟩
                  refine AAny.keep [0, 4, 15, 16, 17, 45, 46] (by decide) ?_
                  exact s2 trivial
              have s4 : ∀ (_ : True), A 4 #[true, true, true, true, true, true, true, true, false, false, false, false] (fun fr m => K1 (fr.keep [0, 4, 15, 16, 17]) m) [(0, .slice false (needs.map (lstAV intAV))), (4, .ptr ⟨b1, 0, none⟩), (15, .slice false (needs.map (lstAV intAV))), (16, .int .i64 (needs.length : Int)), (17, .int .i64 j), (37, .ptr ⟨b1, 0, none⟩), (41, .slice true (nd.map (lstAV intAV))), (44, .slice true [.slice false ((gI needs j).map intAV)])] (AMem.wth m [(b1, .cells [.slice false (nd.map (lstAV intAV))])]) := by
                intro _
                subst hA
                refine AAny.step [41] [8] (by decide +kernel) (by simp) (by decide) ⟨?_, trivial⟩
                · show aopsR _ _ _ [_] _ _ _
                  refine ar_append rfl (lstAV intAV) nd ([gI needs j] : List (List Int)) rfl rfl rfl rfl rfl rfl (Nat.le_of_ble_eq_true rfl) rfl (by (simp only [show Try.prog.bytesOf 23 = 24 from rfl, List.length_append, List.length_cons, List.length_nil]; omega)) (by (first | omega | (simp only [List.length_append, List.length_cons, List.length_nil]; omega))) (fun _ => ⟨rfl, rfl⟩) ?_
                  refine AAny.keep [0, 4, 15, 16, 17, 37, 45] (by decide) ?_
                  exact s3 trivial
              have s5 : ∀ (_ : True), A 4 #[false, true, true, true, true, true, true, true, true, false, false, false] (fun fr m => K1 (fr.keep [0, 4, 15, 16, 17]) m) [(0, .slice false (needs.map (lstAV intAV))), (4, .ptr ⟨b1, 0, none⟩), (15, .slice false (needs.map (lstAV intAV))), (16, .int .i64 (needs.length : Int)), (17, .int .i64 j), (45, .slice true ((nd ++ ([gI needs j] : List (List Int))).map (lstAV intAV)))] (AMem.wth m [(b1, .cells [.slice false (nd.map (lstAV intAV))])]) := by
                intro _
                subst hA
                refine AAny.step [41] [0] (by decide +kernel) (by simp) (by decide) ⟨?_, trivial⟩
                · show aopsR _ _ _ [_] _ _ _
                  refine ⟨trivial, ?_⟩
                  refine AAny.keep [0, 4, 15, 16, 17, 37, 45] (by decide) ?_
                  exact s3 trivial
              have s6 : ∀ (_ : True), A 5 #[true, true, true, true, true, true, true, false, false, false, false, false] (fun fr m => K1 (fr.keep [0, 4, 15, 16, 17]) m) [(0, .slice false (needs.map (lstAV intAV))), (4, .ptr ⟨b1, 0, none⟩), (15, .slice false (needs.map (lstAV intAV))), (16, .int .i64 (needs.length : Int)), (17, .int .i64 j), (37, .ptr ⟨b1, 0, none⟩), (41, .slice true (nd.map (lstAV intAV))), (43, .slice true ((gI needs j).map intAV))] (AMem.wth m [(b1, .cells [.slice false (nd.map (lstAV intAV))])]) := by
                intro _
                subst hA
                refine AAny.step [41] [7] (by decide +kernel) (by simp) (by decide) ⟨?_, trivial⟩
                · show aopsR _ _ _ [_] _ _ _
                  refine ⟨⟨rfl, Nat.le_of_ble_eq_true rfl, rfl, Nat.le_of_ble_eq_true rfl, rfl, by simp only [List.forall_mem_cons]; exact ⟨⟨rfl, rfl⟩, fun _ h => by cases h⟩⟩, ?_⟩
                  refine AAny.keep [0, 4, 15, 16, 17, 37, 41, 44] (by decide) ?_
                  exact s4 trivial
              have s7 : ∀ (_ : True), A 5 #[true, true, true, true, false, true, true, true, false, false, false, false] (fun fr m => K1 (fr.keep [0, 4, 15, 16, 17]) m) [(0, .slice false (needs.map (lstAV intAV))), (4, .ptr ⟨b1, 0, none⟩), (15, .slice false (needs.map (lstAV intAV))), (16, .int .i64 (needs.length : Int)), (17, .int .i64 j), (37, .ptr ⟨b1, 0, none⟩), (40, .ptr ⟨b1, 0, none⟩), (44, .slice true [.slice false ((gI needs j).map intAV)])] (AMem.wth m [(b1, .cells [.slice true (nd.map (lstAV intAV))])]) := by
                intro _
                subst hA
                refine AAny.step [41] [4] (by decide +kernel) (by simp) (by decide) ⟨?_, trivial⟩
                · show aopsR _ _ _ [_] _ _ _
                  refine ar_loads rfl (m := m) (L := [(b1, .cells [.slice true (nd.map (lstAV intAV))])]) (i := 0) rfl hNb1 rfl rfl rfl rfl (Nat.le_of_ble_eq_true rfl) ?_
                  refine AAny.keep [0, 4, 15, 16, 17, 37, 41, 44] (by decide) ?_
                  exact s4 trivial
              have s8 : ∀ (_ : True), A 5 #[false, true, true, true, true, true, true, true, false, false, false, false] (fun fr m => K1 (fr.keep [0, 4, 15, 16, 17]) m) [(0, .slice false (needs.map (lstAV intAV))), (4, .ptr ⟨b1, 0, none⟩), (15, .slice false (needs.map (lstAV intAV))), (16, .int .i64 (needs.length : Int)), (17, .int .i64 j), (41, .slice true (nd.map (lstAV intAV))), (44, .slice true [.slice false ((gI needs j).map intAV)])] (AMem.wth m [(b1, .cells [.slice false (nd.map (lstAV intAV))])]) := by
                intro _
                subst hA
                refine AAny.step [41] [0, 8] (by decide +kernel) (by simp) (by decide) ⟨?_, ?_, trivial⟩
                · show aopsR _ _ _ [_] _ _ _
                  refine ⟨trivial, ?_⟩
                  refine AAny.keep [0, 4, 15, 16, 17, 37, 41, 44] (by decide) ?_
                  exact s4 trivial
                · show aopsR _ _ _ [_] _ _ _
                  refine ar_append rfl (lstAV intAV) nd ([gI needs j] : List (List Int)) rfl rfl rfl rfl rfl rfl (Nat.le_of_ble_eq_true rfl) rfl (by (simp only [show Try.prog.bytesOf 23 = 24 from rfl, List.length_append, List.length_cons, List.length_nil]; omega)) (by (first | omega | (simp only [List.length_append, List.length_cons, List.length_nil]; omega))) (fun _ => ⟨rfl, rfl⟩) ?_
                  refine AAny.keep [0, 4, 15, 16, 17, 45] (by decide) ?_
                  exact s5 trivial
              have s9 : ∀ (_ : True), A 6 #[true, true, true, true, true, true, false, false, false, false, false, false] (fun fr m => K1 (fr.keep [0, 4, 15, 16, 17]) m) [(0, .slice false (needs.map (lstAV intAV))), (4, .ptr ⟨b1, 0, none⟩), (15, .slice false (needs.map (lstAV intAV))), (16, .int .i64 (needs.length : Int)), (17, .int .i64 j), (37, .ptr ⟨b1, 0, none⟩), (41, .slice true (nd.map (lstAV intAV))), (42, .slice false ((gI needs j).map intAV))] (AMem.wth m [(b1, .cells [.slice false (nd.map (lstAV intAV))])]) := by
                intro _
                subst hA
                refine AAny.step [41] [6] (by decide +kernel) (by simp) (by decide) ⟨?_, trivial⟩
                · show aopsR _ _ _ [_] _ _ _
                  refine ar_append0 rfl intAV (gI needs j) rfl rfl rfl rfl (Nat.le_of_ble_eq_true rfl) rfl (by (simp only [show Try.prog.bytesOf 3 = 8 from rfl, List.length_append, List.length_cons, List.length_nil]; omega)) (fun _ => ⟨rfl, rfl⟩) ?_
                  refine AAny.keep [0, 4, 15, 16, 17, 37, 41, 43] (by decide) ?_
                  exact s6 trivial
              have s10 : ∀ (_ : True), A 6 #[true, true, true, true, false, true, true, false, false, false, false, false] (fun fr m => K1 (fr.keep [0, 4, 15, 16, 17]) m) [(0, .slice false (needs.map (lstAV intAV))), (4, .ptr ⟨b1, 0, none⟩), (15, .slice false (needs.map (lstAV intAV))), (16, .int .i64 (needs.length : Int)), (17, .int .i64 j), (37, .ptr ⟨b1, 0, none⟩), (40, .ptr ⟨b1, 0, none⟩), (43, .slice true ((gI needs j).map intAV))] (AMem.wth m [(b1, .cells [.slice true (nd.map (lstAV intAV))])]) := by
                intro _
                subst hA
                refine AAny.step [41] [4, 7] (by decide +kernel) (by simp) (by decide) ⟨?_, ?_, trivial⟩
                · show aopsR _ _ _ [_] _ _ _
                  refine ar_loads rfl (m := m) (L := [(b1, .cells [.slice true (nd.map (lstAV intAV))])]) (i := 0) rfl hNb1 rfl rfl rfl rfl (Nat.le_of_ble_eq_true rfl) ?_
                  refine AAny.keep [0, 4, 15, 16, 17, 37, 41, 43] (by decide) ?_
                  exact s6 trivial
                · show aopsR _ _ _ [_] _ _ _
                  refine ⟨⟨rfl, Nat.le_of_ble_eq_true rfl, rfl, Nat.le_of_ble_eq_true rfl, rfl, by simp only [List.forall_mem_cons]; exact ⟨⟨rfl, rfl⟩, fun _ h => by cases h⟩⟩, ?_⟩
                  refine AAny.keep [0, 4, 15, 16, 17, 37, 40, 44] (by decide) ?_
                  exact s7 trivial
              have s11 : ∀ (_ : True), A 6 #[true, true, true, false, false, true, true, true, false, false, false, false] (fun fr m => K1 (fr.keep [0, 4, 15, 16, 17]) m) [(0, .slice false (needs.map (lstAV intAV))), (4, .ptr ⟨b1, 0, none⟩), (15, .slice false (needs.map (lstAV intAV))), (16, .int .i64 (needs.length : Int)), (17, .int .i64 j), (37, .ptr ⟨b1, 0, none⟩), (39, .ptr ⟨b1, 0, none⟩), (44, .slice true [.slice false ((gI needs j).map intAV)])] (AMem.wth m [(b1, .cells [.slice true (nd.map (lstAV intAV))])]) := by
                intro _
                subst hA
                refine AAny.step [41] [3] (by decide +kernel) (by simp) (by decide) ⟨?_, trivial⟩
                · show aopsR _ _ _ [_] _ _ _
                  refine ⟨⟨rfl, by decide⟩, ?_⟩
                  refine AAny.keep [0, 4, 15, 16, 17, 37, 40, 44] (by decide) ?_
                  exact s7 trivial
              have s12 : ∀ (_ : True), A 6 #[false, true, true, true, true, true, true, false, false, false, false, false] (fun fr m => K1 (fr.keep [0, 4, 15, 16, 17]) m) [(0, .slice false (needs.map (lstAV intAV))), (4, .ptr ⟨b1, 0, none⟩), (15, .slice false (needs.map (lstAV intAV))), (16, .int .i64 (needs.length : Int)), (17, .int .i64 j), (41, .slice true (nd.map (lstAV intAV))), (43, .slice true ((gI needs j).map intAV))] (AMem.wth m [(b1, .cells [.slice false (nd.map (lstAV intAV))])]) := by
                intro _
                subst hA
                refine AAny.step [41] [0, 7] (by decide +kernel) (by simp) (by decide) ⟨?_, ?_, trivial⟩
                · show aopsR _ _ _ [_] _ _ _
                  refine ⟨trivial, ?_⟩
                  refine AAny.keep [0, 4, 15, 16, 17, 37, 41, 43] (by decide) ?_
                  exact s6 trivial
                · show aopsR _ _ _ [_] _ _ _
                  refine ⟨⟨rfl, Nat.le_of_ble_eq_true rfl, rfl, Nat.le_of_ble_eq_true rfl, rfl, by simp only [List.forall_mem_cons]; exact ⟨⟨rfl, rfl⟩, fun _ h => by cases h⟩⟩, ?_⟩
                  refine AAny.keep [0, 4, 15, 16, 17, 41, 44] (by decide) ?_
                  exact s8 trivial
              have s13 : ∀ (_ : True), A 6 #[false, true, true, true, false, true, true, true, false, false, false, false] (fun fr m => K1 (fr.keep [0, 4, 15, 16, 17]) m) [(0, .slice false (needs.map (lstAV intAV))), (4, .ptr ⟨b1, 0, none⟩), (15, .slice false (needs.map (lstAV intAV))), (16, .int .i64 (needs.length : Int)), (17, .int .i64 j), (40, .ptr ⟨b1, 0, none⟩), (44, .slice true [.slice false ((gI needs j).map intAV)])] (AMem.wth m [(b1, .cells [.slice true (nd.map (lstAV intAV))])]) := by
                intro _
                subst hA
                refine AAny.step [41] [0, 4] (by decide +kernel) (by simp) (by decide) ⟨?_, ?_, trivial⟩
                · show aopsR _ _ _ [_] _ _ _
                  refine ⟨trivial, ?_⟩
                  refine AAny.keep [0, 4, 15, 16, 17, 37, 40, 44] (by decide) ?_
                  exact s7 trivial
                · show aopsR _ _ _ [_] _ _ _
                  refine ar_loads rfl (m := m) (L := [(b1, .cells [.slice true (nd.map (lstAV intAV))])]) (i := 0) rfl hNb1 rfl rfl rfl rfl (Nat.le_of_ble_eq_true rfl) ?_
                  refine AAny.keep [0, 4, 15, 16, 17, 41, 44] (by decide) ?_
                  exact s8 trivial
              have s14 : ∀ (_ : True), A 7 #[true, true, true, true, true, false, false, false, false, false, false, false] (fun fr m => K1 (fr.keep [0, 4, 15, 16, 17]) m) [(0, .slice false (needs.map (lstAV intAV))), (4, .ptr ⟨b1, 0, none⟩), (6, .slice false ((gI needs j).map intAV)), (15, .slice false (needs.map (lstAV intAV))), (16, .int .i64 (needs.length : Int)), (17, .int .i64 j), (37, .ptr ⟨b1, 0, none⟩), (41, .slice true (nd.map (lstAV intAV)))] (AMem.wth m [(b1, .cells [.slice false (nd.map (lstAV intAV))])]) := by
                intro _
                subst hA
                refine AAny.step [41] [5] (by decide +kernel) (by simp) (by decide) ⟨?_, trivial⟩
                · show aopsR _ _ _ [_] _ _ _
                  refine ⟨trivial, ?_⟩
                  refine AAny.keep [0, 4, 15, 16, 17, 37, 41, 42] (by decide) ?_
                  exact s9 trivial
              have s15 : ∀ (_ : True), A 7 #[true, true, true, true, false, true, false, false, false, false, false, false] (fun fr m => K1 (fr.keep [0, 4, 15, 16, 17]) m) [(0, .slice false (needs.map (lstAV intAV))), (4, .ptr ⟨b1, 0, none⟩), (15, .slice false (needs.map (lstAV intAV))), (16, .int .i64 (needs.length : Int)), (17, .int .i64 j), (37, .ptr ⟨b1, 0, none⟩), (40, .ptr ⟨b1, 0, none⟩), (42, .slice false ((gI needs j).map intAV))] (AMem.wth m [(b1, .cells [.slice true (nd.map (lstAV intAV))])]) := by
                intro _
                subst hA
                refine AAny.step [41] [4, 6] (by decide +kernel) (by simp) (by decide) ⟨?_, ?_, trivial⟩
                · show aopsR _ _ _ [_] _ _ _
                  refine ar_loads rfl (m := m) (L := [(b1, .cells [.slice true (nd.map (lstAV intAV))])]) (i := 0) rfl hNb1 rfl rfl rfl rfl (Nat.le_of_ble_eq_true rfl) ?_
                  refine AAny.keep [0, 4, 15, 16, 17, 37, 41, 42] (by decide) ?_
                  exact s9 trivial
                · show aopsR _ _ _ [_] _ _ _
                  refine ar_append0 rfl intAV (gI needs j) rfl rfl rfl rfl (Nat.le_of_ble_eq_true rfl) rfl (by (simp only [show Try.prog.bytesOf 3 = 8 from rfl, List.length_append, List.length_cons, List.length_nil]; omega)) (fun _ => ⟨rfl, rfl⟩) ?_
                  refine AAny.keep [0, 4, 15, 16, 17, 37, 40, 43] (by decide) ?_
                  exact s10 trivial
              have s16 : ∀ (_ : True), A 7 #[true, true, true, false, false, true, true, false, false, false, false, false] (fun fr m => K1 (fr.keep [0, 4, 15, 16, 17]) m) [(0, .slice false (needs.map (lstAV intAV))), (4, .ptr ⟨b1, 0, none⟩), (15, .slice false (needs.map (lstAV intAV))), (16, .int .i64 (needs.length : Int)), (17, .int .i64 j), (37, .ptr ⟨b1, 0, none⟩), (39, .ptr ⟨b1, 0, none⟩), (43, .slice true ((gI needs j).map intAV))] (AMem.wth m [(b1, .cells [.slice true (nd.map (lstAV intAV))])]) := by
                intro _
                subst hA
                refine AAny.step [41] [3, 7] (by decide +kernel) (by simp) (by decide) ⟨?_, ?_, trivial⟩
                · show aopsR _ _ _ [_] _ _ _
                  refine ⟨⟨rfl, by decide⟩, ?_⟩
                  refine AAny.keep [0, 4, 15, 16, 17, 37, 40, 43] (by decide) ?_
                  exact s10 trivial
                · show aopsR _ _ _ [_] _ _ _
                  refine ⟨⟨rfl, Nat.le_of_ble_eq_true rfl, rfl, Nat.le_of_ble_eq_true rfl, rfl, by simp only [List.forall_mem_cons]; exact ⟨⟨rfl, rfl⟩, fun _ h => by cases h⟩⟩, ?_⟩
                  refine AAny.keep [0, 4, 15, 16, 17, 37, 39, 44] (by decide) ?_
                  exact s11 trivial
              have s17 : ∀ (_ : True), A 7 #[true, true, false, false, false, true, true, true, false, false, false, false] (fun fr m => K1 (fr.keep [0, 4, 15, 16, 17]) m) [(0, .slice false (needs.map (lstAV intAV))), (4, .ptr ⟨b1, 0, none⟩), (15, .slice false (needs.map (lstAV intAV))), (16, .int .i64 (needs.length : Int)), (17, .int .i64 j), (37, .ptr ⟨b1, 0, none⟩), (38, .ptr ⟨b1, 0, none⟩), (44, .slice true [.slice false ((gI needs j).map intAV)])] (AMem.wth m [(b1, .cells [.slice true (nd.map (lstAV intAV))])]) := by
                intro _
                subst hA
                refine AAny.step [41] [2] (by decide +kernel) (by simp) (by decide) ⟨?_, trivial⟩
                · show aopsR _ _ _ [_] _ _ _
                  refine ⟨trivial, ?_⟩
                  refine AAny.keep [0, 4, 15, 16, 17, 37, 39, 44] (by decide) ?_
                  exact s11 trivial
              have s18 : ∀ (_ : True), A 7 #[false, true, true, true, true, true, false, false, false, false, false, false] (fun fr m => K1 (fr.keep [0, 4, 15, 16, 17]) m) [(0, .slice false (needs.map (lstAV intAV))), (4, .ptr ⟨b1, 0, none⟩), (15, .slice false (needs.map (lstAV intAV))), (16, .int .i64 (needs.length : Int)), (17, .int .i64 j), (41, .slice true (nd.map (lstAV intAV))), (42, .slice false ((gI needs j).map intAV))] (AMem.wth m [(b1, .cells [.slice false (nd.map (lstAV intAV))])]) := by
                intro _
                subst hA
                refine AAny.step [41] [0, 6] (by decide +kernel) (by simp) (by decide) ⟨?_, ?_, trivial⟩
                · show aopsR _ _ _ [_] _ _ _
                  refine ⟨trivial, ?_⟩
                  refine AAny.keep [0, 4, 15, 16, 17, 37, 41, 42] (by decide) ?_
                  exact s9 trivial
                · show aopsR _ _ _ [_] _ _ _
                  refine ar_append0 rfl intAV (gI needs j) rfl rfl rfl rfl (Nat.le_of_ble_eq_true rfl) rfl (by (simp only [show Try.prog.bytesOf 3 = 8 from rfl, List.length_append, List.length_cons, List.length_nil]; omega)) (fun _ => ⟨rfl, rfl⟩) ?_
                  refine AAny.keep [0, 4, 15, 16, 17, 41, 43] (by decide) ?_
                  exact s12 trivial
              have s19 : ∀ (_ : True), A 7 #[false, true, true, true, false, true, true, false, false, false, false, false] (fun fr m => K1 (fr.keep [0, 4, 15, 16, 17]) m) [(0, .slice false (needs.map (lstAV intAV))), (4, .ptr ⟨b1, 0, none⟩), (15, .slice false (needs.map (lstAV intAV))), (16, .int .i64 (needs.length : Int)), (17, .int .i64 j), (40, .ptr ⟨b1, 0, none⟩), (43, .slice true ((gI needs j).map intAV))] (AMem.wth m [(b1, .cells [.slice true (nd.map (lstAV intAV))])]) := by
                intro _
                subst hA
                refine AAny.step [41] [0, 4, 7] (by decide +kernel) (by simp) (by decide) ⟨?_, ?_, ?_, trivial⟩
                · show aopsR _ _ _ [_] _ _ _
                  refine ⟨trivial, ?_⟩
                  refine AAny.keep [0, 4, 15, 16, 17, 37, 40, 43] (by decide) ?_
                  exact s10 trivial
                · show aopsR _ _ _ [_] _ _ _
                  refine ar_loads rfl (m := m) (L := [(b1, .cells [.slice true (nd.map (lstAV intAV))])]) (i := 0) rfl hNb1 rfl rfl rfl rfl (Nat.le_of_ble_eq_true rfl) ?_
                  refine AAny.keep [0, 4, 15, 16, 17, 41, 43] (by decide) ?_
                  exact s12 trivial
                · show aopsR _ _ _ [_] _ _ _
                  refine ⟨⟨rfl, Nat.le_of_ble_eq_true rfl, rfl, Nat.le_of_ble_eq_true rfl, rfl, by simp only [List.forall_mem_cons]; exact ⟨⟨rfl, rfl⟩, fun _ h => by cases h⟩⟩, ?_⟩
                  refine AAny.keep [0, 4, 15, 16, 17, 40, 44] (by decide) ?_
                  exact s13 trivial
              have s20 : ∀ (_ : True), A 7 #[false, true, true, false, false, true, true, true, false, false, false, false] (fun fr m => K1 (fr.keep [0, 4, 15, 16, 17]) m) [(0, .slice false (needs.map (lstAV intAV))), (4, .ptr ⟨b1, 0, none⟩), (15, .slice false (needs.map (lstAV intAV))), (16, .int .i64 (needs.length : Int)), (17, .int .i64 j), (39, .ptr ⟨b1, 0, none⟩), (44, .slice true [.slice false ((gI needs j).map intAV)])] (AMem.wth m [(b1, .cells [.slice true (nd.map (lstAV intAV))])]) := by
                intro _
                subst hA
                refine AAny.step [41] [0, 3] (by decide +kernel) (by simp) (by decide) ⟨?_, ?_, trivial⟩
                · show aopsR _ _ _ [_] _ _ _
                  refine ⟨trivial, ?_⟩
                  refine AAny.keep [0, 4, 15, 16, 17, 37, 39, 44] (by decide) ?_
                  exact s11 trivial
                · show aopsR _ _ _ [_] _ _ _
                  refine ⟨⟨rfl, by decide⟩, ?_⟩
                  refine AAny.keep [0, 4, 15, 16, 17, 40, 44] (by decide) ?_
                  exact s13 trivial
              have s21 : ∀ (_ : True), A 8 #[true, true, true, true, false, false, false, false, false, false, false, false] (fun fr m => K1 (fr.keep [0, 4, 15, 16, 17]) m) [(0, .slice false (needs.map (lstAV intAV))), (4, .ptr ⟨b1, 0, none⟩), (6, .slice false ((gI needs j).map intAV)), (15, .slice false (needs.map (lstAV intAV))), (16, .int .i64 (needs.length : Int)), (17, .int .i64 j), (37, .ptr ⟨b1, 0, none⟩), (40, .ptr ⟨b1, 0, none⟩)] (AMem.wth m [(b1, .cells [.slice true (nd.map (lstAV intAV))])]) := by
                intro _
                subst hA
                refine AAny.step [41] [4, 5] (by decide +kernel) (by simp) (by decide) ⟨?_, ?_, trivial⟩
                · show aopsR _ _ _ [_] _ _ _
                  refine ar_loads rfl (m := m) (L := [(b1, .cells [.slice true (nd.map (lstAV intAV))])]) (i := 0) rfl hNb1 rfl rfl rfl rfl (Nat.le_of_ble_eq_true rfl) ?_
                  refine AAny.keep [0, 4, 6, 15, 16, 17, 37, 41] (by decide) ?_
                  exact s14 trivial
                · show aopsR _ _ _ [_] _ _ _
                  refine ⟨trivial, ?_⟩
                  refine AAny.keep [0, 4, 15, 16, 17, 37, 40, 42] (by decide) ?_
                  exact s15 trivial
              have s22 : ∀ (_ : True), A 8 #[true, true, true, false, false, true, false, false, false, false, false, false] (fun fr m => K1 (fr.keep [0, 4, 15, 16, 17]) m) [(0, .slice false (needs.map (lstAV intAV))), (4, .ptr ⟨b1, 0, none⟩), (15, .slice false (needs.map (lstAV intAV))), (16, .int .i64 (needs.length : Int)), (17, .int .i64 j), (37, .ptr ⟨b1, 0, none⟩), (39, .ptr ⟨b1, 0, none⟩), (42, .slice false ((gI needs j).map intAV))] (AMem.wth m [(b1, .cells [.slice true (nd.map (lstAV intAV))])]) := by
                intro _
                subst hA
                refine AAny.step [41] [3, 6] (by decide +kernel) (by simp) (by decide) ⟨?_, ?_, trivial⟩
                · show aopsR _ _ _ [_] _ _ _
                  refine ⟨⟨rfl, by decide⟩, ?_⟩
                  refine AAny.keep [0, 4, 15, 16, 17, 37, 40, 42] (by decide) ?_
                  exact s15 trivial
                · show aopsR _ _ _ [_] _ _ _
                  refine ar_append0 rfl intAV (gI needs j) rfl rfl rfl rfl (Nat.le_of_ble_eq_true rfl) rfl (by (simp only [show Try.prog.bytesOf 3 = 8 from rfl, List.length_append, List.length_cons, List.length_nil]; omega)) (fun _ => ⟨rfl, rfl⟩) ?_
                  refine AAny.keep [0, 4, 15, 16, 17, 37, 39, 43] (by decide) ?_
                  exact s16 trivial
              have s23 : ∀ (_ : True), A 8 #[true, true, false, false, false, true, true, false, false, false, false, false] (fun fr m => K1 (fr.keep [0, 4, 15, 16, 17]) m) [(0, .slice false (needs.map (lstAV intAV))), (4, .ptr ⟨b1, 0, none⟩), (15, .slice false (needs.map (lstAV intAV))), (16, .int .i64 (needs.length : Int)), (17, .int .i64 j), (37, .ptr ⟨b1, 0, none⟩), (38, .ptr ⟨b1, 0, none⟩), (43, .slice true ((gI needs j).map intAV))] (AMem.wth m [(b1, .cells [.slice true (nd.map (lstAV intAV))])]) := by
                intro _
                subst hA
                refine AAny.step [41] [2, 7] (by decide +kernel) (by simp) (by decide) ⟨?_, ?_, trivial⟩
                · show aopsR _ _ _ [_] _ _ _
                  refine ⟨trivial, ?_⟩
                  refine AAny.keep [0, 4, 15, 16, 17, 37, 39, 43] (by decide) ?_
                  exact s16 trivial
                · show aopsR _ _ _ [_] _ _ _
                  refine ⟨⟨rfl, Nat.le_of_ble_eq_true rfl, rfl, Nat.le_of_ble_eq_true rfl, rfl, by simp only [List.forall_mem_cons]; exact ⟨⟨rfl, rfl⟩, fun _ h => by cases h⟩⟩, ?_⟩
                  refine AAny.keep [0, 4, 15, 16, 17, 37, 38, 44] (by decide) ?_
                  exact s17 trivial
              have s24 : ∀ (_ : True), A 8 #[true, false, false, false, false, true, true, true, false, false, false, false] (fun fr m => K1 (fr.keep [0, 4, 15, 16, 17]) m) [(0, .slice false (needs.map (lstAV intAV))), (4, .ptr ⟨b1, 0, none⟩), (15, .slice false (needs.map (lstAV intAV))), (16, .int .i64 (needs.length : Int)), (17, .int .i64 j), (37, .ptr ⟨b1, 0, none⟩), (44, .slice true [.slice false ((gI needs j).map intAV)])] (AMem.wth m [(b1, .cells [.slice true (nd.map (lstAV intAV))])]) := by
                intro _
                subst hA
                refine AAny.step [41] [1] (by decide +kernel) (by simp) (by decide) ⟨?_, trivial⟩
                · show aopsR _ _ _ [_] _ _ _
                  refine ⟨trivial, ?_⟩
                  refine AAny.keep [0, 4, 15, 16, 17, 37, 38, 44] (by decide) ?_
                  exact s17 trivial
              have s25 : ∀ (_ : True), A 8 #[false, true, true, true, true, false, false, false, false, false, false, false] (fun fr m => K1 (fr.keep [0, 4, 15, 16, 17]) m) [(0, .slice false (needs.map (lstAV intAV))), (4, .ptr ⟨b1, 0, none⟩), (6, .slice false ((gI needs j).map intAV)), (15, .slice false (needs.map (lstAV intAV))), (16, .int .i64 (needs.length : Int)), (17, .int .i64 j), (41, .slice true (nd.map (lstAV intAV)))] (AMem.wth m [(b1, .cells [.slice false (nd.map (lstAV intAV))])]) := by
                intro _
                subst hA
                refine AAny.step [41] [0, 5] (by decide +kernel) (by simp) (by decide) ⟨?_, ?_, trivial⟩
                · show aopsR _ _ _ [_] _ _ _
                  refine ⟨trivial, ?_⟩
                  refine AAny.keep [0, 4, 6, 15, 16, 17, 37, 41] (by decide) ?_
                  exact s14 trivial
                · show aopsR _ _ _ [_] _ _ _
                  refine ⟨trivial, ?_⟩
                  refine AAny.keep [0, 4, 15, 16, 17, 41, 42] (by decide) ?_
                  exact s18 trivial
              have s26 : ∀ (_ : True), A 8 #[false, true, true, true, false, true, false, false, false, false, false, false] (fun fr m => K1 (fr.keep [0, 4, 15, 16, 17]) m) [(0, .slice false (needs.map (lstAV intAV))), (4, .ptr ⟨b1, 0, none⟩), (15, .slice false (needs.map (lstAV intAV))), (16, .int .i64 (needs.length : Int)), (17, .int .i64 j), (40, .ptr ⟨b1, 0, none⟩), (42, .slice false ((gI needs j).map intAV))] (AMem.wth m [(b1, .cells [.slice true (nd.map (lstAV intAV))])]) := by
                intro _
                subst hA
                refine AAny.step [41] [0, 4, 6] (by decide +kernel) (by simp) (by decide) ⟨?_, ?_, ?_, trivial⟩
                · show aopsR _ _ _ [_] _ _ _
                  refine ⟨trivial, ?_⟩
                  refine AAny.keep [0, 4, 15, 16, 17, 37, 40, 42] (by decide) ?_
                  exact s15 trivial
                · show aopsR _ _ _ [_] _ _ _
                  refine ar_loads rfl (m := m) (L := [(b1, .cells [.slice true (nd.map (lstAV intAV))])]) (i := 0) rfl hNb1 rfl rfl rfl rfl (Nat.le_of_ble_eq_true rfl) ?_
                  refine AAny.keep [0, 4, 15, 16, 17, 41, 42] (by decide) ?_
                  exact s18 trivial
                · show aopsR _ _ _ [_] _ _ _
                  refine ar_append0 rfl intAV (gI needs j) rfl rfl rfl rfl (Nat.le_of_ble_eq_true rfl) rfl (by (simp only [show Try.prog.bytesOf 3 = 8 from rfl, List.length_append, List.length_cons, List.length_nil]; omega)) (fun _ => ⟨rfl, rfl⟩) ?_
                  refine AAny.keep [0, 4, 15, 16, 17, 40, 43] (by decide) ?_
                  exact s19 trivial
              have s27 : ∀ (_ : True), A 8 #[false, true, true, false, false, true, true, false, false, false, false, false] (fun fr m => K1 (fr.keep [0, 4, 15, 16, 17]) m) [(0, .slice false (needs.map (lstAV intAV))), (4, .ptr ⟨b1, 0, none⟩), (15, .slice false (needs.map (lstAV intAV))), (16, .int .i64 (needs.length : Int)), (17, .int .i64 j), (39, .ptr ⟨b1, 0, none⟩), (43, .slice true ((gI needs j).map intAV))] (AMem.wth m [(b1, .cells [.slice true (nd.map (lstAV intAV))])]) := by
                intro _
                subst hA
                refine AAny.step [41] [0, 3, 7] (by decide +kernel) (by simp) (by decide) ⟨?_, ?_, ?_, trivial⟩
                · show aopsR _ _ _ [_] _ _ _
                  refine ⟨trivial, ?_⟩
                  refine AAny.keep [0, 4, 15, 16, 17, 37, 39, 43] (by decide) ?_
                  exact s16 trivial
                · show aopsR _ _ _ [_] _ _ _
                  refine ⟨⟨rfl, by decide⟩, ?_⟩
                  refine AAny.keep [0, 4, 15, 16, 17, 40, 43] (by decide) ?_
                  exact s19 trivial
                · show aopsR _ _ _ [_] _ _ _
                  refine ⟨⟨rfl, Nat.le_of_ble_eq_true rfl, rfl, Nat.le_of_ble_eq_true rfl, rfl, by simp only [List.forall_mem_cons]; exact ⟨⟨rfl, rfl⟩, fun _ h => by cases h⟩⟩, ?_⟩
                  refine AAny.keep [0, 4, 15, 16, 17, 39, 44] (by decide) ?_
                  exact s20 trivial
              have s28 : ∀ (_ : True), A 8 #[false, true, false, false, false, true, true, true, false, false, false, false] (fun fr m => K1 (fr.keep [0, 4, 15, 16, 17]) m) [(0, .slice false (needs.map (lstAV intAV))), (4, .ptr ⟨b1, 0, none⟩), (15, .slice false (needs.map (lstAV intAV))), (16, .int .i64 (needs.length : Int)), (17, .int .i64 j), (38, .ptr ⟨b1, 0, none⟩), (44, .slice true [.slice false ((gI needs j).map intAV)])] (AMem.wth m [(b1, .cells [.slice true (nd.map (lstAV intAV))])]) := by
                intro _
                subst hA
                refine AAny.step [41] [0, 2] (by decide +kernel) (by simp) (by decide) ⟨?_, ?_, trivial⟩
                · show aopsR _ _ _ [_] _ _ _
                  refine ⟨trivial, ?_⟩
                  refine AAny.keep [0, 4, 15, 16, 17, 37, 38, 44] (by decide) ?_
                  exact s17 trivial
                · show aopsR _ _ _ [_] _ _ _
                  refine ⟨trivial, ?_⟩
                  refine AAny.keep [0, 4, 15, 16, 17, 39, 44] (by decide) ?_
                  exact s20 trivial
              have s29 : ∀ (_ : True), A 9 #[true, true, true, false, false, false, false, false, false, false, false, false] (fun fr m => K1 (fr.keep [0, 4, 15, 16, 17]) m) [(0, .slice false (needs.map (lstAV intAV))), (4, .ptr ⟨b1, 0, none⟩), (6, .slice false ((gI needs j).map intAV)), (15, .slice false (needs.map (lstAV intAV))), (16, .int .i64 (needs.length : Int)), (17, .int .i64 j), (37, .ptr ⟨b1, 0, none⟩), (39, .ptr ⟨b1, 0, none⟩)] (AMem.wth m [(b1, .cells [.slice true (nd.map (lstAV intAV))])]) := by
                intro _
                subst hA
                refine AAny.step [41] [3, 5] (by decide +kernel) (by simp) (by decide) ⟨?_, ?_, trivial⟩
                · show aopsR _ _ _ [_] _ _ _
                  refine ⟨⟨rfl, by decide⟩, ?_⟩
                  refine AAny.keep [0, 4, 6, 15, 16, 17, 37, 40] (by decide) ?_
                  exact s21 trivial
                · show aopsR _ _ _ [_] _ _ _
                  refine ⟨trivial, ?_⟩
                  refine AAny.keep [0, 4, 15, 16, 17, 37, 39, 42] (by decide) ?_
                  exact s22 trivial
              have s30 : ∀ (_ : True), A 9 #[true, true, false, false, false, true, false, false, false, false, false, false] (fun fr m => K1 (fr.keep [0, 4, 15, 16, 17]) m) [(0, .slice false (needs.map (lstAV intAV))), (4, .ptr ⟨b1, 0, none⟩), (15, .slice false (needs.map (lstAV intAV))), (16, .int .i64 (needs.length : Int)), (17, .int .i64 j), (37, .ptr ⟨b1, 0, none⟩), (38, .ptr ⟨b1, 0, none⟩), (42, .slice false ((gI needs j).map intAV))] (AMem.wth m [(b1, .cells [.slice true (nd.map (lstAV intAV))])]) := by
                intro _
                subst hA
                refine AAny.step [41] [2, 6] (by decide +kernel) (by simp) (by decide) ⟨?_, ?_, trivial⟩
                · show aopsR _ _ _ [_] _ _ _
                  refine ⟨trivial, ?_⟩
                  refine AAny.keep [0, 4, 15, 16, 17, 37, 39, 42] (by decide) ?_
                  exact s22 trivial
                · show aopsR _ _ _ [_] _ _ _
                  refine ar_append0 rfl intAV (gI needs j) rfl rfl rfl rfl (Nat.le_of_ble_eq_true rfl) rfl (by (simp only [show Try.prog.bytesOf 3 = 8 from rfl, List.length_append, List.length_cons, List.length_nil]; omega)) (fun _ => ⟨rfl, rfl⟩) ?_
                  refine AAny.keep [0, 4, 15, 16, 17, 37, 38, 43] (by decide) ?_
                  exact s23 trivial
              have s31 : ∀ (_ : True), A 9 #[true, false, false, false, false, true, true, false, false, false, false, false] (fun fr m => K1 (fr.keep [0, 4, 15, 16, 17]) m) [(0, .slice false (needs.map (lstAV intAV))), (4, .ptr ⟨b1, 0, none⟩), (15, .slice false (needs.map (lstAV intAV))), (16, .int .i64 (needs.length : Int)), (17, .int .i64 j), (37, .ptr ⟨b1, 0, none⟩), (43, .slice true ((gI needs j).map intAV))] (AMem.wth m [(b1, .cells [.slice true (nd.map (lstAV intAV))])]) := by
                intro _
                subst hA
                refine AAny.step [41] [1, 7] (by decide +kernel) (by simp) (by decide) ⟨?_, ?_, trivial⟩
                · show aopsR _ _ _ [_] _ _ _
                  refine ⟨trivial, ?_⟩
                  refine AAny.keep [0, 4, 15, 16, 17, 37, 38, 43] (by decide) ?_
                  exact s23 trivial
                · show aopsR _ _ _ [_] _ _ _
                  refine ⟨⟨rfl, Nat.le_of_ble_eq_true rfl, rfl, Nat.le_of_ble_eq_true rfl, rfl, by simp only [List.forall_mem_cons]; exact ⟨⟨rfl, rfl⟩, fun _ h => by cases h⟩⟩, ?_⟩
                  refine AAny.keep [0, 4, 15, 16, 17, 37, 44] (by decide) ?_
                  exact s24 trivial
              have s32 : ∀ (_ : True), A 9 #[false, true, true, true, false, false, false, false, false, false, false, false] (fun fr m => K1 (fr.keep [0, 4, 15, 16, 17]) m) [(0, .slice false (needs.map (lstAV intAV))), (4, .ptr ⟨b1, 0, none⟩), (6, .slice false ((gI needs j).map intAV)), (15, .slice false (needs.map (lstAV intAV))), (16, .int .i64 (needs.length : Int)), (17, .int .i64 j), (40, .ptr ⟨b1, 0, none⟩)] (AMem.wth m [(b1, .cells [.slice true (nd.map (lstAV intAV))])]) := by
                intro _
                subst hA
                refine AAny.step [41] [0, 4, 5] (by decide +kernel) (by simp) (by decide) ⟨?_, ?_, ?_, trivial⟩
                · show aopsR _ _ _ [_] _ _ _
                  refine ⟨trivial, ?_⟩
                  refine AAny.keep [0, 4, 6, 15, 16, 17, 37, 40] (by decide) ?_
                  exact s21 trivial
                · show aopsR _ _ _ [_] _ _ _
                  refine ar_loads rfl (m := m) (L := [(b1, .cells [.slice true (nd.map (lstAV intAV))])]) (i := 0) rfl hNb1 rfl rfl rfl rfl (Nat.le_of_ble_eq_true rfl) ?_
                  refine AAny.keep [0, 4, 6, 15, 16, 17, 41] (by decide) ?_
                  exact s25 trivial
                · show aopsR _ _ _ [_] _ _ _
                  refine ⟨trivial, ?_⟩
                  refine AAny.keep [0, 4, 15, 16, 17, 40, 42] (by decide) ?_
                  exact s26 trivial
              have s33 : ∀ (_ : True), A 9 #[false, true, true, false, false, true, false, false, false, false, false, false] (fun fr m => K1 (fr.keep [0, 4, 15, 16, 17]) m) [(0, .slice false (needs.map (lstAV intAV))), (4, .ptr ⟨b1, 0, none⟩), (15, .slice false (needs.map (lstAV intAV))), (16, .int .i64 (needs.length : Int)), (17, .int .i64 j), (39, .ptr ⟨b1, 0, none⟩), (42, .slice false ((gI needs j).map intAV))] (AMem.wth m [(b1, .cells [.slice true (nd.map (lstAV intAV))])]) := by
                intro _
                subst hA
                refine AAny.step [41] [0, 3, 6] (by decide +kernel) (by simp) (by decide) ⟨?_, ?_, ?_, trivial⟩
                · show aopsR _ _ _ [_] _ _ _
                  refine ⟨trivial, ?_⟩
                  refine AAny.keep [0, 4, 15, 16, 17, 37, 39, 42] (by decide) ?_
                  exact s22 trivial
                · show aopsR _ _ _ [_] _ _ _
                  refine ⟨⟨rfl, by decide⟩, ?_⟩
                  refine AAny.keep [0, 4, 15, 16, 17, 40, 42] (by decide) ?_
                  exact s26 trivial
                · show aopsR _ _ _ [_] _ _ _
                  refine ar_append0 rfl intAV (gI needs j) rfl rfl rfl rfl (Nat.le_of_ble_eq_true rfl) rfl (by (simp only [show Try.prog.bytesOf 3 = 8 from rfl, List.length_append, List.length_cons, List.length_nil]; omega)) (fun _ => ⟨rfl, rfl⟩) ?_
                  refine AAny.keep [0, 4, 15, 16, 17, 39, 43] (by decide) ?_
                  exact s27 trivial
              have s34 : ∀ (_ : True), A 9 #[false, true, false, false, false, true, true, false, false, false, false, false] (fun fr m => K1 (fr.keep [0, 4, 15, 16, 17]) m) [(0, .slice false (needs.map (lstAV intAV))), (4, .ptr ⟨b1, 0, none⟩), (15, .slice false (needs.map (lstAV intAV))), (16, .int .i64 (needs.length : Int)), (17, .int .i64 j), (38, .ptr ⟨b1, 0, none⟩), (43, .slice true ((gI needs j).map intAV))] (AMem.wth m [(b1, .cells [.slice true (nd.map (lstAV intAV))])]) := by
                intro _
                subst hA
                refine AAny.step [41] [0, 2, 7] (by decide +kernel) (by simp) (by decide) ⟨?_, ?_, ?_, trivial⟩
                · show aopsR _ _ _ [_] _ _ _
                  refine ⟨trivial, ?_⟩
                  refine AAny.keep [0, 4, 15, 16, 17, 37, 38, 43] (by decide) ?_
                  exact s23 trivial
                · show aopsR _ _ _ [_] _ _ _
                  refine ⟨trivial, ?_⟩
                  refine AAny.keep [0, 4, 15, 16, 17, 39, 43] (by decide) ?_
                  exact s27 trivial
                · show aopsR _ _ _ [_] _ _ _
                  refine ⟨⟨rfl, Nat.le_of_ble_eq_true rfl, rfl, Nat.le_of_ble_eq_true rfl, rfl, by simp only [List.forall_mem_cons]; exact ⟨⟨rfl, rfl⟩, fun _ h => by cases h⟩⟩, ?_⟩
                  refine AAny.keep [0, 4, 15, 16, 17, 38, 44] (by decide) ?_
                  exact s28 trivial
              have s35 : ∀ (_ : True), A 9 #[false, false, false, false, false, true, true, true, false, false, false, false] (fun fr m => K1 (fr.keep [0, 4, 15, 16, 17]) m) [(0, .slice false (needs.map (lstAV intAV))), (4, .ptr ⟨b1, 0, none⟩), (15, .slice false (needs.map (lstAV intAV))), (16, .int .i64 (needs.length : Int)), (17, .int .i64 j), (44, .slice true [.slice false ((gI needs j).map intAV)])] (AMem.wth m [(b1, .cells [.slice true (nd.map (lstAV intAV))])]) := by
                intro _
                subst hA
                refine AAny.step [41] [0, 1] (by decide +kernel) (by simp) (by decide) ⟨?_, ?_, trivial⟩
                · show aopsR _ _ _ [_] _ _ _
                  refine ⟨trivial, ?_⟩
                  refine AAny.keep [0, 4, 15, 16, 17, 37, 44] (by decide) ?_
                  exact s24 trivial
                · show aopsR _ _ _ [_] _ _ _
                  refine ⟨trivial, ?_⟩
                  refine AAny.keep [0, 4, 15, 16, 17, 38, 44] (by decide) ?_
                  exact s28 trivial
              have s36 : ∀ (_ : True), A 10 #[true, true, false, false, false, false, false, false, false, false, false, false] (fun fr m => K1 (fr.keep [0, 4, 15, 16, 17]) m) [(0, .slice false (needs.map (lstAV intAV))), (4, .ptr ⟨b1, 0, none⟩), (6, .slice false ((gI needs j).map intAV)), (15, .slice false (needs.map (lstAV intAV))), (16, .int .i64 (needs.length : Int)), (17, .int .i64 j), (37, .ptr ⟨b1, 0, none⟩), (38, .ptr ⟨b1, 0, none⟩)] (AMem.wth m [(b1, .cells [.slice true (nd.map (lstAV intAV))])]) := by
                intro _
                subst hA
                refine AAny.step [41] [2, 5] (by decide +kernel) (by simp) (by decide) ⟨?_, ?_, trivial⟩
                · show aopsR _ _ _ [_] _ _ _
                  refine ⟨trivial, ?_⟩
                  refine AAny.keep [0, 4, 6, 15, 16, 17, 37, 39] (by decide) ?_
                  exact s29 trivial
                · show aopsR _ _ _ [_] _ _ _
                  refine ⟨trivial, ?_⟩
                  refine AAny.keep [0, 4, 15, 16, 17, 37, 38, 42] (by decide) ?_
                  exact s30 trivial
              have s37 : ∀ (_ : True), A 10 #[true, false, false, false, false, true, false, false, false, false, false, false] (fun fr m => K1 (fr.keep [0, 4, 15, 16, 17]) m) [(0, .slice false (needs.map (lstAV intAV))), (4, .ptr ⟨b1, 0, none⟩), (15, .slice false (needs.map (lstAV intAV))), (16, .int .i64 (needs.length : Int)), (17, .int .i64 j), (37, .ptr ⟨b1, 0, none⟩), (42, .slice false ((gI needs j).map intAV))] (AMem.wth m [(b1, .cells [.slice true (nd.map (lstAV intAV))])]) := by
                intro _
                subst hA
                refine AAny.step [41] [1, 6] (by decide +kernel) (by simp) (by decide) ⟨?_, ?_, trivial⟩
                · show aopsR _ _ _ [_] _ _ _
                  refine ⟨trivial, ?_⟩
                  refine AAny.keep [0, 4, 15, 16, 17, 37, 38, 42] (by decide) ?_
                  exact s30 trivial
                · show aopsR _ _ _ [_] _ _ _
                  refine ar_append0 rfl intAV (gI needs j) rfl rfl rfl rfl (Nat.le_of_ble_eq_true rfl) rfl (by (simp only [show Try.prog.bytesOf 3 = 8 from rfl, List.length_append, List.length_cons, List.length_nil]; omega)) (fun _ => ⟨rfl, rfl⟩) ?_
                  refine AAny.keep [0, 4, 15, 16, 17, 37, 43] (by decide) ?_
                  exact s31 trivial
              have s38 : ∀ (_ : True), A 10 #[false, true, true, false, false, false, false, false, false, false, false, false] (fun fr m => K1 (fr.keep [0, 4, 15, 16, 17]) m) [(0, .slice false (needs.map (lstAV intAV))), (4, .ptr ⟨b1, 0, none⟩), (6, .slice false ((gI needs j).map intAV)), (15, .slice false (needs.map (lstAV intAV))), (16, .int .i64 (needs.length : Int)), (17, .int .i64 j), (39, .ptr ⟨b1, 0, none⟩)] (AMem.wth m [(b1, .cells [.slice true (nd.map (lstAV intAV))])]) := by
                intro _
                subst hA
                refine AAny.step [41] [0, 3, 5] (by decide +kernel) (by simp) (by decide) ⟨?_, ?_, ?_, trivial⟩
                · show aopsR _ _ _ [_] _ _ _
                  refine ⟨trivial, ?_⟩
                  refine AAny.keep [0, 4, 6, 15, 16, 17, 37, 39] (by decide) ?_
                  exact s29 trivial
                · show aopsR _ _ _ [_] _ _ _
                  refine ⟨⟨rfl, by decide⟩, ?_⟩
                  refine AAny.keep [0, 4, 6, 15, 16, 17, 40] (by decide) ?_
                  exact s32 trivial
                · show aopsR _ _ _ [_] _ _ _
                  refine ⟨trivial, ?_⟩
                  refine AAny.keep [0, 4, 15, 16, 17, 39, 42] (by decide) ?_
                  exact s33 trivial
              have s39 : ∀ (_ : True), A 10 #[false, true, false, false, false, true, false, false, false, false, false, false] (fun fr m => K1 (fr.keep [0, 4, 15, 16, 17]) m) [(0, .slice false (needs.map (lstAV intAV))), (4, .ptr ⟨b1, 0, none⟩), (15, .slice false (needs.map (lstAV intAV))), (16, .int .i64 (needs.length : Int)), (17, .int .i64 j), (38, .ptr ⟨b1, 0, none⟩), (42, .slice false ((gI needs j).map intAV))] (AMem.wth m [(b1, .cells [.slice true (nd.map (lstAV intAV))])]) := by
                intro _
                subst hA
                refine AAny.step [41] [0, 2, 6] (by decide +kernel) (by simp) (by decide) ⟨?_, ?_, ?_, trivial⟩
                · show aopsR _ _ _ [_] _ _ _
                  refine ⟨trivial, ?_⟩
                  refine AAny.keep [0, 4, 15, 16, 17, 37, 38, 42] (by decide) ?_
                  exact s30 trivial
                · show aopsR _ _ _ [_] _ _ _
                  refine ⟨trivial, ?_⟩
                  refine AAny.keep [0, 4, 15, 16, 17, 39, 42] (by decide) ?_
                  exact s33 trivial
                · show aopsR _ _ _ [_] _ _ _
                  refine ar_append0 rfl intAV (gI needs j) rfl rfl rfl rfl (Nat.le_of_ble_eq_true rfl) rfl (by (simp only [show Try.prog.bytesOf 3 = 8 from rfl, List.length_append, List.length_cons, List.length_nil]; omega)) (fun _ => ⟨rfl, rfl⟩) ?_
                  refine AAny.keep [0, 4, 15, 16, 17, 38, 43] (by decide) ?_
                  exact s34 trivial
              have s40 : ∀ (_ : True), A 10 #[false, false, false, false, false, true, true, false, false, false, false, false] (fun fr m => K1 (fr.keep [0, 4, 15, 16, 17]) m) [(0, .slice false (needs.map (lstAV intAV))), (4, .ptr ⟨b1, 0, none⟩), (15, .slice false (needs.map (lstAV intAV))), (16, .int .i64 (needs.length : Int)), (17, .int .i64 j), (43, .slice true ((gI needs j).map intAV))] (AMem.wth m [(b1, .cells [.slice true (nd.map (lstAV intAV))])]) := by
                intro _
                subst hA
                refine AAny.step [41] [0, 1, 7] (by decide +kernel) (by simp) (by decide) ⟨?_, ?_, ?_, trivial⟩
                · show aopsR _ _ _ [_] _ _ _
                  refine ⟨trivial, ?_⟩
                  refine AAny.keep [0, 4, 15, 16, 17, 37, 43] (by decide) ?_
                  exact s31 trivial
                · show aopsR _ _ _ [_] _ _ _
                  refine ⟨trivial, ?_⟩
                  refine AAny.keep [0, 4, 15, 16, 17, 38, 43] (by decide) ?_
                  exact s34 trivial
                · show aopsR _ _ _ [_] _ _ _
                  refine ⟨⟨rfl, Nat.le_of_ble_eq_true rfl, rfl, Nat.le_of_ble_eq_true rfl, rfl, by simp only [List.forall_mem_cons]; exact ⟨⟨rfl, rfl⟩, fun _ h => by cases h⟩⟩, ?_⟩
                  refine AAny.keep [0, 4, 15, 16, 17, 44] (by decide) ?_
                  exact s35 trivial
              have s41 : ∀ (_ : True), A 11 #[true, false, false, false, false, false, false, false, false, false, false, false] (fun fr m => K1 (fr.keep [0, 4, 15, 16, 17]) m) [(0, .slice false (needs.map (lstAV intAV))), (4, .ptr ⟨b1, 0, none⟩), (6, .slice false ((gI needs j).map intAV)), (15, .slice false (needs.map (lstAV intAV))), (16, .int .i64 (needs.length : Int)), (17, .int .i64 j), (37, .ptr ⟨b1, 0, none⟩)] (AMem.wth m [(b1, .cells [.slice true (nd.map (lstAV intAV))])]) := by
                intro _
                subst hA
                refine AAny.step [41] [1, 5] (by decide +kernel) (by simp) (by decide) ⟨?_, ?_, trivial⟩
                · show aopsR _ _ _ [_] _ _ _
                  refine ⟨trivial, ?_⟩
                  refine AAny.keep [0, 4, 6, 15, 16, 17, 37, 38] (by decide) ?_
                  exact s36 trivial
                · show aopsR _ _ _ [_] _ _ _
                  refine ⟨trivial, ?_⟩
                  refine AAny.keep [0, 4, 15, 16, 17, 37, 42] (by decide) ?_
                  exact s37 trivial
              have s42 : ∀ (_ : True), A 11 #[false, true, false, false, false, false, false, false, false, false, false, false] (fun fr m => K1 (fr.keep [0, 4, 15, 16, 17]) m) [(0, .slice false (needs.map (lstAV intAV))), (4, .ptr ⟨b1, 0, none⟩), (6, .slice false ((gI needs j).map intAV)), (15, .slice false (needs.map (lstAV intAV))), (16, .int .i64 (needs.length : Int)), (17, .int .i64 j), (38, .ptr ⟨b1, 0, none⟩)] (AMem.wth m [(b1, .cells [.slice true (nd.map (lstAV intAV))])]) := by
                intro _
                subst hA
                refine AAny.step [41] [0, 2, 5] (by decide +kernel) (by simp) (by decide) ⟨?_, ?_, ?_, trivial⟩
                · show aopsR _ _ _ [_] _ _ _
                  refine ⟨trivial, ?_⟩
                  refine AAny.keep [0, 4, 6, 15, 16, 17, 37, 38] (by decide) ?_
                  exact s36 trivial
                · show aopsR _ _ _ [_] _ _ _
                  refine ⟨trivial, ?_⟩
                  refine AAny.keep [0, 4, 6, 15, 16, 17, 39] (by decide) ?_
                  exact s38 trivial
                · show aopsR _ _ _ [_] _ _ _
                  refine ⟨trivial, ?_⟩
                  refine AAny.keep [0, 4, 15, 16, 17, 38, 42] (by decide) ?_
                  exact s39 trivial
              have s43 : ∀ (_ : True), A 11 #[false, false, false, false, false, true, false, false, false, false, false, false] (fun fr m => K1 (fr.keep [0, 4, 15, 16, 17]) m) [(0, .slice false (needs.map (lstAV intAV))), (4, .ptr ⟨b1, 0, none⟩), (15, .slice false (needs.map (lstAV intAV))), (16, .int .i64 (needs.length : Int)), (17, .int .i64 j), (42, .slice false ((gI needs j).map intAV))] (AMem.wth m [(b1, .cells [.slice true (nd.map (lstAV intAV))])]) := by
                intro _
                subst hA
                refine AAny.step [41] [0, 1, 6] (by decide +kernel) (by simp) (by decide) ⟨?_, ?_, ?_, trivial⟩
                · show aopsR _ _ _ [_] _ _ _
                  refine ⟨trivial, ?_⟩
                  refine AAny.keep [0, 4, 15, 16, 17, 37, 42] (by decide) ?_
                  exact s37 trivial
                · show aopsR _ _ _ [_] _ _ _
                  refine ⟨trivial, ?_⟩
                  refine AAny.keep [0, 4, 15, 16, 17, 38, 42] (by decide) ?_
                  exact s39 trivial
                · show aopsR _ _ _ [_] _ _ _
                  refine ar_append0 rfl intAV (gI needs j) rfl rfl rfl rfl (Nat.le_of_ble_eq_true rfl) rfl (by (simp only [show Try.prog.bytesOf 3 = 8 from rfl, List.length_append, List.length_cons, List.length_nil]; omega)) (fun _ => ⟨rfl, rfl⟩) ?_
                  refine AAny.keep [0, 4, 15, 16, 17, 43] (by decide) ?_
                  exact s40 trivial
              have s44 : ∀ (_ : True), A 12 #[false, false, false, false, false, false, false, false, false, false, false, false] (fun fr m => K1 (fr.keep [0, 4, 15, 16, 17]) m) [(0, .slice false (needs.map (lstAV intAV))), (4, .ptr ⟨b1, 0, none⟩), (6, .slice false ((gI needs j).map intAV)), (15, .slice false (needs.map (lstAV intAV))), (16, .int .i64 (needs.length : Int)), (17, .int .i64 j), (21, .slice false ((gI needs j).map intAV)), (22, .int .i64 ((gI needs j).length : Int)), (23, .int .i64 i), (24, .bool (decide (i < ((gI needs j).length : Int))))] (AMem.wth m [(b1, .cells [.slice true (nd.map (lstAV intAV))])]) := by
                intro _
                subst hA
                refine AAny.step [41] [0, 1, 5] (by decide +kernel) (by simp) (by decide) ⟨?_, ?_, ?_, trivial⟩
                · show aopsR _ _ _ [_] _ _ _
                  refine ⟨trivial, ?_⟩
                  refine AAny.keep [0, 4, 6, 15, 16, 17, 37] (by decide) ?_
                  exact s41 trivial
                · show aopsR _ _ _ [_] _ _ _
                  refine ⟨trivial, ?_⟩
                  refine AAny.keep [0, 4, 6, 15, 16, 17, 38] (by decide) ?_
                  exact s42 trivial
                · show aopsR _ _ _ [_] _ _ _
                  refine ⟨trivial, ?_⟩
                  refine AAny.keep [0, 4, 15, 16, 17, 42] (by decide) ?_
                  exact s43 trivial
              exact s44 trivial
            intro _
            refine hK1 _ _ ?_; clear hK1 K1
            refine hK5 _ _ ?_; clear hK5
            refine awp_reg2 [] [0, 4, 15, 16, 17] (by decide) ?_
            intro K1 hK1
            refine ar_add rfl (a := j) (b := 1) rfl rfl (by omega) (by omega) ?_
            refine ⟨trivial, ?_⟩
            show K1 [(0, .slice false (needs.map (lstAV intAV))), (4, .ptr ⟨b1, 0, none⟩), (15, .slice false (needs.map (lstAV intAV))), (16, .int .i64 (needs.length : Int)), (17, .int .i64 (j + 1))] (AMem.wth m [(b1, .cells [.slice true ((nd ++ ([gI needs j] : List (List Int))).map (lstAV intAV))])])
            refine hK1 _ _ ?_; clear hK1 K1
            refine ⟨(j + 1, nd ++ ([gI needs j] : List (List Int))), rfl, rfl, ?_, ?_⟩
            · show 0 ≤ ((j + 1 : Int)) ∧ ((j + 1 : Int)) ≤ needs.length ∧ ((nd ++ ([gI needs j] : List (List Int)) : (List (List Int)))) = needs.take ((j + 1 : Int)).toNat ∧ ((nd ++ ([gI needs j] : List (List Int)) : (List (List Int)))).all (okL needs.length) = true
              exact ⟨by omega, by omega, by rw [hI.2.2.1, take_succ_gI hI.1 h2], by rw [List.all_append, hI.2.2.2]; simp; exact all_of_take h3 hI2.2.2⟩
            · show needs.length - ((j + 1 : Int)).toNat < needs.length - j.toNat
              omega
      · replace h2 : (needs.length : Int) ≤ j := (Int.not_lt.1 (of_decide_eq_false h2))
        refine awp_exit ?_
        refine hK3 _ _ ?_; clear hK3
        refine awp_reg2_seq [] [2, 3] (by decide) ?_
        intro K1 hK1
        refine ⟨trivial, trivial, trivial, ?_⟩
        show K1 [(2, .ptr ⟨b1, 0, none⟩), (3, .nilIface)] (AMem.wth m [(b1, .cells [.slice true (nd.map (lstAV intAV))])])
        refine hK1 _ _ ?_; clear hK1 K1
        refine awp_toErr 57 [3] ?_
        show AWP _ _ _ _ [(2, .ptr ⟨b1, 0, none⟩), (3, .err 57 0)] (AMem.wth m [(b1, .cells [.slice true (nd.map (lstAV intAV))])])
        refine awp_ret ?_
        refine ⟨trivial, trivial, (AMem.wth m [(b1, .cells [.slice true (nd.map (lstAV intAV))])]), fun _ _ h => h, ?_⟩
        show K (.tuple [.ptr ⟨b1, 0, none⟩, .err 57 0]) (AMem.wth m [(b1, .cells [.slice true (nd.map (lstAV intAV))])])
       
        have e : nd = needs := by rw [hI.2.2.1]; exact List.take_of_length_le (by omega)
        subst e
        exact hK (by rw [newE, if_neg (by omega)]; exact if_pos hI.2.2.2) b1 hFb1

end Go.Proofs
