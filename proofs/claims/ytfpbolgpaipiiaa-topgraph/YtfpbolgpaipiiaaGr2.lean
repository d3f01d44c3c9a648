import Derived.Test.YtfpbolgpaipiiaaProg
import Derived.Test.YtfpbolgpaipiiaaMix
import Derived.Test.YtfpbolgpaipiiaaWwZ
import Derived.Test.YtfpbolgpaipiiaaGr1
import Derived.Test.YtfpbolgpaipiiaaLx6
namespace Go.Proofs
open Go Go.Aw
set_option maxRecDepth 100000


theorem nodup_one (g : Nat) : [g].Nodup := by simp
def readyB (needs : List (List Int)) (lv : List Int) (i : Int) : Bool := (gI lv i == 0) && (gI needs i).all fun k => decide (0 < gI lv k)
def upto (k : Int) : List Int := (List.range k.toNat).map fun i : Nat => (i : Int)
def waveTo (needs : List (List Int)) (lv : List Int) (k : Int) : List Int := (upto k).filter (readyB needs lv)
def setAll (lv wave : List Int) (v : Int) : List Int := wave.foldl (fun l k => l.set k.toNat v) lv
theorem upto_succ {k : Int} (h : 0 ≤ k) : upto (k + 1) = upto k ++ [k] := by
  have e : (k + 1).toNat = k.toNat + 1 := by omega
  simp [upto, e, List.range_succ]; omega
theorem waveTo_succ {needs : List (List Int)} {lv : List Int} {k : Int} (h : 0 ≤ k) : waveTo needs lv (k + 1) = if readyB needs lv k = true then waveTo needs lv k ++ [k] else waveTo needs lv k := by
  rw [waveTo, upto_succ h, List.filter_append]
  by_cases hr : readyB needs lv k = true
  · simp [hr, waveTo]
  · simp [hr, waveTo]
theorem waveTo_mem {needs : List (List Int)} {lv : List Int} {k x : Int} (h : x ∈ waveTo needs lv k) : 0 ≤ x ∧ x < k := by
  have := (List.mem_filter.1 h).1
  simp [upto] at this
  obtain ⟨i, hi, rfl⟩ := this
  omega
theorem waveTo_len (needs : List (List Int)) (lv : List Int) (k : Int) : (waveTo needs lv k).length ≤ k.toNat := by
  refine Nat.le_trans (List.length_filter_le _ _) ?_
  simp [upto]
theorem setAll_len (wave : List Int) (v : Int) : ∀ lv : List Int, (setAll lv wave v).length = lv.length := by
  induction wave with
  | nil => intro lv; rfl
  | cons x w ih => intro lv; simp only [setAll, List.foldl_cons] at ih ⊢; rw [ih]; simp
theorem setAll_snoc (lv wave : List Int) (k v : Int) : setAll lv (wave ++ [k]) v = (setAll lv wave v).set k.toNat v := by simp [setAll]
def wavesF : Nat → List (List Int) → Int → List Int → List (List Int) → List (List Int) × Int
  | 0, _, _, _, out => (out, 0)
  | f + 1, needs, left, lv, out =>
    if left ≤ 0 then (out, 0)
    else if waveTo needs lv needs.length = [] then ([], 8)
    else wavesF f needs (left - (waveTo needs lv needs.length).length) (setAll lv (waveTo needs lv needs.length) (out.length + 1 : Nat)) (out ++ [waveTo needs lv needs.length])
def wavesR (needs : List (List Int)) : List (List Int) × Int := wavesF (needs.length + 1) needs needs.length (List.replicate needs.length 0) []
theorem okN_gI {needs : List (List Int)} (h : okN needs = true) {i k : Int} (h0 : 0 ≤ i) (hi : i < needs.length) (h1 : 0 ≤ k) (hk : k < (gI needs i).length) : 0 ≤ gI (gI needs i) k ∧ gI (gI needs i) k < needs.length :=
  okL_gI (List.all_eq_true.1 h _ (gI_mem h0 hi)) h1 hk
theorem all_take_snoc {α : Type} [Inhabited α] {l : List α} {i : Int} {p : α → Bool} (h0 : 0 ≤ i) (hi : i < l.length) : (l.take (i + 1).toNat).all p = ((l.take i.toNat).all p && p (gI l i)) := by
  rw [take_succ_gI h0 hi, List.all_append]; simp
theorem take_full {α : Type} {l : List α} {i : Int} (hi : l.length ≤ i) : l.take i.toNat = l := List.take_of_length_le (by omega)

set_option maxHeartbeats 1000000 in
theorem u_Waves (g : Nat) (needs : List (List Int)) (hok : okN needs = true) (hn : needs.length ≤ 64) (hl : ∀ l ∈ needs, l.length ≤ 1048576) (m : AMem)  (K : AV → AMem → Prop) (hK : K (.tuple [.slice false ((wavesR needs).1.map (lstAV intAV)), .err 57 (wavesR needs).2]) (AMem.wth m [(g, .cells [.slice true (needs.map (lstAV intAV))])])) : ACalls Try.prog 11 [.ptr ⟨g, 0, none⟩] (AMem.wth m [(g, .cells [.slice true (needs.map (lstAV intAV))])]) K := by
  refine acalls_enter Try.func11 rfl (by decide) (Nat.le_of_ble_eq_true rfl) ?_
  show AWP _ _ _ _ [(0, .ptr ⟨g, 0, none⟩)] (AMem.wth m [(g, .cells [.slice true (needs.map (lstAV intAV))])])
  refine awp_reg2_seq [] [0] (by decide) ?_
  intro K1 hK1
  refine ⟨trivial, trivial, ?_⟩
  show K1 [(0, .ptr ⟨g, 0, none⟩)] (AMem.wth m [(g, .cells [.slice true (needs.map (lstAV intAV))])])
  refine hK1 _ _ ?_; clear hK1 K1
  refine awp_reg2_seq [] [0, 4] (by decide) ?_
  intro K1 hK1
  refine ⟨trivial, trivial, ⟨rfl, by decide⟩, ?_⟩
  refine ar_loadp rfl (m := m) (L := [(g, .cells [.slice true (needs.map (lstAV intAV))])]) (v := .slice false (needs.map (lstAV intAV))) rfl (wth_get (m := m) (L := [(g, .cells [.slice true (needs.map (lstAV intAV))])]) 0 (nodup_one g) rfl) rfl (apartOk_one rfl rfl (Nat.le_of_ble_eq_true rfl)) rfl ?_
  refine ar_len rfl (lstAV intAV) needs rfl rfl rfl ?_
  refine ar_makeSlice rfl (m := m) (L := [(g, .cells [.slice true (needs.map (lstAV intAV))])]) intAV 0 (needs.length : Int) rfl rfl rfl rfl rfl rfl rfl rfl (by omega) (by simp only [show Try.prog.bytesOf 3 = 8 from rfl]; omega) (by omega) ?_
  intro b1 hb1
  have hFb1 : m b1 = none := wth_none (m := m) (L := [(g, .cells [.slice true (needs.map (lstAV intAV))])]) hb1
  have hNb1 : ([b1, g] : List Nat).Nodup := wth_nodup (m := m) (L := [(g, .cells [.slice true (needs.map (lstAV intAV))])]) hb1 (nodup_one g)
  refine ⟨trivial, ?_⟩
  show K1 [(0, .ptr ⟨g, 0, none⟩), (4, .ms ⟨b1, 0, none⟩ (((needs.length : Int)).toNat) (((needs.length : Int)).toNat))] (AMem.wth m [(b1, .cells ((List.replicate ((needs.length : Int)).toNat 0).map intAV)), (g, .cells [.slice true (needs.map (lstAV intAV))])])
  refine hK1 _ _ ?_; clear hK1 K1
  refine awp_reg2_seq [] [0, 4, 5] (by decide) ?_
  intro K1 hK1
  refine ⟨trivial, ?_⟩
  show K1 [(0, .ptr ⟨g, 0, none⟩), (4, .ms ⟨b1, 0, none⟩ (((needs.length : Int)).toNat) (((needs.length : Int)).toNat)), (5, .slice true [])] (AMem.wth m [(b1, .cells ((List.replicate ((needs.length : Int)).toNat 0).map intAV)), (g, .cells [.slice true (needs.map (lstAV intAV))])])
  refine hK1 _ _ ?_; clear hK1 K1
  refine awp_seq_k ?_; intro K2 hK2
  refine awp_reg2_seq [] [0, 4, 5, 6] (by decide) ?_
  intro K1 hK1
  refine ⟨trivial, trivial, ⟨rfl, by decide⟩, ?_⟩
  refine ar_loadp rfl (m := m) (L := [(b1, .cells ((List.replicate ((needs.length : Int)).toNat 0).map intAV)), (g, .cells [.slice true (needs.map (lstAV intAV))])]) (v := .slice false (needs.map (lstAV intAV))) rfl (wth_get (m := m) (L := [(b1, .cells ((List.replicate ((needs.length : Int)).toNat 0).map intAV)), (g, .cells [.slice true (needs.map (lstAV intAV))])]) 1 hNb1 rfl) rfl (apartOk_one rfl rfl (Nat.le_of_ble_eq_true rfl)) rfl ?_
  refine ar_len rfl (lstAV intAV) needs rfl rfl rfl ?_
  refine ⟨trivial, ?_⟩
  show K1 [(0, .ptr ⟨g, 0, none⟩), (4, .ms ⟨b1, 0, none⟩ (((needs.length : Int)).toNat) (((needs.length : Int)).toNat)), (5, .slice true []), (6, .int .i64 (needs.length : Int))] (AMem.wth m [(b1, .cells ((List.replicate ((needs.length : Int)).toNat 0).map intAV)), (g, .cells [.slice true (needs.map (lstAV intAV))])])
  refine hK1 _ _ ?_; clear hK1 K1
  refine awp_block ?_
  refine awp_keep [0, 4, 5, 6] (by decide) ?_
  refine awp_loop_st (σ := (List (List Int)) × Int × (List Int)) (fun ⟨out, left, lv⟩ => [(0, .ptr ⟨g, 0, none⟩), (4, .ms ⟨b1, 0, none⟩ (((needs.length : Int)).toNat) (((needs.length : Int)).toNat)), (5, .slice true (out.map (lstAV intAV))), (6, .int .i64 left)]) (fun ⟨out, left, lv⟩ => (AMem.wth m [(b1, .cells (lv.map intAV)), (g, .cells [.slice true (needs.map (lstAV intAV))])])) (fun ⟨out, left, lv⟩ => left ≤ needs.length ∧ lv.length = needs.length ∧ out.length + left ≤ needs.length ∧ ∃ f : Nat, left < f ∧ wavesR needs = wavesF f needs left lv out) (fun ⟨out, left, lv⟩ => left.toNat) ([], (needs.length : Int), List.replicate ((needs.length : Int)).toNat 0) rfl rfl ?_ ?_
  · show (((needs.length : Int) : Int)) ≤ needs.length ∧ ((List.replicate ((needs.length : Int)).toNat 0 : (List Int))).length = needs.length ∧ (([] : (List (List Int)))).length + (((needs.length : Int) : Int)) ≤ needs.length ∧ ∃ f : Nat, (((needs.length : Int) : Int)) < f ∧ wavesR needs = wavesF f needs (((needs.length : Int) : Int)) ((List.replicate ((needs.length : Int)).toNat 0 : (List Int))) (([] : (List (List Int))))
    exact ⟨by omega, by simp, by simp, needs.length + 1, by omega, rfl⟩
  · rintro ⟨out, left, lv⟩ hI
    replace hI : left ≤ needs.length ∧ lv.length = needs.length ∧ out.length + left ≤ needs.length ∧ ∃ f : Nat, left < f ∧ wavesR needs = wavesF f needs left lv out := hI
    obtain ⟨f, hf, hw⟩ := hI.2.2.2
    show AWP _ _ _ _ [(0, .ptr ⟨g, 0, none⟩), (4, .ms ⟨b1, 0, none⟩ (((needs.length : Int)).toNat) (((needs.length : Int)).toNat)), (5, .slice true (out.map (lstAV intAV))), (6, .int .i64 left)] (AMem.wth m [(b1, .cells (lv.map intAV)), (g, .cells [.slice true (needs.map (lstAV intAV))])])
    refine awp_seq_k ?_; intro K3 hK3
    refine awp_reg2_seq [] [0, 4, 5, 6, 27] (by decide) ?_
    intro K1 hK1
    refine ⟨trivial, trivial, ?_⟩
    show K1 [(0, .ptr ⟨g, 0, none⟩), (4, .ms ⟨b1, 0, none⟩ (((needs.length : Int)).toNat) (((needs.length : Int)).toNat)), (5, .slice true (out.map (lstAV intAV))), (6, .int .i64 left), (27, .bool (decide (0 < left)))] (AMem.wth m [(b1, .cells (lv.map intAV)), (g, .cells [.slice true (needs.map (lstAV intAV))])])
    refine hK1 _ _ ?_; clear hK1 K1
    refine awp_cond rfl rfl (fun h1 => ?_) (fun h1 => ?_)
    · replace h1 : 0 < left := (of_decide_eq_true h1)
      obtain ⟨f, rfl⟩ : ∃ k, f = k + 1 := ⟨f - 1, by omega⟩
      refine awp_skip ?_
      refine hK3 _ _ ?_; clear hK3
      refine awp_block ?_
      refine awp_reg2_seq [] [0, 4, 5, 6, 7] (by decide) ?_
      intro K1 hK1
      refine ⟨trivial, ?_⟩
      show K1 [(0, .ptr ⟨g, 0, none⟩), (4, .ms ⟨b1, 0, none⟩ (((needs.length : Int)).toNat) (((needs.length : Int)).toNat)), (5, .slice true (out.map (lstAV intAV))), (6, .int .i64 left), (7, .slice true [])] (AMem.wth m [(b1, .cells (lv.map intAV)), (g, .cells [.slice true (needs.map (lstAV intAV))])])
      refine hK1 _ _ ?_; clear hK1 K1
      refine awp_seq_k ?_; intro K4 hK4
      refine awp_reg2_seq [] [0, 4, 5, 6, 7, 31, 32, 33] (by decide) ?_
      intro K1 hK1
      refine ⟨trivial, trivial, ⟨rfl, by decide⟩, ?_⟩
      refine ar_loadp rfl (m := m) (L := [(b1, .cells (lv.map intAV)), (g, .cells [.slice true (needs.map (lstAV intAV))])]) (v := .slice false (needs.map (lstAV intAV))) rfl (wth_get (m := m) (L := [(b1, .cells (lv.map intAV)), (g, .cells [.slice true (needs.map (lstAV intAV))])]) 1 hNb1 rfl) rfl (apartOk_one rfl rfl (Nat.le_of_ble_eq_true rfl)) rfl ?_
      refine ar_len rfl (lstAV intAV) needs rfl rfl rfl ?_
      refine ⟨trivial, ?_⟩
      show K1 [(0, .ptr ⟨g, 0, none⟩), (4, .ms ⟨b1, 0, none⟩ (((needs.length : Int)).toNat) (((needs.length : Int)).toNat)), (5, .slice true (out.map (lstAV intAV))), (6, .int .i64 left), (7, .slice true []), (31, .slice false (needs.map (lstAV intAV))), (32, .int .i64 (needs.length : Int)), (33, .int .i64 0)] (AMem.wth m [(b1, .cells (lv.map intAV)), (g, .cells [.slice true (needs.map (lstAV intAV))])])
      refine hK1 _ _ ?_; clear hK1 K1
      refine awp_block ?_
      refine awp_keep [0, 4, 5, 6, 7, 31, 32, 33] (by decide) ?_
      refine awp_loop_st (σ := (List Int) × Int) (fun ⟨wave, i⟩ => [(0, .ptr ⟨g, 0, none⟩), (4, .ms ⟨b1, 0, none⟩ (((needs.length : Int)).toNat) (((needs.length : Int)).toNat)), (5, .slice true (out.map (lstAV intAV))), (6, .int .i64 left), (7, .slice true (wave.map intAV)), (31, .slice false (needs.map (lstAV intAV))), (32, .int .i64 (needs.length : Int)), (33, .int .i64 i)]) (fun _ => (AMem.wth m [(b1, .cells (lv.map intAV)), (g, .cells [.slice true (needs.map (lstAV intAV))])])) (fun ⟨wave, i⟩ => 0 ≤ i ∧ i ≤ needs.length ∧ wave = waveTo needs lv i) (fun ⟨wave, i⟩ => needs.length - i.toNat) ([], 0) rfl rfl ?_ ?_
      · show 0 ≤ ((0 : Int)) ∧ ((0 : Int)) ≤ needs.length ∧ (([] : (List Int))) = waveTo needs lv ((0 : Int))
        exact ⟨by omega, by omega, by simp [waveTo, upto]⟩
      · rintro ⟨wave, i⟩ hI2
        replace hI2 : 0 ≤ i ∧ i ≤ needs.length ∧ wave = waveTo needs lv i := hI2
        have hwl := waveTo_len needs lv i
        rw [← hI2.2.2] at hwl
        show AWP _ _ _ _ [(0, .ptr ⟨g, 0, none⟩), (4, .ms ⟨b1, 0, none⟩ (((needs.length : Int)).toNat) (((needs.length : Int)).toNat)), (5, .slice true (out.map (lstAV intAV))), (6, .int .i64 left), (7, .slice true (wave.map intAV)), (31, .slice false (needs.map (lstAV intAV))), (32, .int .i64 (needs.length : Int)), (33, .int .i64 i)] (AMem.wth m [(b1, .cells (lv.map intAV)), (g, .cells [.slice true (needs.map (lstAV intAV))])])
        refine awp_reg2_seq [] [0, 4, 5, 6, 7, 31, 32, 33, 34] (by decide) ?_
        intro K1 hK1
        refine ⟨trivial, ?_⟩
        show K1 [(0, .ptr ⟨g, 0, none⟩), (4, .ms ⟨b1, 0, none⟩ (((needs.length : Int)).toNat) (((needs.length : Int)).toNat)), (5, .slice true (out.map (lstAV intAV))), (6, .int .i64 left), (7, .slice true (wave.map intAV)), (31, .slice false (needs.map (lstAV intAV))), (32, .int .i64 (needs.length : Int)), (33, .int .i64 i), (34, .bool (decide (i < (needs.length : Int))))] (AMem.wth m [(b1, .cells (lv.map intAV)), (g, .cells [.slice true (needs.map (lstAV intAV))])])
        refine hK1 _ _ ?_; clear hK1 K1
        refine awp_seq_k ?_; intro K5 hK5
        refine awp_cond rfl rfl (fun h2 => ?_) (fun h2 => ?_)
        · replace h2 : i < (needs.length : Int) := (of_decide_eq_true h2)
          have hlj := hl _ (gI_mem (l := needs) (i := i) hI2.1 h2)
          refine awp_skip ?_
          refine hK5 _ _ ?_; clear hK5
          refine awp_seq_k ?_; intro K6 hK6
          refine awp_block ?_
          refine awp_reg2_seq [] [0, 4, 5, 6, 7, 8, 9, 31, 32, 33] (by decide) ?_
          intro K1 hK1
          refine ⟨trivial, ?_⟩
          refine ar_index rfl (lstAV intAV) needs i rfl rfl rfl rfl rfl (by decide) (fun _ => rfl) (by omega) (by omega) ?_
          refine ⟨(apartOk_one rfl rfl (Nat.le_of_ble_eq_true rfl)), trivial, trivial, ?_⟩
          show K1 [(0, .ptr ⟨g, 0, none⟩), (4, .ms ⟨b1, 0, none⟩ (((needs.length : Int)).toNat) (((needs.length : Int)).toNat)), (5, .slice true (out.map (lstAV intAV))), (6, .int .i64 left), (7, .slice true (wave.map intAV)), (8, .int .i64 i), (9, .slice false ((gI needs i).map intAV)), (31, .slice false (needs.map (lstAV intAV))), (32, .int .i64 (needs.length : Int)), (33, .int .i64 i)] (AMem.wth m [(b1, .cells (lv.map intAV)), (g, .cells [.slice true (needs.map (lstAV intAV))])])
          refine hK1 _ _ ?_; clear hK1 K1
          refine awp_reg2_seq [] [0, 4, 5, 6, 7, 8, 9, 10, 31, 32, 33] (by decide) ?_
          intro K1 hK1
          refine ⟨trivial, trivial, ⟨rfl, (by omega), (by omega)⟩, ?_⟩
          refine ar_loadm rfl (m := m) (L := [(b1, .cells (lv.map intAV)), (g, .cells [.slice true (needs.map (lstAV intAV))])]) intAV lv i rfl rfl (wth_get (m := m) (L := [(b1, .cells (lv.map intAV)), (g, .cells [.slice true (needs.map (lstAV intAV))])]) 0 hNb1 rfl) rfl rfl rfl (fun _ => rfl) (by omega) (by omega) ?_
          refine ⟨trivial, trivial, ?_⟩
          show K1 [(0, .ptr ⟨g, 0, none⟩), (4, .ms ⟨b1, 0, none⟩ (((needs.length : Int)).toNat) (((needs.length : Int)).toNat)), (5, .slice true (out.map (lstAV intAV))), (6, .int .i64 left), (7, .slice true (wave.map intAV)), (8, .int .i64 i), (9, .slice false ((gI needs i).map intAV)), (10, .bool ((gI lv i) == 0)), (31, .slice false (needs.map (lstAV intAV))), (32, .int .i64 (needs.length : Int)), (33, .int .i64 i)] (AMem.wth m [(b1, .cells (lv.map intAV)), (g, .cells [.slice true (needs.map (lstAV intAV))])])
          refine hK1 _ _ ?_; clear hK1 K1
          refine awp_seq_k ?_; intro K7 hK7
          refine awp_reg2_seq [] [0, 4, 5, 6, 7, 8, 10, 31, 32, 33, 43, 44, 45] (by decide) ?_
          intro K1 hK1
          refine ⟨trivial, ?_⟩
          refine ar_len rfl intAV (gI needs i) rfl rfl rfl ?_
          refine ⟨trivial, ?_⟩
          show K1 [(0, .ptr ⟨g, 0, none⟩), (4, .ms ⟨b1, 0, none⟩ (((needs.length : Int)).toNat) (((needs.length : Int)).toNat)), (5, .slice true (out.map (lstAV intAV))), (6, .int .i64 left), (7, .slice true (wave.map intAV)), (8, .int .i64 i), (10, .bool ((gI lv i) == 0)), (31, .slice false (needs.map (lstAV intAV))), (32, .int .i64 (needs.length : Int)), (33, .int .i64 i), (43, .slice false ((gI needs i).map intAV)), (44, .int .i64 ((gI needs i).length : Int)), (45, .int .i64 0)] (AMem.wth m [(b1, .cells (lv.map intAV)), (g, .cells [.slice true (needs.map (lstAV intAV))])])
          refine hK1 _ _ ?_; clear hK1 K1
          refine awp_block ?_
          refine awp_keep [0, 4, 5, 6, 7, 8, 10, 31, 32, 33, 43, 44, 45] (by decide) ?_
          refine awp_loop_st (σ := Bool × Int) (fun ⟨ready, j⟩ => [(0, .ptr ⟨g, 0, none⟩), (4, .ms ⟨b1, 0, none⟩ (((needs.length : Int)).toNat) (((needs.length : Int)).toNat)), (5, .slice true (out.map (lstAV intAV))), (6, .int .i64 left), (7, .slice true (wave.map intAV)), (8, .int .i64 i), (10, .bool ready), (31, .slice false (needs.map (lstAV intAV))), (32, .int .i64 (needs.length : Int)), (33, .int .i64 i), (43, .slice false ((gI needs i).map intAV)), (44, .int .i64 ((gI needs i).length : Int)), (45, .int .i64 j)]) (fun _ => (AMem.wth m [(b1, .cells (lv.map intAV)), (g, .cells [.slice true (needs.map (lstAV intAV))])])) (fun ⟨ready, j⟩ => 0 ≤ j ∧ j ≤ (gI needs i).length ∧ ready = ((gI lv i == 0) && ((gI needs i).take j.toNat).all fun k => decide (0 < gI lv k))) (fun ⟨ready, j⟩ => (gI needs i).length - j.toNat) (((gI lv i) == 0), 0) rfl rfl ?_ ?_
          · show 0 ≤ ((0 : Int)) ∧ ((0 : Int)) ≤ (gI needs i).length ∧ ((((gI lv i) == 0) : Bool)) = ((gI lv i == 0) && ((gI needs i).take ((0 : Int)).toNat).all fun k => decide (0 < gI lv k))
            exact ⟨by omega, by omega, by simp⟩
          · rintro ⟨ready, j⟩ hI3
            replace hI3 : 0 ≤ j ∧ j ≤ (gI needs i).length ∧ ready = ((gI lv i == 0) && ((gI needs i).take j.toNat).all fun k => decide (0 < gI lv k)) := hI3
            show AWP _ _ _ _ [(0, .ptr ⟨g, 0, none⟩), (4, .ms ⟨b1, 0, none⟩ (((needs.length : Int)).toNat) (((needs.length : Int)).toNat)), (5, .slice true (out.map (lstAV intAV))), (6, .int .i64 left), (7, .slice true (wave.map intAV)), (8, .int .i64 i), (10, .bool ready), (31, .slice false (needs.map (lstAV intAV))), (32, .int .i64 (needs.length : Int)), (33, .int .i64 i), (43, .slice false ((gI needs i).map intAV)), (44, .int .i64 ((gI needs i).length : Int)), (45, .int .i64 j)] (AMem.wth m [(b1, .cells (lv.map intAV)), (g, .cells [.slice true (needs.map (lstAV intAV))])])
            refine awp_reg2_seq [] [0, 4, 5, 6, 7, 8, 10, 31, 32, 33, 43, 44, 45, 46] (by decide) ?_
            intro K1 hK1
            refine ⟨trivial, ?_⟩
            show K1 [(0, .ptr ⟨g, 0, none⟩), (4, .ms ⟨b1, 0, none⟩ (((needs.length : Int)).toNat) (((needs.length : Int)).toNat)), (5, .slice true (out.map (lstAV intAV))), (6, .int .i64 left), (7, .slice true (wave.map intAV)), (8, .int .i64 i), (10, .bool ready), (31, .slice false (needs.map (lstAV intAV))), (32, .int .i64 (needs.length : Int)), (33, .int .i64 i), (43, .slice false ((gI needs i).map intAV)), (44, .int .i64 ((gI needs i).length : Int)), (45, .int .i64 j), (46, .bool (decide (j < ((gI needs i).length : Int))))] (AMem.wth m [(b1, .cells (lv.map intAV)), (g, .cells [.slice true (needs.map (lstAV intAV))])])
            refine hK1 _ _ ?_; clear hK1 K1
            refine awp_seq_k ?_; intro K8 hK8
            refine awp_cond rfl rfl (fun h3 => ?_) (fun h3 => ?_)
            · replace h3 : j < ((gI needs i).length : Int) := (of_decide_eq_true h3)
              have hg := okN_gI hok hI2.1 h2 hI3.1 h3
              refine awp_skip ?_
              refine hK8 _ _ ?_; clear hK8
              refine awp_seq_k ?_; intro K9 hK9
              refine awp_block ?_
              refine awp_reg2_seq [] [0, 4, 5, 6, 7, 8, 10, 12, 31, 32, 33, 43, 44, 45] (by decide) ?_
              intro K1 hK1
              refine ar_index rfl intAV (gI needs i) j rfl rfl rfl rfl rfl (by decide) (fun _ => rfl) (by omega) (by omega) ?_
              refine ⟨(apartOk_one rfl rfl (Nat.le_of_ble_eq_true rfl)), trivial, ?_⟩
              show K1 [(0, .ptr ⟨g, 0, none⟩), (4, .ms ⟨b1, 0, none⟩ (((needs.length : Int)).toNat) (((needs.length : Int)).toNat)), (5, .slice true (out.map (lstAV intAV))), (6, .int .i64 left), (7, .slice true (wave.map intAV)), (8, .int .i64 i), (10, .bool ready), (12, .int .i64 (gI (gI needs i) j)), (31, .slice false (needs.map (lstAV intAV))), (32, .int .i64 (needs.length : Int)), (33, .int .i64 i), (43, .slice false ((gI needs i).map intAV)), (44, .int .i64 ((gI needs i).length : Int)), (45, .int .i64 j)] (AMem.wth m [(b1, .cells (lv.map intAV)), (g, .cells [.slice true (needs.map (lstAV intAV))])])
              refine hK1 _ _ ?_; clear hK1 K1
              refine awp_reg2 [] [0, 4, 5, 6, 7, 8, 10, 31, 32, 33, 43, 44, 45] (by decide) ?_
              intro K1 hK1
              suffices key : K1 [(0, .ptr ⟨g, 0, none⟩), (4, .ms ⟨b1, 0, none⟩ (((needs.length : Int)).toNat) (((needs.length : Int)).toNat)), (5, .slice true (out.map (lstAV intAV))), (6, .int .i64 left), (7, .slice true (wave.map intAV)), (8, .int .i64 i), (10, .bool (ready && (decide (0 < gI lv (gI (gI needs i) j))))), (31, .slice false (needs.map (lstAV intAV))), (32, .int .i64 (needs.length : Int)), (33, .int .i64 i), (43, .slice false ((gI needs i).map intAV)), (44, .int .i64 ((gI needs i).length : Int)), (45, .int .i64 j)] (AMem.wth m [(b1, .cells (lv.map intAV)), (g, .cells [.slice true (needs.map (lstAV intAV))])]) by
                refine ⟨trivial, trivial, ?_⟩
                show aopsR _ _ _ _ _ [(50, .bool ready), (49, .bool ready), (0, .ptr ⟨g, 0, none⟩), (4, .ms ⟨b1, 0, none⟩ (((needs.length : Int)).toNat) (((needs.length : Int)).toNat)), (5, .slice true (out.map (lstAV intAV))), (6, .int .i64 left), (7, .slice true (wave.map intAV)), (8, .int .i64 i), (10, .bool ready), (12, .int .i64 (gI (gI needs i) j)), (31, .slice false (needs.map (lstAV intAV))), (32, .int .i64 (needs.length : Int)), (33, .int .i64 i), (43, .slice false ((gI needs i).map intAV)), (44, .int .i64 ((gI needs i).length : Int)), (45, .int .i64 j)] _
                revert key
                cases h4 : ready
                · replace h4 : ready = false := h4
                  intro key
                  refine ar_off rfl (ar_off rfl (ar_off rfl (ar_off rfl (ar_off rfl ?_))))
                  refine ⟨trivial, ?_⟩
                  exact key
                · replace h4 : ready = true := h4
                  intro key
                  refine ⟨trivial, trivial, ⟨rfl, (by omega), (by omega)⟩, ?_⟩
                  refine ar_loadm rfl (m := m) (L := [(b1, .cells (lv.map intAV)), (g, .cells [.slice true (needs.map (lstAV intAV))])]) intAV lv (gI (gI needs i) j) rfl rfl (wth_get (m := m) (L := [(b1, .cells (lv.map intAV)), (g, .cells [.slice true (needs.map (lstAV intAV))])]) 0 hNb1 rfl) rfl rfl rfl (fun _ => rfl) (by omega) (by omega) ?_
                  refine ⟨trivial, ?_⟩
                  refine ⟨trivial, ?_⟩
                  exact key
              refine hK1 _ _ ?_; clear hK1 K1
              refine hK9 _ _ ?_; clear hK9
              refine awp_reg2 [] [0, 4, 5, 6, 7, 8, 10, 31, 32, 33, 43, 44, 45] (by decide) ?_
              intro K1 hK1
              refine ar_add rfl (a := j) (b := 1) rfl rfl (by omega) (by omega) ?_
              refine ⟨trivial, ?_⟩
              show K1 [(0, .ptr ⟨g, 0, none⟩), (4, .ms ⟨b1, 0, none⟩ (((needs.length : Int)).toNat) (((needs.length : Int)).toNat)), (5, .slice true (out.map (lstAV intAV))), (6, .int .i64 left), (7, .slice true (wave.map intAV)), (8, .int .i64 i), (10, .bool (ready && (decide (0 < gI lv (gI (gI needs i) j))))), (31, .slice false (needs.map (lstAV intAV))), (32, .int .i64 (needs.length : Int)), (33, .int .i64 i), (43, .slice false ((gI needs i).map intAV)), (44, .int .i64 ((gI needs i).length : Int)), (45, .int .i64 (j + 1))] (AMem.wth m [(b1, .cells (lv.map intAV)), (g, .cells [.slice true (needs.map (lstAV intAV))])])
              refine hK1 _ _ ?_; clear hK1 K1
              refine ⟨((ready && (decide (0 < gI lv (gI (gI needs i) j)))), j + 1), rfl, rfl, ?_, ?_⟩
              · show 0 ≤ ((j + 1 : Int)) ∧ ((j + 1 : Int)) ≤ (gI needs i).length ∧ (((ready && (decide (0 < gI lv (gI (gI needs i) j)))) : Bool)) = ((gI lv i == 0) && ((gI needs i).take ((j + 1 : Int)).toNat).all fun k => decide (0 < gI lv k))
                exact ⟨by omega, by omega, by rw [all_take_snoc hI3.1 h3, ← Bool.and_assoc, ← hI3.2.2]⟩
              · show (gI needs i).length - ((j + 1 : Int)).toNat < (gI needs i).length - j.toNat
                omega
            · replace h3 : ((gI needs i).length : Int) ≤ j := (Int.not_lt.1 (of_decide_eq_false h3))
              have hr : readyB needs lv i = ready := by rw [hI3.2.2, take_full h3]; rfl
              refine awp_exit ?_
              refine hK7 _ _ ?_; clear hK7
              refine awp_reg2_seq [] [0, 4, 5, 6, 7, 8, 31, 32, 33, 58] (by decide) ?_
              intro K1 hK1
              refine ⟨trivial, ?_⟩
              show K1 [(0, .ptr ⟨g, 0, none⟩), (4, .ms ⟨b1, 0, none⟩ (((needs.length : Int)).toNat) (((needs.length : Int)).toNat)), (5, .slice true (out.map (lstAV intAV))), (6, .int .i64 left), (7, .slice true (wave.map intAV)), (8, .int .i64 i), (31, .slice false (needs.map (lstAV intAV))), (32, .int .i64 (needs.length : Int)), (33, .int .i64 i), (58, .bool ready)] (AMem.wth m [(b1, .cells (lv.map intAV)), (g, .cells [.slice true (needs.map (lstAV intAV))])])
              refine hK1 _ _ ?_; clear hK1 K1
              refine awp_cond rfl rfl (fun h5 => ?_) (fun h5 => ?_)
              · replace h5 : ready = true := h5
                refine awp_reg2 [59] [0, 4, 5, 6, 7, 31, 32, 33] (by decide) ?_
                intro K1 hK1
                refine ⟨trivial, trivial, ⟨rfl, Nat.le_of_ble_eq_true rfl, rfl, Nat.le_of_ble_eq_true rfl, rfl, by simp only [List.forall_mem_cons]; exact ⟨⟨rfl, rfl⟩, fun _ h => by cases h⟩⟩, ?_⟩
                refine ar_append rfl intAV wave ([i] : List Int) rfl rfl rfl rfl rfl rfl (Nat.le_of_ble_eq_true rfl) rfl (by (simp only [show Try.prog.bytesOf 3 = 8 from rfl, List.length_append, List.length_cons, List.length_nil]; omega)) (by (first | omega | (simp only [List.length_append, List.length_cons, List.length_nil]; omega))) (fun _ => ⟨rfl, rfl⟩) ?_
                refine ⟨trivial, ?_⟩
                show K1 [(0, .ptr ⟨g, 0, none⟩), (4, .ms ⟨b1, 0, none⟩ (((needs.length : Int)).toNat) (((needs.length : Int)).toNat)), (5, .slice true (out.map (lstAV intAV))), (6, .int .i64 left), (7, .slice true ((wave ++ ([i] : List Int)).map intAV)), (31, .slice false (needs.map (lstAV intAV))), (32, .int .i64 (needs.length : Int)), (33, .int .i64 i)] (AMem.wth m [(b1, .cells (lv.map intAV)), (g, .cells [.slice true (needs.map (lstAV intAV))])])
                refine hK1 _ _ ?_; clear hK1 K1
                refine hK6 _ _ ?_; clear hK6
                refine awp_reg2 [] [0, 4, 5, 6, 7, 31, 32, 33] (by decide) ?_
                intro K1 hK1
                refine ar_add rfl (a := i) (b := 1) rfl rfl (by omega) (by omega) ?_
                refine ⟨trivial, ?_⟩
                show K1 [(0, .ptr ⟨g, 0, none⟩), (4, .ms ⟨b1, 0, none⟩ (((needs.length : Int)).toNat) (((needs.length : Int)).toNat)), (5, .slice true (out.map (lstAV intAV))), (6, .int .i64 left), (7, .slice true ((wave ++ ([i] : List Int)).map intAV)), (31, .slice false (needs.map (lstAV intAV))), (32, .int .i64 (needs.length : Int)), (33, .int .i64 (i + 1))] (AMem.wth m [(b1, .cells (lv.map intAV)), (g, .cells [.slice true (needs.map (lstAV intAV))])])
                refine hK1 _ _ ?_; clear hK1 K1
                refine ⟨(wave ++ ([i] : List Int), i + 1), rfl, rfl, ?_, ?_⟩
                · show 0 ≤ ((i + 1 : Int)) ∧ ((i + 1 : Int)) ≤ needs.length ∧ ((wave ++ ([i] : List Int) : (List Int))) = waveTo needs lv ((i + 1 : Int))
                  exact ⟨by omega, by omega, by rw [waveTo_succ hI2.1, if_pos (hr.trans h5), ← hI2.2.2]⟩
                · show needs.length - ((i + 1 : Int)).toNat < needs.length - i.toNat
                  omega
              · replace h5 : ready = false := h5
                refine awp_skip ?_
                refine hK6 _ _ ?_; clear hK6
                refine awp_reg2 [] [0, 4, 5, 6, 7, 31, 32, 33] (by decide) ?_
                intro K1 hK1
                refine ar_add rfl (a := i) (b := 1) rfl rfl (by omega) (by omega) ?_
                refine ⟨trivial, ?_⟩
                show K1 [(0, .ptr ⟨g, 0, none⟩), (4, .ms ⟨b1, 0, none⟩ (((needs.length : Int)).toNat) (((needs.length : Int)).toNat)), (5, .slice true (out.map (lstAV intAV))), (6, .int .i64 left), (7, .slice true (wave.map intAV)), (31, .slice false (needs.map (lstAV intAV))), (32, .int .i64 (needs.length : Int)), (33, .int .i64 (i + 1))] (AMem.wth m [(b1, .cells (lv.map intAV)), (g, .cells [.slice true (needs.map (lstAV intAV))])])
                refine hK1 _ _ ?_; clear hK1 K1
                refine ⟨(wave, i + 1), rfl, rfl, ?_, ?_⟩
                · show 0 ≤ ((i + 1 : Int)) ∧ ((i + 1 : Int)) ≤ needs.length ∧ wave = waveTo needs lv ((i + 1 : Int))
                  exact ⟨by omega, by omega, by rw [waveTo_succ hI2.1, if_neg (by rw [hr, h5]; simp), ← hI2.2.2]⟩
                · show needs.length - ((i + 1 : Int)).toNat < needs.length - i.toNat
                  omega
        · replace h2 : (needs.length : Int) ≤ i := (Int.not_lt.1 (of_decide_eq_false h2))
          have hwv : wave = waveTo needs lv needs.length := by
            have e : i = needs.length := by omega
            rw [hI2.2.2, e]
          refine awp_exit ?_
          refine hK4 _ _ ?_; clear hK4
          refine awp_seq_k ?_; intro K10 hK10
          refine awp_reg2_seq [] [0, 4, 5, 6, 7, 66] (by decide) ?_
          intro K1 hK1
          refine ⟨trivial, ?_⟩
          refine ar_len rfl intAV wave rfl rfl rfl ?_
          refine ⟨trivial, ?_⟩
          show K1 [(0, .ptr ⟨g, 0, none⟩), (4, .ms ⟨b1, 0, none⟩ (((needs.length : Int)).toNat) (((needs.length : Int)).toNat)), (5, .slice true (out.map (lstAV intAV))), (6, .int .i64 left), (7, .slice true (wave.map intAV)), (66, .bool ((wave.length : Int) == 0))] (AMem.wth m [(b1, .cells (lv.map intAV)), (g, .cells [.slice true (needs.map (lstAV intAV))])])
          refine hK1 _ _ ?_; clear hK1 K1
          refine awp_cond rfl rfl (fun h6 => ?_) (fun h6 => ?_)
          · replace h6 : (wave.length : Int) = 0 := (eq_of_beq h6)
            refine awp_reg2_seq [] [2, 3] (by decide) ?_
            intro K1 hK1
            refine ⟨trivial, trivial, trivial, ?_⟩
            show K1 [(2, .slice true []), (3, .iface 57 (.int .i64 8))] (AMem.wth m [(b1, .cells (lv.map intAV)), (g, .cells [.slice true (needs.map (lstAV intAV))])])
            refine hK1 _ _ ?_; clear hK1 K1
            refine awp_toErr 57 [3] ?_
            show AWP _ _ _ _ [(2, .slice true []), (3, .err 57 8)] (AMem.wth m [(b1, .cells (lv.map intAV)), (g, .cells [.slice true (needs.map (lstAV intAV))])])
            refine awp_ret ?_
            refine ⟨trivial, trivial, (AMem.wth m [(g, .cells [.slice true (needs.map (lstAV intAV))])]), (wth_sub2 (m := m) [(b1, .cells (lv.map intAV))] [(g, .cells [.slice true (needs.map (lstAV intAV))])] hNb1 (by simp only [List.map_cons, List.map_nil, List.forall_mem_cons]; exact ⟨hFb1, fun _ h => by cases h⟩)), ?_⟩
            show K (.tuple [.slice false [], .err 57 8]) (AMem.wth m [(g, .cells [.slice true (needs.map (lstAV intAV))])])
           
            refine K_eq hK ?_
            rw [hw, wavesF, if_neg (by omega), if_pos (by rw [← hwv]; exact List.length_eq_zero_iff.1 (by omega))]; rfl
          · replace h6 : (wave.length : Int) ≠ 0 := (ne_of_beq_false h6)
            have hne : ¬ waveTo needs lv needs.length = [] := by rw [← hwv]; intro e; rw [e] at h6; exact h6 rfl
            refine awp_skip ?_
            refine hK10 _ _ ?_; clear hK10
            refine awp_reg2_seq [68] [0, 4, 5, 6, 7] (by decide) ?_
            intro K1 hK1
            refine ⟨trivial, trivial, ⟨rfl, Nat.le_of_ble_eq_true rfl, rfl, Nat.le_of_ble_eq_true rfl, rfl, by simp only [List.forall_mem_cons]; exact ⟨⟨rfl, rfl⟩, fun _ h => by cases h⟩⟩, ?_⟩
            refine ar_append rfl (lstAV intAV) out ([wave] : List (List Int)) rfl rfl rfl rfl rfl rfl (Nat.le_of_ble_eq_true rfl) rfl (by (simp only [show Try.prog.bytesOf 23 = 24 from rfl, List.length_append, List.length_cons, List.length_nil]; omega)) (by (first | omega | (simp only [List.length_append, List.length_cons, List.length_nil]; omega))) (fun _ => ⟨rfl, rfl⟩) ?_
            refine ⟨trivial, ?_⟩
            show K1 [(0, .ptr ⟨g, 0, none⟩), (4, .ms ⟨b1, 0, none⟩ (((needs.length : Int)).toNat) (((needs.length : Int)).toNat)), (5, .slice true ((out ++ ([wave] : List (List Int))).map (lstAV intAV))), (6, .int .i64 left), (7, .slice true (wave.map intAV))] (AMem.wth m [(b1, .cells (lv.map intAV)), (g, .cells [.slice true (needs.map (lstAV intAV))])])
            refine hK1 _ _ ?_; clear hK1 K1
            refine awp_seq_k ?_; intro K11 hK11
            refine awp_reg2_seq [] [0, 4, 5, 6, 7, 72, 73, 74] (by decide) ?_
            intro K1 hK1
            refine ⟨trivial, ?_⟩
            refine ar_len rfl intAV wave rfl rfl rfl ?_
            refine ⟨trivial, ?_⟩
            show K1 [(0, .ptr ⟨g, 0, none⟩), (4, .ms ⟨b1, 0, none⟩ (((needs.length : Int)).toNat) (((needs.length : Int)).toNat)), (5, .slice true ((out ++ ([wave] : List (List Int))).map (lstAV intAV))), (6, .int .i64 left), (7, .slice true (wave.map intAV)), (72, .slice false (wave.map intAV)), (73, .int .i64 (wave.length : Int)), (74, .int .i64 0)] (AMem.wth m [(b1, .cells (lv.map intAV)), (g, .cells [.slice true (needs.map (lstAV intAV))])])
            refine hK1 _ _ ?_; clear hK1 K1
            refine awp_block ?_
            refine awp_keep [0, 4, 5, 6, 7, 72, 73, 74] (by decide) ?_
            refine awp_loop_st (σ := Int × (List Int)) (fun ⟨q, lv2⟩ => [(0, .ptr ⟨g, 0, none⟩), (4, .ms ⟨b1, 0, none⟩ (((needs.length : Int)).toNat) (((needs.length : Int)).toNat)), (5, .slice true ((out ++ ([wave] : List (List Int))).map (lstAV intAV))), (6, .int .i64 left), (7, .slice true (wave.map intAV)), (72, .slice false (wave.map intAV)), (73, .int .i64 (wave.length : Int)), (74, .int .i64 q)]) (fun ⟨q, lv2⟩ => (AMem.wth m [(b1, .cells (lv2.map intAV)), (g, .cells [.slice true (needs.map (lstAV intAV))])])) (fun ⟨q, lv2⟩ => 0 ≤ q ∧ q ≤ wave.length ∧ lv2 = setAll lv (wave.take q.toNat) (out.length + 1 : Nat)) (fun ⟨q, lv2⟩ => wave.length - q.toNat) (0, lv) rfl rfl ?_ ?_
            · show 0 ≤ ((0 : Int)) ∧ ((0 : Int)) ≤ wave.length ∧ ((lv : (List Int))) = setAll lv (wave.take ((0 : Int)).toNat) (out.length + 1 : Nat)
              exact ⟨by omega, by omega, by simp [setAll]⟩
            · rintro ⟨q, lv2⟩ hI3
              replace hI3 : 0 ≤ q ∧ q ≤ wave.length ∧ lv2 = setAll lv (wave.take q.toNat) (out.length + 1 : Nat) := hI3
              have hl2 : lv2.length = needs.length := by rw [hI3.2.2, setAll_len, hI.2.1]
              show AWP _ _ _ _ [(0, .ptr ⟨g, 0, none⟩), (4, .ms ⟨b1, 0, none⟩ (((needs.length : Int)).toNat) (((needs.length : Int)).toNat)), (5, .slice true ((out ++ ([wave] : List (List Int))).map (lstAV intAV))), (6, .int .i64 left), (7, .slice true (wave.map intAV)), (72, .slice false (wave.map intAV)), (73, .int .i64 (wave.length : Int)), (74, .int .i64 q)] (AMem.wth m [(b1, .cells (lv2.map intAV)), (g, .cells [.slice true (needs.map (lstAV intAV))])])
              refine awp_reg2_seq [] [0, 4, 5, 6, 7, 72, 73, 74, 75] (by decide) ?_
              intro K1 hK1
              refine ⟨trivial, ?_⟩
              show K1 [(0, .ptr ⟨g, 0, none⟩), (4, .ms ⟨b1, 0, none⟩ (((needs.length : Int)).toNat) (((needs.length : Int)).toNat)), (5, .slice true ((out ++ ([wave] : List (List Int))).map (lstAV intAV))), (6, .int .i64 left), (7, .slice true (wave.map intAV)), (72, .slice false (wave.map intAV)), (73, .int .i64 (wave.length : Int)), (74, .int .i64 q), (75, .bool (decide (q < (wave.length : Int))))] (AMem.wth m [(b1, .cells (lv2.map intAV)), (g, .cells [.slice true (needs.map (lstAV intAV))])])
              refine hK1 _ _ ?_; clear hK1 K1
              refine awp_seq_k ?_; intro K12 hK12
              refine awp_cond rfl rfl (fun h7 => ?_) (fun h7 => ?_)
              · replace h7 : q < (wave.length : Int) := (of_decide_eq_true h7)
                have hm : 0 ≤ gI wave q ∧ gI wave q < needs.length := waveTo_mem (needs := needs) (lv := lv) (by rw [← hwv]; exact gI_mem hI3.1 h7)
                refine awp_skip ?_
                refine hK12 _ _ ?_; clear hK12
                refine awp_seq_k ?_; intro K13 hK13
                refine awp_block ?_
                refine awp_reg2_seq [] [0, 4, 5, 6, 7, 14, 72, 73, 74] (by decide) ?_
                intro K1 hK1
                refine ar_index rfl intAV wave q rfl rfl rfl rfl rfl (by decide) (fun _ => rfl) (by omega) (by omega) ?_
                refine ⟨(apartOk_one rfl rfl (Nat.le_of_ble_eq_true rfl)), trivial, ?_⟩
                show K1 [(0, .ptr ⟨g, 0, none⟩), (4, .ms ⟨b1, 0, none⟩ (((needs.length : Int)).toNat) (((needs.length : Int)).toNat)), (5, .slice true ((out ++ ([wave] : List (List Int))).map (lstAV intAV))), (6, .int .i64 left), (7, .slice true (wave.map intAV)), (14, .int .i64 (gI wave q)), (72, .slice false (wave.map intAV)), (73, .int .i64 (wave.length : Int)), (74, .int .i64 q)] (AMem.wth m [(b1, .cells (lv2.map intAV)), (g, .cells [.slice true (needs.map (lstAV intAV))])])
                refine hK1 _ _ ?_; clear hK1 K1
                refine awp_reg2 [] [0, 4, 5, 6, 7, 72, 73, 74] (by decide) ?_
                intro K1 hK1
                refine ⟨trivial, trivial, trivial, ?_⟩
                refine ar_len rfl (lstAV intAV) (out ++ ([wave] : List (List Int))) rfl rfl rfl ?_
                refine ⟨⟨rfl, (by omega), (by omega)⟩, ?_⟩
                refine ar_storem rfl 0 (m := m) (L := [(b1, .cells (lv2.map intAV)), (g, .cells [.slice true (needs.map (lstAV intAV))])]) intAV lv2 ((out ++ ([wave] : List (List Int))).length : Int) (gI wave q) rfl rfl rfl hNb1 rfl rfl rfl rfl rfl rfl (by omega) (by omega) ?_
                show K1 [(0, .ptr ⟨g, 0, none⟩), (4, .ms ⟨b1, 0, none⟩ (((needs.length : Int)).toNat) (((needs.length : Int)).toNat)), (5, .slice true ((out ++ ([wave] : List (List Int))).map (lstAV intAV))), (6, .int .i64 left), (7, .slice true (wave.map intAV)), (72, .slice false (wave.map intAV)), (73, .int .i64 (wave.length : Int)), (74, .int .i64 q)] (AMem.wth m [(b1, .cells ((lv2.set (gI wave q).toNat ((out ++ ([wave] : List (List Int))).length : Int)).map intAV)), (g, .cells [.slice true (needs.map (lstAV intAV))])])
                refine hK1 _ _ ?_; clear hK1 K1
                refine hK13 _ _ ?_; clear hK13
                refine awp_reg2 [] [0, 4, 5, 6, 7, 72, 73, 74] (by decide) ?_
                intro K1 hK1
                refine ar_add rfl (a := q) (b := 1) rfl rfl (by omega) (by omega) ?_
                refine ⟨trivial, ?_⟩
                show K1 [(0, .ptr ⟨g, 0, none⟩), (4, .ms ⟨b1, 0, none⟩ (((needs.length : Int)).toNat) (((needs.length : Int)).toNat)), (5, .slice true ((out ++ ([wave] : List (List Int))).map (lstAV intAV))), (6, .int .i64 left), (7, .slice true (wave.map intAV)), (72, .slice false (wave.map intAV)), (73, .int .i64 (wave.length : Int)), (74, .int .i64 (q + 1))] (AMem.wth m [(b1, .cells ((lv2.set (gI wave q).toNat ((out ++ ([wave] : List (List Int))).length : Int)).map intAV)), (g, .cells [.slice true (needs.map (lstAV intAV))])])
                refine hK1 _ _ ?_; clear hK1 K1
                refine ⟨(q + 1, lv2.set (gI wave q).toNat ((out ++ ([wave] : List (List Int))).length : Int)), rfl, rfl, ?_, ?_⟩
                · show 0 ≤ ((q + 1 : Int)) ∧ ((q + 1 : Int)) ≤ wave.length ∧ ((lv2.set (gI wave q).toNat ((out ++ ([wave] : List (List Int))).length : Int) : (List Int))) = setAll lv (wave.take ((q + 1 : Int)).toNat) (out.length + 1 : Nat)
                  exact ⟨by omega, by omega, by rw [hI3.2.2, take_succ_gI hI3.1 h7, setAll_snoc]; simp⟩
                · show wave.length - ((q + 1 : Int)).toNat < wave.length - q.toNat
                  omega
              · replace h7 : (wave.length : Int) ≤ q := (Int.not_lt.1 (of_decide_eq_false h7))
                have e2 : lv2 = setAll lv wave (out.length + 1 : Nat) := by rw [hI3.2.2, take_full h7]
                refine awp_exit ?_
                refine hK11 _ _ ?_; clear hK11
                refine awp_reg2 [] [0, 4, 5, 6] (by decide) ?_
                intro K1 hK1
                refine ⟨trivial, trivial, ?_⟩
                refine ar_len rfl intAV wave rfl rfl rfl ?_
                refine ar_sub rfl (a := left) (b := (wave.length : Int)) rfl rfl (by omega) (by omega) ?_
                refine ⟨trivial, ?_⟩
                show K1 [(0, .ptr ⟨g, 0, none⟩), (4, .ms ⟨b1, 0, none⟩ (((needs.length : Int)).toNat) (((needs.length : Int)).toNat)), (5, .slice true ((out ++ ([wave] : List (List Int))).map (lstAV intAV))), (6, .int .i64 (left - (wave.length : Int)))] (AMem.wth m [(b1, .cells (lv2.map intAV)), (g, .cells [.slice true (needs.map (lstAV intAV))])])
                refine hK1 _ _ ?_; clear hK1 K1
                refine ⟨(out ++ ([wave] : List (List Int)), left - (wave.length : Int), lv2), rfl, rfl, ?_, ?_⟩
                · show ((left - (wave.length : Int) : Int)) ≤ needs.length ∧ ((lv2 : (List Int))).length = needs.length ∧ ((out ++ ([wave] : List (List Int)) : (List (List Int)))).length + ((left - (wave.length : Int) : Int)) ≤ needs.length ∧ ∃ f : Nat, ((left - (wave.length : Int) : Int)) < f ∧ wavesR needs = wavesF f needs ((left - (wave.length : Int) : Int)) ((lv2 : (List Int))) ((out ++ ([wave] : List (List Int)) : (List (List Int))))
                  exact ⟨by omega, hl2, by simp; omega, f, by omega, by rw [hw, wavesF, if_neg (by omega), if_neg hne, ← hwv, e2]⟩
                · show ((left - (wave.length : Int) : Int)).toNat < left.toNat
                  omega
    · replace h1 : left ≤ 0 := (Int.not_lt.1 (of_decide_eq_false h1))
      refine awp_exit ?_
      refine hK2 _ _ ?_; clear hK2
      refine awp_reg2_seq [] [2, 3] (by decide) ?_
      intro K1 hK1
      refine ⟨trivial, trivial, trivial, ?_⟩
      show K1 [(2, .slice false (out.map (lstAV intAV))), (3, .nilIface)] (AMem.wth m [(b1, .cells (lv.map intAV)), (g, .cells [.slice true (needs.map (lstAV intAV))])])
      refine hK1 _ _ ?_; clear hK1 K1
      refine awp_toErr 57 [3] ?_
      show AWP _ _ _ _ [(2, .slice false (out.map (lstAV intAV))), (3, .err 57 0)] (AMem.wth m [(b1, .cells (lv.map intAV)), (g, .cells [.slice true (needs.map (lstAV intAV))])])
      refine awp_ret ?_
      refine ⟨trivial, trivial, (AMem.wth m [(g, .cells [.slice true (needs.map (lstAV intAV))])]), (wth_sub2 (m := m) [(b1, .cells (lv.map intAV))] [(g, .cells [.slice true (needs.map (lstAV intAV))])] hNb1 (by simp only [List.map_cons, List.map_nil, List.forall_mem_cons]; exact ⟨hFb1, fun _ h => by cases h⟩)), ?_⟩
      show K (.tuple [.slice false (out.map (lstAV intAV)), .err 57 0]) (AMem.wth m [(g, .cells [.slice true (needs.map (lstAV intAV))])])
     
      refine K_eq hK ?_
      cases f with
      | zero => rw [hw, wavesF]
      | succ f => rw [hw, wavesF, if_pos (by omega)]

end Go.Proofs
