import Derived.Test.YtfpbolgpaipiiaaProg
import Derived.Test.YtfpbolgpaipiiaaMix
import Derived.Test.YtfpbolgpaipiiaaWwZ
import Derived.Test.YtfpbolgpaipiiaaGr4
namespace Go.Proofs
open Go Go.Aw
set_option maxRecDepth 100000


def es (s : List Bool) (e : Int × Int) : List Bool := if gI s e.1 = true then s.set e.2.toNat true else s
def mkE (over : Bool) (i y : Int) : Int × Int := if over then (y, i) else (i, y)
def edgesTo (needs : List (List Int)) (over : Bool) (k : Int) : List (Int × Int) := (upto k).flatMap fun i => (gI needs i).map (mkE over i)
theorem edgesTo_succ {needs : List (List Int)} {over : Bool} {k : Int} (h : 0 ≤ k) : edgesTo needs over (k + 1) = edgesTo needs over k ++ (gI needs k).map (mkE over k) := by
  rw [edgesTo, upto_succ h, List.flatMap_append]; simp [edgesTo]
def roundsR (E : List (Int × Int)) : Nat → List Bool → List Bool
  | 0, s => s
  | r + 1, s => E.foldl es (roundsR E r s)
def initR (n : Int) (l : List Int) : List Bool := l.foldl (fun s k => s.set k.toNat true) (List.replicate n.toNat false)
def reachR (needs : List (List Int)) (l : List Int) (over : Bool) : List Int × Int :=
  if okL needs.length l = true then (seenTo (roundsR (edgesTo needs over needs.length) needs.length (initR needs.length l)) needs.length, 0) else ([], 1)
theorem es_len (s : List Bool) (e : Int × Int) : (es s e).length = s.length := by unfold es; split <;> simp
theorem foldEs_len (E : List (Int × Int)) : ∀ s, (E.foldl es s).length = s.length := by
  induction E with
  | nil => intro s; rfl
  | cons e E ih => intro s; rw [List.foldl_cons, ih, es_len]
theorem rounds_len (E : List (Int × Int)) (s : List Bool) : ∀ r, (roundsR E r s).length = s.length
  | 0 => rfl
  | r + 1 => by rw [roundsR, foldEs_len, rounds_len E s r]
theorem initR_snoc (n : Int) (l : List Int) (k : Int) : initR n (l ++ [k]) = (initR n l).set k.toNat true := by simp [initR]
theorem initR_len (n : Int) (l : List Int) : (initR n l).length = n.toNat := by
  have : ∀ (l : List Int) (s : List Bool), (l.foldl (fun s k => s.set k.toNat true) s).length = s.length := by
    intro l
    induction l with
    | nil => intro s; rfl
    | cons a l ih => intro s; rw [List.foldl_cons, ih]; simp
  rw [initR, this]; simp
theorem es_skip {s : List Bool} {over : Bool} {j y : Int} (h8 : gI s j = false ∨ over = true) (h12 : over = false ∨ gI s y = false) : s = [mkE over j y].foldl es s := by
  cases over <;> simp_all [mkE, es]
theorem es_under {s : List Bool} {over : Bool} {j y : Int} (h : gI s j = true ∧ over = false) : s.set y.toNat true = [mkE over j y].foldl es s := by
  cases over <;> simp_all [mkE, es]
theorem es_over {s : List Bool} {over : Bool} {j y : Int} (h : over = true ∧ gI s y = true) : s.set j.toNat true = [mkE over j y].foldl es s := by
  cases over <;> simp_all [mkE, es]
theorem seenTo_bound (seen : List Bool) (k : Int) (h : k ≤ 64) : (seenTo seen k).length ≤ 64 := by
  have := seenTo_len seen k; omega

set_option maxHeartbeats 2000000 in
theorem u_refReach (needs : List (List Int)) (l : List Int) (over : Bool) (hok : okN needs = true) (hn : needs.length ≤ 64) (hl : ∀ w ∈ needs, w.length ≤ 1048576) (hs : l.length ≤ 1000) (m : AMem)  (K : AV → AMem → Prop) (hK : K (.tuple [.slice false ((reachR needs l over).1.map intAV), .int .i64 (reachR needs l over).2]) m) : ACalls Try.prog 18 [.slice false (needs.map (lstAV intAV)), .slice false (l.map intAV), .bool over] m K := by
  refine acalls_enter Try.func18 rfl (by decide) (Nat.le_of_ble_eq_true rfl) ?_
  show AWP _ _ _ _ [(0, .slice false (needs.map (lstAV intAV))), (1, .slice false (l.map intAV)), (2, .bool over)] m
  refine awp_reg2_seq [] [0, 1, 2] (by decide) ?_
  intro K1 hK1
  refine ⟨trivial, trivial, ?_⟩
  show K1 [(0, .slice false (needs.map (lstAV intAV))), (1, .slice false (l.map intAV)), (2, .bool over)] m
  refine hK1 _ _ ?_; clear hK1 K1
  refine awp_reg2_seq [] [0, 1, 2, 8] (by decide) ?_
  intro K1 hK1
  refine ⟨trivial, ?_⟩
  refine ar_len rfl (lstAV intAV) needs rfl rfl rfl ?_
  refine ⟨trivial, ?_⟩
  show K1 [(0, .slice false (needs.map (lstAV intAV))), (1, .slice false (l.map intAV)), (2, .bool over), (8, .int .i64 (needs.length : Int))] m
  refine hK1 _ _ ?_; clear hK1 K1
  refine awp_reg2_seq [] [0, 1, 2, 8, 9] (by decide) ?_
  intro K1 hK1
  refine ⟨trivial, ?_⟩
  refine ar_makeSlice rfl (m := m) (L := []) boolAV false (needs.length : Int) rfl rfl rfl rfl rfl rfl rfl rfl (by omega) (by simp only [show Try.prog.bytesOf 4 = 1 from rfl]; omega) (by omega) ?_
  intro b1 hb1
  have hFb1 : m b1 = none := wth_none (m := m) (L := []) hb1
  have hNb1 : ([b1] : List Nat).Nodup := wth_nodup (m := m) (L := []) hb1 List.nodup_nil
  refine ⟨trivial, ?_⟩
  show K1 [(0, .slice false (needs.map (lstAV intAV))), (1, .slice false (l.map intAV)), (2, .bool over), (8, .int .i64 (needs.length : Int)), (9, .ms ⟨b1, 0, none⟩ (((needs.length : Int)).toNat) (((needs.length : Int)).toNat))] (AMem.wth m [(b1, .cells ((List.replicate ((needs.length : Int)).toNat false).map boolAV))])
  refine hK1 _ _ ?_; clear hK1 K1
  refine awp_seq_k ?_; intro K2 hK2
  refine awp_reg2_seq [] [0, 1, 2, 8, 9, 10] (by decide) ?_
  intro K1 hK1
  refine ⟨trivial, ?_⟩
  show K1 [(0, .slice false (needs.map (lstAV intAV))), (1, .slice false (l.map intAV)), (2, .bool over), (8, .int .i64 (needs.length : Int)), (9, .ms ⟨b1, 0, none⟩ (((needs.length : Int)).toNat) (((needs.length : Int)).toNat)), (10, .int .i64 0)] (AMem.wth m [(b1, .cells ((List.replicate ((needs.length : Int)).toNat false).map boolAV))])
  refine hK1 _ _ ?_; clear hK1 K1
  refine awp_block ?_
  refine awp_keep [0, 1, 2, 8, 9, 10] (by decide) ?_
  refine awp_loop_st (σ := Int × (List Bool)) (fun ⟨i, s0⟩ => [(0, .slice false (needs.map (lstAV intAV))), (1, .slice false (l.map intAV)), (2, .bool over), (8, .int .i64 (needs.length : Int)), (9, .ms ⟨b1, 0, none⟩ (((needs.length : Int)).toNat) (((needs.length : Int)).toNat)), (10, .int .i64 i)]) (fun ⟨i, s0⟩ => (AMem.wth m [(b1, .cells (s0.map boolAV))])) (fun ⟨i, s0⟩ => 0 ≤ i ∧ i ≤ l.length ∧ s0 = initR needs.length (l.take i.toNat) ∧ okL needs.length (l.take i.toNat) = true) (fun ⟨i, s0⟩ => l.length - i.toNat) (0, List.replicate ((needs.length : Int)).toNat false) rfl rfl ?_ ?_
  · show 0 ≤ ((0 : Int)) ∧ ((0 : Int)) ≤ l.length ∧ ((List.replicate ((needs.length : Int)).toNat false : (List Bool))) = initR needs.length (l.take ((0 : Int)).toNat) ∧ okL needs.length (l.take ((0 : Int)).toNat) = true
    exact ⟨by omega, by omega, by simp [initR], rfl⟩
  · rintro ⟨i, s0⟩ hI
    replace hI : 0 ≤ i ∧ i ≤ l.length ∧ s0 = initR needs.length (l.take i.toNat) ∧ okL needs.length (l.take i.toNat) = true := hI
    have hl0 := initR_len needs.length (l.take i.toNat)
    rw [← hI.2.2.1] at hl0
    show AWP _ _ _ _ [(0, .slice false (needs.map (lstAV intAV))), (1, .slice false (l.map intAV)), (2, .bool over), (8, .int .i64 (needs.length : Int)), (9, .ms ⟨b1, 0, none⟩ (((needs.length : Int)).toNat) (((needs.length : Int)).toNat)), (10, .int .i64 i)] (AMem.wth m [(b1, .cells (s0.map boolAV))])
    refine awp_seq_k ?_; intro K3 hK3
    refine awp_reg2_seq [] [0, 1, 2, 8, 9, 10, 23] (by decide) ?_
    intro K1 hK1
    refine ⟨trivial, trivial, ?_⟩
    refine ar_len rfl intAV l rfl rfl rfl ?_
    refine ⟨trivial, ?_⟩
    show K1 [(0, .slice false (needs.map (lstAV intAV))), (1, .slice false (l.map intAV)), (2, .bool over), (8, .int .i64 (needs.length : Int)), (9, .ms ⟨b1, 0, none⟩ (((needs.length : Int)).toNat) (((needs.length : Int)).toNat)), (10, .int .i64 i), (23, .bool (decide (i < (l.length : Int))))] (AMem.wth m [(b1, .cells (s0.map boolAV))])
    refine hK1 _ _ ?_; clear hK1 K1
    refine awp_cond rfl rfl (fun h1 => ?_) (fun h1 => ?_)
    · replace h1 : i < (l.length : Int) := (of_decide_eq_true h1)
      refine awp_skip ?_
      refine hK3 _ _ ?_; clear hK3
      refine awp_seq_k ?_; intro K4 hK4
      refine awp_block ?_
      refine awp_seq_k ?_; intro K5 hK5
      refine awp_reg2_seq [] [0, 1, 2, 8, 9, 10, 38] (by decide) ?_
      intro K1 hK1
      suffices key : K1 [(0, .slice false (needs.map (lstAV intAV))), (1, .slice false (l.map intAV)), (2, .bool over), (8, .int .i64 (needs.length : Int)), (9, .ms ⟨b1, 0, none⟩ (((needs.length : Int)).toNat) (((needs.length : Int)).toNat)), (10, .int .i64 i), (38, .bool ((decide (gI l i < 0)) || (decide ((needs.length : Int) ≤ gI l i))))] (AMem.wth m [(b1, .cells (s0.map boolAV))]) by
        refine ⟨trivial, trivial, ?_⟩
        refine ar_index rfl intAV l i rfl rfl rfl rfl rfl (by decide) (fun _ => rfl) (by omega) (by omega) ?_
        refine ⟨(apartOk_one rfl rfl (Nat.le_of_ble_eq_true rfl)), trivial, trivial, ?_⟩
        show aopsR _ _ _ _ _ [(31, .bool (decide (gI l i < 0))), (30, .bool (decide (gI l i < 0))), (29, .int .i64 (gI l i)), (28, .ref (AV.cells (.int .i64 (gI l i)))), (27, .int .i64 i), (26, .slice false (l.map intAV)), (0, .slice false (needs.map (lstAV intAV))), (1, .slice false (l.map intAV)), (2, .bool over), (8, .int .i64 (needs.length : Int)), (9, .ms ⟨b1, 0, none⟩ (((needs.length : Int)).toNat) (((needs.length : Int)).toNat)), (10, .int .i64 i), (23, .bool (decide (i < (l.length : Int))))] _
        revert key
        cases h2 : (decide (gI l i < 0))
        · replace h2 : 0 ≤ gI l i := (Int.not_lt.1 (of_decide_eq_false h2))
          intro key
          refine ⟨trivial, trivial, ?_⟩
          refine ar_index rfl intAV l i rfl rfl rfl rfl rfl (by decide) (fun _ => rfl) (by omega) (by omega) ?_
          refine ⟨(apartOk_one rfl rfl (Nat.le_of_ble_eq_true rfl)), trivial, trivial, ?_⟩
          exact key
        · replace h2 : gI l i < 0 := (of_decide_eq_true h2)
          intro key
          refine ar_off rfl (ar_off rfl (ar_off rfl (ar_off rfl (ar_off rfl (ar_off rfl ?_)))))
          exact key
      refine hK1 _ _ ?_; clear hK1 K1
      refine awp_cond rfl rfl (fun h3 => ?_) (fun h3 => ?_)
      · replace h3 : (gI l i < 0) ∨ ((needs.length : Int) ≤ gI l i) := ((borT h3).imp (fun q => (of_decide_eq_true q)) (fun q => (of_decide_eq_true q)))
        refine awp_reg2_seq [] [6, 7] (by decide) ?_
        intro K1 hK1
        refine ⟨trivial, trivial, ?_⟩
        show K1 [(6, .slice true []), (7, .int .i64 1)] (AMem.wth m [(b1, .cells (s0.map boolAV))])
        refine hK1 _ _ ?_; clear hK1 K1
        refine awp_ret ?_
        refine ⟨trivial, trivial, m, (wth_sub2 (m := m) [(b1, .cells (s0.map boolAV))] [] hNb1 (by simp only [List.map_cons, List.map_nil, List.forall_mem_cons]; exact ⟨hFb1, fun _ h => by cases h⟩)), ?_⟩
        show K (.tuple [.slice false [], .int .i64 1]) m
       
        have e : ¬ okL needs.length l = true := fun hh => by
          have := okL_gI hh hI.1 h1
          omega
        rw [reachR, if_neg e] at hK
        exact hK
      · replace h3 : (0 ≤ gI l i) ∧ (gI l i < (needs.length : Int)) := ⟨(Int.not_lt.1 (of_decide_eq_false (borL h3))), (Int.not_le.1 (of_decide_eq_false (borR h3)))⟩
        refine awp_skip ?_
        refine hK5 _ _ ?_; clear hK5
        refine awp_reg2 [] [0, 1, 2, 8, 9, 10] (by decide) ?_
        intro K1 hK1
        refine ⟨trivial, trivial, trivial, ?_⟩
        refine ar_index rfl intAV l i rfl rfl rfl rfl rfl (by decide) (fun _ => rfl) (by omega) (by omega) ?_
        refine ⟨(apartOk_one rfl rfl (Nat.le_of_ble_eq_true rfl)), ⟨rfl, (by omega), (by omega)⟩, ?_⟩
        refine ar_storem rfl 0 (m := m) (L := [(b1, .cells (s0.map boolAV))]) boolAV s0 true (gI l i) rfl rfl rfl hNb1 rfl rfl rfl rfl rfl rfl (by omega) (by omega) ?_
        show K1 [(0, .slice false (needs.map (lstAV intAV))), (1, .slice false (l.map intAV)), (2, .bool over), (8, .int .i64 (needs.length : Int)), (9, .ms ⟨b1, 0, none⟩ (((needs.length : Int)).toNat) (((needs.length : Int)).toNat)), (10, .int .i64 i)] (AMem.wth m [(b1, .cells ((s0.set (gI l i).toNat true).map boolAV))])
        refine hK1 _ _ ?_; clear hK1 K1
        refine hK4 _ _ ?_; clear hK4
        refine awp_reg2 [] [0, 1, 2, 8, 9, 10] (by decide) ?_
        intro K1 hK1
        refine ⟨trivial, ?_⟩
        refine ar_add rfl (a := i) (b := 1) rfl rfl (by omega) (by omega) ?_
        refine ⟨trivial, ?_⟩
        show K1 [(0, .slice false (needs.map (lstAV intAV))), (1, .slice false (l.map intAV)), (2, .bool over), (8, .int .i64 (needs.length : Int)), (9, .ms ⟨b1, 0, none⟩ (((needs.length : Int)).toNat) (((needs.length : Int)).toNat)), (10, .int .i64 (i + 1))] (AMem.wth m [(b1, .cells ((s0.set (gI l i).toNat true).map boolAV))])
        refine hK1 _ _ ?_; clear hK1 K1
        refine ⟨(i + 1, s0.set (gI l i).toNat true), rfl, rfl, ?_, ?_⟩
        · show 0 ≤ ((i + 1 : Int)) ∧ ((i + 1 : Int)) ≤ l.length ∧ ((s0.set (gI l i).toNat true : (List Bool))) = initR needs.length (l.take ((i + 1 : Int)).toNat) ∧ okL needs.length (l.take ((i + 1 : Int)).toNat) = true
          exact ⟨by omega, by omega, by rw [hI.2.2.1, take_succ_gI hI.1 h1, initR_snoc], all_take_succ hI.1 h1 hI.2.2.2 (by simp; omega)⟩
        · show l.length - ((i + 1 : Int)).toNat < l.length - i.toNat
          omega
    · replace h1 : (l.length : Int) ≤ i := (Int.not_lt.1 (of_decide_eq_false h1))
      refine awp_exit ?_
      refine hK2 _ _ ?_; clear hK2
      refine awp_seq_k ?_; intro K6 hK6
      refine awp_reg2_seq [] [0, 2, 8, 9, 11] (by decide) ?_
      intro K1 hK1
      refine ⟨trivial, ?_⟩
      show K1 [(0, .slice false (needs.map (lstAV intAV))), (2, .bool over), (8, .int .i64 (needs.length : Int)), (9, .ms ⟨b1, 0, none⟩ (((needs.length : Int)).toNat) (((needs.length : Int)).toNat)), (11, .int .i64 0)] (AMem.wth m [(b1, .cells (s0.map boolAV))])
      refine hK1 _ _ ?_; clear hK1 K1
      refine awp_block ?_
      refine awp_keep [0, 2, 8, 9, 11] (by decide) ?_
      refine awp_loop_st (σ := Int × (List Bool)) (fun ⟨r, s1⟩ => [(0, .slice false (needs.map (lstAV intAV))), (2, .bool over), (8, .int .i64 (needs.length : Int)), (9, .ms ⟨b1, 0, none⟩ (((needs.length : Int)).toNat) (((needs.length : Int)).toNat)), (11, .int .i64 r)]) (fun ⟨r, s1⟩ => (AMem.wth m [(b1, .cells (s1.map boolAV))])) (fun ⟨r, s1⟩ => 0 ≤ r ∧ r ≤ needs.length ∧ s1 = roundsR (edgesTo needs over needs.length) r.toNat (initR needs.length l)) (fun ⟨r, s1⟩ => needs.length - r.toNat) (0, s0) rfl rfl ?_ ?_
      · show 0 ≤ ((0 : Int)) ∧ ((0 : Int)) ≤ needs.length ∧ ((s0 : (List Bool))) = roundsR (edgesTo needs over needs.length) ((0 : Int)).toNat (initR needs.length l)
        exact ⟨by omega, by omega, by rw [hI.2.2.1, take_full h1]; rfl⟩
      · rintro ⟨r, s1⟩ hI2
        replace hI2 : 0 ≤ r ∧ r ≤ needs.length ∧ s1 = roundsR (edgesTo needs over needs.length) r.toNat (initR needs.length l) := hI2
        have hl1 : s1.length = needs.length := by rw [hI2.2.2, rounds_len, initR_len]; omega
        show AWP _ _ _ _ [(0, .slice false (needs.map (lstAV intAV))), (2, .bool over), (8, .int .i64 (needs.length : Int)), (9, .ms ⟨b1, 0, none⟩ (((needs.length : Int)).toNat) (((needs.length : Int)).toNat)), (11, .int .i64 r)] (AMem.wth m [(b1, .cells (s1.map boolAV))])
        refine awp_seq_k ?_; intro K7 hK7
        refine awp_reg2_seq [] [0, 2, 8, 9, 11, 47] (by decide) ?_
        intro K1 hK1
        refine ⟨trivial, trivial, trivial, ?_⟩
        show K1 [(0, .slice false (needs.map (lstAV intAV))), (2, .bool over), (8, .int .i64 (needs.length : Int)), (9, .ms ⟨b1, 0, none⟩ (((needs.length : Int)).toNat) (((needs.length : Int)).toNat)), (11, .int .i64 r), (47, .bool (decide (r < (needs.length : Int))))] (AMem.wth m [(b1, .cells (s1.map boolAV))])
        refine hK1 _ _ ?_; clear hK1 K1
        refine awp_cond rfl rfl (fun h4 => ?_) (fun h4 => ?_)
        · replace h4 : r < (needs.length : Int) := (of_decide_eq_true h4)
          refine awp_skip ?_
          refine hK7 _ _ ?_; clear hK7
          refine awp_seq_k ?_; intro K8 hK8
          refine awp_block ?_
          refine awp_reg2_seq [] [0, 2, 8, 9, 11, 12] (by decide) ?_
          intro K1 hK1
          refine ⟨trivial, ?_⟩
          show K1 [(0, .slice false (needs.map (lstAV intAV))), (2, .bool over), (8, .int .i64 (needs.length : Int)), (9, .ms ⟨b1, 0, none⟩ (((needs.length : Int)).toNat) (((needs.length : Int)).toNat)), (11, .int .i64 r), (12, .int .i64 0)] (AMem.wth m [(b1, .cells (s1.map boolAV))])
          refine hK1 _ _ ?_; clear hK1 K1
          refine awp_block ?_
          refine awp_keep [0, 2, 8, 9, 11, 12] (by decide) ?_
          refine awp_loop_st (σ := Int × (List Bool)) (fun ⟨j, s2⟩ => [(0, .slice false (needs.map (lstAV intAV))), (2, .bool over), (8, .int .i64 (needs.length : Int)), (9, .ms ⟨b1, 0, none⟩ (((needs.length : Int)).toNat) (((needs.length : Int)).toNat)), (11, .int .i64 r), (12, .int .i64 j)]) (fun ⟨j, s2⟩ => (AMem.wth m [(b1, .cells (s2.map boolAV))])) (fun ⟨j, s2⟩ => 0 ≤ j ∧ j ≤ needs.length ∧ s2 = (edgesTo needs over j).foldl es s1) (fun ⟨j, s2⟩ => needs.length - j.toNat) (0, s1) rfl rfl ?_ ?_
          · show 0 ≤ ((0 : Int)) ∧ ((0 : Int)) ≤ needs.length ∧ ((s1 : (List Bool))) = (edgesTo needs over ((0 : Int))).foldl es s1
            exact ⟨by omega, by omega, by simp [edgesTo, upto]⟩
          · rintro ⟨j, s2⟩ hI3
            replace hI3 : 0 ≤ j ∧ j ≤ needs.length ∧ s2 = (edgesTo needs over j).foldl es s1 := hI3
            have hl2 : s2.length = needs.length := by rw [hI3.2.2, foldEs_len, hl1]
            show AWP _ _ _ _ [(0, .slice false (needs.map (lstAV intAV))), (2, .bool over), (8, .int .i64 (needs.length : Int)), (9, .ms ⟨b1, 0, none⟩ (((needs.length : Int)).toNat) (((needs.length : Int)).toNat)), (11, .int .i64 r), (12, .int .i64 j)] (AMem.wth m [(b1, .cells (s2.map boolAV))])
            refine awp_seq_k ?_; intro K9 hK9
            refine awp_reg2_seq [] [0, 2, 8, 9, 11, 12, 52] (by decide) ?_
            intro K1 hK1
            refine ⟨trivial, trivial, trivial, ?_⟩
            show K1 [(0, .slice false (needs.map (lstAV intAV))), (2, .bool over), (8, .int .i64 (needs.length : Int)), (9, .ms ⟨b1, 0, none⟩ (((needs.length : Int)).toNat) (((needs.length : Int)).toNat)), (11, .int .i64 r), (12, .int .i64 j), (52, .bool (decide (j < (needs.length : Int))))] (AMem.wth m [(b1, .cells (s2.map boolAV))])
            refine hK1 _ _ ?_; clear hK1 K1
            refine awp_cond rfl rfl (fun h5 => ?_) (fun h5 => ?_)
            · replace h5 : j < (needs.length : Int) := (of_decide_eq_true h5)
              have hlj := hl _ (gI_mem (l := needs) (i := j) hI3.1 h5)
              refine awp_skip ?_
              refine hK9 _ _ ?_; clear hK9
              refine awp_seq_k ?_; intro K10 hK10
              refine awp_block ?_
              refine awp_reg2_seq [] [0, 2, 8, 9, 11, 12, 13] (by decide) ?_
              intro K1 hK1
              refine ⟨trivial, ?_⟩
              show K1 [(0, .slice false (needs.map (lstAV intAV))), (2, .bool over), (8, .int .i64 (needs.length : Int)), (9, .ms ⟨b1, 0, none⟩ (((needs.length : Int)).toNat) (((needs.length : Int)).toNat)), (11, .int .i64 r), (12, .int .i64 j), (13, .int .i64 0)] (AMem.wth m [(b1, .cells (s2.map boolAV))])
              refine hK1 _ _ ?_; clear hK1 K1
              refine awp_block ?_
              refine awp_keep [0, 2, 8, 9, 11, 12, 13] (by decide) ?_
              refine awp_loop_st (σ := Int × (List Bool)) (fun ⟨k, s3⟩ => [(0, .slice false (needs.map (lstAV intAV))), (2, .bool over), (8, .int .i64 (needs.length : Int)), (9, .ms ⟨b1, 0, none⟩ (((needs.length : Int)).toNat) (((needs.length : Int)).toNat)), (11, .int .i64 r), (12, .int .i64 j), (13, .int .i64 k)]) (fun ⟨k, s3⟩ => (AMem.wth m [(b1, .cells (s3.map boolAV))])) (fun ⟨k, s3⟩ => 0 ≤ k ∧ k ≤ (gI needs j).length ∧ s3 = (((gI needs j).take k.toNat).map (mkE over j)).foldl es s2) (fun ⟨k, s3⟩ => (gI needs j).length - k.toNat) (0, s2) rfl rfl ?_ ?_
              · show 0 ≤ ((0 : Int)) ∧ ((0 : Int)) ≤ (gI needs j).length ∧ ((s2 : (List Bool))) = (((gI needs j).take ((0 : Int)).toNat).map (mkE over j)).foldl es s2
                exact ⟨by omega, by omega, by simp⟩
              · rintro ⟨k, s3⟩ hI4
                replace hI4 : 0 ≤ k ∧ k ≤ (gI needs j).length ∧ s3 = (((gI needs j).take k.toNat).map (mkE over j)).foldl es s2 := hI4
                have hl3 : s3.length = needs.length := by rw [hI4.2.2, foldEs_len, hl2]
                show AWP _ _ _ _ [(0, .slice false (needs.map (lstAV intAV))), (2, .bool over), (8, .int .i64 (needs.length : Int)), (9, .ms ⟨b1, 0, none⟩ (((needs.length : Int)).toNat) (((needs.length : Int)).toNat)), (11, .int .i64 r), (12, .int .i64 j), (13, .int .i64 k)] (AMem.wth m [(b1, .cells (s3.map boolAV))])
                refine awp_seq_k ?_; intro K11 hK11
                refine awp_reg2_seq [] [0, 2, 8, 9, 11, 12, 13, 61] (by decide) ?_
                intro K1 hK1
                refine ⟨trivial, trivial, trivial, ?_⟩
                refine ar_index rfl (lstAV intAV) needs j rfl rfl rfl rfl rfl (by decide) (fun _ => rfl) (by omega) (by omega) ?_
                refine ⟨(apartOk_one rfl rfl (Nat.le_of_ble_eq_true rfl)), ?_⟩
                refine ar_len rfl intAV (gI needs j) rfl rfl rfl ?_
                refine ⟨trivial, ?_⟩
                show K1 [(0, .slice false (needs.map (lstAV intAV))), (2, .bool over), (8, .int .i64 (needs.length : Int)), (9, .ms ⟨b1, 0, none⟩ (((needs.length : Int)).toNat) (((needs.length : Int)).toNat)), (11, .int .i64 r), (12, .int .i64 j), (13, .int .i64 k), (61, .bool (decide (k < ((gI needs j).length : Int))))] (AMem.wth m [(b1, .cells (s3.map boolAV))])
                refine hK1 _ _ ?_; clear hK1 K1
                refine awp_cond rfl rfl (fun h6 => ?_) (fun h6 => ?_)
                · replace h6 : k < ((gI needs j).length : Int) := (of_decide_eq_true h6)
                  have hg := okN_gI hok hI3.1 h5 hI4.1 h6
                  have hset : (s3.set (gI (gI needs j) k).toNat true).length = s3.length := by simp
                  have hst : ∀ X, X = [mkE over j (gI (gI needs j) k)].foldl es s3 → X = (((gI needs j).take (k + 1 : Int).toNat).map (mkE over j)).foldl es s2 := by
                    intro X h
                    rw [take_succ_gI hI4.1 h6, List.map_append, List.foldl_append, ← hI4.2.2]; exact h
                  refine awp_skip ?_
                  refine hK11 _ _ ?_; clear hK11
                  refine awp_seq_k ?_; intro K12 hK12
                  refine awp_block ?_
                  refine awp_seq_k ?_; intro K13 hK13
                  refine awp_reg2_seq [] [0, 2, 8, 9, 11, 12, 13, 71] (by decide) ?_
                  intro K1 hK1
                  suffices key : K1 [(0, .slice false (needs.map (lstAV intAV))), (2, .bool over), (8, .int .i64 (needs.length : Int)), (9, .ms ⟨b1, 0, none⟩ (((needs.length : Int)).toNat) (((needs.length : Int)).toNat)), (11, .int .i64 r), (12, .int .i64 j), (13, .int .i64 k), (71, .bool ((gI s3 j) && (!over)))] (AMem.wth m [(b1, .cells (s3.map boolAV))]) by
                    refine ⟨trivial, trivial, ⟨rfl, (by omega), (by omega)⟩, ?_⟩
                    refine ar_loadm rfl (m := m) (L := [(b1, .cells (s3.map boolAV))]) boolAV s3 j rfl rfl (wth_get (m := m) (L := [(b1, .cells (s3.map boolAV))]) 0 hNb1 rfl) rfl rfl rfl (fun _ => rfl) (by omega) (by omega) ?_
                    refine ⟨trivial, ?_⟩
                    show aopsR _ _ _ _ _ [(68, .bool (gI s3 j)), (67, .bool (gI s3 j)), (66, .ptr ⟨b1, 0 + (j).toNat * Try.prog.cellsOf 4, none⟩), (65, .int .i64 j), (64, .ms ⟨b1, 0, none⟩ (((needs.length : Int)).toNat) (((needs.length : Int)).toNat)), (0, .slice false (needs.map (lstAV intAV))), (2, .bool over), (8, .int .i64 (needs.length : Int)), (9, .ms ⟨b1, 0, none⟩ (((needs.length : Int)).toNat) (((needs.length : Int)).toNat)), (11, .int .i64 r), (12, .int .i64 j), (13, .int .i64 k), (61, .bool (decide (k < ((gI needs j).length : Int))))] _
                    revert key
                    cases h7 : (gI s3 j)
                    · replace h7 : gI s3 j = false := h7
                      intro key
                      refine ar_off rfl (ar_off rfl ?_)
                      exact key
                    · replace h7 : gI s3 j = true := h7
                      intro key
                      refine ⟨trivial, trivial, ?_⟩
                      exact key
                  refine hK1 _ _ ?_; clear hK1 K1
                  refine awp_cond rfl rfl (fun h8 => ?_) (fun h8 => ?_)
                  · replace h8 : (gI s3 j = true) ∧ (over = false) := ⟨(bandL h8), (bnT (bandR h8))⟩
                    refine awp_reg2 [] [0, 2, 8, 9, 11, 12, 13] (by decide) ?_
                    intro K1 hK1
                    refine ⟨trivial, trivial, trivial, ?_⟩
                    refine ar_index rfl (lstAV intAV) needs j rfl rfl rfl rfl rfl (by decide) (fun _ => rfl) (by omega) (by omega) ?_
                    refine ⟨(apartOk_one rfl rfl (Nat.le_of_ble_eq_true rfl)), trivial, ?_⟩
                    refine ar_index rfl intAV (gI needs j) k rfl rfl rfl rfl rfl (by decide) (fun _ => rfl) (by omega) (by omega) ?_
                    refine ⟨(apartOk_one rfl rfl (Nat.le_of_ble_eq_true rfl)), ⟨rfl, (by omega), (by omega)⟩, ?_⟩
                    refine ar_storem rfl 0 (m := m) (L := [(b1, .cells (s3.map boolAV))]) boolAV s3 true (gI (gI needs j) k) rfl rfl rfl hNb1 rfl rfl rfl rfl rfl rfl (by omega) (by omega) ?_
                    show K1 [(0, .slice false (needs.map (lstAV intAV))), (2, .bool over), (8, .int .i64 (needs.length : Int)), (9, .ms ⟨b1, 0, none⟩ (((needs.length : Int)).toNat) (((needs.length : Int)).toNat)), (11, .int .i64 r), (12, .int .i64 j), (13, .int .i64 k)] (AMem.wth m [(b1, .cells ((s3.set (gI (gI needs j) k).toNat true).map boolAV))])
                    refine hK1 _ _ ?_; clear hK1 K1
                    refine hK13 _ _ ?_; clear hK13
                    refine awp_reg2_seq [] [0, 2, 8, 9, 11, 12, 13, 93] (by decide) ?_
                    intro K1 hK1
                    suffices key : K1 [(0, .slice false (needs.map (lstAV intAV))), (2, .bool over), (8, .int .i64 (needs.length : Int)), (9, .ms ⟨b1, 0, none⟩ (((needs.length : Int)).toNat) (((needs.length : Int)).toNat)), (11, .int .i64 r), (12, .int .i64 j), (13, .int .i64 k), (93, .bool (over && (gI (s3.set (gI (gI needs j) k).toNat true) (gI (gI needs j) k))))] (AMem.wth m [(b1, .cells ((s3.set (gI (gI needs j) k).toNat true).map boolAV))]) by
                      refine ⟨trivial, trivial, ?_⟩
                      show aopsR _ _ _ _ _ [(82, .bool over), (81, .bool over), (0, .slice false (needs.map (lstAV intAV))), (2, .bool over), (8, .int .i64 (needs.length : Int)), (9, .ms ⟨b1, 0, none⟩ (((needs.length : Int)).toNat) (((needs.length : Int)).toNat)), (11, .int .i64 r), (12, .int .i64 j), (13, .int .i64 k)] _
                      revert key
                      cases h9 : over
                      · replace h9 : over = false := h9
                        intro key
                        refine ar_off rfl (ar_off rfl (ar_off rfl (ar_off rfl (ar_off rfl (ar_off rfl (ar_off rfl (ar_off rfl (ar_off rfl (ar_off rfl ?_)))))))))
                        exact key
                      · replace h9 : over = true := h9
                        intro key
                        refine ⟨trivial, trivial, trivial, ?_⟩
                        refine ar_index rfl (lstAV intAV) needs j rfl rfl rfl rfl rfl (by decide) (fun _ => rfl) (by omega) (by omega) ?_
                        refine ⟨(apartOk_one rfl rfl (Nat.le_of_ble_eq_true rfl)), trivial, ?_⟩
                        refine ar_index rfl intAV (gI needs j) k rfl rfl rfl rfl rfl (by decide) (fun _ => rfl) (by omega) (by omega) ?_
                        refine ⟨(apartOk_one rfl rfl (Nat.le_of_ble_eq_true rfl)), ⟨rfl, (by omega), (by omega)⟩, ?_⟩
                        refine ar_loadm rfl (m := m) (L := [(b1, .cells ((s3.set (gI (gI needs j) k).toNat true).map boolAV))]) boolAV (s3.set (gI (gI needs j) k).toNat true) (gI (gI needs j) k) rfl rfl (wth_get (m := m) (L := [(b1, .cells ((s3.set (gI (gI needs j) k).toNat true).map boolAV))]) 0 hNb1 rfl) rfl rfl rfl (fun _ => rfl) (by omega) (by omega) ?_
                        exact key
                    refine hK1 _ _ ?_; clear hK1 K1
                    refine awp_cond rfl rfl (fun h10 => ?_) (fun h10 => ?_)
                    · replace h10 : (over = true) ∧ (gI (s3.set (gI (gI needs j) k).toNat true) (gI (gI needs j) k) = true) := ⟨(bandL h10), (bandR h10)⟩
                      refine awp_reg2 [] [0, 2, 8, 9, 11, 12, 13] (by decide) ?_
                      intro K1 hK1
                      refine ⟨trivial, trivial, ⟨rfl, (by omega), (by omega)⟩, ?_⟩
                      refine ar_storem rfl 0 (m := m) (L := [(b1, .cells ((s3.set (gI (gI needs j) k).toNat true).map boolAV))]) boolAV (s3.set (gI (gI needs j) k).toNat true) true j rfl rfl rfl hNb1 rfl rfl rfl rfl rfl rfl (by omega) (by omega) ?_
                      show K1 [(0, .slice false (needs.map (lstAV intAV))), (2, .bool over), (8, .int .i64 (needs.length : Int)), (9, .ms ⟨b1, 0, none⟩ (((needs.length : Int)).toNat) (((needs.length : Int)).toNat)), (11, .int .i64 r), (12, .int .i64 j), (13, .int .i64 k)] (AMem.wth m [(b1, .cells (((s3.set (gI (gI needs j) k).toNat true).set (j).toNat true).map boolAV))])
                      refine hK1 _ _ ?_; clear hK1 K1
                      refine hK12 _ _ ?_; clear hK12
                      refine awp_reg2 [] [0, 2, 8, 9, 11, 12, 13] (by decide) ?_
                      intro K1 hK1
                      refine ⟨trivial, ?_⟩
                      refine ar_add rfl (a := k) (b := 1) rfl rfl (by omega) (by omega) ?_
                      refine ⟨trivial, ?_⟩
                      show K1 [(0, .slice false (needs.map (lstAV intAV))), (2, .bool over), (8, .int .i64 (needs.length : Int)), (9, .ms ⟨b1, 0, none⟩ (((needs.length : Int)).toNat) (((needs.length : Int)).toNat)), (11, .int .i64 r), (12, .int .i64 j), (13, .int .i64 (k + 1))] (AMem.wth m [(b1, .cells (((s3.set (gI (gI needs j) k).toNat true).set (j).toNat true).map boolAV))])
                      refine hK1 _ _ ?_; clear hK1 K1
                      refine ⟨(k + 1, (s3.set (gI (gI needs j) k).toNat true).set (j).toNat true), rfl, rfl, ?_, ?_⟩
                      · show 0 ≤ ((k + 1 : Int)) ∧ ((k + 1 : Int)) ≤ (gI needs j).length ∧ (((s3.set (gI (gI needs j) k).toNat true).set (j).toNat true : (List Bool))) = (((gI needs j).take ((k + 1 : Int)).toNat).map (mkE over j)).foldl es s2
                        exact absurd h10.1 (by rw [h8.2]; decide)
                      · show (gI needs j).length - ((k + 1 : Int)).toNat < (gI needs j).length - k.toNat
                        omega
                    · replace h10 : (over = false) ∨ (gI (s3.set (gI (gI needs j) k).toNat true) (gI (gI needs j) k) = false) := ((bandF h10).imp (fun q => q) (fun q => q))
                      refine awp_skip ?_
                      refine hK12 _ _ ?_; clear hK12
                      refine awp_reg2 [] [0, 2, 8, 9, 11, 12, 13] (by decide) ?_
                      intro K1 hK1
                      refine ⟨trivial, ?_⟩
                      refine ar_add rfl (a := k) (b := 1) rfl rfl (by omega) (by omega) ?_
                      refine ⟨trivial, ?_⟩
                      show K1 [(0, .slice false (needs.map (lstAV intAV))), (2, .bool over), (8, .int .i64 (needs.length : Int)), (9, .ms ⟨b1, 0, none⟩ (((needs.length : Int)).toNat) (((needs.length : Int)).toNat)), (11, .int .i64 r), (12, .int .i64 j), (13, .int .i64 (k + 1))] (AMem.wth m [(b1, .cells ((s3.set (gI (gI needs j) k).toNat true).map boolAV))])
                      refine hK1 _ _ ?_; clear hK1 K1
                      refine ⟨(k + 1, s3.set (gI (gI needs j) k).toNat true), rfl, rfl, ?_, ?_⟩
                      · show 0 ≤ ((k + 1 : Int)) ∧ ((k + 1 : Int)) ≤ (gI needs j).length ∧ ((s3.set (gI (gI needs j) k).toNat true : (List Bool))) = (((gI needs j).take ((k + 1 : Int)).toNat).map (mkE over j)).foldl es s2
                        exact ⟨by omega, by omega, hst _ (es_under h8)⟩
                      · show (gI needs j).length - ((k + 1 : Int)).toNat < (gI needs j).length - k.toNat
                        omega
                  · replace h8 : (gI s3 j = false) ∨ (over = true) := ((bandF h8).imp (fun q => q) (fun q => (bnF q)))
                    refine awp_skip ?_
                    refine hK13 _ _ ?_; clear hK13
                    refine awp_reg2_seq [] [0, 2, 8, 9, 11, 12, 13, 93] (by decide) ?_
                    intro K1 hK1
                    suffices key : K1 [(0, .slice false (needs.map (lstAV intAV))), (2, .bool over), (8, .int .i64 (needs.length : Int)), (9, .ms ⟨b1, 0, none⟩ (((needs.length : Int)).toNat) (((needs.length : Int)).toNat)), (11, .int .i64 r), (12, .int .i64 j), (13, .int .i64 k), (93, .bool (over && (gI s3 (gI (gI needs j) k))))] (AMem.wth m [(b1, .cells (s3.map boolAV))]) by
                      refine ⟨trivial, trivial, ?_⟩
                      show aopsR _ _ _ _ _ [(82, .bool over), (81, .bool over), (0, .slice false (needs.map (lstAV intAV))), (2, .bool over), (8, .int .i64 (needs.length : Int)), (9, .ms ⟨b1, 0, none⟩ (((needs.length : Int)).toNat) (((needs.length : Int)).toNat)), (11, .int .i64 r), (12, .int .i64 j), (13, .int .i64 k), (71, .bool ((gI s3 j) && (!over)))] _
                      revert key
                      cases h11 : over
                      · replace h11 : over = false := h11
                        intro key
                        refine ar_off rfl (ar_off rfl (ar_off rfl (ar_off rfl (ar_off rfl (ar_off rfl (ar_off rfl (ar_off rfl (ar_off rfl (ar_off rfl ?_)))))))))
                        exact key
                      · replace h11 : over = true := h11
                        intro key
                        refine ⟨trivial, trivial, trivial, ?_⟩
                        refine ar_index rfl (lstAV intAV) needs j rfl rfl rfl rfl rfl (by decide) (fun _ => rfl) (by omega) (by omega) ?_
                        refine ⟨(apartOk_one rfl rfl (Nat.le_of_ble_eq_true rfl)), trivial, ?_⟩
                        refine ar_index rfl intAV (gI needs j) k rfl rfl rfl rfl rfl (by decide) (fun _ => rfl) (by omega) (by omega) ?_
                        refine ⟨(apartOk_one rfl rfl (Nat.le_of_ble_eq_true rfl)), ⟨rfl, (by omega), (by omega)⟩, ?_⟩
                        refine ar_loadm rfl (m := m) (L := [(b1, .cells (s3.map boolAV))]) boolAV s3 (gI (gI needs j) k) rfl rfl (wth_get (m := m) (L := [(b1, .cells (s3.map boolAV))]) 0 hNb1 rfl) rfl rfl rfl (fun _ => rfl) (by omega) (by omega) ?_
                        exact key
                    refine hK1 _ _ ?_; clear hK1 K1
                    refine awp_cond rfl rfl (fun h12 => ?_) (fun h12 => ?_)
                    · replace h12 : (over = true) ∧ (gI s3 (gI (gI needs j) k) = true) := ⟨(bandL h12), (bandR h12)⟩
                      refine awp_reg2 [] [0, 2, 8, 9, 11, 12, 13] (by decide) ?_
                      intro K1 hK1
                      refine ⟨trivial, trivial, ⟨rfl, (by omega), (by omega)⟩, ?_⟩
                      refine ar_storem rfl 0 (m := m) (L := [(b1, .cells (s3.map boolAV))]) boolAV s3 true j rfl rfl rfl hNb1 rfl rfl rfl rfl rfl rfl (by omega) (by omega) ?_
                      show K1 [(0, .slice false (needs.map (lstAV intAV))), (2, .bool over), (8, .int .i64 (needs.length : Int)), (9, .ms ⟨b1, 0, none⟩ (((needs.length : Int)).toNat) (((needs.length : Int)).toNat)), (11, .int .i64 r), (12, .int .i64 j), (13, .int .i64 k)] (AMem.wth m [(b1, .cells ((s3.set (j).toNat true).map boolAV))])
                      refine hK1 _ _ ?_; clear hK1 K1
                      refine hK12 _ _ ?_; clear hK12
                      refine awp_reg2 [] [0, 2, 8, 9, 11, 12, 13] (by decide) ?_
                      intro K1 hK1
                      refine ⟨trivial, ?_⟩
                      refine ar_add rfl (a := k) (b := 1) rfl rfl (by omega) (by omega) ?_
                      refine ⟨trivial, ?_⟩
                      show K1 [(0, .slice false (needs.map (lstAV intAV))), (2, .bool over), (8, .int .i64 (needs.length : Int)), (9, .ms ⟨b1, 0, none⟩ (((needs.length : Int)).toNat) (((needs.length : Int)).toNat)), (11, .int .i64 r), (12, .int .i64 j), (13, .int .i64 (k + 1))] (AMem.wth m [(b1, .cells ((s3.set (j).toNat true).map boolAV))])
                      refine hK1 _ _ ?_; clear hK1 K1
                      refine ⟨(k + 1, s3.set (j).toNat true), rfl, rfl, ?_, ?_⟩
                      · show 0 ≤ ((k + 1 : Int)) ∧ ((k + 1 : Int)) ≤ (gI needs j).length ∧ ((s3.set (j).toNat true : (List Bool))) = (((gI needs j).take ((k + 1 : Int)).toNat).map (mkE over j)).foldl es s2
                        exact ⟨by omega, by omega, hst _ (es_over h12)⟩
                      · show (gI needs j).length - ((k + 1 : Int)).toNat < (gI needs j).length - k.toNat
                        omega
                    · replace h12 : (over = false) ∨ (gI s3 (gI (gI needs j) k) = false) := ((bandF h12).imp (fun q => q) (fun q => q))
                      refine awp_skip ?_
                      refine hK12 _ _ ?_; clear hK12
                      refine awp_reg2 [] [0, 2, 8, 9, 11, 12, 13] (by decide) ?_
                      intro K1 hK1
                      refine ⟨trivial, ?_⟩
                      refine ar_add rfl (a := k) (b := 1) rfl rfl (by omega) (by omega) ?_
                      refine ⟨trivial, ?_⟩
                      show K1 [(0, .slice false (needs.map (lstAV intAV))), (2, .bool over), (8, .int .i64 (needs.length : Int)), (9, .ms ⟨b1, 0, none⟩ (((needs.length : Int)).toNat) (((needs.length : Int)).toNat)), (11, .int .i64 r), (12, .int .i64 j), (13, .int .i64 (k + 1))] (AMem.wth m [(b1, .cells (s3.map boolAV))])
                      refine hK1 _ _ ?_; clear hK1 K1
                      refine ⟨(k + 1, s3), rfl, rfl, ?_, ?_⟩
                      · show 0 ≤ ((k + 1 : Int)) ∧ ((k + 1 : Int)) ≤ (gI needs j).length ∧ s3 = (((gI needs j).take ((k + 1 : Int)).toNat).map (mkE over j)).foldl es s2
                        exact ⟨by omega, by omega, hst _ (es_skip h8 h12)⟩
                      · show (gI needs j).length - ((k + 1 : Int)).toNat < (gI needs j).length - k.toNat
                        omega
                · replace h6 : ((gI needs j).length : Int) ≤ k := (Int.not_lt.1 (of_decide_eq_false h6))
                  refine awp_exit ?_
                  refine hK10 _ _ ?_; clear hK10
                  refine awp_reg2 [] [0, 2, 8, 9, 11, 12] (by decide) ?_
                  intro K1 hK1
                  refine ⟨trivial, ?_⟩
                  refine ar_add rfl (a := j) (b := 1) rfl rfl (by omega) (by omega) ?_
                  refine ⟨trivial, ?_⟩
                  show K1 [(0, .slice false (needs.map (lstAV intAV))), (2, .bool over), (8, .int .i64 (needs.length : Int)), (9, .ms ⟨b1, 0, none⟩ (((needs.length : Int)).toNat) (((needs.length : Int)).toNat)), (11, .int .i64 r), (12, .int .i64 (j + 1))] (AMem.wth m [(b1, .cells (s3.map boolAV))])
                  refine hK1 _ _ ?_; clear hK1 K1
                  refine ⟨(j + 1, s3), rfl, rfl, ?_, ?_⟩
                  · show 0 ≤ ((j + 1 : Int)) ∧ ((j + 1 : Int)) ≤ needs.length ∧ ((s3 : (List Bool))) = (edgesTo needs over ((j + 1 : Int))).foldl es s1
                    exact ⟨by omega, by omega, by rw [edgesTo_succ hI3.1, List.foldl_append, ← hI3.2.2, hI4.2.2, take_full h6]⟩
                  · show needs.length - ((j + 1 : Int)).toNat < needs.length - j.toNat
                    omega
            · replace h5 : (needs.length : Int) ≤ j := (Int.not_lt.1 (of_decide_eq_false h5))
              refine awp_exit ?_
              refine hK8 _ _ ?_; clear hK8
              refine awp_reg2 [] [0, 2, 8, 9, 11] (by decide) ?_
              intro K1 hK1
              refine ⟨trivial, ?_⟩
              refine ar_add rfl (a := r) (b := 1) rfl rfl (by omega) (by omega) ?_
              refine ⟨trivial, ?_⟩
              show K1 [(0, .slice false (needs.map (lstAV intAV))), (2, .bool over), (8, .int .i64 (needs.length : Int)), (9, .ms ⟨b1, 0, none⟩ (((needs.length : Int)).toNat) (((needs.length : Int)).toNat)), (11, .int .i64 (r + 1))] (AMem.wth m [(b1, .cells (s2.map boolAV))])
              refine hK1 _ _ ?_; clear hK1 K1
              refine ⟨(r + 1, s2), rfl, rfl, ?_, ?_⟩
              · show 0 ≤ ((r + 1 : Int)) ∧ ((r + 1 : Int)) ≤ needs.length ∧ ((s2 : (List Bool))) = roundsR (edgesTo needs over needs.length) ((r + 1 : Int)).toNat (initR needs.length l)
                have e : (r + 1).toNat = r.toNat + 1 := by omega
                have e2 : j = needs.length := by omega
                exact ⟨by omega, by omega, by rw [e, roundsR, ← hI2.2.2, hI3.2.2, e2]⟩
              · show needs.length - ((r + 1 : Int)).toNat < needs.length - r.toNat
                omega
        · replace h4 : (needs.length : Int) ≤ r := (Int.not_lt.1 (of_decide_eq_false h4))
          refine awp_exit ?_
          refine hK6 _ _ ?_; clear hK6
          refine awp_reg2_seq [] [8, 9, 14] (by decide) ?_
          intro K1 hK1
          refine ⟨trivial, ?_⟩
          show K1 [(8, .int .i64 (needs.length : Int)), (9, .ms ⟨b1, 0, none⟩ (((needs.length : Int)).toNat) (((needs.length : Int)).toNat)), (14, .slice true [])] (AMem.wth m [(b1, .cells (s1.map boolAV))])
          refine hK1 _ _ ?_; clear hK1 K1
          refine awp_seq_k ?_; intro K14 hK14
          refine awp_reg2_seq [] [8, 9, 14, 15] (by decide) ?_
          intro K1 hK1
          refine ⟨trivial, ?_⟩
          show K1 [(8, .int .i64 (needs.length : Int)), (9, .ms ⟨b1, 0, none⟩ (((needs.length : Int)).toNat) (((needs.length : Int)).toNat)), (14, .slice true []), (15, .int .i64 0)] (AMem.wth m [(b1, .cells (s1.map boolAV))])
          refine hK1 _ _ ?_; clear hK1 K1
          refine awp_block ?_
          refine awp_keep [8, 9, 14, 15] (by decide) ?_
          refine awp_loop_st (σ := (List Int) × Int) (fun ⟨out, q⟩ => [(8, .int .i64 (needs.length : Int)), (9, .ms ⟨b1, 0, none⟩ (((needs.length : Int)).toNat) (((needs.length : Int)).toNat)), (14, .slice true (out.map intAV)), (15, .int .i64 q)]) (fun _ => (AMem.wth m [(b1, .cells (s1.map boolAV))])) (fun ⟨out, q⟩ => 0 ≤ q ∧ q ≤ needs.length ∧ out = seenTo s1 q) (fun ⟨out, q⟩ => needs.length - q.toNat) ([], 0) rfl rfl ?_ ?_
          · show 0 ≤ ((0 : Int)) ∧ ((0 : Int)) ≤ needs.length ∧ (([] : (List Int))) = seenTo s1 ((0 : Int))
            exact ⟨by omega, by omega, by simp [seenTo, upto]⟩
          · rintro ⟨out, q⟩ hI3
            replace hI3 : 0 ≤ q ∧ q ≤ needs.length ∧ out = seenTo s1 q := hI3
            have hob := seenTo_bound s1 q (by omega)
            rw [← hI3.2.2] at hob
            show AWP _ _ _ _ [(8, .int .i64 (needs.length : Int)), (9, .ms ⟨b1, 0, none⟩ (((needs.length : Int)).toNat) (((needs.length : Int)).toNat)), (14, .slice true (out.map intAV)), (15, .int .i64 q)] (AMem.wth m [(b1, .cells (s1.map boolAV))])
            refine awp_seq_k ?_; intro K15 hK15
            refine awp_reg2_seq [] [8, 9, 14, 15, 99] (by decide) ?_
            intro K1 hK1
            refine ⟨trivial, trivial, trivial, ?_⟩
            show K1 [(8, .int .i64 (needs.length : Int)), (9, .ms ⟨b1, 0, none⟩ (((needs.length : Int)).toNat) (((needs.length : Int)).toNat)), (14, .slice true (out.map intAV)), (15, .int .i64 q), (99, .bool (decide (q < (needs.length : Int))))] (AMem.wth m [(b1, .cells (s1.map boolAV))])
            refine hK1 _ _ ?_; clear hK1 K1
            refine awp_cond rfl rfl (fun h13 => ?_) (fun h13 => ?_)
            · replace h13 : q < (needs.length : Int) := (of_decide_eq_true h13)
              refine awp_skip ?_
              refine hK15 _ _ ?_; clear hK15
              refine awp_seq_k ?_; intro K16 hK16
              refine awp_block ?_
              refine awp_reg2_seq [] [8, 9, 14, 15, 105] (by decide) ?_
              intro K1 hK1
              refine ⟨trivial, trivial, ⟨rfl, (by omega), (by omega)⟩, ?_⟩
              refine ar_loadm rfl (m := m) (L := [(b1, .cells (s1.map boolAV))]) boolAV s1 q rfl rfl (wth_get (m := m) (L := [(b1, .cells (s1.map boolAV))]) 0 hNb1 rfl) rfl rfl rfl (fun _ => rfl) (by omega) (by omega) ?_
              show K1 [(8, .int .i64 (needs.length : Int)), (9, .ms ⟨b1, 0, none⟩ (((needs.length : Int)).toNat) (((needs.length : Int)).toNat)), (14, .slice true (out.map intAV)), (15, .int .i64 q), (105, .bool (gI s1 q))] (AMem.wth m [(b1, .cells (s1.map boolAV))])
              refine hK1 _ _ ?_; clear hK1 K1
              refine awp_cond rfl rfl (fun h14 => ?_) (fun h14 => ?_)
              · replace h14 : gI s1 q = true := h14
                refine awp_reg2 [106] [8, 9, 14, 15] (by decide) ?_
                intro K1 hK1
                refine ⟨trivial, trivial, ⟨rfl, Nat.le_of_ble_eq_true rfl, rfl, Nat.le_of_ble_eq_true rfl, rfl, by simp only [List.forall_mem_cons]; exact ⟨⟨rfl, rfl⟩, fun _ h => by cases h⟩⟩, ?_⟩
                refine ar_append rfl intAV out ([q] : List Int) rfl rfl rfl rfl rfl rfl (Nat.le_of_ble_eq_true rfl) rfl (by (simp only [show Try.prog.bytesOf 3 = 8 from rfl, List.length_append, List.length_cons, List.length_nil]; omega)) (by (first | omega | (simp only [List.length_append, List.length_cons, List.length_nil]; omega))) (fun _ => ⟨rfl, rfl⟩) ?_
                refine ⟨trivial, ?_⟩
                show K1 [(8, .int .i64 (needs.length : Int)), (9, .ms ⟨b1, 0, none⟩ (((needs.length : Int)).toNat) (((needs.length : Int)).toNat)), (14, .slice true ((out ++ ([q] : List Int)).map intAV)), (15, .int .i64 q)] (AMem.wth m [(b1, .cells (s1.map boolAV))])
                refine hK1 _ _ ?_; clear hK1 K1
                refine hK16 _ _ ?_; clear hK16
                refine awp_reg2 [] [8, 9, 14, 15] (by decide) ?_
                intro K1 hK1
                refine ⟨trivial, ?_⟩
                refine ar_add rfl (a := q) (b := 1) rfl rfl (by omega) (by omega) ?_
                refine ⟨trivial, ?_⟩
                show K1 [(8, .int .i64 (needs.length : Int)), (9, .ms ⟨b1, 0, none⟩ (((needs.length : Int)).toNat) (((needs.length : Int)).toNat)), (14, .slice true ((out ++ ([q] : List Int)).map intAV)), (15, .int .i64 (q + 1))] (AMem.wth m [(b1, .cells (s1.map boolAV))])
                refine hK1 _ _ ?_; clear hK1 K1
                refine ⟨(out ++ ([q] : List Int), q + 1), rfl, rfl, ?_, ?_⟩
                · show 0 ≤ ((q + 1 : Int)) ∧ ((q + 1 : Int)) ≤ needs.length ∧ ((out ++ ([q] : List Int) : (List Int))) = seenTo s1 ((q + 1 : Int))
                  exact ⟨by omega, by omega, by rw [seenTo_succ hI3.1, if_pos h14, ← hI3.2.2]⟩
                · show needs.length - ((q + 1 : Int)).toNat < needs.length - q.toNat
                  omega
              · replace h14 : gI s1 q = false := h14
                refine awp_skip ?_
                refine hK16 _ _ ?_; clear hK16
                refine awp_reg2 [] [8, 9, 14, 15] (by decide) ?_
                intro K1 hK1
                refine ⟨trivial, ?_⟩
                refine ar_add rfl (a := q) (b := 1) rfl rfl (by omega) (by omega) ?_
                refine ⟨trivial, ?_⟩
                show K1 [(8, .int .i64 (needs.length : Int)), (9, .ms ⟨b1, 0, none⟩ (((needs.length : Int)).toNat) (((needs.length : Int)).toNat)), (14, .slice true (out.map intAV)), (15, .int .i64 (q + 1))] (AMem.wth m [(b1, .cells (s1.map boolAV))])
                refine hK1 _ _ ?_; clear hK1 K1
                refine ⟨(out, q + 1), rfl, rfl, ?_, ?_⟩
                · show 0 ≤ ((q + 1 : Int)) ∧ ((q + 1 : Int)) ≤ needs.length ∧ out = seenTo s1 ((q + 1 : Int))
                  exact ⟨by omega, by omega, by rw [seenTo_succ hI3.1, if_neg (by rw [h14]; decide), ← hI3.2.2]⟩
                · show needs.length - ((q + 1 : Int)).toNat < needs.length - q.toNat
                  omega
            · replace h13 : (needs.length : Int) ≤ q := (Int.not_lt.1 (of_decide_eq_false h13))
              refine awp_exit ?_
              refine hK14 _ _ ?_; clear hK14
              refine awp_reg2_seq [] [6, 7] (by decide) ?_
              intro K1 hK1
              refine ⟨trivial, trivial, trivial, ?_⟩
              show K1 [(6, .slice false (out.map intAV)), (7, .int .i64 0)] (AMem.wth m [(b1, .cells (s1.map boolAV))])
              refine hK1 _ _ ?_; clear hK1 K1
              refine awp_ret ?_
              refine ⟨trivial, trivial, m, (wth_sub2 (m := m) [(b1, .cells (s1.map boolAV))] [] hNb1 (by simp only [List.map_cons, List.map_nil, List.forall_mem_cons]; exact ⟨hFb1, fun _ h => by cases h⟩)), ?_⟩
              show K (.tuple [.slice false (out.map intAV), .int .i64 0]) m
             
              have e : q = needs.length := by omega
              have e2 : r.toNat = needs.length := by omega
              rw [e2] at hI2
              have e3 : okL needs.length l = true := all_of_take h1 hI.2.2.2
              rw [reachR, if_pos e3, ← hI2.2.2, ← e, ← hI3.2.2] at hK
              exact hK

end Go.Proofs
