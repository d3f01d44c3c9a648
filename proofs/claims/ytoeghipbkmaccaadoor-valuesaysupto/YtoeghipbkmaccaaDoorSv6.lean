import Derived.Test.YtoeghipbkmaccaaDoorProg
import Derived.Test.YtoeghipbkmaccaaDoorSv2
import Derived.Test.YtoeghipbkmaccaaDoorWxn
import Derived.Test.YtoeghipbkmaccaaDoorWyD
section
namespace Go.Proofs
open Go Go.Aw
set_option maxRecDepth 100000
set_option maxHeartbeats 4000000 in
theorem u_Copy1 (v : Val) (hz : okV v) (ih : ∀ w : Val, depV w < depV v → okV w → ∀ (m : AMem) (K : AV → AMem → Prop), K (valTop w) m → ACalls Tryd.prog 16 [valTop w] m K) (m : AMem)  (K : AV → AMem → Prop) (hK : K (valTop v) m) : ACalls Tryd.prog 16 [valTop v] m K := by
 have hok := (okV_iff v).1 hz
 have hl1 := hok.1.1
 have hf1 := hok.1.2
 refine acalls_enter Tryd.func16 rfl (by decide) (Nat.le_of_ble_eq_true rfl) ?_
 show AWP _ _ _ _ [(0, valTop v)] m
 refine awp_reg2_seq [] [1, 2] (by decide) ?_
 intro K1 hK1
 refine ar_box rfl (m := m) (L := []) (v := valTop v) (by rfl) rfl ?_
 intro b1 hb1
 have hFb1 : m b1 = none := wth_none (m := m) (L := []) hb1
 have hNb1 : ([b1] : List Nat).Nodup := wth_nodup (m := m) (L := []) hb1 List.nodup_nil
 refine ar_alloc rfl (z := .agg [.int .i64 0, .int .i64 0, .str ([]), .slice true [], .slice true []]) rfl rfl ?_
 intro b2 hb2
 have hFb2 : m b2 = none := wth_none hb2
 have hNb2 : ([b2, b1] : List Nat).Nodup := wth_nodup hb2 hNb1
 show K1 [(1, .ptr ⟨b1, 0, none⟩), (2, .ptr ⟨b2, 0, none⟩)] (AMem.wth m [(b2, .cells [.int .i64 0, .int .i64 0, .str ([]), .slice true [], .slice true []]), (b1, .cells [.int .i64 v.kind, .int .i64 v.n, .str v.s, .slice false (v.l.map valIn), .slice false (v.f.map fldIn)])])
 refine hK1 _ _ ?_; clear hK1 K1
 refine awp_draw_seq Tryd.mixed [] [1, 2, 3, 4] (by decide) (by decide) ?_
 intro K1 hK1
 refine ⟨⟨rfl, by decide⟩, ?_⟩
 refine pq_loadp rfl (v := .slice false (v.l.map valIn)) rfl (wth_get 1 hNb2 rfl) (apartOk_one rfl rfl (Nat.le_of_ble_eq_true rfl)) rfl ?_
 refine ⟨⟨rfl, by decide⟩, ?_⟩
 refine pq_loadp rfl (v := .slice false (v.f.map fldIn)) rfl (wth_get 1 hNb2 rfl) (apartOk_one rfl rfl (Nat.le_of_ble_eq_true rfl)) rfl ?_
 refine ⟨trivial, trivial, ?_⟩
 show K1 [(1, .ptr ⟨b1, 0, none⟩), (2, .ptr ⟨b2, 0, none⟩), (3, .slice false (v.l.map valIn)), (4, .slice false (v.f.map fldIn))] _
 refine hK1 _ _ ?_; clear hK1 K1
 refine awp_reg2_seq [] [1, 2, 3, 4] (by decide) ?_
 intro K1 hK1
 refine ⟨⟨rfl, by decide⟩, ?_⟩
 refine ar_storep rfl 1 (v := .slice true []) (l' := [.int .i64 v.kind, .int .i64 v.n, .str v.s, .slice true [], .slice false (v.f.map fldIn)]) rfl rfl hNb2 rfl rfl rfl rfl rfl (Nat.le_of_ble_eq_true rfl) rfl ?_
 refine ⟨⟨rfl, by decide⟩, ?_⟩
 refine ar_storep rfl 1 (v := .slice true []) (l' := [.int .i64 v.kind, .int .i64 v.n, .str v.s, .slice true [], .slice true []]) rfl rfl hNb2 rfl rfl rfl rfl rfl (Nat.le_of_ble_eq_true rfl) rfl ?_
 show K1 [(1, .ptr ⟨b1, 0, none⟩), (2, .ptr ⟨b2, 0, none⟩), (3, .slice false (v.l.map valIn)), (4, .slice false (v.f.map fldIn))] (AMem.wth m [(b2, .cells [.int .i64 0, .int .i64 0, .str ([]), .slice true [], .slice true []]), (b1, .cells [.int .i64 v.kind, .int .i64 v.n, .str v.s, .slice true [], .slice true []])])
 refine hK1 _ _ ?_; clear hK1 K1
 refine awp_seq_k ?_; intro K2 hK2
 refine awp_reg2_seq [] [1, 2, 4, 15, 16, 17] (by decide) ?_
 intro K1 hK1
 refine ⟨trivial, ?_⟩
 refine ar_len rfl valIn v.l rfl rfl rfl ?_
 refine ⟨trivial, ?_⟩
 show K1 [(1, .ptr ⟨b1, 0, none⟩), (2, .ptr ⟨b2, 0, none⟩), (4, .slice false (v.f.map fldIn)), (15, .slice false (v.l.map valIn)), (16, .int .i64 (v.l.length : Int)), (17, .int .i64 0)] _
 refine hK1 _ _ ?_; clear hK1 K1
 refine awp_block ?_
 refine awp_keep [1, 2, 4, 15, 16, 17] (by decide) ?_
 refine awp_loop_st (σ := Int × (List Val)) (fun ⟨i, ol⟩ => [(1, .ptr ⟨b1, 0, none⟩), (2, .ptr ⟨b2, 0, none⟩), (4, .slice false (v.f.map fldIn)), (15, .slice false (v.l.map valIn)), (16, .int .i64 (v.l.length : Int)), (17, .int .i64 i)]) (fun ⟨i, ol⟩ => (AMem.wth m [(b2, .cells [.int .i64 0, .int .i64 0, .str ([]), .slice true [], .slice true []]), (b1, .cells [.int .i64 v.kind, .int .i64 v.n, .str v.s, .slice true (ol.map valIn), .slice true []])])) (fun ⟨i, ol⟩ => 0 ≤ i ∧ i ≤ v.l.length ∧ ol = v.l.take i.toNat) (fun ⟨i, ol⟩ => v.l.length - i.toNat) (0, []) rfl rfl ?_ ?_
 ·
  show 0 ≤ ((0 : Int)) ∧ ((0 : Int)) ≤ v.l.length ∧ (([] : (List Val))) = v.l.take ((0 : Int)).toNat
  exact ⟨by omega, by omega, rfl⟩
 rintro ⟨i, ol⟩ hI
 replace hI : 0 ≤ i ∧ i ≤ v.l.length ∧ ol = v.l.take i.toNat := hI
 have hol : ol.length ≤ v.l.length := by rw [hI.2.2, List.length_take]; omega
 have hol2 : (ol.length : Int) ≤ i := by rw [hI.2.2, List.length_take]; omega
 show AWP _ _ _ _ [(1, .ptr ⟨b1, 0, none⟩), (2, .ptr ⟨b2, 0, none⟩), (4, .slice false (v.f.map fldIn)), (15, .slice false (v.l.map valIn)), (16, .int .i64 (v.l.length : Int)), (17, .int .i64 i)] (AMem.wth m [(b2, .cells [.int .i64 0, .int .i64 0, .str ([]), .slice true [], .slice true []]), (b1, .cells [.int .i64 v.kind, .int .i64 v.n, .str v.s, .slice true (ol.map valIn), .slice true []])])
 refine awp_reg2_seq [] [1, 2, 4, 15, 16, 17, 18] (by decide) ?_
 intro K1 hK1
 refine ⟨trivial, ?_⟩
 show K1 [(1, .ptr ⟨b1, 0, none⟩), (2, .ptr ⟨b2, 0, none⟩), (4, .slice false (v.f.map fldIn)), (15, .slice false (v.l.map valIn)), (16, .int .i64 (v.l.length : Int)), (17, .int .i64 i), (18, .bool (decide (i < (v.l.length : Int))))] _
 refine hK1 _ _ ?_; clear hK1 K1
 refine awp_seq_k ?_; intro K3 hK3
 refine awp_cond rfl rfl (fun h1 => ?_) (fun h1 => ?_)
 ·
  replace h1 : i < (v.l.length : Int) := (of_decide_eq_true h1)
  refine awp_skip ?_
  refine hK3 _ _ ?_; clear hK3
  refine awp_seq_k ?_; intro K4 hK4
  refine awp_block ?_
  refine awp_reg2_seq [] [1, 2, 4, 6, 15, 16, 17] (by decide) ?_
  intro K1 hK1
  refine ar_index rfl valTop v.l i rfl rfl (valMap v.l) rfl rfl (by decide) (fun _ => rfl) (by omega) (by omega) ?_
  refine ⟨(apartOk_agg rfl rfl (Nat.le_of_ble_eq_true rfl)), ?_⟩
  refine ar_alloc rfl (z := .agg [.int .i64 0, .int .i64 0, .str ([]), .slice true [], .slice true []]) rfl rfl ?_
  intro b3 hb3
  have hFb3 : m b3 = none := wth_none hb3
  have hNb3 : ([b3, b2, b1] : List Nat).Nodup := wth_nodup hb3 hNb2
  refine ar_storep rfl 0 (v := valTop (gI v.l i)) (l' := [.int .i64 ((gI v.l i).kind), .int .i64 ((gI v.l i).n), .str ((gI v.l i).s), .slice false (((gI v.l i).l).map valIn), .slice false (((gI v.l i).f).map fldIn)]) rfl (by rfl) hNb3 rfl rfl rfl rfl rfl (Nat.le_of_ble_eq_true rfl) rfl ?_
  show K1 [(1, .ptr ⟨b1, 0, none⟩), (2, .ptr ⟨b2, 0, none⟩), (4, .slice false (v.f.map fldIn)), (6, .ptr ⟨b3, 0, none⟩), (15, .slice false (v.l.map valIn)), (16, .int .i64 (v.l.length : Int)), (17, .int .i64 i)] (AMem.wth m [(b3, .cells [.int .i64 ((gI v.l i).kind), .int .i64 ((gI v.l i).n), .str ((gI v.l i).s), .slice false (((gI v.l i).l).map valIn), .slice false (((gI v.l i).f).map fldIn)]), (b2, .cells [.int .i64 0, .int .i64 0, .str ([]), .slice true [], .slice true []]), (b1, .cells [.int .i64 v.kind, .int .i64 v.n, .str v.s, .slice true (ol.map valIn), .slice true []])])
  refine hK1 _ _ ?_; clear hK1 K1
  refine awp_anyA Tryd.mixed [1, 2, 4, 15, 16, 17] (by decide) ?_
  intro K1 hK1
  intro A hA
  suffices key : ∀ (_ : True), K1 [(1, .ptr ⟨b1, 0, none⟩), (2, .ptr ⟨b2, 0, none⟩), (4, .slice false (v.f.map fldIn)), (15, .slice false (v.l.map valIn)), (16, .int .i64 (v.l.length : Int)), (17, .int .i64 i)] (AMem.wth m [(b3, .cells [.int .i64 ((gI v.l i).kind), .int .i64 ((gI v.l i).n), .str ((gI v.l i).s), .slice false (((gI v.l i).l).map valIn), .slice false (((gI v.l i).f).map fldIn)]), (b2, .cells [.int .i64 0, .int .i64 0, .str ([]), .slice true [], .slice true []]), (b1, .cells [.int .i64 v.kind, .int .i64 v.n, .str v.s, .slice true ((ol ++ ([(gI v.l i)] : List Val)).map valIn), .slice true []])]) by
   let KK1 : Fr → AMem → Prop := (fun fr m => K1 (fr.keep [1, 2, 4, 15, 16, 17]) m)
   let f1_0 : Nat × AV := (1, .ptr ⟨b1, 0, none⟩)
   let f1_1 : Nat × AV := (2, .ptr ⟨b2, 0, none⟩)
   let f1_2 : Nat × AV := (4, .slice false (v.f.map fldIn))
   let f1_3 : Nat × AV := (15, .slice false (v.l.map valIn))
   let f1_4 : Nat × AV := (16, .int .i64 (v.l.length : Int))
   let f1_5 : Nat × AV := (17, .int .i64 i)
   let M1_6 : AMem := (AMem.wth m [(b3, .cells [.int .i64 ((gI v.l i).kind), .int .i64 ((gI v.l i).n), .str ((gI v.l i).s), .slice false (((gI v.l i).l).map valIn), .slice false (((gI v.l i).f).map fldIn)]), (b2, .cells [.int .i64 0, .int .i64 0, .str ([]), .slice true [], .slice true []]), (b1, .cells [.int .i64 v.kind, .int .i64 v.n, .str v.s, .slice true ((ol ++ ([(gI v.l i)] : List Val)).map valIn), .slice true []])])
   let f1_7 : Nat × AV := (26, .slice true ((ol ++ ([(gI v.l i)] : List Val)).map valIn))
   let f1_8 : Nat × AV := (27, .ptr ⟨b1, 3, none⟩)
   let M1_9 : AMem := (AMem.wth m [(b3, .cells [.int .i64 ((gI v.l i).kind), .int .i64 ((gI v.l i).n), .str ((gI v.l i).s), .slice false (((gI v.l i).l).map valIn), .slice false (((gI v.l i).f).map fldIn)]), (b2, .cells [.int .i64 0, .int .i64 0, .str ([]), .slice true [], .slice true []]), (b1, .cells [.int .i64 v.kind, .int .i64 v.n, .str v.s, .slice false (ol.map valIn), .slice true []])])
   let f1_10 : Nat × AV := (22, .slice true (ol.map valIn))
   let f1_11 : Nat × AV := (25, .slice true [valTop (gI v.l i)])
   let f1_12 : Nat × AV := (24, valTop (gI v.l i))
   let f1_13 : Nat × AV := (21, .ptr ⟨b1, 3, none⟩)
   let M1_14 : AMem := (AMem.wth m [(b3, .cells [.int .i64 ((gI v.l i).kind), .int .i64 ((gI v.l i).n), .str ((gI v.l i).s), .slice false (((gI v.l i).l).map valIn), .slice false (((gI v.l i).f).map fldIn)]), (b2, .cells [.int .i64 0, .int .i64 0, .str ([]), .slice true [], .slice true []]), (b1, .cells [.int .i64 v.kind, .int .i64 v.n, .str v.s, .slice true (ol.map valIn), .slice true []])])
   let f1_15 : Nat × AV := (23, .agg [.int .i64 ((gI v.l i).kind), .int .i64 ((gI v.l i).n), .str ((gI v.l i).s), .slice false (((gI v.l i).l).map valIn), .slice false (((gI v.l i).f).map fldIn)])
   let f1_16 : Nat × AV := (6, .ptr ⟨b3, 0, none⟩)
   have s0 : ∀ (_ : True), A 0 #[true, true, true, true, true, true, true, true] KK1 [f1_0, f1_1, f1_2, f1_3, f1_4, f1_5] M1_6 := by
    intro _
    subst hA
    exact AAny.done (by decide +kernel) (key trivial)
   have s1 : ∀ (_ : True), A 1 #[true, true, true, true, true, true, true, false] KK1 [f1_0, f1_1, f1_2, f1_3, f1_4, f1_5, f1_7, f1_8] M1_9 := by
    intro _
    subst hA
    refine AAny.step [22] [7] (by decide +kernel) (by simp) (by decide) ⟨?_, trivial⟩
    ·
     show aopsR _ _ _ [_] _ _ _
     refine ar_storep rfl 2 (v := .slice true ((ol ++ ([(gI v.l i)] : List Val)).map valIn)) (l' := [.int .i64 v.kind, .int .i64 v.n, .str v.s, .slice true ((ol ++ ([(gI v.l i)] : List Val)).map valIn), .slice true []]) rfl rfl hNb3 rfl rfl rfl rfl rfl (Nat.le_of_ble_eq_true rfl) rfl ?_
     refine AAny.keep [1, 2, 4, 15, 16, 17] (by decide) ?_
     exact s0 trivial
   clear s0
   have s2 : ∀ (_ : True), A 3 #[true, true, true, true, true, false, false, false] KK1 [f1_0, f1_1, f1_2, f1_3, f1_4, f1_5, f1_10, f1_11] M1_9 := by
    intro _
    subst hA
    refine AAny.step [22] [5] (by decide +kernel) (by simp) (by decide) ⟨?_, trivial⟩
    ·
     show aopsR _ _ _ [_] _ _ _
     refine ar_append rfl valIn ol ([(gI v.l i)] : List Val) rfl rfl rfl rfl (by simp only [List.map_cons, List.map_nil, valIn_eq]; try rfl) rfl (Nat.le_of_ble_eq_true rfl) rfl (by (simp only [show Tryd.prog.bytesOf 34 = 80 from rfl, List.length_append, List.length_cons, List.length_nil]; omega)) (by (first | omega | (simp only [List.length_append, List.length_cons, List.length_nil]; omega))) (fun a => by rw [valIn_eq]; exact ⟨rfl, rfl⟩) ?_
     refine AAny.fField (i := 6) rfl rfl rfl (by decide) rfl (by decide +kernel) rfl rfl ⟨rfl, by decide⟩ ?_
     refine AAny.keep [1, 2, 4, 15, 16, 17, 26, 27] (by decide) ?_
     exact s1 trivial
   clear s1
   have s3 : ∀ (_ : True), A 4 #[true, true, true, true, false, false, false, false] KK1 [f1_0, f1_1, f1_2, f1_3, f1_4, f1_5, f1_10, f1_12] M1_9 := by
    intro _
    subst hA
    refine AAny.step [22] [4] (by decide +kernel) (by simp) (by decide) ⟨?_, trivial⟩
    ·
     show aopsR _ _ _ [_] _ _ _
     refine ⟨⟨rfl, Nat.le_of_ble_eq_true rfl, rfl, Nat.le_of_ble_eq_true rfl, rfl, by simp only [List.forall_mem_cons]; exact ⟨⟨rfl, rfl⟩, fun _ h => by cases h⟩⟩, ?_⟩
     refine AAny.keep [1, 2, 4, 15, 16, 17, 22, 25] (by decide) ?_
     exact s2 trivial
   have s4 : ∀ (_ : True), A 4 #[true, false, true, true, true, false, false, false] KK1 [f1_0, f1_1, f1_2, f1_3, f1_4, f1_5, f1_13, f1_11] M1_14 := by
    intro _
    subst hA
    refine AAny.step [22] [1] (by decide +kernel) (by simp) (by decide) ⟨?_, trivial⟩
    ·
     show aopsR _ _ _ [_] _ _ _
     refine ar_loads rfl (i := 2) rfl hNb3 rfl rfl rfl rfl (Nat.le_of_ble_eq_true rfl) ?_
     refine AAny.keep [1, 2, 4, 15, 16, 17, 22, 25] (by decide) ?_
     exact s2 trivial
   clear s2
   have s5 : ∀ (_ : True), A 5 #[true, true, true, false, false, false, false, false] KK1 [f1_0, f1_1, f1_2, f1_3, f1_4, f1_5, f1_10, f1_15] M1_9 := by
    intro _
    subst hA
    refine AAny.step [22] [3] (by decide +kernel) (by simp) (by decide) ⟨?_, trivial⟩
    ·
     show aopsR _ _ _ [_] _ _ _
     refine ih (gI v.l i) (by have := depV_eq v; first | (have := depL_mem (gI_mem (l := v.l) (i := i) hI.1 (by assumption)); omega) | (have := depF_mem (gI_mem (l := v.f) (i := k) hI2.1 (by assumption)); omega)) (by first | exact hok.2.1 _ (gI_mem (l := v.l) (i := i) hI.1 (by assumption)) | exact hok.2.2 _ (gI_mem (l := v.f) (i := k) hI2.1 (by assumption))) _ _ ?_
     refine AAny.keep [1, 2, 4, 15, 16, 17, 22, 24] (by decide) ?_
     exact s3 trivial
   have s6 : ∀ (_ : True), A 5 #[true, false, true, true, false, false, false, false] KK1 [f1_0, f1_1, f1_2, f1_3, f1_4, f1_5, f1_13, f1_12] M1_14 := by
    intro _
    subst hA
    refine AAny.step [22] [1, 4] (by decide +kernel) (by simp) (by decide) ⟨?_, ?_, trivial⟩
    ·
     show aopsR _ _ _ [_] _ _ _
     refine ar_loads rfl (i := 2) rfl hNb3 rfl rfl rfl rfl (Nat.le_of_ble_eq_true rfl) ?_
     refine AAny.keep [1, 2, 4, 15, 16, 17, 22, 24] (by decide) ?_
     exact s3 trivial
    ·
     show aopsR _ _ _ [_] _ _ _
     refine ⟨⟨rfl, Nat.le_of_ble_eq_true rfl, rfl, Nat.le_of_ble_eq_true rfl, rfl, by simp only [List.forall_mem_cons]; exact ⟨⟨rfl, rfl⟩, fun _ h => by cases h⟩⟩, ?_⟩
     refine AAny.keep [1, 2, 4, 15, 16, 17, 21, 25] (by decide) ?_
     exact s4 trivial
   clear s3 s4
   have s7 : ∀ (_ : True), A 6 #[true, true, false, false, false, false, false, false] KK1 [f1_0, f1_1, f1_2, f1_16, f1_3, f1_4, f1_5, f1_10] M1_9 := by
    intro _
    subst hA
    refine AAny.step [22] [2] (by decide +kernel) (by simp) (by decide) ⟨?_, trivial⟩
    ·
     show aopsR _ _ _ [_] _ _ _
     refine ar_loadp rfl (v := .agg [.int .i64 ((gI v.l i).kind), .int .i64 ((gI v.l i).n), .str ((gI v.l i).s), .slice false (((gI v.l i).l).map valIn), .slice false (((gI v.l i).f).map fldIn)]) rfl (wth_get 0 hNb3 rfl) rfl (apartOk_agg rfl rfl (Nat.le_of_ble_eq_true rfl)) rfl ?_
     refine AAny.keep [1, 2, 4, 15, 16, 17, 22, 23] (by decide) ?_
     exact s5 trivial
   have s8 : ∀ (_ : True), A 6 #[true, false, true, false, false, false, false, false] KK1 [f1_0, f1_1, f1_2, f1_3, f1_4, f1_5, f1_13, f1_15] M1_14 := by
    intro _
    subst hA
    refine AAny.step [22] [1, 3] (by decide +kernel) (by simp) (by decide) ⟨?_, ?_, trivial⟩
    ·
     show aopsR _ _ _ [_] _ _ _
     refine ar_loads rfl (i := 2) rfl hNb3 rfl rfl rfl rfl (Nat.le_of_ble_eq_true rfl) ?_
     refine AAny.keep [1, 2, 4, 15, 16, 17, 22, 23] (by decide) ?_
     exact s5 trivial
    ·
     show aopsR _ _ _ [_] _ _ _
     refine ih (gI v.l i) (by have := depV_eq v; first | (have := depL_mem (gI_mem (l := v.l) (i := i) hI.1 (by assumption)); omega) | (have := depF_mem (gI_mem (l := v.f) (i := k) hI2.1 (by assumption)); omega)) (by first | exact hok.2.1 _ (gI_mem (l := v.l) (i := i) hI.1 (by assumption)) | exact hok.2.2 _ (gI_mem (l := v.f) (i := k) hI2.1 (by assumption))) _ _ ?_
     refine AAny.keep [1, 2, 4, 15, 16, 17, 21, 24] (by decide) ?_
     exact s6 trivial
   clear s5 s6
   have s9 : ∀ (_ : True), A 7 #[true, false, false, false, false, false, false, false] KK1 [f1_0, f1_1, f1_2, f1_16, f1_3, f1_4, f1_5, f1_13] M1_14 := by
    intro _
    subst hA
    refine AAny.step [22] [1, 2] (by decide +kernel) (by simp) (by decide) ⟨?_, ?_, trivial⟩
    ·
     show aopsR _ _ _ [_] _ _ _
     refine ar_loads rfl (i := 2) rfl hNb3 rfl rfl rfl rfl (Nat.le_of_ble_eq_true rfl) ?_
     refine AAny.keep [1, 2, 4, 6, 15, 16, 17, 22] (by decide) ?_
     exact s7 trivial
    ·
     show aopsR _ _ _ [_] _ _ _
     refine ar_loadp rfl (v := .agg [.int .i64 ((gI v.l i).kind), .int .i64 ((gI v.l i).n), .str ((gI v.l i).s), .slice false (((gI v.l i).l).map valIn), .slice false (((gI v.l i).f).map fldIn)]) rfl (wth_get 0 hNb3 rfl) rfl (apartOk_agg rfl rfl (Nat.le_of_ble_eq_true rfl)) rfl ?_
     refine AAny.keep [1, 2, 4, 15, 16, 17, 21, 23] (by decide) ?_
     exact s8 trivial
   clear s7 s8
   subst hA
   refine AAny.fField (i := 0) rfl rfl rfl (by decide) rfl (by decide +kernel) rfl rfl ⟨rfl, by decide⟩ ?_
   refine AAny.keep [1, 2, 4, 6, 15, 16, 17, 21] (by decide) ?_
   exact s9 trivial
  intro _
  refine hK1 _ _ ?_; clear hK1 K1
  refine hK4 _ _ ?_; clear hK4
  have hNd1 : ([b2, b1] : List Nat).Nodup := drop_nodup (L := [(b3, .cells [.int .i64 ((gI v.l i).kind), .int .i64 ((gI v.l i).n), .str ((gI v.l i).s), .slice false (((gI v.l i).l).map valIn), .slice false (((gI v.l i).f).map fldIn)]), (b2, .cells [.int .i64 0, .int .i64 0, .str ([]), .slice true [], .slice true []]), (b1, .cells [.int .i64 v.kind, .int .i64 v.n, .str v.s, .slice true ((ol ++ ([(gI v.l i)] : List Val)).map valIn), .slice true []])]) hNb3 (pick_perm [0] _)
  refine awp_dropP [(b3, .cells [.int .i64 ((gI v.l i).kind), .int .i64 ((gI v.l i).n), .str ((gI v.l i).s), .slice false (((gI v.l i).l).map valIn), .slice false (((gI v.l i).f).map fldIn)])] [(b2, .cells [.int .i64 0, .int .i64 0, .str ([]), .slice true [], .slice true []]), (b1, .cells [.int .i64 v.kind, .int .i64 v.n, .str v.s, .slice true ((ol ++ ([(gI v.l i)] : List Val)).map valIn), .slice true []])] hNb3 (pick_perm [0] _) (by simp only [List.map_cons, List.map_nil, List.forall_mem_cons]; exact ⟨hFb3, fun _ h => by cases h⟩) ?_
  refine awp_reg2 [] [1, 2, 4, 15, 16, 17] (by decide) ?_
  intro K1 hK1
  refine ar_add rfl (a := i) (b := 1) rfl rfl (by omega) (by omega) ?_
  refine ⟨trivial, ?_⟩
  show K1 [(1, .ptr ⟨b1, 0, none⟩), (2, .ptr ⟨b2, 0, none⟩), (4, .slice false (v.f.map fldIn)), (15, .slice false (v.l.map valIn)), (16, .int .i64 (v.l.length : Int)), (17, .int .i64 (i + 1))] (AMem.wth m [(b2, .cells [.int .i64 0, .int .i64 0, .str ([]), .slice true [], .slice true []]), (b1, .cells [.int .i64 v.kind, .int .i64 v.n, .str v.s, .slice true ((ol ++ ([(gI v.l i)] : List Val)).map valIn), .slice true []])])
  refine hK1 _ _ ?_; clear hK1 K1
  refine ⟨(i + 1, ol ++ ([(gI v.l i)] : List Val)), rfl, rfl, ?_, ?_⟩
  ·
   show 0 ≤ ((i + 1 : Int)) ∧ ((i + 1 : Int)) ≤ v.l.length ∧ ((ol ++ ([(gI v.l i)] : List Val) : (List Val))) = v.l.take ((i + 1 : Int)).toNat
   exact ⟨by omega, by omega, by rw [take_succ_gI hI.1 (by assumption), ← hI.2.2]⟩
  ·
   show v.l.length - ((i + 1 : Int)).toNat < v.l.length - i.toNat
   omega
 replace h1 : (v.l.length : Int) ≤ i := (Int.not_lt.1 (of_decide_eq_false h1))
 refine awp_exit ?_
 refine hK2 _ _ ?_; clear hK2
 refine awp_seq_k ?_; intro K5 hK5
 refine awp_reg2_seq [] [1, 2, 29, 30, 31] (by decide) ?_
 intro K1 hK1
 refine ⟨trivial, ?_⟩
 refine ar_len rfl fldIn v.f rfl rfl rfl ?_
 refine ⟨trivial, ?_⟩
 show K1 [(1, .ptr ⟨b1, 0, none⟩), (2, .ptr ⟨b2, 0, none⟩), (29, .slice false (v.f.map fldIn)), (30, .int .i64 (v.f.length : Int)), (31, .int .i64 0)] (AMem.wth m [(b2, .cells [.int .i64 0, .int .i64 0, .str ([]), .slice true [], .slice true []]), (b1, .cells [.int .i64 v.kind, .int .i64 v.n, .str v.s, .slice true (ol.map valIn), .slice true []])])
 refine hK1 _ _ ?_; clear hK1 K1
 refine awp_block ?_
 refine awp_keep [1, 2, 29, 30, 31] (by decide) ?_
 refine awp_loop_st (σ := Int × (List (Str × Val))) (fun ⟨k, of⟩ => [(1, .ptr ⟨b1, 0, none⟩), (2, .ptr ⟨b2, 0, none⟩), (29, .slice false (v.f.map fldIn)), (30, .int .i64 (v.f.length : Int)), (31, .int .i64 k)]) (fun ⟨k, of⟩ => (AMem.wth m [(b2, .cells [.int .i64 0, .int .i64 0, .str ([]), .slice true [], .slice true []]), (b1, .cells [.int .i64 v.kind, .int .i64 v.n, .str v.s, .slice true (ol.map valIn), .slice true (of.map fldIn)])])) (fun ⟨k, of⟩ => 0 ≤ k ∧ k ≤ v.f.length ∧ of = v.f.take k.toNat) (fun ⟨k, of⟩ => v.f.length - k.toNat) (0, []) rfl rfl ?_ ?_
 ·
  show 0 ≤ ((0 : Int)) ∧ ((0 : Int)) ≤ v.f.length ∧ (([] : (List (Str × Val)))) = v.f.take ((0 : Int)).toNat
  exact ⟨by omega, by omega, rfl⟩
 rintro ⟨k, of⟩ hI2
 replace hI2 : 0 ≤ k ∧ k ≤ v.f.length ∧ of = v.f.take k.toNat := hI2
 have hof : of.length ≤ v.f.length := by rw [hI2.2.2, List.length_take]; omega
 have hof2 : (of.length : Int) ≤ k := by rw [hI2.2.2, List.length_take]; omega
 show AWP _ _ _ _ [(1, .ptr ⟨b1, 0, none⟩), (2, .ptr ⟨b2, 0, none⟩), (29, .slice false (v.f.map fldIn)), (30, .int .i64 (v.f.length : Int)), (31, .int .i64 k)] (AMem.wth m [(b2, .cells [.int .i64 0, .int .i64 0, .str ([]), .slice true [], .slice true []]), (b1, .cells [.int .i64 v.kind, .int .i64 v.n, .str v.s, .slice true (ol.map valIn), .slice true (of.map fldIn)])])
 refine awp_reg2_seq [] [1, 2, 29, 30, 31, 32] (by decide) ?_
 intro K1 hK1
 refine ⟨trivial, ?_⟩
 show K1 [(1, .ptr ⟨b1, 0, none⟩), (2, .ptr ⟨b2, 0, none⟩), (29, .slice false (v.f.map fldIn)), (30, .int .i64 (v.f.length : Int)), (31, .int .i64 k), (32, .bool (decide (k < (v.f.length : Int))))] _
 refine hK1 _ _ ?_; clear hK1 K1
 refine awp_seq_k ?_; intro K6 hK6
 refine awp_cond rfl rfl (fun h2 => ?_) (fun h2 => ?_)
 ·
  replace h2 : k < (v.f.length : Int) := (of_decide_eq_true h2)
  refine awp_skip ?_
  refine hK6 _ _ ?_; clear hK6
  refine awp_seq_k ?_; intro K7 hK7
  refine awp_block ?_
  refine awp_reg2_seq [] [1, 2, 8, 29, 30, 31] (by decide) ?_
  intro K1 hK1
  refine ar_index rfl fldTop v.f k rfl rfl (fldMap v.f) rfl rfl (by decide) (fun _ => rfl) (by omega) (by omega) ?_
  refine ⟨(apartOk_agg rfl rfl (Nat.le_of_ble_eq_true rfl)), ?_⟩
  refine ar_alloc rfl (z := .agg [.str ([]), .int .i64 0, .int .i64 0, .str ([]), .slice true [], .slice true []]) rfl rfl ?_
  intro b4 hb4
  have hFb4 : m b4 = none := wth_none hb4
  have hNb4 : ([b4, b2, b1] : List Nat).Nodup := wth_nodup hb4 hNb2
  refine ar_storep rfl 0 (v := fldTop (gI v.f k)) (l' := [.str ((gI v.f k).1), .int .i64 (((gI v.f k).2).kind), .int .i64 (((gI v.f k).2).n), .str (((gI v.f k).2).s), .slice false ((((gI v.f k).2).l).map valIn), .slice false ((((gI v.f k).2).f).map fldIn)]) rfl (by rfl) hNb4 rfl rfl rfl rfl rfl (Nat.le_of_ble_eq_true rfl) rfl ?_
  show K1 [(1, .ptr ⟨b1, 0, none⟩), (2, .ptr ⟨b2, 0, none⟩), (8, .ptr ⟨b4, 0, none⟩), (29, .slice false (v.f.map fldIn)), (30, .int .i64 (v.f.length : Int)), (31, .int .i64 k)] (AMem.wth m [(b4, .cells [.str ((gI v.f k).1), .int .i64 (((gI v.f k).2).kind), .int .i64 (((gI v.f k).2).n), .str (((gI v.f k).2).s), .slice false ((((gI v.f k).2).l).map valIn), .slice false ((((gI v.f k).2).f).map fldIn)]), (b2, .cells [.int .i64 0, .int .i64 0, .str ([]), .slice true [], .slice true []]), (b1, .cells [.int .i64 v.kind, .int .i64 v.n, .str v.s, .slice true (ol.map valIn), .slice true (of.map fldIn)])])
  refine hK1 _ _ ?_; clear hK1 K1
  refine awp_anyA Tryd.mixed [1, 2, 29, 30, 31] (by decide) ?_
  intro K1 hK1
  intro A hA
  suffices key : ∀ (_ : True), K1 [(1, .ptr ⟨b1, 0, none⟩), (2, .ptr ⟨b2, 0, none⟩), (29, .slice false (v.f.map fldIn)), (30, .int .i64 (v.f.length : Int)), (31, .int .i64 k)] (AMem.wth m [(b4, .cells [.str ((gI v.f k).1), .int .i64 (((gI v.f k).2).kind), .int .i64 (((gI v.f k).2).n), .str (((gI v.f k).2).s), .slice false ((((gI v.f k).2).l).map valIn), .slice false ((((gI v.f k).2).f).map fldIn)]), (b2, .cells [.int .i64 0, .int .i64 0, .str ([]), .slice true [], .slice true []]), (b1, .cells [.int .i64 v.kind, .int .i64 v.n, .str v.s, .slice true (ol.map valIn), .slice true ((of ++ ([(gI v.f k)] : List (Str × Val))).map fldIn)])]) by
   let KK2 : Fr → AMem → Prop := (fun fr m => K1 (fr.keep [1, 2, 29, 30, 31]) m)
   let f2_0 : Nat × AV := (1, .ptr ⟨b1, 0, none⟩)
   let f2_1 : Nat × AV := (2, .ptr ⟨b2, 0, none⟩)
   let f2_2 : Nat × AV := (29, .slice false (v.f.map fldIn))
   let f2_3 : Nat × AV := (30, .int .i64 (v.f.length : Int))
   let f2_4 : Nat × AV := (31, .int .i64 k)
   let M2_5 : AMem := (AMem.wth m [(b4, .cells [.str ((gI v.f k).1), .int .i64 (((gI v.f k).2).kind), .int .i64 (((gI v.f k).2).n), .str (((gI v.f k).2).s), .slice false ((((gI v.f k).2).l).map valIn), .slice false ((((gI v.f k).2).f).map fldIn)]), (b2, .cells [.int .i64 0, .int .i64 0, .str ([]), .slice true [], .slice true []]), (b1, .cells [.int .i64 v.kind, .int .i64 v.n, .str v.s, .slice true (ol.map valIn), .slice true ((of ++ ([(gI v.f k)] : List (Str × Val))).map fldIn)])])
   let f2_6 : Nat × AV := (44, .slice true ((of ++ ([(gI v.f k)] : List (Str × Val))).map fldIn))
   let f2_7 : Nat × AV := (45, .ptr ⟨b1, 4, none⟩)
   let M2_8 : AMem := (AMem.wth m [(b4, .cells [.str ((gI v.f k).1), .int .i64 (((gI v.f k).2).kind), .int .i64 (((gI v.f k).2).n), .str (((gI v.f k).2).s), .slice false ((((gI v.f k).2).l).map valIn), .slice false ((((gI v.f k).2).f).map fldIn)]), (b2, .cells [.int .i64 0, .int .i64 0, .str ([]), .slice true [], .slice true []]), (b1, .cells [.int .i64 v.kind, .int .i64 v.n, .str v.s, .slice true (ol.map valIn), .slice false (of.map fldIn)])])
   let f2_9 : Nat × AV := (36, .slice true (of.map fldIn))
   let f2_10 : Nat × AV := (43, .slice true [.agg [.str ((gI v.f k).1), .int .i64 (((gI v.f k).2).kind), .int .i64 (((gI v.f k).2).n), .str (((gI v.f k).2).s), .slice false ((((gI v.f k).2).l).map valIn), .slice false ((((gI v.f k).2).f).map fldIn)]])
   let f2_11 : Nat × AV := (42, .agg [.str ((gI v.f k).1), .int .i64 (((gI v.f k).2).kind), .int .i64 (((gI v.f k).2).n), .str (((gI v.f k).2).s), .slice false ((((gI v.f k).2).l).map valIn), .slice false ((((gI v.f k).2).f).map fldIn)])
   let f2_12 : Nat × AV := (35, .ptr ⟨b1, 4, none⟩)
   let M2_13 : AMem := (AMem.wth m [(b4, .cells [.str ((gI v.f k).1), .int .i64 (((gI v.f k).2).kind), .int .i64 (((gI v.f k).2).n), .str (((gI v.f k).2).s), .slice false ((((gI v.f k).2).l).map valIn), .slice false ((((gI v.f k).2).f).map fldIn)]), (b2, .cells [.int .i64 0, .int .i64 0, .str ([]), .slice true [], .slice true []]), (b1, .cells [.int .i64 v.kind, .int .i64 v.n, .str v.s, .slice true (ol.map valIn), .slice true (of.map fldIn)])])
   let f2_14 : Nat × AV := (38, .str ((gI v.f k).1))
   let f2_15 : Nat × AV := (41, valTop ((gI v.f k).2))
   let f2_16 : Nat × AV := (40, .agg [.int .i64 (((gI v.f k).2).kind), .int .i64 (((gI v.f k).2).n), .str (((gI v.f k).2).s), .slice false ((((gI v.f k).2).l).map valIn), .slice false ((((gI v.f k).2).f).map fldIn)])
   let f2_17 : Nat × AV := (37, .ptr ⟨b4, 0, none⟩)
   let f2_18 : Nat × AV := (39, .ptr ⟨b4, 1, none⟩)
   have s0 : ∀ (_ : True), A 0 #[true, true, true, true, true, true, true, true, true, true, true, true] KK2 [f2_0, f2_1, f2_2, f2_3, f2_4] M2_5 := by
    intro _
    subst hA
    exact AAny.done (by decide +kernel) (key trivial)
   have s1 : ∀ (_ : True), A 1 #[true, true, true, true, true, true, true, true, true, true, true, false] KK2 [f2_0, f2_1, f2_2, f2_3, f2_4, f2_6, f2_7] M2_8 := by
    intro _
    subst hA
    refine AAny.step [36] [11] (by decide +kernel) (by simp) (by decide) ⟨?_, trivial⟩
    ·
     show aopsR _ _ _ [_] _ _ _
     refine ar_storep rfl 2 (v := .slice true ((of ++ ([(gI v.f k)] : List (Str × Val))).map fldIn)) (l' := [.int .i64 v.kind, .int .i64 v.n, .str v.s, .slice true (ol.map valIn), .slice true ((of ++ ([(gI v.f k)] : List (Str × Val))).map fldIn)]) rfl rfl hNb4 rfl rfl rfl rfl rfl (Nat.le_of_ble_eq_true rfl) rfl ?_
     refine AAny.keep [1, 2, 29, 30, 31] (by decide) ?_
     exact s0 trivial
   clear s0
   have s2 : ∀ (_ : True), A 3 #[true, true, true, true, true, true, true, true, true, false, false, false] KK2 [f2_0, f2_1, f2_2, f2_3, f2_4, f2_9, f2_10] M2_8 := by
    intro _
    subst hA
    refine AAny.step [36] [9] (by decide +kernel) (by simp) (by decide) ⟨?_, trivial⟩
    ·
     show aopsR _ _ _ [_] _ _ _
     refine ar_append rfl fldIn of ([(gI v.f k)] : List (Str × Val)) rfl rfl rfl rfl (by simp only [List.map_cons, List.map_nil, fldIn_eq]; try rfl) rfl (Nat.le_of_ble_eq_true rfl) rfl (by (simp only [show Tryd.prog.bytesOf 37 = 96 from rfl, List.length_append, List.length_cons, List.length_nil]; omega)) (by (first | omega | (simp only [List.length_append, List.length_cons, List.length_nil]; omega))) (fun a => by rw [fldIn_eq]; exact ⟨rfl, rfl⟩) ?_
     refine AAny.fField (i := 10) rfl rfl rfl (by decide) rfl (by decide +kernel) rfl rfl ⟨rfl, by decide⟩ ?_
     refine AAny.keep [1, 2, 29, 30, 31, 44, 45] (by decide) ?_
     exact s1 trivial
   clear s1
   have s3 : ∀ (_ : True), A 4 #[true, true, true, true, true, true, true, true, false, false, false, false] KK2 [f2_0, f2_1, f2_2, f2_3, f2_4, f2_9, f2_11] M2_8 := by
    intro _
    subst hA
    refine AAny.step [36] [8] (by decide +kernel) (by simp) (by decide) ⟨?_, trivial⟩
    ·
     show aopsR _ _ _ [_] _ _ _
     refine ⟨⟨rfl, Nat.le_of_ble_eq_true rfl, rfl, Nat.le_of_ble_eq_true rfl, rfl, by simp only [List.forall_mem_cons]; exact ⟨⟨rfl, rfl⟩, fun _ h => by cases h⟩⟩, ?_⟩
     refine AAny.keep [1, 2, 29, 30, 31, 36, 43] (by decide) ?_
     exact s2 trivial
   have s4 : ∀ (_ : True), A 4 #[true, false, true, true, true, true, true, true, true, false, false, false] KK2 [f2_0, f2_1, f2_2, f2_3, f2_4, f2_12, f2_10] M2_13 := by
    intro _
    subst hA
    refine AAny.step [36] [1] (by decide +kernel) (by simp) (by decide) ⟨?_, trivial⟩
    ·
     show aopsR _ _ _ [_] _ _ _
     refine ar_loads rfl (i := 2) rfl hNb4 rfl rfl rfl rfl (Nat.le_of_ble_eq_true rfl) ?_
     refine AAny.keep [1, 2, 29, 30, 31, 36, 43] (by decide) ?_
     exact s2 trivial
   clear s2
   have s5 : ∀ (_ : True), A 5 #[true, true, true, true, true, true, true, false, false, false, false, false] KK2 [f2_0, f2_1, f2_2, f2_3, f2_4, f2_9, f2_14, f2_15] M2_8 := by
    intro _
    subst hA
    refine AAny.step [36] [7] (by decide +kernel) (by simp) (by decide) ⟨?_, trivial⟩
    ·
     show aopsR _ _ _ [_] _ _ _
     refine ⟨⟨rfl, by simp only [List.forall_mem_cons]; exact ⟨rfl, rfl, fun _ h => by cases h⟩, by simp only [List.forall_mem_cons]; exact ⟨rfl, rfl, fun _ h => by cases h⟩⟩, ?_⟩
     refine AAny.keep [1, 2, 29, 30, 31, 36, 42] (by decide) ?_
     exact s3 trivial
   have s6 : ∀ (_ : True), A 5 #[true, false, true, true, true, true, true, true, false, false, false, false] KK2 [f2_0, f2_1, f2_2, f2_3, f2_4, f2_12, f2_11] M2_13 := by
    intro _
    subst hA
    refine AAny.step [36] [1, 8] (by decide +kernel) (by simp) (by decide) ⟨?_, ?_, trivial⟩
    ·
     show aopsR _ _ _ [_] _ _ _
     refine ar_loads rfl (i := 2) rfl hNb4 rfl rfl rfl rfl (Nat.le_of_ble_eq_true rfl) ?_
     refine AAny.keep [1, 2, 29, 30, 31, 36, 42] (by decide) ?_
     exact s3 trivial
    ·
     show aopsR _ _ _ [_] _ _ _
     refine ⟨⟨rfl, Nat.le_of_ble_eq_true rfl, rfl, Nat.le_of_ble_eq_true rfl, rfl, by simp only [List.forall_mem_cons]; exact ⟨⟨rfl, rfl⟩, fun _ h => by cases h⟩⟩, ?_⟩
     refine AAny.keep [1, 2, 29, 30, 31, 35, 43] (by decide) ?_
     exact s4 trivial
   clear s3 s4
   have s7 : ∀ (_ : True), A 6 #[true, true, true, true, true, true, false, false, false, false, false, false] KK2 [f2_0, f2_1, f2_2, f2_3, f2_4, f2_9, f2_14, f2_16] M2_8 := by
    intro _
    subst hA
    refine AAny.step [36] [6] (by decide +kernel) (by simp) (by decide) ⟨?_, trivial⟩
    ·
     show aopsR _ _ _ [_] _ _ _
     refine ih ((gI v.f k).2) (by have := depV_eq v; first | (have := depL_mem (gI_mem (l := v.l) (i := i) hI.1 (by assumption)); omega) | (have := depF_mem (gI_mem (l := v.f) (i := k) hI2.1 (by assumption)); omega)) (by first | exact hok.2.1 _ (gI_mem (l := v.l) (i := i) hI.1 (by assumption)) | exact hok.2.2 _ (gI_mem (l := v.f) (i := k) hI2.1 (by assumption))) _ _ ?_
     refine AAny.keep [1, 2, 29, 30, 31, 36, 38, 41] (by decide) ?_
     exact s5 trivial
   have s8 : ∀ (_ : True), A 6 #[true, true, true, false, true, true, true, false, false, false, false, false] KK2 [f2_0, f2_1, f2_2, f2_3, f2_4, f2_9, f2_17, f2_15] M2_8 := by
    intro _
    subst hA
    refine AAny.step [36] [3] (by decide +kernel) (by simp) (by decide) ⟨?_, trivial⟩
    ·
     show aopsR _ _ _ [_] _ _ _
     refine ar_loadp rfl (v := .str ((gI v.f k).1)) rfl (wth_get 0 hNb4 rfl) rfl (apartOk_one rfl rfl (Nat.le_of_ble_eq_true rfl)) rfl ?_
     refine AAny.keep [1, 2, 29, 30, 31, 36, 38, 41] (by decide) ?_
     exact s5 trivial
   have s9 : ∀ (_ : True), A 6 #[true, false, true, true, true, true, true, false, false, false, false, false] KK2 [f2_0, f2_1, f2_2, f2_3, f2_4, f2_12, f2_14, f2_15] M2_13 := by
    intro _
    subst hA
    refine AAny.step [36] [1, 7] (by decide +kernel) (by simp) (by decide) ⟨?_, ?_, trivial⟩
    ·
     show aopsR _ _ _ [_] _ _ _
     refine ar_loads rfl (i := 2) rfl hNb4 rfl rfl rfl rfl (Nat.le_of_ble_eq_true rfl) ?_
     refine AAny.keep [1, 2, 29, 30, 31, 36, 38, 41] (by decide) ?_
     exact s5 trivial
    ·
     show aopsR _ _ _ [_] _ _ _
     refine ⟨⟨rfl, by simp only [List.forall_mem_cons]; exact ⟨rfl, rfl, fun _ h => by cases h⟩, by simp only [List.forall_mem_cons]; exact ⟨rfl, rfl, fun _ h => by cases h⟩⟩, ?_⟩
     refine AAny.keep [1, 2, 29, 30, 31, 35, 42] (by decide) ?_
     exact s6 trivial
   clear s5 s6
   have s10 : ∀ (_ : True), A 7 #[true, true, true, true, true, false, false, false, false, false, false, false] KK2 [f2_0, f2_1, f2_2, f2_3, f2_4, f2_9, f2_14, f2_18] M2_8 := by
    intro _
    subst hA
    refine AAny.step [36] [5] (by decide +kernel) (by simp) (by decide) ⟨?_, trivial⟩
    ·
     show aopsR _ _ _ [_] _ _ _
     refine ar_loadp rfl (v := .agg [.int .i64 (((gI v.f k).2).kind), .int .i64 (((gI v.f k).2).n), .str (((gI v.f k).2).s), .slice false ((((gI v.f k).2).l).map valIn), .slice false ((((gI v.f k).2).f).map fldIn)]) rfl (wth_get 0 hNb4 rfl) rfl (apartOk_agg rfl rfl (Nat.le_of_ble_eq_true rfl)) rfl ?_
     refine AAny.keep [1, 2, 29, 30, 31, 36, 38, 40] (by decide) ?_
     exact s7 trivial
   have s11 : ∀ (_ : True), A 7 #[true, true, true, false, true, true, false, false, false, false, false, false] KK2 [f2_0, f2_1, f2_2, f2_3, f2_4, f2_9, f2_17, f2_16] M2_8 := by
    intro _
    subst hA
    refine AAny.step [36] [3, 6] (by decide +kernel) (by simp) (by decide) ⟨?_, ?_, trivial⟩
    ·
     show aopsR _ _ _ [_] _ _ _
     refine ar_loadp rfl (v := .str ((gI v.f k).1)) rfl (wth_get 0 hNb4 rfl) rfl (apartOk_one rfl rfl (Nat.le_of_ble_eq_true rfl)) rfl ?_
     refine AAny.keep [1, 2, 29, 30, 31, 36, 38, 40] (by decide) ?_
     exact s7 trivial
    ·
     show aopsR _ _ _ [_] _ _ _
     refine ih ((gI v.f k).2) (by have := depV_eq v; first | (have := depL_mem (gI_mem (l := v.l) (i := i) hI.1 (by assumption)); omega) | (have := depF_mem (gI_mem (l := v.f) (i := k) hI2.1 (by assumption)); omega)) (by first | exact hok.2.1 _ (gI_mem (l := v.l) (i := i) hI.1 (by assumption)) | exact hok.2.2 _ (gI_mem (l := v.f) (i := k) hI2.1 (by assumption))) _ _ ?_
     refine AAny.keep [1, 2, 29, 30, 31, 36, 37, 41] (by decide) ?_
     exact s8 trivial
   have s12 : ∀ (_ : True), A 7 #[true, false, true, true, true, true, false, false, false, false, false, false] KK2 [f2_0, f2_1, f2_2, f2_3, f2_4, f2_12, f2_14, f2_16] M2_13 := by
    intro _
    subst hA
    refine AAny.step [36] [1, 6] (by decide +kernel) (by simp) (by decide) ⟨?_, ?_, trivial⟩
    ·
     show aopsR _ _ _ [_] _ _ _
     refine ar_loads rfl (i := 2) rfl hNb4 rfl rfl rfl rfl (Nat.le_of_ble_eq_true rfl) ?_
     refine AAny.keep [1, 2, 29, 30, 31, 36, 38, 40] (by decide) ?_
     exact s7 trivial
    ·
     show aopsR _ _ _ [_] _ _ _
     refine ih ((gI v.f k).2) (by have := depV_eq v; first | (have := depL_mem (gI_mem (l := v.l) (i := i) hI.1 (by assumption)); omega) | (have := depF_mem (gI_mem (l := v.f) (i := k) hI2.1 (by assumption)); omega)) (by first | exact hok.2.1 _ (gI_mem (l := v.l) (i := i) hI.1 (by assumption)) | exact hok.2.2 _ (gI_mem (l := v.f) (i := k) hI2.1 (by assumption))) _ _ ?_
     refine AAny.keep [1, 2, 29, 30, 31, 35, 38, 41] (by decide) ?_
     exact s9 trivial
   clear s7
   have s13 : ∀ (_ : True), A 7 #[true, false, true, false, true, true, true, false, false, false, false, false] KK2 [f2_0, f2_1, f2_2, f2_3, f2_4, f2_12, f2_17, f2_15] M2_13 := by
    intro _
    subst hA
    refine AAny.step [36] [1, 3] (by decide +kernel) (by simp) (by decide) ⟨?_, ?_, trivial⟩
    ·
     show aopsR _ _ _ [_] _ _ _
     refine ar_loads rfl (i := 2) rfl hNb4 rfl rfl rfl rfl (Nat.le_of_ble_eq_true rfl) ?_
     refine AAny.keep [1, 2, 29, 30, 31, 36, 37, 41] (by decide) ?_
     exact s8 trivial
    ·
     show aopsR _ _ _ [_] _ _ _
     refine ar_loadp rfl (v := .str ((gI v.f k).1)) rfl (wth_get 0 hNb4 rfl) rfl (apartOk_one rfl rfl (Nat.le_of_ble_eq_true rfl)) rfl ?_
     refine AAny.keep [1, 2, 29, 30, 31, 35, 38, 41] (by decide) ?_
     exact s9 trivial
   clear s8 s9
   have s14 : ∀ (_ : True), A 8 #[true, true, true, false, true, false, false, false, false, false, false, false] KK2 [f2_0, f2_1, f2_2, f2_3, f2_4, f2_9, f2_17, f2_18] M2_8 := by
    intro _
    subst hA
    refine AAny.step [36] [3, 5] (by decide +kernel) (by simp) (by decide) ⟨?_, ?_, trivial⟩
    ·
     show aopsR _ _ _ [_] _ _ _
     refine ar_loadp rfl (v := .str ((gI v.f k).1)) rfl (wth_get 0 hNb4 rfl) rfl (apartOk_one rfl rfl (Nat.le_of_ble_eq_true rfl)) rfl ?_
     refine AAny.keep [1, 2, 29, 30, 31, 36, 38, 39] (by decide) ?_
     exact s10 trivial
    ·
     show aopsR _ _ _ [_] _ _ _
     refine ar_loadp rfl (v := .agg [.int .i64 (((gI v.f k).2).kind), .int .i64 (((gI v.f k).2).n), .str (((gI v.f k).2).s), .slice false ((((gI v.f k).2).l).map valIn), .slice false ((((gI v.f k).2).f).map fldIn)]) rfl (wth_get 0 hNb4 rfl) rfl (apartOk_agg rfl rfl (Nat.le_of_ble_eq_true rfl)) rfl ?_
     refine AAny.keep [1, 2, 29, 30, 31, 36, 37, 40] (by decide) ?_
     exact s11 trivial
   have s15 : ∀ (_ : True), A 8 #[true, false, true, true, true, false, false, false, false, false, false, false] KK2 [f2_0, f2_1, f2_2, f2_3, f2_4, f2_12, f2_14, f2_18] M2_13 := by
    intro _
    subst hA
    refine AAny.step [36] [1, 5] (by decide +kernel) (by simp) (by decide) ⟨?_, ?_, trivial⟩
    ·
     show aopsR _ _ _ [_] _ _ _
     refine ar_loads rfl (i := 2) rfl hNb4 rfl rfl rfl rfl (Nat.le_of_ble_eq_true rfl) ?_
     refine AAny.keep [1, 2, 29, 30, 31, 36, 38, 39] (by decide) ?_
     exact s10 trivial
    ·
     show aopsR _ _ _ [_] _ _ _
     refine ar_loadp rfl (v := .agg [.int .i64 (((gI v.f k).2).kind), .int .i64 (((gI v.f k).2).n), .str (((gI v.f k).2).s), .slice false ((((gI v.f k).2).l).map valIn), .slice false ((((gI v.f k).2).f).map fldIn)]) rfl (wth_get 0 hNb4 rfl) rfl (apartOk_agg rfl rfl (Nat.le_of_ble_eq_true rfl)) rfl ?_
     refine AAny.keep [1, 2, 29, 30, 31, 35, 38, 40] (by decide) ?_
     exact s12 trivial
   clear s10
   have s16 : ∀ (_ : True), A 8 #[true, false, true, false, true, true, false, false, false, false, false, false] KK2 [f2_0, f2_1, f2_2, f2_3, f2_4, f2_12, f2_17, f2_16] M2_13 := by
    intro _
    subst hA
    refine AAny.step [36] [1, 3, 6] (by decide +kernel) (by simp) (by decide) ⟨?_, ?_, ?_, trivial⟩
    ·
     show aopsR _ _ _ [_] _ _ _
     refine ar_loads rfl (i := 2) rfl hNb4 rfl rfl rfl rfl (Nat.le_of_ble_eq_true rfl) ?_
     refine AAny.keep [1, 2, 29, 30, 31, 36, 37, 40] (by decide) ?_
     exact s11 trivial
    ·
     show aopsR _ _ _ [_] _ _ _
     refine ar_loadp rfl (v := .str ((gI v.f k).1)) rfl (wth_get 0 hNb4 rfl) rfl (apartOk_one rfl rfl (Nat.le_of_ble_eq_true rfl)) rfl ?_
     refine AAny.keep [1, 2, 29, 30, 31, 35, 38, 40] (by decide) ?_
     exact s12 trivial
    ·
     show aopsR _ _ _ [_] _ _ _
     refine ih ((gI v.f k).2) (by have := depV_eq v; first | (have := depL_mem (gI_mem (l := v.l) (i := i) hI.1 (by assumption)); omega) | (have := depF_mem (gI_mem (l := v.f) (i := k) hI2.1 (by assumption)); omega)) (by first | exact hok.2.1 _ (gI_mem (l := v.l) (i := i) hI.1 (by assumption)) | exact hok.2.2 _ (gI_mem (l := v.f) (i := k) hI2.1 (by assumption))) _ _ ?_
     refine AAny.keep [1, 2, 29, 30, 31, 35, 37, 41] (by decide) ?_
     exact s13 trivial
   clear s11 s12 s13
   have s17 : ∀ (_ : True), A 9 #[true, false, true, false, true, false, false, false, false, false, false, false] KK2 [f2_0, f2_1, f2_2, f2_3, f2_4, f2_12, f2_17, f2_18] M2_13 := by
    intro _
    subst hA
    refine AAny.step [36] [1, 3, 5] (by decide +kernel) (by simp) (by decide) ⟨?_, ?_, ?_, trivial⟩
    ·
     show aopsR _ _ _ [_] _ _ _
     refine ar_loads rfl (i := 2) rfl hNb4 rfl rfl rfl rfl (Nat.le_of_ble_eq_true rfl) ?_
     refine AAny.keep [1, 2, 29, 30, 31, 36, 37, 39] (by decide) ?_
     exact s14 trivial
    ·
     show aopsR _ _ _ [_] _ _ _
     refine ar_loadp rfl (v := .str ((gI v.f k).1)) rfl (wth_get 0 hNb4 rfl) rfl (apartOk_one rfl rfl (Nat.le_of_ble_eq_true rfl)) rfl ?_
     refine AAny.keep [1, 2, 29, 30, 31, 35, 38, 39] (by decide) ?_
     exact s15 trivial
    ·
     show aopsR _ _ _ [_] _ _ _
     refine ar_loadp rfl (v := .agg [.int .i64 (((gI v.f k).2).kind), .int .i64 (((gI v.f k).2).n), .str (((gI v.f k).2).s), .slice false ((((gI v.f k).2).l).map valIn), .slice false ((((gI v.f k).2).f).map fldIn)]) rfl (wth_get 0 hNb4 rfl) rfl (apartOk_agg rfl rfl (Nat.le_of_ble_eq_true rfl)) rfl ?_
     refine AAny.keep [1, 2, 29, 30, 31, 35, 37, 40] (by decide) ?_
     exact s16 trivial
   clear s14 s15 s16
   subst hA
   refine AAny.fField (i := 0) rfl rfl rfl (by decide) rfl (by decide +kernel) rfl rfl ⟨rfl, by decide⟩ ?_
   refine AAny.fField (i := 2) rfl rfl rfl (by decide) rfl (by decide +kernel) rfl rfl ⟨rfl, by decide⟩ ?_
   refine AAny.fField (i := 4) rfl rfl rfl (by decide) rfl (by decide +kernel) rfl rfl ⟨rfl, by decide⟩ ?_
   refine AAny.keep [1, 2, 29, 30, 31, 35, 37, 39] (by decide) ?_
   exact s17 trivial
  intro _
  refine hK1 _ _ ?_; clear hK1 K1
  refine hK7 _ _ ?_; clear hK7
  have hNd2 : ([b2, b1] : List Nat).Nodup := drop_nodup (L := [(b4, .cells [.str ((gI v.f k).1), .int .i64 (((gI v.f k).2).kind), .int .i64 (((gI v.f k).2).n), .str (((gI v.f k).2).s), .slice false ((((gI v.f k).2).l).map valIn), .slice false ((((gI v.f k).2).f).map fldIn)]), (b2, .cells [.int .i64 0, .int .i64 0, .str ([]), .slice true [], .slice true []]), (b1, .cells [.int .i64 v.kind, .int .i64 v.n, .str v.s, .slice true (ol.map valIn), .slice true ((of ++ ([(gI v.f k)] : List (Str × Val))).map fldIn)])]) hNb4 (pick_perm [0] _)
  refine awp_dropP [(b4, .cells [.str ((gI v.f k).1), .int .i64 (((gI v.f k).2).kind), .int .i64 (((gI v.f k).2).n), .str (((gI v.f k).2).s), .slice false ((((gI v.f k).2).l).map valIn), .slice false ((((gI v.f k).2).f).map fldIn)])] [(b2, .cells [.int .i64 0, .int .i64 0, .str ([]), .slice true [], .slice true []]), (b1, .cells [.int .i64 v.kind, .int .i64 v.n, .str v.s, .slice true (ol.map valIn), .slice true ((of ++ ([(gI v.f k)] : List (Str × Val))).map fldIn)])] hNb4 (pick_perm [0] _) (by simp only [List.map_cons, List.map_nil, List.forall_mem_cons]; exact ⟨hFb4, fun _ h => by cases h⟩) ?_
  refine awp_reg2 [] [1, 2, 29, 30, 31] (by decide) ?_
  intro K1 hK1
  refine ar_add rfl (a := k) (b := 1) rfl rfl (by omega) (by omega) ?_
  refine ⟨trivial, ?_⟩
  show K1 [(1, .ptr ⟨b1, 0, none⟩), (2, .ptr ⟨b2, 0, none⟩), (29, .slice false (v.f.map fldIn)), (30, .int .i64 (v.f.length : Int)), (31, .int .i64 (k + 1))] (AMem.wth m [(b2, .cells [.int .i64 0, .int .i64 0, .str ([]), .slice true [], .slice true []]), (b1, .cells [.int .i64 v.kind, .int .i64 v.n, .str v.s, .slice true (ol.map valIn), .slice true ((of ++ ([(gI v.f k)] : List (Str × Val))).map fldIn)])])
  refine hK1 _ _ ?_; clear hK1 K1
  refine ⟨(k + 1, of ++ ([(gI v.f k)] : List (Str × Val))), rfl, rfl, ?_, ?_⟩
  ·
   show 0 ≤ ((k + 1 : Int)) ∧ ((k + 1 : Int)) ≤ v.f.length ∧ ((of ++ ([(gI v.f k)] : List (Str × Val)) : (List (Str × Val)))) = v.f.take ((k + 1 : Int)).toNat
   exact ⟨by omega, by omega, by rw [take_succ_gI hI2.1 (by assumption), ← hI2.2.2]⟩
  ·
   show v.f.length - ((k + 1 : Int)).toNat < v.f.length - k.toNat
   omega
 replace h2 : (v.f.length : Int) ≤ k := (Int.not_lt.1 (of_decide_eq_false h2))
 refine awp_exit ?_
 refine hK5 _ _ ?_; clear hK5
 refine awp_reg2_seq [] [2] (by decide) ?_
 intro K1 hK1
 refine ar_loadp rfl (v := .agg [.int .i64 v.kind, .int .i64 v.n, .str v.s, .slice false (ol.map valIn), .slice false (of.map fldIn)]) rfl (wth_get 1 hNb2 rfl) rfl (apartOk_agg rfl rfl (Nat.le_of_ble_eq_true rfl)) rfl ?_
 refine ar_storep rfl 0 (v := .agg [.int .i64 v.kind, .int .i64 v.n, .str v.s, .slice false (ol.map valIn), .slice false (of.map fldIn)]) (l' := [.int .i64 v.kind, .int .i64 v.n, .str v.s, .slice false (ol.map valIn), .slice false (of.map fldIn)]) rfl rfl hNb2 rfl rfl rfl rfl rfl (Nat.le_of_ble_eq_true rfl) rfl ?_
 show K1 [(2, .ptr ⟨b2, 0, none⟩)] (AMem.wth m [(b2, .cells [.int .i64 v.kind, .int .i64 v.n, .str v.s, .slice false (ol.map valIn), .slice false (of.map fldIn)]), (b1, .cells [.int .i64 v.kind, .int .i64 v.n, .str v.s, .slice true (ol.map valIn), .slice true (of.map fldIn)])])
 refine hK1 _ _ ?_; clear hK1 K1
 refine awp_ret ?_
 refine resK_cell1 (fn := Tryd.f16) (a := 2) (t := 34) (b := b2) (off := 0) rfl rfl (wth_get  (m := m) (L := [(b2, .cells [.int .i64 v.kind, .int .i64 v.n, .str v.s, .slice false (ol.map valIn), .slice false (of.map fldIn)]), (b1, .cells [.int .i64 v.kind, .int .i64 v.n, .str v.s, .slice true (ol.map valIn), .slice true (of.map fldIn)])]) 0 hNb2 rfl) (apartOk_agg rfl rfl (Nat.le_of_ble_eq_true rfl)) (.agg [.int .i64 v.kind, .int .i64 v.n, .str v.s, .slice false (ol.map valIn), .slice false (of.map fldIn)]) rfl m ((wth_sub2 (m := m) [(b2, .cells [.int .i64 v.kind, .int .i64 v.n, .str v.s, .slice false (ol.map valIn), .slice false (of.map fldIn)]), (b1, .cells [.int .i64 v.kind, .int .i64 v.n, .str v.s, .slice true (ol.map valIn), .slice true (of.map fldIn)])] [] hNb2 (by simp only [List.map_cons, List.map_nil, List.forall_mem_cons]; exact ⟨hFb2, hFb1, fun _ h => by cases h⟩))) ?_
 show K (.agg [.int .i64 v.kind, .int .i64 v.n, .str v.s, .slice false (ol.map valIn), .slice false (of.map fldIn)]) m
 have q1 : ol = v.l := by have := hI.2.2; rwa [take_full (by omega)] at this
 have q2 : of = v.f := by have := hI2.2.2; rwa [take_full (by omega)] at this
 rw [q1, q2]
 exact hK
theorem u_Copy2 : ∀ (n : Nat) (v : Val), depV v < n → okV v → ∀ (m : AMem) (K : AV → AMem → Prop), K (valTop v) m → ACalls Tryd.prog 16 [valTop v] m K
  | 0, _, h, _ => absurd h (Nat.not_lt_zero _)
  | n + 1, v, h, hz => fun m K hK => u_Copy1 v hz (fun w hw hw2 => u_Copy2 n w (by omega) hw2) m K hK
theorem u_Copy (v : Val) (hz : okV v) (m : AMem) (K : AV → AMem → Prop) (hK : K (valTop v) m) : ACalls Tryd.prog 16 [valTop v] m K := u_Copy2 (depV v + 1) v (Nat.lt_succ_self _) hz m K hK
end Go.Proofs
end
section
namespace Go.Proofs
open Go Go.Aw Go.Sx
set_option maxRecDepth 100000
def zV : Val := .mk 0 0 [] [] []
theorem Val.ext' {a b : Val} (h1 : a.kind = b.kind) (h2 : a.n = b.n) (h3 : a.s = b.s) (h4 : a.l = b.l) (h5 : a.f = b.f) : a = b := by
  cases a; cases b; simp only [Val.kind, Val.n, Val.s, Val.l, Val.f] at h1 h2 h3 h4 h5; subst h1 h2 h3 h4 h5; rfl
noncomputable def vEq (a b : Val) : Bool := @decide (a = b) (Classical.propDecidable _)
theorem vEq_true {a b : Val} (h : a = b) : vEq a b = true := by simp [vEq, h]
theorem vEq_false {a b : Val} (h : a ≠ b) : vEq a b = false := by simp [vEq, h]
theorem vEq_iff {a b : Val} : vEq a b = true ↔ a = b := by simp [vEq]
def cntL {α : Type} (g : α → Int → Bool × Int) : List α → Int → Bool × Int
  | [], n => (true, n)
  | x :: r, n => if (g x n).1 = true then cntL g r (g x n).2 else (false, (g x n).2)
def cntF : Nat → Int → Val → Int → Bool × Int
  | 0, _, _, n => (false, n)
  | k + 1, deep, v, n =>
    if 6 < deep ∨ n - 1 < 0 then (false, n - 1)
    else if (cntL (cntF k (deep + 1)) v.l (n - 1)).1 = false then (false, (cntL (cntF k (deep + 1)) v.l (n - 1)).2)
    else cntL (fun p => cntF k (deep + 1) p.2) v.f (cntL (cntF k (deep + 1)) v.l (n - 1)).2
def sumN {α : Type} (g : α → Nat) : List α → Nat
  | [] => 0
  | x :: r => g x + sumN g r
theorem sumN_l (l : List Val) : sumN depV l = depL l := by
  induction l with
  | nil => rfl
  | cons v r ih => simp only [sumN, depL, ih]
theorem sumN_f (l : List (Str × Val)) : sumN (fun p => depV p.2) l = depF l := by
  induction l with
  | nil => rfl
  | cons p r ih =>
    obtain ⟨s, v⟩ := p
    cases v with
    | mk k n t l f => simp only [sumN, depF, ih, depV]
theorem cntL_ok {α : Type} {g : α → Int → Bool × Int} {d : α → Nat} (hg : ∀ x n, 0 ≤ n → (g x n).1 = true → 0 ≤ (g x n).2 ∧ (g x n).2 + d x = n) : ∀ (l : List α) (n : Int), 0 ≤ n → (cntL g l n).1 = true → 0 ≤ (cntL g l n).2 ∧ (cntL g l n).2 + sumN d l = n
  | [], n, h0, _ => by simp [cntL, sumN, h0]
  | x :: r, n, h0, h => by
    rw [cntL] at h ⊢
    split at h
    · rename_i h1
      have h2 := hg x n h0 h1
      have h3 := cntL_ok hg r _ h2.1 h
      rw [if_pos h1, sumN]
      exact ⟨h3.1, by push_cast; omega⟩
    · cases h
theorem cntF_ok : ∀ (k : Nat) (deep : Int) (v : Val) (n : Int), 0 ≤ n → (cntF k deep v n).1 = true → 0 ≤ (cntF k deep v n).2 ∧ (cntF k deep v n).2 + depV v = n
  | 0, _, _, _, _, h => by simp [cntF] at h
  | k + 1, deep, v, n, h0, h => by
    rw [cntF] at h ⊢
    split at h
    · cases h
    · rename_i h1
      rw [if_neg h1]
      split at h
      · cases h
      · rename_i h2
        rw [if_neg h2]
        have h3 : (cntL (cntF k (deep + 1)) v.l (n - 1)).1 = true := by simpa using h2
        have a := cntL_ok (d := depV) (g := cntF k (deep + 1)) (fun x n hn hx => cntF_ok k (deep + 1) x n hn hx) v.l (n - 1) (by omega) h3
        have b := cntL_ok (d := fun p : Str × Val => depV p.2) (g := fun p => cntF k (deep + 1) p.2) (fun x n hn hx => cntF_ok k (deep + 1) x.2 n hn hx) v.f _ a.1 h
        rw [sumN_l] at a
        rw [sumN_f] at b
        have e := depV_eq v
        exact ⟨b.1, by omega⟩
def recOk : Option Str → List (Str × Val) → Bool
  | _, [] => true
  | p, f :: r => nameV f.1 && (match p with | none => true | some s => Op.bytesLess s f.1) && recOk (some f.1) r
def shpOk (v : Val) : Bool :=
  if v.kind = 0 then ((v.n == 0) && (v.s == [])) && ((v.l.length : Int) + (v.f.length : Int) == 0)
  else if v.kind = 1 then ((decide (-1000000000 ≤ v.n) && decide (v.n ≤ 1000000000)) && (v.s == [])) && ((v.l.length : Int) + (v.f.length : Int) == 0)
  else if v.kind = 2 then ((v.n == 0) && decide ((v.s.length : Int) ≤ 40)) && ((v.l.length : Int) + (v.f.length : Int) == 0)
  else if v.kind = 3 then (((v.n == 0) || (v.n == 1)) && (v.s == [])) && ((v.l.length : Int) + (v.f.length : Int) == 0)
  else if v.kind = 4 then ((v.n == 0) && (v.s == [])) && ((v.f.length : Int) == 0)
  else if v.kind = 5 then (((v.n == 0) && (v.s == [])) && ((v.l.length : Int) == 0)) && recOk none v.f
  else false
def shpF : Nat → Val → Bool
  | 0, _ => false
  | k + 1, v => shpOk v && v.l.all (shpF k) && v.f.all (fun p => shpF k p.2)
def shE (b : Bool) : Int := if b = true then 0 else 3
def chk (v : Val) : Int := if (cntF (depV v + 1) 1 v 60).1 = true then shE (shpF (depV v + 1) v) else 2
def prevN (l : List (Str × Val)) (i : Int) : Option Str := if i = 0 then none else some (gI l (i - 1)).1
theorem recOk_cons (p : Option Str) (f : Str × Val) (r : List (Str × Val)) : recOk p (f :: r) = (nameV f.1 && (match p with | none => true | some s => Op.bytesLess s f.1) && recOk (some f.1) r) := by cases p <;> rfl
theorem recOk_step {l : List (Str × Val)} {i : Int} (h0 : 0 ≤ i) (hi : i < l.length) : recOk (prevN l i) (l.drop i.toNat) = (nameV (gI l i).1 && ((i == 0) || Op.bytesLess (gI l (i - 1)).1 (gI l i).1) && recOk (prevN l (i + 1)) (l.drop (i + 1).toNat)) := by
  have e : prevN l (i + 1) = some (gI l i).1 := by rw [prevN, if_neg (by omega)]; congr 2; congr 1; omega
  rw [drop_gI h0 hi, recOk_cons, e, prevN]
  by_cases h : i = 0
  · simp [h]
  · have : (i == 0) = false := by simpa using h
    rw [if_neg h, this, Bool.false_or]
theorem cntL_drop {α : Type} [Inhabited α] {g : α → Int → Bool × Int} {l : List α} {i n : Int} (h0 : 0 ≤ i) (hi : i < l.length) : cntL g (l.drop i.toNat) n = if (g (gI l i) n).1 = true then cntL g (l.drop (i + 1).toNat) (g (gI l i) n).2 else (false, (g (gI l i) n).2) := by
  rw [drop_gI h0 hi, cntL]
theorem all_drop {α : Type} [Inhabited α] {g : α → Bool} {l : List α} {i : Int} (h0 : 0 ≤ i) (hi : i < l.length) : (l.drop i.toNat).all g = (g (gI l i) && (l.drop (i + 1).toNat).all g) := by
  rw [drop_gI h0 hi, List.all_cons]
theorem mget_drop {κ ν : Type} [DecidableEq κ] [Inhabited κ] [Inhabited ν] {l : List (κ × ν)} {k : κ} {i : Int} (h0 : 0 ≤ i) (hi : i < l.length) : mget (l.drop i.toNat) k = if (gI l i).1 = k then some (gI l i).2 else mget (l.drop (i + 1).toNat) k := by
  rw [drop_gI h0 hi]; rfl
theorem cntF_l {k : Nat} {deep n x : Int} {v : Val} (h : ¬(6 < deep ∨ n - 1 < 0)) (e : cntL (cntF k (deep + 1)) v.l (n - 1) = (false, x)) : cntF (k + 1) deep v n = (false, x) := by
  rw [cntF, if_neg h, e, if_pos rfl]
theorem cntF_f {k : Nat} {deep n x : Int} {v : Val} (h : ¬(6 < deep ∨ n - 1 < 0)) (e : cntL (cntF k (deep + 1)) v.l (n - 1) = (true, x)) : cntF (k + 1) deep v n = cntL (fun p => cntF k (deep + 1) p.2) v.f x := by
  rw [cntF, if_neg h, e, if_neg (by simp)]
theorem shE_t {b : Bool} (h : shE b = 0) : b = true := by cases b <;> first | rfl | simp [shE] at h
theorem shE_f {b : Bool} (h : shE b ≠ 0) : b = false := by cases b <;> first | rfl | simp [shE] at h
theorem shE_1 {k : Nat} {v : Val} (h : shpOk v = false) : shE (shpF (k + 1) v) = 3 := by rw [shpF, h]; rfl
theorem shE_2 {k : Nat} {v : Val} (h : v.l.all (shpF k) = false) : shE (shpF (k + 1) v) = 3 := by rw [shpF, h]; simp [shE]
theorem shE_3 {k : Nat} {v : Val} (h : v.f.all (fun p => shpF k p.2) = false) : shE (shpF (k + 1) v) = 3 := by rw [shpF, h]; simp [shE]
theorem shE_0 {k : Nat} {v : Val} (h1 : shpOk v = true) (h2 : v.l.all (shpF k) = true) (h3 : v.f.all (fun p => shpF k p.2) = true) : shE (shpF (k + 1) v) = 0 := by rw [shpF, h1, h2, h3]; rfl
set_option maxHeartbeats 4000000 in
theorem u_count1 (k : Nat) (v : Val) (deep n : Int) (p : Nat) (ih : ∀ (w : Val) (deep n : Int), depV w < k → 1 ≤ deep → deep ≤ 7 → 0 ≤ n → n ≤ 60 → ∀ (b : Nat) (m : AMem), Gd [b] m → ∀ (K : AV → AMem → Prop), K (.bool (cntF k deep w n).1) (AMem.wth m [(b, .cells [.int .i64 (cntF k deep w n).2])]) → ACalls Tryd.prog 51 [valTop w, .int .i64 deep, .ptr ⟨b, 0, none⟩] (AMem.wth m [(b, .cells [.int .i64 n])]) K) (hd : depV v < k + 1) (hd1 : 1 ≤ deep) (hd7 : deep ≤ 7) (hn0 : 0 ≤ n) (hn6 : n ≤ 60) (m : AMem) (gd : Gd [p] m) (K : AV → AMem → Prop) (hK : K (.bool (cntF (k + 1) deep v n).1) (AMem.wth m [(p, .cells [.int .i64 (cntF (k + 1) deep v n).2])])) : ACalls Tryd.prog 51 [valTop v, .int .i64 deep, .ptr ⟨p, 0, none⟩] (AMem.wth m [(p, .cells [.int .i64 n])]) K := by
 refine enter (c := cf [] [0] [2] [] [] [p]) (vs := [.av (valTop v), .av (.int .i64 deep), .loc 0 0]) (L := [.cells [vI n]]) (m := m) false tbOk Tryd.mixed Tryd.func51 rfl (k := 3) (by show fnOk [] _ _ _ = true; decide +kernel) rfl (gd.good rfl) ?_
 refine ⟨fun F0 => ?_⟩
 have hbd0_2 : v.s.length ≤ 140737488355328 := (F0 0 2 (Nat.le_of_ble_eq_true rfl))
 have hbd0_3 : v.l.length ≤ 140737488355328 := bd_map (F0 0 3 (Nat.le_of_ble_eq_true rfl))
 have hbd0_4 : v.f.length ≤ 140737488355328 := bd_map (F0 0 4 (Nat.le_of_ble_eq_true rfl))
 refine an (by omega) ?_
 refine sq ?_
 refine mg [1, 2, 3] 23 ((decide (6 < deep)) || (decide (n - 1 < 0))) ?_ ?_
 · repeat' first
    | exact ⟨⟨_, rfl, by grind [SB.val]⟩, rfl⟩
    | refine an (fun _ => ?_) (fun _ => ?_)
 refine an (fun h1 => ?_) (fun h1 => ?_)
 · replace h1 : (6 < deep) ∨ (n - 1 < 0) := ((borT h1).imp (fun q => (of_decide_eq_true q)) (fun q => (of_decide_eq_true q)))
   refine rt rfl fun _ => ?_
   show K (.bool false) (AMem.wth m [(p, .cells [.int .i64 (n - 1)])])
   rw [cntF, if_pos (by omega)] at hK; exact hK
 replace h1 : (deep ≤ 6) ∧ (0 ≤ n - 1) := ⟨(Int.not_lt.1 (of_decide_eq_false (borL h1))), (Int.not_lt.1 (of_decide_eq_false (borR h1)))⟩
 refine sq ?_
 refine ln ?_
 refine lp (σ := Int × Int) [] [1, 2, 3, 25, 26, 27] 2 (fun ⟨i, nl⟩ => ([(1, vI deep), (2, .loc 0 0), (3, .loc 1 0), (25, vL (v.l.map valIn)), (26, vI (v.l.length : Int)), (27, vI i)], [.cells [vI nl], .cells [vI v.kind, vI v.n, vS v.s, vL (v.l.map valIn), vL (v.f.map fldIn)]], m)) (fun ⟨i, nl⟩ => 0 ≤ i ∧ i ≤ v.l.length ∧ 0 ≤ nl ∧ nl ≤ 60 ∧ cntL (cntF k (deep + 1)) v.l (n - 1) = cntL (cntF k (deep + 1)) (v.l.drop i.toNat) nl) (fun ⟨i, nl⟩ => v.l.length - i.toNat) (0, n - 1) ⟨rfl, rfl⟩ ?_ ?_
 · try dsimp only
   exact ⟨by omega, by omega, by omega, by omega, rfl⟩
 rintro ⟨i, nl⟩ hI
 dsimp only at hI
 refine sq ?_
 refine an (fun h2 => ?_) (fun h2 => ?_)
 · refine sq ?_
   refine ixg valTop valIn_eq (by omega) ?_
   refine an (by omega) ?_
   refine callM [0] [.cells [vI ((cntF k (deep + 1) (gI v.l i) nl).2)]] (vB ((cntF k (deep + 1) (gI v.l i) nl).1)) rfl (fun bs mm gd => ih (gI v.l i) (deep + 1) nl (by have := depV_eq v; first | (have := depL_mem (gI_mem (l := v.l) (i := i) hI.1 (by assumption)); omega) | (have := depF_mem (gI_mem (l := v.f) (i := i2) hI2.1 (by assumption)); omega)) (by omega) (by omega) (by omega) (by omega) (bs.getD 0 0) mm gd) ?_
   refine an (fun h3 => ?_) (fun h3 => ?_)
   · refine an (by omega) ?_
     refine ⟨(i + 1, (cntF k (deep + 1) (gI v.l i) nl).2), ⟨rfl, rfl⟩, ?_, ?_⟩
     · try dsimp only
       have q := cntF_ok k (deep + 1) (gI v.l i) nl hI.2.2.1 h3
       exact ⟨by omega, by omega, by omega, by omega, by rw [hI.2.2.2.2, cntL_drop hI.1 h2, if_pos h3]⟩
     try dsimp only
     omega
   refine rt rfl fun _ => ?_
   show K (.bool false) (AMem.wth m [(p, .cells [.int .i64 ((cntF k (deep + 1) (gI v.l i) nl).2)])])
   have e : cntF (k + 1) deep v n = (false, (cntF k (deep + 1) (gI v.l i) nl).2) := cntF_l (by omega) (by rw [hI.2.2.2.2, cntL_drop hI.1 h2, if_neg (by simp [h3])])
   rw [e] at hK; exact hK
 refine sq ?_
 refine ln ?_
 refine lp (σ := Int × Int) [] [1, 2, 39, 40, 41] 2 (fun ⟨i2, nf⟩ => ([(1, vI deep), (2, .loc 0 0), (39, vL (v.f.map fldIn)), (40, vI (v.f.length : Int)), (41, vI i2)], [.cells [vI nf], .cells [vI v.kind, vI v.n, vS v.s, vL (v.l.map valIn), vL (v.f.map fldIn)]], m)) (fun ⟨i2, nf⟩ => 0 ≤ i2 ∧ i2 ≤ v.f.length ∧ 0 ≤ nf ∧ nf ≤ 60 ∧ cntF (k + 1) deep v n = cntL (fun p => cntF k (deep + 1) p.2) (v.f.drop i2.toNat) nf) (fun ⟨i2, nf⟩ => v.f.length - i2.toNat) (0, nl) ⟨rfl, rfl⟩ ?_ ?_
 · try dsimp only
   have e : cntL (cntF k (deep + 1)) v.l (n - 1) = (true, nl) := by rw [hI.2.2.2.2, List.drop_eq_nil_of_le (by omega)]; rfl
   exact ⟨by omega, by omega, by omega, by omega, by rw [cntF_f (by omega) e]; rfl⟩
 rintro ⟨i2, nf⟩ hI2
 dsimp only at hI2
 refine sq ?_
 refine an (fun h4 => ?_) (fun h4 => ?_)
 · refine sq ?_
   refine ixg fldTop fldIn_eq (by omega) ?_
   refine an (by omega) ?_
   refine callM [0] [.cells [vI ((cntF k (deep + 1) ((gI v.f i2).2) nf).2)]] (vB ((cntF k (deep + 1) ((gI v.f i2).2) nf).1)) rfl (fun bs mm gd => ih ((gI v.f i2).2) (deep + 1) nf (by have := depV_eq v; first | (have := depL_mem (gI_mem (l := v.l) (i := i) hI.1 (by assumption)); omega) | (have := depF_mem (gI_mem (l := v.f) (i := i2) hI2.1 (by assumption)); omega)) (by omega) (by omega) (by omega) (by omega) (bs.getD 0 0) mm gd) ?_
   refine an (fun h5 => ?_) (fun h5 => ?_)
   · refine an (by omega) ?_
     refine ⟨(i2 + 1, (cntF k (deep + 1) ((gI v.f i2).2) nf).2), ⟨rfl, rfl⟩, ?_, ?_⟩
     · try dsimp only
       have q := cntF_ok k (deep + 1) (gI v.f i2).2 nf hI2.2.2.1 h5
       exact ⟨by omega, by omega, by omega, by omega, by rw [hI2.2.2.2.2, cntL_drop hI2.1 h4, if_pos h5]⟩
     try dsimp only
     omega
   refine rt rfl fun _ => ?_
   show K (.bool false) (AMem.wth m [(p, .cells [.int .i64 ((cntF k (deep + 1) ((gI v.f i2).2) nf).2)])])
   have e : cntF (k + 1) deep v n = (false, (cntF k (deep + 1) (gI v.f i2).2 nf).2) := by
     rw [hI2.2.2.2.2, cntL_drop hI2.1 h4, if_neg (by simp [h5])]
   rw [e] at hK; exact hK
 refine rt rfl fun _ => ?_
 show K (.bool true) (AMem.wth m [(p, .cells [.int .i64 nf])])
 have e : cntF (k + 1) deep v n = (true, nf) := by rw [hI2.2.2.2.2, List.drop_eq_nil_of_le (by omega)]; rfl
 rw [e] at hK; exact hK
theorem u_count : ∀ (k : Nat) (v : Val) (deep n : Int), depV v < k → 1 ≤ deep → deep ≤ 7 → 0 ≤ n → n ≤ 60 → ∀ (b : Nat) (m : AMem), Gd [b] m → ∀ (K : AV → AMem → Prop), K (.bool (cntF k deep v n).1) (AMem.wth m [(b, .cells [.int .i64 (cntF k deep v n).2])]) → ACalls Tryd.prog 51 [valTop v, .int .i64 deep, .ptr ⟨b, 0, none⟩] (AMem.wth m [(b, .cells [.int .i64 n])]) K
  | 0, _, _, _, h => absurd h (Nat.not_lt_zero _)
  | k + 1, v, deep, n, h => fun h1 h7 h0 h6 b m gd K hK => u_count1 k v deep n b (u_count k) h h1 h7 h0 h6 m gd K hK
set_option maxHeartbeats 8000000 in
theorem u_shape1 (k : Nat) (v : Val) (ih : ∀ (w : Val), depV w < k → ∀ (m : AMem) (K : AV → AMem → Prop), K (.err 23 (shE (shpF k w))) m → ACalls Tryd.prog 52 [valTop w] m K) (hd : depV v < k + 1) (m : AMem)  (K : AV → AMem → Prop) (hK : K (.err 23 (shE (shpF (k + 1) v))) m) : ACalls Tryd.prog 52 [valTop v] m K := by
 refine enter (c := cf [] [0, 19] [5, 7, 9, 11, 13, 15, 19] [] [] []) (vs := [.av (valTop v)]) (L := []) (m := m) true tbOk Tryd.mixed Tryd.func52 rfl (k := 1) (by show fnOk [] _ _ _ = true; decide +kernel) rfl (Good.nil m) ?_
 refine ⟨fun F0 => ?_⟩
 have hbd0_2 : v.s.length ≤ 140737488355328 := (F0 0 2 (Nat.le_of_ble_eq_true rfl))
 have hbd0_3 : v.l.length ≤ 140737488355328 := bd_map (F0 0 3 (Nat.le_of_ble_eq_true rfl))
 have hbd0_4 : v.f.length ≤ 140737488355328 := bd_map (F0 0 4 (Nat.le_of_ble_eq_true rfl))
 refine jn (σ := Bool) [(3, 0)] [1, 3] 1 (fun ok => ([(1, .loc 0 0), (3, vB ok)], [.cells [vI v.kind, vI v.n, vS v.s, vL (v.l.map valIn), vL (v.f.map fldIn)]], m)) (fun ok => ok = shpOk v) ?_ ?_
 · rintro ok hj0
   refine sq ?_
   refine an (fun h1 => ?_) (fun h1 => ?_)
   · refine sq ?_
     refine ln ?_
     refine lp (σ := Int) [] [1, 170, 171, 172] 1 (fun i => ([(1, .loc 0 0), (170, vL (v.l.map valIn)), (171, vI (v.l.length : Int)), (172, vI i)], [.cells [vI v.kind, vI v.n, vS v.s, vL (v.l.map valIn), vL (v.f.map fldIn)]], m)) (fun i => 0 ≤ i ∧ i ≤ v.l.length ∧ v.l.all (shpF k) = (v.l.drop i.toNat).all (shpF k)) (fun i => v.l.length - i.toNat) (0) ⟨rfl, rfl⟩ ?_ ?_
     · try dsimp only
       exact ⟨by omega, by omega, rfl⟩
     rintro i hI
     refine sq ?_
     refine an (fun h2 => ?_) (fun h2 => ?_)
     · refine sq ?_
       refine ixg valTop valIn_eq (by omega) ?_
       refine call0 (fun _ => ih (gI v.l i) (by have := depV_eq v; first | (have := depL_mem (gI_mem (l := v.l) (i := i) hI.1 (by assumption)); omega) | (have := depF_mem (gI_mem (l := v.f) (i := i2) hI2.1 (by assumption)); omega))) rfl ?_
       refine an (fun h3 => ?_) (fun h3 => ?_)
       · refine an (by omega) ?_
         refine ⟨(i + 1), ⟨rfl, rfl⟩, ?_, ?_⟩
         · try dsimp only
           exact ⟨by omega, by omega, by rw [hI.2.2, all_drop hI.1 h2, shE_t h3, Bool.true_and]⟩
         try dsimp only
         omega
       refine rt0 rfl fun _ => ?_
       show K (.err 23 3) m
       rw [shE_2 (by rw [hI.2.2, all_drop hI.1 h2, shE_f h3, Bool.false_and])] at hK; exact hK
     refine sq ?_
     refine ln ?_
     refine lp (σ := Int) [] [182, 183, 184] 1 (fun i2 => ([(182, vL (v.f.map fldIn)), (183, vI (v.f.length : Int)), (184, vI i2)], [.cells [vI v.kind, vI v.n, vS v.s, vL (v.l.map valIn), vL (v.f.map fldIn)]], m)) (fun i2 => 0 ≤ i2 ∧ i2 ≤ v.f.length ∧ v.f.all (fun p => shpF k p.2) = (v.f.drop i2.toNat).all (fun p => shpF k p.2)) (fun i2 => v.f.length - i2.toNat) (0) ⟨rfl, rfl⟩ ?_ ?_
     · try dsimp only
       exact ⟨by omega, by omega, rfl⟩
     rintro i2 hI2
     refine sq ?_
     refine an (fun h4 => ?_) (fun h4 => ?_)
     · refine sq ?_
       refine ixg fldTop fldIn_eq (by omega) ?_
       refine call0 (fun _ => ih ((gI v.f i2).2) (by have := depV_eq v; first | (have := depL_mem (gI_mem (l := v.l) (i := i) hI.1 (by assumption)); omega) | (have := depF_mem (gI_mem (l := v.f) (i := i2) hI2.1 (by assumption)); omega))) rfl ?_
       refine an (fun h5 => ?_) (fun h5 => ?_)
       · refine an (by omega) ?_
         refine ⟨(i2 + 1), ⟨rfl, rfl⟩, ?_, ?_⟩
         · try dsimp only
           exact ⟨by omega, by omega, by rw [hI2.2.2, all_drop (g := fun p : Str × Val => shpF k p.2) hI2.1 h4, shE_t h5, Bool.true_and]⟩
         try dsimp only
         omega
       refine rt0 rfl fun _ => ?_
       show K (.err 23 3) m
       rw [shE_3 (by rw [hI2.2.2, all_drop (g := fun p : Str × Val => shpF k p.2) hI2.1 h4, shE_f h5, Bool.false_and])] at hK; exact hK
     refine rt0 rfl fun _ => ?_
     show K (.err 23 0) m
     rw [shE_0 (by rw [← hj0, h1]) (by rw [hI.2.2, List.drop_eq_nil_of_le (by omega)]; rfl) (by rw [hI2.2.2, List.drop_eq_nil_of_le (by omega)]; rfl)] at hK; exact hK
   refine rt0 rfl fun _ => ?_
   show K (.err 23 3) m
   rw [shE_1 (by rw [← hj0, h1])] at hK; exact hK
 refine an (fun h6 => ?_) (fun h6 => ?_)
 · refine mg [1] 3 (((v.n == 0) && (v.s == ([]))) && (((v.l.length : Int) + (v.f.length : Int)) == 0)) ?_ ?_
   · repeat' first
      | exact ⟨⟨_, rfl, by grind [SB.val]⟩, rfl⟩
      | refine an (fun _ => ?_) (fun _ => ?_)
      | refine ln ?_
      | refine an (by omega) ?_
   refine ⟨((((v.n == 0) && (v.s == ([]))) && (((v.l.length : Int) + (v.f.length : Int)) == 0))), ⟨rfl, rfl⟩, ?_⟩
   unfold shpOk
   repeat' split
   all_goals first | omega | rfl
 refine an (fun h7 => ?_) (fun h7 => ?_)
 · refine mg [1] 3 ((((decide (-1000000000 ≤ v.n)) && (decide (v.n ≤ 1000000000))) && (v.s == ([]))) && (((v.l.length : Int) + (v.f.length : Int)) == 0)) ?_ ?_
   · repeat' first
      | exact ⟨⟨_, rfl, by grind [SB.val]⟩, rfl⟩
      | refine an (fun _ => ?_) (fun _ => ?_)
      | refine ln ?_
      | refine an (by omega) ?_
   refine ⟨(((((decide (-1000000000 ≤ v.n)) && (decide (v.n ≤ 1000000000))) && (v.s == ([]))) && (((v.l.length : Int) + (v.f.length : Int)) == 0))), ⟨rfl, rfl⟩, ?_⟩
   unfold shpOk
   repeat' split
   all_goals first | omega | rfl
 refine an (fun h8 => ?_) (fun h8 => ?_)
 · refine mg [1] 3 (((v.n == 0) && (decide ((v.s.length : Int) ≤ 40))) && (((v.l.length : Int) + (v.f.length : Int)) == 0)) ?_ ?_
   · repeat' first
      | exact ⟨⟨_, rfl, by grind [SB.val]⟩, rfl⟩
      | refine an (fun _ => ?_) (fun _ => ?_)
      | refine ln ?_
      | refine an (by omega) ?_
   refine ⟨((((v.n == 0) && (decide ((v.s.length : Int) ≤ 40))) && (((v.l.length : Int) + (v.f.length : Int)) == 0))), ⟨rfl, rfl⟩, ?_⟩
   unfold shpOk
   repeat' split
   all_goals first | omega | rfl
 refine an (fun h9 => ?_) (fun h9 => ?_)
 · refine mg [1] 3 ((((v.n == 0) || (v.n == 1)) && (v.s == ([]))) && (((v.l.length : Int) + (v.f.length : Int)) == 0)) ?_ ?_
   · repeat' first
      | exact ⟨⟨_, rfl, by grind [SB.val]⟩, rfl⟩
      | refine an (fun _ => ?_) (fun _ => ?_)
      | refine ln ?_
      | refine an (by omega) ?_
   refine ⟨(((((v.n == 0) || (v.n == 1)) && (v.s == ([]))) && (((v.l.length : Int) + (v.f.length : Int)) == 0))), ⟨rfl, rfl⟩, ?_⟩
   unfold shpOk
   repeat' split
   all_goals first | omega | rfl
 refine an (fun h10 => ?_) (fun h10 => ?_)
 · refine mg [1] 3 (((v.n == 0) && (v.s == ([]))) && ((v.f.length : Int) == 0)) ?_ ?_
   · repeat' first
      | exact ⟨⟨_, rfl, by grind [SB.val]⟩, rfl⟩
      | refine an (fun _ => ?_) (fun _ => ?_)
      | refine ln ?_
   refine ⟨((((v.n == 0) && (v.s == ([]))) && ((v.f.length : Int) == 0))), ⟨rfl, rfl⟩, ?_⟩
   unfold shpOk
   repeat' split
   all_goals first | omega | rfl
 refine an (fun h11 => ?_) (fun h11 => ?_)
 · refine mg [1] 3 (((v.n == 0) && (v.s == ([]))) && ((v.l.length : Int) == 0)) ?_ ?_
   · repeat' first
      | exact ⟨⟨_, rfl, by grind [SB.val]⟩, rfl⟩
      | refine an (fun _ => ?_) (fun _ => ?_)
      | refine ln ?_
   refine ln ?_
   refine lp (σ := Bool × Int) [(3, 0)] [1, 3, 136, 137, 138] 1 (fun ⟨ok, i⟩ => ([(1, .loc 0 0), (3, vB ok), (136, vL (v.f.map fldIn)), (137, vI (v.f.length : Int)), (138, vI i)], [.cells [vI v.kind, vI v.n, vS v.s, vL (v.l.map valIn), vL (v.f.map fldIn)]], m)) (fun ⟨ok, i⟩ => 0 ≤ i ∧ i ≤ v.f.length ∧ shpOk v = (ok && recOk (prevN v.f i) (v.f.drop i.toNat))) (fun ⟨ok, i⟩ => v.f.length - i.toNat) ((((v.n == 0) && (v.s == ([]))) && ((v.l.length : Int) == 0)), 0) ⟨rfl, rfl⟩ ?_ ?_
   · try dsimp only
     refine ⟨by omega, by omega, ?_⟩
     unfold shpOk
     rw [if_neg (by assumption), if_neg (by assumption), if_neg (by assumption), if_neg (by assumption), if_neg (by assumption), if_pos (by assumption)]
     rfl
   rintro ⟨ok, i⟩ hI
   dsimp only at hI
   refine sq ?_
   refine an (fun h12 => ?_) (fun h12 => ?_)
   · refine sq ?_
     refine ixg fldTop fldIn_eq (by omega) ?_
     refine ⟨fun F19 => ?_⟩
     have hbdF : (gI v.f i).1.length ≤ 140737488355328 := bdL_map (f := fldIn) (F19 136).2 (gI_mem hI.1 h12) 0 (Nat.succ_pos _)
     refine mg [1, 136, 137, 138] 3 ((ok && (nameV ((gI v.f i).1))) && ((i == 0) || (Op.bytesLess ((gI v.f (i - 1)).1) ((gI v.f i).1)))) ?_ ?_
     · repeat' first
        | exact ⟨⟨_, rfl, by grind [SB.val]⟩, rfl⟩
        | refine an (fun _ => ?_) (fun _ => ?_)
        | refine pure0 (fun _ => u_VName ((gI v.f i).1) hbdF) ?_
        | refine an (by omega) ?_
        | refine ixg fldTop fldIn_eq (by omega) ?_
     refine an (by omega) ?_
     refine ⟨(((ok && (nameV ((gI v.f i).1))) && ((i == 0) || (Op.bytesLess ((gI v.f (i - 1)).1) ((gI v.f i).1)))), i + 1), ⟨rfl, rfl⟩, ?_, ?_⟩
     · try dsimp only
       exact ⟨by omega, by omega, by rw [hI.2.2, recOk_step hI.1 h12]; simp only [Bool.and_assoc]⟩
     try dsimp only
     omega
   refine ⟨(ok), ⟨rfl, rfl⟩, ?_⟩
   rw [hI.2.2, List.drop_eq_nil_of_le (by omega)]; simp [recOk]
 refine ⟨(false), ⟨rfl, rfl⟩, ?_⟩
 unfold shpOk
 repeat' split
 all_goals first | omega | rfl
theorem u_shape : ∀ (k : Nat) (v : Val), depV v < k → ∀ (m : AMem) (K : AV → AMem → Prop), K (.err 23 (shE (shpF k v))) m → ACalls Tryd.prog 52 [valTop v] m K
  | 0, _, h => absurd h (Nat.not_lt_zero _)
  | k + 1, v, h => fun m K hK => u_shape1 k v (u_shape k) h m K hK
set_option maxHeartbeats 2000000 in
theorem u_Check (v : Val)  (m : AMem)  (K : AV → AMem → Prop) (hK : K (.err 23 (chk v)) m) : ACalls Tryd.prog 14 [valTop v] m K := by
 refine enter (c := cf [] [] [] [] [] []) (vs := [.av (valTop v)]) (L := []) (m := m) true tbOk Tryd.mixed Tryd.func14 rfl (k := 1) (by show fnOk [] _ _ _ = true; decide +kernel) rfl (Good.nil m) ?_
 refine sq ?_
 refine callM [1] [.cells [vI ((cntF (depV v + 1) 1 v 60).2)]] (vB ((cntF (depV v + 1) 1 v 60).1)) rfl (fun bs mm gd => u_count (depV v + 1) v 1 60 (Nat.lt_succ_self _) (by omega) (by omega) (by omega) (by omega) (bs.getD 1 0) mm gd) ?_
 refine an (fun h1 => ?_) (fun h1 => ?_)
 · refine call0 (fun _ => u_shape (depV v + 1) v (Nat.lt_succ_self _)) rfl ?_
   have e0 : chk v = (shE (shpF (depV v + 1) v) : Int) := by
    first | (rw [chk, if_pos (by assumption)]; done) | (rw [chk, if_neg (by simp_all)]; done)
   rw [e0] at hK
   exact rt0 rfl fun _ => hK
 have e0 : chk v = (2 : Int) := by
  first | (rw [chk, if_pos (by assumption)]; done) | (rw [chk, if_neg (by simp_all)]; done)
 rw [e0] at hK
 exact rt0 rfl fun _ => hK
set_option maxHeartbeats 4000000 in
theorem u_Alike1 (a b : Val) (ih : ∀ v w : Val, depV v < depV a → ∀ (m : AMem) (K : AV → AMem → Prop), K (.bool (vEq v w)) m → ACalls Tryd.prog 20 [valTop v, valTop w] m K) (m : AMem)  (K : AV → AMem → Prop) (hK : K (.bool (vEq a b)) m) : ACalls Tryd.prog 20 [valTop a, valTop b] m K := by
 refine enter (c := cf [] [0] [1, 12] [] [] []) (vs := [.av (valTop a), .av (valTop b)]) (L := []) (m := m) false tbOk Tryd.mixed Tryd.func20 rfl (k := 2) (by show fnOk [] _ _ _ = true; decide +kernel) rfl (Good.nil m) ?_
 refine ⟨fun F0 => ?_⟩
 have hbd0_2 : a.s.length ≤ 140737488355328 := (F0 0 2 (Nat.le_of_ble_eq_true rfl))
 have hbd0_3 : a.l.length ≤ 140737488355328 := bd_map (F0 0 3 (Nat.le_of_ble_eq_true rfl))
 have hbd0_4 : a.f.length ≤ 140737488355328 := bd_map (F0 0 4 (Nat.le_of_ble_eq_true rfl))
 have hbd1_2 : b.s.length ≤ 140737488355328 := (F0 1 2 (Nat.le_of_ble_eq_true rfl))
 have hbd1_3 : b.l.length ≤ 140737488355328 := bd_map (F0 1 3 (Nat.le_of_ble_eq_true rfl))
 have hbd1_4 : b.f.length ≤ 140737488355328 := bd_map (F0 1 4 (Nat.le_of_ble_eq_true rfl))
 refine sq ?_
 refine mg [2, 3] 43 (((((!(a.kind == b.kind)) || (!(a.n == b.n))) || (!(a.s == b.s))) || (!((a.l.length : Int) == (b.l.length : Int)))) || (!((a.f.length : Int) == (b.f.length : Int)))) ?_ ?_
 · repeat' first
    | exact ⟨⟨_, rfl, by grind [SB.val]⟩, rfl⟩
    | refine an (fun _ => ?_) (fun _ => ?_)
    | refine ln ?_
 refine an (fun h1 => ?_) (fun h1 => ?_)
 · replace h1 : ((((a.kind ≠ b.kind) ∨ (a.n ≠ b.n)) ∨ (a.s ≠ b.s)) ∨ ((a.l.length : Int) ≠ (b.l.length : Int))) ∨ ((a.f.length : Int) ≠ (b.f.length : Int)) := ((borT h1).imp (fun q => ((borT q).imp (fun q => ((borT q).imp (fun q => ((borT q).imp (fun q => (ne_of_beq_false (bnT q))) (fun q => (ne_of_beq_false (bnT q))))) (fun q => (ne_of_beq_false (bnT q))))) (fun q => (ne_of_beq_false (bnT q))))) (fun q => (ne_of_beq_false (bnT q))))
   refine rt0 rfl fun _ => ?_
   show K (.bool false) m
   rw [vEq_false (by intro hh; subst hh; simp at h1)] at hK; exact hK
 replace h1 : ((((a.kind = b.kind) ∧ (a.n = b.n)) ∧ (a.s = b.s)) ∧ ((a.l.length : Int) = (b.l.length : Int))) ∧ ((a.f.length : Int) = (b.f.length : Int)) := ⟨⟨⟨⟨(eq_of_beq (bnF (borL (borL (borL (borL h1)))))), (eq_of_beq (bnF (borR (borL (borL (borL h1))))))⟩, (eq_of_beq (bnF (borR (borL (borL h1)))))⟩, (eq_of_beq (bnF (borR (borL h1))))⟩, (eq_of_beq (bnF (borR h1)))⟩
 obtain ⟨⟨⟨⟨hk, hn⟩, hs⟩, hl⟩, hf⟩ := h1
 refine sq ?_
 refine ln ?_
 refine lp (σ := Int) [] [2, 3, 46, 47] 2 (fun i => ([(2, .loc 0 0), (3, .loc 1 0), (46, vI (a.l.length : Int)), (47, vI i)], [.cells [vI a.kind, vI a.n, vS a.s, vL (a.l.map valIn), vL (a.f.map fldIn)], .cells [vI b.kind, vI b.n, vS b.s, vL (b.l.map valIn), vL (b.f.map fldIn)]], m)) (fun i => 0 ≤ i ∧ i ≤ a.l.length ∧ a.l.take i.toNat = b.l.take i.toNat) (fun i => a.l.length - i.toNat) (0) ⟨rfl, rfl⟩ ?_ ?_
 · try dsimp only
   exact ⟨by omega, by omega, rfl⟩
 rintro i hI
 refine sq ?_
 refine an (fun h2 => ?_) (fun h2 => ?_)
 · refine sq ?_
   refine ixg valTop valIn_eq (by omega) ?_
   refine ixg valTop valIn_eq (by omega) ?_
   refine pure0 (fun _ => ih (gI a.l i) (gI b.l i) (by have := depV_eq a; first | (have := depL_mem (gI_mem (l := a.l) (i := i) hI.1 (by assumption)); omega) | (have := depF_mem (gI_mem (l := a.f) (i := i2) hI2.1 (by assumption)); omega))) ?_
   refine an (fun h3 => ?_) (fun h3 => ?_)
   · refine an (by omega) ?_
     refine ⟨(i + 1), ⟨rfl, rfl⟩, ?_, ?_⟩
     · try dsimp only
       exact ⟨by omega, by omega, by rw [take_succ_gI hI.1 h2, take_succ_gI hI.1 (by omega), hI.2.2, vEq_iff.1 h3]⟩
     try dsimp only
     omega
   refine rt0 rfl fun _ => ?_
   show K (.bool false) m
   rw [vEq_false (by intro hh; subst hh; rw [vEq_true rfl] at h3; cases h3)] at hK; exact hK
 refine sq ?_
 refine ln ?_
 refine lp (σ := Int) [] [2, 3, 65, 66] 2 (fun i2 => ([(2, .loc 0 0), (3, .loc 1 0), (65, vI (a.f.length : Int)), (66, vI i2)], [.cells [vI a.kind, vI a.n, vS a.s, vL (a.l.map valIn), vL (a.f.map fldIn)], .cells [vI b.kind, vI b.n, vS b.s, vL (b.l.map valIn), vL (b.f.map fldIn)]], m)) (fun i2 => 0 ≤ i2 ∧ i2 ≤ a.f.length ∧ a.f.take i2.toNat = b.f.take i2.toNat) (fun i2 => a.f.length - i2.toNat) (0) ⟨rfl, rfl⟩ ?_ ?_
 · try dsimp only
   exact ⟨by omega, by omega, rfl⟩
 rintro i2 hI2
 refine sq ?_
 refine an (fun h4 => ?_) (fun h4 => ?_)
 · refine sq ?_
   refine mg [2, 3, 65, 66] 97 ((!(((gI a.f i2).1) == ((gI b.f i2).1))) || (!(vEq ((gI a.f i2).2) ((gI b.f i2).2)))) ?_ ?_
   · repeat' first
      | exact ⟨⟨_, rfl, by grind [SB.val]⟩, rfl⟩
      | refine an (fun _ => ?_) (fun _ => ?_)
      | refine ixg fldTop fldIn_eq (by omega) ?_
      | refine pure0 (fun _ => ih ((gI a.f i2).2) ((gI b.f i2).2) (by have := depV_eq a; first | (have := depL_mem (gI_mem (l := a.l) (i := i) hI.1 (by assumption)); omega) | (have := depF_mem (gI_mem (l := a.f) (i := i2) hI2.1 (by assumption)); omega))) ?_
   refine an (fun h5 => ?_) (fun h5 => ?_)
   · replace h5 : ((gI a.f i2).1 ≠ (gI b.f i2).1) ∨ (vEq ((gI a.f i2).2) ((gI b.f i2).2) = false) := ((borT h5).imp (fun q => (ne_of_beq_false (bnT q))) (fun q => (bnT q)))
     refine rt0 rfl fun _ => ?_
     show K (.bool false) m
     rw [vEq_false (by intro hh; subst hh; rw [vEq_true rfl] at h5; simp at h5)] at hK; exact hK
   replace h5 : ((gI a.f i2).1 = (gI b.f i2).1) ∧ (vEq ((gI a.f i2).2) ((gI b.f i2).2) = true) := ⟨(eq_of_beq (bnF (borL h5))), (bnF (borR h5))⟩
   refine an (by omega) ?_
   refine ⟨(i2 + 1), ⟨rfl, rfl⟩, ?_, ?_⟩
   · try dsimp only
     exact ⟨by omega, by omega, by rw [take_succ_gI hI2.1 h4, take_succ_gI hI2.1 (by omega), hI2.2.2, Prod.ext h5.1 (vEq_iff.1 h5.2)]⟩
   try dsimp only
   omega
 refine rt0 rfl fun _ => ?_
 show K (.bool true) m
 rw [vEq_true (Val.ext' hk hn hs (by have := hI.2.2; rwa [take_full (by omega), take_full (by omega)] at this) (by have := hI2.2.2; rwa [take_full (by omega), take_full (by omega)] at this))] at hK; exact hK
theorem u_Alike2 : ∀ (n : Nat) (a b : Val), depV a < n → ∀ (m : AMem) (K : AV → AMem → Prop), K (.bool (vEq a b)) m → ACalls Tryd.prog 20 [valTop a, valTop b] m K
  | 0, _, _, h => absurd h (Nat.not_lt_zero _)
  | n + 1, a, b, h => fun m K hK => u_Alike1 a b (fun v w hv => u_Alike2 n v w (by omega)) m K hK
theorem u_Alike (a b : Val) (m : AMem) (K : AV → AMem → Prop) (hK : K (.bool (vEq a b)) m) : ACalls Tryd.prog 20 [valTop a, valTop b] m K := u_Alike2 (depV a + 1) a b (Nat.lt_succ_self _) m K hK
set_option maxHeartbeats 2000000 in
theorem u_Get (v : Val) (s : Str)  (m : AMem)  (K : AV → AMem → Prop) (hK : K (.tuple [valTop ((mget v.f s).getD zV), .bool (mget v.f s).isSome]) m) : ACalls Tryd.prog 17 [valTop v, .str s] m K := by
 refine enter (c := cf [] [0] [] [] [] []) (vs := [.av (valTop v), .av (.str s)]) (L := []) (m := m) false tbOk Tryd.mixed Tryd.func17 rfl (k := 2) (by show fnOk [] _ _ _ = true; decide +kernel) rfl (Good.nil m) ?_
 refine ⟨fun F0 => ?_⟩
 have hbd0_2 : v.s.length ≤ 140737488355328 := (F0 0 2 (Nat.le_of_ble_eq_true rfl))
 have hbd0_3 : v.l.length ≤ 140737488355328 := bd_map (F0 0 3 (Nat.le_of_ble_eq_true rfl))
 have hbd0_4 : v.f.length ≤ 140737488355328 := bd_map (F0 0 4 (Nat.le_of_ble_eq_true rfl))
 refine sq ?_
 refine ln ?_
 refine lp (σ := Int) [] [1, 4, 9, 10, 11] 2 (fun i => ([(1, vS s), (4, .loc 1 0), (9, vL (v.f.map fldIn)), (10, vI (v.f.length : Int)), (11, vI i)], [.cells [vI v.kind, vI v.n, vS v.s, vL (v.l.map valIn), vL (v.f.map fldIn)], .cells [vI 0, vI 0, vS ([]), .own [], .own []]], m)) (fun i => 0 ≤ i ∧ i ≤ v.f.length ∧ mget v.f s = mget (v.f.drop i.toNat) s) (fun i => v.f.length - i.toNat) (0) ⟨rfl, rfl⟩ ?_ ?_
 · try dsimp only
   exact ⟨by omega, by omega, rfl⟩
 rintro i hI
 refine sq ?_
 refine an (fun h1 => ?_) (fun h1 => ?_)
 · refine sq ?_
   refine ixg fldTop fldIn_eq (by omega) ?_
   refine an (fun h2 => ?_) (fun h2 => ?_)
   · refine rt0 rfl fun _ => ?_
     show K (.tuple [.agg [.int .i64 (((gI v.f i).2).kind), .int .i64 (((gI v.f i).2).n), .str (((gI v.f i).2).s), .slice false ((((gI v.f i).2).l).map valIn), .slice false ((((gI v.f i).2).f).map fldIn)], .bool true]) m
     have e : mget v.f s = some (gI v.f i).2 := by rw [hI.2.2, mget_drop hI.1 h1, if_pos h2]
     rw [e] at hK; exact hK
   refine an (by omega) ?_
   refine ⟨(i + 1), ⟨rfl, rfl⟩, ?_, ?_⟩
   · try dsimp only
     exact ⟨by omega, by omega, by rw [hI.2.2, mget_drop hI.1 h1, if_neg h2]⟩
   try dsimp only
   omega
 refine rt0 rfl fun _ => ?_
 show K (.tuple [.agg [.int .i64 0, .int .i64 0, .str ([]), .slice false [], .slice false []], .bool false]) m
 have e : mget v.f s = none := by rw [hI.2.2, List.drop_eq_nil_of_le (by omega)]; rfl
 rw [e] at hK; exact hK
end Go.Proofs
end
section
namespace Go.Proofs
open Go Go.Aw Go.Sx
set_option maxRecDepth 100000
def mxF {α : Type} (g : α → Int) (l : List α) (d : Int) : Int := l.foldl (fun d x => if g x > d then g x else d) d
def hgtF : Nat → Val → Int
  | 0, _ => 0
  | k + 1, v => mxF (fun p => hgtF k p.2) v.f (mxF (hgtF k) v.l 0) + 1
theorem mxF_step {α : Type} [Inhabited α] (g : α → Int) {l : List α} {i : Int} (d : Int) (h0 : 0 ≤ i) (hi : i < l.length) : mxF g (l.take (i + 1).toNat) d = if g (gI l i) > mxF g (l.take i.toNat) d then g (gI l i) else mxF g (l.take i.toNat) d := by
  rw [take_succ_gI h0 hi]; unfold mxF; rw [List.foldl_append]; rfl
theorem mxF_le {α : Type} (g : α → Int) (B : Int) : ∀ (l : List α) (d : Int), (mxF g l d ≤ B ↔ d ≤ B ∧ ∀ x ∈ l, g x ≤ B)
  | [], d => by simp [mxF]
  | x :: r, d => by
    rw [show mxF g (x :: r) d = mxF g r (if g x > d then g x else d) from rfl, mxF_le g B r]
    simp only [List.mem_cons, forall_eq_or_imp]
    split <;> constructor <;> (intro h; refine ⟨?_, ?_⟩) <;> first | omega | exact h.2 | (refine ⟨?_, ?_⟩ <;> first | omega | exact h.2) | exact h.2.2
theorem mxF_nn {α : Type} (g : α → Int) : ∀ (l : List α) (d : Int), d ≤ mxF g l d
  | [], d => Int.le_refl _
  | x :: r, d => by
    rw [show mxF g (x :: r) d = mxF g r (if g x > d then g x else d) from rfl]
    refine Int.le_trans ?_ (mxF_nn g r (if g x > d then g x else d))
    split <;> omega
theorem sumN_take {α : Type} [Inhabited α] (g : α → Nat) {l : List α} {i : Int} (h0 : 0 ≤ i) (hi : i < l.length) : sumN g (l.take (i + 1).toNat) = sumN g (l.take i.toNat) + g (gI l i) := by
  have e : ∀ (a b : List α), sumN g (a ++ b) = sumN g a + sumN g b := fun a b => by
    induction a with
    | nil => simp [sumN]
    | cons x r ih => simp only [List.cons_append, sumN, ih]; omega
  rw [take_succ_gI h0 hi, e]; simp [sumN]
theorem sumN_take_le {α : Type} (g : α → Nat) (l : List α) (k : Nat) : sumN g (l.take k) ≤ sumN g l := by
  induction l generalizing k with
  | nil => simp
  | cons x r ih =>
    cases k with
    | zero => simp [sumN]
    | succ k => rw [List.take_succ_cons, sumN, sumN]; have := ih k; omega
theorem hgtF_le : ∀ (k : Nat) (v : Val), depV v < k → 1 ≤ hgtF k v ∧ hgtF k v ≤ depV v
  | 0, _, h => absurd h (Nat.not_lt_zero _)
  | k + 1, v, h => by
    have e := depV_eq v
    rw [hgtF]
    have h1 := mxF_nn (hgtF k) v.l 0
    have h2 := mxF_nn (fun p : Str × Val => hgtF k p.2) v.f (mxF (hgtF k) v.l 0)
    refine ⟨by omega, ?_⟩
    have a : mxF (hgtF k) v.l 0 ≤ (depV v : Int) - 1 := (mxF_le _ _ _ _).2 ⟨by omega, fun x hx => by
      have q := depL_mem hx; have := (hgtF_le k x (by omega)).2; omega⟩
    have b : mxF (fun p : Str × Val => hgtF k p.2) v.f (mxF (hgtF k) v.l 0) ≤ (depV v : Int) - 1 := (mxF_le _ _ _ _).2 ⟨a, fun x hx => by
      have q := depF_mem hx; have := (hgtF_le k x.2 (by omega)).2; omega⟩
    omega
theorem cntL_iff {α : Type} {g : α → Int → Bool × Int} {d : α → Nat} {h : α → Prop} : ∀ (l : List α) (n : Int), 0 ≤ n → (∀ x ∈ l, ∀ n, 0 ≤ n → ((g x n).1 = true ↔ (d x : Int) ≤ n ∧ h x)) → (∀ x n, 0 ≤ n → (g x n).1 = true → 0 ≤ (g x n).2 ∧ (g x n).2 + d x = n) → ((cntL g l n).1 = true ↔ (sumN d l : Int) ≤ n ∧ ∀ x ∈ l, h x)
  | [], n, h0, _, _ => by simp [cntL, sumN, h0]
  | x :: r, n, h0, hg, hk => by
    rw [cntL, sumN]
    have hx := hg x (List.mem_cons_self ..) n h0
    by_cases c : (g x n).1 = true
    · have q := hk x n h0 c
      rw [if_pos c, cntL_iff r _ q.1 (fun y hy => hg y (List.mem_cons_of_mem _ hy)) hk]
      have := hx.1 c
      simp only [List.mem_cons, forall_eq_or_imp]
      constructor
      · intro z; exact ⟨by push_cast; omega, this.2, z.2⟩
      · intro z; exact ⟨by have := z.1; push_cast at this; omega, z.2.2⟩
    · rw [if_neg c]
      simp only [Bool.false_eq_true, false_iff]
      intro z
      exact c (hx.2 ⟨by have := z.1; push_cast at this; omega, z.2 x (List.mem_cons_self ..)⟩)
theorem cntF_iff : ∀ (k : Nat) (deep : Int) (v : Val) (n : Int), depV v < k → 0 ≤ n → 1 ≤ deep → ((cntF k deep v n).1 = true ↔ (depV v : Int) ≤ n ∧ deep + hgtF k v ≤ 7)
  | 0, _, _, _, h, _, _ => absurd h (Nat.not_lt_zero _)
  | k + 1, deep, v, n, h, h0, h1 => by
    have e := depV_eq v
    have hh := hgtF_le (k + 1) v h
    have gl : ∀ x ∈ v.l, ∀ n, 0 ≤ n → ((cntF k (deep + 1) x n).1 = true ↔ (depV x : Int) ≤ n ∧ (hgtF k x ≤ 6 - deep)) := fun x hx n hn => by
      have q := depL_mem hx
      rw [cntF_iff k (deep + 1) x n (by omega) hn (by omega)]
      constructor <;> (intro z; exact ⟨z.1, by omega⟩)
    have gf : ∀ x ∈ v.f, ∀ n, 0 ≤ n → ((cntF k (deep + 1) x.2 n).1 = true ↔ (depV x.2 : Int) ≤ n ∧ (hgtF k x.2 ≤ 6 - deep)) := fun x hx n hn => by
      have q := depF_mem hx
      rw [cntF_iff k (deep + 1) x.2 n (by omega) hn (by omega)]
      constructor <;> (intro z; exact ⟨z.1, by omega⟩)
    have hgt : deep + hgtF (k + 1) v ≤ 7 ↔ deep ≤ 6 ∧ (∀ x ∈ v.l, hgtF k x ≤ 6 - deep) ∧ ∀ x ∈ v.f, hgtF k x.2 ≤ 6 - deep := by
      rw [hgtF]
      have a := mxF_le (hgtF k) (6 - deep) v.l 0
      have b := mxF_le (fun p : Str × Val => hgtF k p.2) (6 - deep) v.f (mxF (hgtF k) v.l 0)
      constructor
      · intro z
        have b1 := b.1 (by omega)
        have a1 := a.1 b1.1
        exact ⟨by omega, a1.2, b1.2⟩
      · intro z
        have a1 := a.2 ⟨by omega, z.2.1⟩
        have b1 := b.2 ⟨a1, z.2.2⟩
        omega
    rw [hgt, cntF]
    have sl := sumN_l v.l
    have sf := sumN_f v.f
    by_cases c : 6 < deep ∨ n - 1 < 0
    · rw [if_pos c]
      simp only [Bool.false_eq_true, false_iff]
      intro z
      rcases c with c | c <;> omega
    · rw [if_neg c]
      have il := cntL_iff (d := depV) (h := fun x => hgtF k x ≤ 6 - deep) v.l (n - 1) (by omega) gl (fun x n hn hx => cntF_ok k (deep + 1) x n hn hx)
      by_cases c2 : (cntL (cntF k (deep + 1)) v.l (n - 1)).1 = false
      · rw [if_pos c2]
        simp only [Bool.false_eq_true, false_iff]
        intro z
        have : (cntL (cntF k (deep + 1)) v.l (n - 1)).1 = true := il.2 ⟨by omega, z.2.2.1⟩
        rw [c2] at this; cases this
      · have c3 : (cntL (cntF k (deep + 1)) v.l (n - 1)).1 = true := by simpa using c2
        rw [if_neg c2]
        have a := cntL_ok (d := depV) (g := cntF k (deep + 1)) (fun x n hn hx => cntF_ok k (deep + 1) x n hn hx) v.l (n - 1) (by omega) c3
        have i2 := cntL_iff (g := fun p : Str × Val => cntF k (deep + 1) p.2) (d := fun p : Str × Val => depV p.2) (h := fun x => hgtF k x.2 ≤ 6 - deep) v.f _ a.1 gf (fun x n hn hx => cntF_ok k (deep + 1) x.2 n hn hx)
        rw [i2]
        have q := il.1 c3
        constructor
        · intro z; exact ⟨by omega, by omega, q.2, z.2⟩
        · intro z; exact ⟨by omega, z.2.2.2⟩
theorem chk_R {v : Val} : chk v = if (60 < (depV v : Int) ∨ 6 < hgtF (depV v + 1) v) then 2 else if shpF (depV v + 1) v = true then 0 else 3 := by
  have q := cntF_iff (depV v + 1) 1 v 60 (Nat.lt_succ_self _) (by omega) (by omega)
  unfold chk
  by_cases c : (cntF (depV v + 1) 1 v 60).1 = true
  · have := q.1 c
    rw [if_pos c, if_neg (by omega)]; rfl
  · rw [if_neg c, if_pos (by
      refine Classical.byContradiction fun z => c (q.2 ⟨by omega, by omega⟩))]
set_option maxHeartbeats 4000000 in
theorem u_parts1 (k : Nat) (v : Val) (hB : depV v ≤ 1000000000000) (ih : ∀ w : Val, depV w < depV v → ∀ (m : AMem) (K : AV → AMem → Prop), K (.tuple [.int .i64 (depV w : Int), .int .i64 (hgtF k w)]) m → ACalls Tryd.prog 47 [valTop w] m K) (hd : depV v < k + 1) (m : AMem)  (K : AV → AMem → Prop) (hK : K (.tuple [.int .i64 (depV v : Int), .int .i64 (hgtF (k + 1) v)]) m) : ACalls Tryd.prog 47 [valTop v] m K := by
 have hdv := depV_eq v
 have hsl := sumN_l v.l
 have hsf := sumN_f v.f
 refine enter (c := cf [] [0] [] [] [] []) (vs := [.av (valTop v)]) (L := []) (m := m) false tbOk Tryd.mixed Tryd.func47 rfl (k := 1) (by show fnOk [] _ _ _ = true; decide +kernel) rfl (Good.nil m) ?_
 refine ⟨fun F0 => ?_⟩
 have hbd0_2 : v.s.length ≤ 140737488355328 := (F0 0 2 (Nat.le_of_ble_eq_true rfl))
 have hbd0_3 : v.l.length ≤ 140737488355328 := bd_map (F0 0 3 (Nat.le_of_ble_eq_true rfl))
 have hbd0_4 : v.f.length ≤ 140737488355328 := bd_map (F0 0 4 (Nat.le_of_ble_eq_true rfl))
 refine sq ?_
 refine lp (σ := Int × Int × Int) [] [1, 4, 5, 6] 1 (fun ⟨n1, d1, i⟩ => ([(1, .loc 0 0), (4, vI n1), (5, vI d1), (6, vI i)], [.cells [vI v.kind, vI v.n, vS v.s, vL (v.l.map valIn), vL (v.f.map fldIn)]], m)) (fun ⟨n1, d1, i⟩ => 0 ≤ i ∧ i ≤ v.l.length ∧ n1 = 1 + sumN depV (v.l.take i.toNat) ∧ d1 = mxF (hgtF k) (v.l.take i.toNat) 0 ∧ 0 ≤ d1 ∧ d1 ≤ depV v) (fun ⟨n1, d1, i⟩ => v.l.length - i.toNat) (1, 0, 0) ⟨rfl, rfl⟩ ?_ ?_
 · try dsimp only
   exact ⟨by omega, by omega, by simp [sumN], by simp [mxF], by omega, by omega⟩
 rintro ⟨n1, d1, i⟩ hI
 dsimp only at hI
 have htk := sumN_take_le depV v.l i.toNat
 refine sq ?_
 refine ln ?_
 refine an (fun h1 => ?_) (fun h1 => ?_)
 · have hdm := depL_mem (gI_mem (l := v.l) (i := i) hI.1 h1)
   have hst := sumN_take depV (l := v.l) hI.1 h1
   have hgl := hgtF_le k (gI v.l i) (by omega)
   have htk2 := sumN_take_le depV v.l (i + 1).toNat
   refine sq ?_
   refine ixg valTop valIn_eq (by omega) ?_
   refine call0 (fun _ => ih (gI v.l i) (by have := depV_eq v; first | (have := depL_mem (gI_mem (l := v.l) (i := i) hI.1 (by assumption)); omega) | (have := depF_mem (gI_mem (l := v.f) (i := i2) hI2.1 (by assumption)); omega))) rfl ?_
   refine an (by omega) ?_
   refine an (by omega) ?_
   refine ⟨(n1 + (depV (gI v.l i) : Int), if hgtF k (gI v.l i) > d1 then hgtF k (gI v.l i) else d1, i + 1), ⟨rfl, rfl⟩, ?_, ?_⟩
   · try dsimp only
     refine ⟨by omega, by omega, by omega, ?_, ?_, ?_⟩
     · rw [mxF_step _ _ hI.1 h1, ← hI.2.2.2.1]
     · split <;> omega
     · split <;> omega
   try dsimp only
   omega
 have hfull : v.l.take i.toNat = v.l := take_full h1
 refine sq ?_
 refine lp (σ := Int × Int × Int) [] [1, 4, 5, 9] 1 (fun ⟨n2, d2, i2⟩ => ([(1, .loc 0 0), (4, vI n2), (5, vI d2), (9, vI i2)], [.cells [vI v.kind, vI v.n, vS v.s, vL (v.l.map valIn), vL (v.f.map fldIn)]], m)) (fun ⟨n2, d2, i2⟩ => 0 ≤ i2 ∧ i2 ≤ v.f.length ∧ n2 = 1 + depL v.l + sumN (fun p : Str × Val => depV p.2) (v.f.take i2.toNat) ∧ d2 = mxF (fun p : Str × Val => hgtF k p.2) (v.f.take i2.toNat) (mxF (hgtF k) v.l 0) ∧ 0 ≤ d2 ∧ d2 ≤ depV v) (fun ⟨n2, d2, i2⟩ => v.f.length - i2.toNat) (n1, d1, 0) ⟨rfl, rfl⟩ ?_ ?_
 · try dsimp only
   rw [hfull] at hI
   exact ⟨by omega, by omega, by simp [sumN]; omega, by simp [mxF]; exact hI.2.2.2.1, by omega, by omega⟩
 rintro ⟨n2, d2, i2⟩ hI2
 dsimp only at hI2
 have htf := sumN_take_le (fun p : Str × Val => depV p.2) v.f i2.toNat
 refine sq ?_
 refine ln ?_
 refine an (fun h2 => ?_) (fun h2 => ?_)
 · have hdm := depF_mem (gI_mem (l := v.f) (i := i2) hI2.1 h2)
   have hst := sumN_take (fun p : Str × Val => depV p.2) (l := v.f) hI2.1 h2
   have hgl := hgtF_le k (gI v.f i2).2 (by omega)
   have htf2 := sumN_take_le (fun p : Str × Val => depV p.2) v.f (i2 + 1).toNat
   refine sq ?_
   refine ixg fldTop fldIn_eq (by omega) ?_
   refine call0 (fun _ => ih ((gI v.f i2).2) (by have := depV_eq v; first | (have := depL_mem (gI_mem (l := v.l) (i := i) hI.1 (by assumption)); omega) | (have := depF_mem (gI_mem (l := v.f) (i := i2) hI2.1 (by assumption)); omega))) rfl ?_
   refine an (by omega) ?_
   refine an (by omega) ?_
   refine ⟨(n2 + (depV ((gI v.f i2).2) : Int), if hgtF k ((gI v.f i2).2) > d2 then hgtF k ((gI v.f i2).2) else d2, i2 + 1), ⟨rfl, rfl⟩, ?_, ?_⟩
   · try dsimp only
     refine ⟨by omega, by omega, by omega, ?_, ?_, ?_⟩
     · rw [mxF_step (fun p : Str × Val => hgtF k p.2) _ hI2.1 h2, ← hI2.2.2.2.1]
     · split <;> omega
     · split <;> omega
   try dsimp only
   omega
 refine an (by omega) ?_
 refine rt0 rfl fun _ => ?_
 show K (.tuple [.int .i64 n2, .int .i64 (d2 + 1)]) m
 have hfull2 : v.f.take i2.toNat = v.f := take_full h2
 rw [hfull2] at hI2
 have e1 : n2 = (depV v : Int) := by omega
 have e2 : d2 + 1 = hgtF (k + 1) v := by rw [hgtF, ← hI2.2.2.2.1]
 rw [e1, e2]; exact hK
theorem u_parts : ∀ (k : Nat) (v : Val), depV v < k → depV v ≤ 1000000000000 → ∀ (m : AMem) (K : AV → AMem → Prop), K (.tuple [.int .i64 (depV v : Int), .int .i64 (hgtF k v)]) m → ACalls Tryd.prog 47 [valTop v] m K
  | 0, _, h => absurd h (Nat.not_lt_zero _)
  | k + 1, v, h => fun hB m K hK => u_parts1 k v hB (fun w hw => u_parts k w (by omega) (by omega)) h m K hK
set_option maxHeartbeats 2000000 in
theorem u_NameMay (s : Str)  (m : AMem)  (K : AV → AMem → Prop) (hK : K (.bool (nameV s)) m) : ACalls Tryd.prog 22 [.str s] m K := by
 refine enter (c := cf [] [0] [1, 6, 7, 8] [] [] []) (vs := [.av (.str s)]) (L := []) (m := m) false tbOk Tryd.mixed Tryd.func22 rfl (k := 1) (by show fnOk [] _ _ _ = true; decide +kernel) rfl (Good.nil m) ?_
 refine ⟨fun F0 => ?_⟩
 have hbd0_0 : s.length ≤ 140737488355328 := F0 0
 refine sq ?_
 refine mg [0] 13 ((decide ((s.length : Int) < 1)) || (decide (12 < (s.length : Int)))) ?_ ?_
 · repeat' first
    | exact ⟨⟨_, rfl, by grind [SB.val]⟩, rfl⟩
    | refine an (fun _ => ?_) (fun _ => ?_)
 refine an (fun h1 => ?_) (fun h1 => ?_)
 · replace h1 : ((s.length : Int) < 1) ∨ (12 < (s.length : Int)) := ((borT h1).imp (fun q => (of_decide_eq_true q)) (fun q => (of_decide_eq_true q)))
   refine rt0 rfl fun _ => K_eq hK ?_
   show AV.bool (nameV s) = AV.bool false
   refine congrArg AV.bool ?_
   rw [nameV]; cases s <;> simp_all <;> omega
 replace h1 : (1 ≤ (s.length : Int)) ∧ ((s.length : Int) ≤ 12) := ⟨(Int.not_lt.1 (of_decide_eq_false (borL h1))), (Int.not_lt.1 (of_decide_eq_false (borR h1)))⟩
 refine sq ?_
 refine lp (σ := Int) [] [0, 3] 0 (fun i => ([(0, vS s), (3, vI i)], [], m)) (fun i => 0 ≤ i ∧ i ≤ s.length ∧ nmF s true = nmF (s.drop i.toNat) (i == 0)) (fun i => s.length - i.toNat) (0) ⟨rfl, rfl⟩ ?_ ?_
 · try dsimp only
   exact ⟨by omega, by omega, by simp⟩
 rintro i hI
 refine sq ?_
 refine an (fun h2 => ?_) (fun h2 => ?_)
 · refine sq ?_
   refine mg [0, 3] 4 ((decide (97 ≤ ((gI s i).toNat : Int))) && (decide (((gI s i).toNat : Int) ≤ 122))) ?_ ?_
   · repeat' first
      | exact ⟨⟨_, rfl, by grind [SB.val]⟩, rfl⟩
      | refine an (fun _ => ?_) (fun _ => ?_)
      | refine an (by omega) ?_
   refine mg [0, 3, 4] 5 ((decide (48 ≤ ((gI s i).toNat : Int))) && (decide (((gI s i).toNat : Int) ≤ 57))) ?_ ?_
   · repeat' first
      | exact ⟨⟨_, rfl, by grind [SB.val]⟩, rfl⟩
      | refine an (fun _ => ?_) (fun _ => ?_)
      | refine an (by omega) ?_
   refine mg [0, 3] 49 ((!((decide (97 ≤ ((gI s i).toNat : Int))) && (decide (((gI s i).toNat : Int) ≤ 122)))) && ((!((decide (48 ≤ ((gI s i).toNat : Int))) && (decide (((gI s i).toNat : Int) ≤ 57)))) || (i == 0))) ?_ ?_
   · repeat' first
      | exact ⟨⟨_, rfl, by grind [SB.val]⟩, rfl⟩
      | refine an (fun _ => ?_) (fun _ => ?_)
   refine an (fun h3 => ?_) (fun h3 => ?_)
   · replace h3 : ((((gI s i).toNat : Int) < 97) ∨ (122 < ((gI s i).toNat : Int))) ∧ (((((gI s i).toNat : Int) < 48) ∨ (57 < ((gI s i).toNat : Int))) ∨ (i = 0)) := ⟨((bandF (bnT (bandL h3))).imp (fun q => (Int.not_le.1 (of_decide_eq_false q))) (fun q => (Int.not_le.1 (of_decide_eq_false q)))), ((borT (bandR h3)).imp (fun q => ((bandF (bnT q)).imp (fun q => (Int.not_le.1 (of_decide_eq_false q))) (fun q => (Int.not_le.1 (of_decide_eq_false q))))) (fun q => (eq_of_beq q)))⟩
     refine rt0 rfl fun _ => K_eq hK ?_
     show AV.bool (nameV s) = AV.bool false
     refine congrArg AV.bool ?_
     have hb : (letC (gI s i) || (!(i == 0) && digC (gI s i))) = false := by
       rw [Bool.eq_false_iff]; intro hh; simp [letC, digC] at hh; omega
     rw [nameV, hI.2.2, nmF_step hI.1 h2, hb]; rfl
   replace h3 : ((97 ≤ ((gI s i).toNat : Int)) ∧ (((gI s i).toNat : Int) ≤ 122)) ∨ (((48 ≤ ((gI s i).toNat : Int)) ∧ (((gI s i).toNat : Int) ≤ 57)) ∧ (i ≠ 0)) := ((bandF h3).imp (fun q => ⟨(of_decide_eq_true (bandL (bnF q))), (of_decide_eq_true (bandR (bnF q)))⟩) (fun q => ⟨⟨(of_decide_eq_true (bandL (bnF (borL q)))), (of_decide_eq_true (bandR (bnF (borL q))))⟩, (ne_of_beq_false (borR q))⟩))
   refine an (by omega) ?_
   refine ⟨(i + 1), ⟨rfl, rfl⟩, ?_, ?_⟩
   · try dsimp only
     have hb : (letC (gI s i) || (!(i == 0) && digC (gI s i))) = true := by simp [letC, digC]; omega
     exact ⟨by omega, by omega, by rw [hI.2.2, nmF_step hI.1 h2, hb]; rfl⟩
   try dsimp only
   omega
 refine rt0 rfl fun _ => K_eq hK ?_
 show AV.bool (nameV s) = AV.bool true
 refine congrArg AV.bool ?_
 have ha : nmF s true = true := by rw [hI.2.2, List.drop_eq_nil_of_le (by omega)]; rfl
 rw [nameV, ha]; cases s <;> simp at * <;> omega
theorem len0 (a b : Nat) : ((a : Int) + (b : Int) == 0) = (((a : Int) == 0) && ((b : Int) == 0)) := by
  rw [Bool.eq_iff_iff]; simp; omega
theorem recOk_nil (p : Option Str) : recOk p [] = true := by cases p <;> rfl
theorem shp_1 {k : Nat} {v : Val} (h : v.l.all (shpF k) = false) : shpF (k + 1) v = false := by rw [shpF, h]; simp
theorem shp_2 {k : Nat} {v : Val} (h : v.f.all (fun p => shpF k p.2) = false) : shpF (k + 1) v = false := by rw [shpF, h]; simp
theorem shpOk_rec {v : Val} (h : recOk none v.f = false) : shpOk v = false := by
  have hf : v.f ≠ [] := by intro c; rw [c, recOk_nil] at h; cases h
  have hl : 0 < v.f.length := List.length_pos_iff.2 hf
  unfold shpOk
  repeat' split
  all_goals first | rfl | (rw [h]; simp; done) | (rw [Bool.eq_false_iff]; intro c; simp at c; first | omega | (simp_all; done))
theorem shp_3 {k : Nat} {v : Val} (h : recOk none v.f = false) : shpF (k + 1) v = false := by rw [shpF, shpOk_rec h]; rfl
theorem shp_4 {k : Nat} {v : Val} (h1 : v.l.all (shpF k) = true) (h2 : v.f.all (fun p => shpF k p.2) = true) : shpF (k + 1) v = shpOk v := by rw [shpF, h1, h2]; simp
set_option maxHeartbeats 8000000 in
theorem u_shaped1 (k : Nat) (v : Val) (ih : ∀ w : Val, depV w < depV v → ∀ (m : AMem) (K : AV → AMem → Prop), K (.bool (shpF k w)) m → ACalls Tryd.prog 48 [valTop w] m K) (m : AMem)  (K : AV → AMem → Prop) (hK : K (.bool (shpF (k + 1) v)) m) : ACalls Tryd.prog 48 [valTop v] m K := by
 refine enter (c := cf [] [0] [12, 20, 22, 24, 26, 28, 30] [] [] []) (vs := [.av (valTop v)]) (L := []) (m := m) false tbOk Tryd.mixed Tryd.func48 rfl (k := 1) (by show fnOk [] _ _ _ = true; decide +kernel) rfl (Good.nil m) ?_
 refine ⟨fun F0 => ?_⟩
 have hbd0_2 : v.s.length ≤ 140737488355328 := (F0 0 2 (Nat.le_of_ble_eq_true rfl))
 have hbd0_3 : v.l.length ≤ 140737488355328 := bd_map (F0 0 3 (Nat.le_of_ble_eq_true rfl))
 have hbd0_4 : v.f.length ≤ 140737488355328 := bd_map (F0 0 4 (Nat.le_of_ble_eq_true rfl))
 refine sq ?_
 refine lp (σ := Int) [] [1, 3] 1 (fun i => ([(1, .loc 0 0), (3, vI i)], [.cells [vI v.kind, vI v.n, vS v.s, vL (v.l.map valIn), vL (v.f.map fldIn)]], m)) (fun i => 0 ≤ i ∧ i ≤ v.l.length ∧ v.l.all (shpF k) = (v.l.drop i.toNat).all (shpF k)) (fun i => v.l.length - i.toNat) (0) ⟨rfl, rfl⟩ ?_ ?_
 · try dsimp only
   exact ⟨by omega, by omega, rfl⟩
 rintro i hI
 refine sq ?_
 refine ln ?_
 refine an (fun h1 => ?_) (fun h1 => ?_)
 · refine sq ?_
   refine ixg valTop valIn_eq (by omega) ?_
   refine call0 (fun _ => ih (gI v.l i) (by have := depV_eq v; first | (have := depL_mem (gI_mem (l := v.l) (i := i) hI.1 (by assumption)); omega) | (have := depF_mem (gI_mem (l := v.f) (i := i2) hI2.1 (by assumption)); omega))) rfl ?_
   refine an (fun h2 => ?_) (fun h2 => ?_)
   · refine an (by omega) ?_
     refine ⟨(i + 1), ⟨rfl, rfl⟩, ?_, ?_⟩
     · try dsimp only
       exact ⟨by omega, by omega, by rw [hI.2.2, all_drop hI.1 h1, h2, Bool.true_and]⟩
     try dsimp only
     omega
   refine rt0 rfl fun _ => ?_
   show K (.bool false) m
   rw [shp_1 (by rw [hI.2.2, all_drop hI.1 h1, h2, Bool.false_and])] at hK; exact hK
 have hL : v.l.all (shpF k) = true := by rw [hI.2.2, List.drop_eq_nil_of_le (by omega)]; rfl
 refine sq ?_
 refine lp (σ := Int) [] [1, 5] 1 (fun i2 => ([(1, .loc 0 0), (5, vI i2)], [.cells [vI v.kind, vI v.n, vS v.s, vL (v.l.map valIn), vL (v.f.map fldIn)]], m)) (fun i2 => 0 ≤ i2 ∧ i2 ≤ v.f.length ∧ v.f.all (fun p => shpF k p.2) = (v.f.drop i2.toNat).all (fun p => shpF k p.2) ∧ recOk none v.f = recOk (prevN v.f i2) (v.f.drop i2.toNat)) (fun i2 => v.f.length - i2.toNat) (0) ⟨rfl, rfl⟩ ?_ ?_
 · try dsimp only
   exact ⟨by omega, by omega, rfl, rfl⟩
 rintro i2 hI2
 refine sq ?_
 refine ln ?_
 refine an (fun h3 => ?_) (fun h3 => ?_)
 · refine sq ?_
   refine ixg fldTop fldIn_eq (by omega) ?_
   refine call0 (fun _ => ih ((gI v.f i2).2) (by have := depV_eq v; first | (have := depL_mem (gI_mem (l := v.l) (i := i) hI.1 (by assumption)); omega) | (have := depF_mem (gI_mem (l := v.f) (i := i2) hI2.1 (by assumption)); omega))) rfl ?_
   refine ixg fldTop fldIn_eq (by omega) ?_
   refine call0 (fun _ => u_NameMay ((gI v.f i2).1)) rfl ?_
   refine mg [1, 5] 73 (((!(shpF k ((gI v.f i2).2))) || (!(nameV ((gI v.f i2).1)))) || ((decide (0 < i2)) && (!(Op.bytesLess ((gI v.f (i2 - 1)).1) ((gI v.f i2).1))))) ?_ ?_
   · repeat' first
      | exact ⟨⟨_, rfl, by grind [SB.val]⟩, rfl⟩
      | refine an (fun _ => ?_) (fun _ => ?_)
      | refine an (by omega) ?_
      | refine ixg fldTop fldIn_eq (by omega) ?_
   refine an (fun h4 => ?_) (fun h4 => ?_)
   · replace h4 : ((shpF k ((gI v.f i2).2) = false) ∨ (nameV ((gI v.f i2).1) = false)) ∨ ((0 < i2) ∧ (Op.bytesLess ((gI v.f (i2 - 1)).1) ((gI v.f i2).1) = false)) := ((borT h4).imp (fun q => ((borT q).imp (fun q => (bnT q)) (fun q => (bnT q)))) (fun q => ⟨(of_decide_eq_true (bandL q)), (bnT (bandR q))⟩))
     refine rt0 rfl fun _ => ?_
     show K (.bool false) m
     have hz : shpF (k + 1) v = false := by
       rcases h4 with (q | q) | q
       · exact shp_2 (by rw [hI2.2.2.1, all_drop (g := fun p : Str × Val => shpF k p.2) hI2.1 h3, q, Bool.false_and])
       · exact shp_3 (by rw [hI2.2.2.2, recOk_step hI2.1 h3, q]; rfl)
       · exact shp_3 (by rw [hI2.2.2.2, recOk_step hI2.1 h3, q.2, show (i2 == 0) = false from by simp; omega]; simp)
     rw [hz] at hK; exact hK
   replace h4 : ((shpF k ((gI v.f i2).2) = true) ∧ (nameV ((gI v.f i2).1) = true)) ∧ ((i2 ≤ 0) ∨ (Op.bytesLess ((gI v.f (i2 - 1)).1) ((gI v.f i2).1) = true)) := ⟨⟨(bnF (borL (borL h4))), (bnF (borR (borL h4)))⟩, ((bandF (borR h4)).imp (fun q => (Int.not_lt.1 (of_decide_eq_false q))) (fun q => (bnF q)))⟩
   refine an (by omega) ?_
   refine ⟨(i2 + 1), ⟨rfl, rfl⟩, ?_, ?_⟩
   · try dsimp only
     have hb : ((i2 == 0) || Op.bytesLess (gI v.f (i2 - 1)).1 (gI v.f i2).1) = true := by
       rcases h4.2 with q | q
       · have : i2 = 0 := by omega
         simp [this]
       · simp [q]
     exact ⟨by omega, by omega, by rw [hI2.2.2.1, all_drop (g := fun p : Str × Val => shpF k p.2) hI2.1 h3, h4.1.1, Bool.true_and], by rw [hI2.2.2.2, recOk_step hI2.1 h3, h4.1.2, hb]; rfl⟩
   try dsimp only
   omega
 have hF : v.f.all (fun p => shpF k p.2) = true := by rw [hI2.2.2.1, List.drop_eq_nil_of_le (by omega)]; rfl
 have hR : recOk none v.f = true := by rw [hI2.2.2.2, List.drop_eq_nil_of_le (by omega), recOk_nil]
 refine ln ?_
 refine ln ?_
 refine sq ?_
 refine an (fun h5 => ?_) (fun h5 => ?_)
 · refine mg [] 2 ((((v.n == 0) && (v.s == ([]))) && ((v.l.length : Int) == 0)) && ((v.f.length : Int) == 0)) ?_ ?_
   · repeat' first
      | exact ⟨⟨_, rfl, by grind [SB.val]⟩, rfl⟩
      | refine an (fun _ => ?_) (fun _ => ?_)
   refine rt0 rfl fun _ => ?_
   show K (.bool ((((v.n == 0) && (v.s == ([]))) && ((v.l.length : Int) == 0)) && ((v.f.length : Int) == 0))) m
   have e0 : shpF (k + 1) v = shpOk v := shp_4 hL hF
   rw [e0] at hK
   have er : ∀ e : Bool, shpOk v = e → K (.bool e) m := fun e q => q ▸ hK
   refine er _ ?_
   unfold shpOk
   repeat rw [if_neg (by assumption)]
   all_goals first | rfl | (rw [if_pos (by assumption)]; done) | (rw [if_pos (by assumption)]; first | rfl | (simp only [hR, len0, Bool.and_true, Bool.and_assoc]; done) | (simp only [hR, len0, Bool.and_true]; ac_rfl))
 refine an (fun h6 => ?_) (fun h6 => ?_)
 · refine mg [] 2 (((((decide (-1000000000 ≤ v.n)) && (decide (v.n ≤ 1000000000))) && (v.s == ([]))) && ((v.l.length : Int) == 0)) && ((v.f.length : Int) == 0)) ?_ ?_
   · repeat' first
      | exact ⟨⟨_, rfl, by grind [SB.val]⟩, rfl⟩
      | refine an (fun _ => ?_) (fun _ => ?_)
   refine rt0 rfl fun _ => ?_
   show K (.bool (((((decide (-1000000000 ≤ v.n)) && (decide (v.n ≤ 1000000000))) && (v.s == ([]))) && ((v.l.length : Int) == 0)) && ((v.f.length : Int) == 0))) m
   have e0 : shpF (k + 1) v = shpOk v := shp_4 hL hF
   rw [e0] at hK
   have er : ∀ e : Bool, shpOk v = e → K (.bool e) m := fun e q => q ▸ hK
   refine er _ ?_
   unfold shpOk
   repeat rw [if_neg (by assumption)]
   all_goals first | rfl | (rw [if_pos (by assumption)]; done) | (rw [if_pos (by assumption)]; first | rfl | (simp only [hR, len0, Bool.and_true, Bool.and_assoc]; done) | (simp only [hR, len0, Bool.and_true]; ac_rfl))
 refine an (fun h7 => ?_) (fun h7 => ?_)
 · refine mg [] 2 ((((v.n == 0) && (decide ((v.s.length : Int) ≤ 40))) && ((v.l.length : Int) == 0)) && ((v.f.length : Int) == 0)) ?_ ?_
   · repeat' first
      | exact ⟨⟨_, rfl, by grind [SB.val]⟩, rfl⟩
      | refine an (fun _ => ?_) (fun _ => ?_)
   refine rt0 rfl fun _ => ?_
   show K (.bool ((((v.n == 0) && (decide ((v.s.length : Int) ≤ 40))) && ((v.l.length : Int) == 0)) && ((v.f.length : Int) == 0))) m
   have e0 : shpF (k + 1) v = shpOk v := shp_4 hL hF
   rw [e0] at hK
   have er : ∀ e : Bool, shpOk v = e → K (.bool e) m := fun e q => q ▸ hK
   refine er _ ?_
   unfold shpOk
   repeat rw [if_neg (by assumption)]
   all_goals first | rfl | (rw [if_pos (by assumption)]; done) | (rw [if_pos (by assumption)]; first | rfl | (simp only [hR, len0, Bool.and_true, Bool.and_assoc]; done) | (simp only [hR, len0, Bool.and_true]; ac_rfl))
 refine an (fun h8 => ?_) (fun h8 => ?_)
 · refine mg [] 2 (((((v.n == 0) || (v.n == 1)) && (v.s == ([]))) && ((v.l.length : Int) == 0)) && ((v.f.length : Int) == 0)) ?_ ?_
   · repeat' first
      | exact ⟨⟨_, rfl, by grind [SB.val]⟩, rfl⟩
      | refine an (fun _ => ?_) (fun _ => ?_)
   refine rt0 rfl fun _ => ?_
   show K (.bool (((((v.n == 0) || (v.n == 1)) && (v.s == ([]))) && ((v.l.length : Int) == 0)) && ((v.f.length : Int) == 0))) m
   have e0 : shpF (k + 1) v = shpOk v := shp_4 hL hF
   rw [e0] at hK
   have er : ∀ e : Bool, shpOk v = e → K (.bool e) m := fun e q => q ▸ hK
   refine er _ ?_
   unfold shpOk
   repeat rw [if_neg (by assumption)]
   all_goals first | rfl | (rw [if_pos (by assumption)]; done) | (rw [if_pos (by assumption)]; first | rfl | (simp only [hR, len0, Bool.and_true, Bool.and_assoc]; done) | (simp only [hR, len0, Bool.and_true]; ac_rfl))
 refine an (fun h9 => ?_) (fun h9 => ?_)
 · refine mg [] 2 (((v.n == 0) && (v.s == ([]))) && ((v.f.length : Int) == 0)) ?_ ?_
   · repeat' first
      | exact ⟨⟨_, rfl, by grind [SB.val]⟩, rfl⟩
      | refine an (fun _ => ?_) (fun _ => ?_)
   refine rt0 rfl fun _ => ?_
   show K (.bool (((v.n == 0) && (v.s == ([]))) && ((v.f.length : Int) == 0))) m
   have e0 : shpF (k + 1) v = shpOk v := shp_4 hL hF
   rw [e0] at hK
   have er : ∀ e : Bool, shpOk v = e → K (.bool e) m := fun e q => q ▸ hK
   refine er _ ?_
   unfold shpOk
   repeat rw [if_neg (by assumption)]
   all_goals first | rfl | (rw [if_pos (by assumption)]; done) | (rw [if_pos (by assumption)]; first | rfl | (simp only [hR, len0, Bool.and_true, Bool.and_assoc]; done) | (simp only [hR, len0, Bool.and_true]; ac_rfl))
 refine an (fun h10 => ?_) (fun h10 => ?_)
 · refine mg [] 2 (((v.n == 0) && (v.s == ([]))) && ((v.l.length : Int) == 0)) ?_ ?_
   · repeat' first
      | exact ⟨⟨_, rfl, by grind [SB.val]⟩, rfl⟩
      | refine an (fun _ => ?_) (fun _ => ?_)
   refine rt0 rfl fun _ => ?_
   show K (.bool (((v.n == 0) && (v.s == ([]))) && ((v.l.length : Int) == 0))) m
   have e0 : shpF (k + 1) v = shpOk v := shp_4 hL hF
   rw [e0] at hK
   have er : ∀ e : Bool, shpOk v = e → K (.bool e) m := fun e q => q ▸ hK
   refine er _ ?_
   unfold shpOk
   repeat rw [if_neg (by assumption)]
   all_goals first | rfl | (rw [if_pos (by assumption)]; done) | (rw [if_pos (by assumption)]; first | rfl | (simp only [hR, len0, Bool.and_true, Bool.and_assoc]; done) | (simp only [hR, len0, Bool.and_true]; ac_rfl))
 refine rt0 rfl fun _ => ?_
 show K (.bool false) m
 have e0 : shpF (k + 1) v = shpOk v := shp_4 hL hF
 rw [e0] at hK
 have er : ∀ e : Bool, shpOk v = e → K (.bool e) m := fun e q => q ▸ hK
 refine er _ ?_
 unfold shpOk
 repeat rw [if_neg (by assumption)]
 all_goals first | rfl | (rw [if_pos (by assumption)]; done) | (rw [if_pos (by assumption)]; first | rfl | (simp only [hR, len0, Bool.and_true, Bool.and_assoc]; done) | (simp only [hR, len0, Bool.and_true]; ac_rfl))
theorem chk_R1 {v : Val} (h : 60 < (depV v : Int) ∨ 6 < hgtF (depV v + 1) v) : chk v = 2 := by rw [chk_R, if_pos h]
theorem chk_R2 {v : Val} (h : (depV v : Int) ≤ 60 ∧ hgtF (depV v + 1) v ≤ 6) (h2 : shpF (depV v + 1) v = false) : chk v = 3 := by rw [chk_R, if_neg (by omega), if_neg (by simp [h2])]
theorem chk_R3 {v : Val} (h : (depV v : Int) ≤ 60 ∧ hgtF (depV v + 1) v ≤ 6) (h2 : shpF (depV v + 1) v = true) : chk v = 0 := by rw [chk_R, if_neg (by omega), if_pos h2]
theorem u_shapedR : ∀ (k : Nat) (v : Val), depV v < k → ∀ (m : AMem) (K : AV → AMem → Prop), K (.bool (shpF k v)) m → ACalls Tryd.prog 48 [valTop v] m K
  | 0, _, h => absurd h (Nat.not_lt_zero _)
  | k + 1, v, h => fun m K hK => u_shaped1 k v (fun w hw => u_shapedR k w (by omega)) m K hK
set_option maxHeartbeats 2000000 in
theorem u_Fault (v : Val) (hB : depV v ≤ 1000000000000) (m : AMem)  (K : AV → AMem → Prop) (hK : K (.int .i64 (chk v)) m) : ACalls Tryd.prog 12 [valTop v] m K := by
 refine enter (c := cf [] [] [2] [] [] []) (vs := [.av (valTop v)]) (L := []) (m := m) false tbOk Tryd.mixed Tryd.func12 rfl (k := 1) (by show fnOk [] _ _ _ = true; decide +kernel) rfl (Good.nil m) ?_
 refine call0 (fun _ => u_parts (depV v + 1) v (Nat.lt_succ_self _) hB) rfl ?_
 refine sq ?_
 refine mg [1] 16 ((decide (60 < (depV v : Int))) || (decide (6 < hgtF (depV v + 1) v))) ?_ ?_
 · repeat' first
    | exact ⟨⟨_, rfl, by grind [SB.val]⟩, rfl⟩
    | refine an (fun _ => ?_) (fun _ => ?_)
 refine an (fun h1 => ?_) (fun h1 => ?_)
 · replace h1 : (60 < (depV v : Int)) ∨ (6 < hgtF (depV v + 1) v) := ((borT h1).imp (fun q => (of_decide_eq_true q)) (fun q => (of_decide_eq_true q)))
   have e0 : chk v = (2 : Int) := by
    first | exact chk_R1 (by assumption) | exact chk_R2 (by assumption) (by assumption) | exact chk_R3 (by assumption) (by assumption)
   rw [e0] at hK
   exact rt0 rfl fun _ => hK
 replace h1 : ((depV v : Int) ≤ 60) ∧ (hgtF (depV v + 1) v ≤ 6) := ⟨(Int.not_lt.1 (of_decide_eq_false (borL h1))), (Int.not_lt.1 (of_decide_eq_false (borR h1)))⟩
 refine call0 (fun _ => u_shapedR (depV v + 1) v (Nat.lt_succ_self _)) rfl ?_
 refine sq ?_
 refine an (fun h2 => ?_) (fun h2 => ?_)
 · have e0 : chk v = (0 : Int) := by
    first | exact chk_R1 (by assumption) | exact chk_R2 (by assumption) (by assumption) | exact chk_R3 (by assumption) (by assumption)
   rw [e0] at hK
   exact rt0 rfl fun _ => hK
 have e0 : chk v = (3 : Int) := by
  first | exact chk_R1 (by assumption) | exact chk_R2 (by assumption) (by assumption) | exact chk_R3 (by assumption) (by assumption)
 rw [e0] at hK
 exact rt0 rfl fun _ => hK
set_option maxHeartbeats 4000000 in
theorem u_RAlike1 (a b : Val) (ih : ∀ v w : Val, depV v < depV a → ∀ (m : AMem) (K : AV → AMem → Prop), K (.bool (vEq v w)) m → ACalls Tryd.prog 19 [valTop v, valTop w] m K) (m : AMem)  (K : AV → AMem → Prop) (hK : K (.bool (vEq a b)) m) : ACalls Tryd.prog 19 [valTop a, valTop b] m K := by
 refine enter (c := cf [] [0] [1, 13] [] [] []) (vs := [.av (valTop a), .av (valTop b)]) (L := []) (m := m) false tbOk Tryd.mixed Tryd.func19 rfl (k := 2) (by show fnOk [] _ _ _ = true; decide +kernel) rfl (Good.nil m) ?_
 refine ⟨fun F0 => ?_⟩
 have hbd0_2 : a.s.length ≤ 140737488355328 := (F0 0 2 (Nat.le_of_ble_eq_true rfl))
 have hbd0_3 : a.l.length ≤ 140737488355328 := bd_map (F0 0 3 (Nat.le_of_ble_eq_true rfl))
 have hbd0_4 : a.f.length ≤ 140737488355328 := bd_map (F0 0 4 (Nat.le_of_ble_eq_true rfl))
 have hbd1_2 : b.s.length ≤ 140737488355328 := (F0 1 2 (Nat.le_of_ble_eq_true rfl))
 have hbd1_3 : b.l.length ≤ 140737488355328 := bd_map (F0 1 3 (Nat.le_of_ble_eq_true rfl))
 have hbd1_4 : b.f.length ≤ 140737488355328 := bd_map (F0 1 4 (Nat.le_of_ble_eq_true rfl))
 refine sq ?_
 refine mg [2, 3] 45 (((((!(a.kind == b.kind)) || (!(a.n == b.n))) || (!(a.s == b.s))) || (!((a.l.length : Int) == (b.l.length : Int)))) || (!((a.f.length : Int) == (b.f.length : Int)))) ?_ ?_
 · repeat' first
    | exact ⟨⟨_, rfl, by grind [SB.val]⟩, rfl⟩
    | refine an (fun _ => ?_) (fun _ => ?_)
    | refine ln ?_
 refine an (fun h1 => ?_) (fun h1 => ?_)
 · replace h1 : ((((a.kind ≠ b.kind) ∨ (a.n ≠ b.n)) ∨ (a.s ≠ b.s)) ∨ ((a.l.length : Int) ≠ (b.l.length : Int))) ∨ ((a.f.length : Int) ≠ (b.f.length : Int)) := ((borT h1).imp (fun q => ((borT q).imp (fun q => ((borT q).imp (fun q => ((borT q).imp (fun q => (ne_of_beq_false (bnT q))) (fun q => (ne_of_beq_false (bnT q))))) (fun q => (ne_of_beq_false (bnT q))))) (fun q => (ne_of_beq_false (bnT q))))) (fun q => (ne_of_beq_false (bnT q))))
   refine rt0 rfl fun _ => ?_
   show K (.bool false) m
   rw [vEq_false (by intro hh; subst hh; simp at h1)] at hK; exact hK
 replace h1 : ((((a.kind = b.kind) ∧ (a.n = b.n)) ∧ (a.s = b.s)) ∧ ((a.l.length : Int) = (b.l.length : Int))) ∧ ((a.f.length : Int) = (b.f.length : Int)) := ⟨⟨⟨⟨(eq_of_beq (bnF (borL (borL (borL (borL h1)))))), (eq_of_beq (bnF (borR (borL (borL (borL h1))))))⟩, (eq_of_beq (bnF (borR (borL (borL h1)))))⟩, (eq_of_beq (bnF (borR (borL h1))))⟩, (eq_of_beq (bnF (borR h1)))⟩
 obtain ⟨⟨⟨⟨hk, hn⟩, hs⟩, hl⟩, hf⟩ := h1
 refine sq ?_
 refine lp (σ := Int) [] [2, 3, 5] 2 (fun i => ([(2, .loc 0 0), (3, .loc 1 0), (5, vI i)], [.cells [vI a.kind, vI a.n, vS a.s, vL (a.l.map valIn), vL (a.f.map fldIn)], .cells [vI b.kind, vI b.n, vS b.s, vL (b.l.map valIn), vL (b.f.map fldIn)]], m)) (fun i => 0 ≤ i ∧ i ≤ a.l.length ∧ a.l.take i.toNat = b.l.take i.toNat) (fun i => a.l.length - i.toNat) (0) ⟨rfl, rfl⟩ ?_ ?_
 · try dsimp only
   exact ⟨by omega, by omega, rfl⟩
 rintro i hI
 refine sq ?_
 refine ln ?_
 refine an (fun h2 => ?_) (fun h2 => ?_)
 · refine sq ?_
   refine ixg valTop valIn_eq (by omega) ?_
   refine ixg valTop valIn_eq (by omega) ?_
   refine pure0 (fun _ => ih (gI a.l i) (gI b.l i) (by have := depV_eq a; first | (have := depL_mem (gI_mem (l := a.l) (i := i) hI.1 (by assumption)); omega) | (have := depF_mem (gI_mem (l := a.f) (i := i2) hI2.1 (by assumption)); omega))) ?_
   refine an (fun h3 => ?_) (fun h3 => ?_)
   · refine an (by omega) ?_
     refine ⟨(i + 1), ⟨rfl, rfl⟩, ?_, ?_⟩
     · try dsimp only
       exact ⟨by omega, by omega, by rw [take_succ_gI hI.1 h2, take_succ_gI hI.1 (by omega), hI.2.2, vEq_iff.1 h3]⟩
     try dsimp only
     omega
   refine rt0 rfl fun _ => ?_
   show K (.bool false) m
   rw [vEq_false (by intro hh; subst hh; rw [vEq_true rfl] at h3; cases h3)] at hK; exact hK
 refine sq ?_
 refine lp (σ := Int) [] [2, 3, 7] 2 (fun i2 => ([(2, .loc 0 0), (3, .loc 1 0), (7, vI i2)], [.cells [vI a.kind, vI a.n, vS a.s, vL (a.l.map valIn), vL (a.f.map fldIn)], .cells [vI b.kind, vI b.n, vS b.s, vL (b.l.map valIn), vL (b.f.map fldIn)]], m)) (fun i2 => 0 ≤ i2 ∧ i2 ≤ a.f.length ∧ a.f.take i2.toNat = b.f.take i2.toNat) (fun i2 => a.f.length - i2.toNat) (0) ⟨rfl, rfl⟩ ?_ ?_
 · try dsimp only
   exact ⟨by omega, by omega, rfl⟩
 rintro i2 hI2
 refine sq ?_
 refine ln ?_
 refine an (fun h4 => ?_) (fun h4 => ?_)
 · refine sq ?_
   refine ixg fldTop fldIn_eq (by omega) ?_
   refine ixg fldTop fldIn_eq (by omega) ?_
   refine pure0 (fun _ => ih ((gI a.f i2).2) ((gI b.f i2).2) (by have := depV_eq a; first | (have := depL_mem (gI_mem (l := a.l) (i := i) hI.1 (by assumption)); omega) | (have := depF_mem (gI_mem (l := a.f) (i := i2) hI2.1 (by assumption)); omega))) ?_
   refine mg [2, 3, 7] 102 ((!(vEq ((gI a.f i2).2) ((gI b.f i2).2))) || (!(((gI a.f i2).1) == ((gI b.f i2).1)))) ?_ ?_
   · repeat' first
      | exact ⟨⟨_, rfl, by grind [SB.val]⟩, rfl⟩
      | refine an (fun _ => ?_) (fun _ => ?_)
      | refine ixg fldTop fldIn_eq (by omega) ?_
   refine an (fun h5 => ?_) (fun h5 => ?_)
   · replace h5 : (vEq ((gI a.f i2).2) ((gI b.f i2).2) = false) ∨ ((gI a.f i2).1 ≠ (gI b.f i2).1) := ((borT h5).imp (fun q => (bnT q)) (fun q => (ne_of_beq_false (bnT q))))
     refine rt0 rfl fun _ => ?_
     show K (.bool false) m
     rw [vEq_false (by intro hh; subst hh; rw [vEq_true rfl] at h5; simp at h5)] at hK; exact hK
   replace h5 : (vEq ((gI a.f i2).2) ((gI b.f i2).2) = true) ∧ ((gI a.f i2).1 = (gI b.f i2).1) := ⟨(bnF (borL h5)), (eq_of_beq (bnF (borR h5)))⟩
   refine an (by omega) ?_
   refine ⟨(i2 + 1), ⟨rfl, rfl⟩, ?_, ?_⟩
   · try dsimp only
     exact ⟨by omega, by omega, by rw [take_succ_gI hI2.1 h4, take_succ_gI hI2.1 (by omega), hI2.2.2, Prod.ext h5.2 (vEq_iff.1 h5.1)]⟩
   try dsimp only
   omega
 refine rt0 rfl fun _ => ?_
 show K (.bool true) m
 rw [vEq_true (Val.ext' hk hn hs (by have := hI.2.2; rwa [take_full (by omega), take_full (by omega)] at this) (by have := hI2.2.2; rwa [take_full (by omega), take_full (by omega)] at this))] at hK; exact hK
theorem u_RAlike2 : ∀ (n : Nat) (a b : Val), depV a < n → ∀ (m : AMem) (K : AV → AMem → Prop), K (.bool (vEq a b)) m → ACalls Tryd.prog 19 [valTop a, valTop b] m K
  | 0, _, _, h => absurd h (Nat.not_lt_zero _)
  | n + 1, a, b, h => fun m K hK => u_RAlike1 a b (fun v w hv => u_RAlike2 n v w (by omega)) m K hK
theorem u_RAlike (a b : Val) (m : AMem) (K : AV → AMem → Prop) (hK : K (.bool (vEq a b)) m) : ACalls Tryd.prog 19 [valTop a, valTop b] m K := u_RAlike2 (depV a + 1) a b (Nat.lt_succ_self _) m K hK
end Go.Proofs
end
section
namespace Go.Proofs
open Go Go.Aw Go.Sx
set_option maxRecDepth 100000
def fnv (h : Int) (c : UInt8) : Int := IntKind.u64.wrap (IntKind.u64.wrap ((BitVec.ofInt IntKind.u64.bits h ^^^ BitVec.ofInt IntKind.u64.bits (IntKind.u64.wrap c.toNat)).toNat) * 1099511628211)
def sumI (s : List UInt8) : Int := s.foldl fnv 14695981039346656037
theorem sum_step {s : List UInt8} {i : Int} (h0 : 0 ≤ i) (hi : i < s.length) : (s.take (i + 1).toNat).foldl fnv 14695981039346656037 = fnv ((s.take i.toNat).foldl fnv 14695981039346656037) (gI s i) := by
  rw [take_succ_gI h0 hi, List.foldl_append]; rfl
theorem u_Sum (s : List UInt8)  (m : AMem)  (K : AV → AMem → Prop) (hK : K (.int .u64 (sumI s)) m) : ACalls Tryd.prog 23 [.str s] m K := by
 refine enter (c := cf [] [0] [] [] [] []) (vs := [.av (.str s)]) (L := []) (m := m) false tbOk Tryd.mixed Tryd.func23 rfl (k := 1) (by show fnOk [] _ _ _ = true; decide +kernel) rfl (Good.nil m) ?_
 refine ⟨fun F0 => ?_⟩
 have hbd0_0 : s.length ≤ 140737488355328 := F0 0
 refine sq ?_
 refine lp (σ := Int × Int) [] [0, 3, 6, 7] 0 (fun ⟨h, i⟩ => ([(0, vS s), (3, .av (.int .u64 h)), (6, vI (s.length : Int)), (7, vI i)], [], m)) (fun ⟨h, i⟩ => 0 ≤ i ∧ i ≤ s.length ∧ h = (s.take i.toNat).foldl fnv 14695981039346656037) (fun ⟨h, i⟩ => s.length - i.toNat) (14695981039346656037, 0) ⟨rfl, rfl⟩ ?_ ?_
 · try dsimp only
   exact ⟨by omega, by omega, rfl⟩
 rintro ⟨h, i⟩ hI
 dsimp only at hI
 refine sq ?_
 refine an (fun h1 => ?_) (fun h1 => ?_)
 · refine sq ?_
   refine an (by omega) ?_
   refine an (by omega) ?_
   refine ⟨(IntKind.u64.wrap ((IntKind.u64.wrap (BitVec.ofInt IntKind.u64.bits h ^^^ BitVec.ofInt IntKind.u64.bits (IntKind.u64.wrap ((gI s i).toNat))).toNat) * 1099511628211), i + 1), ⟨rfl, rfl⟩, ?_, ?_⟩
   · try dsimp only
     exact ⟨by omega, by omega, by rw [sum_step hI.1 h1, ← hI.2.2]; rfl⟩
   try dsimp only
   omega
 refine rt0 rfl fun _ => ?_
 show K (.int .u64 h) m
 have e : h = sumI s := by rw [hI.2.2, take_full h1]; rfl
 subst e; exact hK
theorem u_RSum (s : List UInt8)  (m : AMem)  (K : AV → AMem → Prop) (hK : K (.int .u64 (sumI s)) m) : ACalls Tryd.prog 24 [.str s] m K := by
 refine enter (c := cf [] [0] [] [] [] []) (vs := [.av (.str s)]) (L := []) (m := m) false tbOk Tryd.mixed Tryd.func24 rfl (k := 1) (by show fnOk [] _ _ _ = true; decide +kernel) rfl (Good.nil m) ?_
 refine ⟨fun F0 => ?_⟩
 have hbd0_0 : s.length ≤ 140737488355328 := F0 0
 refine sq ?_
 refine lp (σ := Int × Int) [] [0, 3, 4] 0 (fun ⟨h, i⟩ => ([(0, vS s), (3, .av (.int .u64 h)), (4, vI i)], [], m)) (fun ⟨h, i⟩ => 0 ≤ i ∧ i ≤ s.length ∧ h = (s.take i.toNat).foldl fnv 14695981039346656037) (fun ⟨h, i⟩ => s.length - i.toNat) (14695981039346656037, 0) ⟨rfl, rfl⟩ ?_ ?_
 · try dsimp only
   exact ⟨by omega, by omega, rfl⟩
 rintro ⟨h, i⟩ hI
 dsimp only at hI
 refine sq ?_
 refine an (fun h1 => ?_) (fun h1 => ?_)
 · refine sq ?_
   refine an (by omega) ?_
   refine an (by omega) ?_
   refine ⟨(IntKind.u64.wrap ((IntKind.u64.wrap (BitVec.ofInt IntKind.u64.bits h ^^^ BitVec.ofInt IntKind.u64.bits (IntKind.u64.wrap ((gI s i).toNat))).toNat) * 1099511628211), i + 1), ⟨rfl, rfl⟩, ?_, ?_⟩
   · try dsimp only
     exact ⟨by omega, by omega, by rw [sum_step hI.1 h1, ← hI.2.2]; rfl⟩
   try dsimp only
   omega
 refine rt0 rfl fun _ => ?_
 show K (.int .u64 h) m
 have e : h = sumI s := by rw [hI.2.2, take_full h1]; rfl
 subst e; exact hK
def hexS : Str := [48, 49, 50, 51, 52, 53, 54, 55, 56, 57, 97, 98, 99, 100, 101, 102]
def quoteC (c : UInt8) : Str :=
  if (c.toNat : Int) = 34 ∨ (c.toNat : Int) = 92 then [92, c]
  else if (c.toNat : Int) < 32 ∨ 126 < (c.toNat : Int) then [92, 120, gI hexS (c.toNat / 16 : Nat), gI hexS (c.toNat % 16 : Nat)]
  else [c]
def quoteV (s : Str) : Str := 34 :: s.flatMap quoteC ++ [34]
theorem quoteC_len (c : UInt8) : (quoteC c).length ≤ 4 := by unfold quoteC; repeat' split
                                                             all_goals simp
theorem quoteF_len (s : Str) : (s.flatMap quoteC).length ≤ 4 * s.length := by
  induction s with
  | nil => simp
  | cons c r ih => rw [List.flatMap_cons, List.length_append, List.length_cons]; have := quoteC_len c; omega
theorem quote_step {s : Str} {i : Int} (h0 : 0 ≤ i) (hi : i < s.length) : (s.take (i + 1).toNat).flatMap quoteC = (s.take i.toNat).flatMap quoteC ++ quoteC (gI s i) := by
  rw [take_succ_gI h0 hi, List.flatMap_append]; simp
theorem quoteT_len (s : Str) (k : Nat) : ((s.take k).flatMap quoteC).length ≤ 4 * s.length := by
  have := quoteF_len (s.take k)
  have : (s.take k).length ≤ s.length := by rw [List.length_take]; omega
  omega
theorem hxHi (c : UInt8) : Int.fdiv (c.toNat : Int) (2 ^ (min (Int.toNat 4) IntKind.u8.bits)) = (c.toNat / 16 : Nat) := by
  have : ∀ n : Fin 256, Int.fdiv (n.val : Int) (2 ^ (min (Int.toNat 4) IntKind.u8.bits)) = (n.val / 16 : Nat) := by decide +kernel
  exact this ⟨c.toNat, c.toNat_lt⟩
theorem hxLo (c : UInt8) : IntKind.u8.wrap (BitVec.ofInt IntKind.u8.bits (c.toNat : Int) &&& BitVec.ofInt IntKind.u8.bits 15).toNat = (c.toNat % 16 : Nat) := by
  have : ∀ n : Fin 256, IntKind.u8.wrap (BitVec.ofInt IntKind.u8.bits (n.val : Int) &&& BitVec.ofInt IntKind.u8.bits 15).toNat = (n.val % 16 : Nat) := by decide +kernel
  exact this ⟨c.toNat, c.toNat_lt⟩
theorem hxQ (c : UInt8) : IntKind.u8.wrap (Int.tdiv (c.toNat : Int) 16) = (c.toNat / 16 : Nat) := by
  have : ∀ n : Fin 256, IntKind.u8.wrap (Int.tdiv (n.val : Int) 16) = (n.val / 16 : Nat) := by decide +kernel
  exact this ⟨c.toNat, c.toNat_lt⟩
theorem hxR (c : UInt8) : Int.tmod (c.toNat : Int) 16 = (c.toNat % 16 : Nat) := by
  have : ∀ n : Fin 256, Int.tmod (n.val : Int) 16 = (n.val % 16 : Nat) := by decide +kernel
  exact this ⟨c.toNat, c.toNat_lt⟩
theorem u8lt (c : UInt8) : c.toNat < 256 := c.toNat_lt
theorem hx_sh (c : UInt8) : 0 ≤ (4 : Int) ∧ IntKind.u8.min ≤ Int.fdiv (c.toNat : Int) (2 ^ (min (Int.toNat 4) IntKind.u8.bits)) ∧ Int.fdiv (c.toNat : Int) (2 ^ (min (Int.toNat 4) IntKind.u8.bits)) ≤ IntKind.u8.max := by
  have := u8lt c
  rw [hxHi]; exact ⟨by omega, by show (0 : Int) ≤ _; omega, by show _ ≤ (255 : Int); omega⟩
theorem hx_rm (c : UInt8) : (16 : Int) ≠ 0 ∧ IntKind.u8.min ≤ Int.tmod (c.toNat : Int) 16 ∧ Int.tmod (c.toNat : Int) 16 ≤ IntKind.u8.max := by
  have := u8lt c
  rw [hxR]; exact ⟨by omega, by show (0 : Int) ≤ _; omega, by show _ ≤ (255 : Int); omega⟩
set_option maxHeartbeats 1000000 in
theorem u_Quote (s : Str) (hs : s.length ≤ 1000000000) (m : AMem)  (K : AV → AMem → Prop) (hK : K (.str (quoteV s)) m) : ACalls Tryd.prog 25 [.str s] m K := by
 refine enter (c := cf [] [] [7, 9] [] [] []) (vs := [.av (.str s)]) (L := []) (m := m) false tbOk Tryd.mixed Tryd.func25 rfl (k := 1) (by show fnOk [] _ _ _ = true; decide +kernel) rfl (Good.nil m) ?_
 refine sq ?_
 refine lp (σ := (List UInt8) × Int) [] [0, 3, 8, 9] 0 (fun ⟨b, i⟩ => ([(0, vS s), (3, .own (b.map byteAV)), (8, vI (s.length : Int)), (9, vI i)], [], m)) (fun ⟨b, i⟩ => 0 ≤ i ∧ i ≤ s.length ∧ b = 34 :: (s.take i.toNat).flatMap quoteC) (fun ⟨b, i⟩ => s.length - i.toNat) ([34], 0) ⟨rfl, rfl⟩ ?_ ?_
 · try dsimp only
   exact ⟨by omega, by omega, rfl⟩
 rintro ⟨b, i⟩ hI
 dsimp only at hI
 have hbl : b.length ≤ 1 + 4 * s.length := by rw [hI.2.2, List.length_cons]; have := quoteT_len s i.toNat; omega
 refine sq ?_
 refine an (fun h1 => ?_) (fun h1 => ?_)
 · refine sq ?_
   refine an ⟨by (first | omega | (have := u8lt (gI s i); simp only [hxHi, hxLo, hxQ, hxR, List.length_cons, List.length_nil]; omega)), by (first | omega | (have := u8lt (gI s i); simp only [hxHi, hxLo, hxQ, hxR, List.length_cons, List.length_nil]; omega))⟩ ?_
   refine mg [0, 3, 5, 8, 9] 19 ((((gI s i).toNat : Int) == 34) || (((gI s i).toNat : Int) == 92)) ?_ ?_
   · repeat' first
      | exact ⟨⟨_, rfl, by grind [SB.val]⟩, rfl⟩
      | refine an (fun _ => ?_) (fun _ => ?_)
   refine an (fun h2 => ?_) (fun h2 => ?_)
   · replace h2 : (((gI s i).toNat : Int) = 34) ∨ (((gI s i).toNat : Int) = 92) := ((borT h2).imp (fun q => (eq_of_beq q)) (fun q => (eq_of_beq q)))
     refine ap byteAV b ([92, gI s i] : List UInt8) rfl rfl (fun _ => ⟨rfl, rfl⟩) (by (simp only [List.length_append, List.length_cons, List.length_nil]; omega)) ?_
     refine an (by omega) ?_
     refine ⟨(b ++ ([92, gI s i] : List UInt8), i + 1), ⟨rfl, rfl⟩, ?_, ?_⟩
     · try dsimp only
       have e : quoteC (gI s i) = [92, gI s i] := by rw [quoteC, if_pos (by assumption)]
       exact ⟨by omega, by omega, by rw [quote_step hI.1 h1, e, hI.2.2]; rfl⟩
     try dsimp only
     omega
   replace h2 : (((gI s i).toNat : Int) ≠ 34) ∧ (((gI s i).toNat : Int) ≠ 92) := ⟨(ne_of_beq_false (borL h2)), (ne_of_beq_false (borR h2))⟩
   refine mg [0, 3, 5, 8, 9] 30 ((decide (((gI s i).toNat : Int) < 32)) || (decide (126 < ((gI s i).toNat : Int)))) ?_ ?_
   · repeat' first
      | exact ⟨⟨_, rfl, by grind [SB.val]⟩, rfl⟩
      | refine an (fun _ => ?_) (fun _ => ?_)
   refine an (fun h3 => ?_) (fun h3 => ?_)
   · replace h3 : (((gI s i).toNat : Int) < 32) ∨ (126 < ((gI s i).toNat : Int)) := ((borT h3).imp (fun q => (of_decide_eq_true q)) (fun q => (of_decide_eq_true q)))
     refine an (by exact hx_sh _) ?_
     refine an ⟨by (first | omega | (have := u8lt (gI s i); simp only [hxHi, hxLo, hxQ, hxR, List.length_cons, List.length_nil]; omega)), by (first | omega | (have := u8lt (gI s i); simp only [hxHi, hxLo, hxQ, hxR, List.length_cons, List.length_nil]; omega))⟩ ?_
     refine an ⟨by (first | omega | (have := u8lt (gI s i); simp only [hxHi, hxLo, hxQ, hxR, List.length_cons, List.length_nil]; omega)), by (first | omega | (have := u8lt (gI s i); simp only [hxHi, hxLo, hxQ, hxR, List.length_cons, List.length_nil]; omega))⟩ ?_
     refine ap byteAV b ([92, 120, gI ([48, 49, 50, 51, 52, 53, 54, 55, 56, 57, 97, 98, 99, 100, 101, 102] : List UInt8) (Int.fdiv ((gI s i).toNat) (2 ^ (min (Int.toNat 4) IntKind.u8.bits))), gI ([48, 49, 50, 51, 52, 53, 54, 55, 56, 57, 97, 98, 99, 100, 101, 102] : List UInt8) (IntKind.u8.wrap (BitVec.ofInt IntKind.u8.bits ((gI s i).toNat) &&& BitVec.ofInt IntKind.u8.bits 15).toNat)] : List UInt8) rfl rfl (fun _ => ⟨rfl, rfl⟩) (by (simp only [List.length_append, List.length_cons, List.length_nil]; omega)) ?_
     refine an (by omega) ?_
     refine ⟨(b ++ ([92, 120, gI ([48, 49, 50, 51, 52, 53, 54, 55, 56, 57, 97, 98, 99, 100, 101, 102] : List UInt8) (Int.fdiv ((gI s i).toNat) (2 ^ (min (Int.toNat 4) IntKind.u8.bits))), gI ([48, 49, 50, 51, 52, 53, 54, 55, 56, 57, 97, 98, 99, 100, 101, 102] : List UInt8) (IntKind.u8.wrap (BitVec.ofInt IntKind.u8.bits ((gI s i).toNat) &&& BitVec.ofInt IntKind.u8.bits 15).toNat)] : List UInt8), i + 1), ⟨rfl, rfl⟩, ?_, ?_⟩
     · try dsimp only
       have e : quoteC (gI s i) = [92, 120, gI hexS ((gI s i).toNat / 16 : Nat), gI hexS ((gI s i).toNat % 16 : Nat)] := by rw [quoteC, if_neg (by omega), if_pos (by assumption)]
       exact ⟨by omega, by omega, by rw [quote_step hI.1 h1, e, hI.2.2, hxHi, hxLo]; rfl⟩
     try dsimp only
     omega
   replace h3 : (32 ≤ ((gI s i).toNat : Int)) ∧ (((gI s i).toNat : Int) ≤ 126) := ⟨(Int.not_lt.1 (of_decide_eq_false (borL h3))), (Int.not_lt.1 (of_decide_eq_false (borR h3)))⟩
   refine ap byteAV b ([gI s i] : List UInt8) rfl rfl (fun _ => ⟨rfl, rfl⟩) (by (simp only [List.length_append, List.length_cons, List.length_nil]; omega)) ?_
   refine an (by omega) ?_
   refine ⟨(b ++ ([gI s i] : List UInt8), i + 1), ⟨rfl, rfl⟩, ?_, ?_⟩
   · try dsimp only
     have e : quoteC (gI s i) = [gI s i] := by rw [quoteC, if_neg (by omega), if_neg (by omega)]
     exact ⟨by omega, by omega, by rw [quote_step hI.1 h1, e, hI.2.2]; rfl⟩
   try dsimp only
   omega
 refine ap byteAV b ([34] : List UInt8) rfl rfl (fun _ => ⟨rfl, rfl⟩) (by (simp only [List.length_append, List.length_cons, List.length_nil]; omega)) ?_
 refine tst ?_
 refine rt0 rfl fun _ => ?_
 show K (.str (b ++ ([34] : List UInt8))) m
 have e : b ++ [34] = quoteV s := by rw [hI.2.2, take_full (by omega)]; rfl
 rw [← e] at hK; exact hK
set_option maxHeartbeats 1000000 in
theorem u_RQuoted (s : Str) (hs : s.length ≤ 1000000000) (m : AMem)  (K : AV → AMem → Prop) (hK : K (.str (quoteV s)) m) : ACalls Tryd.prog 26 [.str s] m K := by
 refine enter (c := cf [] [] [6, 8] [] [] []) (vs := [.av (.str s)]) (L := []) (m := m) false tbOk Tryd.mixed Tryd.func26 rfl (k := 1) (by show fnOk [] _ _ _ = true; decide +kernel) rfl (Good.nil m) ?_
 refine sq ?_
 refine lp (σ := (List UInt8) × Int) [] [0, 3, 4] 0 (fun ⟨b, i⟩ => ([(0, vS s), (3, vS b), (4, vI i)], [], m)) (fun ⟨b, i⟩ => 0 ≤ i ∧ i ≤ s.length ∧ b = (s.take i.toNat).flatMap quoteC) (fun ⟨b, i⟩ => s.length - i.toNat) ([], 0) ⟨rfl, rfl⟩ ?_ ?_
 · try dsimp only
   exact ⟨by omega, by omega, rfl⟩
 rintro ⟨b, i⟩ hI
 dsimp only at hI
 have hbl : b.length ≤ 4 * s.length := by rw [hI.2.2]; exact quoteT_len s i.toNat
 refine sq ?_
 refine an (fun h1 => ?_) (fun h1 => ?_)
 · refine sq ?_
   refine an ⟨by (first | omega | (have := u8lt (gI s i); simp only [hxHi, hxLo, hxQ, hxR, List.length_cons, List.length_nil]; omega)), by (first | omega | (have := u8lt (gI s i); simp only [hxHi, hxLo, hxQ, hxR, List.length_cons, List.length_nil]; omega))⟩ ?_
   refine mg [0, 3, 4, 5] 20 ((((gI s i).toNat : Int) == 34) || (((gI s i).toNat : Int) == 92)) ?_ ?_
   · repeat' first
      | exact ⟨⟨_, rfl, by grind [SB.val]⟩, rfl⟩
      | refine an (fun _ => ?_) (fun _ => ?_)
   refine an (fun h2 => ?_) (fun h2 => ?_)
   · replace h2 : (((gI s i).toNat : Int) = 34) ∨ (((gI s i).toNat : Int) = 92) := ((borT h2).imp (fun q => (eq_of_beq q)) (fun q => (eq_of_beq q)))
     refine tst (xs := ([92, gI s i] : List UInt8)) ?_
     refine an (by (first | omega | (simp only [List.length_append, List.length_cons, List.length_nil]; omega))) ?_
     refine an (by omega) ?_
     refine ⟨(b ++ ([92, gI s i] : List UInt8), i + 1), ⟨rfl, rfl⟩, ?_, ?_⟩
     · try dsimp only
       have e : quoteC (gI s i) = [92, gI s i] := by rw [quoteC, if_pos (by assumption)]
       exact ⟨by omega, by omega, by rw [quote_step hI.1 h1, e, hI.2.2]⟩
     try dsimp only
     omega
   replace h2 : (((gI s i).toNat : Int) ≠ 34) ∧ (((gI s i).toNat : Int) ≠ 92) := ⟨(ne_of_beq_false (borL h2)), (ne_of_beq_false (borR h2))⟩
   refine mg [0, 3, 4, 5] 31 ((decide (32 ≤ ((gI s i).toNat : Int))) && (decide (((gI s i).toNat : Int) ≤ 126))) ?_ ?_
   · repeat' first
      | exact ⟨⟨_, rfl, by grind [SB.val]⟩, rfl⟩
      | refine an (fun _ => ?_) (fun _ => ?_)
   refine an (fun h3 => ?_) (fun h3 => ?_)
   · replace h3 : (32 ≤ ((gI s i).toNat : Int)) ∧ (((gI s i).toNat : Int) ≤ 126) := ⟨(of_decide_eq_true (bandL h3)), (of_decide_eq_true (bandR h3))⟩
     refine tst (xs := ([gI s i] : List UInt8)) ?_
     refine an (by (first | omega | (simp only [List.length_append, List.length_cons, List.length_nil]; omega))) ?_
     refine an (by omega) ?_
     refine ⟨(b ++ ([gI s i] : List UInt8), i + 1), ⟨rfl, rfl⟩, ?_, ?_⟩
     · try dsimp only
       have e : quoteC (gI s i) = [gI s i] := by rw [quoteC, if_neg (by omega), if_neg (by omega)]
       exact ⟨by omega, by omega, by rw [quote_step hI.1 h1, e, hI.2.2]⟩
     try dsimp only
     omega
   replace h3 : (((gI s i).toNat : Int) < 32) ∨ (126 < ((gI s i).toNat : Int)) := ((bandF h3).imp (fun q => (Int.not_le.1 (of_decide_eq_false q))) (fun q => (Int.not_le.1 (of_decide_eq_false q))))
   refine an (by omega) ?_
   refine an ⟨by (first | omega | (have := u8lt (gI s i); simp only [hxHi, hxLo, hxQ, hxR, List.length_cons, List.length_nil]; omega)), by (first | omega | (have := u8lt (gI s i); simp only [hxHi, hxLo, hxQ, hxR, List.length_cons, List.length_nil]; omega))⟩ ?_
   refine an (by exact hx_rm _) ?_
   refine an ⟨by (first | omega | (have := u8lt (gI s i); simp only [hxHi, hxLo, hxQ, hxR, List.length_cons, List.length_nil]; omega)), by (first | omega | (have := u8lt (gI s i); simp only [hxHi, hxLo, hxQ, hxR, List.length_cons, List.length_nil]; omega))⟩ ?_
   refine tst (xs := ([92, 120, gI ([48, 49, 50, 51, 52, 53, 54, 55, 56, 57, 97, 98, 99, 100, 101, 102] : List UInt8) (IntKind.u8.wrap (Int.tdiv ((gI s i).toNat) 16)), gI ([48, 49, 50, 51, 52, 53, 54, 55, 56, 57, 97, 98, 99, 100, 101, 102] : List UInt8) (Int.tmod ((gI s i).toNat) 16)] : List UInt8)) ?_
   refine an (by (first | omega | (simp only [List.length_append, List.length_cons, List.length_nil]; omega))) ?_
   refine an (by omega) ?_
   refine ⟨(b ++ ([92, 120, gI ([48, 49, 50, 51, 52, 53, 54, 55, 56, 57, 97, 98, 99, 100, 101, 102] : List UInt8) (IntKind.u8.wrap (Int.tdiv ((gI s i).toNat) 16)), gI ([48, 49, 50, 51, 52, 53, 54, 55, 56, 57, 97, 98, 99, 100, 101, 102] : List UInt8) (Int.tmod ((gI s i).toNat) 16)] : List UInt8), i + 1), ⟨rfl, rfl⟩, ?_, ?_⟩
   · try dsimp only
     have e : quoteC (gI s i) = [92, 120, gI hexS ((gI s i).toNat / 16 : Nat), gI hexS ((gI s i).toNat % 16 : Nat)] := by rw [quoteC, if_neg (by omega), if_pos (by omega)]
     exact ⟨by omega, by omega, by rw [quote_step hI.1 h1, e, hI.2.2, hxQ, hxR]; rfl⟩
   try dsimp only
   omega
 refine an (by (first | omega | (simp only [List.length_append, List.length_cons, List.length_nil]; omega))) ?_
 refine an (by (first | omega | (simp only [List.length_append, List.length_cons, List.length_nil]; omega))) ?_
 refine rt0 rfl fun _ => ?_
 show K (.str ((([34] : List UInt8) ++ b) ++ ([34] : List UInt8))) m
 have e : [34] ++ b ++ [34] = quoteV s := by rw [hI.2.2, take_full (by omega)]; rfl
 rw [← e] at hK; exact hK
end Go.Proofs
end
