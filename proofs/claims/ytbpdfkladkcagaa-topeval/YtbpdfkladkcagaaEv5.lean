import Derived.Test.YtbpdfkladkcagaaProg
import Derived.Test.YtbpdfkladkcagaaWl4
import Derived.Test.YtbpdfkladkcagaaEv4
namespace Go.Proofs
open Go Go.Aw
set_option maxRecDepth 100000


theorem lightFs_len {l : List (Str × Val)} (h : lightFs l = true) : (l.length : Int) ≤ 12 := by
  unfold lightFs at h
  split at h
  · cases h
  · omega

set_option maxHeartbeats 8000000 in
theorem u_TopEval (e : Exp) (l : List (Str × Val)) (name : Str) (v : Val) (hok : okE e) (hin : l.length ≤ 1466015503701 ∧ ∀ p ∈ l, okV p.2) (hv : okV v) (m : AMem)  (K : AV → AMem → Prop) (hK : K (.bool true) m) : ACalls Try.prog 3 [expTop e, .slice false (l.map fldIn), .str name, valTop v] m K := by
 have hin2 : ∀ p ∈ l ++ [(name, v)], okV p.2 := fun p hp => by
  rcases List.mem_append.1 hp with h | h
  ·
   exact hin.2 p h
  ·
   rw [List.mem_singleton.1 h]; exact hv
 refine acalls_enter Try.func3 rfl (by decide) (Nat.le_of_ble_eq_true rfl) ?_
 refine awp_bd 0 (x := expTop e) rfl (fun hbd0 => ?_)
 have hbd0_3 : e.v.s.length ≤ 140737488355328 := (hbd0 3 (Nat.le_of_ble_eq_true rfl))
 have hbd0_4 : e.v.l.length ≤ 140737488355328 := bd_map (hbd0 4 (Nat.le_of_ble_eq_true rfl))
 have hbd0_5 : e.v.f.length ≤ 140737488355328 := bd_map (hbd0 5 (Nat.le_of_ble_eq_true rfl))
 have hbd0_6 : e.s.length ≤ 140737488355328 := (hbd0 6 (Nat.le_of_ble_eq_true rfl))
 have hbd0_7 : e.t.length ≤ 140737488355328 := (hbd0 7 (Nat.le_of_ble_eq_true rfl))
 have hbd0_8 : e.a.length ≤ 140737488355328 := bd_map (hbd0 8 (Nat.le_of_ble_eq_true rfl))
 have hbd0_9 : e.n.length ≤ 140737488355328 := bd_map (hbd0 9 (Nat.le_of_ble_eq_true rfl))
 refine awp_bd 1 (x := .slice false (l.map fldIn)) rfl (fun hbd1 => ?_)
 have hbd1_0 : l.length ≤ 140737488355328 := bd_map (o := false) hbd1
 refine awp_bd 2 (x := .str name) rfl (fun hbd2 => ?_)
 have hbd2_0 : name.length ≤ 140737488355328 := hbd2
 refine awp_bd 3 (x := valTop v) rfl (fun hbd3 => ?_)
 have hbd3_2 : v.s.length ≤ 140737488355328 := (hbd3 2 (Nat.le_of_ble_eq_true rfl))
 have hbd3_3 : v.l.length ≤ 140737488355328 := bd_map (hbd3 3 (Nat.le_of_ble_eq_true rfl))
 have hbd3_4 : v.f.length ≤ 140737488355328 := bd_map (hbd3 4 (Nat.le_of_ble_eq_true rfl))
 show AWP _ _ _ _ [(0, expTop e), (1, .slice false (l.map fldIn)), (2, .str name), (3, valTop v)] m
 refine awp_reg2_seq [] [1, 2, 4, 7] (by decide) ?_
 intro K1 hK1
 refine ar_box rfl (m := m) (L := []) (v := expTop e) (by rfl) rfl ?_
 intro b1 hb1
 have hFb1 : m b1 = none := wth_none (m := m) (L := []) hb1
 have hNb1 : ([b1] : List Nat).Nodup := wth_nodup (m := m) (L := []) hb1 List.nodup_nil
 refine ar_box rfl (m := m) (L := [(b1, expO e)]) (v := valTop v) (by rfl) rfl ?_
 intro b2 hb2
 have hFb2 : m b2 = none := wth_none hb2
 have hNb2 : ([b2, b1] : List Nat).Nodup := wth_nodup hb2 hNb1
 refine ⟨trivial, ?_⟩
 show K1 [(1, .slice false (l.map fldIn)), (2, .str name), (4, .ptr ⟨b1, 0, none⟩), (7, .ptr ⟨b2, 0, none⟩)] (AMem.wth m [(b2, valO v), (b1, expO e)])
 refine hK1 _ _ ?_; clear hK1 K1
 refine awp_reg2_seq [] [1, 2, 4, 7, 9, 10] (by decide) ?_
 intro K1 hK1
 refine ⟨⟨rfl, by simp only [List.forall_mem_cons]; exact ⟨rfl, rfl, rfl, rfl, rfl, fun _ h => by cases h⟩, by simp only [List.forall_mem_cons]; exact ⟨rfl, rfl, fun _ h => by cases h⟩⟩, ⟨rfl, by simp only [List.forall_mem_cons]; exact ⟨rfl, rfl, rfl, rfl, rfl, rfl, fun _ h => by cases h⟩, by simp only [List.forall_mem_cons]; exact ⟨rfl, rfl, fun _ h => by cases h⟩⟩, ⟨rfl, by simp only [List.forall_mem_cons]; exact ⟨rfl, rfl, rfl, fun _ h => by cases h⟩, fun _ h => by cases h⟩, ?_⟩
 refine u_Eval5 _ _ ?_
 refine ⟨trivial, (Nat.le_of_ble_eq_true rfl), (Nat.le_of_ble_eq_true rfl), ?_⟩
 refine ar_alloc rfl (z := .agg [.int .i64 0, .int .i64 0, .str ([]), .slice true [], .slice true []]) rfl rfl ?_
 intro b3 hb3
 have hFb3 : m b3 = none := wth_none hb3
 have hNb3 : ([b3, b2, b1] : List Nat).Nodup := wth_nodup hb3 hNb2
 refine ar_storep rfl 0 (v := .agg [.int .i64 1, .int .i64 5, .str ([]), .slice false [], .slice false []]) (l' := [.int .i64 1, .int .i64 5, .str ([]), .slice false [], .slice false []]) rfl rfl hNb3 rfl rfl rfl rfl rfl (Nat.le_of_ble_eq_true rfl) rfl ?_
 refine ⟨trivial, ?_⟩
 show K1 [(1, .slice false (l.map fldIn)), (2, .str name), (4, .ptr ⟨b1, 0, none⟩), (7, .ptr ⟨b2, 0, none⟩), (9, .ptr ⟨b3, 0, none⟩), (10, .err 67 0)] (AMem.wth m [(b3, .cells [.int .i64 1, .int .i64 5, .str ([]), .slice false [], .slice false []]), (b2, valO v), (b1, expO e)])
 refine hK1 _ _ ?_; clear hK1 K1
 refine awp_seq_k ?_; intro K2 hK2
 refine awp_reg2_seq [] [1, 2, 4, 7, 32] (by decide) ?_
 intro K1 hK1
 suffices key : K1 [(1, .slice false (l.map fldIn)), (2, .str name), (4, .ptr ⟨b1, 0, none⟩), (7, .ptr ⟨b2, 0, none⟩), (32, .bool false)] (AMem.wth m [(b3, .cells [.int .i64 1, .int .i64 5, .str ([]), .slice false [], .slice false []]), (b2, valO v), (b1, expO e)]) by
  refine ⟨trivial, ⟨rfl, rfl⟩, trivial, ⟨rfl, by decide⟩, ?_⟩
  refine ar_loadp rfl (v := .int .i64 5) rfl (wth_get 0 hNb3 rfl) rfl (apartOk_one rfl rfl (Nat.le_of_ble_eq_true rfl)) rfl ?_
  refine ⟨trivial, ?_⟩
  exact key
 refine hK1 _ _ ?_; clear hK1 K1
 refine awp_cond rfl rfl (fun hcz => ?_) (fun hcz => ?_)
 ·
  cases hcz
 clear hcz
 refine awp_skip ?_
 refine hK2 _ _ ?_; clear hK2
 refine awp_seq_k ?_; intro K3 hK3
 refine awp_reg2_seq [] [1, 2, 4, 7, 50] (by decide) ?_
 intro K1 hK1
 suffices key : K1 [(1, .slice false (l.map fldIn)), (2, .str name), (4, .ptr ⟨b1, 0, none⟩), (7, .ptr ⟨b2, 0, none⟩), (50, .bool ((((!(decide (loadE 4000 e ≤ 4000))) || (!(lightFs l))) || (!(decide (weightV 4000 v ≤ 4000)))) || (decide (50 < (name.length : Int)))))] (AMem.wth m [(b3, .cells [.int .i64 1, .int .i64 5, .str ([]), .slice false [], .slice false []]), (b2, valO v), (b1, expO e)]) by
  refine ar_loadp rfl (v := .agg [.int .i64 e.kind, .int .i64 e.v.kind, .int .i64 e.v.n, .str e.v.s, .slice false (e.v.l.map valIn), .slice false (e.v.f.map fldIn), .str e.s, .str e.t, .slice false (e.a.map expIn), .slice false (e.n.map strAV)]) rfl (wth_get 2 hNb3 rfl) rfl (apartOk_agg rfl rfl (Nat.le_of_ble_eq_true rfl)) rfl ?_
  refine u_LightExpr e _ _ ?_
  refine ⟨trivial, trivial, ?_⟩
  show aopsR _ _ _ _ _ [(36, .bool (!(decide (loadE 4000 e ≤ 4000)))), (35, .bool (!(decide (loadE 4000 e ≤ 4000)))), (34, .bool (decide (loadE 4000 e ≤ 4000))), (33, .agg [.int .i64 e.kind, .int .i64 e.v.kind, .int .i64 e.v.n, .str e.v.s, .slice false (e.v.l.map valIn), .slice false (e.v.f.map fldIn), .str e.s, .str e.t, .slice false (e.a.map expIn), .slice false (e.n.map strAV)]), (1, .slice false (l.map fldIn)), (2, .str name), (4, .ptr ⟨b1, 0, none⟩), (7, .ptr ⟨b2, 0, none⟩), (32, .bool false)] _
  revert key
  cases h1 : (decide (loadE 4000 e ≤ 4000))
  ·
   replace h1 : decide (loadE 4000 e ≤ 4000) = false := h1
   intro key
   refine ar_off rfl (ar_off rfl (ar_off rfl ?_))
   refine ⟨trivial, ?_⟩
   refine ar_off rfl (ar_off rfl (ar_off rfl ?_))
   refine ⟨trivial, ?_⟩
   refine ar_off rfl (ar_off rfl (ar_off rfl ?_))
   exact key
  ·
   replace h1 : decide (loadE 4000 e ≤ 4000) = true := h1
   intro key
   refine ⟨trivial, ?_⟩
   refine u_LightFields l _ _ ?_
   refine ⟨trivial, ?_⟩
   refine ⟨trivial, ?_⟩
   show aopsR _ _ _ _ _ [(41, .bool (!(lightFs l))), (40, .bool (!(lightFs l))), (39, .bool (!(lightFs l))), (38, .bool (lightFs l)), (37, .slice false (l.map fldIn)), (36, .bool false), (35, .bool false), (34, .bool true), (33, .agg [.int .i64 e.kind, .int .i64 e.v.kind, .int .i64 e.v.n, .str e.v.s, .slice false (e.v.l.map valIn), .slice false (e.v.f.map fldIn), .str e.s, .str e.t, .slice false (e.a.map expIn), .slice false (e.n.map strAV)]), (1, .slice false (l.map fldIn)), (2, .str name), (4, .ptr ⟨b1, 0, none⟩), (7, .ptr ⟨b2, 0, none⟩), (32, .bool false)] _
   revert key
   cases h2 : (lightFs l)
   ·
    replace h2 : lightFs l = false := h2
    intro key
    refine ar_off rfl (ar_off rfl (ar_off rfl ?_))
    refine ⟨trivial, ?_⟩
    refine ar_off rfl (ar_off rfl (ar_off rfl ?_))
    exact key
   ·
    replace h2 : lightFs l = true := h2
    intro key
    refine ar_loadp rfl (v := .agg [.int .i64 v.kind, .int .i64 v.n, .str v.s, .slice false (v.l.map valIn), .slice false (v.f.map fldIn)]) rfl (wth_get 1 hNb3 rfl) rfl (apartOk_agg rfl rfl (Nat.le_of_ble_eq_true rfl)) rfl ?_
    refine u_LightValue v _ _ ?_
    refine ⟨trivial, ?_⟩
    refine ⟨trivial, ?_⟩
    show aopsR _ _ _ _ _ [(46, .bool (!(decide (weightV 4000 v ≤ 4000)))), (45, .bool (!(decide (weightV 4000 v ≤ 4000)))), (44, .bool (!(decide (weightV 4000 v ≤ 4000)))), (43, .bool (decide (weightV 4000 v ≤ 4000))), (42, .agg [.int .i64 v.kind, .int .i64 v.n, .str v.s, .slice false (v.l.map valIn), .slice false (v.f.map fldIn)]), (41, .bool false), (40, .bool false), (39, .bool false), (38, .bool true), (37, .slice false (l.map fldIn)), (36, .bool false), (35, .bool false), (34, .bool true), (33, .agg [.int .i64 e.kind, .int .i64 e.v.kind, .int .i64 e.v.n, .str e.v.s, .slice false (e.v.l.map valIn), .slice false (e.v.f.map fldIn), .str e.s, .str e.t, .slice false (e.a.map expIn), .slice false (e.n.map strAV)]), (1, .slice false (l.map fldIn)), (2, .str name), (4, .ptr ⟨b1, 0, none⟩), (7, .ptr ⟨b2, 0, none⟩), (32, .bool false)] _
    revert key
    cases h3 : (decide (weightV 4000 v ≤ 4000))
    ·
     replace h3 : decide (weightV 4000 v ≤ 4000) = false := h3
     intro key
     refine ar_off rfl (ar_off rfl (ar_off rfl ?_))
     exact key
    ·
     replace h3 : decide (weightV 4000 v ≤ 4000) = true := h3
     intro key
     refine ⟨trivial, trivial, trivial, ?_⟩
     exact key
 refine hK1 _ _ ?_; clear hK1 K1
 refine awp_cond rfl rfl (fun h4 => ?_) (fun h4 => ?_)
 ·
  replace h4 : (((decide (loadE 4000 e ≤ 4000) = false) ∨ (lightFs l = false)) ∨ (decide (weightV 4000 v ≤ 4000) = false)) ∨ (50 < (name.length : Int)) := ((borT h4).imp (fun q => ((borT q).imp (fun q => ((borT q).imp (fun q => (bnT q)) (fun q => (bnT q)))) (fun q => (bnT q)))) (fun q => (of_decide_eq_true q)))
  refine awp_reg2_seq [] [8] (by decide) ?_
  intro K1 hK1
  refine ⟨trivial, ?_⟩
  show K1 [(8, .bool true)] (AMem.wth m [(b3, .cells [.int .i64 1, .int .i64 5, .str ([]), .slice false [], .slice false []]), (b2, valO v), (b1, expO e)])
  refine hK1 _ _ ?_; clear hK1 K1
  refine awp_ret ?_
  refine ⟨trivial, m, (wth_sub2 (m := m) [(b3, .cells [.int .i64 1, .int .i64 5, .str ([]), .slice false [], .slice false []]), (b2, valO v), (b1, expO e)] [] hNb3 (by simp only [List.map_cons, List.map_nil, List.forall_mem_cons]; exact ⟨hFb3, hFb2, hFb1, fun _ h => by cases h⟩)), ?_⟩
  show K (.bool true) m
 
  exact hK
 replace h4 : (((decide (loadE 4000 e ≤ 4000) = true) ∧ (lightFs l = true)) ∧ (decide (weightV 4000 v ≤ 4000) = true)) ∧ ((name.length : Int) ≤ 50) := ⟨⟨⟨(bnF (borL (borL (borL h4)))), (bnF (borR (borL (borL h4))))⟩, (bnF (borR (borL h4)))⟩, (Int.not_lt.1 (of_decide_eq_false (borR h4)))⟩
 have hl12 := lightFs_len h4.1.1.2
 refine awp_skip ?_
 refine hK3 _ _ ?_; clear hK3
 refine awp_reg2_seq [] [1, 2, 4, 7, 11] (by decide) ?_
 intro K1 hK1
 refine ⟨trivial, ?_⟩
 refine u_Envs l (by first | (rw [List.length_append, List.length_singleton]; omega) | omega) _ _ ?_
 intro b4 b5 b6 hqb4 hb4 hb5 hb6
 have hFb4 : m b4 = none := wth_none hb4
 have hFb5 : m b5 = none := wth_none hb5
 have hFb6 : m b6 = none := wth_none hb6
 have hNb4 : ([b4, b5, b6, b3, b2, b1] : List Nat).Nodup := wth_news (m := m) (L := [(b3, .cells [.int .i64 1, .int .i64 5, .str ([]), .slice false [], .slice false []]), (b2, valO v), (b1, expO e)]) hqb4 (by simp only [List.forall_mem_cons]; exact ⟨hb4, hb5, hb6, fun _ h => by cases h⟩) hNb3
 show aopsR _ _ _ _ _ _ (AMem.wth m [(b4, vmO (envOf l)), (b5, vmO ([] : VMap)), (b6, nmO), (b3, .cells [.int .i64 1, .int .i64 5, .str ([]), .slice false [], .slice false []]), (b2, valO v), (b1, expO e)])
 refine ⟨trivial, (Nat.le_of_ble_eq_true rfl), (Nat.le_of_ble_eq_true rfl), ?_⟩
 refine ar_alloc rfl (z := .agg [.nilmap, .nilmap, .nilmap]) rfl rfl ?_
 intro b7 hb7
 have hFb7 : m b7 = none := wth_none hb7
 have hNb7 : ([b7, b4, b5, b6, b3, b2, b1] : List Nat).Nodup := wth_nodup hb7 hNb4
 refine ar_alloc rfl (z := .agg [.nilmap, .nilmap, .nilmap]) rfl rfl ?_
 intro b8 hb8
 have hFb8 : m b8 = none := wth_none hb8
 have hNb8 : ([b8, b7, b4, b5, b6, b3, b2, b1] : List Nat).Nodup := wth_nodup hb8 hNb7
 refine ar_storep rfl 1 (v := .agg [.map b4, .map b5, .map b6]) (l' := [.map b4, .map b5, .map b6]) rfl rfl hNb8 rfl rfl rfl rfl rfl (Nat.le_of_ble_eq_true rfl) rfl ?_
 refine ar_storep rfl 0 (v := .agg [.map b4, .map b5, .map b6]) (l' := [.map b4, .map b5, .map b6]) rfl rfl hNb8 rfl rfl rfl rfl rfl (Nat.le_of_ble_eq_true rfl) rfl ?_
 show K1 [(1, .slice false (l.map fldIn)), (2, .str name), (4, .ptr ⟨b1, 0, none⟩), (7, .ptr ⟨b2, 0, none⟩), (11, .ptr ⟨b7, 0, none⟩)] (AMem.wth m [(b8, .cells [.map b4, .map b5, .map b6]), (b7, .cells [.map b4, .map b5, .map b6]), (b4, vmO (envOf l)), (b5, vmO ([] : VMap)), (b6, nmO), (b3, .cells [.int .i64 1, .int .i64 5, .str ([]), .slice false [], .slice false []]), (b2, valO v), (b1, expO e)])
 refine hK1 _ _ ?_; clear hK1 K1
 refine awp_reg2_seq [] [1, 2, 4, 7, 13, 14] (by decide) ?_
 intro K1 hK1
 refine ar_loadp rfl (v := .agg [.int .i64 e.kind, .int .i64 e.v.kind, .int .i64 e.v.n, .str e.v.s, .slice false (e.v.l.map valIn), .slice false (e.v.f.map fldIn), .str e.s, .str e.t, .slice false (e.a.map expIn), .slice false (e.n.map strAV)]) rfl (wth_get 7 hNb8 rfl) rfl (apartOk_agg rfl rfl (Nat.le_of_ble_eq_true rfl)) rfl ?_
 refine ar_loadp rfl (v := .agg [.map b4, .map b5, .map b6]) rfl (wth_get 1 hNb8 rfl) rfl (apartOk_agg rfl rfl (Nat.le_of_ble_eq_true rfl)) rfl ?_
 refine ar_mem (wth_split hNb8 (pick_perm [2, 2, 2] _)) ?_
 refine u_EvalT e b4 b5 b6 (envOf l) [] (by simp at hNb8 ⊢; omega) (envOf_ok _ (by first | exact hin.2 | exact hin2)) (fun _ h => by cases h) hok _ _ ?_
 show aopsR _ _ _ _ _ _ (AMem.wth (AMem.wth m [(b8, .cells [.map b4, .map b5, .map b6]), (b7, .cells [.map b4, .map b5, .map b6]), (b3, .cells [.int .i64 1, .int .i64 5, .str ([]), .slice false [], .slice false []]), (b2, valO v), (b1, expO e)]) [(b4, vmO (envOf l)), (b5, vmO ([] : VMap)), (b6, nmO)])
 refine ar_mem (wth_split (m := m) (L := [(b8, .cells [.map b4, .map b5, .map b6]), (b7, .cells [.map b4, .map b5, .map b6]), (b4, vmO (envOf l)), (b5, vmO ([] : VMap)), (b6, nmO), (b3, .cells [.int .i64 1, .int .i64 5, .str ([]), .slice false [], .slice false []]), (b2, valO v), (b1, expO e)]) hNb8 (pick_perm [2, 2, 2] _)).symm ?_
 refine ⟨trivial, (Nat.le_of_ble_eq_true rfl), (Nat.le_of_ble_eq_true rfl), ?_⟩
 refine ar_alloc rfl (z := .agg [.int .i64 0, .int .i64 0, .str ([]), .slice true [], .slice true []]) rfl rfl ?_
 intro b9 hb9
 have hFb9 : m b9 = none := wth_none hb9
 have hNb9 : ([b9, b8, b7, b4, b5, b6, b3, b2, b1] : List Nat).Nodup := wth_nodup hb9 hNb8
 refine ar_storep rfl 0 (v := valTop ((gE (envOf l) [] (depE e + 1) e).1)) (l' := [.int .i64 (((gE (envOf l) [] (depE e + 1) e).1).kind), .int .i64 (((gE (envOf l) [] (depE e + 1) e).1).n), .str (((gE (envOf l) [] (depE e + 1) e).1).s), .slice false ((((gE (envOf l) [] (depE e + 1) e).1).l).map valIn), .slice false ((((gE (envOf l) [] (depE e + 1) e).1).f).map fldIn)]) rfl (by rfl) hNb9 rfl rfl rfl rfl rfl (Nat.le_of_ble_eq_true rfl) rfl ?_
 refine ⟨trivial, ?_⟩
 show K1 [(1, .slice false (l.map fldIn)), (2, .str name), (4, .ptr ⟨b1, 0, none⟩), (7, .ptr ⟨b2, 0, none⟩), (13, .ptr ⟨b9, 0, none⟩), (14, .err 67 ((gE (envOf l) [] (depE e + 1) e).2))] (AMem.wth m [(b9, valO ((gE (envOf l) [] (depE e + 1) e).1)), (b8, .cells [.map b4, .map b5, .map b6]), (b7, .cells [.map b4, .map b5, .map b6]), (b4, vmO (envOf l)), (b5, vmO ([] : VMap)), (b6, nmO), (b3, .cells [.int .i64 1, .int .i64 5, .str ([]), .slice false [], .slice false []]), (b2, valO v), (b1, expO e)])
 refine hK1 _ _ ?_; clear hK1 K1
 refine awp_seq_k ?_; intro K4 hK4
 refine awp_reg2_seq [] [1, 2, 4, 7, 13, 14, 64] (by decide) ?_
 intro K1 hK1
 refine ar_loadp rfl (v := .agg [.int .i64 e.kind, .int .i64 e.v.kind, .int .i64 e.v.n, .str e.v.s, .slice false (e.v.l.map valIn), .slice false (e.v.f.map fldIn), .str e.s, .str e.t, .slice false (e.a.map expIn), .slice false (e.n.map strAV)]) rfl (wth_get 8 hNb9 rfl) rfl (apartOk_agg rfl rfl (Nat.le_of_ble_eq_true rfl)) rfl ?_
 refine ⟨trivial, ?_⟩
 refine u_names name (depE e + 1) e (Nat.lt_succ_self _) _ _ ?_
 show K1 [(1, .slice false (l.map fldIn)), (2, .str name), (4, .ptr ⟨b1, 0, none⟩), (7, .ptr ⟨b2, 0, none⟩), (13, .ptr ⟨b9, 0, none⟩), (14, .err 67 ((gE (envOf l) [] (depE e + 1) e).2)), (64, .bool (namesF name (depE e + 1) e))] (AMem.wth m [(b9, valO ((gE (envOf l) [] (depE e + 1) e).1)), (b8, .cells [.map b4, .map b5, .map b6]), (b7, .cells [.map b4, .map b5, .map b6]), (b4, vmO (envOf l)), (b5, vmO ([] : VMap)), (b6, nmO), (b3, .cells [.int .i64 1, .int .i64 5, .str ([]), .slice false [], .slice false []]), (b2, valO v), (b1, expO e)])
 refine hK1 _ _ ?_; clear hK1 K1
 refine awp_cond rfl rfl (fun h5 => ?_) (fun h5 => ?_)
 ·
  replace h5 : namesF name (depE e + 1) e = true := h5
  refine awp_reg2_seq [] [8] (by decide) ?_
  intro K1 hK1
  refine ⟨trivial, ?_⟩
  show K1 [(8, .bool true)] (AMem.wth m [(b9, valO ((gE (envOf l) [] (depE e + 1) e).1)), (b8, .cells [.map b4, .map b5, .map b6]), (b7, .cells [.map b4, .map b5, .map b6]), (b4, vmO (envOf l)), (b5, vmO ([] : VMap)), (b6, nmO), (b3, .cells [.int .i64 1, .int .i64 5, .str ([]), .slice false [], .slice false []]), (b2, valO v), (b1, expO e)])
  refine hK1 _ _ ?_; clear hK1 K1
  refine awp_ret ?_
  refine ⟨trivial, m, (wth_sub2 (m := m) [(b9, valO ((gE (envOf l) [] (depE e + 1) e).1)), (b8, .cells [.map b4, .map b5, .map b6]), (b7, .cells [.map b4, .map b5, .map b6]), (b4, vmO (envOf l)), (b5, vmO ([] : VMap)), (b6, nmO), (b3, .cells [.int .i64 1, .int .i64 5, .str ([]), .slice false [], .slice false []]), (b2, valO v), (b1, expO e)] [] hNb9 (by simp only [List.map_cons, List.map_nil, List.forall_mem_cons]; exact ⟨hFb9, hFb8, hFb7, hFb4, hFb5, hFb6, hFb3, hFb2, hFb1, fun _ h => by cases h⟩)), ?_⟩
  show K (.bool true) m
 
  exact hK
 replace h5 : namesF name (depE e + 1) e = false := h5
 refine awp_skip ?_
 refine hK4 _ _ ?_; clear hK4
 have hNd1 : ([b9, b2, b1] : List Nat).Nodup := drop_nodup (L := [(b9, valO ((gE (envOf l) [] (depE e + 1) e).1)), (b8, .cells [.map b4, .map b5, .map b6]), (b7, .cells [.map b4, .map b5, .map b6]), (b4, vmO (envOf l)), (b5, vmO ([] : VMap)), (b6, nmO), (b3, .cells [.int .i64 1, .int .i64 5, .str ([]), .slice false [], .slice false []]), (b2, valO v), (b1, expO e)]) hNb9 (pick_perm [1, 1, 1, 1, 1, 1] _)
 refine awp_dropP [(b8, .cells [.map b4, .map b5, .map b6]), (b7, .cells [.map b4, .map b5, .map b6]), (b4, vmO (envOf l)), (b5, vmO ([] : VMap)), (b6, nmO), (b3, .cells [.int .i64 1, .int .i64 5, .str ([]), .slice false [], .slice false []])] [(b9, valO ((gE (envOf l) [] (depE e + 1) e).1)), (b2, valO v), (b1, expO e)] hNb9 (pick_perm [1, 1, 1, 1, 1, 1] _) (by simp only [List.map_cons, List.map_nil, List.forall_mem_cons]; exact ⟨hFb8, hFb7, hFb4, hFb5, hFb6, hFb3, fun _ h => by cases h⟩) ?_
 refine awp_anyA_seq Try.mixed [4, 13, 14, 15] (by decide) ?_
 intro K1 hK1
 intro A hA
 suffices key : ∀ (b58 : Nat) (hFb58 : m b58 = none) (b54 : Nat) (hFb54 : m b54 = none) (b40 : Nat) (hFb40 : m b40 = none) (b39 : Nat) (hFb39 : m b39 = none) (b38 : Nat) (hFb38 : m b38 = none) (hNv1 : ([b58, b54, b40, b39, b38, b9, b2, b1] : List Nat).Nodup), K1 [(4, .ptr ⟨b1, 0, none⟩), (13, .ptr ⟨b9, 0, none⟩), (14, .err 67 ((gE (envOf l) [] (depE e + 1) e).2)), (15, .ptr ⟨b54, 0, none⟩)] (AMem.wth m [(b58, .cells [.map b38, .map b39, .map b40]), (b54, .cells [.map b38, .map b39, .map b40]), (b40, nmO), (b39, vmO ([] : VMap)), (b38, vmO (envOf (l ++ ([(⟨name, v⟩ : (Str × Val))] : List (Str × Val))))), (b9, valO ((gE (envOf l) [] (depE e + 1) e).1)), (b2, valO v), (b1, expO e)]) by
  have s0 : ∀ (b58 : Nat) (hFb58 : m b58 = none) (b54 : Nat) (hFb54 : m b54 = none) (b40 : Nat) (hFb40 : m b40 = none) (b39 : Nat) (hFb39 : m b39 = none) (b38 : Nat) (hFb38 : m b38 = none) (hNv1 : ([b58, b54, b40, b39, b38, b9, b2, b1] : List Nat).Nodup), A 0 #[true, true, true, true, true, true, true, true, true, true, true, true, true, true, true] (fun fr m => K1 (fr.keep [4, 13, 14, 15]) m) [(4, .ptr ⟨b1, 0, none⟩), (13, .ptr ⟨b9, 0, none⟩), (14, .err 67 ((gE (envOf l) [] (depE e + 1) e).2)), (15, .ptr ⟨b54, 0, none⟩)] (AMem.wth m [(b58, .cells [.map b38, .map b39, .map b40]), (b54, .cells [.map b38, .map b39, .map b40]), (b40, nmO), (b39, vmO ([] : VMap)), (b38, vmO (envOf (l ++ ([(⟨name, v⟩ : (Str × Val))] : List (Str × Val))))), (b9, valO ((gE (envOf l) [] (depE e + 1) e).1)), (b2, valO v), (b1, expO e)]) := by
   intro b58 hFb58 b54 hFb54 b40 hFb40 b39 hFb39 b38 hFb38 hNv1
   subst hA
   exact AAny.done (by decide +kernel) (key b58 hFb58 b54 hFb54 b40 hFb40 b39 hFb39 b38 hFb38 hNv1)
  have s1 : ∀ (b58 : Nat) (hFb58 : m b58 = none) (b54 : Nat) (hFb54 : m b54 = none) (b40 : Nat) (hFb40 : m b40 = none) (b39 : Nat) (hFb39 : m b39 = none) (b38 : Nat) (hFb38 : m b38 = none) (hNv1 : ([b58, b54, b40, b39, b38, b9, b2, b1] : List Nat).Nodup), A 1 #[true, true, true, true, true, true, true, true, true, true, true, true, true, true, false] (fun fr m => K1 (fr.keep [4, 13, 14, 15]) m) [(4, .ptr ⟨b1, 0, none⟩), (13, .ptr ⟨b9, 0, none⟩), (14, .err 67 ((gE (envOf l) [] (depE e + 1) e).2)), (15, .ptr ⟨b54, 0, none⟩), (16, .ptr ⟨b58, 0, none⟩), (75, .agg [.map b38, .map b39, .map b40])] (AMem.wth m [(b58, .cells [.nilmap, .nilmap, .nilmap]), (b54, .cells [.map b38, .map b39, .map b40]), (b40, nmO), (b39, vmO ([] : VMap)), (b38, vmO (envOf (l ++ ([(⟨name, v⟩ : (Str × Val))] : List (Str × Val))))), (b9, valO ((gE (envOf l) [] (depE e + 1) e).1)), (b2, valO v), (b1, expO e)]) := by
   intro b58 hFb58 b54 hFb54 b40 hFb40 b39 hFb39 b38 hFb38 hNv1
   subst hA
   refine AAny.step [] [14] (by decide +kernel) (by simp) (by decide) ⟨?_, trivial⟩
   ·
    show aopsR _ _ _ [_] _ _ _
    refine ar_storep rfl 0 (v := .agg [.map b38, .map b39, .map b40]) (l' := [.map b38, .map b39, .map b40]) rfl rfl hNv1 rfl rfl rfl rfl rfl (Nat.le_of_ble_eq_true rfl) rfl ?_
    refine AAny.keep [4, 13, 14, 15] (by decide) ?_
    exact s0 b58 hFb58 b54 hFb54 b40 hFb40 b39 hFb39 b38 hFb38 hNv1
  clear s0
  have s2 : ∀ (b58 : Nat) (hFb58 : m b58 = none) (b54 : Nat) (hFb54 : m b54 = none) (b40 : Nat) (hFb40 : m b40 = none) (b39 : Nat) (hFb39 : m b39 = none) (b38 : Nat) (hFb38 : m b38 = none) (hNv1 : ([b58, b54, b40, b39, b38, b9, b2, b1] : List Nat).Nodup), A 2 #[true, true, true, true, true, true, true, true, true, true, true, true, true, false, false] (fun fr m => K1 (fr.keep [4, 13, 14, 15]) m) [(4, .ptr ⟨b1, 0, none⟩), (13, .ptr ⟨b9, 0, none⟩), (14, .err 67 ((gE (envOf l) [] (depE e + 1) e).2)), (15, .ptr ⟨b54, 0, none⟩), (16, .ptr ⟨b58, 0, none⟩), (74, .agg [.map b38, .map b39, .map b40]), (75, .agg [.map b38, .map b39, .map b40])] (AMem.wth m [(b58, .cells [.nilmap, .nilmap, .nilmap]), (b54, .cells [.nilmap, .nilmap, .nilmap]), (b40, nmO), (b39, vmO ([] : VMap)), (b38, vmO (envOf (l ++ ([(⟨name, v⟩ : (Str × Val))] : List (Str × Val))))), (b9, valO ((gE (envOf l) [] (depE e + 1) e).1)), (b2, valO v), (b1, expO e)]) := by
   intro b58 hFb58 b54 hFb54 b40 hFb40 b39 hFb39 b38 hFb38 hNv1
   subst hA
   refine AAny.step [] [13] (by decide +kernel) (by simp) (by decide) ⟨?_, trivial⟩
   ·
    show aopsR _ _ _ [_] _ _ _
    refine ar_storep rfl 1 (v := .agg [.map b38, .map b39, .map b40]) (l' := [.map b38, .map b39, .map b40]) rfl rfl hNv1 rfl rfl rfl rfl rfl (Nat.le_of_ble_eq_true rfl) rfl ?_
    refine AAny.keep [4, 13, 14, 15, 16, 75] (by decide) ?_
    exact s1 b58 hFb58 b54 hFb54 b40 hFb40 b39 hFb39 b38 hFb38 hNv1
  have s3 : ∀ (b58 : Nat) (hFb58 : m b58 = none) (b54 : Nat) (hFb54 : m b54 = none) (b40 : Nat) (hFb40 : m b40 = none) (b39 : Nat) (hFb39 : m b39 = none) (b38 : Nat) (hFb38 : m b38 = none) (hNv1 : ([b58, b54, b40, b39, b38, b9, b2, b1] : List Nat).Nodup), A 2 #[true, true, true, true, true, true, true, true, true, true, false, true, true, true, false] (fun fr m => K1 (fr.keep [4, 13, 14, 15]) m) [(4, .ptr ⟨b1, 0, none⟩), (13, .ptr ⟨b9, 0, none⟩), (14, .err 67 ((gE (envOf l) [] (depE e + 1) e).2)), (15, .ptr ⟨b54, 0, none⟩), (16, .ptr ⟨b58, 0, none⟩), (65, .tuple [.agg [.map b38, .map b39, .map b40], .agg [.map b38, .map b39, .map b40]])] (AMem.wth m [(b58, .cells [.nilmap, .nilmap, .nilmap]), (b54, .cells [.map b38, .map b39, .map b40]), (b40, nmO), (b39, vmO ([] : VMap)), (b38, vmO (envOf (l ++ ([(⟨name, v⟩ : (Str × Val))] : List (Str × Val))))), (b9, valO ((gE (envOf l) [] (depE e + 1) e).1)), (b2, valO v), (b1, expO e)]) := by
   intro b58 hFb58 b54 hFb54 b40 hFb40 b39 hFb39 b38 hFb38 hNv1
   subst hA
   refine AAny.step [] [10] (by decide +kernel) (by simp) (by decide) ⟨?_, trivial⟩
   ·
    show aopsR _ _ _ [_] _ _ _
    refine ⟨(Nat.le_of_ble_eq_true rfl), ?_⟩
    refine AAny.keep [4, 13, 14, 15, 16, 75] (by decide) ?_
    exact s1 b58 hFb58 b54 hFb54 b40 hFb40 b39 hFb39 b38 hFb38 hNv1
  clear s1
  have s4 : ∀ (b54 : Nat) (hFb54 : m b54 = none) (b40 : Nat) (hFb40 : m b40 = none) (b39 : Nat) (hFb39 : m b39 = none) (b38 : Nat) (hFb38 : m b38 = none) (hNv1 : ([b54, b40, b39, b38, b9, b2, b1] : List Nat).Nodup), A 3 #[true, true, true, true, true, true, true, true, true, true, true, true, false, false, false] (fun fr m => K1 (fr.keep [4, 13, 14, 15]) m) [(4, .ptr ⟨b1, 0, none⟩), (13, .ptr ⟨b9, 0, none⟩), (14, .err 67 ((gE (envOf l) [] (depE e + 1) e).2)), (15, .ptr ⟨b54, 0, none⟩), (74, .agg [.map b38, .map b39, .map b40]), (75, .agg [.map b38, .map b39, .map b40])] (AMem.wth m [(b54, .cells [.nilmap, .nilmap, .nilmap]), (b40, nmO), (b39, vmO ([] : VMap)), (b38, vmO (envOf (l ++ ([(⟨name, v⟩ : (Str × Val))] : List (Str × Val))))), (b9, valO ((gE (envOf l) [] (depE e + 1) e).1)), (b2, valO v), (b1, expO e)]) := by
   intro b54 hFb54 b40 hFb40 b39 hFb39 b38 hFb38 hNv1
   subst hA
   refine AAny.step [] [12] (by decide +kernel) (by simp) (by decide) ⟨?_, trivial⟩
   ·
    show aopsR _ _ _ [_] _ _ _
    refine ar_alloc rfl (z := .agg [.nilmap, .nilmap, .nilmap]) rfl rfl ?_
    intro b58 hb58
    have hFb58 : m b58 = none := wth_none hb58
    have hNb58 : ([b58, b54, b40, b39, b38, b9, b2, b1] : List Nat).Nodup := wth_nodup hb58 hNv1
    refine AAny.keep [4, 13, 14, 15, 16, 74, 75] (by decide) ?_
    exact s2 b58 hFb58 b54 hFb54 b40 hFb40 b39 hFb39 b38 hFb38 hNb58
  have s5 : ∀ (b58 : Nat) (hFb58 : m b58 = none) (b40 : Nat) (hFb40 : m b40 = none) (b39 : Nat) (hFb39 : m b39 = none) (b38 : Nat) (hFb38 : m b38 = none) (hNv1 : ([b58, b40, b39, b38, b9, b2, b1] : List Nat).Nodup), A 3 #[true, true, true, true, true, true, true, true, true, true, true, false, true, false, false] (fun fr m => K1 (fr.keep [4, 13, 14, 15]) m) [(4, .ptr ⟨b1, 0, none⟩), (13, .ptr ⟨b9, 0, none⟩), (14, .err 67 ((gE (envOf l) [] (depE e + 1) e).2)), (16, .ptr ⟨b58, 0, none⟩), (74, .agg [.map b38, .map b39, .map b40]), (75, .agg [.map b38, .map b39, .map b40])] (AMem.wth m [(b58, .cells [.nilmap, .nilmap, .nilmap]), (b40, nmO), (b39, vmO ([] : VMap)), (b38, vmO (envOf (l ++ ([(⟨name, v⟩ : (Str × Val))] : List (Str × Val))))), (b9, valO ((gE (envOf l) [] (depE e + 1) e).1)), (b2, valO v), (b1, expO e)]) := by
   intro b58 hFb58 b40 hFb40 b39 hFb39 b38 hFb38 hNv1
   subst hA
   refine AAny.step [] [11] (by decide +kernel) (by simp) (by decide) ⟨?_, trivial⟩
   ·
    show aopsR _ _ _ [_] _ _ _
    refine ar_alloc rfl (z := .agg [.nilmap, .nilmap, .nilmap]) rfl rfl ?_
    intro b54 hb54
    have hFb54 : m b54 = none := wth_none hb54
    have hNb54 : ([b54, b58, b40, b39, b38, b9, b2, b1] : List Nat).Nodup := wth_nodup hb54 hNv1
    refine AAny.keep [4, 13, 14, 15, 16, 74, 75] (by decide) ?_
    refine AAny.memEq (wth_perm (m := m) (L := [(b54, .cells [.nilmap, .nilmap, .nilmap]), (b58, .cells [.nilmap, .nilmap, .nilmap]), (b40, nmO), (b39, vmO ([] : VMap)), (b38, vmO (envOf (l ++ ([(⟨name, v⟩ : (Str × Val))] : List (Str × Val))))), (b9, valO ((gE (envOf l) [] (depE e + 1) e).1)), (b2, valO v), (b1, expO e)]) (L' := [(b58, .cells [.nilmap, .nilmap, .nilmap]), (b54, .cells [.nilmap, .nilmap, .nilmap]), (b40, nmO), (b39, vmO ([] : VMap)), (b38, vmO (envOf (l ++ ([(⟨name, v⟩ : (Str × Val))] : List (Str × Val))))), (b9, valO ((gE (envOf l) [] (depE e + 1) e).1)), (b2, valO v), (b1, expO e)]) hNb54 (pick_perm [1, 0, 0, 0, 0, 0, 0, 0] _)) ?_
    have hNp : ([b58, b54, b40, b39, b38, b9, b2, b1] : List Nat).Nodup := perm_nodup (L := [(b54, .cells [.nilmap, .nilmap, .nilmap]), (b58, .cells [.nilmap, .nilmap, .nilmap]), (b40, nmO), (b39, vmO ([] : VMap)), (b38, vmO (envOf (l ++ ([(⟨name, v⟩ : (Str × Val))] : List (Str × Val))))), (b9, valO ((gE (envOf l) [] (depE e + 1) e).1)), (b2, valO v), (b1, expO e)]) (L' := [(b58, .cells [.nilmap, .nilmap, .nilmap]), (b54, .cells [.nilmap, .nilmap, .nilmap]), (b40, nmO), (b39, vmO ([] : VMap)), (b38, vmO (envOf (l ++ ([(⟨name, v⟩ : (Str × Val))] : List (Str × Val))))), (b9, valO ((gE (envOf l) [] (depE e + 1) e).1)), (b2, valO v), (b1, expO e)]) hNb54 (pick_perm [1, 0, 0, 0, 0, 0, 0, 0] _)
    exact s2 b58 hFb58 b54 hFb54 b40 hFb40 b39 hFb39 b38 hFb38 hNp
  have s6 : ∀ (b58 : Nat) (hFb58 : m b58 = none) (b54 : Nat) (hFb54 : m b54 = none) (b40 : Nat) (hFb40 : m b40 = none) (b39 : Nat) (hFb39 : m b39 = none) (b38 : Nat) (hFb38 : m b38 = none) (hNv1 : ([b58, b54, b40, b39, b38, b9, b2, b1] : List Nat).Nodup), A 3 #[true, true, true, true, true, true, true, true, true, true, false, true, true, false, false] (fun fr m => K1 (fr.keep [4, 13, 14, 15]) m) [(4, .ptr ⟨b1, 0, none⟩), (13, .ptr ⟨b9, 0, none⟩), (14, .err 67 ((gE (envOf l) [] (depE e + 1) e).2)), (15, .ptr ⟨b54, 0, none⟩), (16, .ptr ⟨b58, 0, none⟩), (65, .tuple [.agg [.map b38, .map b39, .map b40], .agg [.map b38, .map b39, .map b40]]), (74, .agg [.map b38, .map b39, .map b40])] (AMem.wth m [(b58, .cells [.nilmap, .nilmap, .nilmap]), (b54, .cells [.nilmap, .nilmap, .nilmap]), (b40, nmO), (b39, vmO ([] : VMap)), (b38, vmO (envOf (l ++ ([(⟨name, v⟩ : (Str × Val))] : List (Str × Val))))), (b9, valO ((gE (envOf l) [] (depE e + 1) e).1)), (b2, valO v), (b1, expO e)]) := by
   intro b58 hFb58 b54 hFb54 b40 hFb40 b39 hFb39 b38 hFb38 hNv1
   subst hA
   refine AAny.step [] [10, 13] (by decide +kernel) (by simp) (by decide) ⟨?_, ?_, trivial⟩
   ·
    show aopsR _ _ _ [_] _ _ _
    refine ⟨(Nat.le_of_ble_eq_true rfl), ?_⟩
    refine AAny.keep [4, 13, 14, 15, 16, 74, 75] (by decide) ?_
    exact s2 b58 hFb58 b54 hFb54 b40 hFb40 b39 hFb39 b38 hFb38 hNv1
   ·
    show aopsR _ _ _ [_] _ _ _
    refine ar_storep rfl 1 (v := .agg [.map b38, .map b39, .map b40]) (l' := [.map b38, .map b39, .map b40]) rfl rfl hNv1 rfl rfl rfl rfl rfl (Nat.le_of_ble_eq_true rfl) rfl ?_
    refine AAny.keep [4, 13, 14, 15, 16, 65] (by decide) ?_
    exact s3 b58 hFb58 b54 hFb54 b40 hFb40 b39 hFb39 b38 hFb38 hNv1
  clear s3
  have s7 : ∀ (b58 : Nat) (hFb58 : m b58 = none) (b54 : Nat) (hFb54 : m b54 = none) (b40 : Nat) (hFb40 : m b40 = none) (b39 : Nat) (hFb39 : m b39 = none) (b38 : Nat) (hFb38 : m b38 = none) (hNv1 : ([b58, b54, b40, b39, b38, b9, b2, b1] : List Nat).Nodup), A 3 #[true, true, true, true, true, true, true, true, true, false, true, true, true, false, false] (fun fr m => K1 (fr.keep [4, 13, 14, 15]) m) [(4, .ptr ⟨b1, 0, none⟩), (13, .ptr ⟨b9, 0, none⟩), (14, .err 67 ((gE (envOf l) [] (depE e + 1) e).2)), (15, .ptr ⟨b54, 0, none⟩), (16, .ptr ⟨b58, 0, none⟩), (65, .tuple [.agg [.map b38, .map b39, .map b40], .agg [.map b38, .map b39, .map b40]]), (75, .agg [.map b38, .map b39, .map b40])] (AMem.wth m [(b58, .cells [.nilmap, .nilmap, .nilmap]), (b54, .cells [.nilmap, .nilmap, .nilmap]), (b40, nmO), (b39, vmO ([] : VMap)), (b38, vmO (envOf (l ++ ([(⟨name, v⟩ : (Str × Val))] : List (Str × Val))))), (b9, valO ((gE (envOf l) [] (depE e + 1) e).1)), (b2, valO v), (b1, expO e)]) := by
   intro b58 hFb58 b54 hFb54 b40 hFb40 b39 hFb39 b38 hFb38 hNv1
   subst hA
   refine AAny.step [] [9] (by decide +kernel) (by simp) (by decide) ⟨?_, trivial⟩
   ·
    show aopsR _ _ _ [_] _ _ _
    refine ⟨(Nat.le_of_ble_eq_true rfl), ?_⟩
    refine AAny.keep [4, 13, 14, 15, 16, 74, 75] (by decide) ?_
    exact s2 b58 hFb58 b54 hFb54 b40 hFb40 b39 hFb39 b38 hFb38 hNv1
  clear s2
  have s8 : ∀ (b40 : Nat) (hFb40 : m b40 = none) (b39 : Nat) (hFb39 : m b39 = none) (b38 : Nat) (hFb38 : m b38 = none) (hNv1 : ([b40, b39, b38, b9, b2, b1] : List Nat).Nodup), A 4 #[true, true, true, true, true, true, true, true, true, true, true, false, false, false, false] (fun fr m => K1 (fr.keep [4, 13, 14, 15]) m) [(4, .ptr ⟨b1, 0, none⟩), (13, .ptr ⟨b9, 0, none⟩), (14, .err 67 ((gE (envOf l) [] (depE e + 1) e).2)), (74, .agg [.map b38, .map b39, .map b40]), (75, .agg [.map b38, .map b39, .map b40])] (AMem.wth m [(b40, nmO), (b39, vmO ([] : VMap)), (b38, vmO (envOf (l ++ ([(⟨name, v⟩ : (Str × Val))] : List (Str × Val))))), (b9, valO ((gE (envOf l) [] (depE e + 1) e).1)), (b2, valO v), (b1, expO e)]) := by
   intro b40 hFb40 b39 hFb39 b38 hFb38 hNv1
   subst hA
   refine AAny.step [] [11, 12] (by decide +kernel) (by simp) (by decide) ⟨?_, ?_, trivial⟩
   ·
    show aopsR _ _ _ [_] _ _ _
    refine ar_alloc rfl (z := .agg [.nilmap, .nilmap, .nilmap]) rfl rfl ?_
    intro b54 hb54
    have hFb54 : m b54 = none := wth_none hb54
    have hNb54 : ([b54, b40, b39, b38, b9, b2, b1] : List Nat).Nodup := wth_nodup hb54 hNv1
    refine AAny.keep [4, 13, 14, 15, 74, 75] (by decide) ?_
    exact s4 b54 hFb54 b40 hFb40 b39 hFb39 b38 hFb38 hNb54
   ·
    show aopsR _ _ _ [_] _ _ _
    refine ar_alloc rfl (z := .agg [.nilmap, .nilmap, .nilmap]) rfl rfl ?_
    intro b58 hb58
    have hFb58 : m b58 = none := wth_none hb58
    have hNb58 : ([b58, b40, b39, b38, b9, b2, b1] : List Nat).Nodup := wth_nodup hb58 hNv1
    refine AAny.keep [4, 13, 14, 16, 74, 75] (by decide) ?_
    exact s5 b58 hFb58 b40 hFb40 b39 hFb39 b38 hFb38 hNb58
  have s9 : ∀ (b54 : Nat) (hFb54 : m b54 = none) (b40 : Nat) (hFb40 : m b40 = none) (b39 : Nat) (hFb39 : m b39 = none) (b38 : Nat) (hFb38 : m b38 = none) (hNv1 : ([b54, b40, b39, b38, b9, b2, b1] : List Nat).Nodup), A 4 #[true, true, true, true, true, true, true, true, true, true, false, true, false, false, false] (fun fr m => K1 (fr.keep [4, 13, 14, 15]) m) [(4, .ptr ⟨b1, 0, none⟩), (13, .ptr ⟨b9, 0, none⟩), (14, .err 67 ((gE (envOf l) [] (depE e + 1) e).2)), (15, .ptr ⟨b54, 0, none⟩), (65, .tuple [.agg [.map b38, .map b39, .map b40], .agg [.map b38, .map b39, .map b40]]), (74, .agg [.map b38, .map b39, .map b40])] (AMem.wth m [(b54, .cells [.nilmap, .nilmap, .nilmap]), (b40, nmO), (b39, vmO ([] : VMap)), (b38, vmO (envOf (l ++ ([(⟨name, v⟩ : (Str × Val))] : List (Str × Val))))), (b9, valO ((gE (envOf l) [] (depE e + 1) e).1)), (b2, valO v), (b1, expO e)]) := by
   intro b54 hFb54 b40 hFb40 b39 hFb39 b38 hFb38 hNv1
   subst hA
   refine AAny.step [] [10, 12] (by decide +kernel) (by simp) (by decide) ⟨?_, ?_, trivial⟩
   ·
    show aopsR _ _ _ [_] _ _ _
    refine ⟨(Nat.le_of_ble_eq_true rfl), ?_⟩
    refine AAny.keep [4, 13, 14, 15, 74, 75] (by decide) ?_
    exact s4 b54 hFb54 b40 hFb40 b39 hFb39 b38 hFb38 hNv1
   ·
    show aopsR _ _ _ [_] _ _ _
    refine ar_alloc rfl (z := .agg [.nilmap, .nilmap, .nilmap]) rfl rfl ?_
    intro b58 hb58
    have hFb58 : m b58 = none := wth_none hb58
    have hNb58 : ([b58, b54, b40, b39, b38, b9, b2, b1] : List Nat).Nodup := wth_nodup hb58 hNv1
    refine AAny.keep [4, 13, 14, 15, 16, 65, 74] (by decide) ?_
    exact s6 b58 hFb58 b54 hFb54 b40 hFb40 b39 hFb39 b38 hFb38 hNb58
  have s10 : ∀ (b58 : Nat) (hFb58 : m b58 = none) (b40 : Nat) (hFb40 : m b40 = none) (b39 : Nat) (hFb39 : m b39 = none) (b38 : Nat) (hFb38 : m b38 = none) (hNv1 : ([b58, b40, b39, b38, b9, b2, b1] : List Nat).Nodup), A 4 #[true, true, true, true, true, true, true, true, true, true, false, false, true, false, false] (fun fr m => K1 (fr.keep [4, 13, 14, 15]) m) [(4, .ptr ⟨b1, 0, none⟩), (13, .ptr ⟨b9, 0, none⟩), (14, .err 67 ((gE (envOf l) [] (depE e + 1) e).2)), (16, .ptr ⟨b58, 0, none⟩), (65, .tuple [.agg [.map b38, .map b39, .map b40], .agg [.map b38, .map b39, .map b40]]), (74, .agg [.map b38, .map b39, .map b40])] (AMem.wth m [(b58, .cells [.nilmap, .nilmap, .nilmap]), (b40, nmO), (b39, vmO ([] : VMap)), (b38, vmO (envOf (l ++ ([(⟨name, v⟩ : (Str × Val))] : List (Str × Val))))), (b9, valO ((gE (envOf l) [] (depE e + 1) e).1)), (b2, valO v), (b1, expO e)]) := by
   intro b58 hFb58 b40 hFb40 b39 hFb39 b38 hFb38 hNv1
   subst hA
   refine AAny.step [] [10, 11] (by decide +kernel) (by simp) (by decide) ⟨?_, ?_, trivial⟩
   ·
    show aopsR _ _ _ [_] _ _ _
    refine ⟨(Nat.le_of_ble_eq_true rfl), ?_⟩
    refine AAny.keep [4, 13, 14, 16, 74, 75] (by decide) ?_
    exact s5 b58 hFb58 b40 hFb40 b39 hFb39 b38 hFb38 hNv1
   ·
    show aopsR _ _ _ [_] _ _ _
    refine ar_alloc rfl (z := .agg [.nilmap, .nilmap, .nilmap]) rfl rfl ?_
    intro b54 hb54
    have hFb54 : m b54 = none := wth_none hb54
    have hNb54 : ([b54, b58, b40, b39, b38, b9, b2, b1] : List Nat).Nodup := wth_nodup hb54 hNv1
    refine AAny.keep [4, 13, 14, 15, 16, 65, 74] (by decide) ?_
    refine AAny.memEq (wth_perm (m := m) (L := [(b54, .cells [.nilmap, .nilmap, .nilmap]), (b58, .cells [.nilmap, .nilmap, .nilmap]), (b40, nmO), (b39, vmO ([] : VMap)), (b38, vmO (envOf (l ++ ([(⟨name, v⟩ : (Str × Val))] : List (Str × Val))))), (b9, valO ((gE (envOf l) [] (depE e + 1) e).1)), (b2, valO v), (b1, expO e)]) (L' := [(b58, .cells [.nilmap, .nilmap, .nilmap]), (b54, .cells [.nilmap, .nilmap, .nilmap]), (b40, nmO), (b39, vmO ([] : VMap)), (b38, vmO (envOf (l ++ ([(⟨name, v⟩ : (Str × Val))] : List (Str × Val))))), (b9, valO ((gE (envOf l) [] (depE e + 1) e).1)), (b2, valO v), (b1, expO e)]) hNb54 (pick_perm [1, 0, 0, 0, 0, 0, 0, 0] _)) ?_
    have hNp : ([b58, b54, b40, b39, b38, b9, b2, b1] : List Nat).Nodup := perm_nodup (L := [(b54, .cells [.nilmap, .nilmap, .nilmap]), (b58, .cells [.nilmap, .nilmap, .nilmap]), (b40, nmO), (b39, vmO ([] : VMap)), (b38, vmO (envOf (l ++ ([(⟨name, v⟩ : (Str × Val))] : List (Str × Val))))), (b9, valO ((gE (envOf l) [] (depE e + 1) e).1)), (b2, valO v), (b1, expO e)]) (L' := [(b58, .cells [.nilmap, .nilmap, .nilmap]), (b54, .cells [.nilmap, .nilmap, .nilmap]), (b40, nmO), (b39, vmO ([] : VMap)), (b38, vmO (envOf (l ++ ([(⟨name, v⟩ : (Str × Val))] : List (Str × Val))))), (b9, valO ((gE (envOf l) [] (depE e + 1) e).1)), (b2, valO v), (b1, expO e)]) hNb54 (pick_perm [1, 0, 0, 0, 0, 0, 0, 0] _)
    exact s6 b58 hFb58 b54 hFb54 b40 hFb40 b39 hFb39 b38 hFb38 hNp
  have s11 : ∀ (b54 : Nat) (hFb54 : m b54 = none) (b40 : Nat) (hFb40 : m b40 = none) (b39 : Nat) (hFb39 : m b39 = none) (b38 : Nat) (hFb38 : m b38 = none) (hNv1 : ([b54, b40, b39, b38, b9, b2, b1] : List Nat).Nodup), A 4 #[true, true, true, true, true, true, true, true, true, false, true, true, false, false, false] (fun fr m => K1 (fr.keep [4, 13, 14, 15]) m) [(4, .ptr ⟨b1, 0, none⟩), (13, .ptr ⟨b9, 0, none⟩), (14, .err 67 ((gE (envOf l) [] (depE e + 1) e).2)), (15, .ptr ⟨b54, 0, none⟩), (65, .tuple [.agg [.map b38, .map b39, .map b40], .agg [.map b38, .map b39, .map b40]]), (75, .agg [.map b38, .map b39, .map b40])] (AMem.wth m [(b54, .cells [.nilmap, .nilmap, .nilmap]), (b40, nmO), (b39, vmO ([] : VMap)), (b38, vmO (envOf (l ++ ([(⟨name, v⟩ : (Str × Val))] : List (Str × Val))))), (b9, valO ((gE (envOf l) [] (depE e + 1) e).1)), (b2, valO v), (b1, expO e)]) := by
   intro b54 hFb54 b40 hFb40 b39 hFb39 b38 hFb38 hNv1
   subst hA
   refine AAny.step [] [9, 12] (by decide +kernel) (by simp) (by decide) ⟨?_, ?_, trivial⟩
   ·
    show aopsR _ _ _ [_] _ _ _
    refine ⟨(Nat.le_of_ble_eq_true rfl), ?_⟩
    refine AAny.keep [4, 13, 14, 15, 74, 75] (by decide) ?_
    exact s4 b54 hFb54 b40 hFb40 b39 hFb39 b38 hFb38 hNv1
   ·
    show aopsR _ _ _ [_] _ _ _
    refine ar_alloc rfl (z := .agg [.nilmap, .nilmap, .nilmap]) rfl rfl ?_
    intro b58 hb58
    have hFb58 : m b58 = none := wth_none hb58
    have hNb58 : ([b58, b54, b40, b39, b38, b9, b2, b1] : List Nat).Nodup := wth_nodup hb58 hNv1
    refine AAny.keep [4, 13, 14, 15, 16, 65, 75] (by decide) ?_
    exact s7 b58 hFb58 b54 hFb54 b40 hFb40 b39 hFb39 b38 hFb38 hNb58
  clear s4
  have s12 : ∀ (b58 : Nat) (hFb58 : m b58 = none) (b40 : Nat) (hFb40 : m b40 = none) (b39 : Nat) (hFb39 : m b39 = none) (b38 : Nat) (hFb38 : m b38 = none) (hNv1 : ([b58, b40, b39, b38, b9, b2, b1] : List Nat).Nodup), A 4 #[true, true, true, true, true, true, true, true, true, false, true, false, true, false, false] (fun fr m => K1 (fr.keep [4, 13, 14, 15]) m) [(4, .ptr ⟨b1, 0, none⟩), (13, .ptr ⟨b9, 0, none⟩), (14, .err 67 ((gE (envOf l) [] (depE e + 1) e).2)), (16, .ptr ⟨b58, 0, none⟩), (65, .tuple [.agg [.map b38, .map b39, .map b40], .agg [.map b38, .map b39, .map b40]]), (75, .agg [.map b38, .map b39, .map b40])] (AMem.wth m [(b58, .cells [.nilmap, .nilmap, .nilmap]), (b40, nmO), (b39, vmO ([] : VMap)), (b38, vmO (envOf (l ++ ([(⟨name, v⟩ : (Str × Val))] : List (Str × Val))))), (b9, valO ((gE (envOf l) [] (depE e + 1) e).1)), (b2, valO v), (b1, expO e)]) := by
   intro b58 hFb58 b40 hFb40 b39 hFb39 b38 hFb38 hNv1
   subst hA
   refine AAny.step [] [9, 11] (by decide +kernel) (by simp) (by decide) ⟨?_, ?_, trivial⟩
   ·
    show aopsR _ _ _ [_] _ _ _
    refine ⟨(Nat.le_of_ble_eq_true rfl), ?_⟩
    refine AAny.keep [4, 13, 14, 16, 74, 75] (by decide) ?_
    exact s5 b58 hFb58 b40 hFb40 b39 hFb39 b38 hFb38 hNv1
   ·
    show aopsR _ _ _ [_] _ _ _
    refine ar_alloc rfl (z := .agg [.nilmap, .nilmap, .nilmap]) rfl rfl ?_
    intro b54 hb54
    have hFb54 : m b54 = none := wth_none hb54
    have hNb54 : ([b54, b58, b40, b39, b38, b9, b2, b1] : List Nat).Nodup := wth_nodup hb54 hNv1
    refine AAny.keep [4, 13, 14, 15, 16, 65, 75] (by decide) ?_
    refine AAny.memEq (wth_perm (m := m) (L := [(b54, .cells [.nilmap, .nilmap, .nilmap]), (b58, .cells [.nilmap, .nilmap, .nilmap]), (b40, nmO), (b39, vmO ([] : VMap)), (b38, vmO (envOf (l ++ ([(⟨name, v⟩ : (Str × Val))] : List (Str × Val))))), (b9, valO ((gE (envOf l) [] (depE e + 1) e).1)), (b2, valO v), (b1, expO e)]) (L' := [(b58, .cells [.nilmap, .nilmap, .nilmap]), (b54, .cells [.nilmap, .nilmap, .nilmap]), (b40, nmO), (b39, vmO ([] : VMap)), (b38, vmO (envOf (l ++ ([(⟨name, v⟩ : (Str × Val))] : List (Str × Val))))), (b9, valO ((gE (envOf l) [] (depE e + 1) e).1)), (b2, valO v), (b1, expO e)]) hNb54 (pick_perm [1, 0, 0, 0, 0, 0, 0, 0] _)) ?_
    have hNp : ([b58, b54, b40, b39, b38, b9, b2, b1] : List Nat).Nodup := perm_nodup (L := [(b54, .cells [.nilmap, .nilmap, .nilmap]), (b58, .cells [.nilmap, .nilmap, .nilmap]), (b40, nmO), (b39, vmO ([] : VMap)), (b38, vmO (envOf (l ++ ([(⟨name, v⟩ : (Str × Val))] : List (Str × Val))))), (b9, valO ((gE (envOf l) [] (depE e + 1) e).1)), (b2, valO v), (b1, expO e)]) (L' := [(b58, .cells [.nilmap, .nilmap, .nilmap]), (b54, .cells [.nilmap, .nilmap, .nilmap]), (b40, nmO), (b39, vmO ([] : VMap)), (b38, vmO (envOf (l ++ ([(⟨name, v⟩ : (Str × Val))] : List (Str × Val))))), (b9, valO ((gE (envOf l) [] (depE e + 1) e).1)), (b2, valO v), (b1, expO e)]) hNb54 (pick_perm [1, 0, 0, 0, 0, 0, 0, 0] _)
    exact s7 b58 hFb58 b54 hFb54 b40 hFb40 b39 hFb39 b38 hFb38 hNp
  clear s5
  have s13 : ∀ (b58 : Nat) (hFb58 : m b58 = none) (b54 : Nat) (hFb54 : m b54 = none) (b40 : Nat) (hFb40 : m b40 = none) (b39 : Nat) (hFb39 : m b39 = none) (b38 : Nat) (hFb38 : m b38 = none) (hNv1 : ([b58, b54, b40, b39, b38, b9, b2, b1] : List Nat).Nodup), A 4 #[true, true, true, true, true, true, true, true, true, false, false, true, true, false, false] (fun fr m => K1 (fr.keep [4, 13, 14, 15]) m) [(4, .ptr ⟨b1, 0, none⟩), (13, .ptr ⟨b9, 0, none⟩), (14, .err 67 ((gE (envOf l) [] (depE e + 1) e).2)), (15, .ptr ⟨b54, 0, none⟩), (16, .ptr ⟨b58, 0, none⟩), (65, .tuple [.agg [.map b38, .map b39, .map b40], .agg [.map b38, .map b39, .map b40]])] (AMem.wth m [(b58, .cells [.nilmap, .nilmap, .nilmap]), (b54, .cells [.nilmap, .nilmap, .nilmap]), (b40, nmO), (b39, vmO ([] : VMap)), (b38, vmO (envOf (l ++ ([(⟨name, v⟩ : (Str × Val))] : List (Str × Val))))), (b9, valO ((gE (envOf l) [] (depE e + 1) e).1)), (b2, valO v), (b1, expO e)]) := by
   intro b58 hFb58 b54 hFb54 b40 hFb40 b39 hFb39 b38 hFb38 hNv1
   subst hA
   refine AAny.step [] [9, 10] (by decide +kernel) (by simp) (by decide) ⟨?_, ?_, trivial⟩
   ·
    show aopsR _ _ _ [_] _ _ _
    refine ⟨(Nat.le_of_ble_eq_true rfl), ?_⟩
    refine AAny.keep [4, 13, 14, 15, 16, 65, 74] (by decide) ?_
    exact s6 b58 hFb58 b54 hFb54 b40 hFb40 b39 hFb39 b38 hFb38 hNv1
   ·
    show aopsR _ _ _ [_] _ _ _
    refine ⟨(Nat.le_of_ble_eq_true rfl), ?_⟩
    refine AAny.keep [4, 13, 14, 15, 16, 65, 75] (by decide) ?_
    exact s7 b58 hFb58 b54 hFb54 b40 hFb40 b39 hFb39 b38 hFb38 hNv1
  clear s6 s7
  have s14 : ∀ (b40 : Nat) (hFb40 : m b40 = none) (b39 : Nat) (hFb39 : m b39 = none) (b38 : Nat) (hFb38 : m b38 = none) (hNv1 : ([b40, b39, b38, b9, b2, b1] : List Nat).Nodup), A 5 #[true, true, true, true, true, true, true, true, true, true, false, false, false, false, false] (fun fr m => K1 (fr.keep [4, 13, 14, 15]) m) [(4, .ptr ⟨b1, 0, none⟩), (13, .ptr ⟨b9, 0, none⟩), (14, .err 67 ((gE (envOf l) [] (depE e + 1) e).2)), (65, .tuple [.agg [.map b38, .map b39, .map b40], .agg [.map b38, .map b39, .map b40]]), (74, .agg [.map b38, .map b39, .map b40])] (AMem.wth m [(b40, nmO), (b39, vmO ([] : VMap)), (b38, vmO (envOf (l ++ ([(⟨name, v⟩ : (Str × Val))] : List (Str × Val))))), (b9, valO ((gE (envOf l) [] (depE e + 1) e).1)), (b2, valO v), (b1, expO e)]) := by
   intro b40 hFb40 b39 hFb39 b38 hFb38 hNv1
   subst hA
   refine AAny.step [] [10, 11, 12] (by decide +kernel) (by simp) (by decide) ⟨?_, ?_, ?_, trivial⟩
   ·
    show aopsR _ _ _ [_] _ _ _
    refine ⟨(Nat.le_of_ble_eq_true rfl), ?_⟩
    refine AAny.keep [4, 13, 14, 74, 75] (by decide) ?_
    exact s8 b40 hFb40 b39 hFb39 b38 hFb38 hNv1
   ·
    show aopsR _ _ _ [_] _ _ _
    refine ar_alloc rfl (z := .agg [.nilmap, .nilmap, .nilmap]) rfl rfl ?_
    intro b54 hb54
    have hFb54 : m b54 = none := wth_none hb54
    have hNb54 : ([b54, b40, b39, b38, b9, b2, b1] : List Nat).Nodup := wth_nodup hb54 hNv1
    refine AAny.keep [4, 13, 14, 15, 65, 74] (by decide) ?_
    exact s9 b54 hFb54 b40 hFb40 b39 hFb39 b38 hFb38 hNb54
   ·
    show aopsR _ _ _ [_] _ _ _
    refine ar_alloc rfl (z := .agg [.nilmap, .nilmap, .nilmap]) rfl rfl ?_
    intro b58 hb58
    have hFb58 : m b58 = none := wth_none hb58
    have hNb58 : ([b58, b40, b39, b38, b9, b2, b1] : List Nat).Nodup := wth_nodup hb58 hNv1
    refine AAny.keep [4, 13, 14, 16, 65, 74] (by decide) ?_
    exact s10 b58 hFb58 b40 hFb40 b39 hFb39 b38 hFb38 hNb58
  have s15 : ∀ (b40 : Nat) (hFb40 : m b40 = none) (b39 : Nat) (hFb39 : m b39 = none) (b38 : Nat) (hFb38 : m b38 = none) (hNv1 : ([b40, b39, b38, b9, b2, b1] : List Nat).Nodup), A 5 #[true, true, true, true, true, true, true, true, true, false, true, false, false, false, false] (fun fr m => K1 (fr.keep [4, 13, 14, 15]) m) [(4, .ptr ⟨b1, 0, none⟩), (13, .ptr ⟨b9, 0, none⟩), (14, .err 67 ((gE (envOf l) [] (depE e + 1) e).2)), (65, .tuple [.agg [.map b38, .map b39, .map b40], .agg [.map b38, .map b39, .map b40]]), (75, .agg [.map b38, .map b39, .map b40])] (AMem.wth m [(b40, nmO), (b39, vmO ([] : VMap)), (b38, vmO (envOf (l ++ ([(⟨name, v⟩ : (Str × Val))] : List (Str × Val))))), (b9, valO ((gE (envOf l) [] (depE e + 1) e).1)), (b2, valO v), (b1, expO e)]) := by
   intro b40 hFb40 b39 hFb39 b38 hFb38 hNv1
   subst hA
   refine AAny.step [] [9, 11, 12] (by decide +kernel) (by simp) (by decide) ⟨?_, ?_, ?_, trivial⟩
   ·
    show aopsR _ _ _ [_] _ _ _
    refine ⟨(Nat.le_of_ble_eq_true rfl), ?_⟩
    refine AAny.keep [4, 13, 14, 74, 75] (by decide) ?_
    exact s8 b40 hFb40 b39 hFb39 b38 hFb38 hNv1
   ·
    show aopsR _ _ _ [_] _ _ _
    refine ar_alloc rfl (z := .agg [.nilmap, .nilmap, .nilmap]) rfl rfl ?_
    intro b54 hb54
    have hFb54 : m b54 = none := wth_none hb54
    have hNb54 : ([b54, b40, b39, b38, b9, b2, b1] : List Nat).Nodup := wth_nodup hb54 hNv1
    refine AAny.keep [4, 13, 14, 15, 65, 75] (by decide) ?_
    exact s11 b54 hFb54 b40 hFb40 b39 hFb39 b38 hFb38 hNb54
   ·
    show aopsR _ _ _ [_] _ _ _
    refine ar_alloc rfl (z := .agg [.nilmap, .nilmap, .nilmap]) rfl rfl ?_
    intro b58 hb58
    have hFb58 : m b58 = none := wth_none hb58
    have hNb58 : ([b58, b40, b39, b38, b9, b2, b1] : List Nat).Nodup := wth_nodup hb58 hNv1
    refine AAny.keep [4, 13, 14, 16, 65, 75] (by decide) ?_
    exact s12 b58 hFb58 b40 hFb40 b39 hFb39 b38 hFb38 hNb58
  clear s8
  have s16 : ∀ (b54 : Nat) (hFb54 : m b54 = none) (b40 : Nat) (hFb40 : m b40 = none) (b39 : Nat) (hFb39 : m b39 = none) (b38 : Nat) (hFb38 : m b38 = none) (hNv1 : ([b54, b40, b39, b38, b9, b2, b1] : List Nat).Nodup), A 5 #[true, true, true, true, true, true, true, true, true, false, false, true, false, false, false] (fun fr m => K1 (fr.keep [4, 13, 14, 15]) m) [(4, .ptr ⟨b1, 0, none⟩), (13, .ptr ⟨b9, 0, none⟩), (14, .err 67 ((gE (envOf l) [] (depE e + 1) e).2)), (15, .ptr ⟨b54, 0, none⟩), (65, .tuple [.agg [.map b38, .map b39, .map b40], .agg [.map b38, .map b39, .map b40]])] (AMem.wth m [(b54, .cells [.nilmap, .nilmap, .nilmap]), (b40, nmO), (b39, vmO ([] : VMap)), (b38, vmO (envOf (l ++ ([(⟨name, v⟩ : (Str × Val))] : List (Str × Val))))), (b9, valO ((gE (envOf l) [] (depE e + 1) e).1)), (b2, valO v), (b1, expO e)]) := by
   intro b54 hFb54 b40 hFb40 b39 hFb39 b38 hFb38 hNv1
   subst hA
   refine AAny.step [] [9, 10, 12] (by decide +kernel) (by simp) (by decide) ⟨?_, ?_, ?_, trivial⟩
   ·
    show aopsR _ _ _ [_] _ _ _
    refine ⟨(Nat.le_of_ble_eq_true rfl), ?_⟩
    refine AAny.keep [4, 13, 14, 15, 65, 74] (by decide) ?_
    exact s9 b54 hFb54 b40 hFb40 b39 hFb39 b38 hFb38 hNv1
   ·
    show aopsR _ _ _ [_] _ _ _
    refine ⟨(Nat.le_of_ble_eq_true rfl), ?_⟩
    refine AAny.keep [4, 13, 14, 15, 65, 75] (by decide) ?_
    exact s11 b54 hFb54 b40 hFb40 b39 hFb39 b38 hFb38 hNv1
   ·
    show aopsR _ _ _ [_] _ _ _
    refine ar_alloc rfl (z := .agg [.nilmap, .nilmap, .nilmap]) rfl rfl ?_
    intro b58 hb58
    have hFb58 : m b58 = none := wth_none hb58
    have hNb58 : ([b58, b54, b40, b39, b38, b9, b2, b1] : List Nat).Nodup := wth_nodup hb58 hNv1
    refine AAny.keep [4, 13, 14, 15, 16, 65] (by decide) ?_
    exact s13 b58 hFb58 b54 hFb54 b40 hFb40 b39 hFb39 b38 hFb38 hNb58
  clear s9 s11
  have s17 : ∀ (b58 : Nat) (hFb58 : m b58 = none) (b40 : Nat) (hFb40 : m b40 = none) (b39 : Nat) (hFb39 : m b39 = none) (b38 : Nat) (hFb38 : m b38 = none) (hNv1 : ([b58, b40, b39, b38, b9, b2, b1] : List Nat).Nodup), A 5 #[true, true, true, true, true, true, true, true, true, false, false, false, true, false, false] (fun fr m => K1 (fr.keep [4, 13, 14, 15]) m) [(4, .ptr ⟨b1, 0, none⟩), (13, .ptr ⟨b9, 0, none⟩), (14, .err 67 ((gE (envOf l) [] (depE e + 1) e).2)), (16, .ptr ⟨b58, 0, none⟩), (65, .tuple [.agg [.map b38, .map b39, .map b40], .agg [.map b38, .map b39, .map b40]])] (AMem.wth m [(b58, .cells [.nilmap, .nilmap, .nilmap]), (b40, nmO), (b39, vmO ([] : VMap)), (b38, vmO (envOf (l ++ ([(⟨name, v⟩ : (Str × Val))] : List (Str × Val))))), (b9, valO ((gE (envOf l) [] (depE e + 1) e).1)), (b2, valO v), (b1, expO e)]) := by
   intro b58 hFb58 b40 hFb40 b39 hFb39 b38 hFb38 hNv1
   subst hA
   refine AAny.step [] [9, 10, 11] (by decide +kernel) (by simp) (by decide) ⟨?_, ?_, ?_, trivial⟩
   ·
    show aopsR _ _ _ [_] _ _ _
    refine ⟨(Nat.le_of_ble_eq_true rfl), ?_⟩
    refine AAny.keep [4, 13, 14, 16, 65, 74] (by decide) ?_
    exact s10 b58 hFb58 b40 hFb40 b39 hFb39 b38 hFb38 hNv1
   ·
    show aopsR _ _ _ [_] _ _ _
    refine ⟨(Nat.le_of_ble_eq_true rfl), ?_⟩
    refine AAny.keep [4, 13, 14, 16, 65, 75] (by decide) ?_
    exact s12 b58 hFb58 b40 hFb40 b39 hFb39 b38 hFb38 hNv1
   ·
    show aopsR _ _ _ [_] _ _ _
    refine ar_alloc rfl (z := .agg [.nilmap, .nilmap, .nilmap]) rfl rfl ?_
    intro b54 hb54
    have hFb54 : m b54 = none := wth_none hb54
    have hNb54 : ([b54, b58, b40, b39, b38, b9, b2, b1] : List Nat).Nodup := wth_nodup hb54 hNv1
    refine AAny.keep [4, 13, 14, 15, 16, 65] (by decide) ?_
    refine AAny.memEq (wth_perm (m := m) (L := [(b54, .cells [.nilmap, .nilmap, .nilmap]), (b58, .cells [.nilmap, .nilmap, .nilmap]), (b40, nmO), (b39, vmO ([] : VMap)), (b38, vmO (envOf (l ++ ([(⟨name, v⟩ : (Str × Val))] : List (Str × Val))))), (b9, valO ((gE (envOf l) [] (depE e + 1) e).1)), (b2, valO v), (b1, expO e)]) (L' := [(b58, .cells [.nilmap, .nilmap, .nilmap]), (b54, .cells [.nilmap, .nilmap, .nilmap]), (b40, nmO), (b39, vmO ([] : VMap)), (b38, vmO (envOf (l ++ ([(⟨name, v⟩ : (Str × Val))] : List (Str × Val))))), (b9, valO ((gE (envOf l) [] (depE e + 1) e).1)), (b2, valO v), (b1, expO e)]) hNb54 (pick_perm [1, 0, 0, 0, 0, 0, 0, 0] _)) ?_
    have hNp : ([b58, b54, b40, b39, b38, b9, b2, b1] : List Nat).Nodup := perm_nodup (L := [(b54, .cells [.nilmap, .nilmap, .nilmap]), (b58, .cells [.nilmap, .nilmap, .nilmap]), (b40, nmO), (b39, vmO ([] : VMap)), (b38, vmO (envOf (l ++ ([(⟨name, v⟩ : (Str × Val))] : List (Str × Val))))), (b9, valO ((gE (envOf l) [] (depE e + 1) e).1)), (b2, valO v), (b1, expO e)]) (L' := [(b58, .cells [.nilmap, .nilmap, .nilmap]), (b54, .cells [.nilmap, .nilmap, .nilmap]), (b40, nmO), (b39, vmO ([] : VMap)), (b38, vmO (envOf (l ++ ([(⟨name, v⟩ : (Str × Val))] : List (Str × Val))))), (b9, valO ((gE (envOf l) [] (depE e + 1) e).1)), (b2, valO v), (b1, expO e)]) hNb54 (pick_perm [1, 0, 0, 0, 0, 0, 0, 0] _)
    exact s13 b58 hFb58 b54 hFb54 b40 hFb40 b39 hFb39 b38 hFb38 hNp
  clear s10 s12
  have s18 : ∀ (b58 : Nat) (hFb58 : m b58 = none) (b54 : Nat) (hFb54 : m b54 = none) (b40 : Nat) (hFb40 : m b40 = none) (b39 : Nat) (hFb39 : m b39 = none) (b38 : Nat) (hFb38 : m b38 = none) (hNv1 : ([b58, b54, b40, b39, b38, b9, b2, b1] : List Nat).Nodup), A 5 #[true, true, true, true, true, true, true, true, false, false, false, true, true, false, false] (fun fr m => K1 (fr.keep [4, 13, 14, 15]) m) [(4, .ptr ⟨b1, 0, none⟩), (13, .ptr ⟨b9, 0, none⟩), (14, .err 67 ((gE (envOf l) [] (depE e + 1) e).2)), (15, .ptr ⟨b54, 0, none⟩), (16, .ptr ⟨b58, 0, none⟩), (73, .tuple [.agg [.map b38, .map b39, .map b40], .agg [.map b38, .map b39, .map b40]])] (AMem.wth m [(b58, .cells [.nilmap, .nilmap, .nilmap]), (b54, .cells [.nilmap, .nilmap, .nilmap]), (b40, nmO), (b39, vmO ([] : VMap)), (b38, vmO (envOf (l ++ ([(⟨name, v⟩ : (Str × Val))] : List (Str × Val))))), (b9, valO ((gE (envOf l) [] (depE e + 1) e).1)), (b2, valO v), (b1, expO e)]) := by
   intro b58 hFb58 b54 hFb54 b40 hFb40 b39 hFb39 b38 hFb38 hNv1
   subst hA
   refine AAny.step [] [8] (by decide +kernel) (by simp) (by decide) ⟨?_, trivial⟩
   ·
    show aopsR _ _ _ [_] _ _ _
    refine ⟨trivial, ?_⟩
    refine AAny.keep [4, 13, 14, 15, 16, 65] (by decide) ?_
    exact s13 b58 hFb58 b54 hFb54 b40 hFb40 b39 hFb39 b38 hFb38 hNv1
  clear s13
  have s19 : ∀ (b40 : Nat) (hFb40 : m b40 = none) (b39 : Nat) (hFb39 : m b39 = none) (b38 : Nat) (hFb38 : m b38 = none) (hNv1 : ([b40, b39, b38, b9, b2, b1] : List Nat).Nodup), A 6 #[true, true, true, true, true, true, true, true, true, false, false, false, false, false, false] (fun fr m => K1 (fr.keep [4, 13, 14, 15]) m) [(4, .ptr ⟨b1, 0, none⟩), (13, .ptr ⟨b9, 0, none⟩), (14, .err 67 ((gE (envOf l) [] (depE e + 1) e).2)), (65, .tuple [.agg [.map b38, .map b39, .map b40], .agg [.map b38, .map b39, .map b40]])] (AMem.wth m [(b40, nmO), (b39, vmO ([] : VMap)), (b38, vmO (envOf (l ++ ([(⟨name, v⟩ : (Str × Val))] : List (Str × Val))))), (b9, valO ((gE (envOf l) [] (depE e + 1) e).1)), (b2, valO v), (b1, expO e)]) := by
   intro b40 hFb40 b39 hFb39 b38 hFb38 hNv1
   subst hA
   refine AAny.step [] [9, 10, 11, 12] (by decide +kernel) (by simp) (by decide) ⟨?_, ?_, ?_, ?_, trivial⟩
   ·
    show aopsR _ _ _ [_] _ _ _
    refine ⟨(Nat.le_of_ble_eq_true rfl), ?_⟩
    refine AAny.keep [4, 13, 14, 65, 74] (by decide) ?_
    exact s14 b40 hFb40 b39 hFb39 b38 hFb38 hNv1
   ·
    show aopsR _ _ _ [_] _ _ _
    refine ⟨(Nat.le_of_ble_eq_true rfl), ?_⟩
    refine AAny.keep [4, 13, 14, 65, 75] (by decide) ?_
    exact s15 b40 hFb40 b39 hFb39 b38 hFb38 hNv1
   ·
    show aopsR _ _ _ [_] _ _ _
    refine ar_alloc rfl (z := .agg [.nilmap, .nilmap, .nilmap]) rfl rfl ?_
    intro b54 hb54
    have hFb54 : m b54 = none := wth_none hb54
    have hNb54 : ([b54, b40, b39, b38, b9, b2, b1] : List Nat).Nodup := wth_nodup hb54 hNv1
    refine AAny.keep [4, 13, 14, 15, 65] (by decide) ?_
    exact s16 b54 hFb54 b40 hFb40 b39 hFb39 b38 hFb38 hNb54
   ·
    show aopsR _ _ _ [_] _ _ _
    refine ar_alloc rfl (z := .agg [.nilmap, .nilmap, .nilmap]) rfl rfl ?_
    intro b58 hb58
    have hFb58 : m b58 = none := wth_none hb58
    have hNb58 : ([b58, b40, b39, b38, b9, b2, b1] : List Nat).Nodup := wth_nodup hb58 hNv1
    refine AAny.keep [4, 13, 14, 16, 65] (by decide) ?_
    exact s17 b58 hFb58 b40 hFb40 b39 hFb39 b38 hFb38 hNb58
  clear s14 s15
  have s20 : ∀ (b54 : Nat) (hFb54 : m b54 = none) (b40 : Nat) (hFb40 : m b40 = none) (b39 : Nat) (hFb39 : m b39 = none) (b38 : Nat) (hFb38 : m b38 = none) (hNv1 : ([b54, b40, b39, b38, b9, b2, b1] : List Nat).Nodup), A 6 #[true, true, true, true, true, true, true, true, false, false, false, true, false, false, false] (fun fr m => K1 (fr.keep [4, 13, 14, 15]) m) [(4, .ptr ⟨b1, 0, none⟩), (13, .ptr ⟨b9, 0, none⟩), (14, .err 67 ((gE (envOf l) [] (depE e + 1) e).2)), (15, .ptr ⟨b54, 0, none⟩), (73, .tuple [.agg [.map b38, .map b39, .map b40], .agg [.map b38, .map b39, .map b40]])] (AMem.wth m [(b54, .cells [.nilmap, .nilmap, .nilmap]), (b40, nmO), (b39, vmO ([] : VMap)), (b38, vmO (envOf (l ++ ([(⟨name, v⟩ : (Str × Val))] : List (Str × Val))))), (b9, valO ((gE (envOf l) [] (depE e + 1) e).1)), (b2, valO v), (b1, expO e)]) := by
   intro b54 hFb54 b40 hFb40 b39 hFb39 b38 hFb38 hNv1
   subst hA
   refine AAny.step [] [8, 12] (by decide +kernel) (by simp) (by decide) ⟨?_, ?_, trivial⟩
   ·
    show aopsR _ _ _ [_] _ _ _
    refine ⟨trivial, ?_⟩
    refine AAny.keep [4, 13, 14, 15, 65] (by decide) ?_
    exact s16 b54 hFb54 b40 hFb40 b39 hFb39 b38 hFb38 hNv1
   ·
    show aopsR _ _ _ [_] _ _ _
    refine ar_alloc rfl (z := .agg [.nilmap, .nilmap, .nilmap]) rfl rfl ?_
    intro b58 hb58
    have hFb58 : m b58 = none := wth_none hb58
    have hNb58 : ([b58, b54, b40, b39, b38, b9, b2, b1] : List Nat).Nodup := wth_nodup hb58 hNv1
    refine AAny.keep [4, 13, 14, 15, 16, 73] (by decide) ?_
    exact s18 b58 hFb58 b54 hFb54 b40 hFb40 b39 hFb39 b38 hFb38 hNb58
  clear s16
  have s21 : ∀ (b58 : Nat) (hFb58 : m b58 = none) (b40 : Nat) (hFb40 : m b40 = none) (b39 : Nat) (hFb39 : m b39 = none) (b38 : Nat) (hFb38 : m b38 = none) (hNv1 : ([b58, b40, b39, b38, b9, b2, b1] : List Nat).Nodup), A 6 #[true, true, true, true, true, true, true, true, false, false, false, false, true, false, false] (fun fr m => K1 (fr.keep [4, 13, 14, 15]) m) [(4, .ptr ⟨b1, 0, none⟩), (13, .ptr ⟨b9, 0, none⟩), (14, .err 67 ((gE (envOf l) [] (depE e + 1) e).2)), (16, .ptr ⟨b58, 0, none⟩), (73, .tuple [.agg [.map b38, .map b39, .map b40], .agg [.map b38, .map b39, .map b40]])] (AMem.wth m [(b58, .cells [.nilmap, .nilmap, .nilmap]), (b40, nmO), (b39, vmO ([] : VMap)), (b38, vmO (envOf (l ++ ([(⟨name, v⟩ : (Str × Val))] : List (Str × Val))))), (b9, valO ((gE (envOf l) [] (depE e + 1) e).1)), (b2, valO v), (b1, expO e)]) := by
   intro b58 hFb58 b40 hFb40 b39 hFb39 b38 hFb38 hNv1
   subst hA
   refine AAny.step [] [8, 11] (by decide +kernel) (by simp) (by decide) ⟨?_, ?_, trivial⟩
   ·
    show aopsR _ _ _ [_] _ _ _
    refine ⟨trivial, ?_⟩
    refine AAny.keep [4, 13, 14, 16, 65] (by decide) ?_
    exact s17 b58 hFb58 b40 hFb40 b39 hFb39 b38 hFb38 hNv1
   ·
    show aopsR _ _ _ [_] _ _ _
    refine ar_alloc rfl (z := .agg [.nilmap, .nilmap, .nilmap]) rfl rfl ?_
    intro b54 hb54
    have hFb54 : m b54 = none := wth_none hb54
    have hNb54 : ([b54, b58, b40, b39, b38, b9, b2, b1] : List Nat).Nodup := wth_nodup hb54 hNv1
    refine AAny.keep [4, 13, 14, 15, 16, 73] (by decide) ?_
    refine AAny.memEq (wth_perm (m := m) (L := [(b54, .cells [.nilmap, .nilmap, .nilmap]), (b58, .cells [.nilmap, .nilmap, .nilmap]), (b40, nmO), (b39, vmO ([] : VMap)), (b38, vmO (envOf (l ++ ([(⟨name, v⟩ : (Str × Val))] : List (Str × Val))))), (b9, valO ((gE (envOf l) [] (depE e + 1) e).1)), (b2, valO v), (b1, expO e)]) (L' := [(b58, .cells [.nilmap, .nilmap, .nilmap]), (b54, .cells [.nilmap, .nilmap, .nilmap]), (b40, nmO), (b39, vmO ([] : VMap)), (b38, vmO (envOf (l ++ ([(⟨name, v⟩ : (Str × Val))] : List (Str × Val))))), (b9, valO ((gE (envOf l) [] (depE e + 1) e).1)), (b2, valO v), (b1, expO e)]) hNb54 (pick_perm [1, 0, 0, 0, 0, 0, 0, 0] _)) ?_
    have hNp : ([b58, b54, b40, b39, b38, b9, b2, b1] : List Nat).Nodup := perm_nodup (L := [(b54, .cells [.nilmap, .nilmap, .nilmap]), (b58, .cells [.nilmap, .nilmap, .nilmap]), (b40, nmO), (b39, vmO ([] : VMap)), (b38, vmO (envOf (l ++ ([(⟨name, v⟩ : (Str × Val))] : List (Str × Val))))), (b9, valO ((gE (envOf l) [] (depE e + 1) e).1)), (b2, valO v), (b1, expO e)]) (L' := [(b58, .cells [.nilmap, .nilmap, .nilmap]), (b54, .cells [.nilmap, .nilmap, .nilmap]), (b40, nmO), (b39, vmO ([] : VMap)), (b38, vmO (envOf (l ++ ([(⟨name, v⟩ : (Str × Val))] : List (Str × Val))))), (b9, valO ((gE (envOf l) [] (depE e + 1) e).1)), (b2, valO v), (b1, expO e)]) hNb54 (pick_perm [1, 0, 0, 0, 0, 0, 0, 0] _)
    exact s18 b58 hFb58 b54 hFb54 b40 hFb40 b39 hFb39 b38 hFb38 hNp
  clear s17
  have s22 : ∀ (b58 : Nat) (hFb58 : m b58 = none) (b54 : Nat) (hFb54 : m b54 = none) (hNv1 : ([b58, b54, b9, b2, b1] : List Nat).Nodup), A 6 #[true, true, true, true, true, true, true, false, false, false, false, true, true, false, false] (fun fr m => K1 (fr.keep [4, 13, 14, 15]) m) [(4, .ptr ⟨b1, 0, none⟩), (13, .ptr ⟨b9, 0, none⟩), (14, .err 67 ((gE (envOf l) [] (depE e + 1) e).2)), (15, .ptr ⟨b54, 0, none⟩), (16, .ptr ⟨b58, 0, none⟩), (72, .slice true ((l ++ ([(⟨name, v⟩ : (Str × Val))] : List (Str × Val))).map fldIn))] (AMem.wth m [(b58, .cells [.nilmap, .nilmap, .nilmap]), (b54, .cells [.nilmap, .nilmap, .nilmap]), (b9, valO ((gE (envOf l) [] (depE e + 1) e).1)), (b2, valO v), (b1, expO e)]) := by
   intro b58 hFb58 b54 hFb54 hNv1
   subst hA
   refine AAny.step [] [7] (by decide +kernel) (by simp) (by decide) ⟨?_, trivial⟩
   ·
    show aopsR _ _ _ [_] _ _ _
    refine u_Envs (l ++ ([(⟨name, v⟩ : (Str × Val))] : List (Str × Val))) (by first | (rw [List.length_append, List.length_singleton]; omega) | omega) _ _ ?_
    intro b38 b39 b40 hqb38 hb38 hb39 hb40
    have hFb38 : m b38 = none := wth_none hb38
    have hFb39 : m b39 = none := wth_none hb39
    have hFb40 : m b40 = none := wth_none hb40
    have hNb38 : ([b38, b39, b40, b58, b54, b9, b2, b1] : List Nat).Nodup := wth_news (m := m) (L := [(b58, .cells [.nilmap, .nilmap, .nilmap]), (b54, .cells [.nilmap, .nilmap, .nilmap]), (b9, valO ((gE (envOf l) [] (depE e + 1) e).1)), (b2, valO v), (b1, expO e)]) hqb38 (by simp only [List.forall_mem_cons]; exact ⟨hb38, hb39, hb40, fun _ h => by cases h⟩) hNv1
    show aopsR _ _ _ _ _ _ (AMem.wth m [(b38, vmO (envOf (l ++ ([(⟨name, v⟩ : (Str × Val))] : List (Str × Val))))), (b39, vmO ([] : VMap)), (b40, nmO), (b58, .cells [.nilmap, .nilmap, .nilmap]), (b54, .cells [.nilmap, .nilmap, .nilmap]), (b9, valO ((gE (envOf l) [] (depE e + 1) e).1)), (b2, valO v), (b1, expO e)])
    refine AAny.keep [4, 13, 14, 15, 16, 73] (by decide) ?_
    refine AAny.memEq (wth_perm (m := m) (L := [(b38, vmO (envOf (l ++ ([(⟨name, v⟩ : (Str × Val))] : List (Str × Val))))), (b39, vmO ([] : VMap)), (b40, nmO), (b58, .cells [.nilmap, .nilmap, .nilmap]), (b54, .cells [.nilmap, .nilmap, .nilmap]), (b9, valO ((gE (envOf l) [] (depE e + 1) e).1)), (b2, valO v), (b1, expO e)]) (L' := [(b58, .cells [.nilmap, .nilmap, .nilmap]), (b54, .cells [.nilmap, .nilmap, .nilmap]), (b40, nmO), (b39, vmO ([] : VMap)), (b38, vmO (envOf (l ++ ([(⟨name, v⟩ : (Str × Val))] : List (Str × Val))))), (b9, valO ((gE (envOf l) [] (depE e + 1) e).1)), (b2, valO v), (b1, expO e)]) hNb38 (pick_perm [3, 3, 2, 1, 0, 0, 0, 0] _)) ?_
    have hNp : ([b58, b54, b40, b39, b38, b9, b2, b1] : List Nat).Nodup := perm_nodup (L := [(b38, vmO (envOf (l ++ ([(⟨name, v⟩ : (Str × Val))] : List (Str × Val))))), (b39, vmO ([] : VMap)), (b40, nmO), (b58, .cells [.nilmap, .nilmap, .nilmap]), (b54, .cells [.nilmap, .nilmap, .nilmap]), (b9, valO ((gE (envOf l) [] (depE e + 1) e).1)), (b2, valO v), (b1, expO e)]) (L' := [(b58, .cells [.nilmap, .nilmap, .nilmap]), (b54, .cells [.nilmap, .nilmap, .nilmap]), (b40, nmO), (b39, vmO ([] : VMap)), (b38, vmO (envOf (l ++ ([(⟨name, v⟩ : (Str × Val))] : List (Str × Val))))), (b9, valO ((gE (envOf l) [] (depE e + 1) e).1)), (b2, valO v), (b1, expO e)]) hNb38 (pick_perm [3, 3, 2, 1, 0, 0, 0, 0] _)
    exact s18 b58 hFb58 b54 hFb54 b40 hFb40 b39 hFb39 b38 hFb38 hNp
  clear s18
  have s23 : ∀ (b40 : Nat) (hFb40 : m b40 = none) (b39 : Nat) (hFb39 : m b39 = none) (b38 : Nat) (hFb38 : m b38 = none) (hNv1 : ([b40, b39, b38, b9, b2, b1] : List Nat).Nodup), A 7 #[true, true, true, true, true, true, true, true, false, false, false, false, false, false, false] (fun fr m => K1 (fr.keep [4, 13, 14, 15]) m) [(4, .ptr ⟨b1, 0, none⟩), (13, .ptr ⟨b9, 0, none⟩), (14, .err 67 ((gE (envOf l) [] (depE e + 1) e).2)), (73, .tuple [.agg [.map b38, .map b39, .map b40], .agg [.map b38, .map b39, .map b40]])] (AMem.wth m [(b40, nmO), (b39, vmO ([] : VMap)), (b38, vmO (envOf (l ++ ([(⟨name, v⟩ : (Str × Val))] : List (Str × Val))))), (b9, valO ((gE (envOf l) [] (depE e + 1) e).1)), (b2, valO v), (b1, expO e)]) := by
   intro b40 hFb40 b39 hFb39 b38 hFb38 hNv1
   subst hA
   refine AAny.step [] [8, 11, 12] (by decide +kernel) (by simp) (by decide) ⟨?_, ?_, ?_, trivial⟩
   ·
    show aopsR _ _ _ [_] _ _ _
    refine ⟨trivial, ?_⟩
    refine AAny.keep [4, 13, 14, 65] (by decide) ?_
    exact s19 b40 hFb40 b39 hFb39 b38 hFb38 hNv1
   ·
    show aopsR _ _ _ [_] _ _ _
    refine ar_alloc rfl (z := .agg [.nilmap, .nilmap, .nilmap]) rfl rfl ?_
    intro b54 hb54
    have hFb54 : m b54 = none := wth_none hb54
    have hNb54 : ([b54, b40, b39, b38, b9, b2, b1] : List Nat).Nodup := wth_nodup hb54 hNv1
    refine AAny.keep [4, 13, 14, 15, 73] (by decide) ?_
    exact s20 b54 hFb54 b40 hFb40 b39 hFb39 b38 hFb38 hNb54
   ·
    show aopsR _ _ _ [_] _ _ _
    refine ar_alloc rfl (z := .agg [.nilmap, .nilmap, .nilmap]) rfl rfl ?_
    intro b58 hb58
    have hFb58 : m b58 = none := wth_none hb58
    have hNb58 : ([b58, b40, b39, b38, b9, b2, b1] : List Nat).Nodup := wth_nodup hb58 hNv1
    refine AAny.keep [4, 13, 14, 16, 73] (by decide) ?_
    exact s21 b58 hFb58 b40 hFb40 b39 hFb39 b38 hFb38 hNb58
  clear s19
  have s24 : ∀ (b54 : Nat) (hFb54 : m b54 = none) (hNv1 : ([b54, b9, b2, b1] : List Nat).Nodup), A 7 #[true, true, true, true, true, true, true, false, false, false, false, true, false, false, false] (fun fr m => K1 (fr.keep [4, 13, 14, 15]) m) [(4, .ptr ⟨b1, 0, none⟩), (13, .ptr ⟨b9, 0, none⟩), (14, .err 67 ((gE (envOf l) [] (depE e + 1) e).2)), (15, .ptr ⟨b54, 0, none⟩), (72, .slice true ((l ++ ([(⟨name, v⟩ : (Str × Val))] : List (Str × Val))).map fldIn))] (AMem.wth m [(b54, .cells [.nilmap, .nilmap, .nilmap]), (b9, valO ((gE (envOf l) [] (depE e + 1) e).1)), (b2, valO v), (b1, expO e)]) := by
   intro b54 hFb54 hNv1
   subst hA
   refine AAny.step [] [7, 12] (by decide +kernel) (by simp) (by decide) ⟨?_, ?_, trivial⟩
   ·
    show aopsR _ _ _ [_] _ _ _
    refine u_Envs (l ++ ([(⟨name, v⟩ : (Str × Val))] : List (Str × Val))) (by first | (rw [List.length_append, List.length_singleton]; omega) | omega) _ _ ?_
    intro b38 b39 b40 hqb38 hb38 hb39 hb40
    have hFb38 : m b38 = none := wth_none hb38
    have hFb39 : m b39 = none := wth_none hb39
    have hFb40 : m b40 = none := wth_none hb40
    have hNb38 : ([b38, b39, b40, b54, b9, b2, b1] : List Nat).Nodup := wth_news (m := m) (L := [(b54, .cells [.nilmap, .nilmap, .nilmap]), (b9, valO ((gE (envOf l) [] (depE e + 1) e).1)), (b2, valO v), (b1, expO e)]) hqb38 (by simp only [List.forall_mem_cons]; exact ⟨hb38, hb39, hb40, fun _ h => by cases h⟩) hNv1
    show aopsR _ _ _ _ _ _ (AMem.wth m [(b38, vmO (envOf (l ++ ([(⟨name, v⟩ : (Str × Val))] : List (Str × Val))))), (b39, vmO ([] : VMap)), (b40, nmO), (b54, .cells [.nilmap, .nilmap, .nilmap]), (b9, valO ((gE (envOf l) [] (depE e + 1) e).1)), (b2, valO v), (b1, expO e)])
    refine AAny.keep [4, 13, 14, 15, 73] (by decide) ?_
    refine AAny.memEq (wth_perm (m := m) (L := [(b38, vmO (envOf (l ++ ([(⟨name, v⟩ : (Str × Val))] : List (Str × Val))))), (b39, vmO ([] : VMap)), (b40, nmO), (b54, .cells [.nilmap, .nilmap, .nilmap]), (b9, valO ((gE (envOf l) [] (depE e + 1) e).1)), (b2, valO v), (b1, expO e)]) (L' := [(b54, .cells [.nilmap, .nilmap, .nilmap]), (b40, nmO), (b39, vmO ([] : VMap)), (b38, vmO (envOf (l ++ ([(⟨name, v⟩ : (Str × Val))] : List (Str × Val))))), (b9, valO ((gE (envOf l) [] (depE e + 1) e).1)), (b2, valO v), (b1, expO e)]) hNb38 (pick_perm [3, 2, 1, 0, 0, 0, 0] _)) ?_
    have hNp : ([b54, b40, b39, b38, b9, b2, b1] : List Nat).Nodup := perm_nodup (L := [(b38, vmO (envOf (l ++ ([(⟨name, v⟩ : (Str × Val))] : List (Str × Val))))), (b39, vmO ([] : VMap)), (b40, nmO), (b54, .cells [.nilmap, .nilmap, .nilmap]), (b9, valO ((gE (envOf l) [] (depE e + 1) e).1)), (b2, valO v), (b1, expO e)]) (L' := [(b54, .cells [.nilmap, .nilmap, .nilmap]), (b40, nmO), (b39, vmO ([] : VMap)), (b38, vmO (envOf (l ++ ([(⟨name, v⟩ : (Str × Val))] : List (Str × Val))))), (b9, valO ((gE (envOf l) [] (depE e + 1) e).1)), (b2, valO v), (b1, expO e)]) hNb38 (pick_perm [3, 2, 1, 0, 0, 0, 0] _)
    exact s20 b54 hFb54 b40 hFb40 b39 hFb39 b38 hFb38 hNp
   ·
    show aopsR _ _ _ [_] _ _ _
    refine ar_alloc rfl (z := .agg [.nilmap, .nilmap, .nilmap]) rfl rfl ?_
    intro b58 hb58
    have hFb58 : m b58 = none := wth_none hb58
    have hNb58 : ([b58, b54, b9, b2, b1] : List Nat).Nodup := wth_nodup hb58 hNv1
    refine AAny.keep [4, 13, 14, 15, 16, 72] (by decide) ?_
    exact s22 b58 hFb58 b54 hFb54 hNb58
  clear s20
  have s25 : ∀ (b58 : Nat) (hFb58 : m b58 = none) (hNv1 : ([b58, b9, b2, b1] : List Nat).Nodup), A 7 #[true, true, true, true, true, true, true, false, false, false, false, false, true, false, false] (fun fr m => K1 (fr.keep [4, 13, 14, 15]) m) [(4, .ptr ⟨b1, 0, none⟩), (13, .ptr ⟨b9, 0, none⟩), (14, .err 67 ((gE (envOf l) [] (depE e + 1) e).2)), (16, .ptr ⟨b58, 0, none⟩), (72, .slice true ((l ++ ([(⟨name, v⟩ : (Str × Val))] : List (Str × Val))).map fldIn))] (AMem.wth m [(b58, .cells [.nilmap, .nilmap, .nilmap]), (b9, valO ((gE (envOf l) [] (depE e + 1) e).1)), (b2, valO v), (b1, expO e)]) := by
   intro b58 hFb58 hNv1
   subst hA
   refine AAny.step [] [7, 11] (by decide +kernel) (by simp) (by decide) ⟨?_, ?_, trivial⟩
   ·
    show aopsR _ _ _ [_] _ _ _
    refine u_Envs (l ++ ([(⟨name, v⟩ : (Str × Val))] : List (Str × Val))) (by first | (rw [List.length_append, List.length_singleton]; omega) | omega) _ _ ?_
    intro b38 b39 b40 hqb38 hb38 hb39 hb40
    have hFb38 : m b38 = none := wth_none hb38
    have hFb39 : m b39 = none := wth_none hb39
    have hFb40 : m b40 = none := wth_none hb40
    have hNb38 : ([b38, b39, b40, b58, b9, b2, b1] : List Nat).Nodup := wth_news (m := m) (L := [(b58, .cells [.nilmap, .nilmap, .nilmap]), (b9, valO ((gE (envOf l) [] (depE e + 1) e).1)), (b2, valO v), (b1, expO e)]) hqb38 (by simp only [List.forall_mem_cons]; exact ⟨hb38, hb39, hb40, fun _ h => by cases h⟩) hNv1
    show aopsR _ _ _ _ _ _ (AMem.wth m [(b38, vmO (envOf (l ++ ([(⟨name, v⟩ : (Str × Val))] : List (Str × Val))))), (b39, vmO ([] : VMap)), (b40, nmO), (b58, .cells [.nilmap, .nilmap, .nilmap]), (b9, valO ((gE (envOf l) [] (depE e + 1) e).1)), (b2, valO v), (b1, expO e)])
    refine AAny.keep [4, 13, 14, 16, 73] (by decide) ?_
    refine AAny.memEq (wth_perm (m := m) (L := [(b38, vmO (envOf (l ++ ([(⟨name, v⟩ : (Str × Val))] : List (Str × Val))))), (b39, vmO ([] : VMap)), (b40, nmO), (b58, .cells [.nilmap, .nilmap, .nilmap]), (b9, valO ((gE (envOf l) [] (depE e + 1) e).1)), (b2, valO v), (b1, expO e)]) (L' := [(b58, .cells [.nilmap, .nilmap, .nilmap]), (b40, nmO), (b39, vmO ([] : VMap)), (b38, vmO (envOf (l ++ ([(⟨name, v⟩ : (Str × Val))] : List (Str × Val))))), (b9, valO ((gE (envOf l) [] (depE e + 1) e).1)), (b2, valO v), (b1, expO e)]) hNb38 (pick_perm [3, 2, 1, 0, 0, 0, 0] _)) ?_
    have hNp : ([b58, b40, b39, b38, b9, b2, b1] : List Nat).Nodup := perm_nodup (L := [(b38, vmO (envOf (l ++ ([(⟨name, v⟩ : (Str × Val))] : List (Str × Val))))), (b39, vmO ([] : VMap)), (b40, nmO), (b58, .cells [.nilmap, .nilmap, .nilmap]), (b9, valO ((gE (envOf l) [] (depE e + 1) e).1)), (b2, valO v), (b1, expO e)]) (L' := [(b58, .cells [.nilmap, .nilmap, .nilmap]), (b40, nmO), (b39, vmO ([] : VMap)), (b38, vmO (envOf (l ++ ([(⟨name, v⟩ : (Str × Val))] : List (Str × Val))))), (b9, valO ((gE (envOf l) [] (depE e + 1) e).1)), (b2, valO v), (b1, expO e)]) hNb38 (pick_perm [3, 2, 1, 0, 0, 0, 0] _)
    exact s21 b58 hFb58 b40 hFb40 b39 hFb39 b38 hFb38 hNp
   ·
    show aopsR _ _ _ [_] _ _ _
    refine ar_alloc rfl (z := .agg [.nilmap, .nilmap, .nilmap]) rfl rfl ?_
    intro b54 hb54
    have hFb54 : m b54 = none := wth_none hb54
    have hNb54 : ([b54, b58, b9, b2, b1] : List Nat).Nodup := wth_nodup hb54 hNv1
    refine AAny.keep [4, 13, 14, 15, 16, 72] (by decide) ?_
    refine AAny.memEq (wth_perm (m := m) (L := [(b54, .cells [.nilmap, .nilmap, .nilmap]), (b58, .cells [.nilmap, .nilmap, .nilmap]), (b9, valO ((gE (envOf l) [] (depE e + 1) e).1)), (b2, valO v), (b1, expO e)]) (L' := [(b58, .cells [.nilmap, .nilmap, .nilmap]), (b54, .cells [.nilmap, .nilmap, .nilmap]), (b9, valO ((gE (envOf l) [] (depE e + 1) e).1)), (b2, valO v), (b1, expO e)]) hNb54 (pick_perm [1, 0, 0, 0, 0] _)) ?_
    have hNp : ([b58, b54, b9, b2, b1] : List Nat).Nodup := perm_nodup (L := [(b54, .cells [.nilmap, .nilmap, .nilmap]), (b58, .cells [.nilmap, .nilmap, .nilmap]), (b9, valO ((gE (envOf l) [] (depE e + 1) e).1)), (b2, valO v), (b1, expO e)]) (L' := [(b58, .cells [.nilmap, .nilmap, .nilmap]), (b54, .cells [.nilmap, .nilmap, .nilmap]), (b9, valO ((gE (envOf l) [] (depE e + 1) e).1)), (b2, valO v), (b1, expO e)]) hNb54 (pick_perm [1, 0, 0, 0, 0] _)
    exact s22 b58 hFb58 b54 hFb54 hNp
  clear s21
  have s26 : ∀ (b58 : Nat) (hFb58 : m b58 = none) (b54 : Nat) (hFb54 : m b54 = none) (hNv1 : ([b58, b54, b9, b2, b1] : List Nat).Nodup), A 7 #[true, true, true, true, true, true, false, false, false, false, false, true, true, false, false] (fun fr m => K1 (fr.keep [4, 13, 14, 15]) m) [(4, .ptr ⟨b1, 0, none⟩), (13, .ptr ⟨b9, 0, none⟩), (14, .err 67 ((gE (envOf l) [] (depE e + 1) e).2)), (15, .ptr ⟨b54, 0, none⟩), (16, .ptr ⟨b58, 0, none⟩), (67, .slice true (l.map fldIn)), (71, .slice true [.agg [.str name, .int .i64 v.kind, .int .i64 v.n, .str v.s, .slice false (v.l.map valIn), .slice false (v.f.map fldIn)]])] (AMem.wth m [(b58, .cells [.nilmap, .nilmap, .nilmap]), (b54, .cells [.nilmap, .nilmap, .nilmap]), (b9, valO ((gE (envOf l) [] (depE e + 1) e).1)), (b2, valO v), (b1, expO e)]) := by
   intro b58 hFb58 b54 hFb54 hNv1
   subst hA
   refine AAny.step [] [6] (by decide +kernel) (by simp) (by decide) ⟨?_, trivial⟩
   ·
    show aopsR _ _ _ [_] _ _ _
    refine ar_append rfl fldIn l ([(⟨name, v⟩ : (Str × Val))] : List (Str × Val)) rfl rfl rfl rfl (by simp only [List.map_cons, List.map_nil, fldIn_eq]; try rfl) rfl (Nat.le_of_ble_eq_true rfl) rfl (by (simp only [show Try.prog.bytesOf 46 = 96 from rfl, List.length_append, List.length_cons, List.length_nil]; omega)) (by (first | omega | (simp only [List.length_append, List.length_cons, List.length_nil]; omega))) (fun a => by rw [fldIn_eq]; exact ⟨rfl, rfl⟩) ?_
    refine AAny.keep [4, 13, 14, 15, 16, 72] (by decide) ?_
    exact s22 b58 hFb58 b54 hFb54 hNv1
  clear s22
  have s27 : ∀ (_ : True), A 8 #[true, true, true, true, true, true, true, false, false, false, false, false, false, false, false] (fun fr m => K1 (fr.keep [4, 13, 14, 15]) m) [(4, .ptr ⟨b1, 0, none⟩), (13, .ptr ⟨b9, 0, none⟩), (14, .err 67 ((gE (envOf l) [] (depE e + 1) e).2)), (72, .slice true ((l ++ ([(⟨name, v⟩ : (Str × Val))] : List (Str × Val))).map fldIn))] (AMem.wth m [(b9, valO ((gE (envOf l) [] (depE e + 1) e).1)), (b2, valO v), (b1, expO e)]) := by
   intro _
   subst hA
   refine AAny.step [] [7, 11, 12] (by decide +kernel) (by simp) (by decide) ⟨?_, ?_, ?_, trivial⟩
   ·
    show aopsR _ _ _ [_] _ _ _
    refine u_Envs (l ++ ([(⟨name, v⟩ : (Str × Val))] : List (Str × Val))) (by first | (rw [List.length_append, List.length_singleton]; omega) | omega) _ _ ?_
    intro b38 b39 b40 hqb38 hb38 hb39 hb40
    have hFb38 : m b38 = none := wth_none hb38
    have hFb39 : m b39 = none := wth_none hb39
    have hFb40 : m b40 = none := wth_none hb40
    have hNb38 : ([b38, b39, b40, b9, b2, b1] : List Nat).Nodup := wth_news (m := m) (L := [(b9, valO ((gE (envOf l) [] (depE e + 1) e).1)), (b2, valO v), (b1, expO e)]) hqb38 (by simp only [List.forall_mem_cons]; exact ⟨hb38, hb39, hb40, fun _ h => by cases h⟩) hNd1
    show aopsR _ _ _ _ _ _ (AMem.wth m [(b38, vmO (envOf (l ++ ([(⟨name, v⟩ : (Str × Val))] : List (Str × Val))))), (b39, vmO ([] : VMap)), (b40, nmO), (b9, valO ((gE (envOf l) [] (depE e + 1) e).1)), (b2, valO v), (b1, expO e)])
    refine AAny.keep [4, 13, 14, 73] (by decide) ?_
    refine AAny.memEq (wth_perm (m := m) (L := [(b38, vmO (envOf (l ++ ([(⟨name, v⟩ : (Str × Val))] : List (Str × Val))))), (b39, vmO ([] : VMap)), (b40, nmO), (b9, valO ((gE (envOf l) [] (depE e + 1) e).1)), (b2, valO v), (b1, expO e)]) (L' := [(b40, nmO), (b39, vmO ([] : VMap)), (b38, vmO (envOf (l ++ ([(⟨name, v⟩ : (Str × Val))] : List (Str × Val))))), (b9, valO ((gE (envOf l) [] (depE e + 1) e).1)), (b2, valO v), (b1, expO e)]) hNb38 (pick_perm [2, 1, 0, 0, 0, 0] _)) ?_
    have hNp : ([b40, b39, b38, b9, b2, b1] : List Nat).Nodup := perm_nodup (L := [(b38, vmO (envOf (l ++ ([(⟨name, v⟩ : (Str × Val))] : List (Str × Val))))), (b39, vmO ([] : VMap)), (b40, nmO), (b9, valO ((gE (envOf l) [] (depE e + 1) e).1)), (b2, valO v), (b1, expO e)]) (L' := [(b40, nmO), (b39, vmO ([] : VMap)), (b38, vmO (envOf (l ++ ([(⟨name, v⟩ : (Str × Val))] : List (Str × Val))))), (b9, valO ((gE (envOf l) [] (depE e + 1) e).1)), (b2, valO v), (b1, expO e)]) hNb38 (pick_perm [2, 1, 0, 0, 0, 0] _)
    exact s23 b40 hFb40 b39 hFb39 b38 hFb38 hNp
   ·
    show aopsR _ _ _ [_] _ _ _
    refine ar_alloc rfl (z := .agg [.nilmap, .nilmap, .nilmap]) rfl rfl ?_
    intro b54 hb54
    have hFb54 : m b54 = none := wth_none hb54
    have hNb54 : ([b54, b9, b2, b1] : List Nat).Nodup := wth_nodup hb54 hNd1
    refine AAny.keep [4, 13, 14, 15, 72] (by decide) ?_
    exact s24 b54 hFb54 hNb54
   ·
    show aopsR _ _ _ [_] _ _ _
    refine ar_alloc rfl (z := .agg [.nilmap, .nilmap, .nilmap]) rfl rfl ?_
    intro b58 hb58
    have hFb58 : m b58 = none := wth_none hb58
    have hNb58 : ([b58, b9, b2, b1] : List Nat).Nodup := wth_nodup hb58 hNd1
    refine AAny.keep [4, 13, 14, 16, 72] (by decide) ?_
    exact s25 b58 hFb58 hNb58
  clear s23
  have s28 : ∀ (b54 : Nat) (hFb54 : m b54 = none) (hNv1 : ([b54, b9, b2, b1] : List Nat).Nodup), A 8 #[true, true, true, true, true, true, false, false, false, false, false, true, false, false, false] (fun fr m => K1 (fr.keep [4, 13, 14, 15]) m) [(4, .ptr ⟨b1, 0, none⟩), (13, .ptr ⟨b9, 0, none⟩), (14, .err 67 ((gE (envOf l) [] (depE e + 1) e).2)), (15, .ptr ⟨b54, 0, none⟩), (67, .slice true (l.map fldIn)), (71, .slice true [.agg [.str name, .int .i64 v.kind, .int .i64 v.n, .str v.s, .slice false (v.l.map valIn), .slice false (v.f.map fldIn)]])] (AMem.wth m [(b54, .cells [.nilmap, .nilmap, .nilmap]), (b9, valO ((gE (envOf l) [] (depE e + 1) e).1)), (b2, valO v), (b1, expO e)]) := by
   intro b54 hFb54 hNv1
   subst hA
   refine AAny.step [] [6, 12] (by decide +kernel) (by simp) (by decide) ⟨?_, ?_, trivial⟩
   ·
    show aopsR _ _ _ [_] _ _ _
    refine ar_append rfl fldIn l ([(⟨name, v⟩ : (Str × Val))] : List (Str × Val)) rfl rfl rfl rfl (by simp only [List.map_cons, List.map_nil, fldIn_eq]; try rfl) rfl (Nat.le_of_ble_eq_true rfl) rfl (by (simp only [show Try.prog.bytesOf 46 = 96 from rfl, List.length_append, List.length_cons, List.length_nil]; omega)) (by (first | omega | (simp only [List.length_append, List.length_cons, List.length_nil]; omega))) (fun a => by rw [fldIn_eq]; exact ⟨rfl, rfl⟩) ?_
    refine AAny.keep [4, 13, 14, 15, 72] (by decide) ?_
    exact s24 b54 hFb54 hNv1
   ·
    show aopsR _ _ _ [_] _ _ _
    refine ar_alloc rfl (z := .agg [.nilmap, .nilmap, .nilmap]) rfl rfl ?_
    intro b58 hb58
    have hFb58 : m b58 = none := wth_none hb58
    have hNb58 : ([b58, b54, b9, b2, b1] : List Nat).Nodup := wth_nodup hb58 hNv1
    refine AAny.keep [4, 13, 14, 15, 16, 67, 71] (by decide) ?_
    exact s26 b58 hFb58 b54 hFb54 hNb58
  clear s24
  have s29 : ∀ (b58 : Nat) (hFb58 : m b58 = none) (hNv1 : ([b58, b9, b2, b1] : List Nat).Nodup), A 8 #[true, true, true, true, true, true, false, false, false, false, false, false, true, false, false] (fun fr m => K1 (fr.keep [4, 13, 14, 15]) m) [(4, .ptr ⟨b1, 0, none⟩), (13, .ptr ⟨b9, 0, none⟩), (14, .err 67 ((gE (envOf l) [] (depE e + 1) e).2)), (16, .ptr ⟨b58, 0, none⟩), (67, .slice true (l.map fldIn)), (71, .slice true [.agg [.str name, .int .i64 v.kind, .int .i64 v.n, .str v.s, .slice false (v.l.map valIn), .slice false (v.f.map fldIn)]])] (AMem.wth m [(b58, .cells [.nilmap, .nilmap, .nilmap]), (b9, valO ((gE (envOf l) [] (depE e + 1) e).1)), (b2, valO v), (b1, expO e)]) := by
   intro b58 hFb58 hNv1
   subst hA
   refine AAny.step [] [6, 11] (by decide +kernel) (by simp) (by decide) ⟨?_, ?_, trivial⟩
   ·
    show aopsR _ _ _ [_] _ _ _
    refine ar_append rfl fldIn l ([(⟨name, v⟩ : (Str × Val))] : List (Str × Val)) rfl rfl rfl rfl (by simp only [List.map_cons, List.map_nil, fldIn_eq]; try rfl) rfl (Nat.le_of_ble_eq_true rfl) rfl (by (simp only [show Try.prog.bytesOf 46 = 96 from rfl, List.length_append, List.length_cons, List.length_nil]; omega)) (by (first | omega | (simp only [List.length_append, List.length_cons, List.length_nil]; omega))) (fun a => by rw [fldIn_eq]; exact ⟨rfl, rfl⟩) ?_
    refine AAny.keep [4, 13, 14, 16, 72] (by decide) ?_
    exact s25 b58 hFb58 hNv1
   ·
    show aopsR _ _ _ [_] _ _ _
    refine ar_alloc rfl (z := .agg [.nilmap, .nilmap, .nilmap]) rfl rfl ?_
    intro b54 hb54
    have hFb54 : m b54 = none := wth_none hb54
    have hNb54 : ([b54, b58, b9, b2, b1] : List Nat).Nodup := wth_nodup hb54 hNv1
    refine AAny.keep [4, 13, 14, 15, 16, 67, 71] (by decide) ?_
    refine AAny.memEq (wth_perm (m := m) (L := [(b54, .cells [.nilmap, .nilmap, .nilmap]), (b58, .cells [.nilmap, .nilmap, .nilmap]), (b9, valO ((gE (envOf l) [] (depE e + 1) e).1)), (b2, valO v), (b1, expO e)]) (L' := [(b58, .cells [.nilmap, .nilmap, .nilmap]), (b54, .cells [.nilmap, .nilmap, .nilmap]), (b9, valO ((gE (envOf l) [] (depE e + 1) e).1)), (b2, valO v), (b1, expO e)]) hNb54 (pick_perm [1, 0, 0, 0, 0] _)) ?_
    have hNp : ([b58, b54, b9, b2, b1] : List Nat).Nodup := perm_nodup (L := [(b54, .cells [.nilmap, .nilmap, .nilmap]), (b58, .cells [.nilmap, .nilmap, .nilmap]), (b9, valO ((gE (envOf l) [] (depE e + 1) e).1)), (b2, valO v), (b1, expO e)]) (L' := [(b58, .cells [.nilmap, .nilmap, .nilmap]), (b54, .cells [.nilmap, .nilmap, .nilmap]), (b9, valO ((gE (envOf l) [] (depE e + 1) e).1)), (b2, valO v), (b1, expO e)]) hNb54 (pick_perm [1, 0, 0, 0, 0] _)
    exact s26 b58 hFb58 b54 hFb54 hNp
  clear s25
  have s30 : ∀ (b58 : Nat) (hFb58 : m b58 = none) (b54 : Nat) (hFb54 : m b54 = none) (hNv1 : ([b58, b54, b9, b2, b1] : List Nat).Nodup), A 8 #[true, true, true, true, true, false, false, false, false, false, false, true, true, false, false] (fun fr m => K1 (fr.keep [4, 13, 14, 15]) m) [(4, .ptr ⟨b1, 0, none⟩), (13, .ptr ⟨b9, 0, none⟩), (14, .err 67 ((gE (envOf l) [] (depE e + 1) e).2)), (15, .ptr ⟨b54, 0, none⟩), (16, .ptr ⟨b58, 0, none⟩), (67, .slice true (l.map fldIn)), (70, .agg [.str name, .int .i64 v.kind, .int .i64 v.n, .str v.s, .slice false (v.l.map valIn), .slice false (v.f.map fldIn)])] (AMem.wth m [(b58, .cells [.nilmap, .nilmap, .nilmap]), (b54, .cells [.nilmap, .nilmap, .nilmap]), (b9, valO ((gE (envOf l) [] (depE e + 1) e).1)), (b2, valO v), (b1, expO e)]) := by
   intro b58 hFb58 b54 hFb54 hNv1
   subst hA
   refine AAny.step [] [5] (by decide +kernel) (by simp) (by decide) ⟨?_, trivial⟩
   ·
    show aopsR _ _ _ [_] _ _ _
    refine ⟨⟨rfl, Nat.le_of_ble_eq_true rfl, rfl, Nat.le_of_ble_eq_true rfl, rfl, by simp only [List.forall_mem_cons]; exact ⟨⟨rfl, rfl⟩, fun _ h => by cases h⟩⟩, ?_⟩
    refine AAny.keep [4, 13, 14, 15, 16, 67, 71] (by decide) ?_
    exact s26 b58 hFb58 b54 hFb54 hNv1
  have s31 : ∀ (b58 : Nat) (hFb58 : m b58 = none) (b54 : Nat) (hFb54 : m b54 = none) (hNv1 : ([b58, b54, b9, b2, b1] : List Nat).Nodup), A 8 #[true, false, true, true, true, true, false, false, false, false, false, true, true, false, false] (fun fr m => K1 (fr.keep [4, 13, 14, 15]) m) [(4, .ptr ⟨b1, 0, none⟩), (13, .ptr ⟨b9, 0, none⟩), (14, .err 67 ((gE (envOf l) [] (depE e + 1) e).2)), (15, .ptr ⟨b54, 0, none⟩), (16, .ptr ⟨b58, 0, none⟩), (66, .slice false (l.map fldIn)), (71, .slice true [.agg [.str name, .int .i64 v.kind, .int .i64 v.n, .str v.s, .slice false (v.l.map valIn), .slice false (v.f.map fldIn)]])] (AMem.wth m [(b58, .cells [.nilmap, .nilmap, .nilmap]), (b54, .cells [.nilmap, .nilmap, .nilmap]), (b9, valO ((gE (envOf l) [] (depE e + 1) e).1)), (b2, valO v), (b1, expO e)]) := by
   intro b58 hFb58 b54 hFb54 hNv1
   subst hA
   refine AAny.step [] [1] (by decide +kernel) (by simp) (by decide) ⟨?_, trivial⟩
   ·
    show aopsR _ _ _ [_] _ _ _
    refine ar_append0 rfl fldIn l rfl rfl rfl rfl (Nat.le_of_ble_eq_true rfl) rfl (by (simp only [show Try.prog.bytesOf 46 = 96 from rfl, List.length_append, List.length_cons, List.length_nil]; omega)) (fun a => by rw [fldIn_eq]; exact ⟨rfl, rfl⟩) ?_
    refine AAny.keep [4, 13, 14, 15, 16, 67, 71] (by decide) ?_
    exact s26 b58 hFb58 b54 hFb54 hNv1
  clear s26
  have s32 : ∀ (_ : True), A 9 #[true, true, true, true, true, true, false, false, false, false, false, false, false, false, false] (fun fr m => K1 (fr.keep [4, 13, 14, 15]) m) [(4, .ptr ⟨b1, 0, none⟩), (13, .ptr ⟨b9, 0, none⟩), (14, .err 67 ((gE (envOf l) [] (depE e + 1) e).2)), (67, .slice true (l.map fldIn)), (71, .slice true [.agg [.str name, .int .i64 v.kind, .int .i64 v.n, .str v.s, .slice false (v.l.map valIn), .slice false (v.f.map fldIn)]])] (AMem.wth m [(b9, valO ((gE (envOf l) [] (depE e + 1) e).1)), (b2, valO v), (b1, expO e)]) := by
   intro _
   subst hA
   refine AAny.step [] [6, 11, 12] (by decide +kernel) (by simp) (by decide) ⟨?_, ?_, ?_, trivial⟩
   ·
    show aopsR _ _ _ [_] _ _ _
    refine ar_append rfl fldIn l ([(⟨name, v⟩ : (Str × Val))] : List (Str × Val)) rfl rfl rfl rfl (by simp only [List.map_cons, List.map_nil, fldIn_eq]; try rfl) rfl (Nat.le_of_ble_eq_true rfl) rfl (by (simp only [show Try.prog.bytesOf 46 = 96 from rfl, List.length_append, List.length_cons, List.length_nil]; omega)) (by (first | omega | (simp only [List.length_append, List.length_cons, List.length_nil]; omega))) (fun a => by rw [fldIn_eq]; exact ⟨rfl, rfl⟩) ?_
    refine AAny.keep [4, 13, 14, 72] (by decide) ?_
    exact s27 trivial
   ·
    show aopsR _ _ _ [_] _ _ _
    refine ar_alloc rfl (z := .agg [.nilmap, .nilmap, .nilmap]) rfl rfl ?_
    intro b54 hb54
    have hFb54 : m b54 = none := wth_none hb54
    have hNb54 : ([b54, b9, b2, b1] : List Nat).Nodup := wth_nodup hb54 hNd1
    refine AAny.keep [4, 13, 14, 15, 67, 71] (by decide) ?_
    exact s28 b54 hFb54 hNb54
   ·
    show aopsR _ _ _ [_] _ _ _
    refine ar_alloc rfl (z := .agg [.nilmap, .nilmap, .nilmap]) rfl rfl ?_
    intro b58 hb58
    have hFb58 : m b58 = none := wth_none hb58
    have hNb58 : ([b58, b9, b2, b1] : List Nat).Nodup := wth_nodup hb58 hNd1
    refine AAny.keep [4, 13, 14, 16, 67, 71] (by decide) ?_
    exact s29 b58 hFb58 hNb58
  clear s27
  have s33 : ∀ (b54 : Nat) (hFb54 : m b54 = none) (hNv1 : ([b54, b9, b2, b1] : List Nat).Nodup), A 9 #[true, true, true, true, true, false, false, false, false, false, false, true, false, false, false] (fun fr m => K1 (fr.keep [4, 13, 14, 15]) m) [(4, .ptr ⟨b1, 0, none⟩), (13, .ptr ⟨b9, 0, none⟩), (14, .err 67 ((gE (envOf l) [] (depE e + 1) e).2)), (15, .ptr ⟨b54, 0, none⟩), (67, .slice true (l.map fldIn)), (70, .agg [.str name, .int .i64 v.kind, .int .i64 v.n, .str v.s, .slice false (v.l.map valIn), .slice false (v.f.map fldIn)])] (AMem.wth m [(b54, .cells [.nilmap, .nilmap, .nilmap]), (b9, valO ((gE (envOf l) [] (depE e + 1) e).1)), (b2, valO v), (b1, expO e)]) := by
   intro b54 hFb54 hNv1
   subst hA
   refine AAny.step [] [5, 12] (by decide +kernel) (by simp) (by decide) ⟨?_, ?_, trivial⟩
   ·
    show aopsR _ _ _ [_] _ _ _
    refine ⟨⟨rfl, Nat.le_of_ble_eq_true rfl, rfl, Nat.le_of_ble_eq_true rfl, rfl, by simp only [List.forall_mem_cons]; exact ⟨⟨rfl, rfl⟩, fun _ h => by cases h⟩⟩, ?_⟩
    refine AAny.keep [4, 13, 14, 15, 67, 71] (by decide) ?_
    exact s28 b54 hFb54 hNv1
   ·
    show aopsR _ _ _ [_] _ _ _
    refine ar_alloc rfl (z := .agg [.nilmap, .nilmap, .nilmap]) rfl rfl ?_
    intro b58 hb58
    have hFb58 : m b58 = none := wth_none hb58
    have hNb58 : ([b58, b54, b9, b2, b1] : List Nat).Nodup := wth_nodup hb58 hNv1
    refine AAny.keep [4, 13, 14, 15, 16, 67, 70] (by decide) ?_
    exact s30 b58 hFb58 b54 hFb54 hNb58
  have s34 : ∀ (b58 : Nat) (hFb58 : m b58 = none) (hNv1 : ([b58, b9, b2, b1] : List Nat).Nodup), A 9 #[true, true, true, true, true, false, false, false, false, false, false, false, true, false, false] (fun fr m => K1 (fr.keep [4, 13, 14, 15]) m) [(4, .ptr ⟨b1, 0, none⟩), (13, .ptr ⟨b9, 0, none⟩), (14, .err 67 ((gE (envOf l) [] (depE e + 1) e).2)), (16, .ptr ⟨b58, 0, none⟩), (67, .slice true (l.map fldIn)), (70, .agg [.str name, .int .i64 v.kind, .int .i64 v.n, .str v.s, .slice false (v.l.map valIn), .slice false (v.f.map fldIn)])] (AMem.wth m [(b58, .cells [.nilmap, .nilmap, .nilmap]), (b9, valO ((gE (envOf l) [] (depE e + 1) e).1)), (b2, valO v), (b1, expO e)]) := by
   intro b58 hFb58 hNv1
   subst hA
   refine AAny.step [] [5, 11] (by decide +kernel) (by simp) (by decide) ⟨?_, ?_, trivial⟩
   ·
    show aopsR _ _ _ [_] _ _ _
    refine ⟨⟨rfl, Nat.le_of_ble_eq_true rfl, rfl, Nat.le_of_ble_eq_true rfl, rfl, by simp only [List.forall_mem_cons]; exact ⟨⟨rfl, rfl⟩, fun _ h => by cases h⟩⟩, ?_⟩
    refine AAny.keep [4, 13, 14, 16, 67, 71] (by decide) ?_
    exact s29 b58 hFb58 hNv1
   ·
    show aopsR _ _ _ [_] _ _ _
    refine ar_alloc rfl (z := .agg [.nilmap, .nilmap, .nilmap]) rfl rfl ?_
    intro b54 hb54
    have hFb54 : m b54 = none := wth_none hb54
    have hNb54 : ([b54, b58, b9, b2, b1] : List Nat).Nodup := wth_nodup hb54 hNv1
    refine AAny.keep [4, 13, 14, 15, 16, 67, 70] (by decide) ?_
    refine AAny.memEq (wth_perm (m := m) (L := [(b54, .cells [.nilmap, .nilmap, .nilmap]), (b58, .cells [.nilmap, .nilmap, .nilmap]), (b9, valO ((gE (envOf l) [] (depE e + 1) e).1)), (b2, valO v), (b1, expO e)]) (L' := [(b58, .cells [.nilmap, .nilmap, .nilmap]), (b54, .cells [.nilmap, .nilmap, .nilmap]), (b9, valO ((gE (envOf l) [] (depE e + 1) e).1)), (b2, valO v), (b1, expO e)]) hNb54 (pick_perm [1, 0, 0, 0, 0] _)) ?_
    have hNp : ([b58, b54, b9, b2, b1] : List Nat).Nodup := perm_nodup (L := [(b54, .cells [.nilmap, .nilmap, .nilmap]), (b58, .cells [.nilmap, .nilmap, .nilmap]), (b9, valO ((gE (envOf l) [] (depE e + 1) e).1)), (b2, valO v), (b1, expO e)]) (L' := [(b58, .cells [.nilmap, .nilmap, .nilmap]), (b54, .cells [.nilmap, .nilmap, .nilmap]), (b9, valO ((gE (envOf l) [] (depE e + 1) e).1)), (b2, valO v), (b1, expO e)]) hNb54 (pick_perm [1, 0, 0, 0, 0] _)
    exact s30 b58 hFb58 b54 hFb54 hNp
  have s35 : ∀ (b58 : Nat) (hFb58 : m b58 = none) (b54 : Nat) (hFb54 : m b54 = none) (hNv1 : ([b58, b54, b9, b2, b1] : List Nat).Nodup), A 9 #[true, true, true, true, false, false, false, false, false, false, false, true, true, false, false] (fun fr m => K1 (fr.keep [4, 13, 14, 15]) m) [(4, .ptr ⟨b1, 0, none⟩), (13, .ptr ⟨b9, 0, none⟩), (14, .err 67 ((gE (envOf l) [] (depE e + 1) e).2)), (15, .ptr ⟨b54, 0, none⟩), (16, .ptr ⟨b58, 0, none⟩), (67, .slice true (l.map fldIn)), (68, .str name), (69, .agg [.int .i64 v.kind, .int .i64 v.n, .str v.s, .slice false (v.l.map valIn), .slice false (v.f.map fldIn)])] (AMem.wth m [(b58, .cells [.nilmap, .nilmap, .nilmap]), (b54, .cells [.nilmap, .nilmap, .nilmap]), (b9, valO ((gE (envOf l) [] (depE e + 1) e).1)), (b2, valO v), (b1, expO e)]) := by
   intro b58 hFb58 b54 hFb54 hNv1
   subst hA
   refine AAny.step [] [4] (by decide +kernel) (by simp) (by decide) ⟨?_, trivial⟩
   ·
    show aopsR _ _ _ [_] _ _ _
    refine ⟨⟨rfl, by simp only [List.forall_mem_cons]; exact ⟨rfl, rfl, fun _ h => by cases h⟩, by simp only [List.forall_mem_cons]; exact ⟨rfl, rfl, fun _ h => by cases h⟩⟩, ?_⟩
    refine AAny.keep [4, 13, 14, 15, 16, 67, 70] (by decide) ?_
    exact s30 b58 hFb58 b54 hFb54 hNv1
  have s36 : ∀ (b54 : Nat) (hFb54 : m b54 = none) (hNv1 : ([b54, b9, b2, b1] : List Nat).Nodup), A 9 #[true, false, true, true, true, true, false, false, false, false, false, true, false, false, false] (fun fr m => K1 (fr.keep [4, 13, 14, 15]) m) [(4, .ptr ⟨b1, 0, none⟩), (13, .ptr ⟨b9, 0, none⟩), (14, .err 67 ((gE (envOf l) [] (depE e + 1) e).2)), (15, .ptr ⟨b54, 0, none⟩), (66, .slice false (l.map fldIn)), (71, .slice true [.agg [.str name, .int .i64 v.kind, .int .i64 v.n, .str v.s, .slice false (v.l.map valIn), .slice false (v.f.map fldIn)]])] (AMem.wth m [(b54, .cells [.nilmap, .nilmap, .nilmap]), (b9, valO ((gE (envOf l) [] (depE e + 1) e).1)), (b2, valO v), (b1, expO e)]) := by
   intro b54 hFb54 hNv1
   subst hA
   refine AAny.step [] [1, 12] (by decide +kernel) (by simp) (by decide) ⟨?_, ?_, trivial⟩
   ·
    show aopsR _ _ _ [_] _ _ _
    refine ar_append0 rfl fldIn l rfl rfl rfl rfl (Nat.le_of_ble_eq_true rfl) rfl (by (simp only [show Try.prog.bytesOf 46 = 96 from rfl, List.length_append, List.length_cons, List.length_nil]; omega)) (fun a => by rw [fldIn_eq]; exact ⟨rfl, rfl⟩) ?_
    refine AAny.keep [4, 13, 14, 15, 67, 71] (by decide) ?_
    exact s28 b54 hFb54 hNv1
   ·
    show aopsR _ _ _ [_] _ _ _
    refine ar_alloc rfl (z := .agg [.nilmap, .nilmap, .nilmap]) rfl rfl ?_
    intro b58 hb58
    have hFb58 : m b58 = none := wth_none hb58
    have hNb58 : ([b58, b54, b9, b2, b1] : List Nat).Nodup := wth_nodup hb58 hNv1
    refine AAny.keep [4, 13, 14, 15, 16, 66, 71] (by decide) ?_
    exact s31 b58 hFb58 b54 hFb54 hNb58
  clear s28
  have s37 : ∀ (b58 : Nat) (hFb58 : m b58 = none) (hNv1 : ([b58, b9, b2, b1] : List Nat).Nodup), A 9 #[true, false, true, true, true, true, false, false, false, false, false, false, true, false, false] (fun fr m => K1 (fr.keep [4, 13, 14, 15]) m) [(4, .ptr ⟨b1, 0, none⟩), (13, .ptr ⟨b9, 0, none⟩), (14, .err 67 ((gE (envOf l) [] (depE e + 1) e).2)), (16, .ptr ⟨b58, 0, none⟩), (66, .slice false (l.map fldIn)), (71, .slice true [.agg [.str name, .int .i64 v.kind, .int .i64 v.n, .str v.s, .slice false (v.l.map valIn), .slice false (v.f.map fldIn)]])] (AMem.wth m [(b58, .cells [.nilmap, .nilmap, .nilmap]), (b9, valO ((gE (envOf l) [] (depE e + 1) e).1)), (b2, valO v), (b1, expO e)]) := by
   intro b58 hFb58 hNv1
   subst hA
   refine AAny.step [] [1, 11] (by decide +kernel) (by simp) (by decide) ⟨?_, ?_, trivial⟩
   ·
    show aopsR _ _ _ [_] _ _ _
    refine ar_append0 rfl fldIn l rfl rfl rfl rfl (Nat.le_of_ble_eq_true rfl) rfl (by (simp only [show Try.prog.bytesOf 46 = 96 from rfl, List.length_append, List.length_cons, List.length_nil]; omega)) (fun a => by rw [fldIn_eq]; exact ⟨rfl, rfl⟩) ?_
    refine AAny.keep [4, 13, 14, 16, 67, 71] (by decide) ?_
    exact s29 b58 hFb58 hNv1
   ·
    show aopsR _ _ _ [_] _ _ _
    refine ar_alloc rfl (z := .agg [.nilmap, .nilmap, .nilmap]) rfl rfl ?_
    intro b54 hb54
    have hFb54 : m b54 = none := wth_none hb54
    have hNb54 : ([b54, b58, b9, b2, b1] : List Nat).Nodup := wth_nodup hb54 hNv1
    refine AAny.keep [4, 13, 14, 15, 16, 66, 71] (by decide) ?_
    refine AAny.memEq (wth_perm (m := m) (L := [(b54, .cells [.nilmap, .nilmap, .nilmap]), (b58, .cells [.nilmap, .nilmap, .nilmap]), (b9, valO ((gE (envOf l) [] (depE e + 1) e).1)), (b2, valO v), (b1, expO e)]) (L' := [(b58, .cells [.nilmap, .nilmap, .nilmap]), (b54, .cells [.nilmap, .nilmap, .nilmap]), (b9, valO ((gE (envOf l) [] (depE e + 1) e).1)), (b2, valO v), (b1, expO e)]) hNb54 (pick_perm [1, 0, 0, 0, 0] _)) ?_
    have hNp : ([b58, b54, b9, b2, b1] : List Nat).Nodup := perm_nodup (L := [(b54, .cells [.nilmap, .nilmap, .nilmap]), (b58, .cells [.nilmap, .nilmap, .nilmap]), (b9, valO ((gE (envOf l) [] (depE e + 1) e).1)), (b2, valO v), (b1, expO e)]) (L' := [(b58, .cells [.nilmap, .nilmap, .nilmap]), (b54, .cells [.nilmap, .nilmap, .nilmap]), (b9, valO ((gE (envOf l) [] (depE e + 1) e).1)), (b2, valO v), (b1, expO e)]) hNb54 (pick_perm [1, 0, 0, 0, 0] _)
    exact s31 b58 hFb58 b54 hFb54 hNp
  clear s29
  have s38 : ∀ (b58 : Nat) (hFb58 : m b58 = none) (b54 : Nat) (hFb54 : m b54 = none) (hNv1 : ([b58, b54, b9, b2, b1] : List Nat).Nodup), A 9 #[true, false, true, true, true, false, false, false, false, false, false, true, true, false, false] (fun fr m => K1 (fr.keep [4, 13, 14, 15]) m) [(4, .ptr ⟨b1, 0, none⟩), (13, .ptr ⟨b9, 0, none⟩), (14, .err 67 ((gE (envOf l) [] (depE e + 1) e).2)), (15, .ptr ⟨b54, 0, none⟩), (16, .ptr ⟨b58, 0, none⟩), (66, .slice false (l.map fldIn)), (70, .agg [.str name, .int .i64 v.kind, .int .i64 v.n, .str v.s, .slice false (v.l.map valIn), .slice false (v.f.map fldIn)])] (AMem.wth m [(b58, .cells [.nilmap, .nilmap, .nilmap]), (b54, .cells [.nilmap, .nilmap, .nilmap]), (b9, valO ((gE (envOf l) [] (depE e + 1) e).1)), (b2, valO v), (b1, expO e)]) := by
   intro b58 hFb58 b54 hFb54 hNv1
   subst hA
   refine AAny.step [] [1, 5] (by decide +kernel) (by simp) (by decide) ⟨?_, ?_, trivial⟩
   ·
    show aopsR _ _ _ [_] _ _ _
    refine ar_append0 rfl fldIn l rfl rfl rfl rfl (Nat.le_of_ble_eq_true rfl) rfl (by (simp only [show Try.prog.bytesOf 46 = 96 from rfl, List.length_append, List.length_cons, List.length_nil]; omega)) (fun a => by rw [fldIn_eq]; exact ⟨rfl, rfl⟩) ?_
    refine AAny.keep [4, 13, 14, 15, 16, 67, 70] (by decide) ?_
    exact s30 b58 hFb58 b54 hFb54 hNv1
   ·
    show aopsR _ _ _ [_] _ _ _
    refine ⟨⟨rfl, Nat.le_of_ble_eq_true rfl, rfl, Nat.le_of_ble_eq_true rfl, rfl, by simp only [List.forall_mem_cons]; exact ⟨⟨rfl, rfl⟩, fun _ h => by cases h⟩⟩, ?_⟩
    refine AAny.keep [4, 13, 14, 15, 16, 66, 71] (by decide) ?_
    exact s31 b58 hFb58 b54 hFb54 hNv1
  clear s30
  have s39 : ∀ (b58 : Nat) (hFb58 : m b58 = none) (b54 : Nat) (hFb54 : m b54 = none) (hNv1 : ([b58, b54, b9, b2, b1] : List Nat).Nodup), A 9 #[false, false, true, true, true, true, false, false, false, false, false, true, true, false, false] (fun fr m => K1 (fr.keep [4, 13, 14, 15]) m) [(1, .slice false (l.map fldIn)), (4, .ptr ⟨b1, 0, none⟩), (13, .ptr ⟨b9, 0, none⟩), (14, .err 67 ((gE (envOf l) [] (depE e + 1) e).2)), (15, .ptr ⟨b54, 0, none⟩), (16, .ptr ⟨b58, 0, none⟩), (71, .slice true [.agg [.str name, .int .i64 v.kind, .int .i64 v.n, .str v.s, .slice false (v.l.map valIn), .slice false (v.f.map fldIn)]])] (AMem.wth m [(b58, .cells [.nilmap, .nilmap, .nilmap]), (b54, .cells [.nilmap, .nilmap, .nilmap]), (b9, valO ((gE (envOf l) [] (depE e + 1) e).1)), (b2, valO v), (b1, expO e)]) := by
   intro b58 hFb58 b54 hFb54 hNv1
   subst hA
   refine AAny.step [] [0] (by decide +kernel) (by simp) (by decide) ⟨?_, trivial⟩
   ·
    show aopsR _ _ _ [_] _ _ _
    refine ⟨trivial, ?_⟩
    refine AAny.keep [4, 13, 14, 15, 16, 66, 71] (by decide) ?_
    exact s31 b58 hFb58 b54 hFb54 hNv1
  clear s31
  have s40 : ∀ (_ : True), A 10 #[true, true, true, true, true, false, false, false, false, false, false, false, false, false, false] (fun fr m => K1 (fr.keep [4, 13, 14, 15]) m) [(4, .ptr ⟨b1, 0, none⟩), (13, .ptr ⟨b9, 0, none⟩), (14, .err 67 ((gE (envOf l) [] (depE e + 1) e).2)), (67, .slice true (l.map fldIn)), (70, .agg [.str name, .int .i64 v.kind, .int .i64 v.n, .str v.s, .slice false (v.l.map valIn), .slice false (v.f.map fldIn)])] (AMem.wth m [(b9, valO ((gE (envOf l) [] (depE e + 1) e).1)), (b2, valO v), (b1, expO e)]) := by
   intro _
   subst hA
   refine AAny.step [] [5, 11, 12] (by decide +kernel) (by simp) (by decide) ⟨?_, ?_, ?_, trivial⟩
   ·
    show aopsR _ _ _ [_] _ _ _
    refine ⟨⟨rfl, Nat.le_of_ble_eq_true rfl, rfl, Nat.le_of_ble_eq_true rfl, rfl, by simp only [List.forall_mem_cons]; exact ⟨⟨rfl, rfl⟩, fun _ h => by cases h⟩⟩, ?_⟩
    refine AAny.keep [4, 13, 14, 67, 71] (by decide) ?_
    exact s32 trivial
   ·
    show aopsR _ _ _ [_] _ _ _
    refine ar_alloc rfl (z := .agg [.nilmap, .nilmap, .nilmap]) rfl rfl ?_
    intro b54 hb54
    have hFb54 : m b54 = none := wth_none hb54
    have hNb54 : ([b54, b9, b2, b1] : List Nat).Nodup := wth_nodup hb54 hNd1
    refine AAny.keep [4, 13, 14, 15, 67, 70] (by decide) ?_
    exact s33 b54 hFb54 hNb54
   ·
    show aopsR _ _ _ [_] _ _ _
    refine ar_alloc rfl (z := .agg [.nilmap, .nilmap, .nilmap]) rfl rfl ?_
    intro b58 hb58
    have hFb58 : m b58 = none := wth_none hb58
    have hNb58 : ([b58, b9, b2, b1] : List Nat).Nodup := wth_nodup hb58 hNd1
    refine AAny.keep [4, 13, 14, 16, 67, 70] (by decide) ?_
    exact s34 b58 hFb58 hNb58
  have s41 : ∀ (b54 : Nat) (hFb54 : m b54 = none) (hNv1 : ([b54, b9, b2, b1] : List Nat).Nodup), A 10 #[true, true, true, true, false, false, false, false, false, false, false, true, false, false, false] (fun fr m => K1 (fr.keep [4, 13, 14, 15]) m) [(4, .ptr ⟨b1, 0, none⟩), (13, .ptr ⟨b9, 0, none⟩), (14, .err 67 ((gE (envOf l) [] (depE e + 1) e).2)), (15, .ptr ⟨b54, 0, none⟩), (67, .slice true (l.map fldIn)), (68, .str name), (69, .agg [.int .i64 v.kind, .int .i64 v.n, .str v.s, .slice false (v.l.map valIn), .slice false (v.f.map fldIn)])] (AMem.wth m [(b54, .cells [.nilmap, .nilmap, .nilmap]), (b9, valO ((gE (envOf l) [] (depE e + 1) e).1)), (b2, valO v), (b1, expO e)]) := by
   intro b54 hFb54 hNv1
   subst hA
   refine AAny.step [] [4, 12] (by decide +kernel) (by simp) (by decide) ⟨?_, ?_, trivial⟩
   ·
    show aopsR _ _ _ [_] _ _ _
    refine ⟨⟨rfl, by simp only [List.forall_mem_cons]; exact ⟨rfl, rfl, fun _ h => by cases h⟩, by simp only [List.forall_mem_cons]; exact ⟨rfl, rfl, fun _ h => by cases h⟩⟩, ?_⟩
    refine AAny.keep [4, 13, 14, 15, 67, 70] (by decide) ?_
    exact s33 b54 hFb54 hNv1
   ·
    show aopsR _ _ _ [_] _ _ _
    refine ar_alloc rfl (z := .agg [.nilmap, .nilmap, .nilmap]) rfl rfl ?_
    intro b58 hb58
    have hFb58 : m b58 = none := wth_none hb58
    have hNb58 : ([b58, b54, b9, b2, b1] : List Nat).Nodup := wth_nodup hb58 hNv1
    refine AAny.keep [4, 13, 14, 15, 16, 67, 68, 69] (by decide) ?_
    exact s35 b58 hFb58 b54 hFb54 hNb58
  have s42 : ∀ (b58 : Nat) (hFb58 : m b58 = none) (hNv1 : ([b58, b9, b2, b1] : List Nat).Nodup), A 10 #[true, true, true, true, false, false, false, false, false, false, false, false, true, false, false] (fun fr m => K1 (fr.keep [4, 13, 14, 15]) m) [(4, .ptr ⟨b1, 0, none⟩), (13, .ptr ⟨b9, 0, none⟩), (14, .err 67 ((gE (envOf l) [] (depE e + 1) e).2)), (16, .ptr ⟨b58, 0, none⟩), (67, .slice true (l.map fldIn)), (68, .str name), (69, .agg [.int .i64 v.kind, .int .i64 v.n, .str v.s, .slice false (v.l.map valIn), .slice false (v.f.map fldIn)])] (AMem.wth m [(b58, .cells [.nilmap, .nilmap, .nilmap]), (b9, valO ((gE (envOf l) [] (depE e + 1) e).1)), (b2, valO v), (b1, expO e)]) := by
   intro b58 hFb58 hNv1
   subst hA
   refine AAny.step [] [4, 11] (by decide +kernel) (by simp) (by decide) ⟨?_, ?_, trivial⟩
   ·
    show aopsR _ _ _ [_] _ _ _
    refine ⟨⟨rfl, by simp only [List.forall_mem_cons]; exact ⟨rfl, rfl, fun _ h => by cases h⟩, by simp only [List.forall_mem_cons]; exact ⟨rfl, rfl, fun _ h => by cases h⟩⟩, ?_⟩
    refine AAny.keep [4, 13, 14, 16, 67, 70] (by decide) ?_
    exact s34 b58 hFb58 hNv1
   ·
    show aopsR _ _ _ [_] _ _ _
    refine ar_alloc rfl (z := .agg [.nilmap, .nilmap, .nilmap]) rfl rfl ?_
    intro b54 hb54
    have hFb54 : m b54 = none := wth_none hb54
    have hNb54 : ([b54, b58, b9, b2, b1] : List Nat).Nodup := wth_nodup hb54 hNv1
    refine AAny.keep [4, 13, 14, 15, 16, 67, 68, 69] (by decide) ?_
    refine AAny.memEq (wth_perm (m := m) (L := [(b54, .cells [.nilmap, .nilmap, .nilmap]), (b58, .cells [.nilmap, .nilmap, .nilmap]), (b9, valO ((gE (envOf l) [] (depE e + 1) e).1)), (b2, valO v), (b1, expO e)]) (L' := [(b58, .cells [.nilmap, .nilmap, .nilmap]), (b54, .cells [.nilmap, .nilmap, .nilmap]), (b9, valO ((gE (envOf l) [] (depE e + 1) e).1)), (b2, valO v), (b1, expO e)]) hNb54 (pick_perm [1, 0, 0, 0, 0] _)) ?_
    have hNp : ([b58, b54, b9, b2, b1] : List Nat).Nodup := perm_nodup (L := [(b54, .cells [.nilmap, .nilmap, .nilmap]), (b58, .cells [.nilmap, .nilmap, .nilmap]), (b9, valO ((gE (envOf l) [] (depE e + 1) e).1)), (b2, valO v), (b1, expO e)]) (L' := [(b58, .cells [.nilmap, .nilmap, .nilmap]), (b54, .cells [.nilmap, .nilmap, .nilmap]), (b9, valO ((gE (envOf l) [] (depE e + 1) e).1)), (b2, valO v), (b1, expO e)]) hNb54 (pick_perm [1, 0, 0, 0, 0] _)
    exact s35 b58 hFb58 b54 hFb54 hNp
  have s43 : ∀ (b58 : Nat) (hFb58 : m b58 = none) (b54 : Nat) (hFb54 : m b54 = none) (hNv1 : ([b58, b54, b9, b2, b1] : List Nat).Nodup), A 10 #[true, true, true, false, false, false, false, false, false, false, false, true, true, false, false] (fun fr m => K1 (fr.keep [4, 13, 14, 15]) m) [(4, .ptr ⟨b1, 0, none⟩), (7, .ptr ⟨b2, 0, none⟩), (13, .ptr ⟨b9, 0, none⟩), (14, .err 67 ((gE (envOf l) [] (depE e + 1) e).2)), (15, .ptr ⟨b54, 0, none⟩), (16, .ptr ⟨b58, 0, none⟩), (67, .slice true (l.map fldIn)), (68, .str name)] (AMem.wth m [(b58, .cells [.nilmap, .nilmap, .nilmap]), (b54, .cells [.nilmap, .nilmap, .nilmap]), (b9, valO ((gE (envOf l) [] (depE e + 1) e).1)), (b2, valO v), (b1, expO e)]) := by
   intro b58 hFb58 b54 hFb54 hNv1
   subst hA
   refine AAny.step [] [3] (by decide +kernel) (by simp) (by decide) ⟨?_, trivial⟩
   ·
    show aopsR _ _ _ [_] _ _ _
    refine ar_loadp rfl (v := .agg [.int .i64 v.kind, .int .i64 v.n, .str v.s, .slice false (v.l.map valIn), .slice false (v.f.map fldIn)]) rfl (wth_get 3 hNv1 rfl) rfl (apartOk_agg rfl rfl (Nat.le_of_ble_eq_true rfl)) rfl ?_
    refine AAny.keep [4, 13, 14, 15, 16, 67, 68, 69] (by decide) ?_
    exact s35 b58 hFb58 b54 hFb54 hNv1
  have s44 : ∀ (b58 : Nat) (hFb58 : m b58 = none) (b54 : Nat) (hFb54 : m b54 = none) (hNv1 : ([b58, b54, b9, b2, b1] : List Nat).Nodup), A 10 #[true, true, false, true, false, false, false, false, false, false, false, true, true, false, false] (fun fr m => K1 (fr.keep [4, 13, 14, 15]) m) [(2, .str name), (4, .ptr ⟨b1, 0, none⟩), (13, .ptr ⟨b9, 0, none⟩), (14, .err 67 ((gE (envOf l) [] (depE e + 1) e).2)), (15, .ptr ⟨b54, 0, none⟩), (16, .ptr ⟨b58, 0, none⟩), (67, .slice true (l.map fldIn)), (69, .agg [.int .i64 v.kind, .int .i64 v.n, .str v.s, .slice false (v.l.map valIn), .slice false (v.f.map fldIn)])] (AMem.wth m [(b58, .cells [.nilmap, .nilmap, .nilmap]), (b54, .cells [.nilmap, .nilmap, .nilmap]), (b9, valO ((gE (envOf l) [] (depE e + 1) e).1)), (b2, valO v), (b1, expO e)]) := by
   intro b58 hFb58 b54 hFb54 hNv1
   subst hA
   refine AAny.step [] [2] (by decide +kernel) (by simp) (by decide) ⟨?_, trivial⟩
   ·
    show aopsR _ _ _ [_] _ _ _
    refine ⟨trivial, ?_⟩
    refine AAny.keep [4, 13, 14, 15, 16, 67, 68, 69] (by decide) ?_
    exact s35 b58 hFb58 b54 hFb54 hNv1
  have s45 : ∀ (_ : True), A 10 #[true, false, true, true, true, true, false, false, false, false, false, false, false, false, false] (fun fr m => K1 (fr.keep [4, 13, 14, 15]) m) [(4, .ptr ⟨b1, 0, none⟩), (13, .ptr ⟨b9, 0, none⟩), (14, .err 67 ((gE (envOf l) [] (depE e + 1) e).2)), (66, .slice false (l.map fldIn)), (71, .slice true [.agg [.str name, .int .i64 v.kind, .int .i64 v.n, .str v.s, .slice false (v.l.map valIn), .slice false (v.f.map fldIn)]])] (AMem.wth m [(b9, valO ((gE (envOf l) [] (depE e + 1) e).1)), (b2, valO v), (b1, expO e)]) := by
   intro _
   subst hA
   refine AAny.step [] [1, 11, 12] (by decide +kernel) (by simp) (by decide) ⟨?_, ?_, ?_, trivial⟩
   ·
    show aopsR _ _ _ [_] _ _ _
    refine ar_append0 rfl fldIn l rfl rfl rfl rfl (Nat.le_of_ble_eq_true rfl) rfl (by (simp only [show Try.prog.bytesOf 46 = 96 from rfl, List.length_append, List.length_cons, List.length_nil]; omega)) (fun a => by rw [fldIn_eq]; exact ⟨rfl, rfl⟩) ?_
    refine AAny.keep [4, 13, 14, 67, 71] (by decide) ?_
    exact s32 trivial
   ·
    show aopsR _ _ _ [_] _ _ _
    refine ar_alloc rfl (z := .agg [.nilmap, .nilmap, .nilmap]) rfl rfl ?_
    intro b54 hb54
    have hFb54 : m b54 = none := wth_none hb54
    have hNb54 : ([b54, b9, b2, b1] : List Nat).Nodup := wth_nodup hb54 hNd1
    refine AAny.keep [4, 13, 14, 15, 66, 71] (by decide) ?_
    exact s36 b54 hFb54 hNb54
   ·
    show aopsR _ _ _ [_] _ _ _
    refine ar_alloc rfl (z := .agg [.nilmap, .nilmap, .nilmap]) rfl rfl ?_
    intro b58 hb58
    have hFb58 : m b58 = none := wth_none hb58
    have hNb58 : ([b58, b9, b2, b1] : List Nat).Nodup := wth_nodup hb58 hNd1
    refine AAny.keep [4, 13, 14, 16, 66, 71] (by decide) ?_
    exact s37 b58 hFb58 hNb58
  clear s32
  have s46 : ∀ (b54 : Nat) (hFb54 : m b54 = none) (hNv1 : ([b54, b9, b2, b1] : List Nat).Nodup), A 10 #[true, false, true, true, true, false, false, false, false, false, false, true, false, false, false] (fun fr m => K1 (fr.keep [4, 13, 14, 15]) m) [(4, .ptr ⟨b1, 0, none⟩), (13, .ptr ⟨b9, 0, none⟩), (14, .err 67 ((gE (envOf l) [] (depE e + 1) e).2)), (15, .ptr ⟨b54, 0, none⟩), (66, .slice false (l.map fldIn)), (70, .agg [.str name, .int .i64 v.kind, .int .i64 v.n, .str v.s, .slice false (v.l.map valIn), .slice false (v.f.map fldIn)])] (AMem.wth m [(b54, .cells [.nilmap, .nilmap, .nilmap]), (b9, valO ((gE (envOf l) [] (depE e + 1) e).1)), (b2, valO v), (b1, expO e)]) := by
   intro b54 hFb54 hNv1
   subst hA
   refine AAny.step [] [1, 5, 12] (by decide +kernel) (by simp) (by decide) ⟨?_, ?_, ?_, trivial⟩
   ·
    show aopsR _ _ _ [_] _ _ _
    refine ar_append0 rfl fldIn l rfl rfl rfl rfl (Nat.le_of_ble_eq_true rfl) rfl (by (simp only [show Try.prog.bytesOf 46 = 96 from rfl, List.length_append, List.length_cons, List.length_nil]; omega)) (fun a => by rw [fldIn_eq]; exact ⟨rfl, rfl⟩) ?_
    refine AAny.keep [4, 13, 14, 15, 67, 70] (by decide) ?_
    exact s33 b54 hFb54 hNv1
   ·
    show aopsR _ _ _ [_] _ _ _
    refine ⟨⟨rfl, Nat.le_of_ble_eq_true rfl, rfl, Nat.le_of_ble_eq_true rfl, rfl, by simp only [List.forall_mem_cons]; exact ⟨⟨rfl, rfl⟩, fun _ h => by cases h⟩⟩, ?_⟩
    refine AAny.keep [4, 13, 14, 15, 66, 71] (by decide) ?_
    exact s36 b54 hFb54 hNv1
   ·
    show aopsR _ _ _ [_] _ _ _
    refine ar_alloc rfl (z := .agg [.nilmap, .nilmap, .nilmap]) rfl rfl ?_
    intro b58 hb58
    have hFb58 : m b58 = none := wth_none hb58
    have hNb58 : ([b58, b54, b9, b2, b1] : List Nat).Nodup := wth_nodup hb58 hNv1
    refine AAny.keep [4, 13, 14, 15, 16, 66, 70] (by decide) ?_
    exact s38 b58 hFb58 b54 hFb54 hNb58
  clear s33
  have s47 : ∀ (b58 : Nat) (hFb58 : m b58 = none) (hNv1 : ([b58, b9, b2, b1] : List Nat).Nodup), A 10 #[true, false, true, true, true, false, false, false, false, false, false, false, true, false, false] (fun fr m => K1 (fr.keep [4, 13, 14, 15]) m) [(4, .ptr ⟨b1, 0, none⟩), (13, .ptr ⟨b9, 0, none⟩), (14, .err 67 ((gE (envOf l) [] (depE e + 1) e).2)), (16, .ptr ⟨b58, 0, none⟩), (66, .slice false (l.map fldIn)), (70, .agg [.str name, .int .i64 v.kind, .int .i64 v.n, .str v.s, .slice false (v.l.map valIn), .slice false (v.f.map fldIn)])] (AMem.wth m [(b58, .cells [.nilmap, .nilmap, .nilmap]), (b9, valO ((gE (envOf l) [] (depE e + 1) e).1)), (b2, valO v), (b1, expO e)]) := by
   intro b58 hFb58 hNv1
   subst hA
   refine AAny.step [] [1, 5, 11] (by decide +kernel) (by simp) (by decide) ⟨?_, ?_, ?_, trivial⟩
   ·
    show aopsR _ _ _ [_] _ _ _
    refine ar_append0 rfl fldIn l rfl rfl rfl rfl (Nat.le_of_ble_eq_true rfl) rfl (by (simp only [show Try.prog.bytesOf 46 = 96 from rfl, List.length_append, List.length_cons, List.length_nil]; omega)) (fun a => by rw [fldIn_eq]; exact ⟨rfl, rfl⟩) ?_
    refine AAny.keep [4, 13, 14, 16, 67, 70] (by decide) ?_
    exact s34 b58 hFb58 hNv1
   ·
    show aopsR _ _ _ [_] _ _ _
    refine ⟨⟨rfl, Nat.le_of_ble_eq_true rfl, rfl, Nat.le_of_ble_eq_true rfl, rfl, by simp only [List.forall_mem_cons]; exact ⟨⟨rfl, rfl⟩, fun _ h => by cases h⟩⟩, ?_⟩
    refine AAny.keep [4, 13, 14, 16, 66, 71] (by decide) ?_
    exact s37 b58 hFb58 hNv1
   ·
    show aopsR _ _ _ [_] _ _ _
    refine ar_alloc rfl (z := .agg [.nilmap, .nilmap, .nilmap]) rfl rfl ?_
    intro b54 hb54
    have hFb54 : m b54 = none := wth_none hb54
    have hNb54 : ([b54, b58, b9, b2, b1] : List Nat).Nodup := wth_nodup hb54 hNv1
    refine AAny.keep [4, 13, 14, 15, 16, 66, 70] (by decide) ?_
    refine AAny.memEq (wth_perm (m := m) (L := [(b54, .cells [.nilmap, .nilmap, .nilmap]), (b58, .cells [.nilmap, .nilmap, .nilmap]), (b9, valO ((gE (envOf l) [] (depE e + 1) e).1)), (b2, valO v), (b1, expO e)]) (L' := [(b58, .cells [.nilmap, .nilmap, .nilmap]), (b54, .cells [.nilmap, .nilmap, .nilmap]), (b9, valO ((gE (envOf l) [] (depE e + 1) e).1)), (b2, valO v), (b1, expO e)]) hNb54 (pick_perm [1, 0, 0, 0, 0] _)) ?_
    have hNp : ([b58, b54, b9, b2, b1] : List Nat).Nodup := perm_nodup (L := [(b54, .cells [.nilmap, .nilmap, .nilmap]), (b58, .cells [.nilmap, .nilmap, .nilmap]), (b9, valO ((gE (envOf l) [] (depE e + 1) e).1)), (b2, valO v), (b1, expO e)]) (L' := [(b58, .cells [.nilmap, .nilmap, .nilmap]), (b54, .cells [.nilmap, .nilmap, .nilmap]), (b9, valO ((gE (envOf l) [] (depE e + 1) e).1)), (b2, valO v), (b1, expO e)]) hNb54 (pick_perm [1, 0, 0, 0, 0] _)
    exact s38 b58 hFb58 b54 hFb54 hNp
  clear s34
  have s48 : ∀ (b58 : Nat) (hFb58 : m b58 = none) (b54 : Nat) (hFb54 : m b54 = none) (hNv1 : ([b58, b54, b9, b2, b1] : List Nat).Nodup), A 10 #[true, false, true, true, false, false, false, false, false, false, false, true, true, false, false] (fun fr m => K1 (fr.keep [4, 13, 14, 15]) m) [(4, .ptr ⟨b1, 0, none⟩), (13, .ptr ⟨b9, 0, none⟩), (14, .err 67 ((gE (envOf l) [] (depE e + 1) e).2)), (15, .ptr ⟨b54, 0, none⟩), (16, .ptr ⟨b58, 0, none⟩), (66, .slice false (l.map fldIn)), (68, .str name), (69, .agg [.int .i64 v.kind, .int .i64 v.n, .str v.s, .slice false (v.l.map valIn), .slice false (v.f.map fldIn)])] (AMem.wth m [(b58, .cells [.nilmap, .nilmap, .nilmap]), (b54, .cells [.nilmap, .nilmap, .nilmap]), (b9, valO ((gE (envOf l) [] (depE e + 1) e).1)), (b2, valO v), (b1, expO e)]) := by
   intro b58 hFb58 b54 hFb54 hNv1
   subst hA
   refine AAny.step [] [1, 4] (by decide +kernel) (by simp) (by decide) ⟨?_, ?_, trivial⟩
   ·
    show aopsR _ _ _ [_] _ _ _
    refine ar_append0 rfl fldIn l rfl rfl rfl rfl (Nat.le_of_ble_eq_true rfl) rfl (by (simp only [show Try.prog.bytesOf 46 = 96 from rfl, List.length_append, List.length_cons, List.length_nil]; omega)) (fun a => by rw [fldIn_eq]; exact ⟨rfl, rfl⟩) ?_
    refine AAny.keep [4, 13, 14, 15, 16, 67, 68, 69] (by decide) ?_
    exact s35 b58 hFb58 b54 hFb54 hNv1
   ·
    show aopsR _ _ _ [_] _ _ _
    refine ⟨⟨rfl, by simp only [List.forall_mem_cons]; exact ⟨rfl, rfl, fun _ h => by cases h⟩, by simp only [List.forall_mem_cons]; exact ⟨rfl, rfl, fun _ h => by cases h⟩⟩, ?_⟩
    refine AAny.keep [4, 13, 14, 15, 16, 66, 70] (by decide) ?_
    exact s38 b58 hFb58 b54 hFb54 hNv1
  clear s35
  have s49 : ∀ (b54 : Nat) (hFb54 : m b54 = none) (hNv1 : ([b54, b9, b2, b1] : List Nat).Nodup), A 10 #[false, false, true, true, true, true, false, false, false, false, false, true, false, false, false] (fun fr m => K1 (fr.keep [4, 13, 14, 15]) m) [(1, .slice false (l.map fldIn)), (4, .ptr ⟨b1, 0, none⟩), (13, .ptr ⟨b9, 0, none⟩), (14, .err 67 ((gE (envOf l) [] (depE e + 1) e).2)), (15, .ptr ⟨b54, 0, none⟩), (71, .slice true [.agg [.str name, .int .i64 v.kind, .int .i64 v.n, .str v.s, .slice false (v.l.map valIn), .slice false (v.f.map fldIn)]])] (AMem.wth m [(b54, .cells [.nilmap, .nilmap, .nilmap]), (b9, valO ((gE (envOf l) [] (depE e + 1) e).1)), (b2, valO v), (b1, expO e)]) := by
   intro b54 hFb54 hNv1
   subst hA
   refine AAny.step [] [0, 12] (by decide +kernel) (by simp) (by decide) ⟨?_, ?_, trivial⟩
   ·
    show aopsR _ _ _ [_] _ _ _
    refine ⟨trivial, ?_⟩
    refine AAny.keep [4, 13, 14, 15, 66, 71] (by decide) ?_
    exact s36 b54 hFb54 hNv1
   ·
    show aopsR _ _ _ [_] _ _ _
    refine ar_alloc rfl (z := .agg [.nilmap, .nilmap, .nilmap]) rfl rfl ?_
    intro b58 hb58
    have hFb58 : m b58 = none := wth_none hb58
    have hNb58 : ([b58, b54, b9, b2, b1] : List Nat).Nodup := wth_nodup hb58 hNv1
    refine AAny.keep [1, 4, 13, 14, 15, 16, 71] (by decide) ?_
    exact s39 b58 hFb58 b54 hFb54 hNb58
  clear s36
  have s50 : ∀ (b58 : Nat) (hFb58 : m b58 = none) (hNv1 : ([b58, b9, b2, b1] : List Nat).Nodup), A 10 #[false, false, true, true, true, true, false, false, false, false, false, false, true, false, false] (fun fr m => K1 (fr.keep [4, 13, 14, 15]) m) [(1, .slice false (l.map fldIn)), (4, .ptr ⟨b1, 0, none⟩), (13, .ptr ⟨b9, 0, none⟩), (14, .err 67 ((gE (envOf l) [] (depE e + 1) e).2)), (16, .ptr ⟨b58, 0, none⟩), (71, .slice true [.agg [.str name, .int .i64 v.kind, .int .i64 v.n, .str v.s, .slice false (v.l.map valIn), .slice false (v.f.map fldIn)]])] (AMem.wth m [(b58, .cells [.nilmap, .nilmap, .nilmap]), (b9, valO ((gE (envOf l) [] (depE e + 1) e).1)), (b2, valO v), (b1, expO e)]) := by
   intro b58 hFb58 hNv1
   subst hA
   refine AAny.step [] [0, 11] (by decide +kernel) (by simp) (by decide) ⟨?_, ?_, trivial⟩
   ·
    show aopsR _ _ _ [_] _ _ _
    refine ⟨trivial, ?_⟩
    refine AAny.keep [4, 13, 14, 16, 66, 71] (by decide) ?_
    exact s37 b58 hFb58 hNv1
   ·
    show aopsR _ _ _ [_] _ _ _
    refine ar_alloc rfl (z := .agg [.nilmap, .nilmap, .nilmap]) rfl rfl ?_
    intro b54 hb54
    have hFb54 : m b54 = none := wth_none hb54
    have hNb54 : ([b54, b58, b9, b2, b1] : List Nat).Nodup := wth_nodup hb54 hNv1
    refine AAny.keep [1, 4, 13, 14, 15, 16, 71] (by decide) ?_
    refine AAny.memEq (wth_perm (m := m) (L := [(b54, .cells [.nilmap, .nilmap, .nilmap]), (b58, .cells [.nilmap, .nilmap, .nilmap]), (b9, valO ((gE (envOf l) [] (depE e + 1) e).1)), (b2, valO v), (b1, expO e)]) (L' := [(b58, .cells [.nilmap, .nilmap, .nilmap]), (b54, .cells [.nilmap, .nilmap, .nilmap]), (b9, valO ((gE (envOf l) [] (depE e + 1) e).1)), (b2, valO v), (b1, expO e)]) hNb54 (pick_perm [1, 0, 0, 0, 0] _)) ?_
    have hNp : ([b58, b54, b9, b2, b1] : List Nat).Nodup := perm_nodup (L := [(b54, .cells [.nilmap, .nilmap, .nilmap]), (b58, .cells [.nilmap, .nilmap, .nilmap]), (b9, valO ((gE (envOf l) [] (depE e + 1) e).1)), (b2, valO v), (b1, expO e)]) (L' := [(b58, .cells [.nilmap, .nilmap, .nilmap]), (b54, .cells [.nilmap, .nilmap, .nilmap]), (b9, valO ((gE (envOf l) [] (depE e + 1) e).1)), (b2, valO v), (b1, expO e)]) hNb54 (pick_perm [1, 0, 0, 0, 0] _)
    exact s39 b58 hFb58 b54 hFb54 hNp
  clear s37
  have s51 : ∀ (b58 : Nat) (hFb58 : m b58 = none) (b54 : Nat) (hFb54 : m b54 = none) (hNv1 : ([b58, b54, b9, b2, b1] : List Nat).Nodup), A 10 #[false, false, true, true, true, false, false, false, false, false, false, true, true, false, false] (fun fr m => K1 (fr.keep [4, 13, 14, 15]) m) [(1, .slice false (l.map fldIn)), (4, .ptr ⟨b1, 0, none⟩), (13, .ptr ⟨b9, 0, none⟩), (14, .err 67 ((gE (envOf l) [] (depE e + 1) e).2)), (15, .ptr ⟨b54, 0, none⟩), (16, .ptr ⟨b58, 0, none⟩), (70, .agg [.str name, .int .i64 v.kind, .int .i64 v.n, .str v.s, .slice false (v.l.map valIn), .slice false (v.f.map fldIn)])] (AMem.wth m [(b58, .cells [.nilmap, .nilmap, .nilmap]), (b54, .cells [.nilmap, .nilmap, .nilmap]), (b9, valO ((gE (envOf l) [] (depE e + 1) e).1)), (b2, valO v), (b1, expO e)]) := by
   intro b58 hFb58 b54 hFb54 hNv1
   subst hA
   refine AAny.step [] [0, 5] (by decide +kernel) (by simp) (by decide) ⟨?_, ?_, trivial⟩
   ·
    show aopsR _ _ _ [_] _ _ _
    refine ⟨trivial, ?_⟩
    refine AAny.keep [4, 13, 14, 15, 16, 66, 70] (by decide) ?_
    exact s38 b58 hFb58 b54 hFb54 hNv1
   ·
    show aopsR _ _ _ [_] _ _ _
    refine ⟨⟨rfl, Nat.le_of_ble_eq_true rfl, rfl, Nat.le_of_ble_eq_true rfl, rfl, by simp only [List.forall_mem_cons]; exact ⟨⟨rfl, rfl⟩, fun _ h => by cases h⟩⟩, ?_⟩
    refine AAny.keep [1, 4, 13, 14, 15, 16, 71] (by decide) ?_
    exact s39 b58 hFb58 b54 hFb54 hNv1
  clear s38 s39
  have s52 : ∀ (_ : True), A 11 #[true, true, true, true, false, false, false, false, false, false, false, false, false, false, false] (fun fr m => K1 (fr.keep [4, 13, 14, 15]) m) [(4, .ptr ⟨b1, 0, none⟩), (13, .ptr ⟨b9, 0, none⟩), (14, .err 67 ((gE (envOf l) [] (depE e + 1) e).2)), (67, .slice true (l.map fldIn)), (68, .str name), (69, .agg [.int .i64 v.kind, .int .i64 v.n, .str v.s, .slice false (v.l.map valIn), .slice false (v.f.map fldIn)])] (AMem.wth m [(b9, valO ((gE (envOf l) [] (depE e + 1) e).1)), (b2, valO v), (b1, expO e)]) := by
   intro _
   subst hA
   refine AAny.step [] [4, 11, 12] (by decide +kernel) (by simp) (by decide) ⟨?_, ?_, ?_, trivial⟩
   ·
    show aopsR _ _ _ [_] _ _ _
    refine ⟨⟨rfl, by simp only [List.forall_mem_cons]; exact ⟨rfl, rfl, fun _ h => by cases h⟩, by simp only [List.forall_mem_cons]; exact ⟨rfl, rfl, fun _ h => by cases h⟩⟩, ?_⟩
    refine AAny.keep [4, 13, 14, 67, 70] (by decide) ?_
    exact s40 trivial
   ·
    show aopsR _ _ _ [_] _ _ _
    refine ar_alloc rfl (z := .agg [.nilmap, .nilmap, .nilmap]) rfl rfl ?_
    intro b54 hb54
    have hFb54 : m b54 = none := wth_none hb54
    have hNb54 : ([b54, b9, b2, b1] : List Nat).Nodup := wth_nodup hb54 hNd1
    refine AAny.keep [4, 13, 14, 15, 67, 68, 69] (by decide) ?_
    exact s41 b54 hFb54 hNb54
   ·
    show aopsR _ _ _ [_] _ _ _
    refine ar_alloc rfl (z := .agg [.nilmap, .nilmap, .nilmap]) rfl rfl ?_
    intro b58 hb58
    have hFb58 : m b58 = none := wth_none hb58
    have hNb58 : ([b58, b9, b2, b1] : List Nat).Nodup := wth_nodup hb58 hNd1
    refine AAny.keep [4, 13, 14, 16, 67, 68, 69] (by decide) ?_
    exact s42 b58 hFb58 hNb58
  have s53 : ∀ (b54 : Nat) (hFb54 : m b54 = none) (hNv1 : ([b54, b9, b2, b1] : List Nat).Nodup), A 11 #[true, true, true, false, false, false, false, false, false, false, false, true, false, false, false] (fun fr m => K1 (fr.keep [4, 13, 14, 15]) m) [(4, .ptr ⟨b1, 0, none⟩), (7, .ptr ⟨b2, 0, none⟩), (13, .ptr ⟨b9, 0, none⟩), (14, .err 67 ((gE (envOf l) [] (depE e + 1) e).2)), (15, .ptr ⟨b54, 0, none⟩), (67, .slice true (l.map fldIn)), (68, .str name)] (AMem.wth m [(b54, .cells [.nilmap, .nilmap, .nilmap]), (b9, valO ((gE (envOf l) [] (depE e + 1) e).1)), (b2, valO v), (b1, expO e)]) := by
   intro b54 hFb54 hNv1
   subst hA
   refine AAny.step [] [3, 12] (by decide +kernel) (by simp) (by decide) ⟨?_, ?_, trivial⟩
   ·
    show aopsR _ _ _ [_] _ _ _
    refine ar_loadp rfl (v := .agg [.int .i64 v.kind, .int .i64 v.n, .str v.s, .slice false (v.l.map valIn), .slice false (v.f.map fldIn)]) rfl (wth_get 2 hNv1 rfl) rfl (apartOk_agg rfl rfl (Nat.le_of_ble_eq_true rfl)) rfl ?_
    refine AAny.keep [4, 13, 14, 15, 67, 68, 69] (by decide) ?_
    exact s41 b54 hFb54 hNv1
   ·
    show aopsR _ _ _ [_] _ _ _
    refine ar_alloc rfl (z := .agg [.nilmap, .nilmap, .nilmap]) rfl rfl ?_
    intro b58 hb58
    have hFb58 : m b58 = none := wth_none hb58
    have hNb58 : ([b58, b54, b9, b2, b1] : List Nat).Nodup := wth_nodup hb58 hNv1
    refine AAny.keep [4, 7, 13, 14, 15, 16, 67, 68] (by decide) ?_
    exact s43 b58 hFb58 b54 hFb54 hNb58
  have s54 : ∀ (b58 : Nat) (hFb58 : m b58 = none) (hNv1 : ([b58, b9, b2, b1] : List Nat).Nodup), A 11 #[true, true, true, false, false, false, false, false, false, false, false, false, true, false, false] (fun fr m => K1 (fr.keep [4, 13, 14, 15]) m) [(4, .ptr ⟨b1, 0, none⟩), (7, .ptr ⟨b2, 0, none⟩), (13, .ptr ⟨b9, 0, none⟩), (14, .err 67 ((gE (envOf l) [] (depE e + 1) e).2)), (16, .ptr ⟨b58, 0, none⟩), (67, .slice true (l.map fldIn)), (68, .str name)] (AMem.wth m [(b58, .cells [.nilmap, .nilmap, .nilmap]), (b9, valO ((gE (envOf l) [] (depE e + 1) e).1)), (b2, valO v), (b1, expO e)]) := by
   intro b58 hFb58 hNv1
   subst hA
   refine AAny.step [] [3, 11] (by decide +kernel) (by simp) (by decide) ⟨?_, ?_, trivial⟩
   ·
    show aopsR _ _ _ [_] _ _ _
    refine ar_loadp rfl (v := .agg [.int .i64 v.kind, .int .i64 v.n, .str v.s, .slice false (v.l.map valIn), .slice false (v.f.map fldIn)]) rfl (wth_get 2 hNv1 rfl) rfl (apartOk_agg rfl rfl (Nat.le_of_ble_eq_true rfl)) rfl ?_
    refine AAny.keep [4, 13, 14, 16, 67, 68, 69] (by decide) ?_
    exact s42 b58 hFb58 hNv1
   ·
    show aopsR _ _ _ [_] _ _ _
    refine ar_alloc rfl (z := .agg [.nilmap, .nilmap, .nilmap]) rfl rfl ?_
    intro b54 hb54
    have hFb54 : m b54 = none := wth_none hb54
    have hNb54 : ([b54, b58, b9, b2, b1] : List Nat).Nodup := wth_nodup hb54 hNv1
    refine AAny.keep [4, 7, 13, 14, 15, 16, 67, 68] (by decide) ?_
    refine AAny.memEq (wth_perm (m := m) (L := [(b54, .cells [.nilmap, .nilmap, .nilmap]), (b58, .cells [.nilmap, .nilmap, .nilmap]), (b9, valO ((gE (envOf l) [] (depE e + 1) e).1)), (b2, valO v), (b1, expO e)]) (L' := [(b58, .cells [.nilmap, .nilmap, .nilmap]), (b54, .cells [.nilmap, .nilmap, .nilmap]), (b9, valO ((gE (envOf l) [] (depE e + 1) e).1)), (b2, valO v), (b1, expO e)]) hNb54 (pick_perm [1, 0, 0, 0, 0] _)) ?_
    have hNp : ([b58, b54, b9, b2, b1] : List Nat).Nodup := perm_nodup (L := [(b54, .cells [.nilmap, .nilmap, .nilmap]), (b58, .cells [.nilmap, .nilmap, .nilmap]), (b9, valO ((gE (envOf l) [] (depE e + 1) e).1)), (b2, valO v), (b1, expO e)]) (L' := [(b58, .cells [.nilmap, .nilmap, .nilmap]), (b54, .cells [.nilmap, .nilmap, .nilmap]), (b9, valO ((gE (envOf l) [] (depE e + 1) e).1)), (b2, valO v), (b1, expO e)]) hNb54 (pick_perm [1, 0, 0, 0, 0] _)
    exact s43 b58 hFb58 b54 hFb54 hNp
  have s55 : ∀ (b54 : Nat) (hFb54 : m b54 = none) (hNv1 : ([b54, b9, b2, b1] : List Nat).Nodup), A 11 #[true, true, false, true, false, false, false, false, false, false, false, true, false, false, false] (fun fr m => K1 (fr.keep [4, 13, 14, 15]) m) [(2, .str name), (4, .ptr ⟨b1, 0, none⟩), (13, .ptr ⟨b9, 0, none⟩), (14, .err 67 ((gE (envOf l) [] (depE e + 1) e).2)), (15, .ptr ⟨b54, 0, none⟩), (67, .slice true (l.map fldIn)), (69, .agg [.int .i64 v.kind, .int .i64 v.n, .str v.s, .slice false (v.l.map valIn), .slice false (v.f.map fldIn)])] (AMem.wth m [(b54, .cells [.nilmap, .nilmap, .nilmap]), (b9, valO ((gE (envOf l) [] (depE e + 1) e).1)), (b2, valO v), (b1, expO e)]) := by
   intro b54 hFb54 hNv1
   subst hA
   refine AAny.step [] [2, 12] (by decide +kernel) (by simp) (by decide) ⟨?_, ?_, trivial⟩
   ·
    show aopsR _ _ _ [_] _ _ _
    refine ⟨trivial, ?_⟩
    refine AAny.keep [4, 13, 14, 15, 67, 68, 69] (by decide) ?_
    exact s41 b54 hFb54 hNv1
   ·
    show aopsR _ _ _ [_] _ _ _
    refine ar_alloc rfl (z := .agg [.nilmap, .nilmap, .nilmap]) rfl rfl ?_
    intro b58 hb58
    have hFb58 : m b58 = none := wth_none hb58
    have hNb58 : ([b58, b54, b9, b2, b1] : List Nat).Nodup := wth_nodup hb58 hNv1
    refine AAny.keep [2, 4, 13, 14, 15, 16, 67, 69] (by decide) ?_
    exact s44 b58 hFb58 b54 hFb54 hNb58
  have s56 : ∀ (b58 : Nat) (hFb58 : m b58 = none) (hNv1 : ([b58, b9, b2, b1] : List Nat).Nodup), A 11 #[true, true, false, true, false, false, false, false, false, false, false, false, true, false, false] (fun fr m => K1 (fr.keep [4, 13, 14, 15]) m) [(2, .str name), (4, .ptr ⟨b1, 0, none⟩), (13, .ptr ⟨b9, 0, none⟩), (14, .err 67 ((gE (envOf l) [] (depE e + 1) e).2)), (16, .ptr ⟨b58, 0, none⟩), (67, .slice true (l.map fldIn)), (69, .agg [.int .i64 v.kind, .int .i64 v.n, .str v.s, .slice false (v.l.map valIn), .slice false (v.f.map fldIn)])] (AMem.wth m [(b58, .cells [.nilmap, .nilmap, .nilmap]), (b9, valO ((gE (envOf l) [] (depE e + 1) e).1)), (b2, valO v), (b1, expO e)]) := by
   intro b58 hFb58 hNv1
   subst hA
   refine AAny.step [] [2, 11] (by decide +kernel) (by simp) (by decide) ⟨?_, ?_, trivial⟩
   ·
    show aopsR _ _ _ [_] _ _ _
    refine ⟨trivial, ?_⟩
    refine AAny.keep [4, 13, 14, 16, 67, 68, 69] (by decide) ?_
    exact s42 b58 hFb58 hNv1
   ·
    show aopsR _ _ _ [_] _ _ _
    refine ar_alloc rfl (z := .agg [.nilmap, .nilmap, .nilmap]) rfl rfl ?_
    intro b54 hb54
    have hFb54 : m b54 = none := wth_none hb54
    have hNb54 : ([b54, b58, b9, b2, b1] : List Nat).Nodup := wth_nodup hb54 hNv1
    refine AAny.keep [2, 4, 13, 14, 15, 16, 67, 69] (by decide) ?_
    refine AAny.memEq (wth_perm (m := m) (L := [(b54, .cells [.nilmap, .nilmap, .nilmap]), (b58, .cells [.nilmap, .nilmap, .nilmap]), (b9, valO ((gE (envOf l) [] (depE e + 1) e).1)), (b2, valO v), (b1, expO e)]) (L' := [(b58, .cells [.nilmap, .nilmap, .nilmap]), (b54, .cells [.nilmap, .nilmap, .nilmap]), (b9, valO ((gE (envOf l) [] (depE e + 1) e).1)), (b2, valO v), (b1, expO e)]) hNb54 (pick_perm [1, 0, 0, 0, 0] _)) ?_
    have hNp : ([b58, b54, b9, b2, b1] : List Nat).Nodup := perm_nodup (L := [(b54, .cells [.nilmap, .nilmap, .nilmap]), (b58, .cells [.nilmap, .nilmap, .nilmap]), (b9, valO ((gE (envOf l) [] (depE e + 1) e).1)), (b2, valO v), (b1, expO e)]) (L' := [(b58, .cells [.nilmap, .nilmap, .nilmap]), (b54, .cells [.nilmap, .nilmap, .nilmap]), (b9, valO ((gE (envOf l) [] (depE e + 1) e).1)), (b2, valO v), (b1, expO e)]) hNb54 (pick_perm [1, 0, 0, 0, 0] _)
    exact s44 b58 hFb58 b54 hFb54 hNp
  have s57 : ∀ (b58 : Nat) (hFb58 : m b58 = none) (b54 : Nat) (hFb54 : m b54 = none) (hNv1 : ([b58, b54, b9, b2, b1] : List Nat).Nodup), A 11 #[true, true, false, false, false, false, false, false, false, false, false, true, true, false, false] (fun fr m => K1 (fr.keep [4, 13, 14, 15]) m) [(2, .str name), (4, .ptr ⟨b1, 0, none⟩), (7, .ptr ⟨b2, 0, none⟩), (13, .ptr ⟨b9, 0, none⟩), (14, .err 67 ((gE (envOf l) [] (depE e + 1) e).2)), (15, .ptr ⟨b54, 0, none⟩), (16, .ptr ⟨b58, 0, none⟩), (67, .slice true (l.map fldIn))] (AMem.wth m [(b58, .cells [.nilmap, .nilmap, .nilmap]), (b54, .cells [.nilmap, .nilmap, .nilmap]), (b9, valO ((gE (envOf l) [] (depE e + 1) e).1)), (b2, valO v), (b1, expO e)]) := by
   intro b58 hFb58 b54 hFb54 hNv1
   subst hA
   refine AAny.step [] [2, 3] (by decide +kernel) (by simp) (by decide) ⟨?_, ?_, trivial⟩
   ·
    show aopsR _ _ _ [_] _ _ _
    refine ⟨trivial, ?_⟩
    refine AAny.keep [4, 7, 13, 14, 15, 16, 67, 68] (by decide) ?_
    exact s43 b58 hFb58 b54 hFb54 hNv1
   ·
    show aopsR _ _ _ [_] _ _ _
    refine ar_loadp rfl (v := .agg [.int .i64 v.kind, .int .i64 v.n, .str v.s, .slice false (v.l.map valIn), .slice false (v.f.map fldIn)]) rfl (wth_get 3 hNv1 rfl) rfl (apartOk_agg rfl rfl (Nat.le_of_ble_eq_true rfl)) rfl ?_
    refine AAny.keep [2, 4, 13, 14, 15, 16, 67, 69] (by decide) ?_
    exact s44 b58 hFb58 b54 hFb54 hNv1
  have s58 : ∀ (_ : True), A 11 #[true, false, true, true, true, false, false, false, false, false, false, false, false, false, false] (fun fr m => K1 (fr.keep [4, 13, 14, 15]) m) [(4, .ptr ⟨b1, 0, none⟩), (13, .ptr ⟨b9, 0, none⟩), (14, .err 67 ((gE (envOf l) [] (depE e + 1) e).2)), (66, .slice false (l.map fldIn)), (70, .agg [.str name, .int .i64 v.kind, .int .i64 v.n, .str v.s, .slice false (v.l.map valIn), .slice false (v.f.map fldIn)])] (AMem.wth m [(b9, valO ((gE (envOf l) [] (depE e + 1) e).1)), (b2, valO v), (b1, expO e)]) := by
   intro _
   subst hA
   refine AAny.step [] [1, 5, 11, 12] (by decide +kernel) (by simp) (by decide) ⟨?_, ?_, ?_, ?_, trivial⟩
   ·
    show aopsR _ _ _ [_] _ _ _
    refine ar_append0 rfl fldIn l rfl rfl rfl rfl (Nat.le_of_ble_eq_true rfl) rfl (by (simp only [show Try.prog.bytesOf 46 = 96 from rfl, List.length_append, List.length_cons, List.length_nil]; omega)) (fun a => by rw [fldIn_eq]; exact ⟨rfl, rfl⟩) ?_
    refine AAny.keep [4, 13, 14, 67, 70] (by decide) ?_
    exact s40 trivial
   ·
    show aopsR _ _ _ [_] _ _ _
    refine ⟨⟨rfl, Nat.le_of_ble_eq_true rfl, rfl, Nat.le_of_ble_eq_true rfl, rfl, by simp only [List.forall_mem_cons]; exact ⟨⟨rfl, rfl⟩, fun _ h => by cases h⟩⟩, ?_⟩
    refine AAny.keep [4, 13, 14, 66, 71] (by decide) ?_
    exact s45 trivial
   ·
    show aopsR _ _ _ [_] _ _ _
    refine ar_alloc rfl (z := .agg [.nilmap, .nilmap, .nilmap]) rfl rfl ?_
    intro b54 hb54
    have hFb54 : m b54 = none := wth_none hb54
    have hNb54 : ([b54, b9, b2, b1] : List Nat).Nodup := wth_nodup hb54 hNd1
    refine AAny.keep [4, 13, 14, 15, 66, 70] (by decide) ?_
    exact s46 b54 hFb54 hNb54
   ·
    show aopsR _ _ _ [_] _ _ _
    refine ar_alloc rfl (z := .agg [.nilmap, .nilmap, .nilmap]) rfl rfl ?_
    intro b58 hb58
    have hFb58 : m b58 = none := wth_none hb58
    have hNb58 : ([b58, b9, b2, b1] : List Nat).Nodup := wth_nodup hb58 hNd1
    refine AAny.keep [4, 13, 14, 16, 66, 70] (by decide) ?_
    exact s47 b58 hFb58 hNb58
  clear s40
  have s59 : ∀ (b54 : Nat) (hFb54 : m b54 = none) (hNv1 : ([b54, b9, b2, b1] : List Nat).Nodup), A 11 #[true, false, true, true, false, false, false, false, false, false, false, true, false, false, false] (fun fr m => K1 (fr.keep [4, 13, 14, 15]) m) [(4, .ptr ⟨b1, 0, none⟩), (13, .ptr ⟨b9, 0, none⟩), (14, .err 67 ((gE (envOf l) [] (depE e + 1) e).2)), (15, .ptr ⟨b54, 0, none⟩), (66, .slice false (l.map fldIn)), (68, .str name), (69, .agg [.int .i64 v.kind, .int .i64 v.n, .str v.s, .slice false (v.l.map valIn), .slice false (v.f.map fldIn)])] (AMem.wth m [(b54, .cells [.nilmap, .nilmap, .nilmap]), (b9, valO ((gE (envOf l) [] (depE e + 1) e).1)), (b2, valO v), (b1, expO e)]) := by
   intro b54 hFb54 hNv1
   subst hA
   refine AAny.step [] [1, 4, 12] (by decide +kernel) (by simp) (by decide) ⟨?_, ?_, ?_, trivial⟩
   ·
    show aopsR _ _ _ [_] _ _ _
    refine ar_append0 rfl fldIn l rfl rfl rfl rfl (Nat.le_of_ble_eq_true rfl) rfl (by (simp only [show Try.prog.bytesOf 46 = 96 from rfl, List.length_append, List.length_cons, List.length_nil]; omega)) (fun a => by rw [fldIn_eq]; exact ⟨rfl, rfl⟩) ?_
    refine AAny.keep [4, 13, 14, 15, 67, 68, 69] (by decide) ?_
    exact s41 b54 hFb54 hNv1
   ·
    show aopsR _ _ _ [_] _ _ _
    refine ⟨⟨rfl, by simp only [List.forall_mem_cons]; exact ⟨rfl, rfl, fun _ h => by cases h⟩, by simp only [List.forall_mem_cons]; exact ⟨rfl, rfl, fun _ h => by cases h⟩⟩, ?_⟩
    refine AAny.keep [4, 13, 14, 15, 66, 70] (by decide) ?_
    exact s46 b54 hFb54 hNv1
   ·
    show aopsR _ _ _ [_] _ _ _
    refine ar_alloc rfl (z := .agg [.nilmap, .nilmap, .nilmap]) rfl rfl ?_
    intro b58 hb58
    have hFb58 : m b58 = none := wth_none hb58
    have hNb58 : ([b58, b54, b9, b2, b1] : List Nat).Nodup := wth_nodup hb58 hNv1
    refine AAny.keep [4, 13, 14, 15, 16, 66, 68, 69] (by decide) ?_
    exact s48 b58 hFb58 b54 hFb54 hNb58
  clear s41
  have s60 : ∀ (b58 : Nat) (hFb58 : m b58 = none) (hNv1 : ([b58, b9, b2, b1] : List Nat).Nodup), A 11 #[true, false, true, true, false, false, false, false, false, false, false, false, true, false, false] (fun fr m => K1 (fr.keep [4, 13, 14, 15]) m) [(4, .ptr ⟨b1, 0, none⟩), (13, .ptr ⟨b9, 0, none⟩), (14, .err 67 ((gE (envOf l) [] (depE e + 1) e).2)), (16, .ptr ⟨b58, 0, none⟩), (66, .slice false (l.map fldIn)), (68, .str name), (69, .agg [.int .i64 v.kind, .int .i64 v.n, .str v.s, .slice false (v.l.map valIn), .slice false (v.f.map fldIn)])] (AMem.wth m [(b58, .cells [.nilmap, .nilmap, .nilmap]), (b9, valO ((gE (envOf l) [] (depE e + 1) e).1)), (b2, valO v), (b1, expO e)]) := by
   intro b58 hFb58 hNv1
   subst hA
   refine AAny.step [] [1, 4, 11] (by decide +kernel) (by simp) (by decide) ⟨?_, ?_, ?_, trivial⟩
   ·
    show aopsR _ _ _ [_] _ _ _
    refine ar_append0 rfl fldIn l rfl rfl rfl rfl (Nat.le_of_ble_eq_true rfl) rfl (by (simp only [show Try.prog.bytesOf 46 = 96 from rfl, List.length_append, List.length_cons, List.length_nil]; omega)) (fun a => by rw [fldIn_eq]; exact ⟨rfl, rfl⟩) ?_
    refine AAny.keep [4, 13, 14, 16, 67, 68, 69] (by decide) ?_
    exact s42 b58 hFb58 hNv1
   ·
    show aopsR _ _ _ [_] _ _ _
    refine ⟨⟨rfl, by simp only [List.forall_mem_cons]; exact ⟨rfl, rfl, fun _ h => by cases h⟩, by simp only [List.forall_mem_cons]; exact ⟨rfl, rfl, fun _ h => by cases h⟩⟩, ?_⟩
    refine AAny.keep [4, 13, 14, 16, 66, 70] (by decide) ?_
    exact s47 b58 hFb58 hNv1
   ·
    show aopsR _ _ _ [_] _ _ _
    refine ar_alloc rfl (z := .agg [.nilmap, .nilmap, .nilmap]) rfl rfl ?_
    intro b54 hb54
    have hFb54 : m b54 = none := wth_none hb54
    have hNb54 : ([b54, b58, b9, b2, b1] : List Nat).Nodup := wth_nodup hb54 hNv1
    refine AAny.keep [4, 13, 14, 15, 16, 66, 68, 69] (by decide) ?_
    refine AAny.memEq (wth_perm (m := m) (L := [(b54, .cells [.nilmap, .nilmap, .nilmap]), (b58, .cells [.nilmap, .nilmap, .nilmap]), (b9, valO ((gE (envOf l) [] (depE e + 1) e).1)), (b2, valO v), (b1, expO e)]) (L' := [(b58, .cells [.nilmap, .nilmap, .nilmap]), (b54, .cells [.nilmap, .nilmap, .nilmap]), (b9, valO ((gE (envOf l) [] (depE e + 1) e).1)), (b2, valO v), (b1, expO e)]) hNb54 (pick_perm [1, 0, 0, 0, 0] _)) ?_
    have hNp : ([b58, b54, b9, b2, b1] : List Nat).Nodup := perm_nodup (L := [(b54, .cells [.nilmap, .nilmap, .nilmap]), (b58, .cells [.nilmap, .nilmap, .nilmap]), (b9, valO ((gE (envOf l) [] (depE e + 1) e).1)), (b2, valO v), (b1, expO e)]) (L' := [(b58, .cells [.nilmap, .nilmap, .nilmap]), (b54, .cells [.nilmap, .nilmap, .nilmap]), (b9, valO ((gE (envOf l) [] (depE e + 1) e).1)), (b2, valO v), (b1, expO e)]) hNb54 (pick_perm [1, 0, 0, 0, 0] _)
    exact s48 b58 hFb58 b54 hFb54 hNp
  clear s42
  have s61 : ∀ (b58 : Nat) (hFb58 : m b58 = none) (b54 : Nat) (hFb54 : m b54 = none) (hNv1 : ([b58, b54, b9, b2, b1] : List Nat).Nodup), A 11 #[true, false, true, false, false, false, false, false, false, false, false, true, true, false, false] (fun fr m => K1 (fr.keep [4, 13, 14, 15]) m) [(4, .ptr ⟨b1, 0, none⟩), (7, .ptr ⟨b2, 0, none⟩), (13, .ptr ⟨b9, 0, none⟩), (14, .err 67 ((gE (envOf l) [] (depE e + 1) e).2)), (15, .ptr ⟨b54, 0, none⟩), (16, .ptr ⟨b58, 0, none⟩), (66, .slice false (l.map fldIn)), (68, .str name)] (AMem.wth m [(b58, .cells [.nilmap, .nilmap, .nilmap]), (b54, .cells [.nilmap, .nilmap, .nilmap]), (b9, valO ((gE (envOf l) [] (depE e + 1) e).1)), (b2, valO v), (b1, expO e)]) := by
   intro b58 hFb58 b54 hFb54 hNv1
   subst hA
   refine AAny.step [] [1, 3] (by decide +kernel) (by simp) (by decide) ⟨?_, ?_, trivial⟩
   ·
    show aopsR _ _ _ [_] _ _ _
    refine ar_append0 rfl fldIn l rfl rfl rfl rfl (Nat.le_of_ble_eq_true rfl) rfl (by (simp only [show Try.prog.bytesOf 46 = 96 from rfl, List.length_append, List.length_cons, List.length_nil]; omega)) (fun a => by rw [fldIn_eq]; exact ⟨rfl, rfl⟩) ?_
    refine AAny.keep [4, 7, 13, 14, 15, 16, 67, 68] (by decide) ?_
    exact s43 b58 hFb58 b54 hFb54 hNv1
   ·
    show aopsR _ _ _ [_] _ _ _
    refine ar_loadp rfl (v := .agg [.int .i64 v.kind, .int .i64 v.n, .str v.s, .slice false (v.l.map valIn), .slice false (v.f.map fldIn)]) rfl (wth_get 3 hNv1 rfl) rfl (apartOk_agg rfl rfl (Nat.le_of_ble_eq_true rfl)) rfl ?_
    refine AAny.keep [4, 13, 14, 15, 16, 66, 68, 69] (by decide) ?_
    exact s48 b58 hFb58 b54 hFb54 hNv1
  clear s43
  have s62 : ∀ (b58 : Nat) (hFb58 : m b58 = none) (b54 : Nat) (hFb54 : m b54 = none) (hNv1 : ([b58, b54, b9, b2, b1] : List Nat).Nodup), A 11 #[true, false, false, true, false, false, false, false, false, false, false, true, true, false, false] (fun fr m => K1 (fr.keep [4, 13, 14, 15]) m) [(2, .str name), (4, .ptr ⟨b1, 0, none⟩), (13, .ptr ⟨b9, 0, none⟩), (14, .err 67 ((gE (envOf l) [] (depE e + 1) e).2)), (15, .ptr ⟨b54, 0, none⟩), (16, .ptr ⟨b58, 0, none⟩), (66, .slice false (l.map fldIn)), (69, .agg [.int .i64 v.kind, .int .i64 v.n, .str v.s, .slice false (v.l.map valIn), .slice false (v.f.map fldIn)])] (AMem.wth m [(b58, .cells [.nilmap, .nilmap, .nilmap]), (b54, .cells [.nilmap, .nilmap, .nilmap]), (b9, valO ((gE (envOf l) [] (depE e + 1) e).1)), (b2, valO v), (b1, expO e)]) := by
   intro b58 hFb58 b54 hFb54 hNv1
   subst hA
   refine AAny.step [] [1, 2] (by decide +kernel) (by simp) (by decide) ⟨?_, ?_, trivial⟩
   ·
    show aopsR _ _ _ [_] _ _ _
    refine ar_append0 rfl fldIn l rfl rfl rfl rfl (Nat.le_of_ble_eq_true rfl) rfl (by (simp only [show Try.prog.bytesOf 46 = 96 from rfl, List.length_append, List.length_cons, List.length_nil]; omega)) (fun a => by rw [fldIn_eq]; exact ⟨rfl, rfl⟩) ?_
    refine AAny.keep [2, 4, 13, 14, 15, 16, 67, 69] (by decide) ?_
    exact s44 b58 hFb58 b54 hFb54 hNv1
   ·
    show aopsR _ _ _ [_] _ _ _
    refine ⟨trivial, ?_⟩
    refine AAny.keep [4, 13, 14, 15, 16, 66, 68, 69] (by decide) ?_
    exact s48 b58 hFb58 b54 hFb54 hNv1
  clear s44
  have s63 : ∀ (_ : True), A 11 #[false, false, true, true, true, true, false, false, false, false, false, false, false, false, false] (fun fr m => K1 (fr.keep [4, 13, 14, 15]) m) [(1, .slice false (l.map fldIn)), (4, .ptr ⟨b1, 0, none⟩), (13, .ptr ⟨b9, 0, none⟩), (14, .err 67 ((gE (envOf l) [] (depE e + 1) e).2)), (71, .slice true [.agg [.str name, .int .i64 v.kind, .int .i64 v.n, .str v.s, .slice false (v.l.map valIn), .slice false (v.f.map fldIn)]])] (AMem.wth m [(b9, valO ((gE (envOf l) [] (depE e + 1) e).1)), (b2, valO v), (b1, expO e)]) := by
   intro _
   subst hA
   refine AAny.step [] [0, 11, 12] (by decide +kernel) (by simp) (by decide) ⟨?_, ?_, ?_, trivial⟩
   ·
    show aopsR _ _ _ [_] _ _ _
    refine ⟨trivial, ?_⟩
    refine AAny.keep [4, 13, 14, 66, 71] (by decide) ?_
    exact s45 trivial
   ·
    show aopsR _ _ _ [_] _ _ _
    refine ar_alloc rfl (z := .agg [.nilmap, .nilmap, .nilmap]) rfl rfl ?_
    intro b54 hb54
    have hFb54 : m b54 = none := wth_none hb54
    have hNb54 : ([b54, b9, b2, b1] : List Nat).Nodup := wth_nodup hb54 hNd1
    refine AAny.keep [1, 4, 13, 14, 15, 71] (by decide) ?_
    exact s49 b54 hFb54 hNb54
   ·
    show aopsR _ _ _ [_] _ _ _
    refine ar_alloc rfl (z := .agg [.nilmap, .nilmap, .nilmap]) rfl rfl ?_
    intro b58 hb58
    have hFb58 : m b58 = none := wth_none hb58
    have hNb58 : ([b58, b9, b2, b1] : List Nat).Nodup := wth_nodup hb58 hNd1
    refine AAny.keep [1, 4, 13, 14, 16, 71] (by decide) ?_
    exact s50 b58 hFb58 hNb58
  clear s45
  have s64 : ∀ (b54 : Nat) (hFb54 : m b54 = none) (hNv1 : ([b54, b9, b2, b1] : List Nat).Nodup), A 11 #[false, false, true, true, true, false, false, false, false, false, false, true, false, false, false] (fun fr m => K1 (fr.keep [4, 13, 14, 15]) m) [(1, .slice false (l.map fldIn)), (4, .ptr ⟨b1, 0, none⟩), (13, .ptr ⟨b9, 0, none⟩), (14, .err 67 ((gE (envOf l) [] (depE e + 1) e).2)), (15, .ptr ⟨b54, 0, none⟩), (70, .agg [.str name, .int .i64 v.kind, .int .i64 v.n, .str v.s, .slice false (v.l.map valIn), .slice false (v.f.map fldIn)])] (AMem.wth m [(b54, .cells [.nilmap, .nilmap, .nilmap]), (b9, valO ((gE (envOf l) [] (depE e + 1) e).1)), (b2, valO v), (b1, expO e)]) := by
   intro b54 hFb54 hNv1
   subst hA
   refine AAny.step [] [0, 5, 12] (by decide +kernel) (by simp) (by decide) ⟨?_, ?_, ?_, trivial⟩
   ·
    show aopsR _ _ _ [_] _ _ _
    refine ⟨trivial, ?_⟩
    refine AAny.keep [4, 13, 14, 15, 66, 70] (by decide) ?_
    exact s46 b54 hFb54 hNv1
   ·
    show aopsR _ _ _ [_] _ _ _
    refine ⟨⟨rfl, Nat.le_of_ble_eq_true rfl, rfl, Nat.le_of_ble_eq_true rfl, rfl, by simp only [List.forall_mem_cons]; exact ⟨⟨rfl, rfl⟩, fun _ h => by cases h⟩⟩, ?_⟩
    refine AAny.keep [1, 4, 13, 14, 15, 71] (by decide) ?_
    exact s49 b54 hFb54 hNv1
   ·
    show aopsR _ _ _ [_] _ _ _
    refine ar_alloc rfl (z := .agg [.nilmap, .nilmap, .nilmap]) rfl rfl ?_
    intro b58 hb58
    have hFb58 : m b58 = none := wth_none hb58
    have hNb58 : ([b58, b54, b9, b2, b1] : List Nat).Nodup := wth_nodup hb58 hNv1
    refine AAny.keep [1, 4, 13, 14, 15, 16, 70] (by decide) ?_
    exact s51 b58 hFb58 b54 hFb54 hNb58
  clear s46 s49
  have s65 : ∀ (b58 : Nat) (hFb58 : m b58 = none) (hNv1 : ([b58, b9, b2, b1] : List Nat).Nodup), A 11 #[false, false, true, true, true, false, false, false, false, false, false, false, true, false, false] (fun fr m => K1 (fr.keep [4, 13, 14, 15]) m) [(1, .slice false (l.map fldIn)), (4, .ptr ⟨b1, 0, none⟩), (13, .ptr ⟨b9, 0, none⟩), (14, .err 67 ((gE (envOf l) [] (depE e + 1) e).2)), (16, .ptr ⟨b58, 0, none⟩), (70, .agg [.str name, .int .i64 v.kind, .int .i64 v.n, .str v.s, .slice false (v.l.map valIn), .slice false (v.f.map fldIn)])] (AMem.wth m [(b58, .cells [.nilmap, .nilmap, .nilmap]), (b9, valO ((gE (envOf l) [] (depE e + 1) e).1)), (b2, valO v), (b1, expO e)]) := by
   intro b58 hFb58 hNv1
   subst hA
   refine AAny.step [] [0, 5, 11] (by decide +kernel) (by simp) (by decide) ⟨?_, ?_, ?_, trivial⟩
   ·
    show aopsR _ _ _ [_] _ _ _
    refine ⟨trivial, ?_⟩
    refine AAny.keep [4, 13, 14, 16, 66, 70] (by decide) ?_
    exact s47 b58 hFb58 hNv1
   ·
    show aopsR _ _ _ [_] _ _ _
    refine ⟨⟨rfl, Nat.le_of_ble_eq_true rfl, rfl, Nat.le_of_ble_eq_true rfl, rfl, by simp only [List.forall_mem_cons]; exact ⟨⟨rfl, rfl⟩, fun _ h => by cases h⟩⟩, ?_⟩
    refine AAny.keep [1, 4, 13, 14, 16, 71] (by decide) ?_
    exact s50 b58 hFb58 hNv1
   ·
    show aopsR _ _ _ [_] _ _ _
    refine ar_alloc rfl (z := .agg [.nilmap, .nilmap, .nilmap]) rfl rfl ?_
    intro b54 hb54
    have hFb54 : m b54 = none := wth_none hb54
    have hNb54 : ([b54, b58, b9, b2, b1] : List Nat).Nodup := wth_nodup hb54 hNv1
    refine AAny.keep [1, 4, 13, 14, 15, 16, 70] (by decide) ?_
    refine AAny.memEq (wth_perm (m := m) (L := [(b54, .cells [.nilmap, .nilmap, .nilmap]), (b58, .cells [.nilmap, .nilmap, .nilmap]), (b9, valO ((gE (envOf l) [] (depE e + 1) e).1)), (b2, valO v), (b1, expO e)]) (L' := [(b58, .cells [.nilmap, .nilmap, .nilmap]), (b54, .cells [.nilmap, .nilmap, .nilmap]), (b9, valO ((gE (envOf l) [] (depE e + 1) e).1)), (b2, valO v), (b1, expO e)]) hNb54 (pick_perm [1, 0, 0, 0, 0] _)) ?_
    have hNp : ([b58, b54, b9, b2, b1] : List Nat).Nodup := perm_nodup (L := [(b54, .cells [.nilmap, .nilmap, .nilmap]), (b58, .cells [.nilmap, .nilmap, .nilmap]), (b9, valO ((gE (envOf l) [] (depE e + 1) e).1)), (b2, valO v), (b1, expO e)]) (L' := [(b58, .cells [.nilmap, .nilmap, .nilmap]), (b54, .cells [.nilmap, .nilmap, .nilmap]), (b9, valO ((gE (envOf l) [] (depE e + 1) e).1)), (b2, valO v), (b1, expO e)]) hNb54 (pick_perm [1, 0, 0, 0, 0] _)
    exact s51 b58 hFb58 b54 hFb54 hNp
  clear s47 s50
  have s66 : ∀ (b58 : Nat) (hFb58 : m b58 = none) (b54 : Nat) (hFb54 : m b54 = none) (hNv1 : ([b58, b54, b9, b2, b1] : List Nat).Nodup), A 11 #[false, false, true, true, false, false, false, false, false, false, false, true, true, false, false] (fun fr m => K1 (fr.keep [4, 13, 14, 15]) m) [(1, .slice false (l.map fldIn)), (4, .ptr ⟨b1, 0, none⟩), (13, .ptr ⟨b9, 0, none⟩), (14, .err 67 ((gE (envOf l) [] (depE e + 1) e).2)), (15, .ptr ⟨b54, 0, none⟩), (16, .ptr ⟨b58, 0, none⟩), (68, .str name), (69, .agg [.int .i64 v.kind, .int .i64 v.n, .str v.s, .slice false (v.l.map valIn), .slice false (v.f.map fldIn)])] (AMem.wth m [(b58, .cells [.nilmap, .nilmap, .nilmap]), (b54, .cells [.nilmap, .nilmap, .nilmap]), (b9, valO ((gE (envOf l) [] (depE e + 1) e).1)), (b2, valO v), (b1, expO e)]) := by
   intro b58 hFb58 b54 hFb54 hNv1
   subst hA
   refine AAny.step [] [0, 4] (by decide +kernel) (by simp) (by decide) ⟨?_, ?_, trivial⟩
   ·
    show aopsR _ _ _ [_] _ _ _
    refine ⟨trivial, ?_⟩
    refine AAny.keep [4, 13, 14, 15, 16, 66, 68, 69] (by decide) ?_
    exact s48 b58 hFb58 b54 hFb54 hNv1
   ·
    show aopsR _ _ _ [_] _ _ _
    refine ⟨⟨rfl, by simp only [List.forall_mem_cons]; exact ⟨rfl, rfl, fun _ h => by cases h⟩, by simp only [List.forall_mem_cons]; exact ⟨rfl, rfl, fun _ h => by cases h⟩⟩, ?_⟩
    refine AAny.keep [1, 4, 13, 14, 15, 16, 70] (by decide) ?_
    exact s51 b58 hFb58 b54 hFb54 hNv1
  clear s48 s51
  have s67 : ∀ (_ : True), A 12 #[true, true, true, false, false, false, false, false, false, false, false, false, false, false, false] (fun fr m => K1 (fr.keep [4, 13, 14, 15]) m) [(4, .ptr ⟨b1, 0, none⟩), (7, .ptr ⟨b2, 0, none⟩), (13, .ptr ⟨b9, 0, none⟩), (14, .err 67 ((gE (envOf l) [] (depE e + 1) e).2)), (67, .slice true (l.map fldIn)), (68, .str name)] (AMem.wth m [(b9, valO ((gE (envOf l) [] (depE e + 1) e).1)), (b2, valO v), (b1, expO e)]) := by
   intro _
   subst hA
   refine AAny.step [] [3, 11, 12] (by decide +kernel) (by simp) (by decide) ⟨?_, ?_, ?_, trivial⟩
   ·
    show aopsR _ _ _ [_] _ _ _
    refine ar_loadp rfl (v := .agg [.int .i64 v.kind, .int .i64 v.n, .str v.s, .slice false (v.l.map valIn), .slice false (v.f.map fldIn)]) rfl (wth_get 1 hNd1 rfl) rfl (apartOk_agg rfl rfl (Nat.le_of_ble_eq_true rfl)) rfl ?_
    refine AAny.keep [4, 13, 14, 67, 68, 69] (by decide) ?_
    exact s52 trivial
   ·
    show aopsR _ _ _ [_] _ _ _
    refine ar_alloc rfl (z := .agg [.nilmap, .nilmap, .nilmap]) rfl rfl ?_
    intro b54 hb54
    have hFb54 : m b54 = none := wth_none hb54
    have hNb54 : ([b54, b9, b2, b1] : List Nat).Nodup := wth_nodup hb54 hNd1
    refine AAny.keep [4, 7, 13, 14, 15, 67, 68] (by decide) ?_
    exact s53 b54 hFb54 hNb54
   ·
    show aopsR _ _ _ [_] _ _ _
    refine ar_alloc rfl (z := .agg [.nilmap, .nilmap, .nilmap]) rfl rfl ?_
    intro b58 hb58
    have hFb58 : m b58 = none := wth_none hb58
    have hNb58 : ([b58, b9, b2, b1] : List Nat).Nodup := wth_nodup hb58 hNd1
    refine AAny.keep [4, 7, 13, 14, 16, 67, 68] (by decide) ?_
    exact s54 b58 hFb58 hNb58
  have s68 : ∀ (_ : True), A 12 #[true, true, false, true, false, false, false, false, false, false, false, false, false, false, false] (fun fr m => K1 (fr.keep [4, 13, 14, 15]) m) [(2, .str name), (4, .ptr ⟨b1, 0, none⟩), (13, .ptr ⟨b9, 0, none⟩), (14, .err 67 ((gE (envOf l) [] (depE e + 1) e).2)), (67, .slice true (l.map fldIn)), (69, .agg [.int .i64 v.kind, .int .i64 v.n, .str v.s, .slice false (v.l.map valIn), .slice false (v.f.map fldIn)])] (AMem.wth m [(b9, valO ((gE (envOf l) [] (depE e + 1) e).1)), (b2, valO v), (b1, expO e)]) := by
   intro _
   subst hA
   refine AAny.step [] [2, 11, 12] (by decide +kernel) (by simp) (by decide) ⟨?_, ?_, ?_, trivial⟩
   ·
    show aopsR _ _ _ [_] _ _ _
    refine ⟨trivial, ?_⟩
    refine AAny.keep [4, 13, 14, 67, 68, 69] (by decide) ?_
    exact s52 trivial
   ·
    show aopsR _ _ _ [_] _ _ _
    refine ar_alloc rfl (z := .agg [.nilmap, .nilmap, .nilmap]) rfl rfl ?_
    intro b54 hb54
    have hFb54 : m b54 = none := wth_none hb54
    have hNb54 : ([b54, b9, b2, b1] : List Nat).Nodup := wth_nodup hb54 hNd1
    refine AAny.keep [2, 4, 13, 14, 15, 67, 69] (by decide) ?_
    exact s55 b54 hFb54 hNb54
   ·
    show aopsR _ _ _ [_] _ _ _
    refine ar_alloc rfl (z := .agg [.nilmap, .nilmap, .nilmap]) rfl rfl ?_
    intro b58 hb58
    have hFb58 : m b58 = none := wth_none hb58
    have hNb58 : ([b58, b9, b2, b1] : List Nat).Nodup := wth_nodup hb58 hNd1
    refine AAny.keep [2, 4, 13, 14, 16, 67, 69] (by decide) ?_
    exact s56 b58 hFb58 hNb58
  have s69 : ∀ (b54 : Nat) (hFb54 : m b54 = none) (hNv1 : ([b54, b9, b2, b1] : List Nat).Nodup), A 12 #[true, true, false, false, false, false, false, false, false, false, false, true, false, false, false] (fun fr m => K1 (fr.keep [4, 13, 14, 15]) m) [(2, .str name), (4, .ptr ⟨b1, 0, none⟩), (7, .ptr ⟨b2, 0, none⟩), (13, .ptr ⟨b9, 0, none⟩), (14, .err 67 ((gE (envOf l) [] (depE e + 1) e).2)), (15, .ptr ⟨b54, 0, none⟩), (67, .slice true (l.map fldIn))] (AMem.wth m [(b54, .cells [.nilmap, .nilmap, .nilmap]), (b9, valO ((gE (envOf l) [] (depE e + 1) e).1)), (b2, valO v), (b1, expO e)]) := by
   intro b54 hFb54 hNv1
   subst hA
   refine AAny.step [] [2, 3, 12] (by decide +kernel) (by simp) (by decide) ⟨?_, ?_, ?_, trivial⟩
   ·
    show aopsR _ _ _ [_] _ _ _
    refine ⟨trivial, ?_⟩
    refine AAny.keep [4, 7, 13, 14, 15, 67, 68] (by decide) ?_
    exact s53 b54 hFb54 hNv1
   ·
    show aopsR _ _ _ [_] _ _ _
    refine ar_loadp rfl (v := .agg [.int .i64 v.kind, .int .i64 v.n, .str v.s, .slice false (v.l.map valIn), .slice false (v.f.map fldIn)]) rfl (wth_get 2 hNv1 rfl) rfl (apartOk_agg rfl rfl (Nat.le_of_ble_eq_true rfl)) rfl ?_
    refine AAny.keep [2, 4, 13, 14, 15, 67, 69] (by decide) ?_
    exact s55 b54 hFb54 hNv1
   ·
    show aopsR _ _ _ [_] _ _ _
    refine ar_alloc rfl (z := .agg [.nilmap, .nilmap, .nilmap]) rfl rfl ?_
    intro b58 hb58
    have hFb58 : m b58 = none := wth_none hb58
    have hNb58 : ([b58, b54, b9, b2, b1] : List Nat).Nodup := wth_nodup hb58 hNv1
    refine AAny.keep [2, 4, 7, 13, 14, 15, 16, 67] (by decide) ?_
    exact s57 b58 hFb58 b54 hFb54 hNb58
  have s70 : ∀ (b58 : Nat) (hFb58 : m b58 = none) (hNv1 : ([b58, b9, b2, b1] : List Nat).Nodup), A 12 #[true, true, false, false, false, false, false, false, false, false, false, false, true, false, false] (fun fr m => K1 (fr.keep [4, 13, 14, 15]) m) [(2, .str name), (4, .ptr ⟨b1, 0, none⟩), (7, .ptr ⟨b2, 0, none⟩), (13, .ptr ⟨b9, 0, none⟩), (14, .err 67 ((gE (envOf l) [] (depE e + 1) e).2)), (16, .ptr ⟨b58, 0, none⟩), (67, .slice true (l.map fldIn))] (AMem.wth m [(b58, .cells [.nilmap, .nilmap, .nilmap]), (b9, valO ((gE (envOf l) [] (depE e + 1) e).1)), (b2, valO v), (b1, expO e)]) := by
   intro b58 hFb58 hNv1
   subst hA
   refine AAny.step [] [2, 3, 11] (by decide +kernel) (by simp) (by decide) ⟨?_, ?_, ?_, trivial⟩
   ·
    show aopsR _ _ _ [_] _ _ _
    refine ⟨trivial, ?_⟩
    refine AAny.keep [4, 7, 13, 14, 16, 67, 68] (by decide) ?_
    exact s54 b58 hFb58 hNv1
   ·
    show aopsR _ _ _ [_] _ _ _
    refine ar_loadp rfl (v := .agg [.int .i64 v.kind, .int .i64 v.n, .str v.s, .slice false (v.l.map valIn), .slice false (v.f.map fldIn)]) rfl (wth_get 2 hNv1 rfl) rfl (apartOk_agg rfl rfl (Nat.le_of_ble_eq_true rfl)) rfl ?_
    refine AAny.keep [2, 4, 13, 14, 16, 67, 69] (by decide) ?_
    exact s56 b58 hFb58 hNv1
   ·
    show aopsR _ _ _ [_] _ _ _
    refine ar_alloc rfl (z := .agg [.nilmap, .nilmap, .nilmap]) rfl rfl ?_
    intro b54 hb54
    have hFb54 : m b54 = none := wth_none hb54
    have hNb54 : ([b54, b58, b9, b2, b1] : List Nat).Nodup := wth_nodup hb54 hNv1
    refine AAny.keep [2, 4, 7, 13, 14, 15, 16, 67] (by decide) ?_
    refine AAny.memEq (wth_perm (m := m) (L := [(b54, .cells [.nilmap, .nilmap, .nilmap]), (b58, .cells [.nilmap, .nilmap, .nilmap]), (b9, valO ((gE (envOf l) [] (depE e + 1) e).1)), (b2, valO v), (b1, expO e)]) (L' := [(b58, .cells [.nilmap, .nilmap, .nilmap]), (b54, .cells [.nilmap, .nilmap, .nilmap]), (b9, valO ((gE (envOf l) [] (depE e + 1) e).1)), (b2, valO v), (b1, expO e)]) hNb54 (pick_perm [1, 0, 0, 0, 0] _)) ?_
    have hNp : ([b58, b54, b9, b2, b1] : List Nat).Nodup := perm_nodup (L := [(b54, .cells [.nilmap, .nilmap, .nilmap]), (b58, .cells [.nilmap, .nilmap, .nilmap]), (b9, valO ((gE (envOf l) [] (depE e + 1) e).1)), (b2, valO v), (b1, expO e)]) (L' := [(b58, .cells [.nilmap, .nilmap, .nilmap]), (b54, .cells [.nilmap, .nilmap, .nilmap]), (b9, valO ((gE (envOf l) [] (depE e + 1) e).1)), (b2, valO v), (b1, expO e)]) hNb54 (pick_perm [1, 0, 0, 0, 0] _)
    exact s57 b58 hFb58 b54 hFb54 hNp
  have s71 : ∀ (_ : True), A 12 #[true, false, true, true, false, false, false, false, false, false, false, false, false, false, false] (fun fr m => K1 (fr.keep [4, 13, 14, 15]) m) [(4, .ptr ⟨b1, 0, none⟩), (13, .ptr ⟨b9, 0, none⟩), (14, .err 67 ((gE (envOf l) [] (depE e + 1) e).2)), (66, .slice false (l.map fldIn)), (68, .str name), (69, .agg [.int .i64 v.kind, .int .i64 v.n, .str v.s, .slice false (v.l.map valIn), .slice false (v.f.map fldIn)])] (AMem.wth m [(b9, valO ((gE (envOf l) [] (depE e + 1) e).1)), (b2, valO v), (b1, expO e)]) := by
   intro _
   subst hA
   refine AAny.step [] [1, 4, 11, 12] (by decide +kernel) (by simp) (by decide) ⟨?_, ?_, ?_, ?_, trivial⟩
   ·
    show aopsR _ _ _ [_] _ _ _
    refine ar_append0 rfl fldIn l rfl rfl rfl rfl (Nat.le_of_ble_eq_true rfl) rfl (by (simp only [show Try.prog.bytesOf 46 = 96 from rfl, List.length_append, List.length_cons, List.length_nil]; omega)) (fun a => by rw [fldIn_eq]; exact ⟨rfl, rfl⟩) ?_
    refine AAny.keep [4, 13, 14, 67, 68, 69] (by decide) ?_
    exact s52 trivial
   ·
    show aopsR _ _ _ [_] _ _ _
    refine ⟨⟨rfl, by simp only [List.forall_mem_cons]; exact ⟨rfl, rfl, fun _ h => by cases h⟩, by simp only [List.forall_mem_cons]; exact ⟨rfl, rfl, fun _ h => by cases h⟩⟩, ?_⟩
    refine AAny.keep [4, 13, 14, 66, 70] (by decide) ?_
    exact s58 trivial
   ·
    show aopsR _ _ _ [_] _ _ _
    refine ar_alloc rfl (z := .agg [.nilmap, .nilmap, .nilmap]) rfl rfl ?_
    intro b54 hb54
    have hFb54 : m b54 = none := wth_none hb54
    have hNb54 : ([b54, b9, b2, b1] : List Nat).Nodup := wth_nodup hb54 hNd1
    refine AAny.keep [4, 13, 14, 15, 66, 68, 69] (by decide) ?_
    exact s59 b54 hFb54 hNb54
   ·
    show aopsR _ _ _ [_] _ _ _
    refine ar_alloc rfl (z := .agg [.nilmap, .nilmap, .nilmap]) rfl rfl ?_
    intro b58 hb58
    have hFb58 : m b58 = none := wth_none hb58
    have hNb58 : ([b58, b9, b2, b1] : List Nat).Nodup := wth_nodup hb58 hNd1
    refine AAny.keep [4, 13, 14, 16, 66, 68, 69] (by decide) ?_
    exact s60 b58 hFb58 hNb58
  clear s52
  have s72 : ∀ (b54 : Nat) (hFb54 : m b54 = none) (hNv1 : ([b54, b9, b2, b1] : List Nat).Nodup), A 12 #[true, false, true, false, false, false, false, false, false, false, false, true, false, false, false] (fun fr m => K1 (fr.keep [4, 13, 14, 15]) m) [(4, .ptr ⟨b1, 0, none⟩), (7, .ptr ⟨b2, 0, none⟩), (13, .ptr ⟨b9, 0, none⟩), (14, .err 67 ((gE (envOf l) [] (depE e + 1) e).2)), (15, .ptr ⟨b54, 0, none⟩), (66, .slice false (l.map fldIn)), (68, .str name)] (AMem.wth m [(b54, .cells [.nilmap, .nilmap, .nilmap]), (b9, valO ((gE (envOf l) [] (depE e + 1) e).1)), (b2, valO v), (b1, expO e)]) := by
   intro b54 hFb54 hNv1
   subst hA
   refine AAny.step [] [1, 3, 12] (by decide +kernel) (by simp) (by decide) ⟨?_, ?_, ?_, trivial⟩
   ·
    show aopsR _ _ _ [_] _ _ _
    refine ar_append0 rfl fldIn l rfl rfl rfl rfl (Nat.le_of_ble_eq_true rfl) rfl (by (simp only [show Try.prog.bytesOf 46 = 96 from rfl, List.length_append, List.length_cons, List.length_nil]; omega)) (fun a => by rw [fldIn_eq]; exact ⟨rfl, rfl⟩) ?_
    refine AAny.keep [4, 7, 13, 14, 15, 67, 68] (by decide) ?_
    exact s53 b54 hFb54 hNv1
   ·
    show aopsR _ _ _ [_] _ _ _
    refine ar_loadp rfl (v := .agg [.int .i64 v.kind, .int .i64 v.n, .str v.s, .slice false (v.l.map valIn), .slice false (v.f.map fldIn)]) rfl (wth_get 2 hNv1 rfl) rfl (apartOk_agg rfl rfl (Nat.le_of_ble_eq_true rfl)) rfl ?_
    refine AAny.keep [4, 13, 14, 15, 66, 68, 69] (by decide) ?_
    exact s59 b54 hFb54 hNv1
   ·
    show aopsR _ _ _ [_] _ _ _
    refine ar_alloc rfl (z := .agg [.nilmap, .nilmap, .nilmap]) rfl rfl ?_
    intro b58 hb58
    have hFb58 : m b58 = none := wth_none hb58
    have hNb58 : ([b58, b54, b9, b2, b1] : List Nat).Nodup := wth_nodup hb58 hNv1
    refine AAny.keep [4, 7, 13, 14, 15, 16, 66, 68] (by decide) ?_
    exact s61 b58 hFb58 b54 hFb54 hNb58
  clear s53
  have s73 : ∀ (b58 : Nat) (hFb58 : m b58 = none) (hNv1 : ([b58, b9, b2, b1] : List Nat).Nodup), A 12 #[true, false, true, false, false, false, false, false, false, false, false, false, true, false, false] (fun fr m => K1 (fr.keep [4, 13, 14, 15]) m) [(4, .ptr ⟨b1, 0, none⟩), (7, .ptr ⟨b2, 0, none⟩), (13, .ptr ⟨b9, 0, none⟩), (14, .err 67 ((gE (envOf l) [] (depE e + 1) e).2)), (16, .ptr ⟨b58, 0, none⟩), (66, .slice false (l.map fldIn)), (68, .str name)] (AMem.wth m [(b58, .cells [.nilmap, .nilmap, .nilmap]), (b9, valO ((gE (envOf l) [] (depE e + 1) e).1)), (b2, valO v), (b1, expO e)]) := by
   intro b58 hFb58 hNv1
   subst hA
   refine AAny.step [] [1, 3, 11] (by decide +kernel) (by simp) (by decide) ⟨?_, ?_, ?_, trivial⟩
   ·
    show aopsR _ _ _ [_] _ _ _
    refine ar_append0 rfl fldIn l rfl rfl rfl rfl (Nat.le_of_ble_eq_true rfl) rfl (by (simp only [show Try.prog.bytesOf 46 = 96 from rfl, List.length_append, List.length_cons, List.length_nil]; omega)) (fun a => by rw [fldIn_eq]; exact ⟨rfl, rfl⟩) ?_
    refine AAny.keep [4, 7, 13, 14, 16, 67, 68] (by decide) ?_
    exact s54 b58 hFb58 hNv1
   ·
    show aopsR _ _ _ [_] _ _ _
    refine ar_loadp rfl (v := .agg [.int .i64 v.kind, .int .i64 v.n, .str v.s, .slice false (v.l.map valIn), .slice false (v.f.map fldIn)]) rfl (wth_get 2 hNv1 rfl) rfl (apartOk_agg rfl rfl (Nat.le_of_ble_eq_true rfl)) rfl ?_
    refine AAny.keep [4, 13, 14, 16, 66, 68, 69] (by decide) ?_
    exact s60 b58 hFb58 hNv1
   ·
    show aopsR _ _ _ [_] _ _ _
    refine ar_alloc rfl (z := .agg [.nilmap, .nilmap, .nilmap]) rfl rfl ?_
    intro b54 hb54
    have hFb54 : m b54 = none := wth_none hb54
    have hNb54 : ([b54, b58, b9, b2, b1] : List Nat).Nodup := wth_nodup hb54 hNv1
    refine AAny.keep [4, 7, 13, 14, 15, 16, 66, 68] (by decide) ?_
    refine AAny.memEq (wth_perm (m := m) (L := [(b54, .cells [.nilmap, .nilmap, .nilmap]), (b58, .cells [.nilmap, .nilmap, .nilmap]), (b9, valO ((gE (envOf l) [] (depE e + 1) e).1)), (b2, valO v), (b1, expO e)]) (L' := [(b58, .cells [.nilmap, .nilmap, .nilmap]), (b54, .cells [.nilmap, .nilmap, .nilmap]), (b9, valO ((gE (envOf l) [] (depE e + 1) e).1)), (b2, valO v), (b1, expO e)]) hNb54 (pick_perm [1, 0, 0, 0, 0] _)) ?_
    have hNp : ([b58, b54, b9, b2, b1] : List Nat).Nodup := perm_nodup (L := [(b54, .cells [.nilmap, .nilmap, .nilmap]), (b58, .cells [.nilmap, .nilmap, .nilmap]), (b9, valO ((gE (envOf l) [] (depE e + 1) e).1)), (b2, valO v), (b1, expO e)]) (L' := [(b58, .cells [.nilmap, .nilmap, .nilmap]), (b54, .cells [.nilmap, .nilmap, .nilmap]), (b9, valO ((gE (envOf l) [] (depE e + 1) e).1)), (b2, valO v), (b1, expO e)]) hNb54 (pick_perm [1, 0, 0, 0, 0] _)
    exact s61 b58 hFb58 b54 hFb54 hNp
  clear s54
  have s74 : ∀ (b54 : Nat) (hFb54 : m b54 = none) (hNv1 : ([b54, b9, b2, b1] : List Nat).Nodup), A 12 #[true, false, false, true, false, false, false, false, false, false, false, true, false, false, false] (fun fr m => K1 (fr.keep [4, 13, 14, 15]) m) [(2, .str name), (4, .ptr ⟨b1, 0, none⟩), (13, .ptr ⟨b9, 0, none⟩), (14, .err 67 ((gE (envOf l) [] (depE e + 1) e).2)), (15, .ptr ⟨b54, 0, none⟩), (66, .slice false (l.map fldIn)), (69, .agg [.int .i64 v.kind, .int .i64 v.n, .str v.s, .slice false (v.l.map valIn), .slice false (v.f.map fldIn)])] (AMem.wth m [(b54, .cells [.nilmap, .nilmap, .nilmap]), (b9, valO ((gE (envOf l) [] (depE e + 1) e).1)), (b2, valO v), (b1, expO e)]) := by
   intro b54 hFb54 hNv1
   subst hA
   refine AAny.step [] [1, 2, 12] (by decide +kernel) (by simp) (by decide) ⟨?_, ?_, ?_, trivial⟩
   ·
    show aopsR _ _ _ [_] _ _ _
    refine ar_append0 rfl fldIn l rfl rfl rfl rfl (Nat.le_of_ble_eq_true rfl) rfl (by (simp only [show Try.prog.bytesOf 46 = 96 from rfl, List.length_append, List.length_cons, List.length_nil]; omega)) (fun a => by rw [fldIn_eq]; exact ⟨rfl, rfl⟩) ?_
    refine AAny.keep [2, 4, 13, 14, 15, 67, 69] (by decide) ?_
    exact s55 b54 hFb54 hNv1
   ·
    show aopsR _ _ _ [_] _ _ _
    refine ⟨trivial, ?_⟩
    refine AAny.keep [4, 13, 14, 15, 66, 68, 69] (by decide) ?_
    exact s59 b54 hFb54 hNv1
   ·
    show aopsR _ _ _ [_] _ _ _
    refine ar_alloc rfl (z := .agg [.nilmap, .nilmap, .nilmap]) rfl rfl ?_
    intro b58 hb58
    have hFb58 : m b58 = none := wth_none hb58
    have hNb58 : ([b58, b54, b9, b2, b1] : List Nat).Nodup := wth_nodup hb58 hNv1
    refine AAny.keep [2, 4, 13, 14, 15, 16, 66, 69] (by decide) ?_
    exact s62 b58 hFb58 b54 hFb54 hNb58
  clear s55
  have s75 : ∀ (b58 : Nat) (hFb58 : m b58 = none) (hNv1 : ([b58, b9, b2, b1] : List Nat).Nodup), A 12 #[true, false, false, true, false, false, false, false, false, false, false, false, true, false, false] (fun fr m => K1 (fr.keep [4, 13, 14, 15]) m) [(2, .str name), (4, .ptr ⟨b1, 0, none⟩), (13, .ptr ⟨b9, 0, none⟩), (14, .err 67 ((gE (envOf l) [] (depE e + 1) e).2)), (16, .ptr ⟨b58, 0, none⟩), (66, .slice false (l.map fldIn)), (69, .agg [.int .i64 v.kind, .int .i64 v.n, .str v.s, .slice false (v.l.map valIn), .slice false (v.f.map fldIn)])] (AMem.wth m [(b58, .cells [.nilmap, .nilmap, .nilmap]), (b9, valO ((gE (envOf l) [] (depE e + 1) e).1)), (b2, valO v), (b1, expO e)]) := by
   intro b58 hFb58 hNv1
   subst hA
   refine AAny.step [] [1, 2, 11] (by decide +kernel) (by simp) (by decide) ⟨?_, ?_, ?_, trivial⟩
   ·
    show aopsR _ _ _ [_] _ _ _
    refine ar_append0 rfl fldIn l rfl rfl rfl rfl (Nat.le_of_ble_eq_true rfl) rfl (by (simp only [show Try.prog.bytesOf 46 = 96 from rfl, List.length_append, List.length_cons, List.length_nil]; omega)) (fun a => by rw [fldIn_eq]; exact ⟨rfl, rfl⟩) ?_
    refine AAny.keep [2, 4, 13, 14, 16, 67, 69] (by decide) ?_
    exact s56 b58 hFb58 hNv1
   ·
    show aopsR _ _ _ [_] _ _ _
    refine ⟨trivial, ?_⟩
    refine AAny.keep [4, 13, 14, 16, 66, 68, 69] (by decide) ?_
    exact s60 b58 hFb58 hNv1
   ·
    show aopsR _ _ _ [_] _ _ _
    refine ar_alloc rfl (z := .agg [.nilmap, .nilmap, .nilmap]) rfl rfl ?_
    intro b54 hb54
    have hFb54 : m b54 = none := wth_none hb54
    have hNb54 : ([b54, b58, b9, b2, b1] : List Nat).Nodup := wth_nodup hb54 hNv1
    refine AAny.keep [2, 4, 13, 14, 15, 16, 66, 69] (by decide) ?_
    refine AAny.memEq (wth_perm (m := m) (L := [(b54, .cells [.nilmap, .nilmap, .nilmap]), (b58, .cells [.nilmap, .nilmap, .nilmap]), (b9, valO ((gE (envOf l) [] (depE e + 1) e).1)), (b2, valO v), (b1, expO e)]) (L' := [(b58, .cells [.nilmap, .nilmap, .nilmap]), (b54, .cells [.nilmap, .nilmap, .nilmap]), (b9, valO ((gE (envOf l) [] (depE e + 1) e).1)), (b2, valO v), (b1, expO e)]) hNb54 (pick_perm [1, 0, 0, 0, 0] _)) ?_
    have hNp : ([b58, b54, b9, b2, b1] : List Nat).Nodup := perm_nodup (L := [(b54, .cells [.nilmap, .nilmap, .nilmap]), (b58, .cells [.nilmap, .nilmap, .nilmap]), (b9, valO ((gE (envOf l) [] (depE e + 1) e).1)), (b2, valO v), (b1, expO e)]) (L' := [(b58, .cells [.nilmap, .nilmap, .nilmap]), (b54, .cells [.nilmap, .nilmap, .nilmap]), (b9, valO ((gE (envOf l) [] (depE e + 1) e).1)), (b2, valO v), (b1, expO e)]) hNb54 (pick_perm [1, 0, 0, 0, 0] _)
    exact s62 b58 hFb58 b54 hFb54 hNp
  clear s56
  have s76 : ∀ (b58 : Nat) (hFb58 : m b58 = none) (b54 : Nat) (hFb54 : m b54 = none) (hNv1 : ([b58, b54, b9, b2, b1] : List Nat).Nodup), A 12 #[true, false, false, false, false, false, false, false, false, false, false, true, true, false, false] (fun fr m => K1 (fr.keep [4, 13, 14, 15]) m) [(2, .str name), (4, .ptr ⟨b1, 0, none⟩), (7, .ptr ⟨b2, 0, none⟩), (13, .ptr ⟨b9, 0, none⟩), (14, .err 67 ((gE (envOf l) [] (depE e + 1) e).2)), (15, .ptr ⟨b54, 0, none⟩), (16, .ptr ⟨b58, 0, none⟩), (66, .slice false (l.map fldIn))] (AMem.wth m [(b58, .cells [.nilmap, .nilmap, .nilmap]), (b54, .cells [.nilmap, .nilmap, .nilmap]), (b9, valO ((gE (envOf l) [] (depE e + 1) e).1)), (b2, valO v), (b1, expO e)]) := by
   intro b58 hFb58 b54 hFb54 hNv1
   subst hA
   refine AAny.step [] [1, 2, 3] (by decide +kernel) (by simp) (by decide) ⟨?_, ?_, ?_, trivial⟩
   ·
    show aopsR _ _ _ [_] _ _ _
    refine ar_append0 rfl fldIn l rfl rfl rfl rfl (Nat.le_of_ble_eq_true rfl) rfl (by (simp only [show Try.prog.bytesOf 46 = 96 from rfl, List.length_append, List.length_cons, List.length_nil]; omega)) (fun a => by rw [fldIn_eq]; exact ⟨rfl, rfl⟩) ?_
    refine AAny.keep [2, 4, 7, 13, 14, 15, 16, 67] (by decide) ?_
    exact s57 b58 hFb58 b54 hFb54 hNv1
   ·
    show aopsR _ _ _ [_] _ _ _
    refine ⟨trivial, ?_⟩
    refine AAny.keep [4, 7, 13, 14, 15, 16, 66, 68] (by decide) ?_
    exact s61 b58 hFb58 b54 hFb54 hNv1
   ·
    show aopsR _ _ _ [_] _ _ _
    refine ar_loadp rfl (v := .agg [.int .i64 v.kind, .int .i64 v.n, .str v.s, .slice false (v.l.map valIn), .slice false (v.f.map fldIn)]) rfl (wth_get 3 hNv1 rfl) rfl (apartOk_agg rfl rfl (Nat.le_of_ble_eq_true rfl)) rfl ?_
    refine AAny.keep [2, 4, 13, 14, 15, 16, 66, 69] (by decide) ?_
    exact s62 b58 hFb58 b54 hFb54 hNv1
  clear s57
  have s77 : ∀ (_ : True), A 12 #[false, false, true, true, true, false, false, false, false, false, false, false, false, false, false] (fun fr m => K1 (fr.keep [4, 13, 14, 15]) m) [(1, .slice false (l.map fldIn)), (4, .ptr ⟨b1, 0, none⟩), (13, .ptr ⟨b9, 0, none⟩), (14, .err 67 ((gE (envOf l) [] (depE e + 1) e).2)), (70, .agg [.str name, .int .i64 v.kind, .int .i64 v.n, .str v.s, .slice false (v.l.map valIn), .slice false (v.f.map fldIn)])] (AMem.wth m [(b9, valO ((gE (envOf l) [] (depE e + 1) e).1)), (b2, valO v), (b1, expO e)]) := by
   intro _
   subst hA
   refine AAny.step [] [0, 5, 11, 12] (by decide +kernel) (by simp) (by decide) ⟨?_, ?_, ?_, ?_, trivial⟩
   ·
    show aopsR _ _ _ [_] _ _ _
    refine ⟨trivial, ?_⟩
    refine AAny.keep [4, 13, 14, 66, 70] (by decide) ?_
    exact s58 trivial
   ·
    show aopsR _ _ _ [_] _ _ _
    refine ⟨⟨rfl, Nat.le_of_ble_eq_true rfl, rfl, Nat.le_of_ble_eq_true rfl, rfl, by simp only [List.forall_mem_cons]; exact ⟨⟨rfl, rfl⟩, fun _ h => by cases h⟩⟩, ?_⟩
    refine AAny.keep [1, 4, 13, 14, 71] (by decide) ?_
    exact s63 trivial
   ·
    show aopsR _ _ _ [_] _ _ _
    refine ar_alloc rfl (z := .agg [.nilmap, .nilmap, .nilmap]) rfl rfl ?_
    intro b54 hb54
    have hFb54 : m b54 = none := wth_none hb54
    have hNb54 : ([b54, b9, b2, b1] : List Nat).Nodup := wth_nodup hb54 hNd1
    refine AAny.keep [1, 4, 13, 14, 15, 70] (by decide) ?_
    exact s64 b54 hFb54 hNb54
   ·
    show aopsR _ _ _ [_] _ _ _
    refine ar_alloc rfl (z := .agg [.nilmap, .nilmap, .nilmap]) rfl rfl ?_
    intro b58 hb58
    have hFb58 : m b58 = none := wth_none hb58
    have hNb58 : ([b58, b9, b2, b1] : List Nat).Nodup := wth_nodup hb58 hNd1
    refine AAny.keep [1, 4, 13, 14, 16, 70] (by decide) ?_
    exact s65 b58 hFb58 hNb58
  clear s58 s63
  have s78 : ∀ (b54 : Nat) (hFb54 : m b54 = none) (hNv1 : ([b54, b9, b2, b1] : List Nat).Nodup), A 12 #[false, false, true, true, false, false, false, false, false, false, false, true, false, false, false] (fun fr m => K1 (fr.keep [4, 13, 14, 15]) m) [(1, .slice false (l.map fldIn)), (4, .ptr ⟨b1, 0, none⟩), (13, .ptr ⟨b9, 0, none⟩), (14, .err 67 ((gE (envOf l) [] (depE e + 1) e).2)), (15, .ptr ⟨b54, 0, none⟩), (68, .str name), (69, .agg [.int .i64 v.kind, .int .i64 v.n, .str v.s, .slice false (v.l.map valIn), .slice false (v.f.map fldIn)])] (AMem.wth m [(b54, .cells [.nilmap, .nilmap, .nilmap]), (b9, valO ((gE (envOf l) [] (depE e + 1) e).1)), (b2, valO v), (b1, expO e)]) := by
   intro b54 hFb54 hNv1
   subst hA
   refine AAny.step [] [0, 4, 12] (by decide +kernel) (by simp) (by decide) ⟨?_, ?_, ?_, trivial⟩
   ·
    show aopsR _ _ _ [_] _ _ _
    refine ⟨trivial, ?_⟩
    refine AAny.keep [4, 13, 14, 15, 66, 68, 69] (by decide) ?_
    exact s59 b54 hFb54 hNv1
   ·
    show aopsR _ _ _ [_] _ _ _
    refine ⟨⟨rfl, by simp only [List.forall_mem_cons]; exact ⟨rfl, rfl, fun _ h => by cases h⟩, by simp only [List.forall_mem_cons]; exact ⟨rfl, rfl, fun _ h => by cases h⟩⟩, ?_⟩
    refine AAny.keep [1, 4, 13, 14, 15, 70] (by decide) ?_
    exact s64 b54 hFb54 hNv1
   ·
    show aopsR _ _ _ [_] _ _ _
    refine ar_alloc rfl (z := .agg [.nilmap, .nilmap, .nilmap]) rfl rfl ?_
    intro b58 hb58
    have hFb58 : m b58 = none := wth_none hb58
    have hNb58 : ([b58, b54, b9, b2, b1] : List Nat).Nodup := wth_nodup hb58 hNv1
    refine AAny.keep [1, 4, 13, 14, 15, 16, 68, 69] (by decide) ?_
    exact s66 b58 hFb58 b54 hFb54 hNb58
  clear s59 s64
  have s79 : ∀ (b58 : Nat) (hFb58 : m b58 = none) (hNv1 : ([b58, b9, b2, b1] : List Nat).Nodup), A 12 #[false, false, true, true, false, false, false, false, false, false, false, false, true, false, false] (fun fr m => K1 (fr.keep [4, 13, 14, 15]) m) [(1, .slice false (l.map fldIn)), (4, .ptr ⟨b1, 0, none⟩), (13, .ptr ⟨b9, 0, none⟩), (14, .err 67 ((gE (envOf l) [] (depE e + 1) e).2)), (16, .ptr ⟨b58, 0, none⟩), (68, .str name), (69, .agg [.int .i64 v.kind, .int .i64 v.n, .str v.s, .slice false (v.l.map valIn), .slice false (v.f.map fldIn)])] (AMem.wth m [(b58, .cells [.nilmap, .nilmap, .nilmap]), (b9, valO ((gE (envOf l) [] (depE e + 1) e).1)), (b2, valO v), (b1, expO e)]) := by
   intro b58 hFb58 hNv1
   subst hA
   refine AAny.step [] [0, 4, 11] (by decide +kernel) (by simp) (by decide) ⟨?_, ?_, ?_, trivial⟩
   ·
    show aopsR _ _ _ [_] _ _ _
    refine ⟨trivial, ?_⟩
    refine AAny.keep [4, 13, 14, 16, 66, 68, 69] (by decide) ?_
    exact s60 b58 hFb58 hNv1
   ·
    show aopsR _ _ _ [_] _ _ _
    refine ⟨⟨rfl, by simp only [List.forall_mem_cons]; exact ⟨rfl, rfl, fun _ h => by cases h⟩, by simp only [List.forall_mem_cons]; exact ⟨rfl, rfl, fun _ h => by cases h⟩⟩, ?_⟩
    refine AAny.keep [1, 4, 13, 14, 16, 70] (by decide) ?_
    exact s65 b58 hFb58 hNv1
   ·
    show aopsR _ _ _ [_] _ _ _
    refine ar_alloc rfl (z := .agg [.nilmap, .nilmap, .nilmap]) rfl rfl ?_
    intro b54 hb54
    have hFb54 : m b54 = none := wth_none hb54
    have hNb54 : ([b54, b58, b9, b2, b1] : List Nat).Nodup := wth_nodup hb54 hNv1
    refine AAny.keep [1, 4, 13, 14, 15, 16, 68, 69] (by decide) ?_
    refine AAny.memEq (wth_perm (m := m) (L := [(b54, .cells [.nilmap, .nilmap, .nilmap]), (b58, .cells [.nilmap, .nilmap, .nilmap]), (b9, valO ((gE (envOf l) [] (depE e + 1) e).1)), (b2, valO v), (b1, expO e)]) (L' := [(b58, .cells [.nilmap, .nilmap, .nilmap]), (b54, .cells [.nilmap, .nilmap, .nilmap]), (b9, valO ((gE (envOf l) [] (depE e + 1) e).1)), (b2, valO v), (b1, expO e)]) hNb54 (pick_perm [1, 0, 0, 0, 0] _)) ?_
    have hNp : ([b58, b54, b9, b2, b1] : List Nat).Nodup := perm_nodup (L := [(b54, .cells [.nilmap, .nilmap, .nilmap]), (b58, .cells [.nilmap, .nilmap, .nilmap]), (b9, valO ((gE (envOf l) [] (depE e + 1) e).1)), (b2, valO v), (b1, expO e)]) (L' := [(b58, .cells [.nilmap, .nilmap, .nilmap]), (b54, .cells [.nilmap, .nilmap, .nilmap]), (b9, valO ((gE (envOf l) [] (depE e + 1) e).1)), (b2, valO v), (b1, expO e)]) hNb54 (pick_perm [1, 0, 0, 0, 0] _)
    exact s66 b58 hFb58 b54 hFb54 hNp
  clear s60 s65
  have s80 : ∀ (b58 : Nat) (hFb58 : m b58 = none) (b54 : Nat) (hFb54 : m b54 = none) (hNv1 : ([b58, b54, b9, b2, b1] : List Nat).Nodup), A 12 #[false, false, true, false, false, false, false, false, false, false, false, true, true, false, false] (fun fr m => K1 (fr.keep [4, 13, 14, 15]) m) [(1, .slice false (l.map fldIn)), (4, .ptr ⟨b1, 0, none⟩), (7, .ptr ⟨b2, 0, none⟩), (13, .ptr ⟨b9, 0, none⟩), (14, .err 67 ((gE (envOf l) [] (depE e + 1) e).2)), (15, .ptr ⟨b54, 0, none⟩), (16, .ptr ⟨b58, 0, none⟩), (68, .str name)] (AMem.wth m [(b58, .cells [.nilmap, .nilmap, .nilmap]), (b54, .cells [.nilmap, .nilmap, .nilmap]), (b9, valO ((gE (envOf l) [] (depE e + 1) e).1)), (b2, valO v), (b1, expO e)]) := by
   intro b58 hFb58 b54 hFb54 hNv1
   subst hA
   refine AAny.step [] [0, 3] (by decide +kernel) (by simp) (by decide) ⟨?_, ?_, trivial⟩
   ·
    show aopsR _ _ _ [_] _ _ _
    refine ⟨trivial, ?_⟩
    refine AAny.keep [4, 7, 13, 14, 15, 16, 66, 68] (by decide) ?_
    exact s61 b58 hFb58 b54 hFb54 hNv1
   ·
    show aopsR _ _ _ [_] _ _ _
    refine ar_loadp rfl (v := .agg [.int .i64 v.kind, .int .i64 v.n, .str v.s, .slice false (v.l.map valIn), .slice false (v.f.map fldIn)]) rfl (wth_get 3 hNv1 rfl) rfl (apartOk_agg rfl rfl (Nat.le_of_ble_eq_true rfl)) rfl ?_
    refine AAny.keep [1, 4, 13, 14, 15, 16, 68, 69] (by decide) ?_
    exact s66 b58 hFb58 b54 hFb54 hNv1
  clear s61
  have s81 : ∀ (b58 : Nat) (hFb58 : m b58 = none) (b54 : Nat) (hFb54 : m b54 = none) (hNv1 : ([b58, b54, b9, b2, b1] : List Nat).Nodup), A 12 #[false, false, false, true, false, false, false, false, false, false, false, true, true, false, false] (fun fr m => K1 (fr.keep [4, 13, 14, 15]) m) [(1, .slice false (l.map fldIn)), (2, .str name), (4, .ptr ⟨b1, 0, none⟩), (13, .ptr ⟨b9, 0, none⟩), (14, .err 67 ((gE (envOf l) [] (depE e + 1) e).2)), (15, .ptr ⟨b54, 0, none⟩), (16, .ptr ⟨b58, 0, none⟩), (69, .agg [.int .i64 v.kind, .int .i64 v.n, .str v.s, .slice false (v.l.map valIn), .slice false (v.f.map fldIn)])] (AMem.wth m [(b58, .cells [.nilmap, .nilmap, .nilmap]), (b54, .cells [.nilmap, .nilmap, .nilmap]), (b9, valO ((gE (envOf l) [] (depE e + 1) e).1)), (b2, valO v), (b1, expO e)]) := by
   intro b58 hFb58 b54 hFb54 hNv1
   subst hA
   refine AAny.step [] [0, 2] (by decide +kernel) (by simp) (by decide) ⟨?_, ?_, trivial⟩
   ·
    show aopsR _ _ _ [_] _ _ _
    refine ⟨trivial, ?_⟩
    refine AAny.keep [2, 4, 13, 14, 15, 16, 66, 69] (by decide) ?_
    exact s62 b58 hFb58 b54 hFb54 hNv1
   ·
    show aopsR _ _ _ [_] _ _ _
    refine ⟨trivial, ?_⟩
    refine AAny.keep [1, 4, 13, 14, 15, 16, 68, 69] (by decide) ?_
    exact s66 b58 hFb58 b54 hFb54 hNv1
  clear s62 s66
  have s82 : ∀ (_ : True), A 13 #[true, true, false, false, false, false, false, false, false, false, false, false, false, false, false] (fun fr m => K1 (fr.keep [4, 13, 14, 15]) m) [(2, .str name), (4, .ptr ⟨b1, 0, none⟩), (7, .ptr ⟨b2, 0, none⟩), (13, .ptr ⟨b9, 0, none⟩), (14, .err 67 ((gE (envOf l) [] (depE e + 1) e).2)), (67, .slice true (l.map fldIn))] (AMem.wth m [(b9, valO ((gE (envOf l) [] (depE e + 1) e).1)), (b2, valO v), (b1, expO e)]) := by
   intro _
   subst hA
   refine AAny.step [] [2, 3, 11, 12] (by decide +kernel) (by simp) (by decide) ⟨?_, ?_, ?_, ?_, trivial⟩
   ·
    show aopsR _ _ _ [_] _ _ _
    refine ⟨trivial, ?_⟩
    refine AAny.keep [4, 7, 13, 14, 67, 68] (by decide) ?_
    exact s67 trivial
   ·
    show aopsR _ _ _ [_] _ _ _
    refine ar_loadp rfl (v := .agg [.int .i64 v.kind, .int .i64 v.n, .str v.s, .slice false (v.l.map valIn), .slice false (v.f.map fldIn)]) rfl (wth_get 1 hNd1 rfl) rfl (apartOk_agg rfl rfl (Nat.le_of_ble_eq_true rfl)) rfl ?_
    refine AAny.keep [2, 4, 13, 14, 67, 69] (by decide) ?_
    exact s68 trivial
   ·
    show aopsR _ _ _ [_] _ _ _
    refine ar_alloc rfl (z := .agg [.nilmap, .nilmap, .nilmap]) rfl rfl ?_
    intro b54 hb54
    have hFb54 : m b54 = none := wth_none hb54
    have hNb54 : ([b54, b9, b2, b1] : List Nat).Nodup := wth_nodup hb54 hNd1
    refine AAny.keep [2, 4, 7, 13, 14, 15, 67] (by decide) ?_
    exact s69 b54 hFb54 hNb54
   ·
    show aopsR _ _ _ [_] _ _ _
    refine ar_alloc rfl (z := .agg [.nilmap, .nilmap, .nilmap]) rfl rfl ?_
    intro b58 hb58
    have hFb58 : m b58 = none := wth_none hb58
    have hNb58 : ([b58, b9, b2, b1] : List Nat).Nodup := wth_nodup hb58 hNd1
    refine AAny.keep [2, 4, 7, 13, 14, 16, 67] (by decide) ?_
    exact s70 b58 hFb58 hNb58
  have s83 : ∀ (_ : True), A 13 #[true, false, true, false, false, false, false, false, false, false, false, false, false, false, false] (fun fr m => K1 (fr.keep [4, 13, 14, 15]) m) [(4, .ptr ⟨b1, 0, none⟩), (7, .ptr ⟨b2, 0, none⟩), (13, .ptr ⟨b9, 0, none⟩), (14, .err 67 ((gE (envOf l) [] (depE e + 1) e).2)), (66, .slice false (l.map fldIn)), (68, .str name)] (AMem.wth m [(b9, valO ((gE (envOf l) [] (depE e + 1) e).1)), (b2, valO v), (b1, expO e)]) := by
   intro _
   subst hA
   refine AAny.step [] [1, 3, 11, 12] (by decide +kernel) (by simp) (by decide) ⟨?_, ?_, ?_, ?_, trivial⟩
   ·
    show aopsR _ _ _ [_] _ _ _
    refine ar_append0 rfl fldIn l rfl rfl rfl rfl (Nat.le_of_ble_eq_true rfl) rfl (by (simp only [show Try.prog.bytesOf 46 = 96 from rfl, List.length_append, List.length_cons, List.length_nil]; omega)) (fun a => by rw [fldIn_eq]; exact ⟨rfl, rfl⟩) ?_
    refine AAny.keep [4, 7, 13, 14, 67, 68] (by decide) ?_
    exact s67 trivial
   ·
    show aopsR _ _ _ [_] _ _ _
    refine ar_loadp rfl (v := .agg [.int .i64 v.kind, .int .i64 v.n, .str v.s, .slice false (v.l.map valIn), .slice false (v.f.map fldIn)]) rfl (wth_get 1 hNd1 rfl) rfl (apartOk_agg rfl rfl (Nat.le_of_ble_eq_true rfl)) rfl ?_
    refine AAny.keep [4, 13, 14, 66, 68, 69] (by decide) ?_
    exact s71 trivial
   ·
    show aopsR _ _ _ [_] _ _ _
    refine ar_alloc rfl (z := .agg [.nilmap, .nilmap, .nilmap]) rfl rfl ?_
    intro b54 hb54
    have hFb54 : m b54 = none := wth_none hb54
    have hNb54 : ([b54, b9, b2, b1] : List Nat).Nodup := wth_nodup hb54 hNd1
    refine AAny.keep [4, 7, 13, 14, 15, 66, 68] (by decide) ?_
    exact s72 b54 hFb54 hNb54
   ·
    show aopsR _ _ _ [_] _ _ _
    refine ar_alloc rfl (z := .agg [.nilmap, .nilmap, .nilmap]) rfl rfl ?_
    intro b58 hb58
    have hFb58 : m b58 = none := wth_none hb58
    have hNb58 : ([b58, b9, b2, b1] : List Nat).Nodup := wth_nodup hb58 hNd1
    refine AAny.keep [4, 7, 13, 14, 16, 66, 68] (by decide) ?_
    exact s73 b58 hFb58 hNb58
  clear s67
  have s84 : ∀ (_ : True), A 13 #[true, false, false, true, false, false, false, false, false, false, false, false, false, false, false] (fun fr m => K1 (fr.keep [4, 13, 14, 15]) m) [(2, .str name), (4, .ptr ⟨b1, 0, none⟩), (13, .ptr ⟨b9, 0, none⟩), (14, .err 67 ((gE (envOf l) [] (depE e + 1) e).2)), (66, .slice false (l.map fldIn)), (69, .agg [.int .i64 v.kind, .int .i64 v.n, .str v.s, .slice false (v.l.map valIn), .slice false (v.f.map fldIn)])] (AMem.wth m [(b9, valO ((gE (envOf l) [] (depE e + 1) e).1)), (b2, valO v), (b1, expO e)]) := by
   intro _
   subst hA
   refine AAny.step [] [1, 2, 11, 12] (by decide +kernel) (by simp) (by decide) ⟨?_, ?_, ?_, ?_, trivial⟩
   ·
    show aopsR _ _ _ [_] _ _ _
    refine ar_append0 rfl fldIn l rfl rfl rfl rfl (Nat.le_of_ble_eq_true rfl) rfl (by (simp only [show Try.prog.bytesOf 46 = 96 from rfl, List.length_append, List.length_cons, List.length_nil]; omega)) (fun a => by rw [fldIn_eq]; exact ⟨rfl, rfl⟩) ?_
    refine AAny.keep [2, 4, 13, 14, 67, 69] (by decide) ?_
    exact s68 trivial
   ·
    show aopsR _ _ _ [_] _ _ _
    refine ⟨trivial, ?_⟩
    refine AAny.keep [4, 13, 14, 66, 68, 69] (by decide) ?_
    exact s71 trivial
   ·
    show aopsR _ _ _ [_] _ _ _
    refine ar_alloc rfl (z := .agg [.nilmap, .nilmap, .nilmap]) rfl rfl ?_
    intro b54 hb54
    have hFb54 : m b54 = none := wth_none hb54
    have hNb54 : ([b54, b9, b2, b1] : List Nat).Nodup := wth_nodup hb54 hNd1
    refine AAny.keep [2, 4, 13, 14, 15, 66, 69] (by decide) ?_
    exact s74 b54 hFb54 hNb54
   ·
    show aopsR _ _ _ [_] _ _ _
    refine ar_alloc rfl (z := .agg [.nilmap, .nilmap, .nilmap]) rfl rfl ?_
    intro b58 hb58
    have hFb58 : m b58 = none := wth_none hb58
    have hNb58 : ([b58, b9, b2, b1] : List Nat).Nodup := wth_nodup hb58 hNd1
    refine AAny.keep [2, 4, 13, 14, 16, 66, 69] (by decide) ?_
    exact s75 b58 hFb58 hNb58
  clear s68
  have s85 : ∀ (b54 : Nat) (hFb54 : m b54 = none) (hNv1 : ([b54, b9, b2, b1] : List Nat).Nodup), A 13 #[true, false, false, false, false, false, false, false, false, false, false, true, false, false, false] (fun fr m => K1 (fr.keep [4, 13, 14, 15]) m) [(2, .str name), (4, .ptr ⟨b1, 0, none⟩), (7, .ptr ⟨b2, 0, none⟩), (13, .ptr ⟨b9, 0, none⟩), (14, .err 67 ((gE (envOf l) [] (depE e + 1) e).2)), (15, .ptr ⟨b54, 0, none⟩), (66, .slice false (l.map fldIn))] (AMem.wth m [(b54, .cells [.nilmap, .nilmap, .nilmap]), (b9, valO ((gE (envOf l) [] (depE e + 1) e).1)), (b2, valO v), (b1, expO e)]) := by
   intro b54 hFb54 hNv1
   subst hA
   refine AAny.step [] [1, 2, 3, 12] (by decide +kernel) (by simp) (by decide) ⟨?_, ?_, ?_, ?_, trivial⟩
   ·
    show aopsR _ _ _ [_] _ _ _
    refine ar_append0 rfl fldIn l rfl rfl rfl rfl (Nat.le_of_ble_eq_true rfl) rfl (by (simp only [show Try.prog.bytesOf 46 = 96 from rfl, List.length_append, List.length_cons, List.length_nil]; omega)) (fun a => by rw [fldIn_eq]; exact ⟨rfl, rfl⟩) ?_
    refine AAny.keep [2, 4, 7, 13, 14, 15, 67] (by decide) ?_
    exact s69 b54 hFb54 hNv1
   ·
    show aopsR _ _ _ [_] _ _ _
    refine ⟨trivial, ?_⟩
    refine AAny.keep [4, 7, 13, 14, 15, 66, 68] (by decide) ?_
    exact s72 b54 hFb54 hNv1
   ·
    show aopsR _ _ _ [_] _ _ _
    refine ar_loadp rfl (v := .agg [.int .i64 v.kind, .int .i64 v.n, .str v.s, .slice false (v.l.map valIn), .slice false (v.f.map fldIn)]) rfl (wth_get 2 hNv1 rfl) rfl (apartOk_agg rfl rfl (Nat.le_of_ble_eq_true rfl)) rfl ?_
    refine AAny.keep [2, 4, 13, 14, 15, 66, 69] (by decide) ?_
    exact s74 b54 hFb54 hNv1
   ·
    show aopsR _ _ _ [_] _ _ _
    refine ar_alloc rfl (z := .agg [.nilmap, .nilmap, .nilmap]) rfl rfl ?_
    intro b58 hb58
    have hFb58 : m b58 = none := wth_none hb58
    have hNb58 : ([b58, b54, b9, b2, b1] : List Nat).Nodup := wth_nodup hb58 hNv1
    refine AAny.keep [2, 4, 7, 13, 14, 15, 16, 66] (by decide) ?_
    exact s76 b58 hFb58 b54 hFb54 hNb58
  clear s69
  have s86 : ∀ (b58 : Nat) (hFb58 : m b58 = none) (hNv1 : ([b58, b9, b2, b1] : List Nat).Nodup), A 13 #[true, false, false, false, false, false, false, false, false, false, false, false, true, false, false] (fun fr m => K1 (fr.keep [4, 13, 14, 15]) m) [(2, .str name), (4, .ptr ⟨b1, 0, none⟩), (7, .ptr ⟨b2, 0, none⟩), (13, .ptr ⟨b9, 0, none⟩), (14, .err 67 ((gE (envOf l) [] (depE e + 1) e).2)), (16, .ptr ⟨b58, 0, none⟩), (66, .slice false (l.map fldIn))] (AMem.wth m [(b58, .cells [.nilmap, .nilmap, .nilmap]), (b9, valO ((gE (envOf l) [] (depE e + 1) e).1)), (b2, valO v), (b1, expO e)]) := by
   intro b58 hFb58 hNv1
   subst hA
   refine AAny.step [] [1, 2, 3, 11] (by decide +kernel) (by simp) (by decide) ⟨?_, ?_, ?_, ?_, trivial⟩
   ·
    show aopsR _ _ _ [_] _ _ _
    refine ar_append0 rfl fldIn l rfl rfl rfl rfl (Nat.le_of_ble_eq_true rfl) rfl (by (simp only [show Try.prog.bytesOf 46 = 96 from rfl, List.length_append, List.length_cons, List.length_nil]; omega)) (fun a => by rw [fldIn_eq]; exact ⟨rfl, rfl⟩) ?_
    refine AAny.keep [2, 4, 7, 13, 14, 16, 67] (by decide) ?_
    exact s70 b58 hFb58 hNv1
   ·
    show aopsR _ _ _ [_] _ _ _
    refine ⟨trivial, ?_⟩
    refine AAny.keep [4, 7, 13, 14, 16, 66, 68] (by decide) ?_
    exact s73 b58 hFb58 hNv1
   ·
    show aopsR _ _ _ [_] _ _ _
    refine ar_loadp rfl (v := .agg [.int .i64 v.kind, .int .i64 v.n, .str v.s, .slice false (v.l.map valIn), .slice false (v.f.map fldIn)]) rfl (wth_get 2 hNv1 rfl) rfl (apartOk_agg rfl rfl (Nat.le_of_ble_eq_true rfl)) rfl ?_
    refine AAny.keep [2, 4, 13, 14, 16, 66, 69] (by decide) ?_
    exact s75 b58 hFb58 hNv1
   ·
    show aopsR _ _ _ [_] _ _ _
    refine ar_alloc rfl (z := .agg [.nilmap, .nilmap, .nilmap]) rfl rfl ?_
    intro b54 hb54
    have hFb54 : m b54 = none := wth_none hb54
    have hNb54 : ([b54, b58, b9, b2, b1] : List Nat).Nodup := wth_nodup hb54 hNv1
    refine AAny.keep [2, 4, 7, 13, 14, 15, 16, 66] (by decide) ?_
    refine AAny.memEq (wth_perm (m := m) (L := [(b54, .cells [.nilmap, .nilmap, .nilmap]), (b58, .cells [.nilmap, .nilmap, .nilmap]), (b9, valO ((gE (envOf l) [] (depE e + 1) e).1)), (b2, valO v), (b1, expO e)]) (L' := [(b58, .cells [.nilmap, .nilmap, .nilmap]), (b54, .cells [.nilmap, .nilmap, .nilmap]), (b9, valO ((gE (envOf l) [] (depE e + 1) e).1)), (b2, valO v), (b1, expO e)]) hNb54 (pick_perm [1, 0, 0, 0, 0] _)) ?_
    have hNp : ([b58, b54, b9, b2, b1] : List Nat).Nodup := perm_nodup (L := [(b54, .cells [.nilmap, .nilmap, .nilmap]), (b58, .cells [.nilmap, .nilmap, .nilmap]), (b9, valO ((gE (envOf l) [] (depE e + 1) e).1)), (b2, valO v), (b1, expO e)]) (L' := [(b58, .cells [.nilmap, .nilmap, .nilmap]), (b54, .cells [.nilmap, .nilmap, .nilmap]), (b9, valO ((gE (envOf l) [] (depE e + 1) e).1)), (b2, valO v), (b1, expO e)]) hNb54 (pick_perm [1, 0, 0, 0, 0] _)
    exact s76 b58 hFb58 b54 hFb54 hNp
  clear s70
  have s87 : ∀ (_ : True), A 13 #[false, false, true, true, false, false, false, false, false, false, false, false, false, false, false] (fun fr m => K1 (fr.keep [4, 13, 14, 15]) m) [(1, .slice false (l.map fldIn)), (4, .ptr ⟨b1, 0, none⟩), (13, .ptr ⟨b9, 0, none⟩), (14, .err 67 ((gE (envOf l) [] (depE e + 1) e).2)), (68, .str name), (69, .agg [.int .i64 v.kind, .int .i64 v.n, .str v.s, .slice false (v.l.map valIn), .slice false (v.f.map fldIn)])] (AMem.wth m [(b9, valO ((gE (envOf l) [] (depE e + 1) e).1)), (b2, valO v), (b1, expO e)]) := by
   intro _
   subst hA
   refine AAny.step [] [0, 4, 11, 12] (by decide +kernel) (by simp) (by decide) ⟨?_, ?_, ?_, ?_, trivial⟩
   ·
    show aopsR _ _ _ [_] _ _ _
    refine ⟨trivial, ?_⟩
    refine AAny.keep [4, 13, 14, 66, 68, 69] (by decide) ?_
    exact s71 trivial
   ·
    show aopsR _ _ _ [_] _ _ _
    refine ⟨⟨rfl, by simp only [List.forall_mem_cons]; exact ⟨rfl, rfl, fun _ h => by cases h⟩, by simp only [List.forall_mem_cons]; exact ⟨rfl, rfl, fun _ h => by cases h⟩⟩, ?_⟩
    refine AAny.keep [1, 4, 13, 14, 70] (by decide) ?_
    exact s77 trivial
   ·
    show aopsR _ _ _ [_] _ _ _
    refine ar_alloc rfl (z := .agg [.nilmap, .nilmap, .nilmap]) rfl rfl ?_
    intro b54 hb54
    have hFb54 : m b54 = none := wth_none hb54
    have hNb54 : ([b54, b9, b2, b1] : List Nat).Nodup := wth_nodup hb54 hNd1
    refine AAny.keep [1, 4, 13, 14, 15, 68, 69] (by decide) ?_
    exact s78 b54 hFb54 hNb54
   ·
    show aopsR _ _ _ [_] _ _ _
    refine ar_alloc rfl (z := .agg [.nilmap, .nilmap, .nilmap]) rfl rfl ?_
    intro b58 hb58
    have hFb58 : m b58 = none := wth_none hb58
    have hNb58 : ([b58, b9, b2, b1] : List Nat).Nodup := wth_nodup hb58 hNd1
    refine AAny.keep [1, 4, 13, 14, 16, 68, 69] (by decide) ?_
    exact s79 b58 hFb58 hNb58
  clear s71 s77
  have s88 : ∀ (b54 : Nat) (hFb54 : m b54 = none) (hNv1 : ([b54, b9, b2, b1] : List Nat).Nodup), A 13 #[false, false, true, false, false, false, false, false, false, false, false, true, false, false, false] (fun fr m => K1 (fr.keep [4, 13, 14, 15]) m) [(1, .slice false (l.map fldIn)), (4, .ptr ⟨b1, 0, none⟩), (7, .ptr ⟨b2, 0, none⟩), (13, .ptr ⟨b9, 0, none⟩), (14, .err 67 ((gE (envOf l) [] (depE e + 1) e).2)), (15, .ptr ⟨b54, 0, none⟩), (68, .str name)] (AMem.wth m [(b54, .cells [.nilmap, .nilmap, .nilmap]), (b9, valO ((gE (envOf l) [] (depE e + 1) e).1)), (b2, valO v), (b1, expO e)]) := by
   intro b54 hFb54 hNv1
   subst hA
   refine AAny.step [] [0, 3, 12] (by decide +kernel) (by simp) (by decide) ⟨?_, ?_, ?_, trivial⟩
   ·
    show aopsR _ _ _ [_] _ _ _
    refine ⟨trivial, ?_⟩
    refine AAny.keep [4, 7, 13, 14, 15, 66, 68] (by decide) ?_
    exact s72 b54 hFb54 hNv1
   ·
    show aopsR _ _ _ [_] _ _ _
    refine ar_loadp rfl (v := .agg [.int .i64 v.kind, .int .i64 v.n, .str v.s, .slice false (v.l.map valIn), .slice false (v.f.map fldIn)]) rfl (wth_get 2 hNv1 rfl) rfl (apartOk_agg rfl rfl (Nat.le_of_ble_eq_true rfl)) rfl ?_
    refine AAny.keep [1, 4, 13, 14, 15, 68, 69] (by decide) ?_
    exact s78 b54 hFb54 hNv1
   ·
    show aopsR _ _ _ [_] _ _ _
    refine ar_alloc rfl (z := .agg [.nilmap, .nilmap, .nilmap]) rfl rfl ?_
    intro b58 hb58
    have hFb58 : m b58 = none := wth_none hb58
    have hNb58 : ([b58, b54, b9, b2, b1] : List Nat).Nodup := wth_nodup hb58 hNv1
    refine AAny.keep [1, 4, 7, 13, 14, 15, 16, 68] (by decide) ?_
    exact s80 b58 hFb58 b54 hFb54 hNb58
  clear s72
  have s89 : ∀ (b58 : Nat) (hFb58 : m b58 = none) (hNv1 : ([b58, b9, b2, b1] : List Nat).Nodup), A 13 #[false, false, true, false, false, false, false, false, false, false, false, false, true, false, false] (fun fr m => K1 (fr.keep [4, 13, 14, 15]) m) [(1, .slice false (l.map fldIn)), (4, .ptr ⟨b1, 0, none⟩), (7, .ptr ⟨b2, 0, none⟩), (13, .ptr ⟨b9, 0, none⟩), (14, .err 67 ((gE (envOf l) [] (depE e + 1) e).2)), (16, .ptr ⟨b58, 0, none⟩), (68, .str name)] (AMem.wth m [(b58, .cells [.nilmap, .nilmap, .nilmap]), (b9, valO ((gE (envOf l) [] (depE e + 1) e).1)), (b2, valO v), (b1, expO e)]) := by
   intro b58 hFb58 hNv1
   subst hA
   refine AAny.step [] [0, 3, 11] (by decide +kernel) (by simp) (by decide) ⟨?_, ?_, ?_, trivial⟩
   ·
    show aopsR _ _ _ [_] _ _ _
    refine ⟨trivial, ?_⟩
    refine AAny.keep [4, 7, 13, 14, 16, 66, 68] (by decide) ?_
    exact s73 b58 hFb58 hNv1
   ·
    show aopsR _ _ _ [_] _ _ _
    refine ar_loadp rfl (v := .agg [.int .i64 v.kind, .int .i64 v.n, .str v.s, .slice false (v.l.map valIn), .slice false (v.f.map fldIn)]) rfl (wth_get 2 hNv1 rfl) rfl (apartOk_agg rfl rfl (Nat.le_of_ble_eq_true rfl)) rfl ?_
    refine AAny.keep [1, 4, 13, 14, 16, 68, 69] (by decide) ?_
    exact s79 b58 hFb58 hNv1
   ·
    show aopsR _ _ _ [_] _ _ _
    refine ar_alloc rfl (z := .agg [.nilmap, .nilmap, .nilmap]) rfl rfl ?_
    intro b54 hb54
    have hFb54 : m b54 = none := wth_none hb54
    have hNb54 : ([b54, b58, b9, b2, b1] : List Nat).Nodup := wth_nodup hb54 hNv1
    refine AAny.keep [1, 4, 7, 13, 14, 15, 16, 68] (by decide) ?_
    refine AAny.memEq (wth_perm (m := m) (L := [(b54, .cells [.nilmap, .nilmap, .nilmap]), (b58, .cells [.nilmap, .nilmap, .nilmap]), (b9, valO ((gE (envOf l) [] (depE e + 1) e).1)), (b2, valO v), (b1, expO e)]) (L' := [(b58, .cells [.nilmap, .nilmap, .nilmap]), (b54, .cells [.nilmap, .nilmap, .nilmap]), (b9, valO ((gE (envOf l) [] (depE e + 1) e).1)), (b2, valO v), (b1, expO e)]) hNb54 (pick_perm [1, 0, 0, 0, 0] _)) ?_
    have hNp : ([b58, b54, b9, b2, b1] : List Nat).Nodup := perm_nodup (L := [(b54, .cells [.nilmap, .nilmap, .nilmap]), (b58, .cells [.nilmap, .nilmap, .nilmap]), (b9, valO ((gE (envOf l) [] (depE e + 1) e).1)), (b2, valO v), (b1, expO e)]) (L' := [(b58, .cells [.nilmap, .nilmap, .nilmap]), (b54, .cells [.nilmap, .nilmap, .nilmap]), (b9, valO ((gE (envOf l) [] (depE e + 1) e).1)), (b2, valO v), (b1, expO e)]) hNb54 (pick_perm [1, 0, 0, 0, 0] _)
    exact s80 b58 hFb58 b54 hFb54 hNp
  clear s73
  have s90 : ∀ (b54 : Nat) (hFb54 : m b54 = none) (hNv1 : ([b54, b9, b2, b1] : List Nat).Nodup), A 13 #[false, false, false, true, false, false, false, false, false, false, false, true, false, false, false] (fun fr m => K1 (fr.keep [4, 13, 14, 15]) m) [(1, .slice false (l.map fldIn)), (2, .str name), (4, .ptr ⟨b1, 0, none⟩), (13, .ptr ⟨b9, 0, none⟩), (14, .err 67 ((gE (envOf l) [] (depE e + 1) e).2)), (15, .ptr ⟨b54, 0, none⟩), (69, .agg [.int .i64 v.kind, .int .i64 v.n, .str v.s, .slice false (v.l.map valIn), .slice false (v.f.map fldIn)])] (AMem.wth m [(b54, .cells [.nilmap, .nilmap, .nilmap]), (b9, valO ((gE (envOf l) [] (depE e + 1) e).1)), (b2, valO v), (b1, expO e)]) := by
   intro b54 hFb54 hNv1
   subst hA
   refine AAny.step [] [0, 2, 12] (by decide +kernel) (by simp) (by decide) ⟨?_, ?_, ?_, trivial⟩
   ·
    show aopsR _ _ _ [_] _ _ _
    refine ⟨trivial, ?_⟩
    refine AAny.keep [2, 4, 13, 14, 15, 66, 69] (by decide) ?_
    exact s74 b54 hFb54 hNv1
   ·
    show aopsR _ _ _ [_] _ _ _
    refine ⟨trivial, ?_⟩
    refine AAny.keep [1, 4, 13, 14, 15, 68, 69] (by decide) ?_
    exact s78 b54 hFb54 hNv1
   ·
    show aopsR _ _ _ [_] _ _ _
    refine ar_alloc rfl (z := .agg [.nilmap, .nilmap, .nilmap]) rfl rfl ?_
    intro b58 hb58
    have hFb58 : m b58 = none := wth_none hb58
    have hNb58 : ([b58, b54, b9, b2, b1] : List Nat).Nodup := wth_nodup hb58 hNv1
    refine AAny.keep [1, 2, 4, 13, 14, 15, 16, 69] (by decide) ?_
    exact s81 b58 hFb58 b54 hFb54 hNb58
  clear s74 s78
  have s91 : ∀ (b58 : Nat) (hFb58 : m b58 = none) (hNv1 : ([b58, b9, b2, b1] : List Nat).Nodup), A 13 #[false, false, false, true, false, false, false, false, false, false, false, false, true, false, false] (fun fr m => K1 (fr.keep [4, 13, 14, 15]) m) [(1, .slice false (l.map fldIn)), (2, .str name), (4, .ptr ⟨b1, 0, none⟩), (13, .ptr ⟨b9, 0, none⟩), (14, .err 67 ((gE (envOf l) [] (depE e + 1) e).2)), (16, .ptr ⟨b58, 0, none⟩), (69, .agg [.int .i64 v.kind, .int .i64 v.n, .str v.s, .slice false (v.l.map valIn), .slice false (v.f.map fldIn)])] (AMem.wth m [(b58, .cells [.nilmap, .nilmap, .nilmap]), (b9, valO ((gE (envOf l) [] (depE e + 1) e).1)), (b2, valO v), (b1, expO e)]) := by
   intro b58 hFb58 hNv1
   subst hA
   refine AAny.step [] [0, 2, 11] (by decide +kernel) (by simp) (by decide) ⟨?_, ?_, ?_, trivial⟩
   ·
    show aopsR _ _ _ [_] _ _ _
    refine ⟨trivial, ?_⟩
    refine AAny.keep [2, 4, 13, 14, 16, 66, 69] (by decide) ?_
    exact s75 b58 hFb58 hNv1
   ·
    show aopsR _ _ _ [_] _ _ _
    refine ⟨trivial, ?_⟩
    refine AAny.keep [1, 4, 13, 14, 16, 68, 69] (by decide) ?_
    exact s79 b58 hFb58 hNv1
   ·
    show aopsR _ _ _ [_] _ _ _
    refine ar_alloc rfl (z := .agg [.nilmap, .nilmap, .nilmap]) rfl rfl ?_
    intro b54 hb54
    have hFb54 : m b54 = none := wth_none hb54
    have hNb54 : ([b54, b58, b9, b2, b1] : List Nat).Nodup := wth_nodup hb54 hNv1
    refine AAny.keep [1, 2, 4, 13, 14, 15, 16, 69] (by decide) ?_
    refine AAny.memEq (wth_perm (m := m) (L := [(b54, .cells [.nilmap, .nilmap, .nilmap]), (b58, .cells [.nilmap, .nilmap, .nilmap]), (b9, valO ((gE (envOf l) [] (depE e + 1) e).1)), (b2, valO v), (b1, expO e)]) (L' := [(b58, .cells [.nilmap, .nilmap, .nilmap]), (b54, .cells [.nilmap, .nilmap, .nilmap]), (b9, valO ((gE (envOf l) [] (depE e + 1) e).1)), (b2, valO v), (b1, expO e)]) hNb54 (pick_perm [1, 0, 0, 0, 0] _)) ?_
    have hNp : ([b58, b54, b9, b2, b1] : List Nat).Nodup := perm_nodup (L := [(b54, .cells [.nilmap, .nilmap, .nilmap]), (b58, .cells [.nilmap, .nilmap, .nilmap]), (b9, valO ((gE (envOf l) [] (depE e + 1) e).1)), (b2, valO v), (b1, expO e)]) (L' := [(b58, .cells [.nilmap, .nilmap, .nilmap]), (b54, .cells [.nilmap, .nilmap, .nilmap]), (b9, valO ((gE (envOf l) [] (depE e + 1) e).1)), (b2, valO v), (b1, expO e)]) hNb54 (pick_perm [1, 0, 0, 0, 0] _)
    exact s81 b58 hFb58 b54 hFb54 hNp
  clear s75 s79
  have s92 : ∀ (b58 : Nat) (hFb58 : m b58 = none) (b54 : Nat) (hFb54 : m b54 = none) (hNv1 : ([b58, b54, b9, b2, b1] : List Nat).Nodup), A 13 #[false, false, false, false, false, false, false, false, false, false, false, true, true, false, false] (fun fr m => K1 (fr.keep [4, 13, 14, 15]) m) [(1, .slice false (l.map fldIn)), (2, .str name), (4, .ptr ⟨b1, 0, none⟩), (7, .ptr ⟨b2, 0, none⟩), (13, .ptr ⟨b9, 0, none⟩), (14, .err 67 ((gE (envOf l) [] (depE e + 1) e).2)), (15, .ptr ⟨b54, 0, none⟩), (16, .ptr ⟨b58, 0, none⟩)] (AMem.wth m [(b58, .cells [.nilmap, .nilmap, .nilmap]), (b54, .cells [.nilmap, .nilmap, .nilmap]), (b9, valO ((gE (envOf l) [] (depE e + 1) e).1)), (b2, valO v), (b1, expO e)]) := by
   intro b58 hFb58 b54 hFb54 hNv1
   subst hA
   refine AAny.step [] [0, 2, 3] (by decide +kernel) (by simp) (by decide) ⟨?_, ?_, ?_, trivial⟩
   ·
    show aopsR _ _ _ [_] _ _ _
    refine ⟨trivial, ?_⟩
    refine AAny.keep [2, 4, 7, 13, 14, 15, 16, 66] (by decide) ?_
    exact s76 b58 hFb58 b54 hFb54 hNv1
   ·
    show aopsR _ _ _ [_] _ _ _
    refine ⟨trivial, ?_⟩
    refine AAny.keep [1, 4, 7, 13, 14, 15, 16, 68] (by decide) ?_
    exact s80 b58 hFb58 b54 hFb54 hNv1
   ·
    show aopsR _ _ _ [_] _ _ _
    refine ar_loadp rfl (v := .agg [.int .i64 v.kind, .int .i64 v.n, .str v.s, .slice false (v.l.map valIn), .slice false (v.f.map fldIn)]) rfl (wth_get 3 hNv1 rfl) rfl (apartOk_agg rfl rfl (Nat.le_of_ble_eq_true rfl)) rfl ?_
    refine AAny.keep [1, 2, 4, 13, 14, 15, 16, 69] (by decide) ?_
    exact s81 b58 hFb58 b54 hFb54 hNv1
  clear s76 s80 s81
  have s93 : ∀ (_ : True), A 14 #[true, false, false, false, false, false, false, false, false, false, false, false, false, false, false] (fun fr m => K1 (fr.keep [4, 13, 14, 15]) m) [(2, .str name), (4, .ptr ⟨b1, 0, none⟩), (7, .ptr ⟨b2, 0, none⟩), (13, .ptr ⟨b9, 0, none⟩), (14, .err 67 ((gE (envOf l) [] (depE e + 1) e).2)), (66, .slice false (l.map fldIn))] (AMem.wth m [(b9, valO ((gE (envOf l) [] (depE e + 1) e).1)), (b2, valO v), (b1, expO e)]) := by
   intro _
   subst hA
   refine AAny.step [] [1, 2, 3, 11, 12] (by decide +kernel) (by simp) (by decide) ⟨?_, ?_, ?_, ?_, ?_, trivial⟩
   ·
    show aopsR _ _ _ [_] _ _ _
    refine ar_append0 rfl fldIn l rfl rfl rfl rfl (Nat.le_of_ble_eq_true rfl) rfl (by (simp only [show Try.prog.bytesOf 46 = 96 from rfl, List.length_append, List.length_cons, List.length_nil]; omega)) (fun a => by rw [fldIn_eq]; exact ⟨rfl, rfl⟩) ?_
    refine AAny.keep [2, 4, 7, 13, 14, 67] (by decide) ?_
    exact s82 trivial
   ·
    show aopsR _ _ _ [_] _ _ _
    refine ⟨trivial, ?_⟩
    refine AAny.keep [4, 7, 13, 14, 66, 68] (by decide) ?_
    exact s83 trivial
   ·
    show aopsR _ _ _ [_] _ _ _
    refine ar_loadp rfl (v := .agg [.int .i64 v.kind, .int .i64 v.n, .str v.s, .slice false (v.l.map valIn), .slice false (v.f.map fldIn)]) rfl (wth_get 1 hNd1 rfl) rfl (apartOk_agg rfl rfl (Nat.le_of_ble_eq_true rfl)) rfl ?_
    refine AAny.keep [2, 4, 13, 14, 66, 69] (by decide) ?_
    exact s84 trivial
   ·
    show aopsR _ _ _ [_] _ _ _
    refine ar_alloc rfl (z := .agg [.nilmap, .nilmap, .nilmap]) rfl rfl ?_
    intro b54 hb54
    have hFb54 : m b54 = none := wth_none hb54
    have hNb54 : ([b54, b9, b2, b1] : List Nat).Nodup := wth_nodup hb54 hNd1
    refine AAny.keep [2, 4, 7, 13, 14, 15, 66] (by decide) ?_
    exact s85 b54 hFb54 hNb54
   ·
    show aopsR _ _ _ [_] _ _ _
    refine ar_alloc rfl (z := .agg [.nilmap, .nilmap, .nilmap]) rfl rfl ?_
    intro b58 hb58
    have hFb58 : m b58 = none := wth_none hb58
    have hNb58 : ([b58, b9, b2, b1] : List Nat).Nodup := wth_nodup hb58 hNd1
    refine AAny.keep [2, 4, 7, 13, 14, 16, 66] (by decide) ?_
    exact s86 b58 hFb58 hNb58
  clear s82
  have s94 : ∀ (_ : True), A 14 #[false, false, true, false, false, false, false, false, false, false, false, false, false, false, false] (fun fr m => K1 (fr.keep [4, 13, 14, 15]) m) [(1, .slice false (l.map fldIn)), (4, .ptr ⟨b1, 0, none⟩), (7, .ptr ⟨b2, 0, none⟩), (13, .ptr ⟨b9, 0, none⟩), (14, .err 67 ((gE (envOf l) [] (depE e + 1) e).2)), (68, .str name)] (AMem.wth m [(b9, valO ((gE (envOf l) [] (depE e + 1) e).1)), (b2, valO v), (b1, expO e)]) := by
   intro _
   subst hA
   refine AAny.step [] [0, 3, 11, 12] (by decide +kernel) (by simp) (by decide) ⟨?_, ?_, ?_, ?_, trivial⟩
   ·
    show aopsR _ _ _ [_] _ _ _
    refine ⟨trivial, ?_⟩
    refine AAny.keep [4, 7, 13, 14, 66, 68] (by decide) ?_
    exact s83 trivial
   ·
    show aopsR _ _ _ [_] _ _ _
    refine ar_loadp rfl (v := .agg [.int .i64 v.kind, .int .i64 v.n, .str v.s, .slice false (v.l.map valIn), .slice false (v.f.map fldIn)]) rfl (wth_get 1 hNd1 rfl) rfl (apartOk_agg rfl rfl (Nat.le_of_ble_eq_true rfl)) rfl ?_
    refine AAny.keep [1, 4, 13, 14, 68, 69] (by decide) ?_
    exact s87 trivial
   ·
    show aopsR _ _ _ [_] _ _ _
    refine ar_alloc rfl (z := .agg [.nilmap, .nilmap, .nilmap]) rfl rfl ?_
    intro b54 hb54
    have hFb54 : m b54 = none := wth_none hb54
    have hNb54 : ([b54, b9, b2, b1] : List Nat).Nodup := wth_nodup hb54 hNd1
    refine AAny.keep [1, 4, 7, 13, 14, 15, 68] (by decide) ?_
    exact s88 b54 hFb54 hNb54
   ·
    show aopsR _ _ _ [_] _ _ _
    refine ar_alloc rfl (z := .agg [.nilmap, .nilmap, .nilmap]) rfl rfl ?_
    intro b58 hb58
    have hFb58 : m b58 = none := wth_none hb58
    have hNb58 : ([b58, b9, b2, b1] : List Nat).Nodup := wth_nodup hb58 hNd1
    refine AAny.keep [1, 4, 7, 13, 14, 16, 68] (by decide) ?_
    exact s89 b58 hFb58 hNb58
  clear s83
  have s95 : ∀ (_ : True), A 14 #[false, false, false, true, false, false, false, false, false, false, false, false, false, false, false] (fun fr m => K1 (fr.keep [4, 13, 14, 15]) m) [(1, .slice false (l.map fldIn)), (2, .str name), (4, .ptr ⟨b1, 0, none⟩), (13, .ptr ⟨b9, 0, none⟩), (14, .err 67 ((gE (envOf l) [] (depE e + 1) e).2)), (69, .agg [.int .i64 v.kind, .int .i64 v.n, .str v.s, .slice false (v.l.map valIn), .slice false (v.f.map fldIn)])] (AMem.wth m [(b9, valO ((gE (envOf l) [] (depE e + 1) e).1)), (b2, valO v), (b1, expO e)]) := by
   intro _
   subst hA
   refine AAny.step [] [0, 2, 11, 12] (by decide +kernel) (by simp) (by decide) ⟨?_, ?_, ?_, ?_, trivial⟩
   ·
    show aopsR _ _ _ [_] _ _ _
    refine ⟨trivial, ?_⟩
    refine AAny.keep [2, 4, 13, 14, 66, 69] (by decide) ?_
    exact s84 trivial
   ·
    show aopsR _ _ _ [_] _ _ _
    refine ⟨trivial, ?_⟩
    refine AAny.keep [1, 4, 13, 14, 68, 69] (by decide) ?_
    exact s87 trivial
   ·
    show aopsR _ _ _ [_] _ _ _
    refine ar_alloc rfl (z := .agg [.nilmap, .nilmap, .nilmap]) rfl rfl ?_
    intro b54 hb54
    have hFb54 : m b54 = none := wth_none hb54
    have hNb54 : ([b54, b9, b2, b1] : List Nat).Nodup := wth_nodup hb54 hNd1
    refine AAny.keep [1, 2, 4, 13, 14, 15, 69] (by decide) ?_
    exact s90 b54 hFb54 hNb54
   ·
    show aopsR _ _ _ [_] _ _ _
    refine ar_alloc rfl (z := .agg [.nilmap, .nilmap, .nilmap]) rfl rfl ?_
    intro b58 hb58
    have hFb58 : m b58 = none := wth_none hb58
    have hNb58 : ([b58, b9, b2, b1] : List Nat).Nodup := wth_nodup hb58 hNd1
    refine AAny.keep [1, 2, 4, 13, 14, 16, 69] (by decide) ?_
    exact s91 b58 hFb58 hNb58
  clear s84 s87
  have s96 : ∀ (b54 : Nat) (hFb54 : m b54 = none) (hNv1 : ([b54, b9, b2, b1] : List Nat).Nodup), A 14 #[false, false, false, false, false, false, false, false, false, false, false, true, false, false, false] (fun fr m => K1 (fr.keep [4, 13, 14, 15]) m) [(1, .slice false (l.map fldIn)), (2, .str name), (4, .ptr ⟨b1, 0, none⟩), (7, .ptr ⟨b2, 0, none⟩), (13, .ptr ⟨b9, 0, none⟩), (14, .err 67 ((gE (envOf l) [] (depE e + 1) e).2)), (15, .ptr ⟨b54, 0, none⟩)] (AMem.wth m [(b54, .cells [.nilmap, .nilmap, .nilmap]), (b9, valO ((gE (envOf l) [] (depE e + 1) e).1)), (b2, valO v), (b1, expO e)]) := by
   intro b54 hFb54 hNv1
   subst hA
   refine AAny.step [] [0, 2, 3, 12] (by decide +kernel) (by simp) (by decide) ⟨?_, ?_, ?_, ?_, trivial⟩
   ·
    show aopsR _ _ _ [_] _ _ _
    refine ⟨trivial, ?_⟩
    refine AAny.keep [2, 4, 7, 13, 14, 15, 66] (by decide) ?_
    exact s85 b54 hFb54 hNv1
   ·
    show aopsR _ _ _ [_] _ _ _
    refine ⟨trivial, ?_⟩
    refine AAny.keep [1, 4, 7, 13, 14, 15, 68] (by decide) ?_
    exact s88 b54 hFb54 hNv1
   ·
    show aopsR _ _ _ [_] _ _ _
    refine ar_loadp rfl (v := .agg [.int .i64 v.kind, .int .i64 v.n, .str v.s, .slice false (v.l.map valIn), .slice false (v.f.map fldIn)]) rfl (wth_get 2 hNv1 rfl) rfl (apartOk_agg rfl rfl (Nat.le_of_ble_eq_true rfl)) rfl ?_
    refine AAny.keep [1, 2, 4, 13, 14, 15, 69] (by decide) ?_
    exact s90 b54 hFb54 hNv1
   ·
    show aopsR _ _ _ [_] _ _ _
    refine ar_alloc rfl (z := .agg [.nilmap, .nilmap, .nilmap]) rfl rfl ?_
    intro b58 hb58
    have hFb58 : m b58 = none := wth_none hb58
    have hNb58 : ([b58, b54, b9, b2, b1] : List Nat).Nodup := wth_nodup hb58 hNv1
    refine AAny.keep [1, 2, 4, 7, 13, 14, 15, 16] (by decide) ?_
    exact s92 b58 hFb58 b54 hFb54 hNb58
  clear s85 s88 s90
  have s97 : ∀ (b58 : Nat) (hFb58 : m b58 = none) (hNv1 : ([b58, b9, b2, b1] : List Nat).Nodup), A 14 #[false, false, false, false, false, false, false, false, false, false, false, false, true, false, false] (fun fr m => K1 (fr.keep [4, 13, 14, 15]) m) [(1, .slice false (l.map fldIn)), (2, .str name), (4, .ptr ⟨b1, 0, none⟩), (7, .ptr ⟨b2, 0, none⟩), (13, .ptr ⟨b9, 0, none⟩), (14, .err 67 ((gE (envOf l) [] (depE e + 1) e).2)), (16, .ptr ⟨b58, 0, none⟩)] (AMem.wth m [(b58, .cells [.nilmap, .nilmap, .nilmap]), (b9, valO ((gE (envOf l) [] (depE e + 1) e).1)), (b2, valO v), (b1, expO e)]) := by
   intro b58 hFb58 hNv1
   subst hA
   refine AAny.step [] [0, 2, 3, 11] (by decide +kernel) (by simp) (by decide) ⟨?_, ?_, ?_, ?_, trivial⟩
   ·
    show aopsR _ _ _ [_] _ _ _
    refine ⟨trivial, ?_⟩
    refine AAny.keep [2, 4, 7, 13, 14, 16, 66] (by decide) ?_
    exact s86 b58 hFb58 hNv1
   ·
    show aopsR _ _ _ [_] _ _ _
    refine ⟨trivial, ?_⟩
    refine AAny.keep [1, 4, 7, 13, 14, 16, 68] (by decide) ?_
    exact s89 b58 hFb58 hNv1
   ·
    show aopsR _ _ _ [_] _ _ _
    refine ar_loadp rfl (v := .agg [.int .i64 v.kind, .int .i64 v.n, .str v.s, .slice false (v.l.map valIn), .slice false (v.f.map fldIn)]) rfl (wth_get 2 hNv1 rfl) rfl (apartOk_agg rfl rfl (Nat.le_of_ble_eq_true rfl)) rfl ?_
    refine AAny.keep [1, 2, 4, 13, 14, 16, 69] (by decide) ?_
    exact s91 b58 hFb58 hNv1
   ·
    show aopsR _ _ _ [_] _ _ _
    refine ar_alloc rfl (z := .agg [.nilmap, .nilmap, .nilmap]) rfl rfl ?_
    intro b54 hb54
    have hFb54 : m b54 = none := wth_none hb54
    have hNb54 : ([b54, b58, b9, b2, b1] : List Nat).Nodup := wth_nodup hb54 hNv1
    refine AAny.keep [1, 2, 4, 7, 13, 14, 15, 16] (by decide) ?_
    refine AAny.memEq (wth_perm (m := m) (L := [(b54, .cells [.nilmap, .nilmap, .nilmap]), (b58, .cells [.nilmap, .nilmap, .nilmap]), (b9, valO ((gE (envOf l) [] (depE e + 1) e).1)), (b2, valO v), (b1, expO e)]) (L' := [(b58, .cells [.nilmap, .nilmap, .nilmap]), (b54, .cells [.nilmap, .nilmap, .nilmap]), (b9, valO ((gE (envOf l) [] (depE e + 1) e).1)), (b2, valO v), (b1, expO e)]) hNb54 (pick_perm [1, 0, 0, 0, 0] _)) ?_
    have hNp : ([b58, b54, b9, b2, b1] : List Nat).Nodup := perm_nodup (L := [(b54, .cells [.nilmap, .nilmap, .nilmap]), (b58, .cells [.nilmap, .nilmap, .nilmap]), (b9, valO ((gE (envOf l) [] (depE e + 1) e).1)), (b2, valO v), (b1, expO e)]) (L' := [(b58, .cells [.nilmap, .nilmap, .nilmap]), (b54, .cells [.nilmap, .nilmap, .nilmap]), (b9, valO ((gE (envOf l) [] (depE e + 1) e).1)), (b2, valO v), (b1, expO e)]) hNb54 (pick_perm [1, 0, 0, 0, 0] _)
    exact s92 b58 hFb58 b54 hFb54 hNp
  clear s86 s89 s91 s92
  have s98 : ∀ (_ : True), A 15 #[false, false, false, false, false, false, false, false, false, false, false, false, false, false, false] (fun fr m => K1 (fr.keep [4, 13, 14, 15]) m) [(1, .slice false (l.map fldIn)), (2, .str name), (4, .ptr ⟨b1, 0, none⟩), (7, .ptr ⟨b2, 0, none⟩), (13, .ptr ⟨b9, 0, none⟩), (14, .err 67 ((gE (envOf l) [] (depE e + 1) e).2)), (64, .bool (namesF name (depE e + 1) e))] (AMem.wth m [(b9, valO ((gE (envOf l) [] (depE e + 1) e).1)), (b2, valO v), (b1, expO e)]) := by
   intro _
   subst hA
   refine AAny.step [] [0, 2, 3, 11, 12] (by decide +kernel) (by simp) (by decide) ⟨?_, ?_, ?_, ?_, ?_, trivial⟩
   ·
    show aopsR _ _ _ [_] _ _ _
    refine ⟨trivial, ?_⟩
    refine AAny.keep [2, 4, 7, 13, 14, 66] (by decide) ?_
    exact s93 trivial
   ·
    show aopsR _ _ _ [_] _ _ _
    refine ⟨trivial, ?_⟩
    refine AAny.keep [1, 4, 7, 13, 14, 68] (by decide) ?_
    exact s94 trivial
   ·
    show aopsR _ _ _ [_] _ _ _
    refine ar_loadp rfl (v := .agg [.int .i64 v.kind, .int .i64 v.n, .str v.s, .slice false (v.l.map valIn), .slice false (v.f.map fldIn)]) rfl (wth_get 1 hNd1 rfl) rfl (apartOk_agg rfl rfl (Nat.le_of_ble_eq_true rfl)) rfl ?_
    refine AAny.keep [1, 2, 4, 13, 14, 69] (by decide) ?_
    exact s95 trivial
   ·
    show aopsR _ _ _ [_] _ _ _
    refine ar_alloc rfl (z := .agg [.nilmap, .nilmap, .nilmap]) rfl rfl ?_
    intro b54 hb54
    have hFb54 : m b54 = none := wth_none hb54
    have hNb54 : ([b54, b9, b2, b1] : List Nat).Nodup := wth_nodup hb54 hNd1
    refine AAny.keep [1, 2, 4, 7, 13, 14, 15] (by decide) ?_
    exact s96 b54 hFb54 hNb54
   ·
    show aopsR _ _ _ [_] _ _ _
    refine ar_alloc rfl (z := .agg [.nilmap, .nilmap, .nilmap]) rfl rfl ?_
    intro b58 hb58
    have hFb58 : m b58 = none := wth_none hb58
    have hNb58 : ([b58, b9, b2, b1] : List Nat).Nodup := wth_nodup hb58 hNd1
    refine AAny.keep [1, 2, 4, 7, 13, 14, 16] (by decide) ?_
    exact s97 b58 hFb58 hNb58
  clear s93 s94 s95 s96 s97
  exact s98 trivial
 intro b58 hFb58 b54 hFb54 b40 hFb40 b39 hFb39 b38 hFb38 hNv1
 refine hK1 _ _ ?_; clear hK1 K1
 refine awp_reg2_seq [] [13, 14, 17, 18] (by decide) ?_
 intro K1 hK1
 refine ar_loadp rfl (v := .agg [.int .i64 e.kind, .int .i64 e.v.kind, .int .i64 e.v.n, .str e.v.s, .slice false (e.v.l.map valIn), .slice false (e.v.f.map fldIn), .str e.s, .str e.t, .slice false (e.a.map expIn), .slice false (e.n.map strAV)]) rfl (wth_get 7 hNv1 rfl) rfl (apartOk_agg rfl rfl (Nat.le_of_ble_eq_true rfl)) rfl ?_
 refine ar_loadp rfl (v := .agg [.map b38, .map b39, .map b40]) rfl (wth_get 1 hNv1 rfl) rfl (apartOk_agg rfl rfl (Nat.le_of_ble_eq_true rfl)) rfl ?_
 refine ar_mem (wth_split hNv1 (pick_perm [4, 3, 2] _)) ?_
 refine u_EvalT e b38 b39 b40 (envOf (l ++ ([(⟨name, v⟩ : (Str × Val))] : List (Str × Val)))) [] (by simp at hNv1 ⊢; omega) (envOf_ok _ (by first | exact hin.2 | exact hin2)) (fun _ h => by cases h) hok _ _ ?_
 show aopsR _ _ _ _ _ _ (AMem.wth (AMem.wth m [(b58, .cells [.map b38, .map b39, .map b40]), (b54, .cells [.map b38, .map b39, .map b40]), (b9, valO ((gE (envOf l) [] (depE e + 1) e).1)), (b2, valO v), (b1, expO e)]) [(b38, vmO (envOf (l ++ ([(⟨name, v⟩ : (Str × Val))] : List (Str × Val))))), (b39, vmO ([] : VMap)), (b40, nmO)])
 refine ar_mem (wth_split (m := m) (L := [(b58, .cells [.map b38, .map b39, .map b40]), (b54, .cells [.map b38, .map b39, .map b40]), (b40, nmO), (b39, vmO ([] : VMap)), (b38, vmO (envOf (l ++ ([(⟨name, v⟩ : (Str × Val))] : List (Str × Val))))), (b9, valO ((gE (envOf l) [] (depE e + 1) e).1)), (b2, valO v), (b1, expO e)]) hNv1 (pick_perm [4, 3, 2] _)).symm ?_
 refine ⟨trivial, (Nat.le_of_ble_eq_true rfl), (Nat.le_of_ble_eq_true rfl), ?_⟩
 refine ar_alloc rfl (z := .agg [.int .i64 0, .int .i64 0, .str ([]), .slice true [], .slice true []]) rfl rfl ?_
 intro b59 hb59
 have hFb59 : m b59 = none := wth_none hb59
 have hNb59 : ([b59, b58, b54, b40, b39, b38, b9, b2, b1] : List Nat).Nodup := wth_nodup hb59 hNv1
 refine ar_storep rfl 0 (v := valTop ((gE (envOf (l ++ ([(⟨name, v⟩ : (Str × Val))] : List (Str × Val)))) [] (depE e + 1) e).1)) (l' := [.int .i64 (((gE (envOf (l ++ ([(⟨name, v⟩ : (Str × Val))] : List (Str × Val)))) [] (depE e + 1) e).1).kind), .int .i64 (((gE (envOf (l ++ ([(⟨name, v⟩ : (Str × Val))] : List (Str × Val)))) [] (depE e + 1) e).1).n), .str (((gE (envOf (l ++ ([(⟨name, v⟩ : (Str × Val))] : List (Str × Val)))) [] (depE e + 1) e).1).s), .slice false ((((gE (envOf (l ++ ([(⟨name, v⟩ : (Str × Val))] : List (Str × Val)))) [] (depE e + 1) e).1).l).map valIn), .slice false ((((gE (envOf (l ++ ([(⟨name, v⟩ : (Str × Val))] : List (Str × Val)))) [] (depE e + 1) e).1).f).map fldIn)]) rfl (by rfl) hNb59 rfl rfl rfl rfl rfl (Nat.le_of_ble_eq_true rfl) rfl ?_
 refine ⟨trivial, ?_⟩
 show K1 [(13, .ptr ⟨b9, 0, none⟩), (14, .err 67 ((gE (envOf l) [] (depE e + 1) e).2)), (17, .ptr ⟨b59, 0, none⟩), (18, .err 67 ((gE (envOf (l ++ ([(⟨name, v⟩ : (Str × Val))] : List (Str × Val)))) [] (depE e + 1) e).2))] (AMem.wth m [(b59, valO ((gE (envOf (l ++ ([(⟨name, v⟩ : (Str × Val))] : List (Str × Val)))) [] (depE e + 1) e).1)), (b58, .cells [.map b38, .map b39, .map b40]), (b54, .cells [.map b38, .map b39, .map b40]), (b40, nmO), (b39, vmO ([] : VMap)), (b38, vmO (envOf (l ++ ([(⟨name, v⟩ : (Str × Val))] : List (Str × Val))))), (b9, valO ((gE (envOf l) [] (depE e + 1) e).1)), (b2, valO v), (b1, expO e)])
 refine hK1 _ _ ?_; clear hK1 K1
 have hNd2 : ([b59, b9] : List Nat).Nodup := drop_nodup (L := [(b59, valO ((gE (envOf (l ++ ([(⟨name, v⟩ : (Str × Val))] : List (Str × Val)))) [] (depE e + 1) e).1)), (b58, .cells [.map b38, .map b39, .map b40]), (b54, .cells [.map b38, .map b39, .map b40]), (b40, nmO), (b39, vmO ([] : VMap)), (b38, vmO (envOf (l ++ ([(⟨name, v⟩ : (Str × Val))] : List (Str × Val))))), (b9, valO ((gE (envOf l) [] (depE e + 1) e).1)), (b2, valO v), (b1, expO e)]) hNb59 (pick_perm [1, 1, 1, 1, 1, 2, 2] _)
 refine awp_dropP [(b58, .cells [.map b38, .map b39, .map b40]), (b54, .cells [.map b38, .map b39, .map b40]), (b40, nmO), (b39, vmO ([] : VMap)), (b38, vmO (envOf (l ++ ([(⟨name, v⟩ : (Str × Val))] : List (Str × Val))))), (b2, valO v), (b1, expO e)] [(b59, valO ((gE (envOf (l ++ ([(⟨name, v⟩ : (Str × Val))] : List (Str × Val)))) [] (depE e + 1) e).1)), (b9, valO ((gE (envOf l) [] (depE e + 1) e).1))] hNb59 (pick_perm [1, 1, 1, 1, 1, 2, 2] _) (by simp only [List.map_cons, List.map_nil, List.forall_mem_cons]; exact ⟨hFb58, hFb54, hFb40, hFb39, hFb38, hFb2, hFb1, fun _ h => by cases h⟩) ?_
 refine awp_reg2_seq [] [8] (by decide) ?_
 intro K1 hK1
 suffices key : K1 [(8, .bool ((((gE (envOf l) [] (depE e + 1) e).2) == ((gE (envOf (l ++ ([(⟨name, v⟩ : (Str × Val))] : List (Str × Val)))) [] (depE e + 1) e).2)) && (vEq ((gE (envOf l) [] (depE e + 1) e).1) ((gE (envOf (l ++ ([(⟨name, v⟩ : (Str × Val))] : List (Str × Val)))) [] (depE e + 1) e).1))))] (AMem.wth m [(b59, valO ((gE (envOf (l ++ ([(⟨name, v⟩ : (Str × Val))] : List (Str × Val)))) [] (depE e + 1) e).1)), (b9, valO ((gE (envOf l) [] (depE e + 1) e).1))]) by
  refine ⟨trivial, ?_⟩
  refine u_number ((gE (envOf l) [] (depE e + 1) e).2) _ _ ?_
  refine ⟨trivial, ?_⟩
  refine u_number ((gE (envOf (l ++ ([(⟨name, v⟩ : (Str × Val))] : List (Str × Val)))) [] (depE e + 1) e).2) _ _ ?_
  refine ⟨trivial, trivial, ?_⟩
  show aopsR _ _ _ _ _ [(87, .bool (((gE (envOf l) [] (depE e + 1) e).2) == ((gE (envOf (l ++ ([(⟨name, v⟩ : (Str × Val))] : List (Str × Val)))) [] (depE e + 1) e).2))), (86, .bool (((gE (envOf l) [] (depE e + 1) e).2) == ((gE (envOf (l ++ ([(⟨name, v⟩ : (Str × Val))] : List (Str × Val)))) [] (depE e + 1) e).2))), (85, .int .i64 ((gE (envOf (l ++ ([(⟨name, v⟩ : (Str × Val))] : List (Str × Val)))) [] (depE e + 1) e).2)), (84, .err 67 ((gE (envOf (l ++ ([(⟨name, v⟩ : (Str × Val))] : List (Str × Val)))) [] (depE e + 1) e).2)), (83, .int .i64 ((gE (envOf l) [] (depE e + 1) e).2)), (82, .err 67 ((gE (envOf l) [] (depE e + 1) e).2)), (13, .ptr ⟨b9, 0, none⟩), (14, .err 67 ((gE (envOf l) [] (depE e + 1) e).2)), (17, .ptr ⟨b59, 0, none⟩), (18, .err 67 ((gE (envOf (l ++ ([(⟨name, v⟩ : (Str × Val))] : List (Str × Val)))) [] (depE e + 1) e).2))] _
  revert key
  cases h6 : (((gE (envOf l) [] (depE e + 1) e).2) == ((gE (envOf (l ++ ([(⟨name, v⟩ : (Str × Val))] : List (Str × Val)))) [] (depE e + 1) e).2))
  ·
   replace h6 : (gE (envOf l) [] (depE e + 1) e).2 ≠ (gE (envOf (l ++ ([(⟨name, v⟩ : (Str × Val))] : List (Str × Val)))) [] (depE e + 1) e).2 := (ne_of_beq_false h6)
   intro key
   refine ar_off rfl (ar_off rfl (ar_off rfl ?_))
   refine ⟨trivial, ?_⟩
   exact key
  ·
   replace h6 : (gE (envOf l) [] (depE e + 1) e).2 = (gE (envOf (l ++ ([(⟨name, v⟩ : (Str × Val))] : List (Str × Val)))) [] (depE e + 1) e).2 := (eq_of_beq h6)
   intro key
   refine ar_loadp rfl (v := .agg [.int .i64 (((gE (envOf l) [] (depE e + 1) e).1).kind), .int .i64 (((gE (envOf l) [] (depE e + 1) e).1).n), .str (((gE (envOf l) [] (depE e + 1) e).1).s), .slice false ((((gE (envOf l) [] (depE e + 1) e).1).l).map valIn), .slice false ((((gE (envOf l) [] (depE e + 1) e).1).f).map fldIn)]) rfl (wth_get 1 hNd2 rfl) rfl (apartOk_agg rfl rfl (Nat.le_of_ble_eq_true rfl)) rfl ?_
   refine ar_loadp rfl (v := .agg [.int .i64 (((gE (envOf (l ++ ([(⟨name, v⟩ : (Str × Val))] : List (Str × Val)))) [] (depE e + 1) e).1).kind), .int .i64 (((gE (envOf (l ++ ([(⟨name, v⟩ : (Str × Val))] : List (Str × Val)))) [] (depE e + 1) e).1).n), .str (((gE (envOf (l ++ ([(⟨name, v⟩ : (Str × Val))] : List (Str × Val)))) [] (depE e + 1) e).1).s), .slice false ((((gE (envOf (l ++ ([(⟨name, v⟩ : (Str × Val))] : List (Str × Val)))) [] (depE e + 1) e).1).l).map valIn), .slice false ((((gE (envOf (l ++ ([(⟨name, v⟩ : (Str × Val))] : List (Str × Val)))) [] (depE e + 1) e).1).f).map fldIn)]) rfl (wth_get 0 hNd2 rfl) rfl (apartOk_agg rfl rfl (Nat.le_of_ble_eq_true rfl)) rfl ?_
   refine u_Alike ((gE (envOf l) [] (depE e + 1) e).1) ((gE (envOf (l ++ ([(⟨name, v⟩ : (Str × Val))] : List (Str × Val)))) [] (depE e + 1) e).1) _ _ ?_
   refine ⟨trivial, ?_⟩
   exact key
 refine hK1 _ _ ?_; clear hK1 K1
 refine awp_ret ?_
 refine ⟨trivial, m, (wth_sub2 (m := m) [(b59, valO ((gE (envOf (l ++ ([(⟨name, v⟩ : (Str × Val))] : List (Str × Val)))) [] (depE e + 1) e).1)), (b9, valO ((gE (envOf l) [] (depE e + 1) e).1))] [] hNd2 (by simp only [List.map_cons, List.map_nil, List.forall_mem_cons]; exact ⟨hFb59, hFb9, fun _ h => by cases h⟩)), ?_⟩
 show K (.bool ((((gE (envOf l) [] (depE e + 1) e).2) == ((gE (envOf (l ++ ([(⟨name, v⟩ : (Str × Val))] : List (Str × Val)))) [] (depE e + 1) e).2)) && (vEq ((gE (envOf l) [] (depE e + 1) e).1) ((gE (envOf (l ++ ([(⟨name, v⟩ : (Str × Val))] : List (Str × Val)))) [] (depE e + 1) e).1)))) m

 have hq : gE (envOf (l ++ [(name, v)])) [] (depE e + 1) e = gE (envOf l) [] (depE e + 1) e := by
  unfold gE
  rw [evF_free _ (envOf l) [] name (fun s hs => by rw [envOf_snoc, mget_mput_ne _ _ _ _ hs]) _ e (by assumption)]
 rw [hq, vEq_true rfl]
 simpa using hK

end Go.Proofs
