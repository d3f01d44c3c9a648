import Derived.Test.YtoeghipbkmaccaaProg
import Derived.Test.YtoeghipbkmaccaaWl5
import Derived.Test.YtoeghipbkmaccaaCl8
import Derived.Test.YtoeghipbkmaccaaDk3
namespace Go.Proofs
open Go Go.Aw
set_option maxRecDepth 100000


theorem chk_R1 {v : Val} (h : 60 < (depV v : Int) ∨ 6 < hgtF (depV v + 1) v) : chk v = 2 := by rw [chk_R, if_pos h]
theorem chk_R2 {v : Val} (h : (depV v : Int) ≤ 60 ∧ hgtF (depV v + 1) v ≤ 6) (h2 : shpF (depV v + 1) v = false) : chk v = 3 := by rw [chk_R, if_neg (by omega), if_neg (by simp [h2])]
theorem chk_R3 {v : Val} (h : (depV v : Int) ≤ 60 ∧ hgtF (depV v + 1) v ≤ 6) (h2 : shpF (depV v + 1) v = true) : chk v = 0 := by rw [chk_R, if_neg (by omega), if_pos h2]
theorem u_shapedR : ∀ (k : Nat) (v : Val), depV v < k → ∀ (m : AMem) (K : AV → AMem → Prop), K (.bool (shpF k v)) m → ACalls Try.prog 102 [valTop v] m K
  | 0, _, h => absurd h (Nat.not_lt_zero _)
  | k + 1, v, h => fun m K hK => u_shaped1 k v (fun w hw => u_shapedR k w (by omega)) m K hK
def readC (c : ClSt) (s : DSt) (id : Int) : Thg × Int := if s.down = true then (zT, 10) else if (mget c.things id).isSome = false then (zT, 7) else ((mget c.things id).getD zT, 0)
def spoilC (c : ClSt) (id : Int) (v : Val) : ClSt := if (mget c.things id).isSome = true ∧ attrE v = 0 then { c with things := mput c.things id ⟨((mget c.things id).getD zT).id, ((mget c.things id).getD zT).kind, v⟩ } else c
theorem okV_get {l : List (Int × Thg)} {id : Int} (h : ∀ p ∈ l, chk p.2.v = 0) (hs : (mget l id).isSome = true) : okV ((mget l id).getD zT).v := by
  obtain ⟨t, ht⟩ := Option.isSome_iff_exists.1 hs
  rw [ht]; exact chk_okV (h _ (mget_memG ht))

set_option maxHeartbeats 2000000 in
theorem u_Fault (v : Val) (hB : depV v ≤ 1000000000000) (m : AMem)  (K : AV → AMem → Prop) (hK : K (.int .i64 (chk v)) m) : ACalls Try.prog 95 [valTop v] m K := by
 refine acalls_enter Try.func95 rfl (by decide) (Nat.le_of_ble_eq_true rfl) ?_
 show AWP _ _ _ _ [(0, valTop v)] m
 refine awp_reg2_seq [] [1] (by decide) ?_
 intro K1 hK1
 refine ar_box rfl (m := m) (L := []) (v := valTop v) (by rfl) rfl ?_
 intro b1 hb1
 have hFb1 : m b1 = none := wth_none (m := m) (L := []) hb1
 have hNb1 : ([b1] : List Nat).Nodup := wth_nodup (m := m) (L := []) hb1 List.nodup_nil
 refine ⟨trivial, ?_⟩
 show K1 [(1, .ptr ⟨b1, 0, none⟩)] (AMem.wth m [(b1, .cells [.int .i64 v.kind, .int .i64 v.n, .str v.s, .slice false (v.l.map valIn), .slice false (v.f.map fldIn)])])
 refine hK1 _ _ ?_; clear hK1 K1
 refine awp_reg2_seq [] [1, 3, 4] (by decide) ?_
 intro K1 hK1
 refine ar_loadp rfl (v := .agg [.int .i64 v.kind, .int .i64 v.n, .str v.s, .slice false (v.l.map valIn), .slice false (v.f.map fldIn)]) rfl (wth_get 0 hNb1 rfl) rfl (apartOk_agg rfl rfl (Nat.le_of_ble_eq_true rfl)) rfl ?_
 refine u_parts (depV v + 1) v (Nat.lt_succ_self _) hB _ _ ?_
 refine ⟨trivial, (Nat.le_of_ble_eq_true rfl), (Nat.le_of_ble_eq_true rfl), trivial, trivial, ?_⟩
 show K1 [(1, .ptr ⟨b1, 0, none⟩), (3, .int .i64 (depV v : Int)), (4, .int .i64 (hgtF (depV v + 1) v))] (AMem.wth m [(b1, .cells [.int .i64 v.kind, .int .i64 v.n, .str v.s, .slice false (v.l.map valIn), .slice false (v.f.map fldIn)])])
 refine hK1 _ _ ?_; clear hK1 K1
 refine awp_seq_k ?_; intro K2 hK2
 refine awp_reg2_seq [] [1, 16] (by decide) ?_
 intro K1 hK1
 suffices key : K1 [(1, .ptr ⟨b1, 0, none⟩), (16, .bool ((decide (60 < (depV v : Int))) || (decide (6 < hgtF (depV v + 1) v))))] (AMem.wth m [(b1, .cells [.int .i64 v.kind, .int .i64 v.n, .str v.s, .slice false (v.l.map valIn), .slice false (v.f.map fldIn)])]) by
  refine ⟨trivial, trivial, trivial, ?_⟩
  show aopsR _ _ _ _ _ [(13, .bool (decide (60 < (depV v : Int)))), (12, .bool (decide (60 < (depV v : Int)))), (11, .int .i64 (depV v : Int)), (1, .ptr ⟨b1, 0, none⟩), (3, .int .i64 (depV v : Int)), (4, .int .i64 (hgtF (depV v + 1) v))] _
  revert key
  cases h1 : (decide (60 < (depV v : Int)))
  ·
   replace h1 : (depV v : Int) ≤ 60 := (Int.not_lt.1 (of_decide_eq_false h1))
   intro key
   refine ⟨trivial, trivial, ?_⟩
   exact key
  ·
   replace h1 : 60 < (depV v : Int) := (of_decide_eq_true h1)
   intro key
   refine ar_off rfl (ar_off rfl ?_)
   exact key
 refine hK1 _ _ ?_; clear hK1 K1
 refine awp_cond rfl rfl (fun h2 => ?_) (fun h2 => ?_)
 ·
  replace h2 : (60 < (depV v : Int)) ∨ (6 < hgtF (depV v + 1) v) := ((borT h2).imp (fun q => (of_decide_eq_true q)) (fun q => (of_decide_eq_true q)))
  refine awp_reg2_seq [] [2] (by decide) ?_
  intro K1 hK1
  refine ⟨trivial, ?_⟩
  show K1 [(2, .int .i64 2)] (AMem.wth m [(b1, .cells [.int .i64 v.kind, .int .i64 v.n, .str v.s, .slice false (v.l.map valIn), .slice false (v.f.map fldIn)])])
  refine hK1 _ _ ?_; clear hK1 K1
  refine awp_ret ?_
  refine ⟨trivial, m, (wth_sub2 (m := m) [(b1, .cells [.int .i64 v.kind, .int .i64 v.n, .str v.s, .slice false (v.l.map valIn), .slice false (v.f.map fldIn)])] [] hNb1 (by simp only [List.map_cons, List.map_nil, List.forall_mem_cons]; exact ⟨hFb1, fun _ h => by cases h⟩)), ?_⟩
  show K (.int .i64 2) m
 
  have e0 : chk v = (2 : Int) := by
   first | exact chk_R1 (by assumption) | exact chk_R2 (by assumption) (by assumption) | exact chk_R3 (by assumption) (by assumption)
  rw [e0] at hK
  exact hK
 replace h2 : ((depV v : Int) ≤ 60) ∧ (hgtF (depV v + 1) v ≤ 6) := ⟨(Int.not_lt.1 (of_decide_eq_false (borL h2))), (Int.not_lt.1 (of_decide_eq_false (borR h2)))⟩
 refine awp_skip ?_
 refine hK2 _ _ ?_; clear hK2
 refine awp_reg2_seq [] [5] (by decide) ?_
 intro K1 hK1
 refine ar_loadp rfl (v := .agg [.int .i64 v.kind, .int .i64 v.n, .str v.s, .slice false (v.l.map valIn), .slice false (v.f.map fldIn)]) rfl (wth_get 0 hNb1 rfl) rfl (apartOk_agg rfl rfl (Nat.le_of_ble_eq_true rfl)) rfl ?_
 refine u_shapedR (depV v + 1) v (Nat.lt_succ_self _) _ _ ?_
 refine ⟨trivial, ?_⟩
 show K1 [(5, .bool (shpF (depV v + 1) v))] (AMem.wth m [(b1, .cells [.int .i64 v.kind, .int .i64 v.n, .str v.s, .slice false (v.l.map valIn), .slice false (v.f.map fldIn)])])
 refine hK1 _ _ ?_; clear hK1 K1
 refine awp_seq_k ?_; intro K3 hK3
 refine awp_reg2_seq [] [20] (by decide) ?_
 intro K1 hK1
 refine ⟨trivial, trivial, ?_⟩
 show K1 [(20, .bool (!(shpF (depV v + 1) v)))] (AMem.wth m [(b1, .cells [.int .i64 v.kind, .int .i64 v.n, .str v.s, .slice false (v.l.map valIn), .slice false (v.f.map fldIn)])])
 refine hK1 _ _ ?_; clear hK1 K1
 refine awp_cond rfl rfl (fun h3 => ?_) (fun h3 => ?_)
 ·
  replace h3 : shpF (depV v + 1) v = false := (bnT h3)
  refine awp_reg2_seq [] [2] (by decide) ?_
  intro K1 hK1
  refine ⟨trivial, ?_⟩
  show K1 [(2, .int .i64 3)] (AMem.wth m [(b1, .cells [.int .i64 v.kind, .int .i64 v.n, .str v.s, .slice false (v.l.map valIn), .slice false (v.f.map fldIn)])])
  refine hK1 _ _ ?_; clear hK1 K1
  refine awp_ret ?_
  refine ⟨trivial, m, (wth_sub2 (m := m) [(b1, .cells [.int .i64 v.kind, .int .i64 v.n, .str v.s, .slice false (v.l.map valIn), .slice false (v.f.map fldIn)])] [] hNb1 (by simp only [List.map_cons, List.map_nil, List.forall_mem_cons]; exact ⟨hFb1, fun _ h => by cases h⟩)), ?_⟩
  show K (.int .i64 3) m
 
  have e0 : chk v = (3 : Int) := by
   first | exact chk_R1 (by assumption) | exact chk_R2 (by assumption) (by assumption) | exact chk_R3 (by assumption) (by assumption)
  rw [e0] at hK
  exact hK
 replace h3 : shpF (depV v + 1) v = true := (bnF h3)
 refine awp_skip ?_
 refine hK3 _ _ ?_; clear hK3
 refine awp_reg2_seq [] [2] (by decide) ?_
 intro K1 hK1
 refine ⟨trivial, ?_⟩
 show K1 [(2, .int .i64 0)] (AMem.wth m [(b1, .cells [.int .i64 v.kind, .int .i64 v.n, .str v.s, .slice false (v.l.map valIn), .slice false (v.f.map fldIn)])])
 refine hK1 _ _ ?_; clear hK1 K1
 refine awp_ret ?_
 refine ⟨trivial, m, (wth_sub2 (m := m) [(b1, .cells [.int .i64 v.kind, .int .i64 v.n, .str v.s, .slice false (v.l.map valIn), .slice false (v.f.map fldIn)])] [] hNb1 (by simp only [List.map_cons, List.map_nil, List.forall_mem_cons]; exact ⟨hFb1, fun _ h => by cases h⟩)), ?_⟩
 show K (.int .i64 0) m

 have e0 : chk v = (0 : Int) := by
  first | exact chk_R1 (by assumption) | exact chk_R2 (by assumption) (by assumption) | exact chk_R3 (by assumption) (by assumption)
 rw [e0] at hK
 exact hK

set_option maxHeartbeats 2000000 in
theorem u_attrsFault (v : Val) (hB : depV v ≤ 1000000000000) (m : AMem)  (K : AV → AMem → Prop) (hK : K (.int .i64 (attrE v)) m) : ACalls Try.prog 83 [valTop v] m K := by
 refine acalls_enter Try.func83 rfl (by decide) (Nat.le_of_ble_eq_true rfl) ?_
 show AWP _ _ _ _ [(0, valTop v)] m
 refine awp_reg2_seq [] [1] (by decide) ?_
 intro K1 hK1
 refine ar_box rfl (m := m) (L := []) (v := valTop v) (by rfl) rfl ?_
 intro b1 hb1
 have hFb1 : m b1 = none := wth_none (m := m) (L := []) hb1
 have hNb1 : ([b1] : List Nat).Nodup := wth_nodup (m := m) (L := []) hb1 List.nodup_nil
 refine ⟨trivial, ?_⟩
 show K1 [(1, .ptr ⟨b1, 0, none⟩)] (AMem.wth m [(b1, .cells [.int .i64 v.kind, .int .i64 v.n, .str v.s, .slice false (v.l.map valIn), .slice false (v.f.map fldIn)])])
 refine hK1 _ _ ?_; clear hK1 K1
 refine awp_seq_k ?_; intro K2 hK2
 refine awp_reg2_seq [] [1, 5] (by decide) ?_
 intro K1 hK1
 refine ⟨⟨rfl, by decide⟩, ?_⟩
 refine ar_loadp rfl (v := .int .i64 v.kind) rfl (wth_get 0 hNb1 rfl) rfl (apartOk_one rfl rfl (Nat.le_of_ble_eq_true rfl)) rfl ?_
 refine ⟨trivial, ?_⟩
 show K1 [(1, .ptr ⟨b1, 0, none⟩), (5, .bool (!(v.kind == 5)))] (AMem.wth m [(b1, .cells [.int .i64 v.kind, .int .i64 v.n, .str v.s, .slice false (v.l.map valIn), .slice false (v.f.map fldIn)])])
 refine hK1 _ _ ?_; clear hK1 K1
 refine awp_cond rfl rfl (fun h1 => ?_) (fun h1 => ?_)
 ·
  replace h1 : v.kind ≠ 5 := (ne_of_beq_false (bnT h1))
  refine awp_reg2_seq [] [2] (by decide) ?_
  intro K1 hK1
  refine ⟨trivial, ?_⟩
  show K1 [(2, .int .i64 9)] (AMem.wth m [(b1, .cells [.int .i64 v.kind, .int .i64 v.n, .str v.s, .slice false (v.l.map valIn), .slice false (v.f.map fldIn)])])
  refine hK1 _ _ ?_; clear hK1 K1
  refine awp_ret ?_
  refine ⟨trivial, m, (wth_sub2 (m := m) [(b1, .cells [.int .i64 v.kind, .int .i64 v.n, .str v.s, .slice false (v.l.map valIn), .slice false (v.f.map fldIn)])] [] hNb1 (by simp only [List.map_cons, List.map_nil, List.forall_mem_cons]; exact ⟨hFb1, fun _ h => by cases h⟩)), ?_⟩
  show K (.int .i64 9) m
 
  have e0 : attrE v = (9 : Int) := by
   first | (rw [attrE, if_neg (by assumption)]; done) | (rw [attrE, if_pos (by assumption)]; done)
  rw [e0] at hK
  exact hK
 replace h1 : v.kind = 5 := (eq_of_beq (bnF h1))
 refine awp_skip ?_
 refine hK2 _ _ ?_; clear hK2
 refine awp_reg2_seq [] [2] (by decide) ?_
 intro K1 hK1
 refine ar_loadp rfl (v := .agg [.int .i64 v.kind, .int .i64 v.n, .str v.s, .slice false (v.l.map valIn), .slice false (v.f.map fldIn)]) rfl (wth_get 0 hNb1 rfl) rfl (apartOk_agg rfl rfl (Nat.le_of_ble_eq_true rfl)) rfl ?_
 refine u_Fault v hB _ _ ?_
 refine ⟨trivial, ?_⟩
 show K1 [(2, .int .i64 (chk v))] (AMem.wth m [(b1, .cells [.int .i64 v.kind, .int .i64 v.n, .str v.s, .slice false (v.l.map valIn), .slice false (v.f.map fldIn)])])
 refine hK1 _ _ ?_; clear hK1 K1
 refine awp_ret ?_
 refine ⟨trivial, m, (wth_sub2 (m := m) [(b1, .cells [.int .i64 v.kind, .int .i64 v.n, .str v.s, .slice false (v.l.map valIn), .slice false (v.f.map fldIn)])] [] hNb1 (by simp only [List.map_cons, List.map_nil, List.forall_mem_cons]; exact ⟨hFb1, fun _ h => by cases h⟩)), ?_⟩
 show K (.int .i64 (chk v)) m

 have e0 : attrE v = (chk v : Int) := by
  first | (rw [attrE, if_neg (by assumption)]; done) | (rw [attrE, if_pos (by assumption)]; done)
 rw [e0] at hK
 exact hK

set_option maxHeartbeats 4000000 in
theorem u_CRead (x d tb ob fb kb nb : Nat) (c : ClSt) (s : DSt) (id : Int) (hN : [x, d, tb].Nodup) (hids : ∀ p ∈ c.things, chk p.2.v = 0) (m : AMem)  (K : AV → AMem → Prop) (hK : K (.tuple [thgAV (readC c s id).1, .err 108 (readC c s id).2]) (AMem.wth m [(x, cObj d tb ob fb c), (d, dObj kb nb s), (tb, tObj c.things)])) : ACalls Try.prog 52 [.ptr ⟨x, 0, none⟩, .int .i64 id] (AMem.wth m [(x, cObj d tb ob fb c), (d, .cells [.map kb, .map nb, .slice true (s.wait.map chgAV), .int .i64 s.fuse, .bool s.down, .int .i64 s.steps]), (tb, tObj c.things)]) K := by
 refine acalls_enter Try.func52 rfl (by decide) (Nat.le_of_ble_eq_true rfl) ?_
 show AWP _ _ _ _ [(0, .ptr ⟨x, 0, none⟩), (1, .int .i64 id)] (AMem.wth m [(x, cObj d tb ob fb c), (d, .cells [.map kb, .map nb, .slice true (s.wait.map chgAV), .int .i64 s.fuse, .bool s.down, .int .i64 s.steps]), (tb, tObj c.things)])
 refine awp_reg2_seq [] [0, 1, 4] (by decide) ?_
 intro K1 hK1
 refine ar_alloc rfl (z := .agg [.int .i64 0, .str ([]), .int .i64 0, .int .i64 0, .str ([]), .slice true [], .slice true []]) rfl rfl ?_
 intro b1 hb1
 have hFb1 : m b1 = none := wth_none hb1
 have hNb1 : ([b1, x, d, tb] : List Nat).Nodup := wth_nodup hb1 hN
 refine ⟨trivial, ?_⟩
 show K1 [(0, .ptr ⟨x, 0, none⟩), (1, .int .i64 id), (4, .ptr ⟨b1, 0, none⟩)] (AMem.wth m [(b1, .cells [.int .i64 0, .str ([]), .int .i64 0, .int .i64 0, .str ([]), .slice true [], .slice true []]), (x, cObj d tb ob fb c), (d, .cells [.map kb, .map nb, .slice true (s.wait.map chgAV), .int .i64 s.fuse, .bool s.down, .int .i64 s.steps]), (tb, tObj c.things)])
 refine hK1 _ _ ?_; clear hK1 K1
 refine awp_seq_k ?_; intro K2 hK2
 refine awp_reg2_seq [] [0, 1, 4, 12] (by decide) ?_
 intro K1 hK1
 refine ⟨trivial, trivial, ⟨rfl, by decide⟩, ?_⟩
 refine ar_loadp rfl (v := .ptr ⟨d, 0, none⟩) rfl (wth_get 1 hNb1 rfl) rfl (apartOk_one rfl rfl (Nat.le_of_ble_eq_true rfl)) rfl ?_
 refine ar_mem (wth_split hNb1 (pick_perm [2] _)) ?_
 refine u_Down d kb nb s _ _ ?_
 show aopsR _ _ _ _ _ _ (AMem.wth (AMem.wth m [(b1, .cells [.int .i64 0, .str ([]), .int .i64 0, .int .i64 0, .str ([]), .slice true [], .slice true []]), (x, cObj d tb ob fb c), (tb, tObj c.things)]) [(d, .cells [.map kb, .map nb, .slice true (s.wait.map chgAV), .int .i64 s.fuse, .bool s.down, .int .i64 s.steps])])
 refine ar_mem (wth_split (m := m) (L := [(b1, .cells [.int .i64 0, .str ([]), .int .i64 0, .int .i64 0, .str ([]), .slice true [], .slice true []]), (x, cObj d tb ob fb c), (d, .cells [.map kb, .map nb, .slice true (s.wait.map chgAV), .int .i64 s.fuse, .bool s.down, .int .i64 s.steps]), (tb, tObj c.things)]) hNb1 (pick_perm [2] _)).symm ?_
 show K1 [(0, .ptr ⟨x, 0, none⟩), (1, .int .i64 id), (4, .ptr ⟨b1, 0, none⟩), (12, .bool s.down)] (AMem.wth m [(b1, .cells [.int .i64 0, .str ([]), .int .i64 0, .int .i64 0, .str ([]), .slice true [], .slice true []]), (x, cObj d tb ob fb c), (d, .cells [.map kb, .map nb, .slice true (s.wait.map chgAV), .int .i64 s.fuse, .bool s.down, .int .i64 s.steps]), (tb, tObj c.things)])
 refine hK1 _ _ ?_; clear hK1 K1
 refine awp_cond rfl rfl (fun h1 => ?_) (fun h1 => ?_)
 ·
  replace h1 : s.down = true := h1
  refine awp_reg2_seq [] [4, 5] (by decide) ?_
  intro K1 hK1
  refine ⟨⟨rfl, by simp only [List.forall_mem_cons]; exact ⟨rfl, rfl, rfl, fun _ h => by cases h⟩, fun _ h => by cases h⟩, trivial, ?_⟩
  refine ar_storep rfl 0 (v := .agg [.int .i64 0, .str ([]), .int .i64 0, .int .i64 0, .str ([]), .slice true [], .slice true []]) (l' := [.int .i64 0, .str ([]), .int .i64 0, .int .i64 0, .str ([]), .slice true [], .slice true []]) rfl rfl hNb1 rfl rfl rfl rfl rfl (Nat.le_of_ble_eq_true rfl) rfl ?_
  refine ⟨trivial, ?_⟩
  show K1 [(4, .ptr ⟨b1, 0, none⟩), (5, .iface 108 (.int .i64 10))] (AMem.wth m [(b1, .cells [.int .i64 0, .str ([]), .int .i64 0, .int .i64 0, .str ([]), .slice true [], .slice true []]), (x, cObj d tb ob fb c), (d, .cells [.map kb, .map nb, .slice true (s.wait.map chgAV), .int .i64 s.fuse, .bool s.down, .int .i64 s.steps]), (tb, tObj c.things)])
  refine hK1 _ _ ?_; clear hK1 K1
  refine awp_toErr 108 [5] ?_
  show AWP _ _ _ _ [(4, .ptr ⟨b1, 0, none⟩), (5, .err 108 10)] (AMem.wth m [(b1, .cells [.int .i64 0, .str ([]), .int .i64 0, .int .i64 0, .str ([]), .slice true [], .slice true []]), (x, cObj d tb ob fb c), (d, .cells [.map kb, .map nb, .slice true (s.wait.map chgAV), .int .i64 s.fuse, .bool s.down, .int .i64 s.steps]), (tb, tObj c.things)])
  refine awp_ret ?_
  refine resK_cell2 (fn := Try.f52) (a := 4) (t := 80) (s := 5) (b := b1) (off := 0) rfl rfl (wth_get  (m := m) (L := [(b1, .cells [.int .i64 0, .str ([]), .int .i64 0, .int .i64 0, .str ([]), .slice true [], .slice true []]), (x, cObj d tb ob fb c), (d, .cells [.map kb, .map nb, .slice true (s.wait.map chgAV), .int .i64 s.fuse, .bool s.down, .int .i64 s.steps]), (tb, tObj c.things)]) 0 hNb1 rfl) (apartOk_agg rfl rfl (Nat.le_of_ble_eq_true rfl)) (.agg [.int .i64 0, .str ([]), .int .i64 0, .int .i64 0, .str ([]), .slice false [], .slice false []]) (.err 108 10) rfl rfl (.err 108 10) rfl (AMem.wth m [(x, cObj d tb ob fb c), (d, .cells [.map kb, .map nb, .slice true (s.wait.map chgAV), .int .i64 s.fuse, .bool s.down, .int .i64 s.steps]), (tb, tObj c.things)]) ((wth_sub2 (m := m) [(b1, .cells [.int .i64 0, .str ([]), .int .i64 0, .int .i64 0, .str ([]), .slice true [], .slice true []])] [(x, cObj d tb ob fb c), (d, .cells [.map kb, .map nb, .slice true (s.wait.map chgAV), .int .i64 s.fuse, .bool s.down, .int .i64 s.steps]), (tb, tObj c.things)] hNb1 (by simp only [List.map_cons, List.map_nil, List.forall_mem_cons]; exact ⟨hFb1, fun _ h => by cases h⟩))) ?_
  show K (.tuple [.agg [.int .i64 0, .str ([]), .int .i64 0, .int .i64 0, .str ([]), .slice false [], .slice false []], .err 108 10]) (AMem.wth m [(x, cObj d tb ob fb c), (d, .cells [.map kb, .map nb, .slice true (s.wait.map chgAV), .int .i64 s.fuse, .bool s.down, .int .i64 s.steps]), (tb, tObj c.things)])
 
  have e0 : readC c s id = (((⟨0, [], (⟨0, 0, [], [], []⟩ : Val)⟩ : Thg), 10) : Thg × Int) := by
   first | (rw [readC, if_pos (by assumption)]; done) | (rw [readC, if_pos (by assumption)]; rfl) | (rw [readC, if_neg (by simp_all), if_pos (by assumption)]; done) | (rw [readC, if_neg (by simp_all), if_neg (by simp_all)]; done) | (rw [readC, if_neg (by simp_all), if_pos (by assumption)]; rfl) | (rw [readC, if_neg (by simp_all), if_neg (by simp_all)]; rfl)
  rw [e0] at hK
  exact hK
 replace h1 : s.down = false := h1
 refine awp_skip ?_
 refine hK2 _ _ ?_; clear hK2
 refine awp_reg2_seq [] [4, 6, 7] (by decide) ?_
 intro K1 hK1
 refine ⟨trivial, trivial, ⟨rfl, by decide⟩, ?_⟩
 refine ar_loadp rfl (v := .map tb) rfl (wth_get 1 hNb1 rfl) rfl (apartOk_one rfl rfl (Nat.le_of_ble_eq_true rfl)) rfl ?_
 refine ⟨trivial, ?_⟩
 refine ar_lookupOkP rfl (m := m) (L := [(b1, .cells [.int .i64 0, .str ([]), .int .i64 0, .int .i64 0, .str ([]), .slice true [], .slice true []]), (x, cObj d tb ob fb c), (d, .cells [.map kb, .map nb, .slice true (s.wait.map chgAV), .int .i64 s.fuse, .bool s.down, .int .i64 s.steps]), (tb, tObj c.things)]) intAV thgAV intKey_ok c.things id zT rfl rfl rfl rfl rfl rfl (wth_get 3 hNb1 rfl) rfl ?_
 refine ⟨trivial, (Nat.le_of_ble_eq_true rfl), (Nat.le_of_ble_eq_true rfl), ?_⟩
 refine ar_alloc rfl (z := .agg [.int .i64 0, .str ([]), .int .i64 0, .int .i64 0, .str ([]), .slice true [], .slice true []]) rfl rfl ?_
 intro b2 hb2
 have hFb2 : m b2 = none := wth_none hb2
 have hNb2 : ([b2, b1, x, d, tb] : List Nat).Nodup := wth_nodup hb2 hNb1
 refine ar_storep rfl 0 (v := thgAV ((mget c.things id).getD zT)) (l' := [.int .i64 (((mget c.things id).getD zT).id), .str (((mget c.things id).getD zT).kind), .int .i64 ((((mget c.things id).getD zT).v).kind), .int .i64 ((((mget c.things id).getD zT).v).n), .str ((((mget c.things id).getD zT).v).s), .slice false (((((mget c.things id).getD zT).v).l).map valIn), .slice false (((((mget c.things id).getD zT).v).f).map fldIn)]) rfl (by rfl) hNb2 rfl rfl rfl rfl rfl (Nat.le_of_ble_eq_true rfl) rfl ?_
 refine ⟨trivial, ?_⟩
 show K1 [(4, .ptr ⟨b1, 0, none⟩), (6, .ptr ⟨b2, 0, none⟩), (7, .bool ((mget c.things id).isSome))] (AMem.wth m [(b2, .cells [.int .i64 (((mget c.things id).getD zT).id), .str (((mget c.things id).getD zT).kind), .int .i64 ((((mget c.things id).getD zT).v).kind), .int .i64 ((((mget c.things id).getD zT).v).n), .str ((((mget c.things id).getD zT).v).s), .slice false (((((mget c.things id).getD zT).v).l).map valIn), .slice false (((((mget c.things id).getD zT).v).f).map fldIn)]), (b1, .cells [.int .i64 0, .str ([]), .int .i64 0, .int .i64 0, .str ([]), .slice true [], .slice true []]), (x, cObj d tb ob fb c), (d, .cells [.map kb, .map nb, .slice true (s.wait.map chgAV), .int .i64 s.fuse, .bool s.down, .int .i64 s.steps]), (tb, tObj c.things)])
 refine hK1 _ _ ?_; clear hK1 K1
 refine awp_seq_k ?_; intro K3 hK3
 refine awp_reg2_seq [] [4, 6, 25] (by decide) ?_
 intro K1 hK1
 refine ⟨trivial, trivial, ?_⟩
 show K1 [(4, .ptr ⟨b1, 0, none⟩), (6, .ptr ⟨b2, 0, none⟩), (25, .bool (!((mget c.things id).isSome)))] (AMem.wth m [(b2, .cells [.int .i64 (((mget c.things id).getD zT).id), .str (((mget c.things id).getD zT).kind), .int .i64 ((((mget c.things id).getD zT).v).kind), .int .i64 ((((mget c.things id).getD zT).v).n), .str ((((mget c.things id).getD zT).v).s), .slice false (((((mget c.things id).getD zT).v).l).map valIn), .slice false (((((mget c.things id).getD zT).v).f).map fldIn)]), (b1, .cells [.int .i64 0, .str ([]), .int .i64 0, .int .i64 0, .str ([]), .slice true [], .slice true []]), (x, cObj d tb ob fb c), (d, .cells [.map kb, .map nb, .slice true (s.wait.map chgAV), .int .i64 s.fuse, .bool s.down, .int .i64 s.steps]), (tb, tObj c.things)])
 refine hK1 _ _ ?_; clear hK1 K1
 refine awp_cond rfl rfl (fun h2 => ?_) (fun h2 => ?_)
 ·
  replace h2 : (mget c.things id).isSome = false := (bnT h2)
  refine awp_reg2_seq [] [4, 5] (by decide) ?_
  intro K1 hK1
  refine ⟨⟨rfl, by simp only [List.forall_mem_cons]; exact ⟨rfl, rfl, rfl, fun _ h => by cases h⟩, fun _ h => by cases h⟩, trivial, ?_⟩
  refine ar_storep rfl 1 (v := .agg [.int .i64 0, .str ([]), .int .i64 0, .int .i64 0, .str ([]), .slice true [], .slice true []]) (l' := [.int .i64 0, .str ([]), .int .i64 0, .int .i64 0, .str ([]), .slice true [], .slice true []]) rfl rfl hNb2 rfl rfl rfl rfl rfl (Nat.le_of_ble_eq_true rfl) rfl ?_
  refine ⟨trivial, ?_⟩
  show K1 [(4, .ptr ⟨b1, 0, none⟩), (5, .iface 108 (.int .i64 7))] (AMem.wth m [(b2, .cells [.int .i64 (((mget c.things id).getD zT).id), .str (((mget c.things id).getD zT).kind), .int .i64 ((((mget c.things id).getD zT).v).kind), .int .i64 ((((mget c.things id).getD zT).v).n), .str ((((mget c.things id).getD zT).v).s), .slice false (((((mget c.things id).getD zT).v).l).map valIn), .slice false (((((mget c.things id).getD zT).v).f).map fldIn)]), (b1, .cells [.int .i64 0, .str ([]), .int .i64 0, .int .i64 0, .str ([]), .slice true [], .slice true []]), (x, cObj d tb ob fb c), (d, .cells [.map kb, .map nb, .slice true (s.wait.map chgAV), .int .i64 s.fuse, .bool s.down, .int .i64 s.steps]), (tb, tObj c.things)])
  refine hK1 _ _ ?_; clear hK1 K1
  refine awp_toErr 108 [5] ?_
  show AWP _ _ _ _ [(4, .ptr ⟨b1, 0, none⟩), (5, .err 108 7)] (AMem.wth m [(b2, .cells [.int .i64 (((mget c.things id).getD zT).id), .str (((mget c.things id).getD zT).kind), .int .i64 ((((mget c.things id).getD zT).v).kind), .int .i64 ((((mget c.things id).getD zT).v).n), .str ((((mget c.things id).getD zT).v).s), .slice false (((((mget c.things id).getD zT).v).l).map valIn), .slice false (((((mget c.things id).getD zT).v).f).map fldIn)]), (b1, .cells [.int .i64 0, .str ([]), .int .i64 0, .int .i64 0, .str ([]), .slice true [], .slice true []]), (x, cObj d tb ob fb c), (d, .cells [.map kb, .map nb, .slice true (s.wait.map chgAV), .int .i64 s.fuse, .bool s.down, .int .i64 s.steps]), (tb, tObj c.things)])
  refine awp_ret ?_
  refine resK_cell2 (fn := Try.f52) (a := 4) (t := 80) (s := 5) (b := b1) (off := 0) rfl rfl (wth_get  (m := m) (L := [(b2, .cells [.int .i64 (((mget c.things id).getD zT).id), .str (((mget c.things id).getD zT).kind), .int .i64 ((((mget c.things id).getD zT).v).kind), .int .i64 ((((mget c.things id).getD zT).v).n), .str ((((mget c.things id).getD zT).v).s), .slice false (((((mget c.things id).getD zT).v).l).map valIn), .slice false (((((mget c.things id).getD zT).v).f).map fldIn)]), (b1, .cells [.int .i64 0, .str ([]), .int .i64 0, .int .i64 0, .str ([]), .slice true [], .slice true []]), (x, cObj d tb ob fb c), (d, .cells [.map kb, .map nb, .slice true (s.wait.map chgAV), .int .i64 s.fuse, .bool s.down, .int .i64 s.steps]), (tb, tObj c.things)]) 1 hNb2 rfl) (apartOk_agg rfl rfl (Nat.le_of_ble_eq_true rfl)) (.agg [.int .i64 0, .str ([]), .int .i64 0, .int .i64 0, .str ([]), .slice false [], .slice false []]) (.err 108 7) rfl rfl (.err 108 7) rfl (AMem.wth m [(x, cObj d tb ob fb c), (d, .cells [.map kb, .map nb, .slice true (s.wait.map chgAV), .int .i64 s.fuse, .bool s.down, .int .i64 s.steps]), (tb, tObj c.things)]) ((wth_sub2 (m := m) [(b2, .cells [.int .i64 (((mget c.things id).getD zT).id), .str (((mget c.things id).getD zT).kind), .int .i64 ((((mget c.things id).getD zT).v).kind), .int .i64 ((((mget c.things id).getD zT).v).n), .str ((((mget c.things id).getD zT).v).s), .slice false (((((mget c.things id).getD zT).v).l).map valIn), .slice false (((((mget c.things id).getD zT).v).f).map fldIn)]), (b1, .cells [.int .i64 0, .str ([]), .int .i64 0, .int .i64 0, .str ([]), .slice true [], .slice true []])] [(x, cObj d tb ob fb c), (d, .cells [.map kb, .map nb, .slice true (s.wait.map chgAV), .int .i64 s.fuse, .bool s.down, .int .i64 s.steps]), (tb, tObj c.things)] hNb2 (by simp only [List.map_cons, List.map_nil, List.forall_mem_cons]; exact ⟨hFb2, hFb1, fun _ h => by cases h⟩))) ?_
  show K (.tuple [.agg [.int .i64 0, .str ([]), .int .i64 0, .int .i64 0, .str ([]), .slice false [], .slice false []], .err 108 7]) (AMem.wth m [(x, cObj d tb ob fb c), (d, .cells [.map kb, .map nb, .slice true (s.wait.map chgAV), .int .i64 s.fuse, .bool s.down, .int .i64 s.steps]), (tb, tObj c.things)])
 
  have e0 : readC c s id = (((⟨0, [], (⟨0, 0, [], [], []⟩ : Val)⟩ : Thg), 7) : Thg × Int) := by
   first | (rw [readC, if_pos (by assumption)]; done) | (rw [readC, if_pos (by assumption)]; rfl) | (rw [readC, if_neg (by simp_all), if_pos (by assumption)]; done) | (rw [readC, if_neg (by simp_all), if_neg (by simp_all)]; done) | (rw [readC, if_neg (by simp_all), if_pos (by assumption)]; rfl) | (rw [readC, if_neg (by simp_all), if_neg (by simp_all)]; rfl)
  rw [e0] at hK
  exact hK
 replace h2 : (mget c.things id).isSome = true := (bnF h2)
 refine awp_skip ?_
 refine hK3 _ _ ?_; clear hK3
 refine awp_reg2_seq [] [4, 6] (by decide) ?_
 intro K1 hK1
 refine ⟨⟨rfl, by decide⟩, ?_⟩
 refine ar_loadp rfl (v := .agg [.int .i64 ((((mget c.things id).getD zT).v).kind), .int .i64 ((((mget c.things id).getD zT).v).n), .str ((((mget c.things id).getD zT).v).s), .slice false (((((mget c.things id).getD zT).v).l).map valIn), .slice false (((((mget c.things id).getD zT).v).f).map fldIn)]) rfl (wth_get 0 hNb2 rfl) rfl (apartOk_agg rfl rfl (Nat.le_of_ble_eq_true rfl)) rfl ?_
 refine u_Copy (((mget c.things id).getD zT).v) (by first | exact okV_get hids (by assumption) | exact chk_okV (attrE_0 (by first | assumption | exact (by assumption : _ ∧ _).2))) _ _ ?_
 refine ⟨⟨rfl, by decide⟩, ?_⟩
 refine ar_storep rfl 0 (v := valTop (((mget c.things id).getD zT).v)) (l' := [.int .i64 (((mget c.things id).getD zT).id), .str (((mget c.things id).getD zT).kind), .int .i64 ((((mget c.things id).getD zT).v).kind), .int .i64 ((((mget c.things id).getD zT).v).n), .str ((((mget c.things id).getD zT).v).s), .slice false (((((mget c.things id).getD zT).v).l).map valIn), .slice false (((((mget c.things id).getD zT).v).f).map fldIn)]) rfl (by rfl) hNb2 rfl rfl rfl rfl rfl (Nat.le_of_ble_eq_true rfl) rfl ?_
 show K1 [(4, .ptr ⟨b1, 0, none⟩), (6, .ptr ⟨b2, 0, none⟩)] (AMem.wth m [(b2, .cells [.int .i64 (((mget c.things id).getD zT).id), .str (((mget c.things id).getD zT).kind), .int .i64 ((((mget c.things id).getD zT).v).kind), .int .i64 ((((mget c.things id).getD zT).v).n), .str ((((mget c.things id).getD zT).v).s), .slice false (((((mget c.things id).getD zT).v).l).map valIn), .slice false (((((mget c.things id).getD zT).v).f).map fldIn)]), (b1, .cells [.int .i64 0, .str ([]), .int .i64 0, .int .i64 0, .str ([]), .slice true [], .slice true []]), (x, cObj d tb ob fb c), (d, .cells [.map kb, .map nb, .slice true (s.wait.map chgAV), .int .i64 s.fuse, .bool s.down, .int .i64 s.steps]), (tb, tObj c.things)])
 refine hK1 _ _ ?_; clear hK1 K1
 refine awp_reg2_seq [] [4, 5] (by decide) ?_
 intro K1 hK1
 refine ar_loadp rfl (v := .agg [.int .i64 (((mget c.things id).getD zT).id), .str (((mget c.things id).getD zT).kind), .int .i64 ((((mget c.things id).getD zT).v).kind), .int .i64 ((((mget c.things id).getD zT).v).n), .str ((((mget c.things id).getD zT).v).s), .slice false (((((mget c.things id).getD zT).v).l).map valIn), .slice false (((((mget c.things id).getD zT).v).f).map fldIn)]) rfl (wth_get 0 hNb2 rfl) rfl (apartOk_agg rfl rfl (Nat.le_of_ble_eq_true rfl)) rfl ?_
 refine ar_storep rfl 1 (v := .agg [.int .i64 (((mget c.things id).getD zT).id), .str (((mget c.things id).getD zT).kind), .int .i64 ((((mget c.things id).getD zT).v).kind), .int .i64 ((((mget c.things id).getD zT).v).n), .str ((((mget c.things id).getD zT).v).s), .slice false (((((mget c.things id).getD zT).v).l).map valIn), .slice false (((((mget c.things id).getD zT).v).f).map fldIn)]) (l' := [.int .i64 (((mget c.things id).getD zT).id), .str (((mget c.things id).getD zT).kind), .int .i64 ((((mget c.things id).getD zT).v).kind), .int .i64 ((((mget c.things id).getD zT).v).n), .str ((((mget c.things id).getD zT).v).s), .slice false (((((mget c.things id).getD zT).v).l).map valIn), .slice false (((((mget c.things id).getD zT).v).f).map fldIn)]) rfl rfl hNb2 rfl rfl rfl rfl rfl (Nat.le_of_ble_eq_true rfl) rfl ?_
 refine ⟨trivial, ?_⟩
 show K1 [(4, .ptr ⟨b1, 0, none⟩), (5, .nilIface)] (AMem.wth m [(b2, .cells [.int .i64 (((mget c.things id).getD zT).id), .str (((mget c.things id).getD zT).kind), .int .i64 ((((mget c.things id).getD zT).v).kind), .int .i64 ((((mget c.things id).getD zT).v).n), .str ((((mget c.things id).getD zT).v).s), .slice false (((((mget c.things id).getD zT).v).l).map valIn), .slice false (((((mget c.things id).getD zT).v).f).map fldIn)]), (b1, .cells [.int .i64 (((mget c.things id).getD zT).id), .str (((mget c.things id).getD zT).kind), .int .i64 ((((mget c.things id).getD zT).v).kind), .int .i64 ((((mget c.things id).getD zT).v).n), .str ((((mget c.things id).getD zT).v).s), .slice false (((((mget c.things id).getD zT).v).l).map valIn), .slice false (((((mget c.things id).getD zT).v).f).map fldIn)]), (x, cObj d tb ob fb c), (d, .cells [.map kb, .map nb, .slice true (s.wait.map chgAV), .int .i64 s.fuse, .bool s.down, .int .i64 s.steps]), (tb, tObj c.things)])
 refine hK1 _ _ ?_; clear hK1 K1
 refine awp_toErr 108 [5] ?_
 show AWP _ _ _ _ [(4, .ptr ⟨b1, 0, none⟩), (5, .err 108 0)] (AMem.wth m [(b2, .cells [.int .i64 (((mget c.things id).getD zT).id), .str (((mget c.things id).getD zT).kind), .int .i64 ((((mget c.things id).getD zT).v).kind), .int .i64 ((((mget c.things id).getD zT).v).n), .str ((((mget c.things id).getD zT).v).s), .slice false (((((mget c.things id).getD zT).v).l).map valIn), .slice false (((((mget c.things id).getD zT).v).f).map fldIn)]), (b1, .cells [.int .i64 (((mget c.things id).getD zT).id), .str (((mget c.things id).getD zT).kind), .int .i64 ((((mget c.things id).getD zT).v).kind), .int .i64 ((((mget c.things id).getD zT).v).n), .str ((((mget c.things id).getD zT).v).s), .slice false (((((mget c.things id).getD zT).v).l).map valIn), .slice false (((((mget c.things id).getD zT).v).f).map fldIn)]), (x, cObj d tb ob fb c), (d, .cells [.map kb, .map nb, .slice true (s.wait.map chgAV), .int .i64 s.fuse, .bool s.down, .int .i64 s.steps]), (tb, tObj c.things)])
 refine awp_ret ?_
 refine resK_cell2 (fn := Try.f52) (a := 4) (t := 80) (s := 5) (b := b1) (off := 0) rfl rfl (wth_get  (m := m) (L := [(b2, .cells [.int .i64 (((mget c.things id).getD zT).id), .str (((mget c.things id).getD zT).kind), .int .i64 ((((mget c.things id).getD zT).v).kind), .int .i64 ((((mget c.things id).getD zT).v).n), .str ((((mget c.things id).getD zT).v).s), .slice false (((((mget c.things id).getD zT).v).l).map valIn), .slice false (((((mget c.things id).getD zT).v).f).map fldIn)]), (b1, .cells [.int .i64 (((mget c.things id).getD zT).id), .str (((mget c.things id).getD zT).kind), .int .i64 ((((mget c.things id).getD zT).v).kind), .int .i64 ((((mget c.things id).getD zT).v).n), .str ((((mget c.things id).getD zT).v).s), .slice false (((((mget c.things id).getD zT).v).l).map valIn), .slice false (((((mget c.things id).getD zT).v).f).map fldIn)]), (x, cObj d tb ob fb c), (d, .cells [.map kb, .map nb, .slice true (s.wait.map chgAV), .int .i64 s.fuse, .bool s.down, .int .i64 s.steps]), (tb, tObj c.things)]) 1 hNb2 rfl) (apartOk_agg rfl rfl (Nat.le_of_ble_eq_true rfl)) (.agg [.int .i64 (((mget c.things id).getD zT).id), .str (((mget c.things id).getD zT).kind), .int .i64 ((((mget c.things id).getD zT).v).kind), .int .i64 ((((mget c.things id).getD zT).v).n), .str ((((mget c.things id).getD zT).v).s), .slice false (((((mget c.things id).getD zT).v).l).map valIn), .slice false (((((mget c.things id).getD zT).v).f).map fldIn)]) (.err 108 0) rfl rfl (.err 108 0) rfl (AMem.wth m [(x, cObj d tb ob fb c), (d, .cells [.map kb, .map nb, .slice true (s.wait.map chgAV), .int .i64 s.fuse, .bool s.down, .int .i64 s.steps]), (tb, tObj c.things)]) ((wth_sub2 (m := m) [(b2, .cells [.int .i64 (((mget c.things id).getD zT).id), .str (((mget c.things id).getD zT).kind), .int .i64 ((((mget c.things id).getD zT).v).kind), .int .i64 ((((mget c.things id).getD zT).v).n), .str ((((mget c.things id).getD zT).v).s), .slice false (((((mget c.things id).getD zT).v).l).map valIn), .slice false (((((mget c.things id).getD zT).v).f).map fldIn)]), (b1, .cells [.int .i64 (((mget c.things id).getD zT).id), .str (((mget c.things id).getD zT).kind), .int .i64 ((((mget c.things id).getD zT).v).kind), .int .i64 ((((mget c.things id).getD zT).v).n), .str ((((mget c.things id).getD zT).v).s), .slice false (((((mget c.things id).getD zT).v).l).map valIn), .slice false (((((mget c.things id).getD zT).v).f).map fldIn)])] [(x, cObj d tb ob fb c), (d, .cells [.map kb, .map nb, .slice true (s.wait.map chgAV), .int .i64 s.fuse, .bool s.down, .int .i64 s.steps]), (tb, tObj c.things)] hNb2 (by simp only [List.map_cons, List.map_nil, List.forall_mem_cons]; exact ⟨hFb2, hFb1, fun _ h => by cases h⟩))) ?_
 show K (.tuple [.agg [.int .i64 (((mget c.things id).getD zT).id), .str (((mget c.things id).getD zT).kind), .int .i64 ((((mget c.things id).getD zT).v).kind), .int .i64 ((((mget c.things id).getD zT).v).n), .str ((((mget c.things id).getD zT).v).s), .slice false (((((mget c.things id).getD zT).v).l).map valIn), .slice false (((((mget c.things id).getD zT).v).f).map fldIn)], .err 108 0]) (AMem.wth m [(x, cObj d tb ob fb c), (d, .cells [.map kb, .map nb, .slice true (s.wait.map chgAV), .int .i64 s.fuse, .bool s.down, .int .i64 s.steps]), (tb, tObj c.things)])

 have e0 : readC c s id = ((((mget c.things id).getD zT), 0) : Thg × Int) := by
  first | (rw [readC, if_pos (by assumption)]; done) | (rw [readC, if_pos (by assumption)]; rfl) | (rw [readC, if_neg (by simp_all), if_pos (by assumption)]; done) | (rw [readC, if_neg (by simp_all), if_neg (by simp_all)]; done) | (rw [readC, if_neg (by simp_all), if_pos (by assumption)]; rfl) | (rw [readC, if_neg (by simp_all), if_neg (by simp_all)]; rfl)
 rw [e0] at hK
 exact hK

theorem u_CLose (x d tb ob fb : Nat) (c : ClSt) (id : Int) (hN : [x, tb].Nodup) (m : AMem)  (K : AV → AMem → Prop) (hK : K (.tuple []) (AMem.wth m [(x, cObj d tb ob fb c), (tb, tObj (mdel c.things id))])) : ACalls Try.prog 55 [.ptr ⟨x, 0, none⟩, .int .i64 id] (AMem.wth m [(x, cObj d tb ob fb c), (tb, tObj c.things)]) K := by
 refine acalls_enter Try.func55 rfl (by decide) (Nat.le_of_ble_eq_true rfl) ?_
 show AWP _ _ _ _ [(0, .ptr ⟨x, 0, none⟩), (1, .int .i64 id)] (AMem.wth m [(x, cObj d tb ob fb c), (tb, tObj c.things)])
 refine awp_reg2 [] [] (by decide) ?_
 intro K1 hK1
 refine ⟨trivial, trivial, ⟨rfl, by decide⟩, ?_⟩
 refine ar_loadp rfl (v := .map tb) rfl (wth_get 0 hN rfl) rfl (apartOk_one rfl rfl (Nat.le_of_ble_eq_true rfl)) rfl ?_
 refine ⟨trivial, ?_⟩
 refine ar_delete rfl (m := m) (L := [(x, cObj d tb ob fb c), (tb, tObj c.things)]) 1 intAV thgAV intKey_ok c.things id rfl rfl rfl rfl rfl hN ?_
 show K1 [] (AMem.wth m [(x, cObj d tb ob fb c), (tb, tObj (mdel c.things id))])
 refine hK1 _ _ ?_; clear hK1 K1
 refine ⟨(AMem.wth m [(x, cObj d tb ob fb c), (tb, tObj (mdel c.things id))]), fun _ _ h => h, ?_⟩
 show K (.tuple []) (AMem.wth m [(x, cObj d tb ob fb c), (tb, tObj (mdel c.things id))])

 exact hK

theorem u_CFail (x d tb ob fb : Nat) (c : ClSt) (n : Int) (hN : [x, fb].Nodup) (hl : c.fails.length ≤ 1000000) (m : AMem)  (K : AV → AMem → Prop) (hK : K (.tuple []) (AMem.wth m [(x, cObj d tb ob fb c), (fb, fObj (mput c.fails n true))])) : ACalls Try.prog 59 [.ptr ⟨x, 0, none⟩, .int .i64 n] (AMem.wth m [(x, cObj d tb ob fb c), (fb, fObj c.fails)]) K := by
 refine acalls_enter Try.func59 rfl (by decide) (Nat.le_of_ble_eq_true rfl) ?_
 show AWP _ _ _ _ [(0, .ptr ⟨x, 0, none⟩), (1, .int .i64 n)] (AMem.wth m [(x, cObj d tb ob fb c), (fb, fObj c.fails)])
 refine awp_reg2 [] [] (by decide) ?_
 intro K1 hK1
 refine ⟨trivial, trivial, ⟨rfl, by decide⟩, ?_⟩
 refine ar_loadp rfl (v := .map fb) rfl (wth_get 0 hN rfl) rfl (apartOk_one rfl rfl (Nat.le_of_ble_eq_true rfl)) rfl ?_
 refine ⟨trivial, ?_⟩
 refine ar_mapUpdate rfl (m := m) (L := [(x, cObj d tb ob fb c), (fb, fObj c.fails)]) 1 intAV boolAV intKey_ok c.fails n true rfl rfl rfl rfl rfl rfl hN (by have := mput_len c.fails n true; omega) ?_
 show K1 [] (AMem.wth m [(x, cObj d tb ob fb c), (fb, fObj (mput c.fails n true))])
 refine hK1 _ _ ?_; clear hK1 K1
 refine ⟨(AMem.wth m [(x, cObj d tb ob fb c), (fb, fObj (mput c.fails n true))]), fun _ _ h => h, ?_⟩
 show K (.tuple []) (AMem.wth m [(x, cObj d tb ob fb c), (fb, fObj (mput c.fails n true))])

 exact hK

theorem u_CCalls (x d tb ob fb : Nat) (c : ClSt)  (m : AMem)  (K : AV → AMem → Prop) (hK : K (.int .i64 c.calls) (AMem.wth m [(x, cObj d tb ob fb c)])) : ACalls Try.prog 60 [.ptr ⟨x, 0, none⟩] (AMem.wth m [(x, cObj d tb ob fb c)]) K := by
 refine acalls_enter Try.func60 rfl (by decide) (Nat.le_of_ble_eq_true rfl) ?_
 show AWP _ _ _ _ [(0, .ptr ⟨x, 0, none⟩)] (AMem.wth m [(x, cObj d tb ob fb c)])
 refine awp_reg2_seq [] [0] (by decide) ?_
 intro K1 hK1
 refine ⟨trivial, ?_⟩
 show K1 [(0, .ptr ⟨x, 0, none⟩)] (AMem.wth m [(x, cObj d tb ob fb c)])
 refine hK1 _ _ ?_; clear hK1 K1
 refine awp_reg2_seq [] [2] (by decide) ?_
 intro K1 hK1
 refine ⟨trivial, trivial, ⟨rfl, by decide⟩, ?_⟩
 refine ar_loadp rfl (v := .int .i64 c.calls) rfl (wth_get 0 (nodup_1 x) rfl) rfl (apartOk_one rfl rfl (Nat.le_of_ble_eq_true rfl)) rfl ?_
 refine ⟨trivial, ?_⟩
 show K1 [(2, .int .i64 c.calls)] (AMem.wth m [(x, cObj d tb ob fb c)])
 refine hK1 _ _ ?_; clear hK1 K1
 refine awp_ret ?_
 refine ⟨trivial, (AMem.wth m [(x, cObj d tb ob fb c)]), fun _ _ h => h, ?_⟩
 show K (.int .i64 c.calls) (AMem.wth m [(x, cObj d tb ob fb c)])

 exact hK

set_option maxHeartbeats 4000000 in
theorem u_CSpoil (x d tb ob fb : Nat) (c : ClSt) (id : Int) (v : Val) (hN : [x, tb].Nodup) (hl : c.things.length ≤ 1000000) (m : AMem)  (K : AV → AMem → Prop) (hK : K (.tuple []) (AMem.wth m [(x, cObj d tb ob fb (spoilC c id v)), (tb, tObj (spoilC c id v).things)])) : ACalls Try.prog 57 [.ptr ⟨x, 0, none⟩, .int .i64 id, valTop v] (AMem.wth m [(x, cObj d tb ob fb c), (tb, tObj c.things)]) K := by
 refine acalls_enter Try.func57 rfl (by decide) (Nat.le_of_ble_eq_true rfl) ?_
 show AWP _ _ _ _ [(0, .ptr ⟨x, 0, none⟩), (1, .int .i64 id), (2, valTop v)] (AMem.wth m [(x, cObj d tb ob fb c), (tb, tObj c.things)])
 refine awp_reg2_seq [] [0, 1, 5] (by decide) ?_
 intro K1 hK1
 refine ar_box rfl (m := m) (L := [(x, cObj d tb ob fb c), (tb, tObj c.things)]) (v := valTop v) (by rfl) rfl ?_
 intro b1 hb1
 have hFb1 : m b1 = none := wth_none hb1
 have hNb1 : ([b1, x, tb] : List Nat).Nodup := wth_nodup hb1 hN
 show K1 [(0, .ptr ⟨x, 0, none⟩), (1, .int .i64 id), (5, .ptr ⟨b1, 0, none⟩)] (AMem.wth m [(b1, .cells [.int .i64 v.kind, .int .i64 v.n, .str v.s, .slice false (v.l.map valIn), .slice false (v.f.map fldIn)]), (x, cObj d tb ob fb c), (tb, tObj c.things)])
 refine hK1 _ _ ?_; clear hK1 K1
 refine awp_reg2_seq [] [0, 1, 5, 6, 7] (by decide) ?_
 intro K1 hK1
 refine ⟨trivial, trivial, ⟨rfl, by decide⟩, ?_⟩
 refine ar_loadp rfl (v := .map tb) rfl (wth_get 1 hNb1 rfl) rfl (apartOk_one rfl rfl (Nat.le_of_ble_eq_true rfl)) rfl ?_
 refine ⟨trivial, ?_⟩
 refine ar_lookupOkP rfl (m := m) (L := [(b1, .cells [.int .i64 v.kind, .int .i64 v.n, .str v.s, .slice false (v.l.map valIn), .slice false (v.f.map fldIn)]), (x, cObj d tb ob fb c), (tb, tObj c.things)]) intAV thgAV intKey_ok c.things id zT rfl rfl rfl rfl rfl rfl (wth_get 2 hNb1 rfl) rfl ?_
 refine ⟨trivial, (Nat.le_of_ble_eq_true rfl), (Nat.le_of_ble_eq_true rfl), ?_⟩
 refine ar_alloc rfl (z := .agg [.int .i64 0, .str ([]), .int .i64 0, .int .i64 0, .str ([]), .slice true [], .slice true []]) rfl rfl ?_
 intro b2 hb2
 have hFb2 : m b2 = none := wth_none hb2
 have hNb2 : ([b2, b1, x, tb] : List Nat).Nodup := wth_nodup hb2 hNb1
 refine ar_storep rfl 0 (v := thgAV ((mget c.things id).getD zT)) (l' := [.int .i64 (((mget c.things id).getD zT).id), .str (((mget c.things id).getD zT).kind), .int .i64 ((((mget c.things id).getD zT).v).kind), .int .i64 ((((mget c.things id).getD zT).v).n), .str ((((mget c.things id).getD zT).v).s), .slice false (((((mget c.things id).getD zT).v).l).map valIn), .slice false (((((mget c.things id).getD zT).v).f).map fldIn)]) rfl (by rfl) hNb2 rfl rfl rfl rfl rfl (Nat.le_of_ble_eq_true rfl) rfl ?_
 refine ⟨trivial, ?_⟩
 show K1 [(0, .ptr ⟨x, 0, none⟩), (1, .int .i64 id), (5, .ptr ⟨b1, 0, none⟩), (6, .ptr ⟨b2, 0, none⟩), (7, .bool ((mget c.things id).isSome))] (AMem.wth m [(b2, .cells [.int .i64 (((mget c.things id).getD zT).id), .str (((mget c.things id).getD zT).kind), .int .i64 ((((mget c.things id).getD zT).v).kind), .int .i64 ((((mget c.things id).getD zT).v).n), .str ((((mget c.things id).getD zT).v).s), .slice false (((((mget c.things id).getD zT).v).l).map valIn), .slice false (((((mget c.things id).getD zT).v).f).map fldIn)]), (b1, .cells [.int .i64 v.kind, .int .i64 v.n, .str v.s, .slice false (v.l.map valIn), .slice false (v.f.map fldIn)]), (x, cObj d tb ob fb c), (tb, tObj c.things)])
 refine hK1 _ _ ?_; clear hK1 K1
 refine awp_reg2_seq [] [0, 1, 5, 6, 22] (by decide) ?_
 intro K1 hK1
 suffices key : K1 [(0, .ptr ⟨x, 0, none⟩), (1, .int .i64 id), (5, .ptr ⟨b1, 0, none⟩), (6, .ptr ⟨b2, 0, none⟩), (22, .bool (((mget c.things id).isSome) && ((attrE v) == 0)))] (AMem.wth m [(b2, .cells [.int .i64 (((mget c.things id).getD zT).id), .str (((mget c.things id).getD zT).kind), .int .i64 ((((mget c.things id).getD zT).v).kind), .int .i64 ((((mget c.things id).getD zT).v).n), .str ((((mget c.things id).getD zT).v).s), .slice false (((((mget c.things id).getD zT).v).l).map valIn), .slice false (((((mget c.things id).getD zT).v).f).map fldIn)]), (b1, .cells [.int .i64 v.kind, .int .i64 v.n, .str v.s, .slice false (v.l.map valIn), .slice false (v.f.map fldIn)]), (x, cObj d tb ob fb c), (tb, tObj c.things)]) by
  refine ⟨trivial, trivial, ?_⟩
  show aopsR _ _ _ _ _ [(18, .bool ((mget c.things id).isSome)), (17, .bool ((mget c.things id).isSome)), (0, .ptr ⟨x, 0, none⟩), (1, .int .i64 id), (5, .ptr ⟨b1, 0, none⟩), (6, .ptr ⟨b2, 0, none⟩), (7, .bool ((mget c.things id).isSome))] _
  revert key
  cases h1 : ((mget c.things id).isSome)
  ·
   replace h1 : (mget c.things id).isSome = false := h1
   intro key
   refine ar_off rfl (ar_off rfl (ar_off rfl ?_))
   exact key
  ·
   replace h1 : (mget c.things id).isSome = true := h1
   intro key
   refine ar_loadp rfl (v := .agg [.int .i64 v.kind, .int .i64 v.n, .str v.s, .slice false (v.l.map valIn), .slice false (v.f.map fldIn)]) rfl (wth_get 1 hNb2 rfl) rfl (apartOk_agg rfl rfl (Nat.le_of_ble_eq_true rfl)) rfl ?_
   refine u_attrs v _ _ ?_
   refine ⟨⟨rfl, rfl⟩, ?_⟩
   exact key
 refine hK1 _ _ ?_; clear hK1 K1
 refine awp_cond rfl rfl (fun h2 => ?_) (fun h2 => ?_)
 ·
  replace h2 : ((mget c.things id).isSome = true) ∧ (attrE v = 0) := ⟨(bandL h2), (eq_of_beq (bandR h2))⟩
  refine awp_reg2_seq [] [0, 1, 6] (by decide) ?_
  intro K1 hK1
  refine ar_loadp rfl (v := .agg [.int .i64 v.kind, .int .i64 v.n, .str v.s, .slice false (v.l.map valIn), .slice false (v.f.map fldIn)]) rfl (wth_get 1 hNb2 rfl) rfl (apartOk_agg rfl rfl (Nat.le_of_ble_eq_true rfl)) rfl ?_
  refine u_Copy v (by first | exact okV_get hids (by assumption) | exact chk_okV (attrE_0 (by first | assumption | exact (by assumption : _ ∧ _).2))) _ _ ?_
  refine ⟨⟨rfl, by decide⟩, ?_⟩
  refine ar_storep rfl 0 (v := valTop v) (l' := [.int .i64 (((mget c.things id).getD zT).id), .str (((mget c.things id).getD zT).kind), .int .i64 v.kind, .int .i64 v.n, .str v.s, .slice false (v.l.map valIn), .slice false (v.f.map fldIn)]) rfl (by rfl) hNb2 rfl rfl rfl rfl rfl (Nat.le_of_ble_eq_true rfl) rfl ?_
  show K1 [(0, .ptr ⟨x, 0, none⟩), (1, .int .i64 id), (6, .ptr ⟨b2, 0, none⟩)] (AMem.wth m [(b2, .cells [.int .i64 (((mget c.things id).getD zT).id), .str (((mget c.things id).getD zT).kind), .int .i64 v.kind, .int .i64 v.n, .str v.s, .slice false (v.l.map valIn), .slice false (v.f.map fldIn)]), (b1, .cells [.int .i64 v.kind, .int .i64 v.n, .str v.s, .slice false (v.l.map valIn), .slice false (v.f.map fldIn)]), (x, cObj d tb ob fb c), (tb, tObj c.things)])
  refine hK1 _ _ ?_; clear hK1 K1
  refine awp_anyA Try.mixed [] (by decide) ?_
  intro K1 hK1
  intro A hA
  suffices key : ∀ (_ : True), K1 [] (AMem.wth m [(b2, .cells [.int .i64 (((mget c.things id).getD zT).id), .str (((mget c.things id).getD zT).kind), .int .i64 v.kind, .int .i64 v.n, .str v.s, .slice false (v.l.map valIn), .slice false (v.f.map fldIn)]), (b1, .cells [.int .i64 v.kind, .int .i64 v.n, .str v.s, .slice false (v.l.map valIn), .slice false (v.f.map fldIn)]), (x, cObj d tb ob fb c), (tb, tObj (mput c.things id (⟨((mget c.things id).getD zT).id, ((mget c.things id).getD zT).kind, v⟩ : Thg)))]) by
   have s0 : ∀ (_ : True), A 0 #[true, true, true, true, true, true, true] (fun fr m => K1 (fr.keep []) m) [] (AMem.wth m [(b2, .cells [.int .i64 (((mget c.things id).getD zT).id), .str (((mget c.things id).getD zT).kind), .int .i64 v.kind, .int .i64 v.n, .str v.s, .slice false (v.l.map valIn), .slice false (v.f.map fldIn)]), (b1, .cells [.int .i64 v.kind, .int .i64 v.n, .str v.s, .slice false (v.l.map valIn), .slice false (v.f.map fldIn)]), (x, cObj d tb ob fb c), (tb, tObj (mput c.things id (⟨((mget c.things id).getD zT).id, ((mget c.things id).getD zT).kind, v⟩ : Thg)))]) := by
    intro _
    subst hA
    exact AAny.done (by decide +kernel) (key trivial)
   have s1 : ∀ (_ : True), A 1 #[true, true, true, true, true, true, false] (fun fr m => K1 (fr.keep []) m) [(29, .map tb), (30, .int .i64 id), (31, .agg [.int .i64 (((mget c.things id).getD zT).id), .str (((mget c.things id).getD zT).kind), .int .i64 v.kind, .int .i64 v.n, .str v.s, .slice false (v.l.map valIn), .slice false (v.f.map fldIn)])] (AMem.wth m [(b2, .cells [.int .i64 (((mget c.things id).getD zT).id), .str (((mget c.things id).getD zT).kind), .int .i64 v.kind, .int .i64 v.n, .str v.s, .slice false (v.l.map valIn), .slice false (v.f.map fldIn)]), (b1, .cells [.int .i64 v.kind, .int .i64 v.n, .str v.s, .slice false (v.l.map valIn), .slice false (v.f.map fldIn)]), (x, cObj d tb ob fb c), (tb, tObj c.things)]) := by
    intro _
    subst hA
    refine AAny.step [] [6] (by decide +kernel) (by simp) (by decide) ⟨?_, trivial⟩
    ·
     show aopsR _ _ _ [_] _ _ _
     refine ar_mapUpdate rfl (m := m) (L := [(b2, .cells [.int .i64 (((mget c.things id).getD zT).id), .str (((mget c.things id).getD zT).kind), .int .i64 v.kind, .int .i64 v.n, .str v.s, .slice false (v.l.map valIn), .slice false (v.f.map fldIn)]), (b1, .cells [.int .i64 v.kind, .int .i64 v.n, .str v.s, .slice false (v.l.map valIn), .slice false (v.f.map fldIn)]), (x, cObj d tb ob fb c), (tb, tObj c.things)]) 3 intAV thgAV intKey_ok c.things id (⟨((mget c.things id).getD zT).id, ((mget c.things id).getD zT).kind, v⟩ : Thg) rfl rfl rfl rfl rfl rfl hNb2 (by have := mput_len c.things id ⟨((mget c.things id).getD zT).id, ((mget c.things id).getD zT).kind, v⟩; omega) ?_
     refine AAny.keep [] (by decide) ?_
     exact s0 trivial
   clear s0
   have s2 : ∀ (_ : True), A 2 #[true, true, true, true, true, false, false] (fun fr m => K1 (fr.keep []) m) [(6, .ptr ⟨b2, 0, none⟩), (29, .map tb), (30, .int .i64 id)] (AMem.wth m [(b2, .cells [.int .i64 (((mget c.things id).getD zT).id), .str (((mget c.things id).getD zT).kind), .int .i64 v.kind, .int .i64 v.n, .str v.s, .slice false (v.l.map valIn), .slice false (v.f.map fldIn)]), (b1, .cells [.int .i64 v.kind, .int .i64 v.n, .str v.s, .slice false (v.l.map valIn), .slice false (v.f.map fldIn)]), (x, cObj d tb ob fb c), (tb, tObj c.things)]) := by
    intro _
    subst hA
    refine AAny.step [] [5] (by decide +kernel) (by simp) (by decide) ⟨?_, trivial⟩
    ·
     show aopsR _ _ _ [_] _ _ _
     refine ar_loadp rfl (v := .agg [.int .i64 (((mget c.things id).getD zT).id), .str (((mget c.things id).getD zT).kind), .int .i64 v.kind, .int .i64 v.n, .str v.s, .slice false (v.l.map valIn), .slice false (v.f.map fldIn)]) rfl (wth_get 0 hNb2 rfl) rfl (apartOk_agg rfl rfl (Nat.le_of_ble_eq_true rfl)) rfl ?_
     refine AAny.keep [29, 30, 31] (by decide) ?_
     exact s1 trivial
   have s3 : ∀ (_ : True), A 2 #[true, true, true, true, false, true, false] (fun fr m => K1 (fr.keep []) m) [(1, .int .i64 id), (29, .map tb), (31, .agg [.int .i64 (((mget c.things id).getD zT).id), .str (((mget c.things id).getD zT).kind), .int .i64 v.kind, .int .i64 v.n, .str v.s, .slice false (v.l.map valIn), .slice false (v.f.map fldIn)])] (AMem.wth m [(b2, .cells [.int .i64 (((mget c.things id).getD zT).id), .str (((mget c.things id).getD zT).kind), .int .i64 v.kind, .int .i64 v.n, .str v.s, .slice false (v.l.map valIn), .slice false (v.f.map fldIn)]), (b1, .cells [.int .i64 v.kind, .int .i64 v.n, .str v.s, .slice false (v.l.map valIn), .slice false (v.f.map fldIn)]), (x, cObj d tb ob fb c), (tb, tObj c.things)]) := by
    intro _
    subst hA
    refine AAny.step [] [4] (by decide +kernel) (by simp) (by decide) ⟨?_, trivial⟩
    ·
     show aopsR _ _ _ [_] _ _ _
     refine ⟨trivial, ?_⟩
     refine AAny.keep [29, 30, 31] (by decide) ?_
     exact s1 trivial
   have s4 : ∀ (_ : True), A 2 #[true, true, true, false, true, true, false] (fun fr m => K1 (fr.keep []) m) [(28, .ptr ⟨x, 1, none⟩), (30, .int .i64 id), (31, .agg [.int .i64 (((mget c.things id).getD zT).id), .str (((mget c.things id).getD zT).kind), .int .i64 v.kind, .int .i64 v.n, .str v.s, .slice false (v.l.map valIn), .slice false (v.f.map fldIn)])] (AMem.wth m [(b2, .cells [.int .i64 (((mget c.things id).getD zT).id), .str (((mget c.things id).getD zT).kind), .int .i64 v.kind, .int .i64 v.n, .str v.s, .slice false (v.l.map valIn), .slice false (v.f.map fldIn)]), (b1, .cells [.int .i64 v.kind, .int .i64 v.n, .str v.s, .slice false (v.l.map valIn), .slice false (v.f.map fldIn)]), (x, cObj d tb ob fb c), (tb, tObj c.things)]) := by
    intro _
    subst hA
    refine AAny.step [] [3] (by decide +kernel) (by simp) (by decide) ⟨?_, trivial⟩
    ·
     show aopsR _ _ _ [_] _ _ _
     refine ar_loadp rfl (v := .map tb) rfl (wth_get 2 hNb2 rfl) rfl (apartOk_one rfl rfl (Nat.le_of_ble_eq_true rfl)) rfl ?_
     refine AAny.keep [29, 30, 31] (by decide) ?_
     exact s1 trivial
   clear s1
   have s5 : ∀ (_ : True), A 3 #[true, true, true, true, false, false, false] (fun fr m => K1 (fr.keep []) m) [(1, .int .i64 id), (6, .ptr ⟨b2, 0, none⟩), (29, .map tb)] (AMem.wth m [(b2, .cells [.int .i64 (((mget c.things id).getD zT).id), .str (((mget c.things id).getD zT).kind), .int .i64 v.kind, .int .i64 v.n, .str v.s, .slice false (v.l.map valIn), .slice false (v.f.map fldIn)]), (b1, .cells [.int .i64 v.kind, .int .i64 v.n, .str v.s, .slice false (v.l.map valIn), .slice false (v.f.map fldIn)]), (x, cObj d tb ob fb c), (tb, tObj c.things)]) := by
    intro _
    subst hA
    refine AAny.step [] [4, 5] (by decide +kernel) (by simp) (by decide) ⟨?_, ?_, trivial⟩
    ·
     show aopsR _ _ _ [_] _ _ _
     refine ⟨trivial, ?_⟩
     refine AAny.keep [6, 29, 30] (by decide) ?_
     exact s2 trivial
    ·
     show aopsR _ _ _ [_] _ _ _
     refine ar_loadp rfl (v := .agg [.int .i64 (((mget c.things id).getD zT).id), .str (((mget c.things id).getD zT).kind), .int .i64 v.kind, .int .i64 v.n, .str v.s, .slice false (v.l.map valIn), .slice false (v.f.map fldIn)]) rfl (wth_get 0 hNb2 rfl) rfl (apartOk_agg rfl rfl (Nat.le_of_ble_eq_true rfl)) rfl ?_
     refine AAny.keep [1, 29, 31] (by decide) ?_
     exact s3 trivial
   have s6 : ∀ (_ : True), A 3 #[true, true, true, false, true, false, false] (fun fr m => K1 (fr.keep []) m) [(6, .ptr ⟨b2, 0, none⟩), (28, .ptr ⟨x, 1, none⟩), (30, .int .i64 id)] (AMem.wth m [(b2, .cells [.int .i64 (((mget c.things id).getD zT).id), .str (((mget c.things id).getD zT).kind), .int .i64 v.kind, .int .i64 v.n, .str v.s, .slice false (v.l.map valIn), .slice false (v.f.map fldIn)]), (b1, .cells [.int .i64 v.kind, .int .i64 v.n, .str v.s, .slice false (v.l.map valIn), .slice false (v.f.map fldIn)]), (x, cObj d tb ob fb c), (tb, tObj c.things)]) := by
    intro _
    subst hA
    refine AAny.step [] [3, 5] (by decide +kernel) (by simp) (by decide) ⟨?_, ?_, trivial⟩
    ·
     show aopsR _ _ _ [_] _ _ _
     refine ar_loadp rfl (v := .map tb) rfl (wth_get 2 hNb2 rfl) rfl (apartOk_one rfl rfl (Nat.le_of_ble_eq_true rfl)) rfl ?_
     refine AAny.keep [6, 29, 30] (by decide) ?_
     exact s2 trivial
    ·
     show aopsR _ _ _ [_] _ _ _
     refine ar_loadp rfl (v := .agg [.int .i64 (((mget c.things id).getD zT).id), .str (((mget c.things id).getD zT).kind), .int .i64 v.kind, .int .i64 v.n, .str v.s, .slice false (v.l.map valIn), .slice false (v.f.map fldIn)]) rfl (wth_get 0 hNb2 rfl) rfl (apartOk_agg rfl rfl (Nat.le_of_ble_eq_true rfl)) rfl ?_
     refine AAny.keep [28, 30, 31] (by decide) ?_
     exact s4 trivial
   clear s2
   have s7 : ∀ (_ : True), A 3 #[true, true, true, false, false, true, false] (fun fr m => K1 (fr.keep []) m) [(1, .int .i64 id), (28, .ptr ⟨x, 1, none⟩), (31, .agg [.int .i64 (((mget c.things id).getD zT).id), .str (((mget c.things id).getD zT).kind), .int .i64 v.kind, .int .i64 v.n, .str v.s, .slice false (v.l.map valIn), .slice false (v.f.map fldIn)])] (AMem.wth m [(b2, .cells [.int .i64 (((mget c.things id).getD zT).id), .str (((mget c.things id).getD zT).kind), .int .i64 v.kind, .int .i64 v.n, .str v.s, .slice false (v.l.map valIn), .slice false (v.f.map fldIn)]), (b1, .cells [.int .i64 v.kind, .int .i64 v.n, .str v.s, .slice false (v.l.map valIn), .slice false (v.f.map fldIn)]), (x, cObj d tb ob fb c), (tb, tObj c.things)]) := by
    intro _
    subst hA
    refine AAny.step [] [3, 4] (by decide +kernel) (by simp) (by decide) ⟨?_, ?_, trivial⟩
    ·
     show aopsR _ _ _ [_] _ _ _
     refine ar_loadp rfl (v := .map tb) rfl (wth_get 2 hNb2 rfl) rfl (apartOk_one rfl rfl (Nat.le_of_ble_eq_true rfl)) rfl ?_
     refine AAny.keep [1, 29, 31] (by decide) ?_
     exact s3 trivial
    ·
     show aopsR _ _ _ [_] _ _ _
     refine ⟨trivial, ?_⟩
     refine AAny.keep [28, 30, 31] (by decide) ?_
     exact s4 trivial
   clear s3
   have s8 : ∀ (_ : True), A 3 #[true, true, false, false, true, true, false] (fun fr m => K1 (fr.keep []) m) [(27, .ptr ⟨x, 0, none⟩), (30, .int .i64 id), (31, .agg [.int .i64 (((mget c.things id).getD zT).id), .str (((mget c.things id).getD zT).kind), .int .i64 v.kind, .int .i64 v.n, .str v.s, .slice false (v.l.map valIn), .slice false (v.f.map fldIn)])] (AMem.wth m [(b2, .cells [.int .i64 (((mget c.things id).getD zT).id), .str (((mget c.things id).getD zT).kind), .int .i64 v.kind, .int .i64 v.n, .str v.s, .slice false (v.l.map valIn), .slice false (v.f.map fldIn)]), (b1, .cells [.int .i64 v.kind, .int .i64 v.n, .str v.s, .slice false (v.l.map valIn), .slice false (v.f.map fldIn)]), (x, cObj d tb ob fb c), (tb, tObj c.things)]) := by
    intro _
    subst hA
    refine AAny.step [] [2] (by decide +kernel) (by simp) (by decide) ⟨?_, trivial⟩
    ·
     show aopsR _ _ _ [_] _ _ _
     refine ⟨⟨rfl, by decide⟩, ?_⟩
     refine AAny.keep [28, 30, 31] (by decide) ?_
     exact s4 trivial
   clear s4
   have s9 : ∀ (_ : True), A 4 #[true, true, true, false, false, false, false] (fun fr m => K1 (fr.keep []) m) [(1, .int .i64 id), (6, .ptr ⟨b2, 0, none⟩), (28, .ptr ⟨x, 1, none⟩)] (AMem.wth m [(b2, .cells [.int .i64 (((mget c.things id).getD zT).id), .str (((mget c.things id).getD zT).kind), .int .i64 v.kind, .int .i64 v.n, .str v.s, .slice false (v.l.map valIn), .slice false (v.f.map fldIn)]), (b1, .cells [.int .i64 v.kind, .int .i64 v.n, .str v.s, .slice false (v.l.map valIn), .slice false (v.f.map fldIn)]), (x, cObj d tb ob fb c), (tb, tObj c.things)]) := by
    intro _
    subst hA
    refine AAny.step [] [3, 4, 5] (by decide +kernel) (by simp) (by decide) ⟨?_, ?_, ?_, trivial⟩
    ·
     show aopsR _ _ _ [_] _ _ _
     refine ar_loadp rfl (v := .map tb) rfl (wth_get 2 hNb2 rfl) rfl (apartOk_one rfl rfl (Nat.le_of_ble_eq_true rfl)) rfl ?_
     refine AAny.keep [1, 6, 29] (by decide) ?_
     exact s5 trivial
    ·
     show aopsR _ _ _ [_] _ _ _
     refine ⟨trivial, ?_⟩
     refine AAny.keep [6, 28, 30] (by decide) ?_
     exact s6 trivial
    ·
     show aopsR _ _ _ [_] _ _ _
     refine ar_loadp rfl (v := .agg [.int .i64 (((mget c.things id).getD zT).id), .str (((mget c.things id).getD zT).kind), .int .i64 v.kind, .int .i64 v.n, .str v.s, .slice false (v.l.map valIn), .slice false (v.f.map fldIn)]) rfl (wth_get 0 hNb2 rfl) rfl (apartOk_agg rfl rfl (Nat.le_of_ble_eq_true rfl)) rfl ?_
     refine AAny.keep [1, 28, 31] (by decide) ?_
     exact s7 trivial
   clear s5
   have s10 : ∀ (_ : True), A 4 #[true, true, false, false, true, false, false] (fun fr m => K1 (fr.keep []) m) [(6, .ptr ⟨b2, 0, none⟩), (27, .ptr ⟨x, 0, none⟩), (30, .int .i64 id)] (AMem.wth m [(b2, .cells [.int .i64 (((mget c.things id).getD zT).id), .str (((mget c.things id).getD zT).kind), .int .i64 v.kind, .int .i64 v.n, .str v.s, .slice false (v.l.map valIn), .slice false (v.f.map fldIn)]), (b1, .cells [.int .i64 v.kind, .int .i64 v.n, .str v.s, .slice false (v.l.map valIn), .slice false (v.f.map fldIn)]), (x, cObj d tb ob fb c), (tb, tObj c.things)]) := by
    intro _
    subst hA
    refine AAny.step [] [2, 5] (by decide +kernel) (by simp) (by decide) ⟨?_, ?_, trivial⟩
    ·
     show aopsR _ _ _ [_] _ _ _
     refine ⟨⟨rfl, by decide⟩, ?_⟩
     refine AAny.keep [6, 28, 30] (by decide) ?_
     exact s6 trivial
    ·
     show aopsR _ _ _ [_] _ _ _
     refine ar_loadp rfl (v := .agg [.int .i64 (((mget c.things id).getD zT).id), .str (((mget c.things id).getD zT).kind), .int .i64 v.kind, .int .i64 v.n, .str v.s, .slice false (v.l.map valIn), .slice false (v.f.map fldIn)]) rfl (wth_get 0 hNb2 rfl) rfl (apartOk_agg rfl rfl (Nat.le_of_ble_eq_true rfl)) rfl ?_
     refine AAny.keep [27, 30, 31] (by decide) ?_
     exact s8 trivial
   clear s6
   have s11 : ∀ (_ : True), A 4 #[true, true, false, false, false, true, false] (fun fr m => K1 (fr.keep []) m) [(1, .int .i64 id), (27, .ptr ⟨x, 0, none⟩), (31, .agg [.int .i64 (((mget c.things id).getD zT).id), .str (((mget c.things id).getD zT).kind), .int .i64 v.kind, .int .i64 v.n, .str v.s, .slice false (v.l.map valIn), .slice false (v.f.map fldIn)])] (AMem.wth m [(b2, .cells [.int .i64 (((mget c.things id).getD zT).id), .str (((mget c.things id).getD zT).kind), .int .i64 v.kind, .int .i64 v.n, .str v.s, .slice false (v.l.map valIn), .slice false (v.f.map fldIn)]), (b1, .cells [.int .i64 v.kind, .int .i64 v.n, .str v.s, .slice false (v.l.map valIn), .slice false (v.f.map fldIn)]), (x, cObj d tb ob fb c), (tb, tObj c.things)]) := by
    intro _
    subst hA
    refine AAny.step [] [2, 4] (by decide +kernel) (by simp) (by decide) ⟨?_, ?_, trivial⟩
    ·
     show aopsR _ _ _ [_] _ _ _
     refine ⟨⟨rfl, by decide⟩, ?_⟩
     refine AAny.keep [1, 28, 31] (by decide) ?_
     exact s7 trivial
    ·
     show aopsR _ _ _ [_] _ _ _
     refine ⟨trivial, ?_⟩
     refine AAny.keep [27, 30, 31] (by decide) ?_
     exact s8 trivial
   clear s7
   have s12 : ∀ (_ : True), A 4 #[true, false, false, false, true, true, false] (fun fr m => K1 (fr.keep []) m) [(26, .ptr ⟨x, 0, none⟩), (30, .int .i64 id), (31, .agg [.int .i64 (((mget c.things id).getD zT).id), .str (((mget c.things id).getD zT).kind), .int .i64 v.kind, .int .i64 v.n, .str v.s, .slice false (v.l.map valIn), .slice false (v.f.map fldIn)])] (AMem.wth m [(b2, .cells [.int .i64 (((mget c.things id).getD zT).id), .str (((mget c.things id).getD zT).kind), .int .i64 v.kind, .int .i64 v.n, .str v.s, .slice false (v.l.map valIn), .slice false (v.f.map fldIn)]), (b1, .cells [.int .i64 v.kind, .int .i64 v.n, .str v.s, .slice false (v.l.map valIn), .slice false (v.f.map fldIn)]), (x, cObj d tb ob fb c), (tb, tObj c.things)]) := by
    intro _
    subst hA
    refine AAny.step [] [1] (by decide +kernel) (by simp) (by decide) ⟨?_, trivial⟩
    ·
     show aopsR _ _ _ [_] _ _ _
     refine ⟨trivial, ?_⟩
     refine AAny.keep [27, 30, 31] (by decide) ?_
     exact s8 trivial
   clear s8
   have s13 : ∀ (_ : True), A 5 #[true, true, false, false, false, false, false] (fun fr m => K1 (fr.keep []) m) [(1, .int .i64 id), (6, .ptr ⟨b2, 0, none⟩), (27, .ptr ⟨x, 0, none⟩)] (AMem.wth m [(b2, .cells [.int .i64 (((mget c.things id).getD zT).id), .str (((mget c.things id).getD zT).kind), .int .i64 v.kind, .int .i64 v.n, .str v.s, .slice false (v.l.map valIn), .slice false (v.f.map fldIn)]), (b1, .cells [.int .i64 v.kind, .int .i64 v.n, .str v.s, .slice false (v.l.map valIn), .slice false (v.f.map fldIn)]), (x, cObj d tb ob fb c), (tb, tObj c.things)]) := by
    intro _
    subst hA
    refine AAny.step [] [2, 4, 5] (by decide +kernel) (by simp) (by decide) ⟨?_, ?_, ?_, trivial⟩
    ·
     show aopsR _ _ _ [_] _ _ _
     refine ⟨⟨rfl, by decide⟩, ?_⟩
     refine AAny.keep [1, 6, 28] (by decide) ?_
     exact s9 trivial
    ·
     show aopsR _ _ _ [_] _ _ _
     refine ⟨trivial, ?_⟩
     refine AAny.keep [6, 27, 30] (by decide) ?_
     exact s10 trivial
    ·
     show aopsR _ _ _ [_] _ _ _
     refine ar_loadp rfl (v := .agg [.int .i64 (((mget c.things id).getD zT).id), .str (((mget c.things id).getD zT).kind), .int .i64 v.kind, .int .i64 v.n, .str v.s, .slice false (v.l.map valIn), .slice false (v.f.map fldIn)]) rfl (wth_get 0 hNb2 rfl) rfl (apartOk_agg rfl rfl (Nat.le_of_ble_eq_true rfl)) rfl ?_
     refine AAny.keep [1, 27, 31] (by decide) ?_
     exact s11 trivial
   clear s9
   have s14 : ∀ (_ : True), A 5 #[true, false, false, false, true, false, false] (fun fr m => K1 (fr.keep []) m) [(6, .ptr ⟨b2, 0, none⟩), (26, .ptr ⟨x, 0, none⟩), (30, .int .i64 id)] (AMem.wth m [(b2, .cells [.int .i64 (((mget c.things id).getD zT).id), .str (((mget c.things id).getD zT).kind), .int .i64 v.kind, .int .i64 v.n, .str v.s, .slice false (v.l.map valIn), .slice false (v.f.map fldIn)]), (b1, .cells [.int .i64 v.kind, .int .i64 v.n, .str v.s, .slice false (v.l.map valIn), .slice false (v.f.map fldIn)]), (x, cObj d tb ob fb c), (tb, tObj c.things)]) := by
    intro _
    subst hA
    refine AAny.step [] [1, 5] (by decide +kernel) (by simp) (by decide) ⟨?_, ?_, trivial⟩
    ·
     show aopsR _ _ _ [_] _ _ _
     refine ⟨trivial, ?_⟩
     refine AAny.keep [6, 27, 30] (by decide) ?_
     exact s10 trivial
    ·
     show aopsR _ _ _ [_] _ _ _
     refine ar_loadp rfl (v := .agg [.int .i64 (((mget c.things id).getD zT).id), .str (((mget c.things id).getD zT).kind), .int .i64 v.kind, .int .i64 v.n, .str v.s, .slice false (v.l.map valIn), .slice false (v.f.map fldIn)]) rfl (wth_get 0 hNb2 rfl) rfl (apartOk_agg rfl rfl (Nat.le_of_ble_eq_true rfl)) rfl ?_
     refine AAny.keep [26, 30, 31] (by decide) ?_
     exact s12 trivial
   clear s10
   have s15 : ∀ (_ : True), A 5 #[true, false, false, false, false, true, false] (fun fr m => K1 (fr.keep []) m) [(1, .int .i64 id), (26, .ptr ⟨x, 0, none⟩), (31, .agg [.int .i64 (((mget c.things id).getD zT).id), .str (((mget c.things id).getD zT).kind), .int .i64 v.kind, .int .i64 v.n, .str v.s, .slice false (v.l.map valIn), .slice false (v.f.map fldIn)])] (AMem.wth m [(b2, .cells [.int .i64 (((mget c.things id).getD zT).id), .str (((mget c.things id).getD zT).kind), .int .i64 v.kind, .int .i64 v.n, .str v.s, .slice false (v.l.map valIn), .slice false (v.f.map fldIn)]), (b1, .cells [.int .i64 v.kind, .int .i64 v.n, .str v.s, .slice false (v.l.map valIn), .slice false (v.f.map fldIn)]), (x, cObj d tb ob fb c), (tb, tObj c.things)]) := by
    intro _
    subst hA
    refine AAny.step [] [1, 4] (by decide +kernel) (by simp) (by decide) ⟨?_, ?_, trivial⟩
    ·
     show aopsR _ _ _ [_] _ _ _
     refine ⟨trivial, ?_⟩
     refine AAny.keep [1, 27, 31] (by decide) ?_
     exact s11 trivial
    ·
     show aopsR _ _ _ [_] _ _ _
     refine ⟨trivial, ?_⟩
     refine AAny.keep [26, 30, 31] (by decide) ?_
     exact s12 trivial
   clear s11
   have s16 : ∀ (_ : True), A 5 #[false, false, false, false, true, true, false] (fun fr m => K1 (fr.keep []) m) [(0, .ptr ⟨x, 0, none⟩), (30, .int .i64 id), (31, .agg [.int .i64 (((mget c.things id).getD zT).id), .str (((mget c.things id).getD zT).kind), .int .i64 v.kind, .int .i64 v.n, .str v.s, .slice false (v.l.map valIn), .slice false (v.f.map fldIn)])] (AMem.wth m [(b2, .cells [.int .i64 (((mget c.things id).getD zT).id), .str (((mget c.things id).getD zT).kind), .int .i64 v.kind, .int .i64 v.n, .str v.s, .slice false (v.l.map valIn), .slice false (v.f.map fldIn)]), (b1, .cells [.int .i64 v.kind, .int .i64 v.n, .str v.s, .slice false (v.l.map valIn), .slice false (v.f.map fldIn)]), (x, cObj d tb ob fb c), (tb, tObj c.things)]) := by
    intro _
    subst hA
    refine AAny.step [] [0] (by decide +kernel) (by simp) (by decide) ⟨?_, trivial⟩
    ·
     show aopsR _ _ _ [_] _ _ _
     refine ⟨trivial, ?_⟩
     refine AAny.keep [26, 30, 31] (by decide) ?_
     exact s12 trivial
   clear s12
   have s17 : ∀ (_ : True), A 6 #[true, false, false, false, false, false, false] (fun fr m => K1 (fr.keep []) m) [(1, .int .i64 id), (6, .ptr ⟨b2, 0, none⟩), (26, .ptr ⟨x, 0, none⟩)] (AMem.wth m [(b2, .cells [.int .i64 (((mget c.things id).getD zT).id), .str (((mget c.things id).getD zT).kind), .int .i64 v.kind, .int .i64 v.n, .str v.s, .slice false (v.l.map valIn), .slice false (v.f.map fldIn)]), (b1, .cells [.int .i64 v.kind, .int .i64 v.n, .str v.s, .slice false (v.l.map valIn), .slice false (v.f.map fldIn)]), (x, cObj d tb ob fb c), (tb, tObj c.things)]) := by
    intro _
    subst hA
    refine AAny.step [] [1, 4, 5] (by decide +kernel) (by simp) (by decide) ⟨?_, ?_, ?_, trivial⟩
    ·
     show aopsR _ _ _ [_] _ _ _
     refine ⟨trivial, ?_⟩
     refine AAny.keep [1, 6, 27] (by decide) ?_
     exact s13 trivial
    ·
     show aopsR _ _ _ [_] _ _ _
     refine ⟨trivial, ?_⟩
     refine AAny.keep [6, 26, 30] (by decide) ?_
     exact s14 trivial
    ·
     show aopsR _ _ _ [_] _ _ _
     refine ar_loadp rfl (v := .agg [.int .i64 (((mget c.things id).getD zT).id), .str (((mget c.things id).getD zT).kind), .int .i64 v.kind, .int .i64 v.n, .str v.s, .slice false (v.l.map valIn), .slice false (v.f.map fldIn)]) rfl (wth_get 0 hNb2 rfl) rfl (apartOk_agg rfl rfl (Nat.le_of_ble_eq_true rfl)) rfl ?_
     refine AAny.keep [1, 26, 31] (by decide) ?_
     exact s15 trivial
   clear s13
   have s18 : ∀ (_ : True), A 6 #[false, false, false, false, true, false, false] (fun fr m => K1 (fr.keep []) m) [(0, .ptr ⟨x, 0, none⟩), (6, .ptr ⟨b2, 0, none⟩), (30, .int .i64 id)] (AMem.wth m [(b2, .cells [.int .i64 (((mget c.things id).getD zT).id), .str (((mget c.things id).getD zT).kind), .int .i64 v.kind, .int .i64 v.n, .str v.s, .slice false (v.l.map valIn), .slice false (v.f.map fldIn)]), (b1, .cells [.int .i64 v.kind, .int .i64 v.n, .str v.s, .slice false (v.l.map valIn), .slice false (v.f.map fldIn)]), (x, cObj d tb ob fb c), (tb, tObj c.things)]) := by
    intro _
    subst hA
    refine AAny.step [] [0, 5] (by decide +kernel) (by simp) (by decide) ⟨?_, ?_, trivial⟩
    ·
     show aopsR _ _ _ [_] _ _ _
     refine ⟨trivial, ?_⟩
     refine AAny.keep [6, 26, 30] (by decide) ?_
     exact s14 trivial
    ·
     show aopsR _ _ _ [_] _ _ _
     refine ar_loadp rfl (v := .agg [.int .i64 (((mget c.things id).getD zT).id), .str (((mget c.things id).getD zT).kind), .int .i64 v.kind, .int .i64 v.n, .str v.s, .slice false (v.l.map valIn), .slice false (v.f.map fldIn)]) rfl (wth_get 0 hNb2 rfl) rfl (apartOk_agg rfl rfl (Nat.le_of_ble_eq_true rfl)) rfl ?_
     refine AAny.keep [0, 30, 31] (by decide) ?_
     exact s16 trivial
   clear s14
   have s19 : ∀ (_ : True), A 6 #[false, false, false, false, false, true, false] (fun fr m => K1 (fr.keep []) m) [(0, .ptr ⟨x, 0, none⟩), (1, .int .i64 id), (31, .agg [.int .i64 (((mget c.things id).getD zT).id), .str (((mget c.things id).getD zT).kind), .int .i64 v.kind, .int .i64 v.n, .str v.s, .slice false (v.l.map valIn), .slice false (v.f.map fldIn)])] (AMem.wth m [(b2, .cells [.int .i64 (((mget c.things id).getD zT).id), .str (((mget c.things id).getD zT).kind), .int .i64 v.kind, .int .i64 v.n, .str v.s, .slice false (v.l.map valIn), .slice false (v.f.map fldIn)]), (b1, .cells [.int .i64 v.kind, .int .i64 v.n, .str v.s, .slice false (v.l.map valIn), .slice false (v.f.map fldIn)]), (x, cObj d tb ob fb c), (tb, tObj c.things)]) := by
    intro _
    subst hA
    refine AAny.step [] [0, 4] (by decide +kernel) (by simp) (by decide) ⟨?_, ?_, trivial⟩
    ·
     show aopsR _ _ _ [_] _ _ _
     refine ⟨trivial, ?_⟩
     refine AAny.keep [1, 26, 31] (by decide) ?_
     exact s15 trivial
    ·
     show aopsR _ _ _ [_] _ _ _
     refine ⟨trivial, ?_⟩
     refine AAny.keep [0, 30, 31] (by decide) ?_
     exact s16 trivial
   clear s15 s16
   have s20 : ∀ (_ : True), A 7 #[false, false, false, false, false, false, false] (fun fr m => K1 (fr.keep []) m) [(0, .ptr ⟨x, 0, none⟩), (1, .int .i64 id), (6, .ptr ⟨b2, 0, none⟩)] (AMem.wth m [(b2, .cells [.int .i64 (((mget c.things id).getD zT).id), .str (((mget c.things id).getD zT).kind), .int .i64 v.kind, .int .i64 v.n, .str v.s, .slice false (v.l.map valIn), .slice false (v.f.map fldIn)]), (b1, .cells [.int .i64 v.kind, .int .i64 v.n, .str v.s, .slice false (v.l.map valIn), .slice false (v.f.map fldIn)]), (x, cObj d tb ob fb c), (tb, tObj c.things)]) := by
    intro _
    subst hA
    refine AAny.step [] [0, 4, 5] (by decide +kernel) (by simp) (by decide) ⟨?_, ?_, ?_, trivial⟩
    ·
     show aopsR _ _ _ [_] _ _ _
     refine ⟨trivial, ?_⟩
     refine AAny.keep [1, 6, 26] (by decide) ?_
     exact s17 trivial
    ·
     show aopsR _ _ _ [_] _ _ _
     refine ⟨trivial, ?_⟩
     refine AAny.keep [0, 6, 30] (by decide) ?_
     exact s18 trivial
    ·
     show aopsR _ _ _ [_] _ _ _
     refine ar_loadp rfl (v := .agg [.int .i64 (((mget c.things id).getD zT).id), .str (((mget c.things id).getD zT).kind), .int .i64 v.kind, .int .i64 v.n, .str v.s, .slice false (v.l.map valIn), .slice false (v.f.map fldIn)]) rfl (wth_get 0 hNb2 rfl) rfl (apartOk_agg rfl rfl (Nat.le_of_ble_eq_true rfl)) rfl ?_
     refine AAny.keep [0, 1, 31] (by decide) ?_
     exact s19 trivial
   clear s17 s18 s19
   exact s20 trivial
  intro _
  refine hK1 _ _ ?_; clear hK1 K1
  refine ⟨(AMem.wth m [(x, cObj d tb ob fb c), (tb, tObj (mput c.things id (⟨((mget c.things id).getD zT).id, ((mget c.things id).getD zT).kind, v⟩ : Thg)))]), (wth_sub2 (m := m) [(b2, .cells [.int .i64 (((mget c.things id).getD zT).id), .str (((mget c.things id).getD zT).kind), .int .i64 v.kind, .int .i64 v.n, .str v.s, .slice false (v.l.map valIn), .slice false (v.f.map fldIn)]), (b1, .cells [.int .i64 v.kind, .int .i64 v.n, .str v.s, .slice false (v.l.map valIn), .slice false (v.f.map fldIn)])] [(x, cObj d tb ob fb c), (tb, tObj (mput c.things id (⟨((mget c.things id).getD zT).id, ((mget c.things id).getD zT).kind, v⟩ : Thg)))] hNb2 (by simp only [List.map_cons, List.map_nil, List.forall_mem_cons]; exact ⟨hFb2, hFb1, fun _ h => by cases h⟩)), ?_⟩
  show K (.tuple []) (AMem.wth m [(x, cObj d tb ob fb c), (tb, tObj (mput c.things id (⟨((mget c.things id).getD zT).id, ((mget c.things id).getD zT).kind, v⟩ : Thg)))])
 
  have e0 : spoilC c id v = ((⟨mput c.things id (⟨((mget c.things id).getD zT).id, ((mget c.things id).getD zT).kind, v⟩ : Thg), c.tokens, c.next, c.quota, c.calls, c.fails⟩ : ClSt) : ClSt) := by
   first | (rw [spoilC, if_pos (by assumption)]; done) | (rw [spoilC, if_neg (by rintro ⟨q1, q2⟩; rcases h2 with q | q <;> simp_all)]; done)
  rw [e0] at hK
  exact hK
 replace h2 : ((mget c.things id).isSome = false) ∨ (attrE v ≠ 0) := ((bandF h2).imp (fun q => q) (fun q => (ne_of_beq_false q)))
 refine awp_skip ?_
 refine ⟨(AMem.wth m [(x, cObj d tb ob fb c), (tb, tObj c.things)]), (wth_sub2 (m := m) [(b2, .cells [.int .i64 (((mget c.things id).getD zT).id), .str (((mget c.things id).getD zT).kind), .int .i64 ((((mget c.things id).getD zT).v).kind), .int .i64 ((((mget c.things id).getD zT).v).n), .str ((((mget c.things id).getD zT).v).s), .slice false (((((mget c.things id).getD zT).v).l).map valIn), .slice false (((((mget c.things id).getD zT).v).f).map fldIn)]), (b1, .cells [.int .i64 v.kind, .int .i64 v.n, .str v.s, .slice false (v.l.map valIn), .slice false (v.f.map fldIn)])] [(x, cObj d tb ob fb c), (tb, tObj c.things)] hNb2 (by simp only [List.map_cons, List.map_nil, List.forall_mem_cons]; exact ⟨hFb2, hFb1, fun _ h => by cases h⟩)), ?_⟩
 show K (.tuple []) (AMem.wth m [(x, cObj d tb ob fb c), (tb, tObj c.things)])

 have e0 : spoilC c id v = (c : ClSt) := by
  first | (rw [spoilC, if_pos (by assumption)]; done) | (rw [spoilC, if_neg (by rintro ⟨q1, q2⟩; rcases h2 with q | q <;> simp_all)]; done)
 rw [e0] at hK
 exact hK

end Go.Proofs
