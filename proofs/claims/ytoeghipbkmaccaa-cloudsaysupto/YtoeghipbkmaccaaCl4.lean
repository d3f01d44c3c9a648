import Derived.Test.YtoeghipbkmaccaaProg
import Derived.Test.YtoeghipbkmaccaaWl5
import Derived.Test.YtoeghipbkmaccaaCl1
section
namespace Go.Proofs
open Go Go.Aw
set_option maxRecDepth 100000


theorem chk_cnt {v : Val} (h : chk v = 0) : depV v ≤ 60 ∧ shpF (depV v + 1) v = true := by
  unfold chk at h
  split at h
  · rename_i h1
    have q := cntF_ok _ _ _ _ (by omega) h1
    exact ⟨by omega, shE_t h⟩
  · simp at h
section
variable {c : ClSt} {s : DSt} {token kind : Str} {v : Val} {id : Int}
theorem createR_1 (h : attrE v ≠ 0) : createR c s token kind v = ((c, s), (0, attrE v)) := by rw [createR, if_pos h]
theorem createR_2 (h : attrE v = 0) (h2 : nameV kind = false) : createR c s token kind v = ((c, s), (0, 3)) := by rw [createR, if_neg (by simp [h]), if_pos h2]
theorem createR_3 (h : attrE v = 0) (h2 : nameV kind = true) (h3 : (callT c s token 1).2.2 ≠ 0 ∨ (callT c s token 1).2.1 = true) : createR c s token kind v = (({ c with calls := ccalls c s token 1 }, (stepF s).1), ((callT c s token 1).1.id, (callT c s token 1).2.2)) := by
  rw [createR, if_neg (by simp [h]), if_neg (by simp [h2]), if_pos h3]
theorem createR_4 (h : attrE v = 0) (h2 : nameV kind = true) (h3 : (callT c s token 1).2.2 = 0 ∧ (callT c s token 1).2.1 = false) (h4 : c.quota ≤ c.things.length) : createR c s token kind v = (({ c with calls := ccalls c s token 1 }, (stepF s).1), (0, 13)) := by
  rw [createR, if_neg (by simp [h]), if_neg (by simp [h2]), if_neg (by simp [h3]), if_pos h4]
theorem createR_5 (h : attrE v = 0) (h2 : nameV kind = true) (h3 : (callT c s token 1).2.2 = 0 ∧ (callT c s token 1).2.1 = false) (h4 : (c.things.length : Int) < c.quota) : createR c s token kind v = (({ c with calls := ccalls c s token 1, next := c.next + 1, things := mput c.things c.next ⟨c.next, kind, v⟩, tokens := mput c.tokens token ⟨1, c.next⟩ }, (stepF s).1), (c.next, 0)) := by
  rw [createR, if_neg (by simp [h]), if_neg (by simp [h2]), if_neg (by simp [h3]), if_neg (by omega)]
theorem updateR_1 (h : attrE v ≠ 0) : updateR c s token id v = ((c, s), attrE v) := by rw [updateR, if_pos h]
theorem updateR_2 (h : attrE v = 0) (h3 : (callT c s token 2).2.2 ≠ 0 ∨ (callT c s token 2).2.1 = true) : updateR c s token id v = (({ c with calls := ccalls c s token 2 }, (stepF s).1), (callT c s token 2).2.2) := by
  rw [updateR, if_neg (by simp [h]), if_pos h3]
theorem updateR_3 (h : attrE v = 0) (h3 : (callT c s token 2).2.2 = 0 ∧ (callT c s token 2).2.1 = false) (h4 : (mget c.things id).isSome = false) : updateR c s token id v = (({ c with calls := ccalls c s token 2 }, (stepF s).1), 7) := by
  rw [updateR, if_neg (by simp [h]), if_neg (by simp [h3]), if_pos h4]
theorem updateR_4 (h : attrE v = 0) (h3 : (callT c s token 2).2.2 = 0 ∧ (callT c s token 2).2.1 = false) (h4 : (mget c.things id).isSome = true) : updateR c s token id v = (({ c with calls := ccalls c s token 2, things := mput c.things id ⟨((mget c.things id).getD zT).id, ((mget c.things id).getD zT).kind, v⟩, tokens := mput c.tokens token ⟨2, id⟩ }, (stepF s).1), 0) := by
  rw [updateR, if_neg (by simp [h]), if_neg (by simp [h3]), if_neg (by simp [h4])]
theorem deleteR_2 (h3 : (callT c s token 3).2.2 ≠ 0 ∨ (callT c s token 3).2.1 = true) : deleteR c s token id = (({ c with calls := ccalls c s token 3 }, (stepF s).1), (callT c s token 3).2.2) := by
  rw [deleteR, if_pos h3]
theorem deleteR_3 (h3 : (callT c s token 3).2.2 = 0 ∧ (callT c s token 3).2.1 = false) (h4 : (mget c.things id).isSome = false) : deleteR c s token id = (({ c with calls := ccalls c s token 3 }, (stepF s).1), 7) := by
  rw [deleteR, if_neg (by simp [h3]), if_pos h4]
theorem deleteR_4 (h3 : (callT c s token 3).2.2 = 0 ∧ (callT c s token 3).2.1 = false) (h4 : (mget c.things id).isSome = true) : deleteR c s token id = (({ c with calls := ccalls c s token 3, things := mdel c.things id, tokens := mput c.tokens token ⟨3, id⟩ }, (stepF s).1), 0) := by
  rw [deleteR, if_neg (by simp [h3]), if_neg (by simp [h4])]
end
theorem chk_okV {v : Val} (h : chk v = 0) : okV v := okV_small (depV v + 1) v (Nat.lt_succ_self _) (by have := (chk_cnt h).1; omega)

set_option maxHeartbeats 8000000 in
theorem u_Create (x d tb ob fb kb nb : Nat) (c : ClSt) (s : DSt) (token kind : Str) (v : Val) (hN : [x, d, tb, ob, fb].Nodup) (hkd : kind.length ≤ 140737488355328) (hst : 0 ≤ s.steps) (hst2 : s.steps ≤ 4611686018427387904) (hfu : -1 ≤ s.fuse) (hfu2 : s.fuse ≤ 9223372036854775807) (hca : 0 ≤ c.calls) (hca2 : c.calls ≤ 1000000) (hnx : 0 ≤ c.next) (hnx2 : c.next ≤ 1000000) (htl : c.things.length ≤ 1000000) (hol : c.tokens.length ≤ 1000000) (m : AMem)  (K : AV → AMem → Prop) (hK : K (.tuple [.int .i64 (createR c s token kind v).2.1, .err 108 (createR c s token kind v).2.2]) (AMem.wth m [(x, cObj d tb ob fb (createR c s token kind v).1.1), (d, dObj kb nb (createR c s token kind v).1.2), (tb, tObj (createR c s token kind v).1.1.things), (ob, oObj (createR c s token kind v).1.1.tokens), (fb, fObj (createR c s token kind v).1.1.fails)])) : ACalls Try.prog 48 [.ptr ⟨x, 0, none⟩, .str token, .str kind, valTop v] (AMem.wth m [(x, cObj d tb ob fb c), (d, .cells [.map kb, .map nb, .slice true (s.wait.map chgAV), .int .i64 s.fuse, .bool s.down, .int .i64 s.steps]), (tb, tObj c.things), (ob, oObj c.tokens), (fb, fObj c.fails)]) K := by
 refine acalls_enter Try.func48 rfl (by decide) (Nat.le_of_ble_eq_true rfl) ?_
 show AWP _ _ _ _ [(0, .ptr ⟨x, 0, none⟩), (1, .str token), (2, .str kind), (3, valTop v)] (AMem.wth m [(x, cObj d tb ob fb c), (d, .cells [.map kb, .map nb, .slice true (s.wait.map chgAV), .int .i64 s.fuse, .bool s.down, .int .i64 s.steps]), (tb, tObj c.things), (ob, oObj c.tokens), (fb, fObj c.fails)])
 refine awp_reg2_seq [] [0, 1, 2, 7] (by decide) ?_
 intro K1 hK1
 refine ar_box rfl (m := m) (L := [(x, cObj d tb ob fb c), (d, .cells [.map kb, .map nb, .slice true (s.wait.map chgAV), .int .i64 s.fuse, .bool s.down, .int .i64 s.steps]), (tb, tObj c.things), (ob, oObj c.tokens), (fb, fObj c.fails)]) (v := valTop v) (by rfl) rfl ?_
 intro b1 hb1
 have hFb1 : m b1 = none := wth_none hb1
 have hNb1 : ([b1, x, d, tb, ob, fb] : List Nat).Nodup := wth_nodup hb1 hN
 refine ⟨trivial, trivial, ?_⟩
 show K1 [(0, .ptr ⟨x, 0, none⟩), (1, .str token), (2, .str kind), (7, .ptr ⟨b1, 0, none⟩)] (AMem.wth m [(b1, .cells [.int .i64 v.kind, .int .i64 v.n, .str v.s, .slice false (v.l.map valIn), .slice false (v.f.map fldIn)]), (x, cObj d tb ob fb c), (d, .cells [.map kb, .map nb, .slice true (s.wait.map chgAV), .int .i64 s.fuse, .bool s.down, .int .i64 s.steps]), (tb, tObj c.things), (ob, oObj c.tokens), (fb, fObj c.fails)])
 refine hK1 _ _ ?_; clear hK1 K1
 refine awp_reg2_seq [] [0, 1, 2, 7, 10] (by decide) ?_
 intro K1 hK1
 refine ar_loadp rfl (v := .agg [.int .i64 v.kind, .int .i64 v.n, .str v.s, .slice false (v.l.map valIn), .slice false (v.f.map fldIn)]) rfl (wth_get 0 hNb1 rfl) rfl (apartOk_agg rfl rfl (Nat.le_of_ble_eq_true rfl)) rfl ?_
 refine u_attrs v _ _ ?_
 refine ⟨trivial, ?_⟩
 show K1 [(0, .ptr ⟨x, 0, none⟩), (1, .str token), (2, .str kind), (7, .ptr ⟨b1, 0, none⟩), (10, .err 108 (attrE v))] (AMem.wth m [(b1, .cells [.int .i64 v.kind, .int .i64 v.n, .str v.s, .slice false (v.l.map valIn), .slice false (v.f.map fldIn)]), (x, cObj d tb ob fb c), (d, .cells [.map kb, .map nb, .slice true (s.wait.map chgAV), .int .i64 s.fuse, .bool s.down, .int .i64 s.steps]), (tb, tObj c.things), (ob, oObj c.tokens), (fb, fObj c.fails)])
 refine hK1 _ _ ?_; clear hK1 K1
 refine awp_seq_k ?_; intro K2 hK2
 refine awp_reg2_seq [] [0, 1, 2, 7, 10, 17] (by decide) ?_
 intro K1 hK1
 refine ⟨trivial, ⟨rfl, rfl⟩, ?_⟩
 show K1 [(0, .ptr ⟨x, 0, none⟩), (1, .str token), (2, .str kind), (7, .ptr ⟨b1, 0, none⟩), (10, .err 108 (attrE v)), (17, .bool (!((attrE v) == 0)))] (AMem.wth m [(b1, .cells [.int .i64 v.kind, .int .i64 v.n, .str v.s, .slice false (v.l.map valIn), .slice false (v.f.map fldIn)]), (x, cObj d tb ob fb c), (d, .cells [.map kb, .map nb, .slice true (s.wait.map chgAV), .int .i64 s.fuse, .bool s.down, .int .i64 s.steps]), (tb, tObj c.things), (ob, oObj c.tokens), (fb, fObj c.fails)])
 refine hK1 _ _ ?_; clear hK1 K1
 refine awp_cond rfl rfl (fun h1 => ?_) (fun h1 => ?_)
 ·
  replace h1 : attrE v ≠ 0 := (ne_of_beq_false (bnT h1))
  refine awp_reg2_seq [] [8, 9] (by decide) ?_
  intro K1 hK1
  refine ⟨trivial, trivial, trivial, ?_⟩
  show K1 [(8, .int .i64 0), (9, .err 108 (attrE v))] (AMem.wth m [(b1, .cells [.int .i64 v.kind, .int .i64 v.n, .str v.s, .slice false (v.l.map valIn), .slice false (v.f.map fldIn)]), (x, cObj d tb ob fb c), (d, .cells [.map kb, .map nb, .slice true (s.wait.map chgAV), .int .i64 s.fuse, .bool s.down, .int .i64 s.steps]), (tb, tObj c.things), (ob, oObj c.tokens), (fb, fObj c.fails)])
  refine hK1 _ _ ?_; clear hK1 K1
  refine awp_ret ?_
  refine ⟨trivial, trivial, (AMem.wth m [(x, cObj d tb ob fb c), (d, .cells [.map kb, .map nb, .slice true (s.wait.map chgAV), .int .i64 s.fuse, .bool s.down, .int .i64 s.steps]), (tb, tObj c.things), (ob, oObj c.tokens), (fb, fObj c.fails)]), (wth_sub2 (m := m) [(b1, .cells [.int .i64 v.kind, .int .i64 v.n, .str v.s, .slice false (v.l.map valIn), .slice false (v.f.map fldIn)])] [(x, cObj d tb ob fb c), (d, .cells [.map kb, .map nb, .slice true (s.wait.map chgAV), .int .i64 s.fuse, .bool s.down, .int .i64 s.steps]), (tb, tObj c.things), (ob, oObj c.tokens), (fb, fObj c.fails)] hNb1 (by simp only [List.map_cons, List.map_nil, List.forall_mem_cons]; exact ⟨hFb1, fun _ h => by cases h⟩)), ?_⟩
  show K (.tuple [.int .i64 0, .err 108 (attrE v)]) (AMem.wth m [(x, cObj d tb ob fb c), (d, .cells [.map kb, .map nb, .slice true (s.wait.map chgAV), .int .i64 s.fuse, .bool s.down, .int .i64 s.steps]), (tb, tObj c.things), (ob, oObj c.tokens), (fb, fObj c.fails)])
 
  have e0 : createR c s token kind v = (((c, s), (0, attrE v)) : (ClSt × DSt) × (Int × Int)) := by
   first | exact createR_1 (by assumption) | exact createR_2 (by assumption) (by assumption) | exact createR_3 (by assumption) (by assumption) (by assumption) | exact createR_4 (by assumption) (by assumption) (by assumption) (by assumption) | exact createR_5 (by assumption) (by assumption) (by assumption) (by assumption)
  rw [e0] at hK
  exact hK
 replace h1 : attrE v = 0 := (eq_of_beq (bnF h1))
 refine awp_skip ?_
 refine hK2 _ _ ?_; clear hK2
 refine awp_seq_k ?_; intro K3 hK3
 refine awp_reg2_seq [] [0, 1, 2, 7, 21] (by decide) ?_
 intro K1 hK1
 refine ⟨trivial, ?_⟩
 refine u_VName kind (by first | exact hkd | omega) _ _ ?_
 refine ⟨trivial, ?_⟩
 show K1 [(0, .ptr ⟨x, 0, none⟩), (1, .str token), (2, .str kind), (7, .ptr ⟨b1, 0, none⟩), (21, .bool (!(nameV kind)))] (AMem.wth m [(b1, .cells [.int .i64 v.kind, .int .i64 v.n, .str v.s, .slice false (v.l.map valIn), .slice false (v.f.map fldIn)]), (x, cObj d tb ob fb c), (d, .cells [.map kb, .map nb, .slice true (s.wait.map chgAV), .int .i64 s.fuse, .bool s.down, .int .i64 s.steps]), (tb, tObj c.things), (ob, oObj c.tokens), (fb, fObj c.fails)])
 refine hK1 _ _ ?_; clear hK1 K1
 refine awp_cond rfl rfl (fun h2 => ?_) (fun h2 => ?_)
 ·
  replace h2 : nameV kind = false := (bnT h2)
  refine awp_reg2_seq [] [8, 9] (by decide) ?_
  intro K1 hK1
  refine ⟨trivial, trivial, trivial, ?_⟩
  show K1 [(8, .int .i64 0), (9, .iface 108 (.int .i64 3))] (AMem.wth m [(b1, .cells [.int .i64 v.kind, .int .i64 v.n, .str v.s, .slice false (v.l.map valIn), .slice false (v.f.map fldIn)]), (x, cObj d tb ob fb c), (d, .cells [.map kb, .map nb, .slice true (s.wait.map chgAV), .int .i64 s.fuse, .bool s.down, .int .i64 s.steps]), (tb, tObj c.things), (ob, oObj c.tokens), (fb, fObj c.fails)])
  refine hK1 _ _ ?_; clear hK1 K1
  refine awp_toErr 108 [9] ?_
  show AWP _ _ _ _ [(8, .int .i64 0), (9, .err 108 3)] (AMem.wth m [(b1, .cells [.int .i64 v.kind, .int .i64 v.n, .str v.s, .slice false (v.l.map valIn), .slice false (v.f.map fldIn)]), (x, cObj d tb ob fb c), (d, .cells [.map kb, .map nb, .slice true (s.wait.map chgAV), .int .i64 s.fuse, .bool s.down, .int .i64 s.steps]), (tb, tObj c.things), (ob, oObj c.tokens), (fb, fObj c.fails)])
  refine awp_ret ?_
  refine ⟨trivial, trivial, (AMem.wth m [(x, cObj d tb ob fb c), (d, .cells [.map kb, .map nb, .slice true (s.wait.map chgAV), .int .i64 s.fuse, .bool s.down, .int .i64 s.steps]), (tb, tObj c.things), (ob, oObj c.tokens), (fb, fObj c.fails)]), (wth_sub2 (m := m) [(b1, .cells [.int .i64 v.kind, .int .i64 v.n, .str v.s, .slice false (v.l.map valIn), .slice false (v.f.map fldIn)])] [(x, cObj d tb ob fb c), (d, .cells [.map kb, .map nb, .slice true (s.wait.map chgAV), .int .i64 s.fuse, .bool s.down, .int .i64 s.steps]), (tb, tObj c.things), (ob, oObj c.tokens), (fb, fObj c.fails)] hNb1 (by simp only [List.map_cons, List.map_nil, List.forall_mem_cons]; exact ⟨hFb1, fun _ h => by cases h⟩)), ?_⟩
  show K (.tuple [.int .i64 0, .err 108 3]) (AMem.wth m [(x, cObj d tb ob fb c), (d, .cells [.map kb, .map nb, .slice true (s.wait.map chgAV), .int .i64 s.fuse, .bool s.down, .int .i64 s.steps]), (tb, tObj c.things), (ob, oObj c.tokens), (fb, fObj c.fails)])
 
  have e0 : createR c s token kind v = (((c, s), (0, 3)) : (ClSt × DSt) × (Int × Int)) := by
   first | exact createR_1 (by assumption) | exact createR_2 (by assumption) (by assumption) | exact createR_3 (by assumption) (by assumption) (by assumption) | exact createR_4 (by assumption) (by assumption) (by assumption) (by assumption) | exact createR_5 (by assumption) (by assumption) (by assumption) (by assumption)
  rw [e0] at hK
  exact hK
 replace h2 : nameV kind = true := (bnF h2)
 refine awp_skip ?_
 refine hK3 _ _ ?_; clear hK3
 refine awp_reg2_seq [] [0, 1, 2, 7, 10, 11, 12] (by decide) ?_
 intro K1 hK1
 refine ⟨trivial, trivial, ?_⟩
 refine ar_mem (wth_split hNb1 (pick_perm [1, 1, 2, 2] _)) ?_
 refine u_callE x d tb ob fb kb nb c s token 1 (by simp at hN ⊢; omega) hst hst2 hfu hfu2 hca hca2 _ _ ?_
 show aopsR _ _ _ _ _ _ (AMem.wth (AMem.wth m [(b1, .cells [.int .i64 v.kind, .int .i64 v.n, .str v.s, .slice false (v.l.map valIn), .slice false (v.f.map fldIn)]), (tb, tObj c.things)]) [(x, .cells [.ptr ⟨d, 0, none⟩, .map tb, .map ob, .int .i64 c.next, .int .i64 c.quota, .int .i64 (ccalls c s token 1), .map fb]), (d, .cells [.map kb, .map nb, .slice true ((((stepF s).1).wait).map chgAV), .int .i64 (((stepF s).1).fuse), .bool (((stepF s).1).down), .int .i64 (((stepF s).1).steps)]), (ob, oObj c.tokens), (fb, fObj c.fails)])
 refine ar_mem (wth_split (m := m) (L := [(b1, .cells [.int .i64 v.kind, .int .i64 v.n, .str v.s, .slice false (v.l.map valIn), .slice false (v.f.map fldIn)]), (x, .cells [.ptr ⟨d, 0, none⟩, .map tb, .map ob, .int .i64 c.next, .int .i64 c.quota, .int .i64 (ccalls c s token 1), .map fb]), (d, .cells [.map kb, .map nb, .slice true ((((stepF s).1).wait).map chgAV), .int .i64 (((stepF s).1).fuse), .bool (((stepF s).1).down), .int .i64 (((stepF s).1).steps)]), (tb, tObj c.things), (ob, oObj c.tokens), (fb, fObj c.fails)]) hNb1 (pick_perm [1, 1, 2, 2] _)).symm ?_
 refine ⟨trivial, (Nat.le_of_ble_eq_true rfl), (Nat.le_of_ble_eq_true rfl), (Nat.le_of_ble_eq_true rfl), ?_⟩
 refine ar_alloc rfl (z := .agg [.int .i64 0, .int .i64 0]) rfl rfl ?_
 intro b2 hb2
 have hFb2 : m b2 = none := wth_none hb2
 have hNb2 : ([b2, b1, x, d, tb, ob, fb] : List Nat).Nodup := wth_nodup hb2 hNb1
 refine ar_storep rfl 0 (v := .agg [.int .i64 ((callT c s token 1).1.op), .int .i64 ((callT c s token 1).1.id)]) (l' := [.int .i64 ((callT c s token 1).1.op), .int .i64 ((callT c s token 1).1.id)]) rfl rfl hNb2 rfl rfl rfl rfl rfl (Nat.le_of_ble_eq_true rfl) rfl ?_
 refine ⟨trivial, trivial, ?_⟩
 show K1 [(0, .ptr ⟨x, 0, none⟩), (1, .str token), (2, .str kind), (7, .ptr ⟨b1, 0, none⟩), (10, .err 108 ((callT c s token 1).2.2)), (11, .ptr ⟨b2, 0, none⟩), (12, .bool ((callT c s token 1).2.1))] (AMem.wth m [(b2, .cells [.int .i64 ((callT c s token 1).1.op), .int .i64 ((callT c s token 1).1.id)]), (b1, .cells [.int .i64 v.kind, .int .i64 v.n, .str v.s, .slice false (v.l.map valIn), .slice false (v.f.map fldIn)]), (x, .cells [.ptr ⟨d, 0, none⟩, .map tb, .map ob, .int .i64 c.next, .int .i64 c.quota, .int .i64 (ccalls c s token 1), .map fb]), (d, .cells [.map kb, .map nb, .slice true ((((stepF s).1).wait).map chgAV), .int .i64 (((stepF s).1).fuse), .bool (((stepF s).1).down), .int .i64 (((stepF s).1).steps)]), (tb, tObj c.things), (ob, oObj c.tokens), (fb, fObj c.fails)])
 refine hK1 _ _ ?_; clear hK1 K1
 refine awp_seq_k ?_; intro K4 hK4
 refine awp_reg2_seq [] [0, 1, 2, 7, 10, 11, 34] (by decide) ?_
 intro K1 hK1
 suffices key : K1 [(0, .ptr ⟨x, 0, none⟩), (1, .str token), (2, .str kind), (7, .ptr ⟨b1, 0, none⟩), (10, .err 108 ((callT c s token 1).2.2)), (11, .ptr ⟨b2, 0, none⟩), (34, .bool ((!(((callT c s token 1).2.2) == 0)) || ((callT c s token 1).2.1)))] (AMem.wth m [(b2, .cells [.int .i64 ((callT c s token 1).1.op), .int .i64 ((callT c s token 1).1.id)]), (b1, .cells [.int .i64 v.kind, .int .i64 v.n, .str v.s, .slice false (v.l.map valIn), .slice false (v.f.map fldIn)]), (x, .cells [.ptr ⟨d, 0, none⟩, .map tb, .map ob, .int .i64 c.next, .int .i64 c.quota, .int .i64 (ccalls c s token 1), .map fb]), (d, .cells [.map kb, .map nb, .slice true ((((stepF s).1).wait).map chgAV), .int .i64 (((stepF s).1).fuse), .bool (((stepF s).1).down), .int .i64 (((stepF s).1).steps)]), (tb, tObj c.things), (ob, oObj c.tokens), (fb, fObj c.fails)]) by
  refine ⟨trivial, ⟨rfl, rfl⟩, trivial, ?_⟩
  show aopsR _ _ _ _ _ [(32, .bool (!(((callT c s token 1).2.2) == 0))), (31, .bool (!(((callT c s token 1).2.2) == 0))), (30, .err 108 ((callT c s token 1).2.2)), (0, .ptr ⟨x, 0, none⟩), (1, .str token), (2, .str kind), (7, .ptr ⟨b1, 0, none⟩), (10, .err 108 ((callT c s token 1).2.2)), (11, .ptr ⟨b2, 0, none⟩), (12, .bool ((callT c s token 1).2.1))] _
  revert key
  cases h3 : (((callT c s token 1).2.2) == 0)
  ·
   replace h3 : (callT c s token 1).2.2 ≠ 0 := (ne_of_beq_false h3)
   intro key
   refine ar_off rfl ?_
   exact key
  ·
   replace h3 : (callT c s token 1).2.2 = 0 := (eq_of_beq h3)
   intro key
   refine ⟨trivial, ?_⟩
   exact key
 refine hK1 _ _ ?_; clear hK1 K1
 refine awp_cond rfl rfl (fun h4 => ?_) (fun h4 => ?_)
 ·
  replace h4 : ((callT c s token 1).2.2 ≠ 0) ∨ ((callT c s token 1).2.1 = true) := ((borT h4).imp (fun q => (ne_of_beq_false (bnT q))) (fun q => q))
  refine awp_reg2_seq [] [8, 9] (by decide) ?_
  intro K1 hK1
  refine ⟨⟨rfl, by decide⟩, ?_⟩
  refine ar_loadp rfl (v := .int .i64 ((callT c s token 1).1.id)) rfl (wth_get 0 hNb2 rfl) rfl (apartOk_one rfl rfl (Nat.le_of_ble_eq_true rfl)) rfl ?_
  refine ⟨trivial, trivial, trivial, ?_⟩
  show K1 [(8, .int .i64 ((callT c s token 1).1.id)), (9, .err 108 ((callT c s token 1).2.2))] (AMem.wth m [(b2, .cells [.int .i64 ((callT c s token 1).1.op), .int .i64 ((callT c s token 1).1.id)]), (b1, .cells [.int .i64 v.kind, .int .i64 v.n, .str v.s, .slice false (v.l.map valIn), .slice false (v.f.map fldIn)]), (x, .cells [.ptr ⟨d, 0, none⟩, .map tb, .map ob, .int .i64 c.next, .int .i64 c.quota, .int .i64 (ccalls c s token 1), .map fb]), (d, .cells [.map kb, .map nb, .slice true ((((stepF s).1).wait).map chgAV), .int .i64 (((stepF s).1).fuse), .bool (((stepF s).1).down), .int .i64 (((stepF s).1).steps)]), (tb, tObj c.things), (ob, oObj c.tokens), (fb, fObj c.fails)])
  refine hK1 _ _ ?_; clear hK1 K1
  refine awp_ret ?_
  refine ⟨trivial, trivial, (AMem.wth m [(x, .cells [.ptr ⟨d, 0, none⟩, .map tb, .map ob, .int .i64 c.next, .int .i64 c.quota, .int .i64 (ccalls c s token 1), .map fb]), (d, .cells [.map kb, .map nb, .slice true ((((stepF s).1).wait).map chgAV), .int .i64 (((stepF s).1).fuse), .bool (((stepF s).1).down), .int .i64 (((stepF s).1).steps)]), (tb, tObj c.things), (ob, oObj c.tokens), (fb, fObj c.fails)]), (wth_sub2 (m := m) [(b2, .cells [.int .i64 ((callT c s token 1).1.op), .int .i64 ((callT c s token 1).1.id)]), (b1, .cells [.int .i64 v.kind, .int .i64 v.n, .str v.s, .slice false (v.l.map valIn), .slice false (v.f.map fldIn)])] [(x, .cells [.ptr ⟨d, 0, none⟩, .map tb, .map ob, .int .i64 c.next, .int .i64 c.quota, .int .i64 (ccalls c s token 1), .map fb]), (d, .cells [.map kb, .map nb, .slice true ((((stepF s).1).wait).map chgAV), .int .i64 (((stepF s).1).fuse), .bool (((stepF s).1).down), .int .i64 (((stepF s).1).steps)]), (tb, tObj c.things), (ob, oObj c.tokens), (fb, fObj c.fails)] hNb2 (by simp only [List.map_cons, List.map_nil, List.forall_mem_cons]; exact ⟨hFb2, hFb1, fun _ h => by cases h⟩)), ?_⟩
  show K (.tuple [.int .i64 ((callT c s token 1).1.id), .err 108 ((callT c s token 1).2.2)]) (AMem.wth m [(x, .cells [.ptr ⟨d, 0, none⟩, .map tb, .map ob, .int .i64 c.next, .int .i64 c.quota, .int .i64 (ccalls c s token 1), .map fb]), (d, .cells [.map kb, .map nb, .slice true ((((stepF s).1).wait).map chgAV), .int .i64 (((stepF s).1).fuse), .bool (((stepF s).1).down), .int .i64 (((stepF s).1).steps)]), (tb, tObj c.things), (ob, oObj c.tokens), (fb, fObj c.fails)])
 
  have e0 : createR c s token kind v = ((((⟨c.things, c.tokens, c.next, c.quota, ccalls c s token 1, c.fails⟩ : ClSt), (stepF s).1), ((callT c s token 1).1.id, (callT c s token 1).2.2)) : (ClSt × DSt) × (Int × Int)) := by
   first | exact createR_1 (by assumption) | exact createR_2 (by assumption) (by assumption) | exact createR_3 (by assumption) (by assumption) (by assumption) | exact createR_4 (by assumption) (by assumption) (by assumption) (by assumption) | exact createR_5 (by assumption) (by assumption) (by assumption) (by assumption)
  rw [e0] at hK
  exact hK
 replace h4 : ((callT c s token 1).2.2 = 0) ∧ ((callT c s token 1).2.1 = false) := ⟨(eq_of_beq (bnF (borL h4))), (borR h4)⟩
 refine awp_skip ?_
 refine hK4 _ _ ?_; clear hK4
 refine awp_seq_k ?_; intro K5 hK5
 refine awp_draw_seq Try.mixed [] [0, 1, 2, 7, 47] (by decide) (by decide) ?_
 intro K1 hK1
 refine ⟨trivial, trivial, ⟨rfl, by decide⟩, ?_⟩
 refine pq_loadp rfl (v := .map tb) rfl (wth_get 2 hNb2 rfl) (apartOk_one rfl rfl (Nat.le_of_ble_eq_true rfl)) rfl ?_
 refine pq_lenMap rfl (m := m) (L := [(b2, .cells [.int .i64 ((callT c s token 1).1.op), .int .i64 ((callT c s token 1).1.id)]), (b1, .cells [.int .i64 v.kind, .int .i64 v.n, .str v.s, .slice false (v.l.map valIn), .slice false (v.f.map fldIn)]), (x, .cells [.ptr ⟨d, 0, none⟩, .map tb, .map ob, .int .i64 c.next, .int .i64 c.quota, .int .i64 (ccalls c s token 1), .map fb]), (d, .cells [.map kb, .map nb, .slice true ((((stepF s).1).wait).map chgAV), .int .i64 (((stepF s).1).fuse), .bool (((stepF s).1).down), .int .i64 (((stepF s).1).steps)]), (tb, tObj c.things), (ob, oObj c.tokens), (fb, fObj c.fails)]) (mapAV intAV thgAV) c.things rfl rfl (wth_get 4 hNb2 rfl) ?_
 refine ⟨trivial, trivial, ⟨rfl, by decide⟩, ?_⟩
 refine pq_loadp rfl (v := .int .i64 c.quota) rfl (wth_get 2 hNb2 rfl) (apartOk_one rfl rfl (Nat.le_of_ble_eq_true rfl)) rfl ?_
 refine ⟨trivial, ?_⟩
 show K1 [(0, .ptr ⟨x, 0, none⟩), (1, .str token), (2, .str kind), (7, .ptr ⟨b1, 0, none⟩), (47, .bool (decide (c.quota ≤ (c.things.length : Int))))] (AMem.wth m [(b2, .cells [.int .i64 ((callT c s token 1).1.op), .int .i64 ((callT c s token 1).1.id)]), (b1, .cells [.int .i64 v.kind, .int .i64 v.n, .str v.s, .slice false (v.l.map valIn), .slice false (v.f.map fldIn)]), (x, .cells [.ptr ⟨d, 0, none⟩, .map tb, .map ob, .int .i64 c.next, .int .i64 c.quota, .int .i64 (ccalls c s token 1), .map fb]), (d, .cells [.map kb, .map nb, .slice true ((((stepF s).1).wait).map chgAV), .int .i64 (((stepF s).1).fuse), .bool (((stepF s).1).down), .int .i64 (((stepF s).1).steps)]), (tb, tObj c.things), (ob, oObj c.tokens), (fb, fObj c.fails)])
 refine hK1 _ _ ?_; clear hK1 K1
 refine awp_cond rfl rfl (fun h5 => ?_) (fun h5 => ?_)
 ·
  replace h5 : c.quota ≤ (c.things.length : Int) := (of_decide_eq_true h5)
  refine awp_reg2_seq [] [8, 9] (by decide) ?_
  intro K1 hK1
  refine ⟨trivial, trivial, trivial, ?_⟩
  show K1 [(8, .int .i64 0), (9, .iface 108 (.int .i64 13))] (AMem.wth m [(b2, .cells [.int .i64 ((callT c s token 1).1.op), .int .i64 ((callT c s token 1).1.id)]), (b1, .cells [.int .i64 v.kind, .int .i64 v.n, .str v.s, .slice false (v.l.map valIn), .slice false (v.f.map fldIn)]), (x, .cells [.ptr ⟨d, 0, none⟩, .map tb, .map ob, .int .i64 c.next, .int .i64 c.quota, .int .i64 (ccalls c s token 1), .map fb]), (d, .cells [.map kb, .map nb, .slice true ((((stepF s).1).wait).map chgAV), .int .i64 (((stepF s).1).fuse), .bool (((stepF s).1).down), .int .i64 (((stepF s).1).steps)]), (tb, tObj c.things), (ob, oObj c.tokens), (fb, fObj c.fails)])
  refine hK1 _ _ ?_; clear hK1 K1
  refine awp_toErr 108 [9] ?_
  show AWP _ _ _ _ [(8, .int .i64 0), (9, .err 108 13)] (AMem.wth m [(b2, .cells [.int .i64 ((callT c s token 1).1.op), .int .i64 ((callT c s token 1).1.id)]), (b1, .cells [.int .i64 v.kind, .int .i64 v.n, .str v.s, .slice false (v.l.map valIn), .slice false (v.f.map fldIn)]), (x, .cells [.ptr ⟨d, 0, none⟩, .map tb, .map ob, .int .i64 c.next, .int .i64 c.quota, .int .i64 (ccalls c s token 1), .map fb]), (d, .cells [.map kb, .map nb, .slice true ((((stepF s).1).wait).map chgAV), .int .i64 (((stepF s).1).fuse), .bool (((stepF s).1).down), .int .i64 (((stepF s).1).steps)]), (tb, tObj c.things), (ob, oObj c.tokens), (fb, fObj c.fails)])
  refine awp_ret ?_
  refine ⟨trivial, trivial, (AMem.wth m [(x, .cells [.ptr ⟨d, 0, none⟩, .map tb, .map ob, .int .i64 c.next, .int .i64 c.quota, .int .i64 (ccalls c s token 1), .map fb]), (d, .cells [.map kb, .map nb, .slice true ((((stepF s).1).wait).map chgAV), .int .i64 (((stepF s).1).fuse), .bool (((stepF s).1).down), .int .i64 (((stepF s).1).steps)]), (tb, tObj c.things), (ob, oObj c.tokens), (fb, fObj c.fails)]), (wth_sub2 (m := m) [(b2, .cells [.int .i64 ((callT c s token 1).1.op), .int .i64 ((callT c s token 1).1.id)]), (b1, .cells [.int .i64 v.kind, .int .i64 v.n, .str v.s, .slice false (v.l.map valIn), .slice false (v.f.map fldIn)])] [(x, .cells [.ptr ⟨d, 0, none⟩, .map tb, .map ob, .int .i64 c.next, .int .i64 c.quota, .int .i64 (ccalls c s token 1), .map fb]), (d, .cells [.map kb, .map nb, .slice true ((((stepF s).1).wait).map chgAV), .int .i64 (((stepF s).1).fuse), .bool (((stepF s).1).down), .int .i64 (((stepF s).1).steps)]), (tb, tObj c.things), (ob, oObj c.tokens), (fb, fObj c.fails)] hNb2 (by simp only [List.map_cons, List.map_nil, List.forall_mem_cons]; exact ⟨hFb2, hFb1, fun _ h => by cases h⟩)), ?_⟩
  show K (.tuple [.int .i64 0, .err 108 13]) (AMem.wth m [(x, .cells [.ptr ⟨d, 0, none⟩, .map tb, .map ob, .int .i64 c.next, .int .i64 c.quota, .int .i64 (ccalls c s token 1), .map fb]), (d, .cells [.map kb, .map nb, .slice true ((((stepF s).1).wait).map chgAV), .int .i64 (((stepF s).1).fuse), .bool (((stepF s).1).down), .int .i64 (((stepF s).1).steps)]), (tb, tObj c.things), (ob, oObj c.tokens), (fb, fObj c.fails)])
 
  have e0 : createR c s token kind v = ((((⟨c.things, c.tokens, c.next, c.quota, ccalls c s token 1, c.fails⟩ : ClSt), (stepF s).1), (0, 13)) : (ClSt × DSt) × (Int × Int)) := by
   first | exact createR_1 (by assumption) | exact createR_2 (by assumption) (by assumption) | exact createR_3 (by assumption) (by assumption) (by assumption) | exact createR_4 (by assumption) (by assumption) (by assumption) (by assumption) | exact createR_5 (by assumption) (by assumption) (by assumption) (by assumption)
  rw [e0] at hK
  exact hK
 replace h5 : (c.things.length : Int) < c.quota := (Int.not_le.1 (of_decide_eq_false h5))
 refine awp_skip ?_
 refine hK5 _ _ ?_; clear hK5
 refine awp_reg2_seq [] [0, 1, 2, 7, 13] (by decide) ?_
 intro K1 hK1
 refine ⟨trivial, trivial, ⟨rfl, by decide⟩, ?_⟩
 refine ar_loadp rfl (v := .int .i64 c.next) rfl (wth_get 2 hNb2 rfl) rfl (apartOk_one rfl rfl (Nat.le_of_ble_eq_true rfl)) rfl ?_
 refine ⟨trivial, ?_⟩
 show K1 [(0, .ptr ⟨x, 0, none⟩), (1, .str token), (2, .str kind), (7, .ptr ⟨b1, 0, none⟩), (13, .int .i64 c.next)] (AMem.wth m [(b2, .cells [.int .i64 ((callT c s token 1).1.op), .int .i64 ((callT c s token 1).1.id)]), (b1, .cells [.int .i64 v.kind, .int .i64 v.n, .str v.s, .slice false (v.l.map valIn), .slice false (v.f.map fldIn)]), (x, .cells [.ptr ⟨d, 0, none⟩, .map tb, .map ob, .int .i64 c.next, .int .i64 c.quota, .int .i64 (ccalls c s token 1), .map fb]), (d, .cells [.map kb, .map nb, .slice true ((((stepF s).1).wait).map chgAV), .int .i64 (((stepF s).1).fuse), .bool (((stepF s).1).down), .int .i64 (((stepF s).1).steps)]), (tb, tObj c.things), (ob, oObj c.tokens), (fb, fObj c.fails)])
 refine hK1 _ _ ?_; clear hK1 K1
 refine awp_reg2_seq [] [0, 1, 2, 7, 13] (by decide) ?_
 intro K1 hK1
 refine ⟨trivial, trivial, ⟨rfl, by decide⟩, ?_⟩
 refine ar_loadp rfl (v := .int .i64 c.next) rfl (wth_get 2 hNb2 rfl) rfl (apartOk_one rfl rfl (Nat.le_of_ble_eq_true rfl)) rfl ?_
 refine ar_add rfl (a := c.next) (b := 1) rfl rfl (by omega) (by omega) ?_
 refine ⟨trivial, ⟨rfl, by decide⟩, ?_⟩
 refine ar_storep rfl 2 (v := .int .i64 (c.next + 1)) (l' := [.ptr ⟨d, 0, none⟩, .map tb, .map ob, .int .i64 (c.next + 1), .int .i64 c.quota, .int .i64 (ccalls c s token 1), .map fb]) rfl rfl hNb2 rfl rfl rfl rfl rfl (Nat.le_of_ble_eq_true rfl) rfl ?_
 show K1 [(0, .ptr ⟨x, 0, none⟩), (1, .str token), (2, .str kind), (7, .ptr ⟨b1, 0, none⟩), (13, .int .i64 c.next)] (AMem.wth m [(b2, .cells [.int .i64 ((callT c s token 1).1.op), .int .i64 ((callT c s token 1).1.id)]), (b1, .cells [.int .i64 v.kind, .int .i64 v.n, .str v.s, .slice false (v.l.map valIn), .slice false (v.f.map fldIn)]), (x, .cells [.ptr ⟨d, 0, none⟩, .map tb, .map ob, .int .i64 (c.next + 1), .int .i64 c.quota, .int .i64 (ccalls c s token 1), .map fb]), (d, .cells [.map kb, .map nb, .slice true ((((stepF s).1).wait).map chgAV), .int .i64 (((stepF s).1).fuse), .bool (((stepF s).1).down), .int .i64 (((stepF s).1).steps)]), (tb, tObj c.things), (ob, oObj c.tokens), (fb, fObj c.fails)])
 refine hK1 _ _ ?_; clear hK1 K1
 refine awp_draw_tail2_seq Try.mixed 10 [] [(valTop v)] [] [0, 1, 13] (by decide) (by decide) ?_
 intro K1 hK1
 refine ⟨trivial, trivial, ⟨rfl, by decide⟩, ?_⟩
 refine pq_loadp rfl (v := .map tb) rfl (wth_get 2 hNb2 rfl) (apartOk_one rfl rfl (Nat.le_of_ble_eq_true rfl)) rfl ?_
 refine ⟨trivial, trivial, trivial, ?_⟩
 refine pq_loadp rfl (v := .agg [.int .i64 v.kind, .int .i64 v.n, .str v.s, .slice false (v.l.map valIn), .slice false (v.f.map fldIn)]) rfl (wth_get 1 hNb2 rfl) (apartOk_agg rfl rfl (Nat.le_of_ble_eq_true rfl)) rfl ?_
 refine ⟨(fun Kc hKc => u_Copy v (chk_okV (attrE_0 (by assumption))) _ Kc hKc), ⟨rfl, by simp only [List.forall_mem_cons]; exact ⟨rfl, rfl, rfl, fun _ h => by cases h⟩, by simp only [List.forall_mem_cons]; exact ⟨rfl, rfl, rfl, fun _ h => by cases h⟩⟩, ?_⟩
 show aopsR _ _ _ _ _ [(69, .agg [.int .i64 c.next, .str kind, .int .i64 v.kind, .int .i64 v.n, .str v.s, .slice false (v.l.map valIn), .slice false (v.f.map fldIn)]), (68, valTop v), (67, .agg [.int .i64 v.kind, .int .i64 v.n, .str v.s, .slice false (v.l.map valIn), .slice false (v.f.map fldIn)]), (66, .str kind), (65, .int .i64 c.next), (64, .int .i64 c.next), (63, .map tb), (62, .ptr ⟨x, 1, none⟩), (61, .ptr ⟨x, 0, none⟩), (60, .ptr ⟨x, 0, none⟩), (0, .ptr ⟨x, 0, none⟩), (1, .str token), (2, .str kind), (7, .ptr ⟨b1, 0, none⟩), (13, .int .i64 c.next)] _
 refine ar_mapUpdate rfl (m := m) (L := [(b2, .cells [.int .i64 ((callT c s token 1).1.op), .int .i64 ((callT c s token 1).1.id)]), (b1, .cells [.int .i64 v.kind, .int .i64 v.n, .str v.s, .slice false (v.l.map valIn), .slice false (v.f.map fldIn)]), (x, .cells [.ptr ⟨d, 0, none⟩, .map tb, .map ob, .int .i64 (c.next + 1), .int .i64 c.quota, .int .i64 (ccalls c s token 1), .map fb]), (d, .cells [.map kb, .map nb, .slice true ((((stepF s).1).wait).map chgAV), .int .i64 (((stepF s).1).fuse), .bool (((stepF s).1).down), .int .i64 (((stepF s).1).steps)]), (tb, tObj c.things), (ob, oObj c.tokens), (fb, fObj c.fails)]) 4 intAV thgAV intKey_ok c.things c.next (⟨c.next, kind, v⟩ : Thg) rfl rfl rfl rfl rfl rfl hNb2 (by first | (have := mput_len c.things c.next ⟨c.next, kind, v⟩; omega) | (have := mput_len c.tokens token ⟨1, c.next⟩; omega)) ?_
 show K1 [(0, .ptr ⟨x, 0, none⟩), (1, .str token), (13, .int .i64 c.next)] (AMem.wth m [(b2, .cells [.int .i64 ((callT c s token 1).1.op), .int .i64 ((callT c s token 1).1.id)]), (b1, .cells [.int .i64 v.kind, .int .i64 v.n, .str v.s, .slice false (v.l.map valIn), .slice false (v.f.map fldIn)]), (x, .cells [.ptr ⟨d, 0, none⟩, .map tb, .map ob, .int .i64 (c.next + 1), .int .i64 c.quota, .int .i64 (ccalls c s token 1), .map fb]), (d, .cells [.map kb, .map nb, .slice true ((((stepF s).1).wait).map chgAV), .int .i64 (((stepF s).1).fuse), .bool (((stepF s).1).down), .int .i64 (((stepF s).1).steps)]), (tb, tObj (mput c.things c.next (⟨c.next, kind, v⟩ : Thg))), (ob, oObj c.tokens), (fb, fObj c.fails)])
 refine hK1 _ _ ?_; clear hK1 K1
 refine awp_reg2_seq [] [13] (by decide) ?_
 intro K1 hK1
 refine ⟨trivial, trivial, ⟨rfl, by decide⟩, ?_⟩
 refine ar_loadp rfl (v := .map ob) rfl (wth_get 2 hNb2 rfl) rfl (apartOk_one rfl rfl (Nat.le_of_ble_eq_true rfl)) rfl ?_
 refine ⟨trivial, trivial, ⟨rfl, by simp only [List.forall_mem_cons]; exact ⟨rfl, rfl, fun _ h => by cases h⟩, by simp only [List.forall_mem_cons]; exact ⟨rfl, rfl, fun _ h => by cases h⟩⟩, ?_⟩
 refine ar_mapUpdate rfl (m := m) (L := [(b2, .cells [.int .i64 ((callT c s token 1).1.op), .int .i64 ((callT c s token 1).1.id)]), (b1, .cells [.int .i64 v.kind, .int .i64 v.n, .str v.s, .slice false (v.l.map valIn), .slice false (v.f.map fldIn)]), (x, .cells [.ptr ⟨d, 0, none⟩, .map tb, .map ob, .int .i64 (c.next + 1), .int .i64 c.quota, .int .i64 (ccalls c s token 1), .map fb]), (d, .cells [.map kb, .map nb, .slice true ((((stepF s).1).wait).map chgAV), .int .i64 (((stepF s).1).fuse), .bool (((stepF s).1).down), .int .i64 (((stepF s).1).steps)]), (tb, tObj (mput c.things c.next (⟨c.next, kind, v⟩ : Thg))), (ob, oObj c.tokens), (fb, fObj c.fails)]) 5 strAV dnAV strKey_ok c.tokens token (⟨1, c.next⟩ : Dn) rfl rfl rfl rfl rfl rfl hNb2 (by first | (have := mput_len c.things c.next ⟨c.next, kind, v⟩; omega) | (have := mput_len c.tokens token ⟨1, c.next⟩; omega)) ?_
 show K1 [(13, .int .i64 c.next)] (AMem.wth m [(b2, .cells [.int .i64 ((callT c s token 1).1.op), .int .i64 ((callT c s token 1).1.id)]), (b1, .cells [.int .i64 v.kind, .int .i64 v.n, .str v.s, .slice false (v.l.map valIn), .slice false (v.f.map fldIn)]), (x, .cells [.ptr ⟨d, 0, none⟩, .map tb, .map ob, .int .i64 (c.next + 1), .int .i64 c.quota, .int .i64 (ccalls c s token 1), .map fb]), (d, .cells [.map kb, .map nb, .slice true ((((stepF s).1).wait).map chgAV), .int .i64 (((stepF s).1).fuse), .bool (((stepF s).1).down), .int .i64 (((stepF s).1).steps)]), (tb, tObj (mput c.things c.next (⟨c.next, kind, v⟩ : Thg))), (ob, oObj (mput c.tokens token (⟨1, c.next⟩ : Dn))), (fb, fObj c.fails)])
 refine hK1 _ _ ?_; clear hK1 K1
 refine awp_reg2_seq [] [8, 9] (by decide) ?_
 intro K1 hK1
 refine ⟨trivial, trivial, trivial, ?_⟩
 show K1 [(8, .int .i64 c.next), (9, .nilIface)] (AMem.wth m [(b2, .cells [.int .i64 ((callT c s token 1).1.op), .int .i64 ((callT c s token 1).1.id)]), (b1, .cells [.int .i64 v.kind, .int .i64 v.n, .str v.s, .slice false (v.l.map valIn), .slice false (v.f.map fldIn)]), (x, .cells [.ptr ⟨d, 0, none⟩, .map tb, .map ob, .int .i64 (c.next + 1), .int .i64 c.quota, .int .i64 (ccalls c s token 1), .map fb]), (d, .cells [.map kb, .map nb, .slice true ((((stepF s).1).wait).map chgAV), .int .i64 (((stepF s).1).fuse), .bool (((stepF s).1).down), .int .i64 (((stepF s).1).steps)]), (tb, tObj (mput c.things c.next (⟨c.next, kind, v⟩ : Thg))), (ob, oObj (mput c.tokens token (⟨1, c.next⟩ : Dn))), (fb, fObj c.fails)])
 refine hK1 _ _ ?_; clear hK1 K1
 refine awp_toErr 108 [9] ?_
 show AWP _ _ _ _ [(8, .int .i64 c.next), (9, .err 108 0)] (AMem.wth m [(b2, .cells [.int .i64 ((callT c s token 1).1.op), .int .i64 ((callT c s token 1).1.id)]), (b1, .cells [.int .i64 v.kind, .int .i64 v.n, .str v.s, .slice false (v.l.map valIn), .slice false (v.f.map fldIn)]), (x, .cells [.ptr ⟨d, 0, none⟩, .map tb, .map ob, .int .i64 (c.next + 1), .int .i64 c.quota, .int .i64 (ccalls c s token 1), .map fb]), (d, .cells [.map kb, .map nb, .slice true ((((stepF s).1).wait).map chgAV), .int .i64 (((stepF s).1).fuse), .bool (((stepF s).1).down), .int .i64 (((stepF s).1).steps)]), (tb, tObj (mput c.things c.next (⟨c.next, kind, v⟩ : Thg))), (ob, oObj (mput c.tokens token (⟨1, c.next⟩ : Dn))), (fb, fObj c.fails)])
 refine awp_ret ?_
 refine ⟨trivial, trivial, (AMem.wth m [(x, .cells [.ptr ⟨d, 0, none⟩, .map tb, .map ob, .int .i64 (c.next + 1), .int .i64 c.quota, .int .i64 (ccalls c s token 1), .map fb]), (d, .cells [.map kb, .map nb, .slice true ((((stepF s).1).wait).map chgAV), .int .i64 (((stepF s).1).fuse), .bool (((stepF s).1).down), .int .i64 (((stepF s).1).steps)]), (tb, tObj (mput c.things c.next (⟨c.next, kind, v⟩ : Thg))), (ob, oObj (mput c.tokens token (⟨1, c.next⟩ : Dn))), (fb, fObj c.fails)]), (wth_sub2 (m := m) [(b2, .cells [.int .i64 ((callT c s token 1).1.op), .int .i64 ((callT c s token 1).1.id)]), (b1, .cells [.int .i64 v.kind, .int .i64 v.n, .str v.s, .slice false (v.l.map valIn), .slice false (v.f.map fldIn)])] [(x, .cells [.ptr ⟨d, 0, none⟩, .map tb, .map ob, .int .i64 (c.next + 1), .int .i64 c.quota, .int .i64 (ccalls c s token 1), .map fb]), (d, .cells [.map kb, .map nb, .slice true ((((stepF s).1).wait).map chgAV), .int .i64 (((stepF s).1).fuse), .bool (((stepF s).1).down), .int .i64 (((stepF s).1).steps)]), (tb, tObj (mput c.things c.next (⟨c.next, kind, v⟩ : Thg))), (ob, oObj (mput c.tokens token (⟨1, c.next⟩ : Dn))), (fb, fObj c.fails)] hNb2 (by simp only [List.map_cons, List.map_nil, List.forall_mem_cons]; exact ⟨hFb2, hFb1, fun _ h => by cases h⟩)), ?_⟩
 show K (.tuple [.int .i64 c.next, .err 108 0]) (AMem.wth m [(x, .cells [.ptr ⟨d, 0, none⟩, .map tb, .map ob, .int .i64 (c.next + 1), .int .i64 c.quota, .int .i64 (ccalls c s token 1), .map fb]), (d, .cells [.map kb, .map nb, .slice true ((((stepF s).1).wait).map chgAV), .int .i64 (((stepF s).1).fuse), .bool (((stepF s).1).down), .int .i64 (((stepF s).1).steps)]), (tb, tObj (mput c.things c.next (⟨c.next, kind, v⟩ : Thg))), (ob, oObj (mput c.tokens token (⟨1, c.next⟩ : Dn))), (fb, fObj c.fails)])

 have e0 : createR c s token kind v = ((((⟨mput c.things c.next (⟨c.next, kind, v⟩ : Thg), mput c.tokens token (⟨1, c.next⟩ : Dn), c.next + 1, c.quota, ccalls c s token 1, c.fails⟩ : ClSt), (stepF s).1), (c.next, 0)) : (ClSt × DSt) × (Int × Int)) := by
  first | exact createR_1 (by assumption) | exact createR_2 (by assumption) (by assumption) | exact createR_3 (by assumption) (by assumption) (by assumption) | exact createR_4 (by assumption) (by assumption) (by assumption) (by assumption) | exact createR_5 (by assumption) (by assumption) (by assumption) (by assumption)
 rw [e0] at hK
 exact hK

set_option maxHeartbeats 8000000 in
theorem u_Update (x d tb ob fb kb nb : Nat) (c : ClSt) (s : DSt) (token : Str) (id : Int) (v : Val) (hN : [x, d, tb, ob, fb].Nodup) (hst : 0 ≤ s.steps) (hst2 : s.steps ≤ 4611686018427387904) (hfu : -1 ≤ s.fuse) (hfu2 : s.fuse ≤ 9223372036854775807) (hca : 0 ≤ c.calls) (hca2 : c.calls ≤ 1000000) (hnx : 0 ≤ c.next) (hnx2 : c.next ≤ 1000000) (htl : c.things.length ≤ 1000000) (hol : c.tokens.length ≤ 1000000) (m : AMem)  (K : AV → AMem → Prop) (hK : K (.err 108 (updateR c s token id v).2) (AMem.wth m [(x, cObj d tb ob fb (updateR c s token id v).1.1), (d, dObj kb nb (updateR c s token id v).1.2), (tb, tObj (updateR c s token id v).1.1.things), (ob, oObj (updateR c s token id v).1.1.tokens), (fb, fObj (updateR c s token id v).1.1.fails)])) : ACalls Try.prog 50 [.ptr ⟨x, 0, none⟩, .str token, .int .i64 id, valTop v] (AMem.wth m [(x, cObj d tb ob fb c), (d, .cells [.map kb, .map nb, .slice true (s.wait.map chgAV), .int .i64 s.fuse, .bool s.down, .int .i64 s.steps]), (tb, tObj c.things), (ob, oObj c.tokens), (fb, fObj c.fails)]) K := by
 refine acalls_enter Try.func50 rfl (by decide) (Nat.le_of_ble_eq_true rfl) ?_
 show AWP _ _ _ _ [(0, .ptr ⟨x, 0, none⟩), (1, .str token), (2, .int .i64 id), (3, valTop v)] (AMem.wth m [(x, cObj d tb ob fb c), (d, .cells [.map kb, .map nb, .slice true (s.wait.map chgAV), .int .i64 s.fuse, .bool s.down, .int .i64 s.steps]), (tb, tObj c.things), (ob, oObj c.tokens), (fb, fObj c.fails)])
 refine awp_reg2_seq [] [0, 1, 2, 7] (by decide) ?_
 intro K1 hK1
 refine ar_box rfl (m := m) (L := [(x, cObj d tb ob fb c), (d, .cells [.map kb, .map nb, .slice true (s.wait.map chgAV), .int .i64 s.fuse, .bool s.down, .int .i64 s.steps]), (tb, tObj c.things), (ob, oObj c.tokens), (fb, fObj c.fails)]) (v := valTop v) (by rfl) rfl ?_
 intro b1 hb1
 have hFb1 : m b1 = none := wth_none hb1
 have hNb1 : ([b1, x, d, tb, ob, fb] : List Nat).Nodup := wth_nodup hb1 hN
 refine ⟨trivial, ?_⟩
 show K1 [(0, .ptr ⟨x, 0, none⟩), (1, .str token), (2, .int .i64 id), (7, .ptr ⟨b1, 0, none⟩)] (AMem.wth m [(b1, .cells [.int .i64 v.kind, .int .i64 v.n, .str v.s, .slice false (v.l.map valIn), .slice false (v.f.map fldIn)]), (x, cObj d tb ob fb c), (d, .cells [.map kb, .map nb, .slice true (s.wait.map chgAV), .int .i64 s.fuse, .bool s.down, .int .i64 s.steps]), (tb, tObj c.things), (ob, oObj c.tokens), (fb, fObj c.fails)])
 refine hK1 _ _ ?_; clear hK1 K1
 refine awp_reg2_seq [] [0, 1, 2, 7, 9] (by decide) ?_
 intro K1 hK1
 refine ar_loadp rfl (v := .agg [.int .i64 v.kind, .int .i64 v.n, .str v.s, .slice false (v.l.map valIn), .slice false (v.f.map fldIn)]) rfl (wth_get 0 hNb1 rfl) rfl (apartOk_agg rfl rfl (Nat.le_of_ble_eq_true rfl)) rfl ?_
 refine u_attrs v _ _ ?_
 refine ⟨trivial, ?_⟩
 show K1 [(0, .ptr ⟨x, 0, none⟩), (1, .str token), (2, .int .i64 id), (7, .ptr ⟨b1, 0, none⟩), (9, .err 108 (attrE v))] (AMem.wth m [(b1, .cells [.int .i64 v.kind, .int .i64 v.n, .str v.s, .slice false (v.l.map valIn), .slice false (v.f.map fldIn)]), (x, cObj d tb ob fb c), (d, .cells [.map kb, .map nb, .slice true (s.wait.map chgAV), .int .i64 s.fuse, .bool s.down, .int .i64 s.steps]), (tb, tObj c.things), (ob, oObj c.tokens), (fb, fObj c.fails)])
 refine hK1 _ _ ?_; clear hK1 K1
 refine awp_seq_k ?_; intro K2 hK2
 refine awp_reg2_seq [] [0, 1, 2, 7, 9, 17] (by decide) ?_
 intro K1 hK1
 refine ⟨trivial, ⟨rfl, rfl⟩, ?_⟩
 show K1 [(0, .ptr ⟨x, 0, none⟩), (1, .str token), (2, .int .i64 id), (7, .ptr ⟨b1, 0, none⟩), (9, .err 108 (attrE v)), (17, .bool (!((attrE v) == 0)))] (AMem.wth m [(b1, .cells [.int .i64 v.kind, .int .i64 v.n, .str v.s, .slice false (v.l.map valIn), .slice false (v.f.map fldIn)]), (x, cObj d tb ob fb c), (d, .cells [.map kb, .map nb, .slice true (s.wait.map chgAV), .int .i64 s.fuse, .bool s.down, .int .i64 s.steps]), (tb, tObj c.things), (ob, oObj c.tokens), (fb, fObj c.fails)])
 refine hK1 _ _ ?_; clear hK1 K1
 refine awp_cond rfl rfl (fun h1 => ?_) (fun h1 => ?_)
 ·
  replace h1 : attrE v ≠ 0 := (ne_of_beq_false (bnT h1))
  refine awp_reg2_seq [] [8] (by decide) ?_
  intro K1 hK1
  refine ⟨trivial, trivial, ?_⟩
  show K1 [(8, .err 108 (attrE v))] (AMem.wth m [(b1, .cells [.int .i64 v.kind, .int .i64 v.n, .str v.s, .slice false (v.l.map valIn), .slice false (v.f.map fldIn)]), (x, cObj d tb ob fb c), (d, .cells [.map kb, .map nb, .slice true (s.wait.map chgAV), .int .i64 s.fuse, .bool s.down, .int .i64 s.steps]), (tb, tObj c.things), (ob, oObj c.tokens), (fb, fObj c.fails)])
  refine hK1 _ _ ?_; clear hK1 K1
  refine awp_ret ?_
  refine ⟨trivial, (AMem.wth m [(x, cObj d tb ob fb c), (d, .cells [.map kb, .map nb, .slice true (s.wait.map chgAV), .int .i64 s.fuse, .bool s.down, .int .i64 s.steps]), (tb, tObj c.things), (ob, oObj c.tokens), (fb, fObj c.fails)]), (wth_sub2 (m := m) [(b1, .cells [.int .i64 v.kind, .int .i64 v.n, .str v.s, .slice false (v.l.map valIn), .slice false (v.f.map fldIn)])] [(x, cObj d tb ob fb c), (d, .cells [.map kb, .map nb, .slice true (s.wait.map chgAV), .int .i64 s.fuse, .bool s.down, .int .i64 s.steps]), (tb, tObj c.things), (ob, oObj c.tokens), (fb, fObj c.fails)] hNb1 (by simp only [List.map_cons, List.map_nil, List.forall_mem_cons]; exact ⟨hFb1, fun _ h => by cases h⟩)), ?_⟩
  show K (.err 108 (attrE v)) (AMem.wth m [(x, cObj d tb ob fb c), (d, .cells [.map kb, .map nb, .slice true (s.wait.map chgAV), .int .i64 s.fuse, .bool s.down, .int .i64 s.steps]), (tb, tObj c.things), (ob, oObj c.tokens), (fb, fObj c.fails)])
 
  have e0 : updateR c s token id v = (((c, s), attrE v) : (ClSt × DSt) × Int) := by
   first | exact updateR_1 (by assumption) | exact updateR_2 (by assumption) (by assumption) | exact updateR_3 (by assumption) (by assumption) (by assumption) | exact updateR_4 (by assumption) (by assumption) (by assumption)
  rw [e0] at hK
  exact hK
 replace h1 : attrE v = 0 := (eq_of_beq (bnF h1))
 refine awp_skip ?_
 refine hK2 _ _ ?_; clear hK2
 refine awp_reg2_seq [] [0, 1, 2, 7, 9, 11] (by decide) ?_
 intro K1 hK1
 refine ⟨trivial, trivial, ?_⟩
 refine ar_mem (wth_split hNb1 (pick_perm [1, 1, 2, 2] _)) ?_
 refine u_callE x d tb ob fb kb nb c s token 2 (by simp at hN ⊢; omega) hst hst2 hfu hfu2 hca hca2 _ _ ?_
 show aopsR _ _ _ _ _ _ (AMem.wth (AMem.wth m [(b1, .cells [.int .i64 v.kind, .int .i64 v.n, .str v.s, .slice false (v.l.map valIn), .slice false (v.f.map fldIn)]), (tb, tObj c.things)]) [(x, .cells [.ptr ⟨d, 0, none⟩, .map tb, .map ob, .int .i64 c.next, .int .i64 c.quota, .int .i64 (ccalls c s token 2), .map fb]), (d, .cells [.map kb, .map nb, .slice true ((((stepF s).1).wait).map chgAV), .int .i64 (((stepF s).1).fuse), .bool (((stepF s).1).down), .int .i64 (((stepF s).1).steps)]), (ob, oObj c.tokens), (fb, fObj c.fails)])
 refine ar_mem (wth_split (m := m) (L := [(b1, .cells [.int .i64 v.kind, .int .i64 v.n, .str v.s, .slice false (v.l.map valIn), .slice false (v.f.map fldIn)]), (x, .cells [.ptr ⟨d, 0, none⟩, .map tb, .map ob, .int .i64 c.next, .int .i64 c.quota, .int .i64 (ccalls c s token 2), .map fb]), (d, .cells [.map kb, .map nb, .slice true ((((stepF s).1).wait).map chgAV), .int .i64 (((stepF s).1).fuse), .bool (((stepF s).1).down), .int .i64 (((stepF s).1).steps)]), (tb, tObj c.things), (ob, oObj c.tokens), (fb, fObj c.fails)]) hNb1 (pick_perm [1, 1, 2, 2] _)).symm ?_
 refine ⟨trivial, (Nat.le_of_ble_eq_true rfl), (Nat.le_of_ble_eq_true rfl), (Nat.le_of_ble_eq_true rfl), ?_⟩
 refine ar_alloc rfl (z := .agg [.int .i64 0, .int .i64 0]) rfl rfl ?_
 intro b2 hb2
 have hFb2 : m b2 = none := wth_none hb2
 have hNb2 : ([b2, b1, x, d, tb, ob, fb] : List Nat).Nodup := wth_nodup hb2 hNb1
 refine ar_storep rfl 0 (v := .agg [.int .i64 ((callT c s token 2).1.op), .int .i64 ((callT c s token 2).1.id)]) (l' := [.int .i64 ((callT c s token 2).1.op), .int .i64 ((callT c s token 2).1.id)]) rfl rfl hNb2 rfl rfl rfl rfl rfl (Nat.le_of_ble_eq_true rfl) rfl ?_
 refine ⟨trivial, trivial, ?_⟩
 show K1 [(0, .ptr ⟨x, 0, none⟩), (1, .str token), (2, .int .i64 id), (7, .ptr ⟨b1, 0, none⟩), (9, .err 108 ((callT c s token 2).2.2)), (11, .bool ((callT c s token 2).2.1))] (AMem.wth m [(b2, .cells [.int .i64 ((callT c s token 2).1.op), .int .i64 ((callT c s token 2).1.id)]), (b1, .cells [.int .i64 v.kind, .int .i64 v.n, .str v.s, .slice false (v.l.map valIn), .slice false (v.f.map fldIn)]), (x, .cells [.ptr ⟨d, 0, none⟩, .map tb, .map ob, .int .i64 c.next, .int .i64 c.quota, .int .i64 (ccalls c s token 2), .map fb]), (d, .cells [.map kb, .map nb, .slice true ((((stepF s).1).wait).map chgAV), .int .i64 (((stepF s).1).fuse), .bool (((stepF s).1).down), .int .i64 (((stepF s).1).steps)]), (tb, tObj c.things), (ob, oObj c.tokens), (fb, fObj c.fails)])
 refine hK1 _ _ ?_; clear hK1 K1
 refine awp_seq_k ?_; intro K3 hK3
 refine awp_reg2_seq [] [0, 1, 2, 7, 9, 30] (by decide) ?_
 intro K1 hK1
 suffices key : K1 [(0, .ptr ⟨x, 0, none⟩), (1, .str token), (2, .int .i64 id), (7, .ptr ⟨b1, 0, none⟩), (9, .err 108 ((callT c s token 2).2.2)), (30, .bool ((!(((callT c s token 2).2.2) == 0)) || ((callT c s token 2).2.1)))] (AMem.wth m [(b2, .cells [.int .i64 ((callT c s token 2).1.op), .int .i64 ((callT c s token 2).1.id)]), (b1, .cells [.int .i64 v.kind, .int .i64 v.n, .str v.s, .slice false (v.l.map valIn), .slice false (v.f.map fldIn)]), (x, .cells [.ptr ⟨d, 0, none⟩, .map tb, .map ob, .int .i64 c.next, .int .i64 c.quota, .int .i64 (ccalls c s token 2), .map fb]), (d, .cells [.map kb, .map nb, .slice true ((((stepF s).1).wait).map chgAV), .int .i64 (((stepF s).1).fuse), .bool (((stepF s).1).down), .int .i64 (((stepF s).1).steps)]), (tb, tObj c.things), (ob, oObj c.tokens), (fb, fObj c.fails)]) by
  refine ⟨trivial, ⟨rfl, rfl⟩, trivial, ?_⟩
  show aopsR _ _ _ _ _ [(28, .bool (!(((callT c s token 2).2.2) == 0))), (27, .bool (!(((callT c s token 2).2.2) == 0))), (26, .err 108 ((callT c s token 2).2.2)), (0, .ptr ⟨x, 0, none⟩), (1, .str token), (2, .int .i64 id), (7, .ptr ⟨b1, 0, none⟩), (9, .err 108 ((callT c s token 2).2.2)), (11, .bool ((callT c s token 2).2.1))] _
  revert key
  cases h2 : (((callT c s token 2).2.2) == 0)
  ·
   replace h2 : (callT c s token 2).2.2 ≠ 0 := (ne_of_beq_false h2)
   intro key
   refine ar_off rfl ?_
   exact key
  ·
   replace h2 : (callT c s token 2).2.2 = 0 := (eq_of_beq h2)
   intro key
   refine ⟨trivial, ?_⟩
   exact key
 refine hK1 _ _ ?_; clear hK1 K1
 refine awp_cond rfl rfl (fun h3 => ?_) (fun h3 => ?_)
 ·
  replace h3 : ((callT c s token 2).2.2 ≠ 0) ∨ ((callT c s token 2).2.1 = true) := ((borT h3).imp (fun q => (ne_of_beq_false (bnT q))) (fun q => q))
  refine awp_reg2_seq [] [8] (by decide) ?_
  intro K1 hK1
  refine ⟨trivial, trivial, ?_⟩
  show K1 [(8, .err 108 ((callT c s token 2).2.2))] (AMem.wth m [(b2, .cells [.int .i64 ((callT c s token 2).1.op), .int .i64 ((callT c s token 2).1.id)]), (b1, .cells [.int .i64 v.kind, .int .i64 v.n, .str v.s, .slice false (v.l.map valIn), .slice false (v.f.map fldIn)]), (x, .cells [.ptr ⟨d, 0, none⟩, .map tb, .map ob, .int .i64 c.next, .int .i64 c.quota, .int .i64 (ccalls c s token 2), .map fb]), (d, .cells [.map kb, .map nb, .slice true ((((stepF s).1).wait).map chgAV), .int .i64 (((stepF s).1).fuse), .bool (((stepF s).1).down), .int .i64 (((stepF s).1).steps)]), (tb, tObj c.things), (ob, oObj c.tokens), (fb, fObj c.fails)])
  refine hK1 _ _ ?_; clear hK1 K1
  refine awp_ret ?_
  refine ⟨trivial, (AMem.wth m [(x, .cells [.ptr ⟨d, 0, none⟩, .map tb, .map ob, .int .i64 c.next, .int .i64 c.quota, .int .i64 (ccalls c s token 2), .map fb]), (d, .cells [.map kb, .map nb, .slice true ((((stepF s).1).wait).map chgAV), .int .i64 (((stepF s).1).fuse), .bool (((stepF s).1).down), .int .i64 (((stepF s).1).steps)]), (tb, tObj c.things), (ob, oObj c.tokens), (fb, fObj c.fails)]), (wth_sub2 (m := m) [(b2, .cells [.int .i64 ((callT c s token 2).1.op), .int .i64 ((callT c s token 2).1.id)]), (b1, .cells [.int .i64 v.kind, .int .i64 v.n, .str v.s, .slice false (v.l.map valIn), .slice false (v.f.map fldIn)])] [(x, .cells [.ptr ⟨d, 0, none⟩, .map tb, .map ob, .int .i64 c.next, .int .i64 c.quota, .int .i64 (ccalls c s token 2), .map fb]), (d, .cells [.map kb, .map nb, .slice true ((((stepF s).1).wait).map chgAV), .int .i64 (((stepF s).1).fuse), .bool (((stepF s).1).down), .int .i64 (((stepF s).1).steps)]), (tb, tObj c.things), (ob, oObj c.tokens), (fb, fObj c.fails)] hNb2 (by simp only [List.map_cons, List.map_nil, List.forall_mem_cons]; exact ⟨hFb2, hFb1, fun _ h => by cases h⟩)), ?_⟩
  show K (.err 108 ((callT c s token 2).2.2)) (AMem.wth m [(x, .cells [.ptr ⟨d, 0, none⟩, .map tb, .map ob, .int .i64 c.next, .int .i64 c.quota, .int .i64 (ccalls c s token 2), .map fb]), (d, .cells [.map kb, .map nb, .slice true ((((stepF s).1).wait).map chgAV), .int .i64 (((stepF s).1).fuse), .bool (((stepF s).1).down), .int .i64 (((stepF s).1).steps)]), (tb, tObj c.things), (ob, oObj c.tokens), (fb, fObj c.fails)])
 
  have e0 : updateR c s token id v = ((((⟨c.things, c.tokens, c.next, c.quota, ccalls c s token 2, c.fails⟩ : ClSt), (stepF s).1), (callT c s token 2).2.2) : (ClSt × DSt) × Int) := by
   first | exact updateR_1 (by assumption) | exact updateR_2 (by assumption) (by assumption) | exact updateR_3 (by assumption) (by assumption) (by assumption) | exact updateR_4 (by assumption) (by assumption) (by assumption)
  rw [e0] at hK
  exact hK
 replace h3 : ((callT c s token 2).2.2 = 0) ∧ ((callT c s token 2).2.1 = false) := ⟨(eq_of_beq (bnF (borL h3))), (borR h3)⟩
 refine awp_skip ?_
 refine hK3 _ _ ?_; clear hK3
 refine awp_reg2_seq [] [0, 1, 2, 7, 12, 13] (by decide) ?_
 intro K1 hK1
 refine ⟨trivial, trivial, ⟨rfl, by decide⟩, ?_⟩
 refine ar_loadp rfl (v := .map tb) rfl (wth_get 2 hNb2 rfl) rfl (apartOk_one rfl rfl (Nat.le_of_ble_eq_true rfl)) rfl ?_
 refine ⟨trivial, ?_⟩
 refine ar_lookupOkP rfl (m := m) (L := [(b2, .cells [.int .i64 ((callT c s token 2).1.op), .int .i64 ((callT c s token 2).1.id)]), (b1, .cells [.int .i64 v.kind, .int .i64 v.n, .str v.s, .slice false (v.l.map valIn), .slice false (v.f.map fldIn)]), (x, .cells [.ptr ⟨d, 0, none⟩, .map tb, .map ob, .int .i64 c.next, .int .i64 c.quota, .int .i64 (ccalls c s token 2), .map fb]), (d, .cells [.map kb, .map nb, .slice true ((((stepF s).1).wait).map chgAV), .int .i64 (((stepF s).1).fuse), .bool (((stepF s).1).down), .int .i64 (((stepF s).1).steps)]), (tb, tObj c.things), (ob, oObj c.tokens), (fb, fObj c.fails)]) intAV thgAV intKey_ok c.things id zT rfl rfl rfl rfl rfl rfl (wth_get 4 hNb2 rfl) rfl ?_
 refine ⟨trivial, (Nat.le_of_ble_eq_true rfl), (Nat.le_of_ble_eq_true rfl), ?_⟩
 refine ar_alloc rfl (z := .agg [.int .i64 0, .str ([]), .int .i64 0, .int .i64 0, .str ([]), .slice true [], .slice true []]) rfl rfl ?_
 intro b3 hb3
 have hFb3 : m b3 = none := wth_none hb3
 have hNb3 : ([b3, b2, b1, x, d, tb, ob, fb] : List Nat).Nodup := wth_nodup hb3 hNb2
 refine ar_storep rfl 0 (v := thgAV ((mget c.things id).getD zT)) (l' := [.int .i64 (((mget c.things id).getD zT).id), .str (((mget c.things id).getD zT).kind), .int .i64 ((((mget c.things id).getD zT).v).kind), .int .i64 ((((mget c.things id).getD zT).v).n), .str ((((mget c.things id).getD zT).v).s), .slice false (((((mget c.things id).getD zT).v).l).map valIn), .slice false (((((mget c.things id).getD zT).v).f).map fldIn)]) rfl (by rfl) hNb3 rfl rfl rfl rfl rfl (Nat.le_of_ble_eq_true rfl) rfl ?_
 refine ⟨trivial, ?_⟩
 show K1 [(0, .ptr ⟨x, 0, none⟩), (1, .str token), (2, .int .i64 id), (7, .ptr ⟨b1, 0, none⟩), (12, .ptr ⟨b3, 0, none⟩), (13, .bool ((mget c.things id).isSome))] (AMem.wth m [(b3, .cells [.int .i64 (((mget c.things id).getD zT).id), .str (((mget c.things id).getD zT).kind), .int .i64 ((((mget c.things id).getD zT).v).kind), .int .i64 ((((mget c.things id).getD zT).v).n), .str ((((mget c.things id).getD zT).v).s), .slice false (((((mget c.things id).getD zT).v).l).map valIn), .slice false (((((mget c.things id).getD zT).v).f).map fldIn)]), (b2, .cells [.int .i64 ((callT c s token 2).1.op), .int .i64 ((callT c s token 2).1.id)]), (b1, .cells [.int .i64 v.kind, .int .i64 v.n, .str v.s, .slice false (v.l.map valIn), .slice false (v.f.map fldIn)]), (x, .cells [.ptr ⟨d, 0, none⟩, .map tb, .map ob, .int .i64 c.next, .int .i64 c.quota, .int .i64 (ccalls c s token 2), .map fb]), (d, .cells [.map kb, .map nb, .slice true ((((stepF s).1).wait).map chgAV), .int .i64 (((stepF s).1).fuse), .bool (((stepF s).1).down), .int .i64 (((stepF s).1).steps)]), (tb, tObj c.things), (ob, oObj c.tokens), (fb, fObj c.fails)])
 refine hK1 _ _ ?_; clear hK1 K1
 refine awp_seq_k ?_; intro K4 hK4
 refine awp_reg2_seq [] [0, 1, 2, 7, 12, 42] (by decide) ?_
 intro K1 hK1
 refine ⟨trivial, trivial, ?_⟩
 show K1 [(0, .ptr ⟨x, 0, none⟩), (1, .str token), (2, .int .i64 id), (7, .ptr ⟨b1, 0, none⟩), (12, .ptr ⟨b3, 0, none⟩), (42, .bool (!((mget c.things id).isSome)))] (AMem.wth m [(b3, .cells [.int .i64 (((mget c.things id).getD zT).id), .str (((mget c.things id).getD zT).kind), .int .i64 ((((mget c.things id).getD zT).v).kind), .int .i64 ((((mget c.things id).getD zT).v).n), .str ((((mget c.things id).getD zT).v).s), .slice false (((((mget c.things id).getD zT).v).l).map valIn), .slice false (((((mget c.things id).getD zT).v).f).map fldIn)]), (b2, .cells [.int .i64 ((callT c s token 2).1.op), .int .i64 ((callT c s token 2).1.id)]), (b1, .cells [.int .i64 v.kind, .int .i64 v.n, .str v.s, .slice false (v.l.map valIn), .slice false (v.f.map fldIn)]), (x, .cells [.ptr ⟨d, 0, none⟩, .map tb, .map ob, .int .i64 c.next, .int .i64 c.quota, .int .i64 (ccalls c s token 2), .map fb]), (d, .cells [.map kb, .map nb, .slice true ((((stepF s).1).wait).map chgAV), .int .i64 (((stepF s).1).fuse), .bool (((stepF s).1).down), .int .i64 (((stepF s).1).steps)]), (tb, tObj c.things), (ob, oObj c.tokens), (fb, fObj c.fails)])
 refine hK1 _ _ ?_; clear hK1 K1
 refine awp_cond rfl rfl (fun h4 => ?_) (fun h4 => ?_)
 ·
  replace h4 : (mget c.things id).isSome = false := (bnT h4)
  refine awp_reg2_seq [] [8] (by decide) ?_
  intro K1 hK1
  refine ⟨trivial, trivial, ?_⟩
  show K1 [(8, .iface 108 (.int .i64 7))] (AMem.wth m [(b3, .cells [.int .i64 (((mget c.things id).getD zT).id), .str (((mget c.things id).getD zT).kind), .int .i64 ((((mget c.things id).getD zT).v).kind), .int .i64 ((((mget c.things id).getD zT).v).n), .str ((((mget c.things id).getD zT).v).s), .slice false (((((mget c.things id).getD zT).v).l).map valIn), .slice false (((((mget c.things id).getD zT).v).f).map fldIn)]), (b2, .cells [.int .i64 ((callT c s token 2).1.op), .int .i64 ((callT c s token 2).1.id)]), (b1, .cells [.int .i64 v.kind, .int .i64 v.n, .str v.s, .slice false (v.l.map valIn), .slice false (v.f.map fldIn)]), (x, .cells [.ptr ⟨d, 0, none⟩, .map tb, .map ob, .int .i64 c.next, .int .i64 c.quota, .int .i64 (ccalls c s token 2), .map fb]), (d, .cells [.map kb, .map nb, .slice true ((((stepF s).1).wait).map chgAV), .int .i64 (((stepF s).1).fuse), .bool (((stepF s).1).down), .int .i64 (((stepF s).1).steps)]), (tb, tObj c.things), (ob, oObj c.tokens), (fb, fObj c.fails)])
  refine hK1 _ _ ?_; clear hK1 K1
  refine awp_toErr 108 [8] ?_
  show AWP _ _ _ _ [(8, .err 108 7)] (AMem.wth m [(b3, .cells [.int .i64 (((mget c.things id).getD zT).id), .str (((mget c.things id).getD zT).kind), .int .i64 ((((mget c.things id).getD zT).v).kind), .int .i64 ((((mget c.things id).getD zT).v).n), .str ((((mget c.things id).getD zT).v).s), .slice false (((((mget c.things id).getD zT).v).l).map valIn), .slice false (((((mget c.things id).getD zT).v).f).map fldIn)]), (b2, .cells [.int .i64 ((callT c s token 2).1.op), .int .i64 ((callT c s token 2).1.id)]), (b1, .cells [.int .i64 v.kind, .int .i64 v.n, .str v.s, .slice false (v.l.map valIn), .slice false (v.f.map fldIn)]), (x, .cells [.ptr ⟨d, 0, none⟩, .map tb, .map ob, .int .i64 c.next, .int .i64 c.quota, .int .i64 (ccalls c s token 2), .map fb]), (d, .cells [.map kb, .map nb, .slice true ((((stepF s).1).wait).map chgAV), .int .i64 (((stepF s).1).fuse), .bool (((stepF s).1).down), .int .i64 (((stepF s).1).steps)]), (tb, tObj c.things), (ob, oObj c.tokens), (fb, fObj c.fails)])
  refine awp_ret ?_
  refine ⟨trivial, (AMem.wth m [(x, .cells [.ptr ⟨d, 0, none⟩, .map tb, .map ob, .int .i64 c.next, .int .i64 c.quota, .int .i64 (ccalls c s token 2), .map fb]), (d, .cells [.map kb, .map nb, .slice true ((((stepF s).1).wait).map chgAV), .int .i64 (((stepF s).1).fuse), .bool (((stepF s).1).down), .int .i64 (((stepF s).1).steps)]), (tb, tObj c.things), (ob, oObj c.tokens), (fb, fObj c.fails)]), (wth_sub2 (m := m) [(b3, .cells [.int .i64 (((mget c.things id).getD zT).id), .str (((mget c.things id).getD zT).kind), .int .i64 ((((mget c.things id).getD zT).v).kind), .int .i64 ((((mget c.things id).getD zT).v).n), .str ((((mget c.things id).getD zT).v).s), .slice false (((((mget c.things id).getD zT).v).l).map valIn), .slice false (((((mget c.things id).getD zT).v).f).map fldIn)]), (b2, .cells [.int .i64 ((callT c s token 2).1.op), .int .i64 ((callT c s token 2).1.id)]), (b1, .cells [.int .i64 v.kind, .int .i64 v.n, .str v.s, .slice false (v.l.map valIn), .slice false (v.f.map fldIn)])] [(x, .cells [.ptr ⟨d, 0, none⟩, .map tb, .map ob, .int .i64 c.next, .int .i64 c.quota, .int .i64 (ccalls c s token 2), .map fb]), (d, .cells [.map kb, .map nb, .slice true ((((stepF s).1).wait).map chgAV), .int .i64 (((stepF s).1).fuse), .bool (((stepF s).1).down), .int .i64 (((stepF s).1).steps)]), (tb, tObj c.things), (ob, oObj c.tokens), (fb, fObj c.fails)] hNb3 (by simp only [List.map_cons, List.map_nil, List.forall_mem_cons]; exact ⟨hFb3, hFb2, hFb1, fun _ h => by cases h⟩)), ?_⟩
  show K (.err 108 7) (AMem.wth m [(x, .cells [.ptr ⟨d, 0, none⟩, .map tb, .map ob, .int .i64 c.next, .int .i64 c.quota, .int .i64 (ccalls c s token 2), .map fb]), (d, .cells [.map kb, .map nb, .slice true ((((stepF s).1).wait).map chgAV), .int .i64 (((stepF s).1).fuse), .bool (((stepF s).1).down), .int .i64 (((stepF s).1).steps)]), (tb, tObj c.things), (ob, oObj c.tokens), (fb, fObj c.fails)])
 
  have e0 : updateR c s token id v = ((((⟨c.things, c.tokens, c.next, c.quota, ccalls c s token 2, c.fails⟩ : ClSt), (stepF s).1), 7) : (ClSt × DSt) × Int) := by
   first | exact updateR_1 (by assumption) | exact updateR_2 (by assumption) (by assumption) | exact updateR_3 (by assumption) (by assumption) (by assumption) | exact updateR_4 (by assumption) (by assumption) (by assumption)
  rw [e0] at hK
  exact hK
 replace h4 : (mget c.things id).isSome = true := (bnF h4)
 refine awp_skip ?_
 refine hK4 _ _ ?_; clear hK4
 refine awp_reg2_seq [] [0, 1, 2, 12] (by decide) ?_
 intro K1 hK1
 refine ar_loadp rfl (v := .agg [.int .i64 v.kind, .int .i64 v.n, .str v.s, .slice false (v.l.map valIn), .slice false (v.f.map fldIn)]) rfl (wth_get 2 hNb3 rfl) rfl (apartOk_agg rfl rfl (Nat.le_of_ble_eq_true rfl)) rfl ?_
 refine u_Copy v (chk_okV (attrE_0 (by assumption))) _ _ ?_
 refine ⟨⟨rfl, by decide⟩, ?_⟩
 refine ar_storep rfl 0 (v := valTop v) (l' := [.int .i64 (((mget c.things id).getD zT).id), .str (((mget c.things id).getD zT).kind), .int .i64 v.kind, .int .i64 v.n, .str v.s, .slice false (v.l.map valIn), .slice false (v.f.map fldIn)]) rfl (by rfl) hNb3 rfl rfl rfl rfl rfl (Nat.le_of_ble_eq_true rfl) rfl ?_
 show K1 [(0, .ptr ⟨x, 0, none⟩), (1, .str token), (2, .int .i64 id), (12, .ptr ⟨b3, 0, none⟩)] (AMem.wth m [(b3, .cells [.int .i64 (((mget c.things id).getD zT).id), .str (((mget c.things id).getD zT).kind), .int .i64 v.kind, .int .i64 v.n, .str v.s, .slice false (v.l.map valIn), .slice false (v.f.map fldIn)]), (b2, .cells [.int .i64 ((callT c s token 2).1.op), .int .i64 ((callT c s token 2).1.id)]), (b1, .cells [.int .i64 v.kind, .int .i64 v.n, .str v.s, .slice false (v.l.map valIn), .slice false (v.f.map fldIn)]), (x, .cells [.ptr ⟨d, 0, none⟩, .map tb, .map ob, .int .i64 c.next, .int .i64 c.quota, .int .i64 (ccalls c s token 2), .map fb]), (d, .cells [.map kb, .map nb, .slice true ((((stepF s).1).wait).map chgAV), .int .i64 (((stepF s).1).fuse), .bool (((stepF s).1).down), .int .i64 (((stepF s).1).steps)]), (tb, tObj c.things), (ob, oObj c.tokens), (fb, fObj c.fails)])
 refine hK1 _ _ ?_; clear hK1 K1
 refine awp_draw_tail2_seq Try.mixed 6 [] [] [] [0, 1, 2] (by decide) (by decide) ?_
 intro K1 hK1
 refine ⟨trivial, trivial, ⟨rfl, by decide⟩, ?_⟩
 refine pq_loadp rfl (v := .map tb) rfl (wth_get 3 hNb3 rfl) (apartOk_one rfl rfl (Nat.le_of_ble_eq_true rfl)) rfl ?_
 refine ⟨trivial, ?_⟩
 refine pq_loadp rfl (v := .agg [.int .i64 (((mget c.things id).getD zT).id), .str (((mget c.things id).getD zT).kind), .int .i64 v.kind, .int .i64 v.n, .str v.s, .slice false (v.l.map valIn), .slice false (v.f.map fldIn)]) rfl (wth_get 0 hNb3 rfl) (apartOk_agg rfl rfl (Nat.le_of_ble_eq_true rfl)) rfl ?_
 show aopsR _ _ _ _ _ [(52, .agg [.int .i64 (((mget c.things id).getD zT).id), .str (((mget c.things id).getD zT).kind), .int .i64 v.kind, .int .i64 v.n, .str v.s, .slice false (v.l.map valIn), .slice false (v.f.map fldIn)]), (51, .int .i64 id), (50, .map tb), (49, .ptr ⟨x, 1, none⟩), (48, .ptr ⟨x, 0, none⟩), (47, .ptr ⟨x, 0, none⟩), (0, .ptr ⟨x, 0, none⟩), (1, .str token), (2, .int .i64 id), (12, .ptr ⟨b3, 0, none⟩)] _
 refine ar_mapUpdate rfl (m := m) (L := [(b3, .cells [.int .i64 (((mget c.things id).getD zT).id), .str (((mget c.things id).getD zT).kind), .int .i64 v.kind, .int .i64 v.n, .str v.s, .slice false (v.l.map valIn), .slice false (v.f.map fldIn)]), (b2, .cells [.int .i64 ((callT c s token 2).1.op), .int .i64 ((callT c s token 2).1.id)]), (b1, .cells [.int .i64 v.kind, .int .i64 v.n, .str v.s, .slice false (v.l.map valIn), .slice false (v.f.map fldIn)]), (x, .cells [.ptr ⟨d, 0, none⟩, .map tb, .map ob, .int .i64 c.next, .int .i64 c.quota, .int .i64 (ccalls c s token 2), .map fb]), (d, .cells [.map kb, .map nb, .slice true ((((stepF s).1).wait).map chgAV), .int .i64 (((stepF s).1).fuse), .bool (((stepF s).1).down), .int .i64 (((stepF s).1).steps)]), (tb, tObj c.things), (ob, oObj c.tokens), (fb, fObj c.fails)]) 5 intAV thgAV intKey_ok c.things id (⟨((mget c.things id).getD zT).id, ((mget c.things id).getD zT).kind, v⟩ : Thg) rfl rfl rfl rfl rfl rfl hNb3 (by first | (have := mput_len c.things id ⟨((mget c.things id).getD zT).id, ((mget c.things id).getD zT).kind, v⟩; omega) | (have := mput_len c.tokens token ⟨2, id⟩; omega)) ?_
 show K1 [(0, .ptr ⟨x, 0, none⟩), (1, .str token), (2, .int .i64 id)] (AMem.wth m [(b3, .cells [.int .i64 (((mget c.things id).getD zT).id), .str (((mget c.things id).getD zT).kind), .int .i64 v.kind, .int .i64 v.n, .str v.s, .slice false (v.l.map valIn), .slice false (v.f.map fldIn)]), (b2, .cells [.int .i64 ((callT c s token 2).1.op), .int .i64 ((callT c s token 2).1.id)]), (b1, .cells [.int .i64 v.kind, .int .i64 v.n, .str v.s, .slice false (v.l.map valIn), .slice false (v.f.map fldIn)]), (x, .cells [.ptr ⟨d, 0, none⟩, .map tb, .map ob, .int .i64 c.next, .int .i64 c.quota, .int .i64 (ccalls c s token 2), .map fb]), (d, .cells [.map kb, .map nb, .slice true ((((stepF s).1).wait).map chgAV), .int .i64 (((stepF s).1).fuse), .bool (((stepF s).1).down), .int .i64 (((stepF s).1).steps)]), (tb, tObj (mput c.things id (⟨((mget c.things id).getD zT).id, ((mget c.things id).getD zT).kind, v⟩ : Thg))), (ob, oObj c.tokens), (fb, fObj c.fails)])
 refine hK1 _ _ ?_; clear hK1 K1
 refine awp_reg2_seq [] [] (by decide) ?_
 intro K1 hK1
 refine ⟨trivial, trivial, ⟨rfl, by decide⟩, ?_⟩
 refine ar_loadp rfl (v := .map ob) rfl (wth_get 3 hNb3 rfl) rfl (apartOk_one rfl rfl (Nat.le_of_ble_eq_true rfl)) rfl ?_
 refine ⟨trivial, trivial, ⟨rfl, by simp only [List.forall_mem_cons]; exact ⟨rfl, rfl, fun _ h => by cases h⟩, by simp only [List.forall_mem_cons]; exact ⟨rfl, rfl, fun _ h => by cases h⟩⟩, ?_⟩
 refine ar_mapUpdate rfl (m := m) (L := [(b3, .cells [.int .i64 (((mget c.things id).getD zT).id), .str (((mget c.things id).getD zT).kind), .int .i64 v.kind, .int .i64 v.n, .str v.s, .slice false (v.l.map valIn), .slice false (v.f.map fldIn)]), (b2, .cells [.int .i64 ((callT c s token 2).1.op), .int .i64 ((callT c s token 2).1.id)]), (b1, .cells [.int .i64 v.kind, .int .i64 v.n, .str v.s, .slice false (v.l.map valIn), .slice false (v.f.map fldIn)]), (x, .cells [.ptr ⟨d, 0, none⟩, .map tb, .map ob, .int .i64 c.next, .int .i64 c.quota, .int .i64 (ccalls c s token 2), .map fb]), (d, .cells [.map kb, .map nb, .slice true ((((stepF s).1).wait).map chgAV), .int .i64 (((stepF s).1).fuse), .bool (((stepF s).1).down), .int .i64 (((stepF s).1).steps)]), (tb, tObj (mput c.things id (⟨((mget c.things id).getD zT).id, ((mget c.things id).getD zT).kind, v⟩ : Thg))), (ob, oObj c.tokens), (fb, fObj c.fails)]) 6 strAV dnAV strKey_ok c.tokens token (⟨2, id⟩ : Dn) rfl rfl rfl rfl rfl rfl hNb3 (by first | (have := mput_len c.things id ⟨((mget c.things id).getD zT).id, ((mget c.things id).getD zT).kind, v⟩; omega) | (have := mput_len c.tokens token ⟨2, id⟩; omega)) ?_
 show K1 [] (AMem.wth m [(b3, .cells [.int .i64 (((mget c.things id).getD zT).id), .str (((mget c.things id).getD zT).kind), .int .i64 v.kind, .int .i64 v.n, .str v.s, .slice false (v.l.map valIn), .slice false (v.f.map fldIn)]), (b2, .cells [.int .i64 ((callT c s token 2).1.op), .int .i64 ((callT c s token 2).1.id)]), (b1, .cells [.int .i64 v.kind, .int .i64 v.n, .str v.s, .slice false (v.l.map valIn), .slice false (v.f.map fldIn)]), (x, .cells [.ptr ⟨d, 0, none⟩, .map tb, .map ob, .int .i64 c.next, .int .i64 c.quota, .int .i64 (ccalls c s token 2), .map fb]), (d, .cells [.map kb, .map nb, .slice true ((((stepF s).1).wait).map chgAV), .int .i64 (((stepF s).1).fuse), .bool (((stepF s).1).down), .int .i64 (((stepF s).1).steps)]), (tb, tObj (mput c.things id (⟨((mget c.things id).getD zT).id, ((mget c.things id).getD zT).kind, v⟩ : Thg))), (ob, oObj (mput c.tokens token (⟨2, id⟩ : Dn))), (fb, fObj c.fails)])
 refine hK1 _ _ ?_; clear hK1 K1
 refine awp_reg2_seq [] [8] (by decide) ?_
 intro K1 hK1
 refine ⟨trivial, ?_⟩
 show K1 [(8, .nilIface)] (AMem.wth m [(b3, .cells [.int .i64 (((mget c.things id).getD zT).id), .str (((mget c.things id).getD zT).kind), .int .i64 v.kind, .int .i64 v.n, .str v.s, .slice false (v.l.map valIn), .slice false (v.f.map fldIn)]), (b2, .cells [.int .i64 ((callT c s token 2).1.op), .int .i64 ((callT c s token 2).1.id)]), (b1, .cells [.int .i64 v.kind, .int .i64 v.n, .str v.s, .slice false (v.l.map valIn), .slice false (v.f.map fldIn)]), (x, .cells [.ptr ⟨d, 0, none⟩, .map tb, .map ob, .int .i64 c.next, .int .i64 c.quota, .int .i64 (ccalls c s token 2), .map fb]), (d, .cells [.map kb, .map nb, .slice true ((((stepF s).1).wait).map chgAV), .int .i64 (((stepF s).1).fuse), .bool (((stepF s).1).down), .int .i64 (((stepF s).1).steps)]), (tb, tObj (mput c.things id (⟨((mget c.things id).getD zT).id, ((mget c.things id).getD zT).kind, v⟩ : Thg))), (ob, oObj (mput c.tokens token (⟨2, id⟩ : Dn))), (fb, fObj c.fails)])
 refine hK1 _ _ ?_; clear hK1 K1
 refine awp_toErr 108 [8] ?_
 show AWP _ _ _ _ [(8, .err 108 0)] (AMem.wth m [(b3, .cells [.int .i64 (((mget c.things id).getD zT).id), .str (((mget c.things id).getD zT).kind), .int .i64 v.kind, .int .i64 v.n, .str v.s, .slice false (v.l.map valIn), .slice false (v.f.map fldIn)]), (b2, .cells [.int .i64 ((callT c s token 2).1.op), .int .i64 ((callT c s token 2).1.id)]), (b1, .cells [.int .i64 v.kind, .int .i64 v.n, .str v.s, .slice false (v.l.map valIn), .slice false (v.f.map fldIn)]), (x, .cells [.ptr ⟨d, 0, none⟩, .map tb, .map ob, .int .i64 c.next, .int .i64 c.quota, .int .i64 (ccalls c s token 2), .map fb]), (d, .cells [.map kb, .map nb, .slice true ((((stepF s).1).wait).map chgAV), .int .i64 (((stepF s).1).fuse), .bool (((stepF s).1).down), .int .i64 (((stepF s).1).steps)]), (tb, tObj (mput c.things id (⟨((mget c.things id).getD zT).id, ((mget c.things id).getD zT).kind, v⟩ : Thg))), (ob, oObj (mput c.tokens token (⟨2, id⟩ : Dn))), (fb, fObj c.fails)])
 refine awp_ret ?_
 refine ⟨trivial, (AMem.wth m [(x, .cells [.ptr ⟨d, 0, none⟩, .map tb, .map ob, .int .i64 c.next, .int .i64 c.quota, .int .i64 (ccalls c s token 2), .map fb]), (d, .cells [.map kb, .map nb, .slice true ((((stepF s).1).wait).map chgAV), .int .i64 (((stepF s).1).fuse), .bool (((stepF s).1).down), .int .i64 (((stepF s).1).steps)]), (tb, tObj (mput c.things id (⟨((mget c.things id).getD zT).id, ((mget c.things id).getD zT).kind, v⟩ : Thg))), (ob, oObj (mput c.tokens token (⟨2, id⟩ : Dn))), (fb, fObj c.fails)]), (wth_sub2 (m := m) [(b3, .cells [.int .i64 (((mget c.things id).getD zT).id), .str (((mget c.things id).getD zT).kind), .int .i64 v.kind, .int .i64 v.n, .str v.s, .slice false (v.l.map valIn), .slice false (v.f.map fldIn)]), (b2, .cells [.int .i64 ((callT c s token 2).1.op), .int .i64 ((callT c s token 2).1.id)]), (b1, .cells [.int .i64 v.kind, .int .i64 v.n, .str v.s, .slice false (v.l.map valIn), .slice false (v.f.map fldIn)])] [(x, .cells [.ptr ⟨d, 0, none⟩, .map tb, .map ob, .int .i64 c.next, .int .i64 c.quota, .int .i64 (ccalls c s token 2), .map fb]), (d, .cells [.map kb, .map nb, .slice true ((((stepF s).1).wait).map chgAV), .int .i64 (((stepF s).1).fuse), .bool (((stepF s).1).down), .int .i64 (((stepF s).1).steps)]), (tb, tObj (mput c.things id (⟨((mget c.things id).getD zT).id, ((mget c.things id).getD zT).kind, v⟩ : Thg))), (ob, oObj (mput c.tokens token (⟨2, id⟩ : Dn))), (fb, fObj c.fails)] hNb3 (by simp only [List.map_cons, List.map_nil, List.forall_mem_cons]; exact ⟨hFb3, hFb2, hFb1, fun _ h => by cases h⟩)), ?_⟩
 show K (.err 108 0) (AMem.wth m [(x, .cells [.ptr ⟨d, 0, none⟩, .map tb, .map ob, .int .i64 c.next, .int .i64 c.quota, .int .i64 (ccalls c s token 2), .map fb]), (d, .cells [.map kb, .map nb, .slice true ((((stepF s).1).wait).map chgAV), .int .i64 (((stepF s).1).fuse), .bool (((stepF s).1).down), .int .i64 (((stepF s).1).steps)]), (tb, tObj (mput c.things id (⟨((mget c.things id).getD zT).id, ((mget c.things id).getD zT).kind, v⟩ : Thg))), (ob, oObj (mput c.tokens token (⟨2, id⟩ : Dn))), (fb, fObj c.fails)])

 have e0 : updateR c s token id v = ((((⟨mput c.things id (⟨((mget c.things id).getD zT).id, ((mget c.things id).getD zT).kind, v⟩ : Thg), mput c.tokens token (⟨2, id⟩ : Dn), c.next, c.quota, ccalls c s token 2, c.fails⟩ : ClSt), (stepF s).1), 0) : (ClSt × DSt) × Int) := by
  first | exact updateR_1 (by assumption) | exact updateR_2 (by assumption) (by assumption) | exact updateR_3 (by assumption) (by assumption) (by assumption) | exact updateR_4 (by assumption) (by assumption) (by assumption)
 rw [e0] at hK
 exact hK

set_option maxHeartbeats 8000000 in
theorem u_Delete (x d tb ob fb kb nb : Nat) (c : ClSt) (s : DSt) (token : Str) (id : Int) (hN : [x, d, tb, ob, fb].Nodup) (hst : 0 ≤ s.steps) (hst2 : s.steps ≤ 4611686018427387904) (hfu : -1 ≤ s.fuse) (hfu2 : s.fuse ≤ 9223372036854775807) (hca : 0 ≤ c.calls) (hca2 : c.calls ≤ 1000000) (hnx : 0 ≤ c.next) (hnx2 : c.next ≤ 1000000) (htl : c.things.length ≤ 1000000) (hol : c.tokens.length ≤ 1000000) (m : AMem)  (K : AV → AMem → Prop) (hK : K (.err 108 (deleteR c s token id).2) (AMem.wth m [(x, cObj d tb ob fb (deleteR c s token id).1.1), (d, dObj kb nb (deleteR c s token id).1.2), (tb, tObj (deleteR c s token id).1.1.things), (ob, oObj (deleteR c s token id).1.1.tokens), (fb, fObj (deleteR c s token id).1.1.fails)])) : ACalls Try.prog 51 [.ptr ⟨x, 0, none⟩, .str token, .int .i64 id] (AMem.wth m [(x, cObj d tb ob fb c), (d, .cells [.map kb, .map nb, .slice true (s.wait.map chgAV), .int .i64 s.fuse, .bool s.down, .int .i64 s.steps]), (tb, tObj c.things), (ob, oObj c.tokens), (fb, fObj c.fails)]) K := by
 refine acalls_enter Try.func51 rfl (by decide) (Nat.le_of_ble_eq_true rfl) ?_
 show AWP _ _ _ _ [(0, .ptr ⟨x, 0, none⟩), (1, .str token), (2, .int .i64 id)] (AMem.wth m [(x, cObj d tb ob fb c), (d, .cells [.map kb, .map nb, .slice true (s.wait.map chgAV), .int .i64 s.fuse, .bool s.down, .int .i64 s.steps]), (tb, tObj c.things), (ob, oObj c.tokens), (fb, fObj c.fails)])
 refine awp_reg2_seq [] [0, 1, 2] (by decide) ?_
 intro K1 hK1
 refine ⟨trivial, ?_⟩
 show K1 [(0, .ptr ⟨x, 0, none⟩), (1, .str token), (2, .int .i64 id)] (AMem.wth m [(x, cObj d tb ob fb c), (d, .cells [.map kb, .map nb, .slice true (s.wait.map chgAV), .int .i64 s.fuse, .bool s.down, .int .i64 s.steps]), (tb, tObj c.things), (ob, oObj c.tokens), (fb, fObj c.fails)])
 refine hK1 _ _ ?_; clear hK1 K1
 refine awp_reg2_seq [] [0, 1, 2, 8, 9] (by decide) ?_
 intro K1 hK1
 refine ⟨trivial, trivial, ?_⟩
 refine ar_mem (wth_split hN (pick_perm [0, 0, 1, 1] _)) ?_
 refine u_callE x d tb ob fb kb nb c s token 3 (by simp at hN ⊢; omega) hst hst2 hfu hfu2 hca hca2 _ _ ?_
 show aopsR _ _ _ _ _ _ (AMem.wth (AMem.wth m [(tb, tObj c.things)]) [(x, .cells [.ptr ⟨d, 0, none⟩, .map tb, .map ob, .int .i64 c.next, .int .i64 c.quota, .int .i64 (ccalls c s token 3), .map fb]), (d, .cells [.map kb, .map nb, .slice true ((((stepF s).1).wait).map chgAV), .int .i64 (((stepF s).1).fuse), .bool (((stepF s).1).down), .int .i64 (((stepF s).1).steps)]), (ob, oObj c.tokens), (fb, fObj c.fails)])
 refine ar_mem (wth_split (m := m) (L := [(x, .cells [.ptr ⟨d, 0, none⟩, .map tb, .map ob, .int .i64 c.next, .int .i64 c.quota, .int .i64 (ccalls c s token 3), .map fb]), (d, .cells [.map kb, .map nb, .slice true ((((stepF s).1).wait).map chgAV), .int .i64 (((stepF s).1).fuse), .bool (((stepF s).1).down), .int .i64 (((stepF s).1).steps)]), (tb, tObj c.things), (ob, oObj c.tokens), (fb, fObj c.fails)]) hN (pick_perm [0, 0, 1, 1] _)).symm ?_
 refine ⟨trivial, (Nat.le_of_ble_eq_true rfl), (Nat.le_of_ble_eq_true rfl), (Nat.le_of_ble_eq_true rfl), ?_⟩
 refine ar_alloc rfl (z := .agg [.int .i64 0, .int .i64 0]) rfl rfl ?_
 intro b1 hb1
 have hFb1 : m b1 = none := wth_none hb1
 have hNb1 : ([b1, x, d, tb, ob, fb] : List Nat).Nodup := wth_nodup hb1 hN
 refine ar_storep rfl 0 (v := .agg [.int .i64 ((callT c s token 3).1.op), .int .i64 ((callT c s token 3).1.id)]) (l' := [.int .i64 ((callT c s token 3).1.op), .int .i64 ((callT c s token 3).1.id)]) rfl rfl hNb1 rfl rfl rfl rfl rfl (Nat.le_of_ble_eq_true rfl) rfl ?_
 refine ⟨trivial, trivial, ?_⟩
 show K1 [(0, .ptr ⟨x, 0, none⟩), (1, .str token), (2, .int .i64 id), (8, .bool ((callT c s token 3).2.1)), (9, .err 108 ((callT c s token 3).2.2))] (AMem.wth m [(b1, .cells [.int .i64 ((callT c s token 3).1.op), .int .i64 ((callT c s token 3).1.id)]), (x, .cells [.ptr ⟨d, 0, none⟩, .map tb, .map ob, .int .i64 c.next, .int .i64 c.quota, .int .i64 (ccalls c s token 3), .map fb]), (d, .cells [.map kb, .map nb, .slice true ((((stepF s).1).wait).map chgAV), .int .i64 (((stepF s).1).fuse), .bool (((stepF s).1).down), .int .i64 (((stepF s).1).steps)]), (tb, tObj c.things), (ob, oObj c.tokens), (fb, fObj c.fails)])
 refine hK1 _ _ ?_; clear hK1 K1
 refine awp_seq_k ?_; intro K2 hK2
 refine awp_reg2_seq [] [0, 1, 2, 9, 23] (by decide) ?_
 intro K1 hK1
 suffices key : K1 [(0, .ptr ⟨x, 0, none⟩), (1, .str token), (2, .int .i64 id), (9, .err 108 ((callT c s token 3).2.2)), (23, .bool ((!(((callT c s token 3).2.2) == 0)) || ((callT c s token 3).2.1)))] (AMem.wth m [(b1, .cells [.int .i64 ((callT c s token 3).1.op), .int .i64 ((callT c s token 3).1.id)]), (x, .cells [.ptr ⟨d, 0, none⟩, .map tb, .map ob, .int .i64 c.next, .int .i64 c.quota, .int .i64 (ccalls c s token 3), .map fb]), (d, .cells [.map kb, .map nb, .slice true ((((stepF s).1).wait).map chgAV), .int .i64 (((stepF s).1).fuse), .bool (((stepF s).1).down), .int .i64 (((stepF s).1).steps)]), (tb, tObj c.things), (ob, oObj c.tokens), (fb, fObj c.fails)]) by
  refine ⟨trivial, ⟨rfl, rfl⟩, trivial, ?_⟩
  show aopsR _ _ _ _ _ [(21, .bool (!(((callT c s token 3).2.2) == 0))), (20, .bool (!(((callT c s token 3).2.2) == 0))), (19, .err 108 ((callT c s token 3).2.2)), (0, .ptr ⟨x, 0, none⟩), (1, .str token), (2, .int .i64 id), (8, .bool ((callT c s token 3).2.1)), (9, .err 108 ((callT c s token 3).2.2))] _
  revert key
  cases h1 : (((callT c s token 3).2.2) == 0)
  ·
   replace h1 : (callT c s token 3).2.2 ≠ 0 := (ne_of_beq_false h1)
   intro key
   refine ar_off rfl ?_
   exact key
  ·
   replace h1 : (callT c s token 3).2.2 = 0 := (eq_of_beq h1)
   intro key
   refine ⟨trivial, ?_⟩
   exact key
 refine hK1 _ _ ?_; clear hK1 K1
 refine awp_cond rfl rfl (fun h2 => ?_) (fun h2 => ?_)
 ·
  replace h2 : ((callT c s token 3).2.2 ≠ 0) ∨ ((callT c s token 3).2.1 = true) := ((borT h2).imp (fun q => (ne_of_beq_false (bnT q))) (fun q => q))
  refine awp_reg2_seq [] [6] (by decide) ?_
  intro K1 hK1
  refine ⟨trivial, trivial, ?_⟩
  show K1 [(6, .err 108 ((callT c s token 3).2.2))] (AMem.wth m [(b1, .cells [.int .i64 ((callT c s token 3).1.op), .int .i64 ((callT c s token 3).1.id)]), (x, .cells [.ptr ⟨d, 0, none⟩, .map tb, .map ob, .int .i64 c.next, .int .i64 c.quota, .int .i64 (ccalls c s token 3), .map fb]), (d, .cells [.map kb, .map nb, .slice true ((((stepF s).1).wait).map chgAV), .int .i64 (((stepF s).1).fuse), .bool (((stepF s).1).down), .int .i64 (((stepF s).1).steps)]), (tb, tObj c.things), (ob, oObj c.tokens), (fb, fObj c.fails)])
  refine hK1 _ _ ?_; clear hK1 K1
  refine awp_ret ?_
  refine ⟨trivial, (AMem.wth m [(x, .cells [.ptr ⟨d, 0, none⟩, .map tb, .map ob, .int .i64 c.next, .int .i64 c.quota, .int .i64 (ccalls c s token 3), .map fb]), (d, .cells [.map kb, .map nb, .slice true ((((stepF s).1).wait).map chgAV), .int .i64 (((stepF s).1).fuse), .bool (((stepF s).1).down), .int .i64 (((stepF s).1).steps)]), (tb, tObj c.things), (ob, oObj c.tokens), (fb, fObj c.fails)]), (wth_sub2 (m := m) [(b1, .cells [.int .i64 ((callT c s token 3).1.op), .int .i64 ((callT c s token 3).1.id)])] [(x, .cells [.ptr ⟨d, 0, none⟩, .map tb, .map ob, .int .i64 c.next, .int .i64 c.quota, .int .i64 (ccalls c s token 3), .map fb]), (d, .cells [.map kb, .map nb, .slice true ((((stepF s).1).wait).map chgAV), .int .i64 (((stepF s).1).fuse), .bool (((stepF s).1).down), .int .i64 (((stepF s).1).steps)]), (tb, tObj c.things), (ob, oObj c.tokens), (fb, fObj c.fails)] hNb1 (by simp only [List.map_cons, List.map_nil, List.forall_mem_cons]; exact ⟨hFb1, fun _ h => by cases h⟩)), ?_⟩
  show K (.err 108 ((callT c s token 3).2.2)) (AMem.wth m [(x, .cells [.ptr ⟨d, 0, none⟩, .map tb, .map ob, .int .i64 c.next, .int .i64 c.quota, .int .i64 (ccalls c s token 3), .map fb]), (d, .cells [.map kb, .map nb, .slice true ((((stepF s).1).wait).map chgAV), .int .i64 (((stepF s).1).fuse), .bool (((stepF s).1).down), .int .i64 (((stepF s).1).steps)]), (tb, tObj c.things), (ob, oObj c.tokens), (fb, fObj c.fails)])
 
  have e0 : deleteR c s token id = ((((⟨c.things, c.tokens, c.next, c.quota, ccalls c s token 3, c.fails⟩ : ClSt), (stepF s).1), (callT c s token 3).2.2) : (ClSt × DSt) × Int) := by
   first | exact deleteR_2 (by assumption) | exact deleteR_3 (by assumption) (by assumption) | exact deleteR_4 (by assumption) (by assumption)
  rw [e0] at hK
  exact hK
 replace h2 : ((callT c s token 3).2.2 = 0) ∧ ((callT c s token 3).2.1 = false) := ⟨(eq_of_beq (bnF (borL h2))), (borR h2)⟩
 refine awp_skip ?_
 refine hK2 _ _ ?_; clear hK2
 refine awp_reg2_seq [] [0, 1, 2, 11] (by decide) ?_
 intro K1 hK1
 refine ⟨trivial, trivial, ⟨rfl, by decide⟩, ?_⟩
 refine ar_loadp rfl (v := .map tb) rfl (wth_get 1 hNb1 rfl) rfl (apartOk_one rfl rfl (Nat.le_of_ble_eq_true rfl)) rfl ?_
 refine ⟨trivial, ?_⟩
 refine ar_lookupOkP rfl (m := m) (L := [(b1, .cells [.int .i64 ((callT c s token 3).1.op), .int .i64 ((callT c s token 3).1.id)]), (x, .cells [.ptr ⟨d, 0, none⟩, .map tb, .map ob, .int .i64 c.next, .int .i64 c.quota, .int .i64 (ccalls c s token 3), .map fb]), (d, .cells [.map kb, .map nb, .slice true ((((stepF s).1).wait).map chgAV), .int .i64 (((stepF s).1).fuse), .bool (((stepF s).1).down), .int .i64 (((stepF s).1).steps)]), (tb, tObj c.things), (ob, oObj c.tokens), (fb, fObj c.fails)]) intAV thgAV intKey_ok c.things id zT rfl rfl rfl rfl rfl rfl (wth_get 3 hNb1 rfl) rfl ?_
 refine ⟨trivial, (Nat.le_of_ble_eq_true rfl), (Nat.le_of_ble_eq_true rfl), ?_⟩
 refine ar_alloc rfl (z := .agg [.int .i64 0, .str ([]), .int .i64 0, .int .i64 0, .str ([]), .slice true [], .slice true []]) rfl rfl ?_
 intro b2 hb2
 have hFb2 : m b2 = none := wth_none hb2
 have hNb2 : ([b2, b1, x, d, tb, ob, fb] : List Nat).Nodup := wth_nodup hb2 hNb1
 refine ar_storep rfl 0 (v := thgAV ((mget c.things id).getD zT)) (l' := [.int .i64 (((mget c.things id).getD zT).id), .str (((mget c.things id).getD zT).kind), .int .i64 ((((mget c.things id).getD zT).v).kind), .int .i64 ((((mget c.things id).getD zT).v).n), .str ((((mget c.things id).getD zT).v).s), .slice false (((((mget c.things id).getD zT).v).l).map valIn), .slice false (((((mget c.things id).getD zT).v).f).map fldIn)]) rfl (by rfl) hNb2 rfl rfl rfl rfl rfl (Nat.le_of_ble_eq_true rfl) rfl ?_
 refine ⟨trivial, ?_⟩
 show K1 [(0, .ptr ⟨x, 0, none⟩), (1, .str token), (2, .int .i64 id), (11, .bool ((mget c.things id).isSome))] (AMem.wth m [(b2, .cells [.int .i64 (((mget c.things id).getD zT).id), .str (((mget c.things id).getD zT).kind), .int .i64 ((((mget c.things id).getD zT).v).kind), .int .i64 ((((mget c.things id).getD zT).v).n), .str ((((mget c.things id).getD zT).v).s), .slice false (((((mget c.things id).getD zT).v).l).map valIn), .slice false (((((mget c.things id).getD zT).v).f).map fldIn)]), (b1, .cells [.int .i64 ((callT c s token 3).1.op), .int .i64 ((callT c s token 3).1.id)]), (x, .cells [.ptr ⟨d, 0, none⟩, .map tb, .map ob, .int .i64 c.next, .int .i64 c.quota, .int .i64 (ccalls c s token 3), .map fb]), (d, .cells [.map kb, .map nb, .slice true ((((stepF s).1).wait).map chgAV), .int .i64 (((stepF s).1).fuse), .bool (((stepF s).1).down), .int .i64 (((stepF s).1).steps)]), (tb, tObj c.things), (ob, oObj c.tokens), (fb, fObj c.fails)])
 refine hK1 _ _ ?_; clear hK1 K1
 refine awp_seq_k ?_; intro K3 hK3
 refine awp_reg2_seq [] [0, 1, 2, 35] (by decide) ?_
 intro K1 hK1
 refine ⟨trivial, trivial, ?_⟩
 show K1 [(0, .ptr ⟨x, 0, none⟩), (1, .str token), (2, .int .i64 id), (35, .bool (!((mget c.things id).isSome)))] (AMem.wth m [(b2, .cells [.int .i64 (((mget c.things id).getD zT).id), .str (((mget c.things id).getD zT).kind), .int .i64 ((((mget c.things id).getD zT).v).kind), .int .i64 ((((mget c.things id).getD zT).v).n), .str ((((mget c.things id).getD zT).v).s), .slice false (((((mget c.things id).getD zT).v).l).map valIn), .slice false (((((mget c.things id).getD zT).v).f).map fldIn)]), (b1, .cells [.int .i64 ((callT c s token 3).1.op), .int .i64 ((callT c s token 3).1.id)]), (x, .cells [.ptr ⟨d, 0, none⟩, .map tb, .map ob, .int .i64 c.next, .int .i64 c.quota, .int .i64 (ccalls c s token 3), .map fb]), (d, .cells [.map kb, .map nb, .slice true ((((stepF s).1).wait).map chgAV), .int .i64 (((stepF s).1).fuse), .bool (((stepF s).1).down), .int .i64 (((stepF s).1).steps)]), (tb, tObj c.things), (ob, oObj c.tokens), (fb, fObj c.fails)])
 refine hK1 _ _ ?_; clear hK1 K1
 refine awp_cond rfl rfl (fun h3 => ?_) (fun h3 => ?_)
 ·
  replace h3 : (mget c.things id).isSome = false := (bnT h3)
  refine awp_reg2_seq [] [6] (by decide) ?_
  intro K1 hK1
  refine ⟨trivial, trivial, ?_⟩
  show K1 [(6, .iface 108 (.int .i64 7))] (AMem.wth m [(b2, .cells [.int .i64 (((mget c.things id).getD zT).id), .str (((mget c.things id).getD zT).kind), .int .i64 ((((mget c.things id).getD zT).v).kind), .int .i64 ((((mget c.things id).getD zT).v).n), .str ((((mget c.things id).getD zT).v).s), .slice false (((((mget c.things id).getD zT).v).l).map valIn), .slice false (((((mget c.things id).getD zT).v).f).map fldIn)]), (b1, .cells [.int .i64 ((callT c s token 3).1.op), .int .i64 ((callT c s token 3).1.id)]), (x, .cells [.ptr ⟨d, 0, none⟩, .map tb, .map ob, .int .i64 c.next, .int .i64 c.quota, .int .i64 (ccalls c s token 3), .map fb]), (d, .cells [.map kb, .map nb, .slice true ((((stepF s).1).wait).map chgAV), .int .i64 (((stepF s).1).fuse), .bool (((stepF s).1).down), .int .i64 (((stepF s).1).steps)]), (tb, tObj c.things), (ob, oObj c.tokens), (fb, fObj c.fails)])
  refine hK1 _ _ ?_; clear hK1 K1
  refine awp_toErr 108 [6] ?_
  show AWP _ _ _ _ [(6, .err 108 7)] (AMem.wth m [(b2, .cells [.int .i64 (((mget c.things id).getD zT).id), .str (((mget c.things id).getD zT).kind), .int .i64 ((((mget c.things id).getD zT).v).kind), .int .i64 ((((mget c.things id).getD zT).v).n), .str ((((mget c.things id).getD zT).v).s), .slice false (((((mget c.things id).getD zT).v).l).map valIn), .slice false (((((mget c.things id).getD zT).v).f).map fldIn)]), (b1, .cells [.int .i64 ((callT c s token 3).1.op), .int .i64 ((callT c s token 3).1.id)]), (x, .cells [.ptr ⟨d, 0, none⟩, .map tb, .map ob, .int .i64 c.next, .int .i64 c.quota, .int .i64 (ccalls c s token 3), .map fb]), (d, .cells [.map kb, .map nb, .slice true ((((stepF s).1).wait).map chgAV), .int .i64 (((stepF s).1).fuse), .bool (((stepF s).1).down), .int .i64 (((stepF s).1).steps)]), (tb, tObj c.things), (ob, oObj c.tokens), (fb, fObj c.fails)])
  refine awp_ret ?_
  refine ⟨trivial, (AMem.wth m [(x, .cells [.ptr ⟨d, 0, none⟩, .map tb, .map ob, .int .i64 c.next, .int .i64 c.quota, .int .i64 (ccalls c s token 3), .map fb]), (d, .cells [.map kb, .map nb, .slice true ((((stepF s).1).wait).map chgAV), .int .i64 (((stepF s).1).fuse), .bool (((stepF s).1).down), .int .i64 (((stepF s).1).steps)]), (tb, tObj c.things), (ob, oObj c.tokens), (fb, fObj c.fails)]), (wth_sub2 (m := m) [(b2, .cells [.int .i64 (((mget c.things id).getD zT).id), .str (((mget c.things id).getD zT).kind), .int .i64 ((((mget c.things id).getD zT).v).kind), .int .i64 ((((mget c.things id).getD zT).v).n), .str ((((mget c.things id).getD zT).v).s), .slice false (((((mget c.things id).getD zT).v).l).map valIn), .slice false (((((mget c.things id).getD zT).v).f).map fldIn)]), (b1, .cells [.int .i64 ((callT c s token 3).1.op), .int .i64 ((callT c s token 3).1.id)])] [(x, .cells [.ptr ⟨d, 0, none⟩, .map tb, .map ob, .int .i64 c.next, .int .i64 c.quota, .int .i64 (ccalls c s token 3), .map fb]), (d, .cells [.map kb, .map nb, .slice true ((((stepF s).1).wait).map chgAV), .int .i64 (((stepF s).1).fuse), .bool (((stepF s).1).down), .int .i64 (((stepF s).1).steps)]), (tb, tObj c.things), (ob, oObj c.tokens), (fb, fObj c.fails)] hNb2 (by simp only [List.map_cons, List.map_nil, List.forall_mem_cons]; exact ⟨hFb2, hFb1, fun _ h => by cases h⟩)), ?_⟩
  show K (.err 108 7) (AMem.wth m [(x, .cells [.ptr ⟨d, 0, none⟩, .map tb, .map ob, .int .i64 c.next, .int .i64 c.quota, .int .i64 (ccalls c s token 3), .map fb]), (d, .cells [.map kb, .map nb, .slice true ((((stepF s).1).wait).map chgAV), .int .i64 (((stepF s).1).fuse), .bool (((stepF s).1).down), .int .i64 (((stepF s).1).steps)]), (tb, tObj c.things), (ob, oObj c.tokens), (fb, fObj c.fails)])
 
  have e0 : deleteR c s token id = ((((⟨c.things, c.tokens, c.next, c.quota, ccalls c s token 3, c.fails⟩ : ClSt), (stepF s).1), 7) : (ClSt × DSt) × Int) := by
   first | exact deleteR_2 (by assumption) | exact deleteR_3 (by assumption) (by assumption) | exact deleteR_4 (by assumption) (by assumption)
  rw [e0] at hK
  exact hK
 replace h3 : (mget c.things id).isSome = true := (bnF h3)
 refine awp_skip ?_
 refine hK3 _ _ ?_; clear hK3
 refine awp_reg2_seq [] [0, 1, 2] (by decide) ?_
 intro K1 hK1
 refine ⟨trivial, trivial, ⟨rfl, by decide⟩, ?_⟩
 refine ar_loadp rfl (v := .map tb) rfl (wth_get 2 hNb2 rfl) rfl (apartOk_one rfl rfl (Nat.le_of_ble_eq_true rfl)) rfl ?_
 refine ⟨trivial, ?_⟩
 refine ar_delete rfl (m := m) (L := [(b2, .cells [.int .i64 (((mget c.things id).getD zT).id), .str (((mget c.things id).getD zT).kind), .int .i64 ((((mget c.things id).getD zT).v).kind), .int .i64 ((((mget c.things id).getD zT).v).n), .str ((((mget c.things id).getD zT).v).s), .slice false (((((mget c.things id).getD zT).v).l).map valIn), .slice false (((((mget c.things id).getD zT).v).f).map fldIn)]), (b1, .cells [.int .i64 ((callT c s token 3).1.op), .int .i64 ((callT c s token 3).1.id)]), (x, .cells [.ptr ⟨d, 0, none⟩, .map tb, .map ob, .int .i64 c.next, .int .i64 c.quota, .int .i64 (ccalls c s token 3), .map fb]), (d, .cells [.map kb, .map nb, .slice true ((((stepF s).1).wait).map chgAV), .int .i64 (((stepF s).1).fuse), .bool (((stepF s).1).down), .int .i64 (((stepF s).1).steps)]), (tb, tObj c.things), (ob, oObj c.tokens), (fb, fObj c.fails)]) 4 intAV thgAV intKey_ok c.things id rfl rfl rfl rfl rfl hNb2 ?_
 show K1 [(0, .ptr ⟨x, 0, none⟩), (1, .str token), (2, .int .i64 id)] (AMem.wth m [(b2, .cells [.int .i64 (((mget c.things id).getD zT).id), .str (((mget c.things id).getD zT).kind), .int .i64 ((((mget c.things id).getD zT).v).kind), .int .i64 ((((mget c.things id).getD zT).v).n), .str ((((mget c.things id).getD zT).v).s), .slice false (((((mget c.things id).getD zT).v).l).map valIn), .slice false (((((mget c.things id).getD zT).v).f).map fldIn)]), (b1, .cells [.int .i64 ((callT c s token 3).1.op), .int .i64 ((callT c s token 3).1.id)]), (x, .cells [.ptr ⟨d, 0, none⟩, .map tb, .map ob, .int .i64 c.next, .int .i64 c.quota, .int .i64 (ccalls c s token 3), .map fb]), (d, .cells [.map kb, .map nb, .slice true ((((stepF s).1).wait).map chgAV), .int .i64 (((stepF s).1).fuse), .bool (((stepF s).1).down), .int .i64 (((stepF s).1).steps)]), (tb, tObj (mdel c.things id)), (ob, oObj c.tokens), (fb, fObj c.fails)])
 refine hK1 _ _ ?_; clear hK1 K1
 refine awp_reg2_seq [] [] (by decide) ?_
 intro K1 hK1
 refine ⟨trivial, trivial, ⟨rfl, by decide⟩, ?_⟩
 refine ar_loadp rfl (v := .map ob) rfl (wth_get 2 hNb2 rfl) rfl (apartOk_one rfl rfl (Nat.le_of_ble_eq_true rfl)) rfl ?_
 refine ⟨trivial, trivial, ⟨rfl, by simp only [List.forall_mem_cons]; exact ⟨rfl, rfl, fun _ h => by cases h⟩, by simp only [List.forall_mem_cons]; exact ⟨rfl, rfl, fun _ h => by cases h⟩⟩, ?_⟩
 refine ar_mapUpdate rfl (m := m) (L := [(b2, .cells [.int .i64 (((mget c.things id).getD zT).id), .str (((mget c.things id).getD zT).kind), .int .i64 ((((mget c.things id).getD zT).v).kind), .int .i64 ((((mget c.things id).getD zT).v).n), .str ((((mget c.things id).getD zT).v).s), .slice false (((((mget c.things id).getD zT).v).l).map valIn), .slice false (((((mget c.things id).getD zT).v).f).map fldIn)]), (b1, .cells [.int .i64 ((callT c s token 3).1.op), .int .i64 ((callT c s token 3).1.id)]), (x, .cells [.ptr ⟨d, 0, none⟩, .map tb, .map ob, .int .i64 c.next, .int .i64 c.quota, .int .i64 (ccalls c s token 3), .map fb]), (d, .cells [.map kb, .map nb, .slice true ((((stepF s).1).wait).map chgAV), .int .i64 (((stepF s).1).fuse), .bool (((stepF s).1).down), .int .i64 (((stepF s).1).steps)]), (tb, tObj (mdel c.things id)), (ob, oObj c.tokens), (fb, fObj c.fails)]) 5 strAV dnAV strKey_ok c.tokens token (⟨3, id⟩ : Dn) rfl rfl rfl rfl rfl rfl hNb2 (by have := mput_len c.tokens token ⟨3, id⟩; omega) ?_
 show K1 [] (AMem.wth m [(b2, .cells [.int .i64 (((mget c.things id).getD zT).id), .str (((mget c.things id).getD zT).kind), .int .i64 ((((mget c.things id).getD zT).v).kind), .int .i64 ((((mget c.things id).getD zT).v).n), .str ((((mget c.things id).getD zT).v).s), .slice false (((((mget c.things id).getD zT).v).l).map valIn), .slice false (((((mget c.things id).getD zT).v).f).map fldIn)]), (b1, .cells [.int .i64 ((callT c s token 3).1.op), .int .i64 ((callT c s token 3).1.id)]), (x, .cells [.ptr ⟨d, 0, none⟩, .map tb, .map ob, .int .i64 c.next, .int .i64 c.quota, .int .i64 (ccalls c s token 3), .map fb]), (d, .cells [.map kb, .map nb, .slice true ((((stepF s).1).wait).map chgAV), .int .i64 (((stepF s).1).fuse), .bool (((stepF s).1).down), .int .i64 (((stepF s).1).steps)]), (tb, tObj (mdel c.things id)), (ob, oObj (mput c.tokens token (⟨3, id⟩ : Dn))), (fb, fObj c.fails)])
 refine hK1 _ _ ?_; clear hK1 K1
 refine awp_reg2_seq [] [6] (by decide) ?_
 intro K1 hK1
 refine ⟨trivial, ?_⟩
 show K1 [(6, .nilIface)] (AMem.wth m [(b2, .cells [.int .i64 (((mget c.things id).getD zT).id), .str (((mget c.things id).getD zT).kind), .int .i64 ((((mget c.things id).getD zT).v).kind), .int .i64 ((((mget c.things id).getD zT).v).n), .str ((((mget c.things id).getD zT).v).s), .slice false (((((mget c.things id).getD zT).v).l).map valIn), .slice false (((((mget c.things id).getD zT).v).f).map fldIn)]), (b1, .cells [.int .i64 ((callT c s token 3).1.op), .int .i64 ((callT c s token 3).1.id)]), (x, .cells [.ptr ⟨d, 0, none⟩, .map tb, .map ob, .int .i64 c.next, .int .i64 c.quota, .int .i64 (ccalls c s token 3), .map fb]), (d, .cells [.map kb, .map nb, .slice true ((((stepF s).1).wait).map chgAV), .int .i64 (((stepF s).1).fuse), .bool (((stepF s).1).down), .int .i64 (((stepF s).1).steps)]), (tb, tObj (mdel c.things id)), (ob, oObj (mput c.tokens token (⟨3, id⟩ : Dn))), (fb, fObj c.fails)])
 refine hK1 _ _ ?_; clear hK1 K1
 refine awp_toErr 108 [6] ?_
 show AWP _ _ _ _ [(6, .err 108 0)] (AMem.wth m [(b2, .cells [.int .i64 (((mget c.things id).getD zT).id), .str (((mget c.things id).getD zT).kind), .int .i64 ((((mget c.things id).getD zT).v).kind), .int .i64 ((((mget c.things id).getD zT).v).n), .str ((((mget c.things id).getD zT).v).s), .slice false (((((mget c.things id).getD zT).v).l).map valIn), .slice false (((((mget c.things id).getD zT).v).f).map fldIn)]), (b1, .cells [.int .i64 ((callT c s token 3).1.op), .int .i64 ((callT c s token 3).1.id)]), (x, .cells [.ptr ⟨d, 0, none⟩, .map tb, .map ob, .int .i64 c.next, .int .i64 c.quota, .int .i64 (ccalls c s token 3), .map fb]), (d, .cells [.map kb, .map nb, .slice true ((((stepF s).1).wait).map chgAV), .int .i64 (((stepF s).1).fuse), .bool (((stepF s).1).down), .int .i64 (((stepF s).1).steps)]), (tb, tObj (mdel c.things id)), (ob, oObj (mput c.tokens token (⟨3, id⟩ : Dn))), (fb, fObj c.fails)])
 refine awp_ret ?_
 refine ⟨trivial, (AMem.wth m [(x, .cells [.ptr ⟨d, 0, none⟩, .map tb, .map ob, .int .i64 c.next, .int .i64 c.quota, .int .i64 (ccalls c s token 3), .map fb]), (d, .cells [.map kb, .map nb, .slice true ((((stepF s).1).wait).map chgAV), .int .i64 (((stepF s).1).fuse), .bool (((stepF s).1).down), .int .i64 (((stepF s).1).steps)]), (tb, tObj (mdel c.things id)), (ob, oObj (mput c.tokens token (⟨3, id⟩ : Dn))), (fb, fObj c.fails)]), (wth_sub2 (m := m) [(b2, .cells [.int .i64 (((mget c.things id).getD zT).id), .str (((mget c.things id).getD zT).kind), .int .i64 ((((mget c.things id).getD zT).v).kind), .int .i64 ((((mget c.things id).getD zT).v).n), .str ((((mget c.things id).getD zT).v).s), .slice false (((((mget c.things id).getD zT).v).l).map valIn), .slice false (((((mget c.things id).getD zT).v).f).map fldIn)]), (b1, .cells [.int .i64 ((callT c s token 3).1.op), .int .i64 ((callT c s token 3).1.id)])] [(x, .cells [.ptr ⟨d, 0, none⟩, .map tb, .map ob, .int .i64 c.next, .int .i64 c.quota, .int .i64 (ccalls c s token 3), .map fb]), (d, .cells [.map kb, .map nb, .slice true ((((stepF s).1).wait).map chgAV), .int .i64 (((stepF s).1).fuse), .bool (((stepF s).1).down), .int .i64 (((stepF s).1).steps)]), (tb, tObj (mdel c.things id)), (ob, oObj (mput c.tokens token (⟨3, id⟩ : Dn))), (fb, fObj c.fails)] hNb2 (by simp only [List.map_cons, List.map_nil, List.forall_mem_cons]; exact ⟨hFb2, hFb1, fun _ h => by cases h⟩)), ?_⟩
 show K (.err 108 0) (AMem.wth m [(x, .cells [.ptr ⟨d, 0, none⟩, .map tb, .map ob, .int .i64 c.next, .int .i64 c.quota, .int .i64 (ccalls c s token 3), .map fb]), (d, .cells [.map kb, .map nb, .slice true ((((stepF s).1).wait).map chgAV), .int .i64 (((stepF s).1).fuse), .bool (((stepF s).1).down), .int .i64 (((stepF s).1).steps)]), (tb, tObj (mdel c.things id)), (ob, oObj (mput c.tokens token (⟨3, id⟩ : Dn))), (fb, fObj c.fails)])

 have e0 : deleteR c s token id = ((((⟨mdel c.things id, mput c.tokens token (⟨3, id⟩ : Dn), c.next, c.quota, ccalls c s token 3, c.fails⟩ : ClSt), (stepF s).1), 0) : (ClSt × DSt) × Int) := by
  first | exact deleteR_2 (by assumption) | exact deleteR_3 (by assumption) (by assumption) | exact deleteR_4 (by assumption) (by assumption)
 rw [e0] at hK
 exact hK

end Go.Proofs
end
section
namespace Go.Proofs
open Go Go.Aw
set_option maxRecDepth 100000


/-- Things, by rising numbers. -/
def sortT (l : List Thg) : List Thg := l.mergeSort fun a b => decide (a.id ≤ b.id)
theorem sortT_eq {l l' : List Thg} (hp : l'.Perm l) (hs : l'.Pairwise (fun a b => a.id ≤ b.id)) (hn : (l.map Thg.id).Nodup) : l' = sortT l := by
  have to : ∀ a b : Thg, (decide (a.id ≤ b.id) || decide (b.id ≤ a.id)) = true := fun a b => by
    rcases Int.le_total a.id b.id with h | h <;> simp [h]
  have tr : ∀ a b c : Thg, decide (a.id ≤ b.id) = true → decide (b.id ≤ c.id) = true → decide (a.id ≤ c.id) = true := fun a b c h1 h2 => by
    simp only [decide_eq_true_eq] at *; omega
  refine List.Perm.eq_of_pairwise (le := fun a b => decide (a.id ≤ b.id) = true) (fun a b ha hb h1 h2 => ?_) (hs.imp fun h => by simpa using h) (List.pairwise_mergeSort tr to l) (hp.trans (List.mergeSort_perm l _).symm)
  simp only [decide_eq_true_eq] at h1 h2
  have ha' := hp.mem_iff.1 ha
  have hb' := (List.mergeSort_perm l _).mem_iff.1 hb
  have hid : a.id = b.id := by omega
  obtain ⟨i, hi, rfl⟩ := List.getElem_of_mem ha'
  obtain ⟨j, hj, rfl⟩ := List.getElem_of_mem hb'
  have := (List.getElem_inj (xs := l.map Thg.id) (h₀ := by simpa using hi) (h₁ := by simpa using hj) hn).1 (by simpa using hid)
  subst this; rfl
theorem sortT_len (l : List Thg) : (sortT l).length = l.length := List.length_mergeSort _
def allT (c : ClSt) : List Thg := sortT (c.things.map Prod.snd)
def thgsAt (l : List (Int × Thg)) (seen : List Nat) : List Thg := seen.map fun i => (l.getD i (0, zT)).2
theorem thgsAt_perm {l : List (Int × Thg)} {seen : List Nat} (hn : seen.Nodup) (hb : ∀ i ∈ seen, i < l.length) (ha : ∀ i, i < l.length → i ∈ seen) : (thgsAt l seen).Perm (l.map Prod.snd) := by
  have hp : seen.Perm (List.range l.length) := (List.perm_ext_iff_of_nodup hn List.nodup_range).2 fun i => ⟨fun h => List.mem_range.2 (hb i h), fun h => ha i (List.mem_range.1 h)⟩
  refine (hp.map _).trans ?_
  have e : (List.range l.length).map (fun i => (l.getD i (0, zT)).2) = l.map Prod.snd := by
    refine List.ext_getElem (by simp) fun i h1 h2 => ?_
    simp only [List.length_map] at h2
    simp [h2]
  show ((List.range l.length).map (fun i => (l.getD i (0, zT)).2)).Perm (l.map Prod.snd)
  rw [e]
theorem thgsAt_snoc {l : List (Int × Thg)} {seen : List Nat} {k : Nat} {a : Int} {b : Thg} (hp : l[k]? = some (a, b)) : thgsAt l (seen ++ [k]) = thgsAt l seen ++ [b] := by
  unfold thgsAt
  rw [List.map_append]
  simp [List.getD_eq_getElem?_getD, hp]
theorem seenT_len {l : List (Int × Thg)} {seen : List Nat} (hn : seen.Nodup) (hb : ∀ i ∈ seen, i < l.length) : seen.length ≤ l.length := by
  have h := List.Nodup.length_le_of_subset hn (fun i hi => List.mem_range.2 (hb i hi))
  simpa using h
theorem sstepT {l : List (Int × Thg)} {seen : List Nat} {k : Nat} {p : Int × Thg} (h1 : seen.Nodup) (h2 : ∀ i ∈ seen, i < l.length) (hp : l[k]? = some p) (hn : ¬ k ∈ seen) : (seen ++ [k]).Nodup ∧ (∀ i ∈ seen ++ [k], i < l.length) := by
  have hk := (List.getElem?_eq_some_iff.1 hp).1
  refine ⟨List.nodup_append.2 ⟨h1, by simp, fun i hi j hj e => by simp at hj; subst hj; subst e; exact hn hi⟩, fun i hi => ?_⟩
  rcases List.mem_append.1 hi with h | h
  · exact h2 i h
  · simp at h; omega
theorem thgsAt_mem {l : List (Int × Thg)} {seen : List Nat} (hb : ∀ i ∈ seen, i < l.length) : ∀ t ∈ thgsAt l seen, ∃ p ∈ l, p.2 = t := fun t ht => by
  obtain ⟨i, hi, rfl⟩ := List.mem_map.1 ht
  have := hb i hi
  exact ⟨l[i], List.getElem_mem this, by simp [List.getD_eq_getElem?_getD, this]⟩
theorem u_SortT0 (m : AMem) (K : AV → AMem → Prop) (hK : K (.tuple []) m) : ACalls Try.prog 87 [.nils, .func (.func 88) [] []] m K := by
  have hC : ∀ (p : Option Addr) (w : World), Calls Try.prog 87 #[.slice p 0 0, .func (.func 88) #[] #[]] w fun e w' => e = .returned (.tuple #[]) ∧ w' = w := fun p w => Try.sortN p w
  refine ⟨⟨_, Try.func87, rfl, rfl⟩, fun F lim w cargs hs hr st => ?_⟩
  have h0 := hr 0 (by simp)
  have h1 := hr 1 (by simp)
  simp only [List.getD_cons_zero] at h0
  simp only [List.getD_cons_succ, List.getD_cons_zero] at h1
  obtain ⟨p, e0⟩ := nils_inv h0
  have e1 := func_inv h1
  have ec : cargs = #[.slice p 0 0, .func (.func 88) #[] #[]] := by
    apply Array.ext (by simp [hs])
    intro i hi hi'
    have : cargs.getD i undef = cargs[i] := by simp [Array.getD, hi]
    rw [← this]
    have hi2 : i < 2 := by simpa [hs] using hi
    match i, hi2 with
    | 0, _ => rw [e0]; rfl
    | 1, _ => rw [e1]; rfl
  rw [ec]
  refine (hC p w).mono fun e w' ⟨he, hw⟩ => ?_
  subst hw
  refine ⟨.tuple #[], .tuple [], lim, m, [], he, hK, ?_, st, .refl _ _ _⟩
  have := Rep.tuple (w := w') (lim := lim) #[] [] (fun _ => []) rfl (fun i hi => by simp at hi)
  rwa [flatMap_nil] at this
theorem u_SortT (b k cap : Nat) (zs : List Thg) (hk : k ≤ zs.length) (hkb : k ≤ 140737488355328) (hks : ∀ a ∈ zs.take k, 0 ≤ a.id ∧ a.id ≤ 1000000000) (hn : ((zs.take k).map Thg.id).Nodup) (m : AMem) (K : AV → AMem → Prop) (hK : K (.tuple []) (m.wth [(b, .cells (flatK thgAV (sortT (zs.take k) ++ zs.drop k)))])) : ACalls Try.prog 87 [.ms ⟨b, 0, none⟩ k cap, .func (.func 88) [] []] (m.wth [(b, .cells (flatK thgAV zs))]) K :=
  acalls_sortK (s := 6) Thg.id ⟨_, Try.func87, rfl, rfl⟩ Try.sortC (fun _ => rfl) (fun _ => rfl) (fun _ => rfl) (fun _ => rfl) b k cap zs hk hkb hks m K (fun zs' hp hs => by rw [sortT_eq hp hs hn]; exact hK)

end Go.Proofs
end
section
namespace Go.Proofs
open Go Go.Aw
set_option maxRecDepth 100000


theorem sortT_take {zs : List Thg} {k : Nat} (h : k ≤ zs.length) : (sortT (zs.take k) ++ zs.drop k).take k = sortT (zs.take k) := by
  have hl : (sortT (zs.take k)).length = k := by rw [sortT_len, List.length_take]; omega
  rw [List.take_append_of_le_length (by omega), List.take_of_length_le (by omega)]
theorem sortT_of_perm {l l' : List Thg} (hp : l.Perm l') (hn : (l'.map Thg.id).Nodup) : sortT l = sortT l' := by
  refine sortT_eq ((List.mergeSort_perm l _).trans hp) ?_ hn
  have to : ∀ a b : Thg, (decide (a.id ≤ b.id) || decide (b.id ≤ a.id)) = true := fun a b => by
    rcases Int.le_total a.id b.id with h | h <;> simp [h]
  have tr : ∀ a b c : Thg, decide (a.id ≤ b.id) = true → decide (b.id ≤ c.id) = true → decide (a.id ≤ c.id) = true := fun a b c h1 h2 => by
    simp only [decide_eq_true_eq] at *; omega
  exact (List.pairwise_mergeSort tr to l).imp fun h => by simpa using h
theorem allT_nil {c : ClSt} (hE : ∀ k, k < c.things.length → k ∈ ([] : List Nat)) : allT c = [] := by
  have hz : c.things = [] := by
    rcases hq : c.things with _ | ⟨p, r⟩
    · rfl
    · exact absurd (hE 0 (by rw [hq]; simp)) (by simp)
  unfold allT
  rw [hz]; simp [sortT]
theorem ids_nodup {l : List (Int × Thg)} (hn : (l.map Prod.fst).Nodup) (hi : ∀ p ∈ l, p.2.id = p.1) : ((l.map Prod.snd).map Thg.id).Nodup := by
  have e : (l.map Prod.snd).map Thg.id = l.map Prod.fst := by
    rw [List.map_map]
    exact List.map_congr_left fun p hp => hi p hp
  rw [e]; exact hn
theorem thgsAt_nd {l : List (Int × Thg)} {seen : List Nat} (hn : (l.map Prod.fst).Nodup) (hi : ∀ p ∈ l, p.2.id = p.1) (h1 : seen.Nodup) (h2 : ∀ i ∈ seen, i < l.length) : ((thgsAt l seen).map Thg.id).Nodup := by
  have e : (thgsAt l seen).map Thg.id = seen.map (fun i => (l.getD i (0, zT)).1) := by
    unfold thgsAt
    rw [List.map_map]
    refine List.map_congr_left fun i hi2 => ?_
    have h3 := h2 i hi2
    have := hi l[i] (List.getElem_mem h3)
    simpa [List.getD_eq_getElem?_getD, h3] using this
  rw [e]
  refine List.pairwise_map.2 (List.Pairwise.imp_of_mem (fun {i j} hi2 hj2 hne hij => hne ?_) h1)
  have h3 := h2 i hi2
  have h4 := h2 j hj2
  have h5 : (l.map Prod.fst)[i]'(by simpa using h3) = (l.map Prod.fst)[j]'(by simpa using h4) := by simpa [List.getD_eq_getElem?_getD, h3, h4] using hij
  exact (List.getElem_inj hn).1 h5

set_option maxHeartbeats 4000000 in
theorem u_All (x d tb ob fb : Nat) (c : ClSt) (hN : [x, tb].Nodup) (htl : c.things.length ≤ 1000000) (hnd : (c.things.map Prod.fst).Nodup) (hids : ∀ p ∈ c.things, p.2.id = p.1 ∧ (1 ≤ p.1 ∧ p.1 ≤ 1000000) ∧ chk p.2.v = 0) (m : AMem)  (K : AV → AMem → Prop) (hK : K (.slice false ((allT c).map thgAV)) (AMem.wth m [(x, cObj d tb ob fb c), (tb, tObj c.things)])) : ACalls Try.prog 62 [.ptr ⟨x, 0, none⟩] (AMem.wth m [(x, cObj d tb ob fb c), (tb, tObj c.things)]) K := by
 refine acalls_enter Try.func62 rfl (by decide) (Nat.le_of_ble_eq_true rfl) ?_
 show AWP _ _ _ _ [(0, .ptr ⟨x, 0, none⟩)] (AMem.wth m [(x, cObj d tb ob fb c), (tb, tObj c.things)])
 refine awp_reg2_seq [] [0] (by decide) ?_
 intro K1 hK1
 refine ⟨trivial, ?_⟩
 show K1 [(0, .ptr ⟨x, 0, none⟩)] (AMem.wth m [(x, cObj d tb ob fb c), (tb, tObj c.things)])
 refine hK1 _ _ ?_; clear hK1 K1
 refine awp_reg2_seq [] [0, 3] (by decide) ?_
 intro K1 hK1
 refine ⟨trivial, ?_⟩
 show K1 [(0, .ptr ⟨x, 0, none⟩), (3, .slice true [])] (AMem.wth m [(x, cObj d tb ob fb c), (tb, tObj c.things)])
 refine hK1 _ _ ?_; clear hK1 K1
 refine awp_seq_k ?_; intro K2 hK2
 refine awp_reg2_seq [] [3, 10] (by decide) ?_
 intro K1 hK1
 refine ⟨trivial, trivial, ⟨rfl, by decide⟩, ?_⟩
 refine ar_loadp rfl (v := .map tb) rfl (wth_get 0 hN rfl) rfl (apartOk_one rfl rfl (Nat.le_of_ble_eq_true rfl)) rfl ?_
 refine ar_range rfl (m := m) (L := [(x, cObj d tb ob fb c), (tb, tObj c.things)]) 1 rfl rfl rfl hN ?_
 intro q1 _
 show K1 [(3, .slice true []), (10, .ptr ⟨q1, 0, none⟩)] (AMem.wth m [(x, cObj d tb ob fb c), (tb, AObj.iter q1 (List.map (mapAV intAV thgAV) c.things) [])])
 refine hK1 _ _ ?_; clear hK1 K1
 refine awp_block ?_
 refine awp_conv1 3 (.slice true []) .nils rfl nils_of_own ?_
 refine awp_keep [3, 10] (by decide) ?_
 refine awp_loop_st (σ := (Unit) ⊕ (Nat × List Nat × List Thg)) (Sum.elim (fun _ => [(3, .nils), (10, .ptr ⟨q1, 0, none⟩)]) (fun ⟨b, seen, zs⟩ => [(3, .ms ⟨b, 0, none⟩ seen.length zs.length), (10, .ptr ⟨q1, 0, none⟩)])) (Sum.elim (fun _ => (AMem.wth m [(x, cObj d tb ob fb c), (tb, AObj.iter q1 (List.map (mapAV intAV thgAV) c.things) [])])) (fun ⟨b, seen, zs⟩ => (AMem.wth m [(b, .cells (flatK thgAV zs)), (x, cObj d tb ob fb c), (tb, AObj.iter q1 (List.map (mapAV intAV thgAV) c.things) seen)]))) (Sum.elim (fun _ => True) (fun ⟨b, seen, zs⟩ => ([b, x, tb] : List Nat).Nodup ∧ m b = none ∧ (seen).Nodup ∧ (∀ i ∈ seen, i < c.things.length) ∧ (zs).take (seen).length = thgsAt c.things seen ∧ (seen).length ≤ (zs).length)) (Sum.elim (fun _ => c.things.length + 1) (fun ⟨b, seen, zs⟩ => c.things.length - (seen).length)) (.inl ()) rfl rfl ?_ ?_
 ·
  show True
  trivial
 ·
  rintro (_ | ⟨b, seen, zs⟩) hI
  ·
   replace hI : True := hI
   show AWP _ _ _ _ [(3, .nils), (10, .ptr ⟨q1, 0, none⟩)] (AMem.wth m [(x, cObj d tb ob fb c), (tb, AObj.iter q1 (List.map (mapAV intAV thgAV) c.things) [])])
   refine awp_reg2_seq [] [3, 10, 12] (by decide) ?_
   intro K1 hK1
   refine ar_nextT rfl (m := m) (L := [(x, cObj d tb ob fb c), (tb, AObj.iter q1 (List.map (mapAV intAV thgAV) c.things) [])]) 1 intAV thgAV c.things [] rfl rfl hN ?_ ?_
   ·
    intro hE1
    refine ⟨(Nat.le_of_ble_eq_true rfl), ?_⟩
    show K1 [(3, .nils), (10, .ptr ⟨q1, 0, none⟩), (12, .bool false)] (AMem.wth m [(x, cObj d tb ob fb c), (tb, AObj.iter q1 (List.map (mapAV intAV thgAV) c.things) [])])
    refine hK1 _ _ ?_; clear hK1 K1
    refine awp_unrange (m := m) (L := [(x, cObj d tb ob fb c), (tb, AObj.iter q1 (List.map (mapAV intAV thgAV) c.things) [])]) 1 hN rfl ?_
    show AWP _ _ _ _ [(3, .nils), (10, .ptr ⟨q1, 0, none⟩), (12, .bool false)] (AMem.wth m [(x, cObj d tb ob fb c), (tb, tObj c.things)])
    refine awp_seq_k ?_; intro K3 hK3
    refine awp_cond rfl rfl (fun hcz => ?_) (fun hcz => ?_)
    ·
     cases hcz
    clear hcz
    refine awp_exit ?_
    refine hK2 _ _ ?_; clear hK2
    refine awp_reg2_seq [] [3] (by decide) ?_
    intro K1 hK1
    refine ⟨trivial, ?_⟩
    refine u_SortT0 _ _ ?_
    show K1 [(3, .nils)] (AMem.wth m [(x, cObj d tb ob fb c), (tb, tObj c.things)])
    refine hK1 _ _ ?_; clear hK1 K1
    refine awp_conv1 3 .nils (.slice false []) rfl own_of_nils ?_
    show AWP _ _ _ _ [(3, .slice false [])] (AMem.wth m [(x, cObj d tb ob fb c), (tb, tObj c.things)])
    refine awp_reg2_seq [] [2] (by decide) ?_
    intro K1 hK1
    refine ⟨trivial, trivial, ?_⟩
    show K1 [(2, .slice false [])] (AMem.wth m [(x, cObj d tb ob fb c), (tb, tObj c.things)])
    refine hK1 _ _ ?_; clear hK1 K1
    refine awp_ret ?_
    refine ⟨trivial, (AMem.wth m [(x, cObj d tb ob fb c), (tb, tObj c.things)]), fun _ _ h => h, ?_⟩
    show K (.slice false []) (AMem.wth m [(x, cObj d tb ob fb c), (tb, tObj c.things)])
   
    have e0 : allT c = ([] : List Thg) := by
     first | (exact allT_nil hE1) | (rw [hs3]; exact (sortT_of_perm (thgsAt_perm hs1 hs2 hE2) (ids_nodup hnd fun p hp => (hids p hp).1)).symm)
    rw [e0] at hK
    exact hK
   ·
    rintro k1 ⟨ek1, ev1⟩ hp1 hn1
    refine ⟨(Nat.le_of_ble_eq_true rfl), ?_⟩
    show K1 [(3, .nils), (10, .ptr ⟨q1, 0, none⟩), (12, .bool true)] (AMem.wth m [(x, cObj d tb ob fb c), (tb, AObj.iter q1 (List.map (mapAV intAV thgAV) c.things) ([] ++ [k1]))])
    refine hK1 _ _ ?_; clear hK1 K1
    refine awp_seq_k ?_; intro K4 hK4
    refine awp_cond rfl rfl (fun hcz => ?_) (fun hcz => ?_)
    rotate_left; · cases hcz
    clear hcz
    refine awp_skip ?_
    refine hK4 _ _ ?_; clear hK4
    refine awp_block ?_
    refine awp_reg2_seq [] [3, 5, 10] (by decide) ?_
    intro K1 hK1
    refine ar_entryT rfl (m := m) (L := [(x, cObj d tb ob fb c), (tb, AObj.iter q1 (List.map (mapAV intAV thgAV) c.things) ([] ++ [k1]))]) 1 intAV thgAV c.things [] hp1 rfl rfl hN ?_
    refine ⟨(Nat.le_of_ble_eq_true rfl), ?_⟩
    refine ar_alloc rfl (z := .agg [.int .i64 0, .str ([]), .int .i64 0, .int .i64 0, .str ([]), .slice true [], .slice true []]) rfl rfl ?_
    intro b1 hb1
    have hFb1 : m b1 = none := wth_none hb1
    have hNb1 : ([b1, x, tb] : List Nat).Nodup := wth_nodup hb1 hN
    refine ar_storep rfl 0 (v := thgAV ev1) (l' := [.int .i64 ev1.id, .str ev1.kind, .int .i64 ev1.v.kind, .int .i64 ev1.v.n, .str ev1.v.s, .slice false (ev1.v.l.map valIn), .slice false (ev1.v.f.map fldIn)]) rfl (by rfl) hNb1 rfl rfl rfl rfl rfl (Nat.le_of_ble_eq_true rfl) rfl ?_
    show K1 [(3, .nils), (5, .ptr ⟨b1, 0, none⟩), (10, .ptr ⟨q1, 0, none⟩)] (AMem.wth m [(b1, .cells [.int .i64 ev1.id, .str ev1.kind, .int .i64 ev1.v.kind, .int .i64 ev1.v.n, .str ev1.v.s, .slice false (ev1.v.l.map valIn), .slice false (ev1.v.f.map fldIn)]), (x, cObj d tb ob fb c), (tb, AObj.iter q1 (List.map (mapAV intAV thgAV) c.things) ([] ++ [k1]))])
    refine hK1 _ _ ?_; clear hK1 K1
    refine awp_reg2_seq [] [3, 5, 10] (by decide) ?_
    intro K1 hK1
    refine ⟨⟨rfl, by decide⟩, ?_⟩
    refine ar_loadp rfl (v := .agg [.int .i64 ev1.v.kind, .int .i64 ev1.v.n, .str ev1.v.s, .slice false (ev1.v.l.map valIn), .slice false (ev1.v.f.map fldIn)]) rfl (wth_get 0 hNb1 rfl) rfl (apartOk_agg rfl rfl (Nat.le_of_ble_eq_true rfl)) rfl ?_
    refine u_Copy ev1.v (chk_okV (hids _ (List.mem_of_getElem? hp1)).2.2) _ _ ?_
    refine ⟨⟨rfl, by decide⟩, ?_⟩
    refine ar_storep rfl 0 (v := valTop ev1.v) (l' := [.int .i64 ev1.id, .str ev1.kind, .int .i64 ev1.v.kind, .int .i64 ev1.v.n, .str ev1.v.s, .slice false (ev1.v.l.map valIn), .slice false (ev1.v.f.map fldIn)]) rfl (by rfl) hNb1 rfl rfl rfl rfl rfl (Nat.le_of_ble_eq_true rfl) rfl ?_
    show K1 [(3, .nils), (5, .ptr ⟨b1, 0, none⟩), (10, .ptr ⟨q1, 0, none⟩)] (AMem.wth m [(b1, .cells [.int .i64 ev1.id, .str ev1.kind, .int .i64 ev1.v.kind, .int .i64 ev1.v.n, .str ev1.v.s, .slice false (ev1.v.l.map valIn), .slice false (ev1.v.f.map fldIn)]), (x, cObj d tb ob fb c), (tb, AObj.iter q1 (List.map (mapAV intAV thgAV) c.things) ([] ++ [k1]))])
    refine hK1 _ _ ?_; clear hK1 K1
    refine awp_subQ ?_
    refine awp_reg2 [19] [3, 10] (by decide) ?_
    intro K1 hK1
    refine ⟨trivial, ?_⟩
    refine ar_loadp rfl (v := .agg [.int .i64 ev1.id, .str ev1.kind, .int .i64 ev1.v.kind, .int .i64 ev1.v.n, .str ev1.v.s, .slice false (ev1.v.l.map valIn), .slice false (ev1.v.f.map fldIn)]) rfl (wth_get 0 hNb1 rfl) rfl (apartOk_agg rfl rfl (Nat.le_of_ble_eq_true rfl)) rfl ?_
    refine ⟨⟨rfl, Nat.le_of_ble_eq_true rfl, rfl, Nat.le_of_ble_eq_true rfl, rfl, by simp only [List.forall_mem_cons]; exact ⟨⟨rfl, rfl⟩, fun _ h => by cases h⟩⟩, ?_⟩
    refine ar_append0MsK rfl thgAV 7 ([ev1] : List Thg) zT rfl rfl rfl rfl rfl rfl rfl rfl (by decide) hNb1 (fun _ => rfl) (fun _ => rfl) (fun _ => rfl) rfl (by simp) (by (simp only [show Try.prog.bytesOf 80 = 104 from rfl, List.length_cons, List.length_nil]; omega)) (by simp) ?_
    intro b2 zs2 hFb2 hNb2 htb2 hlb2
    replace hNb2 : ([b2, b1, x, tb] : List Nat).Nodup := hNb2
    refine ⟨trivial, ?_⟩
    show K1 [(3, .ms ⟨b2, 0, none⟩ (([ev1] : List Thg).length) zs2.length), (10, .ptr ⟨q1, 0, none⟩)] (AMem.wth m [(b2, .cells (flatK thgAV zs2)), (b1, .cells [.int .i64 ev1.id, .str ev1.kind, .int .i64 ev1.v.kind, .int .i64 ev1.v.n, .str ev1.v.s, .slice false (ev1.v.l.map valIn), .slice false (ev1.v.f.map fldIn)]), (x, cObj d tb ob fb c), (tb, AObj.iter q1 (List.map (mapAV intAV thgAV) c.things) ([] ++ [k1]))])
    refine hK1 _ _ ?_; clear hK1 K1
    have hNd1 : ([b2, x, tb] : List Nat).Nodup := drop_nodup (L := [(b2, .cells (flatK thgAV zs2)), (b1, .cells [.int .i64 ev1.id, .str ev1.kind, .int .i64 ev1.v.kind, .int .i64 ev1.v.n, .str ev1.v.s, .slice false (ev1.v.l.map valIn), .slice false (ev1.v.f.map fldIn)]), (x, cObj d tb ob fb c), (tb, AObj.iter q1 (List.map (mapAV intAV thgAV) c.things) ([] ++ [k1]))]) hNb2 (pick_perm [1] _)
    refine ⟨(AMem.wth m [(b2, .cells (flatK thgAV zs2)), (x, cObj d tb ob fb c), (tb, AObj.iter q1 (List.map (mapAV intAV thgAV) c.things) ([] ++ [k1]))]), (wth_keep (m := m) (L := [(b2, .cells (flatK thgAV zs2)), (b1, .cells [.int .i64 ev1.id, .str ev1.kind, .int .i64 ev1.v.kind, .int .i64 ev1.v.n, .str ev1.v.s, .slice false (ev1.v.l.map valIn), .slice false (ev1.v.f.map fldIn)]), (x, cObj d tb ob fb c), (tb, AObj.iter q1 (List.map (mapAV intAV thgAV) c.things) ([] ++ [k1]))]) (L1 := [(b2, .cells (flatK thgAV zs2)), (x, cObj d tb ob fb c), (tb, AObj.iter q1 (List.map (mapAV intAV thgAV) c.things) ([] ++ [k1]))]) (L2 := [(b1, .cells [.int .i64 ev1.id, .str ev1.kind, .int .i64 ev1.v.kind, .int .i64 ev1.v.n, .str ev1.v.s, .slice false (ev1.v.l.map valIn), .slice false (ev1.v.f.map fldIn)])]) hNb2 (pick_perm [0, 1, 1] _) (by simp only [List.map_cons, List.map_nil, List.forall_mem_cons]; exact ⟨hFb1, fun _ h => by cases h⟩)), ?_⟩
    refine ⟨.inr (b2, [k1], zs2), rfl, rfl, ?_, ?_⟩
    ·
     show ([b2, x, tb] : List Nat).Nodup ∧ m b2 = none ∧ ([k1]).Nodup ∧ (∀ i ∈ ([k1]), i < c.things.length) ∧ (zs2).take ([k1]).length = thgsAt c.things ([k1]) ∧ ([k1]).length ≤ (zs2).length
     exact ⟨hNd1, hFb2, by simp, fun i hi => by simp at hi; subst hi; exact (List.getElem?_eq_some_iff.1 hp1).1, by rw [show ([k1] : List Nat) = [] ++ [k1] from rfl, thgsAt_snoc hp1]; exact htb2, hlb2⟩
    ·
     show c.things.length - ([k1]).length < c.things.length + 1
     simp; omega
  ·
   replace hI : ([b, x, tb] : List Nat).Nodup ∧ m b = none ∧ (seen).Nodup ∧ (∀ i ∈ seen, i < c.things.length) ∧ (zs).take (seen).length = thgsAt c.things seen ∧ (seen).length ≤ (zs).length := hI
   obtain ⟨hNb, hFb, hs1, hs2, hs3, hs4⟩ := hI
   have hsl := seenT_len hs1 hs2
   have hnodT := thgsAt_nd hnd (fun p hp => (hids p hp).1) hs1 hs2
   show AWP _ _ _ _ [(3, .ms ⟨b, 0, none⟩ seen.length zs.length), (10, .ptr ⟨q1, 0, none⟩)] (AMem.wth m [(b, .cells (flatK thgAV zs)), (x, cObj d tb ob fb c), (tb, AObj.iter q1 (List.map (mapAV intAV thgAV) c.things) seen)])
   refine awp_reg2_seq [] [3, 10, 12] (by decide) ?_
   intro K1 hK1
   refine ar_nextT rfl (m := m) (L := [(b, .cells (flatK thgAV zs)), (x, cObj d tb ob fb c), (tb, AObj.iter q1 (List.map (mapAV intAV thgAV) c.things) seen)]) 2 intAV thgAV c.things seen rfl rfl hNb ?_ ?_
   ·
    intro hE2
    refine ⟨(Nat.le_of_ble_eq_true rfl), ?_⟩
    show K1 [(3, .ms ⟨b, 0, none⟩ seen.length zs.length), (10, .ptr ⟨q1, 0, none⟩), (12, .bool false)] (AMem.wth m [(b, .cells (flatK thgAV zs)), (x, cObj d tb ob fb c), (tb, AObj.iter q1 (List.map (mapAV intAV thgAV) c.things) seen)])
    refine hK1 _ _ ?_; clear hK1 K1
    refine awp_unrange (m := m) (L := [(b, .cells (flatK thgAV zs)), (x, cObj d tb ob fb c), (tb, AObj.iter q1 (List.map (mapAV intAV thgAV) c.things) seen)]) 2 hNb rfl ?_
    show AWP _ _ _ _ [(3, .ms ⟨b, 0, none⟩ seen.length zs.length), (10, .ptr ⟨q1, 0, none⟩), (12, .bool false)] (AMem.wth m [(b, .cells (flatK thgAV zs)), (x, cObj d tb ob fb c), (tb, tObj c.things)])
    refine awp_seq_k ?_; intro K5 hK5
    refine awp_cond rfl rfl (fun hcz => ?_) (fun hcz => ?_)
    ·
     cases hcz
    clear hcz
    refine awp_exit ?_
    refine hK2 _ _ ?_; clear hK2
    refine awp_reg2_seq [] [3] (by decide) ?_
    intro K1 hK1
    refine ⟨trivial, ?_⟩
    refine ar_mem (wth_split hNb (pick_perm [0] _)) ?_
    refine u_SortT b seen.length zs.length zs hs4 (by omega) (by rw [hs3]; exact fun a ha => by obtain ⟨p, hp, rfl⟩ := thgsAt_mem hs2 a ha; have := hids p hp; omega) (by rw [hs3]; exact hnodT) _ _ ?_
    show aopsR _ _ _ _ _ _ (AMem.wth (AMem.wth m [(x, cObj d tb ob fb c), (tb, tObj c.things)]) [(b, .cells (flatK thgAV (sortT (zs.take seen.length) ++ zs.drop seen.length)))])
    refine ar_mem (wth_split (m := m) (L := [(b, .cells (flatK thgAV (sortT (zs.take seen.length) ++ zs.drop seen.length))), (x, cObj d tb ob fb c), (tb, tObj c.things)]) hNb (pick_perm [0] _)).symm ?_
    show K1 [(3, .ms ⟨b, 0, none⟩ seen.length zs.length)] (AMem.wth m [(b, .cells (flatK thgAV (sortT (zs.take seen.length) ++ zs.drop seen.length))), (x, cObj d tb ob fb c), (tb, tObj c.things)])
    refine hK1 _ _ ?_; clear hK1 K1
    refine awp_freezeK 3 0 (sortT (zs.take seen.length) ++ zs.drop seen.length) (sz := 7) (fun _ => rfl) (by decide) (fun _ => rfl) rfl rfl hNb hFb (by rw [List.length_append, sortT_len, List.length_take, List.length_drop]; omega) (by omega) ?_
    rw [sortT_take hs4]
    have hNd2 : ([x, tb] : List Nat).Nodup := drop_nodup (L := [(b, .cells (flatK thgAV (sortT (zs.take seen.length) ++ zs.drop seen.length))), (x, cObj d tb ob fb c), (tb, tObj c.things)]) hNb (pick_perm [0] _)
    show AWP _ _ _ _ [(3, .slice false ((sortT (zs.take seen.length)).map thgAV))] (AMem.wth m [(x, cObj d tb ob fb c), (tb, tObj c.things)])
    refine awp_reg2_seq [] [2] (by decide) ?_
    intro K1 hK1
    refine ⟨trivial, trivial, ?_⟩
    show K1 [(2, .slice false ((sortT (zs.take seen.length)).map thgAV))] (AMem.wth m [(x, cObj d tb ob fb c), (tb, tObj c.things)])
    refine hK1 _ _ ?_; clear hK1 K1
    refine awp_ret ?_
    refine ⟨trivial, (AMem.wth m [(x, cObj d tb ob fb c), (tb, tObj c.things)]), fun _ _ h => h, ?_⟩
    show K (.slice false ((sortT (zs.take seen.length)).map thgAV)) (AMem.wth m [(x, cObj d tb ob fb c), (tb, tObj c.things)])
   
    have e0 : allT c = (sortT (zs.take seen.length) : List Thg) := by
     first | (exact allT_nil hE1) | (rw [hs3]; exact (sortT_of_perm (thgsAt_perm hs1 hs2 hE2) (ids_nodup hnd fun p hp => (hids p hp).1)).symm)
    rw [e0] at hK
    exact hK
   ·
    rintro k2 ⟨ek2, ev2⟩ hp2 hn2
    refine ⟨(Nat.le_of_ble_eq_true rfl), ?_⟩
    show K1 [(3, .ms ⟨b, 0, none⟩ seen.length zs.length), (10, .ptr ⟨q1, 0, none⟩), (12, .bool true)] (AMem.wth m [(b, .cells (flatK thgAV zs)), (x, cObj d tb ob fb c), (tb, AObj.iter q1 (List.map (mapAV intAV thgAV) c.things) (seen ++ [k2]))])
    refine hK1 _ _ ?_; clear hK1 K1
    refine awp_seq_k ?_; intro K6 hK6
    refine awp_cond rfl rfl (fun hcz => ?_) (fun hcz => ?_)
    rotate_left; · cases hcz
    clear hcz
    refine awp_skip ?_
    refine hK6 _ _ ?_; clear hK6
    refine awp_block ?_
    refine awp_reg2_seq [] [3, 5, 10] (by decide) ?_
    intro K1 hK1
    refine ar_entryT rfl (m := m) (L := [(b, .cells (flatK thgAV zs)), (x, cObj d tb ob fb c), (tb, AObj.iter q1 (List.map (mapAV intAV thgAV) c.things) (seen ++ [k2]))]) 2 intAV thgAV c.things seen hp2 rfl rfl hNb ?_
    refine ⟨(Nat.le_of_ble_eq_true rfl), ?_⟩
    refine ar_alloc rfl (z := .agg [.int .i64 0, .str ([]), .int .i64 0, .int .i64 0, .str ([]), .slice true [], .slice true []]) rfl rfl ?_
    intro b3 hb3
    have hFb3 : m b3 = none := wth_none hb3
    have hNb3 : ([b3, b, x, tb] : List Nat).Nodup := wth_nodup hb3 hNb
    refine ar_storep rfl 0 (v := thgAV ev2) (l' := [.int .i64 ev2.id, .str ev2.kind, .int .i64 ev2.v.kind, .int .i64 ev2.v.n, .str ev2.v.s, .slice false (ev2.v.l.map valIn), .slice false (ev2.v.f.map fldIn)]) rfl (by rfl) hNb3 rfl rfl rfl rfl rfl (Nat.le_of_ble_eq_true rfl) rfl ?_
    show K1 [(3, .ms ⟨b, 0, none⟩ seen.length zs.length), (5, .ptr ⟨b3, 0, none⟩), (10, .ptr ⟨q1, 0, none⟩)] (AMem.wth m [(b3, .cells [.int .i64 ev2.id, .str ev2.kind, .int .i64 ev2.v.kind, .int .i64 ev2.v.n, .str ev2.v.s, .slice false (ev2.v.l.map valIn), .slice false (ev2.v.f.map fldIn)]), (b, .cells (flatK thgAV zs)), (x, cObj d tb ob fb c), (tb, AObj.iter q1 (List.map (mapAV intAV thgAV) c.things) (seen ++ [k2]))])
    refine hK1 _ _ ?_; clear hK1 K1
    refine awp_reg2_seq [] [3, 5, 10] (by decide) ?_
    intro K1 hK1
    refine ⟨⟨rfl, by decide⟩, ?_⟩
    refine ar_loadp rfl (v := .agg [.int .i64 ev2.v.kind, .int .i64 ev2.v.n, .str ev2.v.s, .slice false (ev2.v.l.map valIn), .slice false (ev2.v.f.map fldIn)]) rfl (wth_get 0 hNb3 rfl) rfl (apartOk_agg rfl rfl (Nat.le_of_ble_eq_true rfl)) rfl ?_
    refine u_Copy ev2.v (chk_okV (hids _ (List.mem_of_getElem? hp2)).2.2) _ _ ?_
    refine ⟨⟨rfl, by decide⟩, ?_⟩
    refine ar_storep rfl 0 (v := valTop ev2.v) (l' := [.int .i64 ev2.id, .str ev2.kind, .int .i64 ev2.v.kind, .int .i64 ev2.v.n, .str ev2.v.s, .slice false (ev2.v.l.map valIn), .slice false (ev2.v.f.map fldIn)]) rfl (by rfl) hNb3 rfl rfl rfl rfl rfl (Nat.le_of_ble_eq_true rfl) rfl ?_
    show K1 [(3, .ms ⟨b, 0, none⟩ seen.length zs.length), (5, .ptr ⟨b3, 0, none⟩), (10, .ptr ⟨q1, 0, none⟩)] (AMem.wth m [(b3, .cells [.int .i64 ev2.id, .str ev2.kind, .int .i64 ev2.v.kind, .int .i64 ev2.v.n, .str ev2.v.s, .slice false (ev2.v.l.map valIn), .slice false (ev2.v.f.map fldIn)]), (b, .cells (flatK thgAV zs)), (x, cObj d tb ob fb c), (tb, AObj.iter q1 (List.map (mapAV intAV thgAV) c.things) (seen ++ [k2]))])
    refine hK1 _ _ ?_; clear hK1 K1
    refine awp_subQ ?_
    refine awp_reg2 [19] [3, 10] (by decide) ?_
    intro K1 hK1
    refine ⟨trivial, ?_⟩
    refine ar_loadp rfl (v := .agg [.int .i64 ev2.id, .str ev2.kind, .int .i64 ev2.v.kind, .int .i64 ev2.v.n, .str ev2.v.s, .slice false (ev2.v.l.map valIn), .slice false (ev2.v.f.map fldIn)]) rfl (wth_get 0 hNb3 rfl) rfl (apartOk_agg rfl rfl (Nat.le_of_ble_eq_true rfl)) rfl ?_
    refine ⟨⟨rfl, Nat.le_of_ble_eq_true rfl, rfl, Nat.le_of_ble_eq_true rfl, rfl, by simp only [List.forall_mem_cons]; exact ⟨⟨rfl, rfl⟩, fun _ h => by cases h⟩⟩, ?_⟩
    refine ar_appendMsK rfl 1 thgAV 7 zs ([ev2] : List Thg) zT seen.length rfl rfl rfl rfl rfl rfl rfl rfl (by decide) rfl hNb3 hFb (fun _ => rfl) (fun _ => rfl) (fun _ => rfl) rfl (by (first | omega | (simp only [List.length_append, List.length_cons, List.length_nil]; omega))) (by (simp only [show Try.prog.bytesOf 80 = 104 from rfl, List.length_append, List.length_cons, List.length_nil]; omega)) (by (first | omega | (simp only [List.length_append, List.length_cons, List.length_nil]; omega))) ?_
    intro b4 zs4 hFb4 hNb4 htb4 hlb4
    replace htb4 : zs4.take (seen.length + ([ev2] : List Thg).length) = zs.take seen.length ++ ([ev2] : List Thg) := htb4
    replace hlb4 : seen.length + ([ev2] : List Thg).length ≤ zs4.length := hlb4
    refine ⟨trivial, ?_⟩
    show K1 [(3, .ms ⟨b4, 0, none⟩ (seen.length + ([ev2] : List Thg).length) zs4.length), (10, .ptr ⟨q1, 0, none⟩)] (AMem.wth m [(b4, .cells (flatK thgAV zs4)), (b3, .cells [.int .i64 ev2.id, .str ev2.kind, .int .i64 ev2.v.kind, .int .i64 ev2.v.n, .str ev2.v.s, .slice false (ev2.v.l.map valIn), .slice false (ev2.v.f.map fldIn)]), (x, cObj d tb ob fb c), (tb, AObj.iter q1 (List.map (mapAV intAV thgAV) c.things) (seen ++ [k2]))])
    refine hK1 _ _ ?_; clear hK1 K1
    have hNd3 : ([b4, x, tb] : List Nat).Nodup := drop_nodup (L := [(b4, .cells (flatK thgAV zs4)), (b3, .cells [.int .i64 ev2.id, .str ev2.kind, .int .i64 ev2.v.kind, .int .i64 ev2.v.n, .str ev2.v.s, .slice false (ev2.v.l.map valIn), .slice false (ev2.v.f.map fldIn)]), (x, cObj d tb ob fb c), (tb, AObj.iter q1 (List.map (mapAV intAV thgAV) c.things) (seen ++ [k2]))]) hNb4 (pick_perm [1] _)
    refine ⟨(AMem.wth m [(b4, .cells (flatK thgAV zs4)), (x, cObj d tb ob fb c), (tb, AObj.iter q1 (List.map (mapAV intAV thgAV) c.things) (seen ++ [k2]))]), (wth_keep (m := m) (L := [(b4, .cells (flatK thgAV zs4)), (b3, .cells [.int .i64 ev2.id, .str ev2.kind, .int .i64 ev2.v.kind, .int .i64 ev2.v.n, .str ev2.v.s, .slice false (ev2.v.l.map valIn), .slice false (ev2.v.f.map fldIn)]), (x, cObj d tb ob fb c), (tb, AObj.iter q1 (List.map (mapAV intAV thgAV) c.things) (seen ++ [k2]))]) (L1 := [(b4, .cells (flatK thgAV zs4)), (x, cObj d tb ob fb c), (tb, AObj.iter q1 (List.map (mapAV intAV thgAV) c.things) (seen ++ [k2]))]) (L2 := [(b3, .cells [.int .i64 ev2.id, .str ev2.kind, .int .i64 ev2.v.kind, .int .i64 ev2.v.n, .str ev2.v.s, .slice false (ev2.v.l.map valIn), .slice false (ev2.v.f.map fldIn)])]) hNb4 (pick_perm [0, 1, 1] _) (by simp only [List.map_cons, List.map_nil, List.forall_mem_cons]; exact ⟨hFb3, fun _ h => by cases h⟩)), ?_⟩
    refine ⟨.inr (b4, seen ++ [k2], zs4), (by simp), rfl, ?_, ?_⟩
    ·
     show ([b4, x, tb] : List Nat).Nodup ∧ m b4 = none ∧ (seen ++ [k2]).Nodup ∧ (∀ i ∈ (seen ++ [k2]), i < c.things.length) ∧ (zs4).take (seen ++ [k2]).length = thgsAt c.things (seen ++ [k2]) ∧ (seen ++ [k2]).length ≤ (zs4).length
     have hss := sstepT hs1 hs2 hp2 hn2
     exact ⟨hNd3, hFb4, hss.1, hss.2, by rw [thgsAt_snoc hp2, ← hs3, List.length_append]; exact htb4, by rw [List.length_append]; exact hlb4⟩
    ·
     show c.things.length - (seen ++ [k2]).length < c.things.length - (seen).length
     have hss := sstepT hs1 hs2 hp2 hn2
     have := seenT_len hss.1 hss.2
     rw [List.length_append, List.length_singleton] at *
     omega

end Go.Proofs
end
