import Derived.Test.YtoeghipbkmaccaaProg
import Derived.Test.YtoeghipbkmaccaaVa1
import Derived.Test.YtoeghipbkmaccaaWxx
import Derived.Test.YtoeghipbkmaccaaCl1
section
namespace Go.Proofs
open Go Go.Aw
set_option maxRecDepth 100000
theorem chk_cnt {v : Val} (h : chk v = 0) : depV v ≤ 60 ∧ shpF (depV v + 1) v = true := by
  unfold chk at h
  split at h
  · rename_i h1
    have q := cntF_ok _ _ _ _ (by omega) h1
    exact ⟨by omega, shE_t h⟩
  · simp at h
section
variable {c : ClSt} {s : DSt} {token kind : Str} {v : Val} {id : Int}
theorem createR_1 (h : attrE v ≠ 0) : createR c s token kind v = ((c, s), (0, attrE v)) := by rw [createR, if_pos h]
theorem createR_2 (h : attrE v = 0) (h2 : nameV kind = false) : createR c s token kind v = ((c, s), (0, 3)) := by rw [createR, if_neg (by simp [h]), if_pos h2]
theorem createR_3 (h : attrE v = 0) (h2 : nameV kind = true) (h3 : (callT c s token 1).2.2 ≠ 0 ∨ (callT c s token 1).2.1 = true) : createR c s token kind v = (({ c with calls := ccalls c s token 1 }, (stepF s).1), ((callT c s token 1).1.id, (callT c s token 1).2.2)) := by
  rw [createR, if_neg (by simp [h]), if_neg (by simp [h2]), if_pos h3]
theorem createR_4 (h : attrE v = 0) (h2 : nameV kind = true) (h3 : (callT c s token 1).2.2 = 0 ∧ (callT c s token 1).2.1 = false) (h4 : c.quota ≤ c.things.length) : createR c s token kind v = (({ c with calls := ccalls c s token 1 }, (stepF s).1), (0, 13)) := by
  rw [createR, if_neg (by simp [h]), if_neg (by simp [h2]), if_neg (by simp [h3]), if_pos h4]
theorem createR_5 (h : attrE v = 0) (h2 : nameV kind = true) (h3 : (callT c s token 1).2.2 = 0 ∧ (callT c s token 1).2.1 = false) (h4 : (c.things.length : Int) < c.quota) : createR c s token kind v = (({ c with calls := ccalls c s token 1, next := c.next + 1, things := mput c.things c.next ⟨c.next, kind, v⟩, tokens := mput c.tokens token ⟨1, c.next⟩ }, (stepF s).1), (c.next, 0)) := by
  rw [createR, if_neg (by simp [h]), if_neg (by simp [h2]), if_neg (by simp [h3]), if_neg (by omega)]
theorem updateR_1 (h : attrE v ≠ 0) : updateR c s token id v = ((c, s), attrE v) := by rw [updateR, if_pos h]
theorem updateR_2 (h : attrE v = 0) (h3 : (callT c s token 2).2.2 ≠ 0 ∨ (callT c s token 2).2.1 = true) : updateR c s token id v = (({ c with calls := ccalls c s token 2 }, (stepF s).1), (callT c s token 2).2.2) := by
  rw [updateR, if_neg (by simp [h]), if_pos h3]
theorem updateR_3 (h : attrE v = 0) (h3 : (callT c s token 2).2.2 = 0 ∧ (callT c s token 2).2.1 = false) (h4 : (mget c.things id).isSome = false) : updateR c s token id v = (({ c with calls := ccalls c s token 2 }, (stepF s).1), 7) := by
  rw [updateR, if_neg (by simp [h]), if_neg (by simp [h3]), if_pos h4]
theorem updateR_4 (h : attrE v = 0) (h3 : (callT c s token 2).2.2 = 0 ∧ (callT c s token 2).2.1 = false) (h4 : (mget c.things id).isSome = true) : updateR c s token id v = (({ c with calls := ccalls c s token 2, things := mput c.things id ⟨((mget c.things id).getD zT).id, ((mget c.things id).getD zT).kind, v⟩, tokens := mput c.tokens token ⟨2, id⟩ }, (stepF s).1), 0) := by
  rw [updateR, if_neg (by simp [h]), if_neg (by simp [h3]), if_neg (by simp [h4])]
theorem deleteR_2 (h3 : (callT c s token 3).2.2 ≠ 0 ∨ (callT c s token 3).2.1 = true) : deleteR c s token id = (({ c with calls := ccalls c s token 3 }, (stepF s).1), (callT c s token 3).2.2) := by
  rw [deleteR, if_pos h3]
theorem deleteR_3 (h3 : (callT c s token 3).2.2 = 0 ∧ (callT c s token 3).2.1 = false) (h4 : (mget c.things id).isSome = false) : deleteR c s token id = (({ c with calls := ccalls c s token 3 }, (stepF s).1), 7) := by
  rw [deleteR, if_neg (by simp [h3]), if_pos h4]
theorem deleteR_4 (h3 : (callT c s token 3).2.2 = 0 ∧ (callT c s token 3).2.1 = false) (h4 : (mget c.things id).isSome = true) : deleteR c s token id = (({ c with calls := ccalls c s token 3, things := mdel c.things id, tokens := mput c.tokens token ⟨3, id⟩ }, (stepF s).1), 0) := by
  rw [deleteR, if_neg (by simp [h3]), if_neg (by simp [h4])]
end
theorem chk_okV {v : Val} (h : chk v = 0) : okV v := okV_small (depV v + 1) v (Nat.lt_succ_self _) (by have := (chk_cnt h).1; omega)
set_option maxHeartbeats 8000000 in
theorem u_Create (x d tb ob fb kb nb : Nat) (c : ClSt) (s : DSt) (token kind : Str) (v : Val) (hN : [x, d, tb, ob, fb].Nodup) (hkd : kind.length ≤ 140737488355328) (hst : 0 ≤ s.steps) (hst2 : s.steps ≤ 4611686018427387904) (hfu : -1 ≤ s.fuse) (hfu2 : s.fuse ≤ 9223372036854775807) (hca : 0 ≤ c.calls) (hca2 : c.calls ≤ 1000000) (hnx : 0 ≤ c.next) (hnx2 : c.next ≤ 1000000) (htl : c.things.length ≤ 1000000) (hol : c.tokens.length ≤ 1000000) (m : AMem)  (K : AV → AMem → Prop) (hK : K (.tuple [iT (createR c s token kind v).2.1, .err 108 (createR c s token kind v).2.2]) (mW m [(x, cObj d tb ob fb (createR c s token kind v).1.1), (d, dObj kb nb (createR c s token kind v).1.2), (tb, tObj (createR c s token kind v).1.1.things), (ob, oObj (createR c s token kind v).1.1.tokens), (fb, fObj (createR c s token kind v).1.1.fails)])) : ACalls Try.prog 48 [pT x, .str token, .str kind, valTop v] (mW m [(x, cObj d tb ob fb c), (d, .cells [.map kb, .map nb, sT (s.wait.map chgAV), iT s.fuse, .bool s.down, iT s.steps]), (tb, tObj c.things), (ob, oObj c.tokens), (fb, fObj c.fails)]) K := by
 refine acalls_enter Try.func48 rfl (by decide) (nB rfl) ?_
 show AWP _ _ _ _ [(0, pT x), (1, .str token), (2, .str kind), (3, valTop v)] (mW m [(x, cObj d tb ob fb c), (d, .cells [.map kb, .map nb, sT (s.wait.map chgAV), iT s.fuse, .bool s.down, iT s.steps]), (tb, tObj c.things), (ob, oObj c.tokens), (fb, fObj c.fails)])
 refine rS [] [0, 1, 2, 7] (by decide) ?_
 intro K1 hK1
 refine ar_box rfl (m := m) (L := [(x, cObj d tb ob fb c), (d, .cells [.map kb, .map nb, sT (s.wait.map chgAV), iT s.fuse, .bool s.down, iT s.steps]), (tb, tObj c.things), (ob, oObj c.tokens), (fb, fObj c.fails)]) (v := valTop v) (by rfl) rfl ?_
 intro b1 hb1
 have hFb1 : m b1 = none := wth_none hb1
 have hNb1 : ([b1, x, d, tb, ob, fb] : List Nat).Nodup := wth_nodup hb1 hN
 refine ⟨tv, tv, ?_⟩
 show K1 [(0, pT x), (1, .str token), (2, .str kind), (7, pT b1)] (mW m [(b1, .cells [iT v.kind, iT v.n, .str v.s, sF (v.l.map valIn), sF (v.f.map fldIn)]), (x, cObj d tb ob fb c), (d, .cells [.map kb, .map nb, sT (s.wait.map chgAV), iT s.fuse, .bool s.down, iT s.steps]), (tb, tObj c.things), (ob, oObj c.tokens), (fb, fObj c.fails)])
 refine hK1 _ _ ?_; clear hK1 K1
 refine rS [] [0, 1, 2, 7, 10] (by decide) ?_
 intro K1 hK1
 refine aL rfl (v := .agg [iT v.kind, iT v.n, .str v.s, sF (v.l.map valIn), sF (v.f.map fldIn)]) rfl (wG 0 hNb1 rfl) rfl (apartOk_agg rfl rfl (nB rfl)) rfl ?_
 refine u_attrs v _ _ ?_
 refine ⟨tv, ?_⟩
 show K1 [(0, pT x), (1, .str token), (2, .str kind), (7, pT b1), (10, .err 108 (attrE v))] _
 refine hK1 _ _ ?_; clear hK1 K1
 refine sK ?_; intro K2 hK2
 refine rS [] [0, 1, 2, 7, 10, 17] (by decide) ?_
 intro K1 hK1
 refine ⟨tv, ⟨rfl, rfl⟩, ?_⟩
 show K1 [(0, pT x), (1, .str token), (2, .str kind), (7, pT b1), (10, .err 108 (attrE v)), (17, .bool (!((attrE v) == 0)))] _
 refine hK1 _ _ ?_; clear hK1 K1
 refine cD rfl rfl (fun h1 => ?_) (fun h1 => ?_)
 ·
  replace h1 : attrE v ≠ 0 := (ne_of_beq_false (bnT h1))
  refine rS [] [8, 9] (by decide) ?_
  intro K1 hK1
  refine ⟨tv, tv, tv, ?_⟩
  show K1 [(8, iT 0), (9, .err 108 (attrE v))] (mW m [(b1, .cells [iT v.kind, iT v.n, .str v.s, sF (v.l.map valIn), sF (v.f.map fldIn)]), (x, cObj d tb ob fb c), (d, .cells [.map kb, .map nb, sT (s.wait.map chgAV), iT s.fuse, .bool s.down, iT s.steps]), (tb, tObj c.things), (ob, oObj c.tokens), (fb, fObj c.fails)])
  refine hK1 _ _ ?_; clear hK1 K1
  refine awp_ret ?_
  refine ⟨tv, tv, (mW m [(x, cObj d tb ob fb c), (d, .cells [.map kb, .map nb, sT (s.wait.map chgAV), iT s.fuse, .bool s.down, iT s.steps]), (tb, tObj c.things), (ob, oObj c.tokens), (fb, fObj c.fails)]), (wth_sub2 (m := m) [(b1, .cells [iT v.kind, iT v.n, .str v.s, sF (v.l.map valIn), sF (v.f.map fldIn)])] [(x, cObj d tb ob fb c), (d, .cells [.map kb, .map nb, sT (s.wait.map chgAV), iT s.fuse, .bool s.down, iT s.steps]), (tb, tObj c.things), (ob, oObj c.tokens), (fb, fObj c.fails)] hNb1 (by simp only [List.map_cons, List.map_nil, List.forall_mem_cons]; exact ⟨hFb1, nfA⟩)), ?_⟩
  show K (.tuple [iT 0, .err 108 (attrE v)]) (AMem.wth m [(x, cObj d tb ob fb c), (d, .cells [.map kb, .map nb, sT (s.wait.map chgAV), iT s.fuse, .bool s.down, iT s.steps]), (tb, tObj c.things), (ob, oObj c.tokens), (fb, fObj c.fails)])
 
  have e0 : createR c s token kind v = (((c, s), (0, attrE v)) : (ClSt × DSt) × (Int × Int)) := by
   first | exact createR_1 (by assumption) | exact createR_2 (by assumption) (by assumption) | exact createR_3 (by assumption) (by assumption) (by assumption) | exact createR_4 (by assumption) (by assumption) (by assumption) (by assumption) | exact createR_5 (by assumption) (by assumption) (by assumption) (by assumption)
  rw [e0] at hK
  exact hK
 replace h1 : attrE v = 0 := (eq_of_beq (bnF h1))
 refine awp_skip ?_
 refine hK2 _ _ ?_; clear hK2
 refine sK ?_; intro K3 hK3
 refine rS [] [0, 1, 2, 7, 21] (by decide) ?_
 intro K1 hK1
 refine ⟨tv, ?_⟩
 refine u_VName kind (by first | exact hkd | omega) _ _ ?_
 refine ⟨tv, ?_⟩
 show K1 [(0, pT x), (1, .str token), (2, .str kind), (7, pT b1), (21, .bool (!(nameV kind)))] (mW m [(b1, .cells [iT v.kind, iT v.n, .str v.s, sF (v.l.map valIn), sF (v.f.map fldIn)]), (x, cObj d tb ob fb c), (d, .cells [.map kb, .map nb, sT (s.wait.map chgAV), iT s.fuse, .bool s.down, iT s.steps]), (tb, tObj c.things), (ob, oObj c.tokens), (fb, fObj c.fails)])
 refine hK1 _ _ ?_; clear hK1 K1
 refine cD rfl rfl (fun h2 => ?_) (fun h2 => ?_)
 ·
  replace h2 : nameV kind = false := (bnT h2)
  refine rS [] [8, 9] (by decide) ?_
  intro K1 hK1
  refine ⟨tv, tv, tv, ?_⟩
  show K1 [(8, iT 0), (9, .iface 108 (iT 3))] (mW m [(b1, .cells [iT v.kind, iT v.n, .str v.s, sF (v.l.map valIn), sF (v.f.map fldIn)]), (x, cObj d tb ob fb c), (d, .cells [.map kb, .map nb, sT (s.wait.map chgAV), iT s.fuse, .bool s.down, iT s.steps]), (tb, tObj c.things), (ob, oObj c.tokens), (fb, fObj c.fails)])
  refine hK1 _ _ ?_; clear hK1 K1
  refine awp_toErr 108 [9] ?_
  show AWP _ _ _ _ [(8, iT 0), (9, .err 108 3)] _
  refine awp_ret ?_
  refine ⟨tv, tv, (mW m [(x, cObj d tb ob fb c), (d, .cells [.map kb, .map nb, sT (s.wait.map chgAV), iT s.fuse, .bool s.down, iT s.steps]), (tb, tObj c.things), (ob, oObj c.tokens), (fb, fObj c.fails)]), (wth_sub2 (m := m) [(b1, .cells [iT v.kind, iT v.n, .str v.s, sF (v.l.map valIn), sF (v.f.map fldIn)])] [(x, cObj d tb ob fb c), (d, .cells [.map kb, .map nb, sT (s.wait.map chgAV), iT s.fuse, .bool s.down, iT s.steps]), (tb, tObj c.things), (ob, oObj c.tokens), (fb, fObj c.fails)] hNb1 (by simp only [List.map_cons, List.map_nil, List.forall_mem_cons]; exact ⟨hFb1, nfA⟩)), ?_⟩
  show K (.tuple [iT 0, .err 108 3]) (AMem.wth m [(x, cObj d tb ob fb c), (d, .cells [.map kb, .map nb, sT (s.wait.map chgAV), iT s.fuse, .bool s.down, iT s.steps]), (tb, tObj c.things), (ob, oObj c.tokens), (fb, fObj c.fails)])
 
  have e0 : createR c s token kind v = (((c, s), (0, 3)) : (ClSt × DSt) × (Int × Int)) := by
   first | exact createR_1 (by assumption) | exact createR_2 (by assumption) (by assumption) | exact createR_3 (by assumption) (by assumption) (by assumption) | exact createR_4 (by assumption) (by assumption) (by assumption) (by assumption) | exact createR_5 (by assumption) (by assumption) (by assumption) (by assumption)
  rw [e0] at hK
  exact hK
 replace h2 : nameV kind = true := (bnF h2)
 refine awp_skip ?_
 refine hK3 _ _ ?_; clear hK3
 refine rS [] [0, 1, 2, 7, 10, 11, 12] (by decide) ?_
 intro K1 hK1
 refine ⟨tv, tv, ?_⟩
 refine ar_mem (wS hNb1 (pick_perm [1, 1, 2, 2] _)) ?_
 refine u_callE x d tb ob fb kb nb c s token 1 (by simp at hN ⊢; omega) hst hst2 hfu hfu2 hca hca2 _ _ ?_
 refine ar_mem (wS (m := m) (L := [(b1, .cells [iT v.kind, iT v.n, .str v.s, sF (v.l.map valIn), sF (v.f.map fldIn)]), (x, .cells [pT d, .map tb, .map ob, iT c.next, iT c.quota, iT (ccalls c s token 1), .map fb]), (d, .cells [.map kb, .map nb, sT ((((stepF s).1).wait).map chgAV), iT (((stepF s).1).fuse), .bool (((stepF s).1).down), iT (((stepF s).1).steps)]), (tb, tObj c.things), (ob, oObj c.tokens), (fb, fObj c.fails)]) hNb1 (pick_perm [1, 1, 2, 2] _)).symm ?_
 refine ⟨tv, (nB rfl), (nB rfl), (nB rfl), ?_⟩
 refine ar_alloc rfl (z := .agg [iT 0, iT 0]) rfl rfl ?_
 intro b2 hb2
 have hFb2 : m b2 = none := wth_none hb2
 have hNb2 : ([b2, b1, x, d, tb, ob, fb] : List Nat).Nodup := wth_nodup hb2 hNb1
 refine aS rfl 0 (v := .agg [iT ((callT c s token 1).1.op), iT ((callT c s token 1).1.id)]) (l' := [iT ((callT c s token 1).1.op), iT ((callT c s token 1).1.id)]) rfl rfl hNb2 rfl rfl rfl rfl rfl (nB rfl) rfl ?_
 refine ⟨tv, tv, ?_⟩
 show K1 [(0, pT x), (1, .str token), (2, .str kind), (7, pT b1), (10, .err 108 ((callT c s token 1).2.2)), (11, pT b2), (12, .bool ((callT c s token 1).2.1))] (mW m [(b2, .cells [iT ((callT c s token 1).1.op), iT ((callT c s token 1).1.id)]), (b1, .cells [iT v.kind, iT v.n, .str v.s, sF (v.l.map valIn), sF (v.f.map fldIn)]), (x, .cells [pT d, .map tb, .map ob, iT c.next, iT c.quota, iT (ccalls c s token 1), .map fb]), (d, .cells [.map kb, .map nb, sT ((((stepF s).1).wait).map chgAV), iT (((stepF s).1).fuse), .bool (((stepF s).1).down), iT (((stepF s).1).steps)]), (tb, tObj c.things), (ob, oObj c.tokens), (fb, fObj c.fails)])
 refine hK1 _ _ ?_; clear hK1 K1
 refine sK ?_; intro K4 hK4
 refine rS [] [0, 1, 2, 7, 10, 11, 34] (by decide) ?_
 intro K1 hK1
 suffices key : K1 [(0, pT x), (1, .str token), (2, .str kind), (7, pT b1), (10, .err 108 ((callT c s token 1).2.2)), (11, pT b2), (34, .bool ((!(((callT c s token 1).2.2) == 0)) || ((callT c s token 1).2.1)))] (mW m [(b2, .cells [iT ((callT c s token 1).1.op), iT ((callT c s token 1).1.id)]), (b1, .cells [iT v.kind, iT v.n, .str v.s, sF (v.l.map valIn), sF (v.f.map fldIn)]), (x, .cells [pT d, .map tb, .map ob, iT c.next, iT c.quota, iT (ccalls c s token 1), .map fb]), (d, .cells [.map kb, .map nb, sT ((((stepF s).1).wait).map chgAV), iT (((stepF s).1).fuse), .bool (((stepF s).1).down), iT (((stepF s).1).steps)]), (tb, tObj c.things), (ob, oObj c.tokens), (fb, fObj c.fails)]) by
  refine ⟨tv, ⟨rfl, rfl⟩, tv, ?_⟩
  show aopsR _ _ _ _ _ [(32, .bool (!(((callT c s token 1).2.2) == 0))), (31, .bool (!(((callT c s token 1).2.2) == 0))), (30, .err 108 ((callT c s token 1).2.2)), (0, pT x), (1, .str token), (2, .str kind), (7, pT b1), (10, .err 108 ((callT c s token 1).2.2)), (11, pT b2), (12, .bool ((callT c s token 1).2.1))] _
  revert key
  cases h3 : (((callT c s token 1).2.2) == 0)
  ·
   replace h3 : (callT c s token 1).2.2 ≠ 0 := (ne_of_beq_false h3)
   intro key
   refine ar_off rfl ?_
   exact key
  ·
   replace h3 : (callT c s token 1).2.2 = 0 := (eq_of_beq h3)
   intro key
   refine ⟨tv, ?_⟩
   exact key
 refine hK1 _ _ ?_; clear hK1 K1
 refine cD rfl rfl (fun h4 => ?_) (fun h4 => ?_)
 ·
  replace h4 : ((callT c s token 1).2.2 ≠ 0) ∨ ((callT c s token 1).2.1 = true) := ((borT h4).imp (fun q => (ne_of_beq_false (bnT q))) (fun q => q))
  refine rS [] [8, 9] (by decide) ?_
  intro K1 hK1
  refine ⟨⟨rfl, by decide⟩, ?_⟩
  refine aL rfl (v := iT ((callT c s token 1).1.id)) rfl (wG 0 hNb2 rfl) rfl (aO rfl rfl (nB rfl)) rfl ?_
  refine ⟨tv, tv, tv, ?_⟩
  show K1 [(8, iT ((callT c s token 1).1.id)), (9, .err 108 ((callT c s token 1).2.2))] (mW m [(b2, .cells [iT ((callT c s token 1).1.op), iT ((callT c s token 1).1.id)]), (b1, .cells [iT v.kind, iT v.n, .str v.s, sF (v.l.map valIn), sF (v.f.map fldIn)]), (x, .cells [pT d, .map tb, .map ob, iT c.next, iT c.quota, iT (ccalls c s token 1), .map fb]), (d, .cells [.map kb, .map nb, sT ((((stepF s).1).wait).map chgAV), iT (((stepF s).1).fuse), .bool (((stepF s).1).down), iT (((stepF s).1).steps)]), (tb, tObj c.things), (ob, oObj c.tokens), (fb, fObj c.fails)])
  refine hK1 _ _ ?_; clear hK1 K1
  refine awp_ret ?_
  refine ⟨tv, tv, (mW m [(x, .cells [pT d, .map tb, .map ob, iT c.next, iT c.quota, iT (ccalls c s token 1), .map fb]), (d, .cells [.map kb, .map nb, sT ((((stepF s).1).wait).map chgAV), iT (((stepF s).1).fuse), .bool (((stepF s).1).down), iT (((stepF s).1).steps)]), (tb, tObj c.things), (ob, oObj c.tokens), (fb, fObj c.fails)]), (wth_sub2 (m := m) [(b2, .cells [iT ((callT c s token 1).1.op), iT ((callT c s token 1).1.id)]), (b1, .cells [iT v.kind, iT v.n, .str v.s, sF (v.l.map valIn), sF (v.f.map fldIn)])] [(x, .cells [pT d, .map tb, .map ob, iT c.next, iT c.quota, iT (ccalls c s token 1), .map fb]), (d, .cells [.map kb, .map nb, sT ((((stepF s).1).wait).map chgAV), iT (((stepF s).1).fuse), .bool (((stepF s).1).down), iT (((stepF s).1).steps)]), (tb, tObj c.things), (ob, oObj c.tokens), (fb, fObj c.fails)] hNb2 (by simp only [List.map_cons, List.map_nil, List.forall_mem_cons]; exact ⟨hFb2, hFb1, nfA⟩)), ?_⟩
  show K (.tuple [iT ((callT c s token 1).1.id), .err 108 ((callT c s token 1).2.2)]) (AMem.wth m [(x, .cells [pT d, .map tb, .map ob, iT c.next, iT c.quota, iT (ccalls c s token 1), .map fb]), (d, .cells [.map kb, .map nb, sT ((((stepF s).1).wait).map chgAV), iT (((stepF s).1).fuse), .bool (((stepF s).1).down), iT (((stepF s).1).steps)]), (tb, tObj c.things), (ob, oObj c.tokens), (fb, fObj c.fails)])
 
  have e0 : createR c s token kind v = ((((⟨c.things, c.tokens, c.next, c.quota, ccalls c s token 1, c.fails⟩ : ClSt), (stepF s).1), ((callT c s token 1).1.id, (callT c s token 1).2.2)) : (ClSt × DSt) × (Int × Int)) := by
   first | exact createR_1 (by assumption) | exact createR_2 (by assumption) (by assumption) | exact createR_3 (by assumption) (by assumption) (by assumption) | exact createR_4 (by assumption) (by assumption) (by assumption) (by assumption) | exact createR_5 (by assumption) (by assumption) (by assumption) (by assumption)
  rw [e0] at hK
  exact hK
 replace h4 : ((callT c s token 1).2.2 = 0) ∧ ((callT c s token 1).2.1 = false) := ⟨(eq_of_beq (bnF (borL h4))), (borR h4)⟩
 refine awp_skip ?_
 refine hK4 _ _ ?_; clear hK4
 refine sK ?_; intro K5 hK5
 refine awp_draw_seq Try.mixed [] [0, 1, 2, 7, 47] (by decide) (by decide) ?_
 intro K1 hK1
 refine ⟨tv, tv, ⟨rfl, by decide⟩, ?_⟩
 refine pq_loadp rfl (v := .map tb) rfl (wG 2 hNb2 rfl) (aO rfl rfl (nB rfl)) rfl ?_
 refine pq_lenMap rfl (m := m) (L := [(b2, .cells [iT ((callT c s token 1).1.op), iT ((callT c s token 1).1.id)]), (b1, .cells [iT v.kind, iT v.n, .str v.s, sF (v.l.map valIn), sF (v.f.map fldIn)]), (x, .cells [pT d, .map tb, .map ob, iT c.next, iT c.quota, iT (ccalls c s token 1), .map fb]), (d, .cells [.map kb, .map nb, sT ((((stepF s).1).wait).map chgAV), iT (((stepF s).1).fuse), .bool (((stepF s).1).down), iT (((stepF s).1).steps)]), (tb, tObj c.things), (ob, oObj c.tokens), (fb, fObj c.fails)]) (mapAV intAV thgAV) c.things rfl rfl (wG 4 hNb2 rfl) ?_
 refine ⟨tv, tv, ⟨rfl, by decide⟩, ?_⟩
 refine pq_loadp rfl (v := iT c.quota) rfl (wG 2 hNb2 rfl) (aO rfl rfl (nB rfl)) rfl ?_
 refine ⟨tv, ?_⟩
 show K1 [(0, pT x), (1, .str token), (2, .str kind), (7, pT b1), (47, .bool (decide (c.quota ≤ (c.things.length : Int))))] (mW m [(b2, .cells [iT ((callT c s token 1).1.op), iT ((callT c s token 1).1.id)]), (b1, .cells [iT v.kind, iT v.n, .str v.s, sF (v.l.map valIn), sF (v.f.map fldIn)]), (x, .cells [pT d, .map tb, .map ob, iT c.next, iT c.quota, iT (ccalls c s token 1), .map fb]), (d, .cells [.map kb, .map nb, sT ((((stepF s).1).wait).map chgAV), iT (((stepF s).1).fuse), .bool (((stepF s).1).down), iT (((stepF s).1).steps)]), (tb, tObj c.things), (ob, oObj c.tokens), (fb, fObj c.fails)])
 refine hK1 _ _ ?_; clear hK1 K1
 refine cD rfl rfl (fun h5 => ?_) (fun h5 => ?_)
 ·
  replace h5 : c.quota ≤ (c.things.length : Int) := (of_decide_eq_true h5)
  refine rS [] [8, 9] (by decide) ?_
  intro K1 hK1
  refine ⟨tv, tv, tv, ?_⟩
  show K1 [(8, iT 0), (9, .iface 108 (iT 13))] (mW m [(b2, .cells [iT ((callT c s token 1).1.op), iT ((callT c s token 1).1.id)]), (b1, .cells [iT v.kind, iT v.n, .str v.s, sF (v.l.map valIn), sF (v.f.map fldIn)]), (x, .cells [pT d, .map tb, .map ob, iT c.next, iT c.quota, iT (ccalls c s token 1), .map fb]), (d, .cells [.map kb, .map nb, sT ((((stepF s).1).wait).map chgAV), iT (((stepF s).1).fuse), .bool (((stepF s).1).down), iT (((stepF s).1).steps)]), (tb, tObj c.things), (ob, oObj c.tokens), (fb, fObj c.fails)])
  refine hK1 _ _ ?_; clear hK1 K1
  refine awp_toErr 108 [9] ?_
  show AWP _ _ _ _ [(8, iT 0), (9, .err 108 13)] _
  refine awp_ret ?_
  refine ⟨tv, tv, (mW m [(x, .cells [pT d, .map tb, .map ob, iT c.next, iT c.quota, iT (ccalls c s token 1), .map fb]), (d, .cells [.map kb, .map nb, sT ((((stepF s).1).wait).map chgAV), iT (((stepF s).1).fuse), .bool (((stepF s).1).down), iT (((stepF s).1).steps)]), (tb, tObj c.things), (ob, oObj c.tokens), (fb, fObj c.fails)]), (wth_sub2 (m := m) [(b2, .cells [iT ((callT c s token 1).1.op), iT ((callT c s token 1).1.id)]), (b1, .cells [iT v.kind, iT v.n, .str v.s, sF (v.l.map valIn), sF (v.f.map fldIn)])] [(x, .cells [pT d, .map tb, .map ob, iT c.next, iT c.quota, iT (ccalls c s token 1), .map fb]), (d, .cells [.map kb, .map nb, sT ((((stepF s).1).wait).map chgAV), iT (((stepF s).1).fuse), .bool (((stepF s).1).down), iT (((stepF s).1).steps)]), (tb, tObj c.things), (ob, oObj c.tokens), (fb, fObj c.fails)] hNb2 (by simp only [List.map_cons, List.map_nil, List.forall_mem_cons]; exact ⟨hFb2, hFb1, nfA⟩)), ?_⟩
  show K (.tuple [iT 0, .err 108 13]) (AMem.wth m [(x, .cells [pT d, .map tb, .map ob, iT c.next, iT c.quota, iT (ccalls c s token 1), .map fb]), (d, .cells [.map kb, .map nb, sT ((((stepF s).1).wait).map chgAV), iT (((stepF s).1).fuse), .bool (((stepF s).1).down), iT (((stepF s).1).steps)]), (tb, tObj c.things), (ob, oObj c.tokens), (fb, fObj c.fails)])
 
  have e0 : createR c s token kind v = ((((⟨c.things, c.tokens, c.next, c.quota, ccalls c s token 1, c.fails⟩ : ClSt), (stepF s).1), (0, 13)) : (ClSt × DSt) × (Int × Int)) := by
   first | exact createR_1 (by assumption) | exact createR_2 (by assumption) (by assumption) | exact createR_3 (by assumption) (by assumption) (by assumption) | exact createR_4 (by assumption) (by assumption) (by assumption) (by assumption) | exact createR_5 (by assumption) (by assumption) (by assumption) (by assumption)
  rw [e0] at hK
  exact hK
 replace h5 : (c.things.length : Int) < c.quota := (Int.not_le.1 (of_decide_eq_false h5))
 refine awp_skip ?_
 refine hK5 _ _ ?_; clear hK5
 refine rS [] [0, 1, 2, 7, 13] (by decide) ?_
 intro K1 hK1
 refine ⟨tv, tv, ⟨rfl, by decide⟩, ?_⟩
 refine aL rfl (v := iT c.next) rfl (wG 2 hNb2 rfl) rfl (aO rfl rfl (nB rfl)) rfl ?_
 refine ⟨tv, ?_⟩
 show K1 [(0, pT x), (1, .str token), (2, .str kind), (7, pT b1), (13, iT c.next)] (mW m [(b2, .cells [iT ((callT c s token 1).1.op), iT ((callT c s token 1).1.id)]), (b1, .cells [iT v.kind, iT v.n, .str v.s, sF (v.l.map valIn), sF (v.f.map fldIn)]), (x, .cells [pT d, .map tb, .map ob, iT c.next, iT c.quota, iT (ccalls c s token 1), .map fb]), (d, .cells [.map kb, .map nb, sT ((((stepF s).1).wait).map chgAV), iT (((stepF s).1).fuse), .bool (((stepF s).1).down), iT (((stepF s).1).steps)]), (tb, tObj c.things), (ob, oObj c.tokens), (fb, fObj c.fails)])
 refine hK1 _ _ ?_; clear hK1 K1
 refine rS [] [0, 1, 2, 7, 13] (by decide) ?_
 intro K1 hK1
 refine ⟨tv, tv, ⟨rfl, by decide⟩, ?_⟩
 refine aL rfl (v := iT c.next) rfl (wG 2 hNb2 rfl) rfl (aO rfl rfl (nB rfl)) rfl ?_
 refine ar_add rfl (a := c.next) (b := 1) rfl rfl (by omega) (by omega) ?_
 refine ⟨tv, ⟨rfl, by decide⟩, ?_⟩
 refine aS rfl 2 (v := iT (c.next + 1)) (l' := [pT d, .map tb, .map ob, iT (c.next + 1), iT c.quota, iT (ccalls c s token 1), .map fb]) rfl rfl hNb2 rfl rfl rfl rfl rfl (nB rfl) rfl ?_
 show K1 [(0, pT x), (1, .str token), (2, .str kind), (7, pT b1), (13, iT c.next)] (mW m [(b2, .cells [iT ((callT c s token 1).1.op), iT ((callT c s token 1).1.id)]), (b1, .cells [iT v.kind, iT v.n, .str v.s, sF (v.l.map valIn), sF (v.f.map fldIn)]), (x, .cells [pT d, .map tb, .map ob, iT (c.next + 1), iT c.quota, iT (ccalls c s token 1), .map fb]), (d, .cells [.map kb, .map nb, sT ((((stepF s).1).wait).map chgAV), iT (((stepF s).1).fuse), .bool (((stepF s).1).down), iT (((stepF s).1).steps)]), (tb, tObj c.things), (ob, oObj c.tokens), (fb, fObj c.fails)])
 refine hK1 _ _ ?_; clear hK1 K1
 refine awp_draw_tail2_seq Try.mixed 10 [] [(valTop v)] [] [0, 1, 13] (by decide) (by decide) ?_
 intro K1 hK1
 refine ⟨tv, tv, ⟨rfl, by decide⟩, ?_⟩
 refine pq_loadp rfl (v := .map tb) rfl (wG 2 hNb2 rfl) (aO rfl rfl (nB rfl)) rfl ?_
 refine ⟨tv, tv, tv, ?_⟩
 refine pq_loadp rfl (v := .agg [iT v.kind, iT v.n, .str v.s, sF (v.l.map valIn), sF (v.f.map fldIn)]) rfl (wG 1 hNb2 rfl) (apartOk_agg rfl rfl (nB rfl)) rfl ?_
 refine ⟨(fun Kc hKc => u_Copy v (chk_okV (attrE_0 (by assumption))) _ Kc hKc), ⟨rfl, by simp only [List.forall_mem_cons]; exact ⟨rfl, rfl, rfl, nfA⟩, by simp only [List.forall_mem_cons]; exact ⟨rfl, rfl, rfl, nfA⟩⟩, ?_⟩
 show aopsR _ _ _ _ _ [(69, .agg [iT c.next, .str kind, iT v.kind, iT v.n, .str v.s, sF (v.l.map valIn), sF (v.f.map fldIn)]), (68, valTop v), (67, .agg [iT v.kind, iT v.n, .str v.s, sF (v.l.map valIn), sF (v.f.map fldIn)]), (66, .str kind), (65, iT c.next), (64, iT c.next), (63, .map tb), (62, .ptr ⟨x, 1, none⟩), (61, pT x), (60, pT x), (0, pT x), (1, .str token), (2, .str kind), (7, pT b1), (13, iT c.next)] _
 refine ar_mapUpdate rfl (m := m) (L := [(b2, .cells [iT ((callT c s token 1).1.op), iT ((callT c s token 1).1.id)]), (b1, .cells [iT v.kind, iT v.n, .str v.s, sF (v.l.map valIn), sF (v.f.map fldIn)]), (x, .cells [pT d, .map tb, .map ob, iT (c.next + 1), iT c.quota, iT (ccalls c s token 1), .map fb]), (d, .cells [.map kb, .map nb, sT ((((stepF s).1).wait).map chgAV), iT (((stepF s).1).fuse), .bool (((stepF s).1).down), iT (((stepF s).1).steps)]), (tb, tObj c.things), (ob, oObj c.tokens), (fb, fObj c.fails)]) 4 intAV thgAV intKey_ok c.things c.next (⟨c.next, kind, v⟩ : Thg) rfl rfl rfl rfl rfl rfl hNb2 (by first | (have := mput_len c.things c.next ⟨c.next, kind, v⟩; omega) | (have := mput_len c.tokens token ⟨1, c.next⟩; omega)) ?_
 show K1 [(0, pT x), (1, .str token), (13, iT c.next)] (mW m [(b2, .cells [iT ((callT c s token 1).1.op), iT ((callT c s token 1).1.id)]), (b1, .cells [iT v.kind, iT v.n, .str v.s, sF (v.l.map valIn), sF (v.f.map fldIn)]), (x, .cells [pT d, .map tb, .map ob, iT (c.next + 1), iT c.quota, iT (ccalls c s token 1), .map fb]), (d, .cells [.map kb, .map nb, sT ((((stepF s).1).wait).map chgAV), iT (((stepF s).1).fuse), .bool (((stepF s).1).down), iT (((stepF s).1).steps)]), (tb, tObj (mput c.things c.next (⟨c.next, kind, v⟩ : Thg))), (ob, oObj c.tokens), (fb, fObj c.fails)])
 refine hK1 _ _ ?_; clear hK1 K1
 refine rS [] [13] (by decide) ?_
 intro K1 hK1
 refine ⟨tv, tv, ⟨rfl, by decide⟩, ?_⟩
 refine aL rfl (v := .map ob) rfl (wG 2 hNb2 rfl) rfl (aO rfl rfl (nB rfl)) rfl ?_
 refine ⟨tv, tv, ⟨rfl, by simp only [List.forall_mem_cons]; exact ⟨rfl, rfl, nfA⟩, by simp only [List.forall_mem_cons]; exact ⟨rfl, rfl, nfA⟩⟩, ?_⟩
 refine ar_mapUpdate rfl (m := m) (L := [(b2, .cells [iT ((callT c s token 1).1.op), iT ((callT c s token 1).1.id)]), (b1, .cells [iT v.kind, iT v.n, .str v.s, sF (v.l.map valIn), sF (v.f.map fldIn)]), (x, .cells [pT d, .map tb, .map ob, iT (c.next + 1), iT c.quota, iT (ccalls c s token 1), .map fb]), (d, .cells [.map kb, .map nb, sT ((((stepF s).1).wait).map chgAV), iT (((stepF s).1).fuse), .bool (((stepF s).1).down), iT (((stepF s).1).steps)]), (tb, tObj (mput c.things c.next (⟨c.next, kind, v⟩ : Thg))), (ob, oObj c.tokens), (fb, fObj c.fails)]) 5 strAV dnAV strKey_ok c.tokens token (⟨1, c.next⟩ : Dn) rfl rfl rfl rfl rfl rfl hNb2 (by first | (have := mput_len c.things c.next ⟨c.next, kind, v⟩; omega) | (have := mput_len c.tokens token ⟨1, c.next⟩; omega)) ?_
 show K1 [(13, iT c.next)] (mW m [(b2, .cells [iT ((callT c s token 1).1.op), iT ((callT c s token 1).1.id)]), (b1, .cells [iT v.kind, iT v.n, .str v.s, sF (v.l.map valIn), sF (v.f.map fldIn)]), (x, .cells [pT d, .map tb, .map ob, iT (c.next + 1), iT c.quota, iT (ccalls c s token 1), .map fb]), (d, .cells [.map kb, .map nb, sT ((((stepF s).1).wait).map chgAV), iT (((stepF s).1).fuse), .bool (((stepF s).1).down), iT (((stepF s).1).steps)]), (tb, tObj (mput c.things c.next (⟨c.next, kind, v⟩ : Thg))), (ob, oObj (mput c.tokens token (⟨1, c.next⟩ : Dn))), (fb, fObj c.fails)])
 refine hK1 _ _ ?_; clear hK1 K1
 refine rS [] [8, 9] (by decide) ?_
 intro K1 hK1
 refine ⟨tv, tv, tv, ?_⟩
 show K1 [(8, iT c.next), (9, .nilIface)] _
 refine hK1 _ _ ?_; clear hK1 K1
 refine awp_toErr 108 [9] ?_
 show AWP _ _ _ _ [(8, iT c.next), (9, .err 108 0)] _
 refine awp_ret ?_
 refine ⟨tv, tv, (mW m [(x, .cells [pT d, .map tb, .map ob, iT (c.next + 1), iT c.quota, iT (ccalls c s token 1), .map fb]), (d, .cells [.map kb, .map nb, sT ((((stepF s).1).wait).map chgAV), iT (((stepF s).1).fuse), .bool (((stepF s).1).down), iT (((stepF s).1).steps)]), (tb, tObj (mput c.things c.next (⟨c.next, kind, v⟩ : Thg))), (ob, oObj (mput c.tokens token (⟨1, c.next⟩ : Dn))), (fb, fObj c.fails)]), (wth_sub2 (m := m) [(b2, .cells [iT ((callT c s token 1).1.op), iT ((callT c s token 1).1.id)]), (b1, .cells [iT v.kind, iT v.n, .str v.s, sF (v.l.map valIn), sF (v.f.map fldIn)])] [(x, .cells [pT d, .map tb, .map ob, iT (c.next + 1), iT c.quota, iT (ccalls c s token 1), .map fb]), (d, .cells [.map kb, .map nb, sT ((((stepF s).1).wait).map chgAV), iT (((stepF s).1).fuse), .bool (((stepF s).1).down), iT (((stepF s).1).steps)]), (tb, tObj (mput c.things c.next (⟨c.next, kind, v⟩ : Thg))), (ob, oObj (mput c.tokens token (⟨1, c.next⟩ : Dn))), (fb, fObj c.fails)] hNb2 (by simp only [List.map_cons, List.map_nil, List.forall_mem_cons]; exact ⟨hFb2, hFb1, nfA⟩)), ?_⟩
 show K (.tuple [iT c.next, .err 108 0]) (AMem.wth m [(x, .cells [pT d, .map tb, .map ob, iT (c.next + 1), iT c.quota, iT (ccalls c s token 1), .map fb]), (d, .cells [.map kb, .map nb, sT ((((stepF s).1).wait).map chgAV), iT (((stepF s).1).fuse), .bool (((stepF s).1).down), iT (((stepF s).1).steps)]), (tb, tObj (mput c.things c.next (⟨c.next, kind, v⟩ : Thg))), (ob, oObj (mput c.tokens token (⟨1, c.next⟩ : Dn))), (fb, fObj c.fails)])
 have e0 : createR c s token kind v = ((((⟨mput c.things c.next (⟨c.next, kind, v⟩ : Thg), mput c.tokens token (⟨1, c.next⟩ : Dn), c.next + 1, c.quota, ccalls c s token 1, c.fails⟩ : ClSt), (stepF s).1), (c.next, 0)) : (ClSt × DSt) × (Int × Int)) := by
  first | exact createR_1 (by assumption) | exact createR_2 (by assumption) (by assumption) | exact createR_3 (by assumption) (by assumption) (by assumption) | exact createR_4 (by assumption) (by assumption) (by assumption) (by assumption) | exact createR_5 (by assumption) (by assumption) (by assumption) (by assumption)
 rw [e0] at hK
 exact hK
set_option maxHeartbeats 8000000 in
theorem u_Update (x d tb ob fb kb nb : Nat) (c : ClSt) (s : DSt) (token : Str) (id : Int) (v : Val) (hN : [x, d, tb, ob, fb].Nodup) (hst : 0 ≤ s.steps) (hst2 : s.steps ≤ 4611686018427387904) (hfu : -1 ≤ s.fuse) (hfu2 : s.fuse ≤ 9223372036854775807) (hca : 0 ≤ c.calls) (hca2 : c.calls ≤ 1000000) (hnx : 0 ≤ c.next) (hnx2 : c.next ≤ 1000000) (htl : c.things.length ≤ 1000000) (hol : c.tokens.length ≤ 1000000) (m : AMem)  (K : AV → AMem → Prop) (hK : K (.err 108 (updateR c s token id v).2) (mW m [(x, cObj d tb ob fb (updateR c s token id v).1.1), (d, dObj kb nb (updateR c s token id v).1.2), (tb, tObj (updateR c s token id v).1.1.things), (ob, oObj (updateR c s token id v).1.1.tokens), (fb, fObj (updateR c s token id v).1.1.fails)])) : ACalls Try.prog 50 [pT x, .str token, iT id, valTop v] (mW m [(x, cObj d tb ob fb c), (d, .cells [.map kb, .map nb, sT (s.wait.map chgAV), iT s.fuse, .bool s.down, iT s.steps]), (tb, tObj c.things), (ob, oObj c.tokens), (fb, fObj c.fails)]) K := by
 refine acalls_enter Try.func50 rfl (by decide) (nB rfl) ?_
 show AWP _ _ _ _ [(0, pT x), (1, .str token), (2, iT id), (3, valTop v)] (mW m [(x, cObj d tb ob fb c), (d, .cells [.map kb, .map nb, sT (s.wait.map chgAV), iT s.fuse, .bool s.down, iT s.steps]), (tb, tObj c.things), (ob, oObj c.tokens), (fb, fObj c.fails)])
 refine rS [] [0, 1, 2, 7] (by decide) ?_
 intro K1 hK1
 refine ar_box rfl (m := m) (L := [(x, cObj d tb ob fb c), (d, .cells [.map kb, .map nb, sT (s.wait.map chgAV), iT s.fuse, .bool s.down, iT s.steps]), (tb, tObj c.things), (ob, oObj c.tokens), (fb, fObj c.fails)]) (v := valTop v) (by rfl) rfl ?_
 intro b1 hb1
 have hFb1 : m b1 = none := wth_none hb1
 have hNb1 : ([b1, x, d, tb, ob, fb] : List Nat).Nodup := wth_nodup hb1 hN
 refine ⟨tv, ?_⟩
 show K1 [(0, pT x), (1, .str token), (2, iT id), (7, pT b1)] (mW m [(b1, .cells [iT v.kind, iT v.n, .str v.s, sF (v.l.map valIn), sF (v.f.map fldIn)]), (x, cObj d tb ob fb c), (d, .cells [.map kb, .map nb, sT (s.wait.map chgAV), iT s.fuse, .bool s.down, iT s.steps]), (tb, tObj c.things), (ob, oObj c.tokens), (fb, fObj c.fails)])
 refine hK1 _ _ ?_; clear hK1 K1
 refine rS [] [0, 1, 2, 7, 9] (by decide) ?_
 intro K1 hK1
 refine aL rfl (v := .agg [iT v.kind, iT v.n, .str v.s, sF (v.l.map valIn), sF (v.f.map fldIn)]) rfl (wG 0 hNb1 rfl) rfl (apartOk_agg rfl rfl (nB rfl)) rfl ?_
 refine u_attrs v _ _ ?_
 refine ⟨tv, ?_⟩
 show K1 [(0, pT x), (1, .str token), (2, iT id), (7, pT b1), (9, .err 108 (attrE v))] _
 refine hK1 _ _ ?_; clear hK1 K1
 refine sK ?_; intro K2 hK2
 refine rS [] [0, 1, 2, 7, 9, 17] (by decide) ?_
 intro K1 hK1
 refine ⟨tv, ⟨rfl, rfl⟩, ?_⟩
 show K1 [(0, pT x), (1, .str token), (2, iT id), (7, pT b1), (9, .err 108 (attrE v)), (17, .bool (!((attrE v) == 0)))] _
 refine hK1 _ _ ?_; clear hK1 K1
 refine cD rfl rfl (fun h1 => ?_) (fun h1 => ?_)
 ·
  replace h1 : attrE v ≠ 0 := (ne_of_beq_false (bnT h1))
  refine rS [] [8] (by decide) ?_
  intro K1 hK1
  refine ⟨tv, tv, ?_⟩
  show K1 [(8, .err 108 (attrE v))] (mW m [(b1, .cells [iT v.kind, iT v.n, .str v.s, sF (v.l.map valIn), sF (v.f.map fldIn)]), (x, cObj d tb ob fb c), (d, .cells [.map kb, .map nb, sT (s.wait.map chgAV), iT s.fuse, .bool s.down, iT s.steps]), (tb, tObj c.things), (ob, oObj c.tokens), (fb, fObj c.fails)])
  refine hK1 _ _ ?_; clear hK1 K1
  refine awp_ret ?_
  refine ⟨tv, (mW m [(x, cObj d tb ob fb c), (d, .cells [.map kb, .map nb, sT (s.wait.map chgAV), iT s.fuse, .bool s.down, iT s.steps]), (tb, tObj c.things), (ob, oObj c.tokens), (fb, fObj c.fails)]), (wth_sub2 (m := m) [(b1, .cells [iT v.kind, iT v.n, .str v.s, sF (v.l.map valIn), sF (v.f.map fldIn)])] [(x, cObj d tb ob fb c), (d, .cells [.map kb, .map nb, sT (s.wait.map chgAV), iT s.fuse, .bool s.down, iT s.steps]), (tb, tObj c.things), (ob, oObj c.tokens), (fb, fObj c.fails)] hNb1 (by simp only [List.map_cons, List.map_nil, List.forall_mem_cons]; exact ⟨hFb1, nfA⟩)), ?_⟩
  show K (.err 108 (attrE v)) (AMem.wth m [(x, cObj d tb ob fb c), (d, .cells [.map kb, .map nb, sT (s.wait.map chgAV), iT s.fuse, .bool s.down, iT s.steps]), (tb, tObj c.things), (ob, oObj c.tokens), (fb, fObj c.fails)])
 
  have e0 : updateR c s token id v = (((c, s), attrE v) : (ClSt × DSt) × Int) := by
   first | exact updateR_1 (by assumption) | exact updateR_2 (by assumption) (by assumption) | exact updateR_3 (by assumption) (by assumption) (by assumption) | exact updateR_4 (by assumption) (by assumption) (by assumption)
  rw [e0] at hK
  exact hK
 replace h1 : attrE v = 0 := (eq_of_beq (bnF h1))
 refine awp_skip ?_
 refine hK2 _ _ ?_; clear hK2
 refine rS [] [0, 1, 2, 7, 9, 11] (by decide) ?_
 intro K1 hK1
 refine ⟨tv, tv, ?_⟩
 refine ar_mem (wS hNb1 (pick_perm [1, 1, 2, 2] _)) ?_
 refine u_callE x d tb ob fb kb nb c s token 2 (by simp at hN ⊢; omega) hst hst2 hfu hfu2 hca hca2 _ _ ?_
 refine ar_mem (wS (m := m) (L := [(b1, .cells [iT v.kind, iT v.n, .str v.s, sF (v.l.map valIn), sF (v.f.map fldIn)]), (x, .cells [pT d, .map tb, .map ob, iT c.next, iT c.quota, iT (ccalls c s token 2), .map fb]), (d, .cells [.map kb, .map nb, sT ((((stepF s).1).wait).map chgAV), iT (((stepF s).1).fuse), .bool (((stepF s).1).down), iT (((stepF s).1).steps)]), (tb, tObj c.things), (ob, oObj c.tokens), (fb, fObj c.fails)]) hNb1 (pick_perm [1, 1, 2, 2] _)).symm ?_
 refine ⟨tv, (nB rfl), (nB rfl), (nB rfl), ?_⟩
 refine ar_alloc rfl (z := .agg [iT 0, iT 0]) rfl rfl ?_
 intro b2 hb2
 have hFb2 : m b2 = none := wth_none hb2
 have hNb2 : ([b2, b1, x, d, tb, ob, fb] : List Nat).Nodup := wth_nodup hb2 hNb1
 refine aS rfl 0 (v := .agg [iT ((callT c s token 2).1.op), iT ((callT c s token 2).1.id)]) (l' := [iT ((callT c s token 2).1.op), iT ((callT c s token 2).1.id)]) rfl rfl hNb2 rfl rfl rfl rfl rfl (nB rfl) rfl ?_
 refine ⟨tv, tv, ?_⟩
 show K1 [(0, pT x), (1, .str token), (2, iT id), (7, pT b1), (9, .err 108 ((callT c s token 2).2.2)), (11, .bool ((callT c s token 2).2.1))] (mW m [(b2, .cells [iT ((callT c s token 2).1.op), iT ((callT c s token 2).1.id)]), (b1, .cells [iT v.kind, iT v.n, .str v.s, sF (v.l.map valIn), sF (v.f.map fldIn)]), (x, .cells [pT d, .map tb, .map ob, iT c.next, iT c.quota, iT (ccalls c s token 2), .map fb]), (d, .cells [.map kb, .map nb, sT ((((stepF s).1).wait).map chgAV), iT (((stepF s).1).fuse), .bool (((stepF s).1).down), iT (((stepF s).1).steps)]), (tb, tObj c.things), (ob, oObj c.tokens), (fb, fObj c.fails)])
 refine hK1 _ _ ?_; clear hK1 K1
 refine sK ?_; intro K3 hK3
 refine rS [] [0, 1, 2, 7, 9, 30] (by decide) ?_
 intro K1 hK1
 suffices key : K1 [(0, pT x), (1, .str token), (2, iT id), (7, pT b1), (9, .err 108 ((callT c s token 2).2.2)), (30, .bool ((!(((callT c s token 2).2.2) == 0)) || ((callT c s token 2).2.1)))] (mW m [(b2, .cells [iT ((callT c s token 2).1.op), iT ((callT c s token 2).1.id)]), (b1, .cells [iT v.kind, iT v.n, .str v.s, sF (v.l.map valIn), sF (v.f.map fldIn)]), (x, .cells [pT d, .map tb, .map ob, iT c.next, iT c.quota, iT (ccalls c s token 2), .map fb]), (d, .cells [.map kb, .map nb, sT ((((stepF s).1).wait).map chgAV), iT (((stepF s).1).fuse), .bool (((stepF s).1).down), iT (((stepF s).1).steps)]), (tb, tObj c.things), (ob, oObj c.tokens), (fb, fObj c.fails)]) by
  refine ⟨tv, ⟨rfl, rfl⟩, tv, ?_⟩
  show aopsR _ _ _ _ _ [(28, .bool (!(((callT c s token 2).2.2) == 0))), (27, .bool (!(((callT c s token 2).2.2) == 0))), (26, .err 108 ((callT c s token 2).2.2)), (0, pT x), (1, .str token), (2, iT id), (7, pT b1), (9, .err 108 ((callT c s token 2).2.2)), (11, .bool ((callT c s token 2).2.1))] _
  revert key
  cases h2 : (((callT c s token 2).2.2) == 0)
  ·
   replace h2 : (callT c s token 2).2.2 ≠ 0 := (ne_of_beq_false h2)
   intro key
   refine ar_off rfl ?_
   exact key
  ·
   replace h2 : (callT c s token 2).2.2 = 0 := (eq_of_beq h2)
   intro key
   refine ⟨tv, ?_⟩
   exact key
 refine hK1 _ _ ?_; clear hK1 K1
 refine cD rfl rfl (fun h3 => ?_) (fun h3 => ?_)
 ·
  replace h3 : ((callT c s token 2).2.2 ≠ 0) ∨ ((callT c s token 2).2.1 = true) := ((borT h3).imp (fun q => (ne_of_beq_false (bnT q))) (fun q => q))
  refine rS [] [8] (by decide) ?_
  intro K1 hK1
  refine ⟨tv, tv, ?_⟩
  show K1 [(8, .err 108 ((callT c s token 2).2.2))] (mW m [(b2, .cells [iT ((callT c s token 2).1.op), iT ((callT c s token 2).1.id)]), (b1, .cells [iT v.kind, iT v.n, .str v.s, sF (v.l.map valIn), sF (v.f.map fldIn)]), (x, .cells [pT d, .map tb, .map ob, iT c.next, iT c.quota, iT (ccalls c s token 2), .map fb]), (d, .cells [.map kb, .map nb, sT ((((stepF s).1).wait).map chgAV), iT (((stepF s).1).fuse), .bool (((stepF s).1).down), iT (((stepF s).1).steps)]), (tb, tObj c.things), (ob, oObj c.tokens), (fb, fObj c.fails)])
  refine hK1 _ _ ?_; clear hK1 K1
  refine awp_ret ?_
  refine ⟨tv, (mW m [(x, .cells [pT d, .map tb, .map ob, iT c.next, iT c.quota, iT (ccalls c s token 2), .map fb]), (d, .cells [.map kb, .map nb, sT ((((stepF s).1).wait).map chgAV), iT (((stepF s).1).fuse), .bool (((stepF s).1).down), iT (((stepF s).1).steps)]), (tb, tObj c.things), (ob, oObj c.tokens), (fb, fObj c.fails)]), (wth_sub2 (m := m) [(b2, .cells [iT ((callT c s token 2).1.op), iT ((callT c s token 2).1.id)]), (b1, .cells [iT v.kind, iT v.n, .str v.s, sF (v.l.map valIn), sF (v.f.map fldIn)])] [(x, .cells [pT d, .map tb, .map ob, iT c.next, iT c.quota, iT (ccalls c s token 2), .map fb]), (d, .cells [.map kb, .map nb, sT ((((stepF s).1).wait).map chgAV), iT (((stepF s).1).fuse), .bool (((stepF s).1).down), iT (((stepF s).1).steps)]), (tb, tObj c.things), (ob, oObj c.tokens), (fb, fObj c.fails)] hNb2 (by simp only [List.map_cons, List.map_nil, List.forall_mem_cons]; exact ⟨hFb2, hFb1, nfA⟩)), ?_⟩
  show K (.err 108 ((callT c s token 2).2.2)) (AMem.wth m [(x, .cells [pT d, .map tb, .map ob, iT c.next, iT c.quota, iT (ccalls c s token 2), .map fb]), (d, .cells [.map kb, .map nb, sT ((((stepF s).1).wait).map chgAV), iT (((stepF s).1).fuse), .bool (((stepF s).1).down), iT (((stepF s).1).steps)]), (tb, tObj c.things), (ob, oObj c.tokens), (fb, fObj c.fails)])
 
  have e0 : updateR c s token id v = ((((⟨c.things, c.tokens, c.next, c.quota, ccalls c s token 2, c.fails⟩ : ClSt), (stepF s).1), (callT c s token 2).2.2) : (ClSt × DSt) × Int) := by
   first | exact updateR_1 (by assumption) | exact updateR_2 (by assumption) (by assumption) | exact updateR_3 (by assumption) (by assumption) (by assumption) | exact updateR_4 (by assumption) (by assumption) (by assumption)
  rw [e0] at hK
  exact hK
 replace h3 : ((callT c s token 2).2.2 = 0) ∧ ((callT c s token 2).2.1 = false) := ⟨(eq_of_beq (bnF (borL h3))), (borR h3)⟩
 refine awp_skip ?_
 refine hK3 _ _ ?_; clear hK3
 refine rS [] [0, 1, 2, 7, 12, 13] (by decide) ?_
 intro K1 hK1
 refine ⟨tv, tv, ⟨rfl, by decide⟩, ?_⟩
 refine aL rfl (v := .map tb) rfl (wG 2 hNb2 rfl) rfl (aO rfl rfl (nB rfl)) rfl ?_
 refine ⟨tv, ?_⟩
 refine ar_lookupOkP rfl (m := m) (L := [(b2, .cells [iT ((callT c s token 2).1.op), iT ((callT c s token 2).1.id)]), (b1, .cells [iT v.kind, iT v.n, .str v.s, sF (v.l.map valIn), sF (v.f.map fldIn)]), (x, .cells [pT d, .map tb, .map ob, iT c.next, iT c.quota, iT (ccalls c s token 2), .map fb]), (d, .cells [.map kb, .map nb, sT ((((stepF s).1).wait).map chgAV), iT (((stepF s).1).fuse), .bool (((stepF s).1).down), iT (((stepF s).1).steps)]), (tb, tObj c.things), (ob, oObj c.tokens), (fb, fObj c.fails)]) intAV thgAV intKey_ok c.things id zT rfl rfl rfl rfl rfl rfl (wG 4 hNb2 rfl) rfl ?_
 refine ⟨tv, (nB rfl), (nB rfl), ?_⟩
 refine ar_alloc rfl (z := .agg [iT 0, .str ([]), iT 0, iT 0, .str ([]), .slice true [], .slice true []]) rfl rfl ?_
 intro b3 hb3
 have hFb3 : m b3 = none := wth_none hb3
 have hNb3 : ([b3, b2, b1, x, d, tb, ob, fb] : List Nat).Nodup := wth_nodup hb3 hNb2
 refine aS rfl 0 (v := thgAV ((mget c.things id).getD zT)) (l' := [iT (((mget c.things id).getD zT).id), .str (((mget c.things id).getD zT).kind), iT ((((mget c.things id).getD zT).v).kind), iT ((((mget c.things id).getD zT).v).n), .str ((((mget c.things id).getD zT).v).s), sF (((((mget c.things id).getD zT).v).l).map valIn), sF (((((mget c.things id).getD zT).v).f).map fldIn)]) rfl (by rfl) hNb3 rfl rfl rfl rfl rfl (nB rfl) rfl ?_
 refine ⟨tv, ?_⟩
 show K1 [(0, pT x), (1, .str token), (2, iT id), (7, pT b1), (12, pT b3), (13, .bool ((mget c.things id).isSome))] (mW m [(b3, .cells [iT (((mget c.things id).getD zT).id), .str (((mget c.things id).getD zT).kind), iT ((((mget c.things id).getD zT).v).kind), iT ((((mget c.things id).getD zT).v).n), .str ((((mget c.things id).getD zT).v).s), sF (((((mget c.things id).getD zT).v).l).map valIn), sF (((((mget c.things id).getD zT).v).f).map fldIn)]), (b2, .cells [iT ((callT c s token 2).1.op), iT ((callT c s token 2).1.id)]), (b1, .cells [iT v.kind, iT v.n, .str v.s, sF (v.l.map valIn), sF (v.f.map fldIn)]), (x, .cells [pT d, .map tb, .map ob, iT c.next, iT c.quota, iT (ccalls c s token 2), .map fb]), (d, .cells [.map kb, .map nb, sT ((((stepF s).1).wait).map chgAV), iT (((stepF s).1).fuse), .bool (((stepF s).1).down), iT (((stepF s).1).steps)]), (tb, tObj c.things), (ob, oObj c.tokens), (fb, fObj c.fails)])
 refine hK1 _ _ ?_; clear hK1 K1
 refine sK ?_; intro K4 hK4
 refine rS [] [0, 1, 2, 7, 12, 42] (by decide) ?_
 intro K1 hK1
 refine ⟨tv, tv, ?_⟩
 show K1 [(0, pT x), (1, .str token), (2, iT id), (7, pT b1), (12, pT b3), (42, .bool (!((mget c.things id).isSome)))] _
 refine hK1 _ _ ?_; clear hK1 K1
 refine cD rfl rfl (fun h4 => ?_) (fun h4 => ?_)
 ·
  replace h4 : (mget c.things id).isSome = false := (bnT h4)
  refine rS [] [8] (by decide) ?_
  intro K1 hK1
  refine ⟨tv, tv, ?_⟩
  show K1 [(8, .iface 108 (iT 7))] (mW m [(b3, .cells [iT (((mget c.things id).getD zT).id), .str (((mget c.things id).getD zT).kind), iT ((((mget c.things id).getD zT).v).kind), iT ((((mget c.things id).getD zT).v).n), .str ((((mget c.things id).getD zT).v).s), sF (((((mget c.things id).getD zT).v).l).map valIn), sF (((((mget c.things id).getD zT).v).f).map fldIn)]), (b2, .cells [iT ((callT c s token 2).1.op), iT ((callT c s token 2).1.id)]), (b1, .cells [iT v.kind, iT v.n, .str v.s, sF (v.l.map valIn), sF (v.f.map fldIn)]), (x, .cells [pT d, .map tb, .map ob, iT c.next, iT c.quota, iT (ccalls c s token 2), .map fb]), (d, .cells [.map kb, .map nb, sT ((((stepF s).1).wait).map chgAV), iT (((stepF s).1).fuse), .bool (((stepF s).1).down), iT (((stepF s).1).steps)]), (tb, tObj c.things), (ob, oObj c.tokens), (fb, fObj c.fails)])
  refine hK1 _ _ ?_; clear hK1 K1
  refine awp_toErr 108 [8] ?_
  show AWP _ _ _ _ [(8, .err 108 7)] _
  refine awp_ret ?_
  refine ⟨tv, (mW m [(x, .cells [pT d, .map tb, .map ob, iT c.next, iT c.quota, iT (ccalls c s token 2), .map fb]), (d, .cells [.map kb, .map nb, sT ((((stepF s).1).wait).map chgAV), iT (((stepF s).1).fuse), .bool (((stepF s).1).down), iT (((stepF s).1).steps)]), (tb, tObj c.things), (ob, oObj c.tokens), (fb, fObj c.fails)]), (wth_sub2 (m := m) [(b3, .cells [iT (((mget c.things id).getD zT).id), .str (((mget c.things id).getD zT).kind), iT ((((mget c.things id).getD zT).v).kind), iT ((((mget c.things id).getD zT).v).n), .str ((((mget c.things id).getD zT).v).s), sF (((((mget c.things id).getD zT).v).l).map valIn), sF (((((mget c.things id).getD zT).v).f).map fldIn)]), (b2, .cells [iT ((callT c s token 2).1.op), iT ((callT c s token 2).1.id)]), (b1, .cells [iT v.kind, iT v.n, .str v.s, sF (v.l.map valIn), sF (v.f.map fldIn)])] [(x, .cells [pT d, .map tb, .map ob, iT c.next, iT c.quota, iT (ccalls c s token 2), .map fb]), (d, .cells [.map kb, .map nb, sT ((((stepF s).1).wait).map chgAV), iT (((stepF s).1).fuse), .bool (((stepF s).1).down), iT (((stepF s).1).steps)]), (tb, tObj c.things), (ob, oObj c.tokens), (fb, fObj c.fails)] hNb3 (by simp only [List.map_cons, List.map_nil, List.forall_mem_cons]; exact ⟨hFb3, hFb2, hFb1, nfA⟩)), ?_⟩
  show K (.err 108 7) (AMem.wth m [(x, .cells [pT d, .map tb, .map ob, iT c.next, iT c.quota, iT (ccalls c s token 2), .map fb]), (d, .cells [.map kb, .map nb, sT ((((stepF s).1).wait).map chgAV), iT (((stepF s).1).fuse), .bool (((stepF s).1).down), iT (((stepF s).1).steps)]), (tb, tObj c.things), (ob, oObj c.tokens), (fb, fObj c.fails)])
 
  have e0 : updateR c s token id v = ((((⟨c.things, c.tokens, c.next, c.quota, ccalls c s token 2, c.fails⟩ : ClSt), (stepF s).1), 7) : (ClSt × DSt) × Int) := by
   first | exact updateR_1 (by assumption) | exact updateR_2 (by assumption) (by assumption) | exact updateR_3 (by assumption) (by assumption) (by assumption) | exact updateR_4 (by assumption) (by assumption) (by assumption)
  rw [e0] at hK
  exact hK
 replace h4 : (mget c.things id).isSome = true := (bnF h4)
 refine awp_skip ?_
 refine hK4 _ _ ?_; clear hK4
 refine rS [] [0, 1, 2, 12] (by decide) ?_
 intro K1 hK1
 refine aL rfl (v := .agg [iT v.kind, iT v.n, .str v.s, sF (v.l.map valIn), sF (v.f.map fldIn)]) rfl (wG 2 hNb3 rfl) rfl (apartOk_agg rfl rfl (nB rfl)) rfl ?_
 refine u_Copy v (chk_okV (attrE_0 (by assumption))) _ _ ?_
 refine ⟨⟨rfl, by decide⟩, ?_⟩
 refine aS rfl 0 (v := valTop v) (l' := [iT (((mget c.things id).getD zT).id), .str (((mget c.things id).getD zT).kind), iT v.kind, iT v.n, .str v.s, sF (v.l.map valIn), sF (v.f.map fldIn)]) rfl (by rfl) hNb3 rfl rfl rfl rfl rfl (nB rfl) rfl ?_
 show K1 [(0, pT x), (1, .str token), (2, iT id), (12, pT b3)] (mW m [(b3, .cells [iT (((mget c.things id).getD zT).id), .str (((mget c.things id).getD zT).kind), iT v.kind, iT v.n, .str v.s, sF (v.l.map valIn), sF (v.f.map fldIn)]), (b2, .cells [iT ((callT c s token 2).1.op), iT ((callT c s token 2).1.id)]), (b1, .cells [iT v.kind, iT v.n, .str v.s, sF (v.l.map valIn), sF (v.f.map fldIn)]), (x, .cells [pT d, .map tb, .map ob, iT c.next, iT c.quota, iT (ccalls c s token 2), .map fb]), (d, .cells [.map kb, .map nb, sT ((((stepF s).1).wait).map chgAV), iT (((stepF s).1).fuse), .bool (((stepF s).1).down), iT (((stepF s).1).steps)]), (tb, tObj c.things), (ob, oObj c.tokens), (fb, fObj c.fails)])
 refine hK1 _ _ ?_; clear hK1 K1
 refine awp_draw_tail2_seq Try.mixed 6 [] [] [] [0, 1, 2] (by decide) (by decide) ?_
 intro K1 hK1
 refine ⟨tv, tv, ⟨rfl, by decide⟩, ?_⟩
 refine pq_loadp rfl (v := .map tb) rfl (wG 3 hNb3 rfl) (aO rfl rfl (nB rfl)) rfl ?_
 refine ⟨tv, ?_⟩
 refine pq_loadp rfl (v := .agg [iT (((mget c.things id).getD zT).id), .str (((mget c.things id).getD zT).kind), iT v.kind, iT v.n, .str v.s, sF (v.l.map valIn), sF (v.f.map fldIn)]) rfl (wG 0 hNb3 rfl) (apartOk_agg rfl rfl (nB rfl)) rfl ?_
 show aopsR _ _ _ _ _ [(52, .agg [iT (((mget c.things id).getD zT).id), .str (((mget c.things id).getD zT).kind), iT v.kind, iT v.n, .str v.s, sF (v.l.map valIn), sF (v.f.map fldIn)]), (51, iT id), (50, .map tb), (49, .ptr ⟨x, 1, none⟩), (48, pT x), (47, pT x), (0, pT x), (1, .str token), (2, iT id), (12, pT b3)] _
 refine ar_mapUpdate rfl (m := m) (L := [(b3, .cells [iT (((mget c.things id).getD zT).id), .str (((mget c.things id).getD zT).kind), iT v.kind, iT v.n, .str v.s, sF (v.l.map valIn), sF (v.f.map fldIn)]), (b2, .cells [iT ((callT c s token 2).1.op), iT ((callT c s token 2).1.id)]), (b1, .cells [iT v.kind, iT v.n, .str v.s, sF (v.l.map valIn), sF (v.f.map fldIn)]), (x, .cells [pT d, .map tb, .map ob, iT c.next, iT c.quota, iT (ccalls c s token 2), .map fb]), (d, .cells [.map kb, .map nb, sT ((((stepF s).1).wait).map chgAV), iT (((stepF s).1).fuse), .bool (((stepF s).1).down), iT (((stepF s).1).steps)]), (tb, tObj c.things), (ob, oObj c.tokens), (fb, fObj c.fails)]) 5 intAV thgAV intKey_ok c.things id (⟨((mget c.things id).getD zT).id, ((mget c.things id).getD zT).kind, v⟩ : Thg) rfl rfl rfl rfl rfl rfl hNb3 (by first | (have := mput_len c.things id ⟨((mget c.things id).getD zT).id, ((mget c.things id).getD zT).kind, v⟩; omega) | (have := mput_len c.tokens token ⟨2, id⟩; omega)) ?_
 show K1 [(0, pT x), (1, .str token), (2, iT id)] (mW m [(b3, .cells [iT (((mget c.things id).getD zT).id), .str (((mget c.things id).getD zT).kind), iT v.kind, iT v.n, .str v.s, sF (v.l.map valIn), sF (v.f.map fldIn)]), (b2, .cells [iT ((callT c s token 2).1.op), iT ((callT c s token 2).1.id)]), (b1, .cells [iT v.kind, iT v.n, .str v.s, sF (v.l.map valIn), sF (v.f.map fldIn)]), (x, .cells [pT d, .map tb, .map ob, iT c.next, iT c.quota, iT (ccalls c s token 2), .map fb]), (d, .cells [.map kb, .map nb, sT ((((stepF s).1).wait).map chgAV), iT (((stepF s).1).fuse), .bool (((stepF s).1).down), iT (((stepF s).1).steps)]), (tb, tObj (mput c.things id (⟨((mget c.things id).getD zT).id, ((mget c.things id).getD zT).kind, v⟩ : Thg))), (ob, oObj c.tokens), (fb, fObj c.fails)])
 refine hK1 _ _ ?_; clear hK1 K1
 refine rS [] [] (by decide) ?_
 intro K1 hK1
 refine ⟨tv, tv, ⟨rfl, by decide⟩, ?_⟩
 refine aL rfl (v := .map ob) rfl (wG 3 hNb3 rfl) rfl (aO rfl rfl (nB rfl)) rfl ?_
 refine ⟨tv, tv, ⟨rfl, by simp only [List.forall_mem_cons]; exact ⟨rfl, rfl, nfA⟩, by simp only [List.forall_mem_cons]; exact ⟨rfl, rfl, nfA⟩⟩, ?_⟩
 refine ar_mapUpdate rfl (m := m) (L := [(b3, .cells [iT (((mget c.things id).getD zT).id), .str (((mget c.things id).getD zT).kind), iT v.kind, iT v.n, .str v.s, sF (v.l.map valIn), sF (v.f.map fldIn)]), (b2, .cells [iT ((callT c s token 2).1.op), iT ((callT c s token 2).1.id)]), (b1, .cells [iT v.kind, iT v.n, .str v.s, sF (v.l.map valIn), sF (v.f.map fldIn)]), (x, .cells [pT d, .map tb, .map ob, iT c.next, iT c.quota, iT (ccalls c s token 2), .map fb]), (d, .cells [.map kb, .map nb, sT ((((stepF s).1).wait).map chgAV), iT (((stepF s).1).fuse), .bool (((stepF s).1).down), iT (((stepF s).1).steps)]), (tb, tObj (mput c.things id (⟨((mget c.things id).getD zT).id, ((mget c.things id).getD zT).kind, v⟩ : Thg))), (ob, oObj c.tokens), (fb, fObj c.fails)]) 6 strAV dnAV strKey_ok c.tokens token (⟨2, id⟩ : Dn) rfl rfl rfl rfl rfl rfl hNb3 (by first | (have := mput_len c.things id ⟨((mget c.things id).getD zT).id, ((mget c.things id).getD zT).kind, v⟩; omega) | (have := mput_len c.tokens token ⟨2, id⟩; omega)) ?_
 show K1 [] (mW m [(b3, .cells [iT (((mget c.things id).getD zT).id), .str (((mget c.things id).getD zT).kind), iT v.kind, iT v.n, .str v.s, sF (v.l.map valIn), sF (v.f.map fldIn)]), (b2, .cells [iT ((callT c s token 2).1.op), iT ((callT c s token 2).1.id)]), (b1, .cells [iT v.kind, iT v.n, .str v.s, sF (v.l.map valIn), sF (v.f.map fldIn)]), (x, .cells [pT d, .map tb, .map ob, iT c.next, iT c.quota, iT (ccalls c s token 2), .map fb]), (d, .cells [.map kb, .map nb, sT ((((stepF s).1).wait).map chgAV), iT (((stepF s).1).fuse), .bool (((stepF s).1).down), iT (((stepF s).1).steps)]), (tb, tObj (mput c.things id (⟨((mget c.things id).getD zT).id, ((mget c.things id).getD zT).kind, v⟩ : Thg))), (ob, oObj (mput c.tokens token (⟨2, id⟩ : Dn))), (fb, fObj c.fails)])
 refine hK1 _ _ ?_; clear hK1 K1
 refine rS [] [8] (by decide) ?_
 intro K1 hK1
 refine ⟨tv, ?_⟩
 show K1 [(8, .nilIface)] _
 refine hK1 _ _ ?_; clear hK1 K1
 refine awp_toErr 108 [8] ?_
 show AWP _ _ _ _ [(8, .err 108 0)] _
 refine awp_ret ?_
 refine ⟨tv, (mW m [(x, .cells [pT d, .map tb, .map ob, iT c.next, iT c.quota, iT (ccalls c s token 2), .map fb]), (d, .cells [.map kb, .map nb, sT ((((stepF s).1).wait).map chgAV), iT (((stepF s).1).fuse), .bool (((stepF s).1).down), iT (((stepF s).1).steps)]), (tb, tObj (mput c.things id (⟨((mget c.things id).getD zT).id, ((mget c.things id).getD zT).kind, v⟩ : Thg))), (ob, oObj (mput c.tokens token (⟨2, id⟩ : Dn))), (fb, fObj c.fails)]), (wth_sub2 (m := m) [(b3, .cells [iT (((mget c.things id).getD zT).id), .str (((mget c.things id).getD zT).kind), iT v.kind, iT v.n, .str v.s, sF (v.l.map valIn), sF (v.f.map fldIn)]), (b2, .cells [iT ((callT c s token 2).1.op), iT ((callT c s token 2).1.id)]), (b1, .cells [iT v.kind, iT v.n, .str v.s, sF (v.l.map valIn), sF (v.f.map fldIn)])] [(x, .cells [pT d, .map tb, .map ob, iT c.next, iT c.quota, iT (ccalls c s token 2), .map fb]), (d, .cells [.map kb, .map nb, sT ((((stepF s).1).wait).map chgAV), iT (((stepF s).1).fuse), .bool (((stepF s).1).down), iT (((stepF s).1).steps)]), (tb, tObj (mput c.things id (⟨((mget c.things id).getD zT).id, ((mget c.things id).getD zT).kind, v⟩ : Thg))), (ob, oObj (mput c.tokens token (⟨2, id⟩ : Dn))), (fb, fObj c.fails)] hNb3 (by simp only [List.map_cons, List.map_nil, List.forall_mem_cons]; exact ⟨hFb3, hFb2, hFb1, nfA⟩)), ?_⟩
 show K (.err 108 0) (AMem.wth m [(x, .cells [pT d, .map tb, .map ob, iT c.next, iT c.quota, iT (ccalls c s token 2), .map fb]), (d, .cells [.map kb, .map nb, sT ((((stepF s).1).wait).map chgAV), iT (((stepF s).1).fuse), .bool (((stepF s).1).down), iT (((stepF s).1).steps)]), (tb, tObj (mput c.things id (⟨((mget c.things id).getD zT).id, ((mget c.things id).getD zT).kind, v⟩ : Thg))), (ob, oObj (mput c.tokens token (⟨2, id⟩ : Dn))), (fb, fObj c.fails)])
 have e0 : updateR c s token id v = ((((⟨mput c.things id (⟨((mget c.things id).getD zT).id, ((mget c.things id).getD zT).kind, v⟩ : Thg), mput c.tokens token (⟨2, id⟩ : Dn), c.next, c.quota, ccalls c s token 2, c.fails⟩ : ClSt), (stepF s).1), 0) : (ClSt × DSt) × Int) := by
  first | exact updateR_1 (by assumption) | exact updateR_2 (by assumption) (by assumption) | exact updateR_3 (by assumption) (by assumption) (by assumption) | exact updateR_4 (by assumption) (by assumption) (by assumption)
 rw [e0] at hK
 exact hK
set_option maxHeartbeats 8000000 in
theorem u_Delete (x d tb ob fb kb nb : Nat) (c : ClSt) (s : DSt) (token : Str) (id : Int) (hN : [x, d, tb, ob, fb].Nodup) (hst : 0 ≤ s.steps) (hst2 : s.steps ≤ 4611686018427387904) (hfu : -1 ≤ s.fuse) (hfu2 : s.fuse ≤ 9223372036854775807) (hca : 0 ≤ c.calls) (hca2 : c.calls ≤ 1000000) (hnx : 0 ≤ c.next) (hnx2 : c.next ≤ 1000000) (htl : c.things.length ≤ 1000000) (hol : c.tokens.length ≤ 1000000) (m : AMem)  (K : AV → AMem → Prop) (hK : K (.err 108 (deleteR c s token id).2) (mW m [(x, cObj d tb ob fb (deleteR c s token id).1.1), (d, dObj kb nb (deleteR c s token id).1.2), (tb, tObj (deleteR c s token id).1.1.things), (ob, oObj (deleteR c s token id).1.1.tokens), (fb, fObj (deleteR c s token id).1.1.fails)])) : ACalls Try.prog 51 [pT x, .str token, iT id] (mW m [(x, cObj d tb ob fb c), (d, .cells [.map kb, .map nb, sT (s.wait.map chgAV), iT s.fuse, .bool s.down, iT s.steps]), (tb, tObj c.things), (ob, oObj c.tokens), (fb, fObj c.fails)]) K := by
 refine acalls_enter Try.func51 rfl (by decide) (nB rfl) ?_
 show AWP _ _ _ _ [(0, pT x), (1, .str token), (2, iT id)] (mW m [(x, cObj d tb ob fb c), (d, .cells [.map kb, .map nb, sT (s.wait.map chgAV), iT s.fuse, .bool s.down, iT s.steps]), (tb, tObj c.things), (ob, oObj c.tokens), (fb, fObj c.fails)])
 refine rS [] [0, 1, 2] (by decide) ?_
 intro K1 hK1
 refine ⟨tv, ?_⟩
 show K1 [(0, pT x), (1, .str token), (2, iT id)] _
 refine hK1 _ _ ?_; clear hK1 K1
 refine rS [] [0, 1, 2, 8, 9] (by decide) ?_
 intro K1 hK1
 refine ⟨tv, tv, ?_⟩
 refine ar_mem (wS hN (pick_perm [0, 0, 1, 1] _)) ?_
 refine u_callE x d tb ob fb kb nb c s token 3 (by simp at hN ⊢; omega) hst hst2 hfu hfu2 hca hca2 _ _ ?_
 refine ar_mem (wS (m := m) (L := [(x, .cells [pT d, .map tb, .map ob, iT c.next, iT c.quota, iT (ccalls c s token 3), .map fb]), (d, .cells [.map kb, .map nb, sT ((((stepF s).1).wait).map chgAV), iT (((stepF s).1).fuse), .bool (((stepF s).1).down), iT (((stepF s).1).steps)]), (tb, tObj c.things), (ob, oObj c.tokens), (fb, fObj c.fails)]) hN (pick_perm [0, 0, 1, 1] _)).symm ?_
 refine ⟨tv, (nB rfl), (nB rfl), (nB rfl), ?_⟩
 refine ar_alloc rfl (z := .agg [iT 0, iT 0]) rfl rfl ?_
 intro b1 hb1
 have hFb1 : m b1 = none := wth_none hb1
 have hNb1 : ([b1, x, d, tb, ob, fb] : List Nat).Nodup := wth_nodup hb1 hN
 refine aS rfl 0 (v := .agg [iT ((callT c s token 3).1.op), iT ((callT c s token 3).1.id)]) (l' := [iT ((callT c s token 3).1.op), iT ((callT c s token 3).1.id)]) rfl rfl hNb1 rfl rfl rfl rfl rfl (nB rfl) rfl ?_
 refine ⟨tv, tv, ?_⟩
 show K1 [(0, pT x), (1, .str token), (2, iT id), (8, .bool ((callT c s token 3).2.1)), (9, .err 108 ((callT c s token 3).2.2))] (mW m [(b1, .cells [iT ((callT c s token 3).1.op), iT ((callT c s token 3).1.id)]), (x, .cells [pT d, .map tb, .map ob, iT c.next, iT c.quota, iT (ccalls c s token 3), .map fb]), (d, .cells [.map kb, .map nb, sT ((((stepF s).1).wait).map chgAV), iT (((stepF s).1).fuse), .bool (((stepF s).1).down), iT (((stepF s).1).steps)]), (tb, tObj c.things), (ob, oObj c.tokens), (fb, fObj c.fails)])
 refine hK1 _ _ ?_; clear hK1 K1
 refine sK ?_; intro K2 hK2
 refine rS [] [0, 1, 2, 9, 23] (by decide) ?_
 intro K1 hK1
 suffices key : K1 [(0, pT x), (1, .str token), (2, iT id), (9, .err 108 ((callT c s token 3).2.2)), (23, .bool ((!(((callT c s token 3).2.2) == 0)) || ((callT c s token 3).2.1)))] (mW m [(b1, .cells [iT ((callT c s token 3).1.op), iT ((callT c s token 3).1.id)]), (x, .cells [pT d, .map tb, .map ob, iT c.next, iT c.quota, iT (ccalls c s token 3), .map fb]), (d, .cells [.map kb, .map nb, sT ((((stepF s).1).wait).map chgAV), iT (((stepF s).1).fuse), .bool (((stepF s).1).down), iT (((stepF s).1).steps)]), (tb, tObj c.things), (ob, oObj c.tokens), (fb, fObj c.fails)]) by
  refine ⟨tv, ⟨rfl, rfl⟩, tv, ?_⟩
  show aopsR _ _ _ _ _ [(21, .bool (!(((callT c s token 3).2.2) == 0))), (20, .bool (!(((callT c s token 3).2.2) == 0))), (19, .err 108 ((callT c s token 3).2.2)), (0, pT x), (1, .str token), (2, iT id), (8, .bool ((callT c s token 3).2.1)), (9, .err 108 ((callT c s token 3).2.2))] _
  revert key
  cases h1 : (((callT c s token 3).2.2) == 0)
  ·
   replace h1 : (callT c s token 3).2.2 ≠ 0 := (ne_of_beq_false h1)
   intro key
   refine ar_off rfl ?_
   exact key
  ·
   replace h1 : (callT c s token 3).2.2 = 0 := (eq_of_beq h1)
   intro key
   refine ⟨tv, ?_⟩
   exact key
 refine hK1 _ _ ?_; clear hK1 K1
 refine cD rfl rfl (fun h2 => ?_) (fun h2 => ?_)
 ·
  replace h2 : ((callT c s token 3).2.2 ≠ 0) ∨ ((callT c s token 3).2.1 = true) := ((borT h2).imp (fun q => (ne_of_beq_false (bnT q))) (fun q => q))
  refine rS [] [6] (by decide) ?_
  intro K1 hK1
  refine ⟨tv, tv, ?_⟩
  show K1 [(6, .err 108 ((callT c s token 3).2.2))] (mW m [(b1, .cells [iT ((callT c s token 3).1.op), iT ((callT c s token 3).1.id)]), (x, .cells [pT d, .map tb, .map ob, iT c.next, iT c.quota, iT (ccalls c s token 3), .map fb]), (d, .cells [.map kb, .map nb, sT ((((stepF s).1).wait).map chgAV), iT (((stepF s).1).fuse), .bool (((stepF s).1).down), iT (((stepF s).1).steps)]), (tb, tObj c.things), (ob, oObj c.tokens), (fb, fObj c.fails)])
  refine hK1 _ _ ?_; clear hK1 K1
  refine awp_ret ?_
  refine ⟨tv, (mW m [(x, .cells [pT d, .map tb, .map ob, iT c.next, iT c.quota, iT (ccalls c s token 3), .map fb]), (d, .cells [.map kb, .map nb, sT ((((stepF s).1).wait).map chgAV), iT (((stepF s).1).fuse), .bool (((stepF s).1).down), iT (((stepF s).1).steps)]), (tb, tObj c.things), (ob, oObj c.tokens), (fb, fObj c.fails)]), (wth_sub2 (m := m) [(b1, .cells [iT ((callT c s token 3).1.op), iT ((callT c s token 3).1.id)])] [(x, .cells [pT d, .map tb, .map ob, iT c.next, iT c.quota, iT (ccalls c s token 3), .map fb]), (d, .cells [.map kb, .map nb, sT ((((stepF s).1).wait).map chgAV), iT (((stepF s).1).fuse), .bool (((stepF s).1).down), iT (((stepF s).1).steps)]), (tb, tObj c.things), (ob, oObj c.tokens), (fb, fObj c.fails)] hNb1 (by simp only [List.map_cons, List.map_nil, List.forall_mem_cons]; exact ⟨hFb1, nfA⟩)), ?_⟩
  show K (.err 108 ((callT c s token 3).2.2)) (AMem.wth m [(x, .cells [pT d, .map tb, .map ob, iT c.next, iT c.quota, iT (ccalls c s token 3), .map fb]), (d, .cells [.map kb, .map nb, sT ((((stepF s).1).wait).map chgAV), iT (((stepF s).1).fuse), .bool (((stepF s).1).down), iT (((stepF s).1).steps)]), (tb, tObj c.things), (ob, oObj c.tokens), (fb, fObj c.fails)])
 
  have e0 : deleteR c s token id = ((((⟨c.things, c.tokens, c.next, c.quota, ccalls c s token 3, c.fails⟩ : ClSt), (stepF s).1), (callT c s token 3).2.2) : (ClSt × DSt) × Int) := by
   first | exact deleteR_2 (by assumption) | exact deleteR_3 (by assumption) (by assumption) | exact deleteR_4 (by assumption) (by assumption)
  rw [e0] at hK
  exact hK
 replace h2 : ((callT c s token 3).2.2 = 0) ∧ ((callT c s token 3).2.1 = false) := ⟨(eq_of_beq (bnF (borL h2))), (borR h2)⟩
 refine awp_skip ?_
 refine hK2 _ _ ?_; clear hK2
 refine rS [] [0, 1, 2, 11] (by decide) ?_
 intro K1 hK1
 refine ⟨tv, tv, ⟨rfl, by decide⟩, ?_⟩
 refine aL rfl (v := .map tb) rfl (wG 1 hNb1 rfl) rfl (aO rfl rfl (nB rfl)) rfl ?_
 refine ⟨tv, ?_⟩
 refine ar_lookupOkP rfl (m := m) (L := [(b1, .cells [iT ((callT c s token 3).1.op), iT ((callT c s token 3).1.id)]), (x, .cells [pT d, .map tb, .map ob, iT c.next, iT c.quota, iT (ccalls c s token 3), .map fb]), (d, .cells [.map kb, .map nb, sT ((((stepF s).1).wait).map chgAV), iT (((stepF s).1).fuse), .bool (((stepF s).1).down), iT (((stepF s).1).steps)]), (tb, tObj c.things), (ob, oObj c.tokens), (fb, fObj c.fails)]) intAV thgAV intKey_ok c.things id zT rfl rfl rfl rfl rfl rfl (wG 3 hNb1 rfl) rfl ?_
 refine ⟨tv, (nB rfl), (nB rfl), ?_⟩
 refine ar_alloc rfl (z := .agg [iT 0, .str ([]), iT 0, iT 0, .str ([]), .slice true [], .slice true []]) rfl rfl ?_
 intro b2 hb2
 have hFb2 : m b2 = none := wth_none hb2
 have hNb2 : ([b2, b1, x, d, tb, ob, fb] : List Nat).Nodup := wth_nodup hb2 hNb1
 refine aS rfl 0 (v := thgAV ((mget c.things id).getD zT)) (l' := [iT (((mget c.things id).getD zT).id), .str (((mget c.things id).getD zT).kind), iT ((((mget c.things id).getD zT).v).kind), iT ((((mget c.things id).getD zT).v).n), .str ((((mget c.things id).getD zT).v).s), sF (((((mget c.things id).getD zT).v).l).map valIn), sF (((((mget c.things id).getD zT).v).f).map fldIn)]) rfl (by rfl) hNb2 rfl rfl rfl rfl rfl (nB rfl) rfl ?_
 refine ⟨tv, ?_⟩
 show K1 [(0, pT x), (1, .str token), (2, iT id), (11, .bool ((mget c.things id).isSome))] (mW m [(b2, .cells [iT (((mget c.things id).getD zT).id), .str (((mget c.things id).getD zT).kind), iT ((((mget c.things id).getD zT).v).kind), iT ((((mget c.things id).getD zT).v).n), .str ((((mget c.things id).getD zT).v).s), sF (((((mget c.things id).getD zT).v).l).map valIn), sF (((((mget c.things id).getD zT).v).f).map fldIn)]), (b1, .cells [iT ((callT c s token 3).1.op), iT ((callT c s token 3).1.id)]), (x, .cells [pT d, .map tb, .map ob, iT c.next, iT c.quota, iT (ccalls c s token 3), .map fb]), (d, .cells [.map kb, .map nb, sT ((((stepF s).1).wait).map chgAV), iT (((stepF s).1).fuse), .bool (((stepF s).1).down), iT (((stepF s).1).steps)]), (tb, tObj c.things), (ob, oObj c.tokens), (fb, fObj c.fails)])
 refine hK1 _ _ ?_; clear hK1 K1
 refine sK ?_; intro K3 hK3
 refine rS [] [0, 1, 2, 35] (by decide) ?_
 intro K1 hK1
 refine ⟨tv, tv, ?_⟩
 show K1 [(0, pT x), (1, .str token), (2, iT id), (35, .bool (!((mget c.things id).isSome)))] _
 refine hK1 _ _ ?_; clear hK1 K1
 refine cD rfl rfl (fun h3 => ?_) (fun h3 => ?_)
 ·
  replace h3 : (mget c.things id).isSome = false := (bnT h3)
  refine rS [] [6] (by decide) ?_
  intro K1 hK1
  refine ⟨tv, tv, ?_⟩
  show K1 [(6, .iface 108 (iT 7))] (mW m [(b2, .cells [iT (((mget c.things id).getD zT).id), .str (((mget c.things id).getD zT).kind), iT ((((mget c.things id).getD zT).v).kind), iT ((((mget c.things id).getD zT).v).n), .str ((((mget c.things id).getD zT).v).s), sF (((((mget c.things id).getD zT).v).l).map valIn), sF (((((mget c.things id).getD zT).v).f).map fldIn)]), (b1, .cells [iT ((callT c s token 3).1.op), iT ((callT c s token 3).1.id)]), (x, .cells [pT d, .map tb, .map ob, iT c.next, iT c.quota, iT (ccalls c s token 3), .map fb]), (d, .cells [.map kb, .map nb, sT ((((stepF s).1).wait).map chgAV), iT (((stepF s).1).fuse), .bool (((stepF s).1).down), iT (((stepF s).1).steps)]), (tb, tObj c.things), (ob, oObj c.tokens), (fb, fObj c.fails)])
  refine hK1 _ _ ?_; clear hK1 K1
  refine awp_toErr 108 [6] ?_
  show AWP _ _ _ _ [(6, .err 108 7)] _
  refine awp_ret ?_
  refine ⟨tv, (mW m [(x, .cells [pT d, .map tb, .map ob, iT c.next, iT c.quota, iT (ccalls c s token 3), .map fb]), (d, .cells [.map kb, .map nb, sT ((((stepF s).1).wait).map chgAV), iT (((stepF s).1).fuse), .bool (((stepF s).1).down), iT (((stepF s).1).steps)]), (tb, tObj c.things), (ob, oObj c.tokens), (fb, fObj c.fails)]), (wth_sub2 (m := m) [(b2, .cells [iT (((mget c.things id).getD zT).id), .str (((mget c.things id).getD zT).kind), iT ((((mget c.things id).getD zT).v).kind), iT ((((mget c.things id).getD zT).v).n), .str ((((mget c.things id).getD zT).v).s), sF (((((mget c.things id).getD zT).v).l).map valIn), sF (((((mget c.things id).getD zT).v).f).map fldIn)]), (b1, .cells [iT ((callT c s token 3).1.op), iT ((callT c s token 3).1.id)])] [(x, .cells [pT d, .map tb, .map ob, iT c.next, iT c.quota, iT (ccalls c s token 3), .map fb]), (d, .cells [.map kb, .map nb, sT ((((stepF s).1).wait).map chgAV), iT (((stepF s).1).fuse), .bool (((stepF s).1).down), iT (((stepF s).1).steps)]), (tb, tObj c.things), (ob, oObj c.tokens), (fb, fObj c.fails)] hNb2 (by simp only [List.map_cons, List.map_nil, List.forall_mem_cons]; exact ⟨hFb2, hFb1, nfA⟩)), ?_⟩
  show K (.err 108 7) (AMem.wth m [(x, .cells [pT d, .map tb, .map ob, iT c.next, iT c.quota, iT (ccalls c s token 3), .map fb]), (d, .cells [.map kb, .map nb, sT ((((stepF s).1).wait).map chgAV), iT (((stepF s).1).fuse), .bool (((stepF s).1).down), iT (((stepF s).1).steps)]), (tb, tObj c.things), (ob, oObj c.tokens), (fb, fObj c.fails)])
 
  have e0 : deleteR c s token id = ((((⟨c.things, c.tokens, c.next, c.quota, ccalls c s token 3, c.fails⟩ : ClSt), (stepF s).1), 7) : (ClSt × DSt) × Int) := by
   first | exact deleteR_2 (by assumption) | exact deleteR_3 (by assumption) (by assumption) | exact deleteR_4 (by assumption) (by assumption)
  rw [e0] at hK
  exact hK
 replace h3 : (mget c.things id).isSome = true := (bnF h3)
 refine awp_skip ?_
 refine hK3 _ _ ?_; clear hK3
 refine rS [] [0, 1, 2] (by decide) ?_
 intro K1 hK1
 refine ⟨tv, tv, ⟨rfl, by decide⟩, ?_⟩
 refine aL rfl (v := .map tb) rfl (wG 2 hNb2 rfl) rfl (aO rfl rfl (nB rfl)) rfl ?_
 refine ⟨tv, ?_⟩
 refine ar_delete rfl (m := m) (L := [(b2, .cells [iT (((mget c.things id).getD zT).id), .str (((mget c.things id).getD zT).kind), iT ((((mget c.things id).getD zT).v).kind), iT ((((mget c.things id).getD zT).v).n), .str ((((mget c.things id).getD zT).v).s), sF (((((mget c.things id).getD zT).v).l).map valIn), sF (((((mget c.things id).getD zT).v).f).map fldIn)]), (b1, .cells [iT ((callT c s token 3).1.op), iT ((callT c s token 3).1.id)]), (x, .cells [pT d, .map tb, .map ob, iT c.next, iT c.quota, iT (ccalls c s token 3), .map fb]), (d, .cells [.map kb, .map nb, sT ((((stepF s).1).wait).map chgAV), iT (((stepF s).1).fuse), .bool (((stepF s).1).down), iT (((stepF s).1).steps)]), (tb, tObj c.things), (ob, oObj c.tokens), (fb, fObj c.fails)]) 4 intAV thgAV intKey_ok c.things id rfl rfl rfl rfl rfl hNb2 ?_
 show K1 [(0, pT x), (1, .str token), (2, iT id)] (mW m [(b2, .cells [iT (((mget c.things id).getD zT).id), .str (((mget c.things id).getD zT).kind), iT ((((mget c.things id).getD zT).v).kind), iT ((((mget c.things id).getD zT).v).n), .str ((((mget c.things id).getD zT).v).s), sF (((((mget c.things id).getD zT).v).l).map valIn), sF (((((mget c.things id).getD zT).v).f).map fldIn)]), (b1, .cells [iT ((callT c s token 3).1.op), iT ((callT c s token 3).1.id)]), (x, .cells [pT d, .map tb, .map ob, iT c.next, iT c.quota, iT (ccalls c s token 3), .map fb]), (d, .cells [.map kb, .map nb, sT ((((stepF s).1).wait).map chgAV), iT (((stepF s).1).fuse), .bool (((stepF s).1).down), iT (((stepF s).1).steps)]), (tb, tObj (mdel c.things id)), (ob, oObj c.tokens), (fb, fObj c.fails)])
 refine hK1 _ _ ?_; clear hK1 K1
 refine rS [] [] (by decide) ?_
 intro K1 hK1
 refine ⟨tv, tv, ⟨rfl, by decide⟩, ?_⟩
 refine aL rfl (v := .map ob) rfl (wG 2 hNb2 rfl) rfl (aO rfl rfl (nB rfl)) rfl ?_
 refine ⟨tv, tv, ⟨rfl, by simp only [List.forall_mem_cons]; exact ⟨rfl, rfl, nfA⟩, by simp only [List.forall_mem_cons]; exact ⟨rfl, rfl, nfA⟩⟩, ?_⟩
 refine ar_mapUpdate rfl (m := m) (L := [(b2, .cells [iT (((mget c.things id).getD zT).id), .str (((mget c.things id).getD zT).kind), iT ((((mget c.things id).getD zT).v).kind), iT ((((mget c.things id).getD zT).v).n), .str ((((mget c.things id).getD zT).v).s), sF (((((mget c.things id).getD zT).v).l).map valIn), sF (((((mget c.things id).getD zT).v).f).map fldIn)]), (b1, .cells [iT ((callT c s token 3).1.op), iT ((callT c s token 3).1.id)]), (x, .cells [pT d, .map tb, .map ob, iT c.next, iT c.quota, iT (ccalls c s token 3), .map fb]), (d, .cells [.map kb, .map nb, sT ((((stepF s).1).wait).map chgAV), iT (((stepF s).1).fuse), .bool (((stepF s).1).down), iT (((stepF s).1).steps)]), (tb, tObj (mdel c.things id)), (ob, oObj c.tokens), (fb, fObj c.fails)]) 5 strAV dnAV strKey_ok c.tokens token (⟨3, id⟩ : Dn) rfl rfl rfl rfl rfl rfl hNb2 (by have := mput_len c.tokens token ⟨3, id⟩; omega) ?_
 show K1 [] (mW m [(b2, .cells [iT (((mget c.things id).getD zT).id), .str (((mget c.things id).getD zT).kind), iT ((((mget c.things id).getD zT).v).kind), iT ((((mget c.things id).getD zT).v).n), .str ((((mget c.things id).getD zT).v).s), sF (((((mget c.things id).getD zT).v).l).map valIn), sF (((((mget c.things id).getD zT).v).f).map fldIn)]), (b1, .cells [iT ((callT c s token 3).1.op), iT ((callT c s token 3).1.id)]), (x, .cells [pT d, .map tb, .map ob, iT c.next, iT c.quota, iT (ccalls c s token 3), .map fb]), (d, .cells [.map kb, .map nb, sT ((((stepF s).1).wait).map chgAV), iT (((stepF s).1).fuse), .bool (((stepF s).1).down), iT (((stepF s).1).steps)]), (tb, tObj (mdel c.things id)), (ob, oObj (mput c.tokens token (⟨3, id⟩ : Dn))), (fb, fObj c.fails)])
 refine hK1 _ _ ?_; clear hK1 K1
 refine rS [] [6] (by decide) ?_
 intro K1 hK1
 refine ⟨tv, ?_⟩
 show K1 [(6, .nilIface)] _
 refine hK1 _ _ ?_; clear hK1 K1
 refine awp_toErr 108 [6] ?_
 show AWP _ _ _ _ [(6, .err 108 0)] _
 refine awp_ret ?_
 refine ⟨tv, (mW m [(x, .cells [pT d, .map tb, .map ob, iT c.next, iT c.quota, iT (ccalls c s token 3), .map fb]), (d, .cells [.map kb, .map nb, sT ((((stepF s).1).wait).map chgAV), iT (((stepF s).1).fuse), .bool (((stepF s).1).down), iT (((stepF s).1).steps)]), (tb, tObj (mdel c.things id)), (ob, oObj (mput c.tokens token (⟨3, id⟩ : Dn))), (fb, fObj c.fails)]), (wth_sub2 (m := m) [(b2, .cells [iT (((mget c.things id).getD zT).id), .str (((mget c.things id).getD zT).kind), iT ((((mget c.things id).getD zT).v).kind), iT ((((mget c.things id).getD zT).v).n), .str ((((mget c.things id).getD zT).v).s), sF (((((mget c.things id).getD zT).v).l).map valIn), sF (((((mget c.things id).getD zT).v).f).map fldIn)]), (b1, .cells [iT ((callT c s token 3).1.op), iT ((callT c s token 3).1.id)])] [(x, .cells [pT d, .map tb, .map ob, iT c.next, iT c.quota, iT (ccalls c s token 3), .map fb]), (d, .cells [.map kb, .map nb, sT ((((stepF s).1).wait).map chgAV), iT (((stepF s).1).fuse), .bool (((stepF s).1).down), iT (((stepF s).1).steps)]), (tb, tObj (mdel c.things id)), (ob, oObj (mput c.tokens token (⟨3, id⟩ : Dn))), (fb, fObj c.fails)] hNb2 (by simp only [List.map_cons, List.map_nil, List.forall_mem_cons]; exact ⟨hFb2, hFb1, nfA⟩)), ?_⟩
 show K (.err 108 0) (AMem.wth m [(x, .cells [pT d, .map tb, .map ob, iT c.next, iT c.quota, iT (ccalls c s token 3), .map fb]), (d, .cells [.map kb, .map nb, sT ((((stepF s).1).wait).map chgAV), iT (((stepF s).1).fuse), .bool (((stepF s).1).down), iT (((stepF s).1).steps)]), (tb, tObj (mdel c.things id)), (ob, oObj (mput c.tokens token (⟨3, id⟩ : Dn))), (fb, fObj c.fails)])
 have e0 : deleteR c s token id = ((((⟨mdel c.things id, mput c.tokens token (⟨3, id⟩ : Dn), c.next, c.quota, ccalls c s token 3, c.fails⟩ : ClSt), (stepF s).1), 0) : (ClSt × DSt) × Int) := by
  first | exact deleteR_2 (by assumption) | exact deleteR_3 (by assumption) (by assumption) | exact deleteR_4 (by assumption) (by assumption)
 rw [e0] at hK
 exact hK
end Go.Proofs
end
section
namespace Go.Proofs
open Go Go.Aw
set_option maxRecDepth 100000
def sortT (l : List Thg) : List Thg := l.mergeSort fun a b => decide (a.id ≤ b.id)
theorem sortT_eq {l l' : List Thg} (hp : l'.Perm l) (hs : l'.Pairwise (fun a b => a.id ≤ b.id)) (hn : (l.map Thg.id).Nodup) : l' = sortT l := by
  have to : ∀ a b : Thg, (decide (a.id ≤ b.id) || decide (b.id ≤ a.id)) = true := fun a b => by
    rcases Int.le_total a.id b.id with h | h <;> simp [h]
  have tr : ∀ a b c : Thg, decide (a.id ≤ b.id) = true → decide (b.id ≤ c.id) = true → decide (a.id ≤ c.id) = true := fun a b c h1 h2 => by
    simp only [decide_eq_true_eq] at *; omega
  refine List.Perm.eq_of_pairwise (le := fun a b => decide (a.id ≤ b.id) = true) (fun a b ha hb h1 h2 => ?_) (hs.imp fun h => by simpa using h) (List.pairwise_mergeSort tr to l) (hp.trans (List.mergeSort_perm l _).symm)
  simp only [decide_eq_true_eq] at h1 h2
  have ha' := hp.mem_iff.1 ha
  have hb' := (List.mergeSort_perm l _).mem_iff.1 hb
  have hid : a.id = b.id := by omega
  obtain ⟨i, hi, rfl⟩ := List.getElem_of_mem ha'
  obtain ⟨j, hj, rfl⟩ := List.getElem_of_mem hb'
  have := (List.getElem_inj (xs := l.map Thg.id) (h₀ := by simpa using hi) (h₁ := by simpa using hj) hn).1 (by simpa using hid)
  subst this; rfl
theorem sortT_len (l : List Thg) : (sortT l).length = l.length := List.length_mergeSort _
def allT (c : ClSt) : List Thg := sortT (c.things.map Prod.snd)
def thgsAt (l : List (Int × Thg)) (seen : List Nat) : List Thg := seen.map fun i => (l.getD i (0, zT)).2
theorem thgsAt_perm {l : List (Int × Thg)} {seen : List Nat} (hn : seen.Nodup) (hb : ∀ i ∈ seen, i < l.length) (ha : ∀ i, i < l.length → i ∈ seen) : (thgsAt l seen).Perm (l.map Prod.snd) := by
  have hp : seen.Perm (List.range l.length) := (List.perm_ext_iff_of_nodup hn List.nodup_range).2 fun i => ⟨fun h => List.mem_range.2 (hb i h), fun h => ha i (List.mem_range.1 h)⟩
  refine (hp.map _).trans ?_
  have e : (List.range l.length).map (fun i => (l.getD i (0, zT)).2) = l.map Prod.snd := by
    refine List.ext_getElem (by simp) fun i h1 h2 => ?_
    simp only [List.length_map] at h2
    simp [h2]
  show ((List.range l.length).map (fun i => (l.getD i (0, zT)).2)).Perm (l.map Prod.snd)
  rw [e]
theorem thgsAt_snoc {l : List (Int × Thg)} {seen : List Nat} {k : Nat} {a : Int} {b : Thg} (hp : l[k]? = some (a, b)) : thgsAt l (seen ++ [k]) = thgsAt l seen ++ [b] := by
  unfold thgsAt
  rw [List.map_append]
  simp [List.getD_eq_getElem?_getD, hp]
theorem seenT_len {l : List (Int × Thg)} {seen : List Nat} (hn : seen.Nodup) (hb : ∀ i ∈ seen, i < l.length) : seen.length ≤ l.length := by
  have h := List.Nodup.length_le_of_subset hn (fun i hi => List.mem_range.2 (hb i hi))
  simpa using h
theorem sstepT {l : List (Int × Thg)} {seen : List Nat} {k : Nat} {p : Int × Thg} (h1 : seen.Nodup) (h2 : ∀ i ∈ seen, i < l.length) (hp : l[k]? = some p) (hn : ¬ k ∈ seen) : (seen ++ [k]).Nodup ∧ (∀ i ∈ seen ++ [k], i < l.length) := by
  have hk := (List.getElem?_eq_some_iff.1 hp).1
  refine ⟨List.nodup_append.2 ⟨h1, by simp, fun i hi j hj e => by simp at hj; subst hj; subst e; exact hn hi⟩, fun i hi => ?_⟩
  rcases List.mem_append.1 hi with h | h
  · exact h2 i h
  · simp at h; omega
theorem thgsAt_mem {l : List (Int × Thg)} {seen : List Nat} (hb : ∀ i ∈ seen, i < l.length) : ∀ t ∈ thgsAt l seen, ∃ p ∈ l, p.2 = t := fun t ht => by
  obtain ⟨i, hi, rfl⟩ := List.mem_map.1 ht
  have := hb i hi
  exact ⟨l[i], List.getElem_mem this, by simp [List.getD_eq_getElem?_getD, this]⟩
theorem u_SortT0 (m : AMem) (K : AV → AMem → Prop) (hK : K (.tuple []) m) : ACalls Try.prog 87 [.nils, .func (.func 88) [] []] m K := by
  have hC : ∀ (p : Option Addr) (w : World), Calls Try.prog 87 #[.slice p 0 0, .func (.func 88) #[] #[]] w fun e w' => e = .returned (.tuple #[]) ∧ w' = w := fun p w => Try.sortN p w
  refine ⟨⟨_, Try.func87, rfl, rfl⟩, fun F lim w cargs hs hr st => ?_⟩
  have h0 := hr 0 (by simp)
  have h1 := hr 1 (by simp)
  simp only [List.getD_cons_zero] at h0
  simp only [List.getD_cons_succ, List.getD_cons_zero] at h1
  obtain ⟨p, e0⟩ := nils_inv h0
  have e1 := func_inv h1
  have ec : cargs = #[.slice p 0 0, .func (.func 88) #[] #[]] := by
    apply Array.ext (by simp [hs])
    intro i hi hi'
    have : cargs.getD i undef = cargs[i] := by simp [Array.getD, hi]
    rw [← this]
    have hi2 : i < 2 := by simpa [hs] using hi
    match i, hi2 with
    | 0, _ => rw [e0]; rfl
    | 1, _ => rw [e1]; rfl
  rw [ec]
  refine (hC p w).mono fun e w' ⟨he, hw⟩ => ?_
  subst hw
  refine ⟨.tuple #[], .tuple [], lim, m, [], he, hK, ?_, st, .refl _ _ _⟩
  have := Rep.tuple (w := w') (lim := lim) #[] [] (fun _ => []) rfl (fun i hi => by simp at hi)
  rwa [flatMap_nil] at this
theorem u_SortT (b k cap : Nat) (zs : List Thg) (hk : k ≤ zs.length) (hkb : k ≤ 140737488355328) (hks : ∀ a ∈ zs.take k, 0 ≤ a.id ∧ a.id ≤ 1000000000) (hn : ((zs.take k).map Thg.id).Nodup) (m : AMem) (K : AV → AMem → Prop) (hK : K (.tuple []) (m.wth [(b, .cells (flatK thgAV (sortT (zs.take k) ++ zs.drop k)))])) : ACalls Try.prog 87 [.ms ⟨b, 0, none⟩ k cap, .func (.func 88) [] []] (m.wth [(b, .cells (flatK thgAV zs))]) K :=
  acalls_sortK (s := 6) Thg.id ⟨_, Try.func87, rfl, rfl⟩ Try.sortC (fun _ => rfl) (fun _ => rfl) (fun _ => rfl) (fun _ => rfl) b k cap zs hk hkb hks m K (fun zs' hp hs => by rw [sortT_eq hp hs hn]; exact hK)
end Go.Proofs
end
section
namespace Go.Proofs
open Go Go.Aw
set_option maxRecDepth 100000
theorem sortT_take {zs : List Thg} {k : Nat} (h : k ≤ zs.length) : (sortT (zs.take k) ++ zs.drop k).take k = sortT (zs.take k) := by
  have hl : (sortT (zs.take k)).length = k := by rw [sortT_len, List.length_take]; omega
  rw [List.take_append_of_le_length (by omega), List.take_of_length_le (by omega)]
theorem sortT_of_perm {l l' : List Thg} (hp : l.Perm l') (hn : (l'.map Thg.id).Nodup) : sortT l = sortT l' := by
  refine sortT_eq ((List.mergeSort_perm l _).trans hp) ?_ hn
  have to : ∀ a b : Thg, (decide (a.id ≤ b.id) || decide (b.id ≤ a.id)) = true := fun a b => by
    rcases Int.le_total a.id b.id with h | h <;> simp [h]
  have tr : ∀ a b c : Thg, decide (a.id ≤ b.id) = true → decide (b.id ≤ c.id) = true → decide (a.id ≤ c.id) = true := fun a b c h1 h2 => by
    simp only [decide_eq_true_eq] at *; omega
  exact (List.pairwise_mergeSort tr to l).imp fun h => by simpa using h
theorem allT_nil {c : ClSt} (hE : ∀ k, k < c.things.length → k ∈ ([] : List Nat)) : allT c = [] := by
  have hz : c.things = [] := by
    rcases hq : c.things with _ | ⟨p, r⟩
    · rfl
    · exact absurd (hE 0 (by rw [hq]; simp)) (by simp)
  unfold allT
  rw [hz]; simp [sortT]
theorem ids_nodup {l : List (Int × Thg)} (hn : (l.map Prod.fst).Nodup) (hi : ∀ p ∈ l, p.2.id = p.1) : ((l.map Prod.snd).map Thg.id).Nodup := by
  have e : (l.map Prod.snd).map Thg.id = l.map Prod.fst := by
    rw [List.map_map]
    exact List.map_congr_left fun p hp => hi p hp
  rw [e]; exact hn
theorem thgsAt_nd {l : List (Int × Thg)} {seen : List Nat} (hn : (l.map Prod.fst).Nodup) (hi : ∀ p ∈ l, p.2.id = p.1) (h1 : seen.Nodup) (h2 : ∀ i ∈ seen, i < l.length) : ((thgsAt l seen).map Thg.id).Nodup := by
  have e : (thgsAt l seen).map Thg.id = seen.map (fun i => (l.getD i (0, zT)).1) := by
    unfold thgsAt
    rw [List.map_map]
    refine List.map_congr_left fun i hi2 => ?_
    have h3 := h2 i hi2
    have := hi l[i] (List.getElem_mem h3)
    simpa [List.getD_eq_getElem?_getD, h3] using this
  rw [e]
  refine List.pairwise_map.2 (List.Pairwise.imp_of_mem (fun {i j} hi2 hj2 hne hij => hne ?_) h1)
  have h3 := h2 i hi2
  have h4 := h2 j hj2
  have h5 : (l.map Prod.fst)[i]'(by simpa using h3) = (l.map Prod.fst)[j]'(by simpa using h4) := by simpa [List.getD_eq_getElem?_getD, h3, h4] using hij
  exact (List.getElem_inj hn).1 h5
set_option maxHeartbeats 4000000 in
theorem u_All (x d tb ob fb : Nat) (c : ClSt) (hN : [x, tb].Nodup) (htl : c.things.length ≤ 1000000) (hnd : (c.things.map Prod.fst).Nodup) (hids : ∀ p ∈ c.things, p.2.id = p.1 ∧ (1 ≤ p.1 ∧ p.1 ≤ 1000000) ∧ chk p.2.v = 0) (m : AMem)  (K : AV → AMem → Prop) (hK : K (sF ((allT c).map thgAV)) (mW m [(x, cObj d tb ob fb c), (tb, tObj c.things)])) : ACalls Try.prog 62 [pT x] (mW m [(x, cObj d tb ob fb c), (tb, tObj c.things)]) K := by
 refine acalls_enter Try.func62 rfl (by decide) (nB rfl) ?_
 show AWP _ _ _ _ [(0, pT x)] (mW m [(x, cObj d tb ob fb c), (tb, tObj c.things)])
 refine rS [] [0] (by decide) ?_
 intro K1 hK1
 refine ⟨tv, ?_⟩
 show K1 [(0, pT x)] _
 refine hK1 _ _ ?_; clear hK1 K1
 refine rS [] [0, 3] (by decide) ?_
 intro K1 hK1
 refine ⟨tv, ?_⟩
 show K1 [(0, pT x), (3, .slice true [])] _
 refine hK1 _ _ ?_; clear hK1 K1
 refine sK ?_; intro K2 hK2
 refine rS [] [3, 10] (by decide) ?_
 intro K1 hK1
 refine ⟨tv, tv, ⟨rfl, by decide⟩, ?_⟩
 refine aL rfl (v := .map tb) rfl (wG 0 hN rfl) rfl (aO rfl rfl (nB rfl)) rfl ?_
 refine ar_range rfl (m := m) (L := [(x, cObj d tb ob fb c), (tb, tObj c.things)]) 1 rfl rfl rfl hN ?_
 intro q1 _
 show K1 [(3, .slice true []), (10, pT q1)] (mW m [(x, cObj d tb ob fb c), (tb, AObj.iter q1 (List.map (mapAV intAV thgAV) c.things) [])])
 refine hK1 _ _ ?_; clear hK1 K1
 refine awp_block ?_
 refine awp_conv1 3 (.slice true []) .nils rfl nils_of_own ?_
 refine awp_keep [3, 10] (by decide) ?_
 refine awp_loop_st (σ := (Unit) ⊕ (Nat × List Nat × List Thg)) (Sum.elim (fun _ => [(3, .nils), (10, pT q1)]) (fun ⟨b, seen, zs⟩ => [(3, .ms ⟨b, 0, none⟩ seen.length zs.length), (10, pT q1)])) (Sum.elim (fun _ => (mW m [(x, cObj d tb ob fb c), (tb, AObj.iter q1 (List.map (mapAV intAV thgAV) c.things) [])])) (fun ⟨b, seen, zs⟩ => (mW m [(b, .cells (flatK thgAV zs)), (x, cObj d tb ob fb c), (tb, AObj.iter q1 (List.map (mapAV intAV thgAV) c.things) seen)]))) (Sum.elim (fun _ => True) (fun ⟨b, seen, zs⟩ => ([b, x, tb] : List Nat).Nodup ∧ m b = none ∧ (seen).Nodup ∧ (∀ i ∈ seen, i < c.things.length) ∧ (zs).take (seen).length = thgsAt c.things seen ∧ (seen).length ≤ (zs).length)) (Sum.elim (fun _ => c.things.length + 1) (fun ⟨b, seen, zs⟩ => c.things.length - (seen).length)) (.inl ()) rfl rfl ?_ ?_
 ·
  show True
  trivial
 ·
  rintro (_ | ⟨b, seen, zs⟩) hI
  ·
   replace hI : True := hI
   show AWP _ _ _ _ [(3, .nils), (10, pT q1)] (mW m [(x, cObj d tb ob fb c), (tb, AObj.iter q1 (List.map (mapAV intAV thgAV) c.things) [])])
   refine rS [] [3, 10, 12] (by decide) ?_
   intro K1 hK1
   refine ar_nextT rfl (m := m) (L := [(x, cObj d tb ob fb c), (tb, AObj.iter q1 (List.map (mapAV intAV thgAV) c.things) [])]) 1 intAV thgAV c.things [] rfl rfl hN ?_ ?_
   ·
    intro hE1
    refine ⟨(nB rfl), ?_⟩
    show K1 [(3, .nils), (10, pT q1), (12, .bool false)] (mW m [(x, cObj d tb ob fb c), (tb, AObj.iter q1 (List.map (mapAV intAV thgAV) c.things) [])])
    refine hK1 _ _ ?_; clear hK1 K1
    refine awp_unrange (m := m) (L := [(x, cObj d tb ob fb c), (tb, AObj.iter q1 (List.map (mapAV intAV thgAV) c.things) [])]) 1 hN rfl ?_
    show AWP _ _ _ _ [(3, .nils), (10, pT q1), (12, .bool false)] (mW m [(x, cObj d tb ob fb c), (tb, tObj c.things)])
    refine sK ?_; intro K3 hK3
    refine cD rfl rfl (fun hcz => ?_) (fun hcz => ?_)
    ·
     cases hcz
    clear hcz
    refine awp_exit ?_
    refine hK2 _ _ ?_; clear hK2
    refine rS [] [3] (by decide) ?_
    intro K1 hK1
    refine ⟨tv, ?_⟩
    refine u_SortT0 _ _ ?_
    show K1 [(3, .nils)] (mW m [(x, cObj d tb ob fb c), (tb, tObj c.things)])
    refine hK1 _ _ ?_; clear hK1 K1
    refine awp_conv1 3 .nils (.slice false []) rfl own_of_nils ?_
    show AWP _ _ _ _ [(3, .slice false [])] _
    refine rS [] [2] (by decide) ?_
    intro K1 hK1
    refine ⟨tv, tv, ?_⟩
    show K1 [(2, .slice false [])] _
    refine hK1 _ _ ?_; clear hK1 K1
    refine awp_ret ?_
    refine ⟨tv, (mW m [(x, cObj d tb ob fb c), (tb, tObj c.things)]), fun _ _ h => h, ?_⟩
    show K (.slice false []) _
   
    have e0 : allT c = ([] : List Thg) := by
     first | (exact allT_nil hE1) | (rw [hs3]; exact (sortT_of_perm (thgsAt_perm hs1 hs2 hE2) (ids_nodup hnd fun p hp => (hids p hp).1)).symm)
    rw [e0] at hK
    exact hK
   ·
    rintro k1 ⟨ek1, ev1⟩ hp1 hn1
    refine ⟨(nB rfl), ?_⟩
    show K1 [(3, .nils), (10, pT q1), (12, .bool true)] (mW m [(x, cObj d tb ob fb c), (tb, AObj.iter q1 (List.map (mapAV intAV thgAV) c.things) ([] ++ [k1]))])
    refine hK1 _ _ ?_; clear hK1 K1
    refine sK ?_; intro K4 hK4
    refine cD rfl rfl (fun hcz => ?_) (fun hcz => ?_)
    rotate_left; · cases hcz
    clear hcz
    refine awp_skip ?_
    refine hK4 _ _ ?_; clear hK4
    refine awp_block ?_
    refine rS [] [3, 5, 10] (by decide) ?_
    intro K1 hK1
    refine ar_entryT rfl (m := m) (L := [(x, cObj d tb ob fb c), (tb, AObj.iter q1 (List.map (mapAV intAV thgAV) c.things) ([] ++ [k1]))]) 1 intAV thgAV c.things [] hp1 rfl rfl hN ?_
    refine ⟨(nB rfl), ?_⟩
    refine ar_alloc rfl (z := .agg [iT 0, .str ([]), iT 0, iT 0, .str ([]), .slice true [], .slice true []]) rfl rfl ?_
    intro b1 hb1
    have hFb1 : m b1 = none := wth_none hb1
    have hNb1 : ([b1, x, tb] : List Nat).Nodup := wth_nodup hb1 hN
    refine aS rfl 0 (v := thgAV ev1) (l' := [iT ev1.id, .str ev1.kind, iT ev1.v.kind, iT ev1.v.n, .str ev1.v.s, sF (ev1.v.l.map valIn), sF (ev1.v.f.map fldIn)]) rfl (by rfl) hNb1 rfl rfl rfl rfl rfl (nB rfl) rfl ?_
    show K1 [(3, .nils), (5, pT b1), (10, pT q1)] (mW m [(b1, .cells [iT ev1.id, .str ev1.kind, iT ev1.v.kind, iT ev1.v.n, .str ev1.v.s, sF (ev1.v.l.map valIn), sF (ev1.v.f.map fldIn)]), (x, cObj d tb ob fb c), (tb, AObj.iter q1 (List.map (mapAV intAV thgAV) c.things) ([] ++ [k1]))])
    refine hK1 _ _ ?_; clear hK1 K1
    refine rS [] [3, 5, 10] (by decide) ?_
    intro K1 hK1
    refine ⟨⟨rfl, by decide⟩, ?_⟩
    refine aL rfl (v := .agg [iT ev1.v.kind, iT ev1.v.n, .str ev1.v.s, sF (ev1.v.l.map valIn), sF (ev1.v.f.map fldIn)]) rfl (wG 0 hNb1 rfl) rfl (apartOk_agg rfl rfl (nB rfl)) rfl ?_
    refine u_Copy ev1.v (chk_okV (hids _ (List.mem_of_getElem? hp1)).2.2) _ _ ?_
    refine ⟨⟨rfl, by decide⟩, ?_⟩
    refine aS rfl 0 (v := valTop ev1.v) (l' := [iT ev1.id, .str ev1.kind, iT ev1.v.kind, iT ev1.v.n, .str ev1.v.s, sF (ev1.v.l.map valIn), sF (ev1.v.f.map fldIn)]) rfl (by rfl) hNb1 rfl rfl rfl rfl rfl (nB rfl) rfl ?_
    show K1 [(3, .nils), (5, pT b1), (10, pT q1)] _
    refine hK1 _ _ ?_; clear hK1 K1
    refine awp_subQ ?_
    refine awp_reg2 [19] [3, 10] (by decide) ?_
    intro K1 hK1
    refine ⟨tv, ?_⟩
    refine aL rfl (v := .agg [iT ev1.id, .str ev1.kind, iT ev1.v.kind, iT ev1.v.n, .str ev1.v.s, sF (ev1.v.l.map valIn), sF (ev1.v.f.map fldIn)]) rfl (wG 0 hNb1 rfl) rfl (apartOk_agg rfl rfl (nB rfl)) rfl ?_
    refine ⟨⟨rfl, nB rfl, rfl, nB rfl, rfl, by simp only [List.forall_mem_cons]; exact ⟨⟨rfl, rfl⟩, nfA⟩⟩, ?_⟩
    refine ar_append0MsK rfl thgAV 7 ([ev1] : List Thg) zT rfl rfl rfl rfl rfl rfl rfl rfl (by decide) hNb1 (fun _ => rfl) (fun _ => rfl) (fun _ => rfl) rfl (by simp) (by (simp only [show Try.prog.bytesOf 80 = 104 from rfl, List.length_cons, List.length_nil]; omega)) (by simp) ?_
    intro b2 zs2 hFb2 hNb2 htb2 hlb2
    replace hNb2 : ([b2, b1, x, tb] : List Nat).Nodup := hNb2
    refine ⟨tv, ?_⟩
    show K1 [(3, .ms ⟨b2, 0, none⟩ (([ev1] : List Thg).length) zs2.length), (10, pT q1)] (mW m [(b2, .cells (flatK thgAV zs2)), (b1, .cells [iT ev1.id, .str ev1.kind, iT ev1.v.kind, iT ev1.v.n, .str ev1.v.s, sF (ev1.v.l.map valIn), sF (ev1.v.f.map fldIn)]), (x, cObj d tb ob fb c), (tb, AObj.iter q1 (List.map (mapAV intAV thgAV) c.things) ([] ++ [k1]))])
    refine hK1 _ _ ?_; clear hK1 K1
    have hNd1 : ([b2, x, tb] : List Nat).Nodup := drop_nodup (L := [(b2, .cells (flatK thgAV zs2)), (b1, .cells [iT ev1.id, .str ev1.kind, iT ev1.v.kind, iT ev1.v.n, .str ev1.v.s, sF (ev1.v.l.map valIn), sF (ev1.v.f.map fldIn)]), (x, cObj d tb ob fb c), (tb, AObj.iter q1 (List.map (mapAV intAV thgAV) c.things) ([] ++ [k1]))]) hNb2 (pick_perm [1] _)
    refine ⟨(mW m [(b2, .cells (flatK thgAV zs2)), (x, cObj d tb ob fb c), (tb, AObj.iter q1 (List.map (mapAV intAV thgAV) c.things) ([] ++ [k1]))]), (wth_keep (m := m) (L := [(b2, .cells (flatK thgAV zs2)), (b1, .cells [iT ev1.id, .str ev1.kind, iT ev1.v.kind, iT ev1.v.n, .str ev1.v.s, sF (ev1.v.l.map valIn), sF (ev1.v.f.map fldIn)]), (x, cObj d tb ob fb c), (tb, AObj.iter q1 (List.map (mapAV intAV thgAV) c.things) ([] ++ [k1]))]) (L1 := [(b2, .cells (flatK thgAV zs2)), (x, cObj d tb ob fb c), (tb, AObj.iter q1 (List.map (mapAV intAV thgAV) c.things) ([] ++ [k1]))]) (L2 := [(b1, .cells [iT ev1.id, .str ev1.kind, iT ev1.v.kind, iT ev1.v.n, .str ev1.v.s, sF (ev1.v.l.map valIn), sF (ev1.v.f.map fldIn)])]) hNb2 (pick_perm [0, 1, 1] _) (by simp only [List.map_cons, List.map_nil, List.forall_mem_cons]; exact ⟨hFb1, nfA⟩)), ?_⟩
    refine ⟨.inr (b2, [k1], zs2), rfl, rfl, ?_, ?_⟩
    ·
     show ([b2, x, tb] : List Nat).Nodup ∧ m b2 = none ∧ ([k1]).Nodup ∧ (∀ i ∈ ([k1]), i < c.things.length) ∧ (zs2).take ([k1]).length = thgsAt c.things ([k1]) ∧ ([k1]).length ≤ (zs2).length
     exact ⟨hNd1, hFb2, by simp, fun i hi => by simp at hi; subst hi; exact (List.getElem?_eq_some_iff.1 hp1).1, by rw [show ([k1] : List Nat) = [] ++ [k1] from rfl, thgsAt_snoc hp1]; exact htb2, hlb2⟩
    ·
     show c.things.length - ([k1]).length < c.things.length + 1
     simp; omega
  ·
   replace hI : ([b, x, tb] : List Nat).Nodup ∧ m b = none ∧ (seen).Nodup ∧ (∀ i ∈ seen, i < c.things.length) ∧ (zs).take (seen).length = thgsAt c.things seen ∧ (seen).length ≤ (zs).length := hI
   obtain ⟨hNb, hFb, hs1, hs2, hs3, hs4⟩ := hI
   have hsl := seenT_len hs1 hs2
   have hnodT := thgsAt_nd hnd (fun p hp => (hids p hp).1) hs1 hs2
   show AWP _ _ _ _ [(3, .ms ⟨b, 0, none⟩ seen.length zs.length), (10, pT q1)] (mW m [(b, .cells (flatK thgAV zs)), (x, cObj d tb ob fb c), (tb, AObj.iter q1 (List.map (mapAV intAV thgAV) c.things) seen)])
   refine rS [] [3, 10, 12] (by decide) ?_
   intro K1 hK1
   refine ar_nextT rfl (m := m) (L := [(b, .cells (flatK thgAV zs)), (x, cObj d tb ob fb c), (tb, AObj.iter q1 (List.map (mapAV intAV thgAV) c.things) seen)]) 2 intAV thgAV c.things seen rfl rfl hNb ?_ ?_
   ·
    intro hE2
    refine ⟨(nB rfl), ?_⟩
    show K1 [(3, .ms ⟨b, 0, none⟩ seen.length zs.length), (10, pT q1), (12, .bool false)] (mW m [(b, .cells (flatK thgAV zs)), (x, cObj d tb ob fb c), (tb, AObj.iter q1 (List.map (mapAV intAV thgAV) c.things) seen)])
    refine hK1 _ _ ?_; clear hK1 K1
    refine awp_unrange (m := m) (L := [(b, .cells (flatK thgAV zs)), (x, cObj d tb ob fb c), (tb, AObj.iter q1 (List.map (mapAV intAV thgAV) c.things) seen)]) 2 hNb rfl ?_
    show AWP _ _ _ _ [(3, .ms ⟨b, 0, none⟩ seen.length zs.length), (10, pT q1), (12, .bool false)] (mW m [(b, .cells (flatK thgAV zs)), (x, cObj d tb ob fb c), (tb, tObj c.things)])
    refine sK ?_; intro K5 hK5
    refine cD rfl rfl (fun hcz => ?_) (fun hcz => ?_)
    ·
     cases hcz
    clear hcz
    refine awp_exit ?_
    refine hK2 _ _ ?_; clear hK2
    refine rS [] [3] (by decide) ?_
    intro K1 hK1
    refine ⟨tv, ?_⟩
    refine ar_mem (wS hNb (pick_perm [0] _)) ?_
    refine u_SortT b seen.length zs.length zs hs4 (by omega) (by rw [hs3]; exact fun a ha => by obtain ⟨p, hp, rfl⟩ := thgsAt_mem hs2 a ha; have := hids p hp; omega) (by rw [hs3]; exact hnodT) _ _ ?_
    refine ar_mem (wS (m := m) (L := [(b, .cells (flatK thgAV (sortT (zs.take seen.length) ++ zs.drop seen.length))), (x, cObj d tb ob fb c), (tb, tObj c.things)]) hNb (pick_perm [0] _)).symm ?_
    show K1 [(3, .ms ⟨b, 0, none⟩ seen.length zs.length)] (mW m [(b, .cells (flatK thgAV (sortT (zs.take seen.length) ++ zs.drop seen.length))), (x, cObj d tb ob fb c), (tb, tObj c.things)])
    refine hK1 _ _ ?_; clear hK1 K1
    refine awp_freezeK 3 0 (sortT (zs.take seen.length) ++ zs.drop seen.length) (sz := 7) (fun _ => rfl) (by decide) (fun _ => rfl) rfl rfl hNb hFb (by rw [List.length_append, sortT_len, List.length_take, List.length_drop]; omega) (by omega) ?_
    rw [sortT_take hs4]
    have hNd2 : ([x, tb] : List Nat).Nodup := drop_nodup (L := [(b, .cells (flatK thgAV (sortT (zs.take seen.length) ++ zs.drop seen.length))), (x, cObj d tb ob fb c), (tb, tObj c.things)]) hNb (pick_perm [0] _)
    show AWP _ _ _ _ [(3, sF ((sortT (zs.take seen.length)).map thgAV))] (mW m [(x, cObj d tb ob fb c), (tb, tObj c.things)])
    refine rS [] [2] (by decide) ?_
    intro K1 hK1
    refine ⟨tv, tv, ?_⟩
    show K1 [(2, sF ((sortT (zs.take seen.length)).map thgAV))] _
    refine hK1 _ _ ?_; clear hK1 K1
    refine awp_ret ?_
    refine ⟨tv, (mW m [(x, cObj d tb ob fb c), (tb, tObj c.things)]), fun _ _ h => h, ?_⟩
    show K (sF ((sortT (zs.take seen.length)).map thgAV)) _
   
    have e0 : allT c = (sortT (zs.take seen.length) : List Thg) := by
     first | (exact allT_nil hE1) | (rw [hs3]; exact (sortT_of_perm (thgsAt_perm hs1 hs2 hE2) (ids_nodup hnd fun p hp => (hids p hp).1)).symm)
    rw [e0] at hK
    exact hK
   ·
    rintro k2 ⟨ek2, ev2⟩ hp2 hn2
    refine ⟨(nB rfl), ?_⟩
    show K1 [(3, .ms ⟨b, 0, none⟩ seen.length zs.length), (10, pT q1), (12, .bool true)] (mW m [(b, .cells (flatK thgAV zs)), (x, cObj d tb ob fb c), (tb, AObj.iter q1 (List.map (mapAV intAV thgAV) c.things) (seen ++ [k2]))])
    refine hK1 _ _ ?_; clear hK1 K1
    refine sK ?_; intro K6 hK6
    refine cD rfl rfl (fun hcz => ?_) (fun hcz => ?_)
    rotate_left; · cases hcz
    clear hcz
    refine awp_skip ?_
    refine hK6 _ _ ?_; clear hK6
    refine awp_block ?_
    refine rS [] [3, 5, 10] (by decide) ?_
    intro K1 hK1
    refine ar_entryT rfl (m := m) (L := [(b, .cells (flatK thgAV zs)), (x, cObj d tb ob fb c), (tb, AObj.iter q1 (List.map (mapAV intAV thgAV) c.things) (seen ++ [k2]))]) 2 intAV thgAV c.things seen hp2 rfl rfl hNb ?_
    refine ⟨(nB rfl), ?_⟩
    refine ar_alloc rfl (z := .agg [iT 0, .str ([]), iT 0, iT 0, .str ([]), .slice true [], .slice true []]) rfl rfl ?_
    intro b3 hb3
    have hFb3 : m b3 = none := wth_none hb3
    have hNb3 : ([b3, b, x, tb] : List Nat).Nodup := wth_nodup hb3 hNb
    refine aS rfl 0 (v := thgAV ev2) (l' := [iT ev2.id, .str ev2.kind, iT ev2.v.kind, iT ev2.v.n, .str ev2.v.s, sF (ev2.v.l.map valIn), sF (ev2.v.f.map fldIn)]) rfl (by rfl) hNb3 rfl rfl rfl rfl rfl (nB rfl) rfl ?_
    show K1 [(3, .ms ⟨b, 0, none⟩ seen.length zs.length), (5, pT b3), (10, pT q1)] (mW m [(b3, .cells [iT ev2.id, .str ev2.kind, iT ev2.v.kind, iT ev2.v.n, .str ev2.v.s, sF (ev2.v.l.map valIn), sF (ev2.v.f.map fldIn)]), (b, .cells (flatK thgAV zs)), (x, cObj d tb ob fb c), (tb, AObj.iter q1 (List.map (mapAV intAV thgAV) c.things) (seen ++ [k2]))])
    refine hK1 _ _ ?_; clear hK1 K1
    refine rS [] [3, 5, 10] (by decide) ?_
    intro K1 hK1
    refine ⟨⟨rfl, by decide⟩, ?_⟩
    refine aL rfl (v := .agg [iT ev2.v.kind, iT ev2.v.n, .str ev2.v.s, sF (ev2.v.l.map valIn), sF (ev2.v.f.map fldIn)]) rfl (wG 0 hNb3 rfl) rfl (apartOk_agg rfl rfl (nB rfl)) rfl ?_
    refine u_Copy ev2.v (chk_okV (hids _ (List.mem_of_getElem? hp2)).2.2) _ _ ?_
    refine ⟨⟨rfl, by decide⟩, ?_⟩
    refine aS rfl 0 (v := valTop ev2.v) (l' := [iT ev2.id, .str ev2.kind, iT ev2.v.kind, iT ev2.v.n, .str ev2.v.s, sF (ev2.v.l.map valIn), sF (ev2.v.f.map fldIn)]) rfl (by rfl) hNb3 rfl rfl rfl rfl rfl (nB rfl) rfl ?_
    show K1 [(3, .ms ⟨b, 0, none⟩ seen.length zs.length), (5, pT b3), (10, pT q1)] _
    refine hK1 _ _ ?_; clear hK1 K1
    refine awp_subQ ?_
    refine awp_reg2 [19] [3, 10] (by decide) ?_
    intro K1 hK1
    refine ⟨tv, ?_⟩
    refine aL rfl (v := .agg [iT ev2.id, .str ev2.kind, iT ev2.v.kind, iT ev2.v.n, .str ev2.v.s, sF (ev2.v.l.map valIn), sF (ev2.v.f.map fldIn)]) rfl (wG 0 hNb3 rfl) rfl (apartOk_agg rfl rfl (nB rfl)) rfl ?_
    refine ⟨⟨rfl, nB rfl, rfl, nB rfl, rfl, by simp only [List.forall_mem_cons]; exact ⟨⟨rfl, rfl⟩, nfA⟩⟩, ?_⟩
    refine ar_appendMsK rfl 1 thgAV 7 zs ([ev2] : List Thg) zT seen.length rfl rfl rfl rfl rfl rfl rfl rfl (by decide) rfl hNb3 hFb (fun _ => rfl) (fun _ => rfl) (fun _ => rfl) rfl (by (first | omega | (simp only [List.length_append, List.length_cons, List.length_nil]; omega))) (by (simp only [show Try.prog.bytesOf 80 = 104 from rfl, List.length_append, List.length_cons, List.length_nil]; omega)) (by (first | omega | (simp only [List.length_append, List.length_cons, List.length_nil]; omega))) ?_
    intro b4 zs4 hFb4 hNb4 htb4 hlb4
    replace htb4 : zs4.take (seen.length + ([ev2] : List Thg).length) = zs.take seen.length ++ ([ev2] : List Thg) := htb4
    replace hlb4 : seen.length + ([ev2] : List Thg).length ≤ zs4.length := hlb4
    refine ⟨tv, ?_⟩
    show K1 [(3, .ms ⟨b4, 0, none⟩ (seen.length + ([ev2] : List Thg).length) zs4.length), (10, pT q1)] (mW m [(b4, .cells (flatK thgAV zs4)), (b3, .cells [iT ev2.id, .str ev2.kind, iT ev2.v.kind, iT ev2.v.n, .str ev2.v.s, sF (ev2.v.l.map valIn), sF (ev2.v.f.map fldIn)]), (x, cObj d tb ob fb c), (tb, AObj.iter q1 (List.map (mapAV intAV thgAV) c.things) (seen ++ [k2]))])
    refine hK1 _ _ ?_; clear hK1 K1
    have hNd3 : ([b4, x, tb] : List Nat).Nodup := drop_nodup (L := [(b4, .cells (flatK thgAV zs4)), (b3, .cells [iT ev2.id, .str ev2.kind, iT ev2.v.kind, iT ev2.v.n, .str ev2.v.s, sF (ev2.v.l.map valIn), sF (ev2.v.f.map fldIn)]), (x, cObj d tb ob fb c), (tb, AObj.iter q1 (List.map (mapAV intAV thgAV) c.things) (seen ++ [k2]))]) hNb4 (pick_perm [1] _)
    refine ⟨(mW m [(b4, .cells (flatK thgAV zs4)), (x, cObj d tb ob fb c), (tb, AObj.iter q1 (List.map (mapAV intAV thgAV) c.things) (seen ++ [k2]))]), (wth_keep (m := m) (L := [(b4, .cells (flatK thgAV zs4)), (b3, .cells [iT ev2.id, .str ev2.kind, iT ev2.v.kind, iT ev2.v.n, .str ev2.v.s, sF (ev2.v.l.map valIn), sF (ev2.v.f.map fldIn)]), (x, cObj d tb ob fb c), (tb, AObj.iter q1 (List.map (mapAV intAV thgAV) c.things) (seen ++ [k2]))]) (L1 := [(b4, .cells (flatK thgAV zs4)), (x, cObj d tb ob fb c), (tb, AObj.iter q1 (List.map (mapAV intAV thgAV) c.things) (seen ++ [k2]))]) (L2 := [(b3, .cells [iT ev2.id, .str ev2.kind, iT ev2.v.kind, iT ev2.v.n, .str ev2.v.s, sF (ev2.v.l.map valIn), sF (ev2.v.f.map fldIn)])]) hNb4 (pick_perm [0, 1, 1] _) (by simp only [List.map_cons, List.map_nil, List.forall_mem_cons]; exact ⟨hFb3, nfA⟩)), ?_⟩
    refine ⟨.inr (b4, seen ++ [k2], zs4), (by simp), rfl, ?_, ?_⟩
    ·
     show ([b4, x, tb] : List Nat).Nodup ∧ m b4 = none ∧ (seen ++ [k2]).Nodup ∧ (∀ i ∈ (seen ++ [k2]), i < c.things.length) ∧ (zs4).take (seen ++ [k2]).length = thgsAt c.things (seen ++ [k2]) ∧ (seen ++ [k2]).length ≤ (zs4).length
     have hss := sstepT hs1 hs2 hp2 hn2
     exact ⟨hNd3, hFb4, hss.1, hss.2, by rw [thgsAt_snoc hp2, ← hs3, List.length_append]; exact htb4, by rw [List.length_append]; exact hlb4⟩
    ·
     show c.things.length - (seen ++ [k2]).length < c.things.length - (seen).length
     have hss := sstepT hs1 hs2 hp2 hn2
     have := seenT_len hss.1 hss.2
     rw [List.length_append, List.length_singleton] at *
     omega
end Go.Proofs
end
section
namespace Go.Proofs
open Go Go.Aw
set_option maxRecDepth 100000
set_option maxHeartbeats 4000000 in
theorem u_RAlike1 (a b : Val) (ih : ∀ v w : Val, depV v < depV a → ∀ (m : AMem) (K : AV → AMem → Prop), K (.bool (vEq v w)) m → ACalls Try.prog 86 [valTop v, valTop w] m K) (m : AMem)  (K : AV → AMem → Prop) (hK : K (.bool (vEq a b)) m) : ACalls Try.prog 86 [valTop a, valTop b] m K := by
 refine acalls_enter Try.func86 rfl (by decide) (nB rfl) ?_
 refine awp_bd 0 (x := valTop a) rfl (fun hbd0 => ?_)
 have hbd0_2 : a.s.length ≤ 140737488355328 := (hbd0 2 (nB rfl))
 have hbd0_3 : a.l.length ≤ 140737488355328 := bd_map (hbd0 3 (nB rfl))
 have hbd0_4 : a.f.length ≤ 140737488355328 := bd_map (hbd0 4 (nB rfl))
 refine awp_bd 1 (x := valTop b) rfl (fun hbd1 => ?_)
 have hbd1_2 : b.s.length ≤ 140737488355328 := (hbd1 2 (nB rfl))
 have hbd1_3 : b.l.length ≤ 140737488355328 := bd_map (hbd1 3 (nB rfl))
 have hbd1_4 : b.f.length ≤ 140737488355328 := bd_map (hbd1 4 (nB rfl))
 show AWP _ _ _ _ [(0, valTop a), (1, valTop b)] m
 refine rS [] [2, 3] (by decide) ?_
 intro K1 hK1
 refine ar_box rfl (m := m) (L := []) (v := valTop a) (by rfl) rfl ?_
 intro b1 hb1
 have hFb1 : m b1 = none := wth_none (m := m) (L := []) hb1
 have hNb1 : ([b1] : List Nat).Nodup := wth_nodup (m := m) (L := []) hb1 List.nodup_nil
 refine ar_box rfl (m := m) (L := [(b1, .cells [iT a.kind, iT a.n, .str a.s, sF (a.l.map valIn), sF (a.f.map fldIn)])]) (v := valTop b) (by rfl) rfl ?_
 intro b2 hb2
 have hFb2 : m b2 = none := wth_none hb2
 have hNb2 : ([b2, b1] : List Nat).Nodup := wth_nodup hb2 hNb1
 refine ⟨tv, ?_⟩
 show K1 [(2, pT b1), (3, pT b2)] (mW m [(b2, .cells [iT b.kind, iT b.n, .str b.s, sF (b.l.map valIn), sF (b.f.map fldIn)]), (b1, .cells [iT a.kind, iT a.n, .str a.s, sF (a.l.map valIn), sF (a.f.map fldIn)])])
 refine hK1 _ _ ?_; clear hK1 K1
 refine sK ?_; intro K2 hK2
 refine rS [] [2, 3, 45] (by decide) ?_
 intro K1 hK1
 suffices key : K1 [(2, pT b1), (3, pT b2), (45, .bool (((((!(a.kind == b.kind)) || (!(a.n == b.n))) || (!(a.s == b.s))) || (!((a.l.length : Int) == (b.l.length : Int)))) || (!((a.f.length : Int) == (b.f.length : Int)))))] (mW m [(b2, .cells [iT b.kind, iT b.n, .str b.s, sF (b.l.map valIn), sF (b.f.map fldIn)]), (b1, .cells [iT a.kind, iT a.n, .str a.s, sF (a.l.map valIn), sF (a.f.map fldIn)])]) by
  refine ⟨⟨rfl, by decide⟩, ?_⟩
  refine aL rfl (v := iT a.kind) rfl (wG 1 hNb2 rfl) rfl (aO rfl rfl (nB rfl)) rfl ?_
  refine ⟨⟨rfl, by decide⟩, ?_⟩
  refine aL rfl (v := iT b.kind) rfl (wG 0 hNb2 rfl) rfl (aO rfl rfl (nB rfl)) rfl ?_
  refine ⟨tv, tv, ?_⟩
  show aopsR _ _ _ _ _ [(14, .bool (!(a.kind == b.kind))), (13, .bool (!(a.kind == b.kind))), (12, iT b.kind), (11, pT b2), (10, iT a.kind), (9, pT b1), (2, pT b1), (3, pT b2)] _
  revert key
  cases h1 : (a.kind == b.kind)
  ·
   replace h1 : a.kind ≠ b.kind := (ne_of_beq_false h1)
   intro key
   refine ar_off rfl (ar_off rfl (ar_off rfl (ar_off rfl (ar_off rfl ?_))))
   refine ⟨tv, ?_⟩
   refine ar_off rfl (ar_off rfl (ar_off rfl (ar_off rfl (ar_off rfl ?_))))
   refine ⟨tv, ?_⟩
   refine ar_off rfl (ar_off rfl (ar_off rfl (ar_off rfl (ar_off rfl (ar_off rfl (ar_off rfl ?_))))))
   refine ⟨tv, ?_⟩
   refine ar_off rfl (ar_off rfl (ar_off rfl (ar_off rfl (ar_off rfl (ar_off rfl (ar_off rfl ?_))))))
   exact key
  ·
   replace h1 : a.kind = b.kind := (eq_of_beq h1)
   intro key
   refine ⟨⟨rfl, by decide⟩, ?_⟩
   refine aL rfl (v := iT a.n) rfl (wG 1 hNb2 rfl) rfl (aO rfl rfl (nB rfl)) rfl ?_
   refine ⟨⟨rfl, by decide⟩, ?_⟩
   refine aL rfl (v := iT b.n) rfl (wG 0 hNb2 rfl) rfl (aO rfl rfl (nB rfl)) rfl ?_
   refine ⟨tv, ?_⟩
   refine ⟨tv, ?_⟩
   show aopsR _ _ _ _ _ [(21, .bool (!(a.n == b.n))), (20, .bool (!(a.n == b.n))), (19, .bool (!(a.n == b.n))), (18, iT b.n), (17, .ptr ⟨b2, 1, none⟩), (16, iT a.n), (15, .ptr ⟨b1, 1, none⟩), (14, .bool false), (13, .bool false), (12, iT b.kind), (11, pT b2), (10, iT a.kind), (9, pT b1), (2, pT b1), (3, pT b2)] _
   revert key
   cases h2 : (a.n == b.n)
   ·
    replace h2 : a.n ≠ b.n := (ne_of_beq_false h2)
    intro key
    refine ar_off rfl (ar_off rfl (ar_off rfl (ar_off rfl (ar_off rfl ?_))))
    refine ⟨tv, ?_⟩
    refine ar_off rfl (ar_off rfl (ar_off rfl (ar_off rfl (ar_off rfl (ar_off rfl (ar_off rfl ?_))))))
    refine ⟨tv, ?_⟩
    refine ar_off rfl (ar_off rfl (ar_off rfl (ar_off rfl (ar_off rfl (ar_off rfl (ar_off rfl ?_))))))
    exact key
   ·
    replace h2 : a.n = b.n := (eq_of_beq h2)
    intro key
    refine ⟨⟨rfl, by decide⟩, ?_⟩
    refine aL rfl (v := .str a.s) rfl (wG 1 hNb2 rfl) rfl (aO rfl rfl (nB rfl)) rfl ?_
    refine ⟨⟨rfl, by decide⟩, ?_⟩
    refine aL rfl (v := .str b.s) rfl (wG 0 hNb2 rfl) rfl (aO rfl rfl (nB rfl)) rfl ?_
    refine ⟨tv, ?_⟩
    refine ⟨tv, ?_⟩
    show aopsR _ _ _ _ _ [(28, .bool (!(a.s == b.s))), (27, .bool (!(a.s == b.s))), (26, .bool (!(a.s == b.s))), (25, .str b.s), (24, .ptr ⟨b2, 2, none⟩), (23, .str a.s), (22, .ptr ⟨b1, 2, none⟩), (21, .bool false), (20, .bool false), (19, .bool false), (18, iT b.n), (17, .ptr ⟨b2, 1, none⟩), (16, iT a.n), (15, .ptr ⟨b1, 1, none⟩), (14, .bool false), (13, .bool false), (12, iT b.kind), (11, pT b2), (10, iT a.kind), (9, pT b1), (2, pT b1), (3, pT b2)] _
    revert key
    cases h3 : (a.s == b.s)
    ·
     replace h3 : a.s ≠ b.s := (ne_of_beq_false h3)
     intro key
     refine ar_off rfl (ar_off rfl (ar_off rfl (ar_off rfl (ar_off rfl (ar_off rfl (ar_off rfl ?_))))))
     refine ⟨tv, ?_⟩
     refine ar_off rfl (ar_off rfl (ar_off rfl (ar_off rfl (ar_off rfl (ar_off rfl (ar_off rfl ?_))))))
     exact key
    ·
     replace h3 : a.s = b.s := (eq_of_beq h3)
     intro key
     refine ⟨⟨rfl, by decide⟩, ?_⟩
     refine aL rfl (v := sF (a.l.map valIn)) rfl (wG 1 hNb2 rfl) rfl (aO rfl rfl (nB rfl)) rfl ?_
     refine ar_len rfl valIn a.l rfl rfl rfl ?_
     refine ⟨⟨rfl, by decide⟩, ?_⟩
     refine aL rfl (v := sF (b.l.map valIn)) rfl (wG 0 hNb2 rfl) rfl (aO rfl rfl (nB rfl)) rfl ?_
     refine ar_len rfl valIn b.l rfl rfl rfl ?_
     refine ⟨tv, ?_⟩
     refine ⟨tv, ?_⟩
     show aopsR _ _ _ _ _ [(37, .bool (!((a.l.length : Int) == (b.l.length : Int)))), (36, .bool (!((a.l.length : Int) == (b.l.length : Int)))), (35, .bool (!((a.l.length : Int) == (b.l.length : Int)))), (34, iT (b.l.length : Int)), (33, sF (b.l.map valIn)), (32, .ptr ⟨b2, 3, none⟩), (31, iT (a.l.length : Int)), (30, sF (a.l.map valIn)), (29, .ptr ⟨b1, 3, none⟩), (28, .bool false), (27, .bool false), (26, .bool false), (25, .str b.s), (24, .ptr ⟨b2, 2, none⟩), (23, .str a.s), (22, .ptr ⟨b1, 2, none⟩), (21, .bool false), (20, .bool false), (19, .bool false), (18, iT b.n), (17, .ptr ⟨b2, 1, none⟩), (16, iT a.n), (15, .ptr ⟨b1, 1, none⟩), (14, .bool false), (13, .bool false), (12, iT b.kind), (11, pT b2), (10, iT a.kind), (9, pT b1), (2, pT b1), (3, pT b2)] _
     revert key
     cases h4 : ((a.l.length : Int) == (b.l.length : Int))
     ·
      replace h4 : (a.l.length : Int) ≠ (b.l.length : Int) := (ne_of_beq_false h4)
      intro key
      refine ar_off rfl (ar_off rfl (ar_off rfl (ar_off rfl (ar_off rfl (ar_off rfl (ar_off rfl ?_))))))
      exact key
     ·
      replace h4 : (a.l.length : Int) = (b.l.length : Int) := (eq_of_beq h4)
      intro key
      refine ⟨⟨rfl, by decide⟩, ?_⟩
      refine aL rfl (v := sF (a.f.map fldIn)) rfl (wG 1 hNb2 rfl) rfl (aO rfl rfl (nB rfl)) rfl ?_
      refine ar_len rfl fldIn a.f rfl rfl rfl ?_
      refine ⟨⟨rfl, by decide⟩, ?_⟩
      refine aL rfl (v := sF (b.f.map fldIn)) rfl (wG 0 hNb2 rfl) rfl (aO rfl rfl (nB rfl)) rfl ?_
      refine ar_len rfl fldIn b.f rfl rfl rfl ?_
      refine ⟨tv, ?_⟩
      exact key
 refine hK1 _ _ ?_; clear hK1 K1
 refine cD rfl rfl (fun h5 => ?_) (fun h5 => ?_)
 ·
  replace h5 : ((((a.kind ≠ b.kind) ∨ (a.n ≠ b.n)) ∨ (a.s ≠ b.s)) ∨ ((a.l.length : Int) ≠ (b.l.length : Int))) ∨ ((a.f.length : Int) ≠ (b.f.length : Int)) := ((borT h5).imp (fun q => ((borT q).imp (fun q => ((borT q).imp (fun q => ((borT q).imp (fun q => (ne_of_beq_false (bnT q))) (fun q => (ne_of_beq_false (bnT q))))) (fun q => (ne_of_beq_false (bnT q))))) (fun q => (ne_of_beq_false (bnT q))))) (fun q => (ne_of_beq_false (bnT q))))
  refine rS [] [4] (by decide) ?_
  intro K1 hK1
  refine ⟨tv, ?_⟩
  show K1 [(4, .bool false)] (mW m [(b2, .cells [iT b.kind, iT b.n, .str b.s, sF (b.l.map valIn), sF (b.f.map fldIn)]), (b1, .cells [iT a.kind, iT a.n, .str a.s, sF (a.l.map valIn), sF (a.f.map fldIn)])])
  refine hK1 _ _ ?_; clear hK1 K1
  refine awp_ret ?_
  refine ⟨tv, m, (wth_sub2 (m := m) [(b2, .cells [iT b.kind, iT b.n, .str b.s, sF (b.l.map valIn), sF (b.f.map fldIn)]), (b1, .cells [iT a.kind, iT a.n, .str a.s, sF (a.l.map valIn), sF (a.f.map fldIn)])] [] hNb2 (by simp only [List.map_cons, List.map_nil, List.forall_mem_cons]; exact ⟨hFb2, hFb1, nfA⟩)), ?_⟩
  show K (.bool false) m
 
  rw [vEq_false (by intro hh; subst hh; simp at h5)] at hK; exact hK
 replace h5 : ((((a.kind = b.kind) ∧ (a.n = b.n)) ∧ (a.s = b.s)) ∧ ((a.l.length : Int) = (b.l.length : Int))) ∧ ((a.f.length : Int) = (b.f.length : Int)) := ⟨⟨⟨⟨(eq_of_beq (bnF (borL (borL (borL (borL h5)))))), (eq_of_beq (bnF (borR (borL (borL (borL h5))))))⟩, (eq_of_beq (bnF (borR (borL (borL h5)))))⟩, (eq_of_beq (bnF (borR (borL h5))))⟩, (eq_of_beq (bnF (borR h5)))⟩
 obtain ⟨⟨⟨⟨hk, hn⟩, hs⟩, hl⟩, hf⟩ := h5
 refine awp_skip ?_
 refine hK2 _ _ ?_; clear hK2
 refine sK ?_; intro K3 hK3
 refine rS [] [2, 3, 5] (by decide) ?_
 intro K1 hK1
 refine ⟨tv, ?_⟩
 show K1 [(2, pT b1), (3, pT b2), (5, iT 0)] (mW m [(b2, .cells [iT b.kind, iT b.n, .str b.s, sF (b.l.map valIn), sF (b.f.map fldIn)]), (b1, .cells [iT a.kind, iT a.n, .str a.s, sF (a.l.map valIn), sF (a.f.map fldIn)])])
 refine hK1 _ _ ?_; clear hK1 K1
 refine awp_block ?_
 refine awp_keep [2, 3, 5] (by decide) ?_
 refine awp_loop_st (σ := Int) (fun i => [(2, pT b1), (3, pT b2), (5, iT i)]) (fun _ => (mW m [(b2, .cells [iT b.kind, iT b.n, .str b.s, sF (b.l.map valIn), sF (b.f.map fldIn)]), (b1, .cells [iT a.kind, iT a.n, .str a.s, sF (a.l.map valIn), sF (a.f.map fldIn)])])) (fun i => 0 ≤ i ∧ i ≤ a.l.length ∧ a.l.take i.toNat = b.l.take i.toNat) (fun i => a.l.length - i.toNat) (0) rfl rfl ?_ ?_
 ·
  show 0 ≤ ((0 : Int)) ∧ ((0 : Int)) ≤ a.l.length ∧ a.l.take ((0 : Int)).toNat = b.l.take ((0 : Int)).toNat
  exact ⟨by omega, by omega, rfl⟩
 rintro i hI
 replace hI : 0 ≤ i ∧ i ≤ a.l.length ∧ a.l.take i.toNat = b.l.take i.toNat := hI
 show AWP _ _ _ _ [(2, pT b1), (3, pT b2), (5, iT i)] (mW m [(b2, .cells [iT b.kind, iT b.n, .str b.s, sF (b.l.map valIn), sF (b.f.map fldIn)]), (b1, .cells [iT a.kind, iT a.n, .str a.s, sF (a.l.map valIn), sF (a.f.map fldIn)])])
 refine sK ?_; intro K4 hK4
 refine rS [] [2, 3, 5, 50] (by decide) ?_
 intro K1 hK1
 refine ⟨tv, ⟨rfl, by decide⟩, ?_⟩
 refine aL rfl (v := sF (a.l.map valIn)) rfl (wG 1 hNb2 rfl) rfl (aO rfl rfl (nB rfl)) rfl ?_
 refine ar_len rfl valIn a.l rfl rfl rfl ?_
 refine ⟨tv, ?_⟩
 show K1 [(2, pT b1), (3, pT b2), (5, iT i), (50, .bool (decide (i < (a.l.length : Int))))] _
 refine hK1 _ _ ?_; clear hK1 K1
 refine cD rfl rfl (fun h6 => ?_) (fun h6 => ?_)
 ·
  replace h6 : i < (a.l.length : Int) := (of_decide_eq_true h6)
  refine awp_skip ?_
  refine hK4 _ _ ?_; clear hK4
  refine sK ?_; intro K5 hK5
  refine awp_block ?_
  refine awp_draw_seq Try.mixed [(.bool (vEq (gI a.l i) (gI b.l i)))] [2, 3, 5, 6] (by decide) (by decide) ?_
  intro K1 hK1
  refine ⟨⟨rfl, by decide⟩, ?_⟩
  refine pq_loadp rfl (v := sF (a.l.map valIn)) rfl (wG 1 hNb2 rfl) (aO rfl rfl (nB rfl)) rfl ?_
  refine ⟨tv, ?_⟩
  refine pq_index rfl valTop a.l i rfl rfl (valMap a.l) rfl rfl (by decide) (fun _ => rfl) (by omega) (by omega) ?_
  refine ⟨(apartOk_agg rfl rfl (nB rfl)), ⟨rfl, by decide⟩, ?_⟩
  refine pq_loadp rfl (v := sF (b.l.map valIn)) rfl (wG 0 hNb2 rfl) (aO rfl rfl (nB rfl)) rfl ?_
  refine ⟨tv, ?_⟩
  refine pq_index rfl valTop b.l i rfl rfl (valMap b.l) rfl rfl (by decide) (fun _ => rfl) (by omega) (by omega) ?_
  refine ⟨(apartOk_agg rfl rfl (nB rfl)), (fun Kc hKc => ih (gI a.l i) (gI b.l i) (by have := depV_eq a; first | (have := depL_mem (gI_mem (l := a.l) (i := i) hI.1 (by assumption)); omega) | (have := depF_mem (gI_mem (l := a.f) (i := i2) hI2.1 (by assumption)); omega)) _ Kc hKc), tv, ?_⟩
  show K1 [(2, pT b1), (3, pT b2), (5, iT i), (6, .bool (vEq (gI a.l i) (gI b.l i)))] (mW m [(b2, .cells [iT b.kind, iT b.n, .str b.s, sF (b.l.map valIn), sF (b.f.map fldIn)]), (b1, .cells [iT a.kind, iT a.n, .str a.s, sF (a.l.map valIn), sF (a.f.map fldIn)])])
  refine hK1 _ _ ?_; clear hK1 K1
  refine rS [] [2, 3, 5, 65] (by decide) ?_
  intro K1 hK1
  refine ⟨tv, tv, ?_⟩
  show K1 [(2, pT b1), (3, pT b2), (5, iT i), (65, .bool (!(vEq (gI a.l i) (gI b.l i))))] _
  refine hK1 _ _ ?_; clear hK1 K1
  refine cD rfl rfl (fun h7 => ?_) (fun h7 => ?_)
  ·
   replace h7 : vEq (gI a.l i) (gI b.l i) = false := (bnT h7)
   refine rS [] [4] (by decide) ?_
   intro K1 hK1
   refine ⟨tv, ?_⟩
   show K1 [(4, .bool false)] (mW m [(b2, .cells [iT b.kind, iT b.n, .str b.s, sF (b.l.map valIn), sF (b.f.map fldIn)]), (b1, .cells [iT a.kind, iT a.n, .str a.s, sF (a.l.map valIn), sF (a.f.map fldIn)])])
   refine hK1 _ _ ?_; clear hK1 K1
   refine awp_ret ?_
   refine ⟨tv, m, (wth_sub2 (m := m) [(b2, .cells [iT b.kind, iT b.n, .str b.s, sF (b.l.map valIn), sF (b.f.map fldIn)]), (b1, .cells [iT a.kind, iT a.n, .str a.s, sF (a.l.map valIn), sF (a.f.map fldIn)])] [] hNb2 (by simp only [List.map_cons, List.map_nil, List.forall_mem_cons]; exact ⟨hFb2, hFb1, nfA⟩)), ?_⟩
   show K (.bool false) m
  
   rw [vEq_false (by intro hh; subst hh; rw [vEq_true rfl] at h7; cases h7)] at hK; exact hK
  replace h7 : vEq (gI a.l i) (gI b.l i) = true := (bnF h7)
  refine awp_skip ?_
  refine hK5 _ _ ?_; clear hK5
  refine awp_reg2 [] [2, 3, 5] (by decide) ?_
  intro K1 hK1
  refine ⟨tv, ?_⟩
  refine ar_add rfl (a := i) (b := 1) rfl rfl (by omega) (by omega) ?_
  refine ⟨tv, ?_⟩
  show K1 [(2, pT b1), (3, pT b2), (5, iT (i + 1))] (mW m [(b2, .cells [iT b.kind, iT b.n, .str b.s, sF (b.l.map valIn), sF (b.f.map fldIn)]), (b1, .cells [iT a.kind, iT a.n, .str a.s, sF (a.l.map valIn), sF (a.f.map fldIn)])])
  refine hK1 _ _ ?_; clear hK1 K1
  refine ⟨(i + 1), rfl, rfl, ?_, ?_⟩
  ·
   show 0 ≤ ((i + 1 : Int)) ∧ ((i + 1 : Int)) ≤ a.l.length ∧ a.l.take ((i + 1 : Int)).toNat = b.l.take ((i + 1 : Int)).toNat
   exact ⟨by omega, by omega, by rw [take_succ_gI hI.1 h6, take_succ_gI hI.1 (by omega), hI.2.2, vEq_iff.1 h7]⟩
  ·
   show a.l.length - ((i + 1 : Int)).toNat < a.l.length - i.toNat
   omega
 replace h6 : (a.l.length : Int) ≤ i := (Int.not_lt.1 (of_decide_eq_false h6))
 refine awp_exit ?_
 refine hK3 _ _ ?_; clear hK3
 refine sK ?_; intro K6 hK6
 refine rS [] [2, 3, 7] (by decide) ?_
 intro K1 hK1
 refine ⟨tv, ?_⟩
 show K1 [(2, pT b1), (3, pT b2), (7, iT 0)] (mW m [(b2, .cells [iT b.kind, iT b.n, .str b.s, sF (b.l.map valIn), sF (b.f.map fldIn)]), (b1, .cells [iT a.kind, iT a.n, .str a.s, sF (a.l.map valIn), sF (a.f.map fldIn)])])
 refine hK1 _ _ ?_; clear hK1 K1
 refine awp_block ?_
 refine awp_keep [2, 3, 7] (by decide) ?_
 refine awp_loop_st (σ := Int) (fun i2 => [(2, pT b1), (3, pT b2), (7, iT i2)]) (fun _ => (mW m [(b2, .cells [iT b.kind, iT b.n, .str b.s, sF (b.l.map valIn), sF (b.f.map fldIn)]), (b1, .cells [iT a.kind, iT a.n, .str a.s, sF (a.l.map valIn), sF (a.f.map fldIn)])])) (fun i2 => 0 ≤ i2 ∧ i2 ≤ a.f.length ∧ a.f.take i2.toNat = b.f.take i2.toNat) (fun i2 => a.f.length - i2.toNat) (0) rfl rfl ?_ ?_
 ·
  show 0 ≤ ((0 : Int)) ∧ ((0 : Int)) ≤ a.f.length ∧ a.f.take ((0 : Int)).toNat = b.f.take ((0 : Int)).toNat
  exact ⟨by omega, by omega, rfl⟩
 rintro i2 hI2
 replace hI2 : 0 ≤ i2 ∧ i2 ≤ a.f.length ∧ a.f.take i2.toNat = b.f.take i2.toNat := hI2
 show AWP _ _ _ _ [(2, pT b1), (3, pT b2), (7, iT i2)] (mW m [(b2, .cells [iT b.kind, iT b.n, .str b.s, sF (b.l.map valIn), sF (b.f.map fldIn)]), (b1, .cells [iT a.kind, iT a.n, .str a.s, sF (a.l.map valIn), sF (a.f.map fldIn)])])
 refine sK ?_; intro K7 hK7
 refine rS [] [2, 3, 7, 70] (by decide) ?_
 intro K1 hK1
 refine ⟨tv, ⟨rfl, by decide⟩, ?_⟩
 refine aL rfl (v := sF (a.f.map fldIn)) rfl (wG 1 hNb2 rfl) rfl (aO rfl rfl (nB rfl)) rfl ?_
 refine ar_len rfl fldIn a.f rfl rfl rfl ?_
 refine ⟨tv, ?_⟩
 show K1 [(2, pT b1), (3, pT b2), (7, iT i2), (70, .bool (decide (i2 < (a.f.length : Int))))] _
 refine hK1 _ _ ?_; clear hK1 K1
 refine cD rfl rfl (fun h8 => ?_) (fun h8 => ?_)
 ·
  replace h8 : i2 < (a.f.length : Int) := (of_decide_eq_true h8)
  refine awp_skip ?_
  refine hK7 _ _ ?_; clear hK7
  refine sK ?_; intro K8 hK8
  refine awp_block ?_
  refine awp_draw_seq Try.mixed [(.bool (vEq ((gI a.f i2).2) ((gI b.f i2).2)))] [2, 3, 7, 8] (by decide) (by decide) ?_
  intro K1 hK1
  refine ⟨⟨rfl, by decide⟩, ?_⟩
  refine pq_loadp rfl (v := sF (a.f.map fldIn)) rfl (wG 1 hNb2 rfl) (aO rfl rfl (nB rfl)) rfl ?_
  refine ⟨tv, ?_⟩
  refine pq_index rfl fldTop a.f i2 rfl rfl (fldMap a.f) rfl rfl (by decide) (fun _ => rfl) (by omega) (by omega) ?_
  refine ⟨⟨rfl, by decide, (nB rfl)⟩, (apartOk_agg rfl rfl (nB rfl)), ⟨rfl, by decide⟩, ?_⟩
  refine pq_loadp rfl (v := sF (b.f.map fldIn)) rfl (wG 0 hNb2 rfl) (aO rfl rfl (nB rfl)) rfl ?_
  refine ⟨tv, ?_⟩
  refine pq_index rfl fldTop b.f i2 rfl rfl (fldMap b.f) rfl rfl (by decide) (fun _ => rfl) (by omega) (by omega) ?_
  refine ⟨⟨rfl, by decide, (nB rfl)⟩, (apartOk_agg rfl rfl (nB rfl)), (fun Kc hKc => ih ((gI a.f i2).2) ((gI b.f i2).2) (by have := depV_eq a; first | (have := depL_mem (gI_mem (l := a.l) (i := i) hI.1 (by assumption)); omega) | (have := depF_mem (gI_mem (l := a.f) (i := i2) hI2.1 (by assumption)); omega)) _ Kc hKc), tv, ?_⟩
  show K1 [(2, pT b1), (3, pT b2), (7, iT i2), (8, .bool (vEq ((gI a.f i2).2) ((gI b.f i2).2)))] (mW m [(b2, .cells [iT b.kind, iT b.n, .str b.s, sF (b.l.map valIn), sF (b.f.map fldIn)]), (b1, .cells [iT a.kind, iT a.n, .str a.s, sF (a.l.map valIn), sF (a.f.map fldIn)])])
  refine hK1 _ _ ?_; clear hK1 K1
  refine awp_draw_seq Try.mixed [] [2, 3, 7, 102] (by decide) (by decide) ?_
  intro K1 hK1
  suffices key : K1 [(2, pT b1), (3, pT b2), (7, iT i2), (102, .bool ((!(vEq ((gI a.f i2).2) ((gI b.f i2).2))) || (!(((gI a.f i2).1) == ((gI b.f i2).1)))))] (mW m [(b2, .cells [iT b.kind, iT b.n, .str b.s, sF (b.l.map valIn), sF (b.f.map fldIn)]), (b1, .cells [iT a.kind, iT a.n, .str a.s, sF (a.l.map valIn), sF (a.f.map fldIn)])]) by
   refine ⟨tv, tv, tv, ?_⟩
   show pseq _ _ _ _ _ [(88, .bool (!(vEq ((gI a.f i2).2) ((gI b.f i2).2)))), (87, .bool (!(vEq ((gI a.f i2).2) ((gI b.f i2).2)))), (86, .bool (vEq ((gI a.f i2).2) ((gI b.f i2).2))), (2, pT b1), (3, pT b2), (7, iT i2), (8, .bool (vEq ((gI a.f i2).2) ((gI b.f i2).2)))] _
   revert key
   cases h9 : (vEq ((gI a.f i2).2) ((gI b.f i2).2))
   ·
    replace h9 : vEq ((gI a.f i2).2) ((gI b.f i2).2) = false := h9
    intro key
    refine pq_off rfl rfl ?_
    refine pq_off rfl rfl ?_
    refine pq_off rfl rfl ?_
    refine pq_off rfl rfl ?_
    refine pq_off rfl rfl ?_
    refine pq_off rfl rfl ?_
    refine pq_off rfl rfl ?_
    refine pq_off rfl rfl ?_
    refine pq_off rfl rfl ?_
    refine pq_off rfl rfl ?_
    refine pq_off rfl rfl ?_
    refine pq_off rfl rfl ?_
    refine pq_off rfl rfl ?_
    refine ⟨tv, ?_⟩
    exact key
   ·
    replace h9 : vEq ((gI a.f i2).2) ((gI b.f i2).2) = true := h9
    intro key
    refine ⟨⟨rfl, by decide⟩, ?_⟩
    refine pq_loadp rfl (v := sF (a.f.map fldIn)) rfl (wG 1 hNb2 rfl) (aO rfl rfl (nB rfl)) rfl ?_
    refine ⟨tv, ?_⟩
    refine pq_index rfl fldTop a.f i2 rfl rfl (fldMap a.f) rfl rfl (by decide) (fun _ => rfl) (by omega) (by omega) ?_
    refine ⟨⟨rfl, by decide, (nB rfl)⟩, (aO rfl rfl (nB rfl)), ⟨rfl, by decide⟩, ?_⟩
    refine pq_loadp rfl (v := sF (b.f.map fldIn)) rfl (wG 0 hNb2 rfl) (aO rfl rfl (nB rfl)) rfl ?_
    refine ⟨tv, ?_⟩
    refine pq_index rfl fldTop b.f i2 rfl rfl (fldMap b.f) rfl rfl (by decide) (fun _ => rfl) (by omega) (by omega) ?_
    refine ⟨⟨rfl, by decide, (nB rfl)⟩, (aO rfl rfl (nB rfl)), tv, tv, ?_⟩
    exact key
  refine hK1 _ _ ?_; clear hK1 K1
  refine cD rfl rfl (fun h10 => ?_) (fun h10 => ?_)
  ·
   replace h10 : (vEq ((gI a.f i2).2) ((gI b.f i2).2) = false) ∨ ((gI a.f i2).1 ≠ (gI b.f i2).1) := ((borT h10).imp (fun q => (bnT q)) (fun q => (ne_of_beq_false (bnT q))))
   refine rS [] [4] (by decide) ?_
   intro K1 hK1
   refine ⟨tv, ?_⟩
   show K1 [(4, .bool false)] (mW m [(b2, .cells [iT b.kind, iT b.n, .str b.s, sF (b.l.map valIn), sF (b.f.map fldIn)]), (b1, .cells [iT a.kind, iT a.n, .str a.s, sF (a.l.map valIn), sF (a.f.map fldIn)])])
   refine hK1 _ _ ?_; clear hK1 K1
   refine awp_ret ?_
   refine ⟨tv, m, (wth_sub2 (m := m) [(b2, .cells [iT b.kind, iT b.n, .str b.s, sF (b.l.map valIn), sF (b.f.map fldIn)]), (b1, .cells [iT a.kind, iT a.n, .str a.s, sF (a.l.map valIn), sF (a.f.map fldIn)])] [] hNb2 (by simp only [List.map_cons, List.map_nil, List.forall_mem_cons]; exact ⟨hFb2, hFb1, nfA⟩)), ?_⟩
   show K (.bool false) m
  
   rw [vEq_false (by intro hh; subst hh; rw [vEq_true rfl] at h10; simp at h10)] at hK; exact hK
  replace h10 : (vEq ((gI a.f i2).2) ((gI b.f i2).2) = true) ∧ ((gI a.f i2).1 = (gI b.f i2).1) := ⟨(bnF (borL h10)), (eq_of_beq (bnF (borR h10)))⟩
  refine awp_skip ?_
  refine hK8 _ _ ?_; clear hK8
  refine awp_reg2 [] [2, 3, 7] (by decide) ?_
  intro K1 hK1
  refine ⟨tv, ?_⟩
  refine ar_add rfl (a := i2) (b := 1) rfl rfl (by omega) (by omega) ?_
  refine ⟨tv, ?_⟩
  show K1 [(2, pT b1), (3, pT b2), (7, iT (i2 + 1))] (mW m [(b2, .cells [iT b.kind, iT b.n, .str b.s, sF (b.l.map valIn), sF (b.f.map fldIn)]), (b1, .cells [iT a.kind, iT a.n, .str a.s, sF (a.l.map valIn), sF (a.f.map fldIn)])])
  refine hK1 _ _ ?_; clear hK1 K1
  refine ⟨(i2 + 1), rfl, rfl, ?_, ?_⟩
  ·
   show 0 ≤ ((i2 + 1 : Int)) ∧ ((i2 + 1 : Int)) ≤ a.f.length ∧ a.f.take ((i2 + 1 : Int)).toNat = b.f.take ((i2 + 1 : Int)).toNat
   exact ⟨by omega, by omega, by rw [take_succ_gI hI2.1 h8, take_succ_gI hI2.1 (by omega), hI2.2.2, Prod.ext h10.2 (vEq_iff.1 h10.1)]⟩
  ·
   show a.f.length - ((i2 + 1 : Int)).toNat < a.f.length - i2.toNat
   omega
 replace h8 : (a.f.length : Int) ≤ i2 := (Int.not_lt.1 (of_decide_eq_false h8))
 refine awp_exit ?_
 refine hK6 _ _ ?_; clear hK6
 refine rS [] [4] (by decide) ?_
 intro K1 hK1
 refine ⟨tv, ?_⟩
 show K1 [(4, .bool true)] (mW m [(b2, .cells [iT b.kind, iT b.n, .str b.s, sF (b.l.map valIn), sF (b.f.map fldIn)]), (b1, .cells [iT a.kind, iT a.n, .str a.s, sF (a.l.map valIn), sF (a.f.map fldIn)])])
 refine hK1 _ _ ?_; clear hK1 K1
 refine awp_ret ?_
 refine ⟨tv, m, (wth_sub2 (m := m) [(b2, .cells [iT b.kind, iT b.n, .str b.s, sF (b.l.map valIn), sF (b.f.map fldIn)]), (b1, .cells [iT a.kind, iT a.n, .str a.s, sF (a.l.map valIn), sF (a.f.map fldIn)])] [] hNb2 (by simp only [List.map_cons, List.map_nil, List.forall_mem_cons]; exact ⟨hFb2, hFb1, nfA⟩)), ?_⟩
 show K (.bool true) m
 rw [vEq_true (Val.ext' hk hn hs (by have := hI.2.2; rwa [take_full (by omega), take_full (by omega)] at this) (by have := hI2.2.2; rwa [take_full (by omega), take_full (by omega)] at this))] at hK; exact hK
theorem u_RAlike2 : ∀ (n : Nat) (a b : Val), depV a < n → ∀ (m : AMem) (K : AV → AMem → Prop), K (.bool (vEq a b)) m → ACalls Try.prog 86 [valTop a, valTop b] m K
  | 0, _, _, h => absurd h (Nat.not_lt_zero _)
  | n + 1, a, b, h => fun m K hK => u_RAlike1 a b (fun v w hv => u_RAlike2 n v w (by omega)) m K hK
theorem u_RAlike (a b : Val) (m : AMem) (K : AV → AMem → Prop) (hK : K (.bool (vEq a b)) m) : ACalls Try.prog 86 [valTop a, valTop b] m K := u_RAlike2 (depV a + 1) a b (Nat.lt_succ_self _) m K hK
set_option maxHeartbeats 2000000 in
theorem u_SameThing (a b : Thg)  (m : AMem)  (K : AV → AMem → Prop) (hK : K (.bool (((a.id == b.id) && (a.kind == b.kind)) && vEq a.v b.v)) m) : ACalls Try.prog 54 [thgAV a, thgAV b] m K := by
 refine acalls_enter Try.func54 rfl (by decide) (nB rfl) ?_
 show AWP _ _ _ _ [(0, thgAV a), (1, thgAV b)] m
 refine rS [] [2, 3] (by decide) ?_
 intro K1 hK1
 refine ar_box rfl (m := m) (L := []) (v := thgAV a) (by rfl) rfl ?_
 intro b1 hb1
 have hFb1 : m b1 = none := wth_none (m := m) (L := []) hb1
 have hNb1 : ([b1] : List Nat).Nodup := wth_nodup (m := m) (L := []) hb1 List.nodup_nil
 refine ar_box rfl (m := m) (L := [(b1, .cells [iT a.id, .str a.kind, iT a.v.kind, iT a.v.n, .str a.v.s, sF (a.v.l.map valIn), sF (a.v.f.map fldIn)])]) (v := thgAV b) (by rfl) rfl ?_
 intro b2 hb2
 have hFb2 : m b2 = none := wth_none hb2
 have hNb2 : ([b2, b1] : List Nat).Nodup := wth_nodup hb2 hNb1
 refine ⟨tv, ?_⟩
 show K1 [(2, pT b1), (3, pT b2)] (mW m [(b2, .cells [iT b.id, .str b.kind, iT b.v.kind, iT b.v.n, .str b.v.s, sF (b.v.l.map valIn), sF (b.v.f.map fldIn)]), (b1, .cells [iT a.id, .str a.kind, iT a.v.kind, iT a.v.n, .str a.v.s, sF (a.v.l.map valIn), sF (a.v.f.map fldIn)])])
 refine hK1 _ _ ?_; clear hK1 K1
 refine rS [] [2, 3, 5] (by decide) ?_
 intro K1 hK1
 refine ⟨⟨rfl, by decide⟩, ?_⟩
 refine aL rfl (v := .agg [iT a.v.kind, iT a.v.n, .str a.v.s, sF (a.v.l.map valIn), sF (a.v.f.map fldIn)]) rfl (wG 1 hNb2 rfl) rfl (apartOk_agg rfl rfl (nB rfl)) rfl ?_
 refine ⟨⟨rfl, by decide⟩, ?_⟩
 refine aL rfl (v := .agg [iT b.v.kind, iT b.v.n, .str b.v.s, sF (b.v.l.map valIn), sF (b.v.f.map fldIn)]) rfl (wG 0 hNb2 rfl) rfl (apartOk_agg rfl rfl (nB rfl)) rfl ?_
 refine u_RAlike a.v b.v _ _ ?_
 refine ⟨tv, ?_⟩
 show K1 [(2, pT b1), (3, pT b2), (5, .bool (vEq a.v b.v))] _
 refine hK1 _ _ ?_; clear hK1 K1
 refine rS [] [4] (by decide) ?_
 intro K1 hK1
 suffices key : K1 [(4, .bool (((a.id == b.id) && (a.kind == b.kind)) && (vEq a.v b.v)))] (mW m [(b2, .cells [iT b.id, .str b.kind, iT b.v.kind, iT b.v.n, .str b.v.s, sF (b.v.l.map valIn), sF (b.v.f.map fldIn)]), (b1, .cells [iT a.id, .str a.kind, iT a.v.kind, iT a.v.n, .str a.v.s, sF (a.v.l.map valIn), sF (a.v.f.map fldIn)])]) by
  refine ⟨⟨rfl, by decide⟩, ?_⟩
  refine aL rfl (v := iT a.id) rfl (wG 1 hNb2 rfl) rfl (aO rfl rfl (nB rfl)) rfl ?_
  refine ⟨⟨rfl, by decide⟩, ?_⟩
  refine aL rfl (v := iT b.id) rfl (wG 0 hNb2 rfl) rfl (aO rfl rfl (nB rfl)) rfl ?_
  refine ⟨tv, tv, ?_⟩
  show aopsR _ _ _ _ _ [(16, .bool (a.id == b.id)), (15, .bool (a.id == b.id)), (14, iT b.id), (13, pT b2), (12, iT a.id), (11, pT b1), (2, pT b1), (3, pT b2), (5, .bool (vEq a.v b.v))] _
  revert key
  cases h1 : (a.id == b.id)
  ·
   replace h1 : a.id ≠ b.id := (ne_of_beq_false h1)
   intro key
   refine ar_off rfl (ar_off rfl (ar_off rfl (ar_off rfl (ar_off rfl ?_))))
   refine ⟨tv, ?_⟩
   refine ar_off rfl ?_
   refine ⟨tv, ?_⟩
   exact key
  ·
   replace h1 : a.id = b.id := (eq_of_beq h1)
   intro key
   refine ⟨⟨rfl, by decide⟩, ?_⟩
   refine aL rfl (v := .str a.kind) rfl (wG 1 hNb2 rfl) rfl (aO rfl rfl (nB rfl)) rfl ?_
   refine ⟨⟨rfl, by decide⟩, ?_⟩
   refine aL rfl (v := .str b.kind) rfl (wG 0 hNb2 rfl) rfl (aO rfl rfl (nB rfl)) rfl ?_
   refine ⟨tv, ?_⟩
   refine ⟨tv, ?_⟩
   show aopsR _ _ _ _ _ [(23, .bool (a.kind == b.kind)), (22, .bool (a.kind == b.kind)), (21, .bool (a.kind == b.kind)), (20, .str b.kind), (19, .ptr ⟨b2, 1, none⟩), (18, .str a.kind), (17, .ptr ⟨b1, 1, none⟩), (16, .bool true), (15, .bool true), (14, iT b.id), (13, pT b2), (12, iT a.id), (11, pT b1), (2, pT b1), (3, pT b2), (5, .bool (vEq a.v b.v))] _
   revert key
   cases h2 : (a.kind == b.kind)
   ·
    replace h2 : a.kind ≠ b.kind := (ne_of_beq_false h2)
    intro key
    refine ar_off rfl ?_
    refine ⟨tv, ?_⟩
    exact key
   ·
    replace h2 : a.kind = b.kind := (eq_of_beq h2)
    intro key
    refine ⟨tv, ?_⟩
    refine ⟨tv, ?_⟩
    exact key
 refine hK1 _ _ ?_; clear hK1 K1
 refine awp_ret ?_
 refine ⟨tv, m, (wth_sub2 (m := m) [(b2, .cells [iT b.id, .str b.kind, iT b.v.kind, iT b.v.n, .str b.v.s, sF (b.v.l.map valIn), sF (b.v.f.map fldIn)]), (b1, .cells [iT a.id, .str a.kind, iT a.v.kind, iT a.v.n, .str a.v.s, sF (a.v.l.map valIn), sF (a.v.f.map fldIn)])] [] hNb2 (by simp only [List.map_cons, List.map_nil, List.forall_mem_cons]; exact ⟨hFb2, hFb1, nfA⟩)), ?_⟩
 show K (.bool (((a.id == b.id) && (a.kind == b.kind)) && (vEq a.v b.v))) m
 exact hK
end Go.Proofs
end
