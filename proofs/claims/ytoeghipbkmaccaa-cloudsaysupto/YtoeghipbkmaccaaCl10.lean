import Derived.Test.YtoeghipbkmaccaaProg
import Derived.Test.YtoeghipbkmaccaaVa1
import Derived.Test.YtoeghipbkmaccaaEm
import Derived.Test.YtoeghipbkmaccaaWxx
section
namespace Go.Proofs
open Go Go.Aw
set_option maxRecDepth 100000
theorem chk_R1 {v : Val} (h : 60 < (depV v : Int) ∨ 6 < hgtF (depV v + 1) v) : chk v = 2 := by rw [chk_R, if_pos h]
theorem chk_R2 {v : Val} (h : (depV v : Int) ≤ 60 ∧ hgtF (depV v + 1) v ≤ 6) (h2 : shpF (depV v + 1) v = false) : chk v = 3 := by rw [chk_R, if_neg (by omega), if_neg (by simp [h2])]
theorem chk_R3 {v : Val} (h : (depV v : Int) ≤ 60 ∧ hgtF (depV v + 1) v ≤ 6) (h2 : shpF (depV v + 1) v = true) : chk v = 0 := by rw [chk_R, if_neg (by omega), if_pos h2]
theorem u_shapedR : ∀ (k : Nat) (v : Val), depV v < k → ∀ (m : AMem) (K : AV → AMem → Prop), K (.bool (shpF k v)) m → ACalls Try.prog 102 [valTop v] m K
  | 0, _, h => absurd h (Nat.not_lt_zero _)
  | k + 1, v, h => fun m K hK => u_shaped1 k v (fun w hw => u_shapedR k w (by omega)) m K hK
def readC (c : ClSt) (s : DSt) (id : Int) : Thg × Int := if s.down = true then (zT, 10) else if (mget c.things id).isSome = false then (zT, 7) else ((mget c.things id).getD zT, 0)
def spoilC (c : ClSt) (id : Int) (v : Val) : ClSt := if (mget c.things id).isSome = true ∧ attrE v = 0 then { c with things := mput c.things id ⟨((mget c.things id).getD zT).id, ((mget c.things id).getD zT).kind, v⟩ } else c
theorem okV_get {l : List (Int × Thg)} {id : Int} (h : ∀ p ∈ l, chk p.2.v = 0) (hs : (mget l id).isSome = true) : okV ((mget l id).getD zT).v := by
  obtain ⟨t, ht⟩ := Option.isSome_iff_exists.1 hs
  rw [ht]; exact chk_okV (h _ (mget_memG ht))
set_option maxHeartbeats 2000000 in
theorem u_Fault (v : Val) (hB : depV v ≤ 1000000000000) (m : AMem)  (K : AV → AMem → Prop) (hK : K (iT (chk v)) m) : ACalls Try.prog 95 [valTop v] m K := by
 refine acalls_enter Try.func95 rfl (by decide) (nB rfl) ?_
 show AWP _ _ _ _ [(0, valTop v)] m
 refine rS [] [1] (by decide) ?_
 intro K1 hK1
 refine ar_box rfl (m := m) (L := []) (v := valTop v) (by rfl) rfl ?_
 intro b1 hb1
 have hFb1 : m b1 = none := wth_none (m := m) (L := []) hb1
 have hNb1 : ([b1] : List Nat).Nodup := wth_nodup (m := m) (L := []) hb1 List.nodup_nil
 refine ⟨tv, ?_⟩
 show K1 [(1, pT b1)] (mW m [(b1, .cells [iT v.kind, iT v.n, .str v.s, sF (v.l.map valIn), sF (v.f.map fldIn)])])
 refine hK1 _ _ ?_; clear hK1 K1
 refine rS [] [1, 3, 4] (by decide) ?_
 intro K1 hK1
 refine aL rfl (v := .agg [iT v.kind, iT v.n, .str v.s, sF (v.l.map valIn), sF (v.f.map fldIn)]) rfl (wG 0 hNb1 rfl) rfl (apartOk_agg rfl rfl (nB rfl)) rfl ?_
 refine u_parts (depV v + 1) v (Nat.lt_succ_self _) hB _ _ ?_
 refine ⟨tv, (nB rfl), (nB rfl), tv, tv, ?_⟩
 show K1 [(1, pT b1), (3, iT (depV v : Int)), (4, iT (hgtF (depV v + 1) v))] _
 refine hK1 _ _ ?_; clear hK1 K1
 refine sK ?_; intro K2 hK2
 refine rS [] [1, 16] (by decide) ?_
 intro K1 hK1
 suffices key : K1 [(1, pT b1), (16, .bool ((decide (60 < (depV v : Int))) || (decide (6 < hgtF (depV v + 1) v))))] (mW m [(b1, .cells [iT v.kind, iT v.n, .str v.s, sF (v.l.map valIn), sF (v.f.map fldIn)])]) by
  refine ⟨tv, tv, tv, ?_⟩
  show aopsR _ _ _ _ _ [(13, .bool (decide (60 < (depV v : Int)))), (12, .bool (decide (60 < (depV v : Int)))), (11, iT (depV v : Int)), (1, pT b1), (3, iT (depV v : Int)), (4, iT (hgtF (depV v + 1) v))] _
  revert key
  cases h1 : (decide (60 < (depV v : Int)))
  ·
   replace h1 : (depV v : Int) ≤ 60 := (Int.not_lt.1 (of_decide_eq_false h1))
   intro key
   refine ⟨tv, tv, ?_⟩
   exact key
  ·
   replace h1 : 60 < (depV v : Int) := (of_decide_eq_true h1)
   intro key
   refine ar_off rfl (ar_off rfl ?_)
   exact key
 refine hK1 _ _ ?_; clear hK1 K1
 refine cD rfl rfl (fun h2 => ?_) (fun h2 => ?_)
 ·
  replace h2 : (60 < (depV v : Int)) ∨ (6 < hgtF (depV v + 1) v) := ((borT h2).imp (fun q => (of_decide_eq_true q)) (fun q => (of_decide_eq_true q)))
  refine rS [] [2] (by decide) ?_
  intro K1 hK1
  refine ⟨tv, ?_⟩
  show K1 [(2, iT 2)] (mW m [(b1, .cells [iT v.kind, iT v.n, .str v.s, sF (v.l.map valIn), sF (v.f.map fldIn)])])
  refine hK1 _ _ ?_; clear hK1 K1
  refine awp_ret ?_
  refine ⟨tv, m, (wth_sub2 (m := m) [(b1, .cells [iT v.kind, iT v.n, .str v.s, sF (v.l.map valIn), sF (v.f.map fldIn)])] [] hNb1 (by simp only [List.map_cons, List.map_nil, List.forall_mem_cons]; exact ⟨hFb1, nfA⟩)), ?_⟩
  show K (iT 2) m
 
  have e0 : chk v = (2 : Int) := by
   first | exact chk_R1 (by assumption) | exact chk_R2 (by assumption) (by assumption) | exact chk_R3 (by assumption) (by assumption)
  rw [e0] at hK
  exact hK
 replace h2 : ((depV v : Int) ≤ 60) ∧ (hgtF (depV v + 1) v ≤ 6) := ⟨(Int.not_lt.1 (of_decide_eq_false (borL h2))), (Int.not_lt.1 (of_decide_eq_false (borR h2)))⟩
 refine awp_skip ?_
 refine hK2 _ _ ?_; clear hK2
 refine rS [] [5] (by decide) ?_
 intro K1 hK1
 refine aL rfl (v := .agg [iT v.kind, iT v.n, .str v.s, sF (v.l.map valIn), sF (v.f.map fldIn)]) rfl (wG 0 hNb1 rfl) rfl (apartOk_agg rfl rfl (nB rfl)) rfl ?_
 refine u_shapedR (depV v + 1) v (Nat.lt_succ_self _) _ _ ?_
 refine ⟨tv, ?_⟩
 show K1 [(5, .bool (shpF (depV v + 1) v))] (mW m [(b1, .cells [iT v.kind, iT v.n, .str v.s, sF (v.l.map valIn), sF (v.f.map fldIn)])])
 refine hK1 _ _ ?_; clear hK1 K1
 refine sK ?_; intro K3 hK3
 refine rS [] [20] (by decide) ?_
 intro K1 hK1
 refine ⟨tv, tv, ?_⟩
 show K1 [(20, .bool (!(shpF (depV v + 1) v)))] _
 refine hK1 _ _ ?_; clear hK1 K1
 refine cD rfl rfl (fun h3 => ?_) (fun h3 => ?_)
 ·
  replace h3 : shpF (depV v + 1) v = false := (bnT h3)
  refine rS [] [2] (by decide) ?_
  intro K1 hK1
  refine ⟨tv, ?_⟩
  show K1 [(2, iT 3)] (mW m [(b1, .cells [iT v.kind, iT v.n, .str v.s, sF (v.l.map valIn), sF (v.f.map fldIn)])])
  refine hK1 _ _ ?_; clear hK1 K1
  refine awp_ret ?_
  refine ⟨tv, m, (wth_sub2 (m := m) [(b1, .cells [iT v.kind, iT v.n, .str v.s, sF (v.l.map valIn), sF (v.f.map fldIn)])] [] hNb1 (by simp only [List.map_cons, List.map_nil, List.forall_mem_cons]; exact ⟨hFb1, nfA⟩)), ?_⟩
  show K (iT 3) m
 
  have e0 : chk v = (3 : Int) := by
   first | exact chk_R1 (by assumption) | exact chk_R2 (by assumption) (by assumption) | exact chk_R3 (by assumption) (by assumption)
  rw [e0] at hK
  exact hK
 replace h3 : shpF (depV v + 1) v = true := (bnF h3)
 refine awp_skip ?_
 refine hK3 _ _ ?_; clear hK3
 refine rS [] [2] (by decide) ?_
 intro K1 hK1
 refine ⟨tv, ?_⟩
 show K1 [(2, iT 0)] (mW m [(b1, .cells [iT v.kind, iT v.n, .str v.s, sF (v.l.map valIn), sF (v.f.map fldIn)])])
 refine hK1 _ _ ?_; clear hK1 K1
 refine awp_ret ?_
 refine ⟨tv, m, (wth_sub2 (m := m) [(b1, .cells [iT v.kind, iT v.n, .str v.s, sF (v.l.map valIn), sF (v.f.map fldIn)])] [] hNb1 (by simp only [List.map_cons, List.map_nil, List.forall_mem_cons]; exact ⟨hFb1, nfA⟩)), ?_⟩
 show K (iT 0) m
 have e0 : chk v = (0 : Int) := by
  first | exact chk_R1 (by assumption) | exact chk_R2 (by assumption) (by assumption) | exact chk_R3 (by assumption) (by assumption)
 rw [e0] at hK
 exact hK
set_option maxHeartbeats 2000000 in
theorem u_attrsFault (v : Val) (hB : depV v ≤ 1000000000000) (m : AMem)  (K : AV → AMem → Prop) (hK : K (iT (attrE v)) m) : ACalls Try.prog 83 [valTop v] m K := by
 refine acalls_enter Try.func83 rfl (by decide) (nB rfl) ?_
 show AWP _ _ _ _ [(0, valTop v)] m
 refine rS [] [1] (by decide) ?_
 intro K1 hK1
 refine ar_box rfl (m := m) (L := []) (v := valTop v) (by rfl) rfl ?_
 intro b1 hb1
 have hFb1 : m b1 = none := wth_none (m := m) (L := []) hb1
 have hNb1 : ([b1] : List Nat).Nodup := wth_nodup (m := m) (L := []) hb1 List.nodup_nil
 refine ⟨tv, ?_⟩
 show K1 [(1, pT b1)] (mW m [(b1, .cells [iT v.kind, iT v.n, .str v.s, sF (v.l.map valIn), sF (v.f.map fldIn)])])
 refine hK1 _ _ ?_; clear hK1 K1
 refine sK ?_; intro K2 hK2
 refine rS [] [1, 5] (by decide) ?_
 intro K1 hK1
 refine ⟨⟨rfl, by decide⟩, ?_⟩
 refine aL rfl (v := iT v.kind) rfl (wG 0 hNb1 rfl) rfl (aO rfl rfl (nB rfl)) rfl ?_
 refine ⟨tv, ?_⟩
 show K1 [(1, pT b1), (5, .bool (!(v.kind == 5)))] _
 refine hK1 _ _ ?_; clear hK1 K1
 refine cD rfl rfl (fun h1 => ?_) (fun h1 => ?_)
 ·
  replace h1 : v.kind ≠ 5 := (ne_of_beq_false (bnT h1))
  refine rS [] [2] (by decide) ?_
  intro K1 hK1
  refine ⟨tv, ?_⟩
  show K1 [(2, iT 9)] (mW m [(b1, .cells [iT v.kind, iT v.n, .str v.s, sF (v.l.map valIn), sF (v.f.map fldIn)])])
  refine hK1 _ _ ?_; clear hK1 K1
  refine awp_ret ?_
  refine ⟨tv, m, (wth_sub2 (m := m) [(b1, .cells [iT v.kind, iT v.n, .str v.s, sF (v.l.map valIn), sF (v.f.map fldIn)])] [] hNb1 (by simp only [List.map_cons, List.map_nil, List.forall_mem_cons]; exact ⟨hFb1, nfA⟩)), ?_⟩
  show K (iT 9) m
 
  have e0 : attrE v = (9 : Int) := by
   first | (rw [attrE, if_neg (by assumption)]; done) | (rw [attrE, if_pos (by assumption)]; done)
  rw [e0] at hK
  exact hK
 replace h1 : v.kind = 5 := (eq_of_beq (bnF h1))
 refine awp_skip ?_
 refine hK2 _ _ ?_; clear hK2
 refine rS [] [2] (by decide) ?_
 intro K1 hK1
 refine aL rfl (v := .agg [iT v.kind, iT v.n, .str v.s, sF (v.l.map valIn), sF (v.f.map fldIn)]) rfl (wG 0 hNb1 rfl) rfl (apartOk_agg rfl rfl (nB rfl)) rfl ?_
 refine u_Fault v hB _ _ ?_
 refine ⟨tv, ?_⟩
 show K1 [(2, iT (chk v))] (mW m [(b1, .cells [iT v.kind, iT v.n, .str v.s, sF (v.l.map valIn), sF (v.f.map fldIn)])])
 refine hK1 _ _ ?_; clear hK1 K1
 refine awp_ret ?_
 refine ⟨tv, m, (wth_sub2 (m := m) [(b1, .cells [iT v.kind, iT v.n, .str v.s, sF (v.l.map valIn), sF (v.f.map fldIn)])] [] hNb1 (by simp only [List.map_cons, List.map_nil, List.forall_mem_cons]; exact ⟨hFb1, nfA⟩)), ?_⟩
 show K (iT (chk v)) m
 have e0 : attrE v = (chk v : Int) := by
  first | (rw [attrE, if_neg (by assumption)]; done) | (rw [attrE, if_pos (by assumption)]; done)
 rw [e0] at hK
 exact hK
set_option maxHeartbeats 4000000 in
theorem u_CRead (x d tb ob fb kb nb : Nat) (c : ClSt) (s : DSt) (id : Int) (hN : [x, d, tb].Nodup) (hids : ∀ p ∈ c.things, chk p.2.v = 0) (m : AMem)  (K : AV → AMem → Prop) (hK : K (.tuple [thgAV (readC c s id).1, .err 108 (readC c s id).2]) (mW m [(x, cObj d tb ob fb c), (d, dObj kb nb s), (tb, tObj c.things)])) : ACalls Try.prog 52 [pT x, iT id] (mW m [(x, cObj d tb ob fb c), (d, .cells [.map kb, .map nb, sT (s.wait.map chgAV), iT s.fuse, .bool s.down, iT s.steps]), (tb, tObj c.things)]) K := by
 refine acalls_enter Try.func52 rfl (by decide) (nB rfl) ?_
 show AWP _ _ _ _ [(0, pT x), (1, iT id)] (mW m [(x, cObj d tb ob fb c), (d, .cells [.map kb, .map nb, sT (s.wait.map chgAV), iT s.fuse, .bool s.down, iT s.steps]), (tb, tObj c.things)])
 refine rS [] [0, 1, 4] (by decide) ?_
 intro K1 hK1
 refine ar_alloc rfl (z := .agg [iT 0, .str ([]), iT 0, iT 0, .str ([]), .slice true [], .slice true []]) rfl rfl ?_
 intro b1 hb1
 have hFb1 : m b1 = none := wth_none hb1
 have hNb1 : ([b1, x, d, tb] : List Nat).Nodup := wth_nodup hb1 hN
 refine ⟨tv, ?_⟩
 show K1 [(0, pT x), (1, iT id), (4, pT b1)] (mW m [(b1, .cells [iT 0, .str ([]), iT 0, iT 0, .str ([]), .slice true [], .slice true []]), (x, cObj d tb ob fb c), (d, .cells [.map kb, .map nb, sT (s.wait.map chgAV), iT s.fuse, .bool s.down, iT s.steps]), (tb, tObj c.things)])
 refine hK1 _ _ ?_; clear hK1 K1
 refine sK ?_; intro K2 hK2
 refine rS [] [0, 1, 4, 12] (by decide) ?_
 intro K1 hK1
 refine ⟨tv, tv, ⟨rfl, by decide⟩, ?_⟩
 refine aL rfl (v := pT d) rfl (wG 1 hNb1 rfl) rfl (aO rfl rfl (nB rfl)) rfl ?_
 refine ar_mem (wS hNb1 (pick_perm [2] _)) ?_
 refine u_Down d kb nb s _ _ ?_
 refine ar_mem (wS (m := m) (L := [(b1, .cells [iT 0, .str ([]), iT 0, iT 0, .str ([]), .slice true [], .slice true []]), (x, cObj d tb ob fb c), (d, .cells [.map kb, .map nb, sT (s.wait.map chgAV), iT s.fuse, .bool s.down, iT s.steps]), (tb, tObj c.things)]) hNb1 (pick_perm [2] _)).symm ?_
 show K1 [(0, pT x), (1, iT id), (4, pT b1), (12, .bool s.down)] _
 refine hK1 _ _ ?_; clear hK1 K1
 refine cD rfl rfl (fun h1 => ?_) (fun h1 => ?_)
 ·
  replace h1 : s.down = true := h1
  refine rS [] [4, 5] (by decide) ?_
  intro K1 hK1
  refine ⟨⟨rfl, by simp only [List.forall_mem_cons]; exact ⟨rfl, rfl, rfl, nfA⟩, nfA⟩, tv, ?_⟩
  refine aS rfl 0 (v := .agg [iT 0, .str ([]), iT 0, iT 0, .str ([]), .slice true [], .slice true []]) (l' := [iT 0, .str ([]), iT 0, iT 0, .str ([]), .slice true [], .slice true []]) rfl rfl hNb1 rfl rfl rfl rfl rfl (nB rfl) rfl ?_
  refine ⟨tv, ?_⟩
  show K1 [(4, pT b1), (5, .iface 108 (iT 10))] (mW m [(b1, .cells [iT 0, .str ([]), iT 0, iT 0, .str ([]), .slice true [], .slice true []]), (x, cObj d tb ob fb c), (d, .cells [.map kb, .map nb, sT (s.wait.map chgAV), iT s.fuse, .bool s.down, iT s.steps]), (tb, tObj c.things)])
  refine hK1 _ _ ?_; clear hK1 K1
  refine awp_toErr 108 [5] ?_
  show AWP _ _ _ _ [(4, pT b1), (5, .err 108 10)] _
  refine awp_ret ?_
  refine resK_cell2 (fn := Try.f52) (a := 4) (t := 80) (s := 5) (b := b1) (off := 0) rfl rfl (wG  (m := m) (L := [(b1, .cells [iT 0, .str ([]), iT 0, iT 0, .str ([]), .slice true [], .slice true []]), (x, cObj d tb ob fb c), (d, .cells [.map kb, .map nb, sT (s.wait.map chgAV), iT s.fuse, .bool s.down, iT s.steps]), (tb, tObj c.things)]) 0 hNb1 rfl) (apartOk_agg rfl rfl (nB rfl)) (.agg [iT 0, .str ([]), iT 0, iT 0, .str ([]), .slice false [], .slice false []]) (.err 108 10) rfl rfl (.err 108 10) rfl (mW m [(x, cObj d tb ob fb c), (d, .cells [.map kb, .map nb, sT (s.wait.map chgAV), iT s.fuse, .bool s.down, iT s.steps]), (tb, tObj c.things)]) ((wth_sub2 (m := m) [(b1, .cells [iT 0, .str ([]), iT 0, iT 0, .str ([]), .slice true [], .slice true []])] [(x, cObj d tb ob fb c), (d, .cells [.map kb, .map nb, sT (s.wait.map chgAV), iT s.fuse, .bool s.down, iT s.steps]), (tb, tObj c.things)] hNb1 (by simp only [List.map_cons, List.map_nil, List.forall_mem_cons]; exact ⟨hFb1, nfA⟩))) ?_
  show K (.tuple [.agg [iT 0, .str ([]), iT 0, iT 0, .str ([]), .slice false [], .slice false []], .err 108 10]) (AMem.wth m [(x, cObj d tb ob fb c), (d, .cells [.map kb, .map nb, sT (s.wait.map chgAV), iT s.fuse, .bool s.down, iT s.steps]), (tb, tObj c.things)])
 
  have e0 : readC c s id = (((⟨0, [], (⟨0, 0, [], [], []⟩ : Val)⟩ : Thg), 10) : Thg × Int) := by
   first | (rw [readC, if_pos (by assumption)]; done) | (rw [readC, if_pos (by assumption)]; rfl) | (rw [readC, if_neg (by simp_all), if_pos (by assumption)]; done) | (rw [readC, if_neg (by simp_all), if_neg (by simp_all)]; done) | (rw [readC, if_neg (by simp_all), if_pos (by assumption)]; rfl) | (rw [readC, if_neg (by simp_all), if_neg (by simp_all)]; rfl)
  rw [e0] at hK
  exact hK
 replace h1 : s.down = false := h1
 refine awp_skip ?_
 refine hK2 _ _ ?_; clear hK2
 refine rS [] [4, 6, 7] (by decide) ?_
 intro K1 hK1
 refine ⟨tv, tv, ⟨rfl, by decide⟩, ?_⟩
 refine aL rfl (v := .map tb) rfl (wG 1 hNb1 rfl) rfl (aO rfl rfl (nB rfl)) rfl ?_
 refine ⟨tv, ?_⟩
 refine ar_lookupOkP rfl (m := m) (L := [(b1, .cells [iT 0, .str ([]), iT 0, iT 0, .str ([]), .slice true [], .slice true []]), (x, cObj d tb ob fb c), (d, .cells [.map kb, .map nb, sT (s.wait.map chgAV), iT s.fuse, .bool s.down, iT s.steps]), (tb, tObj c.things)]) intAV thgAV intKey_ok c.things id zT rfl rfl rfl rfl rfl rfl (wG 3 hNb1 rfl) rfl ?_
 refine ⟨tv, (nB rfl), (nB rfl), ?_⟩
 refine ar_alloc rfl (z := .agg [iT 0, .str ([]), iT 0, iT 0, .str ([]), .slice true [], .slice true []]) rfl rfl ?_
 intro b2 hb2
 have hFb2 : m b2 = none := wth_none hb2
 have hNb2 : ([b2, b1, x, d, tb] : List Nat).Nodup := wth_nodup hb2 hNb1
 refine aS rfl 0 (v := thgAV ((mget c.things id).getD zT)) (l' := [iT (((mget c.things id).getD zT).id), .str (((mget c.things id).getD zT).kind), iT ((((mget c.things id).getD zT).v).kind), iT ((((mget c.things id).getD zT).v).n), .str ((((mget c.things id).getD zT).v).s), sF (((((mget c.things id).getD zT).v).l).map valIn), sF (((((mget c.things id).getD zT).v).f).map fldIn)]) rfl (by rfl) hNb2 rfl rfl rfl rfl rfl (nB rfl) rfl ?_
 refine ⟨tv, ?_⟩
 show K1 [(4, pT b1), (6, pT b2), (7, .bool ((mget c.things id).isSome))] (mW m [(b2, .cells [iT (((mget c.things id).getD zT).id), .str (((mget c.things id).getD zT).kind), iT ((((mget c.things id).getD zT).v).kind), iT ((((mget c.things id).getD zT).v).n), .str ((((mget c.things id).getD zT).v).s), sF (((((mget c.things id).getD zT).v).l).map valIn), sF (((((mget c.things id).getD zT).v).f).map fldIn)]), (b1, .cells [iT 0, .str ([]), iT 0, iT 0, .str ([]), .slice true [], .slice true []]), (x, cObj d tb ob fb c), (d, .cells [.map kb, .map nb, sT (s.wait.map chgAV), iT s.fuse, .bool s.down, iT s.steps]), (tb, tObj c.things)])
 refine hK1 _ _ ?_; clear hK1 K1
 refine sK ?_; intro K3 hK3
 refine rS [] [4, 6, 25] (by decide) ?_
 intro K1 hK1
 refine ⟨tv, tv, ?_⟩
 show K1 [(4, pT b1), (6, pT b2), (25, .bool (!((mget c.things id).isSome)))] _
 refine hK1 _ _ ?_; clear hK1 K1
 refine cD rfl rfl (fun h2 => ?_) (fun h2 => ?_)
 ·
  replace h2 : (mget c.things id).isSome = false := (bnT h2)
  refine rS [] [4, 5] (by decide) ?_
  intro K1 hK1
  refine ⟨⟨rfl, by simp only [List.forall_mem_cons]; exact ⟨rfl, rfl, rfl, nfA⟩, nfA⟩, tv, ?_⟩
  refine aS rfl 1 (v := .agg [iT 0, .str ([]), iT 0, iT 0, .str ([]), .slice true [], .slice true []]) (l' := [iT 0, .str ([]), iT 0, iT 0, .str ([]), .slice true [], .slice true []]) rfl rfl hNb2 rfl rfl rfl rfl rfl (nB rfl) rfl ?_
  refine ⟨tv, ?_⟩
  show K1 [(4, pT b1), (5, .iface 108 (iT 7))] (mW m [(b2, .cells [iT (((mget c.things id).getD zT).id), .str (((mget c.things id).getD zT).kind), iT ((((mget c.things id).getD zT).v).kind), iT ((((mget c.things id).getD zT).v).n), .str ((((mget c.things id).getD zT).v).s), sF (((((mget c.things id).getD zT).v).l).map valIn), sF (((((mget c.things id).getD zT).v).f).map fldIn)]), (b1, .cells [iT 0, .str ([]), iT 0, iT 0, .str ([]), .slice true [], .slice true []]), (x, cObj d tb ob fb c), (d, .cells [.map kb, .map nb, sT (s.wait.map chgAV), iT s.fuse, .bool s.down, iT s.steps]), (tb, tObj c.things)])
  refine hK1 _ _ ?_; clear hK1 K1
  refine awp_toErr 108 [5] ?_
  show AWP _ _ _ _ [(4, pT b1), (5, .err 108 7)] _
  refine awp_ret ?_
  refine resK_cell2 (fn := Try.f52) (a := 4) (t := 80) (s := 5) (b := b1) (off := 0) rfl rfl (wG  (m := m) (L := [(b2, .cells [iT (((mget c.things id).getD zT).id), .str (((mget c.things id).getD zT).kind), iT ((((mget c.things id).getD zT).v).kind), iT ((((mget c.things id).getD zT).v).n), .str ((((mget c.things id).getD zT).v).s), sF (((((mget c.things id).getD zT).v).l).map valIn), sF (((((mget c.things id).getD zT).v).f).map fldIn)]), (b1, .cells [iT 0, .str ([]), iT 0, iT 0, .str ([]), .slice true [], .slice true []]), (x, cObj d tb ob fb c), (d, .cells [.map kb, .map nb, sT (s.wait.map chgAV), iT s.fuse, .bool s.down, iT s.steps]), (tb, tObj c.things)]) 1 hNb2 rfl) (apartOk_agg rfl rfl (nB rfl)) (.agg [iT 0, .str ([]), iT 0, iT 0, .str ([]), .slice false [], .slice false []]) (.err 108 7) rfl rfl (.err 108 7) rfl (mW m [(x, cObj d tb ob fb c), (d, .cells [.map kb, .map nb, sT (s.wait.map chgAV), iT s.fuse, .bool s.down, iT s.steps]), (tb, tObj c.things)]) ((wth_sub2 (m := m) [(b2, .cells [iT (((mget c.things id).getD zT).id), .str (((mget c.things id).getD zT).kind), iT ((((mget c.things id).getD zT).v).kind), iT ((((mget c.things id).getD zT).v).n), .str ((((mget c.things id).getD zT).v).s), sF (((((mget c.things id).getD zT).v).l).map valIn), sF (((((mget c.things id).getD zT).v).f).map fldIn)]), (b1, .cells [iT 0, .str ([]), iT 0, iT 0, .str ([]), .slice true [], .slice true []])] [(x, cObj d tb ob fb c), (d, .cells [.map kb, .map nb, sT (s.wait.map chgAV), iT s.fuse, .bool s.down, iT s.steps]), (tb, tObj c.things)] hNb2 (by simp only [List.map_cons, List.map_nil, List.forall_mem_cons]; exact ⟨hFb2, hFb1, nfA⟩))) ?_
  show K (.tuple [.agg [iT 0, .str ([]), iT 0, iT 0, .str ([]), .slice false [], .slice false []], .err 108 7]) (AMem.wth m [(x, cObj d tb ob fb c), (d, .cells [.map kb, .map nb, sT (s.wait.map chgAV), iT s.fuse, .bool s.down, iT s.steps]), (tb, tObj c.things)])
 
  have e0 : readC c s id = (((⟨0, [], (⟨0, 0, [], [], []⟩ : Val)⟩ : Thg), 7) : Thg × Int) := by
   first | (rw [readC, if_pos (by assumption)]; done) | (rw [readC, if_pos (by assumption)]; rfl) | (rw [readC, if_neg (by simp_all), if_pos (by assumption)]; done) | (rw [readC, if_neg (by simp_all), if_neg (by simp_all)]; done) | (rw [readC, if_neg (by simp_all), if_pos (by assumption)]; rfl) | (rw [readC, if_neg (by simp_all), if_neg (by simp_all)]; rfl)
  rw [e0] at hK
  exact hK
 replace h2 : (mget c.things id).isSome = true := (bnF h2)
 refine awp_skip ?_
 refine hK3 _ _ ?_; clear hK3
 refine rS [] [4, 6] (by decide) ?_
 intro K1 hK1
 refine ⟨⟨rfl, by decide⟩, ?_⟩
 refine aL rfl (v := .agg [iT ((((mget c.things id).getD zT).v).kind), iT ((((mget c.things id).getD zT).v).n), .str ((((mget c.things id).getD zT).v).s), sF (((((mget c.things id).getD zT).v).l).map valIn), sF (((((mget c.things id).getD zT).v).f).map fldIn)]) rfl (wG 0 hNb2 rfl) rfl (apartOk_agg rfl rfl (nB rfl)) rfl ?_
 refine u_Copy (((mget c.things id).getD zT).v) (by first | exact okV_get hids (by assumption) | exact chk_okV (attrE_0 (by first | assumption | exact (by assumption : _ ∧ _).2))) _ _ ?_
 refine ⟨⟨rfl, by decide⟩, ?_⟩
 refine aS rfl 0 (v := valTop (((mget c.things id).getD zT).v)) (l' := [iT (((mget c.things id).getD zT).id), .str (((mget c.things id).getD zT).kind), iT ((((mget c.things id).getD zT).v).kind), iT ((((mget c.things id).getD zT).v).n), .str ((((mget c.things id).getD zT).v).s), sF (((((mget c.things id).getD zT).v).l).map valIn), sF (((((mget c.things id).getD zT).v).f).map fldIn)]) rfl (by rfl) hNb2 rfl rfl rfl rfl rfl (nB rfl) rfl ?_
 show K1 [(4, pT b1), (6, pT b2)] (mW m [(b2, .cells [iT (((mget c.things id).getD zT).id), .str (((mget c.things id).getD zT).kind), iT ((((mget c.things id).getD zT).v).kind), iT ((((mget c.things id).getD zT).v).n), .str ((((mget c.things id).getD zT).v).s), sF (((((mget c.things id).getD zT).v).l).map valIn), sF (((((mget c.things id).getD zT).v).f).map fldIn)]), (b1, .cells [iT 0, .str ([]), iT 0, iT 0, .str ([]), .slice true [], .slice true []]), (x, cObj d tb ob fb c), (d, .cells [.map kb, .map nb, sT (s.wait.map chgAV), iT s.fuse, .bool s.down, iT s.steps]), (tb, tObj c.things)])
 refine hK1 _ _ ?_; clear hK1 K1
 refine rS [] [4, 5] (by decide) ?_
 intro K1 hK1
 refine aL rfl (v := .agg [iT (((mget c.things id).getD zT).id), .str (((mget c.things id).getD zT).kind), iT ((((mget c.things id).getD zT).v).kind), iT ((((mget c.things id).getD zT).v).n), .str ((((mget c.things id).getD zT).v).s), sF (((((mget c.things id).getD zT).v).l).map valIn), sF (((((mget c.things id).getD zT).v).f).map fldIn)]) rfl (wG 0 hNb2 rfl) rfl (apartOk_agg rfl rfl (nB rfl)) rfl ?_
 refine aS rfl 1 (v := .agg [iT (((mget c.things id).getD zT).id), .str (((mget c.things id).getD zT).kind), iT ((((mget c.things id).getD zT).v).kind), iT ((((mget c.things id).getD zT).v).n), .str ((((mget c.things id).getD zT).v).s), sF (((((mget c.things id).getD zT).v).l).map valIn), sF (((((mget c.things id).getD zT).v).f).map fldIn)]) (l' := [iT (((mget c.things id).getD zT).id), .str (((mget c.things id).getD zT).kind), iT ((((mget c.things id).getD zT).v).kind), iT ((((mget c.things id).getD zT).v).n), .str ((((mget c.things id).getD zT).v).s), sF (((((mget c.things id).getD zT).v).l).map valIn), sF (((((mget c.things id).getD zT).v).f).map fldIn)]) rfl rfl hNb2 rfl rfl rfl rfl rfl (nB rfl) rfl ?_
 refine ⟨tv, ?_⟩
 show K1 [(4, pT b1), (5, .nilIface)] (mW m [(b2, .cells [iT (((mget c.things id).getD zT).id), .str (((mget c.things id).getD zT).kind), iT ((((mget c.things id).getD zT).v).kind), iT ((((mget c.things id).getD zT).v).n), .str ((((mget c.things id).getD zT).v).s), sF (((((mget c.things id).getD zT).v).l).map valIn), sF (((((mget c.things id).getD zT).v).f).map fldIn)]), (b1, .cells [iT (((mget c.things id).getD zT).id), .str (((mget c.things id).getD zT).kind), iT ((((mget c.things id).getD zT).v).kind), iT ((((mget c.things id).getD zT).v).n), .str ((((mget c.things id).getD zT).v).s), sF (((((mget c.things id).getD zT).v).l).map valIn), sF (((((mget c.things id).getD zT).v).f).map fldIn)]), (x, cObj d tb ob fb c), (d, .cells [.map kb, .map nb, sT (s.wait.map chgAV), iT s.fuse, .bool s.down, iT s.steps]), (tb, tObj c.things)])
 refine hK1 _ _ ?_; clear hK1 K1
 refine awp_toErr 108 [5] ?_
 show AWP _ _ _ _ [(4, pT b1), (5, .err 108 0)] _
 refine awp_ret ?_
 refine resK_cell2 (fn := Try.f52) (a := 4) (t := 80) (s := 5) (b := b1) (off := 0) rfl rfl (wG  (m := m) (L := [(b2, .cells [iT (((mget c.things id).getD zT).id), .str (((mget c.things id).getD zT).kind), iT ((((mget c.things id).getD zT).v).kind), iT ((((mget c.things id).getD zT).v).n), .str ((((mget c.things id).getD zT).v).s), sF (((((mget c.things id).getD zT).v).l).map valIn), sF (((((mget c.things id).getD zT).v).f).map fldIn)]), (b1, .cells [iT (((mget c.things id).getD zT).id), .str (((mget c.things id).getD zT).kind), iT ((((mget c.things id).getD zT).v).kind), iT ((((mget c.things id).getD zT).v).n), .str ((((mget c.things id).getD zT).v).s), sF (((((mget c.things id).getD zT).v).l).map valIn), sF (((((mget c.things id).getD zT).v).f).map fldIn)]), (x, cObj d tb ob fb c), (d, .cells [.map kb, .map nb, sT (s.wait.map chgAV), iT s.fuse, .bool s.down, iT s.steps]), (tb, tObj c.things)]) 1 hNb2 rfl) (apartOk_agg rfl rfl (nB rfl)) (.agg [iT (((mget c.things id).getD zT).id), .str (((mget c.things id).getD zT).kind), iT ((((mget c.things id).getD zT).v).kind), iT ((((mget c.things id).getD zT).v).n), .str ((((mget c.things id).getD zT).v).s), sF (((((mget c.things id).getD zT).v).l).map valIn), sF (((((mget c.things id).getD zT).v).f).map fldIn)]) (.err 108 0) rfl rfl (.err 108 0) rfl (mW m [(x, cObj d tb ob fb c), (d, .cells [.map kb, .map nb, sT (s.wait.map chgAV), iT s.fuse, .bool s.down, iT s.steps]), (tb, tObj c.things)]) ((wth_sub2 (m := m) [(b2, .cells [iT (((mget c.things id).getD zT).id), .str (((mget c.things id).getD zT).kind), iT ((((mget c.things id).getD zT).v).kind), iT ((((mget c.things id).getD zT).v).n), .str ((((mget c.things id).getD zT).v).s), sF (((((mget c.things id).getD zT).v).l).map valIn), sF (((((mget c.things id).getD zT).v).f).map fldIn)]), (b1, .cells [iT (((mget c.things id).getD zT).id), .str (((mget c.things id).getD zT).kind), iT ((((mget c.things id).getD zT).v).kind), iT ((((mget c.things id).getD zT).v).n), .str ((((mget c.things id).getD zT).v).s), sF (((((mget c.things id).getD zT).v).l).map valIn), sF (((((mget c.things id).getD zT).v).f).map fldIn)])] [(x, cObj d tb ob fb c), (d, .cells [.map kb, .map nb, sT (s.wait.map chgAV), iT s.fuse, .bool s.down, iT s.steps]), (tb, tObj c.things)] hNb2 (by simp only [List.map_cons, List.map_nil, List.forall_mem_cons]; exact ⟨hFb2, hFb1, nfA⟩))) ?_
 show K (.tuple [.agg [iT (((mget c.things id).getD zT).id), .str (((mget c.things id).getD zT).kind), iT ((((mget c.things id).getD zT).v).kind), iT ((((mget c.things id).getD zT).v).n), .str ((((mget c.things id).getD zT).v).s), sF (((((mget c.things id).getD zT).v).l).map valIn), sF (((((mget c.things id).getD zT).v).f).map fldIn)], .err 108 0]) (AMem.wth m [(x, cObj d tb ob fb c), (d, .cells [.map kb, .map nb, sT (s.wait.map chgAV), iT s.fuse, .bool s.down, iT s.steps]), (tb, tObj c.things)])
 have e0 : readC c s id = ((((mget c.things id).getD zT), 0) : Thg × Int) := by
  first | (rw [readC, if_pos (by assumption)]; done) | (rw [readC, if_pos (by assumption)]; rfl) | (rw [readC, if_neg (by simp_all), if_pos (by assumption)]; done) | (rw [readC, if_neg (by simp_all), if_neg (by simp_all)]; done) | (rw [readC, if_neg (by simp_all), if_pos (by assumption)]; rfl) | (rw [readC, if_neg (by simp_all), if_neg (by simp_all)]; rfl)
 rw [e0] at hK
 exact hK
theorem u_CLose (x d tb ob fb : Nat) (c : ClSt) (id : Int) (hN : [x, tb].Nodup) (m : AMem)  (K : AV → AMem → Prop) (hK : K (.tuple []) (mW m [(x, cObj d tb ob fb c), (tb, tObj (mdel c.things id))])) : ACalls Try.prog 55 [pT x, iT id] (mW m [(x, cObj d tb ob fb c), (tb, tObj c.things)]) K := by
 refine acalls_enter Try.func55 rfl (by decide) (nB rfl) ?_
 show AWP _ _ _ _ [(0, pT x), (1, iT id)] (mW m [(x, cObj d tb ob fb c), (tb, tObj c.things)])
 refine awp_reg2 [] [] (by decide) ?_
 intro K1 hK1
 refine ⟨tv, tv, ⟨rfl, by decide⟩, ?_⟩
 refine aL rfl (v := .map tb) rfl (wG 0 hN rfl) rfl (aO rfl rfl (nB rfl)) rfl ?_
 refine ⟨tv, ?_⟩
 refine ar_delete rfl (m := m) (L := [(x, cObj d tb ob fb c), (tb, tObj c.things)]) 1 intAV thgAV intKey_ok c.things id rfl rfl rfl rfl rfl hN ?_
 show K1 [] (mW m [(x, cObj d tb ob fb c), (tb, tObj (mdel c.things id))])
 refine hK1 _ _ ?_; clear hK1 K1
 refine ⟨(mW m [(x, cObj d tb ob fb c), (tb, tObj (mdel c.things id))]), fun _ _ h => h, ?_⟩
 show K (.tuple []) _
 exact hK
theorem u_CFail (x d tb ob fb : Nat) (c : ClSt) (n : Int) (hN : [x, fb].Nodup) (hl : c.fails.length ≤ 1000000) (m : AMem)  (K : AV → AMem → Prop) (hK : K (.tuple []) (mW m [(x, cObj d tb ob fb c), (fb, fObj (mput c.fails n true))])) : ACalls Try.prog 59 [pT x, iT n] (mW m [(x, cObj d tb ob fb c), (fb, fObj c.fails)]) K := by
 refine acalls_enter Try.func59 rfl (by decide) (nB rfl) ?_
 show AWP _ _ _ _ [(0, pT x), (1, iT n)] (mW m [(x, cObj d tb ob fb c), (fb, fObj c.fails)])
 refine awp_reg2 [] [] (by decide) ?_
 intro K1 hK1
 refine ⟨tv, tv, ⟨rfl, by decide⟩, ?_⟩
 refine aL rfl (v := .map fb) rfl (wG 0 hN rfl) rfl (aO rfl rfl (nB rfl)) rfl ?_
 refine ⟨tv, ?_⟩
 refine ar_mapUpdate rfl (m := m) (L := [(x, cObj d tb ob fb c), (fb, fObj c.fails)]) 1 intAV boolAV intKey_ok c.fails n true rfl rfl rfl rfl rfl rfl hN (by have := mput_len c.fails n true; omega) ?_
 show K1 [] (mW m [(x, cObj d tb ob fb c), (fb, fObj (mput c.fails n true))])
 refine hK1 _ _ ?_; clear hK1 K1
 refine ⟨(mW m [(x, cObj d tb ob fb c), (fb, fObj (mput c.fails n true))]), fun _ _ h => h, ?_⟩
 show K (.tuple []) _
 exact hK
theorem u_CCalls (x d tb ob fb : Nat) (c : ClSt)  (m : AMem)  (K : AV → AMem → Prop) (hK : K (iT c.calls) (mW m [(x, cObj d tb ob fb c)])) : ACalls Try.prog 60 [pT x] (mW m [(x, cObj d tb ob fb c)]) K := by
 refine acalls_enter Try.func60 rfl (by decide) (nB rfl) ?_
 show AWP _ _ _ _ [(0, pT x)] (mW m [(x, cObj d tb ob fb c)])
 refine rS [] [0] (by decide) ?_
 intro K1 hK1
 refine ⟨tv, ?_⟩
 show K1 [(0, pT x)] _
 refine hK1 _ _ ?_; clear hK1 K1
 refine rS [] [2] (by decide) ?_
 intro K1 hK1
 refine ⟨tv, tv, ⟨rfl, by decide⟩, ?_⟩
 refine aL rfl (v := iT c.calls) rfl (wG 0 (nodup_1 x) rfl) rfl (aO rfl rfl (nB rfl)) rfl ?_
 refine ⟨tv, ?_⟩
 show K1 [(2, iT c.calls)] _
 refine hK1 _ _ ?_; clear hK1 K1
 refine awp_ret ?_
 refine ⟨tv, (mW m [(x, cObj d tb ob fb c)]), fun _ _ h => h, ?_⟩
 show K (iT c.calls) _
 exact hK
set_option maxHeartbeats 4000000 in
theorem u_CSpoil (x d tb ob fb : Nat) (c : ClSt) (id : Int) (v : Val) (hN : [x, tb].Nodup) (hl : c.things.length ≤ 1000000) (m : AMem)  (K : AV → AMem → Prop) (hK : K (.tuple []) (mW m [(x, cObj d tb ob fb (spoilC c id v)), (tb, tObj (spoilC c id v).things)])) : ACalls Try.prog 57 [pT x, iT id, valTop v] (mW m [(x, cObj d tb ob fb c), (tb, tObj c.things)]) K := by
 refine acalls_enter Try.func57 rfl (by decide) (nB rfl) ?_
 show AWP _ _ _ _ [(0, pT x), (1, iT id), (2, valTop v)] (mW m [(x, cObj d tb ob fb c), (tb, tObj c.things)])
 refine rS [] [0, 1, 5] (by decide) ?_
 intro K1 hK1
 refine ar_box rfl (m := m) (L := [(x, cObj d tb ob fb c), (tb, tObj c.things)]) (v := valTop v) (by rfl) rfl ?_
 intro b1 hb1
 have hFb1 : m b1 = none := wth_none hb1
 have hNb1 : ([b1, x, tb] : List Nat).Nodup := wth_nodup hb1 hN
 show K1 [(0, pT x), (1, iT id), (5, pT b1)] (mW m [(b1, .cells [iT v.kind, iT v.n, .str v.s, sF (v.l.map valIn), sF (v.f.map fldIn)]), (x, cObj d tb ob fb c), (tb, tObj c.things)])
 refine hK1 _ _ ?_; clear hK1 K1
 refine rS [] [0, 1, 5, 6, 7] (by decide) ?_
 intro K1 hK1
 refine ⟨tv, tv, ⟨rfl, by decide⟩, ?_⟩
 refine aL rfl (v := .map tb) rfl (wG 1 hNb1 rfl) rfl (aO rfl rfl (nB rfl)) rfl ?_
 refine ⟨tv, ?_⟩
 refine ar_lookupOkP rfl (m := m) (L := [(b1, .cells [iT v.kind, iT v.n, .str v.s, sF (v.l.map valIn), sF (v.f.map fldIn)]), (x, cObj d tb ob fb c), (tb, tObj c.things)]) intAV thgAV intKey_ok c.things id zT rfl rfl rfl rfl rfl rfl (wG 2 hNb1 rfl) rfl ?_
 refine ⟨tv, (nB rfl), (nB rfl), ?_⟩
 refine ar_alloc rfl (z := .agg [iT 0, .str ([]), iT 0, iT 0, .str ([]), .slice true [], .slice true []]) rfl rfl ?_
 intro b2 hb2
 have hFb2 : m b2 = none := wth_none hb2
 have hNb2 : ([b2, b1, x, tb] : List Nat).Nodup := wth_nodup hb2 hNb1
 refine aS rfl 0 (v := thgAV ((mget c.things id).getD zT)) (l' := [iT (((mget c.things id).getD zT).id), .str (((mget c.things id).getD zT).kind), iT ((((mget c.things id).getD zT).v).kind), iT ((((mget c.things id).getD zT).v).n), .str ((((mget c.things id).getD zT).v).s), sF (((((mget c.things id).getD zT).v).l).map valIn), sF (((((mget c.things id).getD zT).v).f).map fldIn)]) rfl (by rfl) hNb2 rfl rfl rfl rfl rfl (nB rfl) rfl ?_
 refine ⟨tv, ?_⟩
 show K1 [(0, pT x), (1, iT id), (5, pT b1), (6, pT b2), (7, .bool ((mget c.things id).isSome))] (mW m [(b2, .cells [iT (((mget c.things id).getD zT).id), .str (((mget c.things id).getD zT).kind), iT ((((mget c.things id).getD zT).v).kind), iT ((((mget c.things id).getD zT).v).n), .str ((((mget c.things id).getD zT).v).s), sF (((((mget c.things id).getD zT).v).l).map valIn), sF (((((mget c.things id).getD zT).v).f).map fldIn)]), (b1, .cells [iT v.kind, iT v.n, .str v.s, sF (v.l.map valIn), sF (v.f.map fldIn)]), (x, cObj d tb ob fb c), (tb, tObj c.things)])
 refine hK1 _ _ ?_; clear hK1 K1
 refine rS [] [0, 1, 5, 6, 22] (by decide) ?_
 intro K1 hK1
 suffices key : K1 [(0, pT x), (1, iT id), (5, pT b1), (6, pT b2), (22, .bool (((mget c.things id).isSome) && ((attrE v) == 0)))] (mW m [(b2, .cells [iT (((mget c.things id).getD zT).id), .str (((mget c.things id).getD zT).kind), iT ((((mget c.things id).getD zT).v).kind), iT ((((mget c.things id).getD zT).v).n), .str ((((mget c.things id).getD zT).v).s), sF (((((mget c.things id).getD zT).v).l).map valIn), sF (((((mget c.things id).getD zT).v).f).map fldIn)]), (b1, .cells [iT v.kind, iT v.n, .str v.s, sF (v.l.map valIn), sF (v.f.map fldIn)]), (x, cObj d tb ob fb c), (tb, tObj c.things)]) by
  refine ⟨tv, tv, ?_⟩
  show aopsR _ _ _ _ _ [(18, .bool ((mget c.things id).isSome)), (17, .bool ((mget c.things id).isSome)), (0, pT x), (1, iT id), (5, pT b1), (6, pT b2), (7, .bool ((mget c.things id).isSome))] _
  revert key
  cases h1 : ((mget c.things id).isSome)
  ·
   replace h1 : (mget c.things id).isSome = false := h1
   intro key
   refine ar_off rfl (ar_off rfl (ar_off rfl ?_))
   exact key
  ·
   replace h1 : (mget c.things id).isSome = true := h1
   intro key
   refine aL rfl (v := .agg [iT v.kind, iT v.n, .str v.s, sF (v.l.map valIn), sF (v.f.map fldIn)]) rfl (wG 1 hNb2 rfl) rfl (apartOk_agg rfl rfl (nB rfl)) rfl ?_
   refine u_attrs v _ _ ?_
   refine ⟨⟨rfl, rfl⟩, ?_⟩
   exact key
 refine hK1 _ _ ?_; clear hK1 K1
 refine cD rfl rfl (fun h2 => ?_) (fun h2 => ?_)
 ·
  replace h2 : ((mget c.things id).isSome = true) ∧ (attrE v = 0) := ⟨(bandL h2), (eq_of_beq (bandR h2))⟩
  refine rS [] [0, 1, 6] (by decide) ?_
  intro K1 hK1
  refine aL rfl (v := .agg [iT v.kind, iT v.n, .str v.s, sF (v.l.map valIn), sF (v.f.map fldIn)]) rfl (wG 1 hNb2 rfl) rfl (apartOk_agg rfl rfl (nB rfl)) rfl ?_
  refine u_Copy v (by first | exact okV_get hids (by assumption) | exact chk_okV (attrE_0 (by first | assumption | exact (by assumption : _ ∧ _).2))) _ _ ?_
  refine ⟨⟨rfl, by decide⟩, ?_⟩
  refine aS rfl 0 (v := valTop v) (l' := [iT (((mget c.things id).getD zT).id), .str (((mget c.things id).getD zT).kind), iT v.kind, iT v.n, .str v.s, sF (v.l.map valIn), sF (v.f.map fldIn)]) rfl (by rfl) hNb2 rfl rfl rfl rfl rfl (nB rfl) rfl ?_
  show K1 [(0, pT x), (1, iT id), (6, pT b2)] (mW m [(b2, .cells [iT (((mget c.things id).getD zT).id), .str (((mget c.things id).getD zT).kind), iT v.kind, iT v.n, .str v.s, sF (v.l.map valIn), sF (v.f.map fldIn)]), (b1, .cells [iT v.kind, iT v.n, .str v.s, sF (v.l.map valIn), sF (v.f.map fldIn)]), (x, cObj d tb ob fb c), (tb, tObj c.things)])
  refine hK1 _ _ ?_; clear hK1 K1
  refine awp_anyA Try.mixed [] (by decide) ?_
  intro K1 hK1
  intro A hA
  suffices key : ∀ (_ : True), K1 [] (mW m [(b2, .cells [iT (((mget c.things id).getD zT).id), .str (((mget c.things id).getD zT).kind), iT v.kind, iT v.n, .str v.s, sF (v.l.map valIn), sF (v.f.map fldIn)]), (b1, .cells [iT v.kind, iT v.n, .str v.s, sF (v.l.map valIn), sF (v.f.map fldIn)]), (x, cObj d tb ob fb c), (tb, tObj (mput c.things id (⟨((mget c.things id).getD zT).id, ((mget c.things id).getD zT).kind, v⟩ : Thg)))]) by
   let KK1 : Fr → AMem → Prop := (fun fr m => K1 (fr.keep []) m)
   let M1_0 : AMem := (mW m [(b2, .cells [iT (((mget c.things id).getD zT).id), .str (((mget c.things id).getD zT).kind), iT v.kind, iT v.n, .str v.s, sF (v.l.map valIn), sF (v.f.map fldIn)]), (b1, .cells [iT v.kind, iT v.n, .str v.s, sF (v.l.map valIn), sF (v.f.map fldIn)]), (x, cObj d tb ob fb c), (tb, tObj (mput c.things id (⟨((mget c.things id).getD zT).id, ((mget c.things id).getD zT).kind, v⟩ : Thg)))])
   let f1_1 : Nat × AV := (30, iT id)
   let f1_2 : Nat × AV := (31, .agg [iT (((mget c.things id).getD zT).id), .str (((mget c.things id).getD zT).kind), iT v.kind, iT v.n, .str v.s, sF (v.l.map valIn), sF (v.f.map fldIn)])
   let M1_3 : AMem := (mW m [(b2, .cells [iT (((mget c.things id).getD zT).id), .str (((mget c.things id).getD zT).kind), iT v.kind, iT v.n, .str v.s, sF (v.l.map valIn), sF (v.f.map fldIn)]), (b1, .cells [iT v.kind, iT v.n, .str v.s, sF (v.l.map valIn), sF (v.f.map fldIn)]), (x, cObj d tb ob fb c), (tb, tObj c.things)])
   let f1_4 : Nat × AV := (6, pT b2)
   let f1_5 : Nat × AV := (28, .ptr ⟨x, 1, none⟩)
   have s0 : ∀ (_ : True), A 0 #[true, true, true, true, true, true, true] KK1 [] M1_0 := by
    intro _
    subst hA
    exact AAny.done (by decide +kernel) (key tv)
   have s1 : ∀ (_ : True), A 1 #[true, true, true, true, true, true, false] KK1 [(29, .map tb), f1_1, f1_2] M1_3 := by
    intro _
    subst hA
    refine AAny.step [] [6] (by decide +kernel) (by simp) (by decide) ⟨?_, tv⟩
    ·
     show aopsR _ _ _ [_] _ _ _
     refine ar_mapUpdate rfl (m := m) (L := [(b2, .cells [iT (((mget c.things id).getD zT).id), .str (((mget c.things id).getD zT).kind), iT v.kind, iT v.n, .str v.s, sF (v.l.map valIn), sF (v.f.map fldIn)]), (b1, .cells [iT v.kind, iT v.n, .str v.s, sF (v.l.map valIn), sF (v.f.map fldIn)]), (x, cObj d tb ob fb c), (tb, tObj c.things)]) 3 intAV thgAV intKey_ok c.things id (⟨((mget c.things id).getD zT).id, ((mget c.things id).getD zT).kind, v⟩ : Thg) rfl rfl rfl rfl rfl rfl hNb2 (by have := mput_len c.things id ⟨((mget c.things id).getD zT).id, ((mget c.things id).getD zT).kind, v⟩; omega) ?_
     refine AAny.keep [] (by decide) ?_
     exact s0 trivial
   clear s0
   have s2 : ∀ (_ : True), A 2 #[true, true, true, true, true, false, false] KK1 [f1_4, (29, .map tb), f1_1] M1_3 := by
    intro _
    subst hA
    refine AAny.step [] [5] (by decide +kernel) (by simp) (by decide) ⟨?_, tv⟩
    ·
     show aopsR _ _ _ [_] _ _ _
     refine aL rfl (v := .agg [iT (((mget c.things id).getD zT).id), .str (((mget c.things id).getD zT).kind), iT v.kind, iT v.n, .str v.s, sF (v.l.map valIn), sF (v.f.map fldIn)]) rfl (wG 0 hNb2 rfl) rfl (apartOk_agg rfl rfl (nB rfl)) rfl ?_
     refine AAny.keep [29, 30, 31] (by decide) ?_
     exact s1 trivial
   have s3 : ∀ (_ : True), A 2 #[true, true, true, false, true, true, false] KK1 [f1_5, f1_1, f1_2] M1_3 := by
    intro _
    subst hA
    refine AAny.step [] [3] (by decide +kernel) (by simp) (by decide) ⟨?_, tv⟩
    ·
     show aopsR _ _ _ [_] _ _ _
     refine aL rfl (v := .map tb) rfl (wG 2 hNb2 rfl) rfl (aO rfl rfl (nB rfl)) rfl ?_
     refine AAny.keep [29, 30, 31] (by decide) ?_
     exact s1 trivial
   clear s1
   have s4 : ∀ (_ : True), A 3 #[true, true, true, false, true, false, false] KK1 [f1_4, f1_5, f1_1] M1_3 := by
    intro _
    subst hA
    refine AAny.step [] [3, 5] (by decide +kernel) (by simp) (by decide) ⟨?_, ?_, tv⟩
    ·
     show aopsR _ _ _ [_] _ _ _
     refine aL rfl (v := .map tb) rfl (wG 2 hNb2 rfl) rfl (aO rfl rfl (nB rfl)) rfl ?_
     refine AAny.keep [6, 29, 30] (by decide) ?_
     exact s2 trivial
    ·
     show aopsR _ _ _ [_] _ _ _
     refine aL rfl (v := .agg [iT (((mget c.things id).getD zT).id), .str (((mget c.things id).getD zT).kind), iT v.kind, iT v.n, .str v.s, sF (v.l.map valIn), sF (v.f.map fldIn)]) rfl (wG 0 hNb2 rfl) rfl (apartOk_agg rfl rfl (nB rfl)) rfl ?_
     refine AAny.keep [28, 30, 31] (by decide) ?_
     exact s3 trivial
   clear s2 s3
   subst hA
   refine AAny.fMove (i := 0) rfl rfl rfl (by decide) rfl (by decide +kernel) rfl ?_
   refine AAny.fNil (i := 1) rfl rfl rfl (by decide) rfl (by decide +kernel) rfl ?_
   refine AAny.fField (i := 2) rfl rfl rfl (by decide) rfl (by decide +kernel) rfl rfl ⟨rfl, by decide⟩ ?_
   refine AAny.fMove (i := 4) rfl rfl rfl (by decide) rfl (by decide +kernel) rfl ?_
   refine AAny.keep [6, 28, 30] (by decide) ?_
   exact s4 trivial
  intro _
  refine hK1 _ _ ?_; clear hK1 K1
  refine ⟨(mW m [(x, cObj d tb ob fb c), (tb, tObj (mput c.things id (⟨((mget c.things id).getD zT).id, ((mget c.things id).getD zT).kind, v⟩ : Thg)))]), (wth_sub2 (m := m) [(b2, .cells [iT (((mget c.things id).getD zT).id), .str (((mget c.things id).getD zT).kind), iT v.kind, iT v.n, .str v.s, sF (v.l.map valIn), sF (v.f.map fldIn)]), (b1, .cells [iT v.kind, iT v.n, .str v.s, sF (v.l.map valIn), sF (v.f.map fldIn)])] [(x, cObj d tb ob fb c), (tb, tObj (mput c.things id (⟨((mget c.things id).getD zT).id, ((mget c.things id).getD zT).kind, v⟩ : Thg)))] hNb2 (by simp only [List.map_cons, List.map_nil, List.forall_mem_cons]; exact ⟨hFb2, hFb1, nfA⟩)), ?_⟩
  show K (.tuple []) (AMem.wth m [(x, cObj d tb ob fb c), (tb, tObj (mput c.things id (⟨((mget c.things id).getD zT).id, ((mget c.things id).getD zT).kind, v⟩ : Thg)))])
 
  have e0 : spoilC c id v = ((⟨mput c.things id (⟨((mget c.things id).getD zT).id, ((mget c.things id).getD zT).kind, v⟩ : Thg), c.tokens, c.next, c.quota, c.calls, c.fails⟩ : ClSt) : ClSt) := by
   first | (rw [spoilC, if_pos (by assumption)]; done) | (rw [spoilC, if_neg (by rintro ⟨q1, q2⟩; rcases h2 with q | q <;> simp_all)]; done)
  rw [e0] at hK
  exact hK
 replace h2 : ((mget c.things id).isSome = false) ∨ (attrE v ≠ 0) := ((bandF h2).imp (fun q => q) (fun q => (ne_of_beq_false q)))
 refine awp_skip ?_
 refine ⟨(mW m [(x, cObj d tb ob fb c), (tb, tObj c.things)]), (wth_sub2 (m := m) [(b2, .cells [iT (((mget c.things id).getD zT).id), .str (((mget c.things id).getD zT).kind), iT ((((mget c.things id).getD zT).v).kind), iT ((((mget c.things id).getD zT).v).n), .str ((((mget c.things id).getD zT).v).s), sF (((((mget c.things id).getD zT).v).l).map valIn), sF (((((mget c.things id).getD zT).v).f).map fldIn)]), (b1, .cells [iT v.kind, iT v.n, .str v.s, sF (v.l.map valIn), sF (v.f.map fldIn)])] [(x, cObj d tb ob fb c), (tb, tObj c.things)] hNb2 (by simp only [List.map_cons, List.map_nil, List.forall_mem_cons]; exact ⟨hFb2, hFb1, nfA⟩)), ?_⟩
 show K (.tuple []) (AMem.wth m [(x, cObj d tb ob fb c), (tb, tObj c.things)])
 have e0 : spoilC c id v = (c : ClSt) := by
  first | (rw [spoilC, if_pos (by assumption)]; done) | (rw [spoilC, if_neg (by rintro ⟨q1, q2⟩; rcases h2 with q | q <;> simp_all)]; done)
 rw [e0] at hK
 exact hK
end Go.Proofs
end
section
namespace Go.Proofs
open Go Go.Aw
set_option maxRecDepth 100000
structure Dn3 where
  tok : Str
  op : Int
  id : Int
instance : Inhabited Dn3 := ⟨⟨[], 0, 0⟩⟩
def dn3AV (x : Dn3) : AV := .agg [.str x.tok, iT x.op, iT x.id]
def toksR (l : List (Str × Dn)) : List Dn3 := l.map fun p => ⟨p.1, p.2.op, p.2.id⟩
def rcObj (e : Nat) (av : AV) (c : ClSt) (F : List Int) : AObj := .cells [pT e, av, sT ((toksR c.tokens).map dn3AV), iT c.next, iT c.quota, iT c.calls, sT (F.map intAV)]
def placeF : List Thg → Int → Int → Int
  | [], _, _ => -1
  | t :: r, id, i => if t.id = id then i else placeF r id (i + 1)
def placeR (l : List Thg) (id : Int) : Int := placeF l id 0
def vals (c : ClSt) : List Thg := c.things.map Prod.snd
theorem gI_takeK {α : Type} [Inhabited α] (l : List α) {k : Nat} {i : Int} (h0 : 0 ≤ i) (h : i < k) : gI (l.take k) i = gI l i := by
  unfold gI
  simp only [List.getD_eq_getElem?_getD]
  rw [List.getElem?_take_of_lt (by omega)]
theorem placeF_step {l : List Thg} {id i : Int} (h0 : 0 ≤ i) (hi : i < l.length) : placeF (l.drop i.toNat) id i = if (gI l i).id = id then i else placeF (l.drop (i + 1).toNat) id (i + 1) := by
  rw [drop_gI h0 hi, placeF]
theorem placeF_idx (id : Int) : ∀ (L : List (Int × Thg)) (i : Int), (∀ p ∈ L, p.2.id = p.1) → placeF (L.map Prod.snd) id i = match midx L id with | none => -1 | some j => i + (j : Int)
  | [], _, _ => rfl
  | (a, t) :: r, i, h => by
    have ht := h (a, t) (List.mem_cons_self ..)
    simp only at ht
    rw [List.map_cons, placeF, midx]
    by_cases e : a = id
    · rw [if_pos (by rw [ht]; exact e), if_pos e]; simp
    · rw [if_neg (by rw [ht]; exact e), if_neg e, placeF_idx id r (i + 1) fun p hp => h p (List.mem_cons_of_mem _ hp)]
      cases midx r id with
      | none => rfl
      | some j => show i + 1 + (j : Int) = i + ((j + 1 : Nat) : Int); omega
theorem place_at {c : ClSt} (h : ∀ p ∈ c.things, p.2.id = p.1) (id : Int) : (placeR (vals c) id = -1 ∧ mget c.things id = none) ∨ (0 ≤ placeR (vals c) id ∧ placeR (vals c) id < (vals c).length ∧ mget c.things id = some (gI (vals c) (placeR (vals c) id)) ∧ ∀ t, (mput c.things id t).map Prod.snd = (vals c).set (placeR (vals c) id).toNat t) := by
  have e := placeF_idx id c.things 0 h
  rw [show placeF (c.things.map Prod.snd) id 0 = placeR (vals c) id from rfl] at e
  cases hm : midx c.things id with
  | none => rw [hm] at e; exact .inl ⟨e, (midx_none hm).1⟩
  | some j =>
    rw [hm] at e
    obtain ⟨b, h1, h2, _, h4⟩ := midx_some hm
    have hj := (List.getElem?_eq_some_iff.1 h1).1
    replace e : placeR (vals c) id = (j : Int) := by rw [e]; simp
    refine .inr ⟨by omega, by rw [e]; unfold vals; rw [List.length_map]; omega, ?_, fun t => ?_⟩
    · rw [h2, e]; unfold gI vals
      simp [List.getD_eq_getElem?_getD, h1]
    · rw [h4, e]; unfold vals
      rw [List.map_set]; rfl
theorem u_place_nil (r e : Nat) (c : ClSt) (F : List Int) (id : Int)  (m : AMem)  (K : AV → AMem → Prop) (hK : K (iT (-1)) (mW m [(r, rcObj e .nils c F)])) : ACalls Try.prog 85 [pT r, iT id] (mW m [(r, rcObj e .nils c F)]) K := by
 refine acalls_enter Try.func85 rfl (by decide) (nB rfl) ?_
 show AWP _ _ _ _ [(0, pT r), (1, iT id)] (mW m [(r, rcObj e .nils c F)])
 refine rS [] [0, 1] (by decide) ?_
 intro K1 hK1
 refine ⟨tv, ?_⟩
 show K1 [(0, pT r), (1, iT id)] _
 refine hK1 _ _ ?_; clear hK1 K1
 refine sK ?_; intro K2 hK2
 refine rS [] [0, 1, 5] (by decide) ?_
 intro K1 hK1
 refine ⟨tv, ?_⟩
 show K1 [(0, pT r), (1, iT id), (5, iT 0)] _
 refine hK1 _ _ ?_; clear hK1 K1
 refine awp_block ?_
 refine awp_keep [0, 1, 5] (by decide) ?_
 refine awp_loop_st (σ := Int) (fun i => [(0, pT r), (1, iT id), (5, iT i)]) (fun _ => (mW m [(r, rcObj e .nils c F)])) (fun i => i = 0) (fun i => 1) (0) rfl rfl ?_ ?_
 ·
  show ((0 : Int)) = 0
  rfl
 rintro i hI
 replace hI : i = 0 := hI
 show AWP _ _ _ _ [(0, pT r), (1, iT id), (5, iT i)] (mW m [(r, rcObj e .nils c F)])
 refine sK ?_; intro K3 hK3
 refine rS [] [0, 1, 5, 12] (by decide) ?_
 intro K1 hK1
 refine ⟨tv, tv, tv, ⟨rfl, by decide⟩, ?_⟩
 refine aL rfl (v := .nils) rfl (wG 0 (nodup_1 r) rfl) rfl (aO rfl rfl (nB rfl)) rfl ?_
 refine ⟨tv, tv, ?_⟩
 show K1 [(0, pT r), (1, iT id), (5, iT i), (12, .bool (decide (i < 0)))] _
 refine hK1 _ _ ?_; clear hK1 K1
 refine cD rfl rfl (fun h1 => ?_) (fun h1 => ?_)
 ·
  replace h1 : i < 0 := (of_decide_eq_true h1)
  omega
 replace h1 : 0 ≤ i := (Int.not_lt.1 (of_decide_eq_false h1))
 refine awp_exit ?_
 refine hK2 _ _ ?_; clear hK2
 refine rS [] [4] (by decide) ?_
 intro K1 hK1
 refine ⟨tv, ?_⟩
 show K1 [(4, iT (-1))] (mW m [(r, rcObj e .nils c F)])
 refine hK1 _ _ ?_; clear hK1 K1
 refine awp_ret ?_
 refine ⟨tv, (mW m [(r, rcObj e .nils c F)]), fun _ _ h => h, ?_⟩
 show K (iT (-1)) _
 exact hK
set_option maxHeartbeats 2000000 in
theorem u_place_ms (r e b k : Nat) (zs : List Thg) (c : ClSt) (F : List Int) (id : Int) (hN : [r, b].Nodup) (hk : k ≤ zs.length) (hkb : k ≤ 1000000) (m : AMem)  (K : AV → AMem → Prop) (hK : K (iT (placeR (zs.take k) id)) (mW m [(r, rcObj e (.ms ⟨b, 0, none⟩ k zs.length) c F), (b, .cells (flatK thgAV zs))])) : ACalls Try.prog 85 [pT r, iT id] (mW m [(r, rcObj e (.ms ⟨b, 0, none⟩ k zs.length) c F), (b, .cells (flatK thgAV zs))]) K := by
 refine acalls_enter Try.func85 rfl (by decide) (nB rfl) ?_
 show AWP _ _ _ _ [(0, pT r), (1, iT id)] (mW m [(r, rcObj e (.ms ⟨b, 0, none⟩ k zs.length) c F), (b, .cells (flatK thgAV zs))])
 refine rS [] [0, 1] (by decide) ?_
 intro K1 hK1
 refine ⟨tv, ?_⟩
 show K1 [(0, pT r), (1, iT id)] _
 refine hK1 _ _ ?_; clear hK1 K1
 refine sK ?_; intro K2 hK2
 refine rS [] [0, 1, 5] (by decide) ?_
 intro K1 hK1
 refine ⟨tv, ?_⟩
 show K1 [(0, pT r), (1, iT id), (5, iT 0)] _
 refine hK1 _ _ ?_; clear hK1 K1
 refine awp_block ?_
 refine awp_keep [0, 1, 5] (by decide) ?_
 refine awp_loop_st (σ := Int) (fun i => [(0, pT r), (1, iT id), (5, iT i)]) (fun _ => (mW m [(r, rcObj e (.ms ⟨b, 0, none⟩ k zs.length) c F), (b, .cells (flatK thgAV zs))])) (fun i => 0 ≤ i ∧ i ≤ k ∧ placeR (zs.take k) id = placeF ((zs.take k).drop i.toNat) id i) (fun i => k - i.toNat) (0) rfl rfl ?_ ?_
 ·
  show 0 ≤ ((0 : Int)) ∧ ((0 : Int)) ≤ k ∧ placeR (zs.take k) id = placeF ((zs.take k).drop ((0 : Int)).toNat) id ((0 : Int))
  exact ⟨by omega, by omega, rfl⟩
 rintro i hI
 replace hI : 0 ≤ i ∧ i ≤ k ∧ placeR (zs.take k) id = placeF ((zs.take k).drop i.toNat) id i := hI
 have hlk : ((zs.take k).length : Int) = k := by rw [List.length_take, Nat.min_eq_left hk]
 show AWP _ _ _ _ [(0, pT r), (1, iT id), (5, iT i)] (mW m [(r, rcObj e (.ms ⟨b, 0, none⟩ k zs.length) c F), (b, .cells (flatK thgAV zs))])
 refine sK ?_; intro K3 hK3
 refine rS [] [0, 1, 5, 12] (by decide) ?_
 intro K1 hK1
 refine ⟨tv, tv, tv, ⟨rfl, by decide⟩, ?_⟩
 refine aL rfl (v := .ms ⟨b, 0, none⟩ k zs.length) rfl (wG 0 hN rfl) rfl (aO rfl rfl (nB rfl)) rfl ?_
 refine ⟨(by omega), tv, ?_⟩
 show K1 [(0, pT r), (1, iT id), (5, iT i), (12, .bool (decide (i < ((k : Nat) : Int))))] _
 refine hK1 _ _ ?_; clear hK1 K1
 refine cD rfl rfl (fun h1 => ?_) (fun h1 => ?_)
 ·
  replace h1 : i < ((k : Nat) : Int) := (of_decide_eq_true h1)
  refine awp_skip ?_
  refine hK3 _ _ ?_; clear hK3
  refine sK ?_; intro K4 hK4
  refine awp_block ?_
  refine rS [] [0, 1, 5, 24] (by decide) ?_
  intro K1 hK1
  refine ⟨tv, tv, ⟨rfl, by decide⟩, ?_⟩
  refine aL rfl (v := .ms ⟨b, 0, none⟩ k zs.length) rfl (wG 0 hN rfl) rfl (aO rfl rfl (nB rfl)) rfl ?_
  refine ⟨tv, ⟨rfl, (by omega), (by omega)⟩, ⟨rfl, by decide⟩, ?_⟩
  refine ar_loadk rfl (m := m) (L := [(r, rcObj e (.ms ⟨b, 0, none⟩ k zs.length) c F), (b, .cells (flatK thgAV zs))]) thgAV zs i 0 (v := iT ((gI zs i).id)) rfl (by show 0 + (i).toNat * 7 + 0 = (i).toNat * 7 + 0; omega) (wG 1 hN rfl) rfl (fun _ => rfl) rfl (nB rfl) (nB rfl) rfl (by omega) (by omega) ?_
  refine ⟨tv, tv, ?_⟩
  show K1 [(0, pT r), (1, iT id), (5, iT i), (24, .bool (((gI zs i).id) == id))] (mW m [(r, rcObj e (.ms ⟨b, 0, none⟩ k zs.length) c F), (b, .cells (flatK thgAV zs))])
  refine hK1 _ _ ?_; clear hK1 K1
  refine cD rfl rfl (fun h2 => ?_) (fun h2 => ?_)
  ·
   replace h2 : (gI zs i).id = id := (eq_of_beq h2)
   refine rS [] [4] (by decide) ?_
   intro K1 hK1
   refine ⟨tv, tv, ?_⟩
   show K1 [(4, iT i)] (mW m [(r, rcObj e (.ms ⟨b, 0, none⟩ k zs.length) c F), (b, .cells (flatK thgAV zs))])
   refine hK1 _ _ ?_; clear hK1 K1
   refine awp_ret ?_
   refine ⟨tv, (mW m [(r, rcObj e (.ms ⟨b, 0, none⟩ k zs.length) c F), (b, .cells (flatK thgAV zs))]), fun _ _ h => h, ?_⟩
   show K (iT i) _
  
   rw [hI.2.2, placeF_step hI.1 (by omega), gI_takeK _ hI.1 h1, if_pos (by assumption)] at hK; exact hK
  replace h2 : (gI zs i).id ≠ id := (ne_of_beq_false h2)
  refine awp_skip ?_
  refine hK4 _ _ ?_; clear hK4
  refine awp_reg2 [] [0, 1, 5] (by decide) ?_
  intro K1 hK1
  refine ⟨tv, ?_⟩
  refine ar_add rfl (a := i) (b := 1) rfl rfl (by omega) (by omega) ?_
  refine ⟨tv, ?_⟩
  show K1 [(0, pT r), (1, iT id), (5, iT (i + 1))] (mW m [(r, rcObj e (.ms ⟨b, 0, none⟩ k zs.length) c F), (b, .cells (flatK thgAV zs))])
  refine hK1 _ _ ?_; clear hK1 K1
  refine ⟨(i + 1), rfl, rfl, ?_, ?_⟩
  ·
   show 0 ≤ ((i + 1 : Int)) ∧ ((i + 1 : Int)) ≤ k ∧ placeR (zs.take k) id = placeF ((zs.take k).drop ((i + 1 : Int)).toNat) id ((i + 1 : Int))
   exact ⟨by omega, by omega, by rw [hI.2.2, placeF_step hI.1 (by omega), gI_takeK _ hI.1 h1, if_neg (by assumption)]⟩
  ·
   show k - ((i + 1 : Int)).toNat < k - i.toNat
   omega
 replace h1 : ((k : Nat) : Int) ≤ i := (Int.not_lt.1 (of_decide_eq_false h1))
 refine awp_exit ?_
 refine hK2 _ _ ?_; clear hK2
 refine rS [] [4] (by decide) ?_
 intro K1 hK1
 refine ⟨tv, ?_⟩
 show K1 [(4, iT (-1))] (mW m [(r, rcObj e (.ms ⟨b, 0, none⟩ k zs.length) c F), (b, .cells (flatK thgAV zs))])
 refine hK1 _ _ ?_; clear hK1 K1
 refine awp_ret ?_
 refine ⟨tv, (mW m [(r, rcObj e (.ms ⟨b, 0, none⟩ k zs.length) c F), (b, .cells (flatK thgAV zs))]), fun _ _ h => h, ?_⟩
 show K (iT (-1)) _
 rw [hI.2.2, List.drop_eq_nil_of_le (by omega)] at hK; exact hK
theorem u_place (r e : Nat) (c : ClSt) (F : List Int) (id : Int) {m : AMem} {H : List (Nat × AObj)} {av : AV} {l : List Thg} {ks : List Nat} (hT : HidR thgAV m ks H av l) (hr : r ∈ ks) (hl : l.length ≤ 1000000) (K : AV → AMem → Prop) (hK : K (iT (placeR l id)) ((m.wth H).wth [(r, rcObj e av c F)])) :
    ACalls Try.prog 85 [pT r, iT id] ((m.wth H).wth [(r, rcObj e av c F)]) K := by
  rcases hT.sh with ⟨rfl, rfl, rfl⟩ | ⟨b, zs, rfl, rfl, hle, htk⟩
  · exact u_place_nil r e c F id m K hK
  · have hne : r ≠ b := by have := hT.nin hr; simpa using this
    exact u_place_ms r e b l.length zs c F id (by simp [hne]) hle hl m K (by rw [htk]; exact hK)
theorem nil_vals {c : ClSt} {m : AMem} {ks : List Nat} (hz : c.things = []) : HidR thgAV m ks [] .nils (vals c) := by
  rw [show vals c = [] from by unfold vals; rw [hz]; rfl]; exact HidR.nil m ks
theorem hid_front {m : AMem} {b : Nat} {x : AObj} {L : List (Nat × AObj)} (hN : (((b, x) :: L).map Prod.fst).Nodup) : m.wth ((b, x) :: L) = (m.wth [(b, x)]).wth L := by
  rw [← wth_append]
  exact wth_perm hN (by simpa using (List.perm_append_singleton (b, x) L).symm)
theorem lose_vals {c : ClSt} (hi : ∀ p ∈ c.things, p.2.id = p.1) (hn : (c.things.map Prod.fst).Nodup) (id : Int) : (vals c).filter (fun t => !(t.id == id)) = (mdel c.things id).map Prod.snd := by
  unfold vals
  revert hi hn
  generalize c.things = l
  induction l with
  | nil => intro _ _; rfl
  | cons p r ih =>
    obtain ⟨a, t⟩ := p
    intro hi hn
    rw [List.map_cons, List.nodup_cons] at hn
    have ht : t.id = a := hi (a, t) (List.mem_cons_self ..)
    have ih := ih (fun p hp => hi p (List.mem_cons_of_mem _ hp)) hn.2
    rw [List.map_cons, List.filter_cons, mdel]
    by_cases e : a = id
    · subst e
      rw [if_neg (by simp [ht]), if_pos rfl, ih]
      rw [show mdel r a = r from by
        cases hm : midx r a with
        | none => exact (midx_none hm).2.1
        | some j =>
          obtain ⟨b, h1, _⟩ := midx_some hm
          exact absurd (List.mem_map.2 ⟨(a, b), List.mem_of_getElem? h1, rfl⟩) hn.1]
    · rw [if_pos (by simp [ht, e]), if_neg e, List.map_cons, ih]
set_option maxHeartbeats 2000000 in
theorem u_RRead_nil (r e : Nat) (q : RSt) (s : DSt) (c : ClSt) (F : List Int) (id : Int) (hN : [r, e].Nodup) (hz : c.things = []) (m : AMem)  (K : AV → AMem → Prop) (hK : K (.tuple [thgAV (readC c s id).1, iT (readC c s id).2]) (mW m [(r, rcObj e .nils c F), (e, zR s)])) : ACalls Try.prog 53 [pT r, iT id] (mW m [(r, rcObj e .nils c F), (e, zR s)]) K := by
 refine acalls_enter Try.func53 rfl (by decide) (nB rfl) ?_
 show AWP _ _ _ _ [(0, pT r), (1, iT id)] (mW m [(r, rcObj e .nils c F), (e, zR s)])
 refine rS [] [0, 1, 4] (by decide) ?_
 intro K1 hK1
 refine ar_alloc rfl (z := .agg [iT 0, .str ([]), iT 0, iT 0, .str ([]), .slice true [], .slice true []]) rfl rfl ?_
 intro b1 hb1
 have hFb1 : m b1 = none := wth_none hb1
 have hNb1 : ([b1, r, e] : List Nat).Nodup := wth_nodup hb1 hN
 refine ⟨tv, ?_⟩
 show K1 [(0, pT r), (1, iT id), (4, pT b1)] (mW m [(b1, .cells [iT 0, .str ([]), iT 0, iT 0, .str ([]), .slice true [], .slice true []]), (r, rcObj e .nils c F), (e, zR s)])
 refine hK1 _ _ ?_; clear hK1 K1
 refine sK ?_; intro K2 hK2
 refine rS [] [0, 1, 4, 13] (by decide) ?_
 intro K1 hK1
 refine ⟨tv, tv, ⟨rfl, by decide⟩, ?_⟩
 refine aL rfl (v := pT e) rfl (wG 1 hNb1 rfl) rfl (aO rfl rfl (nB rfl)) rfl ?_
 refine ⟨tv, ⟨rfl, by decide⟩, ?_⟩
 refine aL rfl (v := .bool s.down) rfl (wG 2 hNb1 rfl) rfl (aO rfl rfl (nB rfl)) rfl ?_
 show K1 [(0, pT r), (1, iT id), (4, pT b1), (13, .bool s.down)] _
 refine hK1 _ _ ?_; clear hK1 K1
 refine cD rfl rfl (fun h1 => ?_) (fun h1 => ?_)
 ·
  replace h1 : s.down = true := h1
  refine rS [] [4, 5] (by decide) ?_
  intro K1 hK1
  refine ⟨⟨rfl, by simp only [List.forall_mem_cons]; exact ⟨rfl, rfl, rfl, nfA⟩, nfA⟩, ?_⟩
  refine aS rfl 0 (v := .agg [iT 0, .str ([]), iT 0, iT 0, .str ([]), .slice true [], .slice true []]) (l' := [iT 0, .str ([]), iT 0, iT 0, .str ([]), .slice true [], .slice true []]) rfl rfl hNb1 rfl rfl rfl rfl rfl (nB rfl) rfl ?_
  refine ⟨tv, ?_⟩
  show K1 [(4, pT b1), (5, iT 10)] (mW m [(b1, .cells [iT 0, .str ([]), iT 0, iT 0, .str ([]), .slice true [], .slice true []]), (r, rcObj e .nils c F), (e, zR s)])
  refine hK1 _ _ ?_; clear hK1 K1
  refine awp_ret ?_
  refine resK_cell2 (fn := Try.f53) (a := 4) (t := 80) (s := 5) (b := b1) (off := 0) rfl rfl (wG  (m := m) (L := [(b1, .cells [iT 0, .str ([]), iT 0, iT 0, .str ([]), .slice true [], .slice true []]), (r, rcObj e .nils c F), (e, zR s)]) 0 hNb1 rfl) (apartOk_agg rfl rfl (nB rfl)) (.agg [iT 0, .str ([]), iT 0, iT 0, .str ([]), .slice false [], .slice false []]) (iT 10) rfl rfl (iT 10) rfl (mW m [(r, rcObj e .nils c F), (e, zR s)]) ((wth_sub2 (m := m) [(b1, .cells [iT 0, .str ([]), iT 0, iT 0, .str ([]), .slice true [], .slice true []])] [(r, rcObj e .nils c F), (e, zR s)] hNb1 (by simp only [List.map_cons, List.map_nil, List.forall_mem_cons]; exact ⟨hFb1, nfA⟩))) ?_
  show K (.tuple [.agg [iT 0, .str ([]), iT 0, iT 0, .str ([]), .slice false [], .slice false []], iT 10]) (AMem.wth m [(r, rcObj e .nils c F), (e, zR s)])
 
  have e0 : readC c s id = (((⟨0, [], (⟨0, 0, [], [], []⟩ : Val)⟩ : Thg), 10) : Thg × Int) := by
   first | (rw [readC, if_pos (by assumption)]; done) | (rw [readC, if_pos (by assumption)]; rfl) | (rw [readC, if_neg (by simp_all), if_pos (by rw [hz]; rfl)]; done) | (rw [readC, if_neg (by simp_all), if_pos (by rw [hz]; rfl)]; rfl)
  rw [e0] at hK
  exact hK
 replace h1 : s.down = false := h1
 refine awp_skip ?_
 refine hK2 _ _ ?_; clear hK2
 refine rS [] [0, 4, 6] (by decide) ?_
 intro K1 hK1
 refine ⟨tv, tv, ?_⟩
 refine ar_mem (wS hNb1 (pick_perm [1] _)) ?_
 refine u_place_nil r e c F id _ _ ?_
 refine ar_mem (wS (m := m) (L := [(b1, .cells [iT 0, .str ([]), iT 0, iT 0, .str ([]), .slice true [], .slice true []]), (r, rcObj e .nils c F), (e, zR s)]) hNb1 (pick_perm [1] _)).symm ?_
 refine ⟨tv, ?_⟩
 show K1 [(0, pT r), (4, pT b1), (6, iT (-1))] (mW m [(b1, .cells [iT 0, .str ([]), iT 0, iT 0, .str ([]), .slice true [], .slice true []]), (r, rcObj e .nils c F), (e, zR s)])
 refine hK1 _ _ ?_; clear hK1 K1
 refine sK ?_; intro K3 hK3
 refine rS [] [0, 4, 6, 19] (by decide) ?_
 intro K1 hK1
 refine ⟨tv, tv, ?_⟩
 show K1 [(0, pT r), (4, pT b1), (6, iT (-1)), (19, .bool true)] _
 refine hK1 _ _ ?_; clear hK1 K1
 refine cD rfl rfl (fun hcz => ?_) (fun hcz => ?_)
 rotate_left; · cases hcz
 clear hcz
 refine rS [] [4, 5] (by decide) ?_
 intro K1 hK1
 refine ⟨⟨rfl, by simp only [List.forall_mem_cons]; exact ⟨rfl, rfl, rfl, nfA⟩, nfA⟩, ?_⟩
 refine aS rfl 0 (v := .agg [iT 0, .str ([]), iT 0, iT 0, .str ([]), .slice true [], .slice true []]) (l' := [iT 0, .str ([]), iT 0, iT 0, .str ([]), .slice true [], .slice true []]) rfl rfl hNb1 rfl rfl rfl rfl rfl (nB rfl) rfl ?_
 refine ⟨tv, ?_⟩
 show K1 [(4, pT b1), (5, iT 7)] _
 refine hK1 _ _ ?_; clear hK1 K1
 refine awp_ret ?_
 refine resK_cell2 (fn := Try.f53) (a := 4) (t := 80) (s := 5) (b := b1) (off := 0) rfl rfl (wG  (m := m) (L := [(b1, .cells [iT 0, .str ([]), iT 0, iT 0, .str ([]), .slice true [], .slice true []]), (r, rcObj e .nils c F), (e, zR s)]) 0 hNb1 rfl) (apartOk_agg rfl rfl (nB rfl)) (.agg [iT 0, .str ([]), iT 0, iT 0, .str ([]), .slice false [], .slice false []]) (iT 7) rfl rfl (iT 7) rfl (mW m [(r, rcObj e .nils c F), (e, zR s)]) ((wth_sub2 (m := m) [(b1, .cells [iT 0, .str ([]), iT 0, iT 0, .str ([]), .slice true [], .slice true []])] [(r, rcObj e .nils c F), (e, zR s)] hNb1 (by simp only [List.map_cons, List.map_nil, List.forall_mem_cons]; exact ⟨hFb1, nfA⟩))) ?_
 show K (.tuple [.agg [iT 0, .str ([]), iT 0, iT 0, .str ([]), .slice false [], .slice false []], iT 7]) (AMem.wth m [(r, rcObj e .nils c F), (e, zR s)])
 have e0 : readC c s id = (((⟨0, [], (⟨0, 0, [], [], []⟩ : Val)⟩ : Thg), 7) : Thg × Int) := by
  first | (rw [readC, if_pos (by assumption)]; done) | (rw [readC, if_pos (by assumption)]; rfl) | (rw [readC, if_neg (by simp_all), if_pos (by rw [hz]; rfl)]; done) | (rw [readC, if_neg (by simp_all), if_pos (by rw [hz]; rfl)]; rfl)
 rw [e0] at hK
 exact hK
set_option maxHeartbeats 2000000 in
theorem u_RRead_ms (r e b k : Nat) (zs : List Thg) (q : RSt) (s : DSt) (c : ClSt) (F : List Int) (id : Int) (hN : [r, e, b].Nodup) (hk : k ≤ zs.length) (hkb : k ≤ 1000000) (hv : zs.take k = vals c) (hids : ∀ p ∈ c.things, p.2.id = p.1) (m : AMem) (hb : m b = none) (K : AV → AMem → Prop) (hK : K (.tuple [thgAV (readC c s id).1, iT (readC c s id).2]) (mW m [(r, rcObj e (.ms ⟨b, 0, none⟩ k zs.length) c F), (e, zR s), (b, .cells (flatK thgAV zs))])) : ACalls Try.prog 53 [pT r, iT id] (mW m [(r, rcObj e (.ms ⟨b, 0, none⟩ k zs.length) c F), (e, zR s), (b, .cells (flatK thgAV zs))]) K := by
 have hpa := place_at hids id
 rw [← hv] at hpa
 have hlk : (zs.take k).length = k := by rw [List.length_take, Nat.min_eq_left hk]
 rw [hlk] at hpa
 refine acalls_enter Try.func53 rfl (by decide) (nB rfl) ?_
 show AWP _ _ _ _ [(0, pT r), (1, iT id)] (mW m [(r, rcObj e (.ms ⟨b, 0, none⟩ k zs.length) c F), (e, zR s), (b, .cells (flatK thgAV zs))])
 refine rS [] [0, 1, 4] (by decide) ?_
 intro K1 hK1
 refine ar_alloc rfl (z := .agg [iT 0, .str ([]), iT 0, iT 0, .str ([]), .slice true [], .slice true []]) rfl rfl ?_
 intro b1 hb1
 have hFb1 : m b1 = none := wth_none hb1
 have hNb1 : ([b1, r, e, b] : List Nat).Nodup := wth_nodup hb1 hN
 refine ⟨tv, ?_⟩
 show K1 [(0, pT r), (1, iT id), (4, pT b1)] (mW m [(b1, .cells [iT 0, .str ([]), iT 0, iT 0, .str ([]), .slice true [], .slice true []]), (r, rcObj e (.ms ⟨b, 0, none⟩ k zs.length) c F), (e, zR s), (b, .cells (flatK thgAV zs))])
 refine hK1 _ _ ?_; clear hK1 K1
 refine sK ?_; intro K2 hK2
 refine rS [] [0, 1, 4, 13] (by decide) ?_
 intro K1 hK1
 refine ⟨tv, tv, ⟨rfl, by decide⟩, ?_⟩
 refine aL rfl (v := pT e) rfl (wG 1 hNb1 rfl) rfl (aO rfl rfl (nB rfl)) rfl ?_
 refine ⟨tv, ⟨rfl, by decide⟩, ?_⟩
 refine aL rfl (v := .bool s.down) rfl (wG 2 hNb1 rfl) rfl (aO rfl rfl (nB rfl)) rfl ?_
 show K1 [(0, pT r), (1, iT id), (4, pT b1), (13, .bool s.down)] _
 refine hK1 _ _ ?_; clear hK1 K1
 refine cD rfl rfl (fun h1 => ?_) (fun h1 => ?_)
 ·
  replace h1 : s.down = true := h1
  refine rS [] [4, 5] (by decide) ?_
  intro K1 hK1
  refine ⟨⟨rfl, by simp only [List.forall_mem_cons]; exact ⟨rfl, rfl, rfl, nfA⟩, nfA⟩, ?_⟩
  refine aS rfl 0 (v := .agg [iT 0, .str ([]), iT 0, iT 0, .str ([]), .slice true [], .slice true []]) (l' := [iT 0, .str ([]), iT 0, iT 0, .str ([]), .slice true [], .slice true []]) rfl rfl hNb1 rfl rfl rfl rfl rfl (nB rfl) rfl ?_
  refine ⟨tv, ?_⟩
  show K1 [(4, pT b1), (5, iT 10)] (mW m [(b1, .cells [iT 0, .str ([]), iT 0, iT 0, .str ([]), .slice true [], .slice true []]), (r, rcObj e (.ms ⟨b, 0, none⟩ k zs.length) c F), (e, zR s), (b, .cells (flatK thgAV zs))])
  refine hK1 _ _ ?_; clear hK1 K1
  refine awp_ret ?_
  refine resK_cell2 (fn := Try.f53) (a := 4) (t := 80) (s := 5) (b := b1) (off := 0) rfl rfl (wG  (m := m) (L := [(b1, .cells [iT 0, .str ([]), iT 0, iT 0, .str ([]), .slice true [], .slice true []]), (r, rcObj e (.ms ⟨b, 0, none⟩ k zs.length) c F), (e, zR s), (b, .cells (flatK thgAV zs))]) 0 hNb1 rfl) (apartOk_agg rfl rfl (nB rfl)) (.agg [iT 0, .str ([]), iT 0, iT 0, .str ([]), .slice false [], .slice false []]) (iT 10) rfl rfl (iT 10) rfl (mW m [(r, rcObj e (.ms ⟨b, 0, none⟩ k zs.length) c F), (e, zR s), (b, .cells (flatK thgAV zs))]) ((wth_keep (m := m) (L := [(b1, .cells [iT 0, .str ([]), iT 0, iT 0, .str ([]), .slice true [], .slice true []]), (r, rcObj e (.ms ⟨b, 0, none⟩ k zs.length) c F), (e, zR s), (b, .cells (flatK thgAV zs))]) (L1 := [(r, rcObj e (.ms ⟨b, 0, none⟩ k zs.length) c F), (e, zR s), (b, .cells (flatK thgAV zs))]) (L2 := [(b1, .cells [iT 0, .str ([]), iT 0, iT 0, .str ([]), .slice true [], .slice true []])]) hNb1 (pick_perm [1, 1, 1] _) (by simp only [List.map_cons, List.map_nil, List.forall_mem_cons]; exact ⟨hFb1, nfA⟩))) ?_
  show K (.tuple [.agg [iT 0, .str ([]), iT 0, iT 0, .str ([]), .slice false [], .slice false []], iT 10]) (AMem.wth m [(r, rcObj e (.ms ⟨b, 0, none⟩ k zs.length) c F), (e, zR s), (b, .cells (flatK thgAV zs))])
 
  have e0 : readC c s id = (((⟨0, [], (⟨0, 0, [], [], []⟩ : Val)⟩ : Thg), 10) : Thg × Int) := by
   first | (rw [readC, if_pos (by assumption)]; done) | (rw [readC, if_pos (by assumption)]; rfl) | (rw [readC, if_neg (by simp_all), if_neg (by rw [hpb.2.2.1]; simp), hpb.2.2.1, gI_takeK _ hpb.1 hpb.2.1]; rfl) | (rw [readC, if_neg (by simp_all), if_pos (by rw [hpa.elim (fun z => z.2) (fun z => absurd z.1 (by omega))]; rfl)]; first | done | rfl)
  rw [e0] at hK
  exact hK
 replace h1 : s.down = false := h1
 refine awp_skip ?_
 refine hK2 _ _ ?_; clear hK2
 refine rS [] [0, 4, 6] (by decide) ?_
 intro K1 hK1
 refine ⟨tv, tv, ?_⟩
 refine ar_mem (wS hNb1 (pick_perm [1, 2] _)) ?_
 refine u_place_ms r e b k zs c F id (by simp at hN ⊢; omega) hk hkb _ _ ?_
 refine ar_mem (wS (m := m) (L := [(b1, .cells [iT 0, .str ([]), iT 0, iT 0, .str ([]), .slice true [], .slice true []]), (r, rcObj e (.ms ⟨b, 0, none⟩ k zs.length) c F), (e, zR s), (b, .cells (flatK thgAV zs))]) hNb1 (pick_perm [1, 2] _)).symm ?_
 refine ⟨tv, ?_⟩
 show K1 [(0, pT r), (4, pT b1), (6, iT (placeR (zs.take k) id))] (mW m [(b1, .cells [iT 0, .str ([]), iT 0, iT 0, .str ([]), .slice true [], .slice true []]), (r, rcObj e (.ms ⟨b, 0, none⟩ k zs.length) c F), (e, zR s), (b, .cells (flatK thgAV zs))])
 refine hK1 _ _ ?_; clear hK1 K1
 refine sK ?_; intro K3 hK3
 refine rS [] [0, 4, 6, 19] (by decide) ?_
 intro K1 hK1
 refine ⟨tv, tv, ?_⟩
 show K1 [(0, pT r), (4, pT b1), (6, iT (placeR (zs.take k) id)), (19, .bool (decide (placeR (zs.take k) id < 0)))] _
 refine hK1 _ _ ?_; clear hK1 K1
 refine cD rfl rfl (fun h2 => ?_) (fun h2 => ?_)
 ·
  replace h2 : placeR (zs.take k) id < 0 := (of_decide_eq_true h2)
  refine rS [] [4, 5] (by decide) ?_
  intro K1 hK1
  refine ⟨⟨rfl, by simp only [List.forall_mem_cons]; exact ⟨rfl, rfl, rfl, nfA⟩, nfA⟩, ?_⟩
  refine aS rfl 0 (v := .agg [iT 0, .str ([]), iT 0, iT 0, .str ([]), .slice true [], .slice true []]) (l' := [iT 0, .str ([]), iT 0, iT 0, .str ([]), .slice true [], .slice true []]) rfl rfl hNb1 rfl rfl rfl rfl rfl (nB rfl) rfl ?_
  refine ⟨tv, ?_⟩
  show K1 [(4, pT b1), (5, iT 7)] (mW m [(b1, .cells [iT 0, .str ([]), iT 0, iT 0, .str ([]), .slice true [], .slice true []]), (r, rcObj e (.ms ⟨b, 0, none⟩ k zs.length) c F), (e, zR s), (b, .cells (flatK thgAV zs))])
  refine hK1 _ _ ?_; clear hK1 K1
  refine awp_ret ?_
  refine resK_cell2 (fn := Try.f53) (a := 4) (t := 80) (s := 5) (b := b1) (off := 0) rfl rfl (wG  (m := m) (L := [(b1, .cells [iT 0, .str ([]), iT 0, iT 0, .str ([]), .slice true [], .slice true []]), (r, rcObj e (.ms ⟨b, 0, none⟩ k zs.length) c F), (e, zR s), (b, .cells (flatK thgAV zs))]) 0 hNb1 rfl) (apartOk_agg rfl rfl (nB rfl)) (.agg [iT 0, .str ([]), iT 0, iT 0, .str ([]), .slice false [], .slice false []]) (iT 7) rfl rfl (iT 7) rfl (mW m [(r, rcObj e (.ms ⟨b, 0, none⟩ k zs.length) c F), (e, zR s), (b, .cells (flatK thgAV zs))]) ((wth_keep (m := m) (L := [(b1, .cells [iT 0, .str ([]), iT 0, iT 0, .str ([]), .slice true [], .slice true []]), (r, rcObj e (.ms ⟨b, 0, none⟩ k zs.length) c F), (e, zR s), (b, .cells (flatK thgAV zs))]) (L1 := [(r, rcObj e (.ms ⟨b, 0, none⟩ k zs.length) c F), (e, zR s), (b, .cells (flatK thgAV zs))]) (L2 := [(b1, .cells [iT 0, .str ([]), iT 0, iT 0, .str ([]), .slice true [], .slice true []])]) hNb1 (pick_perm [1, 1, 1] _) (by simp only [List.map_cons, List.map_nil, List.forall_mem_cons]; exact ⟨hFb1, nfA⟩))) ?_
  show K (.tuple [.agg [iT 0, .str ([]), iT 0, iT 0, .str ([]), .slice false [], .slice false []], iT 7]) (AMem.wth m [(r, rcObj e (.ms ⟨b, 0, none⟩ k zs.length) c F), (e, zR s), (b, .cells (flatK thgAV zs))])
 
  have e0 : readC c s id = (((⟨0, [], (⟨0, 0, [], [], []⟩ : Val)⟩ : Thg), 7) : Thg × Int) := by
   first | (rw [readC, if_pos (by assumption)]; done) | (rw [readC, if_pos (by assumption)]; rfl) | (rw [readC, if_neg (by simp_all), if_neg (by rw [hpb.2.2.1]; simp), hpb.2.2.1, gI_takeK _ hpb.1 hpb.2.1]; rfl) | (rw [readC, if_neg (by simp_all), if_pos (by rw [hpa.elim (fun z => z.2) (fun z => absurd z.1 (by omega))]; rfl)]; first | done | rfl)
  rw [e0] at hK
  exact hK
 replace h2 : 0 ≤ placeR (zs.take k) id := (Int.not_lt.1 (of_decide_eq_false h2))
 refine awp_skip ?_
 refine hK3 _ _ ?_; clear hK3
 have hpb := hpa.resolve_left (fun z => by omega)
 refine rS [] [4, 5] (by decide) ?_
 intro K1 hK1
 refine ⟨tv, tv, ⟨rfl, by decide⟩, ?_⟩
 refine aL rfl (v := .ms ⟨b, 0, none⟩ k zs.length) rfl (wG 1 hNb1 rfl) rfl (aO rfl rfl (nB rfl)) rfl ?_
 refine ⟨tv, ⟨rfl, (by omega), (by omega)⟩, ?_⟩
 refine ar_loadk rfl (m := m) (L := [(b1, .cells [iT 0, .str ([]), iT 0, iT 0, .str ([]), .slice true [], .slice true []]), (r, rcObj e (.ms ⟨b, 0, none⟩ k zs.length) c F), (e, zR s), (b, .cells (flatK thgAV zs))]) thgAV zs (placeR (zs.take k) id) 0 (v := thgAV (gI zs (placeR (zs.take k) id))) rfl (by show 0 + (placeR (zs.take k) id).toNat * 7 = (placeR (zs.take k) id).toNat * 7 + 0; omega) (wG 3 hNb1 rfl) rfl (fun _ => rfl) rfl (nB rfl) (nB rfl) rfl (by omega) (by omega) ?_
 refine aS rfl 0 (v := thgAV (gI zs (placeR (zs.take k) id))) (l' := [iT ((gI zs (placeR (zs.take k) id)).id), .str ((gI zs (placeR (zs.take k) id)).kind), iT (((gI zs (placeR (zs.take k) id)).v).kind), iT (((gI zs (placeR (zs.take k) id)).v).n), .str (((gI zs (placeR (zs.take k) id)).v).s), sF ((((gI zs (placeR (zs.take k) id)).v).l).map valIn), sF ((((gI zs (placeR (zs.take k) id)).v).f).map fldIn)]) rfl (by rfl) hNb1 rfl rfl rfl rfl rfl (nB rfl) rfl ?_
 refine ⟨tv, ?_⟩
 show K1 [(4, pT b1), (5, iT 0)] (mW m [(b1, .cells [iT ((gI zs (placeR (zs.take k) id)).id), .str ((gI zs (placeR (zs.take k) id)).kind), iT (((gI zs (placeR (zs.take k) id)).v).kind), iT (((gI zs (placeR (zs.take k) id)).v).n), .str (((gI zs (placeR (zs.take k) id)).v).s), sF ((((gI zs (placeR (zs.take k) id)).v).l).map valIn), sF ((((gI zs (placeR (zs.take k) id)).v).f).map fldIn)]), (r, rcObj e (.ms ⟨b, 0, none⟩ k zs.length) c F), (e, zR s), (b, .cells (flatK thgAV zs))])
 refine hK1 _ _ ?_; clear hK1 K1
 refine awp_ret ?_
 refine resK_cell2 (fn := Try.f53) (a := 4) (t := 80) (s := 5) (b := b1) (off := 0) rfl rfl (wG  (m := m) (L := [(b1, .cells [iT ((gI zs (placeR (zs.take k) id)).id), .str ((gI zs (placeR (zs.take k) id)).kind), iT (((gI zs (placeR (zs.take k) id)).v).kind), iT (((gI zs (placeR (zs.take k) id)).v).n), .str (((gI zs (placeR (zs.take k) id)).v).s), sF ((((gI zs (placeR (zs.take k) id)).v).l).map valIn), sF ((((gI zs (placeR (zs.take k) id)).v).f).map fldIn)]), (r, rcObj e (.ms ⟨b, 0, none⟩ k zs.length) c F), (e, zR s), (b, .cells (flatK thgAV zs))]) 0 hNb1 rfl) (apartOk_agg rfl rfl (nB rfl)) (.agg [iT ((gI zs (placeR (zs.take k) id)).id), .str ((gI zs (placeR (zs.take k) id)).kind), iT (((gI zs (placeR (zs.take k) id)).v).kind), iT (((gI zs (placeR (zs.take k) id)).v).n), .str (((gI zs (placeR (zs.take k) id)).v).s), sF ((((gI zs (placeR (zs.take k) id)).v).l).map valIn), sF ((((gI zs (placeR (zs.take k) id)).v).f).map fldIn)]) (iT 0) rfl rfl (iT 0) rfl (mW m [(r, rcObj e (.ms ⟨b, 0, none⟩ k zs.length) c F), (e, zR s), (b, .cells (flatK thgAV zs))]) ((wth_keep (m := m) (L := [(b1, .cells [iT ((gI zs (placeR (zs.take k) id)).id), .str ((gI zs (placeR (zs.take k) id)).kind), iT (((gI zs (placeR (zs.take k) id)).v).kind), iT (((gI zs (placeR (zs.take k) id)).v).n), .str (((gI zs (placeR (zs.take k) id)).v).s), sF ((((gI zs (placeR (zs.take k) id)).v).l).map valIn), sF ((((gI zs (placeR (zs.take k) id)).v).f).map fldIn)]), (r, rcObj e (.ms ⟨b, 0, none⟩ k zs.length) c F), (e, zR s), (b, .cells (flatK thgAV zs))]) (L1 := [(r, rcObj e (.ms ⟨b, 0, none⟩ k zs.length) c F), (e, zR s), (b, .cells (flatK thgAV zs))]) (L2 := [(b1, .cells [iT ((gI zs (placeR (zs.take k) id)).id), .str ((gI zs (placeR (zs.take k) id)).kind), iT (((gI zs (placeR (zs.take k) id)).v).kind), iT (((gI zs (placeR (zs.take k) id)).v).n), .str (((gI zs (placeR (zs.take k) id)).v).s), sF ((((gI zs (placeR (zs.take k) id)).v).l).map valIn), sF ((((gI zs (placeR (zs.take k) id)).v).f).map fldIn)])]) hNb1 (pick_perm [1, 1, 1] _) (by simp only [List.map_cons, List.map_nil, List.forall_mem_cons]; exact ⟨hFb1, nfA⟩))) ?_
 show K (.tuple [.agg [iT ((gI zs (placeR (zs.take k) id)).id), .str ((gI zs (placeR (zs.take k) id)).kind), iT (((gI zs (placeR (zs.take k) id)).v).kind), iT (((gI zs (placeR (zs.take k) id)).v).n), .str (((gI zs (placeR (zs.take k) id)).v).s), sF ((((gI zs (placeR (zs.take k) id)).v).l).map valIn), sF ((((gI zs (placeR (zs.take k) id)).v).f).map fldIn)], iT 0]) (AMem.wth m [(r, rcObj e (.ms ⟨b, 0, none⟩ k zs.length) c F), (e, zR s), (b, .cells (flatK thgAV zs))])
 have e0 : readC c s id = (((gI zs (placeR (zs.take k) id)), 0) : Thg × Int) := by
  first | (rw [readC, if_pos (by assumption)]; done) | (rw [readC, if_pos (by assumption)]; rfl) | (rw [readC, if_neg (by simp_all), if_neg (by rw [hpb.2.2.1]; simp), hpb.2.2.1, gI_takeK _ hpb.1 hpb.2.1]; rfl) | (rw [readC, if_neg (by simp_all), if_pos (by rw [hpa.elim (fun z => z.2) (fun z => absurd z.1 (by omega))]; rfl)]; first | done | rfl)
 rw [e0] at hK
 exact hK
theorem u_RRead (r e : Nat) (q : RSt) (s : DSt) (c : ClSt) (F : List Int) (id : Int) {m : AMem} {H : List (Nat × AObj)} {av : AV} {ks : List Nat} (hT : HidR thgAV m ks H av (vals c)) (hr : r ∈ ks) (he : e ∈ ks) (hN : [r, e].Nodup) (hl : c.things.length ≤ 1000000) (hids : ∀ p ∈ c.things, p.2.id = p.1) (K : AV → AMem → Prop) (hK : K (.tuple [thgAV (readC c s id).1, iT (readC c s id).2]) ((m.wth H).wth [(r, rcObj e av c F), (e, rObj (rT q s))])) :
    ACalls Try.prog 53 [pT r, iT id] ((m.wth H).wth [(r, rcObj e av c F), (e, rObj (rT q s))]) K := by
  rcases hT.sh with ⟨rfl, rfl, hz⟩ | ⟨b, zs, rfl, rfl, hle, htk⟩
  · exact u_RRead_nil r e q s c F id hN (by simpa [vals] using hz) m K hK
  · have hne : r ≠ b := by have := hT.nin hr; simpa using this
    have hne2 : e ≠ b := by have := hT.nin he; simpa using this
    exact u_RRead_ms r e b (vals c).length zs q s c F id (by simp at hN ⊢; omega) hle (by unfold vals; rw [List.length_map]; exact hl) htk hids m (hT.out b (by simp)) K hK
set_option maxHeartbeats 2000000 in
theorem u_RSpoil_nil (r e : Nat) (c : ClSt) (F : List Int) (id : Int) (v : Val) (hB : depV v ≤ 1000000000000) (m : AMem)  (K : AV → AMem → Prop) (hK : K (.tuple []) (mW m [(r, rcObj e .nils c F)])) : ACalls Try.prog 58 [pT r, iT id, valTop v] (mW m [(r, rcObj e .nils c F)]) K := by
 refine acalls_enter Try.func58 rfl (by decide) (nB rfl) ?_
 show AWP _ _ _ _ [(0, pT r), (1, iT id), (2, valTop v)] (mW m [(r, rcObj e .nils c F)])
 refine rS [] [0, 1, 5] (by decide) ?_
 intro K1 hK1
 refine ar_box rfl (m := m) (L := [(r, rcObj e .nils c F)]) (v := valTop v) (by rfl) rfl ?_
 intro b1 hb1
 have hFb1 : m b1 = none := wth_none hb1
 have hNb1 : ([b1, r] : List Nat).Nodup := wth_nodup hb1 (nodup_1 r)
 show K1 [(0, pT r), (1, iT id), (5, pT b1)] (mW m [(b1, .cells [iT v.kind, iT v.n, .str v.s, sF (v.l.map valIn), sF (v.f.map fldIn)]), (r, rcObj e .nils c F)])
 refine hK1 _ _ ?_; clear hK1 K1
 refine rS [] [0, 5, 6] (by decide) ?_
 intro K1 hK1
 refine ⟨tv, tv, ?_⟩
 refine ar_mem (wS hNb1 (pick_perm [1] _)) ?_
 refine u_place_nil r e c F id _ _ ?_
 refine ar_mem (wS (m := m) (L := [(b1, .cells [iT v.kind, iT v.n, .str v.s, sF (v.l.map valIn), sF (v.f.map fldIn)]), (r, rcObj e .nils c F)]) hNb1 (pick_perm [1] _)).symm ?_
 refine ⟨tv, ?_⟩
 show K1 [(0, pT r), (5, pT b1), (6, iT (-1))] _
 refine hK1 _ _ ?_; clear hK1 K1
 refine rS [] [0, 5, 6, 16] (by decide) ?_
 intro K1 hK1
 suffices key : K1 [(0, pT r), (5, pT b1), (6, iT (-1)), (16, .bool false)] (mW m [(b1, .cells [iT v.kind, iT v.n, .str v.s, sF (v.l.map valIn), sF (v.f.map fldIn)]), (r, rcObj e .nils c F)]) by
  refine ⟨tv, tv, tv, ?_⟩
  refine ar_off rfl (ar_off rfl (ar_off rfl ?_))
  exact key
 refine hK1 _ _ ?_; clear hK1 K1
 refine cD rfl rfl (fun hcz => ?_) (fun hcz => ?_)
 ·
  cases hcz
 clear hcz
 refine awp_skip ?_
 refine ⟨(mW m [(r, rcObj e .nils c F)]), (wth_sub2 (m := m) [(b1, .cells [iT v.kind, iT v.n, .str v.s, sF (v.l.map valIn), sF (v.f.map fldIn)])] [(r, rcObj e .nils c F)] hNb1 (by simp only [List.map_cons, List.map_nil, List.forall_mem_cons]; exact ⟨hFb1, nfA⟩)), ?_⟩
 show K (.tuple []) (AMem.wth m [(r, rcObj e .nils c F)])
 exact hK
set_option maxHeartbeats 4000000 in
theorem u_RSpoil_ms (r e b k : Nat) (zs : List Thg) (c : ClSt) (F : List Int) (id : Int) (v : Val) (hN : [r, b].Nodup) (hk : k ≤ zs.length) (hkb : k ≤ 1000000) (hv : zs.take k = vals c) (hids : ∀ p ∈ c.things, p.2.id = p.1) (hB : depV v ≤ 1000000000000) (m : AMem) (hb : m b = none) (K : AV → AMem → Prop) (hK : ∀ zs2 : List Thg, zs2.length = zs.length → zs2.take k = vals (spoilC c id v) → K (.tuple []) (mW m [(r, rcObj e (.ms ⟨b, 0, none⟩ k zs.length) c F), (b, .cells (flatK thgAV zs2))])) : ACalls Try.prog 58 [pT r, iT id, valTop v] (mW m [(r, rcObj e (.ms ⟨b, 0, none⟩ k zs.length) c F), (b, .cells (flatK thgAV zs))]) K := by
 have hpa := place_at hids id
 rw [← hv] at hpa
 have hlk : (zs.take k).length = k := by rw [List.length_take, Nat.min_eq_left hk]
 rw [hlk] at hpa
 refine acalls_enter Try.func58 rfl (by decide) (nB rfl) ?_
 show AWP _ _ _ _ [(0, pT r), (1, iT id), (2, valTop v)] (mW m [(r, rcObj e (.ms ⟨b, 0, none⟩ k zs.length) c F), (b, .cells (flatK thgAV zs))])
 refine rS [] [0, 1, 5] (by decide) ?_
 intro K1 hK1
 refine ar_box rfl (m := m) (L := [(r, rcObj e (.ms ⟨b, 0, none⟩ k zs.length) c F), (b, .cells (flatK thgAV zs))]) (v := valTop v) (by rfl) rfl ?_
 intro b1 hb1
 have hFb1 : m b1 = none := wth_none hb1
 have hNb1 : ([b1, r, b] : List Nat).Nodup := wth_nodup hb1 hN
 show K1 [(0, pT r), (1, iT id), (5, pT b1)] (mW m [(b1, .cells [iT v.kind, iT v.n, .str v.s, sF (v.l.map valIn), sF (v.f.map fldIn)]), (r, rcObj e (.ms ⟨b, 0, none⟩ k zs.length) c F), (b, .cells (flatK thgAV zs))])
 refine hK1 _ _ ?_; clear hK1 K1
 refine rS [] [0, 5, 6] (by decide) ?_
 intro K1 hK1
 refine ⟨tv, tv, ?_⟩
 refine ar_mem (wS hNb1 (pick_perm [1, 1] _)) ?_
 refine u_place_ms r e b k zs c F id (by simp at hN ⊢; omega) hk hkb _ _ ?_
 refine ar_mem (wS (m := m) (L := [(b1, .cells [iT v.kind, iT v.n, .str v.s, sF (v.l.map valIn), sF (v.f.map fldIn)]), (r, rcObj e (.ms ⟨b, 0, none⟩ k zs.length) c F), (b, .cells (flatK thgAV zs))]) hNb1 (pick_perm [1, 1] _)).symm ?_
 refine ⟨tv, ?_⟩
 show K1 [(0, pT r), (5, pT b1), (6, iT (placeR (zs.take k) id))] _
 refine hK1 _ _ ?_; clear hK1 K1
 refine rS [] [0, 5, 6, 16] (by decide) ?_
 intro K1 hK1
 suffices key : K1 [(0, pT r), (5, pT b1), (6, iT (placeR (zs.take k) id)), (16, .bool ((decide (0 ≤ placeR (zs.take k) id)) && ((attrE v) == 0)))] (mW m [(b1, .cells [iT v.kind, iT v.n, .str v.s, sF (v.l.map valIn), sF (v.f.map fldIn)]), (r, rcObj e (.ms ⟨b, 0, none⟩ k zs.length) c F), (b, .cells (flatK thgAV zs))]) by
  refine ⟨tv, tv, tv, ?_⟩
  show aopsR _ _ _ _ _ [(12, .bool (decide (0 ≤ placeR (zs.take k) id))), (11, .bool (decide (0 ≤ placeR (zs.take k) id))), (10, iT (placeR (zs.take k) id)), (0, pT r), (5, pT b1), (6, iT (placeR (zs.take k) id))] _
  revert key
  cases h1 : (decide (0 ≤ placeR (zs.take k) id))
  ·
   replace h1 : placeR (zs.take k) id < 0 := (Int.not_le.1 (of_decide_eq_false h1))
   intro key
   refine ar_off rfl (ar_off rfl (ar_off rfl ?_))
   exact key
  ·
   replace h1 : 0 ≤ placeR (zs.take k) id := (of_decide_eq_true h1)
   intro key
   refine aL rfl (v := .agg [iT v.kind, iT v.n, .str v.s, sF (v.l.map valIn), sF (v.f.map fldIn)]) rfl (wG 0 hNb1 rfl) rfl (apartOk_agg rfl rfl (nB rfl)) rfl ?_
   refine u_attrsFault v hB _ _ ?_
   refine ⟨tv, ?_⟩
   exact key
 refine hK1 _ _ ?_; clear hK1 K1
 refine cD rfl rfl (fun h2 => ?_) (fun h2 => ?_)
 ·
  replace h2 : (0 ≤ placeR (zs.take k) id) ∧ (attrE v = 0) := ⟨(of_decide_eq_true (bandL h2)), (eq_of_beq (bandR h2))⟩
  have hpb := hpa.resolve_left (fun z => by omega)
  refine awp_draw_tail2 Try.mixed 8 [] [] [] [] (by decide) (by decide) ?_
  intro K1 hK1
  refine ⟨tv, tv, ⟨rfl, by decide⟩, ?_⟩
  refine pq_loadp rfl (v := .ms ⟨b, 0, none⟩ k zs.length) rfl (wG 1 hNb1 rfl) (aO rfl rfl (nB rfl)) rfl ?_
  refine ⟨tv, ?_⟩
  refine pq_loadp rfl (v := .agg [iT v.kind, iT v.n, .str v.s, sF (v.l.map valIn), sF (v.f.map fldIn)]) rfl (wG 0 hNb1 rfl) (apartOk_agg rfl rfl (nB rfl)) rfl ?_
  refine ⟨⟨rfl, (by omega), (by omega)⟩, ⟨rfl, by decide⟩, ?_⟩
  show aopsR _ _ _ _ _ [(24, .ptr ⟨b, 0 + (placeR (zs.take k) id).toNat * Try.prog.cellsOf 80 + 2, none⟩), (23, .ptr ⟨b, 0 + (placeR (zs.take k) id).toNat * Try.prog.cellsOf 80, none⟩), (22, .agg [iT v.kind, iT v.n, .str v.s, sF (v.l.map valIn), sF (v.f.map fldIn)]), (21, iT (placeR (zs.take k) id)), (20, .ms ⟨b, 0, none⟩ k zs.length), (19, .ptr ⟨r, 1, none⟩), (18, pT r), (17, pT r), (0, pT r), (5, pT b1), (6, iT (placeR (zs.take k) id)), (16, .bool ((decide (0 ≤ placeR (zs.take k) id)) && ((attrE v) == 0)))] _
  refine ar_storek rfl 2 (m := m) (L := [(b1, .cells [iT v.kind, iT v.n, .str v.s, sF (v.l.map valIn), sF (v.f.map fldIn)]), (r, rcObj e (.ms ⟨b, 0, none⟩ k zs.length) c F), (b, .cells (flatK thgAV zs))]) thgAV zs (⟨(gI zs (placeR (zs.take k) id)).id, (gI zs (placeR (zs.take k) id)).kind, v⟩ : Thg) (placeR (zs.take k) id) 2 (v := .agg [iT v.kind, iT v.n, .str v.s, sF (v.l.map valIn), sF (v.f.map fldIn)]) rfl (by show 0 + (placeR (zs.take k) id).toNat * 7 + 2 = (placeR (zs.take k) id).toNat * 7 + 2; omega) rfl hNb1 rfl (fun _ => rfl) rfl rfl rfl rfl (nB rfl) rfl (by omega) (by omega) ?_
  show K1 [] (mW m [(b1, .cells [iT v.kind, iT v.n, .str v.s, sF (v.l.map valIn), sF (v.f.map fldIn)]), (r, rcObj e (.ms ⟨b, 0, none⟩ k zs.length) c F), (b, .cells (flatK thgAV (zs.set (placeR (zs.take k) id).toNat (⟨(gI zs (placeR (zs.take k) id)).id, (gI zs (placeR (zs.take k) id)).kind, v⟩ : Thg))))])
  refine hK1 _ _ ?_; clear hK1 K1
  refine ⟨(mW m [(r, rcObj e (.ms ⟨b, 0, none⟩ k zs.length) c F), (b, .cells (flatK thgAV (zs.set (placeR (zs.take k) id).toNat (⟨(gI zs (placeR (zs.take k) id)).id, (gI zs (placeR (zs.take k) id)).kind, v⟩ : Thg))))]), (wth_keep (m := m) (L := [(b1, .cells [iT v.kind, iT v.n, .str v.s, sF (v.l.map valIn), sF (v.f.map fldIn)]), (r, rcObj e (.ms ⟨b, 0, none⟩ k zs.length) c F), (b, .cells (flatK thgAV (zs.set (placeR (zs.take k) id).toNat (⟨(gI zs (placeR (zs.take k) id)).id, (gI zs (placeR (zs.take k) id)).kind, v⟩ : Thg))))]) (L1 := [(r, rcObj e (.ms ⟨b, 0, none⟩ k zs.length) c F), (b, .cells (flatK thgAV (zs.set (placeR (zs.take k) id).toNat (⟨(gI zs (placeR (zs.take k) id)).id, (gI zs (placeR (zs.take k) id)).kind, v⟩ : Thg))))]) (L2 := [(b1, .cells [iT v.kind, iT v.n, .str v.s, sF (v.l.map valIn), sF (v.f.map fldIn)])]) hNb1 (pick_perm [1, 1] _) (by simp only [List.map_cons, List.map_nil, List.forall_mem_cons]; exact ⟨hFb1, nfA⟩)), ?_⟩
  show K (.tuple []) (AMem.wth m [(r, rcObj e (.ms ⟨b, 0, none⟩ k zs.length) c F), (b, .cells (flatK thgAV (zs.set (placeR (zs.take k) id).toNat (⟨(gI zs (placeR (zs.take k) id)).id, (gI zs (placeR (zs.take k) id)).kind, v⟩ : Thg))))])
 
  first | (have hpb := hpa.resolve_left (fun z => (by omega)); refine hK _ (by simp) ?_; rw [spoilC, if_pos ⟨(by rw [hpb.2.2.1]; rfl), (by first | exact (by assumption : _ ∧ _).2 | simp_all)⟩]; unfold vals; show _ = (mput c.things id _).map Prod.snd; rw [hpb.2.2.2, List.take_set, hpb.2.2.1, gI_takeK _ hpb.1 hpb.2.1]; rfl) | (refine hK _ rfl ?_; rw [spoilC, if_neg (fun zz => hpa.elim (fun z => by (have z1 := zz.1; rw [z.2] at z1; cases z1)) (fun z => by first | omega | exact absurd zz.2 (by assumption) | exact h2.elim (fun q => absurd q (by omega)) (fun q => q zz.2))), hv])
 replace h2 : (placeR (zs.take k) id < 0) ∨ (attrE v ≠ 0) := ((bandF h2).imp (fun q => (Int.not_le.1 (of_decide_eq_false q))) (fun q => (ne_of_beq_false q)))
 refine awp_skip ?_
 refine ⟨(mW m [(r, rcObj e (.ms ⟨b, 0, none⟩ k zs.length) c F), (b, .cells (flatK thgAV zs))]), (wth_keep (m := m) (L := [(b1, .cells [iT v.kind, iT v.n, .str v.s, sF (v.l.map valIn), sF (v.f.map fldIn)]), (r, rcObj e (.ms ⟨b, 0, none⟩ k zs.length) c F), (b, .cells (flatK thgAV zs))]) (L1 := [(r, rcObj e (.ms ⟨b, 0, none⟩ k zs.length) c F), (b, .cells (flatK thgAV zs))]) (L2 := [(b1, .cells [iT v.kind, iT v.n, .str v.s, sF (v.l.map valIn), sF (v.f.map fldIn)])]) hNb1 (pick_perm [1, 1] _) (by simp only [List.map_cons, List.map_nil, List.forall_mem_cons]; exact ⟨hFb1, nfA⟩)), ?_⟩
 show K (.tuple []) (AMem.wth m [(r, rcObj e (.ms ⟨b, 0, none⟩ k zs.length) c F), (b, .cells (flatK thgAV zs))])
 first | (have hpb := hpa.resolve_left (fun z => (by omega)); refine hK _ (by simp) ?_; rw [spoilC, if_pos ⟨(by rw [hpb.2.2.1]; rfl), (by first | exact (by assumption : _ ∧ _).2 | simp_all)⟩]; unfold vals; show _ = (mput c.things id _).map Prod.snd; rw [hpb.2.2.2, List.take_set, hpb.2.2.1, gI_takeK _ hpb.1 hpb.2.1]; rfl) | (refine hK _ rfl ?_; rw [spoilC, if_neg (fun zz => hpa.elim (fun z => by (have z1 := zz.1; rw [z.2] at z1; cases z1)) (fun z => by first | omega | exact absurd zz.2 (by assumption) | exact h2.elim (fun q => absurd q (by omega)) (fun q => q zz.2))), hv])
theorem rcObj_spoil (e : Nat) (av : AV) (c : ClSt) (F : List Int) (id : Int) (v : Val) : rcObj e av (spoilC c id v) F = rcObj e av c F := by
  unfold spoilC; split <;> rfl
theorem spoil_nil {c : ClSt} (hz : c.things = []) (id : Int) (v : Val) : spoilC c id v = c := by
  rw [spoilC, if_neg (by rw [hz]; simp [mget])]
theorem hid_drop_row {m : AMem} {b k : Nat} {zs zs2 l : List Thg} {ks : List Nat} {av : AV} {L : List Thg} (hT : HidR thgAV m ks [(b, .cells (flatK thgAV zs))] av L) (hle : k ≤ zs.length) (h1 : zs2.length = zs.length) (h2 : zs2.take k = l) : HidR thgAV m ks [(b, .cells (flatK thgAV zs2))] (.ms ⟨b, 0, none⟩ k zs.length) l := by
  rw [← h1]
  refine HidR.row (hT.out b (by simp)) (fun h => ?_) (by omega) h2
  exact hT.nin h (by simp)
theorem u_RSpoil (r e : Nat) (c : ClSt) (F : List Int) (id : Int) (v : Val) {m : AMem} {H : List (Nat × AObj)} {av : AV} {ks : List Nat} (hT : HidR thgAV m ks H av (vals c)) (hr : r ∈ ks) (hl : c.things.length ≤ 1000000) (hids : ∀ p ∈ c.things, p.2.id = p.1) (hB : depV v ≤ 1000000000000) (K : AV → AMem → Prop)
    (hK : ∀ H' av', HidR thgAV m ks H' av' (vals (spoilC c id v)) → K (.tuple []) ((m.wth H').wth [(r, rcObj e av' (spoilC c id v) F)])) :
    ACalls Try.prog 58 [pT r, iT id, valTop v] ((m.wth H).wth [(r, rcObj e av c F)]) K := by
  simp only [rcObj_spoil] at hK
  rcases hT.sh with ⟨rfl, rfl, hz⟩ | ⟨b, zs, rfl, rfl, hle, htk⟩
  · have hz2 : c.things = [] := by simpa [vals] using hz
    exact u_RSpoil_nil r e c F id v hB m K (hK [] .nils (by rw [spoil_nil hz2]; exact hT))
  · have hne : r ≠ b := by have := hT.nin hr; simpa using this
    exact u_RSpoil_ms r e b (vals c).length zs c F id v (by simp [hne]) hle (by unfold vals; rw [List.length_map]; exact hl) htk hids hB m (hT.out b (by simp)) K (fun zs2 h1 h2 => hK _ _ (hid_drop_row hT hle h1 h2))
theorem fil_step {zs : List Thg} {k : Nat} {i : Int} {p : Thg → Bool} (hk : k ≤ zs.length) (h0 : 0 ≤ i) (hi : i < (k : Int)) : ((zs.take k).take (i + 1).toNat).filter p = ((zs.take k).take i.toNat).filter p ++ (if p (gI zs i) = true then [gI zs i] else []) := by
  rw [take_succ_gI h0 (by rw [List.length_take, Nat.min_eq_left hk]; exact hi), gI_takeK _ h0 hi, List.filter_append, List.filter_cons, List.filter_nil]
theorem fil_no {t : Thg} {id : Int} (h : t.id = id) : (if (!(t.id == id)) = true then [t] else []) = ([] : List Thg) := by simp [h]
theorem fil_yes {t : Thg} {id : Int} (h : t.id ≠ id) : (if (!(t.id == id)) = true then [t] else []) = [t] := by simp [h]
set_option maxHeartbeats 2000000 in
theorem u_RLose_nil (r e : Nat) (c : ClSt) (F : List Int) (id : Int) (hz : c.things = []) (m : AMem)  (K : AV → AMem → Prop) (hK : ∀ H' av', HidR thgAV m [r] H' av' (vals ({ c with things := mdel c.things id } : ClSt)) → K (.tuple []) ((m.wth H').wth [(r, rcObj e av' ({ c with things := mdel c.things id } : ClSt) F)])) : ACalls Try.prog 56 [pT r, iT id] (mW m [(r, rcObj e .nils c F)]) K := by
 refine acalls_enter Try.func56 rfl (by decide) (nB rfl) ?_
 show AWP _ _ _ _ [(0, pT r), (1, iT id)] (mW m [(r, rcObj e .nils c F)])
 refine rS [] [0, 1, 4] (by decide) ?_
 intro K1 hK1
 refine ⟨tv, ?_⟩
 show K1 [(0, pT r), (1, iT id), (4, .slice true [])] _
 refine hK1 _ _ ?_; clear hK1 K1
 refine sK ?_; intro K2 hK2
 refine rS [] [0, 1, 4, 5] (by decide) ?_
 intro K1 hK1
 refine ⟨tv, ?_⟩
 show K1 [(0, pT r), (1, iT id), (4, .slice true []), (5, iT 0)] _
 refine hK1 _ _ ?_; clear hK1 K1
 refine awp_block ?_
 refine awp_keep [0, 1, 4, 5] (by decide) ?_
 refine awp_loop_st (σ := (List Thg) × Int) (fun ⟨l2, i⟩ => [(0, pT r), (1, iT id), (4, sT (l2.map thgAV)), (5, iT i)]) (fun _ => (mW m [(r, rcObj e .nils c F)])) (fun ⟨l2, i⟩ => i = 0 ∧ l2 = []) (fun ⟨l2, i⟩ => 1) ([], 0) rfl rfl ?_ ?_
 ·
  show ((0 : Int)) = 0 ∧ (([] : (List Thg))) = []
  exact ⟨rfl, rfl⟩
 rintro ⟨l2, i⟩ hI
 replace hI : i = 0 ∧ l2 = [] := hI
 show AWP _ _ _ _ [(0, pT r), (1, iT id), (4, sT (l2.map thgAV)), (5, iT i)] (mW m [(r, rcObj e .nils c F)])
 refine sK ?_; intro K3 hK3
 refine rS [] [0, 1, 4, 5, 12] (by decide) ?_
 intro K1 hK1
 refine ⟨tv, tv, tv, ⟨rfl, by decide⟩, ?_⟩
 refine aL rfl (v := .nils) rfl (wG 0 (nodup_1 r) rfl) rfl (aO rfl rfl (nB rfl)) rfl ?_
 refine ⟨tv, tv, ?_⟩
 show K1 [(0, pT r), (1, iT id), (4, sT (l2.map thgAV)), (5, iT i), (12, .bool (decide (i < 0)))] _
 refine hK1 _ _ ?_; clear hK1 K1
 refine cD rfl rfl (fun h1 => ?_) (fun h1 => ?_)
 ·
  replace h1 : i < 0 := (of_decide_eq_true h1)
  omega
 replace h1 : 0 ≤ i := (Int.not_lt.1 (of_decide_eq_false h1))
 refine awp_exit ?_
 refine hK2 _ _ ?_; clear hK2
 obtain ⟨hi0, rfl⟩ := hI
 refine awp_conv1 4 (.slice true []) .nils rfl nils_of_own ?_
 show AWP _ _ _ _ [(0, pT r), (1, iT id), (4, .nils), (5, iT i), (12, .bool (decide (i < 0)))] (mW m [(r, rcObj e .nils c F)])
 refine awp_reg2 [] [] (by decide) ?_
 intro K1 hK1
 refine ⟨tv, tv, tv, ⟨rfl, by decide⟩, ?_⟩
 refine aS rfl 0 (v := .nils) (l' := [pT e, .nils, sT ((toksR c.tokens).map dn3AV), iT c.next, iT c.quota, iT c.calls, sT (F.map intAV)]) rfl rfl (nodup_1 r) rfl rfl rfl rfl rfl (nB rfl) rfl ?_
 show K1 [] _
 refine hK1 _ _ ?_; clear hK1 K1
 refine ⟨(mW m [(r, rcObj e .nils c F)]), fun _ _ h => h, ?_⟩
 show K (.tuple []) _
 exact hK [] .nils (nil_vals (by rw [hz]; rfl))
set_option maxHeartbeats 4000000 in
theorem u_RLose_ms (r e b k : Nat) (zs : List Thg) (c : ClSt) (F : List Int) (id : Int) (hN : [r, b].Nodup) (hk : k ≤ zs.length) (hkb : k ≤ 1000000) (hv : zs.take k = vals c) (hids : ∀ p ∈ c.things, p.2.id = p.1) (hn : (c.things.map Prod.fst).Nodup) (hrk : r ≠ b) (m : AMem) (hb : m b = none) (K : AV → AMem → Prop) (hK : ∀ H' av', HidR thgAV m [r] H' av' (vals ({ c with things := mdel c.things id } : ClSt)) → K (.tuple []) ((m.wth H').wth [(r, rcObj e av' ({ c with things := mdel c.things id } : ClSt) F)])) : ACalls Try.prog 56 [pT r, iT id] (mW m [(r, rcObj e (.ms ⟨b, 0, none⟩ k zs.length) c F), (b, .cells (flatK thgAV zs))]) K := by
 have hlk : (zs.take k).length = k := by rw [List.length_take, Nat.min_eq_left hk]
 have hlv : (zs.take k).filter (fun t => !(t.id == id)) = vals ({ c with things := mdel c.things id } : ClSt) := by rw [hv]; exact lose_vals hids hn id
 refine acalls_enter Try.func56 rfl (by decide) (nB rfl) ?_
 show AWP _ _ _ _ [(0, pT r), (1, iT id)] (mW m [(r, rcObj e (.ms ⟨b, 0, none⟩ k zs.length) c F), (b, .cells (flatK thgAV zs))])
 refine rS [] [0, 1, 4] (by decide) ?_
 intro K1 hK1
 refine ⟨tv, ?_⟩
 show K1 [(0, pT r), (1, iT id), (4, .slice true [])] _
 refine hK1 _ _ ?_; clear hK1 K1
 refine sK ?_; intro K2 hK2
 refine rS [] [0, 1, 4, 5] (by decide) ?_
 intro K1 hK1
 refine ⟨tv, ?_⟩
 show K1 [(0, pT r), (1, iT id), (4, .slice true []), (5, iT 0)] _
 refine hK1 _ _ ?_; clear hK1 K1
 refine awp_block ?_
 refine awp_conv1 4 (.slice true []) .nils rfl nils_of_own ?_
 refine awp_keep [0, 1, 4, 5] (by decide) ?_
 refine awp_loop_st (σ := (Int) ⊕ (Int × Nat × Nat × List Thg)) (Sum.elim (fun i => [(0, pT r), (1, iT id), (4, .nils), (5, iT i)]) (fun ⟨i, bq, nq, z2⟩ => [(0, pT r), (1, iT id), (4, .ms ⟨bq, 0, none⟩ nq z2.length), (5, iT i)])) (Sum.elim (fun i => (mW m [(r, rcObj e (.ms ⟨b, 0, none⟩ k zs.length) c F), (b, .cells (flatK thgAV zs))])) (fun ⟨i, bq, nq, z2⟩ => (mW m [(bq, .cells (flatK thgAV z2)), (r, rcObj e (.ms ⟨b, 0, none⟩ k zs.length) c F), (b, .cells (flatK thgAV zs))]))) (Sum.elim (fun i => 0 ≤ i ∧ i ≤ k ∧ ((zs.take k).take (i).toNat).filter (fun t : Thg => !(t.id == id)) = []) (fun ⟨i, bq, nq, z2⟩ => ([bq, r, b] : List Nat).Nodup ∧ m bq = none ∧ 0 ≤ i ∧ i ≤ k ∧ (nq : Nat) ≤ (i).toNat ∧ nq ≤ (z2).length ∧ (z2).take nq = ((zs.take k).take (i).toNat).filter (fun t : Thg => !(t.id == id)))) (Sum.elim (fun i => k - (i).toNat) (fun ⟨i, bq, nq, z2⟩ => k - (i).toNat)) (.inl ((0 : Int))) rfl rfl ?_ ?_
 ·
  show 0 ≤ (0 : Int) ∧ (0 : Int) ≤ k ∧ ((zs.take k).take ((0 : Int)).toNat).filter (fun t : Thg => !(t.id == id)) = []
  exact ⟨by omega, by omega, rfl⟩
 ·
  rintro (i | ⟨i, bq, nq, z2⟩) hI
  ·
   replace hI : 0 ≤ i ∧ i ≤ k ∧ ((zs.take k).take (i).toNat).filter (fun t : Thg => !(t.id == id)) = [] := hI
   show AWP _ _ _ _ [(0, pT r), (1, iT id), (4, .nils), (5, iT i)] (mW m [(r, rcObj e (.ms ⟨b, 0, none⟩ k zs.length) c F), (b, .cells (flatK thgAV zs))])
   refine sK ?_; intro K3 hK3
   refine rS [] [0, 1, 4, 5, 12] (by decide) ?_
   intro K1 hK1
   refine ⟨tv, tv, tv, ⟨rfl, by decide⟩, ?_⟩
   refine aL rfl (v := .ms ⟨b, 0, none⟩ k zs.length) rfl (wG 0 hN rfl) rfl (aO rfl rfl (nB rfl)) rfl ?_
   refine ⟨(by omega), tv, ?_⟩
   show K1 [(0, pT r), (1, iT id), (4, .nils), (5, iT i), (12, .bool (decide (i < ((k : Nat) : Int))))] _
   refine hK1 _ _ ?_; clear hK1 K1
   refine cD rfl rfl (fun h1 => ?_) (fun h1 => ?_)
   ·
    replace h1 : i < ((k : Nat) : Int) := (of_decide_eq_true h1)
    refine awp_skip ?_
    refine hK3 _ _ ?_; clear hK3
    refine sK ?_; intro K4 hK4
    refine awp_block ?_
    refine rS [] [0, 1, 4, 5, 24] (by decide) ?_
    intro K1 hK1
    refine ⟨tv, tv, ⟨rfl, by decide⟩, ?_⟩
    refine aL rfl (v := .ms ⟨b, 0, none⟩ k zs.length) rfl (wG 0 hN rfl) rfl (aO rfl rfl (nB rfl)) rfl ?_
    refine ⟨tv, ⟨rfl, (by omega), (by omega)⟩, ⟨rfl, by decide⟩, ?_⟩
    refine ar_loadk rfl (m := m) (L := [(r, rcObj e (.ms ⟨b, 0, none⟩ k zs.length) c F), (b, .cells (flatK thgAV zs))]) thgAV zs i 0 (v := iT ((gI zs i).id)) rfl (by show 0 + (i).toNat * 7 + 0 = (i).toNat * 7 + 0; omega) (wG 1 hN rfl) rfl (fun _ => rfl) rfl (nB rfl) (nB rfl) rfl (by omega) (by omega) ?_
    refine ⟨tv, tv, ?_⟩
    show K1 [(0, pT r), (1, iT id), (4, .nils), (5, iT i), (24, .bool (!(((gI zs i).id) == id)))] (mW m [(r, rcObj e (.ms ⟨b, 0, none⟩ k zs.length) c F), (b, .cells (flatK thgAV zs))])
    refine hK1 _ _ ?_; clear hK1 K1
    refine cD rfl rfl (fun h2 => ?_) (fun h2 => ?_)
    ·
     replace h2 : (gI zs i).id ≠ id := (ne_of_beq_false (bnT h2))
     refine awp_reg2 [25] [0, 1, 4, 5] (by decide) ?_
     intro K1 hK1
     refine ⟨tv, tv, tv, ⟨rfl, by decide⟩, ?_⟩
     refine aL rfl (v := .ms ⟨b, 0, none⟩ k zs.length) rfl (wG 0 hN rfl) rfl (aO rfl rfl (nB rfl)) rfl ?_
     refine ⟨tv, ⟨rfl, (by omega), (by omega)⟩, ?_⟩
     refine ar_loadk rfl (m := m) (L := [(r, rcObj e (.ms ⟨b, 0, none⟩ k zs.length) c F), (b, .cells (flatK thgAV zs))]) thgAV zs i 0 (v := thgAV (gI zs i)) rfl (by show 0 + (i).toNat * 7 = (i).toNat * 7 + 0; omega) (wG 1 hN rfl) rfl (fun _ => rfl) rfl (nB rfl) (nB rfl) rfl (by omega) (by omega) ?_
     refine ⟨⟨rfl, nB rfl, rfl, nB rfl, rfl, by simp only [List.forall_mem_cons]; exact ⟨⟨rfl, rfl⟩, nfA⟩⟩, ?_⟩
     refine ar_append0MsK rfl thgAV 7 ([gI zs i] : List Thg) zT rfl rfl rfl rfl rfl rfl rfl rfl (by decide) hN (fun _ => rfl) (fun _ => rfl) (fun _ => rfl) rfl (by simp) (by (simp only [show Try.prog.bytesOf 80 = 104 from rfl, List.length_cons, List.length_nil]; omega)) (by simp) ?_
     intro b1 zs1 hFb1 hNb1 htb1 hlb1
     replace hNb1 : ([b1, r, b] : List Nat).Nodup := hNb1
     refine ⟨tv, ?_⟩
     show K1 [(0, pT r), (1, iT id), (4, .ms ⟨b1, 0, none⟩ (([gI zs i] : List Thg).length) zs1.length), (5, iT i)] (mW m [(b1, .cells (flatK thgAV zs1)), (r, rcObj e (.ms ⟨b, 0, none⟩ k zs.length) c F), (b, .cells (flatK thgAV zs))])
     refine hK1 _ _ ?_; clear hK1 K1
     refine hK4 _ _ ?_; clear hK4
     refine awp_reg2 [] [0, 1, 4, 5] (by decide) ?_
     intro K1 hK1
     refine ⟨tv, ?_⟩
     refine ar_add rfl (a := i) (b := 1) rfl rfl (by omega) (by omega) ?_
     refine ⟨tv, ?_⟩
     show K1 [(0, pT r), (1, iT id), (4, .ms ⟨b1, 0, none⟩ (([gI zs i] : List Thg).length) zs1.length), (5, iT (i + 1))] _
     refine hK1 _ _ ?_; clear hK1 K1
     refine ⟨.inr (i + 1, b1, ([gI zs i] : List Thg).length, zs1), rfl, rfl, ?_, ?_⟩
     ·
      show ([b1, r, b] : List Nat).Nodup ∧ m b1 = none ∧ 0 ≤ i + 1 ∧ i + 1 ≤ k ∧ (([gI zs i] : List Thg).length : Nat) ≤ (i + 1).toNat ∧ (([gI zs i] : List Thg).length) ≤ (zs1).length ∧ (zs1).take (([gI zs i] : List Thg).length) = ((zs.take k).take (i + 1).toNat).filter (fun t : Thg => !(t.id == id))
      exact ⟨hNb1, hFb1, by omega, by omega, by simp; omega, hlb1, by rw [fil_step hk hI.1 (by omega), fil_yes (by assumption), hI.2.2]; exact htb1⟩
     ·
      show k - (i + 1).toNat < k - (i).toNat
      omega
    replace h2 : (gI zs i).id = id := (eq_of_beq (bnF h2))
    refine awp_skip ?_
    refine hK4 _ _ ?_; clear hK4
    refine awp_reg2 [] [0, 1, 4, 5] (by decide) ?_
    intro K1 hK1
    refine ⟨tv, ?_⟩
    refine ar_add rfl (a := i) (b := 1) rfl rfl (by omega) (by omega) ?_
    refine ⟨tv, ?_⟩
    show K1 [(0, pT r), (1, iT id), (4, .nils), (5, iT (i + 1))] (mW m [(r, rcObj e (.ms ⟨b, 0, none⟩ k zs.length) c F), (b, .cells (flatK thgAV zs))])
    refine hK1 _ _ ?_; clear hK1 K1
    refine ⟨.inl (i + 1), rfl, rfl, ?_, ?_⟩
    ·
     show 0 ≤ i + 1 ∧ i + 1 ≤ k ∧ ((zs.take k).take (i + 1).toNat).filter (fun t : Thg => !(t.id == id)) = []
     exact ⟨by omega, by omega, by rw [fil_step hk hI.1 (by omega), fil_no (by assumption), hI.2.2]; rfl⟩
    ·
     show k - (i + 1).toNat < k - (i).toNat
     omega
   replace h1 : ((k : Nat) : Int) ≤ i := (Int.not_lt.1 (of_decide_eq_false h1))
   refine awp_exit ?_
   refine hK2 _ _ ?_; clear hK2
   refine awp_reg2 [] [] (by decide) ?_
   intro K1 hK1
   refine ⟨tv, tv, tv, ⟨rfl, by decide⟩, ?_⟩
   refine aS rfl 0 (v := .nils) (l' := [pT e, .nils, sT ((toksR c.tokens).map dn3AV), iT c.next, iT c.quota, iT c.calls, sT (F.map intAV)]) rfl rfl hN rfl rfl rfl rfl rfl (nB rfl) rfl ?_
   show K1 [] (mW m [(r, rcObj e .nils c F), (b, .cells (flatK thgAV zs))])
   refine hK1 _ _ ?_; clear hK1 K1
   refine ⟨(mW m [(r, rcObj e .nils c F)]), (wth_keep (m := m) (L := [(r, rcObj e .nils c F), (b, .cells (flatK thgAV zs))]) (L1 := [(r, rcObj e .nils c F)]) (L2 := [(b, .cells (flatK thgAV zs))]) hN (pick_perm [0] _) (by simp only [List.map_cons, List.map_nil, List.forall_mem_cons]; exact ⟨hb, nfA⟩)), ?_⟩
   show K (.tuple []) (AMem.wth m [(r, rcObj e .nils c F)])
  
   first | (have hf : (zs.take k).take i.toNat = zs.take k := List.take_of_length_le (by omega); rw [hf, hlv] at hI; refine hK [] .nils ?_; rw [hI.2.2]; exact HidR.nil m _) | (have hf : (zs.take k).take i.toNat = zs.take k := List.take_of_length_le (by omega); rw [hf, hlv] at hs5; have hrb : r ≠ bq := (by simp at hN2; omega); rw [hid_two (m := m) (Ne.symm hrb)]; exact hK _ _ (HidR.row hF2 (by simp; exact Ne.symm hrb) hs4 hs5))
  ·
   replace hI : ([bq, r, b] : List Nat).Nodup ∧ m bq = none ∧ 0 ≤ i ∧ i ≤ k ∧ (nq : Nat) ≤ (i).toNat ∧ nq ≤ (z2).length ∧ (z2).take nq = ((zs.take k).take (i).toNat).filter (fun t : Thg => !(t.id == id)) := hI
   obtain ⟨hN2, hF2, hs1, hs2, hs3, hs4, hs5⟩ := hI
   show AWP _ _ _ _ [(0, pT r), (1, iT id), (4, .ms ⟨bq, 0, none⟩ nq z2.length), (5, iT i)] (mW m [(bq, .cells (flatK thgAV z2)), (r, rcObj e (.ms ⟨b, 0, none⟩ k zs.length) c F), (b, .cells (flatK thgAV zs))])
   refine sK ?_; intro K5 hK5
   refine rS [] [0, 1, 4, 5, 12] (by decide) ?_
   intro K1 hK1
   refine ⟨tv, tv, tv, ⟨rfl, by decide⟩, ?_⟩
   refine aL rfl (v := .ms ⟨b, 0, none⟩ k zs.length) rfl (wG 1 hN2 rfl) rfl (aO rfl rfl (nB rfl)) rfl ?_
   refine ⟨(by omega), tv, ?_⟩
   show K1 [(0, pT r), (1, iT id), (4, .ms ⟨bq, 0, none⟩ nq z2.length), (5, iT i), (12, .bool (decide (i < ((k : Nat) : Int))))] _
   refine hK1 _ _ ?_; clear hK1 K1
   refine cD rfl rfl (fun h3 => ?_) (fun h3 => ?_)
   ·
    replace h3 : i < ((k : Nat) : Int) := (of_decide_eq_true h3)
    refine awp_skip ?_
    refine hK5 _ _ ?_; clear hK5
    refine sK ?_; intro K6 hK6
    refine awp_block ?_
    refine rS [] [0, 1, 4, 5, 24] (by decide) ?_
    intro K1 hK1
    refine ⟨tv, tv, ⟨rfl, by decide⟩, ?_⟩
    refine aL rfl (v := .ms ⟨b, 0, none⟩ k zs.length) rfl (wG 1 hN2 rfl) rfl (aO rfl rfl (nB rfl)) rfl ?_
    refine ⟨tv, ⟨rfl, (by omega), (by omega)⟩, ⟨rfl, by decide⟩, ?_⟩
    refine ar_loadk rfl (m := m) (L := [(bq, .cells (flatK thgAV z2)), (r, rcObj e (.ms ⟨b, 0, none⟩ k zs.length) c F), (b, .cells (flatK thgAV zs))]) thgAV zs i 0 (v := iT ((gI zs i).id)) rfl (by show 0 + (i).toNat * 7 + 0 = (i).toNat * 7 + 0; omega) (wG 2 hN2 rfl) rfl (fun _ => rfl) rfl (nB rfl) (nB rfl) rfl (by omega) (by omega) ?_
    refine ⟨tv, tv, ?_⟩
    show K1 [(0, pT r), (1, iT id), (4, .ms ⟨bq, 0, none⟩ nq z2.length), (5, iT i), (24, .bool (!(((gI zs i).id) == id)))] (mW m [(bq, .cells (flatK thgAV z2)), (r, rcObj e (.ms ⟨b, 0, none⟩ k zs.length) c F), (b, .cells (flatK thgAV zs))])
    refine hK1 _ _ ?_; clear hK1 K1
    refine cD rfl rfl (fun h4 => ?_) (fun h4 => ?_)
    ·
     replace h4 : (gI zs i).id ≠ id := (ne_of_beq_false (bnT h4))
     refine awp_reg2 [25] [0, 1, 4, 5] (by decide) ?_
     intro K1 hK1
     refine ⟨tv, tv, tv, ⟨rfl, by decide⟩, ?_⟩
     refine aL rfl (v := .ms ⟨b, 0, none⟩ k zs.length) rfl (wG 1 hN2 rfl) rfl (aO rfl rfl (nB rfl)) rfl ?_
     refine ⟨tv, ⟨rfl, (by omega), (by omega)⟩, ?_⟩
     refine ar_loadk rfl (m := m) (L := [(bq, .cells (flatK thgAV z2)), (r, rcObj e (.ms ⟨b, 0, none⟩ k zs.length) c F), (b, .cells (flatK thgAV zs))]) thgAV zs i 0 (v := thgAV (gI zs i)) rfl (by show 0 + (i).toNat * 7 = (i).toNat * 7 + 0; omega) (wG 2 hN2 rfl) rfl (fun _ => rfl) rfl (nB rfl) (nB rfl) rfl (by omega) (by omega) ?_
     refine ⟨⟨rfl, nB rfl, rfl, nB rfl, rfl, by simp only [List.forall_mem_cons]; exact ⟨⟨rfl, rfl⟩, nfA⟩⟩, ?_⟩
     refine ar_appendMsK rfl 0 thgAV 7 z2 ([gI zs i] : List Thg) zT nq rfl rfl rfl rfl rfl rfl rfl rfl (by decide) rfl hN2 hF2 (fun _ => rfl) (fun _ => rfl) (fun _ => rfl) rfl (by (first | omega | (simp only [List.length_append, List.length_cons, List.length_nil]; omega))) (by (simp only [show Try.prog.bytesOf 80 = 104 from rfl, List.length_append, List.length_cons, List.length_nil]; omega)) (by (first | omega | (simp only [List.length_append, List.length_cons, List.length_nil]; omega))) ?_
     intro b2 zs2 hFb2 hNb2 htb2 hlb2
     replace htb2 : zs2.take (nq + ([gI zs i] : List Thg).length) = z2.take nq ++ ([gI zs i] : List Thg) := htb2
     replace hlb2 : nq + ([gI zs i] : List Thg).length ≤ zs2.length := hlb2
     refine ⟨tv, ?_⟩
     show K1 [(0, pT r), (1, iT id), (4, .ms ⟨b2, 0, none⟩ (nq + ([gI zs i] : List Thg).length) zs2.length), (5, iT i)] (mW m [(b2, .cells (flatK thgAV zs2)), (r, rcObj e (.ms ⟨b, 0, none⟩ k zs.length) c F), (b, .cells (flatK thgAV zs))])
     refine hK1 _ _ ?_; clear hK1 K1
     refine hK6 _ _ ?_; clear hK6
     refine awp_reg2 [] [0, 1, 4, 5] (by decide) ?_
     intro K1 hK1
     refine ⟨tv, ?_⟩
     refine ar_add rfl (a := i) (b := 1) rfl rfl (by omega) (by omega) ?_
     refine ⟨tv, ?_⟩
     show K1 [(0, pT r), (1, iT id), (4, .ms ⟨b2, 0, none⟩ (nq + ([gI zs i] : List Thg).length) zs2.length), (5, iT (i + 1))] _
     refine hK1 _ _ ?_; clear hK1 K1
     refine ⟨.inr (i + 1, b2, nq + ([gI zs i] : List Thg).length, zs2), rfl, rfl, ?_, ?_⟩
     ·
      show ([b2, r, b] : List Nat).Nodup ∧ m b2 = none ∧ 0 ≤ i + 1 ∧ i + 1 ≤ k ∧ (nq + ([gI zs i] : List Thg).length : Nat) ≤ (i + 1).toNat ∧ (nq + ([gI zs i] : List Thg).length) ≤ (zs2).length ∧ (zs2).take (nq + ([gI zs i] : List Thg).length) = ((zs.take k).take (i + 1).toNat).filter (fun t : Thg => !(t.id == id))
      exact ⟨hNb2, hFb2, by omega, by omega, by simp; omega, hlb2, by rw [fil_step hk hs1 (by omega), fil_yes (by assumption), htb2, hs5]⟩
     ·
      show k - (i + 1).toNat < k - (i).toNat
      omega
    replace h4 : (gI zs i).id = id := (eq_of_beq (bnF h4))
    refine awp_skip ?_
    refine hK6 _ _ ?_; clear hK6
    refine awp_reg2 [] [0, 1, 4, 5] (by decide) ?_
    intro K1 hK1
    refine ⟨tv, ?_⟩
    refine ar_add rfl (a := i) (b := 1) rfl rfl (by omega) (by omega) ?_
    refine ⟨tv, ?_⟩
    show K1 [(0, pT r), (1, iT id), (4, .ms ⟨bq, 0, none⟩ nq z2.length), (5, iT (i + 1))] (mW m [(bq, .cells (flatK thgAV z2)), (r, rcObj e (.ms ⟨b, 0, none⟩ k zs.length) c F), (b, .cells (flatK thgAV zs))])
    refine hK1 _ _ ?_; clear hK1 K1
    refine ⟨.inr (i + 1, bq, nq, z2), rfl, rfl, ?_, ?_⟩
    ·
     show ([bq, r, b] : List Nat).Nodup ∧ m bq = none ∧ 0 ≤ i + 1 ∧ i + 1 ≤ k ∧ (nq : Nat) ≤ (i + 1).toNat ∧ nq ≤ (z2).length ∧ (z2).take nq = ((zs.take k).take (i + 1).toNat).filter (fun t : Thg => !(t.id == id))
     exact ⟨hN2, hF2, by omega, by omega, by omega, hs4, by rw [fil_step hk hs1 (by omega), fil_no (by assumption), List.append_nil]; exact hs5⟩
    ·
     show k - (i + 1).toNat < k - (i).toNat
     omega
   replace h3 : ((k : Nat) : Int) ≤ i := (Int.not_lt.1 (of_decide_eq_false h3))
   refine awp_exit ?_
   refine hK2 _ _ ?_; clear hK2
   refine awp_reg2 [] [] (by decide) ?_
   intro K1 hK1
   refine ⟨tv, tv, tv, ⟨rfl, by decide⟩, ?_⟩
   refine aS rfl 1 (v := .ms ⟨bq, 0, none⟩ nq z2.length) (l' := [pT e, .ms ⟨bq, 0, none⟩ nq z2.length, sT ((toksR c.tokens).map dn3AV), iT c.next, iT c.quota, iT c.calls, sT (F.map intAV)]) rfl rfl hN2 rfl rfl rfl rfl rfl (nB rfl) rfl ?_
   show K1 [] (mW m [(bq, .cells (flatK thgAV z2)), (r, rcObj e (.ms ⟨bq, 0, none⟩ nq z2.length) c F), (b, .cells (flatK thgAV zs))])
   refine hK1 _ _ ?_; clear hK1 K1
   refine ⟨(mW m [(bq, .cells (flatK thgAV z2)), (r, rcObj e (.ms ⟨bq, 0, none⟩ nq z2.length) c F)]), (wth_keep (m := m) (L := [(bq, .cells (flatK thgAV z2)), (r, rcObj e (.ms ⟨bq, 0, none⟩ nq z2.length) c F), (b, .cells (flatK thgAV zs))]) (L1 := [(bq, .cells (flatK thgAV z2)), (r, rcObj e (.ms ⟨bq, 0, none⟩ nq z2.length) c F)]) (L2 := [(b, .cells (flatK thgAV zs))]) hN2 (pick_perm [0, 0] _) (by simp only [List.map_cons, List.map_nil, List.forall_mem_cons]; exact ⟨hb, nfA⟩)), ?_⟩
   show K (.tuple []) (AMem.wth m [(bq, .cells (flatK thgAV z2)), (r, rcObj e (.ms ⟨bq, 0, none⟩ nq z2.length) c F)])
  
   first | (have hf : (zs.take k).take i.toNat = zs.take k := List.take_of_length_le (by omega); rw [hf, hlv] at hI; refine hK [] .nils ?_; rw [hI.2.2]; exact HidR.nil m _) | (have hf : (zs.take k).take i.toNat = zs.take k := List.take_of_length_le (by omega); rw [hf, hlv] at hs5; have hrb : r ≠ bq := (by simp at hN2; omega); rw [hid_two (m := m) (Ne.symm hrb)]; exact hK _ _ (HidR.row hF2 (by simp; exact Ne.symm hrb) hs4 hs5))
theorem u_RLose (r e : Nat) (c : ClSt) (F : List Int) (id : Int) {m : AMem} {H : List (Nat × AObj)} {av : AV} (hT : HidR thgAV m [r] H av (vals c)) (hl : c.things.length ≤ 1000000) (hids : ∀ p ∈ c.things, p.2.id = p.1) (hn : (c.things.map Prod.fst).Nodup) (K : AV → AMem → Prop)
    (hK : ∀ H' av', HidR thgAV m [r] H' av' (vals ({ c with things := mdel c.things id } : ClSt)) → K (.tuple []) ((m.wth H').wth [(r, rcObj e av' ({ c with things := mdel c.things id } : ClSt) F)])) :
    ACalls Try.prog 56 [pT r, iT id] ((m.wth H).wth [(r, rcObj e av c F)]) K := by
  rcases hT.sh with ⟨rfl, rfl, hz⟩ | ⟨b, zs, rfl, rfl, hle, htk⟩
  · exact u_RLose_nil r e c F id (by simpa [vals] using hz) m K hK
  · have hne : r ≠ b := by have := hT.nin (c := r) (by simp); simpa using this
    exact u_RLose_ms r e b (vals c).length zs c F id (by simp [hne]) hle (by unfold vals; rw [List.length_map]; exact hl) htk hids hn hne m (hT.out b (by simp)) K hK
end Go.Proofs
end
