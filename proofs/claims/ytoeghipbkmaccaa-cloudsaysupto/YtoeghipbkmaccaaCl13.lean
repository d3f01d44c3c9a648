import Derived.Test.YtoeghipbkmaccaaProg
import Derived.Test.YtoeghipbkmaccaaWl8
import Derived.Test.YtoeghipbkmaccaaCl12
namespace Go.Proofs
open Go Go.Aw
set_option maxRecDepth 100000

set_option maxHeartbeats 8000000 in
theorem u_Do2_nil (r e : Nat) (q : RSt) (s : DSt) (c : ClSt) (F : List Int) (token kind : Str) (id : Int) (v : Val) (N : Nat) (hN : [r, e].Nodup) (hz : c.things = []) (hT : Two s q N) (hNN : N ≤ 200) (hB : depV v ≤ 1000000000000) (hfr : (mget c.fails c.calls).getD false = true ↔ c.calls ∈ F) (hca : 0 ≤ c.calls) (hca2 : c.calls ≤ 1000000) (hnx : 0 ≤ c.next) (hnx2 : c.next ≤ 1000000) (htl : c.things.length ≤ 1000000) (hol : c.tokens.length ≤ 1000000) (hFl : F.length ≤ 1000000) (m : AMem)  (K : AV → AMem → Prop) (hK : ∀ r0, updateR c s token id v = r0 → ∀ H' av', HidR thgAV m [r, e] H' av' (vals r0.1.1) → ∀ x : Int, K (.tuple [.int .i64 x, .int .i64 r0.2]) ((m.wth H').wth [(r, rcObj e av' r0.1.1 F), (e, rObj (rT q r0.1.2))])) : ACalls Try.prog 49 [.ptr ⟨r, 0, none⟩, .int .i64 2, .str token, .str kind, .int .i64 id, valTop v] (AMem.wth m [(r, rcObj e .nils c F), (e, zR s)]) K := by
 have hae := attrE_nn v
 have htkl : (toksR c.tokens).length ≤ 1000000 := by rw [toksR_len]; exact hol
 refine acalls_enter Try.func49 rfl (by decide) (Nat.le_of_ble_eq_true rfl) ?_
 show AWP _ _ _ _ [(0, .ptr ⟨r, 0, none⟩), (1, .int .i64 2), (2, .str token), (3, .str kind), (4, .int .i64 id), (5, valTop v)] (AMem.wth m [(r, rcObj e .nils c F), (e, zR s)])
 refine awp_reg2_seq [] [0, 1, 2, 3, 4, 11] (by decide) ?_
 intro K1 hK1
 refine ar_box rfl (m := m) (L := [(r, rcObj e .nils c F), (e, zR s)]) (v := valTop v) (by rfl) rfl ?_
 intro b1 hb1
 have hFb1 : m b1 = none := wth_none hb1
 have hNb1 : ([b1, r, e] : List Nat).Nodup := wth_nodup hb1 hN
 refine ⟨trivial, trivial, ?_⟩
 show K1 [(0, .ptr ⟨r, 0, none⟩), (1, .int .i64 2), (2, .str token), (3, .str kind), (4, .int .i64 id), (11, .ptr ⟨b1, 0, none⟩)] (AMem.wth m [(b1, vObj v), (r, rcObj e .nils c F), (e, zR s)])
 refine hK1 _ _ ?_; clear hK1 K1
 refine awp_seq_k ?_; intro K2 hK2
 refine awp_reg2_seq [] [0, 1, 2, 3, 4, 11, 22] (by decide) ?_
 intro K1 hK1
 refine ⟨trivial, trivial, ?_⟩
 show K1 [(0, .ptr ⟨r, 0, none⟩), (1, .int .i64 2), (2, .str token), (3, .str kind), (4, .int .i64 id), (11, .ptr ⟨b1, 0, none⟩), (22, .bool true)] _
 refine hK1 _ _ ?_; clear hK1 K1
 refine awp_cond rfl rfl (fun hcz => ?_) (fun hcz => ?_)
 rotate_left; · cases hcz
 clear hcz
 refine awp_reg2_seq [] [0, 1, 2, 3, 4, 11, 14] (by decide) ?_
 intro K1 hK1
 refine ar_loadp rfl (v := .agg [.int .i64 v.kind, .int .i64 v.n, .str v.s, .slice false (v.l.map valIn), .slice false (v.f.map fldIn)]) rfl (wth_get 0 hNb1 rfl) rfl (apartOk_agg rfl rfl (Nat.le_of_ble_eq_true rfl)) rfl ?_
 refine u_attrsFault v hB _ _ ?_
 refine ⟨trivial, ?_⟩
 show K1 [(0, .ptr ⟨r, 0, none⟩), (1, .int .i64 2), (2, .str token), (3, .str kind), (4, .int .i64 id), (11, .ptr ⟨b1, 0, none⟩), (14, .int .i64 (attrE v))] _
 refine hK1 _ _ ?_; clear hK1 K1
 refine awp_reg2_seq [] [0, 1, 2, 3, 4, 11, 14, 26] (by decide) ?_
 intro K1 hK1
 refine ⟨trivial, trivial, ?_⟩
 show K1 [(0, .ptr ⟨r, 0, none⟩), (1, .int .i64 2), (2, .str token), (3, .str kind), (4, .int .i64 id), (11, .ptr ⟨b1, 0, none⟩), (14, .int .i64 (attrE v)), (26, .bool (decide (0 < attrE v)))] _
 refine hK1 _ _ ?_; clear hK1 K1
 refine awp_cond rfl rfl (fun h1 => ?_) (fun h1 => ?_)
 ·
  replace h1 : 0 < attrE v := (of_decide_eq_true h1)
  refine awp_reg2_seq [] [12, 13] (by decide) ?_
  intro K1 hK1
  refine ⟨trivial, trivial, trivial, ?_⟩
  show K1 [(12, .int .i64 0), (13, .int .i64 (attrE v))] (AMem.wth m [(b1, vObj v), (r, rcObj e .nils c F), (e, zR s)])
  refine hK1 _ _ ?_; clear hK1 K1
  refine awp_ret ?_
  refine ⟨trivial, trivial, (AMem.wth m [(r, rcObj e .nils c F), (e, zR s)]), (wth_keep (m := m) (L := [(b1, vObj v), (r, rcObj e .nils c F), (e, zR s)]) (L1 := [(r, rcObj e .nils c F), (e, zR s)]) (L2 := [(b1, vObj v)]) hNb1 (pick_perm [1, 1] _) (by simp only [List.map_cons, List.map_nil, List.forall_mem_cons]; exact ⟨hFb1, fun _ h => by cases h⟩)), ?_⟩
  show K (.tuple [.int .i64 0, .int .i64 (attrE v)]) (AMem.wth m [(r, rcObj e .nils c F), (e, zR s)])
 
  exact hK _ (updateR_1 (by omega)) [] .nils (nil_vals hz) _
 replace h1 : attrE v ≤ 0 := (Int.not_lt.1 (of_decide_eq_false h1))
 refine awp_skip ?_
 refine hK2 _ _ ?_; clear hK2
 refine awp_reg2_seq [] [0, 1, 2, 3, 4, 11, 15] (by decide) ?_
 intro K1 hK1
 refine ⟨trivial, ?_⟩
 refine u_NameMay kind _ _ ?_
 refine ⟨trivial, ?_⟩
 show K1 [(0, .ptr ⟨r, 0, none⟩), (1, .int .i64 2), (2, .str token), (3, .str kind), (4, .int .i64 id), (11, .ptr ⟨b1, 0, none⟩), (15, .bool (nameV kind))] (AMem.wth m [(b1, vObj v), (r, rcObj e .nils c F), (e, zR s)])
 refine hK1 _ _ ?_; clear hK1 K1
 refine awp_seq_k ?_; intro K3 hK3
 refine awp_reg2_seq [] [0, 1, 2, 3, 4, 11, 35] (by decide) ?_
 intro K1 hK1
 suffices key : K1 [(0, .ptr ⟨r, 0, none⟩), (1, .int .i64 2), (2, .str token), (3, .str kind), (4, .int .i64 id), (11, .ptr ⟨b1, 0, none⟩), (35, .bool false)] (AMem.wth m [(b1, vObj v), (r, rcObj e .nils c F), (e, zR s)]) by
  refine ⟨trivial, trivial, trivial, ?_⟩
  refine ar_off rfl (ar_off rfl ?_)
  exact key
 refine hK1 _ _ ?_; clear hK1 K1
 refine awp_cond rfl rfl (fun hcz => ?_) (fun hcz => ?_)
 ·
  cases hcz
 clear hcz
 refine awp_skip ?_
 refine hK3 _ _ ?_; clear hK3
 refine awp_seq_k ?_; intro K4 hK4
 refine awp_reg2_seq [] [0, 1, 2, 3, 4, 11, 16] (by decide) ?_
 intro K1 hK1
 refine ⟨trivial, trivial, ⟨rfl, by decide⟩, ?_⟩
 refine ar_loadp rfl (v := .ptr ⟨e, 0, none⟩) rfl (wth_get 1 hNb1 rfl) rfl (apartOk_one rfl rfl (Nat.le_of_ble_eq_true rfl)) rfl ?_
 refine ar_mem (wth_split hNb1 (pick_perm [2] _)) ?_
 refine u_QStepC e hT hNN _ _ ?_
 show aopsR _ _ _ _ _ _ (AMem.wth (AMem.wth m [(b1, vObj v), (r, rcObj e .nils c F)]) [(e, zR ((stepF s).1))])
 refine ar_mem (wth_split (m := m) (L := [(b1, vObj v), (r, rcObj e .nils c F), (e, zR ((stepF s).1))]) hNb1 (pick_perm [2] _)).symm ?_
 refine ⟨trivial, ?_⟩
 show K1 [(0, .ptr ⟨r, 0, none⟩), (1, .int .i64 2), (2, .str token), (3, .str kind), (4, .int .i64 id), (11, .ptr ⟨b1, 0, none⟩), (16, .int .i64 ((stepF s).2))] (AMem.wth m [(b1, vObj v), (r, rcObj e .nils c F), (e, zR ((stepF s).1))])
 refine hK1 _ _ ?_; clear hK1 K1
 refine awp_reg2_seq [] [0, 1, 2, 3, 4, 11, 16, 42] (by decide) ?_
 intro K1 hK1
 refine ⟨trivial, trivial, ?_⟩
 show K1 [(0, .ptr ⟨r, 0, none⟩), (1, .int .i64 2), (2, .str token), (3, .str kind), (4, .int .i64 id), (11, .ptr ⟨b1, 0, none⟩), (16, .int .i64 ((stepF s).2)), (42, .bool (decide (0 < (stepF s).2)))] _
 refine hK1 _ _ ?_; clear hK1 K1
 refine awp_cond rfl rfl (fun h2 => ?_) (fun h2 => ?_)
 ·
  replace h2 : 0 < (stepF s).2 := (of_decide_eq_true h2)
  refine awp_reg2_seq [] [12, 13] (by decide) ?_
  intro K1 hK1
  refine ⟨trivial, trivial, trivial, ?_⟩
  show K1 [(12, .int .i64 0), (13, .int .i64 ((stepF s).2))] (AMem.wth m [(b1, vObj v), (r, rcObj e .nils c F), (e, zR ((stepF s).1))])
  refine hK1 _ _ ?_; clear hK1 K1
  refine awp_ret ?_
  refine ⟨trivial, trivial, (AMem.wth m [(r, rcObj e .nils c F), (e, zR ((stepF s).1))]), (wth_keep (m := m) (L := [(b1, vObj v), (r, rcObj e .nils c F), (e, zR ((stepF s).1))]) (L1 := [(r, rcObj e .nils c F), (e, zR ((stepF s).1))]) (L2 := [(b1, vObj v)]) hNb1 (pick_perm [1, 1] _) (by simp only [List.map_cons, List.map_nil, List.forall_mem_cons]; exact ⟨hFb1, fun _ h => by cases h⟩)), ?_⟩
  show K (.tuple [.int .i64 0, .int .i64 ((stepF s).2)]) (AMem.wth m [(r, rcObj e .nils c F), (e, zR ((stepF s).1))])
 
  exact hK _ (updateD_3 (by omega) (by omega)) [] .nils (nil_vals hz) _
 replace h2 : (stepF s).2 ≤ 0 := (Int.not_lt.1 (of_decide_eq_false h2))
 refine awp_skip ?_
 refine hK4 _ _ ?_; clear hK4
 have hs0 : (stepF s).2 = 0 := by have := (stepF_keep s).2.2.2; omega
 refine awp_reg2_seq [] [0, 1, 2, 3, 4, 11, 17] (by decide) ?_
 intro K1 hK1
 refine ⟨trivial, trivial, ⟨rfl, by decide⟩, ?_⟩
 refine ar_loadp rfl (v := .int .i64 c.calls) rfl (wth_get 1 hNb1 rfl) rfl (apartOk_one rfl rfl (Nat.le_of_ble_eq_true rfl)) rfl ?_
 refine ⟨trivial, ?_⟩
 show K1 [(0, .ptr ⟨r, 0, none⟩), (1, .int .i64 2), (2, .str token), (3, .str kind), (4, .int .i64 id), (11, .ptr ⟨b1, 0, none⟩), (17, .int .i64 c.calls)] (AMem.wth m [(b1, vObj v), (r, rcObj e .nils c F), (e, zR ((stepF s).1))])
 refine hK1 _ _ ?_; clear hK1 K1
 refine awp_reg2_seq [] [0, 1, 2, 3, 4, 11, 17] (by decide) ?_
 intro K1 hK1
 refine ⟨trivial, trivial, ⟨rfl, by decide⟩, ?_⟩
 refine ar_loadp rfl (v := .int .i64 c.calls) rfl (wth_get 1 hNb1 rfl) rfl (apartOk_one rfl rfl (Nat.le_of_ble_eq_true rfl)) rfl ?_
 refine ar_add rfl (a := c.calls) (b := 1) rfl rfl (by omega) (by omega) ?_
 refine ⟨trivial, ⟨rfl, by decide⟩, ?_⟩
 refine ar_storep rfl 1 (v := .int .i64 (c.calls + 1)) (l' := [.ptr ⟨e, 0, none⟩, .nils, .slice true ((toksR c.tokens).map dn3AV), .int .i64 c.next, .int .i64 c.quota, .int .i64 (c.calls + 1), .slice true (F.map intAV)]) rfl rfl hNb1 rfl rfl rfl rfl rfl (Nat.le_of_ble_eq_true rfl) rfl ?_
 show K1 [(0, .ptr ⟨r, 0, none⟩), (1, .int .i64 2), (2, .str token), (3, .str kind), (4, .int .i64 id), (11, .ptr ⟨b1, 0, none⟩), (17, .int .i64 c.calls)] (AMem.wth m [(b1, vObj v), (r, .cells [.ptr ⟨e, 0, none⟩, .nils, .slice true ((toksR c.tokens).map dn3AV), .int .i64 c.next, .int .i64 c.quota, .int .i64 (c.calls + 1), .slice true (F.map intAV)]), (e, zR ((stepF s).1))])
 refine hK1 _ _ ?_; clear hK1 K1
 refine awp_seq_k ?_; intro K5 hK5
 refine awp_reg2_seq [] [0, 1, 2, 3, 4, 11, 17, 18] (by decide) ?_
 intro K1 hK1
 refine ⟨trivial, ?_⟩
 show K1 [(0, .ptr ⟨r, 0, none⟩), (1, .int .i64 2), (2, .str token), (3, .str kind), (4, .int .i64 id), (11, .ptr ⟨b1, 0, none⟩), (17, .int .i64 c.calls), (18, .int .i64 0)] _
 refine hK1 _ _ ?_; clear hK1 K1
 refine awp_block ?_
 refine awp_keep [0, 1, 2, 3, 4, 11, 17, 18] (by decide) ?_
 refine awp_loop_st (σ := Int) (fun i => [(0, .ptr ⟨r, 0, none⟩), (1, .int .i64 2), (2, .str token), (3, .str kind), (4, .int .i64 id), (11, .ptr ⟨b1, 0, none⟩), (17, .int .i64 c.calls), (18, .int .i64 i)]) (fun _ => (AMem.wth m [(b1, vObj v), (r, .cells [.ptr ⟨e, 0, none⟩, .nils, .slice true ((toksR c.tokens).map dn3AV), .int .i64 c.next, .int .i64 c.quota, .int .i64 (c.calls + 1), .slice true (F.map intAV)]), (e, zR ((stepF s).1))])) (fun i => 0 ≤ i ∧ i ≤ F.length ∧ ∀ x ∈ F.take i.toNat, x ≠ c.calls) (fun i => F.length - i.toNat) (0) rfl rfl ?_ ?_
 ·
  show 0 ≤ ((0 : Int)) ∧ ((0 : Int)) ≤ F.length ∧ ∀ x ∈ F.take ((0 : Int)).toNat, x ≠ c.calls
  exact ⟨by omega, by omega, fun x hx => by simp at hx⟩
 rintro i hI
 replace hI : 0 ≤ i ∧ i ≤ F.length ∧ ∀ x ∈ F.take i.toNat, x ≠ c.calls := hI
 show AWP _ _ _ _ [(0, .ptr ⟨r, 0, none⟩), (1, .int .i64 2), (2, .str token), (3, .str kind), (4, .int .i64 id), (11, .ptr ⟨b1, 0, none⟩), (17, .int .i64 c.calls), (18, .int .i64 i)] (AMem.wth m [(b1, vObj v), (r, .cells [.ptr ⟨e, 0, none⟩, .nils, .slice true ((toksR c.tokens).map dn3AV), .int .i64 c.next, .int .i64 c.quota, .int .i64 (c.calls + 1), .slice true (F.map intAV)]), (e, zR ((stepF s).1))])
 refine awp_seq_k ?_; intro K6 hK6
 refine awp_reg2_seq [] [0, 1, 2, 3, 4, 11, 17, 18, 61] (by decide) ?_
 intro K1 hK1
 refine ⟨trivial, trivial, trivial, ⟨rfl, by decide⟩, ?_⟩
 refine ar_loadp rfl (v := .slice false (F.map intAV)) rfl (wth_get 1 hNb1 rfl) rfl (apartOk_one rfl rfl (Nat.le_of_ble_eq_true rfl)) rfl ?_
 refine ar_len rfl intAV F rfl rfl rfl ?_
 refine ⟨trivial, ?_⟩
 show K1 [(0, .ptr ⟨r, 0, none⟩), (1, .int .i64 2), (2, .str token), (3, .str kind), (4, .int .i64 id), (11, .ptr ⟨b1, 0, none⟩), (17, .int .i64 c.calls), (18, .int .i64 i), (61, .bool (decide (i < (F.length : Int))))] _
 refine hK1 _ _ ?_; clear hK1 K1
 refine awp_cond rfl rfl (fun h3 => ?_) (fun h3 => ?_)
 ·
  replace h3 : i < (F.length : Int) := (of_decide_eq_true h3)
  refine awp_skip ?_
  refine hK6 _ _ ?_; clear hK6
  refine awp_seq_k ?_; intro K7 hK7
  refine awp_block ?_
  refine awp_reg2_seq [] [0, 1, 2, 3, 4, 11, 17, 18, 72] (by decide) ?_
  intro K1 hK1
  refine ⟨trivial, trivial, ⟨rfl, by decide⟩, ?_⟩
  refine ar_loadp rfl (v := .slice false (F.map intAV)) rfl (wth_get 1 hNb1 rfl) rfl (apartOk_one rfl rfl (Nat.le_of_ble_eq_true rfl)) rfl ?_
  refine ⟨trivial, ?_⟩
  refine ar_index rfl intAV F i rfl rfl rfl rfl rfl (by decide) (fun _ => rfl) (by omega) (by omega) ?_
  refine ⟨(apartOk_one rfl rfl (Nat.le_of_ble_eq_true rfl)), trivial, trivial, ?_⟩
  show K1 [(0, .ptr ⟨r, 0, none⟩), (1, .int .i64 2), (2, .str token), (3, .str kind), (4, .int .i64 id), (11, .ptr ⟨b1, 0, none⟩), (17, .int .i64 c.calls), (18, .int .i64 i), (72, .bool ((gI F i) == c.calls))] (AMem.wth m [(b1, vObj v), (r, .cells [.ptr ⟨e, 0, none⟩, .nils, .slice true ((toksR c.tokens).map dn3AV), .int .i64 c.next, .int .i64 c.quota, .int .i64 (c.calls + 1), .slice true (F.map intAV)]), (e, zR ((stepF s).1))])
  refine hK1 _ _ ?_; clear hK1 K1
  refine awp_cond rfl rfl (fun h4 => ?_) (fun h4 => ?_)
  ·
   replace h4 : gI F i = c.calls := (eq_of_beq h4)
   refine awp_reg2_seq [] [12, 13] (by decide) ?_
   intro K1 hK1
   refine ⟨trivial, trivial, ?_⟩
   show K1 [(12, .int .i64 0), (13, .int .i64 12)] (AMem.wth m [(b1, vObj v), (r, .cells [.ptr ⟨e, 0, none⟩, .nils, .slice true ((toksR c.tokens).map dn3AV), .int .i64 c.next, .int .i64 c.quota, .int .i64 (c.calls + 1), .slice true (F.map intAV)]), (e, zR ((stepF s).1))])
   refine hK1 _ _ ?_; clear hK1 K1
   refine awp_ret ?_
   refine ⟨trivial, trivial, (AMem.wth m [(r, .cells [.ptr ⟨e, 0, none⟩, .nils, .slice true ((toksR c.tokens).map dn3AV), .int .i64 c.next, .int .i64 c.quota, .int .i64 (c.calls + 1), .slice true (F.map intAV)]), (e, zR ((stepF s).1))]), (wth_keep (m := m) (L := [(b1, vObj v), (r, .cells [.ptr ⟨e, 0, none⟩, .nils, .slice true ((toksR c.tokens).map dn3AV), .int .i64 c.next, .int .i64 c.quota, .int .i64 (c.calls + 1), .slice true (F.map intAV)]), (e, zR ((stepF s).1))]) (L1 := [(r, .cells [.ptr ⟨e, 0, none⟩, .nils, .slice true ((toksR c.tokens).map dn3AV), .int .i64 c.next, .int .i64 c.quota, .int .i64 (c.calls + 1), .slice true (F.map intAV)]), (e, zR ((stepF s).1))]) (L2 := [(b1, vObj v)]) hNb1 (pick_perm [1, 1] _) (by simp only [List.map_cons, List.map_nil, List.forall_mem_cons]; exact ⟨hFb1, fun _ h => by cases h⟩)), ?_⟩
   show K (.tuple [.int .i64 0, .int .i64 12]) (AMem.wth m [(r, .cells [.ptr ⟨e, 0, none⟩, .nils, .slice true ((toksR c.tokens).map dn3AV), .int .i64 c.next, .int .i64 c.quota, .int .i64 (c.calls + 1), .slice true (F.map intAV)]), (e, zR ((stepF s).1))])
  
   have z3 := gI_mem (l := F) hI.1 (by assumption)
   have z4 : gI F i = c.calls := by assumption
   rw [z4] at z3
   exact hK _ (updateD_4 (by omega) hs0 (hfr.2 z3)) [] .nils (nil_vals hz) _
  replace h4 : gI F i ≠ c.calls := (ne_of_beq_false h4)
  refine awp_skip ?_
  refine hK7 _ _ ?_; clear hK7
  refine awp_reg2 [] [0, 1, 2, 3, 4, 11, 17, 18] (by decide) ?_
  intro K1 hK1
  refine ⟨trivial, ?_⟩
  refine ar_add rfl (a := i) (b := 1) rfl rfl (by omega) (by omega) ?_
  refine ⟨trivial, ?_⟩
  show K1 [(0, .ptr ⟨r, 0, none⟩), (1, .int .i64 2), (2, .str token), (3, .str kind), (4, .int .i64 id), (11, .ptr ⟨b1, 0, none⟩), (17, .int .i64 c.calls), (18, .int .i64 (i + 1))] (AMem.wth m [(b1, vObj v), (r, .cells [.ptr ⟨e, 0, none⟩, .nils, .slice true ((toksR c.tokens).map dn3AV), .int .i64 c.next, .int .i64 c.quota, .int .i64 (c.calls + 1), .slice true (F.map intAV)]), (e, zR ((stepF s).1))])
  refine hK1 _ _ ?_; clear hK1 K1
  refine ⟨(i + 1), rfl, rfl, ?_, ?_⟩
  ·
   show 0 ≤ ((i + 1 : Int)) ∧ ((i + 1 : Int)) ≤ F.length ∧ ∀ x ∈ F.take ((i + 1 : Int)).toNat, x ≠ c.calls
   refine ⟨by omega, by omega, fun x hx => ?_⟩
   rw [take_succ_gI hI.1 (by assumption), List.mem_append] at hx
   rcases hx with hx | hx
   ·
    exact hI.2.2 x hx
   ·
    simp at hx; subst hx; assumption
  ·
   show F.length - ((i + 1 : Int)).toNat < F.length - i.toNat
   omega
 replace h3 : (F.length : Int) ≤ i := (Int.not_lt.1 (of_decide_eq_false h3))
 refine awp_exit ?_
 refine hK5 _ _ ?_; clear hK5
 refine awp_seq_k ?_; intro K8 hK8
 have hb0 : (mget c.fails c.calls).getD false = false := by
  rw [Bool.eq_false_iff]; intro z
  have z2 := hfr.1 z
  rw [take_full (by assumption)] at hI
  exact hI.2.2 _ z2 rfl
 refine awp_reg2_seq [] [0, 1, 2, 3, 4, 11, 19] (by decide) ?_
 intro K1 hK1
 refine ⟨trivial, ?_⟩
 show K1 [(0, .ptr ⟨r, 0, none⟩), (1, .int .i64 2), (2, .str token), (3, .str kind), (4, .int .i64 id), (11, .ptr ⟨b1, 0, none⟩), (19, .int .i64 0)] (AMem.wth m [(b1, vObj v), (r, .cells [.ptr ⟨e, 0, none⟩, .nils, .slice true ((toksR c.tokens).map dn3AV), .int .i64 c.next, .int .i64 c.quota, .int .i64 (c.calls + 1), .slice true (F.map intAV)]), (e, zR ((stepF s).1))])
 refine hK1 _ _ ?_; clear hK1 K1
 refine awp_block ?_
 refine awp_keep [0, 1, 2, 3, 4, 11, 19] (by decide) ?_
 refine awp_loop_st (σ := Int) (fun i2 => [(0, .ptr ⟨r, 0, none⟩), (1, .int .i64 2), (2, .str token), (3, .str kind), (4, .int .i64 id), (11, .ptr ⟨b1, 0, none⟩), (19, .int .i64 i2)]) (fun _ => (AMem.wth m [(b1, vObj v), (r, .cells [.ptr ⟨e, 0, none⟩, .nils, .slice true ((toksR c.tokens).map dn3AV), .int .i64 c.next, .int .i64 c.quota, .int .i64 (c.calls + 1), .slice true (F.map intAV)]), (e, zR ((stepF s).1))])) (fun i2 => 0 ≤ i2 ∧ i2 ≤ (toksR c.tokens).length ∧ mget c.tokens token = mget (c.tokens.drop i2.toNat) token) (fun i2 => (toksR c.tokens).length - i2.toNat) (0) rfl rfl ?_ ?_
 ·
  show 0 ≤ ((0 : Int)) ∧ ((0 : Int)) ≤ (toksR c.tokens).length ∧ mget c.tokens token = mget (c.tokens.drop ((0 : Int)).toNat) token
  exact ⟨by omega, by omega, rfl⟩
 rintro i2 hI2
 replace hI2 : 0 ≤ i2 ∧ i2 ≤ (toksR c.tokens).length ∧ mget c.tokens token = mget (c.tokens.drop i2.toNat) token := hI2
 show AWP _ _ _ _ [(0, .ptr ⟨r, 0, none⟩), (1, .int .i64 2), (2, .str token), (3, .str kind), (4, .int .i64 id), (11, .ptr ⟨b1, 0, none⟩), (19, .int .i64 i2)] (AMem.wth m [(b1, vObj v), (r, .cells [.ptr ⟨e, 0, none⟩, .nils, .slice true ((toksR c.tokens).map dn3AV), .int .i64 c.next, .int .i64 c.quota, .int .i64 (c.calls + 1), .slice true (F.map intAV)]), (e, zR ((stepF s).1))])
 refine awp_seq_k ?_; intro K9 hK9
 refine awp_reg2_seq [] [0, 1, 2, 3, 4, 11, 19, 79] (by decide) ?_
 intro K1 hK1
 refine ⟨trivial, trivial, trivial, ⟨rfl, by decide⟩, ?_⟩
 refine ar_loadp rfl (v := .slice false ((toksR c.tokens).map dn3AV)) rfl (wth_get 1 hNb1 rfl) rfl (apartOk_one rfl rfl (Nat.le_of_ble_eq_true rfl)) rfl ?_
 refine ar_len rfl dn3AV (toksR c.tokens) rfl rfl rfl ?_
 refine ⟨trivial, ?_⟩
 show K1 [(0, .ptr ⟨r, 0, none⟩), (1, .int .i64 2), (2, .str token), (3, .str kind), (4, .int .i64 id), (11, .ptr ⟨b1, 0, none⟩), (19, .int .i64 i2), (79, .bool (decide (i2 < ((toksR c.tokens).length : Int))))] _
 refine hK1 _ _ ?_; clear hK1 K1
 refine awp_cond rfl rfl (fun h5 => ?_) (fun h5 => ?_)
 ·
  replace h5 : i2 < ((toksR c.tokens).length : Int) := (of_decide_eq_true h5)
  refine awp_skip ?_
  refine hK9 _ _ ?_; clear hK9
  refine awp_seq_k ?_; intro K10 hK10
  refine awp_block ?_
  refine awp_seq_k ?_; intro K11 hK11
  refine awp_reg2_seq [] [0, 1, 2, 3, 4, 11, 19, 91] (by decide) ?_
  intro K1 hK1
  refine ⟨trivial, trivial, ⟨rfl, by decide⟩, ?_⟩
  refine ar_loadp rfl (v := .slice false ((toksR c.tokens).map dn3AV)) rfl (wth_get 1 hNb1 rfl) rfl (apartOk_one rfl rfl (Nat.le_of_ble_eq_true rfl)) rfl ?_
  refine ⟨trivial, ?_⟩
  refine ar_index rfl dn3AV (toksR c.tokens) i2 rfl rfl rfl rfl rfl (by decide) (fun _ => rfl) (by omega) (by omega) ?_
  refine ⟨⟨rfl, by decide, (Nat.le_of_ble_eq_true rfl)⟩, (apartOk_one rfl rfl (Nat.le_of_ble_eq_true rfl)), trivial, trivial, ?_⟩
  show K1 [(0, .ptr ⟨r, 0, none⟩), (1, .int .i64 2), (2, .str token), (3, .str kind), (4, .int .i64 id), (11, .ptr ⟨b1, 0, none⟩), (19, .int .i64 i2), (91, .bool (!(((gI (toksR c.tokens) i2).tok) == token)))] (AMem.wth m [(b1, vObj v), (r, .cells [.ptr ⟨e, 0, none⟩, .nils, .slice true ((toksR c.tokens).map dn3AV), .int .i64 c.next, .int .i64 c.quota, .int .i64 (c.calls + 1), .slice true (F.map intAV)]), (e, zR ((stepF s).1))])
  refine hK1 _ _ ?_; clear hK1 K1
  refine awp_cond rfl rfl (fun h6 => ?_) (fun h6 => ?_)
  ·
   replace h6 : (gI (toksR c.tokens) i2).tok ≠ token := (ne_of_beq_false (bnT h6))
   refine awp_exit ?_
   refine hK10 _ _ ?_; clear hK10
   refine awp_reg2 [] [0, 1, 2, 3, 4, 11, 19] (by decide) ?_
   intro K1 hK1
   refine ⟨trivial, ?_⟩
   refine ar_add rfl (a := i2) (b := 1) rfl rfl (by omega) (by omega) ?_
   refine ⟨trivial, ?_⟩
   show K1 [(0, .ptr ⟨r, 0, none⟩), (1, .int .i64 2), (2, .str token), (3, .str kind), (4, .int .i64 id), (11, .ptr ⟨b1, 0, none⟩), (19, .int .i64 (i2 + 1))] (AMem.wth m [(b1, vObj v), (r, .cells [.ptr ⟨e, 0, none⟩, .nils, .slice true ((toksR c.tokens).map dn3AV), .int .i64 c.next, .int .i64 c.quota, .int .i64 (c.calls + 1), .slice true (F.map intAV)]), (e, zR ((stepF s).1))])
   refine hK1 _ _ ?_; clear hK1 K1
   refine ⟨(i2 + 1), rfl, rfl, ?_, ?_⟩
   ·
    show 0 ≤ ((i2 + 1 : Int)) ∧ ((i2 + 1 : Int)) ≤ (toksR c.tokens).length ∧ mget c.tokens token = mget (c.tokens.drop ((i2 + 1 : Int)).toNat) token
    exact ⟨by omega, by omega, tok_miss hI2 (by assumption) (by assumption)⟩
   ·
    show (toksR c.tokens).length - ((i2 + 1 : Int)).toNat < (toksR c.tokens).length - i2.toNat
    omega
  replace h6 : (gI (toksR c.tokens) i2).tok = token := (eq_of_beq (bnF h6))
  refine awp_skip ?_
  refine hK11 _ _ ?_; clear hK11
  refine awp_seq_k ?_; intro K12 hK12
  refine awp_reg2_seq [] [0, 19, 101] (by decide) ?_
  intro K1 hK1
  refine ⟨trivial, trivial, ⟨rfl, by decide⟩, ?_⟩
  refine ar_loadp rfl (v := .slice false ((toksR c.tokens).map dn3AV)) rfl (wth_get 1 hNb1 rfl) rfl (apartOk_one rfl rfl (Nat.le_of_ble_eq_true rfl)) rfl ?_
  refine ⟨trivial, ?_⟩
  refine ar_index rfl dn3AV (toksR c.tokens) i2 rfl rfl rfl rfl rfl (by decide) (fun _ => rfl) (by omega) (by omega) ?_
  refine ⟨⟨rfl, by decide, (Nat.le_of_ble_eq_true rfl)⟩, (apartOk_one rfl rfl (Nat.le_of_ble_eq_true rfl)), trivial, trivial, ?_⟩
  show K1 [(0, .ptr ⟨r, 0, none⟩), (19, .int .i64 i2), (101, .bool (!(((gI (toksR c.tokens) i2).op) == 2)))] (AMem.wth m [(b1, vObj v), (r, .cells [.ptr ⟨e, 0, none⟩, .nils, .slice true ((toksR c.tokens).map dn3AV), .int .i64 c.next, .int .i64 c.quota, .int .i64 (c.calls + 1), .slice true (F.map intAV)]), (e, zR ((stepF s).1))])
  refine hK1 _ _ ?_; clear hK1 K1
  refine awp_cond rfl rfl (fun h7 => ?_) (fun h7 => ?_)
  ·
   replace h7 : (gI (toksR c.tokens) i2).op ≠ 2 := (ne_of_beq_false (bnT h7))
   refine awp_reg2_seq [] [12, 13] (by decide) ?_
   intro K1 hK1
   refine ⟨trivial, trivial, ?_⟩
   show K1 [(12, .int .i64 0), (13, .int .i64 15)] (AMem.wth m [(b1, vObj v), (r, .cells [.ptr ⟨e, 0, none⟩, .nils, .slice true ((toksR c.tokens).map dn3AV), .int .i64 c.next, .int .i64 c.quota, .int .i64 (c.calls + 1), .slice true (F.map intAV)]), (e, zR ((stepF s).1))])
   refine hK1 _ _ ?_; clear hK1 K1
   refine awp_ret ?_
   refine ⟨trivial, trivial, (AMem.wth m [(r, .cells [.ptr ⟨e, 0, none⟩, .nils, .slice true ((toksR c.tokens).map dn3AV), .int .i64 c.next, .int .i64 c.quota, .int .i64 (c.calls + 1), .slice true (F.map intAV)]), (e, zR ((stepF s).1))]), (wth_keep (m := m) (L := [(b1, vObj v), (r, .cells [.ptr ⟨e, 0, none⟩, .nils, .slice true ((toksR c.tokens).map dn3AV), .int .i64 c.next, .int .i64 c.quota, .int .i64 (c.calls + 1), .slice true (F.map intAV)]), (e, zR ((stepF s).1))]) (L1 := [(r, .cells [.ptr ⟨e, 0, none⟩, .nils, .slice true ((toksR c.tokens).map dn3AV), .int .i64 c.next, .int .i64 c.quota, .int .i64 (c.calls + 1), .slice true (F.map intAV)]), (e, zR ((stepF s).1))]) (L2 := [(b1, vObj v)]) hNb1 (pick_perm [1, 1] _) (by simp only [List.map_cons, List.map_nil, List.forall_mem_cons]; exact ⟨hFb1, fun _ h => by cases h⟩)), ?_⟩
   show K (.tuple [.int .i64 0, .int .i64 15]) (AMem.wth m [(r, .cells [.ptr ⟨e, 0, none⟩, .nils, .slice true ((toksR c.tokens).map dn3AV), .int .i64 c.next, .int .i64 c.quota, .int .i64 (c.calls + 1), .slice true (F.map intAV)]), (e, zR ((stepF s).1))])
  
   have hm := tok_hit hI2 (by assumption) (by assumption)
   have hg := gI_toks hI2.1 (l := c.tokens) (by assumption)
   have hop : (gI c.tokens i2).2.op ≠ 2 := (by (have z : (gI (toksR c.tokens) i2).op ≠ 2 := by assumption); rw [hg] at z; exact z)
   exact hK _ (updateD_5 (by omega) hs0 hb0 hm hop) [] .nils (nil_vals hz) _
  replace h7 : (gI (toksR c.tokens) i2).op = 2 := (eq_of_beq (bnF h7))
  refine awp_skip ?_
  refine hK12 _ _ ?_; clear hK12
  refine awp_reg2_seq [] [12, 13] (by decide) ?_
  intro K1 hK1
  refine ⟨trivial, trivial, ⟨rfl, by decide⟩, ?_⟩
  refine ar_loadp rfl (v := .slice false ((toksR c.tokens).map dn3AV)) rfl (wth_get 1 hNb1 rfl) rfl (apartOk_one rfl rfl (Nat.le_of_ble_eq_true rfl)) rfl ?_
  refine ⟨trivial, ?_⟩
  refine ar_index rfl dn3AV (toksR c.tokens) i2 rfl rfl rfl rfl rfl (by decide) (fun _ => rfl) (by omega) (by omega) ?_
  refine ⟨⟨rfl, by decide, (Nat.le_of_ble_eq_true rfl)⟩, (apartOk_one rfl rfl (Nat.le_of_ble_eq_true rfl)), trivial, trivial, ?_⟩
  show K1 [(12, .int .i64 ((gI (toksR c.tokens) i2).id)), (13, .int .i64 0)] (AMem.wth m [(b1, vObj v), (r, .cells [.ptr ⟨e, 0, none⟩, .nils, .slice true ((toksR c.tokens).map dn3AV), .int .i64 c.next, .int .i64 c.quota, .int .i64 (c.calls + 1), .slice true (F.map intAV)]), (e, zR ((stepF s).1))])
  refine hK1 _ _ ?_; clear hK1 K1
  refine awp_ret ?_
  refine ⟨trivial, trivial, (AMem.wth m [(r, .cells [.ptr ⟨e, 0, none⟩, .nils, .slice true ((toksR c.tokens).map dn3AV), .int .i64 c.next, .int .i64 c.quota, .int .i64 (c.calls + 1), .slice true (F.map intAV)]), (e, zR ((stepF s).1))]), (wth_keep (m := m) (L := [(b1, vObj v), (r, .cells [.ptr ⟨e, 0, none⟩, .nils, .slice true ((toksR c.tokens).map dn3AV), .int .i64 c.next, .int .i64 c.quota, .int .i64 (c.calls + 1), .slice true (F.map intAV)]), (e, zR ((stepF s).1))]) (L1 := [(r, .cells [.ptr ⟨e, 0, none⟩, .nils, .slice true ((toksR c.tokens).map dn3AV), .int .i64 c.next, .int .i64 c.quota, .int .i64 (c.calls + 1), .slice true (F.map intAV)]), (e, zR ((stepF s).1))]) (L2 := [(b1, vObj v)]) hNb1 (pick_perm [1, 1] _) (by simp only [List.map_cons, List.map_nil, List.forall_mem_cons]; exact ⟨hFb1, fun _ h => by cases h⟩)), ?_⟩
  show K (.tuple [.int .i64 ((gI (toksR c.tokens) i2).id), .int .i64 0]) (AMem.wth m [(r, .cells [.ptr ⟨e, 0, none⟩, .nils, .slice true ((toksR c.tokens).map dn3AV), .int .i64 c.next, .int .i64 c.quota, .int .i64 (c.calls + 1), .slice true (F.map intAV)]), (e, zR ((stepF s).1))])
 
  have hm := tok_hit hI2 (by assumption) (by assumption)
  have hg := gI_toks hI2.1 (l := c.tokens) (by assumption)
  have hop : (gI c.tokens i2).2.op = 2 := (by (have z : (gI (toksR c.tokens) i2).op = 2 := by assumption); rw [hg] at z; exact z)
  exact hK _ (updateD_6 (by omega) hs0 hb0 hm hop) [] .nils (nil_vals hz) _
 replace h5 : ((toksR c.tokens).length : Int) ≤ i2 := (Int.not_lt.1 (of_decide_eq_false h5))
 refine awp_exit ?_
 refine hK8 _ _ ?_; clear hK8
 have htk0 : mget c.tokens token = none := tok_end hI2 (by assumption)
 refine awp_reg2_seq [] [0, 1, 2, 3, 4, 11, 20] (by decide) ?_
 intro K1 hK1
 refine ⟨trivial, trivial, ?_⟩
 refine ar_mem (wth_split hNb1 (pick_perm [1] _)) ?_
 refine u_place_nil r e ({ c with calls := c.calls + 1 } : ClSt) F id _ _ ?_
 show aopsR _ _ _ _ _ _ (AMem.wth (AMem.wth m [(b1, vObj v), (e, zR ((stepF s).1))]) [(r, .cells [.ptr ⟨e, 0, none⟩, .nils, .slice true ((toksR c.tokens).map dn3AV), .int .i64 c.next, .int .i64 c.quota, .int .i64 (c.calls + 1), .slice true (F.map intAV)])])
 refine ar_mem (wth_split (m := m) (L := [(b1, vObj v), (r, .cells [.ptr ⟨e, 0, none⟩, .nils, .slice true ((toksR c.tokens).map dn3AV), .int .i64 c.next, .int .i64 c.quota, .int .i64 (c.calls + 1), .slice true (F.map intAV)]), (e, zR ((stepF s).1))]) hNb1 (pick_perm [1] _)).symm ?_
 refine ⟨trivial, ?_⟩
 show K1 [(0, .ptr ⟨r, 0, none⟩), (1, .int .i64 2), (2, .str token), (3, .str kind), (4, .int .i64 id), (11, .ptr ⟨b1, 0, none⟩), (20, .int .i64 (-1))] (AMem.wth m [(b1, vObj v), (r, .cells [.ptr ⟨e, 0, none⟩, .nils, .slice true ((toksR c.tokens).map dn3AV), .int .i64 c.next, .int .i64 c.quota, .int .i64 (c.calls + 1), .slice true (F.map intAV)]), (e, zR ((stepF s).1))])
 refine hK1 _ _ ?_; clear hK1 K1
 refine awp_seq_k ?_; intro K13 hK13
 refine awp_reg2_seq [] [0, 1, 2, 3, 4, 11, 20, 113] (by decide) ?_
 intro K1 hK1
 refine ⟨trivial, ?_⟩
 show K1 [(0, .ptr ⟨r, 0, none⟩), (1, .int .i64 2), (2, .str token), (3, .str kind), (4, .int .i64 id), (11, .ptr ⟨b1, 0, none⟩), (20, .int .i64 (-1)), (113, .int .i64 2)] _
 refine hK1 _ _ ?_; clear hK1 K1
 refine awp_block ?_
 refine awp_reg2_seq [] [0, 1, 2, 3, 4, 11, 20, 113, 114] (by decide) ?_
 intro K1 hK1
 refine ⟨trivial, trivial, ?_⟩
 show K1 [(0, .ptr ⟨r, 0, none⟩), (1, .int .i64 2), (2, .str token), (3, .str kind), (4, .int .i64 id), (11, .ptr ⟨b1, 0, none⟩), (20, .int .i64 (-1)), (113, .int .i64 2), (114, .bool false)] _
 refine hK1 _ _ ?_; clear hK1 K1
 refine awp_cond rfl rfl (fun hcz => ?_) (fun hcz => ?_)
 ·
  cases hcz
 clear hcz
 refine awp_reg2_seq [] [0, 1, 2, 4, 11, 20, 113, 150] (by decide) ?_
 intro K1 hK1
 refine ⟨trivial, trivial, ?_⟩
 show K1 [(0, .ptr ⟨r, 0, none⟩), (1, .int .i64 2), (2, .str token), (4, .int .i64 id), (11, .ptr ⟨b1, 0, none⟩), (20, .int .i64 (-1)), (113, .int .i64 2), (150, .bool true)] (AMem.wth m [(b1, vObj v), (r, .cells [.ptr ⟨e, 0, none⟩, .nils, .slice true ((toksR c.tokens).map dn3AV), .int .i64 c.next, .int .i64 c.quota, .int .i64 (c.calls + 1), .slice true (F.map intAV)]), (e, zR ((stepF s).1))])
 refine hK1 _ _ ?_; clear hK1 K1
 refine awp_cond rfl rfl (fun hcz => ?_) (fun hcz => ?_)
 rotate_left; · cases hcz
 clear hcz
 refine awp_seq_k ?_; intro K14 hK14
 refine awp_reg2_seq [] [0, 1, 2, 4, 11, 20, 153] (by decide) ?_
 intro K1 hK1
 refine ⟨trivial, trivial, ?_⟩
 show K1 [(0, .ptr ⟨r, 0, none⟩), (1, .int .i64 2), (2, .str token), (4, .int .i64 id), (11, .ptr ⟨b1, 0, none⟩), (20, .int .i64 (-1)), (153, .bool true)] _
 refine hK1 _ _ ?_; clear hK1 K1
 refine awp_cond rfl rfl (fun hcz => ?_) (fun hcz => ?_)
 rotate_left; · cases hcz
 clear hcz
 refine awp_reg2_seq [] [12, 13] (by decide) ?_
 intro K1 hK1
 refine ⟨trivial, trivial, ?_⟩
 show K1 [(12, .int .i64 0), (13, .int .i64 7)] _
 refine hK1 _ _ ?_; clear hK1 K1
 refine awp_ret ?_
 refine ⟨trivial, trivial, (AMem.wth m [(r, .cells [.ptr ⟨e, 0, none⟩, .nils, .slice true ((toksR c.tokens).map dn3AV), .int .i64 c.next, .int .i64 c.quota, .int .i64 (c.calls + 1), .slice true (F.map intAV)]), (e, zR ((stepF s).1))]), (wth_keep (m := m) (L := [(b1, vObj v), (r, .cells [.ptr ⟨e, 0, none⟩, .nils, .slice true ((toksR c.tokens).map dn3AV), .int .i64 c.next, .int .i64 c.quota, .int .i64 (c.calls + 1), .slice true (F.map intAV)]), (e, zR ((stepF s).1))]) (L1 := [(r, .cells [.ptr ⟨e, 0, none⟩, .nils, .slice true ((toksR c.tokens).map dn3AV), .int .i64 c.next, .int .i64 c.quota, .int .i64 (c.calls + 1), .slice true (F.map intAV)]), (e, zR ((stepF s).1))]) (L2 := [(b1, vObj v)]) hNb1 (pick_perm [1, 1] _) (by simp only [List.map_cons, List.map_nil, List.forall_mem_cons]; exact ⟨hFb1, fun _ h => by cases h⟩)), ?_⟩
 show K (.tuple [.int .i64 0, .int .i64 7]) (AMem.wth m [(r, .cells [.ptr ⟨e, 0, none⟩, .nils, .slice true ((toksR c.tokens).map dn3AV), .int .i64 c.next, .int .i64 c.quota, .int .i64 (c.calls + 1), .slice true (F.map intAV)]), (e, zR ((stepF s).1))])

 exact hK _ (updateD_7 (by omega) hs0 hb0 htk0 (by rw [hz]; rfl)) [] .nils (nil_vals hz) _

set_option maxHeartbeats 8000000 in
theorem u_Do2_ms (r e b k : Nat) (zs : List Thg) (q : RSt) (s : DSt) (c : ClSt) (F : List Int) (token kind : Str) (id : Int) (v : Val) (N : Nat) (hN : [r, e, b].Nodup) (hk : k ≤ zs.length) (hkb : k ≤ 1000000) (hv : zs.take k = vals c) (hids : ∀ p ∈ c.things, p.2.id = p.1) (hT : Two s q N) (hNN : N ≤ 200) (hB : depV v ≤ 1000000000000) (hfr : (mget c.fails c.calls).getD false = true ↔ c.calls ∈ F) (hca : 0 ≤ c.calls) (hca2 : c.calls ≤ 1000000) (hnx : 0 ≤ c.next) (hnx2 : c.next ≤ 1000000) (htl : c.things.length ≤ 1000000) (hol : c.tokens.length ≤ 1000000) (hFl : F.length ≤ 1000000) (m : AMem) (hb : m b = none) (K : AV → AMem → Prop) (hK : ∀ r0, updateR c s token id v = r0 → ∀ H' av', HidR thgAV m [r, e] H' av' (vals r0.1.1) → ∀ x : Int, K (.tuple [.int .i64 x, .int .i64 r0.2]) ((m.wth H').wth [(r, rcObj e av' r0.1.1 F), (e, rObj (rT q r0.1.2))])) : ACalls Try.prog 49 [.ptr ⟨r, 0, none⟩, .int .i64 2, .str token, .str kind, .int .i64 id, valTop v] (AMem.wth m [(r, rcObj e (.ms ⟨b, 0, none⟩ k zs.length) c F), (e, zR s), (b, .cells (flatK thgAV zs))]) K := by
 have hae := attrE_nn v
 have htkl : (toksR c.tokens).length ≤ 1000000 := by rw [toksR_len]; exact hol
 have hpa := place_at hids id
 rw [← hv] at hpa
 have hlk : (zs.take k).length = k := by rw [List.length_take, Nat.min_eq_left hk]
 rw [hlk] at hpa
 refine acalls_enter Try.func49 rfl (by decide) (Nat.le_of_ble_eq_true rfl) ?_
 show AWP _ _ _ _ [(0, .ptr ⟨r, 0, none⟩), (1, .int .i64 2), (2, .str token), (3, .str kind), (4, .int .i64 id), (5, valTop v)] (AMem.wth m [(r, rcObj e (.ms ⟨b, 0, none⟩ k zs.length) c F), (e, zR s), (b, .cells (flatK thgAV zs))])
 refine awp_reg2_seq [] [0, 1, 2, 3, 4, 11] (by decide) ?_
 intro K1 hK1
 refine ar_box rfl (m := m) (L := [(r, rcObj e (.ms ⟨b, 0, none⟩ k zs.length) c F), (e, zR s), (b, .cells (flatK thgAV zs))]) (v := valTop v) (by rfl) rfl ?_
 intro b1 hb1
 have hFb1 : m b1 = none := wth_none hb1
 have hNb1 : ([b1, r, e, b] : List Nat).Nodup := wth_nodup hb1 hN
 refine ⟨trivial, trivial, ?_⟩
 show K1 [(0, .ptr ⟨r, 0, none⟩), (1, .int .i64 2), (2, .str token), (3, .str kind), (4, .int .i64 id), (11, .ptr ⟨b1, 0, none⟩)] (AMem.wth m [(b1, vObj v), (r, rcObj e (.ms ⟨b, 0, none⟩ k zs.length) c F), (e, zR s), (b, .cells (flatK thgAV zs))])
 refine hK1 _ _ ?_; clear hK1 K1
 refine awp_seq_k ?_; intro K2 hK2
 refine awp_reg2_seq [] [0, 1, 2, 3, 4, 11, 22] (by decide) ?_
 intro K1 hK1
 refine ⟨trivial, trivial, ?_⟩
 show K1 [(0, .ptr ⟨r, 0, none⟩), (1, .int .i64 2), (2, .str token), (3, .str kind), (4, .int .i64 id), (11, .ptr ⟨b1, 0, none⟩), (22, .bool true)] _
 refine hK1 _ _ ?_; clear hK1 K1
 refine awp_cond rfl rfl (fun hcz => ?_) (fun hcz => ?_)
 rotate_left; · cases hcz
 clear hcz
 refine awp_reg2_seq [] [0, 1, 2, 3, 4, 11, 14] (by decide) ?_
 intro K1 hK1
 refine ar_loadp rfl (v := .agg [.int .i64 v.kind, .int .i64 v.n, .str v.s, .slice false (v.l.map valIn), .slice false (v.f.map fldIn)]) rfl (wth_get 0 hNb1 rfl) rfl (apartOk_agg rfl rfl (Nat.le_of_ble_eq_true rfl)) rfl ?_
 refine u_attrsFault v hB _ _ ?_
 refine ⟨trivial, ?_⟩
 show K1 [(0, .ptr ⟨r, 0, none⟩), (1, .int .i64 2), (2, .str token), (3, .str kind), (4, .int .i64 id), (11, .ptr ⟨b1, 0, none⟩), (14, .int .i64 (attrE v))] _
 refine hK1 _ _ ?_; clear hK1 K1
 refine awp_reg2_seq [] [0, 1, 2, 3, 4, 11, 14, 26] (by decide) ?_
 intro K1 hK1
 refine ⟨trivial, trivial, ?_⟩
 show K1 [(0, .ptr ⟨r, 0, none⟩), (1, .int .i64 2), (2, .str token), (3, .str kind), (4, .int .i64 id), (11, .ptr ⟨b1, 0, none⟩), (14, .int .i64 (attrE v)), (26, .bool (decide (0 < attrE v)))] _
 refine hK1 _ _ ?_; clear hK1 K1
 refine awp_cond rfl rfl (fun h1 => ?_) (fun h1 => ?_)
 ·
  replace h1 : 0 < attrE v := (of_decide_eq_true h1)
  refine awp_reg2_seq [] [12, 13] (by decide) ?_
  intro K1 hK1
  refine ⟨trivial, trivial, trivial, ?_⟩
  show K1 [(12, .int .i64 0), (13, .int .i64 (attrE v))] (AMem.wth m [(b1, vObj v), (r, rcObj e (.ms ⟨b, 0, none⟩ k zs.length) c F), (e, zR s), (b, .cells (flatK thgAV zs))])
  refine hK1 _ _ ?_; clear hK1 K1
  refine awp_ret ?_
  refine ⟨trivial, trivial, (AMem.wth m [(r, rcObj e (.ms ⟨b, 0, none⟩ k zs.length) c F), (e, zR s), (b, .cells (flatK thgAV zs))]), (wth_keep (m := m) (L := [(b1, vObj v), (r, rcObj e (.ms ⟨b, 0, none⟩ k zs.length) c F), (e, zR s), (b, .cells (flatK thgAV zs))]) (L1 := [(r, rcObj e (.ms ⟨b, 0, none⟩ k zs.length) c F), (e, zR s), (b, .cells (flatK thgAV zs))]) (L2 := [(b1, vObj v)]) hNb1 (pick_perm [1, 1, 1] _) (by simp only [List.map_cons, List.map_nil, List.forall_mem_cons]; exact ⟨hFb1, fun _ h => by cases h⟩)), ?_⟩
  show K (.tuple [.int .i64 0, .int .i64 (attrE v)]) (AMem.wth m [(r, rcObj e (.ms ⟨b, 0, none⟩ k zs.length) c F), (e, zR s), (b, .cells (flatK thgAV zs))])
 
  exact hK _ (updateR_1 (by omega)) [(b, .cells (flatK thgAV zs))] _ (HidR.row hb (by simp at hN ⊢; omega) hk hv) _
 replace h1 : attrE v ≤ 0 := (Int.not_lt.1 (of_decide_eq_false h1))
 refine awp_skip ?_
 refine hK2 _ _ ?_; clear hK2
 refine awp_reg2_seq [] [0, 1, 2, 3, 4, 11, 15] (by decide) ?_
 intro K1 hK1
 refine ⟨trivial, ?_⟩
 refine u_NameMay kind _ _ ?_
 refine ⟨trivial, ?_⟩
 show K1 [(0, .ptr ⟨r, 0, none⟩), (1, .int .i64 2), (2, .str token), (3, .str kind), (4, .int .i64 id), (11, .ptr ⟨b1, 0, none⟩), (15, .bool (nameV kind))] (AMem.wth m [(b1, vObj v), (r, rcObj e (.ms ⟨b, 0, none⟩ k zs.length) c F), (e, zR s), (b, .cells (flatK thgAV zs))])
 refine hK1 _ _ ?_; clear hK1 K1
 refine awp_seq_k ?_; intro K3 hK3
 refine awp_reg2_seq [] [0, 1, 2, 3, 4, 11, 35] (by decide) ?_
 intro K1 hK1
 suffices key : K1 [(0, .ptr ⟨r, 0, none⟩), (1, .int .i64 2), (2, .str token), (3, .str kind), (4, .int .i64 id), (11, .ptr ⟨b1, 0, none⟩), (35, .bool false)] (AMem.wth m [(b1, vObj v), (r, rcObj e (.ms ⟨b, 0, none⟩ k zs.length) c F), (e, zR s), (b, .cells (flatK thgAV zs))]) by
  refine ⟨trivial, trivial, trivial, ?_⟩
  refine ar_off rfl (ar_off rfl ?_)
  exact key
 refine hK1 _ _ ?_; clear hK1 K1
 refine awp_cond rfl rfl (fun hcz => ?_) (fun hcz => ?_)
 ·
  cases hcz
 clear hcz
 refine awp_skip ?_
 refine hK3 _ _ ?_; clear hK3
 refine awp_seq_k ?_; intro K4 hK4
 refine awp_reg2_seq [] [0, 1, 2, 3, 4, 11, 16] (by decide) ?_
 intro K1 hK1
 refine ⟨trivial, trivial, ⟨rfl, by decide⟩, ?_⟩
 refine ar_loadp rfl (v := .ptr ⟨e, 0, none⟩) rfl (wth_get 1 hNb1 rfl) rfl (apartOk_one rfl rfl (Nat.le_of_ble_eq_true rfl)) rfl ?_
 refine ar_mem (wth_split hNb1 (pick_perm [2] _)) ?_
 refine u_QStepC e hT hNN _ _ ?_
 show aopsR _ _ _ _ _ _ (AMem.wth (AMem.wth m [(b1, vObj v), (r, rcObj e (.ms ⟨b, 0, none⟩ k zs.length) c F), (b, .cells (flatK thgAV zs))]) [(e, zR ((stepF s).1))])
 refine ar_mem (wth_split (m := m) (L := [(b1, vObj v), (r, rcObj e (.ms ⟨b, 0, none⟩ k zs.length) c F), (e, zR ((stepF s).1)), (b, .cells (flatK thgAV zs))]) hNb1 (pick_perm [2] _)).symm ?_
 refine ⟨trivial, ?_⟩
 show K1 [(0, .ptr ⟨r, 0, none⟩), (1, .int .i64 2), (2, .str token), (3, .str kind), (4, .int .i64 id), (11, .ptr ⟨b1, 0, none⟩), (16, .int .i64 ((stepF s).2))] (AMem.wth m [(b1, vObj v), (r, rcObj e (.ms ⟨b, 0, none⟩ k zs.length) c F), (e, zR ((stepF s).1)), (b, .cells (flatK thgAV zs))])
 refine hK1 _ _ ?_; clear hK1 K1
 refine awp_reg2_seq [] [0, 1, 2, 3, 4, 11, 16, 42] (by decide) ?_
 intro K1 hK1
 refine ⟨trivial, trivial, ?_⟩
 show K1 [(0, .ptr ⟨r, 0, none⟩), (1, .int .i64 2), (2, .str token), (3, .str kind), (4, .int .i64 id), (11, .ptr ⟨b1, 0, none⟩), (16, .int .i64 ((stepF s).2)), (42, .bool (decide (0 < (stepF s).2)))] _
 refine hK1 _ _ ?_; clear hK1 K1
 refine awp_cond rfl rfl (fun h2 => ?_) (fun h2 => ?_)
 ·
  replace h2 : 0 < (stepF s).2 := (of_decide_eq_true h2)
  refine awp_reg2_seq [] [12, 13] (by decide) ?_
  intro K1 hK1
  refine ⟨trivial, trivial, trivial, ?_⟩
  show K1 [(12, .int .i64 0), (13, .int .i64 ((stepF s).2))] (AMem.wth m [(b1, vObj v), (r, rcObj e (.ms ⟨b, 0, none⟩ k zs.length) c F), (e, zR ((stepF s).1)), (b, .cells (flatK thgAV zs))])
  refine hK1 _ _ ?_; clear hK1 K1
  refine awp_ret ?_
  refine ⟨trivial, trivial, (AMem.wth m [(r, rcObj e (.ms ⟨b, 0, none⟩ k zs.length) c F), (e, zR ((stepF s).1)), (b, .cells (flatK thgAV zs))]), (wth_keep (m := m) (L := [(b1, vObj v), (r, rcObj e (.ms ⟨b, 0, none⟩ k zs.length) c F), (e, zR ((stepF s).1)), (b, .cells (flatK thgAV zs))]) (L1 := [(r, rcObj e (.ms ⟨b, 0, none⟩ k zs.length) c F), (e, zR ((stepF s).1)), (b, .cells (flatK thgAV zs))]) (L2 := [(b1, vObj v)]) hNb1 (pick_perm [1, 1, 1] _) (by simp only [List.map_cons, List.map_nil, List.forall_mem_cons]; exact ⟨hFb1, fun _ h => by cases h⟩)), ?_⟩
  show K (.tuple [.int .i64 0, .int .i64 ((stepF s).2)]) (AMem.wth m [(r, rcObj e (.ms ⟨b, 0, none⟩ k zs.length) c F), (e, zR ((stepF s).1)), (b, .cells (flatK thgAV zs))])
 
  exact hK _ (updateD_3 (by omega) (by omega)) [(b, .cells (flatK thgAV zs))] _ (HidR.row hb (by simp at hN ⊢; omega) hk hv) _
 replace h2 : (stepF s).2 ≤ 0 := (Int.not_lt.1 (of_decide_eq_false h2))
 refine awp_skip ?_
 refine hK4 _ _ ?_; clear hK4
 have hs0 : (stepF s).2 = 0 := by have := (stepF_keep s).2.2.2; omega
 refine awp_reg2_seq [] [0, 1, 2, 3, 4, 11, 17] (by decide) ?_
 intro K1 hK1
 refine ⟨trivial, trivial, ⟨rfl, by decide⟩, ?_⟩
 refine ar_loadp rfl (v := .int .i64 c.calls) rfl (wth_get 1 hNb1 rfl) rfl (apartOk_one rfl rfl (Nat.le_of_ble_eq_true rfl)) rfl ?_
 refine ⟨trivial, ?_⟩
 show K1 [(0, .ptr ⟨r, 0, none⟩), (1, .int .i64 2), (2, .str token), (3, .str kind), (4, .int .i64 id), (11, .ptr ⟨b1, 0, none⟩), (17, .int .i64 c.calls)] (AMem.wth m [(b1, vObj v), (r, rcObj e (.ms ⟨b, 0, none⟩ k zs.length) c F), (e, zR ((stepF s).1)), (b, .cells (flatK thgAV zs))])
 refine hK1 _ _ ?_; clear hK1 K1
 refine awp_reg2_seq [] [0, 1, 2, 3, 4, 11, 17] (by decide) ?_
 intro K1 hK1
 refine ⟨trivial, trivial, ⟨rfl, by decide⟩, ?_⟩
 refine ar_loadp rfl (v := .int .i64 c.calls) rfl (wth_get 1 hNb1 rfl) rfl (apartOk_one rfl rfl (Nat.le_of_ble_eq_true rfl)) rfl ?_
 refine ar_add rfl (a := c.calls) (b := 1) rfl rfl (by omega) (by omega) ?_
 refine ⟨trivial, ⟨rfl, by decide⟩, ?_⟩
 refine ar_storep rfl 1 (v := .int .i64 (c.calls + 1)) (l' := [.ptr ⟨e, 0, none⟩, .ms ⟨b, 0, none⟩ k zs.length, .slice true ((toksR c.tokens).map dn3AV), .int .i64 c.next, .int .i64 c.quota, .int .i64 (c.calls + 1), .slice true (F.map intAV)]) rfl rfl hNb1 rfl rfl rfl rfl rfl (Nat.le_of_ble_eq_true rfl) rfl ?_
 show K1 [(0, .ptr ⟨r, 0, none⟩), (1, .int .i64 2), (2, .str token), (3, .str kind), (4, .int .i64 id), (11, .ptr ⟨b1, 0, none⟩), (17, .int .i64 c.calls)] (AMem.wth m [(b1, vObj v), (r, .cells [.ptr ⟨e, 0, none⟩, .ms ⟨b, 0, none⟩ k zs.length, .slice true ((toksR c.tokens).map dn3AV), .int .i64 c.next, .int .i64 c.quota, .int .i64 (c.calls + 1), .slice true (F.map intAV)]), (e, zR ((stepF s).1)), (b, .cells (flatK thgAV zs))])
 refine hK1 _ _ ?_; clear hK1 K1
 refine awp_seq_k ?_; intro K5 hK5
 refine awp_reg2_seq [] [0, 1, 2, 3, 4, 11, 17, 18] (by decide) ?_
 intro K1 hK1
 refine ⟨trivial, ?_⟩
 show K1 [(0, .ptr ⟨r, 0, none⟩), (1, .int .i64 2), (2, .str token), (3, .str kind), (4, .int .i64 id), (11, .ptr ⟨b1, 0, none⟩), (17, .int .i64 c.calls), (18, .int .i64 0)] _
 refine hK1 _ _ ?_; clear hK1 K1
 refine awp_block ?_
 refine awp_keep [0, 1, 2, 3, 4, 11, 17, 18] (by decide) ?_
 refine awp_loop_st (σ := Int) (fun i => [(0, .ptr ⟨r, 0, none⟩), (1, .int .i64 2), (2, .str token), (3, .str kind), (4, .int .i64 id), (11, .ptr ⟨b1, 0, none⟩), (17, .int .i64 c.calls), (18, .int .i64 i)]) (fun _ => (AMem.wth m [(b1, vObj v), (r, .cells [.ptr ⟨e, 0, none⟩, .ms ⟨b, 0, none⟩ k zs.length, .slice true ((toksR c.tokens).map dn3AV), .int .i64 c.next, .int .i64 c.quota, .int .i64 (c.calls + 1), .slice true (F.map intAV)]), (e, zR ((stepF s).1)), (b, .cells (flatK thgAV zs))])) (fun i => 0 ≤ i ∧ i ≤ F.length ∧ ∀ x ∈ F.take i.toNat, x ≠ c.calls) (fun i => F.length - i.toNat) (0) rfl rfl ?_ ?_
 ·
  show 0 ≤ ((0 : Int)) ∧ ((0 : Int)) ≤ F.length ∧ ∀ x ∈ F.take ((0 : Int)).toNat, x ≠ c.calls
  exact ⟨by omega, by omega, fun x hx => by simp at hx⟩
 rintro i hI
 replace hI : 0 ≤ i ∧ i ≤ F.length ∧ ∀ x ∈ F.take i.toNat, x ≠ c.calls := hI
 show AWP _ _ _ _ [(0, .ptr ⟨r, 0, none⟩), (1, .int .i64 2), (2, .str token), (3, .str kind), (4, .int .i64 id), (11, .ptr ⟨b1, 0, none⟩), (17, .int .i64 c.calls), (18, .int .i64 i)] (AMem.wth m [(b1, vObj v), (r, .cells [.ptr ⟨e, 0, none⟩, .ms ⟨b, 0, none⟩ k zs.length, .slice true ((toksR c.tokens).map dn3AV), .int .i64 c.next, .int .i64 c.quota, .int .i64 (c.calls + 1), .slice true (F.map intAV)]), (e, zR ((stepF s).1)), (b, .cells (flatK thgAV zs))])
 refine awp_seq_k ?_; intro K6 hK6
 refine awp_reg2_seq [] [0, 1, 2, 3, 4, 11, 17, 18, 61] (by decide) ?_
 intro K1 hK1
 refine ⟨trivial, trivial, trivial, ⟨rfl, by decide⟩, ?_⟩
 refine ar_loadp rfl (v := .slice false (F.map intAV)) rfl (wth_get 1 hNb1 rfl) rfl (apartOk_one rfl rfl (Nat.le_of_ble_eq_true rfl)) rfl ?_
 refine ar_len rfl intAV F rfl rfl rfl ?_
 refine ⟨trivial, ?_⟩
 show K1 [(0, .ptr ⟨r, 0, none⟩), (1, .int .i64 2), (2, .str token), (3, .str kind), (4, .int .i64 id), (11, .ptr ⟨b1, 0, none⟩), (17, .int .i64 c.calls), (18, .int .i64 i), (61, .bool (decide (i < (F.length : Int))))] _
 refine hK1 _ _ ?_; clear hK1 K1
 refine awp_cond rfl rfl (fun h3 => ?_) (fun h3 => ?_)
 ·
  replace h3 : i < (F.length : Int) := (of_decide_eq_true h3)
  refine awp_skip ?_
  refine hK6 _ _ ?_; clear hK6
  refine awp_seq_k ?_; intro K7 hK7
  refine awp_block ?_
  refine awp_reg2_seq [] [0, 1, 2, 3, 4, 11, 17, 18, 72] (by decide) ?_
  intro K1 hK1
  refine ⟨trivial, trivial, ⟨rfl, by decide⟩, ?_⟩
  refine ar_loadp rfl (v := .slice false (F.map intAV)) rfl (wth_get 1 hNb1 rfl) rfl (apartOk_one rfl rfl (Nat.le_of_ble_eq_true rfl)) rfl ?_
  refine ⟨trivial, ?_⟩
  refine ar_index rfl intAV F i rfl rfl rfl rfl rfl (by decide) (fun _ => rfl) (by omega) (by omega) ?_
  refine ⟨(apartOk_one rfl rfl (Nat.le_of_ble_eq_true rfl)), trivial, trivial, ?_⟩
  show K1 [(0, .ptr ⟨r, 0, none⟩), (1, .int .i64 2), (2, .str token), (3, .str kind), (4, .int .i64 id), (11, .ptr ⟨b1, 0, none⟩), (17, .int .i64 c.calls), (18, .int .i64 i), (72, .bool ((gI F i) == c.calls))] (AMem.wth m [(b1, vObj v), (r, .cells [.ptr ⟨e, 0, none⟩, .ms ⟨b, 0, none⟩ k zs.length, .slice true ((toksR c.tokens).map dn3AV), .int .i64 c.next, .int .i64 c.quota, .int .i64 (c.calls + 1), .slice true (F.map intAV)]), (e, zR ((stepF s).1)), (b, .cells (flatK thgAV zs))])
  refine hK1 _ _ ?_; clear hK1 K1
  refine awp_cond rfl rfl (fun h4 => ?_) (fun h4 => ?_)
  ·
   replace h4 : gI F i = c.calls := (eq_of_beq h4)
   refine awp_reg2_seq [] [12, 13] (by decide) ?_
   intro K1 hK1
   refine ⟨trivial, trivial, ?_⟩
   show K1 [(12, .int .i64 0), (13, .int .i64 12)] (AMem.wth m [(b1, vObj v), (r, .cells [.ptr ⟨e, 0, none⟩, .ms ⟨b, 0, none⟩ k zs.length, .slice true ((toksR c.tokens).map dn3AV), .int .i64 c.next, .int .i64 c.quota, .int .i64 (c.calls + 1), .slice true (F.map intAV)]), (e, zR ((stepF s).1)), (b, .cells (flatK thgAV zs))])
   refine hK1 _ _ ?_; clear hK1 K1
   refine awp_ret ?_
   refine ⟨trivial, trivial, (AMem.wth m [(r, .cells [.ptr ⟨e, 0, none⟩, .ms ⟨b, 0, none⟩ k zs.length, .slice true ((toksR c.tokens).map dn3AV), .int .i64 c.next, .int .i64 c.quota, .int .i64 (c.calls + 1), .slice true (F.map intAV)]), (e, zR ((stepF s).1)), (b, .cells (flatK thgAV zs))]), (wth_keep (m := m) (L := [(b1, vObj v), (r, .cells [.ptr ⟨e, 0, none⟩, .ms ⟨b, 0, none⟩ k zs.length, .slice true ((toksR c.tokens).map dn3AV), .int .i64 c.next, .int .i64 c.quota, .int .i64 (c.calls + 1), .slice true (F.map intAV)]), (e, zR ((stepF s).1)), (b, .cells (flatK thgAV zs))]) (L1 := [(r, .cells [.ptr ⟨e, 0, none⟩, .ms ⟨b, 0, none⟩ k zs.length, .slice true ((toksR c.tokens).map dn3AV), .int .i64 c.next, .int .i64 c.quota, .int .i64 (c.calls + 1), .slice true (F.map intAV)]), (e, zR ((stepF s).1)), (b, .cells (flatK thgAV zs))]) (L2 := [(b1, vObj v)]) hNb1 (pick_perm [1, 1, 1] _) (by simp only [List.map_cons, List.map_nil, List.forall_mem_cons]; exact ⟨hFb1, fun _ h => by cases h⟩)), ?_⟩
   show K (.tuple [.int .i64 0, .int .i64 12]) (AMem.wth m [(r, .cells [.ptr ⟨e, 0, none⟩, .ms ⟨b, 0, none⟩ k zs.length, .slice true ((toksR c.tokens).map dn3AV), .int .i64 c.next, .int .i64 c.quota, .int .i64 (c.calls + 1), .slice true (F.map intAV)]), (e, zR ((stepF s).1)), (b, .cells (flatK thgAV zs))])
  
   have z3 := gI_mem (l := F) hI.1 (by assumption)
   have z4 : gI F i = c.calls := by assumption
   rw [z4] at z3
   exact hK _ (updateD_4 (by omega) hs0 (hfr.2 z3)) [(b, .cells (flatK thgAV zs))] _ (HidR.row hb (by simp at hN ⊢; omega) hk hv) _
  replace h4 : gI F i ≠ c.calls := (ne_of_beq_false h4)
  refine awp_skip ?_
  refine hK7 _ _ ?_; clear hK7
  refine awp_reg2 [] [0, 1, 2, 3, 4, 11, 17, 18] (by decide) ?_
  intro K1 hK1
  refine ⟨trivial, ?_⟩
  refine ar_add rfl (a := i) (b := 1) rfl rfl (by omega) (by omega) ?_
  refine ⟨trivial, ?_⟩
  show K1 [(0, .ptr ⟨r, 0, none⟩), (1, .int .i64 2), (2, .str token), (3, .str kind), (4, .int .i64 id), (11, .ptr ⟨b1, 0, none⟩), (17, .int .i64 c.calls), (18, .int .i64 (i + 1))] (AMem.wth m [(b1, vObj v), (r, .cells [.ptr ⟨e, 0, none⟩, .ms ⟨b, 0, none⟩ k zs.length, .slice true ((toksR c.tokens).map dn3AV), .int .i64 c.next, .int .i64 c.quota, .int .i64 (c.calls + 1), .slice true (F.map intAV)]), (e, zR ((stepF s).1)), (b, .cells (flatK thgAV zs))])
  refine hK1 _ _ ?_; clear hK1 K1
  refine ⟨(i + 1), rfl, rfl, ?_, ?_⟩
  ·
   show 0 ≤ ((i + 1 : Int)) ∧ ((i + 1 : Int)) ≤ F.length ∧ ∀ x ∈ F.take ((i + 1 : Int)).toNat, x ≠ c.calls
   refine ⟨by omega, by omega, fun x hx => ?_⟩
   rw [take_succ_gI hI.1 (by assumption), List.mem_append] at hx
   rcases hx with hx | hx
   ·
    exact hI.2.2 x hx
   ·
    simp at hx; subst hx; assumption
  ·
   show F.length - ((i + 1 : Int)).toNat < F.length - i.toNat
   omega
 replace h3 : (F.length : Int) ≤ i := (Int.not_lt.1 (of_decide_eq_false h3))
 refine awp_exit ?_
 refine hK5 _ _ ?_; clear hK5
 refine awp_seq_k ?_; intro K8 hK8
 have hb0 : (mget c.fails c.calls).getD false = false := by
  rw [Bool.eq_false_iff]; intro z
  have z2 := hfr.1 z
  rw [take_full (by assumption)] at hI
  exact hI.2.2 _ z2 rfl
 refine awp_reg2_seq [] [0, 1, 2, 3, 4, 11, 19] (by decide) ?_
 intro K1 hK1
 refine ⟨trivial, ?_⟩
 show K1 [(0, .ptr ⟨r, 0, none⟩), (1, .int .i64 2), (2, .str token), (3, .str kind), (4, .int .i64 id), (11, .ptr ⟨b1, 0, none⟩), (19, .int .i64 0)] (AMem.wth m [(b1, vObj v), (r, .cells [.ptr ⟨e, 0, none⟩, .ms ⟨b, 0, none⟩ k zs.length, .slice true ((toksR c.tokens).map dn3AV), .int .i64 c.next, .int .i64 c.quota, .int .i64 (c.calls + 1), .slice true (F.map intAV)]), (e, zR ((stepF s).1)), (b, .cells (flatK thgAV zs))])
 refine hK1 _ _ ?_; clear hK1 K1
 refine awp_block ?_
 refine awp_keep [0, 1, 2, 3, 4, 11, 19] (by decide) ?_
 refine awp_loop_st (σ := Int) (fun i2 => [(0, .ptr ⟨r, 0, none⟩), (1, .int .i64 2), (2, .str token), (3, .str kind), (4, .int .i64 id), (11, .ptr ⟨b1, 0, none⟩), (19, .int .i64 i2)]) (fun _ => (AMem.wth m [(b1, vObj v), (r, .cells [.ptr ⟨e, 0, none⟩, .ms ⟨b, 0, none⟩ k zs.length, .slice true ((toksR c.tokens).map dn3AV), .int .i64 c.next, .int .i64 c.quota, .int .i64 (c.calls + 1), .slice true (F.map intAV)]), (e, zR ((stepF s).1)), (b, .cells (flatK thgAV zs))])) (fun i2 => 0 ≤ i2 ∧ i2 ≤ (toksR c.tokens).length ∧ mget c.tokens token = mget (c.tokens.drop i2.toNat) token) (fun i2 => (toksR c.tokens).length - i2.toNat) (0) rfl rfl ?_ ?_
 ·
  show 0 ≤ ((0 : Int)) ∧ ((0 : Int)) ≤ (toksR c.tokens).length ∧ mget c.tokens token = mget (c.tokens.drop ((0 : Int)).toNat) token
  exact ⟨by omega, by omega, rfl⟩
 rintro i2 hI2
 replace hI2 : 0 ≤ i2 ∧ i2 ≤ (toksR c.tokens).length ∧ mget c.tokens token = mget (c.tokens.drop i2.toNat) token := hI2
 show AWP _ _ _ _ [(0, .ptr ⟨r, 0, none⟩), (1, .int .i64 2), (2, .str token), (3, .str kind), (4, .int .i64 id), (11, .ptr ⟨b1, 0, none⟩), (19, .int .i64 i2)] (AMem.wth m [(b1, vObj v), (r, .cells [.ptr ⟨e, 0, none⟩, .ms ⟨b, 0, none⟩ k zs.length, .slice true ((toksR c.tokens).map dn3AV), .int .i64 c.next, .int .i64 c.quota, .int .i64 (c.calls + 1), .slice true (F.map intAV)]), (e, zR ((stepF s).1)), (b, .cells (flatK thgAV zs))])
 refine awp_seq_k ?_; intro K9 hK9
 refine awp_reg2_seq [] [0, 1, 2, 3, 4, 11, 19, 79] (by decide) ?_
 intro K1 hK1
 refine ⟨trivial, trivial, trivial, ⟨rfl, by decide⟩, ?_⟩
 refine ar_loadp rfl (v := .slice false ((toksR c.tokens).map dn3AV)) rfl (wth_get 1 hNb1 rfl) rfl (apartOk_one rfl rfl (Nat.le_of_ble_eq_true rfl)) rfl ?_
 refine ar_len rfl dn3AV (toksR c.tokens) rfl rfl rfl ?_
 refine ⟨trivial, ?_⟩
 show K1 [(0, .ptr ⟨r, 0, none⟩), (1, .int .i64 2), (2, .str token), (3, .str kind), (4, .int .i64 id), (11, .ptr ⟨b1, 0, none⟩), (19, .int .i64 i2), (79, .bool (decide (i2 < ((toksR c.tokens).length : Int))))] _
 refine hK1 _ _ ?_; clear hK1 K1
 refine awp_cond rfl rfl (fun h5 => ?_) (fun h5 => ?_)
 ·
  replace h5 : i2 < ((toksR c.tokens).length : Int) := (of_decide_eq_true h5)
  refine awp_skip ?_
  refine hK9 _ _ ?_; clear hK9
  refine awp_seq_k ?_; intro K10 hK10
  refine awp_block ?_
  refine awp_seq_k ?_; intro K11 hK11
  refine awp_reg2_seq [] [0, 1, 2, 3, 4, 11, 19, 91] (by decide) ?_
  intro K1 hK1
  refine ⟨trivial, trivial, ⟨rfl, by decide⟩, ?_⟩
  refine ar_loadp rfl (v := .slice false ((toksR c.tokens).map dn3AV)) rfl (wth_get 1 hNb1 rfl) rfl (apartOk_one rfl rfl (Nat.le_of_ble_eq_true rfl)) rfl ?_
  refine ⟨trivial, ?_⟩
  refine ar_index rfl dn3AV (toksR c.tokens) i2 rfl rfl rfl rfl rfl (by decide) (fun _ => rfl) (by omega) (by omega) ?_
  refine ⟨⟨rfl, by decide, (Nat.le_of_ble_eq_true rfl)⟩, (apartOk_one rfl rfl (Nat.le_of_ble_eq_true rfl)), trivial, trivial, ?_⟩
  show K1 [(0, .ptr ⟨r, 0, none⟩), (1, .int .i64 2), (2, .str token), (3, .str kind), (4, .int .i64 id), (11, .ptr ⟨b1, 0, none⟩), (19, .int .i64 i2), (91, .bool (!(((gI (toksR c.tokens) i2).tok) == token)))] (AMem.wth m [(b1, vObj v), (r, .cells [.ptr ⟨e, 0, none⟩, .ms ⟨b, 0, none⟩ k zs.length, .slice true ((toksR c.tokens).map dn3AV), .int .i64 c.next, .int .i64 c.quota, .int .i64 (c.calls + 1), .slice true (F.map intAV)]), (e, zR ((stepF s).1)), (b, .cells (flatK thgAV zs))])
  refine hK1 _ _ ?_; clear hK1 K1
  refine awp_cond rfl rfl (fun h6 => ?_) (fun h6 => ?_)
  ·
   replace h6 : (gI (toksR c.tokens) i2).tok ≠ token := (ne_of_beq_false (bnT h6))
   refine awp_exit ?_
   refine hK10 _ _ ?_; clear hK10
   refine awp_reg2 [] [0, 1, 2, 3, 4, 11, 19] (by decide) ?_
   intro K1 hK1
   refine ⟨trivial, ?_⟩
   refine ar_add rfl (a := i2) (b := 1) rfl rfl (by omega) (by omega) ?_
   refine ⟨trivial, ?_⟩
   show K1 [(0, .ptr ⟨r, 0, none⟩), (1, .int .i64 2), (2, .str token), (3, .str kind), (4, .int .i64 id), (11, .ptr ⟨b1, 0, none⟩), (19, .int .i64 (i2 + 1))] (AMem.wth m [(b1, vObj v), (r, .cells [.ptr ⟨e, 0, none⟩, .ms ⟨b, 0, none⟩ k zs.length, .slice true ((toksR c.tokens).map dn3AV), .int .i64 c.next, .int .i64 c.quota, .int .i64 (c.calls + 1), .slice true (F.map intAV)]), (e, zR ((stepF s).1)), (b, .cells (flatK thgAV zs))])
   refine hK1 _ _ ?_; clear hK1 K1
   refine ⟨(i2 + 1), rfl, rfl, ?_, ?_⟩
   ·
    show 0 ≤ ((i2 + 1 : Int)) ∧ ((i2 + 1 : Int)) ≤ (toksR c.tokens).length ∧ mget c.tokens token = mget (c.tokens.drop ((i2 + 1 : Int)).toNat) token
    exact ⟨by omega, by omega, tok_miss hI2 (by assumption) (by assumption)⟩
   ·
    show (toksR c.tokens).length - ((i2 + 1 : Int)).toNat < (toksR c.tokens).length - i2.toNat
    omega
  replace h6 : (gI (toksR c.tokens) i2).tok = token := (eq_of_beq (bnF h6))
  refine awp_skip ?_
  refine hK11 _ _ ?_; clear hK11
  refine awp_seq_k ?_; intro K12 hK12
  refine awp_reg2_seq [] [0, 19, 101] (by decide) ?_
  intro K1 hK1
  refine ⟨trivial, trivial, ⟨rfl, by decide⟩, ?_⟩
  refine ar_loadp rfl (v := .slice false ((toksR c.tokens).map dn3AV)) rfl (wth_get 1 hNb1 rfl) rfl (apartOk_one rfl rfl (Nat.le_of_ble_eq_true rfl)) rfl ?_
  refine ⟨trivial, ?_⟩
  refine ar_index rfl dn3AV (toksR c.tokens) i2 rfl rfl rfl rfl rfl (by decide) (fun _ => rfl) (by omega) (by omega) ?_
  refine ⟨⟨rfl, by decide, (Nat.le_of_ble_eq_true rfl)⟩, (apartOk_one rfl rfl (Nat.le_of_ble_eq_true rfl)), trivial, trivial, ?_⟩
  show K1 [(0, .ptr ⟨r, 0, none⟩), (19, .int .i64 i2), (101, .bool (!(((gI (toksR c.tokens) i2).op) == 2)))] (AMem.wth m [(b1, vObj v), (r, .cells [.ptr ⟨e, 0, none⟩, .ms ⟨b, 0, none⟩ k zs.length, .slice true ((toksR c.tokens).map dn3AV), .int .i64 c.next, .int .i64 c.quota, .int .i64 (c.calls + 1), .slice true (F.map intAV)]), (e, zR ((stepF s).1)), (b, .cells (flatK thgAV zs))])
  refine hK1 _ _ ?_; clear hK1 K1
  refine awp_cond rfl rfl (fun h7 => ?_) (fun h7 => ?_)
  ·
   replace h7 : (gI (toksR c.tokens) i2).op ≠ 2 := (ne_of_beq_false (bnT h7))
   refine awp_reg2_seq [] [12, 13] (by decide) ?_
   intro K1 hK1
   refine ⟨trivial, trivial, ?_⟩
   show K1 [(12, .int .i64 0), (13, .int .i64 15)] (AMem.wth m [(b1, vObj v), (r, .cells [.ptr ⟨e, 0, none⟩, .ms ⟨b, 0, none⟩ k zs.length, .slice true ((toksR c.tokens).map dn3AV), .int .i64 c.next, .int .i64 c.quota, .int .i64 (c.calls + 1), .slice true (F.map intAV)]), (e, zR ((stepF s).1)), (b, .cells (flatK thgAV zs))])
   refine hK1 _ _ ?_; clear hK1 K1
   refine awp_ret ?_
   refine ⟨trivial, trivial, (AMem.wth m [(r, .cells [.ptr ⟨e, 0, none⟩, .ms ⟨b, 0, none⟩ k zs.length, .slice true ((toksR c.tokens).map dn3AV), .int .i64 c.next, .int .i64 c.quota, .int .i64 (c.calls + 1), .slice true (F.map intAV)]), (e, zR ((stepF s).1)), (b, .cells (flatK thgAV zs))]), (wth_keep (m := m) (L := [(b1, vObj v), (r, .cells [.ptr ⟨e, 0, none⟩, .ms ⟨b, 0, none⟩ k zs.length, .slice true ((toksR c.tokens).map dn3AV), .int .i64 c.next, .int .i64 c.quota, .int .i64 (c.calls + 1), .slice true (F.map intAV)]), (e, zR ((stepF s).1)), (b, .cells (flatK thgAV zs))]) (L1 := [(r, .cells [.ptr ⟨e, 0, none⟩, .ms ⟨b, 0, none⟩ k zs.length, .slice true ((toksR c.tokens).map dn3AV), .int .i64 c.next, .int .i64 c.quota, .int .i64 (c.calls + 1), .slice true (F.map intAV)]), (e, zR ((stepF s).1)), (b, .cells (flatK thgAV zs))]) (L2 := [(b1, vObj v)]) hNb1 (pick_perm [1, 1, 1] _) (by simp only [List.map_cons, List.map_nil, List.forall_mem_cons]; exact ⟨hFb1, fun _ h => by cases h⟩)), ?_⟩
   show K (.tuple [.int .i64 0, .int .i64 15]) (AMem.wth m [(r, .cells [.ptr ⟨e, 0, none⟩, .ms ⟨b, 0, none⟩ k zs.length, .slice true ((toksR c.tokens).map dn3AV), .int .i64 c.next, .int .i64 c.quota, .int .i64 (c.calls + 1), .slice true (F.map intAV)]), (e, zR ((stepF s).1)), (b, .cells (flatK thgAV zs))])
  
   have hm := tok_hit hI2 (by assumption) (by assumption)
   have hg := gI_toks hI2.1 (l := c.tokens) (by assumption)
   have hop : (gI c.tokens i2).2.op ≠ 2 := (by (have z : (gI (toksR c.tokens) i2).op ≠ 2 := by assumption); rw [hg] at z; exact z)
   exact hK _ (updateD_5 (by omega) hs0 hb0 hm hop) [(b, .cells (flatK thgAV zs))] _ (HidR.row hb (by simp at hN ⊢; omega) hk hv) _
  replace h7 : (gI (toksR c.tokens) i2).op = 2 := (eq_of_beq (bnF h7))
  refine awp_skip ?_
  refine hK12 _ _ ?_; clear hK12
  refine awp_reg2_seq [] [12, 13] (by decide) ?_
  intro K1 hK1
  refine ⟨trivial, trivial, ⟨rfl, by decide⟩, ?_⟩
  refine ar_loadp rfl (v := .slice false ((toksR c.tokens).map dn3AV)) rfl (wth_get 1 hNb1 rfl) rfl (apartOk_one rfl rfl (Nat.le_of_ble_eq_true rfl)) rfl ?_
  refine ⟨trivial, ?_⟩
  refine ar_index rfl dn3AV (toksR c.tokens) i2 rfl rfl rfl rfl rfl (by decide) (fun _ => rfl) (by omega) (by omega) ?_
  refine ⟨⟨rfl, by decide, (Nat.le_of_ble_eq_true rfl)⟩, (apartOk_one rfl rfl (Nat.le_of_ble_eq_true rfl)), trivial, trivial, ?_⟩
  show K1 [(12, .int .i64 ((gI (toksR c.tokens) i2).id)), (13, .int .i64 0)] (AMem.wth m [(b1, vObj v), (r, .cells [.ptr ⟨e, 0, none⟩, .ms ⟨b, 0, none⟩ k zs.length, .slice true ((toksR c.tokens).map dn3AV), .int .i64 c.next, .int .i64 c.quota, .int .i64 (c.calls + 1), .slice true (F.map intAV)]), (e, zR ((stepF s).1)), (b, .cells (flatK thgAV zs))])
  refine hK1 _ _ ?_; clear hK1 K1
  refine awp_ret ?_
  refine ⟨trivial, trivial, (AMem.wth m [(r, .cells [.ptr ⟨e, 0, none⟩, .ms ⟨b, 0, none⟩ k zs.length, .slice true ((toksR c.tokens).map dn3AV), .int .i64 c.next, .int .i64 c.quota, .int .i64 (c.calls + 1), .slice true (F.map intAV)]), (e, zR ((stepF s).1)), (b, .cells (flatK thgAV zs))]), (wth_keep (m := m) (L := [(b1, vObj v), (r, .cells [.ptr ⟨e, 0, none⟩, .ms ⟨b, 0, none⟩ k zs.length, .slice true ((toksR c.tokens).map dn3AV), .int .i64 c.next, .int .i64 c.quota, .int .i64 (c.calls + 1), .slice true (F.map intAV)]), (e, zR ((stepF s).1)), (b, .cells (flatK thgAV zs))]) (L1 := [(r, .cells [.ptr ⟨e, 0, none⟩, .ms ⟨b, 0, none⟩ k zs.length, .slice true ((toksR c.tokens).map dn3AV), .int .i64 c.next, .int .i64 c.quota, .int .i64 (c.calls + 1), .slice true (F.map intAV)]), (e, zR ((stepF s).1)), (b, .cells (flatK thgAV zs))]) (L2 := [(b1, vObj v)]) hNb1 (pick_perm [1, 1, 1] _) (by simp only [List.map_cons, List.map_nil, List.forall_mem_cons]; exact ⟨hFb1, fun _ h => by cases h⟩)), ?_⟩
  show K (.tuple [.int .i64 ((gI (toksR c.tokens) i2).id), .int .i64 0]) (AMem.wth m [(r, .cells [.ptr ⟨e, 0, none⟩, .ms ⟨b, 0, none⟩ k zs.length, .slice true ((toksR c.tokens).map dn3AV), .int .i64 c.next, .int .i64 c.quota, .int .i64 (c.calls + 1), .slice true (F.map intAV)]), (e, zR ((stepF s).1)), (b, .cells (flatK thgAV zs))])
 
  have hm := tok_hit hI2 (by assumption) (by assumption)
  have hg := gI_toks hI2.1 (l := c.tokens) (by assumption)
  have hop : (gI c.tokens i2).2.op = 2 := (by (have z : (gI (toksR c.tokens) i2).op = 2 := by assumption); rw [hg] at z; exact z)
  exact hK _ (updateD_6 (by omega) hs0 hb0 hm hop) [(b, .cells (flatK thgAV zs))] _ (HidR.row hb (by simp at hN ⊢; omega) hk hv) _
 replace h5 : ((toksR c.tokens).length : Int) ≤ i2 := (Int.not_lt.1 (of_decide_eq_false h5))
 refine awp_exit ?_
 refine hK8 _ _ ?_; clear hK8
 have htk0 : mget c.tokens token = none := tok_end hI2 (by assumption)
 refine awp_reg2_seq [] [0, 1, 2, 3, 4, 11, 20] (by decide) ?_
 intro K1 hK1
 refine ⟨trivial, trivial, ?_⟩
 refine ar_mem (wth_split hNb1 (pick_perm [1, 2] _)) ?_
 refine u_place_ms r e b k zs ({ c with calls := c.calls + 1 } : ClSt) F id (by simp at hN ⊢; omega) hk hkb _ _ ?_
 show aopsR _ _ _ _ _ _ (AMem.wth (AMem.wth m [(b1, vObj v), (e, zR ((stepF s).1))]) [(r, .cells [.ptr ⟨e, 0, none⟩, .ms ⟨b, 0, none⟩ k zs.length, .slice true ((toksR c.tokens).map dn3AV), .int .i64 c.next, .int .i64 c.quota, .int .i64 (c.calls + 1), .slice true (F.map intAV)]), (b, .cells (flatK thgAV zs))])
 refine ar_mem (wth_split (m := m) (L := [(b1, vObj v), (r, .cells [.ptr ⟨e, 0, none⟩, .ms ⟨b, 0, none⟩ k zs.length, .slice true ((toksR c.tokens).map dn3AV), .int .i64 c.next, .int .i64 c.quota, .int .i64 (c.calls + 1), .slice true (F.map intAV)]), (e, zR ((stepF s).1)), (b, .cells (flatK thgAV zs))]) hNb1 (pick_perm [1, 2] _)).symm ?_
 refine ⟨trivial, ?_⟩
 show K1 [(0, .ptr ⟨r, 0, none⟩), (1, .int .i64 2), (2, .str token), (3, .str kind), (4, .int .i64 id), (11, .ptr ⟨b1, 0, none⟩), (20, .int .i64 (placeR (zs.take k) id))] (AMem.wth m [(b1, vObj v), (r, .cells [.ptr ⟨e, 0, none⟩, .ms ⟨b, 0, none⟩ k zs.length, .slice true ((toksR c.tokens).map dn3AV), .int .i64 c.next, .int .i64 c.quota, .int .i64 (c.calls + 1), .slice true (F.map intAV)]), (e, zR ((stepF s).1)), (b, .cells (flatK thgAV zs))])
 refine hK1 _ _ ?_; clear hK1 K1
 refine awp_seq_k ?_; intro K13 hK13
 refine awp_reg2_seq [] [0, 1, 2, 3, 4, 11, 20, 113] (by decide) ?_
 intro K1 hK1
 refine ⟨trivial, ?_⟩
 show K1 [(0, .ptr ⟨r, 0, none⟩), (1, .int .i64 2), (2, .str token), (3, .str kind), (4, .int .i64 id), (11, .ptr ⟨b1, 0, none⟩), (20, .int .i64 (placeR (zs.take k) id)), (113, .int .i64 2)] _
 refine hK1 _ _ ?_; clear hK1 K1
 refine awp_block ?_
 refine awp_reg2_seq [] [0, 1, 2, 3, 4, 11, 20, 113, 114] (by decide) ?_
 intro K1 hK1
 refine ⟨trivial, trivial, ?_⟩
 show K1 [(0, .ptr ⟨r, 0, none⟩), (1, .int .i64 2), (2, .str token), (3, .str kind), (4, .int .i64 id), (11, .ptr ⟨b1, 0, none⟩), (20, .int .i64 (placeR (zs.take k) id)), (113, .int .i64 2), (114, .bool false)] _
 refine hK1 _ _ ?_; clear hK1 K1
 refine awp_cond rfl rfl (fun hcz => ?_) (fun hcz => ?_)
 ·
  cases hcz
 clear hcz
 refine awp_reg2_seq [] [0, 1, 2, 4, 11, 20, 113, 150] (by decide) ?_
 intro K1 hK1
 refine ⟨trivial, trivial, ?_⟩
 show K1 [(0, .ptr ⟨r, 0, none⟩), (1, .int .i64 2), (2, .str token), (4, .int .i64 id), (11, .ptr ⟨b1, 0, none⟩), (20, .int .i64 (placeR (zs.take k) id)), (113, .int .i64 2), (150, .bool true)] (AMem.wth m [(b1, vObj v), (r, .cells [.ptr ⟨e, 0, none⟩, .ms ⟨b, 0, none⟩ k zs.length, .slice true ((toksR c.tokens).map dn3AV), .int .i64 c.next, .int .i64 c.quota, .int .i64 (c.calls + 1), .slice true (F.map intAV)]), (e, zR ((stepF s).1)), (b, .cells (flatK thgAV zs))])
 refine hK1 _ _ ?_; clear hK1 K1
 refine awp_cond rfl rfl (fun hcz => ?_) (fun hcz => ?_)
 rotate_left; · cases hcz
 clear hcz
 refine awp_seq_k ?_; intro K14 hK14
 refine awp_reg2_seq [] [0, 1, 2, 4, 11, 20, 153] (by decide) ?_
 intro K1 hK1
 refine ⟨trivial, trivial, ?_⟩
 show K1 [(0, .ptr ⟨r, 0, none⟩), (1, .int .i64 2), (2, .str token), (4, .int .i64 id), (11, .ptr ⟨b1, 0, none⟩), (20, .int .i64 (placeR (zs.take k) id)), (153, .bool (decide (placeR (zs.take k) id < 0)))] _
 refine hK1 _ _ ?_; clear hK1 K1
 refine awp_cond rfl rfl (fun h8 => ?_) (fun h8 => ?_)
 ·
  replace h8 : placeR (zs.take k) id < 0 := (of_decide_eq_true h8)
  refine awp_reg2_seq [] [12, 13] (by decide) ?_
  intro K1 hK1
  refine ⟨trivial, trivial, ?_⟩
  show K1 [(12, .int .i64 0), (13, .int .i64 7)] (AMem.wth m [(b1, vObj v), (r, .cells [.ptr ⟨e, 0, none⟩, .ms ⟨b, 0, none⟩ k zs.length, .slice true ((toksR c.tokens).map dn3AV), .int .i64 c.next, .int .i64 c.quota, .int .i64 (c.calls + 1), .slice true (F.map intAV)]), (e, zR ((stepF s).1)), (b, .cells (flatK thgAV zs))])
  refine hK1 _ _ ?_; clear hK1 K1
  refine awp_ret ?_
  refine ⟨trivial, trivial, (AMem.wth m [(r, .cells [.ptr ⟨e, 0, none⟩, .ms ⟨b, 0, none⟩ k zs.length, .slice true ((toksR c.tokens).map dn3AV), .int .i64 c.next, .int .i64 c.quota, .int .i64 (c.calls + 1), .slice true (F.map intAV)]), (e, zR ((stepF s).1)), (b, .cells (flatK thgAV zs))]), (wth_keep (m := m) (L := [(b1, vObj v), (r, .cells [.ptr ⟨e, 0, none⟩, .ms ⟨b, 0, none⟩ k zs.length, .slice true ((toksR c.tokens).map dn3AV), .int .i64 c.next, .int .i64 c.quota, .int .i64 (c.calls + 1), .slice true (F.map intAV)]), (e, zR ((stepF s).1)), (b, .cells (flatK thgAV zs))]) (L1 := [(r, .cells [.ptr ⟨e, 0, none⟩, .ms ⟨b, 0, none⟩ k zs.length, .slice true ((toksR c.tokens).map dn3AV), .int .i64 c.next, .int .i64 c.quota, .int .i64 (c.calls + 1), .slice true (F.map intAV)]), (e, zR ((stepF s).1)), (b, .cells (flatK thgAV zs))]) (L2 := [(b1, vObj v)]) hNb1 (pick_perm [1, 1, 1] _) (by simp only [List.map_cons, List.map_nil, List.forall_mem_cons]; exact ⟨hFb1, fun _ h => by cases h⟩)), ?_⟩
  show K (.tuple [.int .i64 0, .int .i64 7]) (AMem.wth m [(r, .cells [.ptr ⟨e, 0, none⟩, .ms ⟨b, 0, none⟩ k zs.length, .slice true ((toksR c.tokens).map dn3AV), .int .i64 c.next, .int .i64 c.quota, .int .i64 (c.calls + 1), .slice true (F.map intAV)]), (e, zR ((stepF s).1)), (b, .cells (flatK thgAV zs))])
 
  exact hK _ (updateD_7 (by omega) hs0 hb0 htk0 (by rw [hpa.elim (fun z => z.2) (fun z => absurd z.1 (by omega))]; rfl)) [(b, .cells (flatK thgAV zs))] _ (HidR.row hb (by simp at hN ⊢; omega) hk hv) _
 replace h8 : 0 ≤ placeR (zs.take k) id := (Int.not_lt.1 (of_decide_eq_false h8))
 refine awp_skip ?_
 refine hK14 _ _ ?_; clear hK14
 have hpb := hpa.resolve_left (fun z => by omega)
 refine awp_draw_tail2 Try.mixed 8 [] [] [] [0, 1, 2, 4] (by decide) (by decide) ?_
 intro K1 hK1
 refine ⟨trivial, trivial, ⟨rfl, by decide⟩, ?_⟩
 refine pq_loadp rfl (v := .ms ⟨b, 0, none⟩ k zs.length) rfl (wth_get 1 hNb1 rfl) (apartOk_one rfl rfl (Nat.le_of_ble_eq_true rfl)) rfl ?_
 refine ⟨trivial, ?_⟩
 refine pq_loadp rfl (v := .agg [.int .i64 v.kind, .int .i64 v.n, .str v.s, .slice false (v.l.map valIn), .slice false (v.f.map fldIn)]) rfl (wth_get 0 hNb1 rfl) (apartOk_agg rfl rfl (Nat.le_of_ble_eq_true rfl)) rfl ?_
 refine ⟨⟨rfl, (by omega), (by omega)⟩, ⟨rfl, by decide⟩, ?_⟩
 show aopsR _ _ _ _ _ [(161, .ptr ⟨b, 0 + (placeR (zs.take k) id).toNat * Try.prog.cellsOf 80 + 2, none⟩), (160, .ptr ⟨b, 0 + (placeR (zs.take k) id).toNat * Try.prog.cellsOf 80, none⟩), (159, .agg [.int .i64 v.kind, .int .i64 v.n, .str v.s, .slice false (v.l.map valIn), .slice false (v.f.map fldIn)]), (158, .int .i64 (placeR (zs.take k) id)), (157, .ms ⟨b, 0, none⟩ k zs.length), (156, .ptr ⟨r, 1, none⟩), (155, .ptr ⟨r, 0, none⟩), (154, .ptr ⟨r, 0, none⟩), (0, .ptr ⟨r, 0, none⟩), (1, .int .i64 2), (2, .str token), (4, .int .i64 id), (11, .ptr ⟨b1, 0, none⟩), (20, .int .i64 (placeR (zs.take k) id)), (153, .bool (decide (placeR (zs.take k) id < 0)))] _
 refine ar_storek rfl 3 (m := m) (L := [(b1, vObj v), (r, .cells [.ptr ⟨e, 0, none⟩, .ms ⟨b, 0, none⟩ k zs.length, .slice true ((toksR c.tokens).map dn3AV), .int .i64 c.next, .int .i64 c.quota, .int .i64 (c.calls + 1), .slice true (F.map intAV)]), (e, zR ((stepF s).1)), (b, .cells (flatK thgAV zs))]) thgAV zs (⟨(gI zs (placeR (zs.take k) id)).id, (gI zs (placeR (zs.take k) id)).kind, v⟩ : Thg) (placeR (zs.take k) id) 2 (v := .agg [.int .i64 v.kind, .int .i64 v.n, .str v.s, .slice false (v.l.map valIn), .slice false (v.f.map fldIn)]) rfl (by show 0 + (placeR (zs.take k) id).toNat * 7 + 2 = (placeR (zs.take k) id).toNat * 7 + 2; omega) rfl hNb1 rfl (fun _ => rfl) rfl rfl rfl rfl (Nat.le_of_ble_eq_true rfl) rfl (by omega) (by omega) ?_
 show K1 [(0, .ptr ⟨r, 0, none⟩), (1, .int .i64 2), (2, .str token), (4, .int .i64 id)] (AMem.wth m [(b1, vObj v), (r, .cells [.ptr ⟨e, 0, none⟩, .ms ⟨b, 0, none⟩ k zs.length, .slice true ((toksR c.tokens).map dn3AV), .int .i64 c.next, .int .i64 c.quota, .int .i64 (c.calls + 1), .slice true (F.map intAV)]), (e, zR ((stepF s).1)), (b, .cells (flatK thgAV (zs.set (placeR (zs.take k) id).toNat (⟨(gI zs (placeR (zs.take k) id)).id, (gI zs (placeR (zs.take k) id)).kind, v⟩ : Thg))))])
 refine hK1 _ _ ?_; clear hK1 K1
 refine hK13 _ _ ?_; clear hK13
 refine awp_reg2_seq [173] [4] (by decide) ?_
 intro K1 hK1
 refine ⟨trivial, trivial, trivial, ⟨rfl, by decide⟩, ?_⟩
 refine ar_loads rfl (i := 1) rfl hNb1 rfl rfl rfl rfl (Nat.le_of_ble_eq_true rfl) ?_
 refine ⟨trivial, trivial, trivial, ⟨rfl, by simp only [List.forall_mem_cons]; exact ⟨rfl, rfl, rfl, fun _ h => by cases h⟩, by simp only [List.forall_mem_cons]; exact ⟨rfl, rfl, rfl, fun _ h => by cases h⟩⟩, ⟨rfl, Nat.le_of_ble_eq_true rfl, rfl, Nat.le_of_ble_eq_true rfl, rfl, by simp only [List.forall_mem_cons]; exact ⟨⟨rfl, rfl⟩, fun _ h => by cases h⟩⟩, ?_⟩
 refine ar_append rfl dn3AV (toksR c.tokens) ([(⟨token, 2, id⟩ : Dn3)] : List Dn3) rfl rfl rfl rfl rfl rfl (Nat.le_of_ble_eq_true rfl) rfl (by (simp only [show Try.prog.bytesOf 140 = 32 from rfl, List.length_append, List.length_cons, List.length_nil]; omega)) (by (first | omega | (simp only [List.length_append, List.length_cons, List.length_nil]; omega))) (fun _ => ⟨rfl, rfl⟩) ?_
 refine ⟨trivial, ⟨rfl, by decide⟩, ?_⟩
 refine ar_storep rfl 1 (v := .slice true (((toksR c.tokens) ++ ([(⟨token, 2, id⟩ : Dn3)] : List Dn3)).map dn3AV)) (l' := [.ptr ⟨e, 0, none⟩, .ms ⟨b, 0, none⟩ k zs.length, .slice true (((toksR c.tokens) ++ ([(⟨token, 2, id⟩ : Dn3)] : List Dn3)).map dn3AV), .int .i64 c.next, .int .i64 c.quota, .int .i64 (c.calls + 1), .slice true (F.map intAV)]) rfl rfl hNb1 rfl rfl rfl rfl rfl (Nat.le_of_ble_eq_true rfl) rfl ?_
 show K1 [(4, .int .i64 id)] (AMem.wth m [(b1, vObj v), (r, .cells [.ptr ⟨e, 0, none⟩, .ms ⟨b, 0, none⟩ k zs.length, .slice true (((toksR c.tokens) ++ ([(⟨token, 2, id⟩ : Dn3)] : List Dn3)).map dn3AV), .int .i64 c.next, .int .i64 c.quota, .int .i64 (c.calls + 1), .slice true (F.map intAV)]), (e, zR ((stepF s).1)), (b, .cells (flatK thgAV (zs.set (placeR (zs.take k) id).toNat (⟨(gI zs (placeR (zs.take k) id)).id, (gI zs (placeR (zs.take k) id)).kind, v⟩ : Thg))))])
 refine hK1 _ _ ?_; clear hK1 K1
 refine awp_reg2_seq [] [12, 13] (by decide) ?_
 intro K1 hK1
 refine ⟨trivial, trivial, trivial, ?_⟩
 show K1 [(12, .int .i64 id), (13, .int .i64 0)] _
 refine hK1 _ _ ?_; clear hK1 K1
 refine awp_ret ?_
 refine ⟨trivial, trivial, (AMem.wth m [(r, .cells [.ptr ⟨e, 0, none⟩, .ms ⟨b, 0, none⟩ k zs.length, .slice true (((toksR c.tokens) ++ ([(⟨token, 2, id⟩ : Dn3)] : List Dn3)).map dn3AV), .int .i64 c.next, .int .i64 c.quota, .int .i64 (c.calls + 1), .slice true (F.map intAV)]), (e, zR ((stepF s).1)), (b, .cells (flatK thgAV (zs.set (placeR (zs.take k) id).toNat (⟨(gI zs (placeR (zs.take k) id)).id, (gI zs (placeR (zs.take k) id)).kind, v⟩ : Thg))))]), (wth_keep (m := m) (L := [(b1, vObj v), (r, .cells [.ptr ⟨e, 0, none⟩, .ms ⟨b, 0, none⟩ k zs.length, .slice true (((toksR c.tokens) ++ ([(⟨token, 2, id⟩ : Dn3)] : List Dn3)).map dn3AV), .int .i64 c.next, .int .i64 c.quota, .int .i64 (c.calls + 1), .slice true (F.map intAV)]), (e, zR ((stepF s).1)), (b, .cells (flatK thgAV (zs.set (placeR (zs.take k) id).toNat (⟨(gI zs (placeR (zs.take k) id)).id, (gI zs (placeR (zs.take k) id)).kind, v⟩ : Thg))))]) (L1 := [(r, .cells [.ptr ⟨e, 0, none⟩, .ms ⟨b, 0, none⟩ k zs.length, .slice true (((toksR c.tokens) ++ ([(⟨token, 2, id⟩ : Dn3)] : List Dn3)).map dn3AV), .int .i64 c.next, .int .i64 c.quota, .int .i64 (c.calls + 1), .slice true (F.map intAV)]), (e, zR ((stepF s).1)), (b, .cells (flatK thgAV (zs.set (placeR (zs.take k) id).toNat (⟨(gI zs (placeR (zs.take k) id)).id, (gI zs (placeR (zs.take k) id)).kind, v⟩ : Thg))))]) (L2 := [(b1, vObj v)]) hNb1 (pick_perm [1, 1, 1] _) (by simp only [List.map_cons, List.map_nil, List.forall_mem_cons]; exact ⟨hFb1, fun _ h => by cases h⟩)), ?_⟩
 show K (.tuple [.int .i64 id, .int .i64 0]) (AMem.wth m [(r, .cells [.ptr ⟨e, 0, none⟩, .ms ⟨b, 0, none⟩ k zs.length, .slice true (((toksR c.tokens) ++ ([(⟨token, 2, id⟩ : Dn3)] : List Dn3)).map dn3AV), .int .i64 c.next, .int .i64 c.quota, .int .i64 (c.calls + 1), .slice true (F.map intAV)]), (e, zR ((stepF s).1)), (b, .cells (flatK thgAV (zs.set (placeR (zs.take k) id).toNat (⟨(gI zs (placeR (zs.take k) id)).id, (gI zs (placeR (zs.take k) id)).kind, v⟩ : Thg))))])

 have hT8 : HidR thgAV m [r, e] [(b, .cells (flatK thgAV (zs.set (placeR (zs.take k) id).toNat (⟨(gI zs (placeR (zs.take k) id)).id, (gI zs (placeR (zs.take k) id)).kind, v⟩ : Thg))))] (.ms ⟨b, 0, none⟩ k zs.length) (vals (updateR c s token id v).1.1) := by
  rw [updateD_8 (by omega) hs0 hb0 htk0 (by rw [hpb.2.2.1]; rfl)]
  refine hid_drop_row (HidR.row hb (by simp at hN ⊢; omega) hk hv) hk (by simp) ?_
  show _ = (mput c.things id _).map Prod.snd
  rw [hpb.2.2.2, List.take_set, hpb.2.2.1, gI_takeK _ hpb.1 hpb.2.1]; rfl
 rw [updateD_8 (by omega) hs0 hb0 htk0 (by rw [hpb.2.2.1]; rfl)] at hT8
 have h8 := hK _ (updateD_8 (by omega) hs0 hb0 htk0 (by rw [hpb.2.2.1]; rfl)) _ _ hT8 id
 exact Eq.mp (congrArg (fun o => K (.tuple [.int .i64 id, .int .i64 0]) ((m.wth [(b, .cells (flatK thgAV (zs.set (placeR (zs.take k) id).toNat (⟨(gI zs (placeR (zs.take k) id)).id, (gI zs (placeR (zs.take k) id)).kind, v⟩ : Thg))))]).wth [(r, o), (e, rObj (rT q (stepF s).1))])) (rcObj_put htk0 _ _ _)) h8

set_option maxHeartbeats 8000000 in
theorem u_Do3 (r e : Nat) (q : RSt) (s : DSt) (c : ClSt) (F : List Int) (token kind : Str) (id : Int) (v : Val) (N : Nat) (H : List (Nat × AObj)) (av : AV) (hN : [r, e].Nodup) (hids : ∀ p ∈ c.things, p.2.id = p.1) (hn : (c.things.map Prod.fst).Nodup) (hT : Two s q N) (hNN : N ≤ 200) (hB : depV v ≤ 1000000000000) (hfr : (mget c.fails c.calls).getD false = true ↔ c.calls ∈ F) (hca : 0 ≤ c.calls) (hca2 : c.calls ≤ 1000000) (hnx : 0 ≤ c.next) (hnx2 : c.next ≤ 1000000) (htl : c.things.length ≤ 1000000) (hol : c.tokens.length ≤ 1000000) (hFl : F.length ≤ 1000000) (m : AMem) (hTH : HidR thgAV m [r, e] H av (vals c)) (K : AV → AMem → Prop) (hK : ∀ r0, deleteR c s token id = r0 → ∀ H' av', HidR thgAV m [r, e] H' av' (vals r0.1.1) → ∀ x : Int, K (.tuple [.int .i64 x, .int .i64 r0.2]) ((m.wth H').wth [(r, rcObj e av' r0.1.1 F), (e, rObj (rT q r0.1.2))])) : ACalls Try.prog 49 [.ptr ⟨r, 0, none⟩, .int .i64 3, .str token, .str kind, .int .i64 id, valTop v] (AMem.wth (AMem.wth m H) [(r, rcObj e av c F), (e, zR s)]) K := by
 have hae := attrE_nn v
 have htkl : (toksR c.tokens).length ≤ 1000000 := by rw [toksR_len]; exact hol
 have hpa := place_at hids id
 refine acalls_enter Try.func49 rfl (by decide) (Nat.le_of_ble_eq_true rfl) ?_
 show AWP _ _ _ _ [(0, .ptr ⟨r, 0, none⟩), (1, .int .i64 3), (2, .str token), (3, .str kind), (4, .int .i64 id), (5, valTop v)] (AMem.wth (AMem.wth m H) [(r, rcObj e av c F), (e, zR s)])
 refine awp_reg2_seq [] [0, 1, 2, 3, 4, 11] (by decide) ?_
 intro K1 hK1
 refine ar_box rfl (m := (AMem.wth m H)) (L := [(r, rcObj e av c F), (e, zR s)]) (v := valTop v) (by rfl) rfl ?_
 intro b1 hb1
 have hFb1 : (AMem.wth m H) b1 = none := wth_none hb1
 have hNb1 : ([b1, r, e] : List Nat).Nodup := wth_nodup hb1 hN
 refine ⟨trivial, trivial, ?_⟩
 show K1 [(0, .ptr ⟨r, 0, none⟩), (1, .int .i64 3), (2, .str token), (3, .str kind), (4, .int .i64 id), (11, .ptr ⟨b1, 0, none⟩)] (AMem.wth (AMem.wth m H) [(b1, vObj v), (r, rcObj e av c F), (e, zR s)])
 refine hK1 _ _ ?_; clear hK1 K1
 refine awp_seq_k ?_; intro K2 hK2
 refine awp_reg2_seq [] [0, 1, 2, 3, 4, 11, 22] (by decide) ?_
 intro K1 hK1
 refine ⟨trivial, trivial, ?_⟩
 show K1 [(0, .ptr ⟨r, 0, none⟩), (1, .int .i64 3), (2, .str token), (3, .str kind), (4, .int .i64 id), (11, .ptr ⟨b1, 0, none⟩), (22, .bool false)] _
 refine hK1 _ _ ?_; clear hK1 K1
 refine awp_cond rfl rfl (fun hcz => ?_) (fun hcz => ?_)
 ·
  cases hcz
 clear hcz
 refine awp_skip ?_
 refine hK2 _ _ ?_; clear hK2
 refine awp_reg2_seq [] [0, 1, 2, 3, 4, 11, 15] (by decide) ?_
 intro K1 hK1
 refine ⟨trivial, ?_⟩
 refine u_NameMay kind _ _ ?_
 refine ⟨trivial, ?_⟩
 show K1 [(0, .ptr ⟨r, 0, none⟩), (1, .int .i64 3), (2, .str token), (3, .str kind), (4, .int .i64 id), (11, .ptr ⟨b1, 0, none⟩), (15, .bool (nameV kind))] (AMem.wth (AMem.wth m H) [(b1, vObj v), (r, rcObj e av c F), (e, zR s)])
 refine hK1 _ _ ?_; clear hK1 K1
 refine awp_seq_k ?_; intro K3 hK3
 refine awp_reg2_seq [] [0, 1, 2, 3, 4, 11, 35] (by decide) ?_
 intro K1 hK1
 suffices key : K1 [(0, .ptr ⟨r, 0, none⟩), (1, .int .i64 3), (2, .str token), (3, .str kind), (4, .int .i64 id), (11, .ptr ⟨b1, 0, none⟩), (35, .bool false)] (AMem.wth (AMem.wth m H) [(b1, vObj v), (r, rcObj e av c F), (e, zR s)]) by
  refine ⟨trivial, trivial, trivial, ?_⟩
  refine ar_off rfl (ar_off rfl ?_)
  exact key
 refine hK1 _ _ ?_; clear hK1 K1
 refine awp_cond rfl rfl (fun hcz => ?_) (fun hcz => ?_)
 ·
  cases hcz
 clear hcz
 refine awp_skip ?_
 refine hK3 _ _ ?_; clear hK3
 refine awp_seq_k ?_; intro K4 hK4
 refine awp_reg2_seq [] [0, 1, 2, 3, 4, 11, 16] (by decide) ?_
 intro K1 hK1
 refine ⟨trivial, trivial, ⟨rfl, by decide⟩, ?_⟩
 refine ar_loadp rfl (v := .ptr ⟨e, 0, none⟩) rfl (wth_get 1 hNb1 rfl) rfl (apartOk_one rfl rfl (Nat.le_of_ble_eq_true rfl)) rfl ?_
 refine ar_mem (wth_split hNb1 (pick_perm [2] _)) ?_
 refine u_QStepC e hT hNN _ _ ?_
 show aopsR _ _ _ _ _ _ (AMem.wth (AMem.wth (AMem.wth m H) [(b1, vObj v), (r, rcObj e av c F)]) [(e, zR ((stepF s).1))])
 refine ar_mem (wth_split (m := (AMem.wth m H)) (L := [(b1, vObj v), (r, rcObj e av c F), (e, zR ((stepF s).1))]) hNb1 (pick_perm [2] _)).symm ?_
 refine ⟨trivial, ?_⟩
 show K1 [(0, .ptr ⟨r, 0, none⟩), (1, .int .i64 3), (2, .str token), (3, .str kind), (4, .int .i64 id), (11, .ptr ⟨b1, 0, none⟩), (16, .int .i64 ((stepF s).2))] (AMem.wth (AMem.wth m H) [(b1, vObj v), (r, rcObj e av c F), (e, zR ((stepF s).1))])
 refine hK1 _ _ ?_; clear hK1 K1
 refine awp_reg2_seq [] [0, 1, 2, 3, 4, 11, 16, 42] (by decide) ?_
 intro K1 hK1
 refine ⟨trivial, trivial, ?_⟩
 show K1 [(0, .ptr ⟨r, 0, none⟩), (1, .int .i64 3), (2, .str token), (3, .str kind), (4, .int .i64 id), (11, .ptr ⟨b1, 0, none⟩), (16, .int .i64 ((stepF s).2)), (42, .bool (decide (0 < (stepF s).2)))] _
 refine hK1 _ _ ?_; clear hK1 K1
 refine awp_cond rfl rfl (fun h1 => ?_) (fun h1 => ?_)
 ·
  replace h1 : 0 < (stepF s).2 := (of_decide_eq_true h1)
  refine awp_reg2_seq [] [12, 13] (by decide) ?_
  intro K1 hK1
  refine ⟨trivial, trivial, trivial, ?_⟩
  show K1 [(12, .int .i64 0), (13, .int .i64 ((stepF s).2))] (AMem.wth (AMem.wth m H) [(b1, vObj v), (r, rcObj e av c F), (e, zR ((stepF s).1))])
  refine hK1 _ _ ?_; clear hK1 K1
  refine awp_ret ?_
  refine ⟨trivial, trivial, (AMem.wth (AMem.wth m H) [(r, rcObj e av c F), (e, zR ((stepF s).1))]), (wth_keep (m := (AMem.wth m H)) (L := [(b1, vObj v), (r, rcObj e av c F), (e, zR ((stepF s).1))]) (L1 := [(r, rcObj e av c F), (e, zR ((stepF s).1))]) (L2 := [(b1, vObj v)]) hNb1 (pick_perm [1, 1] _) (by simp only [List.map_cons, List.map_nil, List.forall_mem_cons]; exact ⟨hFb1, fun _ h => by cases h⟩)), ?_⟩
  show K (.tuple [.int .i64 0, .int .i64 ((stepF s).2)]) (AMem.wth (AMem.wth m H) [(r, rcObj e av c F), (e, zR ((stepF s).1))])
 
  exact hK _ (deleteD_3 (by omega)) H av hTH _
 replace h1 : (stepF s).2 ≤ 0 := (Int.not_lt.1 (of_decide_eq_false h1))
 refine awp_skip ?_
 refine hK4 _ _ ?_; clear hK4
 have hs0 : (stepF s).2 = 0 := by have := (stepF_keep s).2.2.2; omega
 refine awp_reg2_seq [] [0, 1, 2, 3, 4, 11, 17] (by decide) ?_
 intro K1 hK1
 refine ⟨trivial, trivial, ⟨rfl, by decide⟩, ?_⟩
 refine ar_loadp rfl (v := .int .i64 c.calls) rfl (wth_get 1 hNb1 rfl) rfl (apartOk_one rfl rfl (Nat.le_of_ble_eq_true rfl)) rfl ?_
 refine ⟨trivial, ?_⟩
 show K1 [(0, .ptr ⟨r, 0, none⟩), (1, .int .i64 3), (2, .str token), (3, .str kind), (4, .int .i64 id), (11, .ptr ⟨b1, 0, none⟩), (17, .int .i64 c.calls)] (AMem.wth (AMem.wth m H) [(b1, vObj v), (r, rcObj e av c F), (e, zR ((stepF s).1))])
 refine hK1 _ _ ?_; clear hK1 K1
 refine awp_reg2_seq [] [0, 1, 2, 3, 4, 11, 17] (by decide) ?_
 intro K1 hK1
 refine ⟨trivial, trivial, ⟨rfl, by decide⟩, ?_⟩
 refine ar_loadp rfl (v := .int .i64 c.calls) rfl (wth_get 1 hNb1 rfl) rfl (apartOk_one rfl rfl (Nat.le_of_ble_eq_true rfl)) rfl ?_
 refine ar_add rfl (a := c.calls) (b := 1) rfl rfl (by omega) (by omega) ?_
 refine ⟨trivial, ⟨rfl, by decide⟩, ?_⟩
 refine ar_storep rfl 1 (v := .int .i64 (c.calls + 1)) (l' := [.ptr ⟨e, 0, none⟩, av, .slice true ((toksR c.tokens).map dn3AV), .int .i64 c.next, .int .i64 c.quota, .int .i64 (c.calls + 1), .slice true (F.map intAV)]) rfl rfl hNb1 rfl rfl rfl rfl rfl (Nat.le_of_ble_eq_true rfl) rfl ?_
 show K1 [(0, .ptr ⟨r, 0, none⟩), (1, .int .i64 3), (2, .str token), (3, .str kind), (4, .int .i64 id), (11, .ptr ⟨b1, 0, none⟩), (17, .int .i64 c.calls)] (AMem.wth (AMem.wth m H) [(b1, vObj v), (r, .cells [.ptr ⟨e, 0, none⟩, av, .slice true ((toksR c.tokens).map dn3AV), .int .i64 c.next, .int .i64 c.quota, .int .i64 (c.calls + 1), .slice true (F.map intAV)]), (e, zR ((stepF s).1))])
 refine hK1 _ _ ?_; clear hK1 K1
 refine awp_seq_k ?_; intro K5 hK5
 refine awp_reg2_seq [] [0, 1, 2, 3, 4, 11, 17, 18] (by decide) ?_
 intro K1 hK1
 refine ⟨trivial, ?_⟩
 show K1 [(0, .ptr ⟨r, 0, none⟩), (1, .int .i64 3), (2, .str token), (3, .str kind), (4, .int .i64 id), (11, .ptr ⟨b1, 0, none⟩), (17, .int .i64 c.calls), (18, .int .i64 0)] _
 refine hK1 _ _ ?_; clear hK1 K1
 refine awp_block ?_
 refine awp_keep [0, 1, 2, 3, 4, 11, 17, 18] (by decide) ?_
 refine awp_loop_st (σ := Int) (fun i => [(0, .ptr ⟨r, 0, none⟩), (1, .int .i64 3), (2, .str token), (3, .str kind), (4, .int .i64 id), (11, .ptr ⟨b1, 0, none⟩), (17, .int .i64 c.calls), (18, .int .i64 i)]) (fun _ => (AMem.wth (AMem.wth m H) [(b1, vObj v), (r, .cells [.ptr ⟨e, 0, none⟩, av, .slice true ((toksR c.tokens).map dn3AV), .int .i64 c.next, .int .i64 c.quota, .int .i64 (c.calls + 1), .slice true (F.map intAV)]), (e, zR ((stepF s).1))])) (fun i => 0 ≤ i ∧ i ≤ F.length ∧ ∀ x ∈ F.take i.toNat, x ≠ c.calls) (fun i => F.length - i.toNat) (0) rfl rfl ?_ ?_
 ·
  show 0 ≤ ((0 : Int)) ∧ ((0 : Int)) ≤ F.length ∧ ∀ x ∈ F.take ((0 : Int)).toNat, x ≠ c.calls
  exact ⟨by omega, by omega, fun x hx => by simp at hx⟩
 rintro i hI
 replace hI : 0 ≤ i ∧ i ≤ F.length ∧ ∀ x ∈ F.take i.toNat, x ≠ c.calls := hI
 show AWP _ _ _ _ [(0, .ptr ⟨r, 0, none⟩), (1, .int .i64 3), (2, .str token), (3, .str kind), (4, .int .i64 id), (11, .ptr ⟨b1, 0, none⟩), (17, .int .i64 c.calls), (18, .int .i64 i)] (AMem.wth (AMem.wth m H) [(b1, vObj v), (r, .cells [.ptr ⟨e, 0, none⟩, av, .slice true ((toksR c.tokens).map dn3AV), .int .i64 c.next, .int .i64 c.quota, .int .i64 (c.calls + 1), .slice true (F.map intAV)]), (e, zR ((stepF s).1))])
 refine awp_seq_k ?_; intro K6 hK6
 refine awp_reg2_seq [] [0, 1, 2, 3, 4, 11, 17, 18, 61] (by decide) ?_
 intro K1 hK1
 refine ⟨trivial, trivial, trivial, ⟨rfl, by decide⟩, ?_⟩
 refine ar_loadp rfl (v := .slice false (F.map intAV)) rfl (wth_get 1 hNb1 rfl) rfl (apartOk_one rfl rfl (Nat.le_of_ble_eq_true rfl)) rfl ?_
 refine ar_len rfl intAV F rfl rfl rfl ?_
 refine ⟨trivial, ?_⟩
 show K1 [(0, .ptr ⟨r, 0, none⟩), (1, .int .i64 3), (2, .str token), (3, .str kind), (4, .int .i64 id), (11, .ptr ⟨b1, 0, none⟩), (17, .int .i64 c.calls), (18, .int .i64 i), (61, .bool (decide (i < (F.length : Int))))] _
 refine hK1 _ _ ?_; clear hK1 K1
 refine awp_cond rfl rfl (fun h2 => ?_) (fun h2 => ?_)
 ·
  replace h2 : i < (F.length : Int) := (of_decide_eq_true h2)
  refine awp_skip ?_
  refine hK6 _ _ ?_; clear hK6
  refine awp_seq_k ?_; intro K7 hK7
  refine awp_block ?_
  refine awp_reg2_seq [] [0, 1, 2, 3, 4, 11, 17, 18, 72] (by decide) ?_
  intro K1 hK1
  refine ⟨trivial, trivial, ⟨rfl, by decide⟩, ?_⟩
  refine ar_loadp rfl (v := .slice false (F.map intAV)) rfl (wth_get 1 hNb1 rfl) rfl (apartOk_one rfl rfl (Nat.le_of_ble_eq_true rfl)) rfl ?_
  refine ⟨trivial, ?_⟩
  refine ar_index rfl intAV F i rfl rfl rfl rfl rfl (by decide) (fun _ => rfl) (by omega) (by omega) ?_
  refine ⟨(apartOk_one rfl rfl (Nat.le_of_ble_eq_true rfl)), trivial, trivial, ?_⟩
  show K1 [(0, .ptr ⟨r, 0, none⟩), (1, .int .i64 3), (2, .str token), (3, .str kind), (4, .int .i64 id), (11, .ptr ⟨b1, 0, none⟩), (17, .int .i64 c.calls), (18, .int .i64 i), (72, .bool ((gI F i) == c.calls))] (AMem.wth (AMem.wth m H) [(b1, vObj v), (r, .cells [.ptr ⟨e, 0, none⟩, av, .slice true ((toksR c.tokens).map dn3AV), .int .i64 c.next, .int .i64 c.quota, .int .i64 (c.calls + 1), .slice true (F.map intAV)]), (e, zR ((stepF s).1))])
  refine hK1 _ _ ?_; clear hK1 K1
  refine awp_cond rfl rfl (fun h3 => ?_) (fun h3 => ?_)
  ·
   replace h3 : gI F i = c.calls := (eq_of_beq h3)
   refine awp_reg2_seq [] [12, 13] (by decide) ?_
   intro K1 hK1
   refine ⟨trivial, trivial, ?_⟩
   show K1 [(12, .int .i64 0), (13, .int .i64 12)] (AMem.wth (AMem.wth m H) [(b1, vObj v), (r, .cells [.ptr ⟨e, 0, none⟩, av, .slice true ((toksR c.tokens).map dn3AV), .int .i64 c.next, .int .i64 c.quota, .int .i64 (c.calls + 1), .slice true (F.map intAV)]), (e, zR ((stepF s).1))])
   refine hK1 _ _ ?_; clear hK1 K1
   refine awp_ret ?_
   refine ⟨trivial, trivial, (AMem.wth (AMem.wth m H) [(r, .cells [.ptr ⟨e, 0, none⟩, av, .slice true ((toksR c.tokens).map dn3AV), .int .i64 c.next, .int .i64 c.quota, .int .i64 (c.calls + 1), .slice true (F.map intAV)]), (e, zR ((stepF s).1))]), (wth_keep (m := (AMem.wth m H)) (L := [(b1, vObj v), (r, .cells [.ptr ⟨e, 0, none⟩, av, .slice true ((toksR c.tokens).map dn3AV), .int .i64 c.next, .int .i64 c.quota, .int .i64 (c.calls + 1), .slice true (F.map intAV)]), (e, zR ((stepF s).1))]) (L1 := [(r, .cells [.ptr ⟨e, 0, none⟩, av, .slice true ((toksR c.tokens).map dn3AV), .int .i64 c.next, .int .i64 c.quota, .int .i64 (c.calls + 1), .slice true (F.map intAV)]), (e, zR ((stepF s).1))]) (L2 := [(b1, vObj v)]) hNb1 (pick_perm [1, 1] _) (by simp only [List.map_cons, List.map_nil, List.forall_mem_cons]; exact ⟨hFb1, fun _ h => by cases h⟩)), ?_⟩
   show K (.tuple [.int .i64 0, .int .i64 12]) (AMem.wth (AMem.wth m H) [(r, .cells [.ptr ⟨e, 0, none⟩, av, .slice true ((toksR c.tokens).map dn3AV), .int .i64 c.next, .int .i64 c.quota, .int .i64 (c.calls + 1), .slice true (F.map intAV)]), (e, zR ((stepF s).1))])
  
   have z3 := gI_mem (l := F) hI.1 (by assumption)
   have z4 : gI F i = c.calls := by assumption
   rw [z4] at z3
   exact hK _ (deleteD_4 hs0 (hfr.2 z3)) H av hTH _
  replace h3 : gI F i ≠ c.calls := (ne_of_beq_false h3)
  refine awp_skip ?_
  refine hK7 _ _ ?_; clear hK7
  refine awp_reg2 [] [0, 1, 2, 3, 4, 11, 17, 18] (by decide) ?_
  intro K1 hK1
  refine ⟨trivial, ?_⟩
  refine ar_add rfl (a := i) (b := 1) rfl rfl (by omega) (by omega) ?_
  refine ⟨trivial, ?_⟩
  show K1 [(0, .ptr ⟨r, 0, none⟩), (1, .int .i64 3), (2, .str token), (3, .str kind), (4, .int .i64 id), (11, .ptr ⟨b1, 0, none⟩), (17, .int .i64 c.calls), (18, .int .i64 (i + 1))] (AMem.wth (AMem.wth m H) [(b1, vObj v), (r, .cells [.ptr ⟨e, 0, none⟩, av, .slice true ((toksR c.tokens).map dn3AV), .int .i64 c.next, .int .i64 c.quota, .int .i64 (c.calls + 1), .slice true (F.map intAV)]), (e, zR ((stepF s).1))])
  refine hK1 _ _ ?_; clear hK1 K1
  refine ⟨(i + 1), rfl, rfl, ?_, ?_⟩
  ·
   show 0 ≤ ((i + 1 : Int)) ∧ ((i + 1 : Int)) ≤ F.length ∧ ∀ x ∈ F.take ((i + 1 : Int)).toNat, x ≠ c.calls
   refine ⟨by omega, by omega, fun x hx => ?_⟩
   rw [take_succ_gI hI.1 (by assumption), List.mem_append] at hx
   rcases hx with hx | hx
   ·
    exact hI.2.2 x hx
   ·
    simp at hx; subst hx; assumption
  ·
   show F.length - ((i + 1 : Int)).toNat < F.length - i.toNat
   omega
 replace h2 : (F.length : Int) ≤ i := (Int.not_lt.1 (of_decide_eq_false h2))
 refine awp_exit ?_
 refine hK5 _ _ ?_; clear hK5
 refine awp_seq_k ?_; intro K8 hK8
 have hb0 : (mget c.fails c.calls).getD false = false := by
  rw [Bool.eq_false_iff]; intro z
  have z2 := hfr.1 z
  rw [take_full (by assumption)] at hI
  exact hI.2.2 _ z2 rfl
 refine awp_reg2_seq [] [0, 1, 2, 3, 4, 11, 19] (by decide) ?_
 intro K1 hK1
 refine ⟨trivial, ?_⟩
 show K1 [(0, .ptr ⟨r, 0, none⟩), (1, .int .i64 3), (2, .str token), (3, .str kind), (4, .int .i64 id), (11, .ptr ⟨b1, 0, none⟩), (19, .int .i64 0)] (AMem.wth (AMem.wth m H) [(b1, vObj v), (r, .cells [.ptr ⟨e, 0, none⟩, av, .slice true ((toksR c.tokens).map dn3AV), .int .i64 c.next, .int .i64 c.quota, .int .i64 (c.calls + 1), .slice true (F.map intAV)]), (e, zR ((stepF s).1))])
 refine hK1 _ _ ?_; clear hK1 K1
 refine awp_block ?_
 refine awp_keep [0, 1, 2, 3, 4, 11, 19] (by decide) ?_
 refine awp_loop_st (σ := Int) (fun i2 => [(0, .ptr ⟨r, 0, none⟩), (1, .int .i64 3), (2, .str token), (3, .str kind), (4, .int .i64 id), (11, .ptr ⟨b1, 0, none⟩), (19, .int .i64 i2)]) (fun _ => (AMem.wth (AMem.wth m H) [(b1, vObj v), (r, .cells [.ptr ⟨e, 0, none⟩, av, .slice true ((toksR c.tokens).map dn3AV), .int .i64 c.next, .int .i64 c.quota, .int .i64 (c.calls + 1), .slice true (F.map intAV)]), (e, zR ((stepF s).1))])) (fun i2 => 0 ≤ i2 ∧ i2 ≤ (toksR c.tokens).length ∧ mget c.tokens token = mget (c.tokens.drop i2.toNat) token) (fun i2 => (toksR c.tokens).length - i2.toNat) (0) rfl rfl ?_ ?_
 ·
  show 0 ≤ ((0 : Int)) ∧ ((0 : Int)) ≤ (toksR c.tokens).length ∧ mget c.tokens token = mget (c.tokens.drop ((0 : Int)).toNat) token
  exact ⟨by omega, by omega, rfl⟩
 rintro i2 hI2
 replace hI2 : 0 ≤ i2 ∧ i2 ≤ (toksR c.tokens).length ∧ mget c.tokens token = mget (c.tokens.drop i2.toNat) token := hI2
 show AWP _ _ _ _ [(0, .ptr ⟨r, 0, none⟩), (1, .int .i64 3), (2, .str token), (3, .str kind), (4, .int .i64 id), (11, .ptr ⟨b1, 0, none⟩), (19, .int .i64 i2)] (AMem.wth (AMem.wth m H) [(b1, vObj v), (r, .cells [.ptr ⟨e, 0, none⟩, av, .slice true ((toksR c.tokens).map dn3AV), .int .i64 c.next, .int .i64 c.quota, .int .i64 (c.calls + 1), .slice true (F.map intAV)]), (e, zR ((stepF s).1))])
 refine awp_seq_k ?_; intro K9 hK9
 refine awp_reg2_seq [] [0, 1, 2, 3, 4, 11, 19, 79] (by decide) ?_
 intro K1 hK1
 refine ⟨trivial, trivial, trivial, ⟨rfl, by decide⟩, ?_⟩
 refine ar_loadp rfl (v := .slice false ((toksR c.tokens).map dn3AV)) rfl (wth_get 1 hNb1 rfl) rfl (apartOk_one rfl rfl (Nat.le_of_ble_eq_true rfl)) rfl ?_
 refine ar_len rfl dn3AV (toksR c.tokens) rfl rfl rfl ?_
 refine ⟨trivial, ?_⟩
 show K1 [(0, .ptr ⟨r, 0, none⟩), (1, .int .i64 3), (2, .str token), (3, .str kind), (4, .int .i64 id), (11, .ptr ⟨b1, 0, none⟩), (19, .int .i64 i2), (79, .bool (decide (i2 < ((toksR c.tokens).length : Int))))] _
 refine hK1 _ _ ?_; clear hK1 K1
 refine awp_cond rfl rfl (fun h4 => ?_) (fun h4 => ?_)
 ·
  replace h4 : i2 < ((toksR c.tokens).length : Int) := (of_decide_eq_true h4)
  refine awp_skip ?_
  refine hK9 _ _ ?_; clear hK9
  refine awp_seq_k ?_; intro K10 hK10
  refine awp_block ?_
  refine awp_seq_k ?_; intro K11 hK11
  refine awp_reg2_seq [] [0, 1, 2, 3, 4, 11, 19, 91] (by decide) ?_
  intro K1 hK1
  refine ⟨trivial, trivial, ⟨rfl, by decide⟩, ?_⟩
  refine ar_loadp rfl (v := .slice false ((toksR c.tokens).map dn3AV)) rfl (wth_get 1 hNb1 rfl) rfl (apartOk_one rfl rfl (Nat.le_of_ble_eq_true rfl)) rfl ?_
  refine ⟨trivial, ?_⟩
  refine ar_index rfl dn3AV (toksR c.tokens) i2 rfl rfl rfl rfl rfl (by decide) (fun _ => rfl) (by omega) (by omega) ?_
  refine ⟨⟨rfl, by decide, (Nat.le_of_ble_eq_true rfl)⟩, (apartOk_one rfl rfl (Nat.le_of_ble_eq_true rfl)), trivial, trivial, ?_⟩
  show K1 [(0, .ptr ⟨r, 0, none⟩), (1, .int .i64 3), (2, .str token), (3, .str kind), (4, .int .i64 id), (11, .ptr ⟨b1, 0, none⟩), (19, .int .i64 i2), (91, .bool (!(((gI (toksR c.tokens) i2).tok) == token)))] (AMem.wth (AMem.wth m H) [(b1, vObj v), (r, .cells [.ptr ⟨e, 0, none⟩, av, .slice true ((toksR c.tokens).map dn3AV), .int .i64 c.next, .int .i64 c.quota, .int .i64 (c.calls + 1), .slice true (F.map intAV)]), (e, zR ((stepF s).1))])
  refine hK1 _ _ ?_; clear hK1 K1
  refine awp_cond rfl rfl (fun h5 => ?_) (fun h5 => ?_)
  ·
   replace h5 : (gI (toksR c.tokens) i2).tok ≠ token := (ne_of_beq_false (bnT h5))
   refine awp_exit ?_
   refine hK10 _ _ ?_; clear hK10
   refine awp_reg2 [] [0, 1, 2, 3, 4, 11, 19] (by decide) ?_
   intro K1 hK1
   refine ⟨trivial, ?_⟩
   refine ar_add rfl (a := i2) (b := 1) rfl rfl (by omega) (by omega) ?_
   refine ⟨trivial, ?_⟩
   show K1 [(0, .ptr ⟨r, 0, none⟩), (1, .int .i64 3), (2, .str token), (3, .str kind), (4, .int .i64 id), (11, .ptr ⟨b1, 0, none⟩), (19, .int .i64 (i2 + 1))] (AMem.wth (AMem.wth m H) [(b1, vObj v), (r, .cells [.ptr ⟨e, 0, none⟩, av, .slice true ((toksR c.tokens).map dn3AV), .int .i64 c.next, .int .i64 c.quota, .int .i64 (c.calls + 1), .slice true (F.map intAV)]), (e, zR ((stepF s).1))])
   refine hK1 _ _ ?_; clear hK1 K1
   refine ⟨(i2 + 1), rfl, rfl, ?_, ?_⟩
   ·
    show 0 ≤ ((i2 + 1 : Int)) ∧ ((i2 + 1 : Int)) ≤ (toksR c.tokens).length ∧ mget c.tokens token = mget (c.tokens.drop ((i2 + 1 : Int)).toNat) token
    exact ⟨by omega, by omega, tok_miss hI2 (by assumption) (by assumption)⟩
   ·
    show (toksR c.tokens).length - ((i2 + 1 : Int)).toNat < (toksR c.tokens).length - i2.toNat
    omega
  replace h5 : (gI (toksR c.tokens) i2).tok = token := (eq_of_beq (bnF h5))
  refine awp_skip ?_
  refine hK11 _ _ ?_; clear hK11
  refine awp_seq_k ?_; intro K12 hK12
  refine awp_reg2_seq [] [0, 19, 101] (by decide) ?_
  intro K1 hK1
  refine ⟨trivial, trivial, ⟨rfl, by decide⟩, ?_⟩
  refine ar_loadp rfl (v := .slice false ((toksR c.tokens).map dn3AV)) rfl (wth_get 1 hNb1 rfl) rfl (apartOk_one rfl rfl (Nat.le_of_ble_eq_true rfl)) rfl ?_
  refine ⟨trivial, ?_⟩
  refine ar_index rfl dn3AV (toksR c.tokens) i2 rfl rfl rfl rfl rfl (by decide) (fun _ => rfl) (by omega) (by omega) ?_
  refine ⟨⟨rfl, by decide, (Nat.le_of_ble_eq_true rfl)⟩, (apartOk_one rfl rfl (Nat.le_of_ble_eq_true rfl)), trivial, trivial, ?_⟩
  show K1 [(0, .ptr ⟨r, 0, none⟩), (19, .int .i64 i2), (101, .bool (!(((gI (toksR c.tokens) i2).op) == 3)))] (AMem.wth (AMem.wth m H) [(b1, vObj v), (r, .cells [.ptr ⟨e, 0, none⟩, av, .slice true ((toksR c.tokens).map dn3AV), .int .i64 c.next, .int .i64 c.quota, .int .i64 (c.calls + 1), .slice true (F.map intAV)]), (e, zR ((stepF s).1))])
  refine hK1 _ _ ?_; clear hK1 K1
  refine awp_cond rfl rfl (fun h6 => ?_) (fun h6 => ?_)
  ·
   replace h6 : (gI (toksR c.tokens) i2).op ≠ 3 := (ne_of_beq_false (bnT h6))
   refine awp_reg2_seq [] [12, 13] (by decide) ?_
   intro K1 hK1
   refine ⟨trivial, trivial, ?_⟩
   show K1 [(12, .int .i64 0), (13, .int .i64 15)] (AMem.wth (AMem.wth m H) [(b1, vObj v), (r, .cells [.ptr ⟨e, 0, none⟩, av, .slice true ((toksR c.tokens).map dn3AV), .int .i64 c.next, .int .i64 c.quota, .int .i64 (c.calls + 1), .slice true (F.map intAV)]), (e, zR ((stepF s).1))])
   refine hK1 _ _ ?_; clear hK1 K1
   refine awp_ret ?_
   refine ⟨trivial, trivial, (AMem.wth (AMem.wth m H) [(r, .cells [.ptr ⟨e, 0, none⟩, av, .slice true ((toksR c.tokens).map dn3AV), .int .i64 c.next, .int .i64 c.quota, .int .i64 (c.calls + 1), .slice true (F.map intAV)]), (e, zR ((stepF s).1))]), (wth_keep (m := (AMem.wth m H)) (L := [(b1, vObj v), (r, .cells [.ptr ⟨e, 0, none⟩, av, .slice true ((toksR c.tokens).map dn3AV), .int .i64 c.next, .int .i64 c.quota, .int .i64 (c.calls + 1), .slice true (F.map intAV)]), (e, zR ((stepF s).1))]) (L1 := [(r, .cells [.ptr ⟨e, 0, none⟩, av, .slice true ((toksR c.tokens).map dn3AV), .int .i64 c.next, .int .i64 c.quota, .int .i64 (c.calls + 1), .slice true (F.map intAV)]), (e, zR ((stepF s).1))]) (L2 := [(b1, vObj v)]) hNb1 (pick_perm [1, 1] _) (by simp only [List.map_cons, List.map_nil, List.forall_mem_cons]; exact ⟨hFb1, fun _ h => by cases h⟩)), ?_⟩
   show K (.tuple [.int .i64 0, .int .i64 15]) (AMem.wth (AMem.wth m H) [(r, .cells [.ptr ⟨e, 0, none⟩, av, .slice true ((toksR c.tokens).map dn3AV), .int .i64 c.next, .int .i64 c.quota, .int .i64 (c.calls + 1), .slice true (F.map intAV)]), (e, zR ((stepF s).1))])
  
   have hm := tok_hit hI2 (by assumption) (by assumption)
   have hg := gI_toks hI2.1 (l := c.tokens) (by assumption)
   have hop : (gI c.tokens i2).2.op ≠ 3 := (by (have z : (gI (toksR c.tokens) i2).op ≠ 3 := by assumption); rw [hg] at z; exact z)
   exact hK _ (deleteD_5 hs0 hb0 hm hop) H av hTH _
  replace h6 : (gI (toksR c.tokens) i2).op = 3 := (eq_of_beq (bnF h6))
  refine awp_skip ?_
  refine hK12 _ _ ?_; clear hK12
  refine awp_reg2_seq [] [12, 13] (by decide) ?_
  intro K1 hK1
  refine ⟨trivial, trivial, ⟨rfl, by decide⟩, ?_⟩
  refine ar_loadp rfl (v := .slice false ((toksR c.tokens).map dn3AV)) rfl (wth_get 1 hNb1 rfl) rfl (apartOk_one rfl rfl (Nat.le_of_ble_eq_true rfl)) rfl ?_
  refine ⟨trivial, ?_⟩
  refine ar_index rfl dn3AV (toksR c.tokens) i2 rfl rfl rfl rfl rfl (by decide) (fun _ => rfl) (by omega) (by omega) ?_
  refine ⟨⟨rfl, by decide, (Nat.le_of_ble_eq_true rfl)⟩, (apartOk_one rfl rfl (Nat.le_of_ble_eq_true rfl)), trivial, trivial, ?_⟩
  show K1 [(12, .int .i64 ((gI (toksR c.tokens) i2).id)), (13, .int .i64 0)] (AMem.wth (AMem.wth m H) [(b1, vObj v), (r, .cells [.ptr ⟨e, 0, none⟩, av, .slice true ((toksR c.tokens).map dn3AV), .int .i64 c.next, .int .i64 c.quota, .int .i64 (c.calls + 1), .slice true (F.map intAV)]), (e, zR ((stepF s).1))])
  refine hK1 _ _ ?_; clear hK1 K1
  refine awp_ret ?_
  refine ⟨trivial, trivial, (AMem.wth (AMem.wth m H) [(r, .cells [.ptr ⟨e, 0, none⟩, av, .slice true ((toksR c.tokens).map dn3AV), .int .i64 c.next, .int .i64 c.quota, .int .i64 (c.calls + 1), .slice true (F.map intAV)]), (e, zR ((stepF s).1))]), (wth_keep (m := (AMem.wth m H)) (L := [(b1, vObj v), (r, .cells [.ptr ⟨e, 0, none⟩, av, .slice true ((toksR c.tokens).map dn3AV), .int .i64 c.next, .int .i64 c.quota, .int .i64 (c.calls + 1), .slice true (F.map intAV)]), (e, zR ((stepF s).1))]) (L1 := [(r, .cells [.ptr ⟨e, 0, none⟩, av, .slice true ((toksR c.tokens).map dn3AV), .int .i64 c.next, .int .i64 c.quota, .int .i64 (c.calls + 1), .slice true (F.map intAV)]), (e, zR ((stepF s).1))]) (L2 := [(b1, vObj v)]) hNb1 (pick_perm [1, 1] _) (by simp only [List.map_cons, List.map_nil, List.forall_mem_cons]; exact ⟨hFb1, fun _ h => by cases h⟩)), ?_⟩
  show K (.tuple [.int .i64 ((gI (toksR c.tokens) i2).id), .int .i64 0]) (AMem.wth (AMem.wth m H) [(r, .cells [.ptr ⟨e, 0, none⟩, av, .slice true ((toksR c.tokens).map dn3AV), .int .i64 c.next, .int .i64 c.quota, .int .i64 (c.calls + 1), .slice true (F.map intAV)]), (e, zR ((stepF s).1))])
 
  have hm := tok_hit hI2 (by assumption) (by assumption)
  have hg := gI_toks hI2.1 (l := c.tokens) (by assumption)
  have hop : (gI c.tokens i2).2.op = 3 := (by (have z : (gI (toksR c.tokens) i2).op = 3 := by assumption); rw [hg] at z; exact z)
  exact hK _ (deleteD_6 hs0 hb0 hm hop) H av hTH _
 replace h4 : ((toksR c.tokens).length : Int) ≤ i2 := (Int.not_lt.1 (of_decide_eq_false h4))
 refine awp_exit ?_
 refine hK8 _ _ ?_; clear hK8
 have htk0 : mget c.tokens token = none := tok_end hI2 (by assumption)
 refine awp_reg2_seq [] [0, 1, 2, 3, 4, 11, 20] (by decide) ?_
 intro K1 hK1
 refine ⟨trivial, trivial, ?_⟩
 have hD1 : ∀ cz ∈ List.map Prod.fst ([(b1, vObj v), (r, .cells [.ptr ⟨e, 0, none⟩, av, .slice true ((toksR c.tokens).map dn3AV), .int .i64 c.next, .int .i64 c.quota, .int .i64 (c.calls + 1), .slice true (F.map intAV)]), (e, zR ((stepF s).1))] : List (Nat × AObj)), cz ∉ List.map Prod.fst H := by simp only [List.map_cons, List.map_nil, List.forall_mem_cons]; exact ⟨hid_nin (m := m) hFb1, hTH.nin (by simp), hTH.nin (by simp), fun _ h => by cases h⟩
 have hTc1 : HidR _ (AMem.wth m [(b1, vObj v), (e, zR ((stepF s).1))]) [r] H _ _ := HidR.call (L := [(b1, vObj v), (r, .cells [.ptr ⟨e, 0, none⟩, av, .slice true ((toksR c.tokens).map dn3AV), .int .i64 c.next, .int .i64 c.quota, .int .i64 (c.calls + 1), .slice true (F.map intAV)]), (e, zR ((stepF s).1))]) hTH (pick_perm [1] _) hD1
 refine ar_mem (hid_call (m := m) (H := H) (L := [(b1, vObj v), (r, .cells [.ptr ⟨e, 0, none⟩, av, .slice true ((toksR c.tokens).map dn3AV), .int .i64 c.next, .int .i64 c.quota, .int .i64 (c.calls + 1), .slice true (F.map intAV)]), (e, zR ((stepF s).1))]) hNb1 (pick_perm [1] _) hTH.nd hD1) ?_
 refine u_place r e ({ c with calls := c.calls + 1 } : ClSt) F id hTc1 (by simp) (by rw [vals_len]; exact htl) _ ?_
 show aopsR _ _ _ _ _ _ (AMem.wth (AMem.wth (AMem.wth m [(b1, vObj v), (e, zR ((stepF s).1))]) H) [(r, .cells [.ptr ⟨e, 0, none⟩, av, .slice true ((toksR c.tokens).map dn3AV), .int .i64 c.next, .int .i64 c.quota, .int .i64 (c.calls + 1), .slice true (F.map intAV)])])
 refine ar_mem (hid_call (m := m) (H := H) (L := [(b1, vObj v), (r, .cells [.ptr ⟨e, 0, none⟩, av, .slice true ((toksR c.tokens).map dn3AV), .int .i64 c.next, .int .i64 c.quota, .int .i64 (c.calls + 1), .slice true (F.map intAV)]), (e, zR ((stepF s).1))]) hNb1 (pick_perm [1] _) hTH.nd hD1).symm ?_
 refine ⟨trivial, ?_⟩
 show K1 [(0, .ptr ⟨r, 0, none⟩), (1, .int .i64 3), (2, .str token), (3, .str kind), (4, .int .i64 id), (11, .ptr ⟨b1, 0, none⟩), (20, .int .i64 (placeR (vals c) id))] (AMem.wth (AMem.wth m H) [(b1, vObj v), (r, .cells [.ptr ⟨e, 0, none⟩, av, .slice true ((toksR c.tokens).map dn3AV), .int .i64 c.next, .int .i64 c.quota, .int .i64 (c.calls + 1), .slice true (F.map intAV)]), (e, zR ((stepF s).1))])
 refine hK1 _ _ ?_; clear hK1 K1
 refine awp_seq_k ?_; intro K13 hK13
 refine awp_reg2_seq [] [0, 1, 2, 3, 4, 11, 20, 113] (by decide) ?_
 intro K1 hK1
 refine ⟨trivial, ?_⟩
 show K1 [(0, .ptr ⟨r, 0, none⟩), (1, .int .i64 3), (2, .str token), (3, .str kind), (4, .int .i64 id), (11, .ptr ⟨b1, 0, none⟩), (20, .int .i64 (placeR (vals c) id)), (113, .int .i64 3)] _
 refine hK1 _ _ ?_; clear hK1 K1
 refine awp_block ?_
 refine awp_reg2_seq [] [0, 1, 2, 3, 4, 11, 20, 113, 114] (by decide) ?_
 intro K1 hK1
 refine ⟨trivial, trivial, ?_⟩
 show K1 [(0, .ptr ⟨r, 0, none⟩), (1, .int .i64 3), (2, .str token), (3, .str kind), (4, .int .i64 id), (11, .ptr ⟨b1, 0, none⟩), (20, .int .i64 (placeR (vals c) id)), (113, .int .i64 3), (114, .bool false)] _
 refine hK1 _ _ ?_; clear hK1 K1
 refine awp_cond rfl rfl (fun hcz => ?_) (fun hcz => ?_)
 ·
  cases hcz
 clear hcz
 refine awp_reg2_seq [] [0, 1, 2, 4, 11, 20, 113, 150] (by decide) ?_
 intro K1 hK1
 refine ⟨trivial, trivial, ?_⟩
 show K1 [(0, .ptr ⟨r, 0, none⟩), (1, .int .i64 3), (2, .str token), (4, .int .i64 id), (11, .ptr ⟨b1, 0, none⟩), (20, .int .i64 (placeR (vals c) id)), (113, .int .i64 3), (150, .bool false)] (AMem.wth (AMem.wth m H) [(b1, vObj v), (r, .cells [.ptr ⟨e, 0, none⟩, av, .slice true ((toksR c.tokens).map dn3AV), .int .i64 c.next, .int .i64 c.quota, .int .i64 (c.calls + 1), .slice true (F.map intAV)]), (e, zR ((stepF s).1))])
 refine hK1 _ _ ?_; clear hK1 K1
 refine awp_cond rfl rfl (fun hcz => ?_) (fun hcz => ?_)
 ·
  cases hcz
 clear hcz
 refine awp_reg2_seq [] [0, 1, 2, 4, 20, 162] (by decide) ?_
 intro K1 hK1
 refine ⟨trivial, trivial, ?_⟩
 show K1 [(0, .ptr ⟨r, 0, none⟩), (1, .int .i64 3), (2, .str token), (4, .int .i64 id), (20, .int .i64 (placeR (vals c) id)), (162, .bool true)] (AMem.wth (AMem.wth m H) [(b1, vObj v), (r, .cells [.ptr ⟨e, 0, none⟩, av, .slice true ((toksR c.tokens).map dn3AV), .int .i64 c.next, .int .i64 c.quota, .int .i64 (c.calls + 1), .slice true (F.map intAV)]), (e, zR ((stepF s).1))])
 refine hK1 _ _ ?_; clear hK1 K1
 refine awp_cond rfl rfl (fun hcz => ?_) (fun hcz => ?_)
 rotate_left; · cases hcz
 clear hcz
 refine awp_seq_k ?_; intro K14 hK14
 refine awp_reg2_seq [] [0, 1, 2, 4, 165] (by decide) ?_
 intro K1 hK1
 refine ⟨trivial, trivial, ?_⟩
 show K1 [(0, .ptr ⟨r, 0, none⟩), (1, .int .i64 3), (2, .str token), (4, .int .i64 id), (165, .bool (decide (placeR (vals c) id < 0)))] _
 refine hK1 _ _ ?_; clear hK1 K1
 refine awp_cond rfl rfl (fun h7 => ?_) (fun h7 => ?_)
 ·
  replace h7 : placeR (vals c) id < 0 := (of_decide_eq_true h7)
  refine awp_reg2_seq [] [12, 13] (by decide) ?_
  intro K1 hK1
  refine ⟨trivial, trivial, ?_⟩
  show K1 [(12, .int .i64 0), (13, .int .i64 7)] (AMem.wth (AMem.wth m H) [(b1, vObj v), (r, .cells [.ptr ⟨e, 0, none⟩, av, .slice true ((toksR c.tokens).map dn3AV), .int .i64 c.next, .int .i64 c.quota, .int .i64 (c.calls + 1), .slice true (F.map intAV)]), (e, zR ((stepF s).1))])
  refine hK1 _ _ ?_; clear hK1 K1
  refine awp_ret ?_
  refine ⟨trivial, trivial, (AMem.wth (AMem.wth m H) [(r, .cells [.ptr ⟨e, 0, none⟩, av, .slice true ((toksR c.tokens).map dn3AV), .int .i64 c.next, .int .i64 c.quota, .int .i64 (c.calls + 1), .slice true (F.map intAV)]), (e, zR ((stepF s).1))]), (wth_keep (m := (AMem.wth m H)) (L := [(b1, vObj v), (r, .cells [.ptr ⟨e, 0, none⟩, av, .slice true ((toksR c.tokens).map dn3AV), .int .i64 c.next, .int .i64 c.quota, .int .i64 (c.calls + 1), .slice true (F.map intAV)]), (e, zR ((stepF s).1))]) (L1 := [(r, .cells [.ptr ⟨e, 0, none⟩, av, .slice true ((toksR c.tokens).map dn3AV), .int .i64 c.next, .int .i64 c.quota, .int .i64 (c.calls + 1), .slice true (F.map intAV)]), (e, zR ((stepF s).1))]) (L2 := [(b1, vObj v)]) hNb1 (pick_perm [1, 1] _) (by simp only [List.map_cons, List.map_nil, List.forall_mem_cons]; exact ⟨hFb1, fun _ h => by cases h⟩)), ?_⟩
  show K (.tuple [.int .i64 0, .int .i64 7]) (AMem.wth (AMem.wth m H) [(r, .cells [.ptr ⟨e, 0, none⟩, av, .slice true ((toksR c.tokens).map dn3AV), .int .i64 c.next, .int .i64 c.quota, .int .i64 (c.calls + 1), .slice true (F.map intAV)]), (e, zR ((stepF s).1))])
 
  exact hK _ (deleteD_7 hs0 hb0 htk0 (by rw [hpa.elim (fun z => z.2) (fun z => absurd z.1 (by omega))]; rfl)) H av hTH _
 replace h7 : 0 ≤ placeR (vals c) id := (Int.not_lt.1 (of_decide_eq_false h7))
 refine awp_skip ?_
 refine hK14 _ _ ?_; clear hK14
 refine awp_reg2 [] [0, 1, 2, 4] (by decide) ?_
 intro K1 hK1
 refine ⟨trivial, trivial, ?_⟩
 have hD2 : ∀ cz ∈ List.map Prod.fst ([(b1, vObj v), (r, .cells [.ptr ⟨e, 0, none⟩, av, .slice true ((toksR c.tokens).map dn3AV), .int .i64 c.next, .int .i64 c.quota, .int .i64 (c.calls + 1), .slice true (F.map intAV)]), (e, zR ((stepF s).1))] : List (Nat × AObj)), cz ∉ List.map Prod.fst H := by simp only [List.map_cons, List.map_nil, List.forall_mem_cons]; exact ⟨hid_nin (m := m) hFb1, hTH.nin (by simp), hTH.nin (by simp), fun _ h => by cases h⟩
 have hTc2 : HidR _ (AMem.wth m [(b1, vObj v), (e, zR ((stepF s).1))]) [r] H _ _ := HidR.call (L := [(b1, vObj v), (r, .cells [.ptr ⟨e, 0, none⟩, av, .slice true ((toksR c.tokens).map dn3AV), .int .i64 c.next, .int .i64 c.quota, .int .i64 (c.calls + 1), .slice true (F.map intAV)]), (e, zR ((stepF s).1))]) hTH (pick_perm [1] _) hD2
 refine ar_mem (hid_call (m := m) (H := H) (L := [(b1, vObj v), (r, .cells [.ptr ⟨e, 0, none⟩, av, .slice true ((toksR c.tokens).map dn3AV), .int .i64 c.next, .int .i64 c.quota, .int .i64 (c.calls + 1), .slice true (F.map intAV)]), (e, zR ((stepF s).1))]) hNb1 (pick_perm [1] _) hTH.nd hD2) ?_
 refine u_RLose r e ({ c with calls := c.calls + 1 } : ClSt) F id hTc2 htl hids hn _ ?_
 intro H2 av2 hTn2
 show aopsR _ _ _ _ _ _ (AMem.wth (AMem.wth (AMem.wth m [(b1, vObj v), (e, zR ((stepF s).1))]) H2) [(r, .cells [.ptr ⟨e, 0, none⟩, av2, .slice true ((toksR c.tokens).map dn3AV), .int .i64 c.next, .int .i64 c.quota, .int .i64 (c.calls + 1), .slice true (F.map intAV)])])
 have hTb2 : HidR _ m [b1, r, e] H2 _ _ := HidR.back (L := [(b1, vObj v), (r, .cells [.ptr ⟨e, 0, none⟩, av2, .slice true ((toksR c.tokens).map dn3AV), .int .i64 c.next, .int .i64 c.quota, .int .i64 (c.calls + 1), .slice true (F.map intAV)]), (e, zR ((stepF s).1))]) hTn2 rfl (pick_perm [1] _)
 have hE2 : ∀ cz ∈ List.map Prod.fst ([(b1, vObj v), (r, .cells [.ptr ⟨e, 0, none⟩, av2, .slice true ((toksR c.tokens).map dn3AV), .int .i64 c.next, .int .i64 c.quota, .int .i64 (c.calls + 1), .slice true (F.map intAV)]), (e, zR ((stepF s).1))] : List (Nat × AObj)), cz ∉ List.map Prod.fst H2 := fun cz hc => hTb2.nin hc
 refine ar_mem (hid_call (m := m) (H := H2) (L := [(b1, vObj v), (r, .cells [.ptr ⟨e, 0, none⟩, av2, .slice true ((toksR c.tokens).map dn3AV), .int .i64 c.next, .int .i64 c.quota, .int .i64 (c.calls + 1), .slice true (F.map intAV)]), (e, zR ((stepF s).1))]) hNb1 (pick_perm [1] _) hTb2.nd hE2).symm ?_
 have hG2b1 : (AMem.wth m H2) b1 = none := hTb2.loc (hid_base (m := m) hFb1) (by simp)
 show aopsR _ _ _ _ _ _ (AMem.wth (AMem.wth m H2) [(b1, vObj v), (r, .cells [.ptr ⟨e, 0, none⟩, av2, .slice true ((toksR c.tokens).map dn3AV), .int .i64 c.next, .int .i64 c.quota, .int .i64 (c.calls + 1), .slice true (F.map intAV)]), (e, zR ((stepF s).1))])
 show K1 [(0, .ptr ⟨r, 0, none⟩), (1, .int .i64 3), (2, .str token), (4, .int .i64 id)] (AMem.wth (AMem.wth m H2) [(b1, vObj v), (r, .cells [.ptr ⟨e, 0, none⟩, av2, .slice true ((toksR c.tokens).map dn3AV), .int .i64 c.next, .int .i64 c.quota, .int .i64 (c.calls + 1), .slice true (F.map intAV)]), (e, zR ((stepF s).1))])
 refine hK1 _ _ ?_; clear hK1 K1
 refine hK13 _ _ ?_; clear hK13
 refine awp_reg2_seq [173] [4] (by decide) ?_
 intro K1 hK1
 refine ⟨trivial, trivial, trivial, ⟨rfl, by decide⟩, ?_⟩
 refine ar_loads rfl (i := 1) rfl hNb1 rfl rfl rfl rfl (Nat.le_of_ble_eq_true rfl) ?_
 refine ⟨trivial, trivial, trivial, ⟨rfl, by simp only [List.forall_mem_cons]; exact ⟨rfl, rfl, rfl, fun _ h => by cases h⟩, by simp only [List.forall_mem_cons]; exact ⟨rfl, rfl, rfl, fun _ h => by cases h⟩⟩, ⟨rfl, Nat.le_of_ble_eq_true rfl, rfl, Nat.le_of_ble_eq_true rfl, rfl, by simp only [List.forall_mem_cons]; exact ⟨⟨rfl, rfl⟩, fun _ h => by cases h⟩⟩, ?_⟩
 refine ar_append rfl dn3AV (toksR c.tokens) ([(⟨token, 3, id⟩ : Dn3)] : List Dn3) rfl rfl rfl rfl rfl rfl (Nat.le_of_ble_eq_true rfl) rfl (by (simp only [show Try.prog.bytesOf 140 = 32 from rfl, List.length_append, List.length_cons, List.length_nil]; omega)) (by (first | omega | (simp only [List.length_append, List.length_cons, List.length_nil]; omega))) (fun _ => ⟨rfl, rfl⟩) ?_
 refine ⟨trivial, ⟨rfl, by decide⟩, ?_⟩
 refine ar_storep rfl 1 (v := .slice true (((toksR c.tokens) ++ ([(⟨token, 3, id⟩ : Dn3)] : List Dn3)).map dn3AV)) (l' := [.ptr ⟨e, 0, none⟩, av2, .slice true (((toksR c.tokens) ++ ([(⟨token, 3, id⟩ : Dn3)] : List Dn3)).map dn3AV), .int .i64 c.next, .int .i64 c.quota, .int .i64 (c.calls + 1), .slice true (F.map intAV)]) rfl rfl hNb1 rfl rfl rfl rfl rfl (Nat.le_of_ble_eq_true rfl) rfl ?_
 show K1 [(4, .int .i64 id)] (AMem.wth (AMem.wth m H2) [(b1, vObj v), (r, .cells [.ptr ⟨e, 0, none⟩, av2, .slice true (((toksR c.tokens) ++ ([(⟨token, 3, id⟩ : Dn3)] : List Dn3)).map dn3AV), .int .i64 c.next, .int .i64 c.quota, .int .i64 (c.calls + 1), .slice true (F.map intAV)]), (e, zR ((stepF s).1))])
 refine hK1 _ _ ?_; clear hK1 K1
 refine awp_reg2_seq [] [12, 13] (by decide) ?_
 intro K1 hK1
 refine ⟨trivial, trivial, trivial, ?_⟩
 show K1 [(12, .int .i64 id), (13, .int .i64 0)] _
 refine hK1 _ _ ?_; clear hK1 K1
 refine awp_ret ?_
 refine ⟨trivial, trivial, (AMem.wth (AMem.wth m H2) [(r, .cells [.ptr ⟨e, 0, none⟩, av2, .slice true (((toksR c.tokens) ++ ([(⟨token, 3, id⟩ : Dn3)] : List Dn3)).map dn3AV), .int .i64 c.next, .int .i64 c.quota, .int .i64 (c.calls + 1), .slice true (F.map intAV)]), (e, zR ((stepF s).1))]), (wth_keep (m := (AMem.wth m H2)) (L := [(b1, vObj v), (r, .cells [.ptr ⟨e, 0, none⟩, av2, .slice true (((toksR c.tokens) ++ ([(⟨token, 3, id⟩ : Dn3)] : List Dn3)).map dn3AV), .int .i64 c.next, .int .i64 c.quota, .int .i64 (c.calls + 1), .slice true (F.map intAV)]), (e, zR ((stepF s).1))]) (L1 := [(r, .cells [.ptr ⟨e, 0, none⟩, av2, .slice true (((toksR c.tokens) ++ ([(⟨token, 3, id⟩ : Dn3)] : List Dn3)).map dn3AV), .int .i64 c.next, .int .i64 c.quota, .int .i64 (c.calls + 1), .slice true (F.map intAV)]), (e, zR ((stepF s).1))]) (L2 := [(b1, vObj v)]) hNb1 (pick_perm [1, 1] _) (by simp only [List.map_cons, List.map_nil, List.forall_mem_cons]; exact ⟨hG2b1, fun _ h => by cases h⟩)), ?_⟩
 show K (.tuple [.int .i64 id, .int .i64 0]) (AMem.wth (AMem.wth m H2) [(r, .cells [.ptr ⟨e, 0, none⟩, av2, .slice true (((toksR c.tokens) ++ ([(⟨token, 3, id⟩ : Dn3)] : List Dn3)).map dn3AV), .int .i64 c.next, .int .i64 c.quota, .int .i64 (c.calls + 1), .slice true (F.map intAV)]), (e, zR ((stepF s).1))])

 have h8 := hK _ (deleteD_8 hs0 hb0 htk0 (by rw [(hpa.resolve_left (fun z => by omega)).2.2.1]; rfl)) H2 av2 (hTb2.keep (by simp)) id
 exact Eq.mp (congrArg (fun o => K (.tuple [.int .i64 id, .int .i64 0]) ((m.wth H2).wth [(r, o), (e, rObj (rT q (stepF s).1))])) (rcObj_put htk0 _ _ _)) h8

end Go.Proofs
