import Derived.Test.YtoeghipbkmaccaaProg
import Derived.Test.YtoeghipbkmaccaaVa1
import Derived.Test.YtoeghipbkmaccaaCl11
import Derived.Test.YtoeghipbkmaccaaWxx
section
namespace Go.Proofs
open Go Go.Aw
set_option maxRecDepth 100000
set_option maxHeartbeats 8000000 in
theorem u_Do2 (r e : Nat) (q : RSt) (s : DSt) (c : ClSt) (F : List Int) (token kind : Str) (id : Int) (v : Val) (N : Nat) (H : List (Nat × AObj)) (av : AV) (hN : [r, e].Nodup) (hids : ∀ p ∈ c.things, p.2.id = p.1) (hT : Two s q N) (hNN : N ≤ 200) (hB : depV v ≤ 1000000000000) (hfr : (mget c.fails c.calls).getD false = true ↔ c.calls ∈ F) (hca : 0 ≤ c.calls) (hca2 : c.calls ≤ 1000000) (hnx : 0 ≤ c.next) (hnx2 : c.next ≤ 1000000) (htl : c.things.length ≤ 1000000) (hol : c.tokens.length ≤ 1000000) (hFl : F.length ≤ 1000000) (m : AMem) (hTH : HidR thgAV m [r, e] H av (vals c)) (K : AV → AMem → Prop) (hK : ∀ r0, updateR c s token id v = r0 → ∀ H' av', HidR thgAV m [r, e] H' av' (vals r0.1.1) → ∀ x : Int, K (.tuple [iT x, iT r0.2]) ((m.wth H').wth [(r, rcObj e av' r0.1.1 F), (e, rObj (rT q r0.1.2))])) : ACalls Try.prog 49 [pT r, iT 2, .str token, .str kind, iT id, valTop v] (mW (mW m H) [(r, rcObj e av c F), (e, zR s)]) K := by
 have hvl := vals_len c
 have hae := attrE_nn v
 have htkl : (toksR c.tokens).length ≤ 1000000 := by rw [toksR_len]; exact hol
 have hpa := place_at hids id
 refine acalls_enter Try.func49 rfl (by decide) (nB rfl) ?_
 show AWP _ _ _ _ [(0, pT r), (1, iT 2), (2, .str token), (3, .str kind), (4, iT id), (5, valTop v)] (mW (mW m H) [(r, rcObj e av c F), (e, zR s)])
 refine rS [] [0, 1, 2, 3, 4, 11] (by decide) ?_
 intro K1 hK1
 refine ar_box rfl (m := (mW m H)) (L := [(r, rcObj e av c F), (e, zR s)]) (v := valTop v) (by rfl) rfl ?_
 intro b1 hb1
 have hFb1 : (mW m H) b1 = none := wth_none hb1
 have hNb1 : ([b1, r, e] : List Nat).Nodup := wth_nodup hb1 hN
 refine ⟨tv, tv, ?_⟩
 show K1 [(0, pT r), (1, iT 2), (2, .str token), (3, .str kind), (4, iT id), (11, pT b1)] (mW (mW m H) [(b1, vObj v), (r, rcObj e av c F), (e, zR s)])
 refine hK1 _ _ ?_; clear hK1 K1
 refine sK ?_; intro K2 hK2
 refine rS [] [0, 1, 2, 3, 4, 11, 22] (by decide) ?_
 intro K1 hK1
 refine ⟨tv, tv, ?_⟩
 show K1 [(0, pT r), (1, iT 2), (2, .str token), (3, .str kind), (4, iT id), (11, pT b1), (22, .bool true)] _
 refine hK1 _ _ ?_; clear hK1 K1
 refine cD rfl rfl (fun hcz => ?_) (fun hcz => ?_)
 rotate_left; · cases hcz
 clear hcz
 refine rS [] [0, 1, 2, 3, 4, 11, 14] (by decide) ?_
 intro K1 hK1
 refine aL rfl (v := .agg [iT v.kind, iT v.n, .str v.s, sF (v.l.map valIn), sF (v.f.map fldIn)]) rfl (wG 0 hNb1 rfl) rfl (apartOk_agg rfl rfl (nB rfl)) rfl ?_
 refine u_attrsFault v hB _ _ ?_
 refine ⟨tv, ?_⟩
 show K1 [(0, pT r), (1, iT 2), (2, .str token), (3, .str kind), (4, iT id), (11, pT b1), (14, iT (attrE v))] _
 refine hK1 _ _ ?_; clear hK1 K1
 refine rS [] [0, 1, 2, 3, 4, 11, 14, 26] (by decide) ?_
 intro K1 hK1
 refine ⟨tv, tv, ?_⟩
 show K1 [(0, pT r), (1, iT 2), (2, .str token), (3, .str kind), (4, iT id), (11, pT b1), (14, iT (attrE v)), (26, .bool (decide (0 < attrE v)))] _
 refine hK1 _ _ ?_; clear hK1 K1
 refine cD rfl rfl (fun h1 => ?_) (fun h1 => ?_)
 ·
  replace h1 : 0 < attrE v := (of_decide_eq_true h1)
  refine rS [] [12, 13] (by decide) ?_
  intro K1 hK1
  refine ⟨tv, tv, tv, ?_⟩
  show K1 [(12, iT 0), (13, iT (attrE v))] (mW (mW m H) [(b1, vObj v), (r, rcObj e av c F), (e, zR s)])
  refine hK1 _ _ ?_; clear hK1 K1
  refine awp_ret ?_
  refine ⟨tv, tv, (mW (mW m H) [(r, rcObj e av c F), (e, zR s)]), (wth_keep (m := (mW m H)) (L := [(b1, vObj v), (r, rcObj e av c F), (e, zR s)]) (L1 := [(r, rcObj e av c F), (e, zR s)]) (L2 := [(b1, vObj v)]) hNb1 (pick_perm [1, 1] _) (by simp only [List.map_cons, List.map_nil, List.forall_mem_cons]; exact ⟨hFb1, nfA⟩)), ?_⟩
  show K (.tuple [iT 0, iT (attrE v)]) (AMem.wth (AMem.wth m H) [(r, rcObj e av c F), (e, zR s)])
 
  exact hK _ (updateR_1 (by omega)) H av hTH _
 replace h1 : attrE v ≤ 0 := (Int.not_lt.1 (of_decide_eq_false h1))
 refine awp_skip ?_
 refine hK2 _ _ ?_; clear hK2
 refine rS [] [0, 1, 2, 3, 4, 11, 15] (by decide) ?_
 intro K1 hK1
 refine ⟨tv, ?_⟩
 refine u_NameMay kind _ _ ?_
 refine ⟨tv, ?_⟩
 show K1 [(0, pT r), (1, iT 2), (2, .str token), (3, .str kind), (4, iT id), (11, pT b1), (15, .bool (nameV kind))] (mW (mW m H) [(b1, vObj v), (r, rcObj e av c F), (e, zR s)])
 refine hK1 _ _ ?_; clear hK1 K1
 refine sK ?_; intro K3 hK3
 refine rS [] [0, 1, 2, 3, 4, 11, 35] (by decide) ?_
 intro K1 hK1
 suffices key : K1 [(0, pT r), (1, iT 2), (2, .str token), (3, .str kind), (4, iT id), (11, pT b1), (35, .bool false)] (mW (mW m H) [(b1, vObj v), (r, rcObj e av c F), (e, zR s)]) by
  refine ⟨tv, tv, tv, ?_⟩
  refine ar_off rfl (ar_off rfl ?_)
  exact key
 refine hK1 _ _ ?_; clear hK1 K1
 refine cD rfl rfl (fun hcz => ?_) (fun hcz => ?_)
 ·
  cases hcz
 clear hcz
 refine awp_skip ?_
 refine hK3 _ _ ?_; clear hK3
 refine sK ?_; intro K4 hK4
 refine rS [] [0, 1, 2, 3, 4, 11, 16] (by decide) ?_
 intro K1 hK1
 refine ⟨tv, tv, ⟨rfl, by decide⟩, ?_⟩
 refine aL rfl (v := pT e) rfl (wG 1 hNb1 rfl) rfl (aO rfl rfl (nB rfl)) rfl ?_
 refine ar_mem (wS hNb1 (pick_perm [2] _)) ?_
 refine u_QStepC e hT hNN _ _ ?_
 refine ar_mem (wS (m := (mW m H)) (L := [(b1, vObj v), (r, rcObj e av c F), (e, zR ((stepF s).1))]) hNb1 (pick_perm [2] _)).symm ?_
 refine ⟨tv, ?_⟩
 show K1 [(0, pT r), (1, iT 2), (2, .str token), (3, .str kind), (4, iT id), (11, pT b1), (16, iT ((stepF s).2))] (mW (mW m H) [(b1, vObj v), (r, rcObj e av c F), (e, zR ((stepF s).1))])
 refine hK1 _ _ ?_; clear hK1 K1
 refine rS [] [0, 1, 2, 3, 4, 11, 16, 42] (by decide) ?_
 intro K1 hK1
 refine ⟨tv, tv, ?_⟩
 show K1 [(0, pT r), (1, iT 2), (2, .str token), (3, .str kind), (4, iT id), (11, pT b1), (16, iT ((stepF s).2)), (42, .bool (decide (0 < (stepF s).2)))] _
 refine hK1 _ _ ?_; clear hK1 K1
 refine cD rfl rfl (fun h2 => ?_) (fun h2 => ?_)
 ·
  replace h2 : 0 < (stepF s).2 := (of_decide_eq_true h2)
  refine rS [] [12, 13] (by decide) ?_
  intro K1 hK1
  refine ⟨tv, tv, tv, ?_⟩
  show K1 [(12, iT 0), (13, iT ((stepF s).2))] (mW (mW m H) [(b1, vObj v), (r, rcObj e av c F), (e, zR ((stepF s).1))])
  refine hK1 _ _ ?_; clear hK1 K1
  refine awp_ret ?_
  refine ⟨tv, tv, (mW (mW m H) [(r, rcObj e av c F), (e, zR ((stepF s).1))]), (wth_keep (m := (mW m H)) (L := [(b1, vObj v), (r, rcObj e av c F), (e, zR ((stepF s).1))]) (L1 := [(r, rcObj e av c F), (e, zR ((stepF s).1))]) (L2 := [(b1, vObj v)]) hNb1 (pick_perm [1, 1] _) (by simp only [List.map_cons, List.map_nil, List.forall_mem_cons]; exact ⟨hFb1, nfA⟩)), ?_⟩
  show K (.tuple [iT 0, iT ((stepF s).2)]) (AMem.wth (AMem.wth m H) [(r, rcObj e av c F), (e, zR ((stepF s).1))])
 
  exact hK _ (updateD_3 (by omega) (by omega)) H av hTH _
 replace h2 : (stepF s).2 ≤ 0 := (Int.not_lt.1 (of_decide_eq_false h2))
 refine awp_skip ?_
 refine hK4 _ _ ?_; clear hK4
 have hs0 : (stepF s).2 = 0 := by have := (stepF_keep s).2.2.2; omega
 refine rS [] [0, 1, 2, 3, 4, 11, 17] (by decide) ?_
 intro K1 hK1
 refine ⟨tv, tv, ⟨rfl, by decide⟩, ?_⟩
 refine aL rfl (v := iT c.calls) rfl (wG 1 hNb1 rfl) rfl (aO rfl rfl (nB rfl)) rfl ?_
 refine ⟨tv, ?_⟩
 show K1 [(0, pT r), (1, iT 2), (2, .str token), (3, .str kind), (4, iT id), (11, pT b1), (17, iT c.calls)] (mW (mW m H) [(b1, vObj v), (r, rcObj e av c F), (e, zR ((stepF s).1))])
 refine hK1 _ _ ?_; clear hK1 K1
 refine rS [] [0, 1, 2, 3, 4, 11, 17] (by decide) ?_
 intro K1 hK1
 refine ⟨tv, tv, ⟨rfl, by decide⟩, ?_⟩
 refine aL rfl (v := iT c.calls) rfl (wG 1 hNb1 rfl) rfl (aO rfl rfl (nB rfl)) rfl ?_
 refine ar_add rfl (a := c.calls) (b := 1) rfl rfl (by omega) (by omega) ?_
 refine ⟨tv, ⟨rfl, by decide⟩, ?_⟩
 refine aS rfl 1 (v := iT (c.calls + 1)) (l' := [pT e, av, sT ((toksR c.tokens).map dn3AV), iT c.next, iT c.quota, iT (c.calls + 1), sT (F.map intAV)]) rfl rfl hNb1 rfl rfl rfl rfl rfl (nB rfl) rfl ?_
 show K1 [(0, pT r), (1, iT 2), (2, .str token), (3, .str kind), (4, iT id), (11, pT b1), (17, iT c.calls)] (mW (mW m H) [(b1, vObj v), (r, .cells [pT e, av, sT ((toksR c.tokens).map dn3AV), iT c.next, iT c.quota, iT (c.calls + 1), sT (F.map intAV)]), (e, zR ((stepF s).1))])
 refine hK1 _ _ ?_; clear hK1 K1
 refine sK ?_; intro K5 hK5
 refine rS [] [0, 1, 2, 3, 4, 11, 17, 18] (by decide) ?_
 intro K1 hK1
 refine ⟨tv, ?_⟩
 show K1 [(0, pT r), (1, iT 2), (2, .str token), (3, .str kind), (4, iT id), (11, pT b1), (17, iT c.calls), (18, iT 0)] _
 refine hK1 _ _ ?_; clear hK1 K1
 refine awp_block ?_
 refine awp_keep [0, 1, 2, 3, 4, 11, 17, 18] (by decide) ?_
 refine awp_loop_st (σ := Int) (fun i => [(0, pT r), (1, iT 2), (2, .str token), (3, .str kind), (4, iT id), (11, pT b1), (17, iT c.calls), (18, iT i)]) (fun _ => (mW (mW m H) [(b1, vObj v), (r, .cells [pT e, av, sT ((toksR c.tokens).map dn3AV), iT c.next, iT c.quota, iT (c.calls + 1), sT (F.map intAV)]), (e, zR ((stepF s).1))])) (fun i => 0 ≤ i ∧ i ≤ F.length ∧ ∀ x ∈ F.take i.toNat, x ≠ c.calls) (fun i => F.length - i.toNat) (0) rfl rfl ?_ ?_
 ·
  show 0 ≤ ((0 : Int)) ∧ ((0 : Int)) ≤ F.length ∧ ∀ x ∈ F.take ((0 : Int)).toNat, x ≠ c.calls
  exact ⟨by omega, by omega, fun x hx => by simp at hx⟩
 rintro i hI
 replace hI : 0 ≤ i ∧ i ≤ F.length ∧ ∀ x ∈ F.take i.toNat, x ≠ c.calls := hI
 show AWP _ _ _ _ [(0, pT r), (1, iT 2), (2, .str token), (3, .str kind), (4, iT id), (11, pT b1), (17, iT c.calls), (18, iT i)] (mW (mW m H) [(b1, vObj v), (r, .cells [pT e, av, sT ((toksR c.tokens).map dn3AV), iT c.next, iT c.quota, iT (c.calls + 1), sT (F.map intAV)]), (e, zR ((stepF s).1))])
 refine sK ?_; intro K6 hK6
 refine rS [] [0, 1, 2, 3, 4, 11, 17, 18, 61] (by decide) ?_
 intro K1 hK1
 refine ⟨tv, tv, tv, ⟨rfl, by decide⟩, ?_⟩
 refine aL rfl (v := sF (F.map intAV)) rfl (wG 1 hNb1 rfl) rfl (aO rfl rfl (nB rfl)) rfl ?_
 refine ar_len rfl intAV F rfl rfl rfl ?_
 refine ⟨tv, ?_⟩
 show K1 [(0, pT r), (1, iT 2), (2, .str token), (3, .str kind), (4, iT id), (11, pT b1), (17, iT c.calls), (18, iT i), (61, .bool (decide (i < (F.length : Int))))] _
 refine hK1 _ _ ?_; clear hK1 K1
 refine cD rfl rfl (fun h3 => ?_) (fun h3 => ?_)
 ·
  replace h3 : i < (F.length : Int) := (of_decide_eq_true h3)
  refine awp_skip ?_
  refine hK6 _ _ ?_; clear hK6
  refine sK ?_; intro K7 hK7
  refine awp_block ?_
  refine rS [] [0, 1, 2, 3, 4, 11, 17, 18, 72] (by decide) ?_
  intro K1 hK1
  refine ⟨tv, tv, ⟨rfl, by decide⟩, ?_⟩
  refine aL rfl (v := sF (F.map intAV)) rfl (wG 1 hNb1 rfl) rfl (aO rfl rfl (nB rfl)) rfl ?_
  refine ⟨tv, ?_⟩
  refine ar_index rfl intAV F i rfl rfl rfl rfl rfl (by decide) (fun _ => rfl) (by omega) (by omega) ?_
  refine ⟨(aO rfl rfl (nB rfl)), tv, tv, ?_⟩
  show K1 [(0, pT r), (1, iT 2), (2, .str token), (3, .str kind), (4, iT id), (11, pT b1), (17, iT c.calls), (18, iT i), (72, .bool ((gI F i) == c.calls))] (mW (mW m H) [(b1, vObj v), (r, .cells [pT e, av, sT ((toksR c.tokens).map dn3AV), iT c.next, iT c.quota, iT (c.calls + 1), sT (F.map intAV)]), (e, zR ((stepF s).1))])
  refine hK1 _ _ ?_; clear hK1 K1
  refine cD rfl rfl (fun h4 => ?_) (fun h4 => ?_)
  ·
   replace h4 : gI F i = c.calls := (eq_of_beq h4)
   refine rS [] [12, 13] (by decide) ?_
   intro K1 hK1
   refine ⟨tv, tv, ?_⟩
   show K1 [(12, iT 0), (13, iT 12)] (mW (mW m H) [(b1, vObj v), (r, .cells [pT e, av, sT ((toksR c.tokens).map dn3AV), iT c.next, iT c.quota, iT (c.calls + 1), sT (F.map intAV)]), (e, zR ((stepF s).1))])
   refine hK1 _ _ ?_; clear hK1 K1
   refine awp_ret ?_
   refine ⟨tv, tv, (mW (mW m H) [(r, .cells [pT e, av, sT ((toksR c.tokens).map dn3AV), iT c.next, iT c.quota, iT (c.calls + 1), sT (F.map intAV)]), (e, zR ((stepF s).1))]), (wth_keep (m := (mW m H)) (L := [(b1, vObj v), (r, .cells [pT e, av, sT ((toksR c.tokens).map dn3AV), iT c.next, iT c.quota, iT (c.calls + 1), sT (F.map intAV)]), (e, zR ((stepF s).1))]) (L1 := [(r, .cells [pT e, av, sT ((toksR c.tokens).map dn3AV), iT c.next, iT c.quota, iT (c.calls + 1), sT (F.map intAV)]), (e, zR ((stepF s).1))]) (L2 := [(b1, vObj v)]) hNb1 (pick_perm [1, 1] _) (by simp only [List.map_cons, List.map_nil, List.forall_mem_cons]; exact ⟨hFb1, nfA⟩)), ?_⟩
   show K (.tuple [iT 0, iT 12]) (AMem.wth (AMem.wth m H) [(r, .cells [pT e, av, sT ((toksR c.tokens).map dn3AV), iT c.next, iT c.quota, iT (c.calls + 1), sT (F.map intAV)]), (e, zR ((stepF s).1))])
  
   have z3 := gI_mem (l := F) hI.1 (by assumption)
   have z4 : gI F i = c.calls := by assumption
   rw [z4] at z3
   exact hK _ (updateD_4 (by omega) hs0 (hfr.2 z3)) H av hTH _
  replace h4 : gI F i ≠ c.calls := (ne_of_beq_false h4)
  refine awp_skip ?_
  refine hK7 _ _ ?_; clear hK7
  refine awp_reg2 [] [0, 1, 2, 3, 4, 11, 17, 18] (by decide) ?_
  intro K1 hK1
  refine ⟨tv, ?_⟩
  refine ar_add rfl (a := i) (b := 1) rfl rfl (by omega) (by omega) ?_
  refine ⟨tv, ?_⟩
  show K1 [(0, pT r), (1, iT 2), (2, .str token), (3, .str kind), (4, iT id), (11, pT b1), (17, iT c.calls), (18, iT (i + 1))] (mW (mW m H) [(b1, vObj v), (r, .cells [pT e, av, sT ((toksR c.tokens).map dn3AV), iT c.next, iT c.quota, iT (c.calls + 1), sT (F.map intAV)]), (e, zR ((stepF s).1))])
  refine hK1 _ _ ?_; clear hK1 K1
  refine ⟨(i + 1), rfl, rfl, ?_, ?_⟩
  ·
   show 0 ≤ ((i + 1 : Int)) ∧ ((i + 1 : Int)) ≤ F.length ∧ ∀ x ∈ F.take ((i + 1 : Int)).toNat, x ≠ c.calls
   refine ⟨by omega, by omega, fun x hx => ?_⟩
   rw [take_succ_gI hI.1 (by assumption), List.mem_append] at hx
   rcases hx with hx | hx
   ·
    exact hI.2.2 x hx
   ·
    simp at hx; subst hx; assumption
  ·
   show F.length - ((i + 1 : Int)).toNat < F.length - i.toNat
   omega
 replace h3 : (F.length : Int) ≤ i := (Int.not_lt.1 (of_decide_eq_false h3))
 refine awp_exit ?_
 refine hK5 _ _ ?_; clear hK5
 refine sK ?_; intro K8 hK8
 have hb0 : (mget c.fails c.calls).getD false = false := by
  rw [Bool.eq_false_iff]; intro z
  have z2 := hfr.1 z
  rw [take_full (by assumption)] at hI
  exact hI.2.2 _ z2 rfl
 refine rS [] [0, 1, 2, 3, 4, 11, 19] (by decide) ?_
 intro K1 hK1
 refine ⟨tv, ?_⟩
 show K1 [(0, pT r), (1, iT 2), (2, .str token), (3, .str kind), (4, iT id), (11, pT b1), (19, iT 0)] (mW (mW m H) [(b1, vObj v), (r, .cells [pT e, av, sT ((toksR c.tokens).map dn3AV), iT c.next, iT c.quota, iT (c.calls + 1), sT (F.map intAV)]), (e, zR ((stepF s).1))])
 refine hK1 _ _ ?_; clear hK1 K1
 refine awp_block ?_
 refine awp_keep [0, 1, 2, 3, 4, 11, 19] (by decide) ?_
 refine awp_loop_st (σ := Int) (fun i2 => [(0, pT r), (1, iT 2), (2, .str token), (3, .str kind), (4, iT id), (11, pT b1), (19, iT i2)]) (fun _ => (mW (mW m H) [(b1, vObj v), (r, .cells [pT e, av, sT ((toksR c.tokens).map dn3AV), iT c.next, iT c.quota, iT (c.calls + 1), sT (F.map intAV)]), (e, zR ((stepF s).1))])) (fun i2 => 0 ≤ i2 ∧ i2 ≤ (toksR c.tokens).length ∧ mget c.tokens token = mget (c.tokens.drop i2.toNat) token) (fun i2 => (toksR c.tokens).length - i2.toNat) (0) rfl rfl ?_ ?_
 ·
  show 0 ≤ ((0 : Int)) ∧ ((0 : Int)) ≤ (toksR c.tokens).length ∧ mget c.tokens token = mget (c.tokens.drop ((0 : Int)).toNat) token
  exact ⟨by omega, by omega, rfl⟩
 rintro i2 hI2
 replace hI2 : 0 ≤ i2 ∧ i2 ≤ (toksR c.tokens).length ∧ mget c.tokens token = mget (c.tokens.drop i2.toNat) token := hI2
 show AWP _ _ _ _ [(0, pT r), (1, iT 2), (2, .str token), (3, .str kind), (4, iT id), (11, pT b1), (19, iT i2)] (mW (mW m H) [(b1, vObj v), (r, .cells [pT e, av, sT ((toksR c.tokens).map dn3AV), iT c.next, iT c.quota, iT (c.calls + 1), sT (F.map intAV)]), (e, zR ((stepF s).1))])
 refine sK ?_; intro K9 hK9
 refine rS [] [0, 1, 2, 3, 4, 11, 19, 79] (by decide) ?_
 intro K1 hK1
 refine ⟨tv, tv, tv, ⟨rfl, by decide⟩, ?_⟩
 refine aL rfl (v := sF ((toksR c.tokens).map dn3AV)) rfl (wG 1 hNb1 rfl) rfl (aO rfl rfl (nB rfl)) rfl ?_
 refine ar_len rfl dn3AV (toksR c.tokens) rfl rfl rfl ?_
 refine ⟨tv, ?_⟩
 show K1 [(0, pT r), (1, iT 2), (2, .str token), (3, .str kind), (4, iT id), (11, pT b1), (19, iT i2), (79, .bool (decide (i2 < ((toksR c.tokens).length : Int))))] _
 refine hK1 _ _ ?_; clear hK1 K1
 refine cD rfl rfl (fun h5 => ?_) (fun h5 => ?_)
 ·
  replace h5 : i2 < ((toksR c.tokens).length : Int) := (of_decide_eq_true h5)
  refine awp_skip ?_
  refine hK9 _ _ ?_; clear hK9
  refine sK ?_; intro K10 hK10
  refine awp_block ?_
  refine sK ?_; intro K11 hK11
  refine rS [] [0, 1, 2, 3, 4, 11, 19, 91] (by decide) ?_
  intro K1 hK1
  refine ⟨tv, tv, ⟨rfl, by decide⟩, ?_⟩
  refine aL rfl (v := sF ((toksR c.tokens).map dn3AV)) rfl (wG 1 hNb1 rfl) rfl (aO rfl rfl (nB rfl)) rfl ?_
  refine ⟨tv, ?_⟩
  refine ar_index rfl dn3AV (toksR c.tokens) i2 rfl rfl rfl rfl rfl (by decide) (fun _ => rfl) (by omega) (by omega) ?_
  refine ⟨⟨rfl, by decide, (nB rfl)⟩, (aO rfl rfl (nB rfl)), tv, tv, ?_⟩
  show K1 [(0, pT r), (1, iT 2), (2, .str token), (3, .str kind), (4, iT id), (11, pT b1), (19, iT i2), (91, .bool (!(((gI (toksR c.tokens) i2).tok) == token)))] (mW (mW m H) [(b1, vObj v), (r, .cells [pT e, av, sT ((toksR c.tokens).map dn3AV), iT c.next, iT c.quota, iT (c.calls + 1), sT (F.map intAV)]), (e, zR ((stepF s).1))])
  refine hK1 _ _ ?_; clear hK1 K1
  refine cD rfl rfl (fun h6 => ?_) (fun h6 => ?_)
  ·
   replace h6 : (gI (toksR c.tokens) i2).tok ≠ token := (ne_of_beq_false (bnT h6))
   refine awp_exit ?_
   refine hK10 _ _ ?_; clear hK10
   refine awp_reg2 [] [0, 1, 2, 3, 4, 11, 19] (by decide) ?_
   intro K1 hK1
   refine ⟨tv, ?_⟩
   refine ar_add rfl (a := i2) (b := 1) rfl rfl (by omega) (by omega) ?_
   refine ⟨tv, ?_⟩
   show K1 [(0, pT r), (1, iT 2), (2, .str token), (3, .str kind), (4, iT id), (11, pT b1), (19, iT (i2 + 1))] (mW (mW m H) [(b1, vObj v), (r, .cells [pT e, av, sT ((toksR c.tokens).map dn3AV), iT c.next, iT c.quota, iT (c.calls + 1), sT (F.map intAV)]), (e, zR ((stepF s).1))])
   refine hK1 _ _ ?_; clear hK1 K1
   refine ⟨(i2 + 1), rfl, rfl, ?_, ?_⟩
   ·
    show 0 ≤ ((i2 + 1 : Int)) ∧ ((i2 + 1 : Int)) ≤ (toksR c.tokens).length ∧ mget c.tokens token = mget (c.tokens.drop ((i2 + 1 : Int)).toNat) token
    exact ⟨by omega, by omega, tok_miss hI2 (by assumption) (by assumption)⟩
   ·
    show (toksR c.tokens).length - ((i2 + 1 : Int)).toNat < (toksR c.tokens).length - i2.toNat
    omega
  replace h6 : (gI (toksR c.tokens) i2).tok = token := (eq_of_beq (bnF h6))
  refine awp_skip ?_
  refine hK11 _ _ ?_; clear hK11
  refine sK ?_; intro K12 hK12
  refine rS [] [0, 19, 101] (by decide) ?_
  intro K1 hK1
  refine ⟨tv, tv, ⟨rfl, by decide⟩, ?_⟩
  refine aL rfl (v := sF ((toksR c.tokens).map dn3AV)) rfl (wG 1 hNb1 rfl) rfl (aO rfl rfl (nB rfl)) rfl ?_
  refine ⟨tv, ?_⟩
  refine ar_index rfl dn3AV (toksR c.tokens) i2 rfl rfl rfl rfl rfl (by decide) (fun _ => rfl) (by omega) (by omega) ?_
  refine ⟨⟨rfl, by decide, (nB rfl)⟩, (aO rfl rfl (nB rfl)), tv, tv, ?_⟩
  show K1 [(0, pT r), (19, iT i2), (101, .bool (!(((gI (toksR c.tokens) i2).op) == 2)))] (mW (mW m H) [(b1, vObj v), (r, .cells [pT e, av, sT ((toksR c.tokens).map dn3AV), iT c.next, iT c.quota, iT (c.calls + 1), sT (F.map intAV)]), (e, zR ((stepF s).1))])
  refine hK1 _ _ ?_; clear hK1 K1
  refine cD rfl rfl (fun h7 => ?_) (fun h7 => ?_)
  ·
   replace h7 : (gI (toksR c.tokens) i2).op ≠ 2 := (ne_of_beq_false (bnT h7))
   refine rS [] [12, 13] (by decide) ?_
   intro K1 hK1
   refine ⟨tv, tv, ?_⟩
   show K1 [(12, iT 0), (13, iT 15)] (mW (mW m H) [(b1, vObj v), (r, .cells [pT e, av, sT ((toksR c.tokens).map dn3AV), iT c.next, iT c.quota, iT (c.calls + 1), sT (F.map intAV)]), (e, zR ((stepF s).1))])
   refine hK1 _ _ ?_; clear hK1 K1
   refine awp_ret ?_
   refine ⟨tv, tv, (mW (mW m H) [(r, .cells [pT e, av, sT ((toksR c.tokens).map dn3AV), iT c.next, iT c.quota, iT (c.calls + 1), sT (F.map intAV)]), (e, zR ((stepF s).1))]), (wth_keep (m := (mW m H)) (L := [(b1, vObj v), (r, .cells [pT e, av, sT ((toksR c.tokens).map dn3AV), iT c.next, iT c.quota, iT (c.calls + 1), sT (F.map intAV)]), (e, zR ((stepF s).1))]) (L1 := [(r, .cells [pT e, av, sT ((toksR c.tokens).map dn3AV), iT c.next, iT c.quota, iT (c.calls + 1), sT (F.map intAV)]), (e, zR ((stepF s).1))]) (L2 := [(b1, vObj v)]) hNb1 (pick_perm [1, 1] _) (by simp only [List.map_cons, List.map_nil, List.forall_mem_cons]; exact ⟨hFb1, nfA⟩)), ?_⟩
   show K (.tuple [iT 0, iT 15]) (AMem.wth (AMem.wth m H) [(r, .cells [pT e, av, sT ((toksR c.tokens).map dn3AV), iT c.next, iT c.quota, iT (c.calls + 1), sT (F.map intAV)]), (e, zR ((stepF s).1))])
  
   have hm := tok_hit hI2 (by assumption) (by assumption)
   have hg := gI_toks hI2.1 (l := c.tokens) (by assumption)
   have hop : (gI c.tokens i2).2.op ≠ 2 := (by (have z : (gI (toksR c.tokens) i2).op ≠ 2 := by assumption); rw [hg] at z; exact z)
   exact hK _ (updateD_5 (by omega) hs0 hb0 hm hop) H av hTH _
  replace h7 : (gI (toksR c.tokens) i2).op = 2 := (eq_of_beq (bnF h7))
  refine awp_skip ?_
  refine hK12 _ _ ?_; clear hK12
  refine rS [] [12, 13] (by decide) ?_
  intro K1 hK1
  refine ⟨tv, tv, ⟨rfl, by decide⟩, ?_⟩
  refine aL rfl (v := sF ((toksR c.tokens).map dn3AV)) rfl (wG 1 hNb1 rfl) rfl (aO rfl rfl (nB rfl)) rfl ?_
  refine ⟨tv, ?_⟩
  refine ar_index rfl dn3AV (toksR c.tokens) i2 rfl rfl rfl rfl rfl (by decide) (fun _ => rfl) (by omega) (by omega) ?_
  refine ⟨⟨rfl, by decide, (nB rfl)⟩, (aO rfl rfl (nB rfl)), tv, tv, ?_⟩
  show K1 [(12, iT ((gI (toksR c.tokens) i2).id)), (13, iT 0)] (mW (mW m H) [(b1, vObj v), (r, .cells [pT e, av, sT ((toksR c.tokens).map dn3AV), iT c.next, iT c.quota, iT (c.calls + 1), sT (F.map intAV)]), (e, zR ((stepF s).1))])
  refine hK1 _ _ ?_; clear hK1 K1
  refine awp_ret ?_
  refine ⟨tv, tv, (mW (mW m H) [(r, .cells [pT e, av, sT ((toksR c.tokens).map dn3AV), iT c.next, iT c.quota, iT (c.calls + 1), sT (F.map intAV)]), (e, zR ((stepF s).1))]), (wth_keep (m := (mW m H)) (L := [(b1, vObj v), (r, .cells [pT e, av, sT ((toksR c.tokens).map dn3AV), iT c.next, iT c.quota, iT (c.calls + 1), sT (F.map intAV)]), (e, zR ((stepF s).1))]) (L1 := [(r, .cells [pT e, av, sT ((toksR c.tokens).map dn3AV), iT c.next, iT c.quota, iT (c.calls + 1), sT (F.map intAV)]), (e, zR ((stepF s).1))]) (L2 := [(b1, vObj v)]) hNb1 (pick_perm [1, 1] _) (by simp only [List.map_cons, List.map_nil, List.forall_mem_cons]; exact ⟨hFb1, nfA⟩)), ?_⟩
  show K (.tuple [iT ((gI (toksR c.tokens) i2).id), iT 0]) (AMem.wth (AMem.wth m H) [(r, .cells [pT e, av, sT ((toksR c.tokens).map dn3AV), iT c.next, iT c.quota, iT (c.calls + 1), sT (F.map intAV)]), (e, zR ((stepF s).1))])
 
  have hm := tok_hit hI2 (by assumption) (by assumption)
  have hg := gI_toks hI2.1 (l := c.tokens) (by assumption)
  have hop : (gI c.tokens i2).2.op = 2 := (by (have z : (gI (toksR c.tokens) i2).op = 2 := by assumption); rw [hg] at z; exact z)
  exact hK _ (updateD_6 (by omega) hs0 hb0 hm hop) H av hTH _
 replace h5 : ((toksR c.tokens).length : Int) ≤ i2 := (Int.not_lt.1 (of_decide_eq_false h5))
 refine awp_exit ?_
 refine hK8 _ _ ?_; clear hK8
 have htk0 : mget c.tokens token = none := tok_end hI2 (by assumption)
 refine rS [] [0, 1, 2, 3, 4, 11, 20] (by decide) ?_
 intro K1 hK1
 refine ⟨tv, tv, ?_⟩
 have hD1 : ∀ cz ∈ ([b1, r, e] : List Nat), cz ∉ List.map Prod.fst H := by simp only [List.forall_mem_cons]; exact ⟨hid_nin (m := m) hFb1, hTH.nin (by simp), hTH.nin (by simp), nfA⟩
 have hTc1 : HidR _ (mW m _) [r] H _ _ := HidR.call (L := [(b1, vObj v), (r, .cells [pT e, av, sT ((toksR c.tokens).map dn3AV), iT c.next, iT c.quota, iT (c.calls + 1), sT (F.map intAV)]), (e, zR ((stepF s).1))]) hTH (pick_perm [1] _) hD1
 refine ar_mem (hid_call (m := m) (H := H) (L := [(b1, vObj v), (r, .cells [pT e, av, sT ((toksR c.tokens).map dn3AV), iT c.next, iT c.quota, iT (c.calls + 1), sT (F.map intAV)]), (e, zR ((stepF s).1))]) hNb1 (pick_perm [1] _) hTH.nd hD1) ?_
 refine u_place r e ({ c with calls := c.calls + 1 } : ClSt) F id hTc1 (by simp) (by rw [vals_len]; exact htl) _ ?_
 refine ar_mem (hid_call (m := m) (H := H) (L := [(b1, vObj v), (r, .cells [pT e, av, sT ((toksR c.tokens).map dn3AV), iT c.next, iT c.quota, iT (c.calls + 1), sT (F.map intAV)]), (e, zR ((stepF s).1))]) hNb1 (pick_perm [1] _) hTH.nd hD1).symm ?_
 refine ⟨tv, ?_⟩
 show K1 [(0, pT r), (1, iT 2), (2, .str token), (3, .str kind), (4, iT id), (11, pT b1), (20, iT (placeR (vals c) id))] (mW (mW m H) [(b1, vObj v), (r, .cells [pT e, av, sT ((toksR c.tokens).map dn3AV), iT c.next, iT c.quota, iT (c.calls + 1), sT (F.map intAV)]), (e, zR ((stepF s).1))])
 refine hK1 _ _ ?_; clear hK1 K1
 refine sK ?_; intro K13 hK13
 refine rS [] [0, 1, 2, 3, 4, 11, 20, 113] (by decide) ?_
 intro K1 hK1
 refine ⟨tv, ?_⟩
 show K1 [(0, pT r), (1, iT 2), (2, .str token), (3, .str kind), (4, iT id), (11, pT b1), (20, iT (placeR (vals c) id)), (113, iT 2)] _
 refine hK1 _ _ ?_; clear hK1 K1
 refine awp_block ?_
 refine rS [] [0, 1, 2, 3, 4, 11, 20, 113, 114] (by decide) ?_
 intro K1 hK1
 refine ⟨tv, tv, ?_⟩
 show K1 [(0, pT r), (1, iT 2), (2, .str token), (3, .str kind), (4, iT id), (11, pT b1), (20, iT (placeR (vals c) id)), (113, iT 2), (114, .bool false)] _
 refine hK1 _ _ ?_; clear hK1 K1
 refine cD rfl rfl (fun hcz => ?_) (fun hcz => ?_)
 ·
  cases hcz
 clear hcz
 refine rS [] [0, 1, 2, 4, 11, 20, 113, 150] (by decide) ?_
 intro K1 hK1
 refine ⟨tv, tv, ?_⟩
 show K1 [(0, pT r), (1, iT 2), (2, .str token), (4, iT id), (11, pT b1), (20, iT (placeR (vals c) id)), (113, iT 2), (150, .bool true)] (mW (mW m H) [(b1, vObj v), (r, .cells [pT e, av, sT ((toksR c.tokens).map dn3AV), iT c.next, iT c.quota, iT (c.calls + 1), sT (F.map intAV)]), (e, zR ((stepF s).1))])
 refine hK1 _ _ ?_; clear hK1 K1
 refine cD rfl rfl (fun hcz => ?_) (fun hcz => ?_)
 rotate_left; · cases hcz
 clear hcz
 refine sK ?_; intro K14 hK14
 refine rS [] [0, 1, 2, 4, 11, 20, 153] (by decide) ?_
 intro K1 hK1
 refine ⟨tv, tv, ?_⟩
 show K1 [(0, pT r), (1, iT 2), (2, .str token), (4, iT id), (11, pT b1), (20, iT (placeR (vals c) id)), (153, .bool (decide (placeR (vals c) id < 0)))] _
 refine hK1 _ _ ?_; clear hK1 K1
 refine cD rfl rfl (fun h8 => ?_) (fun h8 => ?_)
 ·
  replace h8 : placeR (vals c) id < 0 := (of_decide_eq_true h8)
  refine rS [] [12, 13] (by decide) ?_
  intro K1 hK1
  refine ⟨tv, tv, ?_⟩
  show K1 [(12, iT 0), (13, iT 7)] (mW (mW m H) [(b1, vObj v), (r, .cells [pT e, av, sT ((toksR c.tokens).map dn3AV), iT c.next, iT c.quota, iT (c.calls + 1), sT (F.map intAV)]), (e, zR ((stepF s).1))])
  refine hK1 _ _ ?_; clear hK1 K1
  refine awp_ret ?_
  refine ⟨tv, tv, (mW (mW m H) [(r, .cells [pT e, av, sT ((toksR c.tokens).map dn3AV), iT c.next, iT c.quota, iT (c.calls + 1), sT (F.map intAV)]), (e, zR ((stepF s).1))]), (wth_keep (m := (mW m H)) (L := [(b1, vObj v), (r, .cells [pT e, av, sT ((toksR c.tokens).map dn3AV), iT c.next, iT c.quota, iT (c.calls + 1), sT (F.map intAV)]), (e, zR ((stepF s).1))]) (L1 := [(r, .cells [pT e, av, sT ((toksR c.tokens).map dn3AV), iT c.next, iT c.quota, iT (c.calls + 1), sT (F.map intAV)]), (e, zR ((stepF s).1))]) (L2 := [(b1, vObj v)]) hNb1 (pick_perm [1, 1] _) (by simp only [List.map_cons, List.map_nil, List.forall_mem_cons]; exact ⟨hFb1, nfA⟩)), ?_⟩
  show K (.tuple [iT 0, iT 7]) (AMem.wth (AMem.wth m H) [(r, .cells [pT e, av, sT ((toksR c.tokens).map dn3AV), iT c.next, iT c.quota, iT (c.calls + 1), sT (F.map intAV)]), (e, zR ((stepF s).1))])
 
  exact hK _ (updateD_7 (by omega) hs0 hb0 htk0 (by rw [hpa.elim (fun z => z.2) (fun z => absurd z.1 (by omega))]; rfl)) H av hTH _
 replace h8 : 0 ≤ placeR (vals c) id := (Int.not_lt.1 (of_decide_eq_false h8))
 refine awp_skip ?_
 refine hK14 _ _ ?_; clear hK14
 have hpb := hpa.resolve_left (fun z => by omega)
 obtain ⟨b, zs, hH, hav, hk, hv⟩ := hTH.sh.resolve_left (fun z => by have z2 := hpb.2.1; rw [show vals c = [] from z.2.2] at z2; have z3 := hpb.1; rw [show vals c = [] from z.2.2] at z3; simp at z2; omega)
 subst hH
 subst hav
 have n1 := hid_nin (m := m) hFb1
 have n2 := hTH.nin (c := r) (by simp)
 have n3 := hTH.nin (c := e) (by simp)
 have hNx : ([b1, r, e, b] : List Nat).Nodup := by simp at hNb1 n1 n2 n3 ⊢; omega
 have hbz : m b = none := hTH.out b (by simp)
 have hF1z : m b1 = none := hid_base (m := m) hFb1
 show AWP _ _ _ _ [(0, pT r), (1, iT 2), (2, .str token), (4, iT id), (11, pT b1), (20, iT (placeR (vals c) id)), (153, .bool (decide (placeR (vals c) id < 0)))] (mW m [(b1, vObj v), (r, .cells [pT e, .ms ⟨b, 0, none⟩ ((vals c).length) zs.length, sT ((toksR c.tokens).map dn3AV), iT c.next, iT c.quota, iT (c.calls + 1), sT (F.map intAV)]), (e, zR ((stepF s).1)), (b, .cells (flatK thgAV zs))])
 refine awp_draw_tail2 Try.mixed 8 [] [] [] [0, 1, 2, 4] (by decide) (by decide) ?_
 intro K1 hK1
 refine ⟨tv, tv, ⟨rfl, by decide⟩, ?_⟩
 refine pq_loadp rfl (v := .ms ⟨b, 0, none⟩ ((vals c).length) zs.length) rfl (wG 1 hNx rfl) (aO rfl rfl (nB rfl)) rfl ?_
 refine ⟨tv, ?_⟩
 refine pq_loadp rfl (v := .agg [iT v.kind, iT v.n, .str v.s, sF (v.l.map valIn), sF (v.f.map fldIn)]) rfl (wG 0 hNx rfl) (apartOk_agg rfl rfl (nB rfl)) rfl ?_
 refine ⟨⟨rfl, (by omega), (by omega)⟩, ⟨rfl, by decide⟩, ?_⟩
 show aopsR _ _ _ _ _ [(161, .ptr ⟨b, 0 + (placeR (vals c) id).toNat * Try.prog.cellsOf 80 + 2, none⟩), (160, .ptr ⟨b, 0 + (placeR (vals c) id).toNat * Try.prog.cellsOf 80, none⟩), (159, .agg [iT v.kind, iT v.n, .str v.s, sF (v.l.map valIn), sF (v.f.map fldIn)]), (158, iT (placeR (vals c) id)), (157, .ms ⟨b, 0, none⟩ ((vals c).length) zs.length), (156, .ptr ⟨r, 1, none⟩), (155, pT r), (154, pT r), (0, pT r), (1, iT 2), (2, .str token), (4, iT id), (11, pT b1), (20, iT (placeR (vals c) id)), (153, .bool (decide (placeR (vals c) id < 0)))] _
 refine ar_storek rfl 3 (m := m) (L := [(b1, vObj v), (r, .cells [pT e, .ms ⟨b, 0, none⟩ ((vals c).length) zs.length, sT ((toksR c.tokens).map dn3AV), iT c.next, iT c.quota, iT (c.calls + 1), sT (F.map intAV)]), (e, zR ((stepF s).1)), (b, .cells (flatK thgAV zs))]) thgAV zs (⟨(gI zs (placeR (vals c) id)).id, (gI zs (placeR (vals c) id)).kind, v⟩ : Thg) (placeR (vals c) id) 2 (v := .agg [iT v.kind, iT v.n, .str v.s, sF (v.l.map valIn), sF (v.f.map fldIn)]) rfl (by show 0 + (placeR (vals c) id).toNat * 7 + 2 = (placeR (vals c) id).toNat * 7 + 2; omega) rfl hNx rfl (fun _ => rfl) rfl rfl rfl rfl (nB rfl) rfl (by omega) (by omega) ?_
 show K1 [(0, pT r), (1, iT 2), (2, .str token), (4, iT id)] (mW m [(b1, vObj v), (r, .cells [pT e, .ms ⟨b, 0, none⟩ ((vals c).length) zs.length, sT ((toksR c.tokens).map dn3AV), iT c.next, iT c.quota, iT (c.calls + 1), sT (F.map intAV)]), (e, zR ((stepF s).1)), (b, .cells (flatK thgAV (zs.set (placeR (vals c) id).toNat (⟨(gI zs (placeR (vals c) id)).id, (gI zs (placeR (vals c) id)).kind, v⟩ : Thg))))])
 refine hK1 _ _ ?_; clear hK1 K1
 refine hK13 _ _ ?_; clear hK13
 refine rS [173] [4] (by decide) ?_
 intro K1 hK1
 refine ⟨tv, tv, tv, ⟨rfl, by decide⟩, ?_⟩
 refine ar_loads rfl (i := 1) rfl hNx rfl rfl rfl rfl (nB rfl) ?_
 refine ⟨tv, tv, tv, ⟨rfl, by simp only [List.forall_mem_cons]; exact ⟨rfl, rfl, rfl, nfA⟩, by simp only [List.forall_mem_cons]; exact ⟨rfl, rfl, rfl, nfA⟩⟩, ⟨rfl, nB rfl, rfl, nB rfl, rfl, by simp only [List.forall_mem_cons]; exact ⟨⟨rfl, rfl⟩, nfA⟩⟩, ?_⟩
 refine ar_append rfl dn3AV (toksR c.tokens) ([(⟨token, 2, id⟩ : Dn3)] : List Dn3) rfl rfl rfl rfl rfl rfl (nB rfl) rfl (by (simp only [show Try.prog.bytesOf 140 = 32 from rfl, List.length_append, List.length_cons, List.length_nil]; omega)) (by (first | omega | (simp only [List.length_append, List.length_cons, List.length_nil]; omega))) (fun _ => ⟨rfl, rfl⟩) ?_
 refine ⟨tv, ⟨rfl, by decide⟩, ?_⟩
 refine aS rfl 1 (v := sT (((toksR c.tokens) ++ ([(⟨token, 2, id⟩ : Dn3)] : List Dn3)).map dn3AV)) (l' := [pT e, .ms ⟨b, 0, none⟩ ((vals c).length) zs.length, sT (((toksR c.tokens) ++ ([(⟨token, 2, id⟩ : Dn3)] : List Dn3)).map dn3AV), iT c.next, iT c.quota, iT (c.calls + 1), sT (F.map intAV)]) rfl rfl hNx rfl rfl rfl rfl rfl (nB rfl) rfl ?_
 show K1 [(4, iT id)] (mW m [(b1, vObj v), (r, .cells [pT e, .ms ⟨b, 0, none⟩ ((vals c).length) zs.length, sT (((toksR c.tokens) ++ ([(⟨token, 2, id⟩ : Dn3)] : List Dn3)).map dn3AV), iT c.next, iT c.quota, iT (c.calls + 1), sT (F.map intAV)]), (e, zR ((stepF s).1)), (b, .cells (flatK thgAV (zs.set (placeR (vals c) id).toNat (⟨(gI zs (placeR (vals c) id)).id, (gI zs (placeR (vals c) id)).kind, v⟩ : Thg))))])
 refine hK1 _ _ ?_; clear hK1 K1
 refine rS [] [12, 13] (by decide) ?_
 intro K1 hK1
 refine ⟨tv, tv, tv, ?_⟩
 show K1 [(12, iT id), (13, iT 0)] _
 refine hK1 _ _ ?_; clear hK1 K1
 refine awp_ret ?_
 refine ⟨tv, tv, (mW m [(r, .cells [pT e, .ms ⟨b, 0, none⟩ ((vals c).length) zs.length, sT (((toksR c.tokens) ++ ([(⟨token, 2, id⟩ : Dn3)] : List Dn3)).map dn3AV), iT c.next, iT c.quota, iT (c.calls + 1), sT (F.map intAV)]), (e, zR ((stepF s).1)), (b, .cells (flatK thgAV (zs.set (placeR (vals c) id).toNat (⟨(gI zs (placeR (vals c) id)).id, (gI zs (placeR (vals c) id)).kind, v⟩ : Thg))))]), (wth_keep (m := m) (L := [(b1, vObj v), (r, .cells [pT e, .ms ⟨b, 0, none⟩ ((vals c).length) zs.length, sT (((toksR c.tokens) ++ ([(⟨token, 2, id⟩ : Dn3)] : List Dn3)).map dn3AV), iT c.next, iT c.quota, iT (c.calls + 1), sT (F.map intAV)]), (e, zR ((stepF s).1)), (b, .cells (flatK thgAV (zs.set (placeR (vals c) id).toNat (⟨(gI zs (placeR (vals c) id)).id, (gI zs (placeR (vals c) id)).kind, v⟩ : Thg))))]) (L1 := [(r, .cells [pT e, .ms ⟨b, 0, none⟩ ((vals c).length) zs.length, sT (((toksR c.tokens) ++ ([(⟨token, 2, id⟩ : Dn3)] : List Dn3)).map dn3AV), iT c.next, iT c.quota, iT (c.calls + 1), sT (F.map intAV)]), (e, zR ((stepF s).1)), (b, .cells (flatK thgAV (zs.set (placeR (vals c) id).toNat (⟨(gI zs (placeR (vals c) id)).id, (gI zs (placeR (vals c) id)).kind, v⟩ : Thg))))]) (L2 := [(b1, vObj v)]) hNx (pick_perm [1, 1, 1] _) (by simp only [List.map_cons, List.map_nil, List.forall_mem_cons]; exact ⟨hF1z, nfA⟩)), ?_⟩
 show K (.tuple [iT id, iT 0]) (AMem.wth m [(r, .cells [pT e, .ms ⟨b, 0, none⟩ ((vals c).length) zs.length, sT (((toksR c.tokens) ++ ([(⟨token, 2, id⟩ : Dn3)] : List Dn3)).map dn3AV), iT c.next, iT c.quota, iT (c.calls + 1), sT (F.map intAV)]), (e, zR ((stepF s).1)), (b, .cells (flatK thgAV (zs.set (placeR (vals c) id).toNat (⟨(gI zs (placeR (vals c) id)).id, (gI zs (placeR (vals c) id)).kind, v⟩ : Thg))))])
 have hT8 : HidR thgAV m [r, e] [(b, .cells (flatK thgAV (zs.set (placeR (vals c) id).toNat (⟨(gI zs (placeR (vals c) id)).id, (gI zs (placeR (vals c) id)).kind, v⟩ : Thg))))] (.ms ⟨b, 0, none⟩ (vals c).length zs.length) (vals (updateR c s token id v).1.1) := by
  rw [updateD_8 (by omega) hs0 hb0 htk0 (by rw [hpb.2.2.1]; rfl)]
  refine hid_drop_row hTH hk (by simp) ?_
  show _ = (mput c.things id _).map Prod.snd
  rw [hpb.2.2.2, List.take_set, hv, hpb.2.2.1, ← gI_takeK zs hpb.1 hpb.2.1, hv]; rfl
 rw [updateD_8 (by omega) hs0 hb0 htk0 (by rw [hpb.2.2.1]; rfl)] at hT8
 have h8 := hK _ (updateD_8 (by omega) hs0 hb0 htk0 (by rw [hpb.2.2.1]; rfl)) _ _ hT8 id
 exact Eq.mp (cgA (fun o => K (.tuple [iT id, iT 0]) ((m.wth [(b, .cells (flatK thgAV (zs.set (placeR (vals c) id).toNat (⟨(gI zs (placeR (vals c) id)).id, (gI zs (placeR (vals c) id)).kind, v⟩ : Thg))))]).wth [(r, o), (e, rObj (rT q (stepF s).1))])) (rcObj_put htk0 _ _ _)) h8
set_option maxHeartbeats 8000000 in
theorem u_Do3 (r e : Nat) (q : RSt) (s : DSt) (c : ClSt) (F : List Int) (token kind : Str) (id : Int) (v : Val) (N : Nat) (H : List (Nat × AObj)) (av : AV) (hN : [r, e].Nodup) (hids : ∀ p ∈ c.things, p.2.id = p.1) (hn : (c.things.map Prod.fst).Nodup) (hT : Two s q N) (hNN : N ≤ 200) (hB : depV v ≤ 1000000000000) (hfr : (mget c.fails c.calls).getD false = true ↔ c.calls ∈ F) (hca : 0 ≤ c.calls) (hca2 : c.calls ≤ 1000000) (hnx : 0 ≤ c.next) (hnx2 : c.next ≤ 1000000) (htl : c.things.length ≤ 1000000) (hol : c.tokens.length ≤ 1000000) (hFl : F.length ≤ 1000000) (m : AMem) (hTH : HidR thgAV m [r, e] H av (vals c)) (K : AV → AMem → Prop) (hK : ∀ r0, deleteR c s token id = r0 → ∀ H' av', HidR thgAV m [r, e] H' av' (vals r0.1.1) → ∀ x : Int, K (.tuple [iT x, iT r0.2]) ((m.wth H').wth [(r, rcObj e av' r0.1.1 F), (e, rObj (rT q r0.1.2))])) : ACalls Try.prog 49 [pT r, iT 3, .str token, .str kind, iT id, valTop v] (mW (mW m H) [(r, rcObj e av c F), (e, zR s)]) K := by
 have hae := attrE_nn v
 have htkl : (toksR c.tokens).length ≤ 1000000 := by rw [toksR_len]; exact hol
 have hpa := place_at hids id
 refine acalls_enter Try.func49 rfl (by decide) (nB rfl) ?_
 show AWP _ _ _ _ [(0, pT r), (1, iT 3), (2, .str token), (3, .str kind), (4, iT id), (5, valTop v)] (mW (mW m H) [(r, rcObj e av c F), (e, zR s)])
 refine rS [] [0, 1, 2, 3, 4, 11] (by decide) ?_
 intro K1 hK1
 refine ar_box rfl (m := (mW m H)) (L := [(r, rcObj e av c F), (e, zR s)]) (v := valTop v) (by rfl) rfl ?_
 intro b1 hb1
 have hFb1 : (mW m H) b1 = none := wth_none hb1
 have hNb1 : ([b1, r, e] : List Nat).Nodup := wth_nodup hb1 hN
 refine ⟨tv, tv, ?_⟩
 show K1 [(0, pT r), (1, iT 3), (2, .str token), (3, .str kind), (4, iT id), (11, pT b1)] (mW (mW m H) [(b1, vObj v), (r, rcObj e av c F), (e, zR s)])
 refine hK1 _ _ ?_; clear hK1 K1
 refine sK ?_; intro K2 hK2
 refine rS [] [0, 1, 2, 3, 4, 11, 22] (by decide) ?_
 intro K1 hK1
 refine ⟨tv, tv, ?_⟩
 show K1 [(0, pT r), (1, iT 3), (2, .str token), (3, .str kind), (4, iT id), (11, pT b1), (22, .bool false)] _
 refine hK1 _ _ ?_; clear hK1 K1
 refine cD rfl rfl (fun hcz => ?_) (fun hcz => ?_)
 ·
  cases hcz
 clear hcz
 refine awp_skip ?_
 refine hK2 _ _ ?_; clear hK2
 refine rS [] [0, 1, 2, 3, 4, 11, 15] (by decide) ?_
 intro K1 hK1
 refine ⟨tv, ?_⟩
 refine u_NameMay kind _ _ ?_
 refine ⟨tv, ?_⟩
 show K1 [(0, pT r), (1, iT 3), (2, .str token), (3, .str kind), (4, iT id), (11, pT b1), (15, .bool (nameV kind))] (mW (mW m H) [(b1, vObj v), (r, rcObj e av c F), (e, zR s)])
 refine hK1 _ _ ?_; clear hK1 K1
 refine sK ?_; intro K3 hK3
 refine rS [] [0, 1, 2, 3, 4, 11, 35] (by decide) ?_
 intro K1 hK1
 suffices key : K1 [(0, pT r), (1, iT 3), (2, .str token), (3, .str kind), (4, iT id), (11, pT b1), (35, .bool false)] (mW (mW m H) [(b1, vObj v), (r, rcObj e av c F), (e, zR s)]) by
  refine ⟨tv, tv, tv, ?_⟩
  refine ar_off rfl (ar_off rfl ?_)
  exact key
 refine hK1 _ _ ?_; clear hK1 K1
 refine cD rfl rfl (fun hcz => ?_) (fun hcz => ?_)
 ·
  cases hcz
 clear hcz
 refine awp_skip ?_
 refine hK3 _ _ ?_; clear hK3
 refine sK ?_; intro K4 hK4
 refine rS [] [0, 1, 2, 3, 4, 11, 16] (by decide) ?_
 intro K1 hK1
 refine ⟨tv, tv, ⟨rfl, by decide⟩, ?_⟩
 refine aL rfl (v := pT e) rfl (wG 1 hNb1 rfl) rfl (aO rfl rfl (nB rfl)) rfl ?_
 refine ar_mem (wS hNb1 (pick_perm [2] _)) ?_
 refine u_QStepC e hT hNN _ _ ?_
 refine ar_mem (wS (m := (mW m H)) (L := [(b1, vObj v), (r, rcObj e av c F), (e, zR ((stepF s).1))]) hNb1 (pick_perm [2] _)).symm ?_
 refine ⟨tv, ?_⟩
 show K1 [(0, pT r), (1, iT 3), (2, .str token), (3, .str kind), (4, iT id), (11, pT b1), (16, iT ((stepF s).2))] (mW (mW m H) [(b1, vObj v), (r, rcObj e av c F), (e, zR ((stepF s).1))])
 refine hK1 _ _ ?_; clear hK1 K1
 refine rS [] [0, 1, 2, 3, 4, 11, 16, 42] (by decide) ?_
 intro K1 hK1
 refine ⟨tv, tv, ?_⟩
 show K1 [(0, pT r), (1, iT 3), (2, .str token), (3, .str kind), (4, iT id), (11, pT b1), (16, iT ((stepF s).2)), (42, .bool (decide (0 < (stepF s).2)))] _
 refine hK1 _ _ ?_; clear hK1 K1
 refine cD rfl rfl (fun h1 => ?_) (fun h1 => ?_)
 ·
  replace h1 : 0 < (stepF s).2 := (of_decide_eq_true h1)
  refine rS [] [12, 13] (by decide) ?_
  intro K1 hK1
  refine ⟨tv, tv, tv, ?_⟩
  show K1 [(12, iT 0), (13, iT ((stepF s).2))] (mW (mW m H) [(b1, vObj v), (r, rcObj e av c F), (e, zR ((stepF s).1))])
  refine hK1 _ _ ?_; clear hK1 K1
  refine awp_ret ?_
  refine ⟨tv, tv, (mW (mW m H) [(r, rcObj e av c F), (e, zR ((stepF s).1))]), (wth_keep (m := (mW m H)) (L := [(b1, vObj v), (r, rcObj e av c F), (e, zR ((stepF s).1))]) (L1 := [(r, rcObj e av c F), (e, zR ((stepF s).1))]) (L2 := [(b1, vObj v)]) hNb1 (pick_perm [1, 1] _) (by simp only [List.map_cons, List.map_nil, List.forall_mem_cons]; exact ⟨hFb1, nfA⟩)), ?_⟩
  show K (.tuple [iT 0, iT ((stepF s).2)]) (AMem.wth (AMem.wth m H) [(r, rcObj e av c F), (e, zR ((stepF s).1))])
 
  exact hK _ (deleteD_3 (by omega)) H av hTH _
 replace h1 : (stepF s).2 ≤ 0 := (Int.not_lt.1 (of_decide_eq_false h1))
 refine awp_skip ?_
 refine hK4 _ _ ?_; clear hK4
 have hs0 : (stepF s).2 = 0 := by have := (stepF_keep s).2.2.2; omega
 refine rS [] [0, 1, 2, 3, 4, 11, 17] (by decide) ?_
 intro K1 hK1
 refine ⟨tv, tv, ⟨rfl, by decide⟩, ?_⟩
 refine aL rfl (v := iT c.calls) rfl (wG 1 hNb1 rfl) rfl (aO rfl rfl (nB rfl)) rfl ?_
 refine ⟨tv, ?_⟩
 show K1 [(0, pT r), (1, iT 3), (2, .str token), (3, .str kind), (4, iT id), (11, pT b1), (17, iT c.calls)] (mW (mW m H) [(b1, vObj v), (r, rcObj e av c F), (e, zR ((stepF s).1))])
 refine hK1 _ _ ?_; clear hK1 K1
 refine rS [] [0, 1, 2, 3, 4, 11, 17] (by decide) ?_
 intro K1 hK1
 refine ⟨tv, tv, ⟨rfl, by decide⟩, ?_⟩
 refine aL rfl (v := iT c.calls) rfl (wG 1 hNb1 rfl) rfl (aO rfl rfl (nB rfl)) rfl ?_
 refine ar_add rfl (a := c.calls) (b := 1) rfl rfl (by omega) (by omega) ?_
 refine ⟨tv, ⟨rfl, by decide⟩, ?_⟩
 refine aS rfl 1 (v := iT (c.calls + 1)) (l' := [pT e, av, sT ((toksR c.tokens).map dn3AV), iT c.next, iT c.quota, iT (c.calls + 1), sT (F.map intAV)]) rfl rfl hNb1 rfl rfl rfl rfl rfl (nB rfl) rfl ?_
 show K1 [(0, pT r), (1, iT 3), (2, .str token), (3, .str kind), (4, iT id), (11, pT b1), (17, iT c.calls)] (mW (mW m H) [(b1, vObj v), (r, .cells [pT e, av, sT ((toksR c.tokens).map dn3AV), iT c.next, iT c.quota, iT (c.calls + 1), sT (F.map intAV)]), (e, zR ((stepF s).1))])
 refine hK1 _ _ ?_; clear hK1 K1
 refine sK ?_; intro K5 hK5
 refine rS [] [0, 1, 2, 3, 4, 11, 17, 18] (by decide) ?_
 intro K1 hK1
 refine ⟨tv, ?_⟩
 show K1 [(0, pT r), (1, iT 3), (2, .str token), (3, .str kind), (4, iT id), (11, pT b1), (17, iT c.calls), (18, iT 0)] _
 refine hK1 _ _ ?_; clear hK1 K1
 refine awp_block ?_
 refine awp_keep [0, 1, 2, 3, 4, 11, 17, 18] (by decide) ?_
 refine awp_loop_st (σ := Int) (fun i => [(0, pT r), (1, iT 3), (2, .str token), (3, .str kind), (4, iT id), (11, pT b1), (17, iT c.calls), (18, iT i)]) (fun _ => (mW (mW m H) [(b1, vObj v), (r, .cells [pT e, av, sT ((toksR c.tokens).map dn3AV), iT c.next, iT c.quota, iT (c.calls + 1), sT (F.map intAV)]), (e, zR ((stepF s).1))])) (fun i => 0 ≤ i ∧ i ≤ F.length ∧ ∀ x ∈ F.take i.toNat, x ≠ c.calls) (fun i => F.length - i.toNat) (0) rfl rfl ?_ ?_
 ·
  show 0 ≤ ((0 : Int)) ∧ ((0 : Int)) ≤ F.length ∧ ∀ x ∈ F.take ((0 : Int)).toNat, x ≠ c.calls
  exact ⟨by omega, by omega, fun x hx => by simp at hx⟩
 rintro i hI
 replace hI : 0 ≤ i ∧ i ≤ F.length ∧ ∀ x ∈ F.take i.toNat, x ≠ c.calls := hI
 show AWP _ _ _ _ [(0, pT r), (1, iT 3), (2, .str token), (3, .str kind), (4, iT id), (11, pT b1), (17, iT c.calls), (18, iT i)] (mW (mW m H) [(b1, vObj v), (r, .cells [pT e, av, sT ((toksR c.tokens).map dn3AV), iT c.next, iT c.quota, iT (c.calls + 1), sT (F.map intAV)]), (e, zR ((stepF s).1))])
 refine sK ?_; intro K6 hK6
 refine rS [] [0, 1, 2, 3, 4, 11, 17, 18, 61] (by decide) ?_
 intro K1 hK1
 refine ⟨tv, tv, tv, ⟨rfl, by decide⟩, ?_⟩
 refine aL rfl (v := sF (F.map intAV)) rfl (wG 1 hNb1 rfl) rfl (aO rfl rfl (nB rfl)) rfl ?_
 refine ar_len rfl intAV F rfl rfl rfl ?_
 refine ⟨tv, ?_⟩
 show K1 [(0, pT r), (1, iT 3), (2, .str token), (3, .str kind), (4, iT id), (11, pT b1), (17, iT c.calls), (18, iT i), (61, .bool (decide (i < (F.length : Int))))] _
 refine hK1 _ _ ?_; clear hK1 K1
 refine cD rfl rfl (fun h2 => ?_) (fun h2 => ?_)
 ·
  replace h2 : i < (F.length : Int) := (of_decide_eq_true h2)
  refine awp_skip ?_
  refine hK6 _ _ ?_; clear hK6
  refine sK ?_; intro K7 hK7
  refine awp_block ?_
  refine rS [] [0, 1, 2, 3, 4, 11, 17, 18, 72] (by decide) ?_
  intro K1 hK1
  refine ⟨tv, tv, ⟨rfl, by decide⟩, ?_⟩
  refine aL rfl (v := sF (F.map intAV)) rfl (wG 1 hNb1 rfl) rfl (aO rfl rfl (nB rfl)) rfl ?_
  refine ⟨tv, ?_⟩
  refine ar_index rfl intAV F i rfl rfl rfl rfl rfl (by decide) (fun _ => rfl) (by omega) (by omega) ?_
  refine ⟨(aO rfl rfl (nB rfl)), tv, tv, ?_⟩
  show K1 [(0, pT r), (1, iT 3), (2, .str token), (3, .str kind), (4, iT id), (11, pT b1), (17, iT c.calls), (18, iT i), (72, .bool ((gI F i) == c.calls))] (mW (mW m H) [(b1, vObj v), (r, .cells [pT e, av, sT ((toksR c.tokens).map dn3AV), iT c.next, iT c.quota, iT (c.calls + 1), sT (F.map intAV)]), (e, zR ((stepF s).1))])
  refine hK1 _ _ ?_; clear hK1 K1
  refine cD rfl rfl (fun h3 => ?_) (fun h3 => ?_)
  ·
   replace h3 : gI F i = c.calls := (eq_of_beq h3)
   refine rS [] [12, 13] (by decide) ?_
   intro K1 hK1
   refine ⟨tv, tv, ?_⟩
   show K1 [(12, iT 0), (13, iT 12)] (mW (mW m H) [(b1, vObj v), (r, .cells [pT e, av, sT ((toksR c.tokens).map dn3AV), iT c.next, iT c.quota, iT (c.calls + 1), sT (F.map intAV)]), (e, zR ((stepF s).1))])
   refine hK1 _ _ ?_; clear hK1 K1
   refine awp_ret ?_
   refine ⟨tv, tv, (mW (mW m H) [(r, .cells [pT e, av, sT ((toksR c.tokens).map dn3AV), iT c.next, iT c.quota, iT (c.calls + 1), sT (F.map intAV)]), (e, zR ((stepF s).1))]), (wth_keep (m := (mW m H)) (L := [(b1, vObj v), (r, .cells [pT e, av, sT ((toksR c.tokens).map dn3AV), iT c.next, iT c.quota, iT (c.calls + 1), sT (F.map intAV)]), (e, zR ((stepF s).1))]) (L1 := [(r, .cells [pT e, av, sT ((toksR c.tokens).map dn3AV), iT c.next, iT c.quota, iT (c.calls + 1), sT (F.map intAV)]), (e, zR ((stepF s).1))]) (L2 := [(b1, vObj v)]) hNb1 (pick_perm [1, 1] _) (by simp only [List.map_cons, List.map_nil, List.forall_mem_cons]; exact ⟨hFb1, nfA⟩)), ?_⟩
   show K (.tuple [iT 0, iT 12]) (AMem.wth (AMem.wth m H) [(r, .cells [pT e, av, sT ((toksR c.tokens).map dn3AV), iT c.next, iT c.quota, iT (c.calls + 1), sT (F.map intAV)]), (e, zR ((stepF s).1))])
  
   have z3 := gI_mem (l := F) hI.1 (by assumption)
   have z4 : gI F i = c.calls := by assumption
   rw [z4] at z3
   exact hK _ (deleteD_4 hs0 (hfr.2 z3)) H av hTH _
  replace h3 : gI F i ≠ c.calls := (ne_of_beq_false h3)
  refine awp_skip ?_
  refine hK7 _ _ ?_; clear hK7
  refine awp_reg2 [] [0, 1, 2, 3, 4, 11, 17, 18] (by decide) ?_
  intro K1 hK1
  refine ⟨tv, ?_⟩
  refine ar_add rfl (a := i) (b := 1) rfl rfl (by omega) (by omega) ?_
  refine ⟨tv, ?_⟩
  show K1 [(0, pT r), (1, iT 3), (2, .str token), (3, .str kind), (4, iT id), (11, pT b1), (17, iT c.calls), (18, iT (i + 1))] (mW (mW m H) [(b1, vObj v), (r, .cells [pT e, av, sT ((toksR c.tokens).map dn3AV), iT c.next, iT c.quota, iT (c.calls + 1), sT (F.map intAV)]), (e, zR ((stepF s).1))])
  refine hK1 _ _ ?_; clear hK1 K1
  refine ⟨(i + 1), rfl, rfl, ?_, ?_⟩
  ·
   show 0 ≤ ((i + 1 : Int)) ∧ ((i + 1 : Int)) ≤ F.length ∧ ∀ x ∈ F.take ((i + 1 : Int)).toNat, x ≠ c.calls
   refine ⟨by omega, by omega, fun x hx => ?_⟩
   rw [take_succ_gI hI.1 (by assumption), List.mem_append] at hx
   rcases hx with hx | hx
   ·
    exact hI.2.2 x hx
   ·
    simp at hx; subst hx; assumption
  ·
   show F.length - ((i + 1 : Int)).toNat < F.length - i.toNat
   omega
 replace h2 : (F.length : Int) ≤ i := (Int.not_lt.1 (of_decide_eq_false h2))
 refine awp_exit ?_
 refine hK5 _ _ ?_; clear hK5
 refine sK ?_; intro K8 hK8
 have hb0 : (mget c.fails c.calls).getD false = false := by
  rw [Bool.eq_false_iff]; intro z
  have z2 := hfr.1 z
  rw [take_full (by assumption)] at hI
  exact hI.2.2 _ z2 rfl
 refine rS [] [0, 1, 2, 3, 4, 11, 19] (by decide) ?_
 intro K1 hK1
 refine ⟨tv, ?_⟩
 show K1 [(0, pT r), (1, iT 3), (2, .str token), (3, .str kind), (4, iT id), (11, pT b1), (19, iT 0)] (mW (mW m H) [(b1, vObj v), (r, .cells [pT e, av, sT ((toksR c.tokens).map dn3AV), iT c.next, iT c.quota, iT (c.calls + 1), sT (F.map intAV)]), (e, zR ((stepF s).1))])
 refine hK1 _ _ ?_; clear hK1 K1
 refine awp_block ?_
 refine awp_keep [0, 1, 2, 3, 4, 11, 19] (by decide) ?_
 refine awp_loop_st (σ := Int) (fun i2 => [(0, pT r), (1, iT 3), (2, .str token), (3, .str kind), (4, iT id), (11, pT b1), (19, iT i2)]) (fun _ => (mW (mW m H) [(b1, vObj v), (r, .cells [pT e, av, sT ((toksR c.tokens).map dn3AV), iT c.next, iT c.quota, iT (c.calls + 1), sT (F.map intAV)]), (e, zR ((stepF s).1))])) (fun i2 => 0 ≤ i2 ∧ i2 ≤ (toksR c.tokens).length ∧ mget c.tokens token = mget (c.tokens.drop i2.toNat) token) (fun i2 => (toksR c.tokens).length - i2.toNat) (0) rfl rfl ?_ ?_
 ·
  show 0 ≤ ((0 : Int)) ∧ ((0 : Int)) ≤ (toksR c.tokens).length ∧ mget c.tokens token = mget (c.tokens.drop ((0 : Int)).toNat) token
  exact ⟨by omega, by omega, rfl⟩
 rintro i2 hI2
 replace hI2 : 0 ≤ i2 ∧ i2 ≤ (toksR c.tokens).length ∧ mget c.tokens token = mget (c.tokens.drop i2.toNat) token := hI2
 show AWP _ _ _ _ [(0, pT r), (1, iT 3), (2, .str token), (3, .str kind), (4, iT id), (11, pT b1), (19, iT i2)] (mW (mW m H) [(b1, vObj v), (r, .cells [pT e, av, sT ((toksR c.tokens).map dn3AV), iT c.next, iT c.quota, iT (c.calls + 1), sT (F.map intAV)]), (e, zR ((stepF s).1))])
 refine sK ?_; intro K9 hK9
 refine rS [] [0, 1, 2, 3, 4, 11, 19, 79] (by decide) ?_
 intro K1 hK1
 refine ⟨tv, tv, tv, ⟨rfl, by decide⟩, ?_⟩
 refine aL rfl (v := sF ((toksR c.tokens).map dn3AV)) rfl (wG 1 hNb1 rfl) rfl (aO rfl rfl (nB rfl)) rfl ?_
 refine ar_len rfl dn3AV (toksR c.tokens) rfl rfl rfl ?_
 refine ⟨tv, ?_⟩
 show K1 [(0, pT r), (1, iT 3), (2, .str token), (3, .str kind), (4, iT id), (11, pT b1), (19, iT i2), (79, .bool (decide (i2 < ((toksR c.tokens).length : Int))))] _
 refine hK1 _ _ ?_; clear hK1 K1
 refine cD rfl rfl (fun h4 => ?_) (fun h4 => ?_)
 ·
  replace h4 : i2 < ((toksR c.tokens).length : Int) := (of_decide_eq_true h4)
  refine awp_skip ?_
  refine hK9 _ _ ?_; clear hK9
  refine sK ?_; intro K10 hK10
  refine awp_block ?_
  refine sK ?_; intro K11 hK11
  refine rS [] [0, 1, 2, 3, 4, 11, 19, 91] (by decide) ?_
  intro K1 hK1
  refine ⟨tv, tv, ⟨rfl, by decide⟩, ?_⟩
  refine aL rfl (v := sF ((toksR c.tokens).map dn3AV)) rfl (wG 1 hNb1 rfl) rfl (aO rfl rfl (nB rfl)) rfl ?_
  refine ⟨tv, ?_⟩
  refine ar_index rfl dn3AV (toksR c.tokens) i2 rfl rfl rfl rfl rfl (by decide) (fun _ => rfl) (by omega) (by omega) ?_
  refine ⟨⟨rfl, by decide, (nB rfl)⟩, (aO rfl rfl (nB rfl)), tv, tv, ?_⟩
  show K1 [(0, pT r), (1, iT 3), (2, .str token), (3, .str kind), (4, iT id), (11, pT b1), (19, iT i2), (91, .bool (!(((gI (toksR c.tokens) i2).tok) == token)))] (mW (mW m H) [(b1, vObj v), (r, .cells [pT e, av, sT ((toksR c.tokens).map dn3AV), iT c.next, iT c.quota, iT (c.calls + 1), sT (F.map intAV)]), (e, zR ((stepF s).1))])
  refine hK1 _ _ ?_; clear hK1 K1
  refine cD rfl rfl (fun h5 => ?_) (fun h5 => ?_)
  ·
   replace h5 : (gI (toksR c.tokens) i2).tok ≠ token := (ne_of_beq_false (bnT h5))
   refine awp_exit ?_
   refine hK10 _ _ ?_; clear hK10
   refine awp_reg2 [] [0, 1, 2, 3, 4, 11, 19] (by decide) ?_
   intro K1 hK1
   refine ⟨tv, ?_⟩
   refine ar_add rfl (a := i2) (b := 1) rfl rfl (by omega) (by omega) ?_
   refine ⟨tv, ?_⟩
   show K1 [(0, pT r), (1, iT 3), (2, .str token), (3, .str kind), (4, iT id), (11, pT b1), (19, iT (i2 + 1))] (mW (mW m H) [(b1, vObj v), (r, .cells [pT e, av, sT ((toksR c.tokens).map dn3AV), iT c.next, iT c.quota, iT (c.calls + 1), sT (F.map intAV)]), (e, zR ((stepF s).1))])
   refine hK1 _ _ ?_; clear hK1 K1
   refine ⟨(i2 + 1), rfl, rfl, ?_, ?_⟩
   ·
    show 0 ≤ ((i2 + 1 : Int)) ∧ ((i2 + 1 : Int)) ≤ (toksR c.tokens).length ∧ mget c.tokens token = mget (c.tokens.drop ((i2 + 1 : Int)).toNat) token
    exact ⟨by omega, by omega, tok_miss hI2 (by assumption) (by assumption)⟩
   ·
    show (toksR c.tokens).length - ((i2 + 1 : Int)).toNat < (toksR c.tokens).length - i2.toNat
    omega
  replace h5 : (gI (toksR c.tokens) i2).tok = token := (eq_of_beq (bnF h5))
  refine awp_skip ?_
  refine hK11 _ _ ?_; clear hK11
  refine sK ?_; intro K12 hK12
  refine rS [] [0, 19, 101] (by decide) ?_
  intro K1 hK1
  refine ⟨tv, tv, ⟨rfl, by decide⟩, ?_⟩
  refine aL rfl (v := sF ((toksR c.tokens).map dn3AV)) rfl (wG 1 hNb1 rfl) rfl (aO rfl rfl (nB rfl)) rfl ?_
  refine ⟨tv, ?_⟩
  refine ar_index rfl dn3AV (toksR c.tokens) i2 rfl rfl rfl rfl rfl (by decide) (fun _ => rfl) (by omega) (by omega) ?_
  refine ⟨⟨rfl, by decide, (nB rfl)⟩, (aO rfl rfl (nB rfl)), tv, tv, ?_⟩
  show K1 [(0, pT r), (19, iT i2), (101, .bool (!(((gI (toksR c.tokens) i2).op) == 3)))] (mW (mW m H) [(b1, vObj v), (r, .cells [pT e, av, sT ((toksR c.tokens).map dn3AV), iT c.next, iT c.quota, iT (c.calls + 1), sT (F.map intAV)]), (e, zR ((stepF s).1))])
  refine hK1 _ _ ?_; clear hK1 K1
  refine cD rfl rfl (fun h6 => ?_) (fun h6 => ?_)
  ·
   replace h6 : (gI (toksR c.tokens) i2).op ≠ 3 := (ne_of_beq_false (bnT h6))
   refine rS [] [12, 13] (by decide) ?_
   intro K1 hK1
   refine ⟨tv, tv, ?_⟩
   show K1 [(12, iT 0), (13, iT 15)] (mW (mW m H) [(b1, vObj v), (r, .cells [pT e, av, sT ((toksR c.tokens).map dn3AV), iT c.next, iT c.quota, iT (c.calls + 1), sT (F.map intAV)]), (e, zR ((stepF s).1))])
   refine hK1 _ _ ?_; clear hK1 K1
   refine awp_ret ?_
   refine ⟨tv, tv, (mW (mW m H) [(r, .cells [pT e, av, sT ((toksR c.tokens).map dn3AV), iT c.next, iT c.quota, iT (c.calls + 1), sT (F.map intAV)]), (e, zR ((stepF s).1))]), (wth_keep (m := (mW m H)) (L := [(b1, vObj v), (r, .cells [pT e, av, sT ((toksR c.tokens).map dn3AV), iT c.next, iT c.quota, iT (c.calls + 1), sT (F.map intAV)]), (e, zR ((stepF s).1))]) (L1 := [(r, .cells [pT e, av, sT ((toksR c.tokens).map dn3AV), iT c.next, iT c.quota, iT (c.calls + 1), sT (F.map intAV)]), (e, zR ((stepF s).1))]) (L2 := [(b1, vObj v)]) hNb1 (pick_perm [1, 1] _) (by simp only [List.map_cons, List.map_nil, List.forall_mem_cons]; exact ⟨hFb1, nfA⟩)), ?_⟩
   show K (.tuple [iT 0, iT 15]) (AMem.wth (AMem.wth m H) [(r, .cells [pT e, av, sT ((toksR c.tokens).map dn3AV), iT c.next, iT c.quota, iT (c.calls + 1), sT (F.map intAV)]), (e, zR ((stepF s).1))])
  
   have hm := tok_hit hI2 (by assumption) (by assumption)
   have hg := gI_toks hI2.1 (l := c.tokens) (by assumption)
   have hop : (gI c.tokens i2).2.op ≠ 3 := (by (have z : (gI (toksR c.tokens) i2).op ≠ 3 := by assumption); rw [hg] at z; exact z)
   exact hK _ (deleteD_5 hs0 hb0 hm hop) H av hTH _
  replace h6 : (gI (toksR c.tokens) i2).op = 3 := (eq_of_beq (bnF h6))
  refine awp_skip ?_
  refine hK12 _ _ ?_; clear hK12
  refine rS [] [12, 13] (by decide) ?_
  intro K1 hK1
  refine ⟨tv, tv, ⟨rfl, by decide⟩, ?_⟩
  refine aL rfl (v := sF ((toksR c.tokens).map dn3AV)) rfl (wG 1 hNb1 rfl) rfl (aO rfl rfl (nB rfl)) rfl ?_
  refine ⟨tv, ?_⟩
  refine ar_index rfl dn3AV (toksR c.tokens) i2 rfl rfl rfl rfl rfl (by decide) (fun _ => rfl) (by omega) (by omega) ?_
  refine ⟨⟨rfl, by decide, (nB rfl)⟩, (aO rfl rfl (nB rfl)), tv, tv, ?_⟩
  show K1 [(12, iT ((gI (toksR c.tokens) i2).id)), (13, iT 0)] (mW (mW m H) [(b1, vObj v), (r, .cells [pT e, av, sT ((toksR c.tokens).map dn3AV), iT c.next, iT c.quota, iT (c.calls + 1), sT (F.map intAV)]), (e, zR ((stepF s).1))])
  refine hK1 _ _ ?_; clear hK1 K1
  refine awp_ret ?_
  refine ⟨tv, tv, (mW (mW m H) [(r, .cells [pT e, av, sT ((toksR c.tokens).map dn3AV), iT c.next, iT c.quota, iT (c.calls + 1), sT (F.map intAV)]), (e, zR ((stepF s).1))]), (wth_keep (m := (mW m H)) (L := [(b1, vObj v), (r, .cells [pT e, av, sT ((toksR c.tokens).map dn3AV), iT c.next, iT c.quota, iT (c.calls + 1), sT (F.map intAV)]), (e, zR ((stepF s).1))]) (L1 := [(r, .cells [pT e, av, sT ((toksR c.tokens).map dn3AV), iT c.next, iT c.quota, iT (c.calls + 1), sT (F.map intAV)]), (e, zR ((stepF s).1))]) (L2 := [(b1, vObj v)]) hNb1 (pick_perm [1, 1] _) (by simp only [List.map_cons, List.map_nil, List.forall_mem_cons]; exact ⟨hFb1, nfA⟩)), ?_⟩
  show K (.tuple [iT ((gI (toksR c.tokens) i2).id), iT 0]) (AMem.wth (AMem.wth m H) [(r, .cells [pT e, av, sT ((toksR c.tokens).map dn3AV), iT c.next, iT c.quota, iT (c.calls + 1), sT (F.map intAV)]), (e, zR ((stepF s).1))])
 
  have hm := tok_hit hI2 (by assumption) (by assumption)
  have hg := gI_toks hI2.1 (l := c.tokens) (by assumption)
  have hop : (gI c.tokens i2).2.op = 3 := (by (have z : (gI (toksR c.tokens) i2).op = 3 := by assumption); rw [hg] at z; exact z)
  exact hK _ (deleteD_6 hs0 hb0 hm hop) H av hTH _
 replace h4 : ((toksR c.tokens).length : Int) ≤ i2 := (Int.not_lt.1 (of_decide_eq_false h4))
 refine awp_exit ?_
 refine hK8 _ _ ?_; clear hK8
 have htk0 : mget c.tokens token = none := tok_end hI2 (by assumption)
 refine rS [] [0, 1, 2, 3, 4, 11, 20] (by decide) ?_
 intro K1 hK1
 refine ⟨tv, tv, ?_⟩
 have hD1 : ∀ cz ∈ ([b1, r, e] : List Nat), cz ∉ List.map Prod.fst H := by simp only [List.forall_mem_cons]; exact ⟨hid_nin (m := m) hFb1, hTH.nin (by simp), hTH.nin (by simp), nfA⟩
 have hTc1 : HidR _ (mW m _) [r] H _ _ := HidR.call (L := [(b1, vObj v), (r, .cells [pT e, av, sT ((toksR c.tokens).map dn3AV), iT c.next, iT c.quota, iT (c.calls + 1), sT (F.map intAV)]), (e, zR ((stepF s).1))]) hTH (pick_perm [1] _) hD1
 refine ar_mem (hid_call (m := m) (H := H) (L := [(b1, vObj v), (r, .cells [pT e, av, sT ((toksR c.tokens).map dn3AV), iT c.next, iT c.quota, iT (c.calls + 1), sT (F.map intAV)]), (e, zR ((stepF s).1))]) hNb1 (pick_perm [1] _) hTH.nd hD1) ?_
 refine u_place r e ({ c with calls := c.calls + 1 } : ClSt) F id hTc1 (by simp) (by rw [vals_len]; exact htl) _ ?_
 refine ar_mem (hid_call (m := m) (H := H) (L := [(b1, vObj v), (r, .cells [pT e, av, sT ((toksR c.tokens).map dn3AV), iT c.next, iT c.quota, iT (c.calls + 1), sT (F.map intAV)]), (e, zR ((stepF s).1))]) hNb1 (pick_perm [1] _) hTH.nd hD1).symm ?_
 refine ⟨tv, ?_⟩
 show K1 [(0, pT r), (1, iT 3), (2, .str token), (3, .str kind), (4, iT id), (11, pT b1), (20, iT (placeR (vals c) id))] (mW (mW m H) [(b1, vObj v), (r, .cells [pT e, av, sT ((toksR c.tokens).map dn3AV), iT c.next, iT c.quota, iT (c.calls + 1), sT (F.map intAV)]), (e, zR ((stepF s).1))])
 refine hK1 _ _ ?_; clear hK1 K1
 refine sK ?_; intro K13 hK13
 refine rS [] [0, 1, 2, 3, 4, 11, 20, 113] (by decide) ?_
 intro K1 hK1
 refine ⟨tv, ?_⟩
 show K1 [(0, pT r), (1, iT 3), (2, .str token), (3, .str kind), (4, iT id), (11, pT b1), (20, iT (placeR (vals c) id)), (113, iT 3)] _
 refine hK1 _ _ ?_; clear hK1 K1
 refine awp_block ?_
 refine rS [] [0, 1, 2, 3, 4, 11, 20, 113, 114] (by decide) ?_
 intro K1 hK1
 refine ⟨tv, tv, ?_⟩
 show K1 [(0, pT r), (1, iT 3), (2, .str token), (3, .str kind), (4, iT id), (11, pT b1), (20, iT (placeR (vals c) id)), (113, iT 3), (114, .bool false)] _
 refine hK1 _ _ ?_; clear hK1 K1
 refine cD rfl rfl (fun hcz => ?_) (fun hcz => ?_)
 ·
  cases hcz
 clear hcz
 refine rS [] [0, 1, 2, 4, 11, 20, 113, 150] (by decide) ?_
 intro K1 hK1
 refine ⟨tv, tv, ?_⟩
 show K1 [(0, pT r), (1, iT 3), (2, .str token), (4, iT id), (11, pT b1), (20, iT (placeR (vals c) id)), (113, iT 3), (150, .bool false)] (mW (mW m H) [(b1, vObj v), (r, .cells [pT e, av, sT ((toksR c.tokens).map dn3AV), iT c.next, iT c.quota, iT (c.calls + 1), sT (F.map intAV)]), (e, zR ((stepF s).1))])
 refine hK1 _ _ ?_; clear hK1 K1
 refine cD rfl rfl (fun hcz => ?_) (fun hcz => ?_)
 ·
  cases hcz
 clear hcz
 refine rS [] [0, 1, 2, 4, 20, 162] (by decide) ?_
 intro K1 hK1
 refine ⟨tv, tv, ?_⟩
 show K1 [(0, pT r), (1, iT 3), (2, .str token), (4, iT id), (20, iT (placeR (vals c) id)), (162, .bool true)] (mW (mW m H) [(b1, vObj v), (r, .cells [pT e, av, sT ((toksR c.tokens).map dn3AV), iT c.next, iT c.quota, iT (c.calls + 1), sT (F.map intAV)]), (e, zR ((stepF s).1))])
 refine hK1 _ _ ?_; clear hK1 K1
 refine cD rfl rfl (fun hcz => ?_) (fun hcz => ?_)
 rotate_left; · cases hcz
 clear hcz
 refine sK ?_; intro K14 hK14
 refine rS [] [0, 1, 2, 4, 165] (by decide) ?_
 intro K1 hK1
 refine ⟨tv, tv, ?_⟩
 show K1 [(0, pT r), (1, iT 3), (2, .str token), (4, iT id), (165, .bool (decide (placeR (vals c) id < 0)))] _
 refine hK1 _ _ ?_; clear hK1 K1
 refine cD rfl rfl (fun h7 => ?_) (fun h7 => ?_)
 ·
  replace h7 : placeR (vals c) id < 0 := (of_decide_eq_true h7)
  refine rS [] [12, 13] (by decide) ?_
  intro K1 hK1
  refine ⟨tv, tv, ?_⟩
  show K1 [(12, iT 0), (13, iT 7)] (mW (mW m H) [(b1, vObj v), (r, .cells [pT e, av, sT ((toksR c.tokens).map dn3AV), iT c.next, iT c.quota, iT (c.calls + 1), sT (F.map intAV)]), (e, zR ((stepF s).1))])
  refine hK1 _ _ ?_; clear hK1 K1
  refine awp_ret ?_
  refine ⟨tv, tv, (mW (mW m H) [(r, .cells [pT e, av, sT ((toksR c.tokens).map dn3AV), iT c.next, iT c.quota, iT (c.calls + 1), sT (F.map intAV)]), (e, zR ((stepF s).1))]), (wth_keep (m := (mW m H)) (L := [(b1, vObj v), (r, .cells [pT e, av, sT ((toksR c.tokens).map dn3AV), iT c.next, iT c.quota, iT (c.calls + 1), sT (F.map intAV)]), (e, zR ((stepF s).1))]) (L1 := [(r, .cells [pT e, av, sT ((toksR c.tokens).map dn3AV), iT c.next, iT c.quota, iT (c.calls + 1), sT (F.map intAV)]), (e, zR ((stepF s).1))]) (L2 := [(b1, vObj v)]) hNb1 (pick_perm [1, 1] _) (by simp only [List.map_cons, List.map_nil, List.forall_mem_cons]; exact ⟨hFb1, nfA⟩)), ?_⟩
  show K (.tuple [iT 0, iT 7]) (AMem.wth (AMem.wth m H) [(r, .cells [pT e, av, sT ((toksR c.tokens).map dn3AV), iT c.next, iT c.quota, iT (c.calls + 1), sT (F.map intAV)]), (e, zR ((stepF s).1))])
 
  exact hK _ (deleteD_7 hs0 hb0 htk0 (by rw [hpa.elim (fun z => z.2) (fun z => absurd z.1 (by omega))]; rfl)) H av hTH _
 replace h7 : 0 ≤ placeR (vals c) id := (Int.not_lt.1 (of_decide_eq_false h7))
 refine awp_skip ?_
 refine hK14 _ _ ?_; clear hK14
 refine awp_reg2 [] [0, 1, 2, 4] (by decide) ?_
 intro K1 hK1
 refine ⟨tv, tv, ?_⟩
 have hD2 : ∀ cz ∈ ([b1, r, e] : List Nat), cz ∉ List.map Prod.fst H := by simp only [List.forall_mem_cons]; exact ⟨hid_nin (m := m) hFb1, hTH.nin (by simp), hTH.nin (by simp), nfA⟩
 have hTc2 : HidR _ (mW m _) [r] H _ _ := HidR.call (L := [(b1, vObj v), (r, .cells [pT e, av, sT ((toksR c.tokens).map dn3AV), iT c.next, iT c.quota, iT (c.calls + 1), sT (F.map intAV)]), (e, zR ((stepF s).1))]) hTH (pick_perm [1] _) hD2
 refine ar_mem (hid_call (m := m) (H := H) (L := [(b1, vObj v), (r, .cells [pT e, av, sT ((toksR c.tokens).map dn3AV), iT c.next, iT c.quota, iT (c.calls + 1), sT (F.map intAV)]), (e, zR ((stepF s).1))]) hNb1 (pick_perm [1] _) hTH.nd hD2) ?_
 refine u_RLose r e ({ c with calls := c.calls + 1 } : ClSt) F id hTc2 htl hids hn _ ?_
 intro H2 av2 hTn2
 show aopsR _ _ _ _ _ _ (mW (mW (mW m [(b1, vObj v), (e, zR ((stepF s).1))]) H2) [(r, .cells [pT e, av2, sT ((toksR c.tokens).map dn3AV), iT c.next, iT c.quota, iT (c.calls + 1), sT (F.map intAV)])])
 have hTb2 : HidR _ m [b1, r, e] H2 _ _ := HidR.back (L := [(b1, vObj v), (r, .cells [pT e, av2, sT ((toksR c.tokens).map dn3AV), iT c.next, iT c.quota, iT (c.calls + 1), sT (F.map intAV)]), (e, zR ((stepF s).1))]) hTn2 rfl (pick_perm [1] _)
 have hE2 : ∀ cz ∈ ([b1, r, e] : List Nat), cz ∉ List.map Prod.fst H2 := fun cz hc => hTb2.nin hc
 refine ar_mem (hid_call (m := m) (H := H2) (L := [(b1, vObj v), (r, .cells [pT e, av2, sT ((toksR c.tokens).map dn3AV), iT c.next, iT c.quota, iT (c.calls + 1), sT (F.map intAV)]), (e, zR ((stepF s).1))]) hNb1 (pick_perm [1] _) hTb2.nd hE2).symm ?_
 have hG2b1 : (mW m H2) b1 = none := hTb2.loc (hid_base (m := m) hFb1) (by simp)
 show aopsR _ _ _ _ _ _ (mW (mW m H2) [(b1, vObj v), (r, .cells [pT e, av2, sT ((toksR c.tokens).map dn3AV), iT c.next, iT c.quota, iT (c.calls + 1), sT (F.map intAV)]), (e, zR ((stepF s).1))])
 show K1 [(0, pT r), (1, iT 3), (2, .str token), (4, iT id)] (mW (mW m H2) [(b1, vObj v), (r, .cells [pT e, av2, sT ((toksR c.tokens).map dn3AV), iT c.next, iT c.quota, iT (c.calls + 1), sT (F.map intAV)]), (e, zR ((stepF s).1))])
 refine hK1 _ _ ?_; clear hK1 K1
 refine hK13 _ _ ?_; clear hK13
 refine rS [173] [4] (by decide) ?_
 intro K1 hK1
 refine ⟨tv, tv, tv, ⟨rfl, by decide⟩, ?_⟩
 refine ar_loads rfl (i := 1) rfl hNb1 rfl rfl rfl rfl (nB rfl) ?_
 refine ⟨tv, tv, tv, ⟨rfl, by simp only [List.forall_mem_cons]; exact ⟨rfl, rfl, rfl, nfA⟩, by simp only [List.forall_mem_cons]; exact ⟨rfl, rfl, rfl, nfA⟩⟩, ⟨rfl, nB rfl, rfl, nB rfl, rfl, by simp only [List.forall_mem_cons]; exact ⟨⟨rfl, rfl⟩, nfA⟩⟩, ?_⟩
 refine ar_append rfl dn3AV (toksR c.tokens) ([(⟨token, 3, id⟩ : Dn3)] : List Dn3) rfl rfl rfl rfl rfl rfl (nB rfl) rfl (by (simp only [show Try.prog.bytesOf 140 = 32 from rfl, List.length_append, List.length_cons, List.length_nil]; omega)) (by (first | omega | (simp only [List.length_append, List.length_cons, List.length_nil]; omega))) (fun _ => ⟨rfl, rfl⟩) ?_
 refine ⟨tv, ⟨rfl, by decide⟩, ?_⟩
 refine aS rfl 1 (v := sT (((toksR c.tokens) ++ ([(⟨token, 3, id⟩ : Dn3)] : List Dn3)).map dn3AV)) (l' := [pT e, av2, sT (((toksR c.tokens) ++ ([(⟨token, 3, id⟩ : Dn3)] : List Dn3)).map dn3AV), iT c.next, iT c.quota, iT (c.calls + 1), sT (F.map intAV)]) rfl rfl hNb1 rfl rfl rfl rfl rfl (nB rfl) rfl ?_
 show K1 [(4, iT id)] (mW (mW m H2) [(b1, vObj v), (r, .cells [pT e, av2, sT (((toksR c.tokens) ++ ([(⟨token, 3, id⟩ : Dn3)] : List Dn3)).map dn3AV), iT c.next, iT c.quota, iT (c.calls + 1), sT (F.map intAV)]), (e, zR ((stepF s).1))])
 refine hK1 _ _ ?_; clear hK1 K1
 refine rS [] [12, 13] (by decide) ?_
 intro K1 hK1
 refine ⟨tv, tv, tv, ?_⟩
 show K1 [(12, iT id), (13, iT 0)] _
 refine hK1 _ _ ?_; clear hK1 K1
 refine awp_ret ?_
 refine ⟨tv, tv, (mW (mW m H2) [(r, .cells [pT e, av2, sT (((toksR c.tokens) ++ ([(⟨token, 3, id⟩ : Dn3)] : List Dn3)).map dn3AV), iT c.next, iT c.quota, iT (c.calls + 1), sT (F.map intAV)]), (e, zR ((stepF s).1))]), (wth_keep (m := (mW m H2)) (L := [(b1, vObj v), (r, .cells [pT e, av2, sT (((toksR c.tokens) ++ ([(⟨token, 3, id⟩ : Dn3)] : List Dn3)).map dn3AV), iT c.next, iT c.quota, iT (c.calls + 1), sT (F.map intAV)]), (e, zR ((stepF s).1))]) (L1 := [(r, .cells [pT e, av2, sT (((toksR c.tokens) ++ ([(⟨token, 3, id⟩ : Dn3)] : List Dn3)).map dn3AV), iT c.next, iT c.quota, iT (c.calls + 1), sT (F.map intAV)]), (e, zR ((stepF s).1))]) (L2 := [(b1, vObj v)]) hNb1 (pick_perm [1, 1] _) (by simp only [List.map_cons, List.map_nil, List.forall_mem_cons]; exact ⟨hG2b1, nfA⟩)), ?_⟩
 show K (.tuple [iT id, iT 0]) (AMem.wth (AMem.wth m H2) [(r, .cells [pT e, av2, sT (((toksR c.tokens) ++ ([(⟨token, 3, id⟩ : Dn3)] : List Dn3)).map dn3AV), iT c.next, iT c.quota, iT (c.calls + 1), sT (F.map intAV)]), (e, zR ((stepF s).1))])
 have h8 := hK _ (deleteD_8 hs0 hb0 htk0 (by rw [(hpa.resolve_left (fun z => by omega)).2.2.1]; rfl)) H2 av2 (hTb2.keep (by simp)) id
 exact Eq.mp (cgA (fun o => K (.tuple [iT id, iT 0]) ((m.wth H2).wth [(r, o), (e, rObj (rT q (stepF s).1))])) (rcObj_put htk0 _ _ _)) h8
end Go.Proofs
end
section
namespace Go.Proofs
open Go Go.Aw
set_option maxRecDepth 100000
structure CI (c : ClSt) (F : List Int) (n : Nat) : Prop where
  nx0 : 1 ≤ c.next
  nx1 : c.next ≤ n + 1
  ca0 : 0 ≤ c.calls
  ca1 : c.calls ≤ n
  tl : c.things.length ≤ n
  ol : c.tokens.length ≤ n
  fl : c.fails.length ≤ n
  Fl : F.length ≤ n
  nd : (c.things.map Prod.fst).Nodup
  ids : ∀ p ∈ c.things, p.2.id = p.1 ∧ (1 ≤ p.1 ∧ p.1 < c.next) ∧ chk p.2.v = 0
  srt : (c.things.map Prod.fst).Pairwise (· < ·)
  fr : ∀ k, (mget c.fails k).getD false = true ↔ k ∈ F
section
variable {c : ClSt} {s : DSt} {q : RSt} {F : List Int} {n : Nat} {token kind : Str} {v : Val} {id : Int}
theorem CI.start (z : Int) : CI ⟨[], [], 1, z, 0, []⟩ [] 0 := ⟨Int.le_refl 1, (by show (1 : Int) ≤ _; decide), Int.le_refl 0, (by show (0 : Int) ≤ _; decide), Nat.le_refl _, Nat.le_refl _, Nat.le_refl _, Nat.le_refl _, List.nodup_nil, (fun p hp => by cases hp), List.Pairwise.nil, fun k => by simp [mget]⟩
theorem CI.mono (h : CI c F n) {k : Nat} (hk : n ≤ k) : CI c F k := ⟨h.nx0, by have := h.nx1; omega, h.ca0, by have := h.ca1; omega, by have := h.tl; omega, by have := h.ol; omega, by have := h.fl; omega, by have := h.Fl; omega, h.nd, h.ids, h.srt, h.fr⟩
theorem CI.all (h : CI c F n) : allT c = vals c := by
  refine (sortT_eq (List.Perm.refl _) ?_ (ids_nodup h.nd fun p hp => (h.ids p hp).1)).symm
  have e := h.srt
  rw [List.pairwise_map] at e ⊢
  refine e.imp_of_mem fun {a b} ha hb hab => ?_
  have h1 := (h.ids a ha).1
  have h2 := (h.ids b hb).1
  omega
theorem CI.step (h : CI c F n) {x : Int} (h1 : c.calls ≤ x) (h2 : x ≤ c.calls + 1) : CI { c with calls := x } F (n + 1) :=
  ⟨h.nx0, by show c.next ≤ _; have := h.nx1; omega, by show 0 ≤ x; have := h.ca0; omega, by show x ≤ _; have := h.ca1; omega, by show c.things.length ≤ _; have := h.tl; omega, by show c.tokens.length ≤ _; have := h.ol; omega, by show c.fails.length ≤ _; have := h.fl; omega, by have := h.Fl; omega, h.nd, h.ids, h.srt, h.fr⟩
theorem CI.stepc (h : CI c F n) (t : Str) (op : Int) : CI { c with calls := ccalls c s t op } F (n + 1) := h.step (ccalls_le c s t op).1 (ccalls_le c s t op).2
theorem CI.create (h : CI c F n) : CI (createR c s token kind v).1.1 F (n + 1) := by
  unfold createR
  split
  · exact h.mono (Nat.le_succ _)
  · rename_i ha
    split
    · exact h.mono (Nat.le_succ _)
    · split
      · exact h.stepc _ _
      · split
        · exact h.stepc _ _
        · have k := h.stepc (s := s) token 1
          have hlt : ∀ p ∈ c.things, p.1 < c.next := fun p hp => (h.ids p hp).2.1.2
          have e : mput c.things c.next ⟨c.next, kind, v⟩ = c.things ++ [(c.next, ⟨c.next, kind, v⟩)] := mput_noneG (nextKey hlt) _
          refine ⟨?_, ?_, k.ca0, k.ca1, ?_, ?_, k.fl, k.Fl, mput_ndG h.nd, ?_, ?_, h.fr⟩
          · show 1 ≤ c.next + 1; have := h.nx0; omega
          · show c.next + 1 ≤ _; have := h.nx1; omega
          · show (mput c.things c.next _).length ≤ _
            have := mput_len c.things c.next ⟨c.next, kind, v⟩; have := h.tl; omega
          · show (mput c.tokens token _).length ≤ _
            have := mput_len c.tokens token ⟨1, c.next⟩; have := h.ol; omega
          · intro p hp
            have hnx := h.nx0
            rcases mput_memG hp with rfl | hp
            · exact ⟨rfl, ⟨hnx, by show c.next < c.next + 1; omega⟩, attrE_0 (by simpa using ha)⟩
            · have := h.ids p hp
              exact ⟨this.1, ⟨this.2.1.1, by show p.1 < c.next + 1; omega⟩, this.2.2⟩
          · show ((mput c.things c.next ⟨c.next, kind, v⟩).map Prod.fst).Pairwise (· < ·)
            rw [e, List.map_append, List.pairwise_append]
            refine ⟨h.srt, by simp, fun a ha b hb => ?_⟩
            obtain ⟨p, hp, rfl⟩ := List.mem_map.1 ha
            simp at hb; subst hb
            exact hlt p hp
theorem CI.put (h : CI c F n) {x : Int} (h1 : c.calls ≤ x) (h2 : x ≤ c.calls + 1) {t : Thg} {tk : List (Str × Dn)} (htk : tk.length ≤ n + 1) (ht : t.id = id) (hv : chk t.v = 0) (hs : (mget c.things id).isSome = true) : CI { c with calls := x, things := mput c.things id t, tokens := tk } F (n + 1) := by
  have k := h.step h1 h2
  obtain ⟨t0, hm⟩ := Option.isSome_iff_exists.1 hs
  have hi := h.ids _ (mget_memG hm)
  have ek : (mput c.things id t).map Prod.fst = c.things.map Prod.fst := by
    rw [mput_keysG, if_pos (List.mem_map.2 ⟨_, mget_memG hm, rfl⟩)]
  refine ⟨k.nx0, k.nx1, k.ca0, k.ca1, ?_, htk, k.fl, k.Fl, mput_ndG h.nd, ?_, ?_, h.fr⟩
  · show (mput c.things id t).length ≤ _
    rw [mput_len_some hs]; have := h.tl; omega
  · intro p hp
    rcases mput_memG hp with rfl | hp
    · exact ⟨ht, hi.2.1, hv⟩
    · exact h.ids p hp
  · show ((mput c.things id t).map Prod.fst).Pairwise (· < ·)
    rw [ek]; exact h.srt
theorem CI.del (h : CI c F n) {x : Int} (h1 : c.calls ≤ x) (h2 : x ≤ c.calls + 1) {tk : List (Str × Dn)} (htk : tk.length ≤ n + 1) : CI { c with calls := x, things := mdel c.things id, tokens := tk } F (n + 1) := by
  have k := h.step h1 h2
  refine ⟨k.nx0, k.nx1, k.ca0, k.ca1, ?_, htk, k.fl, k.Fl, mdel_ndG h.nd, fun p hp => h.ids p ((mdel_subG _ _).subset hp), h.srt.sublist ((mdel_subG _ _).map _), h.fr⟩
  show (mdel c.things id).length ≤ _
  have := mdel_len c.things id; have := h.tl; omega
theorem CI.update (h : CI c F n) : CI (updateR c s token id v).1.1 F (n + 1) := by
  unfold updateR
  split
  · exact h.mono (Nat.le_succ _)
  · rename_i ha
    split
    · exact h.stepc _ _
    · split
      · exact h.stepc _ _
      · rename_i hs
        have hs : (mget c.things id).isSome = true := by cases z : (mget c.things id).isSome with | true => rfl | false => exact absurd z hs
        obtain ⟨t0, hm⟩ := Option.isSome_iff_exists.1 hs
        refine h.put (ccalls_le c s token 2).1 (ccalls_le c s token 2).2 (by have := mput_len c.tokens token ⟨2, id⟩; have := h.ol; omega) ?_ (attrE_0 (by simpa using ha)) hs
        show ((mget c.things id).getD zT).id = id
        rw [hm]; exact (h.ids _ (mget_memG hm)).1
theorem CI.delete (h : CI c F n) : CI (deleteR c s token id).1.1 F (n + 1) := by
  unfold deleteR
  split
  · exact h.stepc _ _
  · split
    · exact h.stepc _ _
    · exact h.del (ccalls_le c s token 3).1 (ccalls_le c s token 3).2 (by have := mput_len c.tokens token ⟨3, id⟩; have := h.ol; omega)
theorem CI.lose (h : CI c F n) (id : Int) : CI { c with things := mdel c.things id } F (n + 1) := h.del (x := c.calls) (tk := c.tokens) (by omega) (by omega) (by have := h.ol; omega)
theorem CI.spoil (h : CI c F n) (id : Int) (v : Val) : CI (spoilC c id v) F (n + 1) := by
  unfold spoilC
  split
  · rename_i hs
    obtain ⟨t0, hm⟩ := Option.isSome_iff_exists.1 hs.1
    refine h.put (x := c.calls) (tk := c.tokens) (by omega) (by omega) (by have := h.ol; omega) ?_ (attrE_0 hs.2) hs.1
    show ((mget c.things id).getD zT).id = id
    rw [hm]; exact (h.ids _ (mget_memG hm)).1
  · exact h.mono (Nat.le_succ _)
theorem CI.fail (h : CI c F n) (z : Int) : CI { c with fails := mput c.fails z true } (F ++ [z]) (n + 1) := by
  have k := h.mono (Nat.le_succ n)
  refine ⟨k.nx0, k.nx1, k.ca0, k.ca1, k.tl, k.ol, ?_, ?_, k.nd, k.ids, k.srt, fun j => ?_⟩
  · show (mput c.fails z true).length ≤ _
    have := mput_len c.fails z true; have := h.fl; omega
  · rw [List.length_append]; have := h.Fl; simp; omega
  · show (mget (mput c.fails z true) j).getD false = true ↔ _
    rw [mget_mputG]
    by_cases e : z = j
    · rw [if_pos e]; simp [e]
    · rw [if_neg e, h.fr j]; simp [Ne.symm e]
theorem two_create (h : Two s q n) : Two (createR c s token kind v).1.2 q (n + 1) := by
  unfold createR
  repeat' split
  all_goals first | exact h.mono (Nat.le_succ _) | exact h.of_step
theorem two_update (h : Two s q n) : Two (updateR c s token id v).1.2 q (n + 1) := by
  unfold updateR
  repeat' split
  all_goals first | exact h.mono (Nat.le_succ _) | exact h.of_step
theorem two_delete (h : Two s q n) : Two (deleteR c s token id).1.2 q (n + 1) := by
  unfold deleteR
  repeat' split
  all_goals first | exact h.mono (Nat.le_succ _) | exact h.of_step
theorem callT_nn (op : Int) : 0 ≤ (callT c s token op).2.2 := by
  unfold callT callR
  repeat' split
  all_goals first | exact (stepF_keep s).2.2.2 | exact (by decide : (0 : Int) ≤ 12) | exact (by decide : (0 : Int) ≤ 15) | exact (by decide : (0 : Int) ≤ 0) | exact (by decide : (0 : Int) ≤ 3) | exact (by decide : (0 : Int) ≤ 13) | exact (by decide : (0 : Int) ≤ 7) | exact (by decide : (0 : Int) ≤ 10)
theorem createR_nn : 0 ≤ (createR c s token kind v).2.2 := by
  unfold createR
  repeat' split
  all_goals first | exact attrE_nn v | exact callT_nn _ | exact (by decide : (0 : Int) ≤ 12) | exact (by decide : (0 : Int) ≤ 15) | exact (by decide : (0 : Int) ≤ 0) | exact (by decide : (0 : Int) ≤ 3) | exact (by decide : (0 : Int) ≤ 13) | exact (by decide : (0 : Int) ≤ 7) | exact (by decide : (0 : Int) ≤ 10)
theorem updateR_nn : 0 ≤ (updateR c s token id v).2 := by
  unfold updateR
  repeat' split
  all_goals first | exact attrE_nn v | exact callT_nn _ | exact (by decide : (0 : Int) ≤ 12) | exact (by decide : (0 : Int) ≤ 15) | exact (by decide : (0 : Int) ≤ 0) | exact (by decide : (0 : Int) ≤ 3) | exact (by decide : (0 : Int) ≤ 13) | exact (by decide : (0 : Int) ≤ 7) | exact (by decide : (0 : Int) ≤ 10)
theorem deleteR_nn : 0 ≤ (deleteR c s token id).2 := by
  unfold deleteR
  repeat' split
  all_goals first | exact callT_nn _ | exact (by decide : (0 : Int) ≤ 12) | exact (by decide : (0 : Int) ≤ 15) | exact (by decide : (0 : Int) ≤ 0) | exact (by decide : (0 : Int) ≤ 3) | exact (by decide : (0 : Int) ≤ 13) | exact (by decide : (0 : Int) ≤ 7) | exact (by decide : (0 : Int) ≤ 10)
theorem readC_nn : 0 ≤ (readC c s id).2 := by
  unfold readC
  repeat' split
  all_goals first | exact (by decide : (0 : Int) ≤ 12) | exact (by decide : (0 : Int) ≤ 15) | exact (by decide : (0 : Int) ≤ 0) | exact (by decide : (0 : Int) ≤ 3) | exact (by decide : (0 : Int) ≤ 13) | exact (by decide : (0 : Int) ≤ 7) | exact (by decide : (0 : Int) ≤ 10)
end
theorem u_CreateC (x d tb ob fb kb nb : Nat) (c : ClSt) (s : DSt) (token kind : Str) (v : Val) (n : Nat) (F : List Int) (q : RSt) (r1 : (ClSt × DSt) × (Int × Int)) (hr1 : createR c s token kind v = r1) (hN : [x, d, tb, ob, fb].Nodup) (h : CI c F n) (h2 : Two s q n) (hn : n ≤ 100) (hkd : kind.length ≤ 140737488355328) (m : AMem) (K : AV → AMem → Prop) (hK : K (.tuple [.int .i64 r1.2.1, .err 108 r1.2.2]) (AMem.wth m [(x, cObj d tb ob fb r1.1.1), (d, dObj kb nb r1.1.2), (tb, tObj r1.1.1.things), (ob, oObj r1.1.1.tokens), (fb, fObj r1.1.1.fails)])) :
    ACalls Try.prog 48 [.ptr ⟨x, 0, none⟩, .str token, .str kind, valTop v] (AMem.wth m [(x, cObj d tb ob fb c), (d, dObj kb nb s), (tb, tObj c.things), (ob, oObj c.tokens), (fb, fObj c.fails)]) K := by
  subst hr1
  have i := h2.inv; have j1 := i.st0; have j2 := i.st1; have j3 := i.fu0; have j4 := i.fu1
  have k1 := h.nx0; have k2 := h.nx1; have k3 := h.ca1; have k4 := h.tl; have k5 := h.ol; have k6 := h.Fl
  exact u_Create x d tb ob fb kb nb c s token kind v hN hkd i.st0 (by omega) j3 j4 h.ca0 (by omega) (by omega) (by omega) (by omega) (by omega) m K hK
theorem u_UpdateC (x d tb ob fb kb nb : Nat) (c : ClSt) (s : DSt) (token : Str) (id : Int) (v : Val) (n : Nat) (F : List Int) (q : RSt) (r1 : (ClSt × DSt) × Int) (hr1 : updateR c s token id v = r1) (hN : [x, d, tb, ob, fb].Nodup) (h : CI c F n) (h2 : Two s q n) (hn : n ≤ 100) (m : AMem) (K : AV → AMem → Prop) (hK : K (.err 108 r1.2) (AMem.wth m [(x, cObj d tb ob fb r1.1.1), (d, dObj kb nb r1.1.2), (tb, tObj r1.1.1.things), (ob, oObj r1.1.1.tokens), (fb, fObj r1.1.1.fails)])) :
    ACalls Try.prog 50 [.ptr ⟨x, 0, none⟩, .str token, .int .i64 id, valTop v] (AMem.wth m [(x, cObj d tb ob fb c), (d, dObj kb nb s), (tb, tObj c.things), (ob, oObj c.tokens), (fb, fObj c.fails)]) K := by
  subst hr1
  have i := h2.inv; have j1 := i.st0; have j2 := i.st1; have j3 := i.fu0; have j4 := i.fu1
  have k1 := h.nx0; have k2 := h.nx1; have k3 := h.ca1; have k4 := h.tl; have k5 := h.ol; have k6 := h.Fl
  exact u_Update x d tb ob fb kb nb c s token id v hN i.st0 (by omega) j3 j4 h.ca0 (by omega) (by omega) (by omega) (by omega) (by omega) m K hK
theorem u_DeleteC (x d tb ob fb kb nb : Nat) (c : ClSt) (s : DSt) (token : Str) (id : Int) (n : Nat) (F : List Int) (q : RSt) (r1 : (ClSt × DSt) × Int) (hr1 : deleteR c s token id = r1) (hN : [x, d, tb, ob, fb].Nodup) (h : CI c F n) (h2 : Two s q n) (hn : n ≤ 100) (m : AMem) (K : AV → AMem → Prop) (hK : K (.err 108 r1.2) (AMem.wth m [(x, cObj d tb ob fb r1.1.1), (d, dObj kb nb r1.1.2), (tb, tObj r1.1.1.things), (ob, oObj r1.1.1.tokens), (fb, fObj r1.1.1.fails)])) :
    ACalls Try.prog 51 [.ptr ⟨x, 0, none⟩, .str token, .int .i64 id] (AMem.wth m [(x, cObj d tb ob fb c), (d, dObj kb nb s), (tb, tObj c.things), (ob, oObj c.tokens), (fb, fObj c.fails)]) K := by
  subst hr1
  have i := h2.inv; have j1 := i.st0; have j2 := i.st1; have j3 := i.fu0; have j4 := i.fu1
  have k1 := h.nx0; have k2 := h.nx1; have k3 := h.ca1; have k4 := h.tl; have k5 := h.ol; have k6 := h.Fl
  exact u_Delete x d tb ob fb kb nb c s token id hN i.st0 (by omega) j3 j4 h.ca0 (by omega) (by omega) (by omega) (by omega) (by omega) m K hK
theorem u_Do1W (r e : Nat) (q : RSt) (s : DSt) (c : ClSt) (F : List Int) (token kind : Str) (id : Int) (v : Val) (n : Nat) (r1 : (ClSt × DSt) × (Int × Int)) (hr1 : createR c s token kind v = r1) {m : AMem} {H : List (Nat × AObj)} {av : AV} {ks : List Nat} (hT : HidR thgAV m ks H av (vals c)) (hr : r ∈ ks) (he : e ∈ ks) (hN : [r, e].Nodup) (h : CI c F n) (h2 : Two s q n) (hn : n ≤ 100) (hB : depV v ≤ 1000000000000) (K : AV → AMem → Prop) (hK : ∀ H' av', HidR thgAV m [r, e] H' av' (vals r1.1.1) → K (.tuple [.int .i64 r1.2.1, .int .i64 r1.2.2]) ((m.wth H').wth [(r, rcObj e av' r1.1.1 F), (e, rObj (rT q r1.1.2))])) :
    ACalls Try.prog 49 [.ptr ⟨r, 0, none⟩, .int .i64 1, .str token, .str kind, .int .i64 id, valTop v] ((m.wth H).wth [(r, rcObj e av c F), (e, rObj (rT q s))]) K := by
  subst hr1
  have k1 := h.nx0; have k2 := h.nx1; have k3 := h.ca1; have k4 := h.tl; have k5 := h.ol; have k6 := h.Fl
  exact u_Do1 r e q s c F token kind id v n H av hN (fun p hp => (h.ids p hp).2.1.2) h2 (by omega) hB (h.fr _) h.ca0 (by omega) (by omega) (by omega) (by omega) (by omega) (by omega) m (hT.keep (by intro z hz; simp at hz; rcases hz with rfl | rfl <;> assumption)) K (fun r0 h0 H' av' hT' => by subst h0; exact hK H' av' hT')
theorem u_Do2W (r e : Nat) (q : RSt) (s : DSt) (c : ClSt) (F : List Int) (token kind : Str) (id : Int) (v : Val) (n : Nat) (r1 : (ClSt × DSt) × Int) (hr1 : updateR c s token id v = r1) {m : AMem} {H : List (Nat × AObj)} {av : AV} {ks : List Nat} (hT : HidR thgAV m ks H av (vals c)) (hr : r ∈ ks) (he : e ∈ ks) (hN : [r, e].Nodup) (h : CI c F n) (h2 : Two s q n) (hn : n ≤ 100) (hB : depV v ≤ 1000000000000) (K : AV → AMem → Prop) (hK : ∀ H' av', HidR thgAV m [r, e] H' av' (vals r1.1.1) → ∀ x : Int, K (.tuple [.int .i64 x, .int .i64 r1.2]) ((m.wth H').wth [(r, rcObj e av' r1.1.1 F), (e, rObj (rT q r1.1.2))])) :
    ACalls Try.prog 49 [.ptr ⟨r, 0, none⟩, .int .i64 2, .str token, .str kind, .int .i64 id, valTop v] ((m.wth H).wth [(r, rcObj e av c F), (e, rObj (rT q s))]) K := by
  subst hr1
  have k1 := h.nx0; have k2 := h.nx1; have k3 := h.ca1; have k4 := h.tl; have k5 := h.ol; have k6 := h.Fl
  exact u_Do2 r e q s c F token kind id v n H av hN (fun p hp => (h.ids p hp).1) h2 (by omega) hB (h.fr _) h.ca0 (by omega) (by omega) (by omega) (by omega) (by omega) (by omega) m (hT.keep (by intro z hz; simp at hz; rcases hz with rfl | rfl <;> assumption)) K (fun r0 h0 H' av' hT' x => by subst h0; exact hK H' av' hT' x)
theorem u_Do3W (r e : Nat) (q : RSt) (s : DSt) (c : ClSt) (F : List Int) (token kind : Str) (id : Int) (v : Val) (n : Nat) (r1 : (ClSt × DSt) × Int) (hr1 : deleteR c s token id = r1) {m : AMem} {H : List (Nat × AObj)} {av : AV} {ks : List Nat} (hT : HidR thgAV m ks H av (vals c)) (hr : r ∈ ks) (he : e ∈ ks) (hN : [r, e].Nodup) (h : CI c F n) (h2 : Two s q n) (hn : n ≤ 100) (hB : depV v ≤ 1000000000000) (K : AV → AMem → Prop) (hK : ∀ H' av', HidR thgAV m [r, e] H' av' (vals r1.1.1) → ∀ x : Int, K (.tuple [.int .i64 x, .int .i64 r1.2]) ((m.wth H').wth [(r, rcObj e av' r1.1.1 F), (e, rObj (rT q r1.1.2))])) :
    ACalls Try.prog 49 [.ptr ⟨r, 0, none⟩, .int .i64 3, .str token, .str kind, .int .i64 id, valTop v] ((m.wth H).wth [(r, rcObj e av c F), (e, rObj (rT q s))]) K := by
  subst hr1
  have k1 := h.nx0; have k2 := h.nx1; have k3 := h.ca1; have k4 := h.tl; have k5 := h.ol; have k6 := h.Fl
  exact u_Do3 r e q s c F token kind id v n H av hN (fun p hp => (h.ids p hp).1) h.nd h2 (by omega) hB (h.fr _) h.ca0 (by omega) (by omega) (by omega) (by omega) (by omega) (by omega) m (hT.keep (by intro z hz; simp at hz; rcases hz with rfl | rfl <;> assumption)) K (fun r0 h0 H' av' hT' x => by subst h0; exact hK H' av' hT' x)
end Go.Proofs
end
section
namespace Go.Proofs
open Go Go.Aw
set_option maxRecDepth 100000
theorem own_nils_own (w : World) (lim : Nat → Nat) (v : Value) (os : List Nat) (h : Rep w lim v (.slice true []) os) : Rep w lim v .nils [] := nils_of_own w lim v os h
theorem u_RNew (e : Nat) (z : Int)  (m : AMem)  (K : AV → AMem → Prop) (hK : ∀ r, m r = none → K (pT r) (mW m [(r, rcObj e .nils ⟨[], [], 1, z, 0, []⟩ [])])) : ACalls Try.prog 47 [pT e, iT z] m K := by
 refine acalls_enter Try.func47 rfl (by decide) (nB rfl) ?_
 show AWP _ _ _ _ [(0, pT e), (1, iT z)] m
 refine rS [] [0, 1] (by decide) ?_
 intro K1 hK1
 refine ⟨tv, ?_⟩
 show K1 [(0, pT e), (1, iT z)] m
 refine hK1 _ _ ?_; clear hK1 K1
 refine rS [] [4] (by decide) ?_
 intro K1 hK1
 refine ⟨tv, tv, ⟨rfl, by simp only [List.forall_mem_cons]; exact ⟨rfl, rfl, rfl, rfl, rfl, rfl, rfl, nfA⟩, by simp only [List.forall_mem_cons]; exact ⟨rfl, rfl, rfl, nfA⟩⟩, ?_⟩
 refine ar_box rfl (m := m) (L := []) (v := .agg [pT e, .slice true [], .slice true [], iT 1, iT z, iT 0, .slice true []]) rfl rfl ?_
 intro b1 hb1
 have hFb1 : m b1 = none := wth_none (m := m) (L := []) hb1
 have hNb1 : ([b1] : List Nat).Nodup := wth_nodup (m := m) (L := []) hb1 List.nodup_nil
 refine ⟨tv, ?_⟩
 show K1 [(4, pT b1)] (mW m [(b1, .cells [pT e, .slice true [], .slice true [], iT 1, iT z, iT 0, .slice true []])])
 refine hK1 _ _ ?_; clear hK1 K1
 refine awp_convM 0 1 .nils hNb1 rfl (by simp) own_nils_own ?_
 show AWP _ _ _ _ [(4, pT b1)] (mW m [(b1, .cells [pT e, .nils, .slice true [], iT 1, iT z, iT 0, .slice true []])])
 refine awp_ret ?_
 refine ⟨tv, (mW m [(b1, .cells [pT e, .nils, .slice true [], iT 1, iT z, iT 0, .slice true []])]), fun _ _ h => h, ?_⟩
 show K (pT b1) _
 exact hK _ hFb1
set_option maxHeartbeats 2000000 in
theorem u_SameThings_nil   (m : AMem)  (K : AV → AMem → Prop) (hK : K (.bool true) m) : ACalls Try.prog 61 [.slice false [], .nils] m K := by
 refine acalls_enter Try.func61 rfl (by decide) (nB rfl) ?_
 show AWP _ _ _ _ [(0, .slice false []), (1, .nils)] m
 refine rS [] [0, 1] (by decide) ?_
 intro K1 hK1
 refine ⟨tv, ?_⟩
 show K1 [(0, .slice false []), (1, .nils)] m
 refine hK1 _ _ ?_; clear hK1 K1
 refine sK ?_; intro K2 hK2
 refine rS [] [0, 1, 11] (by decide) ?_
 intro K1 hK1
 refine ⟨tv, tv, tv, tv, tv, ?_⟩
 show K1 [(0, .slice false []), (1, .nils), (11, .bool false)] m
 refine hK1 _ _ ?_; clear hK1 K1
 refine cD rfl rfl (fun hcz => ?_) (fun hcz => ?_)
 ·
  cases hcz
 clear hcz
 refine awp_skip ?_
 refine hK2 _ _ ?_; clear hK2
 refine sK ?_; intro K3 hK3
 refine rS [] [0, 1, 5] (by decide) ?_
 intro K1 hK1
 refine ⟨tv, ?_⟩
 show K1 [(0, .slice false []), (1, .nils), (5, iT 0)] m
 refine hK1 _ _ ?_; clear hK1 K1
 refine awp_block ?_
 refine awp_keep [0, 1, 5] (by decide) ?_
 refine awp_loop_st (σ := Int) (fun i => [(0, .slice false []), (1, .nils), (5, iT i)]) (fun _ => m) (fun i => i = 0) (fun i => 1) (0) rfl rfl ?_ ?_
 ·
  show ((0 : Int)) = 0
  rfl
 rintro i hI
 replace hI : i = 0 := hI
 show AWP _ _ _ _ [(0, .slice false []), (1, .nils), (5, iT i)] m
 refine sK ?_; intro K4 hK4
 refine rS [] [0, 1, 5, 15] (by decide) ?_
 intro K1 hK1
 refine ⟨tv, tv, tv, tv, ?_⟩
 show K1 [(0, .slice false []), (1, .nils), (5, iT i), (15, .bool (decide (i < 0)))] m
 refine hK1 _ _ ?_; clear hK1 K1
 refine cD rfl rfl (fun h1 => ?_) (fun h1 => ?_)
 ·
  replace h1 : i < 0 := (of_decide_eq_true h1)
  omega
 replace h1 : 0 ≤ i := (Int.not_lt.1 (of_decide_eq_false h1))
 refine awp_exit ?_
 refine hK3 _ _ ?_; clear hK3
 refine rS [] [4] (by decide) ?_
 intro K1 hK1
 refine ⟨tv, ?_⟩
 show K1 [(4, .bool true)] m
 refine hK1 _ _ ?_; clear hK1 K1
 refine awp_ret ?_
 refine ⟨tv, m, fun _ _ h => h, ?_⟩
 show K (.bool true) m
 exact hK
set_option maxHeartbeats 4000000 in
theorem u_SameThings_ms (b k : Nat) (zs l : List Thg) (hk : k ≤ zs.length) (hkb : k ≤ 1000000) (hv : zs.take k = l) (m : AMem)  (K : AV → AMem → Prop) (hK : K (.bool true) (mW m [(b, .cells (flatK thgAV zs))])) : ACalls Try.prog 61 [sF (l.map thgAV), .ms ⟨b, 0, none⟩ k zs.length] (mW m [(b, .cells (flatK thgAV zs))]) K := by
 have hlk : l.length = k := by rw [← hv, List.length_take, Nat.min_eq_left hk]
 refine acalls_enter Try.func61 rfl (by decide) (nB rfl) ?_
 show AWP _ _ _ _ [(0, sF (l.map thgAV)), (1, .ms ⟨b, 0, none⟩ k zs.length)] (mW m [(b, .cells (flatK thgAV zs))])
 refine rS [] [0, 1] (by decide) ?_
 intro K1 hK1
 refine ⟨tv, ?_⟩
 show K1 [(0, sF (l.map thgAV)), (1, .ms ⟨b, 0, none⟩ k zs.length)] _
 refine hK1 _ _ ?_; clear hK1 K1
 refine sK ?_; intro K2 hK2
 refine rS [] [0, 1, 11] (by decide) ?_
 intro K1 hK1
 refine ⟨tv, ?_⟩
 refine ar_len rfl thgAV l rfl rfl rfl ?_
 refine ⟨tv, (by omega), tv, ?_⟩
 show K1 [(0, sF (l.map thgAV)), (1, .ms ⟨b, 0, none⟩ k zs.length), (11, .bool (!((l.length : Int) == ((k : Nat) : Int))))] _
 refine hK1 _ _ ?_; clear hK1 K1
 refine cD rfl rfl (fun h1 => ?_) (fun h1 => ?_)
 ·
  replace h1 : (l.length : Int) ≠ ((k : Nat) : Int) := (ne_of_beq_false (bnT h1))
  omega
 replace h1 : (l.length : Int) = ((k : Nat) : Int) := (eq_of_beq (bnF h1))
 refine awp_skip ?_
 refine hK2 _ _ ?_; clear hK2
 refine sK ?_; intro K3 hK3
 refine rS [] [0, 1, 5] (by decide) ?_
 intro K1 hK1
 refine ⟨tv, ?_⟩
 show K1 [(0, sF (l.map thgAV)), (1, .ms ⟨b, 0, none⟩ k zs.length), (5, iT 0)] (mW m [(b, .cells (flatK thgAV zs))])
 refine hK1 _ _ ?_; clear hK1 K1
 refine awp_block ?_
 refine awp_keep [0, 1, 5] (by decide) ?_
 refine awp_loop_st (σ := Int) (fun i => [(0, sF (l.map thgAV)), (1, .ms ⟨b, 0, none⟩ k zs.length), (5, iT i)]) (fun _ => (mW m [(b, .cells (flatK thgAV zs))])) (fun i => 0 ≤ i ∧ i ≤ l.length) (fun i => l.length - i.toNat) (0) rfl rfl ?_ ?_
 ·
  show 0 ≤ ((0 : Int)) ∧ ((0 : Int)) ≤ l.length
  exact ⟨by omega, by omega⟩
 rintro i hI
 replace hI : 0 ≤ i ∧ i ≤ l.length := hI
 show AWP _ _ _ _ [(0, sF (l.map thgAV)), (1, .ms ⟨b, 0, none⟩ k zs.length), (5, iT i)] (mW m [(b, .cells (flatK thgAV zs))])
 refine sK ?_; intro K4 hK4
 refine rS [] [0, 1, 5, 15] (by decide) ?_
 intro K1 hK1
 refine ⟨tv, tv, ?_⟩
 refine ar_len rfl thgAV l rfl rfl rfl ?_
 refine ⟨tv, ?_⟩
 show K1 [(0, sF (l.map thgAV)), (1, .ms ⟨b, 0, none⟩ k zs.length), (5, iT i), (15, .bool (decide (i < (l.length : Int))))] _
 refine hK1 _ _ ?_; clear hK1 K1
 refine cD rfl rfl (fun h2 => ?_) (fun h2 => ?_)
 ·
  replace h2 : i < (l.length : Int) := (of_decide_eq_true h2)
  refine awp_skip ?_
  refine hK4 _ _ ?_; clear hK4
  refine sK ?_; intro K5 hK5
  refine awp_block ?_
  refine awp_draw_seq Try.mixed [(.bool ((((gI l i).id == (gI zs i).id) && ((gI l i).kind == (gI zs i).kind)) && vEq (gI l i).v (gI zs i).v))] [0, 1, 5, 6] (by decide) (by decide) ?_
  intro K1 hK1
  refine ⟨tv, tv, ?_⟩
  refine pq_index rfl thgAV l i rfl rfl rfl rfl rfl (by decide) (fun _ => rfl) (by omega) (by omega) ?_
  refine ⟨(apartOk_agg rfl rfl (nB rfl)), tv, tv, ⟨rfl, (by omega), (by omega)⟩, ?_⟩
  refine pq_loadk rfl (m := m) (L := [(b, .cells (flatK thgAV zs))]) thgAV zs i 0 (v := thgAV (gI zs i)) rfl (by show 0 + (i).toNat * 7 = (i).toNat * 7 + 0; omega) (wG 0 (nodup_1 b) rfl) (fun _ => rfl) rfl (nB rfl) (nB rfl) rfl (by omega) (by omega) ?_
  refine ⟨(fun Kc hKc => u_SameThing (gI l i) (gI zs i) _ Kc hKc), tv, ?_⟩
  show K1 [(0, sF (l.map thgAV)), (1, .ms ⟨b, 0, none⟩ k zs.length), (5, iT i), (6, .bool ((((gI l i).id == (gI zs i).id) && ((gI l i).kind == (gI zs i).kind)) && vEq (gI l i).v (gI zs i).v))] (mW m [(b, .cells (flatK thgAV zs))])
  refine hK1 _ _ ?_; clear hK1 K1
  refine rS [] [0, 1, 5, 28] (by decide) ?_
  intro K1 hK1
  refine ⟨tv, tv, ?_⟩
  show K1 [(0, sF (l.map thgAV)), (1, .ms ⟨b, 0, none⟩ k zs.length), (5, iT i), (28, .bool (!((((gI l i).id == (gI zs i).id) && ((gI l i).kind == (gI zs i).kind)) && vEq (gI l i).v (gI zs i).v)))] _
  refine hK1 _ _ ?_; clear hK1 K1
  refine cD rfl rfl (fun h3 => ?_) (fun h3 => ?_)
  ·
   replace h3 : ((((gI l i).id == (gI zs i).id) && ((gI l i).kind == (gI zs i).kind)) && vEq (gI l i).v (gI zs i).v) = false := (bnT h3)
   rw [show gI l i = gI zs i from by rw [← hv, gI_takeK zs hI.1 (by omega)]] at h3
   rw [vEq_true rfl] at h3
   simp at h3
  replace h3 : ((((gI l i).id == (gI zs i).id) && ((gI l i).kind == (gI zs i).kind)) && vEq (gI l i).v (gI zs i).v) = true := (bnF h3)
  refine awp_skip ?_
  refine hK5 _ _ ?_; clear hK5
  refine awp_reg2 [] [0, 1, 5] (by decide) ?_
  intro K1 hK1
  refine ⟨tv, ?_⟩
  refine ar_add rfl (a := i) (b := 1) rfl rfl (by omega) (by omega) ?_
  refine ⟨tv, ?_⟩
  show K1 [(0, sF (l.map thgAV)), (1, .ms ⟨b, 0, none⟩ k zs.length), (5, iT (i + 1))] (mW m [(b, .cells (flatK thgAV zs))])
  refine hK1 _ _ ?_; clear hK1 K1
  refine ⟨(i + 1), rfl, rfl, ?_, ?_⟩
  ·
   show 0 ≤ ((i + 1 : Int)) ∧ ((i + 1 : Int)) ≤ l.length
   (first | omega | (simp_all; done) | (simp_all; omega))
  ·
   show l.length - ((i + 1 : Int)).toNat < l.length - i.toNat
   omega
 replace h2 : (l.length : Int) ≤ i := (Int.not_lt.1 (of_decide_eq_false h2))
 refine awp_exit ?_
 refine hK3 _ _ ?_; clear hK3
 refine rS [] [4] (by decide) ?_
 intro K1 hK1
 refine ⟨tv, ?_⟩
 show K1 [(4, .bool true)] (mW m [(b, .cells (flatK thgAV zs))])
 refine hK1 _ _ ?_; clear hK1 K1
 refine awp_ret ?_
 refine ⟨tv, (mW m [(b, .cells (flatK thgAV zs))]), fun _ _ h => h, ?_⟩
 show K (.bool true) _
 exact hK
theorem u_SameThingsH {m : AMem} {H : List (Nat × AObj)} {av : AV} {ks : List Nat} {l : List Thg} (hT : HidR thgAV m ks H av l) (hl : l.length ≤ 1000000) (K : AV → AMem → Prop) (hK : K (.bool true) ((m.wth H).wth [])) :
    ACalls Try.prog 61 [sF (l.map thgAV), av] ((m.wth H).wth []) K := by
  rcases hT.sh with ⟨rfl, rfl, rfl⟩ | ⟨b, zs, rfl, rfl, hle, htk⟩
  · exact u_SameThings_nil m K hK
  · exact u_SameThings_ms b l.length zs l hle hl htk m K hK
theorem u_SameThingEq (x : Thg) (m : AMem) (K : AV → AMem → Prop) (hK : K (.bool true) m) : ACalls Try.prog 54 [thgAV x, thgAV x] m K :=
  u_SameThing x x m K (by rw [vEq_true rfl]; simpa using hK)
theorem u_AllC (x d tb ob fb : Nat) (c : ClSt) (F : List Int) (n : Nat) (hN : [x, tb].Nodup) (h : CI c F n) (hn : n ≤ 1000) (m : AMem) (K : AV → AMem → Prop) (hK : K (sF ((vals c).map thgAV)) (mW m [(x, cObj d tb ob fb c), (tb, tObj c.things)])) :
    ACalls Try.prog 62 [pT x] (mW m [(x, cObj d tb ob fb c), (tb, tObj c.things)]) K := by
  have h4 := h.tl; have h3 := h.nx1
  exact u_All x d tb ob fb c hN (by omega) h.nd (fun p hp => by have q := h.ids p hp; exact ⟨q.1, ⟨q.2.1.1, by omega⟩, q.2.2⟩) m K (by rw [h.all]; exact hK)
theorem spoil_form (c : ClSt) (id : Int) (v : Val) : ∃ t2, spoilC c id v = { c with things := t2 } := by
  unfold spoilC; split
  · exact ⟨_, rfl⟩
  · exact ⟨c.things, rfl⟩
theorem u_CSpoilF (x d tb ob fb : Nat) (c : ClSt) (id : Int) (v : Val) (t2 : List (Int × Thg)) (ht2 : spoilC c id v = { c with things := t2 }) (hN : [x, tb].Nodup) (hl : c.things.length ≤ 1000000) (m : AMem) (K : AV → AMem → Prop) (hK : K (.tuple []) (mW m [(x, cObj d tb ob fb c), (tb, tObj t2)])) :
    ACalls Try.prog 57 [pT x, iT id, valTop v] (mW m [(x, cObj d tb ob fb c), (tb, tObj c.things)]) K :=
  u_CSpoil x d tb ob fb c id v hN hl m K (by rw [ht2]; exact hK)
theorem u_RSpoilF (r e : Nat) (c : ClSt) (F : List Int) (id : Int) (v : Val) (t2 : List (Int × Thg)) (ht2 : spoilC c id v = { c with things := t2 }) {m : AMem} {H : List (Nat × AObj)} {av : AV} {ks : List Nat} (hT : HidR thgAV m ks H av (vals c)) (hr : r ∈ ks) (hl : c.things.length ≤ 1000000) (hids : ∀ p ∈ c.things, p.2.id = p.1) (hB : depV v ≤ 1000000000000) (K : AV → AMem → Prop)
    (hK : ∀ H' av', HidR thgAV m ks H' av' (vals ({ c with things := t2 } : ClSt)) → K (.tuple []) ((m.wth H').wth [(r, rcObj e av' ({ c with things := t2 } : ClSt) F)])) :
    ACalls Try.prog 58 [pT r, iT id, valTop v] ((m.wth H).wth [(r, rcObj e av c F)]) K :=
  u_RSpoil r e c F id v hT hr hl hids hB K (fun H' av' h => by rw [ht2] at h ⊢; exact hK H' av' h)
theorem HidR.add {m : AMem} {ks : List Nat} {H : List (Nat × AObj)} {av : AV} {l : List Thg} (h : HidR thgAV m ks H av l) {c : Nat} (hc : (m.wth H) c = none) : HidR thgAV m (c :: ks) H av l := ⟨h.nd, fun z hz => ⟨(h.fr z hz).1, fun k => by
  rcases List.mem_cons.1 k with rfl | k
  · exact hid_nin hc hz
  · exact (h.fr z hz).2 k⟩, h.sh⟩
theorem u_CNewBad (d : Nat) (z : Int) (hz : ¬ (0 ≤ z ∧ z ≤ 40)) (m : AMem)  (K : AV → AMem → Prop) (hK : K (.tuple [.nilptr, .err 108 1]) m) : ACalls Try.prog 46 [pT d, iT z] m K := by
 refine acalls_enter Try.func46 rfl (by decide) (nB rfl) ?_
 show AWP _ _ _ _ [(0, pT d), (1, iT z)] m
 refine rS [] [0, 1] (by decide) ?_
 intro K1 hK1
 refine ⟨tv, tv, ?_⟩
 show K1 [(0, pT d), (1, iT z)] m
 refine hK1 _ _ ?_; clear hK1 K1
 refine sK ?_; intro K2 hK2
 refine rS [] [0, 1, 11] (by decide) ?_
 intro K1 hK1
 suffices key : K1 [(0, pT d), (1, iT z), (11, .bool ((decide (z < 0)) || (decide (40 < z))))] m by
  refine ⟨tv, tv, tv, ?_⟩
  show aopsR _ _ _ _ _ [(8, .bool (decide (z < 0))), (7, .bool (decide (z < 0))), (6, iT z), (0, pT d), (1, iT z)] _
  revert key
  cases h1 : (decide (z < 0))
  ·
   replace h1 : 0 ≤ z := (Int.not_lt.1 (of_decide_eq_false h1))
   intro key
   refine ⟨tv, tv, ?_⟩
   exact key
  ·
   replace h1 : z < 0 := (of_decide_eq_true h1)
   intro key
   refine ar_off rfl (ar_off rfl ?_)
   exact key
 refine hK1 _ _ ?_; clear hK1 K1
 refine cD rfl rfl (fun h2 => ?_) (fun h2 => ?_)
 ·
  replace h2 : (z < 0) ∨ (40 < z) := ((borT h2).imp (fun q => (of_decide_eq_true q)) (fun q => (of_decide_eq_true q)))
  refine rS [] [4, 5] (by decide) ?_
  intro K1 hK1
  refine ⟨tv, tv, tv, ?_⟩
  show K1 [(4, .nilptr), (5, .iface 108 (iT 1))] m
  refine hK1 _ _ ?_; clear hK1 K1
  refine awp_toErr 108 [5] ?_
  show AWP _ _ _ _ [(4, .nilptr), (5, .err 108 1)] m
  refine awp_ret ?_
  refine ⟨tv, tv, m, fun _ _ h => h, ?_⟩
  show K (.tuple [.nilptr, .err 108 1]) m
 
  exact hK
 replace h2 : (0 ≤ z) ∧ (z ≤ 40) := ⟨(Int.not_lt.1 (of_decide_eq_false (borL h2))), (Int.not_lt.1 (of_decide_eq_false (borR h2)))⟩
 omega
def cA : ClSt := ⟨[], [], 1, 3, 0, []⟩
def rA : (ClSt × DSt) × (Int × Int) := createR cA s0 ([116] : List UInt8) ([118, 109] : List UInt8) vZ
def cA1 : ClSt := rA.1.1
def sA1 : DSt := rA.1.2
def rB : (ClSt × DSt) × (Int × Int) := createR cA1 sA1 ([116] : List UInt8) ([118, 109] : List UInt8) vZ
def cA2 : ClSt := rB.1.1
def sA2 : DSt := rB.1.2
theorem tkA : TK cA s0 0 := ⟨⟨rfl, rfl⟩, Int.le_refl _, Int.le_refl _, rfl, by decide, by decide, Int.le_refl _, Int.le_refl _, Nat.le_refl _, Nat.le_refl _, List.nodup_nil, fun p hp => by cases hp⟩
theorem rA_eq : rA = (({ cA with calls := 1, next := 2, things := [(1, ⟨1, ([118, 109] : List UInt8), vZ⟩)], tokens := [(([116] : List UInt8), ⟨1, 1⟩)] }, (stepF s0).1), (1, 0)) := by
  unfold rA
  rw [tkA.create_3 (by rfl) (by decide) ⟨rfl, rfl⟩ (by decide)]
  rfl
theorem tkA1 : TK cA1 sA1 1 := (tkA.create2 (token := ([116] : List UInt8)) (kind := ([118, 109] : List UInt8)) (v := vZ)).k1
theorem tkA2 : TK cA2 sA2 2 := (tkA.create2 (token := ([116] : List UInt8)) (kind := ([118, 109] : List UInt8)) (v := vZ)).k2
theorem rB_eq : rB = (({ cA1 with calls := cA1.calls + 1 }, (stepF sA1).1), (1, 0)) := by
  unfold rB
  rw [tkA1.create_1 (by rfl) (by decide) (by rw [show cA1 = { cA with calls := 1, next := 2, things := [(1, ⟨1, ([118, 109] : List UInt8), vZ⟩)], tokens := [(([116] : List UInt8), ⟨1, 1⟩)] } from by unfold cA1; rw [rA_eq]]; exact .inr rfl)]
  rw [show tokX cA1 ([116] : List UInt8) 1 = (⟨1, 1⟩, true, 0) from by rw [show cA1 = { cA with calls := 1, next := 2, things := [(1, ⟨1, ([118, 109] : List UInt8), vZ⟩)], tokens := [(([116] : List UInt8), ⟨1, 1⟩)] } from by unfold cA1; rw [rA_eq]]; rfl]
theorem cA2_eq : cA2.calls = 2 ∧ allT cA2 = [(⟨1, ([118, 109] : List UInt8), vZ⟩ : Thg)] := by
  have e : cA2 = { cA with calls := 2, next := 2, things := [(1, ⟨1, ([118, 109] : List UInt8), vZ⟩)], tokens := [(([116] : List UInt8), ⟨1, 1⟩)] } := by
    unfold cA2; rw [rB_eq]; unfold cA1; rw [rA_eq]; rfl
  rw [e]
  exact ⟨rfl, by simp [allT, sortT]⟩
theorem u_Calls2 (x d tb ob fb : Nat) (m : AMem) (K : AV → AMem → Prop) (hK : K (iT 2) (mW m [(x, cObj d tb ob fb cA2)])) : ACalls Try.prog 60 [pT x] (mW m [(x, cObj d tb ob fb cA2)]) K :=
  u_CCalls x d tb ob fb cA2 m K (by rw [cA2_eq.1]; exact hK)
set_option maxHeartbeats 4000000 in
theorem u_rains   (m : AMem)  (K : AV → AMem → Prop) (hK : K (.bool true) m) : ACalls Try.prog 45 [] m K := by
 refine acalls_enter Try.func45 rfl (by decide) (nB rfl) ?_
 show AWP _ _ _ _ [] m
 refine rS [] [] (by decide) ?_
 intro K1 hK1
 refine ⟨tv, ?_⟩
 show K1 [] m
 refine hK1 _ _ ?_; clear hK1 K1
 refine rS [] [1, 2] (by decide) ?_
 intro K1 hK1
 refine u_New0 _ _ ?_
 intro b1 b2 b3 hqb1 hb1 hb2 hb3
 have hFb1 : m b1 = none := wth_none (m := m) (L := []) hb1
 have hFb2 : m b2 = none := wth_none (m := m) (L := []) hb2
 have hFb3 : m b3 = none := wth_none (m := m) (L := []) hb3
 have hNb1 : ([b1, b2, b3] : List Nat).Nodup := wth_news (m := m) (L := []) hqb1 (by simp only [List.forall_mem_cons]; exact ⟨hb1, hb2, hb3, nfA⟩) List.nodup_nil
 show aopsR _ _ _ _ _ _ (mW m [(b1, .cells [.map b3, .map b2, sT (s0.wait.map chgAV), iT s0.fuse, .bool s0.down, iT s0.steps]), (b2, .map (List.map (mapAV strAV strAV) s0.now)), (b3, .map (List.map (mapAV strAV strAV) s0.kept))])
 refine u_CNew b1 3 (by decide) (by decide) _ _ ?_
 intro b4 b5 b6 b7 hqb4 hb4 hb5 hb6 hb7
 have hFb4 : m b4 = none := wth_none hb4
 have hFb5 : m b5 = none := wth_none hb5
 have hFb6 : m b6 = none := wth_none hb6
 have hFb7 : m b7 = none := wth_none hb7
 have hNb4 : ([b4, b5, b6, b7, b1, b2, b3] : List Nat).Nodup := wth_news (m := m) (L := [(b1, .cells [.map b3, .map b2, sT (s0.wait.map chgAV), iT s0.fuse, .bool s0.down, iT s0.steps]), (b2, .map (List.map (mapAV strAV strAV) s0.now)), (b3, .map (List.map (mapAV strAV strAV) s0.kept))]) hqb4 (by simp only [List.forall_mem_cons]; exact ⟨hb4, hb5, hb6, hb7, nfA⟩) hNb1
 show aopsR _ _ _ _ _ _ (mW m [(b4, cObj b1 b7 b6 b5 cA), (b5, fObj cA.fails), (b6, oObj cA.tokens), (b7, tObj cA.things), (b1, .cells [.map b3, .map b2, sT (s0.wait.map chgAV), iT s0.fuse, .bool s0.down, iT s0.steps]), (b2, .map (List.map (mapAV strAV strAV) s0.now)), (b3, .map (List.map (mapAV strAV strAV) s0.kept))])
 refine ⟨tv, (nB rfl), (nB rfl), tv, tv, ?_⟩
 show K1 [(1, pT b4), (2, .err 108 0)] (mW m [(b4, cObj b1 b7 b6 b5 cA), (b5, fObj cA.fails), (b6, oObj cA.tokens), (b7, tObj cA.things), (b1, .cells [.map b3, .map b2, sT (s0.wait.map chgAV), iT s0.fuse, .bool s0.down, iT s0.steps]), (b2, .map (List.map (mapAV strAV strAV) s0.now)), (b3, .map (List.map (mapAV strAV strAV) s0.kept))])
 refine hK1 _ _ ?_; clear hK1 K1
 refine sK ?_; intro K2 hK2
 refine rS [] [1, 17] (by decide) ?_
 intro K1 hK1
 suffices key : K1 [(1, pT b4), (17, .bool false)] (mW m [(b4, cObj b1 b7 b6 b5 cA), (b5, fObj cA.fails), (b6, oObj cA.tokens), (b7, tObj cA.things), (b1, .cells [.map b3, .map b2, sT (s0.wait.map chgAV), iT s0.fuse, .bool s0.down, iT s0.steps]), (b2, .map (List.map (mapAV strAV strAV) s0.now)), (b3, .map (List.map (mapAV strAV strAV) s0.kept))]) by
  refine ⟨tv, ⟨rfl, rfl⟩, tv, tv, rfl, ?_⟩
  exact key
 refine hK1 _ _ ?_; clear hK1 K1
 refine cD rfl rfl (fun hcz => ?_) (fun hcz => ?_)
 ·
  cases hcz
 clear hcz
 refine awp_skip ?_
 refine hK2 _ _ ?_; clear hK2
 refine rS [] [1, 3, 4] (by decide) ?_
 intro K1 hK1
 refine ⟨tv, ⟨rfl, by simp only [List.forall_mem_cons]; exact ⟨rfl, rfl, rfl, rfl, rfl, nfA⟩, by simp only [List.forall_mem_cons]; exact ⟨rfl, nfA⟩⟩, ?_⟩
 refine ar_mem (wS hNb4 (pick_perm [0, 3, 2, 1, 0] _)) ?_
 refine u_CreateK b4 b1 b7 b6 b5 b3 b2 cA s0 ([116] : List UInt8) ([118, 109] : List UInt8) vZ 0 (rA.1, (1, 0)) (Prod.ext rfl (cgA Prod.snd rA_eq)) (by have hQ := hNb4; simp at hQ ⊢; omega) tkA (by decide) (by decide) _ _ ?_
 refine ar_mem (wS (m := m) (L := [(b4, cObj b1 b7 b6 b5 cA1), (b5, fObj cA1.fails), (b6, oObj cA1.tokens), (b7, tObj cA1.things), (b1, .cells [.map b3, .map b2, sT (sA1.wait.map chgAV), iT sA1.fuse, .bool sA1.down, iT sA1.steps]), (b2, .map (List.map (mapAV strAV strAV) s0.now)), (b3, .map (List.map (mapAV strAV strAV) s0.kept))]) hNb4 (pick_perm [0, 3, 2, 1, 0] _)).symm ?_
 refine ⟨tv, (nB rfl), (nB rfl), tv, tv, ?_⟩
 show K1 [(1, pT b4), (3, iT 1), (4, .err 108 0)] (mW m [(b4, cObj b1 b7 b6 b5 cA1), (b5, fObj cA1.fails), (b6, oObj cA1.tokens), (b7, tObj cA1.things), (b1, .cells [.map b3, .map b2, sT (sA1.wait.map chgAV), iT sA1.fuse, .bool sA1.down, iT sA1.steps]), (b2, .map (List.map (mapAV strAV strAV) s0.now)), (b3, .map (List.map (mapAV strAV strAV) s0.kept))])
 refine hK1 _ _ ?_; clear hK1 K1
 refine rS [] [1, 3, 4, 5, 6] (by decide) ?_
 intro K1 hK1
 refine ⟨tv, ⟨rfl, by simp only [List.forall_mem_cons]; exact ⟨rfl, rfl, rfl, rfl, rfl, nfA⟩, by simp only [List.forall_mem_cons]; exact ⟨rfl, nfA⟩⟩, ?_⟩
 refine ar_mem (wS hNb4 (pick_perm [0, 3, 2, 1, 0] _)) ?_
 refine u_CreateK b4 b1 b7 b6 b5 b3 b2 cA1 sA1 ([116] : List UInt8) ([118, 109] : List UInt8) vZ 1 (rB.1, (1, 0)) (Prod.ext rfl (cgA Prod.snd rB_eq)) (by have hQ := hNb4; simp at hQ ⊢; omega) tkA1 (by decide) (by decide) _ _ ?_
 refine ar_mem (wS (m := m) (L := [(b4, cObj b1 b7 b6 b5 cA2), (b5, fObj cA2.fails), (b6, oObj cA2.tokens), (b7, tObj cA2.things), (b1, .cells [.map b3, .map b2, sT (sA2.wait.map chgAV), iT sA2.fuse, .bool sA2.down, iT sA2.steps]), (b2, .map (List.map (mapAV strAV strAV) s0.now)), (b3, .map (List.map (mapAV strAV strAV) s0.kept))]) hNb4 (pick_perm [0, 3, 2, 1, 0] _)).symm ?_
 refine ⟨tv, (nB rfl), (nB rfl), tv, tv, ?_⟩
 show K1 [(1, pT b4), (3, iT 1), (4, .err 108 0), (5, iT 1), (6, .err 108 0)] (mW m [(b4, cObj b1 b7 b6 b5 cA2), (b5, fObj cA2.fails), (b6, oObj cA2.tokens), (b7, tObj cA2.things), (b1, .cells [.map b3, .map b2, sT (sA2.wait.map chgAV), iT sA2.fuse, .bool sA2.down, iT sA2.steps]), (b2, .map (List.map (mapAV strAV strAV) s0.now)), (b3, .map (List.map (mapAV strAV strAV) s0.kept))])
 refine hK1 _ _ ?_; clear hK1 K1
 refine rS [] [0] (by decide) ?_
 intro K1 hK1
 suffices key : K1 [(0, .bool true)] (mW m [(b4, cObj b1 b7 b6 b5 cA2), (b5, fObj cA2.fails), (b6, oObj cA2.tokens), (b7, tObj cA2.things), (b1, .cells [.map b3, .map b2, sT (sA2.wait.map chgAV), iT sA2.fuse, .bool sA2.down, iT sA2.steps]), (b2, .map (List.map (mapAV strAV strAV) s0.now)), (b3, .map (List.map (mapAV strAV strAV) s0.kept))]) by
  refine ⟨tv, ?_⟩
  refine u_same_eq 0 (by decide) _ _ ?_
  refine ⟨tv, tv, ?_⟩
  refine u_same_eq 0 (by decide) _ _ ?_
  refine ⟨tv, tv, tv, ?_⟩
  refine ar_top 38 (.bool true) (cgA AV.bool (by simp)) ?_
  refine ⟨tv, tv, tv, ?_⟩
  refine ar_top 42 (.bool true) (cgA AV.bool (by simp)) ?_
  refine ⟨tv, tv, ?_⟩
  refine ar_mem (wS hNb4 (pick_perm [0, 2] _)) ?_
  refine u_AllK b4 b1 b7 b6 b5 cA2 sA2 2 [(⟨1, ([118, 109] : List UInt8), vZ⟩ : Thg)] cA2_eq.2 (by have hQ := hNb4; simp at hQ ⊢; omega) tkA2 (by decide) _ _ ?_
  refine ar_mem (wS (m := m) (L := [(b4, cObj b1 b7 b6 b5 cA2), (b5, fObj cA2.fails), (b6, oObj cA2.tokens), (b7, tObj cA2.things), (b1, .cells [.map b3, .map b2, sT (sA2.wait.map chgAV), iT sA2.fuse, .bool sA2.down, iT sA2.steps]), (b2, .map (List.map (mapAV strAV strAV) s0.now)), (b3, .map (List.map (mapAV strAV strAV) s0.kept))]) hNb4 (pick_perm [0, 2] _)).symm ?_
  refine ⟨tv, tv, ?_⟩
  refine ar_top 48 (.bool true) (cgA AV.bool (by simp)) ?_
  refine ⟨tv, tv, ?_⟩
  refine ar_mem (wS hNb4 (pick_perm [0] _)) ?_
  refine u_Calls2 b4 b1 b7 b6 b5 _ _ ?_
  refine ar_mem (wS (m := m) (L := [(b4, cObj b1 b7 b6 b5 cA2), (b5, fObj cA2.fails), (b6, oObj cA2.tokens), (b7, tObj cA2.things), (b1, .cells [.map b3, .map b2, sT (sA2.wait.map chgAV), iT sA2.fuse, .bool sA2.down, iT sA2.steps]), (b2, .map (List.map (mapAV strAV strAV) s0.now)), (b3, .map (List.map (mapAV strAV strAV) s0.kept))]) hNb4 (pick_perm [0] _)).symm ?_
  refine ⟨tv, ?_⟩
  refine ar_top 53 (.bool true) (cgA AV.bool (by simp)) ?_
  refine ⟨tv, ?_⟩
  exact key
 refine hK1 _ _ ?_; clear hK1 K1
 refine awp_ret ?_
 refine ⟨tv, m, (wth_sub2 (m := m) [(b4, cObj b1 b7 b6 b5 cA2), (b5, fObj cA2.fails), (b6, oObj cA2.tokens), (b7, tObj cA2.things), (b1, .cells [.map b3, .map b2, sT (sA2.wait.map chgAV), iT sA2.fuse, .bool sA2.down, iT sA2.steps]), (b2, .map (List.map (mapAV strAV strAV) s0.now)), (b3, .map (List.map (mapAV strAV strAV) s0.kept))] [] hNb4 (by simp only [List.map_cons, List.map_nil, List.forall_mem_cons]; exact ⟨hFb4, hFb5, hFb6, hFb7, hFb1, hFb2, hFb3, nfA⟩)), ?_⟩
 show K (.bool true) m
 exact hK
end Go.Proofs
end
