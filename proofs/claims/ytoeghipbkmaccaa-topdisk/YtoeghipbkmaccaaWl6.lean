import Derived.Test.YtoeghipbkmaccaaProg
import Derived.Test.YtoeghipbkmaccaaWl2
section
namespace Go.Proofs
open Go Go.Aw
set_option maxRecDepth 100000


set_option maxHeartbeats 4000000 in
theorem u_do (d kb nb : Nat) (s : DSt) (c : Chg) (N : Nat) (hN : [d, nb].Nodup) (hD : DInv N s) (hNN : N ≤ 100000) (hc : c.data.length ≤ 4000) (m : AMem)  (K : AV → AMem → Prop) (hK : K (.err 108 (doF s c).2) (AMem.wth m [(d, dObj kb nb (doF s c).1), (nb, mObj (doF s c).1.now)])) : ACalls Try.prog 69 [.ptr ⟨d, 0, none⟩, chgAV c] (AMem.wth m [(d, dObj kb nb s), (nb, mObj s.now)]) K := by
 have hk := stepF_keep s
 have hk3 := hk.2.2.1
 have hwl := hD.kl
 have hkw : (stepF s).1.wait.length ≤ 100000 := by rw [hk3]; omega
 refine acalls_enter Try.func69 rfl (by decide) (Nat.le_of_ble_eq_true rfl) ?_
 show AWP _ _ _ _ [(0, .ptr ⟨d, 0, none⟩), (1, chgAV c)] (AMem.wth m [(d, dObj kb nb s), (nb, mObj s.now)])
 refine awp_reg2_seq [] [0, 3] (by decide) ?_
 intro K1 hK1
 refine ar_box rfl (m := m) (L := [(d, dObj kb nb s), (nb, mObj s.now)]) (v := chgAV c) (by rfl) rfl ?_
 intro b1 hb1
 have hFb1 : m b1 = none := wth_none (m := m) (L := [(d, dObj kb nb s), (nb, mObj s.now)]) hb1
 have hNb1 : ([b1, d, nb] : List Nat).Nodup := wth_nodup (m := m) (L := [(d, dObj kb nb s), (nb, mObj s.now)]) hb1 hN
 refine ⟨trivial, ?_⟩
 show K1 [(0, .ptr ⟨d, 0, none⟩), (3, .ptr ⟨b1, 0, none⟩)] (AMem.wth m [(b1, .cells [.str c.name, .str c.data, .str c.to, .int .i64 c.kind]), (d, dObj kb nb s), (nb, mObj s.now)])
 refine hK1 _ _ ?_; clear hK1 K1
 refine awp_reg2_seq [] [0, 3, 5] (by decide) ?_
 intro K1 hK1
 refine ⟨trivial, ?_⟩
 refine ar_mem (wth_split hNb1 (pick_perm [1] _)) ?_
 refine u_Step d kb nb s hD.st0 (by have := hD.st1; omega) hD.fu0 hD.fu1 _ _ ?_
 show aopsR _ _ _ _ _ _ (AMem.wth (AMem.wth m [(b1, .cells [.str c.name, .str c.data, .str c.to, .int .i64 c.kind]), (nb, mObj s.now)]) [(d, dObj kb nb ((stepF s).1))])
 refine ar_mem (wth_split (m := m) (L := [(b1, .cells [.str c.name, .str c.data, .str c.to, .int .i64 c.kind]), (d, dObj kb nb ((stepF s).1)), (nb, mObj s.now)]) hNb1 (pick_perm [1] _)).symm ?_
 refine ⟨trivial, ?_⟩
 show K1 [(0, .ptr ⟨d, 0, none⟩), (3, .ptr ⟨b1, 0, none⟩), (5, .err 108 ((stepF s).2))] (AMem.wth m [(b1, .cells [.str c.name, .str c.data, .str c.to, .int .i64 c.kind]), (d, dObj kb nb ((stepF s).1)), (nb, mObj s.now)])
 refine hK1 _ _ ?_; clear hK1 K1
 refine awp_seq_k ?_; intro K2 hK2
 refine awp_reg2_seq [] [0, 3, 5, 9] (by decide) ?_
 intro K1 hK1
 refine ⟨trivial, ⟨rfl, rfl⟩, ?_⟩
 show K1 [(0, .ptr ⟨d, 0, none⟩), (3, .ptr ⟨b1, 0, none⟩), (5, .err 108 ((stepF s).2)), (9, .bool (!(((stepF s).2) == 0)))] (AMem.wth m [(b1, .cells [.str c.name, .str c.data, .str c.to, .int .i64 c.kind]), (d, dObj kb nb ((stepF s).1)), (nb, mObj s.now)])
 refine hK1 _ _ ?_; clear hK1 K1
 refine awp_cond rfl rfl (fun h1 => ?_) (fun h1 => ?_)
 ·
  replace h1 : (stepF s).2 ≠ 0 := (ne_of_beq_false (bnT h1))
  refine awp_reg2_seq [] [4] (by decide) ?_
  intro K1 hK1
  refine ⟨trivial, trivial, ?_⟩
  show K1 [(4, .err 108 ((stepF s).2))] (AMem.wth m [(b1, .cells [.str c.name, .str c.data, .str c.to, .int .i64 c.kind]), (d, dObj kb nb ((stepF s).1)), (nb, mObj s.now)])
  refine hK1 _ _ ?_; clear hK1 K1
  refine awp_ret ?_
  refine ⟨trivial, (AMem.wth m [(d, dObj kb nb ((stepF s).1)), (nb, mObj s.now)]), (wth_sub2 (m := m) [(b1, .cells [.str c.name, .str c.data, .str c.to, .int .i64 c.kind])] [(d, dObj kb nb ((stepF s).1)), (nb, mObj s.now)] hNb1 (by simp only [List.map_cons, List.map_nil, List.forall_mem_cons]; exact ⟨hFb1, fun _ h => by cases h⟩)), ?_⟩
  show K (.err 108 ((stepF s).2)) (AMem.wth m [(d, dObj kb nb ((stepF s).1)), (nb, mObj s.now)])
 
  have e0 : doF s c = (((⟨((stepF s).1).kept, s.now, ((stepF s).1).wait, ((stepF s).1).fuse, (((stepF s).1).down), ((stepF s).1).steps⟩ : DSt), (stepF s).2) : DSt × Int) := by
   first | (rw [doF, if_pos h1, ← hk.2.1]; done) | (rw [doF, if_neg (by omega)]; simp only [hk.1, hk3]; done)
  rw [e0] at hK
  exact hK
 replace h1 : (stepF s).2 = 0 := (eq_of_beq (bnF h1))
 refine awp_skip ?_
 refine hK2 _ _ ?_; clear hK2
 refine awp_draw_memP_seq Try.mixed [(5, 16)] [(5, 16, .tuple [])] [(AMem.wth m [(b1, .cells [.str c.name, .str c.data, .str c.to, .int .i64 c.kind]), (d, dObj kb nb ((stepF s).1)), (nb, mObj s.now)]), (AMem.wth m [(b1, .cells [.str c.name, .str c.data, .str c.to, .int .i64 c.kind]), (d, dObj kb nb ((stepF s).1)), (nb, mObj (applyC s.now c))])] [] [0, 3] [(15, .agg [.str c.name, .str c.data, .str c.to, .int .i64 c.kind]), (14, .map nb), (13, .ptr ⟨d, 1, none⟩), (12, .ptr ⟨d, 0, none⟩), (11, .ptr ⟨d, 0, none⟩), (16, .tuple []), (0, .ptr ⟨d, 0, none⟩), (3, .ptr ⟨b1, 0, none⟩), (5, .err 108 ((stepF s).2)), (9, .bool (!(((stepF s).2) == 0)))] (AMem.wth m [(b1, .cells [.str c.name, .str c.data, .str c.to, .int .i64 c.kind]), (d, dObj kb nb ((stepF s).1)), (nb, mObj (applyC s.now c))]) (by decide) (by decide) (by decide) rfl rfl rfl rfl ?_ ?_ ?_
 ·
  refine ⟨?_, trivial⟩
  ·
   exact mem_call (wth_split (m := m) (L := [(b1, .cells [.str c.name, .str c.data, .str c.to, .int .i64 c.kind]), (d, dObj kb nb ((stepF s).1)), (nb, mObj s.now)]) hNb1 (pick_perm [2] _)) (wth_split (m := m) (L := [(b1, .cells [.str c.name, .str c.data, .str c.to, .int .i64 c.kind]), (d, dObj kb nb ((stepF s).1)), (nb, mObj (applyC s.now c))]) hNb1 (pick_perm [2] _)) (fun Kc hKc => u_apply nb s.now c (by have := hD.nl; omega) (fun p hp => by have := hD.nb p hp; omega) (by omega) _ Kc hKc)
 ·
  refine ⟨?_, ?_, trivial⟩
  ·
   show pseq _ _ _ _ _ [(16, .tuple []), (0, .ptr ⟨d, 0, none⟩), (3, .ptr ⟨b1, 0, none⟩), (5, .err 108 ((stepF s).2)), (9, .bool (!(((stepF s).2) == 0)))] _
   refine ⟨trivial, trivial, ⟨rfl, by decide⟩, ?_⟩
   refine pq_loadp rfl (v := .map nb) rfl (wth_get 1 hNb1 rfl) (apartOk_one rfl rfl (Nat.le_of_ble_eq_true rfl)) rfl ?_
   refine pq_loadp rfl (v := .agg [.str c.name, .str c.data, .str c.to, .int .i64 c.kind]) rfl (wth_get 0 hNb1 rfl) (apartOk_agg rfl rfl (Nat.le_of_ble_eq_true rfl)) rfl ?_
   exact rfl
  ·
   show pseq _ _ _ _ _ [(16, .tuple []), (0, .ptr ⟨d, 0, none⟩), (3, .ptr ⟨b1, 0, none⟩), (5, .err 108 ((stepF s).2)), (9, .bool (!(((stepF s).2) == 0)))] _
   refine ⟨trivial, trivial, ⟨rfl, by decide⟩, ?_⟩
   refine pq_loadp rfl (v := .map nb) rfl (wth_get 1 hNb1 rfl) (apartOk_one rfl rfl (Nat.le_of_ble_eq_true rfl)) rfl ?_
   refine pq_loadp rfl (v := .agg [.str c.name, .str c.data, .str c.to, .int .i64 c.kind]) rfl (wth_get 0 hNb1 rfl) (apartOk_agg rfl rfl (Nat.le_of_ble_eq_true rfl)) rfl ?_
   exact rfl
 intro K1 hK1
 show K1 [(0, .ptr ⟨d, 0, none⟩), (3, .ptr ⟨b1, 0, none⟩)] (AMem.wth m [(b1, .cells [.str c.name, .str c.data, .str c.to, .int .i64 c.kind]), (d, dObj kb nb ((stepF s).1)), (nb, mObj (applyC s.now c))])
 refine hK1 _ _ ?_; clear hK1 K1
 refine awp_anyA_seq Try.mixed [] (by decide) ?_
 intro K1 hK1
 intro A hA
 suffices key : ∀ (_ : True), K1 [] (AMem.wth m [(b1, .cells [.str c.name, .str c.data, .str c.to, .int .i64 c.kind]), (d, .cells [.map kb, .map nb, .slice true (((((stepF s).1).wait) ++ ([c] : List Chg)).map chgAV), .int .i64 (((stepF s).1).fuse), .bool (((stepF s).1).down), .int .i64 (((stepF s).1).steps)]), (nb, mObj (applyC s.now c))]) by
  have s0 : ∀ (_ : True), A 0 #[true, true, true, true, true, true, true, true, true, true, true] (fun fr m => K1 (fr.keep []) m) [] (AMem.wth m [(b1, .cells [.str c.name, .str c.data, .str c.to, .int .i64 c.kind]), (d, .cells [.map kb, .map nb, .slice true (((((stepF s).1).wait) ++ ([c] : List Chg)).map chgAV), .int .i64 (((stepF s).1).fuse), .bool (((stepF s).1).down), .int .i64 (((stepF s).1).steps)]), (nb, mObj (applyC s.now c))]) := by
   intro _
   subst hA
   exact AAny.done (by decide +kernel) (key trivial)
  have s1 : ∀ (_ : True), A 1 #[true, true, true, true, true, true, true, true, true, true, false] (fun fr m => K1 (fr.keep []) m) [(24, .slice true (((((stepF s).1).wait) ++ ([c] : List Chg)).map chgAV)), (26, .ptr ⟨d, 2, none⟩)] (AMem.wth m [(b1, .cells [.str c.name, .str c.data, .str c.to, .int .i64 c.kind]), (d, .cells [.map kb, .map nb, .slice false ((((stepF s).1).wait).map chgAV), .int .i64 (((stepF s).1).fuse), .bool (((stepF s).1).down), .int .i64 (((stepF s).1).steps)]), (nb, mObj (applyC s.now c))]) := by
   intro _
   subst hA
   refine AAny.step [21] [10] (by decide +kernel) (by simp) (by decide) ⟨?_, trivial⟩
   ·
    show aopsR _ _ _ [_] _ _ _
    refine ar_storep rfl 1 (v := .slice true (((((stepF s).1).wait) ++ ([c] : List Chg)).map chgAV)) (l' := [.map kb, .map nb, .slice true (((((stepF s).1).wait) ++ ([c] : List Chg)).map chgAV), .int .i64 (((stepF s).1).fuse), .bool (((stepF s).1).down), .int .i64 (((stepF s).1).steps)]) rfl rfl hNb1 rfl rfl rfl rfl rfl (Nat.le_of_ble_eq_true rfl) rfl ?_
    refine AAny.keep [] (by decide) ?_
    exact s0 trivial
  have s2 : ∀ (_ : True), A 2 #[true, true, true, true, true, true, true, true, true, false, false] (fun fr m => K1 (fr.keep []) m) [(24, .slice true (((((stepF s).1).wait) ++ ([c] : List Chg)).map chgAV)), (25, .ptr ⟨d, 0, none⟩)] (AMem.wth m [(b1, .cells [.str c.name, .str c.data, .str c.to, .int .i64 c.kind]), (d, .cells [.map kb, .map nb, .slice false ((((stepF s).1).wait).map chgAV), .int .i64 (((stepF s).1).fuse), .bool (((stepF s).1).down), .int .i64 (((stepF s).1).steps)]), (nb, mObj (applyC s.now c))]) := by
   intro _
   subst hA
   refine AAny.step [21] [9] (by decide +kernel) (by simp) (by decide) ⟨?_, trivial⟩
   ·
    show aopsR _ _ _ [_] _ _ _
    refine ⟨⟨rfl, by decide⟩, ?_⟩
    refine AAny.keep [24, 26] (by decide) ?_
    exact s1 trivial
  have s3 : ∀ (_ : True), A 3 #[true, true, true, true, true, true, true, true, false, false, false] (fun fr m => K1 (fr.keep []) m) [(17, .ptr ⟨d, 0, none⟩), (24, .slice true (((((stepF s).1).wait) ++ ([c] : List Chg)).map chgAV))] (AMem.wth m [(b1, .cells [.str c.name, .str c.data, .str c.to, .int .i64 c.kind]), (d, .cells [.map kb, .map nb, .slice false ((((stepF s).1).wait).map chgAV), .int .i64 (((stepF s).1).fuse), .bool (((stepF s).1).down), .int .i64 (((stepF s).1).steps)]), (nb, mObj (applyC s.now c))]) := by
   intro _
   subst hA
   refine AAny.step [21] [8] (by decide +kernel) (by simp) (by decide) ⟨?_, trivial⟩
   ·
    show aopsR _ _ _ [_] _ _ _
    refine ⟨trivial, ?_⟩
    refine AAny.keep [24, 25] (by decide) ?_
    exact s2 trivial
  have s4 : ∀ (_ : True), A 4 #[true, true, true, true, true, true, true, false, false, false, false] (fun fr m => K1 (fr.keep []) m) [(17, .ptr ⟨d, 0, none⟩), (21, .slice true ((((stepF s).1).wait).map chgAV)), (23, .slice true [.agg [.str c.name, .str c.data, .str c.to, .int .i64 c.kind]])] (AMem.wth m [(b1, .cells [.str c.name, .str c.data, .str c.to, .int .i64 c.kind]), (d, .cells [.map kb, .map nb, .slice false ((((stepF s).1).wait).map chgAV), .int .i64 (((stepF s).1).fuse), .bool (((stepF s).1).down), .int .i64 (((stepF s).1).steps)]), (nb, mObj (applyC s.now c))]) := by
   intro _
   subst hA
   refine AAny.step [21] [7] (by decide +kernel) (by simp) (by decide) ⟨?_, trivial⟩
   ·
    show aopsR _ _ _ [_] _ _ _
    refine ar_append rfl chgAV (((stepF s).1).wait) ([c] : List Chg) rfl rfl rfl rfl rfl rfl (Nat.le_of_ble_eq_true rfl) rfl (by (simp only [show Try.prog.bytesOf 107 = 56 from rfl, List.length_append, List.length_cons, List.length_nil]; omega)) (by (first | omega | (simp only [List.length_append, List.length_cons, List.length_nil]; omega))) (fun _ => ⟨rfl, rfl⟩) ?_
    refine AAny.keep [17, 24] (by decide) ?_
    exact s3 trivial
  have s5 : ∀ (_ : True), A 4 #[false, true, true, true, true, true, true, true, false, false, false] (fun fr m => K1 (fr.keep []) m) [(0, .ptr ⟨d, 0, none⟩), (24, .slice true (((((stepF s).1).wait) ++ ([c] : List Chg)).map chgAV))] (AMem.wth m [(b1, .cells [.str c.name, .str c.data, .str c.to, .int .i64 c.kind]), (d, .cells [.map kb, .map nb, .slice false ((((stepF s).1).wait).map chgAV), .int .i64 (((stepF s).1).fuse), .bool (((stepF s).1).down), .int .i64 (((stepF s).1).steps)]), (nb, mObj (applyC s.now c))]) := by
   intro _
   subst hA
   refine AAny.step [21] [0] (by decide +kernel) (by simp) (by decide) ⟨?_, trivial⟩
   ·
    show aopsR _ _ _ [_] _ _ _
    refine ⟨trivial, ?_⟩
    refine AAny.keep [17, 24] (by decide) ?_
    exact s3 trivial
  have s6 : ∀ (_ : True), A 5 #[true, true, true, true, true, true, false, false, false, false, false] (fun fr m => K1 (fr.keep []) m) [(17, .ptr ⟨d, 0, none⟩), (21, .slice true ((((stepF s).1).wait).map chgAV)), (22, .agg [.str c.name, .str c.data, .str c.to, .int .i64 c.kind])] (AMem.wth m [(b1, .cells [.str c.name, .str c.data, .str c.to, .int .i64 c.kind]), (d, .cells [.map kb, .map nb, .slice false ((((stepF s).1).wait).map chgAV), .int .i64 (((stepF s).1).fuse), .bool (((stepF s).1).down), .int .i64 (((stepF s).1).steps)]), (nb, mObj (applyC s.now c))]) := by
   intro _
   subst hA
   refine AAny.step [21] [6] (by decide +kernel) (by simp) (by decide) ⟨?_, trivial⟩
   ·
    show aopsR _ _ _ [_] _ _ _
    refine ⟨⟨rfl, Nat.le_of_ble_eq_true rfl, rfl, Nat.le_of_ble_eq_true rfl, rfl, by simp only [List.forall_mem_cons]; exact ⟨⟨rfl, rfl⟩, fun _ h => by cases h⟩⟩, ?_⟩
    refine AAny.keep [17, 21, 23] (by decide) ?_
    exact s4 trivial
  have s7 : ∀ (_ : True), A 5 #[true, true, true, true, false, true, true, false, false, false, false] (fun fr m => K1 (fr.keep []) m) [(17, .ptr ⟨d, 0, none⟩), (20, .ptr ⟨d, 2, none⟩), (23, .slice true [.agg [.str c.name, .str c.data, .str c.to, .int .i64 c.kind]])] (AMem.wth m [(b1, .cells [.str c.name, .str c.data, .str c.to, .int .i64 c.kind]), (d, dObj kb nb ((stepF s).1)), (nb, mObj (applyC s.now c))]) := by
   intro _
   subst hA
   refine AAny.step [21] [4] (by decide +kernel) (by simp) (by decide) ⟨?_, trivial⟩
   ·
    show aopsR _ _ _ [_] _ _ _
    refine ar_loads rfl (i := 1) rfl hNb1 rfl rfl rfl rfl (Nat.le_of_ble_eq_true rfl) ?_
    refine AAny.keep [17, 21, 23] (by decide) ?_
    exact s4 trivial
  have s8 : ∀ (_ : True), A 5 #[false, true, true, true, true, true, true, false, false, false, false] (fun fr m => K1 (fr.keep []) m) [(0, .ptr ⟨d, 0, none⟩), (21, .slice true ((((stepF s).1).wait).map chgAV)), (23, .slice true [.agg [.str c.name, .str c.data, .str c.to, .int .i64 c.kind]])] (AMem.wth m [(b1, .cells [.str c.name, .str c.data, .str c.to, .int .i64 c.kind]), (d, .cells [.map kb, .map nb, .slice false ((((stepF s).1).wait).map chgAV), .int .i64 (((stepF s).1).fuse), .bool (((stepF s).1).down), .int .i64 (((stepF s).1).steps)]), (nb, mObj (applyC s.now c))]) := by
   intro _
   subst hA
   refine AAny.step [21] [0, 7] (by decide +kernel) (by simp) (by decide) ⟨?_, ?_, trivial⟩
   ·
    show aopsR _ _ _ [_] _ _ _
    refine ⟨trivial, ?_⟩
    refine AAny.keep [17, 21, 23] (by decide) ?_
    exact s4 trivial
   ·
    show aopsR _ _ _ [_] _ _ _
    refine ar_append rfl chgAV (((stepF s).1).wait) ([c] : List Chg) rfl rfl rfl rfl rfl rfl (Nat.le_of_ble_eq_true rfl) rfl (by (simp only [show Try.prog.bytesOf 107 = 56 from rfl, List.length_append, List.length_cons, List.length_nil]; omega)) (by (first | omega | (simp only [List.length_append, List.length_cons, List.length_nil]; omega))) (fun _ => ⟨rfl, rfl⟩) ?_
    refine AAny.keep [0, 24] (by decide) ?_
    exact s5 trivial
  have s9 : ∀ (_ : True), A 6 #[true, true, true, true, true, false, false, false, false, false, false] (fun fr m => K1 (fr.keep []) m) [(3, .ptr ⟨b1, 0, none⟩), (17, .ptr ⟨d, 0, none⟩), (21, .slice true ((((stepF s).1).wait).map chgAV))] (AMem.wth m [(b1, .cells [.str c.name, .str c.data, .str c.to, .int .i64 c.kind]), (d, .cells [.map kb, .map nb, .slice false ((((stepF s).1).wait).map chgAV), .int .i64 (((stepF s).1).fuse), .bool (((stepF s).1).down), .int .i64 (((stepF s).1).steps)]), (nb, mObj (applyC s.now c))]) := by
   intro _
   subst hA
   refine AAny.step [21] [5] (by decide +kernel) (by simp) (by decide) ⟨?_, trivial⟩
   ·
    show aopsR _ _ _ [_] _ _ _
    refine ar_loadp rfl (v := .agg [.str c.name, .str c.data, .str c.to, .int .i64 c.kind]) rfl (wth_get 0 hNb1 rfl) rfl (apartOk_agg rfl rfl (Nat.le_of_ble_eq_true rfl)) rfl ?_
    refine AAny.keep [17, 21, 22] (by decide) ?_
    exact s6 trivial
  have s10 : ∀ (_ : True), A 6 #[true, true, true, true, false, true, false, false, false, false, false] (fun fr m => K1 (fr.keep []) m) [(17, .ptr ⟨d, 0, none⟩), (20, .ptr ⟨d, 2, none⟩), (22, .agg [.str c.name, .str c.data, .str c.to, .int .i64 c.kind])] (AMem.wth m [(b1, .cells [.str c.name, .str c.data, .str c.to, .int .i64 c.kind]), (d, dObj kb nb ((stepF s).1)), (nb, mObj (applyC s.now c))]) := by
   intro _
   subst hA
   refine AAny.step [21] [4, 6] (by decide +kernel) (by simp) (by decide) ⟨?_, ?_, trivial⟩
   ·
    show aopsR _ _ _ [_] _ _ _
    refine ar_loads rfl (i := 1) rfl hNb1 rfl rfl rfl rfl (Nat.le_of_ble_eq_true rfl) ?_
    refine AAny.keep [17, 21, 22] (by decide) ?_
    exact s6 trivial
   ·
    show aopsR _ _ _ [_] _ _ _
    refine ⟨⟨rfl, Nat.le_of_ble_eq_true rfl, rfl, Nat.le_of_ble_eq_true rfl, rfl, by simp only [List.forall_mem_cons]; exact ⟨⟨rfl, rfl⟩, fun _ h => by cases h⟩⟩, ?_⟩
    refine AAny.keep [17, 20, 23] (by decide) ?_
    exact s7 trivial
  have s11 : ∀ (_ : True), A 6 #[true, true, true, false, false, true, true, false, false, false, false] (fun fr m => K1 (fr.keep []) m) [(17, .ptr ⟨d, 0, none⟩), (19, .ptr ⟨d, 0, none⟩), (23, .slice true [.agg [.str c.name, .str c.data, .str c.to, .int .i64 c.kind]])] (AMem.wth m [(b1, .cells [.str c.name, .str c.data, .str c.to, .int .i64 c.kind]), (d, dObj kb nb ((stepF s).1)), (nb, mObj (applyC s.now c))]) := by
   intro _
   subst hA
   refine AAny.step [21] [3] (by decide +kernel) (by simp) (by decide) ⟨?_, trivial⟩
   ·
    show aopsR _ _ _ [_] _ _ _
    refine ⟨⟨rfl, by decide⟩, ?_⟩
    refine AAny.keep [17, 20, 23] (by decide) ?_
    exact s7 trivial
  have s12 : ∀ (_ : True), A 6 #[false, true, true, true, true, true, false, false, false, false, false] (fun fr m => K1 (fr.keep []) m) [(0, .ptr ⟨d, 0, none⟩), (21, .slice true ((((stepF s).1).wait).map chgAV)), (22, .agg [.str c.name, .str c.data, .str c.to, .int .i64 c.kind])] (AMem.wth m [(b1, .cells [.str c.name, .str c.data, .str c.to, .int .i64 c.kind]), (d, .cells [.map kb, .map nb, .slice false ((((stepF s).1).wait).map chgAV), .int .i64 (((stepF s).1).fuse), .bool (((stepF s).1).down), .int .i64 (((stepF s).1).steps)]), (nb, mObj (applyC s.now c))]) := by
   intro _
   subst hA
   refine AAny.step [21] [0, 6] (by decide +kernel) (by simp) (by decide) ⟨?_, ?_, trivial⟩
   ·
    show aopsR _ _ _ [_] _ _ _
    refine ⟨trivial, ?_⟩
    refine AAny.keep [17, 21, 22] (by decide) ?_
    exact s6 trivial
   ·
    show aopsR _ _ _ [_] _ _ _
    refine ⟨⟨rfl, Nat.le_of_ble_eq_true rfl, rfl, Nat.le_of_ble_eq_true rfl, rfl, by simp only [List.forall_mem_cons]; exact ⟨⟨rfl, rfl⟩, fun _ h => by cases h⟩⟩, ?_⟩
    refine AAny.keep [0, 21, 23] (by decide) ?_
    exact s8 trivial
  have s13 : ∀ (_ : True), A 6 #[false, true, true, true, false, true, true, false, false, false, false] (fun fr m => K1 (fr.keep []) m) [(0, .ptr ⟨d, 0, none⟩), (20, .ptr ⟨d, 2, none⟩), (23, .slice true [.agg [.str c.name, .str c.data, .str c.to, .int .i64 c.kind]])] (AMem.wth m [(b1, .cells [.str c.name, .str c.data, .str c.to, .int .i64 c.kind]), (d, dObj kb nb ((stepF s).1)), (nb, mObj (applyC s.now c))]) := by
   intro _
   subst hA
   refine AAny.step [21] [0, 4] (by decide +kernel) (by simp) (by decide) ⟨?_, ?_, trivial⟩
   ·
    show aopsR _ _ _ [_] _ _ _
    refine ⟨trivial, ?_⟩
    refine AAny.keep [17, 20, 23] (by decide) ?_
    exact s7 trivial
   ·
    show aopsR _ _ _ [_] _ _ _
    refine ar_loads rfl (i := 1) rfl hNb1 rfl rfl rfl rfl (Nat.le_of_ble_eq_true rfl) ?_
    refine AAny.keep [0, 21, 23] (by decide) ?_
    exact s8 trivial
  have s14 : ∀ (_ : True), A 7 #[true, true, true, true, false, false, false, false, false, false, false] (fun fr m => K1 (fr.keep []) m) [(3, .ptr ⟨b1, 0, none⟩), (17, .ptr ⟨d, 0, none⟩), (20, .ptr ⟨d, 2, none⟩)] (AMem.wth m [(b1, .cells [.str c.name, .str c.data, .str c.to, .int .i64 c.kind]), (d, dObj kb nb ((stepF s).1)), (nb, mObj (applyC s.now c))]) := by
   intro _
   subst hA
   refine AAny.step [21] [4, 5] (by decide +kernel) (by simp) (by decide) ⟨?_, ?_, trivial⟩
   ·
    show aopsR _ _ _ [_] _ _ _
    refine ar_loads rfl (i := 1) rfl hNb1 rfl rfl rfl rfl (Nat.le_of_ble_eq_true rfl) ?_
    refine AAny.keep [3, 17, 21] (by decide) ?_
    exact s9 trivial
   ·
    show aopsR _ _ _ [_] _ _ _
    refine ar_loadp rfl (v := .agg [.str c.name, .str c.data, .str c.to, .int .i64 c.kind]) rfl (wth_get 0 hNb1 rfl) rfl (apartOk_agg rfl rfl (Nat.le_of_ble_eq_true rfl)) rfl ?_
    refine AAny.keep [17, 20, 22] (by decide) ?_
    exact s10 trivial
  have s15 : ∀ (_ : True), A 7 #[true, true, true, false, false, true, false, false, false, false, false] (fun fr m => K1 (fr.keep []) m) [(17, .ptr ⟨d, 0, none⟩), (19, .ptr ⟨d, 0, none⟩), (22, .agg [.str c.name, .str c.data, .str c.to, .int .i64 c.kind])] (AMem.wth m [(b1, .cells [.str c.name, .str c.data, .str c.to, .int .i64 c.kind]), (d, dObj kb nb ((stepF s).1)), (nb, mObj (applyC s.now c))]) := by
   intro _
   subst hA
   refine AAny.step [21] [3, 6] (by decide +kernel) (by simp) (by decide) ⟨?_, ?_, trivial⟩
   ·
    show aopsR _ _ _ [_] _ _ _
    refine ⟨⟨rfl, by decide⟩, ?_⟩
    refine AAny.keep [17, 20, 22] (by decide) ?_
    exact s10 trivial
   ·
    show aopsR _ _ _ [_] _ _ _
    refine ⟨⟨rfl, Nat.le_of_ble_eq_true rfl, rfl, Nat.le_of_ble_eq_true rfl, rfl, by simp only [List.forall_mem_cons]; exact ⟨⟨rfl, rfl⟩, fun _ h => by cases h⟩⟩, ?_⟩
    refine AAny.keep [17, 19, 23] (by decide) ?_
    exact s11 trivial
  have s16 : ∀ (_ : True), A 7 #[true, true, false, false, false, true, true, false, false, false, false] (fun fr m => K1 (fr.keep []) m) [(17, .ptr ⟨d, 0, none⟩), (18, .ptr ⟨d, 0, none⟩), (23, .slice true [.agg [.str c.name, .str c.data, .str c.to, .int .i64 c.kind]])] (AMem.wth m [(b1, .cells [.str c.name, .str c.data, .str c.to, .int .i64 c.kind]), (d, dObj kb nb ((stepF s).1)), (nb, mObj (applyC s.now c))]) := by
   intro _
   subst hA
   refine AAny.step [21] [2] (by decide +kernel) (by simp) (by decide) ⟨?_, trivial⟩
   ·
    show aopsR _ _ _ [_] _ _ _
    refine ⟨trivial, ?_⟩
    refine AAny.keep [17, 19, 23] (by decide) ?_
    exact s11 trivial
  have s17 : ∀ (_ : True), A 7 #[false, true, true, true, true, false, false, false, false, false, false] (fun fr m => K1 (fr.keep []) m) [(0, .ptr ⟨d, 0, none⟩), (3, .ptr ⟨b1, 0, none⟩), (21, .slice true ((((stepF s).1).wait).map chgAV))] (AMem.wth m [(b1, .cells [.str c.name, .str c.data, .str c.to, .int .i64 c.kind]), (d, .cells [.map kb, .map nb, .slice false ((((stepF s).1).wait).map chgAV), .int .i64 (((stepF s).1).fuse), .bool (((stepF s).1).down), .int .i64 (((stepF s).1).steps)]), (nb, mObj (applyC s.now c))]) := by
   intro _
   subst hA
   refine AAny.step [21] [0, 5] (by decide +kernel) (by simp) (by decide) ⟨?_, ?_, trivial⟩
   ·
    show aopsR _ _ _ [_] _ _ _
    refine ⟨trivial, ?_⟩
    refine AAny.keep [3, 17, 21] (by decide) ?_
    exact s9 trivial
   ·
    show aopsR _ _ _ [_] _ _ _
    refine ar_loadp rfl (v := .agg [.str c.name, .str c.data, .str c.to, .int .i64 c.kind]) rfl (wth_get 0 hNb1 rfl) rfl (apartOk_agg rfl rfl (Nat.le_of_ble_eq_true rfl)) rfl ?_
    refine AAny.keep [0, 21, 22] (by decide) ?_
    exact s12 trivial
  have s18 : ∀ (_ : True), A 7 #[false, true, true, true, false, true, false, false, false, false, false] (fun fr m => K1 (fr.keep []) m) [(0, .ptr ⟨d, 0, none⟩), (20, .ptr ⟨d, 2, none⟩), (22, .agg [.str c.name, .str c.data, .str c.to, .int .i64 c.kind])] (AMem.wth m [(b1, .cells [.str c.name, .str c.data, .str c.to, .int .i64 c.kind]), (d, dObj kb nb ((stepF s).1)), (nb, mObj (applyC s.now c))]) := by
   intro _
   subst hA
   refine AAny.step [21] [0, 4, 6] (by decide +kernel) (by simp) (by decide) ⟨?_, ?_, ?_, trivial⟩
   ·
    show aopsR _ _ _ [_] _ _ _
    refine ⟨trivial, ?_⟩
    refine AAny.keep [17, 20, 22] (by decide) ?_
    exact s10 trivial
   ·
    show aopsR _ _ _ [_] _ _ _
    refine ar_loads rfl (i := 1) rfl hNb1 rfl rfl rfl rfl (Nat.le_of_ble_eq_true rfl) ?_
    refine AAny.keep [0, 21, 22] (by decide) ?_
    exact s12 trivial
   ·
    show aopsR _ _ _ [_] _ _ _
    refine ⟨⟨rfl, Nat.le_of_ble_eq_true rfl, rfl, Nat.le_of_ble_eq_true rfl, rfl, by simp only [List.forall_mem_cons]; exact ⟨⟨rfl, rfl⟩, fun _ h => by cases h⟩⟩, ?_⟩
    refine AAny.keep [0, 20, 23] (by decide) ?_
    exact s13 trivial
  have s19 : ∀ (_ : True), A 7 #[false, true, true, false, false, true, true, false, false, false, false] (fun fr m => K1 (fr.keep []) m) [(0, .ptr ⟨d, 0, none⟩), (19, .ptr ⟨d, 0, none⟩), (23, .slice true [.agg [.str c.name, .str c.data, .str c.to, .int .i64 c.kind]])] (AMem.wth m [(b1, .cells [.str c.name, .str c.data, .str c.to, .int .i64 c.kind]), (d, dObj kb nb ((stepF s).1)), (nb, mObj (applyC s.now c))]) := by
   intro _
   subst hA
   refine AAny.step [21] [0, 3] (by decide +kernel) (by simp) (by decide) ⟨?_, ?_, trivial⟩
   ·
    show aopsR _ _ _ [_] _ _ _
    refine ⟨trivial, ?_⟩
    refine AAny.keep [17, 19, 23] (by decide) ?_
    exact s11 trivial
   ·
    show aopsR _ _ _ [_] _ _ _
    refine ⟨⟨rfl, by decide⟩, ?_⟩
    refine AAny.keep [0, 20, 23] (by decide) ?_
    exact s13 trivial
  have s20 : ∀ (_ : True), A 8 #[true, true, true, false, false, false, false, false, false, false, false] (fun fr m => K1 (fr.keep []) m) [(3, .ptr ⟨b1, 0, none⟩), (17, .ptr ⟨d, 0, none⟩), (19, .ptr ⟨d, 0, none⟩)] (AMem.wth m [(b1, .cells [.str c.name, .str c.data, .str c.to, .int .i64 c.kind]), (d, dObj kb nb ((stepF s).1)), (nb, mObj (applyC s.now c))]) := by
   intro _
   subst hA
   refine AAny.step [21] [3, 5] (by decide +kernel) (by simp) (by decide) ⟨?_, ?_, trivial⟩
   ·
    show aopsR _ _ _ [_] _ _ _
    refine ⟨⟨rfl, by decide⟩, ?_⟩
    refine AAny.keep [3, 17, 20] (by decide) ?_
    exact s14 trivial
   ·
    show aopsR _ _ _ [_] _ _ _
    refine ar_loadp rfl (v := .agg [.str c.name, .str c.data, .str c.to, .int .i64 c.kind]) rfl (wth_get 0 hNb1 rfl) rfl (apartOk_agg rfl rfl (Nat.le_of_ble_eq_true rfl)) rfl ?_
    refine AAny.keep [17, 19, 22] (by decide) ?_
    exact s15 trivial
  have s21 : ∀ (_ : True), A 8 #[true, true, false, false, false, true, false, false, false, false, false] (fun fr m => K1 (fr.keep []) m) [(17, .ptr ⟨d, 0, none⟩), (18, .ptr ⟨d, 0, none⟩), (22, .agg [.str c.name, .str c.data, .str c.to, .int .i64 c.kind])] (AMem.wth m [(b1, .cells [.str c.name, .str c.data, .str c.to, .int .i64 c.kind]), (d, dObj kb nb ((stepF s).1)), (nb, mObj (applyC s.now c))]) := by
   intro _
   subst hA
   refine AAny.step [21] [2, 6] (by decide +kernel) (by simp) (by decide) ⟨?_, ?_, trivial⟩
   ·
    show aopsR _ _ _ [_] _ _ _
    refine ⟨trivial, ?_⟩
    refine AAny.keep [17, 19, 22] (by decide) ?_
    exact s15 trivial
   ·
    show aopsR _ _ _ [_] _ _ _
    refine ⟨⟨rfl, Nat.le_of_ble_eq_true rfl, rfl, Nat.le_of_ble_eq_true rfl, rfl, by simp only [List.forall_mem_cons]; exact ⟨⟨rfl, rfl⟩, fun _ h => by cases h⟩⟩, ?_⟩
    refine AAny.keep [17, 18, 23] (by decide) ?_
    exact s16 trivial
  have s22 : ∀ (_ : True), A 8 #[true, false, false, false, false, true, true, false, false, false, false] (fun fr m => K1 (fr.keep []) m) [(0, .ptr ⟨d, 0, none⟩), (17, .ptr ⟨d, 0, none⟩), (23, .slice true [.agg [.str c.name, .str c.data, .str c.to, .int .i64 c.kind]])] (AMem.wth m [(b1, .cells [.str c.name, .str c.data, .str c.to, .int .i64 c.kind]), (d, dObj kb nb ((stepF s).1)), (nb, mObj (applyC s.now c))]) := by
   intro _
   subst hA
   refine AAny.step [21] [1] (by decide +kernel) (by simp) (by decide) ⟨?_, trivial⟩
   ·
    show aopsR _ _ _ [_] _ _ _
    refine ⟨trivial, ?_⟩
    refine AAny.keep [17, 18, 23] (by decide) ?_
    exact s16 trivial
  have s23 : ∀ (_ : True), A 8 #[false, true, true, true, false, false, false, false, false, false, false] (fun fr m => K1 (fr.keep []) m) [(0, .ptr ⟨d, 0, none⟩), (3, .ptr ⟨b1, 0, none⟩), (20, .ptr ⟨d, 2, none⟩)] (AMem.wth m [(b1, .cells [.str c.name, .str c.data, .str c.to, .int .i64 c.kind]), (d, dObj kb nb ((stepF s).1)), (nb, mObj (applyC s.now c))]) := by
   intro _
   subst hA
   refine AAny.step [21] [0, 4, 5] (by decide +kernel) (by simp) (by decide) ⟨?_, ?_, ?_, trivial⟩
   ·
    show aopsR _ _ _ [_] _ _ _
    refine ⟨trivial, ?_⟩
    refine AAny.keep [3, 17, 20] (by decide) ?_
    exact s14 trivial
   ·
    show aopsR _ _ _ [_] _ _ _
    refine ar_loads rfl (i := 1) rfl hNb1 rfl rfl rfl rfl (Nat.le_of_ble_eq_true rfl) ?_
    refine AAny.keep [0, 3, 21] (by decide) ?_
    exact s17 trivial
   ·
    show aopsR _ _ _ [_] _ _ _
    refine ar_loadp rfl (v := .agg [.str c.name, .str c.data, .str c.to, .int .i64 c.kind]) rfl (wth_get 0 hNb1 rfl) rfl (apartOk_agg rfl rfl (Nat.le_of_ble_eq_true rfl)) rfl ?_
    refine AAny.keep [0, 20, 22] (by decide) ?_
    exact s18 trivial
  have s24 : ∀ (_ : True), A 8 #[false, true, true, false, false, true, false, false, false, false, false] (fun fr m => K1 (fr.keep []) m) [(0, .ptr ⟨d, 0, none⟩), (19, .ptr ⟨d, 0, none⟩), (22, .agg [.str c.name, .str c.data, .str c.to, .int .i64 c.kind])] (AMem.wth m [(b1, .cells [.str c.name, .str c.data, .str c.to, .int .i64 c.kind]), (d, dObj kb nb ((stepF s).1)), (nb, mObj (applyC s.now c))]) := by
   intro _
   subst hA
   refine AAny.step [21] [0, 3, 6] (by decide +kernel) (by simp) (by decide) ⟨?_, ?_, ?_, trivial⟩
   ·
    show aopsR _ _ _ [_] _ _ _
    refine ⟨trivial, ?_⟩
    refine AAny.keep [17, 19, 22] (by decide) ?_
    exact s15 trivial
   ·
    show aopsR _ _ _ [_] _ _ _
    refine ⟨⟨rfl, by decide⟩, ?_⟩
    refine AAny.keep [0, 20, 22] (by decide) ?_
    exact s18 trivial
   ·
    show aopsR _ _ _ [_] _ _ _
    refine ⟨⟨rfl, Nat.le_of_ble_eq_true rfl, rfl, Nat.le_of_ble_eq_true rfl, rfl, by simp only [List.forall_mem_cons]; exact ⟨⟨rfl, rfl⟩, fun _ h => by cases h⟩⟩, ?_⟩
    refine AAny.keep [0, 19, 23] (by decide) ?_
    exact s19 trivial
  have s25 : ∀ (_ : True), A 8 #[false, true, false, false, false, true, true, false, false, false, false] (fun fr m => K1 (fr.keep []) m) [(0, .ptr ⟨d, 0, none⟩), (18, .ptr ⟨d, 0, none⟩), (23, .slice true [.agg [.str c.name, .str c.data, .str c.to, .int .i64 c.kind]])] (AMem.wth m [(b1, .cells [.str c.name, .str c.data, .str c.to, .int .i64 c.kind]), (d, dObj kb nb ((stepF s).1)), (nb, mObj (applyC s.now c))]) := by
   intro _
   subst hA
   refine AAny.step [21] [0, 2] (by decide +kernel) (by simp) (by decide) ⟨?_, ?_, trivial⟩
   ·
    show aopsR _ _ _ [_] _ _ _
    refine ⟨trivial, ?_⟩
    refine AAny.keep [17, 18, 23] (by decide) ?_
    exact s16 trivial
   ·
    show aopsR _ _ _ [_] _ _ _
    refine ⟨trivial, ?_⟩
    refine AAny.keep [0, 19, 23] (by decide) ?_
    exact s19 trivial
  have s26 : ∀ (_ : True), A 9 #[true, true, false, false, false, false, false, false, false, false, false] (fun fr m => K1 (fr.keep []) m) [(3, .ptr ⟨b1, 0, none⟩), (17, .ptr ⟨d, 0, none⟩), (18, .ptr ⟨d, 0, none⟩)] (AMem.wth m [(b1, .cells [.str c.name, .str c.data, .str c.to, .int .i64 c.kind]), (d, dObj kb nb ((stepF s).1)), (nb, mObj (applyC s.now c))]) := by
   intro _
   subst hA
   refine AAny.step [21] [2, 5] (by decide +kernel) (by simp) (by decide) ⟨?_, ?_, trivial⟩
   ·
    show aopsR _ _ _ [_] _ _ _
    refine ⟨trivial, ?_⟩
    refine AAny.keep [3, 17, 19] (by decide) ?_
    exact s20 trivial
   ·
    show aopsR _ _ _ [_] _ _ _
    refine ar_loadp rfl (v := .agg [.str c.name, .str c.data, .str c.to, .int .i64 c.kind]) rfl (wth_get 0 hNb1 rfl) rfl (apartOk_agg rfl rfl (Nat.le_of_ble_eq_true rfl)) rfl ?_
    refine AAny.keep [17, 18, 22] (by decide) ?_
    exact s21 trivial
  have s27 : ∀ (_ : True), A 9 #[true, false, false, false, false, true, false, false, false, false, false] (fun fr m => K1 (fr.keep []) m) [(0, .ptr ⟨d, 0, none⟩), (17, .ptr ⟨d, 0, none⟩), (22, .agg [.str c.name, .str c.data, .str c.to, .int .i64 c.kind])] (AMem.wth m [(b1, .cells [.str c.name, .str c.data, .str c.to, .int .i64 c.kind]), (d, dObj kb nb ((stepF s).1)), (nb, mObj (applyC s.now c))]) := by
   intro _
   subst hA
   refine AAny.step [21] [1, 6] (by decide +kernel) (by simp) (by decide) ⟨?_, ?_, trivial⟩
   ·
    show aopsR _ _ _ [_] _ _ _
    refine ⟨trivial, ?_⟩
    refine AAny.keep [17, 18, 22] (by decide) ?_
    exact s21 trivial
   ·
    show aopsR _ _ _ [_] _ _ _
    refine ⟨⟨rfl, Nat.le_of_ble_eq_true rfl, rfl, Nat.le_of_ble_eq_true rfl, rfl, by simp only [List.forall_mem_cons]; exact ⟨⟨rfl, rfl⟩, fun _ h => by cases h⟩⟩, ?_⟩
    refine AAny.keep [0, 17, 23] (by decide) ?_
    exact s22 trivial
  have s28 : ∀ (_ : True), A 9 #[false, true, true, false, false, false, false, false, false, false, false] (fun fr m => K1 (fr.keep []) m) [(0, .ptr ⟨d, 0, none⟩), (3, .ptr ⟨b1, 0, none⟩), (19, .ptr ⟨d, 0, none⟩)] (AMem.wth m [(b1, .cells [.str c.name, .str c.data, .str c.to, .int .i64 c.kind]), (d, dObj kb nb ((stepF s).1)), (nb, mObj (applyC s.now c))]) := by
   intro _
   subst hA
   refine AAny.step [21] [0, 3, 5] (by decide +kernel) (by simp) (by decide) ⟨?_, ?_, ?_, trivial⟩
   ·
    show aopsR _ _ _ [_] _ _ _
    refine ⟨trivial, ?_⟩
    refine AAny.keep [3, 17, 19] (by decide) ?_
    exact s20 trivial
   ·
    show aopsR _ _ _ [_] _ _ _
    refine ⟨⟨rfl, by decide⟩, ?_⟩
    refine AAny.keep [0, 3, 20] (by decide) ?_
    exact s23 trivial
   ·
    show aopsR _ _ _ [_] _ _ _
    refine ar_loadp rfl (v := .agg [.str c.name, .str c.data, .str c.to, .int .i64 c.kind]) rfl (wth_get 0 hNb1 rfl) rfl (apartOk_agg rfl rfl (Nat.le_of_ble_eq_true rfl)) rfl ?_
    refine AAny.keep [0, 19, 22] (by decide) ?_
    exact s24 trivial
  have s29 : ∀ (_ : True), A 9 #[false, true, false, false, false, true, false, false, false, false, false] (fun fr m => K1 (fr.keep []) m) [(0, .ptr ⟨d, 0, none⟩), (18, .ptr ⟨d, 0, none⟩), (22, .agg [.str c.name, .str c.data, .str c.to, .int .i64 c.kind])] (AMem.wth m [(b1, .cells [.str c.name, .str c.data, .str c.to, .int .i64 c.kind]), (d, dObj kb nb ((stepF s).1)), (nb, mObj (applyC s.now c))]) := by
   intro _
   subst hA
   refine AAny.step [21] [0, 2, 6] (by decide +kernel) (by simp) (by decide) ⟨?_, ?_, ?_, trivial⟩
   ·
    show aopsR _ _ _ [_] _ _ _
    refine ⟨trivial, ?_⟩
    refine AAny.keep [17, 18, 22] (by decide) ?_
    exact s21 trivial
   ·
    show aopsR _ _ _ [_] _ _ _
    refine ⟨trivial, ?_⟩
    refine AAny.keep [0, 19, 22] (by decide) ?_
    exact s24 trivial
   ·
    show aopsR _ _ _ [_] _ _ _
    refine ⟨⟨rfl, Nat.le_of_ble_eq_true rfl, rfl, Nat.le_of_ble_eq_true rfl, rfl, by simp only [List.forall_mem_cons]; exact ⟨⟨rfl, rfl⟩, fun _ h => by cases h⟩⟩, ?_⟩
    refine AAny.keep [0, 18, 23] (by decide) ?_
    exact s25 trivial
  have s30 : ∀ (_ : True), A 9 #[false, false, false, false, false, true, true, false, false, false, false] (fun fr m => K1 (fr.keep []) m) [(0, .ptr ⟨d, 0, none⟩), (23, .slice true [.agg [.str c.name, .str c.data, .str c.to, .int .i64 c.kind]])] (AMem.wth m [(b1, .cells [.str c.name, .str c.data, .str c.to, .int .i64 c.kind]), (d, dObj kb nb ((stepF s).1)), (nb, mObj (applyC s.now c))]) := by
   intro _
   subst hA
   refine AAny.step [21] [0, 1] (by decide +kernel) (by simp) (by decide) ⟨?_, ?_, trivial⟩
   ·
    show aopsR _ _ _ [_] _ _ _
    refine ⟨trivial, ?_⟩
    refine AAny.keep [0, 17, 23] (by decide) ?_
    exact s22 trivial
   ·
    show aopsR _ _ _ [_] _ _ _
    refine ⟨trivial, ?_⟩
    refine AAny.keep [0, 18, 23] (by decide) ?_
    exact s25 trivial
  have s31 : ∀ (_ : True), A 10 #[true, false, false, false, false, false, false, false, false, false, false] (fun fr m => K1 (fr.keep []) m) [(0, .ptr ⟨d, 0, none⟩), (3, .ptr ⟨b1, 0, none⟩), (17, .ptr ⟨d, 0, none⟩)] (AMem.wth m [(b1, .cells [.str c.name, .str c.data, .str c.to, .int .i64 c.kind]), (d, dObj kb nb ((stepF s).1)), (nb, mObj (applyC s.now c))]) := by
   intro _
   subst hA
   refine AAny.step [21] [1, 5] (by decide +kernel) (by simp) (by decide) ⟨?_, ?_, trivial⟩
   ·
    show aopsR _ _ _ [_] _ _ _
    refine ⟨trivial, ?_⟩
    refine AAny.keep [3, 17, 18] (by decide) ?_
    exact s26 trivial
   ·
    show aopsR _ _ _ [_] _ _ _
    refine ar_loadp rfl (v := .agg [.str c.name, .str c.data, .str c.to, .int .i64 c.kind]) rfl (wth_get 0 hNb1 rfl) rfl (apartOk_agg rfl rfl (Nat.le_of_ble_eq_true rfl)) rfl ?_
    refine AAny.keep [0, 17, 22] (by decide) ?_
    exact s27 trivial
  have s32 : ∀ (_ : True), A 10 #[false, true, false, false, false, false, false, false, false, false, false] (fun fr m => K1 (fr.keep []) m) [(0, .ptr ⟨d, 0, none⟩), (3, .ptr ⟨b1, 0, none⟩), (18, .ptr ⟨d, 0, none⟩)] (AMem.wth m [(b1, .cells [.str c.name, .str c.data, .str c.to, .int .i64 c.kind]), (d, dObj kb nb ((stepF s).1)), (nb, mObj (applyC s.now c))]) := by
   intro _
   subst hA
   refine AAny.step [21] [0, 2, 5] (by decide +kernel) (by simp) (by decide) ⟨?_, ?_, ?_, trivial⟩
   ·
    show aopsR _ _ _ [_] _ _ _
    refine ⟨trivial, ?_⟩
    refine AAny.keep [3, 17, 18] (by decide) ?_
    exact s26 trivial
   ·
    show aopsR _ _ _ [_] _ _ _
    refine ⟨trivial, ?_⟩
    refine AAny.keep [0, 3, 19] (by decide) ?_
    exact s28 trivial
   ·
    show aopsR _ _ _ [_] _ _ _
    refine ar_loadp rfl (v := .agg [.str c.name, .str c.data, .str c.to, .int .i64 c.kind]) rfl (wth_get 0 hNb1 rfl) rfl (apartOk_agg rfl rfl (Nat.le_of_ble_eq_true rfl)) rfl ?_
    refine AAny.keep [0, 18, 22] (by decide) ?_
    exact s29 trivial
  have s33 : ∀ (_ : True), A 10 #[false, false, false, false, false, true, false, false, false, false, false] (fun fr m => K1 (fr.keep []) m) [(0, .ptr ⟨d, 0, none⟩), (22, .agg [.str c.name, .str c.data, .str c.to, .int .i64 c.kind])] (AMem.wth m [(b1, .cells [.str c.name, .str c.data, .str c.to, .int .i64 c.kind]), (d, dObj kb nb ((stepF s).1)), (nb, mObj (applyC s.now c))]) := by
   intro _
   subst hA
   refine AAny.step [21] [0, 1, 6] (by decide +kernel) (by simp) (by decide) ⟨?_, ?_, ?_, trivial⟩
   ·
    show aopsR _ _ _ [_] _ _ _
    refine ⟨trivial, ?_⟩
    refine AAny.keep [0, 17, 22] (by decide) ?_
    exact s27 trivial
   ·
    show aopsR _ _ _ [_] _ _ _
    refine ⟨trivial, ?_⟩
    refine AAny.keep [0, 18, 22] (by decide) ?_
    exact s29 trivial
   ·
    show aopsR _ _ _ [_] _ _ _
    refine ⟨⟨rfl, Nat.le_of_ble_eq_true rfl, rfl, Nat.le_of_ble_eq_true rfl, rfl, by simp only [List.forall_mem_cons]; exact ⟨⟨rfl, rfl⟩, fun _ h => by cases h⟩⟩, ?_⟩
    refine AAny.keep [0, 23] (by decide) ?_
    exact s30 trivial
  have s34 : ∀ (_ : True), A 11 #[false, false, false, false, false, false, false, false, false, false, false] (fun fr m => K1 (fr.keep []) m) [(0, .ptr ⟨d, 0, none⟩), (3, .ptr ⟨b1, 0, none⟩)] (AMem.wth m [(b1, .cells [.str c.name, .str c.data, .str c.to, .int .i64 c.kind]), (d, dObj kb nb ((stepF s).1)), (nb, mObj (applyC s.now c))]) := by
   intro _
   subst hA
   refine AAny.step [21] [0, 1, 5] (by decide +kernel) (by simp) (by decide) ⟨?_, ?_, ?_, trivial⟩
   ·
    show aopsR _ _ _ [_] _ _ _
    refine ⟨trivial, ?_⟩
    refine AAny.keep [0, 3, 17] (by decide) ?_
    exact s31 trivial
   ·
    show aopsR _ _ _ [_] _ _ _
    refine ⟨trivial, ?_⟩
    refine AAny.keep [0, 3, 18] (by decide) ?_
    exact s32 trivial
   ·
    show aopsR _ _ _ [_] _ _ _
    refine ar_loadp rfl (v := .agg [.str c.name, .str c.data, .str c.to, .int .i64 c.kind]) rfl (wth_get 0 hNb1 rfl) rfl (apartOk_agg rfl rfl (Nat.le_of_ble_eq_true rfl)) rfl ?_
    refine AAny.keep [0, 22] (by decide) ?_
    exact s33 trivial
  exact s34 trivial
 intro _
 refine hK1 _ _ ?_; clear hK1 K1
 refine awp_reg2_seq [] [4] (by decide) ?_
 intro K1 hK1
 refine ⟨trivial, ?_⟩
 show K1 [(4, .nilIface)] (AMem.wth m [(b1, .cells [.str c.name, .str c.data, .str c.to, .int .i64 c.kind]), (d, .cells [.map kb, .map nb, .slice true (((((stepF s).1).wait) ++ ([c] : List Chg)).map chgAV), .int .i64 (((stepF s).1).fuse), .bool (((stepF s).1).down), .int .i64 (((stepF s).1).steps)]), (nb, mObj (applyC s.now c))])
 refine hK1 _ _ ?_; clear hK1 K1
 refine awp_toErr 108 [4] ?_
 show AWP _ _ _ _ [(4, .err 108 0)] (AMem.wth m [(b1, .cells [.str c.name, .str c.data, .str c.to, .int .i64 c.kind]), (d, .cells [.map kb, .map nb, .slice true (((((stepF s).1).wait) ++ ([c] : List Chg)).map chgAV), .int .i64 (((stepF s).1).fuse), .bool (((stepF s).1).down), .int .i64 (((stepF s).1).steps)]), (nb, mObj (applyC s.now c))])
 refine awp_ret ?_
 refine ⟨trivial, (AMem.wth m [(d, .cells [.map kb, .map nb, .slice true (((((stepF s).1).wait) ++ ([c] : List Chg)).map chgAV), .int .i64 (((stepF s).1).fuse), .bool (((stepF s).1).down), .int .i64 (((stepF s).1).steps)]), (nb, mObj (applyC s.now c))]), (wth_sub2 (m := m) [(b1, .cells [.str c.name, .str c.data, .str c.to, .int .i64 c.kind])] [(d, .cells [.map kb, .map nb, .slice true (((((stepF s).1).wait) ++ ([c] : List Chg)).map chgAV), .int .i64 (((stepF s).1).fuse), .bool (((stepF s).1).down), .int .i64 (((stepF s).1).steps)]), (nb, mObj (applyC s.now c))] hNb1 (by simp only [List.map_cons, List.map_nil, List.forall_mem_cons]; exact ⟨hFb1, fun _ h => by cases h⟩)), ?_⟩
 show K (.err 108 0) (AMem.wth m [(d, .cells [.map kb, .map nb, .slice true (((((stepF s).1).wait) ++ ([c] : List Chg)).map chgAV), .int .i64 (((stepF s).1).fuse), .bool (((stepF s).1).down), .int .i64 (((stepF s).1).steps)]), (nb, mObj (applyC s.now c))])

 have e0 : doF s c = (((⟨s.kept, applyC s.now c, (((stepF s).1).wait) ++ ([c] : List Chg), ((stepF s).1).fuse, (((stepF s).1).down), ((stepF s).1).steps⟩ : DSt), 0) : DSt × Int) := by
  first | (rw [doF, if_pos h1, ← hk.2.1]; done) | (rw [doF, if_neg (by omega)]; simp only [hk.1, hk3]; done)
 rw [e0] at hK
 exact hK


def nameC (c : UInt8) : Bool := (decide (97 ≤ (c.toNat : Int)) && decide ((c.toNat : Int) ≤ 122)) || (decide (48 ≤ (c.toNat : Int)) && decide ((c.toNat : Int) ≤ 57)) || ((c.toNat : Int) == 46)
def nameF (s : Str) : Bool := s.all nameC && !(s == []) && decide ((s.length : Int) ≤ 24)
def mayR (s : DSt) (name : Str) (size : Int) : Int :=
  if nameF name = false then 3 else if 4000 < size then 2 else if (mget s.now name).isSome = false ∧ 40 ≤ (s.now.length : Int) then 2 else 0
def writeR (s : DSt) (name data : Str) : DSt × Int := if mayR s name data.length ≠ 0 then (s, mayR s name data.length) else doF s ⟨name, data, [], 1⟩
def appR (s : DSt) (name data : Str) : DSt × Int :=
  if 4000 < (data.length : Int) then (s, 2)
  else if mayR s name (((mget s.now name).getD []).length + data.length) ≠ 0 then (s, mayR s name (((mget s.now name).getD []).length + data.length))
  else doF s ⟨name, data, [], 2⟩
def readR (s : DSt) (name : Str) : Str × Int := if s.down = true then ([], 10) else if (mget s.now name).isSome = false then ([], 7) else ((mget s.now name).getD [], 0)
theorem mayR_size {s : DSt} {n : Str} {z : Int} (h : mayR s n z = 0) : z ≤ 4000 := by
  unfold mayR at h
  split at h
  · cases h
  · split at h
    · cases h
    · omega
theorem all_snoc {s : Str} {i : Int} {p : UInt8 → Bool} (h0 : 0 ≤ i) (hi : i < s.length) : (s.take (i + 1).toNat).all p = ((s.take i.toNat).all p && p (gI s i)) := by
  rw [take_succ_gI h0 hi, List.all_append]; simp

set_option maxHeartbeats 2000000 in
theorem u_Name (s : Str) (hs : s.length ≤ 140737488355328) (m : AMem)  (K : AV → AMem → Prop) (hK : K (.bool (nameF s)) m) : ACalls Try.prog 40 [.str s] m K := by
 refine acalls_enter Try.func40 rfl (by decide) (Nat.le_of_ble_eq_true rfl) ?_
 show AWP _ _ _ _ [(0, .str s)] m
 refine awp_reg2_seq [] [0] (by decide) ?_
 intro K1 hK1
 refine ⟨trivial, ?_⟩
 show K1 [(0, .str s)] m
 refine hK1 _ _ ?_; clear hK1 K1
 refine awp_seq_k ?_; intro K2 hK2
 refine awp_reg2_seq [] [0, 6, 7] (by decide) ?_
 intro K1 hK1
 refine ⟨trivial, trivial, trivial, ?_⟩
 show K1 [(0, .str s), (6, .int .i64 (s.length : Int)), (7, .int .i64 0)] m
 refine hK1 _ _ ?_; clear hK1 K1
 refine awp_block ?_
 refine awp_keep [0, 6, 7] (by decide) ?_
 refine awp_loop_st (σ := Int) (fun i => [(0, .str s), (6, .int .i64 (s.length : Int)), (7, .int .i64 i)]) (fun _ => m) (fun i => 0 ≤ i ∧ i ≤ s.length ∧ (s.take i.toNat).all nameC = true) (fun i => s.length - i.toNat) (0) rfl rfl ?_ ?_
 ·
  show 0 ≤ ((0 : Int)) ∧ ((0 : Int)) ≤ s.length ∧ (s.take ((0 : Int)).toNat).all nameC = true
  exact ⟨by omega, by omega, by simp⟩
 rintro i hI
 replace hI : 0 ≤ i ∧ i ≤ s.length ∧ (s.take i.toNat).all nameC = true := hI
 show AWP _ _ _ _ [(0, .str s), (6, .int .i64 (s.length : Int)), (7, .int .i64 i)] m
 refine awp_reg2_seq [] [0, 6, 7, 8] (by decide) ?_
 intro K1 hK1
 refine ⟨trivial, ?_⟩
 show K1 [(0, .str s), (6, .int .i64 (s.length : Int)), (7, .int .i64 i), (8, .bool (decide (i < (s.length : Int))))] m
 refine hK1 _ _ ?_; clear hK1 K1
 refine awp_seq_k ?_; intro K3 hK3
 refine awp_cond rfl rfl (fun h1 => ?_) (fun h1 => ?_)
 ·
  replace h1 : i < (s.length : Int) := (of_decide_eq_true h1)
  refine awp_skip ?_
  refine hK3 _ _ ?_; clear hK3
  refine awp_seq_k ?_; intro K4 hK4
  refine awp_block ?_
  refine awp_reg2_seq [] [0, 3, 6, 7] (by decide) ?_
  intro K1 hK1
  refine ⟨trivial, trivial, ?_⟩
  show K1 [(0, .str s), (3, .int .i64 i), (6, .int .i64 (s.length : Int)), (7, .int .i64 i)] m
  refine hK1 _ _ ?_; clear hK1 K1
  refine awp_reg2_seq [] [0, 4, 6, 7] (by decide) ?_
  intro K1 hK1
  refine ⟨trivial, trivial, ⟨(by omega), (by omega)⟩, trivial, ?_⟩
  show K1 [(0, .str s), (4, .int .u8 ((gI s i).toNat)), (6, .int .i64 (s.length : Int)), (7, .int .i64 i)] m
  refine hK1 _ _ ?_; clear hK1 K1
  refine awp_reg2_seq [] [0, 6, 7, 30] (by decide) ?_
  intro K1 hK1
  suffices key : K1 [(0, .str s), (6, .int .i64 (s.length : Int)), (7, .int .i64 i), (30, .bool ((((decide (((gI s i).toNat : Int) < 97)) || (decide (122 < ((gI s i).toNat : Int)))) && ((decide (((gI s i).toNat : Int) < 48)) || (decide (57 < ((gI s i).toNat : Int))))) && (!(((gI s i).toNat : Int) == 46))))] m by
   refine ⟨trivial, trivial, trivial, ?_⟩
   show aopsR _ _ _ _ _ [(15, .bool (decide (((gI s i).toNat : Int) < 97))), (14, .bool (decide (((gI s i).toNat : Int) < 97))), (13, .int .u8 ((gI s i).toNat)), (0, .str s), (4, .int .u8 ((gI s i).toNat)), (6, .int .i64 (s.length : Int)), (7, .int .i64 i)] _
   revert key
   cases h2 : (decide (((gI s i).toNat : Int) < 97))
   ·
    replace h2 : 97 ≤ ((gI s i).toNat : Int) := (Int.not_lt.1 (of_decide_eq_false h2))
    intro key
    refine ⟨trivial, trivial, ?_⟩
    refine ⟨trivial, ?_⟩
    show aopsR _ _ _ _ _ [(19, .bool (decide (122 < ((gI s i).toNat : Int)))), (18, .bool (decide (122 < ((gI s i).toNat : Int)))), (17, .bool (decide (122 < ((gI s i).toNat : Int)))), (16, .int .u8 ((gI s i).toNat)), (15, .bool false), (14, .bool false), (13, .int .u8 ((gI s i).toNat)), (0, .str s), (4, .int .u8 ((gI s i).toNat)), (6, .int .i64 (s.length : Int)), (7, .int .i64 i)] _
    revert key
    cases h3 : (decide (122 < ((gI s i).toNat : Int)))
    ·
     replace h3 : ((gI s i).toNat : Int) ≤ 122 := (Int.not_lt.1 (of_decide_eq_false h3))
     intro key
     refine ar_off rfl (ar_off rfl (ar_off rfl (ar_off rfl (ar_off rfl (ar_off rfl ?_)))))
     refine ⟨trivial, ?_⟩
     refine ar_off rfl (ar_off rfl ?_)
     exact key
    ·
     replace h3 : 122 < ((gI s i).toNat : Int) := (of_decide_eq_true h3)
     intro key
     refine ⟨trivial, trivial, trivial, ?_⟩
     show aopsR _ _ _ _ _ [(22, .bool (decide (((gI s i).toNat : Int) < 48))), (21, .bool (decide (((gI s i).toNat : Int) < 48))), (20, .int .u8 ((gI s i).toNat)), (19, .bool true), (18, .bool true), (17, .bool true), (16, .int .u8 ((gI s i).toNat)), (15, .bool false), (14, .bool false), (13, .int .u8 ((gI s i).toNat)), (0, .str s), (4, .int .u8 ((gI s i).toNat)), (6, .int .i64 (s.length : Int)), (7, .int .i64 i)] _
     revert key
     cases h4 : (decide (((gI s i).toNat : Int) < 48))
     ·
      replace h4 : 48 ≤ ((gI s i).toNat : Int) := (Int.not_lt.1 (of_decide_eq_false h4))
      intro key
      refine ⟨trivial, trivial, ?_⟩
      refine ⟨trivial, ?_⟩
      show aopsR _ _ _ _ _ [(27, .bool (decide (57 < ((gI s i).toNat : Int)))), (26, .bool (decide (57 < ((gI s i).toNat : Int)))), (25, .bool (decide (57 < ((gI s i).toNat : Int)))), (24, .bool (decide (57 < ((gI s i).toNat : Int)))), (23, .int .u8 ((gI s i).toNat)), (22, .bool false), (21, .bool false), (20, .int .u8 ((gI s i).toNat)), (19, .bool true), (18, .bool true), (17, .bool true), (16, .int .u8 ((gI s i).toNat)), (15, .bool false), (14, .bool false), (13, .int .u8 ((gI s i).toNat)), (0, .str s), (4, .int .u8 ((gI s i).toNat)), (6, .int .i64 (s.length : Int)), (7, .int .i64 i)] _
      revert key
      cases h5 : (decide (57 < ((gI s i).toNat : Int)))
      ·
       replace h5 : ((gI s i).toNat : Int) ≤ 57 := (Int.not_lt.1 (of_decide_eq_false h5))
       intro key
       refine ar_off rfl (ar_off rfl ?_)
       exact key
      ·
       replace h5 : 57 < ((gI s i).toNat : Int) := (of_decide_eq_true h5)
       intro key
       refine ⟨trivial, trivial, ?_⟩
       exact key
     ·
      replace h4 : ((gI s i).toNat : Int) < 48 := (of_decide_eq_true h4)
      intro key
      refine ar_off rfl (ar_off rfl ?_)
      refine ⟨trivial, trivial, trivial, ?_⟩
      exact key
   ·
    replace h2 : ((gI s i).toNat : Int) < 97 := (of_decide_eq_true h2)
    intro key
    refine ar_off rfl (ar_off rfl ?_)
    refine ⟨trivial, trivial, trivial, trivial, ?_⟩
    show aopsR _ _ _ _ _ [(22, .bool (decide (((gI s i).toNat : Int) < 48))), (21, .bool (decide (((gI s i).toNat : Int) < 48))), (20, .int .u8 ((gI s i).toNat)), (19, .bool true), (18, .bool true), (17, .lazy false (.junk)), (16, .lazy false (.junk)), (15, .bool true), (14, .bool true), (13, .int .u8 ((gI s i).toNat)), (0, .str s), (4, .int .u8 ((gI s i).toNat)), (6, .int .i64 (s.length : Int)), (7, .int .i64 i)] _
    revert key
    cases h6 : (decide (((gI s i).toNat : Int) < 48))
    ·
     replace h6 : 48 ≤ ((gI s i).toNat : Int) := (Int.not_lt.1 (of_decide_eq_false h6))
     intro key
     refine ⟨trivial, trivial, ?_⟩
     refine ⟨trivial, ?_⟩
     show aopsR _ _ _ _ _ [(27, .bool (decide (57 < ((gI s i).toNat : Int)))), (26, .bool (decide (57 < ((gI s i).toNat : Int)))), (25, .bool (decide (57 < ((gI s i).toNat : Int)))), (24, .bool (decide (57 < ((gI s i).toNat : Int)))), (23, .int .u8 ((gI s i).toNat)), (22, .bool false), (21, .bool false), (20, .int .u8 ((gI s i).toNat)), (19, .bool true), (18, .bool true), (17, .lazy false (.junk)), (16, .lazy false (.junk)), (15, .bool true), (14, .bool true), (13, .int .u8 ((gI s i).toNat)), (0, .str s), (4, .int .u8 ((gI s i).toNat)), (6, .int .i64 (s.length : Int)), (7, .int .i64 i)] _
     revert key
     cases h7 : (decide (57 < ((gI s i).toNat : Int)))
     ·
      replace h7 : ((gI s i).toNat : Int) ≤ 57 := (Int.not_lt.1 (of_decide_eq_false h7))
      intro key
      refine ar_off rfl (ar_off rfl ?_)
      exact key
     ·
      replace h7 : 57 < ((gI s i).toNat : Int) := (of_decide_eq_true h7)
      intro key
      refine ⟨trivial, trivial, ?_⟩
      exact key
    ·
     replace h6 : ((gI s i).toNat : Int) < 48 := (of_decide_eq_true h6)
     intro key
     refine ar_off rfl (ar_off rfl ?_)
     refine ⟨trivial, trivial, trivial, ?_⟩
     exact key
  refine hK1 _ _ ?_; clear hK1 K1
  refine awp_cond rfl rfl (fun h8 => ?_) (fun h8 => ?_)
  ·
   replace h8 : (((((gI s i).toNat : Int) < 97) ∨ (122 < ((gI s i).toNat : Int))) ∧ ((((gI s i).toNat : Int) < 48) ∨ (57 < ((gI s i).toNat : Int)))) ∧ (((gI s i).toNat : Int) ≠ 46) := ⟨⟨((borT (bandL (bandL h8))).imp (fun q => (of_decide_eq_true q)) (fun q => (of_decide_eq_true q))), ((borT (bandR (bandL h8))).imp (fun q => (of_decide_eq_true q)) (fun q => (of_decide_eq_true q)))⟩, (ne_of_beq_false (bnT (bandR h8)))⟩
   refine awp_reg2_seq [] [2] (by decide) ?_
   intro K1 hK1
   refine ⟨trivial, ?_⟩
   show K1 [(2, .bool false)] m
   refine hK1 _ _ ?_; clear hK1 K1
   refine awp_ret ?_
   refine ⟨trivial, m, fun _ _ h => h, ?_⟩
   show K (.bool false) m
  
   refine K_eq hK (congrArg AV.bool ?_)
   have hb : nameC (gI s i) = false := by
    rw [Bool.eq_false_iff]; intro hh; simp [nameC] at hh; omega
   have ha : s.all nameC = false := by
    rw [Bool.eq_false_iff]; intro hh
    have := List.all_eq_true.1 hh _ (gI_mem hI.1 h1)
    rw [hb] at this; cases this
   rw [nameF, ha]; rfl
  replace h8 : (((97 ≤ ((gI s i).toNat : Int)) ∧ (((gI s i).toNat : Int) ≤ 122)) ∨ ((48 ≤ ((gI s i).toNat : Int)) ∧ (((gI s i).toNat : Int) ≤ 57))) ∨ (((gI s i).toNat : Int) = 46) := ((bandF h8).imp (fun q => ((bandF q).imp (fun q => ⟨(Int.not_lt.1 (of_decide_eq_false (borL q))), (Int.not_lt.1 (of_decide_eq_false (borR q)))⟩) (fun q => ⟨(Int.not_lt.1 (of_decide_eq_false (borL q))), (Int.not_lt.1 (of_decide_eq_false (borR q)))⟩))) (fun q => (eq_of_beq (bnF q))))
  refine awp_skip ?_
  refine hK4 _ _ ?_; clear hK4
  refine awp_reg2 [] [0, 6, 7] (by decide) ?_
  intro K1 hK1
  refine ar_add rfl (a := i) (b := 1) rfl rfl (by omega) (by omega) ?_
  refine ⟨trivial, ?_⟩
  show K1 [(0, .str s), (6, .int .i64 (s.length : Int)), (7, .int .i64 (i + 1))] m
  refine hK1 _ _ ?_; clear hK1 K1
  refine ⟨(i + 1), rfl, rfl, ?_, ?_⟩
  ·
   show 0 ≤ ((i + 1 : Int)) ∧ ((i + 1 : Int)) ≤ s.length ∧ (s.take ((i + 1 : Int)).toNat).all nameC = true
   have hb : nameC (gI s i) = true := by simp [nameC]; omega
   exact ⟨by omega, by omega, by rw [all_snoc hI.1 h1, hI.2.2, hb]; rfl⟩
  ·
   show s.length - ((i + 1 : Int)).toNat < s.length - i.toNat
   omega
 replace h1 : (s.length : Int) ≤ i := (Int.not_lt.1 (of_decide_eq_false h1))
 refine awp_exit ?_
 refine hK2 _ _ ?_; clear hK2
 refine awp_reg2_seq [] [2] (by decide) ?_
 intro K1 hK1
 suffices key : K1 [(2, .bool ((!(s == ([]))) && (decide ((s.length : Int) ≤ 24))))] m by
  refine ⟨trivial, trivial, trivial, ?_⟩
  show aopsR _ _ _ _ _ [(34, .bool (!(s == ([])))), (33, .bool (!(s == ([])))), (32, .str s), (0, .str s), (6, .int .i64 (s.length : Int)), (7, .int .i64 i), (8, .bool (decide (i < (s.length : Int))))] _
  revert key
  cases h9 : (s == ([]))
  ·
   replace h9 : s ≠ [] := (ne_of_beq_false h9)
   intro key
   refine ⟨trivial, trivial, trivial, ?_⟩
   refine ⟨trivial, ?_⟩
   exact key
  ·
   replace h9 : s = [] := (eq_of_beq h9)
   intro key
   refine ar_off rfl (ar_off rfl (ar_off rfl ?_))
   refine ⟨trivial, ?_⟩
   exact key
 refine hK1 _ _ ?_; clear hK1 K1
 refine awp_ret ?_
 refine ⟨trivial, m, fun _ _ h => h, ?_⟩
 show K (.bool ((!(s == ([]))) && (decide ((s.length : Int) ≤ 24)))) m

 refine K_eq hK (congrArg AV.bool ?_)
 have ha : s.all nameC = true := by have := hI.2.2; rwa [take_full (by omega)] at this
 rw [nameF, ha]; rfl

set_option maxHeartbeats 2000000 in
theorem u_may (d kb nb : Nat) (s : DSt) (name : Str) (size : Int) (N : Nat) (hN : [d, nb].Nodup) (hD : DInv N s) (hNN : N ≤ 100000) (hn : name.length ≤ 140737488355328) (m : AMem)  (K : AV → AMem → Prop) (hK : K (.err 108 (mayR s name size)) (AMem.wth m [(d, dObj kb nb s), (nb, mObj s.now)])) : ACalls Try.prog 68 [.ptr ⟨d, 0, none⟩, .str name, .int .i64 size] (AMem.wth m [(d, dObj kb nb s), (nb, mObj s.now)]) K := by
 have hnl := hD.nl
 refine acalls_enter Try.func68 rfl (by decide) (Nat.le_of_ble_eq_true rfl) ?_
 show AWP _ _ _ _ [(0, .ptr ⟨d, 0, none⟩), (1, .str name), (2, .int .i64 size)] (AMem.wth m [(d, dObj kb nb s), (nb, mObj s.now)])
 refine awp_reg2_seq [] [0, 1, 2] (by decide) ?_
 intro K1 hK1
 refine ⟨trivial, ?_⟩
 show K1 [(0, .ptr ⟨d, 0, none⟩), (1, .str name), (2, .int .i64 size)] (AMem.wth m [(d, dObj kb nb s), (nb, mObj s.now)])
 refine hK1 _ _ ?_; clear hK1 K1
 refine awp_seq_k ?_; intro K2 hK2
 refine awp_reg2_seq [] [0, 1, 2, 11] (by decide) ?_
 intro K1 hK1
 refine ⟨trivial, ?_⟩
 refine u_Name name (by first | assumption | omega) _ _ ?_
 refine ⟨trivial, ?_⟩
 show K1 [(0, .ptr ⟨d, 0, none⟩), (1, .str name), (2, .int .i64 size), (11, .bool (!(nameF name)))] (AMem.wth m [(d, dObj kb nb s), (nb, mObj s.now)])
 refine hK1 _ _ ?_; clear hK1 K1
 refine awp_cond rfl rfl (fun h1 => ?_) (fun h1 => ?_)
 ·
  replace h1 : nameF name = false := (bnT h1)
  refine awp_reg2_seq [] [6] (by decide) ?_
  intro K1 hK1
  refine ⟨trivial, trivial, ?_⟩
  show K1 [(6, .iface 108 (.int .i64 3))] (AMem.wth m [(d, dObj kb nb s), (nb, mObj s.now)])
  refine hK1 _ _ ?_; clear hK1 K1
  refine awp_toErr 108 [6] ?_
  show AWP _ _ _ _ [(6, .err 108 3)] (AMem.wth m [(d, dObj kb nb s), (nb, mObj s.now)])
  refine awp_ret ?_
  refine ⟨trivial, (AMem.wth m [(d, dObj kb nb s), (nb, mObj s.now)]), fun _ _ h => h, ?_⟩
  show K (.err 108 3) (AMem.wth m [(d, dObj kb nb s), (nb, mObj s.now)])
 
  have e0 : mayR s name size = (3 : Int) := by
   first | (rw [mayR, if_pos h1]; done) | (rw [mayR, if_neg (by simp [h1]), if_pos h2]; done) | (rw [mayR, if_neg (by simp [h1]), if_neg (by omega), if_pos h4]; done) | (rw [mayR, if_neg (by simp [h1]), if_neg (by omega), if_neg (by rintro ⟨x, y⟩; rcases h4 with h | h <;> first | omega | simp_all)]; done)
  rw [e0] at hK
  exact hK
 replace h1 : nameF name = true := (bnF h1)
 refine awp_skip ?_
 refine hK2 _ _ ?_; clear hK2
 refine awp_seq_k ?_; intro K3 hK3
 refine awp_reg2_seq [] [0, 1, 14] (by decide) ?_
 intro K1 hK1
 refine ⟨trivial, trivial, ?_⟩
 show K1 [(0, .ptr ⟨d, 0, none⟩), (1, .str name), (14, .bool (decide (4000 < size)))] (AMem.wth m [(d, dObj kb nb s), (nb, mObj s.now)])
 refine hK1 _ _ ?_; clear hK1 K1
 refine awp_cond rfl rfl (fun h2 => ?_) (fun h2 => ?_)
 ·
  replace h2 : 4000 < size := (of_decide_eq_true h2)
  refine awp_reg2_seq [] [6] (by decide) ?_
  intro K1 hK1
  refine ⟨trivial, trivial, ?_⟩
  show K1 [(6, .iface 108 (.int .i64 2))] (AMem.wth m [(d, dObj kb nb s), (nb, mObj s.now)])
  refine hK1 _ _ ?_; clear hK1 K1
  refine awp_toErr 108 [6] ?_
  show AWP _ _ _ _ [(6, .err 108 2)] (AMem.wth m [(d, dObj kb nb s), (nb, mObj s.now)])
  refine awp_ret ?_
  refine ⟨trivial, (AMem.wth m [(d, dObj kb nb s), (nb, mObj s.now)]), fun _ _ h => h, ?_⟩
  show K (.err 108 2) (AMem.wth m [(d, dObj kb nb s), (nb, mObj s.now)])
 
  have e0 : mayR s name size = (2 : Int) := by
   first | (rw [mayR, if_pos h1]; done) | (rw [mayR, if_neg (by simp [h1]), if_pos h2]; done) | (rw [mayR, if_neg (by simp [h1]), if_neg (by omega), if_pos h4]; done) | (rw [mayR, if_neg (by simp [h1]), if_neg (by omega), if_neg (by rintro ⟨x, y⟩; rcases h4 with h | h <;> first | omega | simp_all)]; done)
  rw [e0] at hK
  exact hK
 replace h2 : size ≤ 4000 := (Int.not_lt.1 (of_decide_eq_false h2))
 refine awp_skip ?_
 refine hK3 _ _ ?_; clear hK3
 refine awp_reg2_seq [] [0, 8] (by decide) ?_
 intro K1 hK1
 refine ⟨trivial, trivial, ⟨rfl, by decide⟩, ?_⟩
 refine ar_loadp rfl (v := .map nb) rfl (wth_get 0 hN rfl) rfl (apartOk_one rfl rfl (Nat.le_of_ble_eq_true rfl)) rfl ?_
 refine ⟨trivial, ?_⟩
 refine ar_lookupOk rfl (m := m) (L := [(d, dObj kb nb s), (nb, mObj s.now)]) strAV strAV strKey_ok s.now name [] rfl rfl rfl rfl rfl (wth_get 1 hN rfl) rfl ?_
 refine ⟨trivial, (Nat.le_of_ble_eq_true rfl), (Nat.le_of_ble_eq_true rfl), trivial, trivial, ?_⟩
 show K1 [(0, .ptr ⟨d, 0, none⟩), (8, .bool ((mget s.now name).isSome))] (AMem.wth m [(d, dObj kb nb s), (nb, mObj s.now)])
 refine hK1 _ _ ?_; clear hK1 K1
 refine awp_seq_k ?_; intro K4 hK4
 refine awp_reg2_seq [] [34] (by decide) ?_
 intro K1 hK1
 suffices key : K1 [(34, .bool ((!((mget s.now name).isSome)) && (decide (40 ≤ (s.now.length : Int)))))] (AMem.wth m [(d, dObj kb nb s), (nb, mObj s.now)]) by
  refine ⟨trivial, trivial, trivial, ?_⟩
  show aopsR _ _ _ _ _ [(27, .bool (!((mget s.now name).isSome))), (26, .bool (!((mget s.now name).isSome))), (25, .bool ((mget s.now name).isSome)), (0, .ptr ⟨d, 0, none⟩), (8, .bool ((mget s.now name).isSome))] _
  revert key
  cases h3 : ((mget s.now name).isSome)
  ·
   replace h3 : (mget s.now name).isSome = false := h3
   intro key
   refine ⟨trivial, trivial, ⟨rfl, by decide⟩, ?_⟩
   refine ar_loadp rfl (v := .map nb) rfl (wth_get 0 hN rfl) rfl (apartOk_one rfl rfl (Nat.le_of_ble_eq_true rfl)) rfl ?_
   refine ar_lenMap rfl (m := m) (L := [(d, dObj kb nb s), (nb, mObj s.now)]) (mapAV strAV strAV) s.now rfl rfl (wth_get 1 hN rfl) ?_
   refine ⟨trivial, ?_⟩
   exact key
  ·
   replace h3 : (mget s.now name).isSome = true := h3
   intro key
   refine ar_off rfl (ar_off rfl (ar_off rfl (ar_off rfl (ar_off rfl (ar_off rfl ?_)))))
   exact key
 refine hK1 _ _ ?_; clear hK1 K1
 refine awp_cond rfl rfl (fun h4 => ?_) (fun h4 => ?_)
 ·
  replace h4 : ((mget s.now name).isSome = false) ∧ (40 ≤ (s.now.length : Int)) := ⟨(bnT (bandL h4)), (of_decide_eq_true (bandR h4))⟩
  refine awp_reg2_seq [] [6] (by decide) ?_
  intro K1 hK1
  refine ⟨trivial, trivial, ?_⟩
  show K1 [(6, .iface 108 (.int .i64 2))] (AMem.wth m [(d, dObj kb nb s), (nb, mObj s.now)])
  refine hK1 _ _ ?_; clear hK1 K1
  refine awp_toErr 108 [6] ?_
  show AWP _ _ _ _ [(6, .err 108 2)] (AMem.wth m [(d, dObj kb nb s), (nb, mObj s.now)])
  refine awp_ret ?_
  refine ⟨trivial, (AMem.wth m [(d, dObj kb nb s), (nb, mObj s.now)]), fun _ _ h => h, ?_⟩
  show K (.err 108 2) (AMem.wth m [(d, dObj kb nb s), (nb, mObj s.now)])
 
  have e0 : mayR s name size = (2 : Int) := by
   first | (rw [mayR, if_pos h1]; done) | (rw [mayR, if_neg (by simp [h1]), if_pos h2]; done) | (rw [mayR, if_neg (by simp [h1]), if_neg (by omega), if_pos h4]; done) | (rw [mayR, if_neg (by simp [h1]), if_neg (by omega), if_neg (by rintro ⟨x, y⟩; rcases h4 with h | h <;> first | omega | simp_all)]; done)
  rw [e0] at hK
  exact hK
 replace h4 : ((mget s.now name).isSome = true) ∨ ((s.now.length : Int) < 40) := ((bandF h4).imp (fun q => (bnF q)) (fun q => (Int.not_le.1 (of_decide_eq_false q))))
 refine awp_skip ?_
 refine hK4 _ _ ?_; clear hK4
 refine awp_reg2_seq [] [6] (by decide) ?_
 intro K1 hK1
 refine ⟨trivial, ?_⟩
 show K1 [(6, .nilIface)] (AMem.wth m [(d, dObj kb nb s), (nb, mObj s.now)])
 refine hK1 _ _ ?_; clear hK1 K1
 refine awp_toErr 108 [6] ?_
 show AWP _ _ _ _ [(6, .err 108 0)] (AMem.wth m [(d, dObj kb nb s), (nb, mObj s.now)])
 refine awp_ret ?_
 refine ⟨trivial, (AMem.wth m [(d, dObj kb nb s), (nb, mObj s.now)]), fun _ _ h => h, ?_⟩
 show K (.err 108 0) (AMem.wth m [(d, dObj kb nb s), (nb, mObj s.now)])

 have e0 : mayR s name size = (0 : Int) := by
  first | (rw [mayR, if_pos h1]; done) | (rw [mayR, if_neg (by simp [h1]), if_pos h2]; done) | (rw [mayR, if_neg (by simp [h1]), if_neg (by omega), if_pos h4]; done) | (rw [mayR, if_neg (by simp [h1]), if_neg (by omega), if_neg (by rintro ⟨x, y⟩; rcases h4 with h | h <;> first | omega | simp_all)]; done)
 rw [e0] at hK
 exact hK

set_option maxHeartbeats 2000000 in
theorem u_Write (d kb nb : Nat) (s : DSt) (name data : Str) (N : Nat) (hN : [d, nb].Nodup) (hD : DInv N s) (hNN : N ≤ 100000) (hn : name.length ≤ 140737488355328) (hd : data.length ≤ 140737488355328) (m : AMem)  (K : AV → AMem → Prop) (hK : K (.err 108 (writeR s name data).2) (AMem.wth m [(d, dObj kb nb (writeR s name data).1), (nb, mObj (writeR s name data).1.now)])) : ACalls Try.prog 12 [.ptr ⟨d, 0, none⟩, .str name, .str data] (AMem.wth m [(d, dObj kb nb s), (nb, mObj s.now)]) K := by
 refine acalls_enter Try.func12 rfl (by decide) (Nat.le_of_ble_eq_true rfl) ?_
 show AWP _ _ _ _ [(0, .ptr ⟨d, 0, none⟩), (1, .str name), (2, .str data)] (AMem.wth m [(d, dObj kb nb s), (nb, mObj s.now)])
 refine awp_reg2_seq [] [0, 1, 2] (by decide) ?_
 intro K1 hK1
 refine ⟨trivial, ?_⟩
 show K1 [(0, .ptr ⟨d, 0, none⟩), (1, .str name), (2, .str data)] (AMem.wth m [(d, dObj kb nb s), (nb, mObj s.now)])
 refine hK1 _ _ ?_; clear hK1 K1
 refine awp_reg2_seq [] [0, 1, 2, 7] (by decide) ?_
 intro K1 hK1
 refine ⟨trivial, trivial, trivial, trivial, ?_⟩
 refine u_may d kb nb s name (data.length : Int) N hN hD hNN (by first | assumption | omega) _ _ ?_
 show aopsR _ _ _ _ _ _ (AMem.wth m [(d, dObj kb nb s), (nb, mObj s.now)])
 refine ⟨trivial, ?_⟩
 show K1 [(0, .ptr ⟨d, 0, none⟩), (1, .str name), (2, .str data), (7, .err 108 (mayR s name (data.length : Int)))] (AMem.wth m [(d, dObj kb nb s), (nb, mObj s.now)])
 refine hK1 _ _ ?_; clear hK1 K1
 refine awp_seq_k ?_; intro K2 hK2
 refine awp_reg2_seq [] [0, 1, 2, 7, 14] (by decide) ?_
 intro K1 hK1
 refine ⟨trivial, ⟨rfl, rfl⟩, ?_⟩
 show K1 [(0, .ptr ⟨d, 0, none⟩), (1, .str name), (2, .str data), (7, .err 108 (mayR s name (data.length : Int))), (14, .bool (!((mayR s name (data.length : Int)) == 0)))] (AMem.wth m [(d, dObj kb nb s), (nb, mObj s.now)])
 refine hK1 _ _ ?_; clear hK1 K1
 refine awp_cond rfl rfl (fun h1 => ?_) (fun h1 => ?_)
 ·
  replace h1 : (mayR s name (data.length : Int)) ≠ 0 := (ne_of_beq_false (bnT h1))
  refine awp_reg2_seq [] [6] (by decide) ?_
  intro K1 hK1
  refine ⟨trivial, trivial, ?_⟩
  show K1 [(6, .err 108 (mayR s name (data.length : Int)))] (AMem.wth m [(d, dObj kb nb s), (nb, mObj s.now)])
  refine hK1 _ _ ?_; clear hK1 K1
  refine awp_ret ?_
  refine ⟨trivial, (AMem.wth m [(d, dObj kb nb s), (nb, mObj s.now)]), fun _ _ h => h, ?_⟩
  show K (.err 108 (mayR s name (data.length : Int))) (AMem.wth m [(d, dObj kb nb s), (nb, mObj s.now)])
 
  have e0 : writeR s name data = ((s, (mayR s name (data.length : Int))) : DSt × Int) := by
   first | (rw [writeR, if_pos h1]; done) | (rw [writeR, if_neg (by omega)]; done)
  rw [e0] at hK
  exact hK
 replace h1 : (mayR s name (data.length : Int)) = 0 := (eq_of_beq (bnF h1))
 have hms := mayR_size h1
 refine awp_skip ?_
 refine hK2 _ _ ?_; clear hK2
 refine awp_reg2_seq [] [6] (by decide) ?_
 intro K1 hK1
 refine ⟨trivial, trivial, trivial, ⟨rfl, by simp only [List.forall_mem_cons]; exact ⟨rfl, rfl, rfl, rfl, fun _ h => by cases h⟩, by simp only [List.forall_mem_cons]; exact ⟨rfl, rfl, rfl, fun _ h => by cases h⟩⟩, ?_⟩
 refine u_do d kb nb s (⟨name, data, [], 1⟩ : Chg) N hN hD hNN (by first | assumption | (dsimp only; omega) | simp) _ _ ?_
 show aopsR _ _ _ _ _ _ (AMem.wth m [(d, dObj kb nb ((doF s (⟨name, data, [], 1⟩ : Chg)).1)), (nb, mObj ((doF s (⟨name, data, [], 1⟩ : Chg)).1.now))])
 refine ⟨trivial, ?_⟩
 show K1 [(6, .err 108 ((doF s (⟨name, data, [], 1⟩ : Chg)).2))] (AMem.wth m [(d, dObj kb nb ((doF s (⟨name, data, [], 1⟩ : Chg)).1)), (nb, mObj ((doF s (⟨name, data, [], 1⟩ : Chg)).1.now))])
 refine hK1 _ _ ?_; clear hK1 K1
 refine awp_ret ?_
 refine ⟨trivial, (AMem.wth m [(d, dObj kb nb ((doF s (⟨name, data, [], 1⟩ : Chg)).1)), (nb, mObj ((doF s (⟨name, data, [], 1⟩ : Chg)).1.now))]), fun _ _ h => h, ?_⟩
 show K (.err 108 ((doF s (⟨name, data, [], 1⟩ : Chg)).2)) (AMem.wth m [(d, dObj kb nb ((doF s (⟨name, data, [], 1⟩ : Chg)).1)), (nb, mObj ((doF s (⟨name, data, [], 1⟩ : Chg)).1.now))])

 have e0 : writeR s name data = (((doF s (⟨name, data, [], 1⟩ : Chg)).1, (doF s (⟨name, data, [], 1⟩ : Chg)).2) : DSt × Int) := by
  first | (rw [writeR, if_pos h1]; done) | (rw [writeR, if_neg (by omega)]; done)
 rw [e0] at hK
 exact hK

set_option maxHeartbeats 2000000 in
theorem u_Append (d kb nb : Nat) (s : DSt) (name data : Str) (N : Nat) (hN : [d, nb].Nodup) (hD : DInv N s) (hNN : N ≤ 100000) (hn : name.length ≤ 140737488355328) (hd : data.length ≤ 140737488355328) (m : AMem)  (K : AV → AMem → Prop) (hK : K (.err 108 (appR s name data).2) (AMem.wth m [(d, dObj kb nb (appR s name data).1), (nb, mObj (appR s name data).1.now)])) : ACalls Try.prog 26 [.ptr ⟨d, 0, none⟩, .str name, .str data] (AMem.wth m [(d, dObj kb nb s), (nb, mObj s.now)]) K := by
 have hgl := mget_le (k := name) hD.nb
 refine acalls_enter Try.func26 rfl (by decide) (Nat.le_of_ble_eq_true rfl) ?_
 show AWP _ _ _ _ [(0, .ptr ⟨d, 0, none⟩), (1, .str name), (2, .str data)] (AMem.wth m [(d, dObj kb nb s), (nb, mObj s.now)])
 refine awp_reg2_seq [] [0, 1, 2] (by decide) ?_
 intro K1 hK1
 refine ⟨trivial, ?_⟩
 show K1 [(0, .ptr ⟨d, 0, none⟩), (1, .str name), (2, .str data)] (AMem.wth m [(d, dObj kb nb s), (nb, mObj s.now)])
 refine hK1 _ _ ?_; clear hK1 K1
 refine awp_seq_k ?_; intro K2 hK2
 refine awp_reg2_seq [] [0, 1, 2, 10] (by decide) ?_
 intro K1 hK1
 refine ⟨trivial, trivial, trivial, ?_⟩
 show K1 [(0, .ptr ⟨d, 0, none⟩), (1, .str name), (2, .str data), (10, .bool (decide (4000 < (data.length : Int))))] (AMem.wth m [(d, dObj kb nb s), (nb, mObj s.now)])
 refine hK1 _ _ ?_; clear hK1 K1
 refine awp_cond rfl rfl (fun h1 => ?_) (fun h1 => ?_)
 ·
  replace h1 : 4000 < (data.length : Int) := (of_decide_eq_true h1)
  refine awp_reg2_seq [] [6] (by decide) ?_
  intro K1 hK1
  refine ⟨trivial, trivial, ?_⟩
  show K1 [(6, .iface 108 (.int .i64 2))] (AMem.wth m [(d, dObj kb nb s), (nb, mObj s.now)])
  refine hK1 _ _ ?_; clear hK1 K1
  refine awp_toErr 108 [6] ?_
  show AWP _ _ _ _ [(6, .err 108 2)] (AMem.wth m [(d, dObj kb nb s), (nb, mObj s.now)])
  refine awp_ret ?_
  refine ⟨trivial, (AMem.wth m [(d, dObj kb nb s), (nb, mObj s.now)]), fun _ _ h => h, ?_⟩
  show K (.err 108 2) (AMem.wth m [(d, dObj kb nb s), (nb, mObj s.now)])
 
  have e0 : appR s name data = ((s, 2) : DSt × Int) := by
   first | (rw [appR, if_pos h1]; done) | (rw [appR, if_neg (by omega), if_pos h2]; done) | (rw [appR, if_neg (by omega), if_neg (by omega)]; done)
  rw [e0] at hK
  exact hK
 replace h1 : (data.length : Int) ≤ 4000 := (Int.not_lt.1 (of_decide_eq_false h1))
 refine awp_skip ?_
 refine hK2 _ _ ?_; clear hK2
 refine awp_reg2_seq [] [0, 1, 2, 7] (by decide) ?_
 intro K1 hK1
 refine ⟨trivial, trivial, trivial, trivial, ⟨rfl, by decide⟩, ?_⟩
 refine ar_loadp rfl (v := .map nb) rfl (wth_get 0 hN rfl) rfl (apartOk_one rfl rfl (Nat.le_of_ble_eq_true rfl)) rfl ?_
 refine ⟨trivial, ?_⟩
 refine ar_lookup rfl (m := m) (L := [(d, dObj kb nb s), (nb, mObj s.now)]) strAV strAV strKey_ok s.now name [] rfl rfl rfl rfl rfl (wth_get 1 hN rfl) rfl ?_
 refine ⟨trivial, trivial, trivial, ?_⟩
 refine ar_add rfl (a := (((mget s.now name).getD []).length : Int)) (b := (data.length : Int)) rfl rfl (by omega) (by omega) ?_
 refine u_may d kb nb s name ((((mget s.now name).getD []).length : Int) + (data.length : Int)) N hN hD hNN (by first | assumption | omega) _ _ ?_
 show aopsR _ _ _ _ _ _ (AMem.wth m [(d, dObj kb nb s), (nb, mObj s.now)])
 refine ⟨trivial, ?_⟩
 show K1 [(0, .ptr ⟨d, 0, none⟩), (1, .str name), (2, .str data), (7, .err 108 (mayR s name ((((mget s.now name).getD []).length : Int) + (data.length : Int))))] (AMem.wth m [(d, dObj kb nb s), (nb, mObj s.now)])
 refine hK1 _ _ ?_; clear hK1 K1
 refine awp_seq_k ?_; intro K3 hK3
 refine awp_reg2_seq [] [0, 1, 2, 7, 26] (by decide) ?_
 intro K1 hK1
 refine ⟨trivial, ⟨rfl, rfl⟩, ?_⟩
 show K1 [(0, .ptr ⟨d, 0, none⟩), (1, .str name), (2, .str data), (7, .err 108 (mayR s name ((((mget s.now name).getD []).length : Int) + (data.length : Int)))), (26, .bool (!((mayR s name ((((mget s.now name).getD []).length : Int) + (data.length : Int))) == 0)))] (AMem.wth m [(d, dObj kb nb s), (nb, mObj s.now)])
 refine hK1 _ _ ?_; clear hK1 K1
 refine awp_cond rfl rfl (fun h2 => ?_) (fun h2 => ?_)
 ·
  replace h2 : (mayR s name ((((mget s.now name).getD []).length : Int) + (data.length : Int))) ≠ 0 := (ne_of_beq_false (bnT h2))
  refine awp_reg2_seq [] [6] (by decide) ?_
  intro K1 hK1
  refine ⟨trivial, trivial, ?_⟩
  show K1 [(6, .err 108 (mayR s name ((((mget s.now name).getD []).length : Int) + (data.length : Int))))] (AMem.wth m [(d, dObj kb nb s), (nb, mObj s.now)])
  refine hK1 _ _ ?_; clear hK1 K1
  refine awp_ret ?_
  refine ⟨trivial, (AMem.wth m [(d, dObj kb nb s), (nb, mObj s.now)]), fun _ _ h => h, ?_⟩
  show K (.err 108 (mayR s name ((((mget s.now name).getD []).length : Int) + (data.length : Int)))) (AMem.wth m [(d, dObj kb nb s), (nb, mObj s.now)])
 
  have e0 : appR s name data = ((s, (mayR s name ((((mget s.now name).getD []).length : Int) + (data.length : Int)))) : DSt × Int) := by
   first | (rw [appR, if_pos h1]; done) | (rw [appR, if_neg (by omega), if_pos h2]; done) | (rw [appR, if_neg (by omega), if_neg (by omega)]; done)
  rw [e0] at hK
  exact hK
 replace h2 : (mayR s name ((((mget s.now name).getD []).length : Int) + (data.length : Int))) = 0 := (eq_of_beq (bnF h2))
 refine awp_skip ?_
 refine hK3 _ _ ?_; clear hK3
 refine awp_reg2_seq [] [6] (by decide) ?_
 intro K1 hK1
 refine ⟨trivial, trivial, trivial, ⟨rfl, by simp only [List.forall_mem_cons]; exact ⟨rfl, rfl, rfl, rfl, fun _ h => by cases h⟩, by simp only [List.forall_mem_cons]; exact ⟨rfl, rfl, rfl, fun _ h => by cases h⟩⟩, ?_⟩
 refine u_do d kb nb s (⟨name, data, [], 2⟩ : Chg) N hN hD hNN (by first | assumption | (dsimp only; omega) | simp) _ _ ?_
 show aopsR _ _ _ _ _ _ (AMem.wth m [(d, dObj kb nb ((doF s (⟨name, data, [], 2⟩ : Chg)).1)), (nb, mObj ((doF s (⟨name, data, [], 2⟩ : Chg)).1.now))])
 refine ⟨trivial, ?_⟩
 show K1 [(6, .err 108 ((doF s (⟨name, data, [], 2⟩ : Chg)).2))] (AMem.wth m [(d, dObj kb nb ((doF s (⟨name, data, [], 2⟩ : Chg)).1)), (nb, mObj ((doF s (⟨name, data, [], 2⟩ : Chg)).1.now))])
 refine hK1 _ _ ?_; clear hK1 K1
 refine awp_ret ?_
 refine ⟨trivial, (AMem.wth m [(d, dObj kb nb ((doF s (⟨name, data, [], 2⟩ : Chg)).1)), (nb, mObj ((doF s (⟨name, data, [], 2⟩ : Chg)).1.now))]), fun _ _ h => h, ?_⟩
 show K (.err 108 ((doF s (⟨name, data, [], 2⟩ : Chg)).2)) (AMem.wth m [(d, dObj kb nb ((doF s (⟨name, data, [], 2⟩ : Chg)).1)), (nb, mObj ((doF s (⟨name, data, [], 2⟩ : Chg)).1.now))])

 have e0 : appR s name data = (((doF s (⟨name, data, [], 2⟩ : Chg)).1, (doF s (⟨name, data, [], 2⟩ : Chg)).2) : DSt × Int) := by
  first | (rw [appR, if_pos h1]; done) | (rw [appR, if_neg (by omega), if_pos h2]; done) | (rw [appR, if_neg (by omega), if_neg (by omega)]; done)
 rw [e0] at hK
 exact hK

set_option maxHeartbeats 2000000 in
theorem u_Read (d kb nb : Nat) (s : DSt) (name : Str) (hN : [d, nb].Nodup) (m : AMem)  (K : AV → AMem → Prop) (hK : K (.tuple [.str (readR s name).1, .err 108 (readR s name).2]) (AMem.wth m [(d, dObj kb nb s), (nb, mObj s.now)])) : ACalls Try.prog 16 [.ptr ⟨d, 0, none⟩, .str name] (AMem.wth m [(d, dObj kb nb s), (nb, mObj s.now)]) K := by
 refine acalls_enter Try.func16 rfl (by decide) (Nat.le_of_ble_eq_true rfl) ?_
 show AWP _ _ _ _ [(0, .ptr ⟨d, 0, none⟩), (1, .str name)] (AMem.wth m [(d, dObj kb nb s), (nb, mObj s.now)])
 refine awp_reg2_seq [] [0, 1] (by decide) ?_
 intro K1 hK1
 refine ⟨trivial, trivial, ?_⟩
 show K1 [(0, .ptr ⟨d, 0, none⟩), (1, .str name)] (AMem.wth m [(d, dObj kb nb s), (nb, mObj s.now)])
 refine hK1 _ _ ?_; clear hK1 K1
 refine awp_seq_k ?_; intro K2 hK2
 refine awp_reg2_seq [] [0, 1, 11] (by decide) ?_
 intro K1 hK1
 refine ⟨trivial, trivial, ⟨rfl, by decide⟩, ?_⟩
 refine ar_loadp rfl (v := .bool s.down) rfl (wth_get 0 hN rfl) rfl (apartOk_one rfl rfl (Nat.le_of_ble_eq_true rfl)) rfl ?_
 show K1 [(0, .ptr ⟨d, 0, none⟩), (1, .str name), (11, .bool s.down)] (AMem.wth m [(d, dObj kb nb s), (nb, mObj s.now)])
 refine hK1 _ _ ?_; clear hK1 K1
 refine awp_cond rfl rfl (fun h1 => ?_) (fun h1 => ?_)
 ·
  replace h1 : s.down = true := h1
  refine awp_reg2_seq [] [4, 5] (by decide) ?_
  intro K1 hK1
  refine ⟨trivial, trivial, trivial, ?_⟩
  show K1 [(4, .str ([])), (5, .iface 108 (.int .i64 10))] (AMem.wth m [(d, dObj kb nb s), (nb, mObj s.now)])
  refine hK1 _ _ ?_; clear hK1 K1
  refine awp_toErr 108 [5] ?_
  show AWP _ _ _ _ [(4, .str ([])), (5, .err 108 10)] (AMem.wth m [(d, dObj kb nb s), (nb, mObj s.now)])
  refine awp_ret ?_
  refine ⟨trivial, trivial, (AMem.wth m [(d, dObj kb nb s), (nb, mObj s.now)]), fun _ _ h => h, ?_⟩
  show K (.tuple [.str ([]), .err 108 10]) (AMem.wth m [(d, dObj kb nb s), (nb, mObj s.now)])
 
  have e0 : readR s name = (([], 10) : Str × Int) := by
   first | (rw [readR, if_pos h1]; done) | (rw [readR, if_neg (by simp [h1]), if_pos h2]; done) | (rw [readR, if_neg (by simp [h1]), if_neg (by simp [h2])]; done)
  rw [e0] at hK
  exact hK
 replace h1 : s.down = false := h1
 refine awp_skip ?_
 refine hK2 _ _ ?_; clear hK2
 refine awp_reg2_seq [] [6, 7] (by decide) ?_
 intro K1 hK1
 refine ⟨trivial, trivial, ⟨rfl, by decide⟩, ?_⟩
 refine ar_loadp rfl (v := .map nb) rfl (wth_get 0 hN rfl) rfl (apartOk_one rfl rfl (Nat.le_of_ble_eq_true rfl)) rfl ?_
 refine ⟨trivial, ?_⟩
 refine ar_lookupOk rfl (m := m) (L := [(d, dObj kb nb s), (nb, mObj s.now)]) strAV strAV strKey_ok s.now name [] rfl rfl rfl rfl rfl (wth_get 1 hN rfl) rfl ?_
 refine ⟨trivial, (Nat.le_of_ble_eq_true rfl), (Nat.le_of_ble_eq_true rfl), trivial, trivial, ?_⟩
 show K1 [(6, .str ((mget s.now name).getD [])), (7, .bool ((mget s.now name).isSome))] (AMem.wth m [(d, dObj kb nb s), (nb, mObj s.now)])
 refine hK1 _ _ ?_; clear hK1 K1
 refine awp_seq_k ?_; intro K3 hK3
 refine awp_reg2_seq [] [6, 23] (by decide) ?_
 intro K1 hK1
 refine ⟨trivial, trivial, ?_⟩
 show K1 [(6, .str ((mget s.now name).getD [])), (23, .bool (!((mget s.now name).isSome)))] (AMem.wth m [(d, dObj kb nb s), (nb, mObj s.now)])
 refine hK1 _ _ ?_; clear hK1 K1
 refine awp_cond rfl rfl (fun h2 => ?_) (fun h2 => ?_)
 ·
  replace h2 : (mget s.now name).isSome = false := (bnT h2)
  refine awp_reg2_seq [] [4, 5] (by decide) ?_
  intro K1 hK1
  refine ⟨trivial, trivial, trivial, ?_⟩
  show K1 [(4, .str ([])), (5, .iface 108 (.int .i64 7))] (AMem.wth m [(d, dObj kb nb s), (nb, mObj s.now)])
  refine hK1 _ _ ?_; clear hK1 K1
  refine awp_toErr 108 [5] ?_
  show AWP _ _ _ _ [(4, .str ([])), (5, .err 108 7)] (AMem.wth m [(d, dObj kb nb s), (nb, mObj s.now)])
  refine awp_ret ?_
  refine ⟨trivial, trivial, (AMem.wth m [(d, dObj kb nb s), (nb, mObj s.now)]), fun _ _ h => h, ?_⟩
  show K (.tuple [.str ([]), .err 108 7]) (AMem.wth m [(d, dObj kb nb s), (nb, mObj s.now)])
 
  have e0 : readR s name = (([], 7) : Str × Int) := by
   first | (rw [readR, if_pos h1]; done) | (rw [readR, if_neg (by simp [h1]), if_pos h2]; done) | (rw [readR, if_neg (by simp [h1]), if_neg (by simp [h2])]; done)
  rw [e0] at hK
  exact hK
 replace h2 : (mget s.now name).isSome = true := (bnF h2)
 refine awp_skip ?_
 refine hK3 _ _ ?_; clear hK3
 refine awp_reg2_seq [] [4, 5] (by decide) ?_
 intro K1 hK1
 refine ⟨trivial, trivial, trivial, ?_⟩
 show K1 [(4, .str ((mget s.now name).getD [])), (5, .nilIface)] (AMem.wth m [(d, dObj kb nb s), (nb, mObj s.now)])
 refine hK1 _ _ ?_; clear hK1 K1
 refine awp_toErr 108 [5] ?_
 show AWP _ _ _ _ [(4, .str ((mget s.now name).getD [])), (5, .err 108 0)] (AMem.wth m [(d, dObj kb nb s), (nb, mObj s.now)])
 refine awp_ret ?_
 refine ⟨trivial, trivial, (AMem.wth m [(d, dObj kb nb s), (nb, mObj s.now)]), fun _ _ h => h, ?_⟩
 show K (.tuple [.str ((mget s.now name).getD []), .err 108 0]) (AMem.wth m [(d, dObj kb nb s), (nb, mObj s.now)])

 have e0 : readR s name = (((mget s.now name).getD [], 0) : Str × Int) := by
  first | (rw [readR, if_pos h1]; done) | (rw [readR, if_neg (by simp [h1]), if_pos h2]; done) | (rw [readR, if_neg (by simp [h1]), if_neg (by simp [h2])]; done)
 rw [e0] at hK
 exact hK


theorem applyL_step {l : List (Str × Str)} {cs : List Chg} {i : Int} (h0 : 0 ≤ i) (hi : i < cs.length) : applyC (applyL l (cs.take i.toNat)) (gI cs i) = applyL l (cs.take (i + 1).toNat) := by
  rw [take_succ_gI h0 hi, applyL, applyL, List.foldl_append]; rfl

set_option maxHeartbeats 4000000 in
theorem u_Sync (d kb nb : Nat) (s : DSt) (N : Nat) (hN : [d, kb].Nodup) (hD : DInv N s) (hNN : N ≤ 100000) (m : AMem)  (K : AV → AMem → Prop) (hK : K (.err 108 (syncF s).2) (AMem.wth m [(d, dObj kb nb (syncF s).1), (kb, mObj (syncF s).1.kept)])) : ACalls Try.prog 33 [.ptr ⟨d, 0, none⟩] (AMem.wth m [(d, dObj kb nb s), (kb, mObj s.kept)]) K := by
 have hk := stepF_keep s
 have hk3 := hk.2.2.1
 have hwl := hD.kl
 have hkw : (stepF s).1.wait.length ≤ 100000 := by rw [hk3]; omega
 refine acalls_enter Try.func33 rfl (by decide) (Nat.le_of_ble_eq_true rfl) ?_
 show AWP _ _ _ _ [(0, .ptr ⟨d, 0, none⟩)] (AMem.wth m [(d, dObj kb nb s), (kb, mObj s.kept)])
 refine awp_reg2_seq [] [0] (by decide) ?_
 intro K1 hK1
 refine ⟨trivial, ?_⟩
 show K1 [(0, .ptr ⟨d, 0, none⟩)] (AMem.wth m [(d, dObj kb nb s), (kb, mObj s.kept)])
 refine hK1 _ _ ?_; clear hK1 K1
 refine awp_reg2_seq [] [0, 3] (by decide) ?_
 intro K1 hK1
 refine ⟨trivial, ?_⟩
 refine ar_mem (wth_split hN (pick_perm [0] _)) ?_
 refine u_Step d kb nb s hD.st0 (by have := hD.st1; omega) hD.fu0 hD.fu1 _ _ ?_
 show aopsR _ _ _ _ _ _ (AMem.wth (AMem.wth m [(kb, mObj s.kept)]) [(d, dObj kb nb ((stepF s).1))])
 refine ar_mem (wth_split (m := m) (L := [(d, dObj kb nb ((stepF s).1)), (kb, mObj s.kept)]) hN (pick_perm [0] _)).symm ?_
 refine ⟨trivial, ?_⟩
 show K1 [(0, .ptr ⟨d, 0, none⟩), (3, .err 108 ((stepF s).2))] (AMem.wth m [(d, dObj kb nb ((stepF s).1)), (kb, mObj s.kept)])
 refine hK1 _ _ ?_; clear hK1 K1
 refine awp_seq_k ?_; intro K2 hK2
 refine awp_reg2_seq [] [0, 3, 9] (by decide) ?_
 intro K1 hK1
 refine ⟨trivial, ⟨rfl, rfl⟩, ?_⟩
 show K1 [(0, .ptr ⟨d, 0, none⟩), (3, .err 108 ((stepF s).2)), (9, .bool (!(((stepF s).2) == 0)))] (AMem.wth m [(d, dObj kb nb ((stepF s).1)), (kb, mObj s.kept)])
 refine hK1 _ _ ?_; clear hK1 K1
 refine awp_cond rfl rfl (fun h1 => ?_) (fun h1 => ?_)
 ·
  replace h1 : (stepF s).2 ≠ 0 := (ne_of_beq_false (bnT h1))
  refine awp_reg2_seq [] [2] (by decide) ?_
  intro K1 hK1
  refine ⟨trivial, trivial, ?_⟩
  show K1 [(2, .err 108 ((stepF s).2))] (AMem.wth m [(d, dObj kb nb ((stepF s).1)), (kb, mObj s.kept)])
  refine hK1 _ _ ?_; clear hK1 K1
  refine awp_ret ?_
  refine ⟨trivial, (AMem.wth m [(d, dObj kb nb ((stepF s).1)), (kb, mObj s.kept)]), fun _ _ h => h, ?_⟩
  show K (.err 108 ((stepF s).2)) (AMem.wth m [(d, dObj kb nb ((stepF s).1)), (kb, mObj s.kept)])
 
  have e0 : syncF s = (((⟨s.kept, ((stepF s).1).now, ((stepF s).1).wait, ((stepF s).1).fuse, (((stepF s).1).down), ((stepF s).1).steps⟩ : DSt), (stepF s).2) : DSt × Int) := by
   first | (rw [syncF, if_pos h1, ← hk.1]; done) | (have e := hI.2.2; rw [take_full h2, hk3] at e; rw [syncF, if_neg (by omega), ← e, ← hk.2.1]; done)
  rw [e0] at hK
  exact hK
 replace h1 : (stepF s).2 = 0 := (eq_of_beq (bnF h1))
 refine awp_skip ?_
 refine hK2 _ _ ?_; clear hK2
 refine awp_seq_k ?_; intro K3 hK3
 refine awp_reg2_seq [] [0, 14, 15, 16] (by decide) ?_
 intro K1 hK1
 refine ⟨trivial, trivial, ⟨rfl, by decide⟩, ?_⟩
 refine ar_loadp rfl (v := .slice false ((((stepF s).1).wait).map chgAV)) rfl (wth_get 0 hN rfl) rfl (apartOk_one rfl rfl (Nat.le_of_ble_eq_true rfl)) rfl ?_
 refine ar_len rfl chgAV (((stepF s).1).wait) rfl rfl rfl ?_
 refine ⟨trivial, ?_⟩
 show K1 [(0, .ptr ⟨d, 0, none⟩), (14, .slice false ((((stepF s).1).wait).map chgAV)), (15, .int .i64 ((((stepF s).1).wait).length : Int)), (16, .int .i64 0)] (AMem.wth m [(d, dObj kb nb ((stepF s).1)), (kb, mObj s.kept)])
 refine hK1 _ _ ?_; clear hK1 K1
 refine awp_block ?_
 refine awp_keep [0, 14, 15, 16] (by decide) ?_
 refine awp_loop_st (σ := Int × (List (Str × Str))) (fun ⟨i, kp⟩ => [(0, .ptr ⟨d, 0, none⟩), (14, .slice false ((((stepF s).1).wait).map chgAV)), (15, .int .i64 ((((stepF s).1).wait).length : Int)), (16, .int .i64 i)]) (fun ⟨i, kp⟩ => (AMem.wth m [(d, dObj kb nb ((stepF s).1)), (kb, mObj kp)])) (fun ⟨i, kp⟩ => 0 ≤ i ∧ i ≤ (stepF s).1.wait.length ∧ kp = applyL s.kept ((stepF s).1.wait.take i.toNat)) (fun ⟨i, kp⟩ => (stepF s).1.wait.length - i.toNat) (0, s.kept) rfl rfl ?_ ?_
 ·
  show 0 ≤ ((0 : Int)) ∧ ((0 : Int)) ≤ (stepF s).1.wait.length ∧ ((s.kept : (List (Str × Str)))) = applyL s.kept ((stepF s).1.wait.take ((0 : Int)).toNat)
  exact ⟨by omega, by omega, rfl⟩
 rintro ⟨i, kp⟩ hI
 replace hI : 0 ≤ i ∧ i ≤ (stepF s).1.wait.length ∧ kp = applyL s.kept ((stepF s).1.wait.take i.toNat) := hI
 show AWP _ _ _ _ [(0, .ptr ⟨d, 0, none⟩), (14, .slice false ((((stepF s).1).wait).map chgAV)), (15, .int .i64 ((((stepF s).1).wait).length : Int)), (16, .int .i64 i)] (AMem.wth m [(d, dObj kb nb ((stepF s).1)), (kb, mObj kp)])
 refine awp_reg2_seq [] [0, 14, 15, 16, 17] (by decide) ?_
 intro K1 hK1
 refine ⟨trivial, ?_⟩
 show K1 [(0, .ptr ⟨d, 0, none⟩), (14, .slice false ((((stepF s).1).wait).map chgAV)), (15, .int .i64 ((((stepF s).1).wait).length : Int)), (16, .int .i64 i), (17, .bool (decide (i < ((((stepF s).1).wait).length : Int))))] (AMem.wth m [(d, dObj kb nb ((stepF s).1)), (kb, mObj kp)])
 refine hK1 _ _ ?_; clear hK1 K1
 refine awp_seq_k ?_; intro K4 hK4
 refine awp_cond rfl rfl (fun h2 => ?_) (fun h2 => ?_)
 ·
  replace h2 : i < ((((stepF s).1).wait).length : Int) := (of_decide_eq_true h2)
  have hcd := hD.cd (gI (stepF s).1.wait i) (by rw [hk3]; exact gI_mem hI.1 (by rw [← hk3]; exact h2))
  have hap := applyL_bnd (cs := (stepF s).1.wait.take i.toNat) (fun c hc => hD.cd c (by rw [← hk3]; exact List.mem_of_mem_take hc)) (l := s.kept) (B := 400000000) (fun p hp => by have := hD.kb p hp; omega)
  rw [← hI.2.2, List.length_take] at hap
  refine awp_skip ?_
  refine hK4 _ _ ?_; clear hK4
  refine awp_seq_k ?_; intro K5 hK5
  refine awp_block ?_
  refine awp_reg2_seq [] [0, 5, 14, 15, 16] (by decide) ?_
  intro K1 hK1
  refine ar_index rfl chgAV (((stepF s).1).wait) i rfl rfl rfl rfl rfl (by decide) (fun _ => rfl) (by omega) (by omega) ?_
  refine ⟨(apartOk_agg rfl rfl (Nat.le_of_ble_eq_true rfl)), ?_⟩
  refine ar_alloc rfl (m := m) (L := [(d, dObj kb nb ((stepF s).1)), (kb, mObj kp)]) (z := .agg [.str ([]), .str ([]), .str ([]), .int .i64 0]) rfl rfl ?_
  intro b1 hb1
  have hFb1 : m b1 = none := wth_none (m := m) (L := [(d, dObj kb nb ((stepF s).1)), (kb, mObj kp)]) hb1
  have hNb1 : ([b1, d, kb] : List Nat).Nodup := wth_nodup (m := m) (L := [(d, dObj kb nb ((stepF s).1)), (kb, mObj kp)]) hb1 hN
  refine ar_storep rfl 0 (v := chgAV (gI (((stepF s).1).wait) i)) (l' := [.str ((gI (((stepF s).1).wait) i).name), .str ((gI (((stepF s).1).wait) i).data), .str ((gI (((stepF s).1).wait) i).to), .int .i64 ((gI (((stepF s).1).wait) i).kind)]) rfl (by rfl) hNb1 rfl rfl rfl rfl rfl (Nat.le_of_ble_eq_true rfl) rfl ?_
  show K1 [(0, .ptr ⟨d, 0, none⟩), (5, .ptr ⟨b1, 0, none⟩), (14, .slice false ((((stepF s).1).wait).map chgAV)), (15, .int .i64 ((((stepF s).1).wait).length : Int)), (16, .int .i64 i)] (AMem.wth m [(b1, .cells [.str ((gI (((stepF s).1).wait) i).name), .str ((gI (((stepF s).1).wait) i).data), .str ((gI (((stepF s).1).wait) i).to), .int .i64 ((gI (((stepF s).1).wait) i).kind)]), (d, dObj kb nb ((stepF s).1)), (kb, mObj kp)])
  refine hK1 _ _ ?_; clear hK1 K1
  refine awp_draw_memP Try.mixed [(5, 25)] [(5, 25, .tuple [])] [(AMem.wth m [(b1, .cells [.str ((gI (((stepF s).1).wait) i).name), .str ((gI (((stepF s).1).wait) i).data), .str ((gI (((stepF s).1).wait) i).to), .int .i64 ((gI (((stepF s).1).wait) i).kind)]), (d, dObj kb nb ((stepF s).1)), (kb, mObj kp)]), (AMem.wth m [(b1, .cells [.str ((gI (((stepF s).1).wait) i).name), .str ((gI (((stepF s).1).wait) i).data), .str ((gI (((stepF s).1).wait) i).to), .int .i64 ((gI (((stepF s).1).wait) i).kind)]), (d, dObj kb nb ((stepF s).1)), (kb, mObj (applyC kp (gI (((stepF s).1).wait) i)))])] [] [0, 14, 15, 16] [(24, .agg [.str ((gI (((stepF s).1).wait) i).name), .str ((gI (((stepF s).1).wait) i).data), .str ((gI (((stepF s).1).wait) i).to), .int .i64 ((gI (((stepF s).1).wait) i).kind)]), (23, .map kb), (22, .ptr ⟨d, 0, none⟩), (21, .ptr ⟨d, 0, none⟩), (20, .ptr ⟨d, 0, none⟩), (25, .tuple []), (0, .ptr ⟨d, 0, none⟩), (5, .ptr ⟨b1, 0, none⟩), (14, .slice false ((((stepF s).1).wait).map chgAV)), (15, .int .i64 ((((stepF s).1).wait).length : Int)), (16, .int .i64 i)] (AMem.wth m [(b1, .cells [.str ((gI (((stepF s).1).wait) i).name), .str ((gI (((stepF s).1).wait) i).data), .str ((gI (((stepF s).1).wait) i).to), .int .i64 ((gI (((stepF s).1).wait) i).kind)]), (d, dObj kb nb ((stepF s).1)), (kb, mObj (applyC kp (gI (((stepF s).1).wait) i)))]) (by decide) (by decide) (by decide) rfl rfl rfl rfl ?_ ?_ ?_
  ·
   refine ⟨?_, trivial⟩
   ·
    exact mem_call (wth_split (m := m) (L := [(b1, .cells [.str ((gI (((stepF s).1).wait) i).name), .str ((gI (((stepF s).1).wait) i).data), .str ((gI (((stepF s).1).wait) i).to), .int .i64 ((gI (((stepF s).1).wait) i).kind)]), (d, dObj kb nb ((stepF s).1)), (kb, mObj kp)]) hNb1 (pick_perm [2] _)) (wth_split (m := m) (L := [(b1, .cells [.str ((gI (((stepF s).1).wait) i).name), .str ((gI (((stepF s).1).wait) i).data), .str ((gI (((stepF s).1).wait) i).to), .int .i64 ((gI (((stepF s).1).wait) i).kind)]), (d, dObj kb nb ((stepF s).1)), (kb, mObj (applyC kp (gI (((stepF s).1).wait) i)))]) hNb1 (pick_perm [2] _)) (fun Kc hKc => u_apply kb kp (gI (((stepF s).1).wait) i) (by have := hap.1; omega) (fun p hp => by have := hap.2 p hp; omega) (by first | omega | (dsimp only; omega)) _ Kc hKc)
  ·
   refine ⟨?_, ?_, trivial⟩
   ·
    show pseq _ _ _ _ _ [(25, .tuple []), (0, .ptr ⟨d, 0, none⟩), (5, .ptr ⟨b1, 0, none⟩), (14, .slice false ((((stepF s).1).wait).map chgAV)), (15, .int .i64 ((((stepF s).1).wait).length : Int)), (16, .int .i64 i)] _
    refine ⟨trivial, trivial, ⟨rfl, by decide⟩, ?_⟩
    refine pq_loadp rfl (v := .map kb) rfl (wth_get 1 hNb1 rfl) (apartOk_one rfl rfl (Nat.le_of_ble_eq_true rfl)) rfl ?_
    refine pq_loadp rfl (v := .agg [.str ((gI (((stepF s).1).wait) i).name), .str ((gI (((stepF s).1).wait) i).data), .str ((gI (((stepF s).1).wait) i).to), .int .i64 ((gI (((stepF s).1).wait) i).kind)]) rfl (wth_get 0 hNb1 rfl) (apartOk_agg rfl rfl (Nat.le_of_ble_eq_true rfl)) rfl ?_
    exact rfl
   ·
    show pseq _ _ _ _ _ [(25, .tuple []), (0, .ptr ⟨d, 0, none⟩), (5, .ptr ⟨b1, 0, none⟩), (14, .slice false ((((stepF s).1).wait).map chgAV)), (15, .int .i64 ((((stepF s).1).wait).length : Int)), (16, .int .i64 i)] _
    refine ⟨trivial, trivial, ⟨rfl, by decide⟩, ?_⟩
    refine pq_loadp rfl (v := .map kb) rfl (wth_get 1 hNb1 rfl) (apartOk_one rfl rfl (Nat.le_of_ble_eq_true rfl)) rfl ?_
    refine pq_loadp rfl (v := .agg [.str ((gI (((stepF s).1).wait) i).name), .str ((gI (((stepF s).1).wait) i).data), .str ((gI (((stepF s).1).wait) i).to), .int .i64 ((gI (((stepF s).1).wait) i).kind)]) rfl (wth_get 0 hNb1 rfl) (apartOk_agg rfl rfl (Nat.le_of_ble_eq_true rfl)) rfl ?_
    exact rfl
  intro K1 hK1
  show K1 [(0, .ptr ⟨d, 0, none⟩), (14, .slice false ((((stepF s).1).wait).map chgAV)), (15, .int .i64 ((((stepF s).1).wait).length : Int)), (16, .int .i64 i)] (AMem.wth m [(b1, .cells [.str ((gI (((stepF s).1).wait) i).name), .str ((gI (((stepF s).1).wait) i).data), .str ((gI (((stepF s).1).wait) i).to), .int .i64 ((gI (((stepF s).1).wait) i).kind)]), (d, dObj kb nb ((stepF s).1)), (kb, mObj (applyC kp (gI (((stepF s).1).wait) i)))])
  refine hK1 _ _ ?_; clear hK1 K1
  refine hK5 _ _ ?_; clear hK5
  have hNd1 : ([d, kb] : List Nat).Nodup := drop_nodup (L := [(b1, .cells [.str ((gI (((stepF s).1).wait) i).name), .str ((gI (((stepF s).1).wait) i).data), .str ((gI (((stepF s).1).wait) i).to), .int .i64 ((gI (((stepF s).1).wait) i).kind)]), (d, dObj kb nb ((stepF s).1)), (kb, mObj (applyC kp (gI (((stepF s).1).wait) i)))]) hNb1 (pick_perm [0] _)
  refine awp_dropP [(b1, .cells [.str ((gI (((stepF s).1).wait) i).name), .str ((gI (((stepF s).1).wait) i).data), .str ((gI (((stepF s).1).wait) i).to), .int .i64 ((gI (((stepF s).1).wait) i).kind)])] [(d, dObj kb nb ((stepF s).1)), (kb, mObj (applyC kp (gI (((stepF s).1).wait) i)))] hNb1 (pick_perm [0] _) (by simp only [List.map_cons, List.map_nil, List.forall_mem_cons]; exact ⟨hFb1, fun _ h => by cases h⟩) ?_
  refine awp_reg2 [] [0, 14, 15, 16] (by decide) ?_
  intro K1 hK1
  refine ar_add rfl (a := i) (b := 1) rfl rfl (by omega) (by omega) ?_
  refine ⟨trivial, ?_⟩
  show K1 [(0, .ptr ⟨d, 0, none⟩), (14, .slice false ((((stepF s).1).wait).map chgAV)), (15, .int .i64 ((((stepF s).1).wait).length : Int)), (16, .int .i64 (i + 1))] (AMem.wth m [(d, dObj kb nb ((stepF s).1)), (kb, mObj (applyC kp (gI (((stepF s).1).wait) i)))])
  refine hK1 _ _ ?_; clear hK1 K1
  refine ⟨(i + 1, applyC kp (gI (((stepF s).1).wait) i)), rfl, rfl, ?_, ?_⟩
  ·
   show 0 ≤ ((i + 1 : Int)) ∧ ((i + 1 : Int)) ≤ (stepF s).1.wait.length ∧ ((applyC kp (gI (((stepF s).1).wait) i) : (List (Str × Str)))) = applyL s.kept ((stepF s).1.wait.take ((i + 1 : Int)).toNat)
   exact ⟨by omega, by omega, by rw [hI.2.2]; exact applyL_step hI.1 h2⟩
  ·
   show (stepF s).1.wait.length - ((i + 1 : Int)).toNat < (stepF s).1.wait.length - i.toNat
   omega
 replace h2 : ((((stepF s).1).wait).length : Int) ≤ i := (Int.not_lt.1 (of_decide_eq_false h2))
 refine awp_exit ?_
 refine hK3 _ _ ?_; clear hK3
 refine awp_reg2_seq [] [] (by decide) ?_
 intro K1 hK1
 refine ⟨trivial, trivial, ⟨rfl, by decide⟩, ?_⟩
 refine ar_storep rfl 0 (v := .slice true []) (l' := [.map kb, .map nb, .slice true [], .int .i64 (((stepF s).1).fuse), .bool (((stepF s).1).down), .int .i64 (((stepF s).1).steps)]) rfl rfl hN rfl rfl rfl rfl rfl (Nat.le_of_ble_eq_true rfl) rfl ?_
 show K1 [] (AMem.wth m [(d, .cells [.map kb, .map nb, .slice true [], .int .i64 (((stepF s).1).fuse), .bool (((stepF s).1).down), .int .i64 (((stepF s).1).steps)]), (kb, mObj kp)])
 refine hK1 _ _ ?_; clear hK1 K1
 refine awp_reg2_seq [] [2] (by decide) ?_
 intro K1 hK1
 refine ⟨trivial, ?_⟩
 show K1 [(2, .nilIface)] (AMem.wth m [(d, .cells [.map kb, .map nb, .slice true [], .int .i64 (((stepF s).1).fuse), .bool (((stepF s).1).down), .int .i64 (((stepF s).1).steps)]), (kb, mObj kp)])
 refine hK1 _ _ ?_; clear hK1 K1
 refine awp_toErr 108 [2] ?_
 show AWP _ _ _ _ [(2, .err 108 0)] (AMem.wth m [(d, .cells [.map kb, .map nb, .slice true [], .int .i64 (((stepF s).1).fuse), .bool (((stepF s).1).down), .int .i64 (((stepF s).1).steps)]), (kb, mObj kp)])
 refine awp_ret ?_
 refine ⟨trivial, (AMem.wth m [(d, .cells [.map kb, .map nb, .slice true [], .int .i64 (((stepF s).1).fuse), .bool (((stepF s).1).down), .int .i64 (((stepF s).1).steps)]), (kb, mObj kp)]), fun _ _ h => h, ?_⟩
 show K (.err 108 0) (AMem.wth m [(d, .cells [.map kb, .map nb, .slice true [], .int .i64 (((stepF s).1).fuse), .bool (((stepF s).1).down), .int .i64 (((stepF s).1).steps)]), (kb, mObj kp)])

 have e0 : syncF s = (((⟨kp, s.now, [], ((stepF s).1).fuse, (((stepF s).1).down), ((stepF s).1).steps⟩ : DSt), 0) : DSt × Int) := by
  first | (rw [syncF, if_pos h1, ← hk.1]; done) | (have e := hI.2.2; rw [take_full h2, hk3] at e; rw [syncF, if_neg (by omega), ← e, ← hk.2.1]; done)
 rw [e0] at hK
 exact hK

theorem u_New   (m : AMem)  (K : AV → AMem → Prop) (hK : ∀ d nb kb, ([d, nb, kb] : List Nat).Nodup → m d = none → m nb = none → m kb = none → K (.ptr ⟨d, 0, none⟩) (AMem.wth m [(d, dObj kb nb ⟨[], [], [], -1, false, 0⟩), (nb, mObj []), (kb, mObj [])])) : ACalls Try.prog 11 [] m K := by
 refine acalls_enter Try.func11 rfl (by decide) (Nat.le_of_ble_eq_true rfl) ?_
 show AWP _ _ _ _ [] m
 refine awp_reg2_seq [] [] (by decide) ?_
 intro K1 hK1
 refine ⟨trivial, ?_⟩
 show K1 [] m
 refine hK1 _ _ ?_; clear hK1 K1
 refine awp_reg2_seq [] [0] (by decide) ?_
 intro K1 hK1
 refine ar_makeMap rfl (m := m) (L := []) rfl ?_
 intro b1 hb1
 have hFb1 : m b1 = none := wth_none (m := m) (L := []) hb1
 have hNb1 : ([b1] : List Nat).Nodup := wth_nodup (m := m) (L := []) hb1 List.nodup_nil
 refine ar_makeMap rfl (m := m) (L := [(b1, mObj ([] : List ((List UInt8) × (List UInt8))))]) rfl ?_
 intro b2 hb2
 have hFb2 : m b2 = none := wth_none (m := m) (L := [(b1, mObj ([] : List ((List UInt8) × (List UInt8))))]) hb2
 have hNb2 : ([b2, b1] : List Nat).Nodup := wth_nodup (m := m) (L := [(b1, mObj ([] : List ((List UInt8) × (List UInt8))))]) hb2 hNb1
 refine ⟨⟨rfl, by simp only [List.forall_mem_cons]; exact ⟨rfl, rfl, rfl, rfl, rfl, rfl, fun _ h => by cases h⟩, by simp only [List.forall_mem_cons]; exact ⟨rfl, rfl, rfl, fun _ h => by cases h⟩⟩, ?_⟩
 refine ar_box rfl (m := m) (L := [(b2, mObj ([] : List ((List UInt8) × (List UInt8)))), (b1, mObj ([] : List ((List UInt8) × (List UInt8))))]) (v := .agg [.map b1, .map b2, .slice true [], .int .i64 (-1), .bool false, .int .i64 0]) rfl rfl ?_
 intro b3 hb3
 have hFb3 : m b3 = none := wth_none (m := m) (L := [(b2, mObj ([] : List ((List UInt8) × (List UInt8)))), (b1, mObj ([] : List ((List UInt8) × (List UInt8))))]) hb3
 have hNb3 : ([b3, b2, b1] : List Nat).Nodup := wth_nodup (m := m) (L := [(b2, mObj ([] : List ((List UInt8) × (List UInt8)))), (b1, mObj ([] : List ((List UInt8) × (List UInt8))))]) hb3 hNb2
 refine ⟨trivial, ?_⟩
 show K1 [(0, .ptr ⟨b3, 0, none⟩)] (AMem.wth m [(b3, .cells [.map b1, .map b2, .slice true [], .int .i64 (-1), .bool false, .int .i64 0]), (b2, mObj ([] : List ((List UInt8) × (List UInt8)))), (b1, mObj ([] : List ((List UInt8) × (List UInt8))))])
 refine hK1 _ _ ?_; clear hK1 K1
 refine awp_ret ?_
 refine ⟨trivial, (AMem.wth m [(b3, .cells [.map b1, .map b2, .slice true [], .int .i64 (-1), .bool false, .int .i64 0]), (b2, mObj ([] : List ((List UInt8) × (List UInt8)))), (b1, mObj ([] : List ((List UInt8) × (List UInt8))))]), fun _ _ h => h, ?_⟩
 show K (.ptr ⟨b3, 0, none⟩) (AMem.wth m [(b3, .cells [.map b1, .map b2, .slice true [], .int .i64 (-1), .bool false, .int .i64 0]), (b2, mObj ([] : List ((List UInt8) × (List UInt8)))), (b1, mObj ([] : List ((List UInt8) × (List UInt8))))])

 exact hK b3 b2 b1 hNb3 hFb3 hFb2 hFb1

end Go.Proofs
end
section
namespace Go.Proofs
open Go Go.Aw
set_option maxRecDepth 100000


/-- A value, as data. -/
inductive Val where
  | mk (kind n : Int) (s : Str) (l : List Val) (f : List (Str × Val))
instance : Inhabited Val := ⟨.mk 0 0 [] [] []⟩
def Val.kind : Val → Int | .mk k _ _ _ _ => k
def Val.n : Val → Int | .mk _ n _ _ _ => n
def Val.s : Val → Str | .mk _ _ s _ _ => s
def Val.l : Val → List Val | .mk _ _ _ l _ => l
def Val.f : Val → List (Str × Val) | .mk _ _ _ _ f => f
mutual
def valIn : Val → AV
  | .mk k n s l f => .agg [.int .i64 k, .int .i64 n, .str s, .slice false (valsIn l), .slice false (fldsIn f)]
def valsIn : List Val → List AV
  | [] => []
  | v :: r => valIn v :: valsIn r
def fldsIn : List (Str × Val) → List AV
  | [] => []
  | (s, .mk k n t l f) :: r => .agg [.str s, .int .i64 k, .int .i64 n, .str t, .slice false (valsIn l), .slice false (fldsIn f)] :: fldsIn r
end
def fldIn (p : Str × Val) : AV := .agg (.str p.1 :: (valIn p.2).cells)
theorem valsIn_eq (l : List Val) : valsIn l = l.map valIn := by
  induction l with
  | nil => rfl
  | cons v r ih => simp only [valsIn, List.map_cons, ih]
theorem fldsIn_eq (l : List (Str × Val)) : fldsIn l = l.map fldIn := by
  induction l with
  | nil => rfl
  | cons v r ih =>
    obtain ⟨s, v⟩ := v
    cases v with
    | mk k n t l f => simp only [fldsIn, List.map_cons, ih, fldIn, valIn, AV.cells]
def valTop (v : Val) : AV := .agg [.int .i64 v.kind, .int .i64 v.n, .str v.s, .slice false (v.l.map valIn), .slice false (v.f.map fldIn)]
def fldTop (p : Str × Val) : AV := .agg [.str p.1, .int .i64 p.2.kind, .int .i64 p.2.n, .str p.2.s, .slice false (p.2.l.map valIn), .slice false (p.2.f.map fldIn)]
theorem valIn_eq (v : Val) : valIn v = valTop v := by
  cases v with
  | mk k n s l f => simp only [valIn, valTop, valsIn_eq, fldsIn_eq, Val.kind, Val.n, Val.s, Val.l, Val.f]
theorem fldIn_eq (p : Str × Val) : fldIn p = fldTop p := by
  rw [fldIn, valIn_eq]; rfl
theorem valMap (l : List Val) : l.map valIn = l.map valTop := List.map_congr_left fun v _ => valIn_eq v
theorem fldMap (l : List (Str × Val)) : l.map fldIn = l.map fldTop := List.map_congr_left fun v _ => fldIn_eq v
mutual
def weightV (most : Int) : Val → Int
  | .mk _ _ s l f => weightF most f (weightL most l (1 + s.length))
def weightL (most : Int) : List Val → Int → Int
  | [], n => n
  | v :: r, n => if n ≤ most then weightL most r (IntKind.i64.wrap (n + weightV most v)) else n
def weightF (most : Int) : List (Str × Val) → Int → Int
  | [], n => n
  | (s, .mk _ _ t l f) :: r, n => if n ≤ most then weightF most r (IntKind.i64.wrap (IntKind.i64.wrap (n + s.length) + weightF most f (weightL most l (1 + t.length)))) else n
end
theorem weightV_eq (most : Int) (v : Val) : weightV most v = weightF most v.f (weightL most v.l (1 + v.s.length)) := by
  cases v with
  | mk k n s l f => simp only [weightV, Val.f, Val.l, Val.s]
theorem weightF_cons (most : Int) (p : Str × Val) (r : List (Str × Val)) (n : Int) : weightF most (p :: r) n = if n ≤ most then weightF most r (IntKind.i64.wrap (IntKind.i64.wrap (n + p.1.length) + weightV most p.2)) else n := by
  obtain ⟨s, v⟩ := p
  cases v with
  | mk k n t l f => simp only [weightF, weightV]
theorem weightL_stop (most : Int) (l : List Val) (n : Int) (h : most < n) : weightL most l n = n := by
  cases l with
  | nil => simp only [weightL]
  | cons v r => simp only [weightL]; rw [if_neg (by omega)]
theorem weightF_stop (most : Int) (l : List (Str × Val)) (n : Int) (h : most < n) : weightF most l n = n := by
  cases l with
  | nil => simp only [weightF]
  | cons v r => rw [weightF_cons, if_neg (by omega)]
theorem drop_gI {α : Type} [Inhabited α] {l : List α} {i : Int} (h0 : 0 ≤ i) (hi : i < l.length) : l.drop i.toNat = gI l i :: l.drop (i + 1).toNat := by
  have h : i.toNat < l.length := by omega
  have e : (i + 1).toNat = i.toNat + 1 := by omega
  rw [List.drop_eq_getElem_cons h, e]
  simp [gI, List.getD_eq_getElem?_getD, h]
mutual
def depV : Val → Nat
  | .mk _ _ _ l f => depL l + depF f + 1
def depL : List Val → Nat
  | [] => 0
  | v :: r => depV v + depL r
def depF : List (Str × Val) → Nat
  | [] => 0
  | (_, .mk _ _ _ l f) :: r => depL l + depF f + 1 + depF r
end
theorem depL_mem {l : List Val} {v : Val} (h : v ∈ l) : depV v ≤ depL l := by
  induction l with
  | nil => cases h
  | cons a r ih =>
    simp only [depL]
    rcases List.mem_cons.1 h with rfl | h
    · omega
    · have := ih h; omega
theorem depF_mem {l : List (Str × Val)} {p : Str × Val} (h : p ∈ l) : depV p.2 ≤ depF l := by
  induction l with
  | nil => cases h
  | cons a r ih =>
    obtain ⟨s, v⟩ := a
    cases v with
    | mk k n t l f =>
      simp only [depF]
      rcases List.mem_cons.1 h with rfl | h
      · simp only [depV]; omega
      · have := ih h; omega
theorem depV_eq (v : Val) : depV v = depL v.l + depF v.f + 1 := by
  cases v with
  | mk k n s l f => simp only [depV, Val.l, Val.f]

set_option maxHeartbeats 4000000 in
theorem u_weight1 (v : Val) (most : Int) (ih : ∀ w : Val, depV w < depV v → ∀ (m : AMem) (K : AV → AMem → Prop), K (.int .i64 (weightV most w)) m → ACalls Try.prog 67 [valTop w, .int .i64 most] m K) (m : AMem)  (K : AV → AMem → Prop) (hK : K (.int .i64 (weightV most v)) m) : ACalls Try.prog 67 [valTop v, .int .i64 most] m K := by
 refine acalls_enter Try.func67 rfl (by decide) (Nat.le_of_ble_eq_true rfl) ?_
 refine awp_bd 0 (x := valTop v) rfl (fun hbd0 => ?_)
 have hbd0_2 : v.s.length ≤ 140737488355328 := (hbd0 2 (Nat.le_of_ble_eq_true rfl))
 have hbd0_3 : v.l.length ≤ 140737488355328 := bd_map (hbd0 3 (Nat.le_of_ble_eq_true rfl))
 have hbd0_4 : v.f.length ≤ 140737488355328 := bd_map (hbd0 4 (Nat.le_of_ble_eq_true rfl))
 show AWP _ _ _ _ [(0, valTop v), (1, .int .i64 most)] m
 refine awp_reg2_seq [] [1, 2] (by decide) ?_
 intro K1 hK1
 refine ar_box rfl (m := m) (L := []) (v := valTop v) (by rfl) rfl ?_
 intro b1 hb1
 have hFb1 : m b1 = none := wth_none (m := m) (L := []) hb1
 have hNb1 : ([b1] : List Nat).Nodup := wth_nodup (m := m) (L := []) hb1 List.nodup_nil
 refine ⟨trivial, ?_⟩
 show K1 [(1, .int .i64 most), (2, .ptr ⟨b1, 0, none⟩)] (AMem.wth m [(b1, .cells [.int .i64 v.kind, .int .i64 v.n, .str v.s, .slice false (v.l.map valIn), .slice false (v.f.map fldIn)])])
 refine hK1 _ _ ?_; clear hK1 K1
 refine awp_reg2_seq [] [1, 2, 5] (by decide) ?_
 intro K1 hK1
 refine ⟨⟨rfl, by decide⟩, ?_⟩
 refine ar_loadp rfl (v := .str v.s) rfl (wth_get 0 hNb1 rfl) rfl (apartOk_one rfl rfl (Nat.le_of_ble_eq_true rfl)) rfl ?_
 refine ⟨trivial, ?_⟩
 refine ar_add rfl (a := 1) (b := (v.s.length : Int)) rfl rfl (by omega) (by omega) ?_
 refine ⟨trivial, ?_⟩
 show K1 [(1, .int .i64 most), (2, .ptr ⟨b1, 0, none⟩), (5, .int .i64 (1 + (v.s.length : Int)))] (AMem.wth m [(b1, .cells [.int .i64 v.kind, .int .i64 v.n, .str v.s, .slice false (v.l.map valIn), .slice false (v.f.map fldIn)])])
 refine hK1 _ _ ?_; clear hK1 K1
 refine awp_seq_k ?_; intro K2 hK2
 refine awp_reg2_seq [] [1, 2, 5, 6] (by decide) ?_
 intro K1 hK1
 refine ⟨trivial, ?_⟩
 show K1 [(1, .int .i64 most), (2, .ptr ⟨b1, 0, none⟩), (5, .int .i64 (1 + (v.s.length : Int))), (6, .int .i64 0)] (AMem.wth m [(b1, .cells [.int .i64 v.kind, .int .i64 v.n, .str v.s, .slice false (v.l.map valIn), .slice false (v.f.map fldIn)])])
 refine hK1 _ _ ?_; clear hK1 K1
 refine awp_block ?_
 refine awp_keep [1, 2, 5, 6] (by decide) ?_
 refine awp_loop_st (σ := Int × Int) (fun ⟨n_, i⟩ => [(1, .int .i64 most), (2, .ptr ⟨b1, 0, none⟩), (5, .int .i64 n_), (6, .int .i64 i)]) (fun _ => (AMem.wth m [(b1, .cells [.int .i64 v.kind, .int .i64 v.n, .str v.s, .slice false (v.l.map valIn), .slice false (v.f.map fldIn)])])) (fun ⟨n_, i⟩ => 0 ≤ i ∧ i ≤ v.l.length ∧ weightL most v.l (1 + v.s.length) = weightL most (v.l.drop i.toNat) n_) (fun ⟨n_, i⟩ => v.l.length - i.toNat) (1 + (v.s.length : Int), 0) rfl rfl ?_ ?_
 ·
  show 0 ≤ ((0 : Int)) ∧ ((0 : Int)) ≤ v.l.length ∧ weightL most v.l (1 + v.s.length) = weightL most (v.l.drop ((0 : Int)).toNat) ((1 + (v.s.length : Int) : Int))
  exact ⟨by omega, by omega, rfl⟩
 rintro ⟨n_, i⟩ hI
 replace hI : 0 ≤ i ∧ i ≤ v.l.length ∧ weightL most v.l (1 + v.s.length) = weightL most (v.l.drop i.toNat) n_ := hI
 show AWP _ _ _ _ [(1, .int .i64 most), (2, .ptr ⟨b1, 0, none⟩), (5, .int .i64 n_), (6, .int .i64 i)] (AMem.wth m [(b1, .cells [.int .i64 v.kind, .int .i64 v.n, .str v.s, .slice false (v.l.map valIn), .slice false (v.f.map fldIn)])])
 refine awp_seq_k ?_; intro K3 hK3
 refine awp_reg2_seq [] [1, 2, 5, 6, 21] (by decide) ?_
 intro K1 hK1
 suffices key : K1 [(1, .int .i64 most), (2, .ptr ⟨b1, 0, none⟩), (5, .int .i64 n_), (6, .int .i64 i), (21, .bool ((decide (i < (v.l.length : Int))) && (decide (n_ ≤ most))))] (AMem.wth m [(b1, .cells [.int .i64 v.kind, .int .i64 v.n, .str v.s, .slice false (v.l.map valIn), .slice false (v.f.map fldIn)])]) by
  refine ⟨trivial, ⟨rfl, by decide⟩, ?_⟩
  refine ar_loadp rfl (v := .slice false (v.l.map valIn)) rfl (wth_get 0 hNb1 rfl) rfl (apartOk_one rfl rfl (Nat.le_of_ble_eq_true rfl)) rfl ?_
  refine ar_len rfl valIn v.l rfl rfl rfl ?_
  refine ⟨trivial, trivial, ?_⟩
  show aopsR _ _ _ _ _ [(17, .bool (decide (i < (v.l.length : Int)))), (16, .bool (decide (i < (v.l.length : Int)))), (15, .int .i64 (v.l.length : Int)), (14, .slice false (v.l.map valIn)), (13, .ptr ⟨b1, 3, none⟩), (12, .int .i64 i), (1, .int .i64 most), (2, .ptr ⟨b1, 0, none⟩), (5, .int .i64 n_), (6, .int .i64 i)] _
  revert key
  cases h1 : (decide (i < (v.l.length : Int)))
  ·
   replace h1 : (v.l.length : Int) ≤ i := (Int.not_lt.1 (of_decide_eq_false h1))
   intro key
   refine ar_off rfl (ar_off rfl (ar_off rfl ?_))
   exact key
  ·
   replace h1 : i < (v.l.length : Int) := (of_decide_eq_true h1)
   intro key
   refine ⟨trivial, trivial, trivial, ?_⟩
   exact key
 refine hK1 _ _ ?_; clear hK1 K1
 refine awp_cond rfl rfl (fun h2 => ?_) (fun h2 => ?_)
 ·
  replace h2 : (i < (v.l.length : Int)) ∧ (n_ ≤ most) := ⟨(of_decide_eq_true (bandL h2)), (of_decide_eq_true (bandR h2))⟩
  refine awp_skip ?_
  refine hK3 _ _ ?_; clear hK3
  refine awp_seq_k ?_; intro K4 hK4
  refine awp_block ?_
  refine awp_reg2 [] [1, 2, 5, 6] (by decide) ?_
  intro K1 hK1
  refine ⟨trivial, ⟨rfl, by decide⟩, ?_⟩
  refine ar_loadp rfl (v := .slice false (v.l.map valIn)) rfl (wth_get 0 hNb1 rfl) rfl (apartOk_one rfl rfl (Nat.le_of_ble_eq_true rfl)) rfl ?_
  refine ⟨trivial, ?_⟩
  refine ar_index rfl valTop v.l i rfl rfl (valMap v.l) rfl rfl (by decide) (fun _ => rfl) (by omega) (by omega) ?_
  refine ⟨(apartOk_agg rfl rfl (Nat.le_of_ble_eq_true rfl)), trivial, ?_⟩
  refine ih (gI v.l i) (by have := depV_eq v; first | (have := depL_mem (gI_mem (l := v.l) (i := i) hI.1 h2.1); omega) | (have := depF_mem (gI_mem (l := v.f) (i := k) hI2.1 h4.1); omega)) _ _ ?_
  refine ⟨trivial, trivial, ?_⟩
  show K1 [(1, .int .i64 most), (2, .ptr ⟨b1, 0, none⟩), (5, .int .i64 (IntKind.i64.wrap (n_ + (weightV most (gI v.l i))))), (6, .int .i64 i)] (AMem.wth m [(b1, .cells [.int .i64 v.kind, .int .i64 v.n, .str v.s, .slice false (v.l.map valIn), .slice false (v.f.map fldIn)])])
  refine hK1 _ _ ?_; clear hK1 K1
  refine hK4 _ _ ?_; clear hK4
  refine awp_reg2 [] [1, 2, 5, 6] (by decide) ?_
  intro K1 hK1
  refine ⟨trivial, ?_⟩
  refine ar_add rfl (a := i) (b := 1) rfl rfl (by omega) (by omega) ?_
  refine ⟨trivial, ?_⟩
  show K1 [(1, .int .i64 most), (2, .ptr ⟨b1, 0, none⟩), (5, .int .i64 (IntKind.i64.wrap (n_ + (weightV most (gI v.l i))))), (6, .int .i64 (i + 1))] (AMem.wth m [(b1, .cells [.int .i64 v.kind, .int .i64 v.n, .str v.s, .slice false (v.l.map valIn), .slice false (v.f.map fldIn)])])
  refine hK1 _ _ ?_; clear hK1 K1
  refine ⟨(IntKind.i64.wrap (n_ + (weightV most (gI v.l i))), i + 1), rfl, rfl, ?_, ?_⟩
  ·
   show 0 ≤ ((i + 1 : Int)) ∧ ((i + 1 : Int)) ≤ v.l.length ∧ weightL most v.l (1 + v.s.length) = weightL most (v.l.drop ((i + 1 : Int)).toNat) ((IntKind.i64.wrap (n_ + (weightV most (gI v.l i))) : Int))
   refine ⟨by omega, by omega, ?_⟩
   rw [hI.2.2, drop_gI hI.1 h2.1]
   simp only [weightL]
   rw [if_pos h2.2]
  ·
   show v.l.length - ((i + 1 : Int)).toNat < v.l.length - i.toNat
   omega
 replace h2 : ((v.l.length : Int) ≤ i) ∨ (most < n_) := ((bandF h2).imp (fun q => (Int.not_lt.1 (of_decide_eq_false q))) (fun q => (Int.not_le.1 (of_decide_eq_false q))))
 refine awp_exit ?_
 refine hK2 _ _ ?_; clear hK2
 refine awp_seq_k ?_; intro K5 hK5
 refine awp_reg2_seq [] [1, 2, 5, 7] (by decide) ?_
 intro K1 hK1
 refine ⟨trivial, ?_⟩
 show K1 [(1, .int .i64 most), (2, .ptr ⟨b1, 0, none⟩), (5, .int .i64 n_), (7, .int .i64 0)] (AMem.wth m [(b1, .cells [.int .i64 v.kind, .int .i64 v.n, .str v.s, .slice false (v.l.map valIn), .slice false (v.f.map fldIn)])])
 refine hK1 _ _ ?_; clear hK1 K1
 refine awp_block ?_
 refine awp_keep [1, 2, 5, 7] (by decide) ?_
 refine awp_loop_st (σ := Int × Int) (fun ⟨n2, k⟩ => [(1, .int .i64 most), (2, .ptr ⟨b1, 0, none⟩), (5, .int .i64 n2), (7, .int .i64 k)]) (fun _ => (AMem.wth m [(b1, .cells [.int .i64 v.kind, .int .i64 v.n, .str v.s, .slice false (v.l.map valIn), .slice false (v.f.map fldIn)])])) (fun ⟨n2, k⟩ => 0 ≤ k ∧ k ≤ v.f.length ∧ weightV most v = weightF most (v.f.drop k.toNat) n2) (fun ⟨n2, k⟩ => v.f.length - k.toNat) (n_, 0) rfl rfl ?_ ?_
 ·
  show 0 ≤ ((0 : Int)) ∧ ((0 : Int)) ≤ v.f.length ∧ weightV most v = weightF most (v.f.drop ((0 : Int)).toNat) ((n_ : Int))
  refine ⟨by omega, by omega, ?_⟩
  have e : weightL most (v.l.drop i.toNat) n_ = n_ := by
   by_cases hn : most < n_
   ·
    exact weightL_stop _ _ _ hn
   ·
    have hi : (v.l.length : Int) ≤ i := by
     rcases h2 with h | h <;> omega
    rw [List.drop_eq_nil_of_le (by omega)]; simp only [weightL]
  rw [weightV_eq, hI.2.2, e]; rfl
 rintro ⟨n2, k⟩ hI2
 replace hI2 : 0 ≤ k ∧ k ≤ v.f.length ∧ weightV most v = weightF most (v.f.drop k.toNat) n2 := hI2
 show AWP _ _ _ _ [(1, .int .i64 most), (2, .ptr ⟨b1, 0, none⟩), (5, .int .i64 n2), (7, .int .i64 k)] (AMem.wth m [(b1, .cells [.int .i64 v.kind, .int .i64 v.n, .str v.s, .slice false (v.l.map valIn), .slice false (v.f.map fldIn)])])
 refine awp_seq_k ?_; intro K6 hK6
 refine awp_reg2_seq [] [1, 2, 5, 7, 42] (by decide) ?_
 intro K1 hK1
 suffices key : K1 [(1, .int .i64 most), (2, .ptr ⟨b1, 0, none⟩), (5, .int .i64 n2), (7, .int .i64 k), (42, .bool ((decide (k < (v.f.length : Int))) && (decide (n2 ≤ most))))] (AMem.wth m [(b1, .cells [.int .i64 v.kind, .int .i64 v.n, .str v.s, .slice false (v.l.map valIn), .slice false (v.f.map fldIn)])]) by
  refine ⟨trivial, ⟨rfl, by decide⟩, ?_⟩
  refine ar_loadp rfl (v := .slice false (v.f.map fldIn)) rfl (wth_get 0 hNb1 rfl) rfl (apartOk_one rfl rfl (Nat.le_of_ble_eq_true rfl)) rfl ?_
  refine ar_len rfl fldIn v.f rfl rfl rfl ?_
  refine ⟨trivial, trivial, ?_⟩
  show aopsR _ _ _ _ _ [(38, .bool (decide (k < (v.f.length : Int)))), (37, .bool (decide (k < (v.f.length : Int)))), (36, .int .i64 (v.f.length : Int)), (35, .slice false (v.f.map fldIn)), (34, .ptr ⟨b1, 4, none⟩), (33, .int .i64 k), (1, .int .i64 most), (2, .ptr ⟨b1, 0, none⟩), (5, .int .i64 n2), (7, .int .i64 k)] _
  revert key
  cases h3 : (decide (k < (v.f.length : Int)))
  ·
   replace h3 : (v.f.length : Int) ≤ k := (Int.not_lt.1 (of_decide_eq_false h3))
   intro key
   refine ar_off rfl (ar_off rfl (ar_off rfl ?_))
   exact key
  ·
   replace h3 : k < (v.f.length : Int) := (of_decide_eq_true h3)
   intro key
   refine ⟨trivial, trivial, trivial, ?_⟩
   exact key
 refine hK1 _ _ ?_; clear hK1 K1
 refine awp_cond rfl rfl (fun h4 => ?_) (fun h4 => ?_)
 ·
  replace h4 : (k < (v.f.length : Int)) ∧ (n2 ≤ most) := ⟨(of_decide_eq_true (bandL h4)), (of_decide_eq_true (bandR h4))⟩
  refine awp_skip ?_
  refine hK6 _ _ ?_; clear hK6
  refine awp_seq_k ?_; intro K7 hK7
  refine awp_block ?_
  refine awp_draw_k Try.mixed [(.int .i64 (weightV most ((gI v.f k).2)))] [1, 2, 5, 7] (by decide) (by decide) ?_
  intro K1 hK1
  refine ⟨trivial, ⟨rfl, by decide⟩, ?_⟩
  refine pq_loadp rfl (v := .slice false (v.f.map fldIn)) rfl (wth_get 0 hNb1 rfl) (apartOk_one rfl rfl (Nat.le_of_ble_eq_true rfl)) rfl ?_
  refine ⟨trivial, ?_⟩
  refine pq_index rfl fldTop v.f k rfl rfl (fldMap v.f) rfl rfl (by decide) (fun _ => rfl) (by omega) (by omega) ?_
  refine ⟨⟨rfl, by decide, (Nat.le_of_ble_eq_true rfl)⟩, (apartOk_one rfl rfl (Nat.le_of_ble_eq_true rfl)), trivial, trivial, ⟨rfl, by decide⟩, ?_⟩
  refine pq_loadp rfl (v := .slice false (v.f.map fldIn)) rfl (wth_get 0 hNb1 rfl) (apartOk_one rfl rfl (Nat.le_of_ble_eq_true rfl)) rfl ?_
  refine ⟨trivial, ?_⟩
  refine pq_index rfl fldTop v.f k rfl rfl (fldMap v.f) rfl rfl (by decide) (fun _ => rfl) (by omega) (by omega) ?_
  refine ⟨⟨rfl, by decide, (Nat.le_of_ble_eq_true rfl)⟩, (apartOk_agg rfl rfl (Nat.le_of_ble_eq_true rfl)), trivial, (fun Kc hKc => ih ((gI v.f k).2) (by have := depV_eq v; first | (have := depL_mem (gI_mem (l := v.l) (i := i) hI.1 h2.1); omega) | (have := depF_mem (gI_mem (l := v.f) (i := k) hI2.1 h4.1); omega)) _ Kc hKc), trivial, trivial, ?_⟩
  show K1 [(1, .int .i64 most), (2, .ptr ⟨b1, 0, none⟩), (5, .int .i64 (IntKind.i64.wrap ((IntKind.i64.wrap (n2 + (((gI v.f k).1).length : Int))) + (weightV most ((gI v.f k).2))))), (7, .int .i64 k)] (AMem.wth m [(b1, .cells [.int .i64 v.kind, .int .i64 v.n, .str v.s, .slice false (v.l.map valIn), .slice false (v.f.map fldIn)])])
  refine hK1 _ _ ?_; clear hK1 K1
  refine hK7 _ _ ?_; clear hK7
  refine awp_reg2 [] [1, 2, 5, 7] (by decide) ?_
  intro K1 hK1
  refine ⟨trivial, ?_⟩
  refine ar_add rfl (a := k) (b := 1) rfl rfl (by omega) (by omega) ?_
  refine ⟨trivial, ?_⟩
  show K1 [(1, .int .i64 most), (2, .ptr ⟨b1, 0, none⟩), (5, .int .i64 (IntKind.i64.wrap ((IntKind.i64.wrap (n2 + (((gI v.f k).1).length : Int))) + (weightV most ((gI v.f k).2))))), (7, .int .i64 (k + 1))] (AMem.wth m [(b1, .cells [.int .i64 v.kind, .int .i64 v.n, .str v.s, .slice false (v.l.map valIn), .slice false (v.f.map fldIn)])])
  refine hK1 _ _ ?_; clear hK1 K1
  refine ⟨(IntKind.i64.wrap ((IntKind.i64.wrap (n2 + (((gI v.f k).1).length : Int))) + (weightV most ((gI v.f k).2))), k + 1), rfl, rfl, ?_, ?_⟩
  ·
   show 0 ≤ ((k + 1 : Int)) ∧ ((k + 1 : Int)) ≤ v.f.length ∧ weightV most v = weightF most (v.f.drop ((k + 1 : Int)).toNat) ((IntKind.i64.wrap ((IntKind.i64.wrap (n2 + (((gI v.f k).1).length : Int))) + (weightV most ((gI v.f k).2))) : Int))
   exact ⟨by omega, by omega, by rw [hI2.2.2, drop_gI hI2.1 h4.1, weightF_cons, if_pos h4.2]⟩
  ·
   show v.f.length - ((k + 1 : Int)).toNat < v.f.length - k.toNat
   omega
 replace h4 : ((v.f.length : Int) ≤ k) ∨ (most < n2) := ((bandF h4).imp (fun q => (Int.not_lt.1 (of_decide_eq_false q))) (fun q => (Int.not_le.1 (of_decide_eq_false q))))
 refine awp_exit ?_
 refine hK5 _ _ ?_; clear hK5
 refine awp_reg2_seq [] [4] (by decide) ?_
 intro K1 hK1
 refine ⟨trivial, trivial, ?_⟩
 show K1 [(4, .int .i64 n2)] (AMem.wth m [(b1, .cells [.int .i64 v.kind, .int .i64 v.n, .str v.s, .slice false (v.l.map valIn), .slice false (v.f.map fldIn)])])
 refine hK1 _ _ ?_; clear hK1 K1
 refine awp_ret ?_
 refine ⟨trivial, m, (wth_sub2 (m := m) [(b1, .cells [.int .i64 v.kind, .int .i64 v.n, .str v.s, .slice false (v.l.map valIn), .slice false (v.f.map fldIn)])] [] hNb1 (by simp only [List.map_cons, List.map_nil, List.forall_mem_cons]; exact ⟨hFb1, fun _ h => by cases h⟩)), ?_⟩
 show K (.int .i64 n2) m

 have e : weightV most v = n2 := by
  rw [hI2.2.2]
  by_cases hn : most < n2
  ·
   exact weightF_stop _ _ _ hn
  ·
   have hi : (v.f.length : Int) ≤ k := by
    rcases h4 with h | h <;> omega
   rw [List.drop_eq_nil_of_le (by omega)]; simp only [weightF]
 rw [e] at hK; exact hK


theorem u_weight (most : Int) : ∀ (n : Nat) (v : Val), depV v < n → ∀ (m : AMem) (K : AV → AMem → Prop), K (.int .i64 (weightV most v)) m → ACalls Try.prog 67 [valTop v, .int .i64 most] m K
  | 0, _, h => absurd h (Nat.not_lt_zero _)
  | n + 1, v, h => fun m K hK => u_weight1 v most (fun w hw => u_weight most n w (by omega)) m K hK


structure ActT where
  kind : Str
  s : Str
  t : Str
  a : Int
  b : Int
  v : Val
  names : List Str
instance : Inhabited ActT := ⟨⟨[], [], [], 0, 0, default, []⟩⟩
def actAV (x : ActT) : AV := .agg [.str x.kind, .str x.s, .str x.t, .int .i64 x.a, .int .i64 x.b, .int .i64 x.v.kind, .int .i64 x.v.n, .str x.v.s, .slice false (x.v.l.map valIn), .slice false (x.v.f.map fldIn), .slice false (x.names.map strAV)]
def actW (most : Int) (n : Int) (x : ActT) : Int := IntKind.i64.wrap (IntKind.i64.wrap (IntKind.i64.wrap (n + x.s.length) + x.t.length) + weightV most x.v)
def namesW (n : Int) (l : List Str) : Int := l.foldl (fun n s => IntKind.i64.wrap (n + s.length)) n
def lightF (size : Int) : List ActT → Int → Bool
  | [], n => decide (n ≤ size)
  | x :: r, n => if size < actW size n x ∨ 12 < (x.names.length : Int) then false else lightF size r (namesW (actW size n x) x.names)
def lightA (l : List ActT) (most size : Int) : Bool := if most < (l.length : Int) then false else lightF size l 0
theorem lightA_len {l : List ActT} {most size : Int} (h : lightA l most size = true) : (l.length : Int) ≤ most := by
  unfold lightA at h; split at h
  · cases h
  · omega

set_option maxHeartbeats 4000000 in
theorem u_LightActs (l : List ActT) (most size : Int)  (m : AMem)  (K : AV → AMem → Prop) (hK : K (.bool (lightA l most size)) m) : ACalls Try.prog 10 [.slice false (l.map actAV), .int .i64 most, .int .i64 size] m K := by
 refine acalls_enter Try.func10 rfl (by decide) (Nat.le_of_ble_eq_true rfl) ?_
 refine awp_bd 0 (x := .slice false (l.map actAV)) rfl (fun hbd0 => ?_)
 have hbd0_0 : l.length ≤ 140737488355328 := bd_map (o := false) hbd0
 show AWP _ _ _ _ [(0, .slice false (l.map actAV)), (1, .int .i64 most), (2, .int .i64 size)] m
 refine awp_reg2_seq [] [0, 1, 2] (by decide) ?_
 intro K1 hK1
 refine ⟨trivial, ?_⟩
 show K1 [(0, .slice false (l.map actAV)), (1, .int .i64 most), (2, .int .i64 size)] m
 refine hK1 _ _ ?_; clear hK1 K1
 refine awp_seq_k ?_; intro K2 hK2
 refine awp_reg2_seq [] [0, 2, 13] (by decide) ?_
 intro K1 hK1
 refine ⟨trivial, ?_⟩
 refine ar_len rfl actAV l rfl rfl rfl ?_
 refine ⟨trivial, trivial, ?_⟩
 show K1 [(0, .slice false (l.map actAV)), (2, .int .i64 size), (13, .bool (decide (most < (l.length : Int))))] m
 refine hK1 _ _ ?_; clear hK1 K1
 refine awp_cond rfl rfl (fun h1 => ?_) (fun h1 => ?_)
 ·
  replace h1 : most < (l.length : Int) := (of_decide_eq_true h1)
  refine awp_reg2_seq [] [6] (by decide) ?_
  intro K1 hK1
  refine ⟨trivial, ?_⟩
  show K1 [(6, .bool false)] m
  refine hK1 _ _ ?_; clear hK1 K1
  refine awp_ret ?_
  refine ⟨trivial, m, fun _ _ h => h, ?_⟩
  show K (.bool false) m
 
  refine K_eq hK (congrArg AV.bool ?_)
  rw [lightA, if_pos h1]
 replace h1 : (l.length : Int) ≤ most := (Int.not_lt.1 (of_decide_eq_false h1))
 refine awp_skip ?_
 refine hK2 _ _ ?_; clear hK2
 refine awp_reg2_seq [] [0, 2, 7] (by decide) ?_
 intro K1 hK1
 refine ⟨trivial, ?_⟩
 show K1 [(0, .slice false (l.map actAV)), (2, .int .i64 size), (7, .int .i64 0)] m
 refine hK1 _ _ ?_; clear hK1 K1
 refine awp_seq_k ?_; intro K3 hK3
 refine awp_reg2_seq [] [0, 2, 7, 8] (by decide) ?_
 intro K1 hK1
 refine ⟨trivial, ?_⟩
 show K1 [(0, .slice false (l.map actAV)), (2, .int .i64 size), (7, .int .i64 0), (8, .int .i64 0)] m
 refine hK1 _ _ ?_; clear hK1 K1
 refine awp_block ?_
 refine awp_keep [0, 2, 7, 8] (by decide) ?_
 refine awp_loop_st (σ := Int × Int) (fun ⟨n_, i⟩ => [(0, .slice false (l.map actAV)), (2, .int .i64 size), (7, .int .i64 n_), (8, .int .i64 i)]) (fun _ => m) (fun ⟨n_, i⟩ => 0 ≤ i ∧ i ≤ l.length ∧ lightA l most size = lightF size (l.drop i.toNat) n_) (fun ⟨n_, i⟩ => l.length - i.toNat) (0, 0) rfl rfl ?_ ?_
 ·
  show 0 ≤ ((0 : Int)) ∧ ((0 : Int)) ≤ l.length ∧ lightA l most size = lightF size (l.drop ((0 : Int)).toNat) ((0 : Int))
  exact ⟨by omega, by omega, by rw [lightA, if_neg (by omega)]; rfl⟩
 rintro ⟨n_, i⟩ hI
 replace hI : 0 ≤ i ∧ i ≤ l.length ∧ lightA l most size = lightF size (l.drop i.toNat) n_ := hI
 show AWP _ _ _ _ [(0, .slice false (l.map actAV)), (2, .int .i64 size), (7, .int .i64 n_), (8, .int .i64 i)] m
 refine awp_seq_k ?_; intro K4 hK4
 refine awp_reg2_seq [] [0, 2, 7, 8, 17] (by decide) ?_
 intro K1 hK1
 refine ⟨trivial, trivial, ?_⟩
 refine ar_len rfl actAV l rfl rfl rfl ?_
 refine ⟨trivial, ?_⟩
 show K1 [(0, .slice false (l.map actAV)), (2, .int .i64 size), (7, .int .i64 n_), (8, .int .i64 i), (17, .bool (decide (i < (l.length : Int))))] m
 refine hK1 _ _ ?_; clear hK1 K1
 refine awp_cond rfl rfl (fun h2 => ?_) (fun h2 => ?_)
 ·
  replace h2 : i < (l.length : Int) := (of_decide_eq_true h2)
  refine awp_skip ?_
  refine hK4 _ _ ?_; clear hK4
  refine awp_seq_k ?_; intro K5 hK5
  refine awp_block ?_
  refine awp_draw_seq Try.mixed [(.int .i64 (weightV size ((gI l i).v)))] [0, 2, 7, 8] (by decide) (by decide) ?_
  intro K1 hK1
  refine ⟨trivial, trivial, trivial, ?_⟩
  refine pq_index rfl actAV l i rfl rfl rfl rfl rfl (by decide) (fun _ => rfl) (by omega) (by omega) ?_
  refine ⟨⟨rfl, by decide, (Nat.le_of_ble_eq_true rfl)⟩, (apartOk_one rfl rfl (Nat.le_of_ble_eq_true rfl)), trivial, trivial, trivial, trivial, ?_⟩
  refine pq_index rfl actAV l i rfl rfl rfl rfl rfl (by decide) (fun _ => rfl) (by omega) (by omega) ?_
  refine ⟨⟨rfl, by decide, (Nat.le_of_ble_eq_true rfl)⟩, (apartOk_one rfl rfl (Nat.le_of_ble_eq_true rfl)), trivial, trivial, trivial, trivial, ?_⟩
  refine pq_index rfl actAV l i rfl rfl rfl rfl rfl (by decide) (fun _ => rfl) (by omega) (by omega) ?_
  refine ⟨⟨rfl, by decide, (Nat.le_of_ble_eq_true rfl)⟩, (apartOk_agg rfl rfl (Nat.le_of_ble_eq_true rfl)), trivial, (fun Kc hKc => u_weight size (depV ((gI l i).v) + 1) ((gI l i).v) (Nat.lt_succ_self _) _ Kc hKc), trivial, trivial, ?_⟩
  show K1 [(0, .slice false (l.map actAV)), (2, .int .i64 size), (7, .int .i64 (IntKind.i64.wrap ((IntKind.i64.wrap ((IntKind.i64.wrap (n_ + (((gI l i).s).length : Int))) + (((gI l i).t).length : Int))) + (weightV size ((gI l i).v))))), (8, .int .i64 i)] m
  refine hK1 _ _ ?_; clear hK1 K1
  refine awp_seq_k ?_; intro K6 hK6
  refine awp_reg2_seq [] [0, 2, 7, 8, 54] (by decide) ?_
  intro K1 hK1
  suffices key : K1 [(0, .slice false (l.map actAV)), (2, .int .i64 size), (7, .int .i64 (IntKind.i64.wrap ((IntKind.i64.wrap ((IntKind.i64.wrap (n_ + (((gI l i).s).length : Int))) + (((gI l i).t).length : Int))) + (weightV size ((gI l i).v))))), (8, .int .i64 i), (54, .bool ((decide (size < IntKind.i64.wrap ((IntKind.i64.wrap ((IntKind.i64.wrap (n_ + (((gI l i).s).length : Int))) + (((gI l i).t).length : Int))) + (weightV size ((gI l i).v))))) || (decide (12 < (((gI l i).names).length : Int)))))] m by
   refine ⟨trivial, trivial, trivial, trivial, ?_⟩
   show aopsR _ _ _ _ _ [(46, .bool (decide (size < IntKind.i64.wrap ((IntKind.i64.wrap ((IntKind.i64.wrap (n_ + (((gI l i).s).length : Int))) + (((gI l i).t).length : Int))) + (weightV size ((gI l i).v)))))), (45, .bool (decide (size < IntKind.i64.wrap ((IntKind.i64.wrap ((IntKind.i64.wrap (n_ + (((gI l i).s).length : Int))) + (((gI l i).t).length : Int))) + (weightV size ((gI l i).v)))))), (44, .int .i64 size), (43, .int .i64 (IntKind.i64.wrap ((IntKind.i64.wrap ((IntKind.i64.wrap (n_ + (((gI l i).s).length : Int))) + (((gI l i).t).length : Int))) + (weightV size ((gI l i).v))))), (0, .slice false (l.map actAV)), (2, .int .i64 size), (7, .int .i64 (IntKind.i64.wrap ((IntKind.i64.wrap ((IntKind.i64.wrap (n_ + (((gI l i).s).length : Int))) + (((gI l i).t).length : Int))) + (weightV size ((gI l i).v))))), (8, .int .i64 i)] _
   revert key
   cases h3 : (decide (size < IntKind.i64.wrap ((IntKind.i64.wrap ((IntKind.i64.wrap (n_ + (((gI l i).s).length : Int))) + (((gI l i).t).length : Int))) + (weightV size ((gI l i).v)))))
   ·
    replace h3 : IntKind.i64.wrap ((IntKind.i64.wrap ((IntKind.i64.wrap (n_ + (((gI l i).s).length : Int))) + (((gI l i).t).length : Int))) + (weightV size ((gI l i).v))) ≤ size := (Int.not_lt.1 (of_decide_eq_false h3))
    intro key
    refine ⟨trivial, trivial, ?_⟩
    refine ar_index rfl actAV l i rfl rfl rfl rfl rfl (by decide) (fun _ => rfl) (by omega) (by omega) ?_
    refine ⟨⟨rfl, by decide, (Nat.le_of_ble_eq_true rfl)⟩, (apartOk_one rfl rfl (Nat.le_of_ble_eq_true rfl)), ?_⟩
    refine ar_len rfl strAV ((gI l i).names) rfl rfl rfl ?_
    refine ⟨trivial, ?_⟩
    exact key
   ·
    replace h3 : size < IntKind.i64.wrap ((IntKind.i64.wrap ((IntKind.i64.wrap (n_ + (((gI l i).s).length : Int))) + (((gI l i).t).length : Int))) + (weightV size ((gI l i).v))) := (of_decide_eq_true h3)
    intro key
    refine ar_off rfl (ar_off rfl (ar_off rfl (ar_off rfl (ar_off rfl (ar_off rfl (ar_off rfl ?_))))))
    exact key
  refine hK1 _ _ ?_; clear hK1 K1
  refine awp_cond rfl rfl (fun h4 => ?_) (fun h4 => ?_)
  ·
   replace h4 : (size < IntKind.i64.wrap ((IntKind.i64.wrap ((IntKind.i64.wrap (n_ + (((gI l i).s).length : Int))) + (((gI l i).t).length : Int))) + (weightV size ((gI l i).v)))) ∨ (12 < (((gI l i).names).length : Int)) := ((borT h4).imp (fun q => (of_decide_eq_true q)) (fun q => (of_decide_eq_true q)))
   refine awp_reg2_seq [] [6] (by decide) ?_
   intro K1 hK1
   refine ⟨trivial, ?_⟩
   show K1 [(6, .bool false)] m
   refine hK1 _ _ ?_; clear hK1 K1
   refine awp_ret ?_
   refine ⟨trivial, m, fun _ _ h => h, ?_⟩
   show K (.bool false) m
  
   refine K_eq hK (congrArg AV.bool ?_)
   rw [hI.2.2, drop_gI hI.1 h2, lightF, if_pos (by first | exact h4 | simpa [actW] using h4)]
  replace h4 : (IntKind.i64.wrap ((IntKind.i64.wrap ((IntKind.i64.wrap (n_ + (((gI l i).s).length : Int))) + (((gI l i).t).length : Int))) + (weightV size ((gI l i).v))) ≤ size) ∧ ((((gI l i).names).length : Int) ≤ 12) := ⟨(Int.not_lt.1 (of_decide_eq_false (borL h4))), (Int.not_lt.1 (of_decide_eq_false (borR h4)))⟩
  refine awp_skip ?_
  refine hK6 _ _ ?_; clear hK6
  refine awp_reg2_seq [] [0, 2, 7, 8, 9] (by decide) ?_
  intro K1 hK1
  refine ⟨trivial, ?_⟩
  show K1 [(0, .slice false (l.map actAV)), (2, .int .i64 size), (7, .int .i64 (IntKind.i64.wrap ((IntKind.i64.wrap ((IntKind.i64.wrap (n_ + (((gI l i).s).length : Int))) + (((gI l i).t).length : Int))) + (weightV size ((gI l i).v))))), (8, .int .i64 i), (9, .int .i64 0)] m
  refine hK1 _ _ ?_; clear hK1 K1
  refine awp_block ?_
  refine awp_keep [0, 2, 7, 8, 9] (by decide) ?_
  refine awp_loop_st (σ := Int × Int) (fun ⟨n2, k⟩ => [(0, .slice false (l.map actAV)), (2, .int .i64 size), (7, .int .i64 n2), (8, .int .i64 i), (9, .int .i64 k)]) (fun _ => m) (fun ⟨n2, k⟩ => 0 ≤ k ∧ k ≤ (gI l i).names.length ∧ n2 = namesW (actW size n_ (gI l i)) ((gI l i).names.take k.toNat)) (fun ⟨n2, k⟩ => (gI l i).names.length - k.toNat) (IntKind.i64.wrap ((IntKind.i64.wrap ((IntKind.i64.wrap (n_ + (((gI l i).s).length : Int))) + (((gI l i).t).length : Int))) + (weightV size ((gI l i).v))), 0) rfl rfl ?_ ?_
  ·
   show 0 ≤ ((0 : Int)) ∧ ((0 : Int)) ≤ (gI l i).names.length ∧ ((IntKind.i64.wrap ((IntKind.i64.wrap ((IntKind.i64.wrap (n_ + (((gI l i).s).length : Int))) + (((gI l i).t).length : Int))) + (weightV size ((gI l i).v))) : Int)) = namesW (actW size n_ (gI l i)) ((gI l i).names.take ((0 : Int)).toNat)
   exact ⟨by omega, by omega, rfl⟩
  rintro ⟨n2, k⟩ hI2
  replace hI2 : 0 ≤ k ∧ k ≤ (gI l i).names.length ∧ n2 = namesW (actW size n_ (gI l i)) ((gI l i).names.take k.toNat) := hI2
  show AWP _ _ _ _ [(0, .slice false (l.map actAV)), (2, .int .i64 size), (7, .int .i64 n2), (8, .int .i64 i), (9, .int .i64 k)] m
  refine awp_seq_k ?_; intro K7 hK7
  refine awp_reg2_seq [] [0, 2, 7, 8, 9, 62] (by decide) ?_
  intro K1 hK1
  refine ⟨trivial, trivial, trivial, ?_⟩
  refine ar_index rfl actAV l i rfl rfl rfl rfl rfl (by decide) (fun _ => rfl) (by omega) (by omega) ?_
  refine ⟨⟨rfl, by decide, (Nat.le_of_ble_eq_true rfl)⟩, (apartOk_one rfl rfl (Nat.le_of_ble_eq_true rfl)), ?_⟩
  refine ar_len rfl strAV ((gI l i).names) rfl rfl rfl ?_
  refine ⟨trivial, ?_⟩
  show K1 [(0, .slice false (l.map actAV)), (2, .int .i64 size), (7, .int .i64 n2), (8, .int .i64 i), (9, .int .i64 k), (62, .bool (decide (k < (((gI l i).names).length : Int))))] m
  refine hK1 _ _ ?_; clear hK1 K1
  refine awp_cond rfl rfl (fun h5 => ?_) (fun h5 => ?_)
  ·
   replace h5 : k < (((gI l i).names).length : Int) := (of_decide_eq_true h5)
   refine awp_skip ?_
   refine hK7 _ _ ?_; clear hK7
   refine awp_seq_k ?_; intro K8 hK8
   refine awp_block ?_
   refine awp_reg2 [] [0, 2, 7, 8, 9] (by decide) ?_
   intro K1 hK1
   refine ⟨trivial, trivial, trivial, ?_⟩
   refine ar_index rfl actAV l i rfl rfl rfl rfl rfl (by decide) (fun _ => rfl) (by omega) (by omega) ?_
   refine ⟨⟨rfl, by decide, (Nat.le_of_ble_eq_true rfl)⟩, (apartOk_one rfl rfl (Nat.le_of_ble_eq_true rfl)), trivial, ?_⟩
   refine ar_index rfl strAV ((gI l i).names) k rfl rfl rfl rfl rfl (by decide) (fun _ => rfl) (by omega) (by omega) ?_
   refine ⟨(apartOk_one rfl rfl (Nat.le_of_ble_eq_true rfl)), trivial, trivial, trivial, ?_⟩
   show K1 [(0, .slice false (l.map actAV)), (2, .int .i64 size), (7, .int .i64 (IntKind.i64.wrap (n2 + ((gI ((gI l i).names) k).length : Int)))), (8, .int .i64 i), (9, .int .i64 k)] m
   refine hK1 _ _ ?_; clear hK1 K1
   refine hK8 _ _ ?_; clear hK8
   refine awp_reg2 [] [0, 2, 7, 8, 9] (by decide) ?_
   intro K1 hK1
   refine ⟨trivial, ?_⟩
   refine ar_add rfl (a := k) (b := 1) rfl rfl (by omega) (by omega) ?_
   refine ⟨trivial, ?_⟩
   show K1 [(0, .slice false (l.map actAV)), (2, .int .i64 size), (7, .int .i64 (IntKind.i64.wrap (n2 + ((gI ((gI l i).names) k).length : Int)))), (8, .int .i64 i), (9, .int .i64 (k + 1))] m
   refine hK1 _ _ ?_; clear hK1 K1
   refine ⟨(IntKind.i64.wrap (n2 + ((gI ((gI l i).names) k).length : Int)), k + 1), rfl, rfl, ?_, ?_⟩
   ·
    show 0 ≤ ((k + 1 : Int)) ∧ ((k + 1 : Int)) ≤ (gI l i).names.length ∧ ((IntKind.i64.wrap (n2 + ((gI ((gI l i).names) k).length : Int)) : Int)) = namesW (actW size n_ (gI l i)) ((gI l i).names.take ((k + 1 : Int)).toNat)
    exact ⟨by omega, by omega, by rw [take_succ_gI hI2.1 h5, namesW, List.foldl_append, hI2.2.2]; rfl⟩
   ·
    show (gI l i).names.length - ((k + 1 : Int)).toNat < (gI l i).names.length - k.toNat
    omega
  replace h5 : (((gI l i).names).length : Int) ≤ k := (Int.not_lt.1 (of_decide_eq_false h5))
  refine awp_exit ?_
  refine hK5 _ _ ?_; clear hK5
  refine awp_reg2 [] [0, 2, 7, 8] (by decide) ?_
  intro K1 hK1
  refine ⟨trivial, ?_⟩
  refine ar_add rfl (a := i) (b := 1) rfl rfl (by omega) (by omega) ?_
  refine ⟨trivial, ?_⟩
  show K1 [(0, .slice false (l.map actAV)), (2, .int .i64 size), (7, .int .i64 n2), (8, .int .i64 (i + 1))] m
  refine hK1 _ _ ?_; clear hK1 K1
  refine ⟨(n2, i + 1), rfl, rfl, ?_, ?_⟩
  ·
   show 0 ≤ ((i + 1 : Int)) ∧ ((i + 1 : Int)) ≤ l.length ∧ lightA l most size = lightF size (l.drop ((i + 1 : Int)).toNat) ((n2 : Int))
   refine ⟨by omega, by omega, ?_⟩
   rw [hI.2.2, drop_gI hI.1 h2, lightF, if_neg (by intro hh; rcases hh with hh | hh <;> first | omega | (unfold actW at hh; omega)), hI2.2.2, take_full h5]
  ·
   show l.length - ((i + 1 : Int)).toNat < l.length - i.toNat
   omega
 replace h2 : (l.length : Int) ≤ i := (Int.not_lt.1 (of_decide_eq_false h2))
 refine awp_exit ?_
 refine hK3 _ _ ?_; clear hK3
 refine awp_reg2_seq [] [6] (by decide) ?_
 intro K1 hK1
 refine ⟨trivial, trivial, trivial, trivial, ?_⟩
 show K1 [(6, .bool (decide (n_ ≤ size)))] m
 refine hK1 _ _ ?_; clear hK1 K1
 refine awp_ret ?_
 refine ⟨trivial, m, fun _ _ h => h, ?_⟩
 show K (.bool (decide (n_ ≤ size))) m

 refine K_eq hK (congrArg AV.bool ?_)
 rw [hI.2.2, List.drop_eq_nil_of_le (by omega)]; rfl

end Go.Proofs
end
section
namespace Go.Proofs
open Go Go.Aw
set_option maxRecDepth 100000


theorem appR_inv {N : Nat} {s : DSt} {name data : Str} (h : DInv N s) : DInv (N + 1) (appR s name data).1 := by
  unfold appR
  split
  · exact h.mono (by omega)
  · split
    · exact h.mono (by omega)
    · exact h.do (by show data.length ≤ 4000; omega)


theorem doF_kept (s : DSt) (c : Chg) : (doF s c).1.kept = s.kept := by
  unfold doF; split
  · exact (stepF_keep s).1
  · exact (stepF_keep s).1
theorem writeR_kept (s : DSt) (n x : Str) : (writeR s n x).1.kept = s.kept := by
  unfold writeR; split
  · rfl
  · exact doF_kept _ _
theorem appR_kept (s : DSt) (n x : Str) : (appR s n x).1.kept = s.kept := by
  unfold appR; split
  · rfl
  · split
    · rfl
    · exact doF_kept _ _
theorem syncF_now (s : DSt) : (syncF s).1.now = s.now := by
  unfold syncF; split
  · exact (stepF_keep s).2.1
  · exact (stepF_keep s).2.1
theorem u_Write3 (d kb nb : Nat) (s : DSt) (name data : Str) (N : Nat) (hN : [d, nb, kb].Nodup) (hD : DInv N s) (hNN : N ≤ 100000) (hn : name.length ≤ 140737488355328) (hd : data.length ≤ 140737488355328) (m : AMem) (K : AV → AMem → Prop)
    (hK : K (.err 108 (writeR s name data).2) (AMem.wth m [(d, dObj kb nb (writeR s name data).1), (nb, mObj (writeR s name data).1.now), (kb, mObj (writeR s name data).1.kept)])) :
    ACalls Try.prog 12 [.ptr ⟨d, 0, none⟩, .str name, .str data] (AMem.wth m [(d, dObj kb nb s), (nb, mObj s.now), (kb, mObj s.kept)]) K := by
  rw [writeR_kept] at hK
  exact u_Write d kb nb s name data N (by simp at hN ⊢; omega) hD hNN hn hd (AMem.wth m [(kb, mObj s.kept)]) K hK
theorem u_App3 (d kb nb : Nat) (s : DSt) (name data : Str) (N : Nat) (hN : [d, nb, kb].Nodup) (hD : DInv N s) (hNN : N ≤ 100000) (hn : name.length ≤ 140737488355328) (hd : data.length ≤ 140737488355328) (m : AMem) (K : AV → AMem → Prop)
    (hK : K (.err 108 (appR s name data).2) (AMem.wth m [(d, dObj kb nb (appR s name data).1), (nb, mObj (appR s name data).1.now), (kb, mObj (appR s name data).1.kept)])) :
    ACalls Try.prog 26 [.ptr ⟨d, 0, none⟩, .str name, .str data] (AMem.wth m [(d, dObj kb nb s), (nb, mObj s.now), (kb, mObj s.kept)]) K := by
  rw [appR_kept] at hK
  exact u_Append d kb nb s name data N (by simp at hN ⊢; omega) hD hNN hn hd (AMem.wth m [(kb, mObj s.kept)]) K hK
theorem u_Sync3 (d kb nb : Nat) (s : DSt) (N : Nat) (hN : [d, kb, nb].Nodup) (hD : DInv N s) (hNN : N ≤ 100000) (m : AMem) (K : AV → AMem → Prop)
    (hK : K (.err 108 (syncF s).2) (AMem.wth m [(d, dObj kb nb (syncF s).1), (kb, mObj (syncF s).1.kept), (nb, mObj (syncF s).1.now)])) :
    ACalls Try.prog 33 [.ptr ⟨d, 0, none⟩] (AMem.wth m [(d, dObj kb nb s), (kb, mObj s.kept), (nb, mObj s.now)]) K := by
  rw [syncF_now] at hK
  exact u_Sync d kb nb s N (by simp at hN ⊢; omega) hD hNN (AMem.wth m [(nb, mObj s.now)]) K hK

end Go.Proofs
end
section
namespace Go.Proofs
open Go Go.Aw
set_option maxRecDepth 100000


def addR (s : DSt) (name : Str) (l : List Str) (z : Int) (t : Str) : DSt × Int × (List Str × Int) :=
  if 400 < (t.length : Int) ∨ 4000 < z + t.length + 6 then (s, 2, (l, z))
  else if (appR s name (framedL t)).2 ≠ 0 then ((appR s name (framedL t)).1, (appR s name (framedL t)).2, (l, z))
  else if (syncF (appR s name (framedL t)).1).2 ≠ 0 then ((syncF (appR s name (framedL t)).1).1, (syncF (appR s name (framedL t)).1).2, (l, z))
  else ((syncF (appR s name (framedL t)).1).1, 0, (l ++ [t], z + (t.length + 6)))
end Go.Proofs
end
