import Derived.Test.YtkgpejbkiacbmaaDoorProg
import Derived.Test.YtkgpejbkiacbmaaDoorWl2
import Derived.Test.YtkgpejbkiacbmaaDoorWyA
section
namespace Go.Proofs
open Go Go.Aw
set_option maxRecDepth 100000
set_option maxHeartbeats 4000000 in
theorem u_do (d kb nb : Nat) (s : DSt) (c : Chg) (N : Nat) (hN : [d, nb].Nodup) (hD : DInv N s) (hNN : N ≤ 100000) (hc : c.data.length ≤ 4000) (m : AMem)  (K : AV → AMem → Prop) (hK : K (.err 60 (doF s c).2) (mW m [(d, dObj kb nb (doF s c).1), (nb, mObj (doF s c).1.now)])) : ACalls Tryd.prog 37 [pT d, chgAV c] (mW m [(d, dObj kb nb s), (nb, mObj s.now)]) K := by
 have hk := stepF_keep s
 have hk3 := hk.2.2.1
 have hwl := hD.kl
 have hkw : (stepF s).1.wait.length ≤ 100000 := by rw [hk3]; omega
 refine acalls_enter Tryd.func37 rfl (by decide) (nB rfl) ?_
 show AWP _ _ _ _ [(0, pT d), (1, chgAV c)] (mW m [(d, dObj kb nb s), (nb, mObj s.now)])
 refine rS [] [0, 3] (by decide) ?_
 intro K1 hK1
 refine ar_box rfl (m := m) (L := [(d, dObj kb nb s), (nb, mObj s.now)]) (v := chgAV c) (by rfl) rfl ?_
 intro b1 hb1
 have hFb1 : m b1 = none := wth_none hb1
 have hNb1 : ([b1, d, nb] : List Nat).Nodup := wth_nodup hb1 hN
 refine ⟨tv, ?_⟩
 show K1 [(0, pT d), (3, pT b1)] (mW m [(b1, .cells [.str c.name, .str c.data, .str c.to, iT c.kind]), (d, dObj kb nb s), (nb, mObj s.now)])
 refine hK1 _ _ ?_; clear hK1 K1
 refine rS [] [0, 3, 5] (by decide) ?_
 intro K1 hK1
 refine ⟨tv, ?_⟩
 refine ar_mem (wS hNb1 (pick_perm [1] _)) ?_
 refine u_Step d kb nb s hD.st0 (by have := hD.st1; omega) hD.fu0 hD.fu1 _ _ ?_
 refine ar_mem (wS (m := m) (L := [(b1, .cells [.str c.name, .str c.data, .str c.to, iT c.kind]), (d, dObj kb nb ((stepF s).1)), (nb, mObj s.now)]) hNb1 (pick_perm [1] _)).symm ?_
 refine ⟨tv, ?_⟩
 show K1 [(0, pT d), (3, pT b1), (5, .err 60 ((stepF s).2))] (mW m [(b1, .cells [.str c.name, .str c.data, .str c.to, iT c.kind]), (d, dObj kb nb ((stepF s).1)), (nb, mObj s.now)])
 refine hK1 _ _ ?_; clear hK1 K1
 refine sK ?_; intro K2 hK2
 refine rS [] [0, 3, 5, 9] (by decide) ?_
 intro K1 hK1
 refine ⟨tv, ⟨rfl, rfl⟩, ?_⟩
 show K1 [(0, pT d), (3, pT b1), (5, .err 60 ((stepF s).2)), (9, .bool (!(((stepF s).2) == 0)))] _
 refine hK1 _ _ ?_; clear hK1 K1
 refine cD rfl rfl (fun h1 => ?_) (fun h1 => ?_)
 ·
  replace h1 : (stepF s).2 ≠ 0 := (ne_of_beq_false (bnT h1))
  refine rS [] [4] (by decide) ?_
  intro K1 hK1
  refine ⟨tv, tv, ?_⟩
  show K1 [(4, .err 60 ((stepF s).2))] (mW m [(b1, .cells [.str c.name, .str c.data, .str c.to, iT c.kind]), (d, dObj kb nb ((stepF s).1)), (nb, mObj s.now)])
  refine hK1 _ _ ?_; clear hK1 K1
  refine awp_ret ?_
  refine ⟨tv, (mW m [(d, dObj kb nb ((stepF s).1)), (nb, mObj s.now)]), (wth_sub2 (m := m) [(b1, .cells [.str c.name, .str c.data, .str c.to, iT c.kind])] [(d, dObj kb nb ((stepF s).1)), (nb, mObj s.now)] hNb1 (by simp only [List.map_cons, List.map_nil, List.forall_mem_cons]; exact ⟨hFb1, nfA⟩)), ?_⟩
  show K (.err 60 ((stepF s).2)) (AMem.wth m [(d, dObj kb nb ((stepF s).1)), (nb, mObj s.now)])
 
  have e0 : doF s c = (((⟨((stepF s).1).kept, s.now, ((stepF s).1).wait, ((stepF s).1).fuse, (((stepF s).1).down), ((stepF s).1).steps⟩ : DSt), (stepF s).2) : DSt × Int) := by
   first | (rw [doF, if_pos h1, ← hk.2.1]; done) | (rw [doF, if_neg (by omega)]; simp only [hk.1, hk3]; done)
  rw [e0] at hK
  exact hK
 replace h1 : (stepF s).2 = 0 := (eq_of_beq (bnF h1))
 refine awp_skip ?_
 refine hK2 _ _ ?_; clear hK2
 refine awp_draw_memP_seq Tryd.mixed [(5, 16)] [(5, 16, .tuple [])] [(mW m [(b1, .cells [.str c.name, .str c.data, .str c.to, iT c.kind]), (d, dObj kb nb ((stepF s).1)), (nb, mObj s.now)]), (mW m [(b1, .cells [.str c.name, .str c.data, .str c.to, iT c.kind]), (d, dObj kb nb ((stepF s).1)), (nb, mObj (applyC s.now c))])] [] [0, 3] [(15, .agg [.str c.name, .str c.data, .str c.to, iT c.kind]), (14, .map nb), (13, .ptr ⟨d, 1, none⟩), (12, pT d), (11, pT d), (16, .tuple []), (0, pT d), (3, pT b1), (5, .err 60 ((stepF s).2)), (9, .bool (!(((stepF s).2) == 0)))] (mW m [(b1, .cells [.str c.name, .str c.data, .str c.to, iT c.kind]), (d, dObj kb nb ((stepF s).1)), (nb, mObj (applyC s.now c))]) (by decide) (by decide) (by decide) rfl rfl rfl rfl ?_ ?_ ?_
 ·
  refine ⟨?_, tv⟩
  ·
   exact mem_call (wS (m := m) (L := [(b1, .cells [.str c.name, .str c.data, .str c.to, iT c.kind]), (d, dObj kb nb ((stepF s).1)), (nb, mObj s.now)]) hNb1 (pick_perm [2] _)) (wS (m := m) (L := [(b1, .cells [.str c.name, .str c.data, .str c.to, iT c.kind]), (d, dObj kb nb ((stepF s).1)), (nb, mObj (applyC s.now c))]) hNb1 (pick_perm [2] _)) (fun Kc hKc => u_apply nb s.now c (by have := hD.nl; omega) (fun p hp => by have := hD.nb p hp; omega) (by omega) _ Kc hKc)
 ·
  refine ⟨?_, ?_, tv⟩
  ·
   show pseq _ _ _ _ _ [(16, .tuple []), (0, pT d), (3, pT b1), (5, .err 60 ((stepF s).2)), (9, .bool (!(((stepF s).2) == 0)))] _
   refine ⟨tv, tv, ⟨rfl, by decide⟩, ?_⟩
   refine pq_loadp rfl (v := .map nb) rfl (wG 1 hNb1 rfl) (aO rfl rfl (nB rfl)) rfl ?_
   refine pq_loadp rfl (v := .agg [.str c.name, .str c.data, .str c.to, iT c.kind]) rfl (wG 0 hNb1 rfl) (apartOk_agg rfl rfl (nB rfl)) rfl ?_
   exact rfl
  ·
   show pseq _ _ _ _ _ [(16, .tuple []), (0, pT d), (3, pT b1), (5, .err 60 ((stepF s).2)), (9, .bool (!(((stepF s).2) == 0)))] _
   refine ⟨tv, tv, ⟨rfl, by decide⟩, ?_⟩
   refine pq_loadp rfl (v := .map nb) rfl (wG 1 hNb1 rfl) (aO rfl rfl (nB rfl)) rfl ?_
   refine pq_loadp rfl (v := .agg [.str c.name, .str c.data, .str c.to, iT c.kind]) rfl (wG 0 hNb1 rfl) (apartOk_agg rfl rfl (nB rfl)) rfl ?_
   exact rfl
 intro K1 hK1
 show K1 [(0, pT d), (3, pT b1)] (mW m [(b1, .cells [.str c.name, .str c.data, .str c.to, iT c.kind]), (d, dObj kb nb ((stepF s).1)), (nb, mObj (applyC s.now c))])
 refine hK1 _ _ ?_; clear hK1 K1
 refine awp_anyA_seq Tryd.mixed [] (by decide) ?_
 intro K1 hK1
 intro A hA
 suffices key : ∀ (_ : True), K1 [] (mW m [(b1, .cells [.str c.name, .str c.data, .str c.to, iT c.kind]), (d, .cells [.map kb, .map nb, sT (((((stepF s).1).wait) ++ ([c] : List Chg)).map chgAV), iT (((stepF s).1).fuse), .bool (((stepF s).1).down), iT (((stepF s).1).steps)]), (nb, mObj (applyC s.now c))]) by
  let KK1 : Fr → AMem → Prop := (fun fr m => K1 (fr.keep []) m)
  let M1_0 : AMem := (mW m [(b1, .cells [.str c.name, .str c.data, .str c.to, iT c.kind]), (d, .cells [.map kb, .map nb, sT (((((stepF s).1).wait) ++ ([c] : List Chg)).map chgAV), iT (((stepF s).1).fuse), .bool (((stepF s).1).down), iT (((stepF s).1).steps)]), (nb, mObj (applyC s.now c))])
  let f1_1 : Nat × AV := (24, sT (((((stepF s).1).wait) ++ ([c] : List Chg)).map chgAV))
  let f1_2 : Nat × AV := (26, .ptr ⟨d, 2, none⟩)
  let M1_3 : AMem := (mW m [(b1, .cells [.str c.name, .str c.data, .str c.to, iT c.kind]), (d, .cells [.map kb, .map nb, sF ((((stepF s).1).wait).map chgAV), iT (((stepF s).1).fuse), .bool (((stepF s).1).down), iT (((stepF s).1).steps)]), (nb, mObj (applyC s.now c))])
  let f1_4 : Nat × AV := (17, pT d)
  let f1_5 : Nat × AV := (21, sT ((((stepF s).1).wait).map chgAV))
  let f1_6 : Nat × AV := (23, .slice true [.agg [.str c.name, .str c.data, .str c.to, iT c.kind]])
  let f1_7 : Nat × AV := (22, .agg [.str c.name, .str c.data, .str c.to, iT c.kind])
  let f1_8 : Nat × AV := (20, .ptr ⟨d, 2, none⟩)
  let M1_9 : AMem := (mW m [(b1, .cells [.str c.name, .str c.data, .str c.to, iT c.kind]), (d, dObj kb nb ((stepF s).1)), (nb, mObj (applyC s.now c))])
  let f1_10 : Nat × AV := (3, pT b1)
  have s0 : ∀ (_ : True), A 0 #[true, true, true, true, true, true, true, true, true, true, true] KK1 [] M1_0 := by
   intro _
   subst hA
   exact AAny.done (by decide +kernel) (key tv)
  have s1 : ∀ (_ : True), A 1 #[true, true, true, true, true, true, true, true, true, true, false] KK1 [f1_1, f1_2] M1_3 := by
   intro _
   subst hA
   refine AAny.step [21] [10] (by decide +kernel) (by simp) (by decide) ⟨?_, tv⟩
   ·
    show aopsR _ _ _ [_] _ _ _
    refine aS rfl 1 (v := sT (((((stepF s).1).wait) ++ ([c] : List Chg)).map chgAV)) (l' := [.map kb, .map nb, sT (((((stepF s).1).wait) ++ ([c] : List Chg)).map chgAV), iT (((stepF s).1).fuse), .bool (((stepF s).1).down), iT (((stepF s).1).steps)]) rfl rfl hNb1 rfl rfl rfl rfl rfl (nB rfl) rfl ?_
    refine AAny.keep [] (by decide) ?_
    exact s0 trivial
  clear s0
  have s2 : ∀ (_ : True), A 4 #[true, true, true, true, true, true, true, false, false, false, false] KK1 [f1_4, f1_5, f1_6] M1_3 := by
   intro _
   subst hA
   refine AAny.step [21] [7] (by decide +kernel) (by simp) (by decide) ⟨?_, tv⟩
   ·
    show aopsR _ _ _ [_] _ _ _
    refine ar_append rfl chgAV (((stepF s).1).wait) ([c] : List Chg) rfl rfl rfl rfl rfl rfl (nB rfl) rfl (by (simp only [show Tryd.prog.bytesOf 73 = 56 from rfl, List.length_append, List.length_cons, List.length_nil]; omega)) (by (first | omega | (simp only [List.length_append, List.length_cons, List.length_nil]; omega))) (fun _ => ⟨rfl, rfl⟩) ?_
    refine AAny.fNil (i := 8) rfl rfl rfl (by decide) rfl (by decide +kernel) rfl ?_
    refine AAny.fField (i := 9) rfl rfl rfl (by decide) rfl (by decide +kernel) rfl rfl ⟨rfl, by decide⟩ ?_
    refine AAny.keep [24, 26] (by decide) ?_
    exact s1 trivial
  clear s1
  have s3 : ∀ (_ : True), A 5 #[true, true, true, true, true, true, false, false, false, false, false] KK1 [f1_4, f1_5, f1_7] M1_3 := by
   intro _
   subst hA
   refine AAny.step [21] [6] (by decide +kernel) (by simp) (by decide) ⟨?_, tv⟩
   ·
    show aopsR _ _ _ [_] _ _ _
    refine ⟨⟨rfl, nB rfl, rfl, nB rfl, rfl, by simp only [List.forall_mem_cons]; exact ⟨⟨rfl, rfl⟩, nfA⟩⟩, ?_⟩
    refine AAny.keep [17, 21, 23] (by decide) ?_
    exact s2 trivial
  have s4 : ∀ (_ : True), A 5 #[true, true, true, true, false, true, true, false, false, false, false] KK1 [f1_4, f1_8, f1_6] M1_9 := by
   intro _
   subst hA
   refine AAny.step [21] [4] (by decide +kernel) (by simp) (by decide) ⟨?_, tv⟩
   ·
    show aopsR _ _ _ [_] _ _ _
    refine ar_loads rfl (i := 1) rfl hNb1 rfl rfl rfl rfl (nB rfl) ?_
    refine AAny.keep [17, 21, 23] (by decide) ?_
    exact s2 trivial
  clear s2
  have s5 : ∀ (_ : True), A 6 #[true, true, true, true, true, false, false, false, false, false, false] KK1 [f1_10, f1_4, f1_5] M1_3 := by
   intro _
   subst hA
   refine AAny.step [21] [5] (by decide +kernel) (by simp) (by decide) ⟨?_, tv⟩
   ·
    show aopsR _ _ _ [_] _ _ _
    refine aL rfl (v := .agg [.str c.name, .str c.data, .str c.to, iT c.kind]) rfl (wG 0 hNb1 rfl) rfl (apartOk_agg rfl rfl (nB rfl)) rfl ?_
    refine AAny.keep [17, 21, 22] (by decide) ?_
    exact s3 trivial
  have s6 : ∀ (_ : True), A 6 #[true, true, true, true, false, true, false, false, false, false, false] KK1 [f1_4, f1_8, f1_7] M1_9 := by
   intro _
   subst hA
   refine AAny.step [21] [4, 6] (by decide +kernel) (by simp) (by decide) ⟨?_, ?_, tv⟩
   ·
    show aopsR _ _ _ [_] _ _ _
    refine ar_loads rfl (i := 1) rfl hNb1 rfl rfl rfl rfl (nB rfl) ?_
    refine AAny.keep [17, 21, 22] (by decide) ?_
    exact s3 trivial
   ·
    show aopsR _ _ _ [_] _ _ _
    refine ⟨⟨rfl, nB rfl, rfl, nB rfl, rfl, by simp only [List.forall_mem_cons]; exact ⟨⟨rfl, rfl⟩, nfA⟩⟩, ?_⟩
    refine AAny.keep [17, 20, 23] (by decide) ?_
    exact s4 trivial
  clear s3 s4
  have s7 : ∀ (_ : True), A 7 #[true, true, true, true, false, false, false, false, false, false, false] KK1 [f1_10, f1_4, f1_8] M1_9 := by
   intro _
   subst hA
   refine AAny.step [21] [4, 5] (by decide +kernel) (by simp) (by decide) ⟨?_, ?_, tv⟩
   ·
    show aopsR _ _ _ [_] _ _ _
    refine ar_loads rfl (i := 1) rfl hNb1 rfl rfl rfl rfl (nB rfl) ?_
    refine AAny.keep [3, 17, 21] (by decide) ?_
    exact s5 trivial
   ·
    show aopsR _ _ _ [_] _ _ _
    refine aL rfl (v := .agg [.str c.name, .str c.data, .str c.to, iT c.kind]) rfl (wG 0 hNb1 rfl) rfl (apartOk_agg rfl rfl (nB rfl)) rfl ?_
    refine AAny.keep [17, 20, 22] (by decide) ?_
    exact s6 trivial
  clear s5 s6
  subst hA
  refine AAny.fMove (i := 0) rfl rfl rfl (by decide) rfl (by decide +kernel) rfl ?_
  refine AAny.fMove (i := 1) rfl rfl rfl (by decide) rfl (by decide +kernel) rfl ?_
  refine AAny.fNil (i := 2) rfl rfl rfl (by decide) rfl (by decide +kernel) rfl ?_
  refine AAny.fField (i := 3) rfl rfl rfl (by decide) rfl (by decide +kernel) rfl rfl ⟨rfl, by decide⟩ ?_
  refine AAny.keep [3, 17, 20] (by decide) ?_
  exact s7 trivial
 intro _
 refine hK1 _ _ ?_; clear hK1 K1
 refine rS [] [4] (by decide) ?_
 intro K1 hK1
 refine ⟨tv, ?_⟩
 show K1 [(4, .nilIface)] (mW m [(b1, .cells [.str c.name, .str c.data, .str c.to, iT c.kind]), (d, .cells [.map kb, .map nb, sT (((((stepF s).1).wait) ++ ([c] : List Chg)).map chgAV), iT (((stepF s).1).fuse), .bool (((stepF s).1).down), iT (((stepF s).1).steps)]), (nb, mObj (applyC s.now c))])
 refine hK1 _ _ ?_; clear hK1 K1
 refine awp_toErr 60 [4] ?_
 show AWP _ _ _ _ [(4, .err 60 0)] _
 refine awp_ret ?_
 refine ⟨tv, (mW m [(d, .cells [.map kb, .map nb, sT (((((stepF s).1).wait) ++ ([c] : List Chg)).map chgAV), iT (((stepF s).1).fuse), .bool (((stepF s).1).down), iT (((stepF s).1).steps)]), (nb, mObj (applyC s.now c))]), (wth_sub2 (m := m) [(b1, .cells [.str c.name, .str c.data, .str c.to, iT c.kind])] [(d, .cells [.map kb, .map nb, sT (((((stepF s).1).wait) ++ ([c] : List Chg)).map chgAV), iT (((stepF s).1).fuse), .bool (((stepF s).1).down), iT (((stepF s).1).steps)]), (nb, mObj (applyC s.now c))] hNb1 (by simp only [List.map_cons, List.map_nil, List.forall_mem_cons]; exact ⟨hFb1, nfA⟩)), ?_⟩
 show K (.err 60 0) (AMem.wth m [(d, .cells [.map kb, .map nb, sT (((((stepF s).1).wait) ++ ([c] : List Chg)).map chgAV), iT (((stepF s).1).fuse), .bool (((stepF s).1).down), iT (((stepF s).1).steps)]), (nb, mObj (applyC s.now c))])
 have e0 : doF s c = (((⟨s.kept, applyC s.now c, (((stepF s).1).wait) ++ ([c] : List Chg), ((stepF s).1).fuse, (((stepF s).1).down), ((stepF s).1).steps⟩ : DSt), 0) : DSt × Int) := by
  first | (rw [doF, if_pos h1, ← hk.2.1]; done) | (rw [doF, if_neg (by omega)]; simp only [hk.1, hk3]; done)
 rw [e0] at hK
 exact hK
def nameC (c : UInt8) : Bool := (decide (97 ≤ (c.toNat : Int)) && decide ((c.toNat : Int) ≤ 122)) || (decide (48 ≤ (c.toNat : Int)) && decide ((c.toNat : Int) ≤ 57)) || ((c.toNat : Int) == 46)
def nameF (s : Str) : Bool := s.all nameC && !(s == []) && decide ((s.length : Int) ≤ 24)
def mayR (s : DSt) (name : Str) (size : Int) : Int :=
  if nameF name = false then 3 else if 4000 < size then 2 else if (mget s.now name).isSome = false ∧ 40 ≤ (s.now.length : Int) then 2 else 0
def writeR (s : DSt) (name data : Str) : DSt × Int := if mayR s name data.length ≠ 0 then (s, mayR s name data.length) else doF s ⟨name, data, [], 1⟩
def readR (s : DSt) (name : Str) : Str × Int := if s.down = true then ([], 10) else if (mget s.now name).isSome = false then ([], 7) else ((mget s.now name).getD [], 0)
theorem mayR_size {s : DSt} {n : Str} {z : Int} (h : mayR s n z = 0) : z ≤ 4000 := by
  unfold mayR at h
  split at h
  · cases h
  · split at h
    · cases h
    · omega
theorem all_snoc {s : Str} {i : Int} {p : UInt8 → Bool} (h0 : 0 ≤ i) (hi : i < s.length) : (s.take (i + 1).toNat).all p = ((s.take i.toNat).all p && p (gI s i)) := by
  rw [take_succ_gI h0 hi, List.all_append]; simp
set_option maxHeartbeats 2000000 in
theorem u_Name (s : Str) (hs : s.length ≤ 140737488355328) (m : AMem)  (K : AV → AMem → Prop) (hK : K (.bool (nameF s)) m) : ACalls Tryd.prog 49 [.str s] m K := by
 refine acalls_enter Tryd.func49 rfl (by decide) (nB rfl) ?_
 show AWP _ _ _ _ [(0, .str s)] m
 refine rS [] [0] (by decide) ?_
 intro K1 hK1
 refine ⟨tv, ?_⟩
 show K1 [(0, .str s)] m
 refine hK1 _ _ ?_; clear hK1 K1
 refine sK ?_; intro K2 hK2
 refine rS [] [0, 6, 7] (by decide) ?_
 intro K1 hK1
 refine ⟨tv, tv, tv, ?_⟩
 show K1 [(0, .str s), (6, iT (s.length : Int)), (7, iT 0)] m
 refine hK1 _ _ ?_; clear hK1 K1
 refine awp_block ?_
 refine awp_keep [0, 6, 7] (by decide) ?_
 refine awp_loop_st (σ := Int) (fun i => [(0, .str s), (6, iT (s.length : Int)), (7, iT i)]) (fun _ => m) (fun i => 0 ≤ i ∧ i ≤ s.length ∧ (s.take i.toNat).all nameC = true) (fun i => s.length - i.toNat) (0) rfl rfl ?_ ?_
 ·
  show 0 ≤ ((0 : Int)) ∧ ((0 : Int)) ≤ s.length ∧ (s.take ((0 : Int)).toNat).all nameC = true
  exact ⟨by omega, by omega, by simp⟩
 rintro i hI
 replace hI : 0 ≤ i ∧ i ≤ s.length ∧ (s.take i.toNat).all nameC = true := hI
 show AWP _ _ _ _ [(0, .str s), (6, iT (s.length : Int)), (7, iT i)] m
 refine rS [] [0, 6, 7, 8] (by decide) ?_
 intro K1 hK1
 refine ⟨tv, ?_⟩
 show K1 [(0, .str s), (6, iT (s.length : Int)), (7, iT i), (8, .bool (decide (i < (s.length : Int))))] m
 refine hK1 _ _ ?_; clear hK1 K1
 refine sK ?_; intro K3 hK3
 refine cD rfl rfl (fun h1 => ?_) (fun h1 => ?_)
 ·
  replace h1 : i < (s.length : Int) := (of_decide_eq_true h1)
  refine awp_skip ?_
  refine hK3 _ _ ?_; clear hK3
  refine sK ?_; intro K4 hK4
  refine awp_block ?_
  refine rS [] [0, 3, 6, 7] (by decide) ?_
  intro K1 hK1
  refine ⟨tv, tv, ?_⟩
  show K1 [(0, .str s), (3, iT i), (6, iT (s.length : Int)), (7, iT i)] m
  refine hK1 _ _ ?_; clear hK1 K1
  refine rS [] [0, 4, 6, 7] (by decide) ?_
  intro K1 hK1
  refine ⟨tv, tv, ⟨(by omega), (by omega)⟩, tv, ?_⟩
  show K1 [(0, .str s), (4, .int .u8 ((gI s i).toNat)), (6, iT (s.length : Int)), (7, iT i)] m
  refine hK1 _ _ ?_; clear hK1 K1
  refine rS [] [0, 6, 7, 30] (by decide) ?_
  intro K1 hK1
  suffices key : K1 [(0, .str s), (6, iT (s.length : Int)), (7, iT i), (30, .bool ((((decide (((gI s i).toNat : Int) < 97)) || (decide (122 < ((gI s i).toNat : Int)))) && ((decide (((gI s i).toNat : Int) < 48)) || (decide (57 < ((gI s i).toNat : Int))))) && (!(((gI s i).toNat : Int) == 46))))] m by
   refine ⟨tv, tv, tv, ?_⟩
   show aopsR _ _ _ _ _ [(15, .bool (decide (((gI s i).toNat : Int) < 97))), (14, .bool (decide (((gI s i).toNat : Int) < 97))), (13, .int .u8 ((gI s i).toNat)), (0, .str s), (4, .int .u8 ((gI s i).toNat)), (6, iT (s.length : Int)), (7, iT i)] _
   revert key
   cases h2 : (decide (((gI s i).toNat : Int) < 97))
   ·
    replace h2 : 97 ≤ ((gI s i).toNat : Int) := (Int.not_lt.1 (of_decide_eq_false h2))
    intro key
    refine ⟨tv, tv, ?_⟩
    refine ⟨tv, ?_⟩
    show aopsR _ _ _ _ _ [(19, .bool (decide (122 < ((gI s i).toNat : Int)))), (18, .bool (decide (122 < ((gI s i).toNat : Int)))), (17, .bool (decide (122 < ((gI s i).toNat : Int)))), (16, .int .u8 ((gI s i).toNat)), (15, .bool false), (14, .bool false), (13, .int .u8 ((gI s i).toNat)), (0, .str s), (4, .int .u8 ((gI s i).toNat)), (6, iT (s.length : Int)), (7, iT i)] _
    revert key
    cases h3 : (decide (122 < ((gI s i).toNat : Int)))
    ·
     replace h3 : ((gI s i).toNat : Int) ≤ 122 := (Int.not_lt.1 (of_decide_eq_false h3))
     intro key
     refine ar_off rfl (ar_off rfl (ar_off rfl (ar_off rfl (ar_off rfl (ar_off rfl ?_)))))
     refine ⟨tv, ?_⟩
     refine ar_off rfl (ar_off rfl ?_)
     exact key
    ·
     replace h3 : 122 < ((gI s i).toNat : Int) := (of_decide_eq_true h3)
     intro key
     refine ⟨tv, tv, tv, ?_⟩
     show aopsR _ _ _ _ _ [(22, .bool (decide (((gI s i).toNat : Int) < 48))), (21, .bool (decide (((gI s i).toNat : Int) < 48))), (20, .int .u8 ((gI s i).toNat)), (19, .bool true), (18, .bool true), (17, .bool true), (16, .int .u8 ((gI s i).toNat)), (15, .bool false), (14, .bool false), (13, .int .u8 ((gI s i).toNat)), (0, .str s), (4, .int .u8 ((gI s i).toNat)), (6, iT (s.length : Int)), (7, iT i)] _
     revert key
     cases h4 : (decide (((gI s i).toNat : Int) < 48))
     ·
      replace h4 : 48 ≤ ((gI s i).toNat : Int) := (Int.not_lt.1 (of_decide_eq_false h4))
      intro key
      refine ⟨tv, tv, ?_⟩
      refine ⟨tv, ?_⟩
      show aopsR _ _ _ _ _ [(27, .bool (decide (57 < ((gI s i).toNat : Int)))), (26, .bool (decide (57 < ((gI s i).toNat : Int)))), (25, .bool (decide (57 < ((gI s i).toNat : Int)))), (24, .bool (decide (57 < ((gI s i).toNat : Int)))), (23, .int .u8 ((gI s i).toNat)), (22, .bool false), (21, .bool false), (20, .int .u8 ((gI s i).toNat)), (19, .bool true), (18, .bool true), (17, .bool true), (16, .int .u8 ((gI s i).toNat)), (15, .bool false), (14, .bool false), (13, .int .u8 ((gI s i).toNat)), (0, .str s), (4, .int .u8 ((gI s i).toNat)), (6, iT (s.length : Int)), (7, iT i)] _
      revert key
      cases h5 : (decide (57 < ((gI s i).toNat : Int)))
      ·
       replace h5 : ((gI s i).toNat : Int) ≤ 57 := (Int.not_lt.1 (of_decide_eq_false h5))
       intro key
       refine ar_off rfl (ar_off rfl ?_)
       exact key
      ·
       replace h5 : 57 < ((gI s i).toNat : Int) := (of_decide_eq_true h5)
       intro key
       refine ⟨tv, tv, ?_⟩
       exact key
     ·
      replace h4 : ((gI s i).toNat : Int) < 48 := (of_decide_eq_true h4)
      intro key
      refine ar_off rfl (ar_off rfl ?_)
      refine ⟨tv, tv, tv, ?_⟩
      exact key
   ·
    replace h2 : ((gI s i).toNat : Int) < 97 := (of_decide_eq_true h2)
    intro key
    refine ar_off rfl (ar_off rfl ?_)
    refine ⟨tv, tv, tv, tv, ?_⟩
    show aopsR _ _ _ _ _ [(22, .bool (decide (((gI s i).toNat : Int) < 48))), (21, .bool (decide (((gI s i).toNat : Int) < 48))), (20, .int .u8 ((gI s i).toNat)), (19, .bool true), (18, .bool true), (17, .lazy false (.junk)), (16, .lazy false (.junk)), (15, .bool true), (14, .bool true), (13, .int .u8 ((gI s i).toNat)), (0, .str s), (4, .int .u8 ((gI s i).toNat)), (6, iT (s.length : Int)), (7, iT i)] _
    revert key
    cases h6 : (decide (((gI s i).toNat : Int) < 48))
    ·
     replace h6 : 48 ≤ ((gI s i).toNat : Int) := (Int.not_lt.1 (of_decide_eq_false h6))
     intro key
     refine ⟨tv, tv, ?_⟩
     refine ⟨tv, ?_⟩
     show aopsR _ _ _ _ _ [(27, .bool (decide (57 < ((gI s i).toNat : Int)))), (26, .bool (decide (57 < ((gI s i).toNat : Int)))), (25, .bool (decide (57 < ((gI s i).toNat : Int)))), (24, .bool (decide (57 < ((gI s i).toNat : Int)))), (23, .int .u8 ((gI s i).toNat)), (22, .bool false), (21, .bool false), (20, .int .u8 ((gI s i).toNat)), (19, .bool true), (18, .bool true), (17, .lazy false (.junk)), (16, .lazy false (.junk)), (15, .bool true), (14, .bool true), (13, .int .u8 ((gI s i).toNat)), (0, .str s), (4, .int .u8 ((gI s i).toNat)), (6, iT (s.length : Int)), (7, iT i)] _
     revert key
     cases h7 : (decide (57 < ((gI s i).toNat : Int)))
     ·
      replace h7 : ((gI s i).toNat : Int) ≤ 57 := (Int.not_lt.1 (of_decide_eq_false h7))
      intro key
      refine ar_off rfl (ar_off rfl ?_)
      exact key
     ·
      replace h7 : 57 < ((gI s i).toNat : Int) := (of_decide_eq_true h7)
      intro key
      refine ⟨tv, tv, ?_⟩
      exact key
    ·
     replace h6 : ((gI s i).toNat : Int) < 48 := (of_decide_eq_true h6)
     intro key
     refine ar_off rfl (ar_off rfl ?_)
     refine ⟨tv, tv, tv, ?_⟩
     exact key
  refine hK1 _ _ ?_; clear hK1 K1
  refine cD rfl rfl (fun h8 => ?_) (fun h8 => ?_)
  ·
   replace h8 : (((((gI s i).toNat : Int) < 97) ∨ (122 < ((gI s i).toNat : Int))) ∧ ((((gI s i).toNat : Int) < 48) ∨ (57 < ((gI s i).toNat : Int)))) ∧ (((gI s i).toNat : Int) ≠ 46) := ⟨⟨((borT (bandL (bandL h8))).imp (fun q => (of_decide_eq_true q)) (fun q => (of_decide_eq_true q))), ((borT (bandR (bandL h8))).imp (fun q => (of_decide_eq_true q)) (fun q => (of_decide_eq_true q)))⟩, (ne_of_beq_false (bnT (bandR h8)))⟩
   refine rS [] [2] (by decide) ?_
   intro K1 hK1
   refine ⟨tv, ?_⟩
   show K1 [(2, .bool false)] m
   refine hK1 _ _ ?_; clear hK1 K1
   refine awp_ret ?_
   refine ⟨tv, m, fun _ _ h => h, ?_⟩
   show K (.bool false) m
  
   refine K_eq hK (cgA AV.bool ?_)
   have hb : nameC (gI s i) = false := by
    rw [Bool.eq_false_iff]; intro hh; simp [nameC] at hh; omega
   have ha : s.all nameC = false := by
    rw [Bool.eq_false_iff]; intro hh
    have := List.all_eq_true.1 hh _ (gI_mem hI.1 h1)
    rw [hb] at this; cases this
   rw [nameF, ha]; rfl
  replace h8 : (((97 ≤ ((gI s i).toNat : Int)) ∧ (((gI s i).toNat : Int) ≤ 122)) ∨ ((48 ≤ ((gI s i).toNat : Int)) ∧ (((gI s i).toNat : Int) ≤ 57))) ∨ (((gI s i).toNat : Int) = 46) := ((bandF h8).imp (fun q => ((bandF q).imp (fun q => ⟨(Int.not_lt.1 (of_decide_eq_false (borL q))), (Int.not_lt.1 (of_decide_eq_false (borR q)))⟩) (fun q => ⟨(Int.not_lt.1 (of_decide_eq_false (borL q))), (Int.not_lt.1 (of_decide_eq_false (borR q)))⟩))) (fun q => (eq_of_beq (bnF q))))
  refine awp_skip ?_
  refine hK4 _ _ ?_; clear hK4
  refine awp_reg2 [] [0, 6, 7] (by decide) ?_
  intro K1 hK1
  refine ar_add rfl (a := i) (b := 1) rfl rfl (by omega) (by omega) ?_
  refine ⟨tv, ?_⟩
  show K1 [(0, .str s), (6, iT (s.length : Int)), (7, iT (i + 1))] m
  refine hK1 _ _ ?_; clear hK1 K1
  refine ⟨(i + 1), rfl, rfl, ?_, ?_⟩
  ·
   show 0 ≤ ((i + 1 : Int)) ∧ ((i + 1 : Int)) ≤ s.length ∧ (s.take ((i + 1 : Int)).toNat).all nameC = true
   have hb : nameC (gI s i) = true := by simp [nameC]; omega
   exact ⟨by omega, by omega, by rw [all_snoc hI.1 h1, hI.2.2, hb]; rfl⟩
  ·
   show s.length - ((i + 1 : Int)).toNat < s.length - i.toNat
   omega
 replace h1 : (s.length : Int) ≤ i := (Int.not_lt.1 (of_decide_eq_false h1))
 refine awp_exit ?_
 refine hK2 _ _ ?_; clear hK2
 refine rS [] [2] (by decide) ?_
 intro K1 hK1
 suffices key : K1 [(2, .bool ((!(s == ([]))) && (decide ((s.length : Int) ≤ 24))))] m by
  refine ⟨tv, tv, tv, ?_⟩
  show aopsR _ _ _ _ _ [(34, .bool (!(s == ([])))), (33, .bool (!(s == ([])))), (32, .str s), (0, .str s), (6, iT (s.length : Int)), (7, iT i), (8, .bool (decide (i < (s.length : Int))))] _
  revert key
  cases h9 : (s == ([]))
  ·
   replace h9 : s ≠ [] := (ne_of_beq_false h9)
   intro key
   refine ⟨tv, tv, tv, ?_⟩
   refine ⟨tv, ?_⟩
   exact key
  ·
   replace h9 : s = [] := (eq_of_beq h9)
   intro key
   refine ar_off rfl (ar_off rfl (ar_off rfl ?_))
   refine ⟨tv, ?_⟩
   exact key
 refine hK1 _ _ ?_; clear hK1 K1
 refine awp_ret ?_
 refine ⟨tv, m, fun _ _ h => h, ?_⟩
 show K (.bool ((!(s == ([]))) && (decide ((s.length : Int) ≤ 24)))) m
 refine K_eq hK (cgA AV.bool ?_)
 have ha : s.all nameC = true := by have := hI.2.2; rwa [take_full (by omega)] at this
 rw [nameF, ha]; rfl
set_option maxHeartbeats 2000000 in
theorem u_may (d kb nb : Nat) (s : DSt) (name : Str) (size : Int) (N : Nat) (hN : [d, nb].Nodup) (hD : DInv N s) (hNN : N ≤ 100000) (hn : name.length ≤ 140737488355328) (m : AMem)  (K : AV → AMem → Prop) (hK : K (.err 60 (mayR s name size)) (mW m [(d, dObj kb nb s), (nb, mObj s.now)])) : ACalls Tryd.prog 36 [pT d, .str name, iT size] (mW m [(d, dObj kb nb s), (nb, mObj s.now)]) K := by
 have hnl := hD.nl
 refine acalls_enter Tryd.func36 rfl (by decide) (nB rfl) ?_
 show AWP _ _ _ _ [(0, pT d), (1, .str name), (2, iT size)] (mW m [(d, dObj kb nb s), (nb, mObj s.now)])
 refine rS [] [0, 1, 2] (by decide) ?_
 intro K1 hK1
 refine ⟨tv, ?_⟩
 show K1 [(0, pT d), (1, .str name), (2, iT size)] _
 refine hK1 _ _ ?_; clear hK1 K1
 refine sK ?_; intro K2 hK2
 refine rS [] [0, 1, 2, 11] (by decide) ?_
 intro K1 hK1
 refine ⟨tv, ?_⟩
 refine u_Name name (by first | assumption | omega) _ _ ?_
 refine ⟨tv, ?_⟩
 show K1 [(0, pT d), (1, .str name), (2, iT size), (11, .bool (!(nameF name)))] _
 refine hK1 _ _ ?_; clear hK1 K1
 refine cD rfl rfl (fun h1 => ?_) (fun h1 => ?_)
 ·
  replace h1 : nameF name = false := (bnT h1)
  refine rS [] [6] (by decide) ?_
  intro K1 hK1
  refine ⟨tv, tv, ?_⟩
  show K1 [(6, .iface 60 (iT 3))] (mW m [(d, dObj kb nb s), (nb, mObj s.now)])
  refine hK1 _ _ ?_; clear hK1 K1
  refine awp_toErr 60 [6] ?_
  show AWP _ _ _ _ [(6, .err 60 3)] _
  refine awp_ret ?_
  refine ⟨tv, (mW m [(d, dObj kb nb s), (nb, mObj s.now)]), fun _ _ h => h, ?_⟩
  show K (.err 60 3) _
 
  have e0 : mayR s name size = (3 : Int) := by
   first | (rw [mayR, if_pos h1]; done) | (rw [mayR, if_neg (by simp [h1]), if_pos h2]; done) | (rw [mayR, if_neg (by simp [h1]), if_neg (by omega), if_pos h4]; done) | (rw [mayR, if_neg (by simp [h1]), if_neg (by omega), if_neg (by rintro ⟨x, y⟩; rcases h4 with h | h <;> first | omega | simp_all)]; done)
  rw [e0] at hK
  exact hK
 replace h1 : nameF name = true := (bnF h1)
 refine awp_skip ?_
 refine hK2 _ _ ?_; clear hK2
 refine sK ?_; intro K3 hK3
 refine rS [] [0, 1, 14] (by decide) ?_
 intro K1 hK1
 refine ⟨tv, tv, ?_⟩
 show K1 [(0, pT d), (1, .str name), (14, .bool (decide (4000 < size)))] (mW m [(d, dObj kb nb s), (nb, mObj s.now)])
 refine hK1 _ _ ?_; clear hK1 K1
 refine cD rfl rfl (fun h2 => ?_) (fun h2 => ?_)
 ·
  replace h2 : 4000 < size := (of_decide_eq_true h2)
  refine rS [] [6] (by decide) ?_
  intro K1 hK1
  refine ⟨tv, tv, ?_⟩
  show K1 [(6, .iface 60 (iT 2))] (mW m [(d, dObj kb nb s), (nb, mObj s.now)])
  refine hK1 _ _ ?_; clear hK1 K1
  refine awp_toErr 60 [6] ?_
  show AWP _ _ _ _ [(6, .err 60 2)] _
  refine awp_ret ?_
  refine ⟨tv, (mW m [(d, dObj kb nb s), (nb, mObj s.now)]), fun _ _ h => h, ?_⟩
  show K (.err 60 2) _
 
  have e0 : mayR s name size = (2 : Int) := by
   first | (rw [mayR, if_pos h1]; done) | (rw [mayR, if_neg (by simp [h1]), if_pos h2]; done) | (rw [mayR, if_neg (by simp [h1]), if_neg (by omega), if_pos h4]; done) | (rw [mayR, if_neg (by simp [h1]), if_neg (by omega), if_neg (by rintro ⟨x, y⟩; rcases h4 with h | h <;> first | omega | simp_all)]; done)
  rw [e0] at hK
  exact hK
 replace h2 : size ≤ 4000 := (Int.not_lt.1 (of_decide_eq_false h2))
 refine awp_skip ?_
 refine hK3 _ _ ?_; clear hK3
 refine rS [] [0, 8] (by decide) ?_
 intro K1 hK1
 refine ⟨tv, tv, ⟨rfl, by decide⟩, ?_⟩
 refine aL rfl (v := .map nb) rfl (wG 0 hN rfl) rfl (aO rfl rfl (nB rfl)) rfl ?_
 refine ⟨tv, ?_⟩
 refine ar_lookupOk rfl (m := m) (L := [(d, dObj kb nb s), (nb, mObj s.now)]) strAV strAV strKey_ok s.now name [] rfl rfl rfl rfl rfl (wG 1 hN rfl) rfl ?_
 refine ⟨tv, (nB rfl), (nB rfl), tv, tv, ?_⟩
 show K1 [(0, pT d), (8, .bool ((mget s.now name).isSome))] (mW m [(d, dObj kb nb s), (nb, mObj s.now)])
 refine hK1 _ _ ?_; clear hK1 K1
 refine sK ?_; intro K4 hK4
 refine rS [] [34] (by decide) ?_
 intro K1 hK1
 suffices key : K1 [(34, .bool ((!((mget s.now name).isSome)) && (decide (40 ≤ (s.now.length : Int)))))] (mW m [(d, dObj kb nb s), (nb, mObj s.now)]) by
  refine ⟨tv, tv, tv, ?_⟩
  show aopsR _ _ _ _ _ [(27, .bool (!((mget s.now name).isSome))), (26, .bool (!((mget s.now name).isSome))), (25, .bool ((mget s.now name).isSome)), (0, pT d), (8, .bool ((mget s.now name).isSome))] _
  revert key
  cases h3 : ((mget s.now name).isSome)
  ·
   replace h3 : (mget s.now name).isSome = false := h3
   intro key
   refine ⟨tv, tv, ⟨rfl, by decide⟩, ?_⟩
   refine aL rfl (v := .map nb) rfl (wG 0 hN rfl) rfl (aO rfl rfl (nB rfl)) rfl ?_
   refine ar_lenMap rfl (m := m) (L := [(d, dObj kb nb s), (nb, mObj s.now)]) (mapAV strAV strAV) s.now rfl rfl (wG 1 hN rfl) ?_
   refine ⟨tv, ?_⟩
   exact key
  ·
   replace h3 : (mget s.now name).isSome = true := h3
   intro key
   refine ar_off rfl (ar_off rfl (ar_off rfl (ar_off rfl (ar_off rfl (ar_off rfl ?_)))))
   exact key
 refine hK1 _ _ ?_; clear hK1 K1
 refine cD rfl rfl (fun h4 => ?_) (fun h4 => ?_)
 ·
  replace h4 : ((mget s.now name).isSome = false) ∧ (40 ≤ (s.now.length : Int)) := ⟨(bnT (bandL h4)), (of_decide_eq_true (bandR h4))⟩
  refine rS [] [6] (by decide) ?_
  intro K1 hK1
  refine ⟨tv, tv, ?_⟩
  show K1 [(6, .iface 60 (iT 2))] (mW m [(d, dObj kb nb s), (nb, mObj s.now)])
  refine hK1 _ _ ?_; clear hK1 K1
  refine awp_toErr 60 [6] ?_
  show AWP _ _ _ _ [(6, .err 60 2)] _
  refine awp_ret ?_
  refine ⟨tv, (mW m [(d, dObj kb nb s), (nb, mObj s.now)]), fun _ _ h => h, ?_⟩
  show K (.err 60 2) _
 
  have e0 : mayR s name size = (2 : Int) := by
   first | (rw [mayR, if_pos h1]; done) | (rw [mayR, if_neg (by simp [h1]), if_pos h2]; done) | (rw [mayR, if_neg (by simp [h1]), if_neg (by omega), if_pos h4]; done) | (rw [mayR, if_neg (by simp [h1]), if_neg (by omega), if_neg (by rintro ⟨x, y⟩; rcases h4 with h | h <;> first | omega | simp_all)]; done)
  rw [e0] at hK
  exact hK
 replace h4 : ((mget s.now name).isSome = true) ∨ ((s.now.length : Int) < 40) := ((bandF h4).imp (fun q => (bnF q)) (fun q => (Int.not_le.1 (of_decide_eq_false q))))
 refine awp_skip ?_
 refine hK4 _ _ ?_; clear hK4
 refine rS [] [6] (by decide) ?_
 intro K1 hK1
 refine ⟨tv, ?_⟩
 show K1 [(6, .nilIface)] (mW m [(d, dObj kb nb s), (nb, mObj s.now)])
 refine hK1 _ _ ?_; clear hK1 K1
 refine awp_toErr 60 [6] ?_
 show AWP _ _ _ _ [(6, .err 60 0)] _
 refine awp_ret ?_
 refine ⟨tv, (mW m [(d, dObj kb nb s), (nb, mObj s.now)]), fun _ _ h => h, ?_⟩
 show K (.err 60 0) _
 have e0 : mayR s name size = (0 : Int) := by
  first | (rw [mayR, if_pos h1]; done) | (rw [mayR, if_neg (by simp [h1]), if_pos h2]; done) | (rw [mayR, if_neg (by simp [h1]), if_neg (by omega), if_pos h4]; done) | (rw [mayR, if_neg (by simp [h1]), if_neg (by omega), if_neg (by rintro ⟨x, y⟩; rcases h4 with h | h <;> first | omega | simp_all)]; done)
 rw [e0] at hK
 exact hK
set_option maxHeartbeats 2000000 in
theorem u_Write (d kb nb : Nat) (s : DSt) (name data : Str) (N : Nat) (hN : [d, nb].Nodup) (hD : DInv N s) (hNN : N ≤ 100000) (hn : name.length ≤ 140737488355328) (hd : data.length ≤ 140737488355328) (m : AMem)  (K : AV → AMem → Prop) (hK : K (.err 60 (writeR s name data).2) (mW m [(d, dObj kb nb (writeR s name data).1), (nb, mObj (writeR s name data).1.now)])) : ACalls Tryd.prog 15 [pT d, .str name, .str data] (mW m [(d, dObj kb nb s), (nb, mObj s.now)]) K := by
 refine acalls_enter Tryd.func15 rfl (by decide) (nB rfl) ?_
 show AWP _ _ _ _ [(0, pT d), (1, .str name), (2, .str data)] (mW m [(d, dObj kb nb s), (nb, mObj s.now)])
 refine rS [] [0, 1, 2] (by decide) ?_
 intro K1 hK1
 refine ⟨tv, ?_⟩
 show K1 [(0, pT d), (1, .str name), (2, .str data)] _
 refine hK1 _ _ ?_; clear hK1 K1
 refine rS [] [0, 1, 2, 7] (by decide) ?_
 intro K1 hK1
 refine ⟨tv, tv, tv, tv, ?_⟩
 refine u_may d kb nb s name (data.length : Int) N hN hD hNN (by first | assumption | omega) _ _ ?_
 show aopsR _ _ _ _ _ _ (mW m [(d, dObj kb nb s), (nb, mObj s.now)])
 refine ⟨tv, ?_⟩
 show K1 [(0, pT d), (1, .str name), (2, .str data), (7, .err 60 (mayR s name (data.length : Int)))] _
 refine hK1 _ _ ?_; clear hK1 K1
 refine sK ?_; intro K2 hK2
 refine rS [] [0, 1, 2, 7, 14] (by decide) ?_
 intro K1 hK1
 refine ⟨tv, ⟨rfl, rfl⟩, ?_⟩
 show K1 [(0, pT d), (1, .str name), (2, .str data), (7, .err 60 (mayR s name (data.length : Int))), (14, .bool (!((mayR s name (data.length : Int)) == 0)))] _
 refine hK1 _ _ ?_; clear hK1 K1
 refine cD rfl rfl (fun h1 => ?_) (fun h1 => ?_)
 ·
  replace h1 : (mayR s name (data.length : Int)) ≠ 0 := (ne_of_beq_false (bnT h1))
  refine rS [] [6] (by decide) ?_
  intro K1 hK1
  refine ⟨tv, tv, ?_⟩
  show K1 [(6, .err 60 (mayR s name (data.length : Int)))] (mW m [(d, dObj kb nb s), (nb, mObj s.now)])
  refine hK1 _ _ ?_; clear hK1 K1
  refine awp_ret ?_
  refine ⟨tv, (mW m [(d, dObj kb nb s), (nb, mObj s.now)]), fun _ _ h => h, ?_⟩
  show K (.err 60 (mayR s name (data.length : Int))) _
 
  have e0 : writeR s name data = ((s, (mayR s name (data.length : Int))) : DSt × Int) := by
   first | (rw [writeR, if_pos h1]; done) | (rw [writeR, if_neg (by omega)]; done)
  rw [e0] at hK
  exact hK
 replace h1 : (mayR s name (data.length : Int)) = 0 := (eq_of_beq (bnF h1))
 have hms := mayR_size h1
 refine awp_skip ?_
 refine hK2 _ _ ?_; clear hK2
 refine rS [] [6] (by decide) ?_
 intro K1 hK1
 refine ⟨tv, tv, tv, ⟨rfl, by simp only [List.forall_mem_cons]; exact ⟨rfl, rfl, rfl, rfl, nfA⟩, by simp only [List.forall_mem_cons]; exact ⟨rfl, rfl, rfl, nfA⟩⟩, ?_⟩
 refine u_do d kb nb s (⟨name, data, [], 1⟩ : Chg) N hN hD hNN (by first | assumption | (dsimp only; omega) | simp) _ _ ?_
 show aopsR _ _ _ _ _ _ (mW m [(d, dObj kb nb ((doF s (⟨name, data, [], 1⟩ : Chg)).1)), (nb, mObj ((doF s (⟨name, data, [], 1⟩ : Chg)).1.now))])
 refine ⟨tv, ?_⟩
 show K1 [(6, .err 60 ((doF s (⟨name, data, [], 1⟩ : Chg)).2))] (mW m [(d, dObj kb nb ((doF s (⟨name, data, [], 1⟩ : Chg)).1)), (nb, mObj ((doF s (⟨name, data, [], 1⟩ : Chg)).1.now))])
 refine hK1 _ _ ?_; clear hK1 K1
 refine awp_ret ?_
 refine ⟨tv, (mW m [(d, dObj kb nb ((doF s (⟨name, data, [], 1⟩ : Chg)).1)), (nb, mObj ((doF s (⟨name, data, [], 1⟩ : Chg)).1.now))]), fun _ _ h => h, ?_⟩
 show K (.err 60 ((doF s (⟨name, data, [], 1⟩ : Chg)).2)) _
 have e0 : writeR s name data = (((doF s (⟨name, data, [], 1⟩ : Chg)).1, (doF s (⟨name, data, [], 1⟩ : Chg)).2) : DSt × Int) := by
  first | (rw [writeR, if_pos h1]; done) | (rw [writeR, if_neg (by omega)]; done)
 rw [e0] at hK
 exact hK
set_option maxHeartbeats 2000000 in
theorem u_Read (d kb nb : Nat) (s : DSt) (name : Str) (hN : [d, nb].Nodup) (m : AMem)  (K : AV → AMem → Prop) (hK : K (.tuple [.str (readR s name).1, .err 60 (readR s name).2]) (mW m [(d, dObj kb nb s), (nb, mObj s.now)])) : ACalls Tryd.prog 39 [pT d, .str name] (mW m [(d, dObj kb nb s), (nb, mObj s.now)]) K := by
 refine acalls_enter Tryd.func39 rfl (by decide) (nB rfl) ?_
 show AWP _ _ _ _ [(0, pT d), (1, .str name)] (mW m [(d, dObj kb nb s), (nb, mObj s.now)])
 refine rS [] [0, 1] (by decide) ?_
 intro K1 hK1
 refine ⟨tv, tv, ?_⟩
 show K1 [(0, pT d), (1, .str name)] _
 refine hK1 _ _ ?_; clear hK1 K1
 refine sK ?_; intro K2 hK2
 refine rS [] [0, 1, 11] (by decide) ?_
 intro K1 hK1
 refine ⟨tv, tv, ⟨rfl, by decide⟩, ?_⟩
 refine aL rfl (v := .bool s.down) rfl (wG 0 hN rfl) rfl (aO rfl rfl (nB rfl)) rfl ?_
 show K1 [(0, pT d), (1, .str name), (11, .bool s.down)] _
 refine hK1 _ _ ?_; clear hK1 K1
 refine cD rfl rfl (fun h1 => ?_) (fun h1 => ?_)
 ·
  replace h1 : s.down = true := h1
  refine rS [] [4, 5] (by decide) ?_
  intro K1 hK1
  refine ⟨tv, tv, tv, ?_⟩
  show K1 [(4, .str ([])), (5, .iface 60 (iT 10))] (mW m [(d, dObj kb nb s), (nb, mObj s.now)])
  refine hK1 _ _ ?_; clear hK1 K1
  refine awp_toErr 60 [5] ?_
  show AWP _ _ _ _ [(4, .str ([])), (5, .err 60 10)] _
  refine awp_ret ?_
  refine ⟨tv, tv, (mW m [(d, dObj kb nb s), (nb, mObj s.now)]), fun _ _ h => h, ?_⟩
  show K (.tuple [.str ([]), .err 60 10]) _
 
  have e0 : readR s name = (([], 10) : Str × Int) := by
   first | (rw [readR, if_pos h1]; done) | (rw [readR, if_neg (by simp [h1]), if_pos h2]; done) | (rw [readR, if_neg (by simp [h1]), if_neg (by simp [h2])]; done)
  rw [e0] at hK
  exact hK
 replace h1 : s.down = false := h1
 refine awp_skip ?_
 refine hK2 _ _ ?_; clear hK2
 refine rS [] [6, 7] (by decide) ?_
 intro K1 hK1
 refine ⟨tv, tv, ⟨rfl, by decide⟩, ?_⟩
 refine aL rfl (v := .map nb) rfl (wG 0 hN rfl) rfl (aO rfl rfl (nB rfl)) rfl ?_
 refine ⟨tv, ?_⟩
 refine ar_lookupOk rfl (m := m) (L := [(d, dObj kb nb s), (nb, mObj s.now)]) strAV strAV strKey_ok s.now name [] rfl rfl rfl rfl rfl (wG 1 hN rfl) rfl ?_
 refine ⟨tv, (nB rfl), (nB rfl), tv, tv, ?_⟩
 show K1 [(6, .str ((mget s.now name).getD [])), (7, .bool ((mget s.now name).isSome))] (mW m [(d, dObj kb nb s), (nb, mObj s.now)])
 refine hK1 _ _ ?_; clear hK1 K1
 refine sK ?_; intro K3 hK3
 refine rS [] [6, 23] (by decide) ?_
 intro K1 hK1
 refine ⟨tv, tv, ?_⟩
 show K1 [(6, .str ((mget s.now name).getD [])), (23, .bool (!((mget s.now name).isSome)))] _
 refine hK1 _ _ ?_; clear hK1 K1
 refine cD rfl rfl (fun h2 => ?_) (fun h2 => ?_)
 ·
  replace h2 : (mget s.now name).isSome = false := (bnT h2)
  refine rS [] [4, 5] (by decide) ?_
  intro K1 hK1
  refine ⟨tv, tv, tv, ?_⟩
  show K1 [(4, .str ([])), (5, .iface 60 (iT 7))] (mW m [(d, dObj kb nb s), (nb, mObj s.now)])
  refine hK1 _ _ ?_; clear hK1 K1
  refine awp_toErr 60 [5] ?_
  show AWP _ _ _ _ [(4, .str ([])), (5, .err 60 7)] _
  refine awp_ret ?_
  refine ⟨tv, tv, (mW m [(d, dObj kb nb s), (nb, mObj s.now)]), fun _ _ h => h, ?_⟩
  show K (.tuple [.str ([]), .err 60 7]) _
 
  have e0 : readR s name = (([], 7) : Str × Int) := by
   first | (rw [readR, if_pos h1]; done) | (rw [readR, if_neg (by simp [h1]), if_pos h2]; done) | (rw [readR, if_neg (by simp [h1]), if_neg (by simp [h2])]; done)
  rw [e0] at hK
  exact hK
 replace h2 : (mget s.now name).isSome = true := (bnF h2)
 refine awp_skip ?_
 refine hK3 _ _ ?_; clear hK3
 refine rS [] [4, 5] (by decide) ?_
 intro K1 hK1
 refine ⟨tv, tv, tv, ?_⟩
 show K1 [(4, .str ((mget s.now name).getD [])), (5, .nilIface)] (mW m [(d, dObj kb nb s), (nb, mObj s.now)])
 refine hK1 _ _ ?_; clear hK1 K1
 refine awp_toErr 60 [5] ?_
 show AWP _ _ _ _ [(4, .str ((mget s.now name).getD [])), (5, .err 60 0)] _
 refine awp_ret ?_
 refine ⟨tv, tv, (mW m [(d, dObj kb nb s), (nb, mObj s.now)]), fun _ _ h => h, ?_⟩
 show K (.tuple [.str ((mget s.now name).getD []), .err 60 0]) _
 have e0 : readR s name = (((mget s.now name).getD [], 0) : Str × Int) := by
  first | (rw [readR, if_pos h1]; done) | (rw [readR, if_neg (by simp [h1]), if_pos h2]; done) | (rw [readR, if_neg (by simp [h1]), if_neg (by simp [h2])]; done)
 rw [e0] at hK
 exact hK
theorem applyL_step {l : List (Str × Str)} {cs : List Chg} {i : Int} (h0 : 0 ≤ i) (hi : i < cs.length) : applyC (applyL l (cs.take i.toNat)) (gI cs i) = applyL l (cs.take (i + 1).toNat) := by
  rw [take_succ_gI h0 hi, applyL, applyL, List.foldl_append]; rfl
set_option maxHeartbeats 4000000 in
theorem u_Sync (d kb nb : Nat) (s : DSt) (N : Nat) (hN : [d, kb].Nodup) (hD : DInv N s) (hNN : N ≤ 100000) (m : AMem)  (K : AV → AMem → Prop) (hK : K (.err 60 (syncF s).2) (mW m [(d, dObj kb nb (syncF s).1), (kb, mObj (syncF s).1.kept)])) : ACalls Tryd.prog 31 [pT d] (mW m [(d, dObj kb nb s), (kb, mObj s.kept)]) K := by
 have hk := stepF_keep s
 have hk3 := hk.2.2.1
 have hwl := hD.kl
 have hkw : (stepF s).1.wait.length ≤ 100000 := by rw [hk3]; omega
 refine acalls_enter Tryd.func31 rfl (by decide) (nB rfl) ?_
 show AWP _ _ _ _ [(0, pT d)] (mW m [(d, dObj kb nb s), (kb, mObj s.kept)])
 refine rS [] [0] (by decide) ?_
 intro K1 hK1
 refine ⟨tv, ?_⟩
 show K1 [(0, pT d)] _
 refine hK1 _ _ ?_; clear hK1 K1
 refine rS [] [0, 3] (by decide) ?_
 intro K1 hK1
 refine ⟨tv, ?_⟩
 refine ar_mem (wS hN (pick_perm [0] _)) ?_
 refine u_Step d kb nb s hD.st0 (by have := hD.st1; omega) hD.fu0 hD.fu1 _ _ ?_
 refine ar_mem (wS (m := m) (L := [(d, dObj kb nb ((stepF s).1)), (kb, mObj s.kept)]) hN (pick_perm [0] _)).symm ?_
 refine ⟨tv, ?_⟩
 show K1 [(0, pT d), (3, .err 60 ((stepF s).2))] (mW m [(d, dObj kb nb ((stepF s).1)), (kb, mObj s.kept)])
 refine hK1 _ _ ?_; clear hK1 K1
 refine sK ?_; intro K2 hK2
 refine rS [] [0, 3, 9] (by decide) ?_
 intro K1 hK1
 refine ⟨tv, ⟨rfl, rfl⟩, ?_⟩
 show K1 [(0, pT d), (3, .err 60 ((stepF s).2)), (9, .bool (!(((stepF s).2) == 0)))] _
 refine hK1 _ _ ?_; clear hK1 K1
 refine cD rfl rfl (fun h1 => ?_) (fun h1 => ?_)
 ·
  replace h1 : (stepF s).2 ≠ 0 := (ne_of_beq_false (bnT h1))
  refine rS [] [2] (by decide) ?_
  intro K1 hK1
  refine ⟨tv, tv, ?_⟩
  show K1 [(2, .err 60 ((stepF s).2))] (mW m [(d, dObj kb nb ((stepF s).1)), (kb, mObj s.kept)])
  refine hK1 _ _ ?_; clear hK1 K1
  refine awp_ret ?_
  refine ⟨tv, (mW m [(d, dObj kb nb ((stepF s).1)), (kb, mObj s.kept)]), fun _ _ h => h, ?_⟩
  show K (.err 60 ((stepF s).2)) _
 
  have e0 : syncF s = (((⟨s.kept, ((stepF s).1).now, ((stepF s).1).wait, ((stepF s).1).fuse, (((stepF s).1).down), ((stepF s).1).steps⟩ : DSt), (stepF s).2) : DSt × Int) := by
   first | (rw [syncF, if_pos h1, ← hk.1]; done) | (have e := hI.2.2; rw [take_full h2, hk3] at e; rw [syncF, if_neg (by omega), ← e, ← hk.2.1]; done)
  rw [e0] at hK
  exact hK
 replace h1 : (stepF s).2 = 0 := (eq_of_beq (bnF h1))
 refine awp_skip ?_
 refine hK2 _ _ ?_; clear hK2
 refine sK ?_; intro K3 hK3
 refine rS [] [0, 14, 15, 16] (by decide) ?_
 intro K1 hK1
 refine ⟨tv, tv, ⟨rfl, by decide⟩, ?_⟩
 refine aL rfl (v := sF ((((stepF s).1).wait).map chgAV)) rfl (wG 0 hN rfl) rfl (aO rfl rfl (nB rfl)) rfl ?_
 refine ar_len rfl chgAV (((stepF s).1).wait) rfl rfl rfl ?_
 refine ⟨tv, ?_⟩
 show K1 [(0, pT d), (14, sF ((((stepF s).1).wait).map chgAV)), (15, iT ((((stepF s).1).wait).length : Int)), (16, iT 0)] (mW m [(d, dObj kb nb ((stepF s).1)), (kb, mObj s.kept)])
 refine hK1 _ _ ?_; clear hK1 K1
 refine awp_block ?_
 refine awp_keep [0, 14, 15, 16] (by decide) ?_
 refine awp_loop_st (σ := Int × (List (Str × Str))) (fun ⟨i, kp⟩ => [(0, pT d), (14, sF ((((stepF s).1).wait).map chgAV)), (15, iT ((((stepF s).1).wait).length : Int)), (16, iT i)]) (fun ⟨i, kp⟩ => (mW m [(d, dObj kb nb ((stepF s).1)), (kb, mObj kp)])) (fun ⟨i, kp⟩ => 0 ≤ i ∧ i ≤ (stepF s).1.wait.length ∧ kp = applyL s.kept ((stepF s).1.wait.take i.toNat)) (fun ⟨i, kp⟩ => (stepF s).1.wait.length - i.toNat) (0, s.kept) rfl rfl ?_ ?_
 ·
  show 0 ≤ ((0 : Int)) ∧ ((0 : Int)) ≤ (stepF s).1.wait.length ∧ ((s.kept : (List (Str × Str)))) = applyL s.kept ((stepF s).1.wait.take ((0 : Int)).toNat)
  exact ⟨by omega, by omega, rfl⟩
 rintro ⟨i, kp⟩ hI
 replace hI : 0 ≤ i ∧ i ≤ (stepF s).1.wait.length ∧ kp = applyL s.kept ((stepF s).1.wait.take i.toNat) := hI
 show AWP _ _ _ _ [(0, pT d), (14, sF ((((stepF s).1).wait).map chgAV)), (15, iT ((((stepF s).1).wait).length : Int)), (16, iT i)] (mW m [(d, dObj kb nb ((stepF s).1)), (kb, mObj kp)])
 refine rS [] [0, 14, 15, 16, 17] (by decide) ?_
 intro K1 hK1
 refine ⟨tv, ?_⟩
 show K1 [(0, pT d), (14, sF ((((stepF s).1).wait).map chgAV)), (15, iT ((((stepF s).1).wait).length : Int)), (16, iT i), (17, .bool (decide (i < ((((stepF s).1).wait).length : Int))))] _
 refine hK1 _ _ ?_; clear hK1 K1
 refine sK ?_; intro K4 hK4
 refine cD rfl rfl (fun h2 => ?_) (fun h2 => ?_)
 ·
  replace h2 : i < ((((stepF s).1).wait).length : Int) := (of_decide_eq_true h2)
  have hcd := hD.cd (gI (stepF s).1.wait i) (by rw [hk3]; exact gI_mem hI.1 (by rw [← hk3]; exact h2))
  have hap := applyL_bnd (cs := (stepF s).1.wait.take i.toNat) (fun c hc => hD.cd c (by rw [← hk3]; exact List.mem_of_mem_take hc)) (l := s.kept) (B := 400000000) (fun p hp => by have := hD.kb p hp; omega)
  rw [← hI.2.2, List.length_take] at hap
  refine awp_skip ?_
  refine hK4 _ _ ?_; clear hK4
  refine sK ?_; intro K5 hK5
  refine awp_block ?_
  refine rS [] [0, 5, 14, 15, 16] (by decide) ?_
  intro K1 hK1
  refine ar_index rfl chgAV (((stepF s).1).wait) i rfl rfl rfl rfl rfl (by decide) (fun _ => rfl) (by omega) (by omega) ?_
  refine ⟨(apartOk_agg rfl rfl (nB rfl)), ?_⟩
  refine ar_alloc rfl (z := .agg [.str ([]), .str ([]), .str ([]), iT 0]) rfl rfl ?_
  intro b1 hb1
  have hFb1 : m b1 = none := wth_none hb1
  have hNb1 : ([b1, d, kb] : List Nat).Nodup := wth_nodup hb1 hN
  refine aS rfl 0 (v := chgAV (gI (((stepF s).1).wait) i)) (l' := [.str ((gI (((stepF s).1).wait) i).name), .str ((gI (((stepF s).1).wait) i).data), .str ((gI (((stepF s).1).wait) i).to), iT ((gI (((stepF s).1).wait) i).kind)]) rfl (by rfl) hNb1 rfl rfl rfl rfl rfl (nB rfl) rfl ?_
  show K1 [(0, pT d), (5, pT b1), (14, sF ((((stepF s).1).wait).map chgAV)), (15, iT ((((stepF s).1).wait).length : Int)), (16, iT i)] (mW m [(b1, .cells [.str ((gI (((stepF s).1).wait) i).name), .str ((gI (((stepF s).1).wait) i).data), .str ((gI (((stepF s).1).wait) i).to), iT ((gI (((stepF s).1).wait) i).kind)]), (d, dObj kb nb ((stepF s).1)), (kb, mObj kp)])
  refine hK1 _ _ ?_; clear hK1 K1
  refine awp_draw_memP Tryd.mixed [(5, 25)] [(5, 25, .tuple [])] [(mW m [(b1, .cells [.str ((gI (((stepF s).1).wait) i).name), .str ((gI (((stepF s).1).wait) i).data), .str ((gI (((stepF s).1).wait) i).to), iT ((gI (((stepF s).1).wait) i).kind)]), (d, dObj kb nb ((stepF s).1)), (kb, mObj kp)]), (mW m [(b1, .cells [.str ((gI (((stepF s).1).wait) i).name), .str ((gI (((stepF s).1).wait) i).data), .str ((gI (((stepF s).1).wait) i).to), iT ((gI (((stepF s).1).wait) i).kind)]), (d, dObj kb nb ((stepF s).1)), (kb, mObj (applyC kp (gI (((stepF s).1).wait) i)))])] [] [0, 14, 15, 16] [(24, .agg [.str ((gI (((stepF s).1).wait) i).name), .str ((gI (((stepF s).1).wait) i).data), .str ((gI (((stepF s).1).wait) i).to), iT ((gI (((stepF s).1).wait) i).kind)]), (23, .map kb), (22, pT d), (21, pT d), (20, pT d), (25, .tuple []), (0, pT d), (5, pT b1), (14, sF ((((stepF s).1).wait).map chgAV)), (15, iT ((((stepF s).1).wait).length : Int)), (16, iT i)] (mW m [(b1, .cells [.str ((gI (((stepF s).1).wait) i).name), .str ((gI (((stepF s).1).wait) i).data), .str ((gI (((stepF s).1).wait) i).to), iT ((gI (((stepF s).1).wait) i).kind)]), (d, dObj kb nb ((stepF s).1)), (kb, mObj (applyC kp (gI (((stepF s).1).wait) i)))]) (by decide) (by decide) (by decide) rfl rfl rfl rfl ?_ ?_ ?_
  ·
   refine ⟨?_, tv⟩
   ·
    exact mem_call (wS (m := m) (L := [(b1, .cells [.str ((gI (((stepF s).1).wait) i).name), .str ((gI (((stepF s).1).wait) i).data), .str ((gI (((stepF s).1).wait) i).to), iT ((gI (((stepF s).1).wait) i).kind)]), (d, dObj kb nb ((stepF s).1)), (kb, mObj kp)]) hNb1 (pick_perm [2] _)) (wS (m := m) (L := [(b1, .cells [.str ((gI (((stepF s).1).wait) i).name), .str ((gI (((stepF s).1).wait) i).data), .str ((gI (((stepF s).1).wait) i).to), iT ((gI (((stepF s).1).wait) i).kind)]), (d, dObj kb nb ((stepF s).1)), (kb, mObj (applyC kp (gI (((stepF s).1).wait) i)))]) hNb1 (pick_perm [2] _)) (fun Kc hKc => u_apply kb kp (gI (((stepF s).1).wait) i) (by have := hap.1; omega) (fun p hp => by have := hap.2 p hp; omega) (by first | omega | (dsimp only; omega)) _ Kc hKc)
  ·
   refine ⟨?_, ?_, tv⟩
   ·
    show pseq _ _ _ _ _ [(25, .tuple []), (0, pT d), (5, pT b1), (14, sF ((((stepF s).1).wait).map chgAV)), (15, iT ((((stepF s).1).wait).length : Int)), (16, iT i)] _
    refine ⟨tv, tv, ⟨rfl, by decide⟩, ?_⟩
    refine pq_loadp rfl (v := .map kb) rfl (wG 1 hNb1 rfl) (aO rfl rfl (nB rfl)) rfl ?_
    refine pq_loadp rfl (v := .agg [.str ((gI (((stepF s).1).wait) i).name), .str ((gI (((stepF s).1).wait) i).data), .str ((gI (((stepF s).1).wait) i).to), iT ((gI (((stepF s).1).wait) i).kind)]) rfl (wG 0 hNb1 rfl) (apartOk_agg rfl rfl (nB rfl)) rfl ?_
    exact rfl
   ·
    show pseq _ _ _ _ _ [(25, .tuple []), (0, pT d), (5, pT b1), (14, sF ((((stepF s).1).wait).map chgAV)), (15, iT ((((stepF s).1).wait).length : Int)), (16, iT i)] _
    refine ⟨tv, tv, ⟨rfl, by decide⟩, ?_⟩
    refine pq_loadp rfl (v := .map kb) rfl (wG 1 hNb1 rfl) (aO rfl rfl (nB rfl)) rfl ?_
    refine pq_loadp rfl (v := .agg [.str ((gI (((stepF s).1).wait) i).name), .str ((gI (((stepF s).1).wait) i).data), .str ((gI (((stepF s).1).wait) i).to), iT ((gI (((stepF s).1).wait) i).kind)]) rfl (wG 0 hNb1 rfl) (apartOk_agg rfl rfl (nB rfl)) rfl ?_
    exact rfl
  intro K1 hK1
  show K1 [(0, pT d), (14, sF ((((stepF s).1).wait).map chgAV)), (15, iT ((((stepF s).1).wait).length : Int)), (16, iT i)] (mW m [(b1, .cells [.str ((gI (((stepF s).1).wait) i).name), .str ((gI (((stepF s).1).wait) i).data), .str ((gI (((stepF s).1).wait) i).to), iT ((gI (((stepF s).1).wait) i).kind)]), (d, dObj kb nb ((stepF s).1)), (kb, mObj (applyC kp (gI (((stepF s).1).wait) i)))])
  refine hK1 _ _ ?_; clear hK1 K1
  refine hK5 _ _ ?_; clear hK5
  have hNd1 : ([d, kb] : List Nat).Nodup := drop_nodup (L := [(b1, .cells [.str ((gI (((stepF s).1).wait) i).name), .str ((gI (((stepF s).1).wait) i).data), .str ((gI (((stepF s).1).wait) i).to), iT ((gI (((stepF s).1).wait) i).kind)]), (d, dObj kb nb ((stepF s).1)), (kb, mObj (applyC kp (gI (((stepF s).1).wait) i)))]) hNb1 (pick_perm [0] _)
  refine awp_dropP [(b1, .cells [.str ((gI (((stepF s).1).wait) i).name), .str ((gI (((stepF s).1).wait) i).data), .str ((gI (((stepF s).1).wait) i).to), iT ((gI (((stepF s).1).wait) i).kind)])] [(d, dObj kb nb ((stepF s).1)), (kb, mObj (applyC kp (gI (((stepF s).1).wait) i)))] hNb1 (pick_perm [0] _) (by simp only [List.map_cons, List.map_nil, List.forall_mem_cons]; exact ⟨hFb1, nfA⟩) ?_
  refine awp_reg2 [] [0, 14, 15, 16] (by decide) ?_
  intro K1 hK1
  refine ar_add rfl (a := i) (b := 1) rfl rfl (by omega) (by omega) ?_
  refine ⟨tv, ?_⟩
  show K1 [(0, pT d), (14, sF ((((stepF s).1).wait).map chgAV)), (15, iT ((((stepF s).1).wait).length : Int)), (16, iT (i + 1))] (mW m [(d, dObj kb nb ((stepF s).1)), (kb, mObj (applyC kp (gI (((stepF s).1).wait) i)))])
  refine hK1 _ _ ?_; clear hK1 K1
  refine ⟨(i + 1, applyC kp (gI (((stepF s).1).wait) i)), rfl, rfl, ?_, ?_⟩
  ·
   show 0 ≤ ((i + 1 : Int)) ∧ ((i + 1 : Int)) ≤ (stepF s).1.wait.length ∧ ((applyC kp (gI (((stepF s).1).wait) i) : (List (Str × Str)))) = applyL s.kept ((stepF s).1.wait.take ((i + 1 : Int)).toNat)
   exact ⟨by omega, by omega, by rw [hI.2.2]; exact applyL_step hI.1 h2⟩
  ·
   show (stepF s).1.wait.length - ((i + 1 : Int)).toNat < (stepF s).1.wait.length - i.toNat
   omega
 replace h2 : ((((stepF s).1).wait).length : Int) ≤ i := (Int.not_lt.1 (of_decide_eq_false h2))
 refine awp_exit ?_
 refine hK3 _ _ ?_; clear hK3
 refine rS [] [] (by decide) ?_
 intro K1 hK1
 refine ⟨tv, tv, ⟨rfl, by decide⟩, ?_⟩
 refine aS rfl 0 (v := .slice true []) (l' := [.map kb, .map nb, .slice true [], iT (((stepF s).1).fuse), .bool (((stepF s).1).down), iT (((stepF s).1).steps)]) rfl rfl hN rfl rfl rfl rfl rfl (nB rfl) rfl ?_
 show K1 [] (mW m [(d, .cells [.map kb, .map nb, .slice true [], iT (((stepF s).1).fuse), .bool (((stepF s).1).down), iT (((stepF s).1).steps)]), (kb, mObj kp)])
 refine hK1 _ _ ?_; clear hK1 K1
 refine rS [] [2] (by decide) ?_
 intro K1 hK1
 refine ⟨tv, ?_⟩
 show K1 [(2, .nilIface)] _
 refine hK1 _ _ ?_; clear hK1 K1
 refine awp_toErr 60 [2] ?_
 show AWP _ _ _ _ [(2, .err 60 0)] _
 refine awp_ret ?_
 refine ⟨tv, (mW m [(d, .cells [.map kb, .map nb, .slice true [], iT (((stepF s).1).fuse), .bool (((stepF s).1).down), iT (((stepF s).1).steps)]), (kb, mObj kp)]), fun _ _ h => h, ?_⟩
 show K (.err 60 0) _
 have e0 : syncF s = (((⟨kp, s.now, [], ((stepF s).1).fuse, (((stepF s).1).down), ((stepF s).1).steps⟩ : DSt), 0) : DSt × Int) := by
  first | (rw [syncF, if_pos h1, ← hk.1]; done) | (have e := hI.2.2; rw [take_full h2, hk3] at e; rw [syncF, if_neg (by omega), ← e, ← hk.2.1]; done)
 rw [e0] at hK
 exact hK
theorem u_New   (m : AMem)  (K : AV → AMem → Prop) (hK : ∀ d nb kb, ([d, nb, kb] : List Nat).Nodup → m d = none → m nb = none → m kb = none → K (pT d) (mW m [(d, dObj kb nb ⟨[], [], [], -1, false, 0⟩), (nb, mObj []), (kb, mObj [])])) : ACalls Tryd.prog 7 [] m K := by
 refine acalls_enter Tryd.func7 rfl (by decide) (nB rfl) ?_
 show AWP _ _ _ _ [] m
 refine rS [] [] (by decide) ?_
 intro K1 hK1
 refine ⟨tv, ?_⟩
 show K1 [] m
 refine hK1 _ _ ?_; clear hK1 K1
 refine rS [] [0] (by decide) ?_
 intro K1 hK1
 refine ar_makeMap rfl (m := m) (L := []) rfl ?_
 intro b1 hb1
 have hFb1 : m b1 = none := wth_none (m := m) (L := []) hb1
 have hNb1 : ([b1] : List Nat).Nodup := wth_nodup (m := m) (L := []) hb1 List.nodup_nil
 refine ar_makeMap rfl (m := m) (L := [(b1, mObj ([] : List ((List UInt8) × (List UInt8))))]) rfl ?_
 intro b2 hb2
 have hFb2 : m b2 = none := wth_none hb2
 have hNb2 : ([b2, b1] : List Nat).Nodup := wth_nodup hb2 hNb1
 refine ⟨⟨rfl, by simp only [List.forall_mem_cons]; exact ⟨rfl, rfl, rfl, rfl, rfl, rfl, nfA⟩, by simp only [List.forall_mem_cons]; exact ⟨rfl, rfl, rfl, nfA⟩⟩, ?_⟩
 refine ar_box rfl (m := m) (L := [(b2, mObj ([] : List ((List UInt8) × (List UInt8)))), (b1, mObj ([] : List ((List UInt8) × (List UInt8))))]) (v := .agg [.map b1, .map b2, .slice true [], iT (-1), .bool false, iT 0]) rfl rfl ?_
 intro b3 hb3
 have hFb3 : m b3 = none := wth_none hb3
 have hNb3 : ([b3, b2, b1] : List Nat).Nodup := wth_nodup hb3 hNb2
 refine ⟨tv, ?_⟩
 show K1 [(0, pT b3)] (mW m [(b3, .cells [.map b1, .map b2, .slice true [], iT (-1), .bool false, iT 0]), (b2, mObj ([] : List ((List UInt8) × (List UInt8)))), (b1, mObj ([] : List ((List UInt8) × (List UInt8))))])
 refine hK1 _ _ ?_; clear hK1 K1
 refine awp_ret ?_
 refine ⟨tv, (mW m [(b3, .cells [.map b1, .map b2, .slice true [], iT (-1), .bool false, iT 0]), (b2, mObj ([] : List ((List UInt8) × (List UInt8)))), (b1, mObj ([] : List ((List UInt8) × (List UInt8))))]), fun _ _ h => h, ?_⟩
 show K (pT b3) _
 exact hK b3 b2 b1 hNb3 hFb3 hFb2 hFb1
end Go.Proofs
end
section
namespace Go.Proofs
open Go Go.Aw
set_option maxRecDepth 100000
def rebuild (l : List (Str × Str)) (seen : List Nat) : List (Str × Str) := seen.foldl (fun n i => match l[i]? with | some p => mput n p.1 p.2 | none => n) []
theorem rebuild_snoc {l : List (Str × Str)} {seen : List Nat} {k : Nat} {a b : Str} (h : l[k]? = some (a, b)) : rebuild l (seen ++ [k]) = mput (rebuild l seen) a b := by
  unfold rebuild; rw [List.foldl_append]; simp [h]
theorem mput_keys {l : List (Str × Str)} {k v : Str} : (mput l k v).map Prod.fst = if k ∈ l.map Prod.fst then l.map Prod.fst else l.map Prod.fst ++ [k] := by
  induction l with
  | nil => rfl
  | cons p r ih =>
    obtain ⟨a, b⟩ := p
    simp only [mput]
    split
    · rename_i h; subst h; simp
    · rename_i h
      simp only [List.map_cons, ih, List.mem_cons]
      by_cases hm : k ∈ r.map Prod.fst
      · rw [if_pos hm, if_pos (.inr hm)]
      · rw [if_neg hm, if_neg (by rintro (e | e); exact h e.symm; exact hm e)]; rfl
theorem mdel_sub (l : List (Str × Str)) (k : Str) : (mdel l k).Sublist l := by
  induction l with
  | nil => exact List.Sublist.refl _
  | cons p r ih =>
    obtain ⟨a, b⟩ := p
    simp only [mdel]
    split
    · exact List.sublist_cons_self _ _
    · exact ih.cons_cons _
theorem mput_nd {l : List (Str × Str)} {k v : Str} (h : (l.map Prod.fst).Nodup) : ((mput l k v).map Prod.fst).Nodup := by
  rw [mput_keys]
  split
  · exact h
  · rename_i hm
    exact List.nodup_append.2 ⟨h, by simp, fun a ha b hb e => by simp at hb; subst hb; subst e; exact hm ha⟩
theorem mdel_nd {l : List (Str × Str)} {k : Str} (h : (l.map Prod.fst).Nodup) : ((mdel l k).map Prod.fst).Nodup := h.sublist ((mdel_sub l k).map _)
theorem nat_pigeon : ∀ (n : Nat) (l : List Nat), l.Nodup → (∀ i ∈ l, i < n) → l.length ≤ n
  | 0, [], _, _ => Nat.le_refl _
  | 0, a :: l, _, h => absurd (h a (by simp)) (by omega)
  | n + 1, l, hn, h => by
    have := nat_pigeon n (l.erase n) (hn.erase n) (fun i hi => by
      have h1 := (hn.mem_erase_iff).1 hi
      have := h i h1.2
      omega)
    by_cases hm : n ∈ l
    · have := List.length_erase_of_mem hm; omega
    · rw [List.erase_of_not_mem hm] at this; omega
theorem mget_none {l : List (Str × Str)} {k : Str} : mget l k = none ↔ k ∉ l.map Prod.fst := by
  induction l with
  | nil => simp [mget]
  | cons p r ih =>
    obtain ⟨a, b⟩ := p
    simp only [mget, List.map_cons, List.mem_cons]
    split
    · rename_i h; simp [h]
    · rename_i h; rw [ih]; simp [Ne.symm h]
theorem seen_len {l : List (Str × Str)} {seen : List Nat} (hn : seen.Nodup) (hb : ∀ i ∈ seen, i < l.length) : seen.length ≤ l.length := by
  exact nat_pigeon _ _ hn hb
theorem rstep {l nw : List (Str × Str)} {seen : List Nat} {k : Nat} {a b : Str} (h1 : seen.Nodup) (h2 : ∀ i ∈ seen, i < l.length) (h3 : nw = rebuild l seen) (hp : l[k]? = some (a, b)) (hn : ¬ k ∈ seen) : (seen ++ [k]).Nodup ∧ (∀ i ∈ seen ++ [k], i < l.length) ∧ mput nw a b = rebuild l (seen ++ [k]) := by
  have hk := (List.getElem?_eq_some_iff.1 hp).1
  refine ⟨List.nodup_append.2 ⟨h1, by simp, fun i hi j hj e => by simp at hj; subst hj; subst e; exact hn hi⟩, fun i hi => ?_, by rw [rebuild_snoc hp, h3]⟩
  rcases List.mem_append.1 hi with h | h
  · exact h2 i h
  · simp at h; omega
end Go.Proofs
end
section
namespace Go.Proofs
open Go Go.Aw
set_option maxRecDepth 100000
theorem sortL_of_perm {l l' : List Str} (h : l.Perm l') : sortL l = sortL l' := by
  have to : ∀ a b : Str, (decide (a ≤ b) || decide (b ≤ a)) = true := fun a b => by
    rcases List.le_total a b with h | h <;> simp [h]
  have tr : ∀ a b c : Str, decide (a ≤ b) = true → decide (b ≤ c) = true → decide (a ≤ c) = true := fun a b c h1 h2 => by
    simp only [decide_eq_true_eq] at *; exact List.le_trans h1 h2
  refine List.Perm.eq_of_pairwise (le := fun a b => decide (a ≤ b) = true) (fun a b _ _ h1 h2 => ?_) (List.pairwise_mergeSort tr to l) (List.pairwise_mergeSort tr to l') (((List.mergeSort_perm l _).trans h).trans (List.mergeSort_perm l' _).symm)
  simp only [decide_eq_true_eq] at h1 h2
  exact List.le_antisymm h1 h2
def keysAt (l : List (Str × Str)) (seen : List Nat) : List Str := seen.map fun i => (l.getD i ([], [])).1
theorem keysAt_perm {l : List (Str × Str)} {seen : List Nat} (hn : seen.Nodup) (hb : ∀ i ∈ seen, i < l.length) (ha : ∀ i, i < l.length → i ∈ seen) : (keysAt l seen).Perm (l.map Prod.fst) := by
  have hp : seen.Perm (List.range l.length) := (List.perm_ext_iff_of_nodup hn List.nodup_range).2 fun i => ⟨fun h => List.mem_range.2 (hb i h), fun h => ha i (List.mem_range.1 h)⟩
  refine (hp.map _).trans ?_
  have e : (List.range l.length).map (fun i => (l.getD i ([], [])).1) = l.map Prod.fst := by
    refine List.ext_getElem (by simp) fun i h1 h2 => ?_
    simp only [List.length_map] at h2
    simp [h2]
  show ((List.range l.length).map (fun i => (l.getD i ([], [])).1)).Perm (l.map Prod.fst)
  rw [e]
theorem keysAt_snoc {l : List (Str × Str)} {seen : List Nat} {k : Nat} {a b : Str} (hp : l[k]? = some (a, b)) : keysAt l (seen ++ [k]) = keysAt l seen ++ [a] := by
  unfold keysAt
  rw [List.map_append]
  simp [List.getD_eq_getElem?_getD, hp]
def listR (s : DSt) : List Str × Int := if s.down = true then ([], 10) else (sortL (s.now.map Prod.fst), 0)
theorem listR_nil {s : DSt} (h : s.down = false) (hE : ∀ k, k < s.now.length → k ∈ ([] : List Nat)) : listR s = ([], 0) := by
  have hz : s.now = [] := by
    rcases hq : s.now with _ | ⟨p, r⟩
    · rfl
    · exact absurd (hE 0 (by rw [hq]; simp)) (by simp)
  unfold listR
  rw [if_neg (by simp [h]), hz]
  simp [sortL]
theorem sort_take {zs : List Str} {k : Nat} (h : k ≤ zs.length) : (sortL (zs.take k) ++ zs.drop k).take k = sortL (zs.take k) := by
  have hl : (sortL (zs.take k)).length = k := by rw [sortL_len, List.length_take]; omega
  rw [List.take_append_of_le_length (by omega), List.take_of_length_le (by omega)]
theorem sort_len {zs : List Str} {k : Nat} (h : k ≤ zs.length) : (sortL (zs.take k) ++ zs.drop k).length = zs.length := by
  rw [List.length_append, sortL_len, List.length_take, List.length_drop]; omega
theorem sstep {l : List (Str × Str)} {seen : List Nat} {k : Nat} {p : Str × Str} (h1 : seen.Nodup) (h2 : ∀ i ∈ seen, i < l.length) (hp : l[k]? = some p) (hn : ¬ k ∈ seen) : (seen ++ [k]).Nodup ∧ (∀ i ∈ seen ++ [k], i < l.length) := by
  have := rstep (nw := rebuild l seen) h1 h2 rfl (a := p.1) (b := p.2) hp hn
  exact ⟨this.1, this.2.1⟩
theorem u_Sort0 (m : AMem) (K : AV → AMem → Prop) (hK : K (.tuple []) m) : ACalls Tryd.prog 27 [.nils] m K := acalls_sort1 ⟨_, Tryd.func27, rfl, rfl⟩ Tryd.slices_Sort_string_none m K hK
theorem u_Sort (b k cap : Nat) (zs : List Str) (hk : k ≤ zs.length) (hkb : k ≤ 140737488355328) (m : AMem) (K : AV → AMem → Prop) (hK : K (.tuple []) (m.wth [(b, .cells ((sortL (zs.take k) ++ zs.drop k).map strAV))])) : ACalls Tryd.prog 27 [.ms ⟨b, 0, none⟩ k cap] (m.wth [(b, .cells (zs.map strAV))]) K :=
  acalls_sort ⟨_, Tryd.func27, rfl, rfl⟩ Tryd.slices_Sort_string b k cap zs hk hkb m K hK
set_option maxHeartbeats 4000000 in
theorem u_List (d kb nb : Nat) (s : DSt) (N : Nat) (hN : [d, nb].Nodup) (hD : DInv N s) (hNN : N ≤ 100000) (m : AMem)  (K : AV → AMem → Prop) (hK : K (.tuple [sF ((listR s).1.map strAV), .err 60 (listR s).2]) (mW m [(d, dObj kb nb s), (nb, mObj s.now)])) : ACalls Tryd.prog 41 [pT d] (mW m [(d, dObj kb nb s), (nb, mObj s.now)]) K := by
 have hnl := hD.nl
 refine acalls_enter Tryd.func41 rfl (by decide) (nB rfl) ?_
 show AWP _ _ _ _ [(0, pT d)] (mW m [(d, dObj kb nb s), (nb, mObj s.now)])
 refine rS [] [0] (by decide) ?_
 intro K1 hK1
 refine ⟨tv, tv, ?_⟩
 show K1 [(0, pT d)] _
 refine hK1 _ _ ?_; clear hK1 K1
 refine sK ?_; intro K2 hK2
 refine rS [] [0, 9] (by decide) ?_
 intro K1 hK1
 refine ⟨tv, tv, ⟨rfl, by decide⟩, ?_⟩
 refine aL rfl (v := .bool s.down) rfl (wG 0 hN rfl) rfl (aO rfl rfl (nB rfl)) rfl ?_
 show K1 [(0, pT d), (9, .bool s.down)] _
 refine hK1 _ _ ?_; clear hK1 K1
 refine cD rfl rfl (fun h1 => ?_) (fun h1 => ?_)
 ·
  replace h1 : s.down = true := h1
  refine rS [] [2, 3] (by decide) ?_
  intro K1 hK1
  refine ⟨tv, tv, tv, ?_⟩
  show K1 [(2, .slice true []), (3, .iface 60 (iT 10))] (mW m [(d, dObj kb nb s), (nb, mObj s.now)])
  refine hK1 _ _ ?_; clear hK1 K1
  refine awp_toErr 60 [3] ?_
  show AWP _ _ _ _ [(2, .slice true []), (3, .err 60 10)] _
  refine awp_strip 2 rfl ?_
  refine awp_keep [2, 3] (by decide) ?_
  show AWP _ _ _ _ [(2, .slice false []), (3, .err 60 10)] _
  refine awp_ret ?_
  refine ⟨tv, tv, (mW m [(d, dObj kb nb s), (nb, mObj s.now)]), fun _ _ h => h, ?_⟩
  show K (.tuple [.slice false [], .err 60 10]) _
 
  have e0 : listR s = (([], 10) : List Str × Int) := by
   first | (rw [listR, if_pos h1]; done) | (exact listR_nil h1 hE1) | (rw [listR, if_neg (by simp [h1]), hs3, sortL_of_perm (keysAt_perm hs1 hs2 hE2)]; done)
  rw [e0] at hK
  exact hK
 replace h1 : s.down = false := h1
 refine awp_skip ?_
 refine hK2 _ _ ?_; clear hK2
 refine rS [] [0, 4] (by decide) ?_
 intro K1 hK1
 refine ⟨tv, ?_⟩
 show K1 [(0, pT d), (4, .slice true [])] (mW m [(d, dObj kb nb s), (nb, mObj s.now)])
 refine hK1 _ _ ?_; clear hK1 K1
 refine sK ?_; intro K3 hK3
 refine rS [] [4, 15] (by decide) ?_
 intro K1 hK1
 refine ⟨tv, tv, ⟨rfl, by decide⟩, ?_⟩
 refine aL rfl (v := .map nb) rfl (wG 0 hN rfl) rfl (aO rfl rfl (nB rfl)) rfl ?_
 refine ar_range rfl (m := m) (L := [(d, dObj kb nb s), (nb, mObj s.now)]) 1 rfl rfl rfl hN ?_
 intro q1 _
 show K1 [(4, .slice true []), (15, pT q1)] (mW m [(d, dObj kb nb s), (nb, AObj.iter q1 (List.map (mapAV strAV strAV) s.now) [])])
 refine hK1 _ _ ?_; clear hK1 K1
 refine awp_block ?_
 refine awp_conv1 4 (.slice true []) .nils rfl nils_of_own ?_
 refine awp_keep [4, 15] (by decide) ?_
 refine awp_loop_st (σ := (Unit) ⊕ (Nat × List Nat × List (List UInt8))) (Sum.elim (fun _ => [(4, .nils), (15, pT q1)]) (fun ⟨b, seen, zs⟩ => [(4, .ms ⟨b, 0, none⟩ seen.length zs.length), (15, pT q1)])) (Sum.elim (fun _ => (mW m [(d, dObj kb nb s), (nb, AObj.iter q1 (List.map (mapAV strAV strAV) s.now) [])])) (fun ⟨b, seen, zs⟩ => (mW m [(b, .cells (zs.map strAV)), (d, dObj kb nb s), (nb, AObj.iter q1 (List.map (mapAV strAV strAV) s.now) seen)]))) (Sum.elim (fun _ => True) (fun ⟨b, seen, zs⟩ => ([b, d, nb] : List Nat).Nodup ∧ m b = none ∧ (seen).Nodup ∧ (∀ i ∈ seen, i < s.now.length) ∧ (zs).take (seen).length = keysAt s.now seen ∧ (seen).length ≤ (zs).length)) (Sum.elim (fun _ => s.now.length + 1) (fun ⟨b, seen, zs⟩ => s.now.length - (seen).length)) (.inl ()) rfl rfl ?_ ?_
 ·
  show True
  trivial
 ·
  rintro (_ | ⟨b, seen, zs⟩) hI
  ·
   replace hI : True := hI
   show AWP _ _ _ _ [(4, .nils), (15, pT q1)] (mW m [(d, dObj kb nb s), (nb, AObj.iter q1 (List.map (mapAV strAV strAV) s.now) [])])
   refine rS [] [4, 15, 17] (by decide) ?_
   intro K1 hK1
   refine ar_nextT rfl (m := m) (L := [(d, dObj kb nb s), (nb, AObj.iter q1 (List.map (mapAV strAV strAV) s.now) [])]) 1 strAV strAV s.now [] rfl rfl hN ?_ ?_
   ·
    intro hE1
    refine ⟨(nB rfl), ?_⟩
    show K1 [(4, .nils), (15, pT q1), (17, .bool false)] (mW m [(d, dObj kb nb s), (nb, AObj.iter q1 (List.map (mapAV strAV strAV) s.now) [])])
    refine hK1 _ _ ?_; clear hK1 K1
    refine awp_unrange (m := m) (L := [(d, dObj kb nb s), (nb, AObj.iter q1 (List.map (mapAV strAV strAV) s.now) [])]) 1 hN rfl ?_
    show AWP _ _ _ _ [(4, .nils), (15, pT q1), (17, .bool false)] (mW m [(d, dObj kb nb s), (nb, mObj s.now)])
    refine sK ?_; intro K4 hK4
    refine cD rfl rfl (fun hcz => ?_) (fun hcz => ?_)
    ·
     cases hcz
    clear hcz
    refine awp_exit ?_
    refine hK3 _ _ ?_; clear hK3
    refine rS [] [4] (by decide) ?_
    intro K1 hK1
    refine ⟨tv, ?_⟩
    refine u_Sort0 _ _ ?_
    show K1 [(4, .nils)] (mW m [(d, dObj kb nb s), (nb, mObj s.now)])
    refine hK1 _ _ ?_; clear hK1 K1
    refine awp_conv1 4 .nils (.slice false []) rfl own_of_nils ?_
    show AWP _ _ _ _ [(4, .slice false [])] _
    refine rS [] [2, 3] (by decide) ?_
    intro K1 hK1
    refine ⟨tv, tv, tv, ?_⟩
    show K1 [(2, .slice false []), (3, .nilIface)] _
    refine hK1 _ _ ?_; clear hK1 K1
    refine awp_toErr 60 [3] ?_
    show AWP _ _ _ _ [(2, .slice false []), (3, .err 60 0)] _
    refine awp_ret ?_
    refine ⟨tv, tv, (mW m [(d, dObj kb nb s), (nb, mObj s.now)]), fun _ _ h => h, ?_⟩
    show K (.tuple [.slice false [], .err 60 0]) _
   
    have e0 : listR s = (([], 0) : List Str × Int) := by
     first | (rw [listR, if_pos h1]; done) | (exact listR_nil h1 hE1) | (rw [listR, if_neg (by simp [h1]), hs3, sortL_of_perm (keysAt_perm hs1 hs2 hE2)]; done)
    rw [e0] at hK
    exact hK
   ·
    rintro k1 ⟨ek1, ev1⟩ hp1 hn1
    refine ⟨(nB rfl), ?_⟩
    show K1 [(4, .nils), (15, pT q1), (17, .bool true)] (mW m [(d, dObj kb nb s), (nb, AObj.iter q1 (List.map (mapAV strAV strAV) s.now) ([] ++ [k1]))])
    refine hK1 _ _ ?_; clear hK1 K1
    refine sK ?_; intro K5 hK5
    refine cD rfl rfl (fun hcz => ?_) (fun hcz => ?_)
    rotate_left; · cases hcz
    clear hcz
    refine awp_skip ?_
    refine hK5 _ _ ?_; clear hK5
    refine awp_block ?_
    refine rS [] [4, 5, 15] (by decide) ?_
    intro K1 hK1
    refine ar_entryT rfl (m := m) (L := [(d, dObj kb nb s), (nb, AObj.iter q1 (List.map (mapAV strAV strAV) s.now) ([] ++ [k1]))]) 1 strAV strAV s.now [] hp1 rfl rfl hN ?_
    refine ⟨(nB rfl), tv, ?_⟩
    show K1 [(4, .nils), (5, .str ek1), (15, pT q1)] _
    refine hK1 _ _ ?_; clear hK1 K1
    refine awp_reg2 [20] [4, 15] (by decide) ?_
    intro K1 hK1
    refine ⟨tv, tv, ⟨rfl, nB rfl, rfl, nB rfl, rfl, by simp only [List.forall_mem_cons]; exact ⟨⟨rfl, rfl⟩, nfA⟩⟩, ?_⟩
    refine ar_append0Ms rfl strAV ([ek1] : List (List UInt8)) [] rfl rfl rfl rfl rfl rfl rfl hN (fun _ => rfl) (fun _ => rfl) rfl (by simp) (by (simp only [show Tryd.prog.bytesOf 9 = 16 from rfl, List.length_cons, List.length_nil]; omega)) (by simp) ?_
    intro b1 zs1 hFb1 hNb1 htb1 hlb1
    replace hNb1 : ([b1, d, nb] : List Nat).Nodup := hNb1
    refine ⟨tv, ?_⟩
    show K1 [(4, .ms ⟨b1, 0, none⟩ (([ek1] : List (List UInt8)).length) zs1.length), (15, pT q1)] (mW m [(b1, .cells (zs1.map strAV)), (d, dObj kb nb s), (nb, AObj.iter q1 (List.map (mapAV strAV strAV) s.now) ([] ++ [k1]))])
    refine hK1 _ _ ?_; clear hK1 K1
    refine ⟨.inr (b1, [k1], zs1), rfl, rfl, ?_, ?_⟩
    ·
     show ([b1, d, nb] : List Nat).Nodup ∧ m b1 = none ∧ ([k1]).Nodup ∧ (∀ i ∈ ([k1]), i < s.now.length) ∧ (zs1).take ([k1]).length = keysAt s.now ([k1]) ∧ ([k1]).length ≤ (zs1).length
     exact ⟨hNb1, hFb1, by simp, fun i hi => by simp at hi; subst hi; exact (List.getElem?_eq_some_iff.1 hp1).1, by rw [show ([k1] : List Nat) = [] ++ [k1] from rfl, keysAt_snoc hp1]; exact htb1, hlb1⟩
    ·
     show s.now.length - ([k1]).length < s.now.length + 1
     simp; omega
  ·
   replace hI : ([b, d, nb] : List Nat).Nodup ∧ m b = none ∧ (seen).Nodup ∧ (∀ i ∈ seen, i < s.now.length) ∧ (zs).take (seen).length = keysAt s.now seen ∧ (seen).length ≤ (zs).length := hI
   obtain ⟨hNb, hFb, hs1, hs2, hs3, hs4⟩ := hI
   have hsl := seen_len hs1 hs2
   show AWP _ _ _ _ [(4, .ms ⟨b, 0, none⟩ seen.length zs.length), (15, pT q1)] (mW m [(b, .cells (zs.map strAV)), (d, dObj kb nb s), (nb, AObj.iter q1 (List.map (mapAV strAV strAV) s.now) seen)])
   refine rS [] [4, 15, 17] (by decide) ?_
   intro K1 hK1
   refine ar_nextT rfl (m := m) (L := [(b, .cells (zs.map strAV)), (d, dObj kb nb s), (nb, AObj.iter q1 (List.map (mapAV strAV strAV) s.now) seen)]) 2 strAV strAV s.now seen rfl rfl hNb ?_ ?_
   ·
    intro hE2
    refine ⟨(nB rfl), ?_⟩
    show K1 [(4, .ms ⟨b, 0, none⟩ seen.length zs.length), (15, pT q1), (17, .bool false)] (mW m [(b, .cells (zs.map strAV)), (d, dObj kb nb s), (nb, AObj.iter q1 (List.map (mapAV strAV strAV) s.now) seen)])
    refine hK1 _ _ ?_; clear hK1 K1
    refine awp_unrange (m := m) (L := [(b, .cells (zs.map strAV)), (d, dObj kb nb s), (nb, AObj.iter q1 (List.map (mapAV strAV strAV) s.now) seen)]) 2 hNb rfl ?_
    show AWP _ _ _ _ [(4, .ms ⟨b, 0, none⟩ seen.length zs.length), (15, pT q1), (17, .bool false)] (mW m [(b, .cells (zs.map strAV)), (d, dObj kb nb s), (nb, mObj s.now)])
    refine sK ?_; intro K6 hK6
    refine cD rfl rfl (fun hcz => ?_) (fun hcz => ?_)
    ·
     cases hcz
    clear hcz
    refine awp_exit ?_
    refine hK3 _ _ ?_; clear hK3
    refine rS [] [4] (by decide) ?_
    intro K1 hK1
    refine ⟨tv, ?_⟩
    refine ar_mem (wS hNb (pick_perm [0] _)) ?_
    refine u_Sort b seen.length zs.length zs hs4 (by have := hD.nl; omega) _ _ ?_
    refine ar_mem (wS (m := m) (L := [(b, .cells ((sortL (zs.take seen.length) ++ zs.drop seen.length).map strAV)), (d, dObj kb nb s), (nb, mObj s.now)]) hNb (pick_perm [0] _)).symm ?_
    show K1 [(4, .ms ⟨b, 0, none⟩ seen.length zs.length)] (mW m [(b, .cells ((sortL (zs.take seen.length) ++ zs.drop seen.length).map strAV)), (d, dObj kb nb s), (nb, mObj s.now)])
    refine hK1 _ _ ?_; clear hK1 K1
    refine awp_freeze 4 0 (sortL (zs.take seen.length) ++ zs.drop seen.length) rfl rfl hNb hFb (by rw [sort_len hs4]; exact hs4) (by have := hD.nl; omega) ?_
    rw [sort_take hs4]
    have hNd1 : ([d, nb] : List Nat).Nodup := drop_nodup (L := [(b, .cells ((sortL (zs.take seen.length) ++ zs.drop seen.length).map strAV)), (d, dObj kb nb s), (nb, mObj s.now)]) hNb (pick_perm [0] _)
    show AWP _ _ _ _ [(4, sF ((sortL (zs.take seen.length)).map strAV))] (mW m [(d, dObj kb nb s), (nb, mObj s.now)])
    refine rS [] [2, 3] (by decide) ?_
    intro K1 hK1
    refine ⟨tv, tv, tv, ?_⟩
    show K1 [(2, sF ((sortL (zs.take seen.length)).map strAV)), (3, .nilIface)] _
    refine hK1 _ _ ?_; clear hK1 K1
    refine awp_toErr 60 [3] ?_
    show AWP _ _ _ _ [(2, sF ((sortL (zs.take seen.length)).map strAV)), (3, .err 60 0)] _
    refine awp_ret ?_
    refine ⟨tv, tv, (mW m [(d, dObj kb nb s), (nb, mObj s.now)]), fun _ _ h => h, ?_⟩
    show K (.tuple [sF ((sortL (zs.take seen.length)).map strAV), .err 60 0]) _
   
    have e0 : listR s = ((sortL (zs.take seen.length), 0) : List Str × Int) := by
     first | (rw [listR, if_pos h1]; done) | (exact listR_nil h1 hE1) | (rw [listR, if_neg (by simp [h1]), hs3, sortL_of_perm (keysAt_perm hs1 hs2 hE2)]; done)
    rw [e0] at hK
    exact hK
   ·
    rintro k2 ⟨ek2, ev2⟩ hp2 hn2
    refine ⟨(nB rfl), ?_⟩
    show K1 [(4, .ms ⟨b, 0, none⟩ seen.length zs.length), (15, pT q1), (17, .bool true)] (mW m [(b, .cells (zs.map strAV)), (d, dObj kb nb s), (nb, AObj.iter q1 (List.map (mapAV strAV strAV) s.now) (seen ++ [k2]))])
    refine hK1 _ _ ?_; clear hK1 K1
    refine sK ?_; intro K7 hK7
    refine cD rfl rfl (fun hcz => ?_) (fun hcz => ?_)
    rotate_left; · cases hcz
    clear hcz
    refine awp_skip ?_
    refine hK7 _ _ ?_; clear hK7
    refine awp_block ?_
    refine rS [] [4, 5, 15] (by decide) ?_
    intro K1 hK1
    refine ar_entryT rfl (m := m) (L := [(b, .cells (zs.map strAV)), (d, dObj kb nb s), (nb, AObj.iter q1 (List.map (mapAV strAV strAV) s.now) (seen ++ [k2]))]) 2 strAV strAV s.now seen hp2 rfl rfl hNb ?_
    refine ⟨(nB rfl), tv, ?_⟩
    show K1 [(4, .ms ⟨b, 0, none⟩ seen.length zs.length), (5, .str ek2), (15, pT q1)] _
    refine hK1 _ _ ?_; clear hK1 K1
    refine awp_reg2 [20] [4, 15] (by decide) ?_
    intro K1 hK1
    refine ⟨tv, tv, ⟨rfl, nB rfl, rfl, nB rfl, rfl, by simp only [List.forall_mem_cons]; exact ⟨⟨rfl, rfl⟩, nfA⟩⟩, ?_⟩
    refine ar_appendMs rfl 0 strAV zs ([ek2] : List (List UInt8)) [] seen.length rfl rfl rfl rfl rfl rfl rfl rfl hNb hFb (fun _ => rfl) rfl (fun _ => rfl) (fun _ => rfl) (by (first | omega | (simp only [List.length_append, List.length_cons, List.length_nil]; omega))) (by (simp only [show Tryd.prog.bytesOf 9 = 16 from rfl, List.length_append, List.length_cons, List.length_nil]; omega)) (by (first | omega | (simp only [List.length_append, List.length_cons, List.length_nil]; omega))) ?_
    intro b2 zs2 hFb2 hNb2 htb2 hlb2
    replace htb2 : zs2.take (seen.length + ([ek2] : List (List UInt8)).length) = zs.take seen.length ++ ([ek2] : List (List UInt8)) := htb2
    replace hlb2 : seen.length + ([ek2] : List (List UInt8)).length ≤ zs2.length := hlb2
    refine ⟨tv, ?_⟩
    show K1 [(4, .ms ⟨b2, 0, none⟩ (seen.length + ([ek2] : List (List UInt8)).length) zs2.length), (15, pT q1)] (mW m [(b2, .cells (zs2.map strAV)), (d, dObj kb nb s), (nb, AObj.iter q1 (List.map (mapAV strAV strAV) s.now) (seen ++ [k2]))])
    refine hK1 _ _ ?_; clear hK1 K1
    refine ⟨.inr (b2, seen ++ [k2], zs2), (by simp), rfl, ?_, ?_⟩
    ·
     show ([b2, d, nb] : List Nat).Nodup ∧ m b2 = none ∧ (seen ++ [k2]).Nodup ∧ (∀ i ∈ (seen ++ [k2]), i < s.now.length) ∧ (zs2).take (seen ++ [k2]).length = keysAt s.now (seen ++ [k2]) ∧ (seen ++ [k2]).length ≤ (zs2).length
     have hss := sstep hs1 hs2 hp2 hn2
     exact ⟨hNb2, hFb2, hss.1, hss.2, by rw [keysAt_snoc hp2, ← hs3, List.length_append]; exact htb2, by rw [List.length_append]; exact hlb2⟩
    ·
     show s.now.length - (seen ++ [k2]).length < s.now.length - (seen).length
     have hss := sstep hs1 hs2 hp2 hn2
     have := seen_len hss.1 hss.2
     rw [List.length_append, List.length_singleton] at *
     omega
end Go.Proofs
end
section
namespace Go.Proofs
open Go Go.Aw
set_option maxRecDepth 100000
def remR (s : DSt) (n : Str) : DSt × Int := if (mget s.now n).isSome = false then (s, 7) else doF s ⟨n, [], [], 5⟩
set_option maxHeartbeats 2000000 in
theorem u_Remove (d kb nb : Nat) (s : DSt) (name : Str) (N : Nat) (hN : [d, nb].Nodup) (hD : DInv N s) (hNN : N ≤ 100000) (hn : name.length ≤ 140737488355328) (m : AMem)  (K : AV → AMem → Prop) (hK : K (.err 60 (remR s name).2) (AMem.wth m [(d, dObj kb nb (remR s name).1), (nb, mObj (remR s name).1.now)])) : ACalls Tryd.prog 35 [.ptr ⟨d, 0, none⟩, .str name] (AMem.wth m [(d, dObj kb nb s), (nb, mObj s.now)]) K := by
 refine acalls_enter Tryd.func35 rfl (by decide) (Nat.le_of_ble_eq_true rfl) ?_
 show AWP _ _ _ _ [(0, .ptr ⟨d, 0, none⟩), (1, .str name)] (AMem.wth m [(d, dObj kb nb s), (nb, mObj s.now)])
 refine awp_reg2_seq [] [0, 1] (by decide) ?_
 intro K1 hK1
 refine ⟨trivial, ?_⟩
 show K1 [(0, .ptr ⟨d, 0, none⟩), (1, .str name)] _
 refine hK1 _ _ ?_; clear hK1 K1
 refine awp_reg2_seq [] [0, 1, 6] (by decide) ?_
 intro K1 hK1
 refine ⟨trivial, trivial, ⟨rfl, by decide⟩, ?_⟩
 refine ar_loadp rfl (v := .map nb) rfl (wth_get 0 hN rfl) rfl (apartOk_one rfl rfl (Nat.le_of_ble_eq_true rfl)) rfl ?_
 refine ⟨trivial, ?_⟩
 refine ar_lookupOk rfl (m := m) (L := [(d, dObj kb nb s), (nb, mObj s.now)]) strAV strAV strKey_ok s.now name [] rfl rfl rfl rfl rfl (wth_get 1 hN rfl) rfl ?_
 refine ⟨trivial, (Nat.le_of_ble_eq_true rfl), (Nat.le_of_ble_eq_true rfl), trivial, trivial, ?_⟩
 show K1 [(0, .ptr ⟨d, 0, none⟩), (1, .str name), (6, .bool ((mget s.now name).isSome))] _
 refine hK1 _ _ ?_; clear hK1 K1
 refine awp_seq_k ?_; intro K2 hK2
 refine awp_reg2_seq [] [0, 1, 17] (by decide) ?_
 intro K1 hK1
 refine ⟨trivial, trivial, ?_⟩
 show K1 [(0, .ptr ⟨d, 0, none⟩), (1, .str name), (17, .bool (!((mget s.now name).isSome)))] _
 refine hK1 _ _ ?_; clear hK1 K1
 refine awp_cond rfl rfl (fun h1 => ?_) (fun h1 => ?_)
 ·
  replace h1 : (mget s.now name).isSome = false := (bnT h1)
  refine awp_reg2_seq [] [4] (by decide) ?_
  intro K1 hK1
  refine ⟨trivial, trivial, ?_⟩
  show K1 [(4, .iface 60 (.int .i64 7))] (AMem.wth m [(d, dObj kb nb s), (nb, mObj s.now)])
  refine hK1 _ _ ?_; clear hK1 K1
  refine awp_toErr 60 [4] ?_
  show AWP _ _ _ _ [(4, .err 60 7)] _
  refine awp_ret ?_
  refine ⟨trivial, (AMem.wth m [(d, dObj kb nb s), (nb, mObj s.now)]), fun _ _ h => h, ?_⟩
  show K (.err 60 7) _
 
  have e0 : remR s name = ((s, 7) : DSt × Int) := by
   first | (rw [remR, if_pos h1]; done) | (rw [remR, if_neg (by simp [h1])]; done)
  rw [e0] at hK
  exact hK
 replace h1 : (mget s.now name).isSome = true := (bnF h1)
 refine awp_skip ?_
 refine hK2 _ _ ?_; clear hK2
 refine awp_reg2_seq [] [4] (by decide) ?_
 intro K1 hK1
 refine ⟨trivial, trivial, ⟨rfl, by simp only [List.forall_mem_cons]; exact ⟨rfl, rfl, rfl, rfl, fun _ h => by cases h⟩, by simp only [List.forall_mem_cons]; exact ⟨rfl, rfl, fun _ h => by cases h⟩⟩, ?_⟩
 refine u_do d kb nb s (⟨name, [], [], 5⟩ : Chg) N hN hD hNN (by first | assumption | (dsimp only; omega) | simp) _ _ ?_
 show aopsR _ _ _ _ _ _ (AMem.wth m [(d, dObj kb nb ((doF s (⟨name, [], [], 5⟩ : Chg)).1)), (nb, mObj ((doF s (⟨name, [], [], 5⟩ : Chg)).1.now))])
 refine ⟨trivial, ?_⟩
 show K1 [(4, .err 60 ((doF s (⟨name, [], [], 5⟩ : Chg)).2))] (AMem.wth m [(d, dObj kb nb ((doF s (⟨name, [], [], 5⟩ : Chg)).1)), (nb, mObj ((doF s (⟨name, [], [], 5⟩ : Chg)).1.now))])
 refine hK1 _ _ ?_; clear hK1 K1
 refine awp_ret ?_
 refine ⟨trivial, (AMem.wth m [(d, dObj kb nb ((doF s (⟨name, [], [], 5⟩ : Chg)).1)), (nb, mObj ((doF s (⟨name, [], [], 5⟩ : Chg)).1.now))]), fun _ _ h => h, ?_⟩
 show K (.err 60 ((doF s (⟨name, [], [], 5⟩ : Chg)).2)) _
 have e0 : remR s name = (((doF s (⟨name, [], [], 5⟩ : Chg)).1, (doF s (⟨name, [], [], 5⟩ : Chg)).2) : DSt × Int) := by
  first | (rw [remR, if_pos h1]; done) | (rw [remR, if_neg (by simp [h1])]; done)
 rw [e0] at hK
 exact hK
end Go.Proofs
end
section
namespace Go.Proofs
open Go Go.Aw Go.Sx
set_option maxRecDepth 100000
def pre5 : Str := [108, 111, 99, 107, 46]
def lkN (n : Str) : Str := pre5 ++ n
def lockM (M : List (Str × Str)) : List (Str × Str) := M.map fun p => (lkN p.1, p.2)
theorem lkN_inj {a b : Str} : lkN a = lkN b ↔ a = b := ⟨fun h => List.append_cancel_left h, fun h => by rw [h]⟩
theorem mget_lock (M : List (Str × Str)) (n : Str) : mget (lockM M) (lkN n) = mget M n := by
  induction M with
  | nil => rfl
  | cons p r ih =>
    obtain ⟨a, b⟩ := p
    simp only [lockM, List.map_cons, mget] at ih ⊢
    by_cases h : a = n
    · subst h; simp
    · rw [if_neg (fun e => h (lkN_inj.1 e)), if_neg h]; exact ih
theorem mput_lock (M : List (Str × Str)) (n x : Str) : mput (lockM M) (lkN n) x = lockM (mput M n x) := by
  induction M with
  | nil => rfl
  | cons p r ih =>
    obtain ⟨a, b⟩ := p
    simp only [lockM, List.map_cons, mput] at ih ⊢
    by_cases h : a = n
    · subst h; simp
    · rw [if_neg (fun e => h (lkN_inj.1 e)), if_neg h, ih]; rfl
theorem mdel_lock (M : List (Str × Str)) (n : Str) : mdel (lockM M) (lkN n) = lockM (mdel M n) := by
  induction M with
  | nil => rfl
  | cons p r ih =>
    obtain ⟨a, b⟩ := p
    simp only [lockM, List.map_cons, mdel] at ih ⊢
    by_cases h : a = n
    · subst h; simp
    · rw [if_neg (fun e => h (lkN_inj.1 e)), if_neg h, ih]; rfl
theorem nmF_all : ∀ (s : Str) (b : Bool), nmF s b = true → s.all nameC = true
  | [], _, _ => rfl
  | c :: r, b, h => by
    rw [nmF, Bool.and_eq_true] at h
    rw [List.all_cons, nmF_all r _ h.2, Bool.and_true]
    have h1 := h.1
    simp only [letC, digC, Bool.or_eq_true, Bool.and_eq_true, decide_eq_true_eq] at h1
    simp only [nameC, Bool.or_eq_true, Bool.and_eq_true, decide_eq_true_eq]
    omega
theorem nameF_lk {n : Str} (h : nameV n = true) : nameF (lkN n) = true := by
  simp only [nameV, Bool.and_eq_true, decide_eq_true_eq] at h
  have h1 := nmF_all n true h.1.1
  simp only [nameF, lkN, List.all_append, h1, Bool.and_true, Bool.and_eq_true, decide_eq_true_eq]
  refine ⟨⟨by decide, by simp [pre5]⟩, ?_⟩
  have := h.2
  refine decide_eq_true ?_
  have e : (pre5 ++ n).length = 5 + n.length := List.length_append
  show (((pre5 ++ n).length : Nat) : Int) ≤ 24
  omega
structure Lk (N : Nat) (s : DSt) (M : List (Str × Str)) : Prop where
  d : DInv N s
  u : s.down = false
  f : s.fuse = -1
  n : s.now = lockM M
  v : ∀ p ∈ M, nameV p.1 = true
  z : ∀ p ∈ M, p.2.length ≤ 4000
  nd : (M.map Prod.fst).Nodup
theorem Lk.step {N : Nat} {s : DSt} {M : List (Str × Str)} (h : Lk N s M) : (stepF s).2 = 0 ∧ (stepF s).1.down = false ∧ (stepF s).1.fuse = -1 := by
  unfold stepF
  rw [if_neg (by rw [h.u]; simp), if_neg (by rw [h.f]; decide)]
  refine ⟨rfl, h.u, ?_⟩
  show (if 0 < s.fuse then s.fuse - 1 else s.fuse) = -1
  rw [h.f]; rfl
theorem Lk.do {N : Nat} {s : DSt} {M M' : List (Str × Str)} (h : Lk N s M) {c : Chg} (hc : c.data.length ≤ 4000) (ha : applyC s.now c = lockM M') (hv : ∀ p ∈ M', nameV p.1 = true) (hz : ∀ p ∈ M', p.2.length ≤ 4000) (hnd : (M'.map Prod.fst).Nodup) : (doF s c).2 = 0 ∧ Lk (N + 1) (doF s c).1 M' := by
  have h1 := h.step
  have hd := h.d.do hc
  unfold doF at hd ⊢
  rw [if_neg (by rw [h1.1]; simp)] at hd ⊢
  exact ⟨rfl, hd, h1.2.1, h1.2.2, ha, hv, hz, hnd⟩
theorem mput_memP {l : List (Str × Str)} {k v : Str} {p : Str × Str} (h : p ∈ mput l k v) : p ∈ l ∨ p = (k, v) := mput_mem h
theorem Lk.write {N : Nat} {s : DSt} {M : List (Str × Str)} (h : Lk N s M) {n x : Str} (hn : nameV n = true) (hx : x.length ≤ 4000) (hr : (mget M n).isSome = true ∨ M.length < 40) : (writeR s (lkN n) x).2 = 0 ∧ Lk (N + 1) (writeR s (lkN n) x).1 (mput M n x) := by
  have hm : mayR s (lkN n) x.length = 0 := by
    unfold mayR
    rw [if_neg (by rw [nameF_lk hn]; simp), if_neg (by omega), if_neg]
    rw [h.n, mget_lock]
    rintro ⟨h1, h2⟩
    rcases hr with hr | hr
    · rw [h1] at hr; cases hr
    · simp [lockM] at h2; omega
  unfold writeR
  rw [if_neg (by rw [hm]; simp)]
  refine h.do hx ?_ (fun p hp => ?_) (fun p hp => ?_) (mput_nd h.nd)
  · rw [applyC, if_pos (.inl rfl), h.n]; exact mput_lock ..
  · rcases mput_memP hp with hp | rfl
    · exact h.v p hp
    · exact hn
  · rcases mput_memP hp with hp | rfl
    · exact h.z p hp
    · exact hx
theorem Lk.rem {N : Nat} {s : DSt} {M : List (Str × Str)} (h : Lk N s M) {n : Str} (hr : (mget M n).isSome = true) : (remR s (lkN n)).2 = 0 ∧ Lk (N + 1) (remR s (lkN n)).1 (mdel M n) := by
  unfold remR
  rw [if_neg (by rw [h.n, mget_lock, hr]; simp)]
  refine h.do (by simp) ?_ (fun p hp => h.v p (mdel_mem hp)) (fun p hp => h.z p (mdel_mem hp)) (h.nd.sublist ((mdel_sub M n).map _))
  rw [applyC, if_neg (by simp), if_neg (by simp), if_neg (by simp), if_pos rfl, h.n]; exact mdel_lock ..
theorem Lk.sync {N : Nat} {s : DSt} {M : List (Str × Str)} (h : Lk N s M) : (syncF s).2 = 0 ∧ Lk (N + 1) (syncF s).1 M := by
  have h1 := h.step
  have k := stepF_keep s
  have hd := h.d.sync
  unfold syncF at hd ⊢
  rw [if_neg (by rw [h1.1]; simp)] at hd ⊢
  exact ⟨rfl, hd, h1.2.1, h1.2.2, by show (stepF s).1.now = _; rw [k.2.1]; exact h.n, h.v, h.z, h.nd⟩
theorem Lk.read {N : Nat} {s : DSt} {M : List (Str × Str)} (h : Lk N s M) (n : Str) : readR s (lkN n) = ((mget M n).getD [], if (mget M n).isSome = true then 0 else 7) := by
  unfold readR
  rw [if_neg (by rw [h.u]; simp), h.n, mget_lock]
  cases e : mget M n with
  | none => simp
  | some v => simp
theorem Lk.list {N : Nat} {s : DSt} {M : List (Str × Str)} (h : Lk N s M) : listR s = (sortL ((M.map Prod.fst).map lkN), 0) := by
  unfold listR
  rw [if_neg (by rw [h.u]; simp), h.n, lockM, List.map_map, List.map_map]; rfl
theorem Lk.new : Lk 0 ⟨[], [], [], -1, false, 0⟩ [] :=
  ⟨⟨by decide, by decide, by decide, by decide, by decide, fun p hp => (by cases hp), fun p hp => (by cases hp), by decide, fun p hp => (by cases hp)⟩, rfl, rfl, rfl, fun p hp => (by cases hp), fun p hp => (by cases hp), List.nodup_nil⟩
theorem lkN_len (n : Str) : (lkN n).length = n.length + 5 := by simp [lkN, pre5]
theorem nameV_len {n : Str} (h : nameV n = true) : n.length ≤ 12 := by
  simp only [nameV, Bool.and_eq_true, decide_eq_true_eq] at h
  omega
section
variable (d kb nb : Nat) {N : Nat} {s : DSt} {M : List (Str × Str)}
theorem doF_kept (s : DSt) (c : Chg) : (doF s c).1.kept = s.kept := by
  unfold doF; split
  · exact (stepF_keep s).1
  · exact (stepF_keep s).1
theorem writeR_kept (s : DSt) (n x : Str) : (writeR s n x).1.kept = s.kept := by
  unfold writeR; split
  · rfl
  · exact doF_kept _ _
theorem remR_kept (s : DSt) (n : Str) : (remR s n).1.kept = s.kept := by
  unfold remR; split
  · rfl
  · exact doF_kept _ _
theorem syncF_now (s : DSt) : (syncF s).1.now = s.now := by
  unfold syncF; split
  · exact (stepF_keep s).2.1
  · exact (stepF_keep s).2.1
theorem swap3 {m : AMem} {a b c : Nat} {x y z : AObj} (h : [a, b, c].Nodup) : m.wth [(a, x), (b, y), (c, z)] = m.wth [(a, x), (c, z), (b, y)] := by
  funext q
  simp only [List.nodup_cons, List.mem_cons, List.not_mem_nil, or_false, not_or] at h
  simp only [AMem.wth, AMem.upd]
  split
  · rfl
  · split
    · rename_i e1 e2; subst e2; rw [if_neg h.2.1]
    · rfl
theorem u_WriteL (h : Lk N s M) (hN : [d, nb, kb].Nodup) (hNN : N ≤ 100000) {n x : Str} (hn : nameV n = true) (hx : x.length ≤ 4000) (hr : (mget M n).isSome = true ∨ M.length < 40) (m : AMem) (K : AV → AMem → Prop)
    (hK : ∀ s', Lk (N + 1) s' (mput M n x) → K (.err 60 0) (AMem.wth m [(d, dObj kb nb s'), (nb, mObj s'.now), (kb, mObj s'.kept)])) : ACalls Tryd.prog 15 [.ptr ⟨d, 0, none⟩, .str (lkN n), .str x] (AMem.wth m [(d, dObj kb nb s), (nb, mObj s.now), (kb, mObj s.kept)]) K := by
  have hw := h.write hn hx hr
  have hl := nameV_len hn
  refine u_Write d kb nb s (lkN n) x N (hN.sublist (by simp)) h.d hNN (by rw [lkN_len]; omega) (by omega) (m.wth [(kb, mObj s.kept)]) K ?_
  have := hK _ hw.2
  rw [writeR_kept] at this
  rw [hw.1]; exact this
theorem u_RemoveL (h : Lk N s M) (hN : [d, nb, kb].Nodup) (hNN : N ≤ 100000) {n : Str} (hn : n.length ≤ 1000000) (hr : (mget M n).isSome = true) (m : AMem) (K : AV → AMem → Prop)
    (hK : ∀ s', Lk (N + 1) s' (mdel M n) → K (.err 60 0) (AMem.wth m [(d, dObj kb nb s'), (nb, mObj s'.now), (kb, mObj s'.kept)])) : ACalls Tryd.prog 35 [.ptr ⟨d, 0, none⟩, .str (lkN n)] (AMem.wth m [(d, dObj kb nb s), (nb, mObj s.now), (kb, mObj s.kept)]) K := by
  have hw := h.rem hr
  refine u_Remove d kb nb s (lkN n) N (hN.sublist (by simp)) h.d hNN (by rw [lkN_len]; omega) (m.wth [(kb, mObj s.kept)]) K ?_
  have := hK _ hw.2
  rw [remR_kept] at this
  rw [hw.1]; exact this
theorem u_SyncL (h : Lk N s M) (hN : [d, nb, kb].Nodup) (hNN : N ≤ 100000) (m : AMem) (K : AV → AMem → Prop)
    (hK : ∀ s', Lk (N + 1) s' M → K (.err 60 0) (AMem.wth m [(d, dObj kb nb s'), (nb, mObj s'.now), (kb, mObj s'.kept)])) : ACalls Tryd.prog 31 [.ptr ⟨d, 0, none⟩] (AMem.wth m [(d, dObj kb nb s), (nb, mObj s.now), (kb, mObj s.kept)]) K := by
  have hw := h.sync
  rw [swap3 hN]
  refine u_Sync d kb nb s N (hN.sublist (by simp)) h.d hNN (m.wth [(nb, mObj s.now)]) K ?_
  have := hK _ hw.2
  rw [swap3 hN, syncF_now] at this
  rw [hw.1]; exact this
theorem u_ReadL (h : Lk N s M) (hN : [d, nb].Nodup) {n : Str} (m : AMem) (K : AV → AMem → Prop)
    (hK : K (.tuple [.str ((mget M n).getD []), .err 60 (if (mget M n).isSome = true then 0 else 7)]) (AMem.wth m [(d, dObj kb nb s), (nb, mObj s.now)])) : ACalls Tryd.prog 39 [.ptr ⟨d, 0, none⟩, .str (lkN n)] (AMem.wth m [(d, dObj kb nb s), (nb, mObj s.now)]) K :=
  u_Read d kb nb s (lkN n) hN m K (by rw [h.read]; exact hK)
theorem u_ListL (h : Lk N s M) (hN : [d, nb].Nodup) (hNN : N ≤ 100000) (m : AMem) (K : AV → AMem → Prop)
    (hK : K (.tuple [.slice false ((sortL ((M.map Prod.fst).map lkN)).map strAV), .err 60 0]) (AMem.wth m [(d, dObj kb nb s), (nb, mObj s.now)])) : ACalls Tryd.prog 41 [.ptr ⟨d, 0, none⟩] (AMem.wth m [(d, dObj kb nb s), (nb, mObj s.now)]) K :=
  u_List d kb nb s N hN h.d hNN m K (by rw [h.list]; exact hK)
end
def ownT (x : Str) : Int × Bool × Int := if x = [48] then (0, true, 0) else if x = [49] then (1, true, 0) else if x = [50] then (2, true, 0) else if x = [51] then (3, true, 0) else (0, false, 5)
def ownR (M : List (Str × Str)) (n : Str) : Int × Bool × Int := if nameV n = false then (0, false, 3) else if (mget M n).isSome = false then (0, false, 0) else ownT ((mget M n).getD [])
theorem itoa_4 : Lib.itoa 0 = [48] ∧ Lib.itoa 1 = [49] ∧ Lib.itoa 2 = [50] ∧ Lib.itoa 3 = [51] := by
  refine ⟨?_, ?_, ?_, ?_⟩ <;> rw [Lib.itoa, if_neg (by decide), Lib.decDigits_one (by decide)] <;> rfl
theorem ownT_ok {x : Str} (h1 : atoiE x = false) (h2 : 0 ≤ atoiV x) (h3 : atoiV x < 4) (h4 : Lib.itoa (atoiV x) = x) : ownT x = (atoiV x, true, 0) := by
  have q := itoa_4
  generalize atoiV x = v at *
  have : v = 0 ∨ v = 1 ∨ v = 2 ∨ v = 3 := by omega
  rcases this with rfl | rfl | rfl | rfl
  · rw [q.1] at h4; subst h4; rfl
  · rw [q.2.1] at h4; subst h4; rfl
  · rw [q.2.2.1] at h4; subst h4; rfl
  · rw [q.2.2.2] at h4; subst h4; rfl
theorem ownT_no {x : Str} (h : atoiE x = true ∨ atoiV x < 0 ∨ 4 ≤ atoiV x ∨ Lib.itoa (atoiV x) ≠ x) : ownT x = (0, false, 5) := by
  have q := itoa_4
  have a0 : atoiE [48] = false ∧ atoiV [48] = 0 := by decide +kernel
  have a1 : atoiE [49] = false ∧ atoiV [49] = 1 := by decide +kernel
  have a2 : atoiE [50] = false ∧ atoiV [50] = 2 := by decide +kernel
  have a3 : atoiE [51] = false ∧ atoiV [51] = 3 := by decide +kernel
  unfold ownT
  split
  · rename_i e; subst e; rw [a0.1, a0.2, q.1] at h; simp at h
  split
  · rename_i e; subst e; rw [a1.1, a1.2, q.2.1] at h; simp at h
  split
  · rename_i e; subst e; rw [a2.1, a2.2, q.2.2.1] at h; simp at h
  split
  · rename_i e; subst e; rw [a3.1, a3.2, q.2.2.2] at h; simp at h
  rfl
theorem u_Atoi (s : Str) (m : AMem) (hT : Tabs m) (K : AV → AMem → Prop) (hK : K (.tuple [.int .i64 (atoiV s), .opt (atoiE s)]) m) : ACalls Tryd.prog 40 [.str s] m K :=
  have ⟨_, _, _, _, _, _, _, _, _, _, _, h2, h3⟩ := hT
  atoi_any ⟨_, Tryd.func40, rfl, by kernel_rfl⟩ (fun s h v hv w => Tryd.strconv_Atoi_ok s h v hv w)
    (fun s h hv ev w hc he => (Tryd.strconv_Atoi_syntax s h hv ev w hc he).mono fun _ _ ⟨N, a, _, _, b⟩ => ⟨N, a, b⟩)
    (fun s h hv ev w hc he => (Tryd.strconv_Atoi_range s h hv ev w hc he).mono fun _ _ ⟨N, a, _, _, b⟩ => ⟨N, a, b⟩) h2 h3 hK
theorem u_CutPrefix (s p : Str) (m : AMem) (K : AV → AMem → Prop) (hK : K (.tuple [.str (Lib.trimPrefix s p), .bool (Lib.hasPrefix s p)]) m) : ACalls Tryd.prog 42 [.str s, .str p] m K :=
  cutPrefix_calls ⟨_, Tryd.func42, rfl, by kernel_rfl⟩ Tryd.strings_CutPrefix hK
theorem u_Contains (l : List Str) (s : Str) (m : AMem) (K : AV → AMem → Prop) (hK : K (.bool (decide (s ∈ l))) m) : ACalls Tryd.prog 34 [.slice false (l.map strAV), .str s] m K :=
  contains_calls ⟨_, Tryd.func34, rfl, by kernel_rfl⟩ Tryd.slices_Contains_string Tryd.slices_Contains_string_empty hK
theorem u_Clone (l : List Str) (hne : l ≠ []) (hl : l.length * 16 ≤ 140737488355328) (m : AMem) (K : AV → AMem → Prop) (hK : ∀ b cap t, m b = none → l.length ≤ cap → K (.ms ⟨b, 0, none⟩ l.length cap) (m.upd b (some (rowJ l t)))) : ACalls Tryd.prog 26 [.slice false (l.map strAV)] m K :=
  clone_calls ⟨_, Tryd.func26, rfl, by kernel_rfl⟩ Tryd.slices_Clone_string hne hl hK
theorem u_Clone0 (m : AMem) (K : AV → AMem → Prop) (hK : K (.slice false []) m) : ACalls Tryd.prog 26 [.slice false []] m K :=
  clone_calls0 ⟨_, Tryd.func26, rfl, by kernel_rfl⟩ Tryd.slices_Clone_string_nil Tryd.slices_Clone_string_zero hK
theorem u_SortJ (b cap t : Nat) (l : List Str) (hl : l.length ≤ 140737488355328) (m : AMem) (K : AV → AMem → Prop) (hK : K (.tuple []) (m.wth [(b, rowJ (sortL l) t)])) : ACalls Tryd.prog 27 [.ms ⟨b, 0, none⟩ l.length cap] (m.wth [(b, rowJ l t)]) K :=
  sort_callsT ⟨_, Tryd.func27, rfl, by kernel_rfl⟩ Tryd.slices_Sort_string b l.length cap l (List.replicate t .junk) (Nat.le_refl _) hl m K (by rw [List.take_length, List.drop_length, List.append_nil]; exact hK)
theorem u_SortJ0 (m : AMem) (K : AV → AMem → Prop) (hK : K (.tuple []) m) : ACalls Tryd.prog 27 [.slice false []] m K :=
  acalls_sort0 ⟨_, Tryd.func27, rfl, by kernel_rfl⟩ Tryd.slices_Sort_string_none m K hK
theorem u_CompactJ (b cap t : Nat) (l : List Str) (hl : l.length ≤ 140737488355328) (m : AMem) (K : AV → AMem → Prop) (hK : K (.ms ⟨b, 0, none⟩ (Lib.compact l).length cap) (m.wth [(b, rowJ (Lib.compact l ++ List.replicate (l.length - (Lib.compact l).length) []) t)])) : ACalls Tryd.prog 28 [.ms ⟨b, 0, none⟩ l.length cap] (m.wth [(b, rowJ l t)]) K :=
  compact_callsT ⟨_, Tryd.func28, rfl, by kernel_rfl⟩ Tryd.slices_Compact_string b cap l (List.replicate t .junk) hl m K hK
end Go.Proofs
end
section
namespace Go.Proofs
open Go Go.Aw Go.Sx
set_option maxRecDepth 100000
theorem u_file (n : Str) (hn : n.length + 5 ≤ 140737488355328) (m : AMem)  (K : AV → AMem → Prop) (hK : K (.str (lkN n)) m) : ACalls Tryd.prog 29 [.str n] m K := by
 refine enter (c := cf [] [] [] [] [] []) (vs := [.av (.str n)]) (L := []) (m := m) false tbOk Tryd.mixed Tryd.func29 rfl (k := 1) (by show fnOk [] _ _ _ = true; decide +kernel) rfl (Good.nil m) ?_
 refine an (by (first | omega | (simp only [List.length_append, List.length_cons, List.length_nil]; omega))) ?_
 exact rt0 rfl fun _ => hK
theorem u_owner (n : Int)  (m : AMem)  (K : AV → AMem → Prop) (hK : K (.err 60 (if n < 0 ∨ 4 ≤ n then 1 else 0)) m) : ACalls Tryd.prog 25 [.int .i64 n] m K := by
 refine enter (c := cf [] [] [1] [] [] []) (vs := [.av (.int .i64 n)]) (L := []) (m := m) true tbOk Tryd.mixed Tryd.func25 rfl (k := 1) (by show fnOk [] _ _ _ = true; decide +kernel) rfl (Good.nil m) ?_
 refine sq ?_
 refine mg [] 8 ((decide (n < 0)) || (decide (4 ≤ n))) ?_ ?_
 · repeat' first
    | exact ⟨⟨_, rfl, by grind [SB.val]⟩, rfl⟩
    | refine an (fun _ => ?_) (fun _ => ?_)
 refine an (fun h1 => ?_) (fun h1 => ?_)
 · replace h1 : (n < 0) ∨ (4 ≤ n) := ((borT h1).imp (fun q => (of_decide_eq_true q)) (fun q => (of_decide_eq_true q)))
   have e0 : (if n < 0 ∨ 4 ≤ n then 1 else 0 : Int) = (1 : Int) := by
    first | (rw [if_pos (by omega)]; done) | (rw [if_neg (by omega)]; done)
   rw [e0] at hK
   exact rt0 rfl fun _ => hK
 replace h1 : (0 ≤ n) ∧ (n < 4) := ⟨(Int.not_lt.1 (of_decide_eq_false (borL h1))), (Int.not_le.1 (of_decide_eq_false (borR h1)))⟩
 have e0 : (if n < 0 ∨ 4 ≤ n then 1 else 0 : Int) = (0 : Int) := by
  first | (rw [if_pos (by omega)]; done) | (rw [if_neg (by omega)]; done)
 rw [e0] at hK
 exact rt0 rfl fun _ => hK
set_option maxHeartbeats 2000000 in
theorem u_Owner (d nb kb : Nat) (s : DSt) (M : List (Str × Str)) (N : Nat) (n : Str) (hL : Lk N s M) (hNN : N ≤ 100000) (m : AMem) (gd : Gd [d, nb, kb] m) (K : AV → AMem → Prop) (hT : Tabs m) (hK : K (.tuple [.int .i64 (ownR M n).1, .bool (ownR M n).2.1, .err 60 (ownR M n).2.2]) (AMem.wth m [(d, dObj kb nb s), (nb, mObj s.now), (kb, mObj s.kept)])) : ACalls Tryd.prog 16 [.ptr ⟨d, 0, none⟩, .str n] (AMem.wth m [(d, dObj kb nb s), (nb, mObj s.now), (kb, mObj s.kept)]) K := by
 have hab := atoiV_bounds ((mget M n).getD [])
 refine enter (c := cf [] [0] [9] [] [] [d, nb, kb]) (vs := [.loc 0 0, .av (.str n)]) (L := [.cells [.mp 2, .mp 1, .own (s.wait.map chgAV), vI s.fuse, vB s.down, vI s.steps], .obj (mObj s.now), .obj (mObj s.kept)]) (m := m) true tbOk Tryd.mixed Tryd.func16 rfl (k := 2) (by show fnOk [] _ _ _ = true; decide +kernel) rfl (gd.good rfl) ?_
 refine ⟨fun F0 => ?_⟩
 have hbd1_0 : n.length ≤ 140737488355328 := F0 1
 refine sq ?_
 refine call0 (fun _ => u_VName n (by omega)) rfl ?_
 refine an (fun h1 => ?_) (fun h1 => ?_)
 · refine call0 (fun _ => u_file n (by first | omega | (have := nameV_len (by assumption); omega))) rfl ?_
   refine callM [0, 1] [.cells [.mp 2, .mp 1, .own (s.wait.map chgAV), vI s.fuse, vB s.down, vI s.steps], .obj (mObj s.now)] (.av (.tuple [.str ((mget M n).getD []), .err 60 (if (mget M n).isSome = true then 0 else 7)])) rfl (fun bs mm gd => u_ReadL (bs.getD 0 0) (bs.getD 2 0) (bs.getD 1 0) hL gd.nd mm) ?_
   refine sq ?_
   refine an (by decide) ?_
   refine an (fun h2 => ?_) (fun h2 => ?_)
   · have e0 : ownR M n = ((0, false, 0) : Int × Bool × Int) := by
      first | (rw [ownR, if_pos (by simp_all)]; done) | (rw [ownR, if_neg (by simp_all), if_pos (by simp_all)]; done) | (exfalso; simp_all; done) | (rw [ownR, if_neg (by simp_all), if_neg (by simp_all)]; exact ownT_no (by grind)) | (rw [ownR, if_neg (by simp_all), if_neg (by simp_all)]; exact ownT_ok (by grind) (by grind) (by grind) (by grind))
     rw [e0] at hK
     exact rt rfl fun _ => hK
   refine sq ?_
   refine an (fun h3 => ?_) (fun h3 => ?_)
   · refine callT [] [] (.av (.tuple [.int .i64 (atoiV ((mget M n).getD [])), .opt (atoiE ((mget M n).getD []))])) rfl (fun bs mm gd ht => fun K hK => u_Atoi ((mget M n).getD []) mm (Tabs.up ht hT) K hK) ?_
     refine sq ?_
     refine mg [9] 47 ((((!(!(atoiE ((mget M n).getD [])))) || (decide (atoiV ((mget M n).getD []) < 0))) || (decide (4 ≤ atoiV ((mget M n).getD [])))) || (!((Lib.itoa (atoiV ((mget M n).getD []))) == ((mget M n).getD [])))) ?_ ?_
     · repeat' first
        | exact ⟨⟨_, rfl, by grind [SB.val]⟩, rfl⟩
        | refine an (fun _ => ?_) (fun _ => ?_)
        | refine callT [] [] (vS (Lib.itoa (atoiV ((mget M n).getD [])))) rfl (fun bs mm gd ht => fun K hK => u_Itoa (atoiV ((mget M n).getD [])) (by omega) (by omega) mm (Tabs.up ht hT) K hK) ?_
     refine an (fun h4 => ?_) (fun h4 => ?_)
     · replace h4 : (((atoiE ((mget M n).getD []) = true) ∨ (atoiV ((mget M n).getD []) < 0)) ∨ (4 ≤ atoiV ((mget M n).getD []))) ∨ (Lib.itoa (atoiV ((mget M n).getD [])) ≠ ((mget M n).getD [])) := ((borT h4).imp (fun q => ((borT q).imp (fun q => ((borT q).imp (fun q => (bnF (bnT q))) (fun q => (of_decide_eq_true q)))) (fun q => (of_decide_eq_true q)))) (fun q => (ne_of_beq_false (bnT q))))
       have e0 : ownR M n = ((0, false, 5) : Int × Bool × Int) := by
        first | (rw [ownR, if_pos (by simp_all)]; done) | (rw [ownR, if_neg (by simp_all), if_pos (by simp_all)]; done) | (exfalso; simp_all; done) | (rw [ownR, if_neg (by simp_all), if_neg (by simp_all)]; exact ownT_no (by grind)) | (rw [ownR, if_neg (by simp_all), if_neg (by simp_all)]; exact ownT_ok (by grind) (by grind) (by grind) (by grind))
       rw [e0] at hK
       exact rt rfl fun _ => hK
     replace h4 : (((atoiE ((mget M n).getD []) = false) ∧ (0 ≤ atoiV ((mget M n).getD []))) ∧ (atoiV ((mget M n).getD []) < 4)) ∧ (Lib.itoa (atoiV ((mget M n).getD [])) = ((mget M n).getD [])) := ⟨⟨⟨(bnT (bnF (borL (borL (borL h4))))), (Int.not_lt.1 (of_decide_eq_false (borR (borL (borL h4)))))⟩, (Int.not_le.1 (of_decide_eq_false (borR (borL h4))))⟩, (eq_of_beq (bnF (borR h4)))⟩
     have e0 : ownR M n = ((atoiV ((mget M n).getD []), true, 0) : Int × Bool × Int) := by
      first | (rw [ownR, if_pos (by simp_all)]; done) | (rw [ownR, if_neg (by simp_all), if_pos (by simp_all)]; done) | (exfalso; simp_all; done) | (rw [ownR, if_neg (by simp_all), if_neg (by simp_all)]; exact ownT_no (by grind)) | (rw [ownR, if_neg (by simp_all), if_neg (by simp_all)]; exact ownT_ok (by grind) (by grind) (by grind) (by grind))
     rw [e0] at hK
     exact rt rfl fun _ => hK
   have e0 : ownR M n = ((0, false, (if (mget M n).isSome = true then 0 else 7)) : Int × Bool × Int) := by
    first | (rw [ownR, if_pos (by simp_all)]; done) | (rw [ownR, if_neg (by simp_all), if_pos (by simp_all)]; done) | (exfalso; simp_all; done) | (rw [ownR, if_neg (by simp_all), if_neg (by simp_all)]; exact ownT_no (by grind)) | (rw [ownR, if_neg (by simp_all), if_neg (by simp_all)]; exact ownT_ok (by grind) (by grind) (by grind) (by grind))
   rw [e0] at hK
   exact rt rfl fun _ => hK
 have e0 : ownR M n = ((0, false, 3) : Int × Bool × Int) := by
  first | (rw [ownR, if_pos (by simp_all)]; done) | (rw [ownR, if_neg (by simp_all), if_pos (by simp_all)]; done) | (exfalso; simp_all; done) | (rw [ownR, if_neg (by simp_all), if_neg (by simp_all)]; exact ownT_no (by grind)) | (rw [ownR, if_neg (by simp_all), if_neg (by simp_all)]; exact ownT_ok (by grind) (by grind) (by grind) (by grind))
 rw [e0] at hK
 exact rt rfl fun _ => hK
def cutF (s : Str) : List Str := if Lib.hasPrefix s pre5 = true ∧ nameV (Lib.trimPrefix s pre5) = true then [Lib.trimPrefix s pre5] else []
def cutL (l : List Str) : List Str := l.flatMap cutF
theorem cutL_step {l : List Str} {i : Int} (h0 : 0 ≤ i) (hi : i < l.length) : cutL (l.take (i + 1).toNat) = cutL (l.take i.toNat) ++ cutF (gI l i) := by
  rw [take_succ_gI h0 hi, cutL, List.flatMap_append]; simp [cutL]
theorem cutF_len (s : Str) : (cutF s).length ≤ 1 := by unfold cutF; split <;> simp
theorem cutL_len (l : List Str) : (cutL l).length ≤ l.length := by
  induction l with
  | nil => simp [cutL]
  | cons x r ih =>
    have := cutF_len x
    simp only [cutL, List.flatMap_cons, List.length_append, List.length_cons] at ih ⊢; omega
theorem trim_lk (k : Str) : Lib.hasPrefix (lkN k) pre5 = true ∧ Lib.trimPrefix (lkN k) pre5 = k := by
  have h : Lib.hasPrefix (lkN k) pre5 = true := by simp [Lib.hasPrefix, lkN]
  refine ⟨h, ?_⟩
  rw [Lib.trimPrefix, if_pos h, lkN, List.drop_left]
theorem cons_le (c : UInt8) (a b : Str) : c :: a ≤ c :: b ↔ a ≤ b := by
  rw [List.cons_le_cons_iff]; simp
theorem lkN_le {a b : Str} : lkN a ≤ lkN b ↔ a ≤ b := by
  show 108 :: 111 :: 99 :: 107 :: 46 :: a ≤ 108 :: 111 :: 99 :: 107 :: 46 :: b ↔ a ≤ b
  simp only [cons_le]
theorem sortL_lk (l : List Str) : sortL (l.map lkN) = (sortL l).map lkN := by
  unfold sortL
  refine (List.map_mergeSort fun a _ b _ => ?_).symm
  rw [Bool.eq_iff_iff, decide_eq_true_eq, decide_eq_true_eq]; exact lkN_le.symm
theorem cutL_lk {l : List Str} (h : ∀ k ∈ l, nameV k = true) : cutL (l.map lkN) = l := by
  induction l with
  | nil => rfl
  | cons k r ih =>
    have h1 := trim_lk k
    rw [List.map_cons, cutL, List.flatMap_cons, cutF, h1.2, if_pos ⟨h1.1, h k (List.mem_cons_self ..)⟩]
    rw [show List.flatMap cutF (r.map lkN) = r from ih fun x hx => h x (List.mem_cons_of_mem _ hx)]; rfl
theorem Lk.all {N : Nat} {s : DSt} {M : List (Str × Str)} (h : Lk N s M) : cutL (sortL ((M.map Prod.fst).map lkN)) = sortL (M.map Prod.fst) := by
  rw [sortL_lk]
  refine cutL_lk fun k hk => ?_
  obtain ⟨p, hp, rfl⟩ := List.mem_map.1 ((sortL_perm _).mem_iff.1 hk)
  exact h.v p hp
theorem Lk.short {N : Nat} {s : DSt} {M : List (Str × Str)} (h : Lk N s M) : ∀ x ∈ sortL ((M.map Prod.fst).map lkN), x.length ≤ 17 := by
  intro x hx
  obtain ⟨q, hq, rfl⟩ := List.mem_map.1 ((sortL_perm _).mem_iff.1 hx)
  obtain ⟨p, hp, rfl⟩ := List.mem_map.1 hq
  have := nameV_len (h.v p hp)
  rw [lkN_len]; omega
theorem Lk.len {N : Nat} {s : DSt} {M : List (Str × Str)} (h : Lk N s M) : M.length ≤ N := by
  have := h.d.nl
  rw [h.n] at this
  simpa [lockM] using this
set_option maxHeartbeats 2000000 in
theorem u_All (d nb kb : Nat) (s : DSt) (M : List (Str × Str)) (N : Nat) (hL : Lk N s M) (hNN : N ≤ 100000) (m : AMem) (gd : Gd [d, nb, kb] m) (K : AV → AMem → Prop) (hK : K (.tuple [.slice false ((sortL (M.map Prod.fst)).map strAV), .err 60 0]) (AMem.wth m [(d, dObj kb nb s), (nb, mObj s.now), (kb, mObj s.kept)])) : ACalls Tryd.prog 18 [.ptr ⟨d, 0, none⟩] (AMem.wth m [(d, dObj kb nb s), (nb, mObj s.now), (kb, mObj s.kept)]) K := by
 refine ACalls.pl ?_
 have hML := hL.len
 have hSL : (sortL ((M.map Prod.fst).map lkN)).length = M.length := by rw [sortL_len, List.length_map, List.length_map]
 refine enter (c := cf [] [] [7] [] [] [d, nb, kb]) (vs := [.loc 0 0]) (L := [.cells [.mp 2, .mp 1, .own (s.wait.map chgAV), vI s.fuse, vB s.down, vI s.steps], .obj (mObj s.now), .obj (mObj s.kept)]) (m := m) true tbOk Tryd.mixed Tryd.func18 rfl (k := 1) (by show fnOk [] _ _ _ = true; decide +kernel) rfl (gd.good rfl) ?_
 refine callM [0, 1] [.cells [.mp 2, .mp 1, .own (s.wait.map chgAV), vI s.fuse, vB s.down, vI s.steps], .obj (mObj s.now)] (.av (.tuple [.slice false ((sortL ((M.map Prod.fst).map lkN)).map strAV), .err 60 0])) rfl (fun bs mm gd => u_ListL (bs.getD 0 0) (bs.getD 2 0) (bs.getD 1 0) hL gd.nd hNN mm) ?_
 refine sq ?_
 refine ln ?_
 refine lp (σ := (List (List UInt8)) × Int) [] [5, 6, 16, 17, 18] 3 (fun ⟨o, i⟩ => ([(5, .av (.err 60 0)), (6, .own (o.map strAV)), (16, vL ((sortL ((M.map Prod.fst).map lkN)).map strAV)), (17, vI ((sortL ((M.map Prod.fst).map lkN)).length : Int)), (18, vI i)], [.cells [.mp 2, .mp 1, .own (s.wait.map chgAV), vI s.fuse, vB s.down, vI s.steps], .obj (mObj s.now), .obj (mObj s.kept)], m)) (fun ⟨o, i⟩ => 0 ≤ i ∧ i ≤ (sortL ((M.map Prod.fst).map lkN)).length ∧ o = cutL ((sortL ((M.map Prod.fst).map lkN)).take i.toNat)) (fun ⟨o, i⟩ => (sortL ((M.map Prod.fst).map lkN)).length - i.toNat) ([], 0) ⟨rfl, rfl⟩ ?_ ?_
 · try dsimp only
   exact ⟨by omega, by omega, rfl⟩
 rintro ⟨o, i⟩ hI
 dsimp only at hI
 have hol : (o.length : Int) ≤ i := by have := cutL_len ((sortL ((M.map Prod.fst).map lkN)).take i.toNat); rw [← hI.2.2, List.length_take] at this; omega
 refine sq ?_
 refine an (fun h1 => ?_) (fun h1 => ?_)
 · refine sq ?_
   refine ix (by omega) ?_
   refine call0 (fun _ => u_CutPrefix (gI (sortL ((M.map Prod.fst).map lkN)) i) pre5) rfl ?_
   refine mg [5, 6, 9, 16, 17, 18] 31 ((Lib.hasPrefix (gI (sortL ((M.map Prod.fst).map lkN)) i) pre5) && (nameV (Lib.trimPrefix (gI (sortL ((M.map Prod.fst).map lkN)) i) pre5))) ?_ ?_
   · repeat' first
      | exact ⟨⟨_, rfl, by grind [SB.val]⟩, rfl⟩
      | refine an (fun _ => ?_) (fun _ => ?_)
      | refine call0 (fun _ => u_VName (Lib.trimPrefix (gI (sortL ((M.map Prod.fst).map lkN)) i) pre5) (by have := trimPrefix_len (gI (sortL ((M.map Prod.fst).map lkN)) i) pre5; have := hL.short _ (gI_mem hI.1 h1); omega)) rfl ?_
   refine an (fun h2 => ?_) (fun h2 => ?_)
   · replace h2 : (Lib.hasPrefix (gI (sortL ((M.map Prod.fst).map lkN)) i) pre5 = true) ∧ (nameV (Lib.trimPrefix (gI (sortL ((M.map Prod.fst).map lkN)) i) pre5) = true) := ⟨(bandL h2), (bandR h2)⟩
     refine ap strAV o ([(Lib.trimPrefix (gI (sortL ((M.map Prod.fst).map lkN)) i) pre5)] : List (List UInt8)) rfl rfl (fun _ => ⟨rfl, rfl⟩) (by (simp only [List.length_append, List.length_cons, List.length_nil]; omega)) ?_
     refine an (by omega) ?_
     refine ⟨(o ++ ([(Lib.trimPrefix (gI (sortL ((M.map Prod.fst).map lkN)) i) pre5)] : List (List UInt8)), i + 1), ⟨rfl, rfl⟩, ?_, ?_⟩
     · try dsimp only
       exact ⟨by omega, by omega, by rw [cutL_step hI.1 h1, ← hI.2.2, cutF]; first | (rw [if_pos ⟨by grind, by grind⟩]; done) | (rw [if_neg (by grind), List.append_nil])⟩
     try dsimp only
     omega
   replace h2 : (Lib.hasPrefix (gI (sortL ((M.map Prod.fst).map lkN)) i) pre5 = false) ∨ (nameV (Lib.trimPrefix (gI (sortL ((M.map Prod.fst).map lkN)) i) pre5) = false) := ((bandF h2).imp (fun q => q) (fun q => q))
   refine an (by omega) ?_
   refine ⟨(o, i + 1), ⟨rfl, rfl⟩, ?_, ?_⟩
   · try dsimp only
     exact ⟨by omega, by omega, by rw [cutL_step hI.1 h1, ← hI.2.2, cutF]; first | (rw [if_pos ⟨by grind, by grind⟩]; done) | (rw [if_neg (by grind), List.append_nil])⟩
   try dsimp only
   omega
 refine rt rfl fun _ => ?_
 show K (.tuple [.slice false (o.map strAV), .err 60 0]) (AMem.wth m [(d, dObj kb nb s), (nb, mObj s.now), (kb, mObj s.kept)])
 have q : o = sortL (M.map Prod.fst) := by rw [hI.2.2, List.take_of_length_le (by omega), hL.all]
 rw [q]; exact hK
end Go.Proofs
end
section
namespace Go.Proofs
open Go Go.Aw Go.Sx
set_option maxRecDepth 100000
theorem ownT_hit {x : Str} {i : Int} (h0 : 0 ≤ i) (h4 : i < 4) (hx : x = Lib.itoa i) : ownT x = (i, true, 0) := by
  have q := itoa_4
  have : i = 0 ∨ i = 1 ∨ i = 2 ∨ i = 3 := by omega
  rcases this with rfl | rfl | rfl | rfl
  · rw [q.1] at hx; subst hx; rfl
  · rw [q.2.1] at hx; subst hx; rfl
  · rw [q.2.2.1] at hx; subst hx; rfl
  · rw [q.2.2.2] at hx; subst hx; rfl
def firstE (M : List (Str × Str)) : List Str → Int
  | [] => 0
  | n :: r => if (ownR M n).2.2 = 0 then firstE M r else (ownR M n).2.2
theorem firstE_drop {M : List (Str × Str)} {l : List Str} {i : Int} (h0 : 0 ≤ i) (hi : i < l.length) : firstE M (l.drop i.toNat) = if (ownR M (gI l i)).2.2 = 0 then firstE M (l.drop (i + 1).toNat) else (ownR M (gI l i)).2.2 := by
  rw [drop_gI h0 hi, firstE]
def unlF (who : Int) : List (Str × Str) → List Str → List (Str × Str)
  | M, [] => M
  | M, n :: r => unlF who (if (mget M n).getD [] = Lib.itoa who then mdel M n else M) r
theorem unlF_drop {who : Int} {M : List (Str × Str)} {l : List Str} {i : Int} (h0 : 0 ≤ i) (hi : i < l.length) : unlF who M (l.drop i.toNat) = unlF who (if (mget M (gI l i)).getD [] = Lib.itoa who then mdel M (gI l i) else M) (l.drop (i + 1).toNat) := by
  rw [drop_gI h0 hi, unlF]
def unlR (M : List (Str × Str)) (who : Int) (l : List Str) : List (Str × Str) × Int := if who < 0 ∨ 3 < who then (M, 1) else if firstE M l ≠ 0 then (M, firstE M l) else (unlF who M l, 0)
def takeE (M : List (Str × Str)) (who : Int) (av : Int → Bool) : List Str → Int
  | [] => 0
  | n :: r => if (ownR M n).2.2 ≠ 0 then (ownR M n).2.2 else if ((ownR M n).2.1 = true ∧ (ownR M n).1 ≠ who) ∧ av (ownR M n).1 = true then 14 else takeE M who av r
theorem takeE_drop {M : List (Str × Str)} {who : Int} {av : Int → Bool} {l : List Str} {i : Int} (h0 : 0 ≤ i) (hi : i < l.length) : takeE M who av (l.drop i.toNat) = if (ownR M (gI l i)).2.2 ≠ 0 then (ownR M (gI l i)).2.2 else if ((ownR M (gI l i)).2.1 = true ∧ (ownR M (gI l i)).1 ≠ who) ∧ av (ownR M (gI l i)).1 = true then 14 else takeE M who av (l.drop (i + 1).toNat) := by
  rw [drop_gI h0 hi, takeE]
def lkF (who : Int) (M : List (Str × Str)) (l : List Str) : List (Str × Str) := l.foldl (fun M n => mput M n (Lib.itoa who)) M
theorem lkF_step {who : Int} {M : List (Str × Str)} {l : List Str} {i : Int} (h0 : 0 ≤ i) (hi : i < l.length) : lkF who M (l.take (i + 1).toNat) = mput (lkF who M (l.take i.toNat)) (gI l i) (Lib.itoa who) := by
  rw [take_succ_gI h0 hi, lkF, List.foldl_append]; rfl
theorem lkF_len (who : Int) (l : List Str) : ∀ (M : List (Str × Str)), (lkF who M l).length ≤ M.length + l.length := by
  induction l with
  | nil => intro M; exact Nat.le_refl _
  | cons n r ih =>
    intro M
    have h1 := ih (mput M n (Lib.itoa who))
    have h2 := mput_len M n (Lib.itoa who)
    rw [lkF, List.foldl_cons, List.length_cons]
    rw [lkF] at h1
    omega
end Go.Proofs
end
section
namespace Go.Proofs
open Go Go.Aw Go.Sx
set_option maxRecDepth 100000
theorem Lk.mono {N N' : Nat} {s : DSt} {M : List (Str × Str)} (h : Lk N s M) (hn : N ≤ N') : Lk N' s M := ⟨h.d.mono hn, h.u, h.f, h.n, h.v, h.z, h.nd⟩
theorem mget_mdel {l : List (Str × Str)} {k s : Str} (hn : (l.map Prod.fst).Nodup) : mget (mdel l k) s = if s = k then none else mget l s := by
  induction l with
  | nil => simp [mdel, mget]
  | cons p r ih =>
    obtain ⟨a, b⟩ := p
    simp only [List.map_cons, List.nodup_cons] at hn
    rw [mdel]
    by_cases h : a = k
    · subst h
      rw [if_pos rfl]
      by_cases e : s = a
      · subst e; rw [if_pos rfl]; exact mget_none.2 hn.1
      · rw [if_neg e, mget, if_neg (fun q => e q.symm)]
    · rw [if_neg h, mget, mget]
      by_cases e : a = s
      · subst e; rw [if_pos rfl, if_pos rfl, if_neg h]
      · rw [if_neg e, if_neg e]; exact ih hn.2
theorem mget_dels : ∀ (acc : List Str) {M : List (Str × Str)} {s : Str}, (M.map Prod.fst).Nodup → mget (acc.foldl mdel M) s = if s ∈ acc then none else mget M s
  | [], _, _, _ => by simp
  | k :: r, M, s, h => by
    rw [List.foldl_cons, mget_dels r (mdel_nd h), mget_mdel h]
    by_cases h1 : s ∈ r
    · simp [h1]
    · by_cases h2 : s = k
      · simp [h2]
      · simp [h1, h2]
def giveS (M : List (Str × Str)) (who : Int) (acc : List Str) (n : Str) : List Str := if ((ownR M n).2.1 = true ∧ (ownR M n).1 = who) ∧ n ∉ acc then acc ++ [n] else acc
def giveL (M : List (Str × Str)) (who : Int) (l : List Str) : List Str := l.foldl (giveS M who) []
theorem giveL_step {M : List (Str × Str)} {who : Int} {l : List Str} {i : Int} (h0 : 0 ≤ i) (hi : i < l.length) : giveL M who (l.take (i + 1).toNat) = giveS M who (giveL M who (l.take i.toNat)) (gI l i) := by
  rw [take_succ_gI h0 hi, giveL, List.foldl_append]; rfl
theorem giveS_len (M : List (Str × Str)) (who : Int) (acc : List Str) (n : Str) : (giveS M who acc n).length ≤ acc.length + 1 := by unfold giveS; split <;> simp
theorem gives_len (M : List (Str × Str)) (who : Int) : ∀ (l acc : List Str), (l.foldl (giveS M who) acc).length ≤ acc.length + l.length
  | [], _ => Nat.le_refl _
  | n :: r, acc => by
    have h1 := gives_len M who r (giveS M who acc n)
    have h2 := giveS_len M who acc n
    rw [List.foldl_cons, List.length_cons]; omega
theorem giveL_len (M : List (Str × Str)) (who : Int) (l : List Str) : (giveL M who l).length ≤ l.length := by
  have := gives_len M who l []
  simpa [giveL] using this
theorem gives_nd (M : List (Str × Str)) (who : Int) : ∀ (l acc : List Str), acc.Nodup → (l.foldl (giveS M who) acc).Nodup
  | [], _, h => h
  | n :: r, acc, h => gives_nd M who r _ (by
    unfold giveS; split
    · rename_i c; exact List.nodup_append.2 ⟨h, by simp, fun a ha b hb e => by simp at hb; subst hb; subst e; exact c.2 ha⟩
    · exact h)
theorem gives_mem (M : List (Str × Str)) (who : Int) : ∀ (l acc : List Str) {x : Str}, x ∈ l.foldl (giveS M who) acc → x ∈ acc ∨ (x ∈ l ∧ (ownR M x).2.1 = true)
  | [], _, _, h => .inl h
  | n :: r, acc, x, h => by
    rcases gives_mem M who r _ h with h | h
    · unfold giveS at h
      split at h
      · rename_i c
        rcases List.mem_append.1 h with h | h
        · exact .inl h
        · rw [List.mem_singleton.1 h]; exact .inr ⟨List.mem_cons_self .., c.1.1⟩
      · exact .inl h
    · exact .inr ⟨List.mem_cons_of_mem _ h.1, h.2⟩
theorem own_some {M : List (Str × Str)} {n : Str} (h : (ownR M n).2.1 = true) : (mget M n).isSome = true := by
  unfold ownR at h
  split at h
  · cases h
  · split at h
    · cases h
    · rename_i q; cases e : mget M n with
      | none => rw [e] at q; exact absurd rfl q
      | some v => rfl
theorem own_nm {M : List (Str × Str)} {n : Str} (h : (ownR M n).2.1 = true) : nameV n = true := by
  unfold ownR at h
  split at h
  · cases h
  · rename_i c; simpa using c
theorem own_iff {M : List (Str × Str)} {n : Str} {who : Int} (h : (ownR M n).2.2 = 0) (h0 : 0 ≤ who) (h3 : who ≤ 3) : ((ownR M n).2.1 = true ∧ (ownR M n).1 = who) ↔ (mget M n).getD [] = Lib.itoa who := by
  have q := itoa_4
  have hw : who = 0 ∨ who = 1 ∨ who = 2 ∨ who = 3 := by omega
  unfold ownR at h ⊢
  split
  · rename_i c; rw [if_pos c] at h; simp at h
  split
  · rename_i c
    have e : mget M n = none := by simpa using c
    rw [e]
    refine ⟨fun hh => by simp at hh, fun hh => ?_⟩
    rcases hw with rfl | rfl | rfl | rfl <;> simp [q] at hh
  · rename_i c1 c2
    rw [if_neg c1, if_neg c2] at h
    generalize (mget M n).getD [] = x at h ⊢
    unfold ownT at h ⊢
    rcases hw with rfl | rfl | rfl | rfl <;> by_cases e0 : x = [48] <;> by_cases e1 : x = [49] <;> by_cases e2 : x = [50] <;> by_cases e3 : x = [51] <;> simp_all
theorem firstE_all {M : List (Str × Str)} : ∀ {l : List Str}, firstE M l = 0 → ∀ n ∈ l, (ownR M n).2.2 = 0
  | [], _, n, hn => by cases hn
  | x :: r, h, n, hn => by
    rw [firstE] at h
    split at h
    · rename_i c
      rcases List.mem_cons.1 hn with rfl | hn
      · exact c
      · exact firstE_all h n hn
    · rename_i c; exact absurd h c
theorem unl_gives {M : List (Str × Str)} {who : Int} (hn : (M.map Prod.fst).Nodup) (h0 : 0 ≤ who) (h3 : who ≤ 3) : ∀ (l acc : List Str), (∀ n ∈ l, (ownR M n).2.2 = 0) → unlF who (acc.foldl mdel M) l = (l.foldl (giveS M who) acc).foldl mdel M
  | [], _, _ => rfl
  | n :: r, acc, h => by
    have hr := unl_gives hn h0 h3 r
    have hi := own_iff (h n (List.mem_cons_self ..)) h0 h3
    rw [unlF, List.foldl_cons, mget_dels acc hn]
    by_cases hm : n ∈ acc
    · have q := itoa_4
      have hw : who = 0 ∨ who = 1 ∨ who = 2 ∨ who = 3 := by omega
      rw [if_pos hm, if_neg (by rcases hw with rfl | rfl | rfl | rfl <;> simp [q]), giveS, if_neg (fun c => c.2 hm)]
      exact hr acc fun x hx => h x (List.mem_cons_of_mem _ hx)
    · rw [if_neg hm]
      by_cases c : (mget M n).getD [] = Lib.itoa who
      · rw [if_pos c, giveS, if_pos ⟨hi.2 c, hm⟩, ← hr (acc ++ [n]) fun x hx => h x (List.mem_cons_of_mem _ hx), List.foldl_append]; rfl
      · rw [if_neg c, giveS, if_neg (fun d => c (hi.1 d.1))]
        exact hr acc fun x hx => h x (List.mem_cons_of_mem _ hx)
theorem unl_give {M : List (Str × Str)} {who : Int} (hn : (M.map Prod.fst).Nodup) (h0 : 0 ≤ who) (h3 : who ≤ 3) {l : List Str} (h : firstE M l = 0) : unlF who M l = (giveL M who l).foldl mdel M := unl_gives hn h0 h3 l [] (firstE_all h)
theorem dels_step {M : List (Str × Str)} {g : List Str} {i : Int} (h0 : 0 ≤ i) (hi : i < g.length) : (g.take (i + 1).toNat).foldl mdel M = mdel ((g.take i.toNat).foldl mdel M) (gI g i) := by
  rw [take_succ_gI h0 hi, List.foldl_append]; rfl
theorem del_there {M : List (Str × Str)} {who : Int} {l : List Str} (hn : (M.map Prod.fst).Nodup) {i : Int} (h0 : 0 ≤ i) (hi : i < (giveL M who l).length) : (mget (((giveL M who l).take i.toNat).foldl mdel M) (gI (giveL M who l) i)).isSome = true := by
  have hnd : (giveL M who l).Nodup := gives_nd M who l [] List.nodup_nil
  have hm := gI_mem h0 hi
  have hs : (ownR M (gI (giveL M who l) i)).2.1 = true := by
    rcases gives_mem M who l [] hm with h | h
    · cases h
    · exact h.2
  rw [mget_dels _ hn, if_neg]
  · exact own_some hs
  · intro hc
    generalize giveL M who l = g at *
    obtain ⟨k, hk, e⟩ := List.getElem_of_mem hc
    rw [List.length_take] at hk
    rw [List.getElem_take] at e
    have h2 : gI g i = g[i.toNat]'(by omega) := by simp [gI, List.getD_eq_getElem?_getD, List.getElem?_eq_getElem (show i.toNat < g.length by omega)]
    rw [h2] at e
    have := (List.getElem_inj hnd).1 e
    omega
set_option maxHeartbeats 4000000 in
theorem u_Give (d nb kb : Nat) (s : DSt) (M : List (Str × Str)) (N : Nat) (who : Int) (l : List Str) (hL : Lk N s M) (hNN : N + l.length + 1 ≤ 100000) (m : AMem) (gd : Gd [d, nb, kb] m) (K : AV → AMem → Prop) (hT : Tabs m) (hK : ∀ s1, Lk (N + l.length + 1) s1 (unlR M who l).1 → K (.err 60 (unlR M who l).2) (AMem.wth m [(d, dObj kb nb s1), (nb, mObj s1.now), (kb, mObj s1.kept)])) : ACalls Tryd.prog 12 [.ptr ⟨d, 0, none⟩, .int .i64 who, .slice false (l.map strAV)] (AMem.wth m [(d, dObj kb nb s), (nb, mObj s.now), (kb, mObj s.kept)]) K := by
 refine enter (c := cf [] [0] [11] [] [] [d, nb, kb]) (vs := [.loc 0 0, .av (.int .i64 who), .av (.slice false (l.map strAV))]) (L := [.cells [.mp 2, .mp 1, .own (s.wait.map chgAV), vI s.fuse, vB s.down, vI s.steps], .obj (mObj s.now), .obj (mObj s.kept)]) (m := m) true tbOk Tryd.mixed Tryd.func12 rfl (k := 3) (by show fnOk [] _ _ _ = true; decide +kernel) rfl (gd.good rfl) ?_
 refine ⟨fun F0 => ?_⟩
 have hbd2_0 : l.length ≤ 140737488355328 := bd_map (o := false) (F0 2).1
 refine call0 (fun _ => u_owner who) rfl ?_
 refine sq ?_
 refine an (fun h1 => ?_) (fun h1 => ?_)
 · refine sq ?_
   refine ln ?_
   refine lp (σ := (List (List UInt8)) × Int) [] [0, 1, 8, 21, 22, 23] 3 (fun ⟨g, i⟩ => ([(0, .loc 0 0), (1, vI who), (8, .own (g.map strAV)), (21, vL (l.map strAV)), (22, vI (l.length : Int)), (23, vI i)], [.cells [.mp 2, .mp 1, .own (s.wait.map chgAV), vI s.fuse, vB s.down, vI s.steps], .obj (mObj s.now), .obj (mObj s.kept)], m)) (fun ⟨g, i⟩ => 0 ≤ i ∧ i ≤ l.length ∧ firstE M l = firstE M (l.drop i.toNat) ∧ g = giveL M who (l.take i.toNat)) (fun ⟨g, i⟩ => l.length - i.toNat) ([], 0) ⟨rfl, rfl⟩ ?_ ?_
   · try dsimp only
     exact ⟨by omega, by omega, rfl, rfl⟩
   rintro ⟨g, i⟩ hI
   dsimp only at hI
   have hgl : (g.length : Int) ≤ i := by rw [hI.2.2.2]; have := giveL_len M who (l.take i.toNat); rw [List.length_take] at this; omega
   refine sq ?_
   refine an (fun h2 => ?_) (fun h2 => ?_)
   · refine sq ?_
     refine ix (by omega) ?_
     refine callT [0, 1, 2] [.cells [.mp 2, .mp 1, .own (s.wait.map chgAV), vI s.fuse, vB s.down, vI s.steps], .obj (mObj s.now), .obj (mObj s.kept)] (.av (.tuple [.int .i64 ((ownR M (gI l i)).1), .bool ((ownR M (gI l i)).2.1), .err 60 ((ownR M (gI l i)).2.2)])) rfl (fun bs mm gd ht => fun K hK => u_Owner (bs.getD 0 0) (bs.getD 1 0) (bs.getD 2 0) s M N (gI l i) hL (by omega) mm gd K (Tabs.up ht hT) hK) ?_
     refine sq ?_
     refine an (fun h3 => ?_) (fun h3 => ?_)
     · refine mg [0, 1, 8, 10, 21, 22, 23] 48 ((((ownR M (gI l i)).2.1) && (((ownR M (gI l i)).1) == who)) && (!(decide (gI l i ∈ g)))) ?_ ?_
       · repeat' first
          | exact ⟨⟨_, rfl, by grind [SB.val]⟩, rfl⟩
          | refine an (fun _ => ?_) (fun _ => ?_)
          | refine call0 (fun _ => u_Contains g (gI l i)) rfl ?_
       refine an (fun h4 => ?_) (fun h4 => ?_)
       · replace h4 : (((ownR M (gI l i)).2.1 = true) ∧ ((ownR M (gI l i)).1 = who)) ∧ (decide (gI l i ∈ g) = false) := ⟨⟨(bandL (bandL h4)), (eq_of_beq (bandR (bandL h4)))⟩, (bnT (bandR h4))⟩
         refine ap strAV g ([gI l i] : List (List UInt8)) rfl rfl (fun _ => ⟨rfl, rfl⟩) (by (simp only [List.length_append, List.length_cons, List.length_nil]; omega)) ?_
         refine an (by omega) ?_
         refine ⟨(g ++ ([gI l i] : List (List UInt8)), i + 1), ⟨rfl, rfl⟩, ?_, ?_⟩
         · try dsimp only
           exact ⟨by omega, by omega, by rw [hI.2.2.1, firstE_drop hI.1 h2, if_pos (by omega)], by rw [giveL_step hI.1 h2, ← hI.2.2.2, giveS]; first | (rw [if_pos (by grind)]; done) | (rw [if_neg (by grind)]; done)⟩
         try dsimp only
         omega
       replace h4 : (((ownR M (gI l i)).2.1 = false) ∨ ((ownR M (gI l i)).1 ≠ who)) ∨ (decide (gI l i ∈ g) = true) := ((bandF h4).imp (fun q => ((bandF q).imp (fun q => q) (fun q => (ne_of_beq_false q)))) (fun q => (bnF q)))
       refine an (by omega) ?_
       refine ⟨(g, i + 1), ⟨rfl, rfl⟩, ?_, ?_⟩
       · try dsimp only
         exact ⟨by omega, by omega, by rw [hI.2.2.1, firstE_drop hI.1 h2, if_pos (by omega)], by rw [giveL_step hI.1 h2, ← hI.2.2.2, giveS]; first | (rw [if_pos (by grind)]; done) | (rw [if_neg (by grind)]; done)⟩
       try dsimp only
       omega
     refine rt rfl fun _ => ?_
     show K (.err 60 ((ownR M (gI l i)).2.2)) (AMem.wth m [(d, dObj kb nb s), (nb, mObj s.now), (kb, mObj s.kept)])
     have hw : ¬(who < 0 ∨ 4 ≤ who) := by grind
     have he : firstE M l = (ownR M (gI l i)).2.2 := by rw [hI.2.2.1, firstE_drop hI.1 h2, if_neg h3]
     rw [unlR, if_neg (by omega), if_pos (by rw [he]; exact h3), he] at hK
     exact hK s (hL.mono (by omega))
   have hw : ¬(who < 0 ∨ 4 ≤ who) := by grind
   have hf0 : firstE M l = 0 := by rw [hI.2.2.1, List.drop_eq_nil_of_le (by omega)]; rfl
   have hg : g = giveL M who l := by rw [hI.2.2.2, List.take_of_length_le (by omega)]
   have hgn : g.length ≤ l.length := by rw [hg]; exact giveL_len ..
   have hgm : ∀ x ∈ g, x.length ≤ 1000000 := fun x hx => by
     rw [hg] at hx
     rcases gives_mem M who l [] hx with h | h
     · cases h
     · have := nameV_len (own_nm h.2)
       omega
   refine sq ?_
   refine ln ?_
   refine lp (σ := Int × DSt) [] [0, 8, 54, 55, 56] 3 (fun ⟨j, t1⟩ => ([(0, .loc 0 0), (8, .own (g.map strAV)), (54, vL (g.map strAV)), (55, vI (g.length : Int)), (56, vI j)], [.cells [.mp 2, .mp 1, .own (t1.wait.map chgAV), vI t1.fuse, vB t1.down, vI t1.steps], .obj (mObj t1.now), .obj (mObj t1.kept)], m)) (fun ⟨j, t1⟩ => 0 ≤ j ∧ j ≤ g.length ∧ Lk (N + j.toNat) t1 ((g.take j.toNat).foldl mdel M)) (fun ⟨j, t1⟩ => g.length - j.toNat) (0, s) ⟨rfl, rfl⟩ ?_ ?_
   · try dsimp only
     exact ⟨by omega, by omega, hL⟩
   rintro ⟨j, t1⟩ hI2
   dsimp only at hI2
   refine sq ?_
   refine an (fun h5 => ?_) (fun h5 => ?_)
   · refine sq ?_
     refine ix (by omega) ?_
     refine call0 (fun _ => u_file (gI g j) (by have := hgm _ (gI_mem (l := g) (i := j) (by omega) (by omega)); omega)) rfl ?_
     refine callY 60 [0, 1, 2] (σ := DSt) (fun s1 => Lk (N + j.toNat + 1) s1 (mdel ((g.take j.toNat).foldl mdel M) (gI g j))) (fun s1 => .av (.err 60 0)) (fun s1 => [.cells [.mp 2, .mp 1, .own (s1.wait.map chgAV), vI s1.fuse, vB s1.down, vI s1.steps], .obj (mObj s1.now), .obj (mObj s1.kept)]) rfl (fun _ => rfl) (fun bs mm gd ht K hK => u_RemoveL (bs.getD 0 0) (bs.getD 2 0) (bs.getD 1 0) hI2.2.2 gd.nd (by omega) (hgm _ (gI_mem (by omega) (by omega))) (by have := del_there (M := M) (who := who) (l := l) hL.nd (i := j) hI2.1 (by rw [← hg]; exact h5); rw [← hg] at this; exact this) mm K (fun s_ hh => hK s_ hh)) ?_
     rintro s1 hx1
     refine an (fun h6 => ?_) (fun h6 => ?_)
     · refine an (by omega) ?_
       refine ⟨(j + 1, s1), ⟨rfl, rfl⟩, ?_, ?_⟩
       · try dsimp only
         exact ⟨by omega, by omega, by rw [dels_step hI2.1 h5, show (j + 1).toNat = j.toNat + 1 from by omega]; exact hx1⟩
       try dsimp only
       omega
     refine rt rfl fun _ => ?_
     show K (.err 60 0) (AMem.wth m [(d, dObj kb nb s1), (nb, mObj s1.now), (kb, mObj s1.kept)])
     exact absurd rfl h6
   refine sq ?_
   refine ln ?_
   refine an (fun h7 => ?_) (fun h7 => ?_)
   · refine rt rfl fun _ => ?_
     show K (.err 60 0) (AMem.wth m [(d, dObj kb nb t1), (nb, mObj t1.now), (kb, mObj t1.kept)])
     have hu : unlR M who l = ((giveL M who l).foldl mdel M, 0) := by rw [unlR, if_neg (by omega), if_neg (not_not_intro hf0), unl_give hL.nd (by omega) (by omega) hf0]
     rw [hu] at hK
     have hq := hI2.2.2
     rw [take_full (by omega), hg] at hq
     refine hK t1 ?_
     exact hq.mono (by omega)
   refine callY 60 [0, 1, 2] (σ := DSt) (fun s2 => Lk (N + j.toNat + 1) s2 ((g.take j.toNat).foldl mdel M)) (fun s2 => .av (.err 60 0)) (fun s2 => [.cells [.mp 2, .mp 1, .own (s2.wait.map chgAV), vI s2.fuse, vB s2.down, vI s2.steps], .obj (mObj s2.now), .obj (mObj s2.kept)]) rfl (fun _ => rfl) (fun bs mm gd ht K hK => u_SyncL (bs.getD 0 0) (bs.getD 2 0) (bs.getD 1 0) hI2.2.2 gd.nd (by omega) mm K (fun s_ hh => hK s_ hh)) ?_
   rintro s2 hx2
   refine rt rfl fun _ => ?_
   show K (.err 60 0) (AMem.wth m [(d, dObj kb nb s2), (nb, mObj s2.now), (kb, mObj s2.kept)])
   have hu : unlR M who l = ((giveL M who l).foldl mdel M, 0) := by rw [unlR, if_neg (by omega), if_neg (not_not_intro hf0), unl_give hL.nd (by omega) (by omega) hf0]
   rw [hu] at hK
   have hq := hx2
   rw [take_full (by omega), hg] at hq
   refine hK s2 ?_
   exact hq.mono (by omega)
 refine rt rfl fun _ => ?_
 show K (.err 60 (if who < 0 ∨ 4 ≤ who then 1 else 0)) (AMem.wth m [(d, dObj kb nb s), (nb, mObj s.now), (kb, mObj s.kept)])
 have hw : who < 0 ∨ 4 ≤ who := by grind
 rw [unlR, if_pos (by omega)] at hK
 rw [if_pos hw]
 exact hK s (hL.mono (by omega))
end Go.Proofs
end
section
namespace Go.Proofs
open Go Go.Aw Go.Sx
set_option maxRecDepth 100000
noncomputable def ordL (l : List Str) : List Str := Lib.compact (sortL l)
theorem ordL_len (l : List Str) : (ordL l).length ≤ l.length := by
  have := Lib.compact_length_le (sortL l)
  rw [sortL_len] at this; exact this
theorem ordL_mem {x : Str} {l : List Str} (h : x ∈ ordL l) : x ∈ l := (sortL_perm l).mem_iff.1 (compact_mem h)
theorem u_CloneE (l : List Str) (h : l = []) (m : AMem) (K : AV → AMem → Prop) (hK : K (.slice false (([] : List Str).map strAV)) m) : ACalls Tryd.prog 26 [.slice false (l.map strAV)] m K := by
  subst h; exact u_Clone0 m K hK
theorem u_CompactE (l : List Str) (h : l = []) (m : AMem) (K : AV → AMem → Prop) (hK : K (.slice false ((ordL l).map strAV)) m) : ACalls Tryd.prog 28 [.slice false (([] : List Str).map strAV)] m K := by
  subst h
  have e : ordL [] = [] := by rw [ordL, show sortL ([] : List Str) = [] from by simp [sortL]]; rfl
  rw [e] at hK
  refine ⟨⟨_, Tryd.func28, rfl, by kernel_rfl⟩, fun F lim w cargs hsz hr st => ?_⟩
  obtain ⟨x, rfl⟩ := one_arg hsz
  have h0 : Rep w lim x (.slice false []) [] := hr 0 (by simp)
  rcases rep_slice_len h0 with ⟨a, c, rfl, _⟩
  refine (Tryd.slices_Compact_string_empty a c w).mono fun e1 w3 ⟨he, hw⟩ => ?_
  subst hw
  exact ⟨_, _, lim, _, [], he, hK, h0, st, .refl _ _ _⟩
theorem u_CompactN (b n cap t : Nat) (l : List Str) (hn : n = l.length) (hl : l.length ≤ 140737488355328) (m : AMem) (K : AV → AMem → Prop) (hK : K (.ms ⟨b, 0, none⟩ (Lib.compact l).length cap) (m.wth [(b, rowJ (Lib.compact l ++ List.replicate (l.length - (Lib.compact l).length) []) t)])) : ACalls Tryd.prog 28 [.ms ⟨b, 0, none⟩ n cap] (m.wth [(b, rowJ l t)]) K := by
  subst hn; exact u_CompactJ b cap t l hl m K hK
theorem takeE_all {M : List (Str × Str)} {who : Int} {av : Int → Bool} : ∀ {l : List Str}, takeE M who av l = 0 → ∀ n ∈ l, (ownR M n).2.2 = 0
  | [], _, n, hn => by cases hn
  | x :: r, h, n, hn => by
    rw [takeE] at h
    split at h
    · rename_i c; exact absurd h c
    · rename_i c
      split at h
      · cases h
      · rcases List.mem_cons.1 hn with rfl | hn
        · simpa using c
        · exact takeE_all h n hn
theorem own_name {M : List (Str × Str)} {n : Str} (h : (ownR M n).2.2 = 0) : nameV n = true := by
  unfold ownR at h
  split at h
  · cases h
  · rename_i c; simpa using c
theorem itoa_w {who : Int} (h0 : 0 ≤ who) (h3 : who ≤ 3) : (Lib.itoa who).length ≤ 4000 := by
  have q := itoa_4
  have hw : who = 0 ∨ who = 1 ∨ who = 2 ∨ who = 3 := by omega
  rcases hw with rfl | rfl | rfl | rfl <;> simp [q]
noncomputable def takeR (M : List (Str × Str)) (who : Int) (av : Int → Bool) (l : List Str) : List (Str × Str) × Int := if who < 0 ∨ 3 < who then (M, 1) else if takeE M who av (ordL l) ≠ 0 then (M, takeE M who av (ordL l)) else (lkF who M (ordL l), 0)
end Go.Proofs
end
