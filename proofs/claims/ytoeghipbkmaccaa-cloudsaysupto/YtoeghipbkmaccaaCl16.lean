import Derived.Test.YtoeghipbkmaccaaProg
import Derived.Test.YtoeghipbkmaccaaVa1
import Derived.Test.YtoeghipbkmaccaaCl15
namespace Go.Proofs
open Go Go.Aw
set_option maxRecDepth 100000
theorem hid_pl {α : Type} {f : α → AV} {m : AMem} {ks : List Nat} {H : List (Nat × AObj)} {av : AV} {l : List α} (h : HidR f m ks H av l) : av.plain = av := by
  rcases h.sh with ⟨_, rfl, _⟩ | ⟨b, zs, _, rfl, _⟩ <;> rfl
theorem u_SameThingsHP {m : AMem} {H : List (Nat × AObj)} {av : AV} {ks : List Nat} {l : List Thg} (hT : HidR thgAV m ks H av l) (hl : l.length ≤ 1000000) (K : AV → AMem → Prop) (hK : K (.bool true) ((m.wth H).wth [])) : ACalls Try.prog 61 [sF (l.map thgAV), av.plain] ((m.wth H).wth []) K := by
  rw [hid_pl hT]; exact u_SameThingsH hT hl K hK
theorem keep_nodup {L L1 L2 : List (Nat × AObj)} (hN : (L.map Prod.fst).Nodup) (hp : L.Perm (L1 ++ L2)) : (L1.map Prod.fst).Nodup := by
  have h := (hp.map Prod.fst).nodup_iff.1 hN
  rw [List.map_append] at h
  exact (List.nodup_append.1 h).1
section
variable {c : ClSt} {s : DSt} {token kind : Str} {v : Val} {id : Int}
theorem create_kn : (createR c s token kind v).1.2.kept = s.kept ∧ (createR c s token kind v).1.2.now = s.now := by
  unfold createR
  repeat' split
  all_goals first | exact ⟨rfl, rfl⟩ | exact ⟨(stepF_keep s).1, (stepF_keep s).2.1⟩
theorem update_kn : (updateR c s token id v).1.2.kept = s.kept ∧ (updateR c s token id v).1.2.now = s.now := by
  unfold updateR
  repeat' split
  all_goals first | exact ⟨rfl, rfl⟩ | exact ⟨(stepF_keep s).1, (stepF_keep s).2.1⟩
theorem delete_kn : (deleteR c s token id).1.2.kept = s.kept ∧ (deleteR c s token id).1.2.now = s.now := by
  unfold deleteR
  repeat' split
  all_goals first | exact ⟨rfl, rfl⟩ | exact ⟨(stepF_keep s).1, (stepF_keep s).2.1⟩
end
def cQ (z : Int) : ClSt := ⟨[], [], 1, z, 0, []⟩
set_option maxHeartbeats 16000000 in
theorem u_CloudSays (quota : Int) (l : List ActT) (hbv : ∀ a ∈ l, depV a.v ≤ 1000000000000) (m : AMem)  (K : AV → AMem → Prop) (hK : K (.bool true) m) : ACalls Try.prog 5 [iT quota, sF (l.map actAV)] m K := by
 refine acalls_enter Try.func5 rfl (by decide) (nB rfl) ?_
 show AWP _ _ _ _ [(0, iT quota), (1, sF (l.map actAV))] m
 refine rS [] [0, 1] (by decide) ?_
 intro K1 hK1
 refine ⟨tv, ?_⟩
 show K1 [(0, iT quota), (1, sF (l.map actAV))] m
 refine hK1 _ _ ?_; clear hK1 K1
 refine rS [] [0, 1, 5] (by decide) ?_
 intro K1 hK1
 refine u_rains _ _ ?_
 refine ⟨tv, ?_⟩
 show K1 [(0, iT quota), (1, sF (l.map actAV)), (5, .bool true)] m
 refine hK1 _ _ ?_; clear hK1 K1
 refine sK ?_; intro K2 hK2
 refine rS [] [0, 1, 5, 33] (by decide) ?_
 intro K1 hK1
 suffices key : K1 [(0, iT quota), (1, sF (l.map actAV)), (5, .bool true), (33, .bool (!(lightA l 80 20000)))] m by
  refine ⟨tv, tv, tv, tv, ?_⟩
  refine u_LightActs l 80 20000 _ _ ?_
  refine ⟨tv, ?_⟩
  exact key
 refine hK1 _ _ ?_; clear hK1 K1
 refine cD rfl rfl (fun h1 => ?_) (fun h1 => ?_)
 ·
  replace h1 : lightA l 80 20000 = false := (bnT h1)
  refine rS [] [4] (by decide) ?_
  intro K1 hK1
  refine ⟨tv, tv, ?_⟩
  show K1 [(4, .bool true)] m
  refine hK1 _ _ ?_; clear hK1 K1
  refine awp_ret ?_
  refine ⟨tv, m, fun _ _ h => h, ?_⟩
  show K (.bool true) m
 
  exact hK
 replace h1 : lightA l 80 20000 = true := (bnF h1)
 have hlen := lightA_len h1
 refine awp_bdL 1 (o := false) (l := l.map actAV) rfl (fun hbl => ?_)
 have hbs := acts_bdC hbl
 refine awp_skip ?_
 refine hK2 _ _ ?_; clear hK2
 refine rS [] [0, 1, 6] (by decide) ?_
 intro K1 hK1
 refine u_New0 _ _ ?_
 intro b1 b2 b3 hqb1 hb1 hb2 hb3
 have hFb1 : m b1 = none := wth_none (m := m) (L := []) hb1
 have hFb2 : m b2 = none := wth_none (m := m) (L := []) hb2
 have hFb3 : m b3 = none := wth_none (m := m) (L := []) hb3
 have hNb1 : ([b1, b2, b3] : List Nat).Nodup := wth_news (m := m) (L := []) hqb1 (by simp only [List.forall_mem_cons]; exact ⟨hb1, hb2, hb3, nfA⟩) List.nodup_nil
 show aopsR _ _ _ _ _ _ (mW m [(b1, dObj b3 b2 s0), (b2, mObj s0.now), (b3, mObj s0.kept)])
 refine ⟨tv, ?_⟩
 show K1 [(0, iT quota), (1, sF (l.map actAV)), (6, pT b1)] (mW m [(b1, dObj b3 b2 s0), (b2, mObj s0.now), (b3, mObj s0.kept)])
 refine hK1 _ _ ?_; clear hK1 K1
 refine casesB (decide (0 ≤ quota ∧ quota ≤ 40)) (fun hq => ?_) (fun hq => ?_)
 ·
  skip
  refine rS [] [0, 1, 6, 7, 8] (by decide) ?_
  intro K1 hK1
  refine ⟨tv, tv, ?_⟩
  refine u_CNew b1 quota (of_decide_eq_true hq).1 (of_decide_eq_true hq).2 _ _ ?_
  intro b4 b5 b6 b7 hqb4 hb4 hb5 hb6 hb7
  have hFb4 : m b4 = none := wth_none hb4
  have hFb5 : m b5 = none := wth_none hb5
  have hFb6 : m b6 = none := wth_none hb6
  have hFb7 : m b7 = none := wth_none hb7
  have hNb4 : ([b4, b5, b6, b7, b1, b2, b3] : List Nat).Nodup := wth_news (m := m) (L := [(b1, dObj b3 b2 s0), (b2, mObj s0.now), (b3, mObj s0.kept)]) hqb4 (by simp only [List.forall_mem_cons]; exact ⟨hb4, hb5, hb6, hb7, nfA⟩) hNb1
  show aopsR _ _ _ _ _ _ (mW m [(b4, cObj b1 b7 b6 b5 (cQ quota)), (b5, fObj ([] : List (Int × Bool))), (b6, oObj ([] : List (Str × Dn))), (b7, tObj ([] : List (Int × Thg))), (b1, dObj b3 b2 s0), (b2, mObj s0.now), (b3, mObj s0.kept)])
  refine ⟨tv, (nB rfl), (nB rfl), tv, tv, ?_⟩
  show K1 [(0, iT quota), (1, sF (l.map actAV)), (6, pT b1), (7, pT b4), (8, .err 108 0)] (mW m [(b4, cObj b1 b7 b6 b5 (cQ quota)), (b5, fObj ([] : List (Int × Bool))), (b6, oObj ([] : List (Str × Dn))), (b7, tObj ([] : List (Int × Thg))), (b1, dObj b3 b2 s0), (b2, mObj s0.now), (b3, mObj s0.kept)])
  refine hK1 _ _ ?_; clear hK1 K1
  refine sK ?_; intro K3 hK3
  refine rS [] [0, 1, 6, 7, 8, 47] (by decide) ?_
  intro K1 hK1
  suffices key : K1 [(0, iT quota), (1, sF (l.map actAV)), (6, pT b1), (7, pT b4), (8, .err 108 0), (47, .bool ((decide (quota < 0)) || (decide (40 < quota))))] (mW m [(b4, cObj b1 b7 b6 b5 (cQ quota)), (b5, fObj ([] : List (Int × Bool))), (b6, oObj ([] : List (Str × Dn))), (b7, tObj ([] : List (Int × Thg))), (b1, dObj b3 b2 s0), (b2, mObj s0.now), (b3, mObj s0.kept)]) by
   refine ⟨tv, tv, tv, ?_⟩
   show aopsR _ _ _ _ _ [(44, .bool (decide (quota < 0))), (43, .bool (decide (quota < 0))), (42, iT quota), (0, iT quota), (1, sF (l.map actAV)), (6, pT b1), (7, pT b4), (8, .err 108 0)] _
   refine (bool_ff ((decide (quota < 0)))).elim (fun h2 => ?_) (fun h2 => ?_)
   ·
    refine ar_frame [(44, .bool false), (43, .bool false), (42, iT quota), (0, iT quota), (1, sF (l.map actAV)), (6, pT b1), (7, pT b4), (8, .err 108 0)] (by first | (rw [h2]; done) | (rw [h2]; rfl)) ?_
    try rw [h2] at key
    replace h2 : 0 ≤ quota := (Int.not_lt.1 (of_decide_eq_false h2))
    refine ⟨tv, tv, ?_⟩
    exact key
   ·
    refine ar_frame [(44, .bool true), (43, .bool true), (42, iT quota), (0, iT quota), (1, sF (l.map actAV)), (6, pT b1), (7, pT b4), (8, .err 108 0)] (by first | (rw [h2]; done) | (rw [h2]; rfl)) ?_
    try rw [h2] at key
    replace h2 : quota < 0 := (of_decide_eq_true h2)
    refine ar_off rfl (ar_off rfl ?_)
    exact key
  refine hK1 _ _ ?_; clear hK1 K1
  refine cD rfl rfl (fun h3 => ?_) (fun h3 => ?_)
  ·
   replace h3 : (quota < 0) ∨ (40 < quota) := ((borT h3).imp (fun q => (of_decide_eq_true q)) (fun q => (of_decide_eq_true q)))
   have hq2 := of_decide_eq_true hq
   omega
  replace h3 : (0 ≤ quota) ∧ (quota ≤ 40) := ⟨(Int.not_lt.1 (of_decide_eq_false (borL h3))), (Int.not_lt.1 (of_decide_eq_false (borR h3)))⟩
  refine awp_skip ?_
  refine hK3 _ _ ?_; clear hK3
  refine sK ?_; intro K4 hK4
  refine rS [] [0, 1, 6, 7, 59] (by decide) ?_
  intro K1 hK1
  suffices key : K1 [(0, iT quota), (1, sF (l.map actAV)), (6, pT b1), (7, pT b4), (59, .bool false)] (mW m [(b4, cObj b1 b7 b6 b5 (cQ quota)), (b5, fObj ([] : List (Int × Bool))), (b6, oObj ([] : List (Str × Dn))), (b7, tObj ([] : List (Int × Thg))), (b1, dObj b3 b2 s0), (b2, mObj s0.now), (b3, mObj s0.kept)]) by
   refine ⟨tv, ⟨rfl, rfl⟩, tv, tv, rfl, ?_⟩
   exact key
  refine hK1 _ _ ?_; clear hK1 K1
  refine cD rfl rfl (fun hcz => ?_) (fun hcz => ?_)
  ·
   cases hcz
  clear hcz
  refine awp_skip ?_
  refine hK4 _ _ ?_; clear hK4
  refine rS [] [0, 1, 6, 7, 9] (by decide) ?_
  intro K1 hK1
  refine u_QNewZ _ _ ?_
  intro b8 hb8
  have hFb8 : m b8 = none := wth_none hb8
  have hNb8 : ([b8, b4, b5, b6, b7, b1, b2, b3] : List Nat).Nodup := wth_nodup hb8 hNb4
  show aopsR _ _ _ _ _ _ (mW m [(b8, zR s0), (b4, cObj b1 b7 b6 b5 (cQ quota)), (b5, fObj ([] : List (Int × Bool))), (b6, oObj ([] : List (Str × Dn))), (b7, tObj ([] : List (Int × Thg))), (b1, dObj b3 b2 s0), (b2, mObj s0.now), (b3, mObj s0.kept)])
  refine ⟨tv, ?_⟩
  show K1 [(0, iT quota), (1, sF (l.map actAV)), (6, pT b1), (7, pT b4), (9, pT b8)] (mW m [(b8, zR s0), (b4, cObj b1 b7 b6 b5 (cQ quota)), (b5, fObj ([] : List (Int × Bool))), (b6, oObj ([] : List (Str × Dn))), (b7, tObj ([] : List (Int × Thg))), (b1, dObj b3 b2 s0), (b2, mObj s0.now), (b3, mObj s0.kept)])
  refine hK1 _ _ ?_; clear hK1 K1
  refine rS [] [1, 6, 7, 9, 10] (by decide) ?_
  intro K1 hK1
  refine ⟨tv, tv, ?_⟩
  refine u_RNew b8 quota _ _ ?_
  intro b9 hb9
  have hFb9 : m b9 = none := wth_none hb9
  have hNb9 : ([b9, b8, b4, b5, b6, b7, b1, b2, b3] : List Nat).Nodup := wth_nodup hb9 hNb8
  show aopsR _ _ _ _ _ _ (mW m [(b9, rcObj b8 .nils (cQ quota) ([])), (b8, zR s0), (b4, cObj b1 b7 b6 b5 (cQ quota)), (b5, fObj ([] : List (Int × Bool))), (b6, oObj ([] : List (Str × Dn))), (b7, tObj ([] : List (Int × Thg))), (b1, dObj b3 b2 s0), (b2, mObj s0.now), (b3, mObj s0.kept)])
  refine ⟨tv, ?_⟩
  show K1 [(1, sF (l.map actAV)), (6, pT b1), (7, pT b4), (9, pT b8), (10, pT b9)] (mW m [(b9, rcObj b8 .nils (cQ quota) ([])), (b8, zR s0), (b4, cObj b1 b7 b6 b5 (cQ quota)), (b5, fObj ([] : List (Int × Bool))), (b6, oObj ([] : List (Str × Dn))), (b7, tObj ([] : List (Int × Thg))), (b1, dObj b3 b2 s0), (b2, mObj s0.now), (b3, mObj s0.kept)])
  refine hK1 _ _ ?_; clear hK1 K1
  refine sK ?_; intro K5 hK5
  refine rS [] [1, 6, 7, 9, 10, 11] (by decide) ?_
  intro K1 hK1
  refine ⟨tv, ?_⟩
  show K1 [(1, sF (l.map actAV)), (6, pT b1), (7, pT b4), (9, pT b8), (10, pT b9), (11, iT 0)] _
  refine hK1 _ _ ?_; clear hK1 K1
  have hNp1 : ([b2, b9, b8, b4, b5, b6, b7, b1, b3] : List Nat).Nodup := drop_nodup (L := [(b9, rcObj b8 .nils (cQ quota) ([])), (b8, zR s0), (b4, cObj b1 b7 b6 b5 (cQ quota)), (b5, fObj ([] : List (Int × Bool))), (b6, oObj ([] : List (Str × Dn))), (b7, tObj ([] : List (Int × Thg))), (b1, dObj b3 b2 s0), (b2, mObj s0.now), (b3, mObj s0.kept)]) (L1 := []) (L2 := [(b2, mObj s0.now), (b9, rcObj b8 .nils (cQ quota) ([])), (b8, zR s0), (b4, cObj b1 b7 b6 b5 (cQ quota)), (b5, fObj ([] : List (Int × Bool))), (b6, oObj ([] : List (Str × Dn))), (b7, tObj ([] : List (Int × Thg))), (b1, dObj b3 b2 s0), (b3, mObj s0.kept)]) hNb9 (show ([(b9, rcObj b8 .nils (cQ quota) ([])), (b8, zR s0), (b4, cObj b1 b7 b6 b5 (cQ quota)), (b5, fObj ([] : List (Int × Bool))), (b6, oObj ([] : List (Str × Dn))), (b7, tObj ([] : List (Int × Thg))), (b1, dObj b3 b2 s0), (b2, mObj s0.now), (b3, mObj s0.kept)] : List (Nat × AObj)).Perm [(b2, mObj s0.now), (b9, rcObj b8 .nils (cQ quota) ([])), (b8, zR s0), (b4, cObj b1 b7 b6 b5 (cQ quota)), (b5, fObj ([] : List (Int × Bool))), (b6, oObj ([] : List (Str × Dn))), (b7, tObj ([] : List (Int × Thg))), (b1, dObj b3 b2 s0), (b3, mObj s0.kept)] from pick_perm [7, 0, 0, 0, 0, 0, 0, 0, 0] _)
  refine awp_dropP [] [(b2, mObj s0.now), (b9, rcObj b8 .nils (cQ quota) ([])), (b8, zR s0), (b4, cObj b1 b7 b6 b5 (cQ quota)), (b5, fObj ([] : List (Int × Bool))), (b6, oObj ([] : List (Str × Dn))), (b7, tObj ([] : List (Int × Thg))), (b1, dObj b3 b2 s0), (b3, mObj s0.kept)] hNb9 (show ([(b9, rcObj b8 .nils (cQ quota) ([])), (b8, zR s0), (b4, cObj b1 b7 b6 b5 (cQ quota)), (b5, fObj ([] : List (Int × Bool))), (b6, oObj ([] : List (Str × Dn))), (b7, tObj ([] : List (Int × Thg))), (b1, dObj b3 b2 s0), (b2, mObj s0.now), (b3, mObj s0.kept)] : List (Nat × AObj)).Perm [(b2, mObj s0.now), (b9, rcObj b8 .nils (cQ quota) ([])), (b8, zR s0), (b4, cObj b1 b7 b6 b5 (cQ quota)), (b5, fObj ([] : List (Int × Bool))), (b6, oObj ([] : List (Str × Dn))), (b7, tObj ([] : List (Int × Thg))), (b1, dObj b3 b2 s0), (b3, mObj s0.kept)] from pick_perm [7, 0, 0, 0, 0, 0, 0, 0, 0] _) (fun _ h => by cases h) ?_
  show AWP _ _ _ _ [(1, sF (l.map actAV)), (6, pT b1), (7, pT b4), (9, pT b8), (10, pT b9), (11, iT 0)] (mW m [(b2, mObj s0.now), (b9, rcObj b8 .nils (cQ quota) ([])), (b8, zR s0), (b4, cObj b1 b7 b6 b5 (cQ quota)), (b5, fObj ([] : List (Int × Bool))), (b6, oObj ([] : List (Str × Dn))), (b7, tObj ([] : List (Int × Thg))), (b1, dObj b3 b2 s0), (b3, mObj s0.kept)])
  refine awp_block ?_
  refine awp_keep [1, 6, 7, 9, 10, 11] (by decide) ?_
  refine awp_loop_st (σ := Int × Nat × (List Int) × (List (Nat × AObj)) × AV × ClSt × DSt) (fun ⟨i, qn, F, H, av, c, s⟩ => [(1, sF (l.map actAV)), (6, pT b1), (7, pT b4), (9, pT b8), (10, pT b9), (11, iT i)]) (fun ⟨i, qn, F, H, av, c, s⟩ => (mW (mW m H) [(qn, mObj s.now), (b9, rcObj b8 av c F), (b8, zR s), (b4, cObj b1 b7 b6 b5 c), (b5, fObj c.fails), (b6, oObj c.tokens), (b7, tObj c.things), (b1, dObj b3 qn s), (b3, mObj s.kept)])) (fun ⟨i, qn, F, H, av, c, s⟩ => ([qn, b9, b8, b4, b5, b6, b7, b1, b3] : List Nat).Nodup ∧ (mW m H) qn = none ∧ (0 ≤ i ∧ i ≤ l.length ∧ l.length ≤ 80 ∧ Two s () i.toNat ∧ CI c F i.toNat ∧ HidR thgAV m [b1, b3, b4, b5, b6, b7, b8, b9, qn] H av (vals c))) (fun ⟨i, qn, F, H, av, c, s⟩ => l.length - i.toNat) (0, b2, [], [], .nils, cQ quota, s0) rfl rfl ?_ ?_
  ·
   show ([((b2 : Nat)), b9, b8, b4, b5, b6, b7, b1, b3] : List Nat).Nodup ∧ (mW m (([] : (List (Nat × AObj))))) ((b2 : Nat)) = none ∧ (0 ≤ ((0 : Int)) ∧ ((0 : Int)) ≤ l.length ∧ l.length ≤ 80 ∧ Two ((s0 : DSt)) () ((0 : Int)).toNat ∧ CI ((cQ quota : ClSt)) (([] : (List Int))) ((0 : Int)).toNat ∧ HidR thgAV m [b1, b3, b4, b5, b6, b7, b8, b9, ((b2 : Nat))] (([] : (List (Nat × AObj)))) ((.nils : AV)) (vals ((cQ quota : ClSt))))
   refine ⟨hNp1, hFb2, ?_⟩
   exact ⟨by omega, by omega, by omega, Em.start0, CI.start quota, HidR.nil m _⟩
  rintro ⟨i, qn, F, H, av, c, s⟩ ⟨hNqn, hFqn, hI⟩
  replace hI : 0 ≤ i ∧ i ≤ l.length ∧ l.length ≤ 80 ∧ Two s () i.toNat ∧ CI c F i.toNat ∧ HidR thgAV m [b1, b3, b4, b5, b6, b7, b8, b9, qn] H av (vals c) := hI
  replace hNqn : ([qn, b9, b8, b4, b5, b6, b7, b1, b3] : List Nat).Nodup := hNqn
  replace hFqn : (mW m H) qn = none := hFqn
  have hTH := hI.2.2.2.2.2
  have hFl := hI.2.2.2.2.1.Fl
  have hG0b9 : (mW m H) b9 = none := hTH.loc hFb9 (by simp)
  have hG0b8 : (mW m H) b8 = none := hTH.loc hFb8 (by simp)
  have hG0b4 : (mW m H) b4 = none := hTH.loc hFb4 (by simp)
  have hG0b5 : (mW m H) b5 = none := hTH.loc hFb5 (by simp)
  have hG0b6 : (mW m H) b6 = none := hTH.loc hFb6 (by simp)
  have hG0b7 : (mW m H) b7 = none := hTH.loc hFb7 (by simp)
  have hG0b1 : (mW m H) b1 = none := hTH.loc hFb1 (by simp)
  have hG0b3 : (mW m H) b3 = none := hTH.loc hFb3 (by simp)
  show AWP _ _ _ _ [(1, sF (l.map actAV)), (6, pT b1), (7, pT b4), (9, pT b8), (10, pT b9), (11, iT i)] (mW (mW m H) [(qn, mObj s.now), (b9, rcObj b8 av c F), (b8, zR s), (b4, cObj b1 b7 b6 b5 c), (b5, fObj c.fails), (b6, oObj c.tokens), (b7, tObj c.things), (b1, dObj b3 qn s), (b3, mObj s.kept)])
  refine sK ?_; intro K6 hK6
  refine rS [] [1, 6, 7, 9, 10, 11, 67] (by decide) ?_
  intro K1 hK1
  refine ⟨tv, tv, ?_⟩
  refine ar_len rfl actAV l rfl rfl rfl ?_
  refine ⟨tv, ?_⟩
  show K1 [(1, sF (l.map actAV)), (6, pT b1), (7, pT b4), (9, pT b8), (10, pT b9), (11, iT i), (67, .bool (decide (i < (l.length : Int))))] _
  refine hK1 _ _ ?_; clear hK1 K1
  refine cD rfl rfl (fun h4 => ?_) (fun h4 => ?_)
  ·
   replace h4 : i < (l.length : Int) := (of_decide_eq_true h4)
   have hBi : depV (gI l i).v ≤ 1000000000000 := hbv (gI l i) (gI_mem hI.1 h4)
   refine awp_skip ?_
   refine hK6 _ _ ?_; clear hK6
   refine sK ?_; intro K7 hK7
   refine awp_block ?_
   refine rS [] [1, 6, 7, 9, 10, 11, 12] (by decide) ?_
   intro K1 hK1
   refine ⟨tv, tv, ?_⟩
   refine ar_index rfl actAV l i rfl rfl rfl rfl rfl (by decide) (fun _ => rfl) (by omega) (by omega) ?_
   refine ⟨(apartOk_agg rfl rfl (nB rfl)), ?_⟩
   refine ar_alloc rfl (z := .agg [.str ([]), .str ([]), .str ([]), iT 0, iT 0, iT 0, iT 0, .str ([]), .slice true [], .slice true [], .slice true []]) rfl rfl ?_
   intro b10 hb10
   have hFb10 : (mW m H) b10 = none := wth_none hb10
   have hNb10 : ([b10, qn, b9, b8, b4, b5, b6, b7, b1, b3] : List Nat).Nodup := wth_nodup hb10 hNqn
   refine aS rfl 0 (v := actAV (gI l i)) (l' := [.str ((gI l i).kind), .str ((gI l i).s), .str ((gI l i).t), iT ((gI l i).a), iT ((gI l i).b), iT (((gI l i).v).kind), iT (((gI l i).v).n), .str (((gI l i).v).s), sF ((((gI l i).v).l).map valIn), sF ((((gI l i).v).f).map fldIn), sF (((gI l i).names).map strAV)]) rfl (by rfl) hNb10 rfl rfl rfl rfl rfl (nB rfl) rfl ?_
   show K1 [(1, sF (l.map actAV)), (6, pT b1), (7, pT b4), (9, pT b8), (10, pT b9), (11, iT i), (12, pT b10)] (mW (mW m H) [(b10, actObj (gI l i)), (qn, mObj s.now), (b9, rcObj b8 av c F), (b8, zR s), (b4, cObj b1 b7 b6 b5 c), (b5, fObj c.fails), (b6, oObj c.tokens), (b7, tObj c.things), (b1, dObj b3 qn s), (b3, mObj s.kept)])
   refine hK1 _ _ ?_; clear hK1 K1
   refine rS [] [1, 6, 7, 9, 10, 11, 12, 13] (by decide) ?_
   intro K1 hK1
   refine ⟨tv, ?_⟩
   show K1 [(1, sF (l.map actAV)), (6, pT b1), (7, pT b4), (9, pT b8), (10, pT b9), (11, iT i), (12, pT b10), (13, .bool true)] _
   refine hK1 _ _ ?_; clear hK1 K1
   refine sK ?_; intro K8 hK8
   refine rS [] [1, 6, 7, 9, 10, 11, 12, 13, 75] (by decide) ?_
   intro K1 hK1
   refine ⟨⟨rfl, by decide⟩, ?_⟩
   refine aL rfl (v := .str ((gI l i).kind)) rfl (wG 0 hNb10 rfl) rfl (aO rfl rfl (nB rfl)) rfl ?_
   show K1 [(1, sF (l.map actAV)), (6, pT b1), (7, pT b4), (9, pT b8), (10, pT b9), (11, iT i), (12, pT b10), (13, .bool true), (75, .str ((gI l i).kind))] _
   refine hK1 _ _ ?_; clear hK1 K1
   refine awp_block ?_
   refine rS [] [1, 6, 7, 9, 10, 11, 12, 13, 75, 88] (by decide) ?_
   intro K1 hK1
   refine ⟨tv, tv, ?_⟩
   show K1 [(1, sF (l.map actAV)), (6, pT b1), (7, pT b4), (9, pT b8), (10, pT b9), (11, iT i), (12, pT b10), (13, .bool true), (75, .str ((gI l i).kind)), (88, .bool (((gI l i).kind) == ([99, 114, 101, 97, 116, 101] : List UInt8)))] _
   refine hK1 _ _ ?_; clear hK1 K1
   refine cD rfl rfl (fun h5 => ?_) (fun h5 => ?_)
   ·
    replace h5 : (gI l i).kind = ([99, 114, 101, 97, 116, 101] : List UInt8) := (eq_of_beq h5)
    obtain ⟨r1, hr1⟩ : ∃ r1, createR c s (gI l i).s (gI l i).t (gI l i).v = r1 := ⟨_, rfl⟩
    have hCI := hI.2.2.2.2.1.create (s := s) (token := (gI l i).s) (kind := (gI l i).t) (v := (gI l i).v)
    have hT2 := two_create (c := c) (token := (gI l i).s) (kind := (gI l i).t) (v := (gI l i).v) hI.2.2.2.1
    have hnn := createR_nn (c := c) (s := s) (token := (gI l i).s) (kind := (gI l i).t) (v := (gI l i).v)
    have hkn := create_kn (c := c) (s := s) (token := (gI l i).s) (kind := (gI l i).t) (v := (gI l i).v)
    rw [hr1] at hCI hT2 hnn hkn
    refine rS [] [1, 6, 7, 9, 10, 11, 12, 14, 15] (by decide) ?_
    intro K1 hK1
    refine ⟨tv, ⟨rfl, by decide⟩, ?_⟩
    refine aL rfl (v := .str ((gI l i).s)) rfl (wG 0 hNb10 rfl) rfl (aO rfl rfl (nB rfl)) rfl ?_
    refine ⟨⟨rfl, by decide⟩, ?_⟩
    refine aL rfl (v := .str ((gI l i).t)) rfl (wG 0 hNb10 rfl) rfl (aO rfl rfl (nB rfl)) rfl ?_
    refine ⟨⟨rfl, by decide⟩, ?_⟩
    refine aL rfl (v := .agg [iT (((gI l i).v).kind), iT (((gI l i).v).n), .str (((gI l i).v).s), sF ((((gI l i).v).l).map valIn), sF ((((gI l i).v).f).map fldIn)]) rfl (wG 0 hNb10 rfl) rfl (apartOk_agg rfl rfl (nB rfl)) rfl ?_
    refine ar_mem (wS hNb10 (pick_perm [4, 7, 6, 5, 4] _)) ?_
    refine u_CreateC b4 b1 b7 b6 b5 b3 qn c s ((gI l i).s) ((gI l i).t) ((gI l i).v) i.toNat F () r1 hr1 (show ([b4, b1, b7, b6, b5] : List Nat).Nodup from keep_nodup (L := [(b10, actObj (gI l i)), (qn, mObj s.now), (b9, rcObj b8 av c F), (b8, zR s), (b4, cObj b1 b7 b6 b5 c), (b5, fObj c.fails), (b6, oObj c.tokens), (b7, tObj c.things), (b1, dObj b3 qn s), (b3, mObj s.kept)]) hNb10 (pick_perm [4, 7, 6, 5, 4] _)) hI.2.2.2.2.1 hI.2.2.2.1 (by omega) (hbs _ (gI_mem hI.1 (by assumption))).2.1 _ _ ?_
    refine ar_mem (wS (m := (mW m H)) (L := [(b10, actObj (gI l i)), (qn, mObj s.now), (b9, rcObj b8 av c F), (b8, zR s), (b4, cObj b1 b7 b6 b5 r1.1.1), (b5, fObj r1.1.1.fails), (b6, oObj r1.1.1.tokens), (b7, tObj r1.1.1.things), (b1, dObj b3 qn r1.1.2), (b3, mObj s.kept)]) hNb10 (pick_perm [4, 7, 6, 5, 4] _)).symm ?_
    refine ⟨tv, (nB rfl), (nB rfl), tv, tv, ?_⟩
    show K1 [(1, sF (l.map actAV)), (6, pT b1), (7, pT b4), (9, pT b8), (10, pT b9), (11, iT i), (12, pT b10), (14, iT r1.2.1), (15, .err 108 r1.2.2)] (mW (mW m H) [(b10, actObj (gI l i)), (qn, mObj s.now), (b9, rcObj b8 av c F), (b8, zR s), (b4, cObj b1 b7 b6 b5 r1.1.1), (b5, fObj r1.1.1.fails), (b6, oObj r1.1.1.tokens), (b7, tObj r1.1.1.things), (b1, dObj b3 qn r1.1.2), (b3, mObj s.kept)])
    refine hK1 _ _ ?_; clear hK1 K1
    refine rS [] [1, 6, 7, 9, 10, 11, 14, 15, 16, 17] (by decide) ?_
    intro K1 hK1
    refine ⟨tv, ⟨rfl, by decide⟩, ?_⟩
    refine aL rfl (v := .str ((gI l i).s)) rfl (wG 0 hNb10 rfl) rfl (aO rfl rfl (nB rfl)) rfl ?_
    refine ⟨⟨rfl, by decide⟩, ?_⟩
    refine aL rfl (v := .str ((gI l i).t)) rfl (wG 0 hNb10 rfl) rfl (aO rfl rfl (nB rfl)) rfl ?_
    refine ⟨⟨rfl, by decide⟩, ?_⟩
    refine aL rfl (v := .agg [iT (((gI l i).v).kind), iT (((gI l i).v).n), .str (((gI l i).v).s), sF ((((gI l i).v).l).map valIn), sF ((((gI l i).v).f).map fldIn)]) rfl (wG 0 hNb10 rfl) rfl (apartOk_agg rfl rfl (nB rfl)) rfl ?_
    have hD1 : ∀ cz ∈ ([b10, qn, b9, b8, b4, b5, b6, b7, b1, b3] : List Nat), cz ∉ List.map Prod.fst H := by simp only [List.forall_mem_cons]; exact ⟨hid_nin (m := m) hFb10, hid_nin (m := m) hFqn, hid_nin (m := m) hG0b9, hid_nin (m := m) hG0b8, hid_nin (m := m) hG0b4, hid_nin (m := m) hG0b5, hid_nin (m := m) hG0b6, hid_nin (m := m) hG0b7, hid_nin (m := m) hG0b1, hid_nin (m := m) hG0b3, nfA⟩
    have hTc1 : HidR _ (mW m _) [b9, b8] H _ _ := HidR.call (L := [(b10, actObj (gI l i)), (qn, mObj s.now), (b9, rcObj b8 av c F), (b8, zR s), (b4, cObj b1 b7 b6 b5 r1.1.1), (b5, fObj r1.1.1.fails), (b6, oObj r1.1.1.tokens), (b7, tObj r1.1.1.things), (b1, dObj b3 qn r1.1.2), (b3, mObj s.kept)]) hTH (pick_perm [2, 2] _) hD1
    refine ar_mem (hid_call (m := m) (H := H) (L := [(b10, actObj (gI l i)), (qn, mObj s.now), (b9, rcObj b8 av c F), (b8, zR s), (b4, cObj b1 b7 b6 b5 r1.1.1), (b5, fObj r1.1.1.fails), (b6, oObj r1.1.1.tokens), (b7, tObj r1.1.1.things), (b1, dObj b3 qn r1.1.2), (b3, mObj s.kept)]) hNb10 (pick_perm [2, 2] _) hTH.nd hD1) ?_
    refine u_Do1W b9 b8 () s c F ((gI l i).s) ((gI l i).t) 0 ((gI l i).v) i.toNat r1 hr1 hTc1 (by simp) (by simp) (show ([b9, b8] : List Nat).Nodup from keep_nodup (L := [(b10, actObj (gI l i)), (qn, mObj s.now), (b9, rcObj b8 av c F), (b8, zR s), (b4, cObj b1 b7 b6 b5 r1.1.1), (b5, fObj r1.1.1.fails), (b6, oObj r1.1.1.tokens), (b7, tObj r1.1.1.things), (b1, dObj b3 qn r1.1.2), (b3, mObj s.kept)]) hNb10 (pick_perm [2, 2] _)) hI.2.2.2.2.1 hI.2.2.2.1 (by omega) hBi _ ?_
    intro H1 av1 hTn1
    show aopsR _ _ _ _ _ _ (mW (mW (mW m [(b10, actObj (gI l i)), (qn, mObj s.now), (b4, cObj b1 b7 b6 b5 r1.1.1), (b5, fObj r1.1.1.fails), (b6, oObj r1.1.1.tokens), (b7, tObj r1.1.1.things), (b1, dObj b3 qn r1.1.2), (b3, mObj s.kept)]) H1) [(b9, rcObj b8 av1 r1.1.1 F), (b8, zR r1.1.2)])
    have hTb1 : HidR _ m [b10, qn, b9, b8, b4, b5, b6, b7, b1, b3] H1 _ _ := HidR.back (L := [(b10, actObj (gI l i)), (qn, mObj s.now), (b9, rcObj b8 av1 r1.1.1 F), (b8, zR r1.1.2), (b4, cObj b1 b7 b6 b5 r1.1.1), (b5, fObj r1.1.1.fails), (b6, oObj r1.1.1.tokens), (b7, tObj r1.1.1.things), (b1, dObj b3 qn r1.1.2), (b3, mObj s.kept)]) hTn1 rfl (pick_perm [2, 2] _)
    have hE1 : ∀ cz ∈ ([b10, qn, b9, b8, b4, b5, b6, b7, b1, b3] : List Nat), cz ∉ List.map Prod.fst H1 := fun cz hc => hTb1.nin hc
    refine ar_mem (hid_call (m := m) (H := H1) (L := [(b10, actObj (gI l i)), (qn, mObj s.now), (b9, rcObj b8 av1 r1.1.1 F), (b8, zR r1.1.2), (b4, cObj b1 b7 b6 b5 r1.1.1), (b5, fObj r1.1.1.fails), (b6, oObj r1.1.1.tokens), (b7, tObj r1.1.1.things), (b1, dObj b3 qn r1.1.2), (b3, mObj s.kept)]) hNb10 (pick_perm [2, 2] _) hTb1.nd hE1).symm ?_
    have hG1b10 : (mW m H1) b10 = none := hTb1.loc (hid_base (m := m) hFb10) (by simp)
    have hG1qn : (mW m H1) qn = none := hTb1.loc (hid_base (m := m) hFqn) (by simp)
    have hG1b9 : (mW m H1) b9 = none := hTb1.loc (hid_base (m := m) hG0b9) (by simp)
    have hG1b8 : (mW m H1) b8 = none := hTb1.loc (hid_base (m := m) hG0b8) (by simp)
    have hG1b4 : (mW m H1) b4 = none := hTb1.loc (hid_base (m := m) hG0b4) (by simp)
    have hG1b5 : (mW m H1) b5 = none := hTb1.loc (hid_base (m := m) hG0b5) (by simp)
    have hG1b6 : (mW m H1) b6 = none := hTb1.loc (hid_base (m := m) hG0b6) (by simp)
    have hG1b7 : (mW m H1) b7 = none := hTb1.loc (hid_base (m := m) hG0b7) (by simp)
    have hG1b1 : (mW m H1) b1 = none := hTb1.loc (hid_base (m := m) hG0b1) (by simp)
    have hG1b3 : (mW m H1) b3 = none := hTb1.loc (hid_base (m := m) hG0b3) (by simp)
    show aopsR _ _ _ _ _ _ (mW (mW m H1) [(b10, actObj (gI l i)), (qn, mObj s.now), (b9, rcObj b8 av1 r1.1.1 F), (b8, zR r1.1.2), (b4, cObj b1 b7 b6 b5 r1.1.1), (b5, fObj r1.1.1.fails), (b6, oObj r1.1.1.tokens), (b7, tObj r1.1.1.things), (b1, dObj b3 qn r1.1.2), (b3, mObj s.kept)])
    refine ⟨tv, (nB rfl), (nB rfl), tv, tv, ?_⟩
    show K1 [(1, sF (l.map actAV)), (6, pT b1), (7, pT b4), (9, pT b8), (10, pT b9), (11, iT i), (14, iT r1.2.1), (15, .err 108 r1.2.2), (16, iT r1.2.1), (17, iT r1.2.2)] (mW (mW m H1) [(b10, actObj (gI l i)), (qn, mObj s.now), (b9, rcObj b8 av1 r1.1.1 F), (b8, zR r1.1.2), (b4, cObj b1 b7 b6 b5 r1.1.1), (b5, fObj r1.1.1.fails), (b6, oObj r1.1.1.tokens), (b7, tObj r1.1.1.things), (b1, dObj b3 qn r1.1.2), (b3, mObj s.kept)])
    refine hK1 _ _ ?_; clear hK1 K1
    refine awp_reg2 [] [1, 6, 7, 9, 10, 11, 13] (by decide) ?_
    intro K1 hK1
    suffices key : K1 [(1, sF (l.map actAV)), (6, pT b1), (7, pT b4), (9, pT b8), (10, pT b9), (11, iT i), (13, .bool true)] (mW (mW m H1) [(b10, actObj (gI l i)), (qn, mObj s.now), (b9, rcObj b8 av1 r1.1.1 F), (b8, zR r1.1.2), (b4, cObj b1 b7 b6 b5 r1.1.1), (b5, fObj r1.1.1.fails), (b6, oObj r1.1.1.tokens), (b7, tObj r1.1.1.things), (b1, dObj b3 qn r1.1.2), (b3, mObj s.kept)]) by
     refine ⟨tv, tv, tv, ?_⟩
     refine ar_top 114 (.bool true) (cgA AV.bool (by simp)) ?_
     refine ⟨tv, tv, tv, ?_⟩
     refine u_same_eq r1.2.2 (by first | decide | assumption | exact readC_nn) _ _ ?_
     refine ⟨tv, ?_⟩
     exact key
    refine hK1 _ _ ?_; clear hK1 K1
    rw [show mObj s.kept = mObj r1.1.2.kept from by rw [hkn.1], show mObj s.now = mObj r1.1.2.now from by rw [hkn.2]]
    refine hK8 _ _ ?_; clear hK8
    refine awp_draw_seq Try.mixed [(iT r1.1.1.calls), (sF ((vals r1.1.1).map thgAV)), (.bool true)] [1, 6, 7, 9, 10, 11, 265] (by decide) (by decide) ?_
    intro K1 hK1
    suffices key : K1 [(1, sF (l.map actAV)), (6, pT b1), (7, pT b4), (9, pT b8), (10, pT b9), (11, iT i), (265, .bool false)] (mW (mW m H1) [(b10, actObj (gI l i)), (qn, mObj r1.1.2.now), (b9, rcObj b8 av1 r1.1.1 F), (b8, zR r1.1.2), (b4, cObj b1 b7 b6 b5 r1.1.1), (b5, fObj r1.1.1.fails), (b6, oObj r1.1.1.tokens), (b7, tObj r1.1.1.things), (b1, dObj b3 qn r1.1.2), (b3, mObj r1.1.2.kept)]) by
     refine ⟨tv, tv, tv, tv, (pure_mem (wS (m := (mW m H1)) (L := [(b10, actObj (gI l i)), (qn, mObj r1.1.2.now), (b9, rcObj b8 av1 r1.1.1 F), (b8, zR r1.1.2), (b4, cObj b1 b7 b6 b5 r1.1.1), (b5, fObj r1.1.1.fails), (b6, oObj r1.1.1.tokens), (b7, tObj r1.1.1.things), (b1, dObj b3 qn r1.1.2), (b3, mObj r1.1.2.kept)]) hNb10 (pick_perm [4] _)) (fun Kc hKc => u_CCalls b4 b1 b7 b6 b5 r1.1.1 _ Kc hKc)), tv, tv, ⟨rfl, by decide⟩, ?_⟩
     refine pq_loadp rfl (v := iT r1.1.1.calls) rfl (wG 2 hNb10 rfl) (aO rfl rfl (nB rfl)) rfl ?_
     refine ⟨tv, ?_⟩
     refine pq_top 254 (.bool false) (cgA AV.bool (by simp)) ?_
     refine ⟨tv, ?_⟩
     refine ⟨tv, tv, (pure_mem (wS (m := (mW m H1)) (L := [(b10, actObj (gI l i)), (qn, mObj r1.1.2.now), (b9, rcObj b8 av1 r1.1.1 F), (b8, zR r1.1.2), (b4, cObj b1 b7 b6 b5 r1.1.1), (b5, fObj r1.1.1.fails), (b6, oObj r1.1.1.tokens), (b7, tObj r1.1.1.things), (b1, dObj b3 qn r1.1.2), (b3, mObj r1.1.2.kept)]) hNb10 (pick_perm [4, 6] _)) (fun Kc hKc => u_AllC b4 b1 b7 b6 b5 r1.1.1 _ _ (show ([b4, b7] : List Nat).Nodup from keep_nodup (L := [(b10, actObj (gI l i)), (qn, mObj r1.1.2.now), (b9, rcObj b8 av1 r1.1.1 F), (b8, zR r1.1.2), (b4, cObj b1 b7 b6 b5 r1.1.1), (b5, fObj r1.1.1.fails), (b6, oObj r1.1.1.tokens), (b7, tObj r1.1.1.things), (b1, dObj b3 qn r1.1.2), (b3, mObj r1.1.2.kept)]) hNb10 (pick_perm [4, 6] _)) hCI (by omega) _ Kc hKc)), tv, tv, ⟨rfl, by decide⟩, ?_⟩
     refine pq_loadp rfl (v := av1) rfl (wG 2 hNb10 rfl) (aO rfl rfl (nB rfl)) (hid_pl hTb1) ?_
     have hD3 : ∀ cz ∈ ([b10, qn, b9, b8, b4, b5, b6, b7, b1, b3] : List Nat), cz ∉ List.map Prod.fst H1 := by simp only [List.forall_mem_cons]; exact ⟨hid_nin (m := m) hG1b10, hid_nin (m := m) hG1qn, hid_nin (m := m) hG1b9, hid_nin (m := m) hG1b8, hid_nin (m := m) hG1b4, hid_nin (m := m) hG1b5, hid_nin (m := m) hG1b6, hid_nin (m := m) hG1b7, hid_nin (m := m) hG1b1, hid_nin (m := m) hG1b3, nfA⟩
     have hTc3 : HidR _ (mW m _) [] H1 _ _ := HidR.call (L := [(b10, actObj (gI l i)), (qn, mObj r1.1.2.now), (b9, rcObj b8 av1 r1.1.1 F), (b8, zR r1.1.2), (b4, cObj b1 b7 b6 b5 r1.1.1), (b5, fObj r1.1.1.fails), (b6, oObj r1.1.1.tokens), (b7, tObj r1.1.1.things), (b1, dObj b3 qn r1.1.2), (b3, mObj r1.1.2.kept)]) hTb1 (pick_perm [] _) hD3
     refine ⟨(pure_mem (hid_call (m := m) (H := H1) (L := [(b10, actObj (gI l i)), (qn, mObj r1.1.2.now), (b9, rcObj b8 av1 r1.1.1 F), (b8, zR r1.1.2), (b4, cObj b1 b7 b6 b5 r1.1.1), (b5, fObj r1.1.1.fails), (b6, oObj r1.1.1.tokens), (b7, tObj r1.1.1.things), (b1, dObj b3 qn r1.1.2), (b3, mObj r1.1.2.kept)]) hNb10 (pick_perm [] _) hTb1.nd hD3) (fun Kc hKc => u_SameThingsHP hTc3 (by rw [vals_len]; have := (hCI).tl; omega) Kc hKc)), tv, tv, ?_⟩
     exact key
    refine hK1 _ _ ?_; clear hK1 K1
    refine cD rfl rfl (fun hcz => ?_) (fun hcz => ?_)
    ·
     cases hcz
    clear hcz
    refine awp_skip ?_
    refine hK7 _ _ ?_; clear hK7
    have hNd2 : ([qn, b9, b8, b4, b5, b6, b7, b1, b3] : List Nat).Nodup := drop_nodup (L := [(b10, actObj (gI l i)), (qn, mObj r1.1.2.now), (b9, rcObj b8 av1 r1.1.1 F), (b8, zR r1.1.2), (b4, cObj b1 b7 b6 b5 r1.1.1), (b5, fObj r1.1.1.fails), (b6, oObj r1.1.1.tokens), (b7, tObj r1.1.1.things), (b1, dObj b3 qn r1.1.2), (b3, mObj r1.1.2.kept)]) hNb10 (pick_perm [0] _)
    refine awp_dropP [(b10, actObj (gI l i))] [(qn, mObj r1.1.2.now), (b9, rcObj b8 av1 r1.1.1 F), (b8, zR r1.1.2), (b4, cObj b1 b7 b6 b5 r1.1.1), (b5, fObj r1.1.1.fails), (b6, oObj r1.1.1.tokens), (b7, tObj r1.1.1.things), (b1, dObj b3 qn r1.1.2), (b3, mObj r1.1.2.kept)] hNb10 (pick_perm [0] _) (by simp only [List.map_cons, List.map_nil, List.forall_mem_cons]; exact ⟨hG1b10, nfA⟩) ?_
    refine awp_reg2 [] [1, 6, 7, 9, 10, 11] (by decide) ?_
    intro K1 hK1
    refine ⟨tv, ?_⟩
    refine ar_add rfl (a := i) (b := 1) rfl rfl (by omega) (by omega) ?_
    refine ⟨tv, ?_⟩
    show K1 [(1, sF (l.map actAV)), (6, pT b1), (7, pT b4), (9, pT b8), (10, pT b9), (11, iT (i + 1))] (mW (mW m H1) [(qn, mObj r1.1.2.now), (b9, rcObj b8 av1 r1.1.1 F), (b8, zR r1.1.2), (b4, cObj b1 b7 b6 b5 r1.1.1), (b5, fObj r1.1.1.fails), (b6, oObj r1.1.1.tokens), (b7, tObj r1.1.1.things), (b1, dObj b3 qn r1.1.2), (b3, mObj r1.1.2.kept)])
    refine hK1 _ _ ?_; clear hK1 K1
    refine ⟨(i + 1, qn, F, H1, av1, r1.1.1, r1.1.2), rfl, rfl, ?_, ?_⟩
    ·
     show ([qn, b9, b8, b4, b5, b6, b7, b1, b3] : List Nat).Nodup ∧ (mW m ((H1 : (List (Nat × AObj))))) qn = none ∧ (0 ≤ ((i + 1 : Int)) ∧ ((i + 1 : Int)) ≤ l.length ∧ l.length ≤ 80 ∧ Two ((r1.1.2 : DSt)) () ((i + 1 : Int)).toNat ∧ CI ((r1.1.1 : ClSt)) F ((i + 1 : Int)).toNat ∧ HidR thgAV m [b1, b3, b4, b5, b6, b7, b8, b9, qn] ((H1 : (List (Nat × AObj)))) ((av1 : AV)) (vals ((r1.1.1 : ClSt))))
     refine ⟨hNd2, hG1qn, ?_⟩
     refine ⟨by omega, by omega, hI.2.2.1, ?_, ?_, ?_⟩
     ·
      rw [show (i + 1).toNat = i.toNat + 1 from by omega]; first | exact hT2 | exact hI.2.2.2.1.mono (Nat.le_succ _)
     ·
      rw [show (i + 1).toNat = i.toNat + 1 from by omega]; first | exact hCI | exact hI.2.2.2.2.1.mono (Nat.le_succ _)
     ·
      exact hTb1.keep (by intro z hz; simp only [List.mem_cons, List.not_mem_nil, or_false] at hz ⊢; omega)
    ·
     show l.length - ((i + 1 : Int)).toNat < l.length - i.toNat
     omega
   replace h5 : (gI l i).kind ≠ ([99, 114, 101, 97, 116, 101] : List UInt8) := (ne_of_beq_false h5)
   refine rS [] [1, 6, 7, 9, 10, 11, 12, 13, 75, 120] (by decide) ?_
   intro K1 hK1
   refine ⟨tv, tv, ?_⟩
   show K1 [(1, sF (l.map actAV)), (6, pT b1), (7, pT b4), (9, pT b8), (10, pT b9), (11, iT i), (12, pT b10), (13, .bool true), (75, .str ((gI l i).kind)), (120, .bool (((gI l i).kind) == ([117, 112, 100, 97, 116, 101] : List UInt8)))] (mW (mW m H) [(b10, actObj (gI l i)), (qn, mObj s.now), (b9, rcObj b8 av c F), (b8, zR s), (b4, cObj b1 b7 b6 b5 c), (b5, fObj c.fails), (b6, oObj c.tokens), (b7, tObj c.things), (b1, dObj b3 qn s), (b3, mObj s.kept)])
   refine hK1 _ _ ?_; clear hK1 K1
   refine cD rfl rfl (fun h6 => ?_) (fun h6 => ?_)
   ·
    replace h6 : (gI l i).kind = ([117, 112, 100, 97, 116, 101] : List UInt8) := (eq_of_beq h6)
    obtain ⟨r1, hr1⟩ : ∃ r1, updateR c s (gI l i).s (gI l i).a (gI l i).v = r1 := ⟨_, rfl⟩
    have hCI := hI.2.2.2.2.1.update (s := s) (token := (gI l i).s) (id := (gI l i).a) (v := (gI l i).v)
    have hT2 := two_update (c := c) (token := (gI l i).s) (id := (gI l i).a) (v := (gI l i).v) hI.2.2.2.1
    have hnn := updateR_nn (c := c) (s := s) (token := (gI l i).s) (id := (gI l i).a) (v := (gI l i).v)
    have hkn := update_kn (c := c) (s := s) (token := (gI l i).s) (id := (gI l i).a) (v := (gI l i).v)
    rw [hr1] at hCI hT2 hnn hkn
    refine rS [] [1, 6, 7, 9, 10, 11, 12, 19] (by decide) ?_
    intro K1 hK1
    refine ⟨tv, ⟨rfl, by decide⟩, ?_⟩
    refine aL rfl (v := .str ((gI l i).s)) rfl (wG 0 hNb10 rfl) rfl (aO rfl rfl (nB rfl)) rfl ?_
    refine ⟨⟨rfl, by decide⟩, ?_⟩
    refine aL rfl (v := .str ((gI l i).t)) rfl (wG 0 hNb10 rfl) rfl (aO rfl rfl (nB rfl)) rfl ?_
    refine ⟨⟨rfl, by decide⟩, ?_⟩
    refine aL rfl (v := iT ((gI l i).a)) rfl (wG 0 hNb10 rfl) rfl (aO rfl rfl (nB rfl)) rfl ?_
    refine ⟨⟨rfl, by decide⟩, ?_⟩
    refine aL rfl (v := .agg [iT (((gI l i).v).kind), iT (((gI l i).v).n), .str (((gI l i).v).s), sF ((((gI l i).v).l).map valIn), sF ((((gI l i).v).f).map fldIn)]) rfl (wG 0 hNb10 rfl) rfl (apartOk_agg rfl rfl (nB rfl)) rfl ?_
    have hD4 : ∀ cz ∈ ([b10, qn, b9, b8, b4, b5, b6, b7, b1, b3] : List Nat), cz ∉ List.map Prod.fst H := by simp only [List.forall_mem_cons]; exact ⟨hid_nin (m := m) hFb10, hid_nin (m := m) hFqn, hid_nin (m := m) hG0b9, hid_nin (m := m) hG0b8, hid_nin (m := m) hG0b4, hid_nin (m := m) hG0b5, hid_nin (m := m) hG0b6, hid_nin (m := m) hG0b7, hid_nin (m := m) hG0b1, hid_nin (m := m) hG0b3, nfA⟩
    have hTc4 : HidR _ (mW m _) [b9, b8] H _ _ := HidR.call (L := [(b10, actObj (gI l i)), (qn, mObj s.now), (b9, rcObj b8 av c F), (b8, zR s), (b4, cObj b1 b7 b6 b5 c), (b5, fObj c.fails), (b6, oObj c.tokens), (b7, tObj c.things), (b1, dObj b3 qn s), (b3, mObj s.kept)]) hTH (pick_perm [2, 2] _) hD4
    refine ar_mem (hid_call (m := m) (H := H) (L := [(b10, actObj (gI l i)), (qn, mObj s.now), (b9, rcObj b8 av c F), (b8, zR s), (b4, cObj b1 b7 b6 b5 c), (b5, fObj c.fails), (b6, oObj c.tokens), (b7, tObj c.things), (b1, dObj b3 qn s), (b3, mObj s.kept)]) hNb10 (pick_perm [2, 2] _) hTH.nd hD4) ?_
    refine u_Do2W b9 b8 () s c F ((gI l i).s) ((gI l i).t) ((gI l i).a) ((gI l i).v) i.toNat r1 hr1 hTc4 (by simp) (by simp) (show ([b9, b8] : List Nat).Nodup from keep_nodup (L := [(b10, actObj (gI l i)), (qn, mObj s.now), (b9, rcObj b8 av c F), (b8, zR s), (b4, cObj b1 b7 b6 b5 c), (b5, fObj c.fails), (b6, oObj c.tokens), (b7, tObj c.things), (b1, dObj b3 qn s), (b3, mObj s.kept)]) hNb10 (pick_perm [2, 2] _)) hI.2.2.2.2.1 hI.2.2.2.1 (by omega) hBi _ ?_
    intro H4 av4 hTn4 x4
    show aopsR _ _ _ _ _ _ (mW (mW (mW m [(b10, actObj (gI l i)), (qn, mObj s.now), (b4, cObj b1 b7 b6 b5 c), (b5, fObj c.fails), (b6, oObj c.tokens), (b7, tObj c.things), (b1, dObj b3 qn s), (b3, mObj s.kept)]) H4) [(b9, rcObj b8 av4 r1.1.1 F), (b8, zR r1.1.2)])
    have hTb4 : HidR _ m [b10, qn, b9, b8, b4, b5, b6, b7, b1, b3] H4 _ _ := HidR.back (L := [(b10, actObj (gI l i)), (qn, mObj s.now), (b9, rcObj b8 av4 r1.1.1 F), (b8, zR r1.1.2), (b4, cObj b1 b7 b6 b5 c), (b5, fObj c.fails), (b6, oObj c.tokens), (b7, tObj c.things), (b1, dObj b3 qn s), (b3, mObj s.kept)]) hTn4 rfl (pick_perm [2, 2] _)
    have hE4 : ∀ cz ∈ ([b10, qn, b9, b8, b4, b5, b6, b7, b1, b3] : List Nat), cz ∉ List.map Prod.fst H4 := fun cz hc => hTb4.nin hc
    refine ar_mem (hid_call (m := m) (H := H4) (L := [(b10, actObj (gI l i)), (qn, mObj s.now), (b9, rcObj b8 av4 r1.1.1 F), (b8, zR r1.1.2), (b4, cObj b1 b7 b6 b5 c), (b5, fObj c.fails), (b6, oObj c.tokens), (b7, tObj c.things), (b1, dObj b3 qn s), (b3, mObj s.kept)]) hNb10 (pick_perm [2, 2] _) hTb4.nd hE4).symm ?_
    have hG4b10 : (mW m H4) b10 = none := hTb4.loc (hid_base (m := m) hFb10) (by simp)
    have hG4qn : (mW m H4) qn = none := hTb4.loc (hid_base (m := m) hFqn) (by simp)
    have hG4b9 : (mW m H4) b9 = none := hTb4.loc (hid_base (m := m) hG0b9) (by simp)
    have hG4b8 : (mW m H4) b8 = none := hTb4.loc (hid_base (m := m) hG0b8) (by simp)
    have hG4b4 : (mW m H4) b4 = none := hTb4.loc (hid_base (m := m) hG0b4) (by simp)
    have hG4b5 : (mW m H4) b5 = none := hTb4.loc (hid_base (m := m) hG0b5) (by simp)
    have hG4b6 : (mW m H4) b6 = none := hTb4.loc (hid_base (m := m) hG0b6) (by simp)
    have hG4b7 : (mW m H4) b7 = none := hTb4.loc (hid_base (m := m) hG0b7) (by simp)
    have hG4b1 : (mW m H4) b1 = none := hTb4.loc (hid_base (m := m) hG0b1) (by simp)
    have hG4b3 : (mW m H4) b3 = none := hTb4.loc (hid_base (m := m) hG0b3) (by simp)
    show aopsR _ _ _ _ _ _ (mW (mW m H4) [(b10, actObj (gI l i)), (qn, mObj s.now), (b9, rcObj b8 av4 r1.1.1 F), (b8, zR r1.1.2), (b4, cObj b1 b7 b6 b5 c), (b5, fObj c.fails), (b6, oObj c.tokens), (b7, tObj c.things), (b1, dObj b3 qn s), (b3, mObj s.kept)])
    refine ⟨tv, (nB rfl), (nB rfl), tv, tv, ?_⟩
    show K1 [(1, sF (l.map actAV)), (6, pT b1), (7, pT b4), (9, pT b8), (10, pT b9), (11, iT i), (12, pT b10), (19, iT r1.2)] (mW (mW m H4) [(b10, actObj (gI l i)), (qn, mObj s.now), (b9, rcObj b8 av4 r1.1.1 F), (b8, zR r1.1.2), (b4, cObj b1 b7 b6 b5 c), (b5, fObj c.fails), (b6, oObj c.tokens), (b7, tObj c.things), (b1, dObj b3 qn s), (b3, mObj s.kept)])
    refine hK1 _ _ ?_; clear hK1 K1
    refine awp_reg2 [] [1, 6, 7, 9, 10, 11, 13] (by decide) ?_
    intro K1 hK1
    refine ⟨tv, ⟨rfl, by decide⟩, ?_⟩
    refine aL rfl (v := .str ((gI l i).s)) rfl (wG 0 hNb10 rfl) rfl (aO rfl rfl (nB rfl)) rfl ?_
    refine ⟨⟨rfl, by decide⟩, ?_⟩
    refine aL rfl (v := iT ((gI l i).a)) rfl (wG 0 hNb10 rfl) rfl (aO rfl rfl (nB rfl)) rfl ?_
    refine ⟨⟨rfl, by decide⟩, ?_⟩
    refine aL rfl (v := .agg [iT (((gI l i).v).kind), iT (((gI l i).v).n), .str (((gI l i).v).s), sF ((((gI l i).v).l).map valIn), sF ((((gI l i).v).f).map fldIn)]) rfl (wG 0 hNb10 rfl) rfl (apartOk_agg rfl rfl (nB rfl)) rfl ?_
    refine ar_mem (wS hNb10 (pick_perm [4, 7, 6, 5, 4] _)) ?_
    refine u_UpdateC b4 b1 b7 b6 b5 b3 qn c s ((gI l i).s) ((gI l i).a) ((gI l i).v) i.toNat F () r1 hr1 (show ([b4, b1, b7, b6, b5] : List Nat).Nodup from keep_nodup (L := [(b10, actObj (gI l i)), (qn, mObj s.now), (b9, rcObj b8 av4 r1.1.1 F), (b8, zR r1.1.2), (b4, cObj b1 b7 b6 b5 c), (b5, fObj c.fails), (b6, oObj c.tokens), (b7, tObj c.things), (b1, dObj b3 qn s), (b3, mObj s.kept)]) hNb10 (pick_perm [4, 7, 6, 5, 4] _)) hI.2.2.2.2.1 hI.2.2.2.1 (by omega) _ _ ?_
    refine ar_mem (wS (m := (mW m H4)) (L := [(b10, actObj (gI l i)), (qn, mObj s.now), (b9, rcObj b8 av4 r1.1.1 F), (b8, zR r1.1.2), (b4, cObj b1 b7 b6 b5 r1.1.1), (b5, fObj r1.1.1.fails), (b6, oObj r1.1.1.tokens), (b7, tObj r1.1.1.things), (b1, dObj b3 qn r1.1.2), (b3, mObj s.kept)]) hNb10 (pick_perm [4, 7, 6, 5, 4] _)).symm ?_
    refine ⟨tv, ?_⟩
    refine u_same_eq r1.2 (by first | decide | assumption | exact readC_nn) _ _ ?_
    refine ⟨tv, ?_⟩
    show K1 [(1, sF (l.map actAV)), (6, pT b1), (7, pT b4), (9, pT b8), (10, pT b9), (11, iT i), (13, .bool true)] (mW (mW m H4) [(b10, actObj (gI l i)), (qn, mObj s.now), (b9, rcObj b8 av4 r1.1.1 F), (b8, zR r1.1.2), (b4, cObj b1 b7 b6 b5 r1.1.1), (b5, fObj r1.1.1.fails), (b6, oObj r1.1.1.tokens), (b7, tObj r1.1.1.things), (b1, dObj b3 qn r1.1.2), (b3, mObj s.kept)])
    refine hK1 _ _ ?_; clear hK1 K1
    rw [show mObj s.kept = mObj r1.1.2.kept from by rw [hkn.1], show mObj s.now = mObj r1.1.2.now from by rw [hkn.2]]
    refine hK8 _ _ ?_; clear hK8
    refine awp_draw_seq Try.mixed [(iT r1.1.1.calls), (sF ((vals r1.1.1).map thgAV)), (.bool true)] [1, 6, 7, 9, 10, 11, 265] (by decide) (by decide) ?_
    intro K1 hK1
    suffices key : K1 [(1, sF (l.map actAV)), (6, pT b1), (7, pT b4), (9, pT b8), (10, pT b9), (11, iT i), (265, .bool false)] (mW (mW m H4) [(b10, actObj (gI l i)), (qn, mObj r1.1.2.now), (b9, rcObj b8 av4 r1.1.1 F), (b8, zR r1.1.2), (b4, cObj b1 b7 b6 b5 r1.1.1), (b5, fObj r1.1.1.fails), (b6, oObj r1.1.1.tokens), (b7, tObj r1.1.1.things), (b1, dObj b3 qn r1.1.2), (b3, mObj r1.1.2.kept)]) by
     refine ⟨tv, tv, tv, tv, (pure_mem (wS (m := (mW m H4)) (L := [(b10, actObj (gI l i)), (qn, mObj r1.1.2.now), (b9, rcObj b8 av4 r1.1.1 F), (b8, zR r1.1.2), (b4, cObj b1 b7 b6 b5 r1.1.1), (b5, fObj r1.1.1.fails), (b6, oObj r1.1.1.tokens), (b7, tObj r1.1.1.things), (b1, dObj b3 qn r1.1.2), (b3, mObj r1.1.2.kept)]) hNb10 (pick_perm [4] _)) (fun Kc hKc => u_CCalls b4 b1 b7 b6 b5 r1.1.1 _ Kc hKc)), tv, tv, ⟨rfl, by decide⟩, ?_⟩
     refine pq_loadp rfl (v := iT r1.1.1.calls) rfl (wG 2 hNb10 rfl) (aO rfl rfl (nB rfl)) rfl ?_
     refine ⟨tv, ?_⟩
     refine pq_top 254 (.bool false) (cgA AV.bool (by simp)) ?_
     refine ⟨tv, ?_⟩
     refine ⟨tv, tv, (pure_mem (wS (m := (mW m H4)) (L := [(b10, actObj (gI l i)), (qn, mObj r1.1.2.now), (b9, rcObj b8 av4 r1.1.1 F), (b8, zR r1.1.2), (b4, cObj b1 b7 b6 b5 r1.1.1), (b5, fObj r1.1.1.fails), (b6, oObj r1.1.1.tokens), (b7, tObj r1.1.1.things), (b1, dObj b3 qn r1.1.2), (b3, mObj r1.1.2.kept)]) hNb10 (pick_perm [4, 6] _)) (fun Kc hKc => u_AllC b4 b1 b7 b6 b5 r1.1.1 _ _ (show ([b4, b7] : List Nat).Nodup from keep_nodup (L := [(b10, actObj (gI l i)), (qn, mObj r1.1.2.now), (b9, rcObj b8 av4 r1.1.1 F), (b8, zR r1.1.2), (b4, cObj b1 b7 b6 b5 r1.1.1), (b5, fObj r1.1.1.fails), (b6, oObj r1.1.1.tokens), (b7, tObj r1.1.1.things), (b1, dObj b3 qn r1.1.2), (b3, mObj r1.1.2.kept)]) hNb10 (pick_perm [4, 6] _)) hCI (by omega) _ Kc hKc)), tv, tv, ⟨rfl, by decide⟩, ?_⟩
     refine pq_loadp rfl (v := av4) rfl (wG 2 hNb10 rfl) (aO rfl rfl (nB rfl)) (hid_pl hTb4) ?_
     have hD6 : ∀ cz ∈ ([b10, qn, b9, b8, b4, b5, b6, b7, b1, b3] : List Nat), cz ∉ List.map Prod.fst H4 := by simp only [List.forall_mem_cons]; exact ⟨hid_nin (m := m) hG4b10, hid_nin (m := m) hG4qn, hid_nin (m := m) hG4b9, hid_nin (m := m) hG4b8, hid_nin (m := m) hG4b4, hid_nin (m := m) hG4b5, hid_nin (m := m) hG4b6, hid_nin (m := m) hG4b7, hid_nin (m := m) hG4b1, hid_nin (m := m) hG4b3, nfA⟩
     have hTc6 : HidR _ (mW m _) [] H4 _ _ := HidR.call (L := [(b10, actObj (gI l i)), (qn, mObj r1.1.2.now), (b9, rcObj b8 av4 r1.1.1 F), (b8, zR r1.1.2), (b4, cObj b1 b7 b6 b5 r1.1.1), (b5, fObj r1.1.1.fails), (b6, oObj r1.1.1.tokens), (b7, tObj r1.1.1.things), (b1, dObj b3 qn r1.1.2), (b3, mObj r1.1.2.kept)]) hTb4 (pick_perm [] _) hD6
     refine ⟨(pure_mem (hid_call (m := m) (H := H4) (L := [(b10, actObj (gI l i)), (qn, mObj r1.1.2.now), (b9, rcObj b8 av4 r1.1.1 F), (b8, zR r1.1.2), (b4, cObj b1 b7 b6 b5 r1.1.1), (b5, fObj r1.1.1.fails), (b6, oObj r1.1.1.tokens), (b7, tObj r1.1.1.things), (b1, dObj b3 qn r1.1.2), (b3, mObj r1.1.2.kept)]) hNb10 (pick_perm [] _) hTb4.nd hD6) (fun Kc hKc => u_SameThingsHP hTc6 (by rw [vals_len]; have := (hCI).tl; omega) Kc hKc)), tv, tv, ?_⟩
     exact key
    refine hK1 _ _ ?_; clear hK1 K1
    refine cD rfl rfl (fun hcz => ?_) (fun hcz => ?_)
    ·
     cases hcz
    clear hcz
    refine awp_skip ?_
    refine hK7 _ _ ?_; clear hK7
    have hNd3 : ([qn, b9, b8, b4, b5, b6, b7, b1, b3] : List Nat).Nodup := drop_nodup (L := [(b10, actObj (gI l i)), (qn, mObj r1.1.2.now), (b9, rcObj b8 av4 r1.1.1 F), (b8, zR r1.1.2), (b4, cObj b1 b7 b6 b5 r1.1.1), (b5, fObj r1.1.1.fails), (b6, oObj r1.1.1.tokens), (b7, tObj r1.1.1.things), (b1, dObj b3 qn r1.1.2), (b3, mObj r1.1.2.kept)]) hNb10 (pick_perm [0] _)
    refine awp_dropP [(b10, actObj (gI l i))] [(qn, mObj r1.1.2.now), (b9, rcObj b8 av4 r1.1.1 F), (b8, zR r1.1.2), (b4, cObj b1 b7 b6 b5 r1.1.1), (b5, fObj r1.1.1.fails), (b6, oObj r1.1.1.tokens), (b7, tObj r1.1.1.things), (b1, dObj b3 qn r1.1.2), (b3, mObj r1.1.2.kept)] hNb10 (pick_perm [0] _) (by simp only [List.map_cons, List.map_nil, List.forall_mem_cons]; exact ⟨hG4b10, nfA⟩) ?_
    refine awp_reg2 [] [1, 6, 7, 9, 10, 11] (by decide) ?_
    intro K1 hK1
    refine ⟨tv, ?_⟩
    refine ar_add rfl (a := i) (b := 1) rfl rfl (by omega) (by omega) ?_
    refine ⟨tv, ?_⟩
    show K1 [(1, sF (l.map actAV)), (6, pT b1), (7, pT b4), (9, pT b8), (10, pT b9), (11, iT (i + 1))] (mW (mW m H4) [(qn, mObj r1.1.2.now), (b9, rcObj b8 av4 r1.1.1 F), (b8, zR r1.1.2), (b4, cObj b1 b7 b6 b5 r1.1.1), (b5, fObj r1.1.1.fails), (b6, oObj r1.1.1.tokens), (b7, tObj r1.1.1.things), (b1, dObj b3 qn r1.1.2), (b3, mObj r1.1.2.kept)])
    refine hK1 _ _ ?_; clear hK1 K1
    refine ⟨(i + 1, qn, F, H4, av4, r1.1.1, r1.1.2), rfl, rfl, ?_, ?_⟩
    ·
     show ([qn, b9, b8, b4, b5, b6, b7, b1, b3] : List Nat).Nodup ∧ (mW m ((H4 : (List (Nat × AObj))))) qn = none ∧ (0 ≤ ((i + 1 : Int)) ∧ ((i + 1 : Int)) ≤ l.length ∧ l.length ≤ 80 ∧ Two ((r1.1.2 : DSt)) () ((i + 1 : Int)).toNat ∧ CI ((r1.1.1 : ClSt)) F ((i + 1 : Int)).toNat ∧ HidR thgAV m [b1, b3, b4, b5, b6, b7, b8, b9, qn] ((H4 : (List (Nat × AObj)))) ((av4 : AV)) (vals ((r1.1.1 : ClSt))))
     refine ⟨hNd3, hG4qn, ?_⟩
     refine ⟨by omega, by omega, hI.2.2.1, ?_, ?_, ?_⟩
     ·
      rw [show (i + 1).toNat = i.toNat + 1 from by omega]; first | exact hT2 | exact hI.2.2.2.1.mono (Nat.le_succ _)
     ·
      rw [show (i + 1).toNat = i.toNat + 1 from by omega]; first | exact hCI | exact hI.2.2.2.2.1.mono (Nat.le_succ _)
     ·
      exact hTb4.keep (by intro z hz; simp only [List.mem_cons, List.not_mem_nil, or_false] at hz ⊢; omega)
    ·
     show l.length - ((i + 1 : Int)).toNat < l.length - i.toNat
     omega
   replace h6 : (gI l i).kind ≠ ([117, 112, 100, 97, 116, 101] : List UInt8) := (ne_of_beq_false h6)
   refine rS [] [1, 6, 7, 9, 10, 11, 12, 13, 75, 145] (by decide) ?_
   intro K1 hK1
   refine ⟨tv, tv, ?_⟩
   show K1 [(1, sF (l.map actAV)), (6, pT b1), (7, pT b4), (9, pT b8), (10, pT b9), (11, iT i), (12, pT b10), (13, .bool true), (75, .str ((gI l i).kind)), (145, .bool (((gI l i).kind) == ([100, 101, 108, 101, 116, 101] : List UInt8)))] (mW (mW m H) [(b10, actObj (gI l i)), (qn, mObj s.now), (b9, rcObj b8 av c F), (b8, zR s), (b4, cObj b1 b7 b6 b5 c), (b5, fObj c.fails), (b6, oObj c.tokens), (b7, tObj c.things), (b1, dObj b3 qn s), (b3, mObj s.kept)])
   refine hK1 _ _ ?_; clear hK1 K1
   refine cD rfl rfl (fun h7 => ?_) (fun h7 => ?_)
   ·
    replace h7 : (gI l i).kind = ([100, 101, 108, 101, 116, 101] : List UInt8) := (eq_of_beq h7)
    obtain ⟨r1, hr1⟩ : ∃ r1, deleteR c s (gI l i).s (gI l i).a = r1 := ⟨_, rfl⟩
    have hCI := hI.2.2.2.2.1.delete (s := s) (token := (gI l i).s) (id := (gI l i).a)
    have hT2 := two_delete (c := c) (token := (gI l i).s) (id := (gI l i).a) hI.2.2.2.1
    have hnn := deleteR_nn (c := c) (s := s) (token := (gI l i).s) (id := (gI l i).a)
    have hkn := delete_kn (c := c) (s := s) (token := (gI l i).s) (id := (gI l i).a)
    rw [hr1] at hCI hT2 hnn hkn
    refine rS [] [1, 6, 7, 9, 10, 11, 12, 21] (by decide) ?_
    intro K1 hK1
    refine ⟨tv, ⟨rfl, by decide⟩, ?_⟩
    refine aL rfl (v := .str ((gI l i).s)) rfl (wG 0 hNb10 rfl) rfl (aO rfl rfl (nB rfl)) rfl ?_
    refine ⟨⟨rfl, by decide⟩, ?_⟩
    refine aL rfl (v := .str ((gI l i).t)) rfl (wG 0 hNb10 rfl) rfl (aO rfl rfl (nB rfl)) rfl ?_
    refine ⟨⟨rfl, by decide⟩, ?_⟩
    refine aL rfl (v := iT ((gI l i).a)) rfl (wG 0 hNb10 rfl) rfl (aO rfl rfl (nB rfl)) rfl ?_
    refine ⟨⟨rfl, by decide⟩, ?_⟩
    refine aL rfl (v := .agg [iT (((gI l i).v).kind), iT (((gI l i).v).n), .str (((gI l i).v).s), sF ((((gI l i).v).l).map valIn), sF ((((gI l i).v).f).map fldIn)]) rfl (wG 0 hNb10 rfl) rfl (apartOk_agg rfl rfl (nB rfl)) rfl ?_
    have hD7 : ∀ cz ∈ ([b10, qn, b9, b8, b4, b5, b6, b7, b1, b3] : List Nat), cz ∉ List.map Prod.fst H := by simp only [List.forall_mem_cons]; exact ⟨hid_nin (m := m) hFb10, hid_nin (m := m) hFqn, hid_nin (m := m) hG0b9, hid_nin (m := m) hG0b8, hid_nin (m := m) hG0b4, hid_nin (m := m) hG0b5, hid_nin (m := m) hG0b6, hid_nin (m := m) hG0b7, hid_nin (m := m) hG0b1, hid_nin (m := m) hG0b3, nfA⟩
    have hTc7 : HidR _ (mW m _) [b9, b8] H _ _ := HidR.call (L := [(b10, actObj (gI l i)), (qn, mObj s.now), (b9, rcObj b8 av c F), (b8, zR s), (b4, cObj b1 b7 b6 b5 c), (b5, fObj c.fails), (b6, oObj c.tokens), (b7, tObj c.things), (b1, dObj b3 qn s), (b3, mObj s.kept)]) hTH (pick_perm [2, 2] _) hD7
    refine ar_mem (hid_call (m := m) (H := H) (L := [(b10, actObj (gI l i)), (qn, mObj s.now), (b9, rcObj b8 av c F), (b8, zR s), (b4, cObj b1 b7 b6 b5 c), (b5, fObj c.fails), (b6, oObj c.tokens), (b7, tObj c.things), (b1, dObj b3 qn s), (b3, mObj s.kept)]) hNb10 (pick_perm [2, 2] _) hTH.nd hD7) ?_
    refine u_Do3W b9 b8 () s c F ((gI l i).s) ((gI l i).t) ((gI l i).a) ((gI l i).v) i.toNat r1 hr1 hTc7 (by simp) (by simp) (show ([b9, b8] : List Nat).Nodup from keep_nodup (L := [(b10, actObj (gI l i)), (qn, mObj s.now), (b9, rcObj b8 av c F), (b8, zR s), (b4, cObj b1 b7 b6 b5 c), (b5, fObj c.fails), (b6, oObj c.tokens), (b7, tObj c.things), (b1, dObj b3 qn s), (b3, mObj s.kept)]) hNb10 (pick_perm [2, 2] _)) hI.2.2.2.2.1 hI.2.2.2.1 (by omega) hBi _ ?_
    intro H7 av7 hTn7 x7
    show aopsR _ _ _ _ _ _ (mW (mW (mW m [(b10, actObj (gI l i)), (qn, mObj s.now), (b4, cObj b1 b7 b6 b5 c), (b5, fObj c.fails), (b6, oObj c.tokens), (b7, tObj c.things), (b1, dObj b3 qn s), (b3, mObj s.kept)]) H7) [(b9, rcObj b8 av7 r1.1.1 F), (b8, zR r1.1.2)])
    have hTb7 : HidR _ m [b10, qn, b9, b8, b4, b5, b6, b7, b1, b3] H7 _ _ := HidR.back (L := [(b10, actObj (gI l i)), (qn, mObj s.now), (b9, rcObj b8 av7 r1.1.1 F), (b8, zR r1.1.2), (b4, cObj b1 b7 b6 b5 c), (b5, fObj c.fails), (b6, oObj c.tokens), (b7, tObj c.things), (b1, dObj b3 qn s), (b3, mObj s.kept)]) hTn7 rfl (pick_perm [2, 2] _)
    have hE7 : ∀ cz ∈ ([b10, qn, b9, b8, b4, b5, b6, b7, b1, b3] : List Nat), cz ∉ List.map Prod.fst H7 := fun cz hc => hTb7.nin hc
    refine ar_mem (hid_call (m := m) (H := H7) (L := [(b10, actObj (gI l i)), (qn, mObj s.now), (b9, rcObj b8 av7 r1.1.1 F), (b8, zR r1.1.2), (b4, cObj b1 b7 b6 b5 c), (b5, fObj c.fails), (b6, oObj c.tokens), (b7, tObj c.things), (b1, dObj b3 qn s), (b3, mObj s.kept)]) hNb10 (pick_perm [2, 2] _) hTb7.nd hE7).symm ?_
    have hG7b10 : (mW m H7) b10 = none := hTb7.loc (hid_base (m := m) hFb10) (by simp)
    have hG7qn : (mW m H7) qn = none := hTb7.loc (hid_base (m := m) hFqn) (by simp)
    have hG7b9 : (mW m H7) b9 = none := hTb7.loc (hid_base (m := m) hG0b9) (by simp)
    have hG7b8 : (mW m H7) b8 = none := hTb7.loc (hid_base (m := m) hG0b8) (by simp)
    have hG7b4 : (mW m H7) b4 = none := hTb7.loc (hid_base (m := m) hG0b4) (by simp)
    have hG7b5 : (mW m H7) b5 = none := hTb7.loc (hid_base (m := m) hG0b5) (by simp)
    have hG7b6 : (mW m H7) b6 = none := hTb7.loc (hid_base (m := m) hG0b6) (by simp)
    have hG7b7 : (mW m H7) b7 = none := hTb7.loc (hid_base (m := m) hG0b7) (by simp)
    have hG7b1 : (mW m H7) b1 = none := hTb7.loc (hid_base (m := m) hG0b1) (by simp)
    have hG7b3 : (mW m H7) b3 = none := hTb7.loc (hid_base (m := m) hG0b3) (by simp)
    show aopsR _ _ _ _ _ _ (mW (mW m H7) [(b10, actObj (gI l i)), (qn, mObj s.now), (b9, rcObj b8 av7 r1.1.1 F), (b8, zR r1.1.2), (b4, cObj b1 b7 b6 b5 c), (b5, fObj c.fails), (b6, oObj c.tokens), (b7, tObj c.things), (b1, dObj b3 qn s), (b3, mObj s.kept)])
    refine ⟨tv, (nB rfl), (nB rfl), tv, tv, ?_⟩
    show K1 [(1, sF (l.map actAV)), (6, pT b1), (7, pT b4), (9, pT b8), (10, pT b9), (11, iT i), (12, pT b10), (21, iT r1.2)] (mW (mW m H7) [(b10, actObj (gI l i)), (qn, mObj s.now), (b9, rcObj b8 av7 r1.1.1 F), (b8, zR r1.1.2), (b4, cObj b1 b7 b6 b5 c), (b5, fObj c.fails), (b6, oObj c.tokens), (b7, tObj c.things), (b1, dObj b3 qn s), (b3, mObj s.kept)])
    refine hK1 _ _ ?_; clear hK1 K1
    refine awp_reg2 [] [1, 6, 7, 9, 10, 11, 13] (by decide) ?_
    intro K1 hK1
    refine ⟨tv, ⟨rfl, by decide⟩, ?_⟩
    refine aL rfl (v := .str ((gI l i).s)) rfl (wG 0 hNb10 rfl) rfl (aO rfl rfl (nB rfl)) rfl ?_
    refine ⟨⟨rfl, by decide⟩, ?_⟩
    refine aL rfl (v := iT ((gI l i).a)) rfl (wG 0 hNb10 rfl) rfl (aO rfl rfl (nB rfl)) rfl ?_
    refine ar_mem (wS hNb10 (pick_perm [4, 7, 6, 5, 4] _)) ?_
    refine u_DeleteC b4 b1 b7 b6 b5 b3 qn c s ((gI l i).s) ((gI l i).a) i.toNat F () r1 hr1 (show ([b4, b1, b7, b6, b5] : List Nat).Nodup from keep_nodup (L := [(b10, actObj (gI l i)), (qn, mObj s.now), (b9, rcObj b8 av7 r1.1.1 F), (b8, zR r1.1.2), (b4, cObj b1 b7 b6 b5 c), (b5, fObj c.fails), (b6, oObj c.tokens), (b7, tObj c.things), (b1, dObj b3 qn s), (b3, mObj s.kept)]) hNb10 (pick_perm [4, 7, 6, 5, 4] _)) hI.2.2.2.2.1 hI.2.2.2.1 (by omega) _ _ ?_
    refine ar_mem (wS (m := (mW m H7)) (L := [(b10, actObj (gI l i)), (qn, mObj s.now), (b9, rcObj b8 av7 r1.1.1 F), (b8, zR r1.1.2), (b4, cObj b1 b7 b6 b5 r1.1.1), (b5, fObj r1.1.1.fails), (b6, oObj r1.1.1.tokens), (b7, tObj r1.1.1.things), (b1, dObj b3 qn r1.1.2), (b3, mObj s.kept)]) hNb10 (pick_perm [4, 7, 6, 5, 4] _)).symm ?_
    refine ⟨tv, ?_⟩
    refine u_same_eq r1.2 (by first | decide | assumption | exact readC_nn) _ _ ?_
    refine ⟨tv, ?_⟩
    show K1 [(1, sF (l.map actAV)), (6, pT b1), (7, pT b4), (9, pT b8), (10, pT b9), (11, iT i), (13, .bool true)] (mW (mW m H7) [(b10, actObj (gI l i)), (qn, mObj s.now), (b9, rcObj b8 av7 r1.1.1 F), (b8, zR r1.1.2), (b4, cObj b1 b7 b6 b5 r1.1.1), (b5, fObj r1.1.1.fails), (b6, oObj r1.1.1.tokens), (b7, tObj r1.1.1.things), (b1, dObj b3 qn r1.1.2), (b3, mObj s.kept)])
    refine hK1 _ _ ?_; clear hK1 K1
    rw [show mObj s.kept = mObj r1.1.2.kept from by rw [hkn.1], show mObj s.now = mObj r1.1.2.now from by rw [hkn.2]]
    refine hK8 _ _ ?_; clear hK8
    refine awp_draw_seq Try.mixed [(iT r1.1.1.calls), (sF ((vals r1.1.1).map thgAV)), (.bool true)] [1, 6, 7, 9, 10, 11, 265] (by decide) (by decide) ?_
    intro K1 hK1
    suffices key : K1 [(1, sF (l.map actAV)), (6, pT b1), (7, pT b4), (9, pT b8), (10, pT b9), (11, iT i), (265, .bool false)] (mW (mW m H7) [(b10, actObj (gI l i)), (qn, mObj r1.1.2.now), (b9, rcObj b8 av7 r1.1.1 F), (b8, zR r1.1.2), (b4, cObj b1 b7 b6 b5 r1.1.1), (b5, fObj r1.1.1.fails), (b6, oObj r1.1.1.tokens), (b7, tObj r1.1.1.things), (b1, dObj b3 qn r1.1.2), (b3, mObj r1.1.2.kept)]) by
     refine ⟨tv, tv, tv, tv, (pure_mem (wS (m := (mW m H7)) (L := [(b10, actObj (gI l i)), (qn, mObj r1.1.2.now), (b9, rcObj b8 av7 r1.1.1 F), (b8, zR r1.1.2), (b4, cObj b1 b7 b6 b5 r1.1.1), (b5, fObj r1.1.1.fails), (b6, oObj r1.1.1.tokens), (b7, tObj r1.1.1.things), (b1, dObj b3 qn r1.1.2), (b3, mObj r1.1.2.kept)]) hNb10 (pick_perm [4] _)) (fun Kc hKc => u_CCalls b4 b1 b7 b6 b5 r1.1.1 _ Kc hKc)), tv, tv, ⟨rfl, by decide⟩, ?_⟩
     refine pq_loadp rfl (v := iT r1.1.1.calls) rfl (wG 2 hNb10 rfl) (aO rfl rfl (nB rfl)) rfl ?_
     refine ⟨tv, ?_⟩
     refine pq_top 254 (.bool false) (cgA AV.bool (by simp)) ?_
     refine ⟨tv, ?_⟩
     refine ⟨tv, tv, (pure_mem (wS (m := (mW m H7)) (L := [(b10, actObj (gI l i)), (qn, mObj r1.1.2.now), (b9, rcObj b8 av7 r1.1.1 F), (b8, zR r1.1.2), (b4, cObj b1 b7 b6 b5 r1.1.1), (b5, fObj r1.1.1.fails), (b6, oObj r1.1.1.tokens), (b7, tObj r1.1.1.things), (b1, dObj b3 qn r1.1.2), (b3, mObj r1.1.2.kept)]) hNb10 (pick_perm [4, 6] _)) (fun Kc hKc => u_AllC b4 b1 b7 b6 b5 r1.1.1 _ _ (show ([b4, b7] : List Nat).Nodup from keep_nodup (L := [(b10, actObj (gI l i)), (qn, mObj r1.1.2.now), (b9, rcObj b8 av7 r1.1.1 F), (b8, zR r1.1.2), (b4, cObj b1 b7 b6 b5 r1.1.1), (b5, fObj r1.1.1.fails), (b6, oObj r1.1.1.tokens), (b7, tObj r1.1.1.things), (b1, dObj b3 qn r1.1.2), (b3, mObj r1.1.2.kept)]) hNb10 (pick_perm [4, 6] _)) hCI (by omega) _ Kc hKc)), tv, tv, ⟨rfl, by decide⟩, ?_⟩
     refine pq_loadp rfl (v := av7) rfl (wG 2 hNb10 rfl) (aO rfl rfl (nB rfl)) (hid_pl hTb7) ?_
     have hD9 : ∀ cz ∈ ([b10, qn, b9, b8, b4, b5, b6, b7, b1, b3] : List Nat), cz ∉ List.map Prod.fst H7 := by simp only [List.forall_mem_cons]; exact ⟨hid_nin (m := m) hG7b10, hid_nin (m := m) hG7qn, hid_nin (m := m) hG7b9, hid_nin (m := m) hG7b8, hid_nin (m := m) hG7b4, hid_nin (m := m) hG7b5, hid_nin (m := m) hG7b6, hid_nin (m := m) hG7b7, hid_nin (m := m) hG7b1, hid_nin (m := m) hG7b3, nfA⟩
     have hTc9 : HidR _ (mW m _) [] H7 _ _ := HidR.call (L := [(b10, actObj (gI l i)), (qn, mObj r1.1.2.now), (b9, rcObj b8 av7 r1.1.1 F), (b8, zR r1.1.2), (b4, cObj b1 b7 b6 b5 r1.1.1), (b5, fObj r1.1.1.fails), (b6, oObj r1.1.1.tokens), (b7, tObj r1.1.1.things), (b1, dObj b3 qn r1.1.2), (b3, mObj r1.1.2.kept)]) hTb7 (pick_perm [] _) hD9
     refine ⟨(pure_mem (hid_call (m := m) (H := H7) (L := [(b10, actObj (gI l i)), (qn, mObj r1.1.2.now), (b9, rcObj b8 av7 r1.1.1 F), (b8, zR r1.1.2), (b4, cObj b1 b7 b6 b5 r1.1.1), (b5, fObj r1.1.1.fails), (b6, oObj r1.1.1.tokens), (b7, tObj r1.1.1.things), (b1, dObj b3 qn r1.1.2), (b3, mObj r1.1.2.kept)]) hNb10 (pick_perm [] _) hTb7.nd hD9) (fun Kc hKc => u_SameThingsHP hTc9 (by rw [vals_len]; have := (hCI).tl; omega) Kc hKc)), tv, tv, ?_⟩
     exact key
    refine hK1 _ _ ?_; clear hK1 K1
    refine cD rfl rfl (fun hcz => ?_) (fun hcz => ?_)
    ·
     cases hcz
    clear hcz
    refine awp_skip ?_
    refine hK7 _ _ ?_; clear hK7
    have hNd4 : ([qn, b9, b8, b4, b5, b6, b7, b1, b3] : List Nat).Nodup := drop_nodup (L := [(b10, actObj (gI l i)), (qn, mObj r1.1.2.now), (b9, rcObj b8 av7 r1.1.1 F), (b8, zR r1.1.2), (b4, cObj b1 b7 b6 b5 r1.1.1), (b5, fObj r1.1.1.fails), (b6, oObj r1.1.1.tokens), (b7, tObj r1.1.1.things), (b1, dObj b3 qn r1.1.2), (b3, mObj r1.1.2.kept)]) hNb10 (pick_perm [0] _)
    refine awp_dropP [(b10, actObj (gI l i))] [(qn, mObj r1.1.2.now), (b9, rcObj b8 av7 r1.1.1 F), (b8, zR r1.1.2), (b4, cObj b1 b7 b6 b5 r1.1.1), (b5, fObj r1.1.1.fails), (b6, oObj r1.1.1.tokens), (b7, tObj r1.1.1.things), (b1, dObj b3 qn r1.1.2), (b3, mObj r1.1.2.kept)] hNb10 (pick_perm [0] _) (by simp only [List.map_cons, List.map_nil, List.forall_mem_cons]; exact ⟨hG7b10, nfA⟩) ?_
    refine awp_reg2 [] [1, 6, 7, 9, 10, 11] (by decide) ?_
    intro K1 hK1
    refine ⟨tv, ?_⟩
    refine ar_add rfl (a := i) (b := 1) rfl rfl (by omega) (by omega) ?_
    refine ⟨tv, ?_⟩
    show K1 [(1, sF (l.map actAV)), (6, pT b1), (7, pT b4), (9, pT b8), (10, pT b9), (11, iT (i + 1))] (mW (mW m H7) [(qn, mObj r1.1.2.now), (b9, rcObj b8 av7 r1.1.1 F), (b8, zR r1.1.2), (b4, cObj b1 b7 b6 b5 r1.1.1), (b5, fObj r1.1.1.fails), (b6, oObj r1.1.1.tokens), (b7, tObj r1.1.1.things), (b1, dObj b3 qn r1.1.2), (b3, mObj r1.1.2.kept)])
    refine hK1 _ _ ?_; clear hK1 K1
    refine ⟨(i + 1, qn, F, H7, av7, r1.1.1, r1.1.2), rfl, rfl, ?_, ?_⟩
    ·
     show ([qn, b9, b8, b4, b5, b6, b7, b1, b3] : List Nat).Nodup ∧ (mW m ((H7 : (List (Nat × AObj))))) qn = none ∧ (0 ≤ ((i + 1 : Int)) ∧ ((i + 1 : Int)) ≤ l.length ∧ l.length ≤ 80 ∧ Two ((r1.1.2 : DSt)) () ((i + 1 : Int)).toNat ∧ CI ((r1.1.1 : ClSt)) F ((i + 1 : Int)).toNat ∧ HidR thgAV m [b1, b3, b4, b5, b6, b7, b8, b9, qn] ((H7 : (List (Nat × AObj)))) ((av7 : AV)) (vals ((r1.1.1 : ClSt))))
     refine ⟨hNd4, hG7qn, ?_⟩
     refine ⟨by omega, by omega, hI.2.2.1, ?_, ?_, ?_⟩
     ·
      rw [show (i + 1).toNat = i.toNat + 1 from by omega]; first | exact hT2 | exact hI.2.2.2.1.mono (Nat.le_succ _)
     ·
      rw [show (i + 1).toNat = i.toNat + 1 from by omega]; first | exact hCI | exact hI.2.2.2.2.1.mono (Nat.le_succ _)
     ·
      exact hTb7.keep (by intro z hz; simp only [List.mem_cons, List.not_mem_nil, or_false] at hz ⊢; omega)
    ·
     show l.length - ((i + 1 : Int)).toNat < l.length - i.toNat
     omega
   replace h7 : (gI l i).kind ≠ ([100, 101, 108, 101, 116, 101] : List UInt8) := (ne_of_beq_false h7)
   refine rS [] [1, 6, 7, 9, 10, 11, 12, 13, 75, 168] (by decide) ?_
   intro K1 hK1
   refine ⟨tv, tv, ?_⟩
   show K1 [(1, sF (l.map actAV)), (6, pT b1), (7, pT b4), (9, pT b8), (10, pT b9), (11, iT i), (12, pT b10), (13, .bool true), (75, .str ((gI l i).kind)), (168, .bool (((gI l i).kind) == ([114, 101, 97, 100] : List UInt8)))] (mW (mW m H) [(b10, actObj (gI l i)), (qn, mObj s.now), (b9, rcObj b8 av c F), (b8, zR s), (b4, cObj b1 b7 b6 b5 c), (b5, fObj c.fails), (b6, oObj c.tokens), (b7, tObj c.things), (b1, dObj b3 qn s), (b3, mObj s.kept)])
   refine hK1 _ _ ?_; clear hK1 K1
   refine cD rfl rfl (fun h8 => ?_) (fun h8 => ?_)
   ·
    replace h8 : (gI l i).kind = ([114, 101, 97, 100] : List UInt8) := (eq_of_beq h8)
    refine rS [] [1, 6, 7, 9, 10, 11, 12, 22, 23] (by decide) ?_
    intro K1 hK1
    refine ⟨tv, ⟨rfl, by decide⟩, ?_⟩
    refine aL rfl (v := iT ((gI l i).a)) rfl (wG 0 hNb10 rfl) rfl (aO rfl rfl (nB rfl)) rfl ?_
    refine ar_mem (wS hNb10 (pick_perm [4, 7, 6] _)) ?_
    refine u_CRead b4 b1 b7 b6 b5 b3 qn c s ((gI l i).a) (show ([b4, b1, b7] : List Nat).Nodup from keep_nodup (L := [(b10, actObj (gI l i)), (qn, mObj s.now), (b9, rcObj b8 av c F), (b8, zR s), (b4, cObj b1 b7 b6 b5 c), (b5, fObj c.fails), (b6, oObj c.tokens), (b7, tObj c.things), (b1, dObj b3 qn s), (b3, mObj s.kept)]) hNb10 (pick_perm [4, 7, 6] _)) (fun p hp => (hI.2.2.2.2.1.ids p hp).2.2) _ _ ?_
    refine ar_mem (wS (m := (mW m H)) (L := [(b10, actObj (gI l i)), (qn, mObj s.now), (b9, rcObj b8 av c F), (b8, zR s), (b4, cObj b1 b7 b6 b5 c), (b5, fObj c.fails), (b6, oObj c.tokens), (b7, tObj c.things), (b1, dObj b3 qn s), (b3, mObj s.kept)]) hNb10 (pick_perm [4, 7, 6] _)).symm ?_
    refine ⟨tv, (nB rfl), (nB rfl), ?_⟩
    refine ar_alloc rfl (z := .agg [iT 0, .str ([]), iT 0, iT 0, .str ([]), .slice true [], .slice true []]) rfl rfl ?_
    intro b11 hb11
    have hFb11 : (mW m H) b11 = none := wth_none hb11
    have hNb11 : ([b11, b10, qn, b9, b8, b4, b5, b6, b7, b1, b3] : List Nat).Nodup := wth_nodup hb11 hNb10
    refine aS rfl 0 (v := thgAV ((readC c s ((gI l i).a)).1)) (l' := [iT (((readC c s ((gI l i).a)).1).id), .str (((readC c s ((gI l i).a)).1).kind), iT ((((readC c s ((gI l i).a)).1).v).kind), iT ((((readC c s ((gI l i).a)).1).v).n), .str ((((readC c s ((gI l i).a)).1).v).s), sF (((((readC c s ((gI l i).a)).1).v).l).map valIn), sF (((((readC c s ((gI l i).a)).1).v).f).map fldIn)]) rfl (by rfl) hNb11 rfl rfl rfl rfl rfl (nB rfl) rfl ?_
    refine ⟨tv, ?_⟩
    show K1 [(1, sF (l.map actAV)), (6, pT b1), (7, pT b4), (9, pT b8), (10, pT b9), (11, iT i), (12, pT b10), (22, pT b11), (23, .err 108 ((readC c s ((gI l i).a)).2))] (mW (mW m H) [(b11, .cells [iT (((readC c s ((gI l i).a)).1).id), .str (((readC c s ((gI l i).a)).1).kind), iT ((((readC c s ((gI l i).a)).1).v).kind), iT ((((readC c s ((gI l i).a)).1).v).n), .str ((((readC c s ((gI l i).a)).1).v).s), sF (((((readC c s ((gI l i).a)).1).v).l).map valIn), sF (((((readC c s ((gI l i).a)).1).v).f).map fldIn)]), (b10, actObj (gI l i)), (qn, mObj s.now), (b9, rcObj b8 av c F), (b8, zR s), (b4, cObj b1 b7 b6 b5 c), (b5, fObj c.fails), (b6, oObj c.tokens), (b7, tObj c.things), (b1, dObj b3 qn s), (b3, mObj s.kept)])
    refine hK1 _ _ ?_; clear hK1 K1
    refine rS [] [1, 6, 7, 9, 10, 11, 22, 23, 24, 25] (by decide) ?_
    intro K1 hK1
    refine ⟨tv, ⟨rfl, by decide⟩, ?_⟩
    refine aL rfl (v := iT ((gI l i).a)) rfl (wG 1 hNb11 rfl) rfl (aO rfl rfl (nB rfl)) rfl ?_
    have hD10 : ∀ cz ∈ ([b11, b10, qn, b9, b8, b4, b5, b6, b7, b1, b3] : List Nat), cz ∉ List.map Prod.fst H := by simp only [List.forall_mem_cons]; exact ⟨hid_nin (m := m) hFb11, hid_nin (m := m) hFb10, hid_nin (m := m) hFqn, hid_nin (m := m) hG0b9, hid_nin (m := m) hG0b8, hid_nin (m := m) hG0b4, hid_nin (m := m) hG0b5, hid_nin (m := m) hG0b6, hid_nin (m := m) hG0b7, hid_nin (m := m) hG0b1, hid_nin (m := m) hG0b3, nfA⟩
    have hTc10 : HidR _ (mW m _) [b9, b8] H _ _ := HidR.call (L := [(b11, .cells [iT (((readC c s ((gI l i).a)).1).id), .str (((readC c s ((gI l i).a)).1).kind), iT ((((readC c s ((gI l i).a)).1).v).kind), iT ((((readC c s ((gI l i).a)).1).v).n), .str ((((readC c s ((gI l i).a)).1).v).s), sF (((((readC c s ((gI l i).a)).1).v).l).map valIn), sF (((((readC c s ((gI l i).a)).1).v).f).map fldIn)]), (b10, actObj (gI l i)), (qn, mObj s.now), (b9, rcObj b8 av c F), (b8, zR s), (b4, cObj b1 b7 b6 b5 c), (b5, fObj c.fails), (b6, oObj c.tokens), (b7, tObj c.things), (b1, dObj b3 qn s), (b3, mObj s.kept)]) hTH (pick_perm [3, 3] _) hD10
    refine ar_mem (hid_call (m := m) (H := H) (L := [(b11, .cells [iT (((readC c s ((gI l i).a)).1).id), .str (((readC c s ((gI l i).a)).1).kind), iT ((((readC c s ((gI l i).a)).1).v).kind), iT ((((readC c s ((gI l i).a)).1).v).n), .str ((((readC c s ((gI l i).a)).1).v).s), sF (((((readC c s ((gI l i).a)).1).v).l).map valIn), sF (((((readC c s ((gI l i).a)).1).v).f).map fldIn)]), (b10, actObj (gI l i)), (qn, mObj s.now), (b9, rcObj b8 av c F), (b8, zR s), (b4, cObj b1 b7 b6 b5 c), (b5, fObj c.fails), (b6, oObj c.tokens), (b7, tObj c.things), (b1, dObj b3 qn s), (b3, mObj s.kept)]) hNb11 (pick_perm [3, 3] _) hTH.nd hD10) ?_
    refine u_RRead b9 b8 () s c F ((gI l i).a) hTc10 (by simp) (by simp) (show ([b9, b8] : List Nat).Nodup from keep_nodup (L := [(b11, .cells [iT (((readC c s ((gI l i).a)).1).id), .str (((readC c s ((gI l i).a)).1).kind), iT ((((readC c s ((gI l i).a)).1).v).kind), iT ((((readC c s ((gI l i).a)).1).v).n), .str ((((readC c s ((gI l i).a)).1).v).s), sF (((((readC c s ((gI l i).a)).1).v).l).map valIn), sF (((((readC c s ((gI l i).a)).1).v).f).map fldIn)]), (b10, actObj (gI l i)), (qn, mObj s.now), (b9, rcObj b8 av c F), (b8, zR s), (b4, cObj b1 b7 b6 b5 c), (b5, fObj c.fails), (b6, oObj c.tokens), (b7, tObj c.things), (b1, dObj b3 qn s), (b3, mObj s.kept)]) hNb11 (pick_perm [3, 3] _)) (by have := hI.2.2.2.2.1.tl; omega) (fun p hp => (hI.2.2.2.2.1.ids p hp).1) _ ?_
    refine ar_mem (hid_call (m := m) (H := H) (L := [(b11, .cells [iT (((readC c s ((gI l i).a)).1).id), .str (((readC c s ((gI l i).a)).1).kind), iT ((((readC c s ((gI l i).a)).1).v).kind), iT ((((readC c s ((gI l i).a)).1).v).n), .str ((((readC c s ((gI l i).a)).1).v).s), sF (((((readC c s ((gI l i).a)).1).v).l).map valIn), sF (((((readC c s ((gI l i).a)).1).v).f).map fldIn)]), (b10, actObj (gI l i)), (qn, mObj s.now), (b9, rcObj b8 av c F), (b8, zR s), (b4, cObj b1 b7 b6 b5 c), (b5, fObj c.fails), (b6, oObj c.tokens), (b7, tObj c.things), (b1, dObj b3 qn s), (b3, mObj s.kept)]) hNb11 (pick_perm [3, 3] _) hTH.nd hD10).symm ?_
    refine ⟨tv, (nB rfl), (nB rfl), ?_⟩
    refine ar_alloc rfl (z := .agg [iT 0, .str ([]), iT 0, iT 0, .str ([]), .slice true [], .slice true []]) rfl rfl ?_
    intro b12 hb12
    have hFb12 : (mW m H) b12 = none := wth_none hb12
    have hNb12 : ([b12, b11, b10, qn, b9, b8, b4, b5, b6, b7, b1, b3] : List Nat).Nodup := wth_nodup hb12 hNb11
    refine aS rfl 0 (v := thgAV ((readC c s ((gI l i).a)).1)) (l' := [iT (((readC c s ((gI l i).a)).1).id), .str (((readC c s ((gI l i).a)).1).kind), iT ((((readC c s ((gI l i).a)).1).v).kind), iT ((((readC c s ((gI l i).a)).1).v).n), .str ((((readC c s ((gI l i).a)).1).v).s), sF (((((readC c s ((gI l i).a)).1).v).l).map valIn), sF (((((readC c s ((gI l i).a)).1).v).f).map fldIn)]) rfl (by rfl) hNb12 rfl rfl rfl rfl rfl (nB rfl) rfl ?_
    refine ⟨tv, ?_⟩
    show K1 [(1, sF (l.map actAV)), (6, pT b1), (7, pT b4), (9, pT b8), (10, pT b9), (11, iT i), (22, pT b11), (23, .err 108 ((readC c s ((gI l i).a)).2)), (24, pT b12), (25, iT ((readC c s ((gI l i).a)).2))] (mW (mW m H) [(b12, .cells [iT (((readC c s ((gI l i).a)).1).id), .str (((readC c s ((gI l i).a)).1).kind), iT ((((readC c s ((gI l i).a)).1).v).kind), iT ((((readC c s ((gI l i).a)).1).v).n), .str ((((readC c s ((gI l i).a)).1).v).s), sF (((((readC c s ((gI l i).a)).1).v).l).map valIn), sF (((((readC c s ((gI l i).a)).1).v).f).map fldIn)]), (b11, .cells [iT (((readC c s ((gI l i).a)).1).id), .str (((readC c s ((gI l i).a)).1).kind), iT ((((readC c s ((gI l i).a)).1).v).kind), iT ((((readC c s ((gI l i).a)).1).v).n), .str ((((readC c s ((gI l i).a)).1).v).s), sF (((((readC c s ((gI l i).a)).1).v).l).map valIn), sF (((((readC c s ((gI l i).a)).1).v).f).map fldIn)]), (b10, actObj (gI l i)), (qn, mObj s.now), (b9, rcObj b8 av c F), (b8, zR s), (b4, cObj b1 b7 b6 b5 c), (b5, fObj c.fails), (b6, oObj c.tokens), (b7, tObj c.things), (b1, dObj b3 qn s), (b3, mObj s.kept)])
    refine hK1 _ _ ?_; clear hK1 K1
    refine awp_reg2 [] [1, 6, 7, 9, 10, 11, 13] (by decide) ?_
    intro K1 hK1
    suffices key : K1 [(1, sF (l.map actAV)), (6, pT b1), (7, pT b4), (9, pT b8), (10, pT b9), (11, iT i), (13, .bool true)] (mW (mW m H) [(b12, .cells [iT (((readC c s ((gI l i).a)).1).id), .str (((readC c s ((gI l i).a)).1).kind), iT ((((readC c s ((gI l i).a)).1).v).kind), iT ((((readC c s ((gI l i).a)).1).v).n), .str ((((readC c s ((gI l i).a)).1).v).s), sF (((((readC c s ((gI l i).a)).1).v).l).map valIn), sF (((((readC c s ((gI l i).a)).1).v).f).map fldIn)]), (b11, .cells [iT (((readC c s ((gI l i).a)).1).id), .str (((readC c s ((gI l i).a)).1).kind), iT ((((readC c s ((gI l i).a)).1).v).kind), iT ((((readC c s ((gI l i).a)).1).v).n), .str ((((readC c s ((gI l i).a)).1).v).s), sF (((((readC c s ((gI l i).a)).1).v).l).map valIn), sF (((((readC c s ((gI l i).a)).1).v).f).map fldIn)]), (b10, actObj (gI l i)), (qn, mObj s.now), (b9, rcObj b8 av c F), (b8, zR s), (b4, cObj b1 b7 b6 b5 c), (b5, fObj c.fails), (b6, oObj c.tokens), (b7, tObj c.things), (b1, dObj b3 qn s), (b3, mObj s.kept)]) by
     refine aL rfl (v := .agg [iT (((readC c s ((gI l i).a)).1).id), .str (((readC c s ((gI l i).a)).1).kind), iT ((((readC c s ((gI l i).a)).1).v).kind), iT ((((readC c s ((gI l i).a)).1).v).n), .str ((((readC c s ((gI l i).a)).1).v).s), sF (((((readC c s ((gI l i).a)).1).v).l).map valIn), sF (((((readC c s ((gI l i).a)).1).v).f).map fldIn)]) rfl (wG 1 hNb12 rfl) rfl (apartOk_agg rfl rfl (nB rfl)) rfl ?_
     refine aL rfl (v := .agg [iT (((readC c s ((gI l i).a)).1).id), .str (((readC c s ((gI l i).a)).1).kind), iT ((((readC c s ((gI l i).a)).1).v).kind), iT ((((readC c s ((gI l i).a)).1).v).n), .str ((((readC c s ((gI l i).a)).1).v).s), sF (((((readC c s ((gI l i).a)).1).v).l).map valIn), sF (((((readC c s ((gI l i).a)).1).v).f).map fldIn)]) rfl (wG 0 hNb12 rfl) rfl (apartOk_agg rfl rfl (nB rfl)) rfl ?_
     refine u_SameThingEq ((readC c s ((gI l i).a)).1) _ _ ?_
     refine ⟨tv, tv, tv, ?_⟩
     refine u_same_eq ((readC c s ((gI l i).a)).2) (by first | decide | assumption | exact readC_nn) _ _ ?_
     refine ⟨tv, ?_⟩
     exact key
    refine hK1 _ _ ?_; clear hK1 K1
    refine hK8 _ _ ?_; clear hK8
    refine awp_draw_seq Try.mixed [(iT c.calls), (sF ((vals c).map thgAV)), (.bool true)] [1, 6, 7, 9, 10, 11, 265] (by decide) (by decide) ?_
    intro K1 hK1
    suffices key : K1 [(1, sF (l.map actAV)), (6, pT b1), (7, pT b4), (9, pT b8), (10, pT b9), (11, iT i), (265, .bool false)] (mW (mW m H) [(b12, .cells [iT (((readC c s ((gI l i).a)).1).id), .str (((readC c s ((gI l i).a)).1).kind), iT ((((readC c s ((gI l i).a)).1).v).kind), iT ((((readC c s ((gI l i).a)).1).v).n), .str ((((readC c s ((gI l i).a)).1).v).s), sF (((((readC c s ((gI l i).a)).1).v).l).map valIn), sF (((((readC c s ((gI l i).a)).1).v).f).map fldIn)]), (b11, .cells [iT (((readC c s ((gI l i).a)).1).id), .str (((readC c s ((gI l i).a)).1).kind), iT ((((readC c s ((gI l i).a)).1).v).kind), iT ((((readC c s ((gI l i).a)).1).v).n), .str ((((readC c s ((gI l i).a)).1).v).s), sF (((((readC c s ((gI l i).a)).1).v).l).map valIn), sF (((((readC c s ((gI l i).a)).1).v).f).map fldIn)]), (b10, actObj (gI l i)), (qn, mObj s.now), (b9, rcObj b8 av c F), (b8, zR s), (b4, cObj b1 b7 b6 b5 c), (b5, fObj c.fails), (b6, oObj c.tokens), (b7, tObj c.things), (b1, dObj b3 qn s), (b3, mObj s.kept)]) by
     refine ⟨tv, tv, tv, tv, (pure_mem (wS (m := (mW m H)) (L := [(b12, .cells [iT (((readC c s ((gI l i).a)).1).id), .str (((readC c s ((gI l i).a)).1).kind), iT ((((readC c s ((gI l i).a)).1).v).kind), iT ((((readC c s ((gI l i).a)).1).v).n), .str ((((readC c s ((gI l i).a)).1).v).s), sF (((((readC c s ((gI l i).a)).1).v).l).map valIn), sF (((((readC c s ((gI l i).a)).1).v).f).map fldIn)]), (b11, .cells [iT (((readC c s ((gI l i).a)).1).id), .str (((readC c s ((gI l i).a)).1).kind), iT ((((readC c s ((gI l i).a)).1).v).kind), iT ((((readC c s ((gI l i).a)).1).v).n), .str ((((readC c s ((gI l i).a)).1).v).s), sF (((((readC c s ((gI l i).a)).1).v).l).map valIn), sF (((((readC c s ((gI l i).a)).1).v).f).map fldIn)]), (b10, actObj (gI l i)), (qn, mObj s.now), (b9, rcObj b8 av c F), (b8, zR s), (b4, cObj b1 b7 b6 b5 c), (b5, fObj c.fails), (b6, oObj c.tokens), (b7, tObj c.things), (b1, dObj b3 qn s), (b3, mObj s.kept)]) hNb12 (pick_perm [6] _)) (fun Kc hKc => u_CCalls b4 b1 b7 b6 b5 c _ Kc hKc)), tv, tv, ⟨rfl, by decide⟩, ?_⟩
     refine pq_loadp rfl (v := iT c.calls) rfl (wG 4 hNb12 rfl) (aO rfl rfl (nB rfl)) rfl ?_
     refine ⟨tv, ?_⟩
     refine pq_top 254 (.bool false) (cgA AV.bool (by simp)) ?_
     refine ⟨tv, ?_⟩
     refine ⟨tv, tv, (pure_mem (wS (m := (mW m H)) (L := [(b12, .cells [iT (((readC c s ((gI l i).a)).1).id), .str (((readC c s ((gI l i).a)).1).kind), iT ((((readC c s ((gI l i).a)).1).v).kind), iT ((((readC c s ((gI l i).a)).1).v).n), .str ((((readC c s ((gI l i).a)).1).v).s), sF (((((readC c s ((gI l i).a)).1).v).l).map valIn), sF (((((readC c s ((gI l i).a)).1).v).f).map fldIn)]), (b11, .cells [iT (((readC c s ((gI l i).a)).1).id), .str (((readC c s ((gI l i).a)).1).kind), iT ((((readC c s ((gI l i).a)).1).v).kind), iT ((((readC c s ((gI l i).a)).1).v).n), .str ((((readC c s ((gI l i).a)).1).v).s), sF (((((readC c s ((gI l i).a)).1).v).l).map valIn), sF (((((readC c s ((gI l i).a)).1).v).f).map fldIn)]), (b10, actObj (gI l i)), (qn, mObj s.now), (b9, rcObj b8 av c F), (b8, zR s), (b4, cObj b1 b7 b6 b5 c), (b5, fObj c.fails), (b6, oObj c.tokens), (b7, tObj c.things), (b1, dObj b3 qn s), (b3, mObj s.kept)]) hNb12 (pick_perm [6, 8] _)) (fun Kc hKc => u_AllC b4 b1 b7 b6 b5 c _ _ (show ([b4, b7] : List Nat).Nodup from keep_nodup (L := [(b12, .cells [iT (((readC c s ((gI l i).a)).1).id), .str (((readC c s ((gI l i).a)).1).kind), iT ((((readC c s ((gI l i).a)).1).v).kind), iT ((((readC c s ((gI l i).a)).1).v).n), .str ((((readC c s ((gI l i).a)).1).v).s), sF (((((readC c s ((gI l i).a)).1).v).l).map valIn), sF (((((readC c s ((gI l i).a)).1).v).f).map fldIn)]), (b11, .cells [iT (((readC c s ((gI l i).a)).1).id), .str (((readC c s ((gI l i).a)).1).kind), iT ((((readC c s ((gI l i).a)).1).v).kind), iT ((((readC c s ((gI l i).a)).1).v).n), .str ((((readC c s ((gI l i).a)).1).v).s), sF (((((readC c s ((gI l i).a)).1).v).l).map valIn), sF (((((readC c s ((gI l i).a)).1).v).f).map fldIn)]), (b10, actObj (gI l i)), (qn, mObj s.now), (b9, rcObj b8 av c F), (b8, zR s), (b4, cObj b1 b7 b6 b5 c), (b5, fObj c.fails), (b6, oObj c.tokens), (b7, tObj c.things), (b1, dObj b3 qn s), (b3, mObj s.kept)]) hNb12 (pick_perm [6, 8] _)) hI.2.2.2.2.1 (by omega) _ Kc hKc)), tv, tv, ⟨rfl, by decide⟩, ?_⟩
     refine pq_loadp rfl (v := av) rfl (wG 4 hNb12 rfl) (aO rfl rfl (nB rfl)) (hid_pl hTH) ?_
     have hD12 : ∀ cz ∈ ([b12, b11, b10, qn, b9, b8, b4, b5, b6, b7, b1, b3] : List Nat), cz ∉ List.map Prod.fst H := by simp only [List.forall_mem_cons]; exact ⟨hid_nin (m := m) hFb12, hid_nin (m := m) hFb11, hid_nin (m := m) hFb10, hid_nin (m := m) hFqn, hid_nin (m := m) hG0b9, hid_nin (m := m) hG0b8, hid_nin (m := m) hG0b4, hid_nin (m := m) hG0b5, hid_nin (m := m) hG0b6, hid_nin (m := m) hG0b7, hid_nin (m := m) hG0b1, hid_nin (m := m) hG0b3, nfA⟩
     have hTc12 : HidR _ (mW m _) [] H _ _ := HidR.call (L := [(b12, .cells [iT (((readC c s ((gI l i).a)).1).id), .str (((readC c s ((gI l i).a)).1).kind), iT ((((readC c s ((gI l i).a)).1).v).kind), iT ((((readC c s ((gI l i).a)).1).v).n), .str ((((readC c s ((gI l i).a)).1).v).s), sF (((((readC c s ((gI l i).a)).1).v).l).map valIn), sF (((((readC c s ((gI l i).a)).1).v).f).map fldIn)]), (b11, .cells [iT (((readC c s ((gI l i).a)).1).id), .str (((readC c s ((gI l i).a)).1).kind), iT ((((readC c s ((gI l i).a)).1).v).kind), iT ((((readC c s ((gI l i).a)).1).v).n), .str ((((readC c s ((gI l i).a)).1).v).s), sF (((((readC c s ((gI l i).a)).1).v).l).map valIn), sF (((((readC c s ((gI l i).a)).1).v).f).map fldIn)]), (b10, actObj (gI l i)), (qn, mObj s.now), (b9, rcObj b8 av c F), (b8, zR s), (b4, cObj b1 b7 b6 b5 c), (b5, fObj c.fails), (b6, oObj c.tokens), (b7, tObj c.things), (b1, dObj b3 qn s), (b3, mObj s.kept)]) hTH (pick_perm [] _) hD12
     refine ⟨(pure_mem (hid_call (m := m) (H := H) (L := [(b12, .cells [iT (((readC c s ((gI l i).a)).1).id), .str (((readC c s ((gI l i).a)).1).kind), iT ((((readC c s ((gI l i).a)).1).v).kind), iT ((((readC c s ((gI l i).a)).1).v).n), .str ((((readC c s ((gI l i).a)).1).v).s), sF (((((readC c s ((gI l i).a)).1).v).l).map valIn), sF (((((readC c s ((gI l i).a)).1).v).f).map fldIn)]), (b11, .cells [iT (((readC c s ((gI l i).a)).1).id), .str (((readC c s ((gI l i).a)).1).kind), iT ((((readC c s ((gI l i).a)).1).v).kind), iT ((((readC c s ((gI l i).a)).1).v).n), .str ((((readC c s ((gI l i).a)).1).v).s), sF (((((readC c s ((gI l i).a)).1).v).l).map valIn), sF (((((readC c s ((gI l i).a)).1).v).f).map fldIn)]), (b10, actObj (gI l i)), (qn, mObj s.now), (b9, rcObj b8 av c F), (b8, zR s), (b4, cObj b1 b7 b6 b5 c), (b5, fObj c.fails), (b6, oObj c.tokens), (b7, tObj c.things), (b1, dObj b3 qn s), (b3, mObj s.kept)]) hNb12 (pick_perm [] _) hTH.nd hD12) (fun Kc hKc => u_SameThingsHP hTc12 (by rw [vals_len]; have := (hI.2.2.2.2.1).tl; omega) Kc hKc)), tv, tv, ?_⟩
     exact key
    refine hK1 _ _ ?_; clear hK1 K1
    refine cD rfl rfl (fun hcz => ?_) (fun hcz => ?_)
    ·
     cases hcz
    clear hcz
    refine awp_skip ?_
    refine hK7 _ _ ?_; clear hK7
    have hNd5 : ([qn, b9, b8, b4, b5, b6, b7, b1, b3] : List Nat).Nodup := drop_nodup (L := [(b12, .cells [iT (((readC c s ((gI l i).a)).1).id), .str (((readC c s ((gI l i).a)).1).kind), iT ((((readC c s ((gI l i).a)).1).v).kind), iT ((((readC c s ((gI l i).a)).1).v).n), .str ((((readC c s ((gI l i).a)).1).v).s), sF (((((readC c s ((gI l i).a)).1).v).l).map valIn), sF (((((readC c s ((gI l i).a)).1).v).f).map fldIn)]), (b11, .cells [iT (((readC c s ((gI l i).a)).1).id), .str (((readC c s ((gI l i).a)).1).kind), iT ((((readC c s ((gI l i).a)).1).v).kind), iT ((((readC c s ((gI l i).a)).1).v).n), .str ((((readC c s ((gI l i).a)).1).v).s), sF (((((readC c s ((gI l i).a)).1).v).l).map valIn), sF (((((readC c s ((gI l i).a)).1).v).f).map fldIn)]), (b10, actObj (gI l i)), (qn, mObj s.now), (b9, rcObj b8 av c F), (b8, zR s), (b4, cObj b1 b7 b6 b5 c), (b5, fObj c.fails), (b6, oObj c.tokens), (b7, tObj c.things), (b1, dObj b3 qn s), (b3, mObj s.kept)]) hNb12 (pick_perm [0, 0, 0] _)
    refine awp_dropP [(b12, .cells [iT (((readC c s ((gI l i).a)).1).id), .str (((readC c s ((gI l i).a)).1).kind), iT ((((readC c s ((gI l i).a)).1).v).kind), iT ((((readC c s ((gI l i).a)).1).v).n), .str ((((readC c s ((gI l i).a)).1).v).s), sF (((((readC c s ((gI l i).a)).1).v).l).map valIn), sF (((((readC c s ((gI l i).a)).1).v).f).map fldIn)]), (b11, .cells [iT (((readC c s ((gI l i).a)).1).id), .str (((readC c s ((gI l i).a)).1).kind), iT ((((readC c s ((gI l i).a)).1).v).kind), iT ((((readC c s ((gI l i).a)).1).v).n), .str ((((readC c s ((gI l i).a)).1).v).s), sF (((((readC c s ((gI l i).a)).1).v).l).map valIn), sF (((((readC c s ((gI l i).a)).1).v).f).map fldIn)]), (b10, actObj (gI l i))] [(qn, mObj s.now), (b9, rcObj b8 av c F), (b8, zR s), (b4, cObj b1 b7 b6 b5 c), (b5, fObj c.fails), (b6, oObj c.tokens), (b7, tObj c.things), (b1, dObj b3 qn s), (b3, mObj s.kept)] hNb12 (pick_perm [0, 0, 0] _) (by simp only [List.map_cons, List.map_nil, List.forall_mem_cons]; exact ⟨hFb12, hFb11, hFb10, nfA⟩) ?_
    refine awp_reg2 [] [1, 6, 7, 9, 10, 11] (by decide) ?_
    intro K1 hK1
    refine ⟨tv, ?_⟩
    refine ar_add rfl (a := i) (b := 1) rfl rfl (by omega) (by omega) ?_
    refine ⟨tv, ?_⟩
    show K1 [(1, sF (l.map actAV)), (6, pT b1), (7, pT b4), (9, pT b8), (10, pT b9), (11, iT (i + 1))] (mW (mW m H) [(qn, mObj s.now), (b9, rcObj b8 av c F), (b8, zR s), (b4, cObj b1 b7 b6 b5 c), (b5, fObj c.fails), (b6, oObj c.tokens), (b7, tObj c.things), (b1, dObj b3 qn s), (b3, mObj s.kept)])
    refine hK1 _ _ ?_; clear hK1 K1
    refine ⟨(i + 1, qn, F, H, av, c, s), rfl, rfl, ?_, ?_⟩
    ·
     show ([qn, b9, b8, b4, b5, b6, b7, b1, b3] : List Nat).Nodup ∧ (mW m H) qn = none ∧ (0 ≤ ((i + 1 : Int)) ∧ ((i + 1 : Int)) ≤ l.length ∧ l.length ≤ 80 ∧ Two s () ((i + 1 : Int)).toNat ∧ CI c F ((i + 1 : Int)).toNat ∧ HidR thgAV m [b1, b3, b4, b5, b6, b7, b8, b9, qn] H av (vals c))
     refine ⟨hNd5, hFqn, ?_⟩
     refine ⟨by omega, by omega, hI.2.2.1, ?_, ?_, ?_⟩
     ·
      rw [show (i + 1).toNat = i.toNat + 1 from by omega]; first | exact hT2 | exact hI.2.2.2.1.mono (Nat.le_succ _)
     ·
      rw [show (i + 1).toNat = i.toNat + 1 from by omega]; first | exact hCI | exact hI.2.2.2.2.1.mono (Nat.le_succ _)
     ·
      exact hTH.keep (by intro z hz; simp only [List.mem_cons, List.not_mem_nil, or_false] at hz ⊢; omega)
    ·
     show l.length - ((i + 1 : Int)).toNat < l.length - i.toNat
     omega
   replace h8 : (gI l i).kind ≠ ([114, 101, 97, 100] : List UInt8) := (ne_of_beq_false h8)
   refine rS [] [1, 6, 7, 9, 10, 11, 12, 13, 75, 192] (by decide) ?_
   intro K1 hK1
   refine ⟨tv, tv, ?_⟩
   show K1 [(1, sF (l.map actAV)), (6, pT b1), (7, pT b4), (9, pT b8), (10, pT b9), (11, iT i), (12, pT b10), (13, .bool true), (75, .str ((gI l i).kind)), (192, .bool (((gI l i).kind) == ([108, 111, 115, 101] : List UInt8)))] (mW (mW m H) [(b10, actObj (gI l i)), (qn, mObj s.now), (b9, rcObj b8 av c F), (b8, zR s), (b4, cObj b1 b7 b6 b5 c), (b5, fObj c.fails), (b6, oObj c.tokens), (b7, tObj c.things), (b1, dObj b3 qn s), (b3, mObj s.kept)])
   refine hK1 _ _ ?_; clear hK1 K1
   refine cD rfl rfl (fun h9 => ?_) (fun h9 => ?_)
   ·
    replace h9 : (gI l i).kind = ([108, 111, 115, 101] : List UInt8) := (eq_of_beq h9)
    refine rS [] [1, 6, 7, 9, 10, 11, 12, 13] (by decide) ?_
    intro K1 hK1
    refine ⟨tv, ⟨rfl, by decide⟩, ?_⟩
    refine aL rfl (v := iT ((gI l i).a)) rfl (wG 0 hNb10 rfl) rfl (aO rfl rfl (nB rfl)) rfl ?_
    refine ar_mem (wS hNb10 (pick_perm [4, 6] _)) ?_
    refine u_CLose b4 b1 b7 b6 b5 c ((gI l i).a) (show ([b4, b7] : List Nat).Nodup from keep_nodup (L := [(b10, actObj (gI l i)), (qn, mObj s.now), (b9, rcObj b8 av c F), (b8, zR s), (b4, cObj b1 b7 b6 b5 c), (b5, fObj c.fails), (b6, oObj c.tokens), (b7, tObj c.things), (b1, dObj b3 qn s), (b3, mObj s.kept)]) hNb10 (pick_perm [4, 6] _)) _ _ ?_
    refine ar_mem (wS (m := (mW m H)) (L := [(b10, actObj (gI l i)), (qn, mObj s.now), (b9, rcObj b8 av c F), (b8, zR s), (b4, cObj b1 b7 b6 b5 c), (b5, fObj c.fails), (b6, oObj c.tokens), (b7, tObj (mdel c.things ((gI l i).a))), (b1, dObj b3 qn s), (b3, mObj s.kept)]) hNb10 (pick_perm [4, 6] _)).symm ?_
    show K1 [(1, sF (l.map actAV)), (6, pT b1), (7, pT b4), (9, pT b8), (10, pT b9), (11, iT i), (12, pT b10), (13, .bool true)] (mW (mW m H) [(b10, actObj (gI l i)), (qn, mObj s.now), (b9, rcObj b8 av c F), (b8, zR s), (b4, cObj b1 b7 b6 b5 c), (b5, fObj c.fails), (b6, oObj c.tokens), (b7, tObj (mdel c.things ((gI l i).a))), (b1, dObj b3 qn s), (b3, mObj s.kept)])
    refine hK1 _ _ ?_; clear hK1 K1
    refine awp_reg2 [] [1, 6, 7, 9, 10, 11, 13] (by decide) ?_
    intro K1 hK1
    refine ⟨tv, ⟨rfl, by decide⟩, ?_⟩
    refine aL rfl (v := iT ((gI l i).a)) rfl (wG 0 hNb10 rfl) rfl (aO rfl rfl (nB rfl)) rfl ?_
    have hD13 : ∀ cz ∈ ([b10, qn, b9, b8, b4, b5, b6, b7, b1, b3] : List Nat), cz ∉ List.map Prod.fst H := by simp only [List.forall_mem_cons]; exact ⟨hid_nin (m := m) hFb10, hid_nin (m := m) hFqn, hid_nin (m := m) hG0b9, hid_nin (m := m) hG0b8, hid_nin (m := m) hG0b4, hid_nin (m := m) hG0b5, hid_nin (m := m) hG0b6, hid_nin (m := m) hG0b7, hid_nin (m := m) hG0b1, hid_nin (m := m) hG0b3, nfA⟩
    have hTc13 : HidR _ (mW m _) [b9] H _ _ := HidR.call (L := [(b10, actObj (gI l i)), (qn, mObj s.now), (b9, rcObj b8 av c F), (b8, zR s), (b4, cObj b1 b7 b6 b5 c), (b5, fObj c.fails), (b6, oObj c.tokens), (b7, tObj (mdel c.things ((gI l i).a))), (b1, dObj b3 qn s), (b3, mObj s.kept)]) hTH (pick_perm [2] _) hD13
    refine ar_mem (hid_call (m := m) (H := H) (L := [(b10, actObj (gI l i)), (qn, mObj s.now), (b9, rcObj b8 av c F), (b8, zR s), (b4, cObj b1 b7 b6 b5 c), (b5, fObj c.fails), (b6, oObj c.tokens), (b7, tObj (mdel c.things ((gI l i).a))), (b1, dObj b3 qn s), (b3, mObj s.kept)]) hNb10 (pick_perm [2] _) hTH.nd hD13) ?_
    refine u_RLose b9 b8 c F ((gI l i).a) hTc13 (by have := hI.2.2.2.2.1.tl; omega) (fun p hp => (hI.2.2.2.2.1.ids p hp).1) hI.2.2.2.2.1.nd _ ?_
    intro H13 av13 hTn13
    show aopsR _ _ _ _ _ _ (mW (mW (mW m [(b10, actObj (gI l i)), (qn, mObj s.now), (b8, zR s), (b4, cObj b1 b7 b6 b5 c), (b5, fObj c.fails), (b6, oObj c.tokens), (b7, tObj (mdel c.things ((gI l i).a))), (b1, dObj b3 qn s), (b3, mObj s.kept)]) H13) [(b9, rcObj b8 av13 c F)])
    have hTb13 : HidR _ m [b10, qn, b9, b8, b4, b5, b6, b7, b1, b3] H13 _ _ := HidR.back (L := [(b10, actObj (gI l i)), (qn, mObj s.now), (b9, rcObj b8 av13 c F), (b8, zR s), (b4, cObj b1 b7 b6 b5 c), (b5, fObj c.fails), (b6, oObj c.tokens), (b7, tObj (mdel c.things ((gI l i).a))), (b1, dObj b3 qn s), (b3, mObj s.kept)]) hTn13 rfl (pick_perm [2] _)
    have hE13 : ∀ cz ∈ ([b10, qn, b9, b8, b4, b5, b6, b7, b1, b3] : List Nat), cz ∉ List.map Prod.fst H13 := fun cz hc => hTb13.nin hc
    refine ar_mem (hid_call (m := m) (H := H13) (L := [(b10, actObj (gI l i)), (qn, mObj s.now), (b9, rcObj b8 av13 c F), (b8, zR s), (b4, cObj b1 b7 b6 b5 c), (b5, fObj c.fails), (b6, oObj c.tokens), (b7, tObj (mdel c.things ((gI l i).a))), (b1, dObj b3 qn s), (b3, mObj s.kept)]) hNb10 (pick_perm [2] _) hTb13.nd hE13).symm ?_
    have hG13b10 : (mW m H13) b10 = none := hTb13.loc (hid_base (m := m) hFb10) (by simp)
    have hG13qn : (mW m H13) qn = none := hTb13.loc (hid_base (m := m) hFqn) (by simp)
    have hG13b9 : (mW m H13) b9 = none := hTb13.loc (hid_base (m := m) hG0b9) (by simp)
    have hG13b8 : (mW m H13) b8 = none := hTb13.loc (hid_base (m := m) hG0b8) (by simp)
    have hG13b4 : (mW m H13) b4 = none := hTb13.loc (hid_base (m := m) hG0b4) (by simp)
    have hG13b5 : (mW m H13) b5 = none := hTb13.loc (hid_base (m := m) hG0b5) (by simp)
    have hG13b6 : (mW m H13) b6 = none := hTb13.loc (hid_base (m := m) hG0b6) (by simp)
    have hG13b7 : (mW m H13) b7 = none := hTb13.loc (hid_base (m := m) hG0b7) (by simp)
    have hG13b1 : (mW m H13) b1 = none := hTb13.loc (hid_base (m := m) hG0b1) (by simp)
    have hG13b3 : (mW m H13) b3 = none := hTb13.loc (hid_base (m := m) hG0b3) (by simp)
    show aopsR _ _ _ _ _ _ (mW (mW m H13) [(b10, actObj (gI l i)), (qn, mObj s.now), (b9, rcObj b8 av13 c F), (b8, zR s), (b4, cObj b1 b7 b6 b5 c), (b5, fObj c.fails), (b6, oObj c.tokens), (b7, tObj (mdel c.things ((gI l i).a))), (b1, dObj b3 qn s), (b3, mObj s.kept)])
    show K1 [(1, sF (l.map actAV)), (6, pT b1), (7, pT b4), (9, pT b8), (10, pT b9), (11, iT i), (13, .bool true)] (mW (mW m H13) [(b10, actObj (gI l i)), (qn, mObj s.now), (b9, rcObj b8 av13 c F), (b8, zR s), (b4, cObj b1 b7 b6 b5 c), (b5, fObj c.fails), (b6, oObj c.tokens), (b7, tObj (mdel c.things ((gI l i).a))), (b1, dObj b3 qn s), (b3, mObj s.kept)])
    refine hK1 _ _ ?_; clear hK1 K1
    have hCI : CI ({ c with things := mdel c.things (gI l i).a } : ClSt) (F) (i.toNat + 1) := hI.2.2.2.2.1.lose _
    replace hTb13 : HidR thgAV m _ _ _ (vals ({ c with things := mdel c.things (gI l i).a } : ClSt)) := hTb13
    have hob1 : (cObj b1 b7 b6 b5 c : AObj) = cObj b1 b7 b6 b5 ({ c with things := mdel c.things (gI l i).a } : ClSt) := rfl
    rw [hob1]
    have hob2 : (tObj (mdel c.things ((gI l i).a)) : AObj) = tObj (({ c with things := mdel c.things (gI l i).a } : ClSt).things) := rfl
    rw [hob2]
    have hob3 : (oObj c.tokens : AObj) = oObj (({ c with things := mdel c.things (gI l i).a } : ClSt).tokens) := rfl
    rw [hob3]
    have hob4 : (fObj c.fails : AObj) = fObj (({ c with things := mdel c.things (gI l i).a } : ClSt).fails) := rfl
    rw [hob4]
    have hob5 : (rcObj b8 av13 c F : AObj) = rcObj b8 av13 ({ c with things := mdel c.things (gI l i).a } : ClSt) F := rfl
    rw [hob5]
    generalize ({ c with things := mdel c.things (gI l i).a } : ClSt) = c2 at hCI hTb13 ⊢
    refine hK8 _ _ ?_; clear hK8
    refine awp_draw_seq Try.mixed [(iT c2.calls), (sF ((vals c2).map thgAV)), (.bool true)] [1, 6, 7, 9, 10, 11, 265] (by decide) (by decide) ?_
    intro K1 hK1
    suffices key : K1 [(1, sF (l.map actAV)), (6, pT b1), (7, pT b4), (9, pT b8), (10, pT b9), (11, iT i), (265, .bool false)] (mW (mW m H13) [(b10, actObj (gI l i)), (qn, mObj s.now), (b9, rcObj b8 av13 c2 F), (b8, zR s), (b4, cObj b1 b7 b6 b5 c2), (b5, fObj c2.fails), (b6, oObj c2.tokens), (b7, tObj c2.things), (b1, dObj b3 qn s), (b3, mObj s.kept)]) by
     refine ⟨tv, tv, tv, tv, (pure_mem (wS (m := (mW m H13)) (L := [(b10, actObj (gI l i)), (qn, mObj s.now), (b9, rcObj b8 av13 c2 F), (b8, zR s), (b4, cObj b1 b7 b6 b5 c2), (b5, fObj c2.fails), (b6, oObj c2.tokens), (b7, tObj c2.things), (b1, dObj b3 qn s), (b3, mObj s.kept)]) hNb10 (pick_perm [4] _)) (fun Kc hKc => u_CCalls b4 b1 b7 b6 b5 c2 _ Kc hKc)), tv, tv, ⟨rfl, by decide⟩, ?_⟩
     refine pq_loadp rfl (v := iT c2.calls) rfl (wG 2 hNb10 rfl) (aO rfl rfl (nB rfl)) rfl ?_
     refine ⟨tv, ?_⟩
     refine pq_top 254 (.bool false) (cgA AV.bool (by simp)) ?_
     refine ⟨tv, ?_⟩
     refine ⟨tv, tv, (pure_mem (wS (m := (mW m H13)) (L := [(b10, actObj (gI l i)), (qn, mObj s.now), (b9, rcObj b8 av13 c2 F), (b8, zR s), (b4, cObj b1 b7 b6 b5 c2), (b5, fObj c2.fails), (b6, oObj c2.tokens), (b7, tObj c2.things), (b1, dObj b3 qn s), (b3, mObj s.kept)]) hNb10 (pick_perm [4, 6] _)) (fun Kc hKc => u_AllC b4 b1 b7 b6 b5 c2 _ _ (show ([b4, b7] : List Nat).Nodup from keep_nodup (L := [(b10, actObj (gI l i)), (qn, mObj s.now), (b9, rcObj b8 av13 c2 F), (b8, zR s), (b4, cObj b1 b7 b6 b5 c2), (b5, fObj c2.fails), (b6, oObj c2.tokens), (b7, tObj c2.things), (b1, dObj b3 qn s), (b3, mObj s.kept)]) hNb10 (pick_perm [4, 6] _)) hCI (by omega) _ Kc hKc)), tv, tv, ⟨rfl, by decide⟩, ?_⟩
     refine pq_loadp rfl (v := av13) rfl (wG 2 hNb10 rfl) (aO rfl rfl (nB rfl)) (hid_pl hTb13) ?_
     have hD15 : ∀ cz ∈ ([b10, qn, b9, b8, b4, b5, b6, b7, b1, b3] : List Nat), cz ∉ List.map Prod.fst H13 := by simp only [List.forall_mem_cons]; exact ⟨hid_nin (m := m) hG13b10, hid_nin (m := m) hG13qn, hid_nin (m := m) hG13b9, hid_nin (m := m) hG13b8, hid_nin (m := m) hG13b4, hid_nin (m := m) hG13b5, hid_nin (m := m) hG13b6, hid_nin (m := m) hG13b7, hid_nin (m := m) hG13b1, hid_nin (m := m) hG13b3, nfA⟩
     have hTc15 : HidR _ (mW m _) [] H13 _ _ := HidR.call (L := [(b10, actObj (gI l i)), (qn, mObj s.now), (b9, rcObj b8 av13 c2 F), (b8, zR s), (b4, cObj b1 b7 b6 b5 c2), (b5, fObj c2.fails), (b6, oObj c2.tokens), (b7, tObj c2.things), (b1, dObj b3 qn s), (b3, mObj s.kept)]) hTb13 (pick_perm [] _) hD15
     refine ⟨(pure_mem (hid_call (m := m) (H := H13) (L := [(b10, actObj (gI l i)), (qn, mObj s.now), (b9, rcObj b8 av13 c2 F), (b8, zR s), (b4, cObj b1 b7 b6 b5 c2), (b5, fObj c2.fails), (b6, oObj c2.tokens), (b7, tObj c2.things), (b1, dObj b3 qn s), (b3, mObj s.kept)]) hNb10 (pick_perm [] _) hTb13.nd hD15) (fun Kc hKc => u_SameThingsHP hTc15 (by rw [vals_len]; have := (hCI).tl; omega) Kc hKc)), tv, tv, ?_⟩
     exact key
    refine hK1 _ _ ?_; clear hK1 K1
    refine cD rfl rfl (fun hcz => ?_) (fun hcz => ?_)
    ·
     cases hcz
    clear hcz
    refine awp_skip ?_
    refine hK7 _ _ ?_; clear hK7
    have hNd6 : ([qn, b9, b8, b4, b5, b6, b7, b1, b3] : List Nat).Nodup := drop_nodup (L := [(b10, actObj (gI l i)), (qn, mObj s.now), (b9, rcObj b8 av13 c2 F), (b8, zR s), (b4, cObj b1 b7 b6 b5 c2), (b5, fObj c2.fails), (b6, oObj c2.tokens), (b7, tObj c2.things), (b1, dObj b3 qn s), (b3, mObj s.kept)]) hNb10 (pick_perm [0] _)
    refine awp_dropP [(b10, actObj (gI l i))] [(qn, mObj s.now), (b9, rcObj b8 av13 c2 F), (b8, zR s), (b4, cObj b1 b7 b6 b5 c2), (b5, fObj c2.fails), (b6, oObj c2.tokens), (b7, tObj c2.things), (b1, dObj b3 qn s), (b3, mObj s.kept)] hNb10 (pick_perm [0] _) (by simp only [List.map_cons, List.map_nil, List.forall_mem_cons]; exact ⟨hG13b10, nfA⟩) ?_
    refine awp_reg2 [] [1, 6, 7, 9, 10, 11] (by decide) ?_
    intro K1 hK1
    refine ⟨tv, ?_⟩
    refine ar_add rfl (a := i) (b := 1) rfl rfl (by omega) (by omega) ?_
    refine ⟨tv, ?_⟩
    show K1 [(1, sF (l.map actAV)), (6, pT b1), (7, pT b4), (9, pT b8), (10, pT b9), (11, iT (i + 1))] (mW (mW m H13) [(qn, mObj s.now), (b9, rcObj b8 av13 c2 F), (b8, zR s), (b4, cObj b1 b7 b6 b5 c2), (b5, fObj c2.fails), (b6, oObj c2.tokens), (b7, tObj c2.things), (b1, dObj b3 qn s), (b3, mObj s.kept)])
    refine hK1 _ _ ?_; clear hK1 K1
    refine ⟨(i + 1, qn, F, H13, av13, c2, s), rfl, rfl, ?_, ?_⟩
    ·
     show ([qn, b9, b8, b4, b5, b6, b7, b1, b3] : List Nat).Nodup ∧ (mW m ((H13 : (List (Nat × AObj))))) qn = none ∧ (0 ≤ ((i + 1 : Int)) ∧ ((i + 1 : Int)) ≤ l.length ∧ l.length ≤ 80 ∧ Two s () ((i + 1 : Int)).toNat ∧ CI ((c2 : ClSt)) F ((i + 1 : Int)).toNat ∧ HidR thgAV m [b1, b3, b4, b5, b6, b7, b8, b9, qn] ((H13 : (List (Nat × AObj)))) ((av13 : AV)) (vals ((c2 : ClSt))))
     refine ⟨hNd6, hG13qn, ?_⟩
     refine ⟨by omega, by omega, hI.2.2.1, ?_, ?_, ?_⟩
     ·
      rw [show (i + 1).toNat = i.toNat + 1 from by omega]; first | exact hT2 | exact hI.2.2.2.1.mono (Nat.le_succ _)
     ·
      rw [show (i + 1).toNat = i.toNat + 1 from by omega]; first | exact hCI | exact hI.2.2.2.2.1.mono (Nat.le_succ _)
     ·
      exact hTb13.keep (by intro z hz; simp only [List.mem_cons, List.not_mem_nil, or_false] at hz ⊢; omega)
    ·
     show l.length - ((i + 1 : Int)).toNat < l.length - i.toNat
     omega
   replace h9 : (gI l i).kind ≠ ([108, 111, 115, 101] : List UInt8) := (ne_of_beq_false h9)
   refine rS [] [1, 6, 7, 9, 10, 11, 12, 13, 75, 202] (by decide) ?_
   intro K1 hK1
   refine ⟨tv, tv, ?_⟩
   show K1 [(1, sF (l.map actAV)), (6, pT b1), (7, pT b4), (9, pT b8), (10, pT b9), (11, iT i), (12, pT b10), (13, .bool true), (75, .str ((gI l i).kind)), (202, .bool (((gI l i).kind) == ([115, 112, 111, 105, 108] : List UInt8)))] (mW (mW m H) [(b10, actObj (gI l i)), (qn, mObj s.now), (b9, rcObj b8 av c F), (b8, zR s), (b4, cObj b1 b7 b6 b5 c), (b5, fObj c.fails), (b6, oObj c.tokens), (b7, tObj c.things), (b1, dObj b3 qn s), (b3, mObj s.kept)])
   refine hK1 _ _ ?_; clear hK1 K1
   refine cD rfl rfl (fun h10 => ?_) (fun h10 => ?_)
   ·
    replace h10 : (gI l i).kind = ([115, 112, 111, 105, 108] : List UInt8) := (eq_of_beq h10)
    obtain ⟨t2, ht2⟩ := spoil_form c (gI l i).a (gI l i).v
    refine rS [] [1, 6, 7, 9, 10, 11, 12, 13] (by decide) ?_
    intro K1 hK1
    refine ⟨tv, ⟨rfl, by decide⟩, ?_⟩
    refine aL rfl (v := iT ((gI l i).a)) rfl (wG 0 hNb10 rfl) rfl (aO rfl rfl (nB rfl)) rfl ?_
    refine ⟨⟨rfl, by decide⟩, ?_⟩
    refine aL rfl (v := .agg [iT (((gI l i).v).kind), iT (((gI l i).v).n), .str (((gI l i).v).s), sF ((((gI l i).v).l).map valIn), sF ((((gI l i).v).f).map fldIn)]) rfl (wG 0 hNb10 rfl) rfl (apartOk_agg rfl rfl (nB rfl)) rfl ?_
    refine ar_mem (wS hNb10 (pick_perm [4, 6] _)) ?_
    refine u_CSpoilF b4 b1 b7 b6 b5 c ((gI l i).a) ((gI l i).v) t2 ht2 (show ([b4, b7] : List Nat).Nodup from keep_nodup (L := [(b10, actObj (gI l i)), (qn, mObj s.now), (b9, rcObj b8 av c F), (b8, zR s), (b4, cObj b1 b7 b6 b5 c), (b5, fObj c.fails), (b6, oObj c.tokens), (b7, tObj c.things), (b1, dObj b3 qn s), (b3, mObj s.kept)]) hNb10 (pick_perm [4, 6] _)) (by have := hI.2.2.2.2.1.tl; omega) _ _ ?_
    refine ar_mem (wS (m := (mW m H)) (L := [(b10, actObj (gI l i)), (qn, mObj s.now), (b9, rcObj b8 av c F), (b8, zR s), (b4, cObj b1 b7 b6 b5 c), (b5, fObj c.fails), (b6, oObj c.tokens), (b7, tObj t2), (b1, dObj b3 qn s), (b3, mObj s.kept)]) hNb10 (pick_perm [4, 6] _)).symm ?_
    show K1 [(1, sF (l.map actAV)), (6, pT b1), (7, pT b4), (9, pT b8), (10, pT b9), (11, iT i), (12, pT b10), (13, .bool true)] (mW (mW m H) [(b10, actObj (gI l i)), (qn, mObj s.now), (b9, rcObj b8 av c F), (b8, zR s), (b4, cObj b1 b7 b6 b5 c), (b5, fObj c.fails), (b6, oObj c.tokens), (b7, tObj t2), (b1, dObj b3 qn s), (b3, mObj s.kept)])
    refine hK1 _ _ ?_; clear hK1 K1
    refine awp_reg2 [] [1, 6, 7, 9, 10, 11, 13] (by decide) ?_
    intro K1 hK1
    refine ⟨tv, ⟨rfl, by decide⟩, ?_⟩
    refine aL rfl (v := iT ((gI l i).a)) rfl (wG 0 hNb10 rfl) rfl (aO rfl rfl (nB rfl)) rfl ?_
    refine ⟨⟨rfl, by decide⟩, ?_⟩
    refine aL rfl (v := .agg [iT (((gI l i).v).kind), iT (((gI l i).v).n), .str (((gI l i).v).s), sF ((((gI l i).v).l).map valIn), sF ((((gI l i).v).f).map fldIn)]) rfl (wG 0 hNb10 rfl) rfl (apartOk_agg rfl rfl (nB rfl)) rfl ?_
    have hD16 : ∀ cz ∈ ([b10, qn, b9, b8, b4, b5, b6, b7, b1, b3] : List Nat), cz ∉ List.map Prod.fst H := by simp only [List.forall_mem_cons]; exact ⟨hid_nin (m := m) hFb10, hid_nin (m := m) hFqn, hid_nin (m := m) hG0b9, hid_nin (m := m) hG0b8, hid_nin (m := m) hG0b4, hid_nin (m := m) hG0b5, hid_nin (m := m) hG0b6, hid_nin (m := m) hG0b7, hid_nin (m := m) hG0b1, hid_nin (m := m) hG0b3, nfA⟩
    have hTc16 : HidR _ (mW m _) [b9] H _ _ := HidR.call (L := [(b10, actObj (gI l i)), (qn, mObj s.now), (b9, rcObj b8 av c F), (b8, zR s), (b4, cObj b1 b7 b6 b5 c), (b5, fObj c.fails), (b6, oObj c.tokens), (b7, tObj t2), (b1, dObj b3 qn s), (b3, mObj s.kept)]) hTH (pick_perm [2] _) hD16
    refine ar_mem (hid_call (m := m) (H := H) (L := [(b10, actObj (gI l i)), (qn, mObj s.now), (b9, rcObj b8 av c F), (b8, zR s), (b4, cObj b1 b7 b6 b5 c), (b5, fObj c.fails), (b6, oObj c.tokens), (b7, tObj t2), (b1, dObj b3 qn s), (b3, mObj s.kept)]) hNb10 (pick_perm [2] _) hTH.nd hD16) ?_
    refine u_RSpoilF b9 b8 c F ((gI l i).a) ((gI l i).v) t2 ht2 hTc16 (by simp) (by have := hI.2.2.2.2.1.tl; omega) (fun p hp => (hI.2.2.2.2.1.ids p hp).1) hBi _ ?_
    intro H16 av16 hTn16
    show aopsR _ _ _ _ _ _ (mW (mW (mW m [(b10, actObj (gI l i)), (qn, mObj s.now), (b8, zR s), (b4, cObj b1 b7 b6 b5 c), (b5, fObj c.fails), (b6, oObj c.tokens), (b7, tObj t2), (b1, dObj b3 qn s), (b3, mObj s.kept)]) H16) [(b9, rcObj b8 av16 c F)])
    have hTb16 : HidR _ m [b10, qn, b9, b8, b4, b5, b6, b7, b1, b3] H16 _ _ := HidR.back (L := [(b10, actObj (gI l i)), (qn, mObj s.now), (b9, rcObj b8 av16 c F), (b8, zR s), (b4, cObj b1 b7 b6 b5 c), (b5, fObj c.fails), (b6, oObj c.tokens), (b7, tObj t2), (b1, dObj b3 qn s), (b3, mObj s.kept)]) hTn16 rfl (pick_perm [2] _)
    have hE16 : ∀ cz ∈ ([b10, qn, b9, b8, b4, b5, b6, b7, b1, b3] : List Nat), cz ∉ List.map Prod.fst H16 := fun cz hc => hTb16.nin hc
    refine ar_mem (hid_call (m := m) (H := H16) (L := [(b10, actObj (gI l i)), (qn, mObj s.now), (b9, rcObj b8 av16 c F), (b8, zR s), (b4, cObj b1 b7 b6 b5 c), (b5, fObj c.fails), (b6, oObj c.tokens), (b7, tObj t2), (b1, dObj b3 qn s), (b3, mObj s.kept)]) hNb10 (pick_perm [2] _) hTb16.nd hE16).symm ?_
    have hG16b10 : (mW m H16) b10 = none := hTb16.loc (hid_base (m := m) hFb10) (by simp)
    have hG16qn : (mW m H16) qn = none := hTb16.loc (hid_base (m := m) hFqn) (by simp)
    have hG16b9 : (mW m H16) b9 = none := hTb16.loc (hid_base (m := m) hG0b9) (by simp)
    have hG16b8 : (mW m H16) b8 = none := hTb16.loc (hid_base (m := m) hG0b8) (by simp)
    have hG16b4 : (mW m H16) b4 = none := hTb16.loc (hid_base (m := m) hG0b4) (by simp)
    have hG16b5 : (mW m H16) b5 = none := hTb16.loc (hid_base (m := m) hG0b5) (by simp)
    have hG16b6 : (mW m H16) b6 = none := hTb16.loc (hid_base (m := m) hG0b6) (by simp)
    have hG16b7 : (mW m H16) b7 = none := hTb16.loc (hid_base (m := m) hG0b7) (by simp)
    have hG16b1 : (mW m H16) b1 = none := hTb16.loc (hid_base (m := m) hG0b1) (by simp)
    have hG16b3 : (mW m H16) b3 = none := hTb16.loc (hid_base (m := m) hG0b3) (by simp)
    show aopsR _ _ _ _ _ _ (mW (mW m H16) [(b10, actObj (gI l i)), (qn, mObj s.now), (b9, rcObj b8 av16 c F), (b8, zR s), (b4, cObj b1 b7 b6 b5 c), (b5, fObj c.fails), (b6, oObj c.tokens), (b7, tObj t2), (b1, dObj b3 qn s), (b3, mObj s.kept)])
    show K1 [(1, sF (l.map actAV)), (6, pT b1), (7, pT b4), (9, pT b8), (10, pT b9), (11, iT i), (13, .bool true)] (mW (mW m H16) [(b10, actObj (gI l i)), (qn, mObj s.now), (b9, rcObj b8 av16 c F), (b8, zR s), (b4, cObj b1 b7 b6 b5 c), (b5, fObj c.fails), (b6, oObj c.tokens), (b7, tObj t2), (b1, dObj b3 qn s), (b3, mObj s.kept)])
    refine hK1 _ _ ?_; clear hK1 K1
    have hCI : CI ({ c with things := t2 } : ClSt) (F) (i.toNat + 1) := (by have z := hI.2.2.2.2.1.spoil (gI l i).a (gI l i).v; rw [ht2] at z; exact z)
    replace hTb16 : HidR thgAV m _ _ _ (vals ({ c with things := t2 } : ClSt)) := hTb16
    have hob1 : (cObj b1 b7 b6 b5 c : AObj) = cObj b1 b7 b6 b5 ({ c with things := t2 } : ClSt) := rfl
    rw [hob1]
    have hob2 : (tObj t2 : AObj) = tObj (({ c with things := t2 } : ClSt).things) := rfl
    rw [hob2]
    have hob3 : (oObj c.tokens : AObj) = oObj (({ c with things := t2 } : ClSt).tokens) := rfl
    rw [hob3]
    have hob4 : (fObj c.fails : AObj) = fObj (({ c with things := t2 } : ClSt).fails) := rfl
    rw [hob4]
    have hob5 : (rcObj b8 av16 c F : AObj) = rcObj b8 av16 ({ c with things := t2 } : ClSt) F := rfl
    rw [hob5]
    generalize ({ c with things := t2 } : ClSt) = c2 at hCI hTb16 ⊢
    refine hK8 _ _ ?_; clear hK8
    refine awp_draw_seq Try.mixed [(iT c2.calls), (sF ((vals c2).map thgAV)), (.bool true)] [1, 6, 7, 9, 10, 11, 265] (by decide) (by decide) ?_
    intro K1 hK1
    suffices key : K1 [(1, sF (l.map actAV)), (6, pT b1), (7, pT b4), (9, pT b8), (10, pT b9), (11, iT i), (265, .bool false)] (mW (mW m H16) [(b10, actObj (gI l i)), (qn, mObj s.now), (b9, rcObj b8 av16 c2 F), (b8, zR s), (b4, cObj b1 b7 b6 b5 c2), (b5, fObj c2.fails), (b6, oObj c2.tokens), (b7, tObj c2.things), (b1, dObj b3 qn s), (b3, mObj s.kept)]) by
     refine ⟨tv, tv, tv, tv, (pure_mem (wS (m := (mW m H16)) (L := [(b10, actObj (gI l i)), (qn, mObj s.now), (b9, rcObj b8 av16 c2 F), (b8, zR s), (b4, cObj b1 b7 b6 b5 c2), (b5, fObj c2.fails), (b6, oObj c2.tokens), (b7, tObj c2.things), (b1, dObj b3 qn s), (b3, mObj s.kept)]) hNb10 (pick_perm [4] _)) (fun Kc hKc => u_CCalls b4 b1 b7 b6 b5 c2 _ Kc hKc)), tv, tv, ⟨rfl, by decide⟩, ?_⟩
     refine pq_loadp rfl (v := iT c2.calls) rfl (wG 2 hNb10 rfl) (aO rfl rfl (nB rfl)) rfl ?_
     refine ⟨tv, ?_⟩
     refine pq_top 254 (.bool false) (cgA AV.bool (by simp)) ?_
     refine ⟨tv, ?_⟩
     refine ⟨tv, tv, (pure_mem (wS (m := (mW m H16)) (L := [(b10, actObj (gI l i)), (qn, mObj s.now), (b9, rcObj b8 av16 c2 F), (b8, zR s), (b4, cObj b1 b7 b6 b5 c2), (b5, fObj c2.fails), (b6, oObj c2.tokens), (b7, tObj c2.things), (b1, dObj b3 qn s), (b3, mObj s.kept)]) hNb10 (pick_perm [4, 6] _)) (fun Kc hKc => u_AllC b4 b1 b7 b6 b5 c2 _ _ (show ([b4, b7] : List Nat).Nodup from keep_nodup (L := [(b10, actObj (gI l i)), (qn, mObj s.now), (b9, rcObj b8 av16 c2 F), (b8, zR s), (b4, cObj b1 b7 b6 b5 c2), (b5, fObj c2.fails), (b6, oObj c2.tokens), (b7, tObj c2.things), (b1, dObj b3 qn s), (b3, mObj s.kept)]) hNb10 (pick_perm [4, 6] _)) hCI (by omega) _ Kc hKc)), tv, tv, ⟨rfl, by decide⟩, ?_⟩
     refine pq_loadp rfl (v := av16) rfl (wG 2 hNb10 rfl) (aO rfl rfl (nB rfl)) (hid_pl hTb16) ?_
     have hD18 : ∀ cz ∈ ([b10, qn, b9, b8, b4, b5, b6, b7, b1, b3] : List Nat), cz ∉ List.map Prod.fst H16 := by simp only [List.forall_mem_cons]; exact ⟨hid_nin (m := m) hG16b10, hid_nin (m := m) hG16qn, hid_nin (m := m) hG16b9, hid_nin (m := m) hG16b8, hid_nin (m := m) hG16b4, hid_nin (m := m) hG16b5, hid_nin (m := m) hG16b6, hid_nin (m := m) hG16b7, hid_nin (m := m) hG16b1, hid_nin (m := m) hG16b3, nfA⟩
     have hTc18 : HidR _ (mW m _) [] H16 _ _ := HidR.call (L := [(b10, actObj (gI l i)), (qn, mObj s.now), (b9, rcObj b8 av16 c2 F), (b8, zR s), (b4, cObj b1 b7 b6 b5 c2), (b5, fObj c2.fails), (b6, oObj c2.tokens), (b7, tObj c2.things), (b1, dObj b3 qn s), (b3, mObj s.kept)]) hTb16 (pick_perm [] _) hD18
     refine ⟨(pure_mem (hid_call (m := m) (H := H16) (L := [(b10, actObj (gI l i)), (qn, mObj s.now), (b9, rcObj b8 av16 c2 F), (b8, zR s), (b4, cObj b1 b7 b6 b5 c2), (b5, fObj c2.fails), (b6, oObj c2.tokens), (b7, tObj c2.things), (b1, dObj b3 qn s), (b3, mObj s.kept)]) hNb10 (pick_perm [] _) hTb16.nd hD18) (fun Kc hKc => u_SameThingsHP hTc18 (by rw [vals_len]; have := (hCI).tl; omega) Kc hKc)), tv, tv, ?_⟩
     exact key
    refine hK1 _ _ ?_; clear hK1 K1
    refine cD rfl rfl (fun hcz => ?_) (fun hcz => ?_)
    ·
     cases hcz
    clear hcz
    refine awp_skip ?_
    refine hK7 _ _ ?_; clear hK7
    have hNd7 : ([qn, b9, b8, b4, b5, b6, b7, b1, b3] : List Nat).Nodup := drop_nodup (L := [(b10, actObj (gI l i)), (qn, mObj s.now), (b9, rcObj b8 av16 c2 F), (b8, zR s), (b4, cObj b1 b7 b6 b5 c2), (b5, fObj c2.fails), (b6, oObj c2.tokens), (b7, tObj c2.things), (b1, dObj b3 qn s), (b3, mObj s.kept)]) hNb10 (pick_perm [0] _)
    refine awp_dropP [(b10, actObj (gI l i))] [(qn, mObj s.now), (b9, rcObj b8 av16 c2 F), (b8, zR s), (b4, cObj b1 b7 b6 b5 c2), (b5, fObj c2.fails), (b6, oObj c2.tokens), (b7, tObj c2.things), (b1, dObj b3 qn s), (b3, mObj s.kept)] hNb10 (pick_perm [0] _) (by simp only [List.map_cons, List.map_nil, List.forall_mem_cons]; exact ⟨hG16b10, nfA⟩) ?_
    refine awp_reg2 [] [1, 6, 7, 9, 10, 11] (by decide) ?_
    intro K1 hK1
    refine ⟨tv, ?_⟩
    refine ar_add rfl (a := i) (b := 1) rfl rfl (by omega) (by omega) ?_
    refine ⟨tv, ?_⟩
    show K1 [(1, sF (l.map actAV)), (6, pT b1), (7, pT b4), (9, pT b8), (10, pT b9), (11, iT (i + 1))] (mW (mW m H16) [(qn, mObj s.now), (b9, rcObj b8 av16 c2 F), (b8, zR s), (b4, cObj b1 b7 b6 b5 c2), (b5, fObj c2.fails), (b6, oObj c2.tokens), (b7, tObj c2.things), (b1, dObj b3 qn s), (b3, mObj s.kept)])
    refine hK1 _ _ ?_; clear hK1 K1
    refine ⟨(i + 1, qn, F, H16, av16, c2, s), rfl, rfl, ?_, ?_⟩
    ·
     show ([qn, b9, b8, b4, b5, b6, b7, b1, b3] : List Nat).Nodup ∧ (mW m ((H16 : (List (Nat × AObj))))) qn = none ∧ (0 ≤ ((i + 1 : Int)) ∧ ((i + 1 : Int)) ≤ l.length ∧ l.length ≤ 80 ∧ Two s () ((i + 1 : Int)).toNat ∧ CI ((c2 : ClSt)) F ((i + 1 : Int)).toNat ∧ HidR thgAV m [b1, b3, b4, b5, b6, b7, b8, b9, qn] ((H16 : (List (Nat × AObj)))) ((av16 : AV)) (vals ((c2 : ClSt))))
     refine ⟨hNd7, hG16qn, ?_⟩
     refine ⟨by omega, by omega, hI.2.2.1, ?_, ?_, ?_⟩
     ·
      rw [show (i + 1).toNat = i.toNat + 1 from by omega]; first | exact hT2 | exact hI.2.2.2.1.mono (Nat.le_succ _)
     ·
      rw [show (i + 1).toNat = i.toNat + 1 from by omega]; first | exact hCI | exact hI.2.2.2.2.1.mono (Nat.le_succ _)
     ·
      exact hTb16.keep (by intro z hz; simp only [List.mem_cons, List.not_mem_nil, or_false] at hz ⊢; omega)
    ·
     show l.length - ((i + 1 : Int)).toNat < l.length - i.toNat
     omega
   replace h10 : (gI l i).kind ≠ ([115, 112, 111, 105, 108] : List UInt8) := (ne_of_beq_false h10)
   refine rS [] [1, 6, 7, 9, 10, 11, 12, 13, 75, 216] (by decide) ?_
   intro K1 hK1
   refine ⟨tv, tv, ?_⟩
   show K1 [(1, sF (l.map actAV)), (6, pT b1), (7, pT b4), (9, pT b8), (10, pT b9), (11, iT i), (12, pT b10), (13, .bool true), (75, .str ((gI l i).kind)), (216, .bool (((gI l i).kind) == ([102, 97, 105, 108] : List UInt8)))] (mW (mW m H) [(b10, actObj (gI l i)), (qn, mObj s.now), (b9, rcObj b8 av c F), (b8, zR s), (b4, cObj b1 b7 b6 b5 c), (b5, fObj c.fails), (b6, oObj c.tokens), (b7, tObj c.things), (b1, dObj b3 qn s), (b3, mObj s.kept)])
   refine hK1 _ _ ?_; clear hK1 K1
   refine cD rfl rfl (fun h11 => ?_) (fun h11 => ?_)
   ·
    replace h11 : (gI l i).kind = ([102, 97, 105, 108] : List UInt8) := (eq_of_beq h11)
    refine rS [] [1, 6, 7, 9, 10, 11, 12, 13] (by decide) ?_
    intro K1 hK1
    refine ⟨tv, ⟨rfl, by decide⟩, ?_⟩
    refine aL rfl (v := iT ((gI l i).a)) rfl (wG 0 hNb10 rfl) rfl (aO rfl rfl (nB rfl)) rfl ?_
    refine ar_mem (wS hNb10 (pick_perm [4, 4] _)) ?_
    refine u_CFail b4 b1 b7 b6 b5 c ((gI l i).a) (show ([b4, b5] : List Nat).Nodup from keep_nodup (L := [(b10, actObj (gI l i)), (qn, mObj s.now), (b9, rcObj b8 av c F), (b8, zR s), (b4, cObj b1 b7 b6 b5 c), (b5, fObj c.fails), (b6, oObj c.tokens), (b7, tObj c.things), (b1, dObj b3 qn s), (b3, mObj s.kept)]) hNb10 (pick_perm [4, 4] _)) (by have := hI.2.2.2.2.1.fl; omega) _ _ ?_
    refine ar_mem (wS (m := (mW m H)) (L := [(b10, actObj (gI l i)), (qn, mObj s.now), (b9, rcObj b8 av c F), (b8, zR s), (b4, cObj b1 b7 b6 b5 c), (b5, fObj (mput c.fails ((gI l i).a) true)), (b6, oObj c.tokens), (b7, tObj c.things), (b1, dObj b3 qn s), (b3, mObj s.kept)]) hNb10 (pick_perm [4, 4] _)).symm ?_
    show K1 [(1, sF (l.map actAV)), (6, pT b1), (7, pT b4), (9, pT b8), (10, pT b9), (11, iT i), (12, pT b10), (13, .bool true)] (mW (mW m H) [(b10, actObj (gI l i)), (qn, mObj s.now), (b9, rcObj b8 av c F), (b8, zR s), (b4, cObj b1 b7 b6 b5 c), (b5, fObj (mput c.fails ((gI l i).a) true)), (b6, oObj c.tokens), (b7, tObj c.things), (b1, dObj b3 qn s), (b3, mObj s.kept)])
    refine hK1 _ _ ?_; clear hK1 K1
    refine awp_memEq (wS (m := (mW m H)) (L := [(b10, actObj (gI l i)), (qn, mObj s.now), (b9, rcObj b8 av c F), (b8, zR s), (b4, cObj b1 b7 b6 b5 c), (b5, fObj (mput c.fails ((gI l i).a) true)), (b6, oObj c.tokens), (b7, tObj c.things), (b1, dObj b3 qn s), (b3, mObj s.kept)]) hNb10 (pick_perm [2, 0] _)) ?_
    show AWP _ _ _ _ [(1, sF (l.map actAV)), (6, pT b1), (7, pT b4), (9, pT b8), (10, pT b9), (11, iT i), (12, pT b10), (13, .bool true)] (mW (mW (mW m H) [(qn, mObj s.now), (b8, zR s), (b4, cObj b1 b7 b6 b5 c), (b5, fObj (mput c.fails ((gI l i).a) true)), (b6, oObj c.tokens), (b7, tObj c.things), (b1, dObj b3 qn s), (b3, mObj s.kept)]) [(b9, rcObj b8 av c F), (b10, actObj (gI l i))])
    have hNf1 : ([b9, b10] : List Nat).Nodup := drop_nodup (L := [(b10, actObj (gI l i)), (qn, mObj s.now), (b9, rcObj b8 av c F), (b8, zR s), (b4, cObj b1 b7 b6 b5 c), (b5, fObj (mput c.fails ((gI l i).a) true)), (b6, oObj c.tokens), (b7, tObj c.things), (b1, dObj b3 qn s), (b3, mObj s.kept)]) hNb10 (show ([(b10, actObj (gI l i)), (qn, mObj s.now), (b9, rcObj b8 av c F), (b8, zR s), (b4, cObj b1 b7 b6 b5 c), (b5, fObj (mput c.fails ((gI l i).a) true)), (b6, oObj c.tokens), (b7, tObj c.things), (b1, dObj b3 qn s), (b3, mObj s.kept)] : List (Nat × AObj)).Perm ([(qn, mObj s.now), (b8, zR s), (b4, cObj b1 b7 b6 b5 c), (b5, fObj (mput c.fails ((gI l i).a) true)), (b6, oObj c.tokens), (b7, tObj c.things), (b1, dObj b3 qn s), (b3, mObj s.kept)] ++ [(b9, rcObj b8 av c F), (b10, actObj (gI l i))]) from ((pick_perm [2, 0] _)).trans List.perm_append_comm)
    generalize hmr1 : mW (mW m H) [(qn, mObj s.now), (b8, zR s), (b4, cObj b1 b7 b6 b5 c), (b5, fObj (mput c.fails ((gI l i).a) true)), (b6, oObj c.tokens), (b7, tObj c.things), (b1, dObj b3 qn s), (b3, mObj s.kept)] = mr1
    refine awp_anyA Try.mixed [1, 6, 7, 9, 10, 11, 13] (by decide) ?_
    intro K1 hK1
    intro A hA
    suffices key : ∀ (_ : True), K1 [(1, sF (l.map actAV)), (6, pT b1), (7, pT b4), (9, pT b8), (10, pT b9), (11, iT i), (13, .bool true)] (mW mr1 [(b9, rcObj b8 av c (F ++ ([(gI l i).a] : List Int))), (b10, actObj (gI l i))]) by
     let KK1 : Fr → AMem → Prop := (fun fr m => K1 (fr.keep [1, 6, 7, 9, 10, 11, 13]) m)
     let f1_0 : Nat × AV := (1, sF (l.map actAV))
     let f1_1 : Nat × AV := (6, pT b1)
     let f1_2 : Nat × AV := (7, pT b4)
     let f1_3 : Nat × AV := (9, pT b8)
     let f1_4 : Nat × AV := (10, pT b9)
     let f1_5 : Nat × AV := (11, iT i)
     let f1_6 : Nat × AV := (13, .bool true)
     let M1_7 : AMem := (mW mr1 [(b9, rcObj b8 av c (F ++ ([(gI l i).a] : List Int))), (b10, actObj (gI l i))])
     let f1_8 : Nat × AV := (230, sT ((F ++ ([(gI l i).a] : List Int)).map intAV))
     let f1_9 : Nat × AV := (232, .ptr ⟨b9, 6, none⟩)
     let M1_10 : AMem := (mW mr1 [(b9, .cells [pT b8, av, sT ((toksR c.tokens).map dn3AV), iT c.next, iT c.quota, iT c.calls, sF (F.map intAV)]), (b10, actObj (gI l i))])
     let f1_11 : Nat × AV := (222, pT b9)
     let f1_12 : Nat × AV := (226, sT (F.map intAV))
     let f1_13 : Nat × AV := (229, .slice true [iT ((gI l i).a)])
     let f1_14 : Nat × AV := (228, iT ((gI l i).a))
     let f1_15 : Nat × AV := (225, .ptr ⟨b9, 6, none⟩)
     let M1_16 : AMem := (mW mr1 [(b9, rcObj b8 av c F), (b10, actObj (gI l i))])
     let f1_17 : Nat × AV := (227, .ptr ⟨b10, 3, none⟩)
     have s0 : ∀ (_ : True), A 0 #[true, true, true, true, true, true, true, true, true, true, true, true] KK1 [f1_0, f1_1, f1_2, f1_3, f1_4, f1_5, f1_6] M1_7 := by
      intro _
      subst hA
      exact AAny.done (by decide +kernel) (key tv)
     have s1 : ∀ (_ : True), A 1 #[true, true, true, true, true, true, true, true, true, true, true, false] KK1 [f1_0, f1_1, f1_2, f1_3, f1_4, f1_5, f1_6, f1_8, f1_9] M1_10 := by
      intro _
      subst hA
      refine AAny.step [226] [11] (by decide +kernel) (by simp) (by decide) ⟨?_, tv⟩
      ·
       show aopsR _ _ _ [_] _ _ _
       refine aS rfl 0 (v := sT ((F ++ ([(gI l i).a] : List Int)).map intAV)) (l' := [pT b8, av, sT ((toksR c.tokens).map dn3AV), iT c.next, iT c.quota, iT c.calls, sT ((F ++ ([(gI l i).a] : List Int)).map intAV)]) rfl rfl hNf1 rfl rfl rfl rfl rfl (nB rfl) rfl ?_
       refine AAny.keep [1, 6, 7, 9, 10, 11, 13] (by decide) ?_
       exact s0 trivial
     clear s0
     have s2 : ∀ (_ : True), A 4 #[true, true, true, true, true, true, true, true, false, false, false, false] KK1 [f1_0, f1_1, f1_2, f1_3, f1_4, f1_5, f1_6, f1_11, f1_12, f1_13] M1_10 := by
      intro _
      subst hA
      refine AAny.step [226] [8] (by decide +kernel) (by simp) (by decide) ⟨?_, tv⟩
      ·
       show aopsR _ _ _ [_] _ _ _
       refine ar_append rfl intAV F ([(gI l i).a] : List Int) rfl rfl rfl rfl rfl rfl (nB rfl) rfl (by (simp only [show Try.prog.bytesOf 3 = 8 from rfl, List.length_append, List.length_cons, List.length_nil]; omega)) (by (first | omega | (simp only [List.length_append, List.length_cons, List.length_nil]; omega))) (fun _ => ⟨rfl, rfl⟩) ?_
       refine AAny.fNil (i := 9) rfl rfl rfl (by decide) rfl (by decide +kernel) rfl ?_
       refine AAny.fField (i := 10) rfl rfl rfl (by decide) rfl (by decide +kernel) rfl rfl ⟨rfl, by decide⟩ ?_
       refine AAny.keep [1, 6, 7, 9, 10, 11, 13, 230, 232] (by decide) ?_
       exact s1 trivial
     clear s1
     have s3 : ∀ (_ : True), A 5 #[true, true, true, true, true, true, true, false, false, false, false, false] KK1 [f1_0, f1_1, f1_2, f1_3, f1_4, f1_5, f1_6, f1_11, f1_12, f1_14] M1_10 := by
      intro _
      subst hA
      refine AAny.step [226] [7] (by decide +kernel) (by simp) (by decide) ⟨?_, tv⟩
      ·
       show aopsR _ _ _ [_] _ _ _
       refine ⟨⟨rfl, nB rfl, rfl, nB rfl, rfl, by simp only [List.forall_mem_cons]; exact ⟨⟨rfl, rfl⟩, nfA⟩⟩, ?_⟩
       refine AAny.keep [1, 6, 7, 9, 10, 11, 13, 222, 226, 229] (by decide) ?_
       exact s2 trivial
     have s4 : ∀ (_ : True), A 5 #[true, true, true, true, false, true, true, true, false, false, false, false] KK1 [f1_0, f1_1, f1_2, f1_3, f1_4, f1_5, f1_6, f1_11, f1_15, f1_13] M1_16 := by
      intro _
      subst hA
      refine AAny.step [226] [4] (by decide +kernel) (by simp) (by decide) ⟨?_, tv⟩
      ·
       show aopsR _ _ _ [_] _ _ _
       refine ar_loads rfl (i := 0) rfl hNf1 rfl rfl rfl rfl (nB rfl) ?_
       refine AAny.keep [1, 6, 7, 9, 10, 11, 13, 222, 226, 229] (by decide) ?_
       exact s2 trivial
     clear s2
     have s5 : ∀ (_ : True), A 6 #[true, true, true, true, true, true, false, false, false, false, false, false] KK1 [f1_0, f1_1, f1_2, f1_3, f1_4, f1_5, f1_6, f1_11, f1_12, f1_17] M1_10 := by
      intro _
      subst hA
      refine AAny.step [226] [6] (by decide +kernel) (by simp) (by decide) ⟨?_, tv⟩
      ·
       show aopsR _ _ _ [_] _ _ _
       refine aL rfl (v := iT ((gI l i).a)) rfl (wG 1 hNf1 rfl) rfl (aO rfl rfl (nB rfl)) rfl ?_
       refine AAny.keep [1, 6, 7, 9, 10, 11, 13, 222, 226, 228] (by decide) ?_
       exact s3 trivial
     have s6 : ∀ (_ : True), A 6 #[true, true, true, true, false, true, true, false, false, false, false, false] KK1 [f1_0, f1_1, f1_2, f1_3, f1_4, f1_5, f1_6, f1_11, f1_15, f1_14] M1_16 := by
      intro _
      subst hA
      refine AAny.step [226] [4, 7] (by decide +kernel) (by simp) (by decide) ⟨?_, ?_, tv⟩
      ·
       show aopsR _ _ _ [_] _ _ _
       refine ar_loads rfl (i := 0) rfl hNf1 rfl rfl rfl rfl (nB rfl) ?_
       refine AAny.keep [1, 6, 7, 9, 10, 11, 13, 222, 226, 228] (by decide) ?_
       exact s3 trivial
      ·
       show aopsR _ _ _ [_] _ _ _
       refine ⟨⟨rfl, nB rfl, rfl, nB rfl, rfl, by simp only [List.forall_mem_cons]; exact ⟨⟨rfl, rfl⟩, nfA⟩⟩, ?_⟩
       refine AAny.keep [1, 6, 7, 9, 10, 11, 13, 222, 225, 229] (by decide) ?_
       exact s4 trivial
     clear s3 s4
     have s7 : ∀ (_ : True), A 7 #[true, true, true, true, false, true, false, false, false, false, false, false] KK1 [f1_0, f1_1, f1_2, f1_3, f1_4, f1_5, f1_6, f1_11, f1_15, f1_17] M1_16 := by
      intro _
      subst hA
      refine AAny.step [226] [4, 6] (by decide +kernel) (by simp) (by decide) ⟨?_, ?_, tv⟩
      ·
       show aopsR _ _ _ [_] _ _ _
       refine ar_loads rfl (i := 0) rfl hNf1 rfl rfl rfl rfl (nB rfl) ?_
       refine AAny.keep [1, 6, 7, 9, 10, 11, 13, 222, 226, 227] (by decide) ?_
       exact s5 trivial
      ·
       show aopsR _ _ _ [_] _ _ _
       refine aL rfl (v := iT ((gI l i).a)) rfl (wG 1 hNf1 rfl) rfl (aO rfl rfl (nB rfl)) rfl ?_
       refine AAny.keep [1, 6, 7, 9, 10, 11, 13, 222, 225, 228] (by decide) ?_
       exact s6 trivial
     clear s5 s6
     subst hA
     refine AAny.fMove (i := 0) rfl rfl rfl (by decide) rfl (by decide +kernel) rfl ?_
     refine AAny.fMove (i := 1) rfl rfl rfl (by decide) rfl (by decide +kernel) rfl ?_
     refine AAny.fNil (i := 2) rfl rfl rfl (by decide) rfl (by decide +kernel) rfl ?_
     refine AAny.fField (i := 3) rfl rfl rfl (by decide) rfl (by decide +kernel) rfl rfl ⟨rfl, by decide⟩ ?_
     refine AAny.fField (i := 5) rfl rfl rfl (by decide) rfl (by decide +kernel) rfl rfl ⟨rfl, by decide⟩ ?_
     refine AAny.keep [1, 6, 7, 9, 10, 11, 13, 222, 225, 227] (by decide) ?_
     exact s7 trivial
    intro _
    refine hK1 _ _ ?_; clear hK1 K1
    subst hmr1
    have hfo1 : mW (mW (mW m H) [(qn, mObj s.now), (b8, zR s), (b4, cObj b1 b7 b6 b5 c), (b5, fObj (mput c.fails ((gI l i).a) true)), (b6, oObj c.tokens), (b7, tObj c.things), (b1, dObj b3 qn s), (b3, mObj s.kept)]) [(b9, rcObj b8 av c (F ++ ([(gI l i).a] : List Int))), (b10, actObj (gI l i))] = mW (mW m H) [(b10, actObj (gI l i)), (qn, mObj s.now), (b9, rcObj b8 av c (F ++ ([(gI l i).a] : List Int))), (b8, zR s), (b4, cObj b1 b7 b6 b5 c), (b5, fObj (mput c.fails ((gI l i).a) true)), (b6, oObj c.tokens), (b7, tObj c.things), (b1, dObj b3 qn s), (b3, mObj s.kept)] := (wS (m := (mW m H)) (L := [(b10, actObj (gI l i)), (qn, mObj s.now), (b9, rcObj b8 av c (F ++ ([(gI l i).a] : List Int))), (b8, zR s), (b4, cObj b1 b7 b6 b5 c), (b5, fObj (mput c.fails ((gI l i).a) true)), (b6, oObj c.tokens), (b7, tObj c.things), (b1, dObj b3 qn s), (b3, mObj s.kept)]) hNb10 (pick_perm [2, 0] _)).symm
    rw [hfo1]
    have hCI : CI ({ c with fails := mput c.fails (gI l i).a true } : ClSt) (F ++ ([(gI l i).a] : List Int)) (i.toNat + 1) := hI.2.2.2.2.1.fail _
    replace hTH : HidR thgAV m _ _ _ (vals ({ c with fails := mput c.fails (gI l i).a true } : ClSt)) := hTH
    have hob1 : (cObj b1 b7 b6 b5 c : AObj) = cObj b1 b7 b6 b5 ({ c with fails := mput c.fails (gI l i).a true } : ClSt) := rfl
    rw [hob1]
    have hob2 : (tObj c.things : AObj) = tObj (({ c with fails := mput c.fails (gI l i).a true } : ClSt).things) := rfl
    rw [hob2]
    have hob3 : (oObj c.tokens : AObj) = oObj (({ c with fails := mput c.fails (gI l i).a true } : ClSt).tokens) := rfl
    rw [hob3]
    have hob4 : (fObj (mput c.fails ((gI l i).a) true) : AObj) = fObj (({ c with fails := mput c.fails (gI l i).a true } : ClSt).fails) := rfl
    rw [hob4]
    have hob5 : (rcObj b8 av c (F ++ ([(gI l i).a] : List Int)) : AObj) = rcObj b8 av ({ c with fails := mput c.fails (gI l i).a true } : ClSt) (F ++ ([(gI l i).a] : List Int)) := rfl
    rw [hob5]
    generalize ({ c with fails := mput c.fails (gI l i).a true } : ClSt) = c2 at hCI hTH ⊢
    refine hK8 _ _ ?_; clear hK8
    refine awp_draw_seq Try.mixed [(iT c2.calls), (sF ((vals c2).map thgAV)), (.bool true)] [1, 6, 7, 9, 10, 11, 265] (by decide) (by decide) ?_
    intro K1 hK1
    suffices key : K1 [(1, sF (l.map actAV)), (6, pT b1), (7, pT b4), (9, pT b8), (10, pT b9), (11, iT i), (265, .bool false)] (mW (mW m H) [(b10, actObj (gI l i)), (qn, mObj s.now), (b9, rcObj b8 av c2 (F ++ ([(gI l i).a] : List Int))), (b8, zR s), (b4, cObj b1 b7 b6 b5 c2), (b5, fObj c2.fails), (b6, oObj c2.tokens), (b7, tObj c2.things), (b1, dObj b3 qn s), (b3, mObj s.kept)]) by
     refine ⟨tv, tv, tv, tv, (pure_mem (wS (m := (mW m H)) (L := [(b10, actObj (gI l i)), (qn, mObj s.now), (b9, rcObj b8 av c2 (F ++ ([(gI l i).a] : List Int))), (b8, zR s), (b4, cObj b1 b7 b6 b5 c2), (b5, fObj c2.fails), (b6, oObj c2.tokens), (b7, tObj c2.things), (b1, dObj b3 qn s), (b3, mObj s.kept)]) hNb10 (pick_perm [4] _)) (fun Kc hKc => u_CCalls b4 b1 b7 b6 b5 c2 _ Kc hKc)), tv, tv, ⟨rfl, by decide⟩, ?_⟩
     refine pq_loadp rfl (v := iT c2.calls) rfl (wG 2 hNb10 rfl) (aO rfl rfl (nB rfl)) rfl ?_
     refine ⟨tv, ?_⟩
     refine pq_top 254 (.bool false) (cgA AV.bool (by simp)) ?_
     refine ⟨tv, ?_⟩
     refine ⟨tv, tv, (pure_mem (wS (m := (mW m H)) (L := [(b10, actObj (gI l i)), (qn, mObj s.now), (b9, rcObj b8 av c2 (F ++ ([(gI l i).a] : List Int))), (b8, zR s), (b4, cObj b1 b7 b6 b5 c2), (b5, fObj c2.fails), (b6, oObj c2.tokens), (b7, tObj c2.things), (b1, dObj b3 qn s), (b3, mObj s.kept)]) hNb10 (pick_perm [4, 6] _)) (fun Kc hKc => u_AllC b4 b1 b7 b6 b5 c2 _ _ (show ([b4, b7] : List Nat).Nodup from keep_nodup (L := [(b10, actObj (gI l i)), (qn, mObj s.now), (b9, rcObj b8 av c2 (F ++ ([(gI l i).a] : List Int))), (b8, zR s), (b4, cObj b1 b7 b6 b5 c2), (b5, fObj c2.fails), (b6, oObj c2.tokens), (b7, tObj c2.things), (b1, dObj b3 qn s), (b3, mObj s.kept)]) hNb10 (pick_perm [4, 6] _)) hCI (by omega) _ Kc hKc)), tv, tv, ⟨rfl, by decide⟩, ?_⟩
     refine pq_loadp rfl (v := av) rfl (wG 2 hNb10 rfl) (aO rfl rfl (nB rfl)) (hid_pl hTH) ?_
     have hD20 : ∀ cz ∈ ([b10, qn, b9, b8, b4, b5, b6, b7, b1, b3] : List Nat), cz ∉ List.map Prod.fst H := by simp only [List.forall_mem_cons]; exact ⟨hid_nin (m := m) hFb10, hid_nin (m := m) hFqn, hid_nin (m := m) hG0b9, hid_nin (m := m) hG0b8, hid_nin (m := m) hG0b4, hid_nin (m := m) hG0b5, hid_nin (m := m) hG0b6, hid_nin (m := m) hG0b7, hid_nin (m := m) hG0b1, hid_nin (m := m) hG0b3, nfA⟩
     have hTc20 : HidR _ (mW m _) [] H _ _ := HidR.call (L := [(b10, actObj (gI l i)), (qn, mObj s.now), (b9, rcObj b8 av c2 (F ++ ([(gI l i).a] : List Int))), (b8, zR s), (b4, cObj b1 b7 b6 b5 c2), (b5, fObj c2.fails), (b6, oObj c2.tokens), (b7, tObj c2.things), (b1, dObj b3 qn s), (b3, mObj s.kept)]) hTH (pick_perm [] _) hD20
     refine ⟨(pure_mem (hid_call (m := m) (H := H) (L := [(b10, actObj (gI l i)), (qn, mObj s.now), (b9, rcObj b8 av c2 (F ++ ([(gI l i).a] : List Int))), (b8, zR s), (b4, cObj b1 b7 b6 b5 c2), (b5, fObj c2.fails), (b6, oObj c2.tokens), (b7, tObj c2.things), (b1, dObj b3 qn s), (b3, mObj s.kept)]) hNb10 (pick_perm [] _) hTH.nd hD20) (fun Kc hKc => u_SameThingsHP hTc20 (by rw [vals_len]; have := (hCI).tl; omega) Kc hKc)), tv, tv, ?_⟩
     exact key
    refine hK1 _ _ ?_; clear hK1 K1
    refine cD rfl rfl (fun hcz => ?_) (fun hcz => ?_)
    ·
     cases hcz
    clear hcz
    refine awp_skip ?_
    refine hK7 _ _ ?_; clear hK7
    have hNd8 : ([qn, b9, b8, b4, b5, b6, b7, b1, b3] : List Nat).Nodup := drop_nodup (L := [(b10, actObj (gI l i)), (qn, mObj s.now), (b9, rcObj b8 av c2 (F ++ ([(gI l i).a] : List Int))), (b8, zR s), (b4, cObj b1 b7 b6 b5 c2), (b5, fObj c2.fails), (b6, oObj c2.tokens), (b7, tObj c2.things), (b1, dObj b3 qn s), (b3, mObj s.kept)]) hNb10 (pick_perm [0] _)
    refine awp_dropP [(b10, actObj (gI l i))] [(qn, mObj s.now), (b9, rcObj b8 av c2 (F ++ ([(gI l i).a] : List Int))), (b8, zR s), (b4, cObj b1 b7 b6 b5 c2), (b5, fObj c2.fails), (b6, oObj c2.tokens), (b7, tObj c2.things), (b1, dObj b3 qn s), (b3, mObj s.kept)] hNb10 (pick_perm [0] _) (by simp only [List.map_cons, List.map_nil, List.forall_mem_cons]; exact ⟨hFb10, nfA⟩) ?_
    refine awp_reg2 [] [1, 6, 7, 9, 10, 11] (by decide) ?_
    intro K1 hK1
    refine ⟨tv, ?_⟩
    refine ar_add rfl (a := i) (b := 1) rfl rfl (by omega) (by omega) ?_
    refine ⟨tv, ?_⟩
    show K1 [(1, sF (l.map actAV)), (6, pT b1), (7, pT b4), (9, pT b8), (10, pT b9), (11, iT (i + 1))] (mW (mW m H) [(qn, mObj s.now), (b9, rcObj b8 av c2 (F ++ ([(gI l i).a] : List Int))), (b8, zR s), (b4, cObj b1 b7 b6 b5 c2), (b5, fObj c2.fails), (b6, oObj c2.tokens), (b7, tObj c2.things), (b1, dObj b3 qn s), (b3, mObj s.kept)])
    refine hK1 _ _ ?_; clear hK1 K1
    refine ⟨(i + 1, qn, F ++ ([(gI l i).a] : List Int), H, av, c2, s), rfl, rfl, ?_, ?_⟩
    ·
     show ([qn, b9, b8, b4, b5, b6, b7, b1, b3] : List Nat).Nodup ∧ (mW m H) qn = none ∧ (0 ≤ ((i + 1 : Int)) ∧ ((i + 1 : Int)) ≤ l.length ∧ l.length ≤ 80 ∧ Two s () ((i + 1 : Int)).toNat ∧ CI ((c2 : ClSt)) ((F ++ ([(gI l i).a] : List Int) : (List Int))) ((i + 1 : Int)).toNat ∧ HidR thgAV m [b1, b3, b4, b5, b6, b7, b8, b9, qn] H av (vals ((c2 : ClSt))))
     refine ⟨hNd8, hFqn, ?_⟩
     refine ⟨by omega, by omega, hI.2.2.1, ?_, ?_, ?_⟩
     ·
      rw [show (i + 1).toNat = i.toNat + 1 from by omega]; first | exact hT2 | exact hI.2.2.2.1.mono (Nat.le_succ _)
     ·
      rw [show (i + 1).toNat = i.toNat + 1 from by omega]; first | exact hCI | exact hI.2.2.2.2.1.mono (Nat.le_succ _)
     ·
      exact hTH.keep (by intro z hz; simp only [List.mem_cons, List.not_mem_nil, or_false] at hz ⊢; omega)
    ·
     show l.length - ((i + 1 : Int)).toNat < l.length - i.toNat
     omega
   replace h11 : (gI l i).kind ≠ ([102, 97, 105, 108] : List UInt8) := (ne_of_beq_false h11)
   refine rS [] [1, 6, 7, 9, 10, 11, 12, 13, 233] (by decide) ?_
   intro K1 hK1
   refine ⟨tv, tv, ?_⟩
   show K1 [(1, sF (l.map actAV)), (6, pT b1), (7, pT b4), (9, pT b8), (10, pT b9), (11, iT i), (12, pT b10), (13, .bool true), (233, .bool (((gI l i).kind) == ([97, 114, 109] : List UInt8)))] (mW (mW m H) [(b10, actObj (gI l i)), (qn, mObj s.now), (b9, rcObj b8 av c F), (b8, zR s), (b4, cObj b1 b7 b6 b5 c), (b5, fObj c.fails), (b6, oObj c.tokens), (b7, tObj c.things), (b1, dObj b3 qn s), (b3, mObj s.kept)])
   refine hK1 _ _ ?_; clear hK1 K1
   refine cD rfl rfl (fun h12 => ?_) (fun h12 => ?_)
   ·
    replace h12 : (gI l i).kind = ([97, 114, 109] : List UInt8) := (eq_of_beq h12)
    refine rS [] [1, 6, 7, 9, 10, 11, 12, 13] (by decide) ?_
    intro K1 hK1
    refine ⟨tv, ⟨rfl, by decide⟩, ?_⟩
    refine aL rfl (v := iT ((gI l i).a)) rfl (wG 0 hNb10 rfl) rfl (aO rfl rfl (nB rfl)) rfl ?_
    refine ar_mem (wS hNb10 (pick_perm [8] _)) ?_
    refine u_Arm b1 b3 qn s ((gI l i).a) _ _ ?_
    refine ar_mem (wS (m := (mW m H)) (L := [(b10, actObj (gI l i)), (qn, mObj s.now), (b9, rcObj b8 av c F), (b8, zR s), (b4, cObj b1 b7 b6 b5 c), (b5, fObj c.fails), (b6, oObj c.tokens), (b7, tObj c.things), (b1, dObj b3 qn (armD s ((gI l i).a))), (b3, mObj s.kept)]) hNb10 (pick_perm [8] _)).symm ?_
    show K1 [(1, sF (l.map actAV)), (6, pT b1), (7, pT b4), (9, pT b8), (10, pT b9), (11, iT i), (12, pT b10), (13, .bool true)] (mW (mW m H) [(b10, actObj (gI l i)), (qn, mObj s.now), (b9, rcObj b8 av c F), (b8, zR s), (b4, cObj b1 b7 b6 b5 c), (b5, fObj c.fails), (b6, oObj c.tokens), (b7, tObj c.things), (b1, dObj b3 qn (armD s ((gI l i).a))), (b3, mObj s.kept)])
    refine hK1 _ _ ?_; clear hK1 K1
    refine awp_reg2 [] [1, 6, 7, 9, 10, 11, 13] (by decide) ?_
    intro K1 hK1
    refine ⟨tv, ⟨rfl, by decide⟩, ?_⟩
    refine aL rfl (v := iT ((gI l i).a)) rfl (wG 0 hNb10 rfl) rfl (aO rfl rfl (nB rfl)) rfl ?_
    refine ⟨tv, tv, ⟨rfl, by decide⟩, ?_⟩
    refine aS rfl 3 (v := iT (if -1 > (gI l i).a then -1 else (gI l i).a)) (l' := [sT (([] : List (Str × Str)).map fileAV), sT (([] : List (Str × Str)).map fileAV), sT (([] : List Trn).map trnAV), iT (if -1 > (gI l i).a then -1 else (gI l i).a), .bool s.down, iT s.steps]) rfl rfl hNb10 rfl rfl rfl rfl rfl (nB rfl) rfl ?_
    show K1 [(1, sF (l.map actAV)), (6, pT b1), (7, pT b4), (9, pT b8), (10, pT b9), (11, iT i), (13, .bool true)] (mW (mW m H) [(b10, actObj (gI l i)), (qn, mObj s.now), (b9, rcObj b8 av c F), (b8, zQ (if -1 > (gI l i).a then -1 else (gI l i).a) s.down s.steps), (b4, cObj b1 b7 b6 b5 c), (b5, fObj c.fails), (b6, oObj c.tokens), (b7, tObj c.things), (b1, dObj b3 qn (armD s ((gI l i).a))), (b3, mObj s.kept)])
    refine hK1 _ _ ?_; clear hK1 K1
    have hT2 : Em (armD s (gI l i).a) (i.toNat + 1) := hI.2.2.2.1.arm (gI l i).a (hbs _ (gI_mem hI.1 (by assumption))).2.2
    have hob1 : (dObj b3 qn (armD s ((gI l i).a)) : AObj) = dObj b3 qn (armD s (gI l i).a) := rfl
    rw [hob1]
    have hob2 : (mObj s.now : AObj) = mObj ((armD s (gI l i).a).now) := rfl
    rw [hob2]
    have hob3 : (mObj s.kept : AObj) = mObj ((armD s (gI l i).a).kept) := rfl
    rw [hob3]
    have hob4 : (zQ (if -1 > (gI l i).a then -1 else (gI l i).a) s.down s.steps : AObj) = zR (armD s (gI l i).a) := rfl
    rw [hob4]
    generalize (armD s (gI l i).a) = s2 at hT2 ⊢
    refine hK8 _ _ ?_; clear hK8
    refine awp_draw_seq Try.mixed [(iT c.calls), (sF ((vals c).map thgAV)), (.bool true)] [1, 6, 7, 9, 10, 11, 265] (by decide) (by decide) ?_
    intro K1 hK1
    suffices key : K1 [(1, sF (l.map actAV)), (6, pT b1), (7, pT b4), (9, pT b8), (10, pT b9), (11, iT i), (265, .bool false)] (mW (mW m H) [(b10, actObj (gI l i)), (qn, mObj s2.now), (b9, rcObj b8 av c F), (b8, zR s2), (b4, cObj b1 b7 b6 b5 c), (b5, fObj c.fails), (b6, oObj c.tokens), (b7, tObj c.things), (b1, dObj b3 qn s2), (b3, mObj s2.kept)]) by
     refine ⟨tv, tv, tv, tv, (pure_mem (wS (m := (mW m H)) (L := [(b10, actObj (gI l i)), (qn, mObj s2.now), (b9, rcObj b8 av c F), (b8, zR s2), (b4, cObj b1 b7 b6 b5 c), (b5, fObj c.fails), (b6, oObj c.tokens), (b7, tObj c.things), (b1, dObj b3 qn s2), (b3, mObj s2.kept)]) hNb10 (pick_perm [4] _)) (fun Kc hKc => u_CCalls b4 b1 b7 b6 b5 c _ Kc hKc)), tv, tv, ⟨rfl, by decide⟩, ?_⟩
     refine pq_loadp rfl (v := iT c.calls) rfl (wG 2 hNb10 rfl) (aO rfl rfl (nB rfl)) rfl ?_
     refine ⟨tv, ?_⟩
     refine pq_top 254 (.bool false) (cgA AV.bool (by simp)) ?_
     refine ⟨tv, ?_⟩
     refine ⟨tv, tv, (pure_mem (wS (m := (mW m H)) (L := [(b10, actObj (gI l i)), (qn, mObj s2.now), (b9, rcObj b8 av c F), (b8, zR s2), (b4, cObj b1 b7 b6 b5 c), (b5, fObj c.fails), (b6, oObj c.tokens), (b7, tObj c.things), (b1, dObj b3 qn s2), (b3, mObj s2.kept)]) hNb10 (pick_perm [4, 6] _)) (fun Kc hKc => u_AllC b4 b1 b7 b6 b5 c _ _ (show ([b4, b7] : List Nat).Nodup from keep_nodup (L := [(b10, actObj (gI l i)), (qn, mObj s2.now), (b9, rcObj b8 av c F), (b8, zR s2), (b4, cObj b1 b7 b6 b5 c), (b5, fObj c.fails), (b6, oObj c.tokens), (b7, tObj c.things), (b1, dObj b3 qn s2), (b3, mObj s2.kept)]) hNb10 (pick_perm [4, 6] _)) hI.2.2.2.2.1 (by omega) _ Kc hKc)), tv, tv, ⟨rfl, by decide⟩, ?_⟩
     refine pq_loadp rfl (v := av) rfl (wG 2 hNb10 rfl) (aO rfl rfl (nB rfl)) (hid_pl hTH) ?_
     have hD22 : ∀ cz ∈ ([b10, qn, b9, b8, b4, b5, b6, b7, b1, b3] : List Nat), cz ∉ List.map Prod.fst H := by simp only [List.forall_mem_cons]; exact ⟨hid_nin (m := m) hFb10, hid_nin (m := m) hFqn, hid_nin (m := m) hG0b9, hid_nin (m := m) hG0b8, hid_nin (m := m) hG0b4, hid_nin (m := m) hG0b5, hid_nin (m := m) hG0b6, hid_nin (m := m) hG0b7, hid_nin (m := m) hG0b1, hid_nin (m := m) hG0b3, nfA⟩
     have hTc22 : HidR _ (mW m _) [] H _ _ := HidR.call (L := [(b10, actObj (gI l i)), (qn, mObj s2.now), (b9, rcObj b8 av c F), (b8, zR s2), (b4, cObj b1 b7 b6 b5 c), (b5, fObj c.fails), (b6, oObj c.tokens), (b7, tObj c.things), (b1, dObj b3 qn s2), (b3, mObj s2.kept)]) hTH (pick_perm [] _) hD22
     refine ⟨(pure_mem (hid_call (m := m) (H := H) (L := [(b10, actObj (gI l i)), (qn, mObj s2.now), (b9, rcObj b8 av c F), (b8, zR s2), (b4, cObj b1 b7 b6 b5 c), (b5, fObj c.fails), (b6, oObj c.tokens), (b7, tObj c.things), (b1, dObj b3 qn s2), (b3, mObj s2.kept)]) hNb10 (pick_perm [] _) hTH.nd hD22) (fun Kc hKc => u_SameThingsHP hTc22 (by rw [vals_len]; have := (hI.2.2.2.2.1).tl; omega) Kc hKc)), tv, tv, ?_⟩
     exact key
    refine hK1 _ _ ?_; clear hK1 K1
    refine cD rfl rfl (fun hcz => ?_) (fun hcz => ?_)
    ·
     cases hcz
    clear hcz
    refine awp_skip ?_
    refine hK7 _ _ ?_; clear hK7
    have hNd9 : ([qn, b9, b8, b4, b5, b6, b7, b1, b3] : List Nat).Nodup := drop_nodup (L := [(b10, actObj (gI l i)), (qn, mObj s2.now), (b9, rcObj b8 av c F), (b8, zR s2), (b4, cObj b1 b7 b6 b5 c), (b5, fObj c.fails), (b6, oObj c.tokens), (b7, tObj c.things), (b1, dObj b3 qn s2), (b3, mObj s2.kept)]) hNb10 (pick_perm [0] _)
    refine awp_dropP [(b10, actObj (gI l i))] [(qn, mObj s2.now), (b9, rcObj b8 av c F), (b8, zR s2), (b4, cObj b1 b7 b6 b5 c), (b5, fObj c.fails), (b6, oObj c.tokens), (b7, tObj c.things), (b1, dObj b3 qn s2), (b3, mObj s2.kept)] hNb10 (pick_perm [0] _) (by simp only [List.map_cons, List.map_nil, List.forall_mem_cons]; exact ⟨hFb10, nfA⟩) ?_
    refine awp_reg2 [] [1, 6, 7, 9, 10, 11] (by decide) ?_
    intro K1 hK1
    refine ⟨tv, ?_⟩
    refine ar_add rfl (a := i) (b := 1) rfl rfl (by omega) (by omega) ?_
    refine ⟨tv, ?_⟩
    show K1 [(1, sF (l.map actAV)), (6, pT b1), (7, pT b4), (9, pT b8), (10, pT b9), (11, iT (i + 1))] (mW (mW m H) [(qn, mObj s2.now), (b9, rcObj b8 av c F), (b8, zR s2), (b4, cObj b1 b7 b6 b5 c), (b5, fObj c.fails), (b6, oObj c.tokens), (b7, tObj c.things), (b1, dObj b3 qn s2), (b3, mObj s2.kept)])
    refine hK1 _ _ ?_; clear hK1 K1
    refine ⟨(i + 1, qn, F, H, av, c, s2), rfl, rfl, ?_, ?_⟩
    ·
     show ([qn, b9, b8, b4, b5, b6, b7, b1, b3] : List Nat).Nodup ∧ (mW m H) qn = none ∧ (0 ≤ ((i + 1 : Int)) ∧ ((i + 1 : Int)) ≤ l.length ∧ l.length ≤ 80 ∧ Two ((s2 : DSt)) () ((i + 1 : Int)).toNat ∧ CI c F ((i + 1 : Int)).toNat ∧ HidR thgAV m [b1, b3, b4, b5, b6, b7, b8, b9, qn] H av (vals c))
     refine ⟨hNd9, hFqn, ?_⟩
     refine ⟨by omega, by omega, hI.2.2.1, ?_, ?_, ?_⟩
     ·
      rw [show (i + 1).toNat = i.toNat + 1 from by omega]; first | exact hT2 | exact hI.2.2.2.1.mono (Nat.le_succ _)
     ·
      rw [show (i + 1).toNat = i.toNat + 1 from by omega]; first | exact hCI | exact hI.2.2.2.2.1.mono (Nat.le_succ _)
     ·
      exact hTH.keep (by intro z hz; simp only [List.mem_cons, List.not_mem_nil, or_false] at hz ⊢; omega)
    ·
     show l.length - ((i + 1 : Int)).toNat < l.length - i.toNat
     omega
   replace h12 : (gI l i).kind ≠ ([97, 114, 109] : List UInt8) := (ne_of_beq_false h12)
   refine rS [] [1, 6, 7, 9, 10, 11, 12, 13] (by decide) ?_
   intro K1 hK1
   refine ⟨tv, ⟨rfl, by decide⟩, ?_⟩
   refine aL rfl (v := iT ((gI l i).a)) rfl (wG 0 hNb10 rfl) rfl (aO rfl rfl (nB rfl)) rfl ?_
   refine ⟨⟨rfl, by decide⟩, ?_⟩
   refine aL rfl (v := iT ((gI l i).b)) rfl (wG 0 hNb10 rfl) rfl (aO rfl rfl (nB rfl)) rfl ?_
   refine ar_mem (wS hNb10 (pick_perm [8, 8] _)) ?_
   refine u_RestartE b1 b3 qn s ((gI l i).a) ((gI l i).b) i.toNat hI.2.2.2.1 (show ([b1, b3] : List Nat).Nodup from keep_nodup (L := [(b10, actObj (gI l i)), (qn, mObj s.now), (b9, rcObj b8 av c F), (b8, zR s), (b4, cObj b1 b7 b6 b5 c), (b5, fObj c.fails), (b6, oObj c.tokens), (b7, tObj c.things), (b1, dObj b3 qn s), (b3, mObj s.kept)]) hNb10 (pick_perm [8, 8] _)) _ _ ?_
   intro b13 hqb13 hb13 nw1
   have hwb13 := wth_new1 (m := (mW m H)) (L := [(b10, actObj (gI l i)), (qn, mObj s.now), (b9, rcObj b8 av c F), (b8, zR s), (b4, cObj b1 b7 b6 b5 c), (b5, fObj c.fails), (b6, oObj c.tokens), (b7, tObj c.things), (b1, dObj b3 qn s), (b3, mObj s.kept)]) (x := b13) hNb10 (pick_perm [8, 8] _) hqb13 hb13
   have hNb13 : ([b13, b10, qn, b9, b8, b4, b5, b6, b7, b1, b3] : List Nat).Nodup := hwb13.1
   have hFb13 : (mW m H) b13 = none := hwb13.2
   refine ar_mem (wS (m := (mW m H)) (L := [(b13, mObj ((zS (-1) false s.steps).now)), (b10, actObj (gI l i)), (qn, mObj s.now), (b9, rcObj b8 av c F), (b8, zR s), (b4, cObj b1 b7 b6 b5 c), (b5, fObj c.fails), (b6, oObj c.tokens), (b7, tObj c.things), (b1, dObj b3 b13 (zS (-1) false s.steps)), (b3, mObj ((zS (-1) false s.steps).kept))]) hNb13 (pick_perm [0, 8, 8] _)).symm ?_
   show K1 [(1, sF (l.map actAV)), (6, pT b1), (7, pT b4), (9, pT b8), (10, pT b9), (11, iT i), (12, pT b10), (13, .bool true)] (mW (mW m H) [(b13, mObj ((zS (-1) false s.steps).now)), (b10, actObj (gI l i)), (qn, mObj s.now), (b9, rcObj b8 av c F), (b8, zR s), (b4, cObj b1 b7 b6 b5 c), (b5, fObj c.fails), (b6, oObj c.tokens), (b7, tObj c.things), (b1, dObj b3 b13 (zS (-1) false s.steps)), (b3, mObj ((zS (-1) false s.steps).kept))])
   refine hK1 _ _ ?_; clear hK1 K1
   refine awp_reg2 [] [1, 6, 7, 9, 10, 11, 13] (by decide) ?_
   intro K1 hK1
   refine ⟨tv, ⟨rfl, by decide⟩, ?_⟩
   refine aL rfl (v := iT ((gI l i).a)) rfl (wG 1 hNb13 rfl) rfl (aO rfl rfl (nB rfl)) rfl ?_
   refine ⟨⟨rfl, by decide⟩, ?_⟩
   refine aL rfl (v := iT ((gI l i).b)) rfl (wG 1 hNb13 rfl) rfl (aO rfl rfl (nB rfl)) rfl ?_
   refine ar_mem (wS hNb13 (pick_perm [4] _)) ?_
   refine u_QRestartE b8 s ((gI l i).a) ((gI l i).b) _ _ ?_
   refine ar_mem (wS (m := (mW m H)) (L := [(b13, mObj ((zS (-1) false s.steps).now)), (b10, actObj (gI l i)), (qn, mObj s.now), (b9, rcObj b8 av c F), (b8, zR (zS (-1) false s.steps)), (b4, cObj b1 b7 b6 b5 c), (b5, fObj c.fails), (b6, oObj c.tokens), (b7, tObj c.things), (b1, dObj b3 b13 (zS (-1) false s.steps)), (b3, mObj ((zS (-1) false s.steps).kept))]) hNb13 (pick_perm [4] _)).symm ?_
   show K1 [(1, sF (l.map actAV)), (6, pT b1), (7, pT b4), (9, pT b8), (10, pT b9), (11, iT i), (13, .bool true)] (mW (mW m H) [(b13, mObj ((zS (-1) false s.steps).now)), (b10, actObj (gI l i)), (qn, mObj s.now), (b9, rcObj b8 av c F), (b8, zR (zS (-1) false s.steps)), (b4, cObj b1 b7 b6 b5 c), (b5, fObj c.fails), (b6, oObj c.tokens), (b7, tObj c.things), (b1, dObj b3 b13 (zS (-1) false s.steps)), (b3, mObj ((zS (-1) false s.steps).kept))])
   refine hK1 _ _ ?_; clear hK1 K1
   have hT2 : Em (zS (-1) false s.steps) (i.toNat + 1) := hI.2.2.2.1.rest
   generalize (zS (-1) false s.steps) = s2 at hT2 ⊢
   refine hK8 _ _ ?_; clear hK8
   refine awp_draw_seq Try.mixed [(iT c.calls), (sF ((vals c).map thgAV)), (.bool true)] [1, 6, 7, 9, 10, 11, 265] (by decide) (by decide) ?_
   intro K1 hK1
   suffices key : K1 [(1, sF (l.map actAV)), (6, pT b1), (7, pT b4), (9, pT b8), (10, pT b9), (11, iT i), (265, .bool false)] (mW (mW m H) [(b13, mObj s2.now), (b10, actObj (gI l i)), (qn, mObj s.now), (b9, rcObj b8 av c F), (b8, zR s2), (b4, cObj b1 b7 b6 b5 c), (b5, fObj c.fails), (b6, oObj c.tokens), (b7, tObj c.things), (b1, dObj b3 b13 s2), (b3, mObj s2.kept)]) by
    refine ⟨tv, tv, tv, tv, (pure_mem (wS (m := (mW m H)) (L := [(b13, mObj s2.now), (b10, actObj (gI l i)), (qn, mObj s.now), (b9, rcObj b8 av c F), (b8, zR s2), (b4, cObj b1 b7 b6 b5 c), (b5, fObj c.fails), (b6, oObj c.tokens), (b7, tObj c.things), (b1, dObj b3 b13 s2), (b3, mObj s2.kept)]) hNb13 (pick_perm [5] _)) (fun Kc hKc => u_CCalls b4 b1 b7 b6 b5 c _ Kc hKc)), tv, tv, ⟨rfl, by decide⟩, ?_⟩
    refine pq_loadp rfl (v := iT c.calls) rfl (wG 3 hNb13 rfl) (aO rfl rfl (nB rfl)) rfl ?_
    refine ⟨tv, ?_⟩
    refine pq_top 254 (.bool false) (cgA AV.bool (by simp)) ?_
    refine ⟨tv, ?_⟩
    refine ⟨tv, tv, (pure_mem (wS (m := (mW m H)) (L := [(b13, mObj s2.now), (b10, actObj (gI l i)), (qn, mObj s.now), (b9, rcObj b8 av c F), (b8, zR s2), (b4, cObj b1 b7 b6 b5 c), (b5, fObj c.fails), (b6, oObj c.tokens), (b7, tObj c.things), (b1, dObj b3 b13 s2), (b3, mObj s2.kept)]) hNb13 (pick_perm [5, 7] _)) (fun Kc hKc => u_AllC b4 b1 b7 b6 b5 c _ _ (show ([b4, b7] : List Nat).Nodup from keep_nodup (L := [(b13, mObj s2.now), (b10, actObj (gI l i)), (qn, mObj s.now), (b9, rcObj b8 av c F), (b8, zR s2), (b4, cObj b1 b7 b6 b5 c), (b5, fObj c.fails), (b6, oObj c.tokens), (b7, tObj c.things), (b1, dObj b3 b13 s2), (b3, mObj s2.kept)]) hNb13 (pick_perm [5, 7] _)) hI.2.2.2.2.1 (by omega) _ Kc hKc)), tv, tv, ⟨rfl, by decide⟩, ?_⟩
    refine pq_loadp rfl (v := av) rfl (wG 3 hNb13 rfl) (aO rfl rfl (nB rfl)) (hid_pl hTH) ?_
    have hD24 : ∀ cz ∈ ([b13, b10, qn, b9, b8, b4, b5, b6, b7, b1, b3] : List Nat), cz ∉ List.map Prod.fst H := by simp only [List.forall_mem_cons]; exact ⟨hid_nin (m := m) hFb13, hid_nin (m := m) hFb10, hid_nin (m := m) hFqn, hid_nin (m := m) hG0b9, hid_nin (m := m) hG0b8, hid_nin (m := m) hG0b4, hid_nin (m := m) hG0b5, hid_nin (m := m) hG0b6, hid_nin (m := m) hG0b7, hid_nin (m := m) hG0b1, hid_nin (m := m) hG0b3, nfA⟩
    have hTc24 : HidR _ (mW m _) [] H _ _ := HidR.call (L := [(b13, mObj s2.now), (b10, actObj (gI l i)), (qn, mObj s.now), (b9, rcObj b8 av c F), (b8, zR s2), (b4, cObj b1 b7 b6 b5 c), (b5, fObj c.fails), (b6, oObj c.tokens), (b7, tObj c.things), (b1, dObj b3 b13 s2), (b3, mObj s2.kept)]) hTH (pick_perm [] _) hD24
    refine ⟨(pure_mem (hid_call (m := m) (H := H) (L := [(b13, mObj s2.now), (b10, actObj (gI l i)), (qn, mObj s.now), (b9, rcObj b8 av c F), (b8, zR s2), (b4, cObj b1 b7 b6 b5 c), (b5, fObj c.fails), (b6, oObj c.tokens), (b7, tObj c.things), (b1, dObj b3 b13 s2), (b3, mObj s2.kept)]) hNb13 (pick_perm [] _) hTH.nd hD24) (fun Kc hKc => u_SameThingsHP hTc24 (by rw [vals_len]; have := (hI.2.2.2.2.1).tl; omega) Kc hKc)), tv, tv, ?_⟩
    exact key
   refine hK1 _ _ ?_; clear hK1 K1
   refine cD rfl rfl (fun hcz => ?_) (fun hcz => ?_)
   ·
    cases hcz
   clear hcz
   refine awp_skip ?_
   refine hK7 _ _ ?_; clear hK7
   have hNd10 : ([b13, b9, b8, b4, b5, b6, b7, b1, b3] : List Nat).Nodup := drop_nodup (L := [(b13, mObj s2.now), (b10, actObj (gI l i)), (qn, mObj s.now), (b9, rcObj b8 av c F), (b8, zR s2), (b4, cObj b1 b7 b6 b5 c), (b5, fObj c.fails), (b6, oObj c.tokens), (b7, tObj c.things), (b1, dObj b3 b13 s2), (b3, mObj s2.kept)]) hNb13 (pick_perm [1, 1] _)
   refine awp_dropP [(b10, actObj (gI l i)), (qn, mObj s.now)] [(b13, mObj s2.now), (b9, rcObj b8 av c F), (b8, zR s2), (b4, cObj b1 b7 b6 b5 c), (b5, fObj c.fails), (b6, oObj c.tokens), (b7, tObj c.things), (b1, dObj b3 b13 s2), (b3, mObj s2.kept)] hNb13 (pick_perm [1, 1] _) (by simp only [List.map_cons, List.map_nil, List.forall_mem_cons]; exact ⟨hFb10, hFqn, nfA⟩) ?_
   refine awp_reg2 [] [1, 6, 7, 9, 10, 11] (by decide) ?_
   intro K1 hK1
   refine ⟨tv, ?_⟩
   refine ar_add rfl (a := i) (b := 1) rfl rfl (by omega) (by omega) ?_
   refine ⟨tv, ?_⟩
   show K1 [(1, sF (l.map actAV)), (6, pT b1), (7, pT b4), (9, pT b8), (10, pT b9), (11, iT (i + 1))] (mW (mW m H) [(b13, mObj s2.now), (b9, rcObj b8 av c F), (b8, zR s2), (b4, cObj b1 b7 b6 b5 c), (b5, fObj c.fails), (b6, oObj c.tokens), (b7, tObj c.things), (b1, dObj b3 b13 s2), (b3, mObj s2.kept)])
   refine hK1 _ _ ?_; clear hK1 K1
   refine ⟨(i + 1, b13, F, H, av, c, s2), rfl, rfl, ?_, ?_⟩
   ·
    show ([((b13 : Nat)), b9, b8, b4, b5, b6, b7, b1, b3] : List Nat).Nodup ∧ (mW m H) ((b13 : Nat)) = none ∧ (0 ≤ ((i + 1 : Int)) ∧ ((i + 1 : Int)) ≤ l.length ∧ l.length ≤ 80 ∧ Two ((s2 : DSt)) () ((i + 1 : Int)).toNat ∧ CI c F ((i + 1 : Int)).toNat ∧ HidR thgAV m [b1, b3, b4, b5, b6, b7, b8, b9, ((b13 : Nat))] H av (vals c))
    refine ⟨hNd10, hFb13, ?_⟩
    refine ⟨by omega, by omega, hI.2.2.1, ?_, ?_, ?_⟩
    ·
     rw [show (i + 1).toNat = i.toNat + 1 from by omega]; first | exact hT2 | exact hI.2.2.2.1.mono (Nat.le_succ _)
    ·
     rw [show (i + 1).toNat = i.toNat + 1 from by omega]; first | exact hCI | exact hI.2.2.2.2.1.mono (Nat.le_succ _)
    ·
     exact (HidR.add hTH hFb13).keep (by intro z hz; simp only [List.mem_cons, List.not_mem_nil, or_false] at hz ⊢; omega)
   ·
    show l.length - ((i + 1 : Int)).toNat < l.length - i.toNat
    omega
  replace h4 : (l.length : Int) ≤ i := (Int.not_lt.1 (of_decide_eq_false h4))
  refine awp_exit ?_
  refine hK5 _ _ ?_; clear hK5
  refine rS [] [4] (by decide) ?_
  intro K1 hK1
  refine ⟨tv, ?_⟩
  show K1 [(4, .bool true)] (mW (mW m H) [(qn, mObj s.now), (b9, rcObj b8 av c F), (b8, zR s), (b4, cObj b1 b7 b6 b5 c), (b5, fObj c.fails), (b6, oObj c.tokens), (b7, tObj c.things), (b1, dObj b3 qn s), (b3, mObj s.kept)])
  refine hK1 _ _ ?_; clear hK1 K1
  refine awp_ret ?_
  refine ⟨tv, m, (fun b o h => (wth_sub2 (m := (mW m H)) [(qn, mObj s.now), (b9, rcObj b8 av c F), (b8, zR s), (b4, cObj b1 b7 b6 b5 c), (b5, fObj c.fails), (b6, oObj c.tokens), (b7, tObj c.things), (b1, dObj b3 qn s), (b3, mObj s.kept)] [] hNqn (by simp only [List.map_cons, List.map_nil, List.forall_mem_cons]; exact ⟨hFqn, hG0b9, hG0b8, hG0b4, hG0b5, hG0b6, hG0b7, hG0b1, hG0b3, nfA⟩)) b o (wth_old (m := m) (L := H) h hTH.out)), ?_⟩
  show K (.bool true) m
 
  exact hK
 ·
  skip
  refine rS [] [0, 1, 6, 7, 8] (by decide) ?_
  intro K1 hK1
  refine ⟨tv, tv, ?_⟩
  refine u_CNewBad b1 quota (of_decide_eq_false hq) _ _ ?_
  refine ⟨tv, (nB rfl), (nB rfl), tv, tv, ?_⟩
  show K1 [(0, iT quota), (1, sF (l.map actAV)), (6, pT b1), (7, .nilptr), (8, .err 108 1)] (mW m [(b1, dObj b3 b2 s0), (b2, mObj s0.now), (b3, mObj s0.kept)])
  refine hK1 _ _ ?_; clear hK1 K1
  refine sK ?_; intro K9 hK9
  refine rS [] [0, 1, 6, 7, 8, 47] (by decide) ?_
  intro K1 hK1
  suffices key : K1 [(0, iT quota), (1, sF (l.map actAV)), (6, pT b1), (7, .nilptr), (8, .err 108 1), (47, .bool ((decide (quota < 0)) || (decide (40 < quota))))] (mW m [(b1, dObj b3 b2 s0), (b2, mObj s0.now), (b3, mObj s0.kept)]) by
   refine ⟨tv, tv, tv, ?_⟩
   show aopsR _ _ _ _ _ [(44, .bool (decide (quota < 0))), (43, .bool (decide (quota < 0))), (42, iT quota), (0, iT quota), (1, sF (l.map actAV)), (6, pT b1), (7, .nilptr), (8, .err 108 1)] _
   refine (bool_ff ((decide (quota < 0)))).elim (fun h13 => ?_) (fun h13 => ?_)
   ·
    refine ar_frame [(44, .bool false), (43, .bool false), (42, iT quota), (0, iT quota), (1, sF (l.map actAV)), (6, pT b1), (7, .nilptr), (8, .err 108 1)] (by first | (rw [h13]; done) | (rw [h13]; rfl)) ?_
    try rw [h13] at key
    replace h13 : 0 ≤ quota := (Int.not_lt.1 (of_decide_eq_false h13))
    refine ⟨tv, tv, ?_⟩
    exact key
   ·
    refine ar_frame [(44, .bool true), (43, .bool true), (42, iT quota), (0, iT quota), (1, sF (l.map actAV)), (6, pT b1), (7, .nilptr), (8, .err 108 1)] (by first | (rw [h13]; done) | (rw [h13]; rfl)) ?_
    try rw [h13] at key
    replace h13 : quota < 0 := (of_decide_eq_true h13)
    refine ar_off rfl (ar_off rfl ?_)
    exact key
  refine hK1 _ _ ?_; clear hK1 K1
  refine cD rfl rfl (fun h14 => ?_) (fun h14 => ?_)
  ·
   replace h14 : (quota < 0) ∨ (40 < quota) := ((borT h14).imp (fun q => (of_decide_eq_true q)) (fun q => (of_decide_eq_true q)))
   refine rS [] [4] (by decide) ?_
   intro K1 hK1
   suffices key : K1 [(4, .bool true)] (mW m [(b1, dObj b3 b2 s0), (b2, mObj s0.now), (b3, mObj s0.kept)]) by
    refine ⟨tv, ?_⟩
    refine u_same_eq 1 (by first | decide | assumption | exact readC_nn) _ _ ?_
    refine ⟨tv, tv, rfl, ?_⟩
    refine ⟨tv, ?_⟩
    exact key
   refine hK1 _ _ ?_; clear hK1 K1
   refine awp_ret ?_
   refine ⟨tv, m, (wth_sub2 (m := m) [(b1, dObj b3 b2 s0), (b2, mObj s0.now), (b3, mObj s0.kept)] [] hNb1 (by simp only [List.map_cons, List.map_nil, List.forall_mem_cons]; exact ⟨hFb1, hFb2, hFb3, nfA⟩)), ?_⟩
   show K (.bool true) m
  
   exact hK
  replace h14 : (0 ≤ quota) ∧ (quota ≤ 40) := ⟨(Int.not_lt.1 (of_decide_eq_false (borL h14))), (Int.not_lt.1 (of_decide_eq_false (borR h14)))⟩
  exact absurd h14 (of_decide_eq_false hq)
end Go.Proofs
