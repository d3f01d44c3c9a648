/-
  Values and acts that a law is handed read as typed data.
-/
import Derived.Test.YtoeghipbkmaccaaProg
import Derived.Test.YtoeghipbkmaccaaWl2
import Derived.Test.YtoeghipbkmaccaaTd1
import Derived.Test.YtoeghipbkmaccaaWl6
import Derived.Test.YtoeghipbkmaccaaWxf
section
namespace Go.Proofs
open Go Go.Aw
set_option maxRecDepth 100000

def sZ : DSt := (syncF s0).1
theorem TI.start : TI s0 0 := ⟨⟨_, Two.start0⟩, ⟨rfl, rfl⟩, (fun p hp => by cases hp), (fun p hp => by cases hp), (fun p hp => by cases hp)⟩
theorem sZ_ti : TI sZ 1 := TI.start.sync.1
theorem u_SyncT (d kb nb : Nat) (s : DSt) (N : Nat) (hN : [d, kb, nb].Nodup) (h : TI s N) (hNN : N ≤ 100000) (m : AMem) (K : AV → AMem → Prop) (hK : K (.err 108 0) (AMem.wth m [(d, dObj kb nb (syncF s).1), (kb, mObj (syncF s).1.kept), (nb, mObj (syncF s).1.now)])) :
    ACalls Try.prog 33 [.ptr ⟨d, 0, none⟩] (AMem.wth m [(d, dObj kb nb s), (kb, mObj s.kept), (nb, mObj s.now)]) K :=
  u_Sync3 d kb nb s N hN h.inv hNN m K (by rw [h.sync.2.1]; exact hK)
theorem u_SyncZ (d kb nb : Nat) (hN : [d, kb, nb].Nodup) (m : AMem) (K : AV → AMem → Prop) (hK : K (.err 108 0) (AMem.wth m [(d, dObj kb nb sZ), (kb, mObj sZ.kept), (nb, mObj sZ.now)])) :
    ACalls Try.prog 33 [.ptr ⟨d, 0, none⟩] (AMem.wth m [(d, dObj kb nb s0), (kb, mObj s0.kept), (nb, mObj s0.now)]) K :=
  u_SyncT d kb nb s0 0 hN TI.start (by decide) m K hK
theorem u_StepsZ (d kb nb : Nat) (m : AMem) (K : AV → AMem → Prop) (hK : K (.int .i64 1) (AMem.wth m [(d, dObj kb nb sZ)])) : ACalls Try.prog 43 [.ptr ⟨d, 0, none⟩] (AMem.wth m [(d, dObj kb nb sZ)]) K :=
  u_Steps d kb nb sZ m K hK
theorem cases17 {p : Prop} (e : Int) (a : ActT) (h1 : (e == 0) = false → p) (h2 : (e == 0) = true → (!(a.kind == ([109, 111, 118, 101] : List UInt8))) = true → p) (h3 : (e == 0) = true → (!(a.kind == ([109, 111, 118, 101] : List UInt8))) = false → (!(a.s == a.t)) = true → p) (h4 : (e == 0) = true → (!(a.kind == ([109, 111, 118, 101] : List UInt8))) = false → (!(a.s == a.t)) = false → p) : p := by
  cases q1 : (e == 0)
  · exact h1 q1
  · cases q2 : (!(a.kind == ([109, 111, 118, 101] : List UInt8)))
    · cases q3 : (!(a.s == a.t))
      · exact h4 q1 q2 q3
      · exact h3 q1 q2 q3
    · exact h2 q1 q2
theorem TL.mono {s : DSt} {was : List Str} {N M : Nat} (h : TL s was N) (hm : N ≤ M) : TL s was M := ⟨h.ti.mono hm, h.len, h.at_⟩
theorem bn_ne {α : Type} [BEq α] [LawfulBEq α] {a b : α} (h : (!(a == b)) = true) : a ≠ b := by rw [Bool.not_eq_true'] at h; exact ne_of_beq_false h
theorem bn_eq {α : Type} [BEq α] [LawfulBEq α] {a b : α} (h : (!(a == b)) = false) : a = b := by rw [Bool.not_eq_false'] at h; exact eq_of_beq h
theorem TL.skip1 {s : DSt} {was : List Str} {N : Nat} (h : TL s was N) {a : ActT} (hs : a.kind ≠ ([115, 121, 110, 99] : List UInt8)) (h1 : ((actR s a).2 == 0) = false) : TL (actR s a).1 was (N + 1) := h.skip hs fun c => ne_of_beq_false h1 c.1
theorem TL.skip2 {s : DSt} {was : List Str} {N : Nat} (h : TL s was N) {a : ActT} (hs : a.kind ≠ ([115, 121, 110, 99] : List UInt8)) (h1 : chgB a.kind = false) : TL (actR s a).1 was (N + 1) := h.skip hs fun c => by rw [c.2.2] at h1; cases h1
theorem TL.skip4 {s : DSt} {was : List Str} {N : Nat} (h : TL s was N) {a : ActT} (hs : a.kind ≠ ([115, 121, 110, 99] : List UInt8)) (h1 : (!(a.kind == ([109, 111, 118, 101] : List UInt8))) = false) (h2 : (!(a.s == a.t)) = false) : TL (actR s a).1 was (N + 1) := h.skip hs fun c => c.2.1.elim (fun q => q (bn_eq h1)) (fun q => q (bn_eq h2))
theorem TL.app2 {s : DSt} {was : List Str} {N : Nat} (h : TL s was N) {a : ActT} (hs : a.kind ≠ ([115, 121, 110, 99] : List UInt8)) (h0 : ((actR s a).2 == 0) = true) (h1 : (!(a.kind == ([109, 111, 118, 101] : List UInt8))) = true) (h2 : chgB a.kind = true) : TL (actR s a).1 (was ++ [filesT (actR s a).1.now]) (N + 1) := h.app hs ⟨eq_of_beq h0, .inl (bn_ne h1), h2⟩
theorem TL.app3 {s : DSt} {was : List Str} {N : Nat} (h : TL s was N) {a : ActT} (hs : a.kind ≠ ([115, 121, 110, 99] : List UInt8)) (h0 : ((actR s a).2 == 0) = true) (h1 : (!(a.s == a.t)) = true) (h2 : chgB a.kind = true) : TL (actR s a).1 (was ++ [filesT (actR s a).1.now]) (N + 1) := h.app hs ⟨eq_of_beq h0, .inr (bn_ne h1), h2⟩
theorem TL.nd {s : DSt} {was : List Str} {N : Nat} (h : TL s was N) : (s.kept.map Prod.fst).Nodup := h.ti.two.elim fun _ t => t.k.nd

set_option maxHeartbeats 16000000 in
theorem u_TopDisk (l more : List ActT) (keep : Int)  (m : AMem)  (K : AV → AMem → Prop) (hK : K (.bool true) m) : ACalls Try.prog 7 [.slice false (l.map actAV), .slice false (more.map actAV), .int .i64 keep] m K := by
 refine acalls_enter Try.func7 rfl (by decide) (Nat.le_of_ble_eq_true rfl) ?_
 show AWP _ _ _ _ [(0, .slice false (l.map actAV)), (1, .slice false (more.map actAV)), (2, .int .i64 keep)] m
 refine awp_reg2_seq [] [0, 1, 2] (by decide) ?_
 intro K1 hK1
 refine ⟨trivial, ?_⟩
 show K1 [(0, .slice false (l.map actAV)), (1, .slice false (more.map actAV)), (2, .int .i64 keep)] m
 refine hK1 _ _ ?_; clear hK1 K1
 refine awp_reg2_seq [] [0, 1, 2, 7] (by decide) ?_
 intro K1 hK1
 refine u_New0 _ _ ?_
 intro b1 b2 b3 hqb1 hb1 hb2 hb3
 have hFb1 : m b1 = none := wth_none (m := m) (L := []) hb1
 have hFb2 : m b2 = none := wth_none (m := m) (L := []) hb2
 have hFb3 : m b3 = none := wth_none (m := m) (L := []) hb3
 have hNb1 : ([b1, b2, b3] : List Nat).Nodup := wth_news (m := m) (L := []) hqb1 (by simp only [List.forall_mem_cons]; exact ⟨hb1, hb2, hb3, fun _ h => by cases h⟩) List.nodup_nil
 show aopsR _ _ _ _ _ _ (AMem.wth m [(b1, dObj b3 b2 s0), (b2, mObj s0.now), (b3, mObj s0.kept)])
 refine ⟨trivial, ?_⟩
 show K1 [(0, .slice false (l.map actAV)), (1, .slice false (more.map actAV)), (2, .int .i64 keep), (7, .ptr ⟨b1, 0, none⟩)] (AMem.wth m [(b1, dObj b3 b2 s0), (b2, mObj s0.now), (b3, mObj s0.kept)])
 refine hK1 _ _ ?_; clear hK1 K1
 refine awp_seq_k ?_; intro K2 hK2
 refine awp_reg2_seq [] [0, 1, 2, 7, 24] (by decide) ?_
 intro K1 hK1
 refine ⟨trivial, rfl, trivial, trivial, ?_⟩
 refine ar_mem (wth_split hNb1 (pick_perm [0, 1, 0] _)) ?_
 refine u_SyncZ b1 b3 b2 (by have q := hNb1; simp at q ⊢; omega) _ _ ?_
 show aopsR _ _ _ _ _ _ (AMem.wth (AMem.wth m []) [(b1, dObj b3 b2 sZ), (b3, mObj sZ.kept), (b2, mObj sZ.now)])
 refine ar_mem (wth_split (m := m) (L := [(b1, dObj b3 b2 sZ), (b2, mObj sZ.now), (b3, mObj sZ.kept)]) hNb1 (pick_perm [0, 1, 0] _)).symm ?_
 refine ⟨⟨rfl, rfl⟩, ?_⟩
 refine ⟨trivial, trivial, ?_⟩
 refine ar_mem (wth_split hNb1 (pick_perm [0] _)) ?_
 refine u_StepsZ b1 b3 b2 _ _ ?_
 show aopsR _ _ _ _ _ _ (AMem.wth (AMem.wth m [(b2, mObj sZ.now), (b3, mObj sZ.kept)]) [(b1, dObj b3 b2 sZ)])
 refine ar_mem (wth_split (m := m) (L := [(b1, dObj b3 b2 sZ), (b2, mObj sZ.now), (b3, mObj sZ.kept)]) hNb1 (pick_perm [0] _)).symm ?_
 refine ⟨trivial, ?_⟩
 refine ar_top 23 (.bool false) (congrArg AV.bool (by simp)) ?_
 show K1 [(0, .slice false (l.map actAV)), (1, .slice false (more.map actAV)), (2, .int .i64 keep), (7, .ptr ⟨b1, 0, none⟩), (24, .bool false)] (AMem.wth m [(b1, dObj b3 b2 sZ), (b2, mObj sZ.now), (b3, mObj sZ.kept)])
 refine hK1 _ _ ?_; clear hK1 K1
 refine awp_cond rfl rfl (fun hcz => ?_) (fun hcz => ?_)
 ·
  cases hcz
 clear hcz
 refine awp_skip ?_
 refine hK2 _ _ ?_; clear hK2
 refine awp_seq_k ?_; intro K3 hK3
 refine awp_reg2_seq [] [0, 1, 2, 7, 32] (by decide) ?_
 intro K1 hK1
 suffices key : K1 [(0, .slice false (l.map actAV)), (1, .slice false (more.map actAV)), (2, .int .i64 keep), (7, .ptr ⟨b1, 0, none⟩), (32, .bool ((!(lightA l 50 9000)) || (!(lightA more 12 5000))))] (AMem.wth m [(b1, dObj b3 b2 sZ), (b2, mObj sZ.now), (b3, mObj sZ.kept)]) by
  refine ⟨trivial, ?_⟩
  refine u_LightActs l 50 9000 _ _ ?_
  refine ⟨trivial, trivial, ?_⟩
  show aopsR _ _ _ _ _ [(28, .bool (!(lightA l 50 9000))), (27, .bool (!(lightA l 50 9000))), (26, .bool (lightA l 50 9000)), (25, .slice false (l.map actAV)), (0, .slice false (l.map actAV)), (1, .slice false (more.map actAV)), (2, .int .i64 keep), (7, .ptr ⟨b1, 0, none⟩), (24, .bool false)] _
  refine (bool_ff ((lightA l 50 9000))).elim (fun h1 => ?_) (fun h1 => ?_)
  ·
   refine ar_frame [(28, .bool true), (27, .bool true), (26, .bool false), (25, .slice false (l.map actAV)), (0, .slice false (l.map actAV)), (1, .slice false (more.map actAV)), (2, .int .i64 keep), (7, .ptr ⟨b1, 0, none⟩), (24, .bool false)] (by first | (rw [h1]; done) | (rw [h1]; rfl)) ?_
   try rw [h1] at key
   replace h1 : lightA l 50 9000 = false := h1
   refine ar_off rfl (ar_off rfl (ar_off rfl ?_))
   exact key
  ·
   refine ar_frame [(28, .bool false), (27, .bool false), (26, .bool true), (25, .slice false (l.map actAV)), (0, .slice false (l.map actAV)), (1, .slice false (more.map actAV)), (2, .int .i64 keep), (7, .ptr ⟨b1, 0, none⟩), (24, .bool false)] (by first | (rw [h1]; done) | (rw [h1]; rfl)) ?_
   try rw [h1] at key
   replace h1 : lightA l 50 9000 = true := h1
   refine ⟨trivial, ?_⟩
   refine u_LightActs more 12 5000 _ _ ?_
   refine ⟨trivial, ?_⟩
   exact key
 refine hK1 _ _ ?_; clear hK1 K1
 refine awp_cond rfl rfl (fun h2 => ?_) (fun h2 => ?_)
 ·
  replace h2 : (lightA l 50 9000 = false) ∨ (lightA more 12 5000 = false) := ((borT h2).imp (fun q => (bnT q)) (fun q => (bnT q)))
  refine awp_reg2_seq [] [6] (by decide) ?_
  intro K1 hK1
  refine ⟨trivial, ?_⟩
  show K1 [(6, .bool true)] (AMem.wth m [(b1, dObj b3 b2 sZ), (b2, mObj sZ.now), (b3, mObj sZ.kept)])
  refine hK1 _ _ ?_; clear hK1 K1
  refine awp_ret ?_
  refine ⟨trivial, m, (wth_sub2 (m := m) [(b1, dObj b3 b2 sZ), (b2, mObj sZ.now), (b3, mObj sZ.kept)] [] hNb1 (by simp only [List.map_cons, List.map_nil, List.forall_mem_cons]; exact ⟨hFb1, hFb2, hFb3, fun _ h => by cases h⟩)), ?_⟩
  show K (.bool true) m
 
  first | exact hK | (refine K_eq hK (congrArg AV.bool ?_); show true = (filesT nw1 == gI was (clampI keep s3.wait.length)); rw [hfin.1, beq_self_eq_true])
 replace h2 : (lightA l 50 9000 = true) ∧ (lightA more 12 5000 = true) := ⟨(bnF (borL h2)), (bnF (borR h2))⟩
 have hl50 := lightA_len h2.1
 have hm12 := lightA_len h2.2
 refine awp_bdL 0 (o := false) (l := l.map actAV) rfl (fun hbl => ?_)
 have hbs := acts_bd hbl
 refine awp_bdL 1 (o := false) (l := more.map actAV) rfl (fun hbl2 => ?_)
 have hbm := acts_bd hbl2
 refine awp_skip ?_
 refine hK3 _ _ ?_; clear hK3
 refine awp_seq_k ?_; intro K4 hK4
 refine awp_reg2_seq [] [0, 1, 2, 7, 8] (by decide) ?_
 intro K1 hK1
 refine ⟨trivial, ?_⟩
 show K1 [(0, .slice false (l.map actAV)), (1, .slice false (more.map actAV)), (2, .int .i64 keep), (7, .ptr ⟨b1, 0, none⟩), (8, .int .i64 0)] (AMem.wth m [(b1, dObj b3 b2 sZ), (b2, mObj sZ.now), (b3, mObj sZ.kept)])
 refine hK1 _ _ ?_; clear hK1 K1
 refine awp_block ?_
 refine awp_keep [0, 1, 2, 7, 8] (by decide) ?_
 refine awp_loop_st (σ := Int × DSt) (fun ⟨i, s⟩ => [(0, .slice false (l.map actAV)), (1, .slice false (more.map actAV)), (2, .int .i64 keep), (7, .ptr ⟨b1, 0, none⟩), (8, .int .i64 i)]) (fun ⟨i, s⟩ => (AMem.wth m [(b1, dObj b3 b2 s), (b2, mObj s.now), (b3, mObj s.kept)])) (fun ⟨i, s⟩ => 0 ≤ i ∧ i ≤ l.length ∧ TI s (i.toNat + 1)) (fun ⟨i, s⟩ => l.length - i.toNat) (0, sZ) rfl rfl ?_ ?_
 ·
  show 0 ≤ ((0 : Int)) ∧ ((0 : Int)) ≤ l.length ∧ TI ((sZ : DSt)) (((0 : Int)).toNat + 1)
  exact ⟨by omega, by omega, sZ_ti⟩
 rintro ⟨i, s⟩ hI
 replace hI : 0 ≤ i ∧ i ≤ l.length ∧ TI s (i.toNat + 1) := hI
 show AWP _ _ _ _ [(0, .slice false (l.map actAV)), (1, .slice false (more.map actAV)), (2, .int .i64 keep), (7, .ptr ⟨b1, 0, none⟩), (8, .int .i64 i)] (AMem.wth m [(b1, dObj b3 b2 s), (b2, mObj s.now), (b3, mObj s.kept)])
 refine awp_seq_k ?_; intro K5 hK5
 refine awp_reg2_seq [] [0, 1, 2, 7, 8, 36] (by decide) ?_
 intro K1 hK1
 refine ⟨trivial, trivial, ?_⟩
 refine ar_len rfl actAV l rfl rfl rfl ?_
 refine ⟨trivial, ?_⟩
 show K1 [(0, .slice false (l.map actAV)), (1, .slice false (more.map actAV)), (2, .int .i64 keep), (7, .ptr ⟨b1, 0, none⟩), (8, .int .i64 i), (36, .bool (decide (i < (l.length : Int))))] (AMem.wth m [(b1, dObj b3 b2 s), (b2, mObj s.now), (b3, mObj s.kept)])
 refine hK1 _ _ ?_; clear hK1 K1
 refine awp_cond rfl rfl (fun h3 => ?_) (fun h3 => ?_)
 ·
  replace h3 : i < (l.length : Int) := (of_decide_eq_true h3)
  refine awp_skip ?_
  refine hK5 _ _ ?_; clear hK5
  refine awp_seq_k ?_; intro K6 hK6
  refine awp_block ?_
  refine awp_reg2 [] [0, 1, 2, 7, 8] (by decide) ?_
  intro K1 hK1
  refine ⟨trivial, trivial, trivial, ?_⟩
  refine ar_index rfl actAV l i rfl rfl rfl rfl rfl (by decide) (fun _ => rfl) (by first | omega | (have hcb := clampI_b keep s3.wait.length; omega)) (by first | omega | (have hcb := clampI_b keep s3.wait.length; have hln := hI2.2.2.2.len; omega)) ?_
  refine ⟨(apartOk_agg rfl rfl (Nat.le_of_ble_eq_true rfl)), ?_⟩
  refine u_act b1 b3 b2 s (gI l i) (i.toNat + 1) (by have q := hNb1; simp at q ⊢; omega) hI.2.2.inv (by omega) ⟨(hbs _ (gI_mem hI.1 (by assumption))).1, (hbs _ (gI_mem hI.1 (by assumption))).2.1⟩ _ _ ?_
  show aopsR _ _ _ _ _ _ (AMem.wth m [(b1, dObj b3 b2 ((actR s (gI l i)).1)), (b2, mObj ((actR s (gI l i)).1.now)), (b3, mObj ((actR s (gI l i)).1.kept))])
  show K1 [(0, .slice false (l.map actAV)), (1, .slice false (more.map actAV)), (2, .int .i64 keep), (7, .ptr ⟨b1, 0, none⟩), (8, .int .i64 i)] (AMem.wth m [(b1, dObj b3 b2 ((actR s (gI l i)).1)), (b2, mObj ((actR s (gI l i)).1.now)), (b3, mObj ((actR s (gI l i)).1.kept))])
  refine hK1 _ _ ?_; clear hK1 K1
  refine hK6 _ _ ?_; clear hK6
  refine awp_reg2 [] [0, 1, 2, 7, 8] (by decide) ?_
  intro K1 hK1
  refine ⟨trivial, ?_⟩
  refine ar_add rfl (a := i) (b := 1) rfl rfl (by omega) (by omega) ?_
  refine ⟨trivial, ?_⟩
  show K1 [(0, .slice false (l.map actAV)), (1, .slice false (more.map actAV)), (2, .int .i64 keep), (7, .ptr ⟨b1, 0, none⟩), (8, .int .i64 (i + 1))] (AMem.wth m [(b1, dObj b3 b2 ((actR s (gI l i)).1)), (b2, mObj ((actR s (gI l i)).1.now)), (b3, mObj ((actR s (gI l i)).1.kept))])
  refine hK1 _ _ ?_; clear hK1 K1
  refine ⟨(i + 1, (actR s (gI l i)).1), rfl, rfl, ?_, ?_⟩
  ·
   show 0 ≤ ((i + 1 : Int)) ∧ ((i + 1 : Int)) ≤ l.length ∧ TI (((actR s (gI l i)).1 : DSt)) (((i + 1 : Int)).toNat + 1)
   refine ⟨by omega, by omega, ?_⟩
   rw [show (i + 1).toNat + 1 = i.toNat + 1 + 1 from by omega]
   exact hI.2.2.act _
  ·
   show l.length - ((i + 1 : Int)).toNat < l.length - i.toNat
   omega
 replace h3 : (l.length : Int) ≤ i := (Int.not_lt.1 (of_decide_eq_false h3))
 refine awp_exit ?_
 refine hK4 _ _ ?_; clear hK4
 refine awp_seq_k ?_; intro K7 hK7
 refine awp_reg2_seq [] [1, 2, 7, 47] (by decide) ?_
 intro K1 hK1
 refine ⟨trivial, ?_⟩
 refine ar_mem (wth_split hNb1 (pick_perm [0, 1, 0] _)) ?_
 refine u_SyncT b1 b3 b2 s (i.toNat + 1) (by have q := hNb1; simp at q ⊢; omega) hI.2.2 (by omega) _ _ ?_
 show aopsR _ _ _ _ _ _ (AMem.wth (AMem.wth m []) [(b1, dObj b3 b2 ((syncF s).1)), (b3, mObj (((syncF s).1).kept)), (b2, mObj (((syncF s).1).now))])
 refine ar_mem (wth_split (m := m) (L := [(b1, dObj b3 b2 ((syncF s).1)), (b2, mObj (((syncF s).1).now)), (b3, mObj (((syncF s).1).kept))]) hNb1 (pick_perm [0, 1, 0] _)).symm ?_
 refine ⟨⟨rfl, rfl⟩, ?_⟩
 show K1 [(1, .slice false (more.map actAV)), (2, .int .i64 keep), (7, .ptr ⟨b1, 0, none⟩), (47, .bool false)] (AMem.wth m [(b1, dObj b3 b2 ((syncF s).1)), (b2, mObj (((syncF s).1).now)), (b3, mObj (((syncF s).1).kept))])
 refine hK1 _ _ ?_; clear hK1 K1
 have hT2 := hI.2.2.sync
 generalize (syncF s).1 = s2 at hT2 ⊢
 have hT3 : TI s2 52 := hT2.1.mono (by omega)
 refine awp_cond rfl rfl (fun hcz => ?_) (fun hcz => ?_)
 ·
  cases hcz
 clear hcz
 refine awp_skip ?_
 refine hK7 _ _ ?_; clear hK7
 refine awp_reg2_seq [] [1, 2, 7, 9] (by decide) ?_
 intro K1 hK1
 refine ⟨trivial, ?_⟩
 refine ar_mem (wth_split hNb1 (pick_perm [0, 0] _)) ?_
 refine u_files b1 b3 b2 s2 52 (by have q := hNb1; simp at q ⊢; omega) hT3.inv (by omega) hT3.ok.1 hT3.nn _ _ ?_
 show aopsR _ _ _ _ _ _ (AMem.wth (AMem.wth m [(b3, mObj s2.kept)]) [(b1, dObj b3 b2 s2), (b2, mObj s2.now)])
 refine ar_mem (wth_split (m := m) (L := [(b1, dObj b3 b2 s2), (b2, mObj s2.now), (b3, mObj s2.kept)]) hNb1 (pick_perm [0, 0] _)).symm ?_
 refine ⟨⟨rfl, Nat.le_of_ble_eq_true rfl, rfl, Nat.le_of_ble_eq_true rfl, rfl, by simp only [List.forall_mem_cons]; exact ⟨⟨rfl, rfl⟩, fun _ h => by cases h⟩⟩, trivial, ?_⟩
 show K1 [(1, .slice false (more.map actAV)), (2, .int .i64 keep), (7, .ptr ⟨b1, 0, none⟩), (9, .slice true [.str (filesT s2.now)])] (AMem.wth m [(b1, dObj b3 b2 s2), (b2, mObj s2.now), (b3, mObj s2.kept)])
 refine hK1 _ _ ?_; clear hK1 K1
 refine awp_seq_k ?_; intro K8 hK8
 refine awp_reg2_seq [] [1, 2, 7, 9, 10] (by decide) ?_
 intro K1 hK1
 refine ⟨trivial, ?_⟩
 show K1 [(1, .slice false (more.map actAV)), (2, .int .i64 keep), (7, .ptr ⟨b1, 0, none⟩), (9, .slice true [.str (filesT s2.now)]), (10, .int .i64 0)] (AMem.wth m [(b1, dObj b3 b2 s2), (b2, mObj s2.now), (b3, mObj s2.kept)])
 refine hK1 _ _ ?_; clear hK1 K1
 refine awp_block ?_
 refine awp_keep [1, 2, 7, 9, 10] (by decide) ?_
 refine awp_loop_st (σ := (List (List UInt8)) × Int × DSt) (fun ⟨was, j, s3⟩ => [(1, .slice false (more.map actAV)), (2, .int .i64 keep), (7, .ptr ⟨b1, 0, none⟩), (9, .slice true (was.map strAV)), (10, .int .i64 j)]) (fun ⟨was, j, s3⟩ => (AMem.wth m [(b1, dObj b3 b2 s3), (b2, mObj s3.now), (b3, mObj s3.kept)])) (fun ⟨was, j, s3⟩ => 0 ≤ j ∧ j ≤ more.length ∧ (was.length : Int) ≤ j + 1 ∧ TL s3 was (52 + j.toNat)) (fun ⟨was, j, s3⟩ => more.length - j.toNat) ([filesT s2.now], 0, s2) rfl rfl ?_ ?_
 ·
  show 0 ≤ ((0 : Int)) ∧ ((0 : Int)) ≤ more.length ∧ ((([filesT s2.now] : (List (List UInt8)))).length : Int) ≤ ((0 : Int)) + 1 ∧ TL ((s2 : DSt)) (([filesT s2.now] : (List (List UInt8)))) (52 + ((0 : Int)).toNat)
  exact ⟨by omega, by omega, by simp, TL.start hT3 hT2.2.2⟩
 rintro ⟨was, j, s3⟩ hI2
 replace hI2 : 0 ≤ j ∧ j ≤ more.length ∧ (was.length : Int) ≤ j + 1 ∧ TL s3 was (52 + j.toNat) := hI2
 show AWP _ _ _ _ [(1, .slice false (more.map actAV)), (2, .int .i64 keep), (7, .ptr ⟨b1, 0, none⟩), (9, .slice true (was.map strAV)), (10, .int .i64 j)] (AMem.wth m [(b1, dObj b3 b2 s3), (b2, mObj s3.now), (b3, mObj s3.kept)])
 refine awp_seq_k ?_; intro K9 hK9
 refine awp_reg2_seq [] [1, 2, 7, 9, 10, 54] (by decide) ?_
 intro K1 hK1
 refine ⟨trivial, trivial, ?_⟩
 refine ar_len rfl actAV more rfl rfl rfl ?_
 refine ⟨trivial, ?_⟩
 show K1 [(1, .slice false (more.map actAV)), (2, .int .i64 keep), (7, .ptr ⟨b1, 0, none⟩), (9, .slice true (was.map strAV)), (10, .int .i64 j), (54, .bool (decide (j < (more.length : Int))))] (AMem.wth m [(b1, dObj b3 b2 s3), (b2, mObj s3.now), (b3, mObj s3.kept)])
 refine hK1 _ _ ?_; clear hK1 K1
 refine awp_cond rfl rfl (fun h4 => ?_) (fun h4 => ?_)
 ·
  replace h4 : j < (more.length : Int) := (of_decide_eq_true h4)
  refine awp_skip ?_
  refine hK9 _ _ ?_; clear hK9
  refine awp_seq_k ?_; intro K10 hK10
  refine awp_block ?_
  refine awp_seq_k ?_; intro K11 hK11
  refine awp_reg2_seq [] [1, 2, 7, 9, 10, 62] (by decide) ?_
  intro K1 hK1
  refine ⟨trivial, trivial, ?_⟩
  refine ar_index rfl actAV more j rfl rfl rfl rfl rfl (by decide) (fun _ => rfl) (by first | omega | (have hcb := clampI_b keep s3.wait.length; omega)) (by first | omega | (have hcb := clampI_b keep s3.wait.length; have hln := hI2.2.2.2.len; omega)) ?_
  refine ⟨⟨rfl, by decide, (Nat.le_of_ble_eq_true rfl)⟩, (apartOk_one rfl rfl (Nat.le_of_ble_eq_true rfl)), trivial, ?_⟩
  show K1 [(1, .slice false (more.map actAV)), (2, .int .i64 keep), (7, .ptr ⟨b1, 0, none⟩), (9, .slice true (was.map strAV)), (10, .int .i64 j), (62, .bool (((gI more j).kind) == ([115, 121, 110, 99] : List UInt8)))] (AMem.wth m [(b1, dObj b3 b2 s3), (b2, mObj s3.now), (b3, mObj s3.kept)])
  refine hK1 _ _ ?_; clear hK1 K1
  refine awp_cond rfl rfl (fun h5 => ?_) (fun h5 => ?_)
  ·
   replace h5 : (gI more j).kind = ([115, 121, 110, 99] : List UInt8) := (eq_of_beq h5)
   refine awp_exit ?_
   refine hK10 _ _ ?_; clear hK10
   refine awp_reg2 [] [1, 2, 7, 9, 10] (by decide) ?_
   intro K1 hK1
   refine ⟨trivial, ?_⟩
   refine ar_add rfl (a := j) (b := 1) rfl rfl (by omega) (by omega) ?_
   refine ⟨trivial, ?_⟩
   show K1 [(1, .slice false (more.map actAV)), (2, .int .i64 keep), (7, .ptr ⟨b1, 0, none⟩), (9, .slice true (was.map strAV)), (10, .int .i64 (j + 1))] (AMem.wth m [(b1, dObj b3 b2 s3), (b2, mObj s3.now), (b3, mObj s3.kept)])
   refine hK1 _ _ ?_; clear hK1 K1
   refine ⟨(was, j + 1, s3), rfl, rfl, ?_, ?_⟩
   ·
    show 0 ≤ ((j + 1 : Int)) ∧ ((j + 1 : Int)) ≤ more.length ∧ (was.length : Int) ≤ ((j + 1 : Int)) + 1 ∧ TL s3 was (52 + ((j + 1 : Int)).toNat)
    refine ⟨by omega, by omega, by (first | omega | (simp only [List.length_append, List.length_cons, List.length_nil]; omega)), ?_⟩
    rw [show 52 + (j + 1).toNat = 52 + j.toNat + 1 from by omega]
    first | exact hI2.2.2.2.mono (Nat.le_succ _) | exact hI2.2.2.2.app2 hns hc1 hc2 (by assumption) | exact hI2.2.2.2.app3 hns hc1 hc3 (by assumption) | exact hI2.2.2.2.skip1 hns hc1 | exact hI2.2.2.2.skip2 hns (by assumption) | exact hI2.2.2.2.skip4 hns hc2 hc3
   ·
    show more.length - ((j + 1 : Int)).toNat < more.length - j.toNat
    omega
  replace h5 : (gI more j).kind ≠ ([115, 121, 110, 99] : List UInt8) := (ne_of_beq_false h5)
  have hns := h5
  refine awp_skip ?_
  refine hK11 _ _ ?_; clear hK11
  refine cases17 (actR s3 (gI more j)).2 (gI more j) (fun hc1 => ?_) (fun hc1 hc2 => ?_) (fun hc1 hc2 hc3 => ?_) (fun hc1 hc2 hc3 => ?_)
  ·
   skip
   refine awp_draw_memP_seq Try.mixed [(5, 68)] [(5, 68, .err 108 ((actR s3 (gI more j)).2))] [(AMem.wth m [(b1, dObj b3 b2 s3), (b2, mObj s3.now), (b3, mObj s3.kept)]), (AMem.wth m [(b1, dObj b3 b2 ((actR s3 (gI more j)).1)), (b2, mObj ((actR s3 (gI more j)).1.now)), (b3, mObj ((actR s3 (gI more j)).1.kept))])] [] [1, 2, 7, 9, 10, 98] [(98, .bool false), (97, .lazy false (.junk)), (96, .lazy false (.junk)), (95, .lazy false (.junk)), (94, .lazy false (.junk)), (93, .lazy false (.junk)), (92, .lazy false (.junk)), (91, .bool false), (90, .bool false), (89, .lazy false (.junk)), (88, .lazy false (.junk)), (87, .lazy false (.junk)), (86, .lazy false (.junk)), (85, .lazy false (.junk)), (84, .lazy false (.junk)), (83, .lazy false (.junk)), (82, .lazy false (.junk)), (81, .lazy false (.junk)), (80, .lazy false (.junk)), (79, .lazy false (.junk)), (78, .lazy false (.junk)), (77, .lazy false (.junk)), (76, .lazy false (.junk)), (75, .lazy false (.junk)), (74, .lazy false (.junk)), (73, .lazy false (.junk)), (72, .lazy false (.junk)), (71, .lazy false (.junk)), (70, .bool false), (69, .bool false), (67, actAV (gI more j)), (66, .ref (AV.cells (actAV (gI more j)))), (65, .int .i64 j), (64, .slice false (more.map actAV)), (63, .ptr ⟨b1, 0, none⟩), (68, .err 108 ((actR s3 (gI more j)).2)), (1, .slice false (more.map actAV)), (2, .int .i64 keep), (7, .ptr ⟨b1, 0, none⟩), (9, .slice true (was.map strAV)), (10, .int .i64 j), (62, .bool (((gI more j).kind) == ([115, 121, 110, 99] : List UInt8)))] (AMem.wth m [(b1, dObj b3 b2 ((actR s3 (gI more j)).1)), (b2, mObj ((actR s3 (gI more j)).1.now)), (b3, mObj ((actR s3 (gI more j)).1.kept))]) (by decide) (by decide) (by decide) rfl rfl rfl rfl ?_ ?_ ?_
   ·
    refine ⟨?_, trivial⟩
    ·
     exact mem_call (wth_split (m := m) (L := [(b1, dObj b3 b2 s3), (b2, mObj s3.now), (b3, mObj s3.kept)]) hNb1 (pick_perm [0, 0, 0] _)) (wth_split (m := m) (L := [(b1, dObj b3 b2 ((actR s3 (gI more j)).1)), (b2, mObj ((actR s3 (gI more j)).1.now)), (b3, mObj ((actR s3 (gI more j)).1.kept))]) hNb1 (pick_perm [0, 0, 0] _)) (fun Kc hKc => u_act b1 b3 b2 s3 (gI more j) (52 + j.toNat) (by have q := hNb1; simp at q ⊢; omega) hI2.2.2.2.ti.inv (by omega) ⟨(hbm _ (gI_mem hI2.1 (by assumption))).1, (hbm _ (gI_mem hI2.1 (by assumption))).2.1⟩ _ Kc hKc)
   ·
    refine ⟨?_, ?_, trivial⟩
    ·
     show pseq _ _ _ _ _ [(68, .err 108 ((actR s3 (gI more j)).2)), (1, .slice false (more.map actAV)), (2, .int .i64 keep), (7, .ptr ⟨b1, 0, none⟩), (9, .slice true (was.map strAV)), (10, .int .i64 j), (62, .bool (((gI more j).kind) == ([115, 121, 110, 99] : List UInt8)))] _
     refine ⟨trivial, trivial, trivial, ?_⟩
     refine pq_index rfl actAV more j rfl rfl rfl rfl rfl (by decide) (fun _ => rfl) (by first | omega | (have hcb := clampI_b keep s3.wait.length; omega)) (by first | omega | (have hcb := clampI_b keep s3.wait.length; have hln := hI2.2.2.2.len; omega)) ?_
     refine ⟨(apartOk_agg rfl rfl (Nat.le_of_ble_eq_true rfl)), ⟨rfl, rfl⟩, ?_⟩
     refine pq_top 69 (.bool false) (congrArg AV.bool hc1) ?_
     refine ⟨trivial, ?_⟩
     refine pq_off rfl rfl ?_
     refine pq_off rfl rfl ?_
     refine pq_off rfl rfl ?_
     refine pq_off rfl rfl ?_
     refine pq_off rfl rfl ?_
     refine pq_off rfl rfl ?_
     refine pq_off rfl rfl ?_
     refine pq_off rfl rfl ?_
     refine pq_off rfl rfl ?_
     refine pq_off rfl rfl ?_
     refine pq_off rfl rfl ?_
     refine pq_off rfl rfl ?_
     refine pq_off rfl rfl ?_
     refine pq_off rfl rfl ?_
     refine pq_off rfl rfl ?_
     refine pq_off rfl rfl ?_
     refine pq_off rfl rfl ?_
     refine pq_off rfl rfl ?_
     refine pq_off rfl rfl ?_
     refine ⟨trivial, ?_⟩
     refine ⟨trivial, ?_⟩
     refine pq_off rfl rfl ?_
     refine pq_off rfl rfl ?_
     refine pq_off rfl rfl ?_
     refine pq_off rfl rfl ?_
     refine pq_off rfl rfl ?_
     refine pq_offc rfl ?_
     refine ⟨trivial, ?_⟩
     exact rfl
    ·
     show pseq _ _ _ _ _ [(68, .err 108 ((actR s3 (gI more j)).2)), (1, .slice false (more.map actAV)), (2, .int .i64 keep), (7, .ptr ⟨b1, 0, none⟩), (9, .slice true (was.map strAV)), (10, .int .i64 j), (62, .bool (((gI more j).kind) == ([115, 121, 110, 99] : List UInt8)))] _
     refine ⟨trivial, trivial, trivial, ?_⟩
     refine pq_index rfl actAV more j rfl rfl rfl rfl rfl (by decide) (fun _ => rfl) (by first | omega | (have hcb := clampI_b keep s3.wait.length; omega)) (by first | omega | (have hcb := clampI_b keep s3.wait.length; have hln := hI2.2.2.2.len; omega)) ?_
     refine ⟨(apartOk_agg rfl rfl (Nat.le_of_ble_eq_true rfl)), ⟨rfl, rfl⟩, ?_⟩
     refine pq_top 69 (.bool false) (congrArg AV.bool hc1) ?_
     refine ⟨trivial, ?_⟩
     refine pq_off rfl rfl ?_
     refine pq_off rfl rfl ?_
     refine pq_off rfl rfl ?_
     refine pq_off rfl rfl ?_
     refine pq_off rfl rfl ?_
     refine pq_off rfl rfl ?_
     refine pq_off rfl rfl ?_
     refine pq_off rfl rfl ?_
     refine pq_off rfl rfl ?_
     refine pq_off rfl rfl ?_
     refine pq_off rfl rfl ?_
     refine pq_off rfl rfl ?_
     refine pq_off rfl rfl ?_
     refine pq_off rfl rfl ?_
     refine pq_off rfl rfl ?_
     refine pq_off rfl rfl ?_
     refine pq_off rfl rfl ?_
     refine pq_off rfl rfl ?_
     refine pq_off rfl rfl ?_
     refine ⟨trivial, ?_⟩
     refine ⟨trivial, ?_⟩
     refine pq_off rfl rfl ?_
     refine pq_off rfl rfl ?_
     refine pq_off rfl rfl ?_
     refine pq_off rfl rfl ?_
     refine pq_off rfl rfl ?_
     refine pq_offc rfl ?_
     refine ⟨trivial, ?_⟩
     exact rfl
   intro K1 hK1
   show K1 [(1, .slice false (more.map actAV)), (2, .int .i64 keep), (7, .ptr ⟨b1, 0, none⟩), (9, .slice true (was.map strAV)), (10, .int .i64 j), (98, .bool false)] (AMem.wth m [(b1, dObj b3 b2 ((actR s3 (gI more j)).1)), (b2, mObj ((actR s3 (gI more j)).1.now)), (b3, mObj ((actR s3 (gI more j)).1.kept))])
   refine hK1 _ _ ?_; clear hK1 K1
   refine awp_cond rfl rfl (fun hcz => ?_) (fun hcz => ?_)
   ·
    cases hcz
   clear hcz
   refine awp_skip ?_
   refine hK10 _ _ ?_; clear hK10
   refine awp_reg2 [] [1, 2, 7, 9, 10] (by decide) ?_
   intro K1 hK1
   refine ⟨trivial, ?_⟩
   refine ar_add rfl (a := j) (b := 1) rfl rfl (by omega) (by omega) ?_
   refine ⟨trivial, ?_⟩
   show K1 [(1, .slice false (more.map actAV)), (2, .int .i64 keep), (7, .ptr ⟨b1, 0, none⟩), (9, .slice true (was.map strAV)), (10, .int .i64 (j + 1))] (AMem.wth m [(b1, dObj b3 b2 ((actR s3 (gI more j)).1)), (b2, mObj ((actR s3 (gI more j)).1.now)), (b3, mObj ((actR s3 (gI more j)).1.kept))])
   refine hK1 _ _ ?_; clear hK1 K1
   refine ⟨(was, j + 1, (actR s3 (gI more j)).1), rfl, rfl, ?_, ?_⟩
   ·
    show 0 ≤ ((j + 1 : Int)) ∧ ((j + 1 : Int)) ≤ more.length ∧ (was.length : Int) ≤ ((j + 1 : Int)) + 1 ∧ TL (((actR s3 (gI more j)).1 : DSt)) was (52 + ((j + 1 : Int)).toNat)
    refine ⟨by omega, by omega, by (first | omega | (simp only [List.length_append, List.length_cons, List.length_nil]; omega)), ?_⟩
    rw [show 52 + (j + 1).toNat = 52 + j.toNat + 1 from by omega]
    first | exact hI2.2.2.2.mono (Nat.le_succ _) | exact hI2.2.2.2.app2 hns hc1 hc2 (by assumption) | exact hI2.2.2.2.app3 hns hc1 hc3 (by assumption) | exact hI2.2.2.2.skip1 hns hc1 | exact hI2.2.2.2.skip2 hns (by assumption) | exact hI2.2.2.2.skip4 hns hc2 hc3
   ·
    show more.length - ((j + 1 : Int)).toNat < more.length - j.toNat
    omega
  ·
   skip
   refine awp_draw_memP_seq Try.mixed [(5, 68)] [(5, 68, .err 108 ((actR s3 (gI more j)).2))] [(AMem.wth m [(b1, dObj b3 b2 s3), (b2, mObj s3.now), (b3, mObj s3.kept)]), (AMem.wth m [(b1, dObj b3 b2 ((actR s3 (gI more j)).1)), (b2, mObj ((actR s3 (gI more j)).1.now)), (b3, mObj ((actR s3 (gI more j)).1.kept))])] [(.bool (chgB ((gI more j).kind)))] [1, 2, 7, 9, 10, 98] [(98, .bool (chgB ((gI more j).kind))), (97, .bool (chgB ((gI more j).kind))), (96, .str ((gI more j).kind)), (95, .ref [.str ((gI more j).kind), .str ((gI more j).s), .str ((gI more j).t), .int .i64 ((gI more j).a), .int .i64 ((gI more j).b), .int .i64 (((gI more j).v).kind), .int .i64 (((gI more j).v).n), .str (((gI more j).v).s), .slice false ((((gI more j).v).l).map valIn), .slice false ((((gI more j).v).f).map fldIn), .slice false (((gI more j).names).map strAV)]), (94, .ref (AV.cells (actAV (gI more j)))), (93, .int .i64 j), (92, .slice false (more.map actAV)), (91, .bool true), (90, .bool true), (89, .bool true), (88, .lazy false (.junk)), (87, .lazy false (.junk)), (86, .lazy false (.junk)), (85, .lazy false (.junk)), (84, .lazy false (.junk)), (83, .lazy false (.junk)), (82, .lazy false (.junk)), (81, .lazy false (.junk)), (80, .lazy false (.junk)), (79, .lazy false (.junk)), (78, .lazy false (.junk)), (77, .bool true), (76, .bool true), (75, .str ((gI more j).kind)), (74, .ref [.str ((gI more j).kind), .str ((gI more j).s), .str ((gI more j).t), .int .i64 ((gI more j).a), .int .i64 ((gI more j).b), .int .i64 (((gI more j).v).kind), .int .i64 (((gI more j).v).n), .str (((gI more j).v).s), .slice false ((((gI more j).v).l).map valIn), .slice false ((((gI more j).v).f).map fldIn), .slice false (((gI more j).names).map strAV)]), (73, .ref (AV.cells (actAV (gI more j)))), (72, .int .i64 j), (71, .slice false (more.map actAV)), (70, .bool true), (69, .bool true), (67, actAV (gI more j)), (66, .ref (AV.cells (actAV (gI more j)))), (65, .int .i64 j), (64, .slice false (more.map actAV)), (63, .ptr ⟨b1, 0, none⟩), (68, .err 108 ((actR s3 (gI more j)).2)), (1, .slice false (more.map actAV)), (2, .int .i64 keep), (7, .ptr ⟨b1, 0, none⟩), (9, .slice true (was.map strAV)), (10, .int .i64 j), (62, .bool (((gI more j).kind) == ([115, 121, 110, 99] : List UInt8)))] (AMem.wth m [(b1, dObj b3 b2 ((actR s3 (gI more j)).1)), (b2, mObj ((actR s3 (gI more j)).1.now)), (b3, mObj ((actR s3 (gI more j)).1.kept))]) (by decide) (by decide) (by decide) rfl rfl rfl rfl ?_ ?_ ?_
   ·
    refine ⟨?_, trivial⟩
    ·
     exact mem_call (wth_split (m := m) (L := [(b1, dObj b3 b2 s3), (b2, mObj s3.now), (b3, mObj s3.kept)]) hNb1 (pick_perm [0, 0, 0] _)) (wth_split (m := m) (L := [(b1, dObj b3 b2 ((actR s3 (gI more j)).1)), (b2, mObj ((actR s3 (gI more j)).1.now)), (b3, mObj ((actR s3 (gI more j)).1.kept))]) hNb1 (pick_perm [0, 0, 0] _)) (fun Kc hKc => u_act b1 b3 b2 s3 (gI more j) (52 + j.toNat) (by have q := hNb1; simp at q ⊢; omega) hI2.2.2.2.ti.inv (by omega) ⟨(hbm _ (gI_mem hI2.1 (by assumption))).1, (hbm _ (gI_mem hI2.1 (by assumption))).2.1⟩ _ Kc hKc)
   ·
    refine ⟨?_, ?_, trivial⟩
    ·
     show pseq _ _ _ _ _ [(68, .err 108 ((actR s3 (gI more j)).2)), (1, .slice false (more.map actAV)), (2, .int .i64 keep), (7, .ptr ⟨b1, 0, none⟩), (9, .slice true (was.map strAV)), (10, .int .i64 j), (62, .bool (((gI more j).kind) == ([115, 121, 110, 99] : List UInt8)))] _
     refine ⟨trivial, trivial, trivial, ?_⟩
     refine pq_index rfl actAV more j rfl rfl rfl rfl rfl (by decide) (fun _ => rfl) (by first | omega | (have hcb := clampI_b keep s3.wait.length; omega)) (by first | omega | (have hcb := clampI_b keep s3.wait.length; have hln := hI2.2.2.2.len; omega)) ?_
     refine ⟨(apartOk_agg rfl rfl (Nat.le_of_ble_eq_true rfl)), ⟨rfl, rfl⟩, ?_⟩
     refine pq_top 69 (.bool true) (congrArg AV.bool hc1) ?_
     refine ⟨trivial, trivial, trivial, ?_⟩
     refine pq_index rfl actAV more j rfl rfl rfl rfl rfl (by decide) (fun _ => rfl) (by first | omega | (have hcb := clampI_b keep s3.wait.length; omega)) (by first | omega | (have hcb := clampI_b keep s3.wait.length; have hln := hI2.2.2.2.len; omega)) ?_
     refine ⟨⟨rfl, by decide, (Nat.le_of_ble_eq_true rfl)⟩, (apartOk_one rfl rfl (Nat.le_of_ble_eq_true rfl)), trivial, ?_⟩
     refine pq_top 76 (.bool true) (congrArg AV.bool hc2) ?_
     refine ⟨trivial, ?_⟩
     refine pq_off rfl rfl ?_
     refine pq_off rfl rfl ?_
     refine pq_off rfl rfl ?_
     refine pq_off rfl rfl ?_
     refine pq_off rfl rfl ?_
     refine pq_off rfl rfl ?_
     refine pq_off rfl rfl ?_
     refine pq_off rfl rfl ?_
     refine pq_off rfl rfl ?_
     refine pq_off rfl rfl ?_
     refine pq_off rfl rfl ?_
     refine ⟨trivial, ?_⟩
     refine ⟨trivial, ?_⟩
     refine ⟨trivial, trivial, trivial, ?_⟩
     refine pq_index rfl actAV more j rfl rfl rfl rfl rfl (by decide) (fun _ => rfl) (by first | omega | (have hcb := clampI_b keep s3.wait.length; omega)) (by first | omega | (have hcb := clampI_b keep s3.wait.length; have hln := hI2.2.2.2.len; omega)) ?_
     refine ⟨⟨rfl, by decide, (Nat.le_of_ble_eq_true rfl)⟩, (apartOk_one rfl rfl (Nat.le_of_ble_eq_true rfl)), (fun Kc hKc => u_changes ((gI more j).kind) _ Kc hKc), trivial, ?_⟩
     exact rfl
    ·
     show pseq _ _ _ _ _ [(68, .err 108 ((actR s3 (gI more j)).2)), (1, .slice false (more.map actAV)), (2, .int .i64 keep), (7, .ptr ⟨b1, 0, none⟩), (9, .slice true (was.map strAV)), (10, .int .i64 j), (62, .bool (((gI more j).kind) == ([115, 121, 110, 99] : List UInt8)))] _
     refine ⟨trivial, trivial, trivial, ?_⟩
     refine pq_index rfl actAV more j rfl rfl rfl rfl rfl (by decide) (fun _ => rfl) (by first | omega | (have hcb := clampI_b keep s3.wait.length; omega)) (by first | omega | (have hcb := clampI_b keep s3.wait.length; have hln := hI2.2.2.2.len; omega)) ?_
     refine ⟨(apartOk_agg rfl rfl (Nat.le_of_ble_eq_true rfl)), ⟨rfl, rfl⟩, ?_⟩
     refine pq_top 69 (.bool true) (congrArg AV.bool hc1) ?_
     refine ⟨trivial, trivial, trivial, ?_⟩
     refine pq_index rfl actAV more j rfl rfl rfl rfl rfl (by decide) (fun _ => rfl) (by first | omega | (have hcb := clampI_b keep s3.wait.length; omega)) (by first | omega | (have hcb := clampI_b keep s3.wait.length; have hln := hI2.2.2.2.len; omega)) ?_
     refine ⟨⟨rfl, by decide, (Nat.le_of_ble_eq_true rfl)⟩, (apartOk_one rfl rfl (Nat.le_of_ble_eq_true rfl)), trivial, ?_⟩
     refine pq_top 76 (.bool true) (congrArg AV.bool hc2) ?_
     refine ⟨trivial, ?_⟩
     refine pq_off rfl rfl ?_
     refine pq_off rfl rfl ?_
     refine pq_off rfl rfl ?_
     refine pq_off rfl rfl ?_
     refine pq_off rfl rfl ?_
     refine pq_off rfl rfl ?_
     refine pq_off rfl rfl ?_
     refine pq_off rfl rfl ?_
     refine pq_off rfl rfl ?_
     refine pq_off rfl rfl ?_
     refine pq_off rfl rfl ?_
     refine ⟨trivial, ?_⟩
     refine ⟨trivial, ?_⟩
     refine ⟨trivial, trivial, trivial, ?_⟩
     refine pq_index rfl actAV more j rfl rfl rfl rfl rfl (by decide) (fun _ => rfl) (by first | omega | (have hcb := clampI_b keep s3.wait.length; omega)) (by first | omega | (have hcb := clampI_b keep s3.wait.length; have hln := hI2.2.2.2.len; omega)) ?_
     refine ⟨⟨rfl, by decide, (Nat.le_of_ble_eq_true rfl)⟩, (apartOk_one rfl rfl (Nat.le_of_ble_eq_true rfl)), (fun Kc hKc => u_changes ((gI more j).kind) _ Kc hKc), trivial, ?_⟩
     exact rfl
   intro K1 hK1
   show K1 [(1, .slice false (more.map actAV)), (2, .int .i64 keep), (7, .ptr ⟨b1, 0, none⟩), (9, .slice true (was.map strAV)), (10, .int .i64 j), (98, .bool (chgB ((gI more j).kind)))] (AMem.wth m [(b1, dObj b3 b2 ((actR s3 (gI more j)).1)), (b2, mObj ((actR s3 (gI more j)).1.now)), (b3, mObj ((actR s3 (gI more j)).1.kept))])
   refine hK1 _ _ ?_; clear hK1 K1
   refine awp_cond rfl rfl (fun h6 => ?_) (fun h6 => ?_)
   ·
    replace h6 : chgB ((gI more j).kind) = true := h6
    refine awp_reg2 [99] [1, 2, 7, 9, 10] (by decide) ?_
    intro K1 hK1
    refine ⟨trivial, trivial, ?_⟩
    refine ar_mem (wth_split hNb1 (pick_perm [0, 0] _)) ?_
    refine u_files b1 b3 b2 ((actR s3 (gI more j)).1) ((52 + j.toNat) + 1) (by have q := hNb1; simp at q ⊢; omega) (hI2.2.2.2.ti.act _).inv (by omega) (hI2.2.2.2.ti.act _).ok.1 (hI2.2.2.2.ti.act _).nn _ _ ?_
    show aopsR _ _ _ _ _ _ (AMem.wth (AMem.wth m [(b3, mObj ((actR s3 (gI more j)).1.kept))]) [(b1, dObj b3 b2 ((actR s3 (gI more j)).1)), (b2, mObj ((actR s3 (gI more j)).1.now))])
    refine ar_mem (wth_split (m := m) (L := [(b1, dObj b3 b2 ((actR s3 (gI more j)).1)), (b2, mObj ((actR s3 (gI more j)).1.now)), (b3, mObj ((actR s3 (gI more j)).1.kept))]) hNb1 (pick_perm [0, 0] _)).symm ?_
    refine ⟨⟨rfl, Nat.le_of_ble_eq_true rfl, rfl, Nat.le_of_ble_eq_true rfl, rfl, by simp only [List.forall_mem_cons]; exact ⟨⟨rfl, rfl⟩, fun _ h => by cases h⟩⟩, ?_⟩
    refine ar_append rfl strAV was ([filesT ((actR s3 (gI more j)).1).now] : List (List UInt8)) rfl rfl rfl rfl rfl rfl (Nat.le_of_ble_eq_true rfl) rfl (by (simp only [show Try.prog.bytesOf 9 = 16 from rfl, List.length_append, List.length_cons, List.length_nil]; omega)) (by (first | omega | (simp only [List.length_append, List.length_cons, List.length_nil]; omega))) (fun _ => ⟨rfl, rfl⟩) ?_
    refine ⟨trivial, ?_⟩
    show K1 [(1, .slice false (more.map actAV)), (2, .int .i64 keep), (7, .ptr ⟨b1, 0, none⟩), (9, .slice true ((was ++ ([filesT ((actR s3 (gI more j)).1).now] : List (List UInt8))).map strAV)), (10, .int .i64 j)] (AMem.wth m [(b1, dObj b3 b2 ((actR s3 (gI more j)).1)), (b2, mObj ((actR s3 (gI more j)).1.now)), (b3, mObj ((actR s3 (gI more j)).1.kept))])
    refine hK1 _ _ ?_; clear hK1 K1
    refine hK10 _ _ ?_; clear hK10
    refine awp_reg2 [] [1, 2, 7, 9, 10] (by decide) ?_
    intro K1 hK1
    refine ⟨trivial, ?_⟩
    refine ar_add rfl (a := j) (b := 1) rfl rfl (by omega) (by omega) ?_
    refine ⟨trivial, ?_⟩
    show K1 [(1, .slice false (more.map actAV)), (2, .int .i64 keep), (7, .ptr ⟨b1, 0, none⟩), (9, .slice true ((was ++ ([filesT ((actR s3 (gI more j)).1).now] : List (List UInt8))).map strAV)), (10, .int .i64 (j + 1))] (AMem.wth m [(b1, dObj b3 b2 ((actR s3 (gI more j)).1)), (b2, mObj ((actR s3 (gI more j)).1.now)), (b3, mObj ((actR s3 (gI more j)).1.kept))])
    refine hK1 _ _ ?_; clear hK1 K1
    refine ⟨(was ++ ([filesT ((actR s3 (gI more j)).1).now] : List (List UInt8)), j + 1, (actR s3 (gI more j)).1), rfl, rfl, ?_, ?_⟩
    ·
     show 0 ≤ ((j + 1 : Int)) ∧ ((j + 1 : Int)) ≤ more.length ∧ (((was ++ ([filesT ((actR s3 (gI more j)).1).now] : List (List UInt8)) : (List (List UInt8)))).length : Int) ≤ ((j + 1 : Int)) + 1 ∧ TL (((actR s3 (gI more j)).1 : DSt)) ((was ++ ([filesT ((actR s3 (gI more j)).1).now] : List (List UInt8)) : (List (List UInt8)))) (52 + ((j + 1 : Int)).toNat)
     refine ⟨by omega, by omega, by (first | omega | (simp only [List.length_append, List.length_cons, List.length_nil]; omega)), ?_⟩
     rw [show 52 + (j + 1).toNat = 52 + j.toNat + 1 from by omega]
     first | exact hI2.2.2.2.mono (Nat.le_succ _) | exact hI2.2.2.2.app2 hns hc1 hc2 (by assumption) | exact hI2.2.2.2.app3 hns hc1 hc3 (by assumption) | exact hI2.2.2.2.skip1 hns hc1 | exact hI2.2.2.2.skip2 hns (by assumption) | exact hI2.2.2.2.skip4 hns hc2 hc3
    ·
     show more.length - ((j + 1 : Int)).toNat < more.length - j.toNat
     omega
   replace h6 : chgB ((gI more j).kind) = false := h6
   refine awp_skip ?_
   refine hK10 _ _ ?_; clear hK10
   refine awp_reg2 [] [1, 2, 7, 9, 10] (by decide) ?_
   intro K1 hK1
   refine ⟨trivial, ?_⟩
   refine ar_add rfl (a := j) (b := 1) rfl rfl (by omega) (by omega) ?_
   refine ⟨trivial, ?_⟩
   show K1 [(1, .slice false (more.map actAV)), (2, .int .i64 keep), (7, .ptr ⟨b1, 0, none⟩), (9, .slice true (was.map strAV)), (10, .int .i64 (j + 1))] (AMem.wth m [(b1, dObj b3 b2 ((actR s3 (gI more j)).1)), (b2, mObj ((actR s3 (gI more j)).1.now)), (b3, mObj ((actR s3 (gI more j)).1.kept))])
   refine hK1 _ _ ?_; clear hK1 K1
   refine ⟨(was, j + 1, (actR s3 (gI more j)).1), rfl, rfl, ?_, ?_⟩
   ·
    show 0 ≤ ((j + 1 : Int)) ∧ ((j + 1 : Int)) ≤ more.length ∧ (was.length : Int) ≤ ((j + 1 : Int)) + 1 ∧ TL (((actR s3 (gI more j)).1 : DSt)) was (52 + ((j + 1 : Int)).toNat)
    refine ⟨by omega, by omega, by (first | omega | (simp only [List.length_append, List.length_cons, List.length_nil]; omega)), ?_⟩
    rw [show 52 + (j + 1).toNat = 52 + j.toNat + 1 from by omega]
    first | exact hI2.2.2.2.mono (Nat.le_succ _) | exact hI2.2.2.2.app2 hns hc1 hc2 (by assumption) | exact hI2.2.2.2.app3 hns hc1 hc3 (by assumption) | exact hI2.2.2.2.skip1 hns hc1 | exact hI2.2.2.2.skip2 hns (by assumption) | exact hI2.2.2.2.skip4 hns hc2 hc3
   ·
    show more.length - ((j + 1 : Int)).toNat < more.length - j.toNat
    omega
  ·
   skip
   refine awp_draw_memP_seq Try.mixed [(5, 68)] [(5, 68, .err 108 ((actR s3 (gI more j)).2))] [(AMem.wth m [(b1, dObj b3 b2 s3), (b2, mObj s3.now), (b3, mObj s3.kept)]), (AMem.wth m [(b1, dObj b3 b2 ((actR s3 (gI more j)).1)), (b2, mObj ((actR s3 (gI more j)).1.now)), (b3, mObj ((actR s3 (gI more j)).1.kept))])] [(.bool (chgB ((gI more j).kind)))] [1, 2, 7, 9, 10, 98] [(98, .bool (chgB ((gI more j).kind))), (97, .bool (chgB ((gI more j).kind))), (96, .str ((gI more j).kind)), (95, .ref [.str ((gI more j).kind), .str ((gI more j).s), .str ((gI more j).t), .int .i64 ((gI more j).a), .int .i64 ((gI more j).b), .int .i64 (((gI more j).v).kind), .int .i64 (((gI more j).v).n), .str (((gI more j).v).s), .slice false ((((gI more j).v).l).map valIn), .slice false ((((gI more j).v).f).map fldIn), .slice false (((gI more j).names).map strAV)]), (94, .ref (AV.cells (actAV (gI more j)))), (93, .int .i64 j), (92, .slice false (more.map actAV)), (91, .bool true), (90, .bool true), (89, .bool true), (88, .bool true), (87, .str ((gI more j).t)), (86, .ref [.str ((gI more j).t), .int .i64 ((gI more j).a), .int .i64 ((gI more j).b), .int .i64 (((gI more j).v).kind), .int .i64 (((gI more j).v).n), .str (((gI more j).v).s), .slice false ((((gI more j).v).l).map valIn), .slice false ((((gI more j).v).f).map fldIn), .slice false (((gI more j).names).map strAV)]), (85, .ref (AV.cells (actAV (gI more j)))), (84, .int .i64 j), (83, .slice false (more.map actAV)), (82, .str ((gI more j).s)), (81, .ref [.str ((gI more j).s), .str ((gI more j).t), .int .i64 ((gI more j).a), .int .i64 ((gI more j).b), .int .i64 (((gI more j).v).kind), .int .i64 (((gI more j).v).n), .str (((gI more j).v).s), .slice false ((((gI more j).v).l).map valIn), .slice false ((((gI more j).v).f).map fldIn), .slice false (((gI more j).names).map strAV)]), (80, .ref (AV.cells (actAV (gI more j)))), (79, .int .i64 j), (78, .slice false (more.map actAV)), (77, .bool false), (76, .bool false), (75, .str ((gI more j).kind)), (74, .ref [.str ((gI more j).kind), .str ((gI more j).s), .str ((gI more j).t), .int .i64 ((gI more j).a), .int .i64 ((gI more j).b), .int .i64 (((gI more j).v).kind), .int .i64 (((gI more j).v).n), .str (((gI more j).v).s), .slice false ((((gI more j).v).l).map valIn), .slice false ((((gI more j).v).f).map fldIn), .slice false (((gI more j).names).map strAV)]), (73, .ref (AV.cells (actAV (gI more j)))), (72, .int .i64 j), (71, .slice false (more.map actAV)), (70, .bool true), (69, .bool true), (67, actAV (gI more j)), (66, .ref (AV.cells (actAV (gI more j)))), (65, .int .i64 j), (64, .slice false (more.map actAV)), (63, .ptr ⟨b1, 0, none⟩), (68, .err 108 ((actR s3 (gI more j)).2)), (1, .slice false (more.map actAV)), (2, .int .i64 keep), (7, .ptr ⟨b1, 0, none⟩), (9, .slice true (was.map strAV)), (10, .int .i64 j), (62, .bool (((gI more j).kind) == ([115, 121, 110, 99] : List UInt8)))] (AMem.wth m [(b1, dObj b3 b2 ((actR s3 (gI more j)).1)), (b2, mObj ((actR s3 (gI more j)).1.now)), (b3, mObj ((actR s3 (gI more j)).1.kept))]) (by decide) (by decide) (by decide) rfl rfl rfl rfl ?_ ?_ ?_
   ·
    refine ⟨?_, trivial⟩
    ·
     exact mem_call (wth_split (m := m) (L := [(b1, dObj b3 b2 s3), (b2, mObj s3.now), (b3, mObj s3.kept)]) hNb1 (pick_perm [0, 0, 0] _)) (wth_split (m := m) (L := [(b1, dObj b3 b2 ((actR s3 (gI more j)).1)), (b2, mObj ((actR s3 (gI more j)).1.now)), (b3, mObj ((actR s3 (gI more j)).1.kept))]) hNb1 (pick_perm [0, 0, 0] _)) (fun Kc hKc => u_act b1 b3 b2 s3 (gI more j) (52 + j.toNat) (by have q := hNb1; simp at q ⊢; omega) hI2.2.2.2.ti.inv (by omega) ⟨(hbm _ (gI_mem hI2.1 (by assumption))).1, (hbm _ (gI_mem hI2.1 (by assumption))).2.1⟩ _ Kc hKc)
   ·
    refine ⟨?_, ?_, trivial⟩
    ·
     show pseq _ _ _ _ _ [(68, .err 108 ((actR s3 (gI more j)).2)), (1, .slice false (more.map actAV)), (2, .int .i64 keep), (7, .ptr ⟨b1, 0, none⟩), (9, .slice true (was.map strAV)), (10, .int .i64 j), (62, .bool (((gI more j).kind) == ([115, 121, 110, 99] : List UInt8)))] _
     refine ⟨trivial, trivial, trivial, ?_⟩
     refine pq_index rfl actAV more j rfl rfl rfl rfl rfl (by decide) (fun _ => rfl) (by first | omega | (have hcb := clampI_b keep s3.wait.length; omega)) (by first | omega | (have hcb := clampI_b keep s3.wait.length; have hln := hI2.2.2.2.len; omega)) ?_
     refine ⟨(apartOk_agg rfl rfl (Nat.le_of_ble_eq_true rfl)), ⟨rfl, rfl⟩, ?_⟩
     refine pq_top 69 (.bool true) (congrArg AV.bool hc1) ?_
     refine ⟨trivial, trivial, trivial, ?_⟩
     refine pq_index rfl actAV more j rfl rfl rfl rfl rfl (by decide) (fun _ => rfl) (by first | omega | (have hcb := clampI_b keep s3.wait.length; omega)) (by first | omega | (have hcb := clampI_b keep s3.wait.length; have hln := hI2.2.2.2.len; omega)) ?_
     refine ⟨⟨rfl, by decide, (Nat.le_of_ble_eq_true rfl)⟩, (apartOk_one rfl rfl (Nat.le_of_ble_eq_true rfl)), trivial, ?_⟩
     refine pq_top 76 (.bool false) (congrArg AV.bool hc2) ?_
     refine ⟨trivial, trivial, trivial, ?_⟩
     refine pq_index rfl actAV more j rfl rfl rfl rfl rfl (by decide) (fun _ => rfl) (by first | omega | (have hcb := clampI_b keep s3.wait.length; omega)) (by first | omega | (have hcb := clampI_b keep s3.wait.length; have hln := hI2.2.2.2.len; omega)) ?_
     refine ⟨⟨rfl, by decide, (Nat.le_of_ble_eq_true rfl)⟩, (apartOk_one rfl rfl (Nat.le_of_ble_eq_true rfl)), trivial, trivial, ?_⟩
     refine pq_index rfl actAV more j rfl rfl rfl rfl rfl (by decide) (fun _ => rfl) (by first | omega | (have hcb := clampI_b keep s3.wait.length; omega)) (by first | omega | (have hcb := clampI_b keep s3.wait.length; have hln := hI2.2.2.2.len; omega)) ?_
     refine ⟨⟨rfl, by decide, (Nat.le_of_ble_eq_true rfl)⟩, (apartOk_one rfl rfl (Nat.le_of_ble_eq_true rfl)), trivial, ?_⟩
     refine pq_top 88 (.bool true) (congrArg AV.bool hc3) ?_
     refine ⟨trivial, ?_⟩
     refine ⟨trivial, ?_⟩
     refine ⟨trivial, trivial, trivial, ?_⟩
     refine pq_index rfl actAV more j rfl rfl rfl rfl rfl (by decide) (fun _ => rfl) (by first | omega | (have hcb := clampI_b keep s3.wait.length; omega)) (by first | omega | (have hcb := clampI_b keep s3.wait.length; have hln := hI2.2.2.2.len; omega)) ?_
     refine ⟨⟨rfl, by decide, (Nat.le_of_ble_eq_true rfl)⟩, (apartOk_one rfl rfl (Nat.le_of_ble_eq_true rfl)), (fun Kc hKc => u_changes ((gI more j).kind) _ Kc hKc), trivial, ?_⟩
     exact rfl
    ·
     show pseq _ _ _ _ _ [(68, .err 108 ((actR s3 (gI more j)).2)), (1, .slice false (more.map actAV)), (2, .int .i64 keep), (7, .ptr ⟨b1, 0, none⟩), (9, .slice true (was.map strAV)), (10, .int .i64 j), (62, .bool (((gI more j).kind) == ([115, 121, 110, 99] : List UInt8)))] _
     refine ⟨trivial, trivial, trivial, ?_⟩
     refine pq_index rfl actAV more j rfl rfl rfl rfl rfl (by decide) (fun _ => rfl) (by first | omega | (have hcb := clampI_b keep s3.wait.length; omega)) (by first | omega | (have hcb := clampI_b keep s3.wait.length; have hln := hI2.2.2.2.len; omega)) ?_
     refine ⟨(apartOk_agg rfl rfl (Nat.le_of_ble_eq_true rfl)), ⟨rfl, rfl⟩, ?_⟩
     refine pq_top 69 (.bool true) (congrArg AV.bool hc1) ?_
     refine ⟨trivial, trivial, trivial, ?_⟩
     refine pq_index rfl actAV more j rfl rfl rfl rfl rfl (by decide) (fun _ => rfl) (by first | omega | (have hcb := clampI_b keep s3.wait.length; omega)) (by first | omega | (have hcb := clampI_b keep s3.wait.length; have hln := hI2.2.2.2.len; omega)) ?_
     refine ⟨⟨rfl, by decide, (Nat.le_of_ble_eq_true rfl)⟩, (apartOk_one rfl rfl (Nat.le_of_ble_eq_true rfl)), trivial, ?_⟩
     refine pq_top 76 (.bool false) (congrArg AV.bool hc2) ?_
     refine ⟨trivial, trivial, trivial, ?_⟩
     refine pq_index rfl actAV more j rfl rfl rfl rfl rfl (by decide) (fun _ => rfl) (by first | omega | (have hcb := clampI_b keep s3.wait.length; omega)) (by first | omega | (have hcb := clampI_b keep s3.wait.length; have hln := hI2.2.2.2.len; omega)) ?_
     refine ⟨⟨rfl, by decide, (Nat.le_of_ble_eq_true rfl)⟩, (apartOk_one rfl rfl (Nat.le_of_ble_eq_true rfl)), trivial, trivial, ?_⟩
     refine pq_index rfl actAV more j rfl rfl rfl rfl rfl (by decide) (fun _ => rfl) (by first | omega | (have hcb := clampI_b keep s3.wait.length; omega)) (by first | omega | (have hcb := clampI_b keep s3.wait.length; have hln := hI2.2.2.2.len; omega)) ?_
     refine ⟨⟨rfl, by decide, (Nat.le_of_ble_eq_true rfl)⟩, (apartOk_one rfl rfl (Nat.le_of_ble_eq_true rfl)), trivial, ?_⟩
     refine pq_top 88 (.bool true) (congrArg AV.bool hc3) ?_
     refine ⟨trivial, ?_⟩
     refine ⟨trivial, ?_⟩
     refine ⟨trivial, trivial, trivial, ?_⟩
     refine pq_index rfl actAV more j rfl rfl rfl rfl rfl (by decide) (fun _ => rfl) (by first | omega | (have hcb := clampI_b keep s3.wait.length; omega)) (by first | omega | (have hcb := clampI_b keep s3.wait.length; have hln := hI2.2.2.2.len; omega)) ?_
     refine ⟨⟨rfl, by decide, (Nat.le_of_ble_eq_true rfl)⟩, (apartOk_one rfl rfl (Nat.le_of_ble_eq_true rfl)), (fun Kc hKc => u_changes ((gI more j).kind) _ Kc hKc), trivial, ?_⟩
     exact rfl
   intro K1 hK1
   show K1 [(1, .slice false (more.map actAV)), (2, .int .i64 keep), (7, .ptr ⟨b1, 0, none⟩), (9, .slice true (was.map strAV)), (10, .int .i64 j), (98, .bool (chgB ((gI more j).kind)))] (AMem.wth m [(b1, dObj b3 b2 ((actR s3 (gI more j)).1)), (b2, mObj ((actR s3 (gI more j)).1.now)), (b3, mObj ((actR s3 (gI more j)).1.kept))])
   refine hK1 _ _ ?_; clear hK1 K1
   refine awp_cond rfl rfl (fun h7 => ?_) (fun h7 => ?_)
   ·
    replace h7 : chgB ((gI more j).kind) = true := h7
    refine awp_reg2 [99] [1, 2, 7, 9, 10] (by decide) ?_
    intro K1 hK1
    refine ⟨trivial, trivial, ?_⟩
    refine ar_mem (wth_split hNb1 (pick_perm [0, 0] _)) ?_
    refine u_files b1 b3 b2 ((actR s3 (gI more j)).1) ((52 + j.toNat) + 1) (by have q := hNb1; simp at q ⊢; omega) (hI2.2.2.2.ti.act _).inv (by omega) (hI2.2.2.2.ti.act _).ok.1 (hI2.2.2.2.ti.act _).nn _ _ ?_
    show aopsR _ _ _ _ _ _ (AMem.wth (AMem.wth m [(b3, mObj ((actR s3 (gI more j)).1.kept))]) [(b1, dObj b3 b2 ((actR s3 (gI more j)).1)), (b2, mObj ((actR s3 (gI more j)).1.now))])
    refine ar_mem (wth_split (m := m) (L := [(b1, dObj b3 b2 ((actR s3 (gI more j)).1)), (b2, mObj ((actR s3 (gI more j)).1.now)), (b3, mObj ((actR s3 (gI more j)).1.kept))]) hNb1 (pick_perm [0, 0] _)).symm ?_
    refine ⟨⟨rfl, Nat.le_of_ble_eq_true rfl, rfl, Nat.le_of_ble_eq_true rfl, rfl, by simp only [List.forall_mem_cons]; exact ⟨⟨rfl, rfl⟩, fun _ h => by cases h⟩⟩, ?_⟩
    refine ar_append rfl strAV was ([filesT ((actR s3 (gI more j)).1).now] : List (List UInt8)) rfl rfl rfl rfl rfl rfl (Nat.le_of_ble_eq_true rfl) rfl (by (simp only [show Try.prog.bytesOf 9 = 16 from rfl, List.length_append, List.length_cons, List.length_nil]; omega)) (by (first | omega | (simp only [List.length_append, List.length_cons, List.length_nil]; omega))) (fun _ => ⟨rfl, rfl⟩) ?_
    refine ⟨trivial, ?_⟩
    show K1 [(1, .slice false (more.map actAV)), (2, .int .i64 keep), (7, .ptr ⟨b1, 0, none⟩), (9, .slice true ((was ++ ([filesT ((actR s3 (gI more j)).1).now] : List (List UInt8))).map strAV)), (10, .int .i64 j)] (AMem.wth m [(b1, dObj b3 b2 ((actR s3 (gI more j)).1)), (b2, mObj ((actR s3 (gI more j)).1.now)), (b3, mObj ((actR s3 (gI more j)).1.kept))])
    refine hK1 _ _ ?_; clear hK1 K1
    refine hK10 _ _ ?_; clear hK10
    refine awp_reg2 [] [1, 2, 7, 9, 10] (by decide) ?_
    intro K1 hK1
    refine ⟨trivial, ?_⟩
    refine ar_add rfl (a := j) (b := 1) rfl rfl (by omega) (by omega) ?_
    refine ⟨trivial, ?_⟩
    show K1 [(1, .slice false (more.map actAV)), (2, .int .i64 keep), (7, .ptr ⟨b1, 0, none⟩), (9, .slice true ((was ++ ([filesT ((actR s3 (gI more j)).1).now] : List (List UInt8))).map strAV)), (10, .int .i64 (j + 1))] (AMem.wth m [(b1, dObj b3 b2 ((actR s3 (gI more j)).1)), (b2, mObj ((actR s3 (gI more j)).1.now)), (b3, mObj ((actR s3 (gI more j)).1.kept))])
    refine hK1 _ _ ?_; clear hK1 K1
    refine ⟨(was ++ ([filesT ((actR s3 (gI more j)).1).now] : List (List UInt8)), j + 1, (actR s3 (gI more j)).1), rfl, rfl, ?_, ?_⟩
    ·
     show 0 ≤ ((j + 1 : Int)) ∧ ((j + 1 : Int)) ≤ more.length ∧ (((was ++ ([filesT ((actR s3 (gI more j)).1).now] : List (List UInt8)) : (List (List UInt8)))).length : Int) ≤ ((j + 1 : Int)) + 1 ∧ TL (((actR s3 (gI more j)).1 : DSt)) ((was ++ ([filesT ((actR s3 (gI more j)).1).now] : List (List UInt8)) : (List (List UInt8)))) (52 + ((j + 1 : Int)).toNat)
     refine ⟨by omega, by omega, by (first | omega | (simp only [List.length_append, List.length_cons, List.length_nil]; omega)), ?_⟩
     rw [show 52 + (j + 1).toNat = 52 + j.toNat + 1 from by omega]
     first | exact hI2.2.2.2.mono (Nat.le_succ _) | exact hI2.2.2.2.app2 hns hc1 hc2 (by assumption) | exact hI2.2.2.2.app3 hns hc1 hc3 (by assumption) | exact hI2.2.2.2.skip1 hns hc1 | exact hI2.2.2.2.skip2 hns (by assumption) | exact hI2.2.2.2.skip4 hns hc2 hc3
    ·
     show more.length - ((j + 1 : Int)).toNat < more.length - j.toNat
     omega
   replace h7 : chgB ((gI more j).kind) = false := h7
   refine awp_skip ?_
   refine hK10 _ _ ?_; clear hK10
   refine awp_reg2 [] [1, 2, 7, 9, 10] (by decide) ?_
   intro K1 hK1
   refine ⟨trivial, ?_⟩
   refine ar_add rfl (a := j) (b := 1) rfl rfl (by omega) (by omega) ?_
   refine ⟨trivial, ?_⟩
   show K1 [(1, .slice false (more.map actAV)), (2, .int .i64 keep), (7, .ptr ⟨b1, 0, none⟩), (9, .slice true (was.map strAV)), (10, .int .i64 (j + 1))] (AMem.wth m [(b1, dObj b3 b2 ((actR s3 (gI more j)).1)), (b2, mObj ((actR s3 (gI more j)).1.now)), (b3, mObj ((actR s3 (gI more j)).1.kept))])
   refine hK1 _ _ ?_; clear hK1 K1
   refine ⟨(was, j + 1, (actR s3 (gI more j)).1), rfl, rfl, ?_, ?_⟩
   ·
    show 0 ≤ ((j + 1 : Int)) ∧ ((j + 1 : Int)) ≤ more.length ∧ (was.length : Int) ≤ ((j + 1 : Int)) + 1 ∧ TL (((actR s3 (gI more j)).1 : DSt)) was (52 + ((j + 1 : Int)).toNat)
    refine ⟨by omega, by omega, by (first | omega | (simp only [List.length_append, List.length_cons, List.length_nil]; omega)), ?_⟩
    rw [show 52 + (j + 1).toNat = 52 + j.toNat + 1 from by omega]
    first | exact hI2.2.2.2.mono (Nat.le_succ _) | exact hI2.2.2.2.app2 hns hc1 hc2 (by assumption) | exact hI2.2.2.2.app3 hns hc1 hc3 (by assumption) | exact hI2.2.2.2.skip1 hns hc1 | exact hI2.2.2.2.skip2 hns (by assumption) | exact hI2.2.2.2.skip4 hns hc2 hc3
   ·
    show more.length - ((j + 1 : Int)).toNat < more.length - j.toNat
    omega
  ·
   skip
   refine awp_draw_memP_seq Try.mixed [(5, 68)] [(5, 68, .err 108 ((actR s3 (gI more j)).2))] [(AMem.wth m [(b1, dObj b3 b2 s3), (b2, mObj s3.now), (b3, mObj s3.kept)]), (AMem.wth m [(b1, dObj b3 b2 ((actR s3 (gI more j)).1)), (b2, mObj ((actR s3 (gI more j)).1.now)), (b3, mObj ((actR s3 (gI more j)).1.kept))])] [] [1, 2, 7, 9, 10, 98] [(98, .bool false), (97, .lazy false (.junk)), (96, .lazy false (.junk)), (95, .lazy false (.junk)), (94, .lazy false (.junk)), (93, .lazy false (.junk)), (92, .lazy false (.junk)), (91, .bool false), (90, .bool false), (89, .bool false), (88, .bool false), (87, .str ((gI more j).t)), (86, .ref [.str ((gI more j).t), .int .i64 ((gI more j).a), .int .i64 ((gI more j).b), .int .i64 (((gI more j).v).kind), .int .i64 (((gI more j).v).n), .str (((gI more j).v).s), .slice false ((((gI more j).v).l).map valIn), .slice false ((((gI more j).v).f).map fldIn), .slice false (((gI more j).names).map strAV)]), (85, .ref (AV.cells (actAV (gI more j)))), (84, .int .i64 j), (83, .slice false (more.map actAV)), (82, .str ((gI more j).s)), (81, .ref [.str ((gI more j).s), .str ((gI more j).t), .int .i64 ((gI more j).a), .int .i64 ((gI more j).b), .int .i64 (((gI more j).v).kind), .int .i64 (((gI more j).v).n), .str (((gI more j).v).s), .slice false ((((gI more j).v).l).map valIn), .slice false ((((gI more j).v).f).map fldIn), .slice false (((gI more j).names).map strAV)]), (80, .ref (AV.cells (actAV (gI more j)))), (79, .int .i64 j), (78, .slice false (more.map actAV)), (77, .bool false), (76, .bool false), (75, .str ((gI more j).kind)), (74, .ref [.str ((gI more j).kind), .str ((gI more j).s), .str ((gI more j).t), .int .i64 ((gI more j).a), .int .i64 ((gI more j).b), .int .i64 (((gI more j).v).kind), .int .i64 (((gI more j).v).n), .str (((gI more j).v).s), .slice false ((((gI more j).v).l).map valIn), .slice false ((((gI more j).v).f).map fldIn), .slice false (((gI more j).names).map strAV)]), (73, .ref (AV.cells (actAV (gI more j)))), (72, .int .i64 j), (71, .slice false (more.map actAV)), (70, .bool true), (69, .bool true), (67, actAV (gI more j)), (66, .ref (AV.cells (actAV (gI more j)))), (65, .int .i64 j), (64, .slice false (more.map actAV)), (63, .ptr ⟨b1, 0, none⟩), (68, .err 108 ((actR s3 (gI more j)).2)), (1, .slice false (more.map actAV)), (2, .int .i64 keep), (7, .ptr ⟨b1, 0, none⟩), (9, .slice true (was.map strAV)), (10, .int .i64 j), (62, .bool (((gI more j).kind) == ([115, 121, 110, 99] : List UInt8)))] (AMem.wth m [(b1, dObj b3 b2 ((actR s3 (gI more j)).1)), (b2, mObj ((actR s3 (gI more j)).1.now)), (b3, mObj ((actR s3 (gI more j)).1.kept))]) (by decide) (by decide) (by decide) rfl rfl rfl rfl ?_ ?_ ?_
   ·
    refine ⟨?_, trivial⟩
    ·
     exact mem_call (wth_split (m := m) (L := [(b1, dObj b3 b2 s3), (b2, mObj s3.now), (b3, mObj s3.kept)]) hNb1 (pick_perm [0, 0, 0] _)) (wth_split (m := m) (L := [(b1, dObj b3 b2 ((actR s3 (gI more j)).1)), (b2, mObj ((actR s3 (gI more j)).1.now)), (b3, mObj ((actR s3 (gI more j)).1.kept))]) hNb1 (pick_perm [0, 0, 0] _)) (fun Kc hKc => u_act b1 b3 b2 s3 (gI more j) (52 + j.toNat) (by have q := hNb1; simp at q ⊢; omega) hI2.2.2.2.ti.inv (by omega) ⟨(hbm _ (gI_mem hI2.1 (by assumption))).1, (hbm _ (gI_mem hI2.1 (by assumption))).2.1⟩ _ Kc hKc)
   ·
    refine ⟨?_, ?_, trivial⟩
    ·
     show pseq _ _ _ _ _ [(68, .err 108 ((actR s3 (gI more j)).2)), (1, .slice false (more.map actAV)), (2, .int .i64 keep), (7, .ptr ⟨b1, 0, none⟩), (9, .slice true (was.map strAV)), (10, .int .i64 j), (62, .bool (((gI more j).kind) == ([115, 121, 110, 99] : List UInt8)))] _
     refine ⟨trivial, trivial, trivial, ?_⟩
     refine pq_index rfl actAV more j rfl rfl rfl rfl rfl (by decide) (fun _ => rfl) (by first | omega | (have hcb := clampI_b keep s3.wait.length; omega)) (by first | omega | (have hcb := clampI_b keep s3.wait.length; have hln := hI2.2.2.2.len; omega)) ?_
     refine ⟨(apartOk_agg rfl rfl (Nat.le_of_ble_eq_true rfl)), ⟨rfl, rfl⟩, ?_⟩
     refine pq_top 69 (.bool true) (congrArg AV.bool hc1) ?_
     refine ⟨trivial, trivial, trivial, ?_⟩
     refine pq_index rfl actAV more j rfl rfl rfl rfl rfl (by decide) (fun _ => rfl) (by first | omega | (have hcb := clampI_b keep s3.wait.length; omega)) (by first | omega | (have hcb := clampI_b keep s3.wait.length; have hln := hI2.2.2.2.len; omega)) ?_
     refine ⟨⟨rfl, by decide, (Nat.le_of_ble_eq_true rfl)⟩, (apartOk_one rfl rfl (Nat.le_of_ble_eq_true rfl)), trivial, ?_⟩
     refine pq_top 76 (.bool false) (congrArg AV.bool hc2) ?_
     refine ⟨trivial, trivial, trivial, ?_⟩
     refine pq_index rfl actAV more j rfl rfl rfl rfl rfl (by decide) (fun _ => rfl) (by first | omega | (have hcb := clampI_b keep s3.wait.length; omega)) (by first | omega | (have hcb := clampI_b keep s3.wait.length; have hln := hI2.2.2.2.len; omega)) ?_
     refine ⟨⟨rfl, by decide, (Nat.le_of_ble_eq_true rfl)⟩, (apartOk_one rfl rfl (Nat.le_of_ble_eq_true rfl)), trivial, trivial, ?_⟩
     refine pq_index rfl actAV more j rfl rfl rfl rfl rfl (by decide) (fun _ => rfl) (by first | omega | (have hcb := clampI_b keep s3.wait.length; omega)) (by first | omega | (have hcb := clampI_b keep s3.wait.length; have hln := hI2.2.2.2.len; omega)) ?_
     refine ⟨⟨rfl, by decide, (Nat.le_of_ble_eq_true rfl)⟩, (apartOk_one rfl rfl (Nat.le_of_ble_eq_true rfl)), trivial, ?_⟩
     refine pq_top 88 (.bool false) (congrArg AV.bool hc3) ?_
     refine ⟨trivial, ?_⟩
     refine ⟨trivial, ?_⟩
     refine ⟨trivial, ?_⟩
     refine pq_off rfl rfl ?_
     refine pq_off rfl rfl ?_
     refine pq_off rfl rfl ?_
     refine pq_off rfl rfl ?_
     refine pq_off rfl rfl ?_
     refine pq_offc rfl ?_
     refine ⟨trivial, ?_⟩
     exact rfl
    ·
     show pseq _ _ _ _ _ [(68, .err 108 ((actR s3 (gI more j)).2)), (1, .slice false (more.map actAV)), (2, .int .i64 keep), (7, .ptr ⟨b1, 0, none⟩), (9, .slice true (was.map strAV)), (10, .int .i64 j), (62, .bool (((gI more j).kind) == ([115, 121, 110, 99] : List UInt8)))] _
     refine ⟨trivial, trivial, trivial, ?_⟩
     refine pq_index rfl actAV more j rfl rfl rfl rfl rfl (by decide) (fun _ => rfl) (by first | omega | (have hcb := clampI_b keep s3.wait.length; omega)) (by first | omega | (have hcb := clampI_b keep s3.wait.length; have hln := hI2.2.2.2.len; omega)) ?_
     refine ⟨(apartOk_agg rfl rfl (Nat.le_of_ble_eq_true rfl)), ⟨rfl, rfl⟩, ?_⟩
     refine pq_top 69 (.bool true) (congrArg AV.bool hc1) ?_
     refine ⟨trivial, trivial, trivial, ?_⟩
     refine pq_index rfl actAV more j rfl rfl rfl rfl rfl (by decide) (fun _ => rfl) (by first | omega | (have hcb := clampI_b keep s3.wait.length; omega)) (by first | omega | (have hcb := clampI_b keep s3.wait.length; have hln := hI2.2.2.2.len; omega)) ?_
     refine ⟨⟨rfl, by decide, (Nat.le_of_ble_eq_true rfl)⟩, (apartOk_one rfl rfl (Nat.le_of_ble_eq_true rfl)), trivial, ?_⟩
     refine pq_top 76 (.bool false) (congrArg AV.bool hc2) ?_
     refine ⟨trivial, trivial, trivial, ?_⟩
     refine pq_index rfl actAV more j rfl rfl rfl rfl rfl (by decide) (fun _ => rfl) (by first | omega | (have hcb := clampI_b keep s3.wait.length; omega)) (by first | omega | (have hcb := clampI_b keep s3.wait.length; have hln := hI2.2.2.2.len; omega)) ?_
     refine ⟨⟨rfl, by decide, (Nat.le_of_ble_eq_true rfl)⟩, (apartOk_one rfl rfl (Nat.le_of_ble_eq_true rfl)), trivial, trivial, ?_⟩
     refine pq_index rfl actAV more j rfl rfl rfl rfl rfl (by decide) (fun _ => rfl) (by first | omega | (have hcb := clampI_b keep s3.wait.length; omega)) (by first | omega | (have hcb := clampI_b keep s3.wait.length; have hln := hI2.2.2.2.len; omega)) ?_
     refine ⟨⟨rfl, by decide, (Nat.le_of_ble_eq_true rfl)⟩, (apartOk_one rfl rfl (Nat.le_of_ble_eq_true rfl)), trivial, ?_⟩
     refine pq_top 88 (.bool false) (congrArg AV.bool hc3) ?_
     refine ⟨trivial, ?_⟩
     refine ⟨trivial, ?_⟩
     refine ⟨trivial, ?_⟩
     refine pq_off rfl rfl ?_
     refine pq_off rfl rfl ?_
     refine pq_off rfl rfl ?_
     refine pq_off rfl rfl ?_
     refine pq_off rfl rfl ?_
     refine pq_offc rfl ?_
     refine ⟨trivial, ?_⟩
     exact rfl
   intro K1 hK1
   show K1 [(1, .slice false (more.map actAV)), (2, .int .i64 keep), (7, .ptr ⟨b1, 0, none⟩), (9, .slice true (was.map strAV)), (10, .int .i64 j), (98, .bool false)] (AMem.wth m [(b1, dObj b3 b2 ((actR s3 (gI more j)).1)), (b2, mObj ((actR s3 (gI more j)).1.now)), (b3, mObj ((actR s3 (gI more j)).1.kept))])
   refine hK1 _ _ ?_; clear hK1 K1
   refine awp_cond rfl rfl (fun hcz => ?_) (fun hcz => ?_)
   ·
    cases hcz
   clear hcz
   refine awp_skip ?_
   refine hK10 _ _ ?_; clear hK10
   refine awp_reg2 [] [1, 2, 7, 9, 10] (by decide) ?_
   intro K1 hK1
   refine ⟨trivial, ?_⟩
   refine ar_add rfl (a := j) (b := 1) rfl rfl (by omega) (by omega) ?_
   refine ⟨trivial, ?_⟩
   show K1 [(1, .slice false (more.map actAV)), (2, .int .i64 keep), (7, .ptr ⟨b1, 0, none⟩), (9, .slice true (was.map strAV)), (10, .int .i64 (j + 1))] (AMem.wth m [(b1, dObj b3 b2 ((actR s3 (gI more j)).1)), (b2, mObj ((actR s3 (gI more j)).1.now)), (b3, mObj ((actR s3 (gI more j)).1.kept))])
   refine hK1 _ _ ?_; clear hK1 K1
   refine ⟨(was, j + 1, (actR s3 (gI more j)).1), rfl, rfl, ?_, ?_⟩
   ·
    show 0 ≤ ((j + 1 : Int)) ∧ ((j + 1 : Int)) ≤ more.length ∧ (was.length : Int) ≤ ((j + 1 : Int)) + 1 ∧ TL (((actR s3 (gI more j)).1 : DSt)) was (52 + ((j + 1 : Int)).toNat)
    refine ⟨by omega, by omega, by (first | omega | (simp only [List.length_append, List.length_cons, List.length_nil]; omega)), ?_⟩
    rw [show 52 + (j + 1).toNat = 52 + j.toNat + 1 from by omega]
    first | exact hI2.2.2.2.mono (Nat.le_succ _) | exact hI2.2.2.2.app2 hns hc1 hc2 (by assumption) | exact hI2.2.2.2.app3 hns hc1 hc3 (by assumption) | exact hI2.2.2.2.skip1 hns hc1 | exact hI2.2.2.2.skip2 hns (by assumption) | exact hI2.2.2.2.skip4 hns hc2 hc3
   ·
    show more.length - ((j + 1 : Int)).toNat < more.length - j.toNat
    omega
 replace h4 : (more.length : Int) ≤ j := (Int.not_lt.1 (of_decide_eq_false h4))
 refine awp_exit ?_
 refine hK8 _ _ ?_; clear hK8
 refine awp_reg2_seq [] [2, 7, 9] (by decide) ?_
 intro K1 hK1
 refine ⟨trivial, trivial, ?_⟩
 refine ar_mem (wth_split hNb1 (pick_perm [0, 1] _)) ?_
 refine u_RestartD b1 b3 b2 s3 keep 0 (52 + j.toNat) (by have q := hNb1; simp at q ⊢; omega) hI2.2.2.2.ti.inv (by omega) hI2.2.2.2.nd _ _ ?_
 intro b4 hqb4 hb4 nw1 hp1
 have hwb4 := wth_new1 (m := m) (L := [(b1, dObj b3 b2 s3), (b2, mObj s3.now), (b3, mObj s3.kept)]) (x := b4) hNb1 (pick_perm [0, 1] _) hqb4 hb4
 have hNb4 : ([b4, b1, b2, b3] : List Nat).Nodup := hwb4.1
 have hFb4 : m b4 = none := hwb4.2
 show aopsR _ _ _ _ _ _ (AMem.wth (AMem.wth m [(b2, mObj s3.now)]) [(b4, mObj ((restS s3 keep 0 nw1).now)), (b1, dObj b3 b4 (restS s3 keep 0 nw1)), (b3, mObj ((restS s3 keep 0 nw1).kept))])
 refine ar_mem (wth_split (m := m) (L := [(b4, mObj ((restS s3 keep 0 nw1).now)), (b1, dObj b3 b4 (restS s3 keep 0 nw1)), (b2, mObj s3.now), (b3, mObj ((restS s3 keep 0 nw1).kept))]) hNb4 (pick_perm [0, 0, 1] _)).symm ?_
 show K1 [(2, .int .i64 keep), (7, .ptr ⟨b1, 0, none⟩), (9, .slice true (was.map strAV))] (AMem.wth m [(b4, mObj ((restS s3 keep 0 nw1).now)), (b1, dObj b3 b4 (restS s3 keep 0 nw1)), (b2, mObj s3.now), (b3, mObj ((restS s3 keep 0 nw1).kept))])
 refine hK1 _ _ ?_; clear hK1 K1
 have hfin := hI2.2.2.2.fin keep hp1
 refine awp_reg2_seq [] [7, 9, 11] (by decide) ?_
 intro K1 hK1
 refine ⟨trivial, trivial, trivial, ?_⟩
 refine ar_len rfl strAV was rfl rfl rfl ?_
 refine ar_sub rfl (a := (was.length : Int)) (b := 1) rfl rfl (by omega) (by omega) ?_
 refine ⟨trivial, trivial, ?_⟩
 show K1 [(7, .ptr ⟨b1, 0, none⟩), (9, .slice true (was.map strAV)), (11, .int .i64 (if (was.length : Int) - 1 < if 0 > keep then 0 else keep then (was.length : Int) - 1 else if 0 > keep then 0 else keep))] (AMem.wth m [(b4, mObj ((restS s3 keep 0 nw1).now)), (b1, dObj b3 b4 (restS s3 keep 0 nw1)), (b2, mObj s3.now), (b3, mObj ((restS s3 keep 0 nw1).kept))])
 refine hK1 _ _ ?_; clear hK1 K1
 have hkk : (if (was.length : Int) - 1 < if 0 > keep then 0 else keep then (was.length : Int) - 1 else if 0 > keep then 0 else keep : Int) = clampI keep s3.wait.length := by
  have := hI2.2.2.2.len
  unfold clampI
  (repeat' split) <;> omega
 rw [hkk]
 show AWP _ _ _ _ [(7, .ptr ⟨b1, 0, none⟩), (9, .slice true (was.map strAV)), (11, .int .i64 (clampI keep s3.wait.length))] (AMem.wth m [(b4, mObj ((restS s3 keep 0 nw1).now)), (b1, dObj b3 b4 (restS s3 keep 0 nw1)), (b2, mObj s3.now), (b3, mObj ((restS s3 keep 0 nw1).kept))])
 refine awp_draw_seq Try.mixed [(.str (filesT (restS s3 keep 0 nw1).now))] [6] (by decide) (by decide) ?_
 intro K1 hK1
 refine ⟨trivial, (pure_mem (wth_split (m := m) (L := [(b4, mObj ((restS s3 keep 0 nw1).now)), (b1, dObj b3 b4 (restS s3 keep 0 nw1)), (b2, mObj s3.now), (b3, mObj ((restS s3 keep 0 nw1).kept))]) hNb4 (pick_perm [1, 0] _)) (fun Kc hKc => u_files b1 b3 b4 (restS s3 keep 0 nw1) ((52 + j.toNat) + 1) (by have q := hNb4; simp at q ⊢; omega) hfin.2.2 (by omega) rfl hfin.2.1 _ Kc hKc)), trivial, trivial, ?_⟩
 refine pq_index rfl strAV was (clampI keep s3.wait.length) rfl rfl rfl rfl rfl (by decide) (fun _ => rfl) (by first | omega | (have hcb := clampI_b keep s3.wait.length; omega)) (by first | omega | (have hcb := clampI_b keep s3.wait.length; have hln := hI2.2.2.2.len; omega)) ?_
 refine ⟨(apartOk_one rfl rfl (Nat.le_of_ble_eq_true rfl)), trivial, trivial, ?_⟩
 show K1 [(6, .bool ((filesT (restS s3 keep 0 nw1).now) == (gI was (clampI keep s3.wait.length))))] (AMem.wth m [(b4, mObj ((restS s3 keep 0 nw1).now)), (b1, dObj b3 b4 (restS s3 keep 0 nw1)), (b2, mObj s3.now), (b3, mObj ((restS s3 keep 0 nw1).kept))])
 refine hK1 _ _ ?_; clear hK1 K1
 refine awp_ret ?_
 refine ⟨trivial, m, (wth_sub2 (m := m) [(b4, mObj ((restS s3 keep 0 nw1).now)), (b1, dObj b3 b4 (restS s3 keep 0 nw1)), (b2, mObj s3.now), (b3, mObj ((restS s3 keep 0 nw1).kept))] [] hNb4 (by simp only [List.map_cons, List.map_nil, List.forall_mem_cons]; exact ⟨hFb4, hFb1, hFb2, hFb3, fun _ h => by cases h⟩)), ?_⟩
 show K (.bool ((filesT (restS s3 keep 0 nw1).now) == (gI was (clampI keep s3.wait.length)))) m

 first | exact hK | (refine K_eq hK (congrArg AV.bool ?_); show true = (filesT nw1 == gI was (clampI keep s3.wait.length)); rw [hfin.1, beq_self_eq_true])

end Go.Proofs
end
section
namespace Go.Proofs
open Go Go.Aw Go.RowKit Go.WideShapes Go.ChangeShapes
set_option maxRecDepth 100000

theorem valIn_len (v : Val) : (valIn v).cells.length = 5 := by cases v; rfl
theorem fldIn_len (v : Str × Val) : (fldIn v).cells.length = 6 := by
  obtain ⟨s, v⟩ := v
  cases v; rfl

theorem rd_fld {n : Nat} (ih : ∀ k, k < n → Rd Try.prog k 46 valIn) : Rd Try.prog n 147 fldIn := by
  intro H enc W sp cs d ps h hw
  obtain ⟨hl, hf⟩ := rd_fields Try.underlying147 h hw
  obtain ⟨s, _, hs⟩ := hf 0 _ strAV rfl (fun _ _ => rd_string (by rfl)) (by decide)
  obtain ⟨v, _, hv⟩ := hf 1 _ valIn rfl (fun k hk => ih k hk) (by decide)
  refine ⟨(s, v), by rw [fldIn_len, hl]; rfl, fun i hi => ?_⟩
  rw [hl] at hi
  replace hi : i < 6 := hi
  cases v with
  | mk k n t l f =>
    match i, hi with
    | 0, _ => exact hs 0 (by decide)
    | 1, _ => exact hv 0 (by decide)
    | 2, _ => exact hv 1 (by decide)
    | 3, _ => exact hv 2 (by decide)
    | 4, _ => exact hv 3 (by decide)
    | 5, _ => exact hv 4 (by decide)

theorem rd_val (n : Nat) : Rd Try.prog n 46 valIn := by
  induction n using Nat.strongRecOn with
  | ind n ih =>
    intro H enc W sp cs d ps h hw
    obtain ⟨hl, hf⟩ := rd_fields Try.underlying46 h hw
    obtain ⟨k, _, hk⟩ := hf 0 _ intAV rfl (fun _ _ => rd_int (by rfl)) (by decide)
    obtain ⟨m, _, hm⟩ := hf 1 _ intAV rfl (fun _ _ => rd_int (by rfl)) (by decide)
    obtain ⟨s, _, hs⟩ := hf 2 _ strAV rfl (fun _ _ => rd_string (by rfl)) (by decide)
    obtain ⟨l, _, hll⟩ := hf 3 _ (lstAV valIn) rfl (fun j hj => rd_slice (by rfl) (by rfl) (by decide) (by decide) valIn_len (fun i hi => ih i (by omega))) (by decide)
    obtain ⟨f, _, hff⟩ := hf 4 _ (lstAV fldIn) rfl (fun j hj => rd_slice (by rfl) (by rfl) (by decide) (by decide) fldIn_len (fun i hi => rd_fld (fun q hq => ih q (by omega)))) (by decide)
    refine ⟨.mk k m s l f, by rw [valIn_len, hl]; rfl, fun i hi => ?_⟩
    rw [hl] at hi
    replace hi : i < 5 := hi
    rw [valIn_eq]
    match i, hi with
    | 0, _ => exact hk 0 (by decide)
    | 1, _ => exact hm 0 (by decide)
    | 2, _ => exact hs 0 (by decide)
    | 3, _ => exact hll 0 (by decide)
    | 4, _ => exact hff 0 (by decide)

theorem rd_act (n : Nat) : Rd Try.prog n 48 actAV := by
  intro H enc W sp cs d ps h hw
  obtain ⟨hl, hf⟩ := rd_fields Try.underlying48 h hw
  obtain ⟨k, _, hk⟩ := hf 0 _ strAV rfl (fun _ _ => rd_string (by rfl)) (by decide)
  obtain ⟨s, _, hs⟩ := hf 1 _ strAV rfl (fun _ _ => rd_string (by rfl)) (by decide)
  obtain ⟨t, _, ht⟩ := hf 2 _ strAV rfl (fun _ _ => rd_string (by rfl)) (by decide)
  obtain ⟨a, _, ha⟩ := hf 3 _ intAV rfl (fun _ _ => rd_int (by rfl)) (by decide)
  obtain ⟨b, _, hb⟩ := hf 4 _ intAV rfl (fun _ _ => rd_int (by rfl)) (by decide)
  obtain ⟨v, _, hv⟩ := hf 5 _ valIn rfl (fun _ _ => rd_val _) (by decide)
  obtain ⟨ns, _, hns⟩ := hf 6 _ (lstAV strAV) rfl (fun _ _ => rd_slice (by rfl) (by rfl) (by decide) (by decide) (fun _ => rfl) (fun _ _ => rd_string (by rfl))) (by decide)
  rw [valIn_eq] at hv
  refine ⟨⟨k, s, t, a, b, v, ns⟩, hl.symm, fun i hi => ?_⟩
  rw [hl] at hi
  replace hi : i < 11 := hi
  match i, hi with
  | 0, _ => exact hk 0 (by decide)
  | 1, _ => exact hs 0 (by decide)
  | 2, _ => exact ht 0 (by decide)
  | 3, _ => exact ha 0 (by decide)
  | 4, _ => exact hb 0 (by decide)
  | 5, _ => exact hv 0 (by decide)
  | 6, _ => exact hv 1 (by decide)
  | 7, _ => exact hv 2 (by decide)
  | 8, _ => exact hv 3 (by decide)
  | 9, _ => exact hv 4 (by decide)
  | 10, _ => exact hns 0 (by decide)

end Go.Proofs
end
