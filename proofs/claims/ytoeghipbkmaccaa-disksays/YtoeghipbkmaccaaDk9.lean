import Derived.Test.YtoeghipbkmaccaaProg
import Derived.Test.YtoeghipbkmaccaaWl1
import Derived.Test.YtoeghipbkmaccaaDk8
namespace Go.Proofs
open Go Go.Aw
set_option maxRecDepth 100000

def actObj (x : ActT) : AObj := .cells [.str x.kind, .str x.s, .str x.t, .int .i64 x.a, .int .i64 x.b, .int .i64 x.v.kind, .int .i64 x.v.n, .str x.v.s, .slice false (x.v.l.map valIn), .slice false (x.v.f.map fldIn), .slice false (x.names.map strAV)]

set_option maxHeartbeats 16000000 in
theorem u_DiskSays (l : List ActT)  (m : AMem)  (K : AV → AMem → Prop) (hK : K (.bool true) m) : ACalls Try.prog 4 [.slice false (l.map actAV)] m K := by
 refine acalls_enter Try.func4 rfl (by decide) (Nat.le_of_ble_eq_true rfl) ?_
 show AWP _ _ _ _ [(0, .slice false (l.map actAV))] m
 refine awp_reg2_seq [] [0] (by decide) ?_
 intro K1 hK1
 refine ⟨trivial, ?_⟩
 show K1 [(0, .slice false (l.map actAV))] m
 refine hK1 _ _ ?_; clear hK1 K1
 refine awp_reg2_seq [] [0, 3] (by decide) ?_
 intro K1 hK1
 refine u_spins _ _ ?_
 refine ⟨trivial, ?_⟩
 show K1 [(0, .slice false (l.map actAV)), (3, .bool true)] m
 refine hK1 _ _ ?_; clear hK1 K1
 refine awp_seq_k ?_; intro K2 hK2
 refine awp_reg2_seq [] [0, 3, 20] (by decide) ?_
 intro K1 hK1
 suffices key : K1 [(0, .slice false (l.map actAV)), (3, .bool true), (20, .bool (!(lightA l 100 20000)))] m by
  refine ⟨trivial, trivial, trivial, trivial, ?_⟩
  refine u_LightActs l 100 20000 _ _ ?_
  refine ⟨trivial, ?_⟩
  exact key
 refine hK1 _ _ ?_; clear hK1 K1
 refine awp_cond rfl rfl (fun h1 => ?_) (fun h1 => ?_)
 ·
  replace h1 : lightA l 100 20000 = false := (bnT h1)
  refine awp_reg2_seq [] [2] (by decide) ?_
  intro K1 hK1
  refine ⟨trivial, trivial, ?_⟩
  show K1 [(2, .bool true)] m
  refine hK1 _ _ ?_; clear hK1 K1
  refine awp_ret ?_
  refine ⟨trivial, m, fun _ _ h => h, ?_⟩
  show K (.bool true) m
 
  first | exact hK | exact absurd (‹(Int.tmod i 9 ≠ 0) ∧ False›).2 id
 replace h1 : lightA l 100 20000 = true := (bnF h1)
 have hlen := lightA_len h1
 refine awp_bdL 0 (o := false) (l := l.map actAV) rfl (fun hbl => ?_)
 have hbs := acts_bd hbl
 refine awp_skip ?_
 refine hK2 _ _ ?_; clear hK2
 refine awp_reg2_seq [] [0, 4] (by decide) ?_
 intro K1 hK1
 refine u_New0 _ _ ?_
 intro b1 b2 b3 hqb1 hb1 hb2 hb3
 have hFb1 : m b1 = none := wth_none (m := m) (L := []) hb1
 have hFb2 : m b2 = none := wth_none (m := m) (L := []) hb2
 have hFb3 : m b3 = none := wth_none (m := m) (L := []) hb3
 have hNb1 : ([b1, b2, b3] : List Nat).Nodup := wth_news (m := m) (L := []) hqb1 (by simp only [List.forall_mem_cons]; exact ⟨hb1, hb2, hb3, fun _ h => by cases h⟩) List.nodup_nil
 show aopsR _ _ _ _ _ _ (AMem.wth m [(b1, dObj b3 b2 s0), (b2, mObj s0.now), (b3, mObj s0.kept)])
 refine ⟨trivial, ?_⟩
 show K1 [(0, .slice false (l.map actAV)), (4, .ptr ⟨b1, 0, none⟩)] (AMem.wth m [(b1, dObj b3 b2 s0), (b2, mObj s0.now), (b3, mObj s0.kept)])
 refine hK1 _ _ ?_; clear hK1 K1
 refine awp_reg2_seq [] [0, 4, 5] (by decide) ?_
 intro K1 hK1
 refine u_QNewT _ _ ?_
 intro b4 hb4
 have hFb4 : m b4 = none := wth_none (m := m) (L := [(b1, dObj b3 b2 s0), (b2, mObj s0.now), (b3, mObj s0.kept)]) hb4
 have hNb4 : ([b4, b1, b2, b3] : List Nat).Nodup := wth_nodup (m := m) (L := [(b1, dObj b3 b2 s0), (b2, mObj s0.now), (b3, mObj s0.kept)]) hb4 hNb1
 show aopsR _ _ _ _ _ _ (AMem.wth m [(b4, rObj (rT r0 s0)), (b1, dObj b3 b2 s0), (b2, mObj s0.now), (b3, mObj s0.kept)])
 refine ⟨trivial, ?_⟩
 show K1 [(0, .slice false (l.map actAV)), (4, .ptr ⟨b1, 0, none⟩), (5, .ptr ⟨b4, 0, none⟩)] (AMem.wth m [(b4, rObj (rT r0 s0)), (b1, dObj b3 b2 s0), (b2, mObj s0.now), (b3, mObj s0.kept)])
 refine hK1 _ _ ?_; clear hK1 K1
 refine awp_seq_k ?_; intro K3 hK3
 refine awp_reg2_seq [] [0, 4, 5, 6] (by decide) ?_
 intro K1 hK1
 refine ⟨trivial, ?_⟩
 show K1 [(0, .slice false (l.map actAV)), (4, .ptr ⟨b1, 0, none⟩), (5, .ptr ⟨b4, 0, none⟩), (6, .int .i64 0)] (AMem.wth m [(b4, rObj (rT r0 s0)), (b1, dObj b3 b2 s0), (b2, mObj s0.now), (b3, mObj s0.kept)])
 refine hK1 _ _ ?_; clear hK1 K1
 have hNp1 : ([b2, b4, b1, b3] : List Nat).Nodup := drop_nodup (L := [(b4, rObj (rT r0 s0)), (b1, dObj b3 b2 s0), (b2, mObj s0.now), (b3, mObj s0.kept)]) (L1 := []) (L2 := [(b2, mObj s0.now), (b4, rObj (rT r0 s0)), (b1, dObj b3 b2 s0), (b3, mObj s0.kept)]) hNb4 (show ([(b4, rObj (rT r0 s0)), (b1, dObj b3 b2 s0), (b2, mObj s0.now), (b3, mObj s0.kept)] : List (Nat × AObj)).Perm [(b2, mObj s0.now), (b4, rObj (rT r0 s0)), (b1, dObj b3 b2 s0), (b3, mObj s0.kept)] from pick_perm [2, 0, 0, 0] _)
 refine awp_dropP [] [(b2, mObj s0.now), (b4, rObj (rT r0 s0)), (b1, dObj b3 b2 s0), (b3, mObj s0.kept)] hNb4 (show ([(b4, rObj (rT r0 s0)), (b1, dObj b3 b2 s0), (b2, mObj s0.now), (b3, mObj s0.kept)] : List (Nat × AObj)).Perm [(b2, mObj s0.now), (b4, rObj (rT r0 s0)), (b1, dObj b3 b2 s0), (b3, mObj s0.kept)] from pick_perm [2, 0, 0, 0] _) (fun _ h => by cases h) ?_
 show AWP _ _ _ _ [(0, .slice false (l.map actAV)), (4, .ptr ⟨b1, 0, none⟩), (5, .ptr ⟨b4, 0, none⟩), (6, .int .i64 0)] (AMem.wth m [(b2, mObj s0.now), (b4, rObj (rT r0 s0)), (b1, dObj b3 b2 s0), (b3, mObj s0.kept)])
 refine awp_block ?_
 refine awp_keep [0, 4, 5, 6] (by decide) ?_
 refine awp_loop_st (σ := Int × Nat × RSt × DSt) (fun ⟨i, q, r, s⟩ => [(0, .slice false (l.map actAV)), (4, .ptr ⟨b1, 0, none⟩), (5, .ptr ⟨b4, 0, none⟩), (6, .int .i64 i)]) (fun ⟨i, q, r, s⟩ => (AMem.wth m [(q, mObj s.now), (b4, rObj (rT r s)), (b1, dObj b3 q s), (b3, mObj s.kept)])) (fun ⟨i, q, r, s⟩ => ([q, b4, b1, b3] : List Nat).Nodup ∧ m q = none ∧ (0 ≤ i ∧ i ≤ l.length ∧ l.length ≤ 100 ∧ Two s r i.toNat)) (fun ⟨i, q, r, s⟩ => l.length - i.toNat) (0, b2, r0, s0) rfl rfl ?_ ?_
 ·
  show ([((b2 : Nat)), b4, b1, b3] : List Nat).Nodup ∧ m ((b2 : Nat)) = none ∧ (0 ≤ ((0 : Int)) ∧ ((0 : Int)) ≤ l.length ∧ l.length ≤ 100 ∧ Two ((s0 : DSt)) ((r0 : RSt)) ((0 : Int)).toNat)
  refine ⟨hNp1, hFb2, ?_⟩
  exact ⟨by omega, by omega, by omega, Two.start0⟩
 rintro ⟨i, q, r, s⟩ ⟨hNq, hFq, hI⟩
 replace hI : 0 ≤ i ∧ i ≤ l.length ∧ l.length ≤ 100 ∧ Two s r i.toNat := hI
 replace hNq : ([q, b4, b1, b3] : List Nat).Nodup := hNq
 replace hFq : m q = none := hFq
 show AWP _ _ _ _ [(0, .slice false (l.map actAV)), (4, .ptr ⟨b1, 0, none⟩), (5, .ptr ⟨b4, 0, none⟩), (6, .int .i64 i)] (AMem.wth m [(q, mObj s.now), (b4, rObj (rT r s)), (b1, dObj b3 q s), (b3, mObj s.kept)])
 refine awp_seq_k ?_; intro K4 hK4
 refine awp_reg2_seq [] [0, 4, 5, 6, 27] (by decide) ?_
 intro K1 hK1
 refine ⟨trivial, trivial, ?_⟩
 refine ar_len rfl actAV l rfl rfl rfl ?_
 refine ⟨trivial, ?_⟩
 show K1 [(0, .slice false (l.map actAV)), (4, .ptr ⟨b1, 0, none⟩), (5, .ptr ⟨b4, 0, none⟩), (6, .int .i64 i), (27, .bool (decide (i < (l.length : Int))))] (AMem.wth m [(q, mObj s.now), (b4, rObj (rT r s)), (b1, dObj b3 q s), (b3, mObj s.kept)])
 refine hK1 _ _ ?_; clear hK1 K1
 refine awp_cond rfl rfl (fun h2 => ?_) (fun h2 => ?_)
 ·
  replace h2 : i < (l.length : Int) := (of_decide_eq_true h2)
  have hba := hbs _ (gI_mem hI.1 h2)
  refine awp_skip ?_
  refine hK4 _ _ ?_; clear hK4
  refine awp_seq_k ?_; intro K5 hK5
  refine awp_block ?_
  refine awp_reg2_seq [] [0, 4, 5, 6, 7] (by decide) ?_
  intro K1 hK1
  refine ⟨trivial, trivial, ?_⟩
  refine ar_index rfl actAV l i rfl rfl rfl rfl rfl (by decide) (fun _ => rfl) (by omega) (by omega) ?_
  refine ⟨(apartOk_agg rfl rfl (Nat.le_of_ble_eq_true rfl)), ?_⟩
  refine ar_alloc rfl (m := m) (L := [(q, mObj s.now), (b4, rObj (rT r s)), (b1, dObj b3 q s), (b3, mObj s.kept)]) (z := .agg [.str ([]), .str ([]), .str ([]), .int .i64 0, .int .i64 0, .int .i64 0, .int .i64 0, .str ([]), .slice true [], .slice true [], .slice true []]) rfl rfl ?_
  intro b5 hb5
  have hFb5 : m b5 = none := wth_none (m := m) (L := [(q, mObj s.now), (b4, rObj (rT r s)), (b1, dObj b3 q s), (b3, mObj s.kept)]) hb5
  have hNb5 : ([b5, q, b4, b1, b3] : List Nat).Nodup := wth_nodup (m := m) (L := [(q, mObj s.now), (b4, rObj (rT r s)), (b1, dObj b3 q s), (b3, mObj s.kept)]) hb5 hNq
  refine ar_storep rfl 0 (v := actAV (gI l i)) (l' := [.str ((gI l i).kind), .str ((gI l i).s), .str ((gI l i).t), .int .i64 ((gI l i).a), .int .i64 ((gI l i).b), .int .i64 (((gI l i).v).kind), .int .i64 (((gI l i).v).n), .str (((gI l i).v).s), .slice false ((((gI l i).v).l).map valIn), .slice false ((((gI l i).v).f).map fldIn), .slice false (((gI l i).names).map strAV)]) rfl (by rfl) hNb5 rfl rfl rfl rfl rfl (Nat.le_of_ble_eq_true rfl) rfl ?_
  show K1 [(0, .slice false (l.map actAV)), (4, .ptr ⟨b1, 0, none⟩), (5, .ptr ⟨b4, 0, none⟩), (6, .int .i64 i), (7, .ptr ⟨b5, 0, none⟩)] (AMem.wth m [(b5, actObj (gI l i)), (q, mObj s.now), (b4, rObj (rT r s)), (b1, dObj b3 q s), (b3, mObj s.kept)])
  refine hK1 _ _ ?_; clear hK1 K1
  refine awp_reg2_seq [] [0, 4, 5, 6, 7, 8] (by decide) ?_
  intro K1 hK1
  refine ⟨trivial, ?_⟩
  show K1 [(0, .slice false (l.map actAV)), (4, .ptr ⟨b1, 0, none⟩), (5, .ptr ⟨b4, 0, none⟩), (6, .int .i64 i), (7, .ptr ⟨b5, 0, none⟩), (8, .bool true)] (AMem.wth m [(b5, actObj (gI l i)), (q, mObj s.now), (b4, rObj (rT r s)), (b1, dObj b3 q s), (b3, mObj s.kept)])
  refine hK1 _ _ ?_; clear hK1 K1
  refine awp_seq_k ?_; intro K6 hK6
  refine awp_reg2_seq [] [0, 4, 5, 6, 7, 8, 35] (by decide) ?_
  intro K1 hK1
  refine ⟨⟨rfl, by decide⟩, ?_⟩
  refine ar_loadp rfl (v := .str ((gI l i).kind)) rfl (wth_get 0 hNb5 rfl) rfl (apartOk_one rfl rfl (Nat.le_of_ble_eq_true rfl)) rfl ?_
  show K1 [(0, .slice false (l.map actAV)), (4, .ptr ⟨b1, 0, none⟩), (5, .ptr ⟨b4, 0, none⟩), (6, .int .i64 i), (7, .ptr ⟨b5, 0, none⟩), (8, .bool true), (35, .str ((gI l i).kind))] (AMem.wth m [(b5, actObj (gI l i)), (q, mObj s.now), (b4, rObj (rT r s)), (b1, dObj b3 q s), (b3, mObj s.kept)])
  refine hK1 _ _ ?_; clear hK1 K1
  refine awp_block ?_
  refine awp_reg2_seq [] [0, 4, 5, 6, 7, 8, 35, 48] (by decide) ?_
  intro K1 hK1
  refine ⟨trivial, trivial, ?_⟩
  show K1 [(0, .slice false (l.map actAV)), (4, .ptr ⟨b1, 0, none⟩), (5, .ptr ⟨b4, 0, none⟩), (6, .int .i64 i), (7, .ptr ⟨b5, 0, none⟩), (8, .bool true), (35, .str ((gI l i).kind)), (48, .bool (((gI l i).kind) == ([119, 114, 105, 116, 101] : List UInt8)))] (AMem.wth m [(b5, actObj (gI l i)), (q, mObj s.now), (b4, rObj (rT r s)), (b1, dObj b3 q s), (b3, mObj s.kept)])
  refine hK1 _ _ ?_; clear hK1 K1
  refine awp_cond rfl rfl (fun h3 => ?_) (fun h3 => ?_)
  ·
   replace h3 : (gI l i).kind = ([119, 114, 105, 116, 101] : List UInt8) := (eq_of_beq h3)
   refine awp_draw_memP Try.mixed [(5, 55), (11, 61)] [(5, 55, .err 108 ((writeR s ((gI l i).s) ((gI l i).t)).2)), (11, 61, .int .i64 ((writeR s ((gI l i).s) ((gI l i).t)).2))] [(AMem.wth m [(b5, actObj (gI l i)), (q, mObj s.now), (b4, rObj (rT r s)), (b1, dObj b3 q s), (b3, mObj s.kept)]), (AMem.wth m [(b5, actObj (gI l i)), (q, mObj ((writeR s ((gI l i).s) ((gI l i).t)).1.now)), (b4, rObj (rT r s)), (b1, dObj b3 q ((writeR s ((gI l i).s) ((gI l i).t)).1)), (b3, mObj ((writeR s ((gI l i).s) ((gI l i).t)).1.kept))]), (AMem.wth m [(b5, actObj (gI l i)), (q, mObj ((writeR s ((gI l i).s) ((gI l i).t)).1.now)), (b4, rObj (rT ((putQ (rT r s) 1 ((gI l i).s) ((gI l i).t)).1) ((writeR s ((gI l i).s) ((gI l i).t)).1))), (b1, dObj b3 q ((writeR s ((gI l i).s) ((gI l i).t)).1)), (b3, mObj ((writeR s ((gI l i).s) ((gI l i).t)).1.kept))])] [(.bool true)] [0, 4, 5, 6, 7, 8] [(8, .bool true), (62, .bool true), (60, .str ((gI l i).t)), (59, .ptr ⟨b5, 2, none⟩), (58, .str ((gI l i).s)), (57, .ptr ⟨b5, 1, none⟩), (56, .ptr ⟨b4, 0, none⟩), (54, .str ((gI l i).t)), (53, .ptr ⟨b5, 2, none⟩), (52, .str ((gI l i).s)), (51, .ptr ⟨b5, 1, none⟩), (50, .ptr ⟨b1, 0, none⟩), (55, .err 108 ((writeR s ((gI l i).s) ((gI l i).t)).2)), (61, .int .i64 ((writeR s ((gI l i).s) ((gI l i).t)).2)), (0, .slice false (l.map actAV)), (4, .ptr ⟨b1, 0, none⟩), (5, .ptr ⟨b4, 0, none⟩), (6, .int .i64 i), (7, .ptr ⟨b5, 0, none⟩), (8, .bool true), (35, .str ((gI l i).kind)), (48, .bool (((gI l i).kind) == ([119, 114, 105, 116, 101] : List UInt8)))] (AMem.wth m [(b5, actObj (gI l i)), (q, mObj ((writeR s ((gI l i).s) ((gI l i).t)).1.now)), (b4, rObj (rT ((putQ (rT r s) 1 ((gI l i).s) ((gI l i).t)).1) ((writeR s ((gI l i).s) ((gI l i).t)).1))), (b1, dObj b3 q ((writeR s ((gI l i).s) ((gI l i).t)).1)), (b3, mObj ((writeR s ((gI l i).s) ((gI l i).t)).1.kept))]) (by decide) (by decide) (by decide) rfl rfl rfl rfl ?_ ?_ ?_
   ·
    refine ⟨?_, ?_, trivial⟩
    ·
     exact mem_call (wth_split (m := m) (L := [(b5, actObj (gI l i)), (q, mObj s.now), (b4, rObj (rT r s)), (b1, dObj b3 q s), (b3, mObj s.kept)]) hNb5 (pick_perm [3, 1, 2] _)) (wth_split (m := m) (L := [(b5, actObj (gI l i)), (q, mObj ((writeR s ((gI l i).s) ((gI l i).t)).1.now)), (b4, rObj (rT r s)), (b1, dObj b3 q ((writeR s ((gI l i).s) ((gI l i).t)).1)), (b3, mObj ((writeR s ((gI l i).s) ((gI l i).t)).1.kept))]) hNb5 (pick_perm [3, 1, 2] _)) (fun Kc hKc => u_Write3 b1 b3 q s ((gI l i).s) ((gI l i).t) i.toNat (by have q := hNb5; simp at q ⊢; omega) hI.2.2.2.inv (by omega) (by first | assumption | exact hba.1 | exact hba.2.1) (by first | assumption | exact hba.1 | exact hba.2.1) _ Kc hKc)
    ·
     exact mem_call (wth_split (m := m) (L := [(b5, actObj (gI l i)), (q, mObj ((writeR s ((gI l i).s) ((gI l i).t)).1.now)), (b4, rObj (rT r s)), (b1, dObj b3 q ((writeR s ((gI l i).s) ((gI l i).t)).1)), (b3, mObj ((writeR s ((gI l i).s) ((gI l i).t)).1.kept))]) hNb5 (pick_perm [2] _)) (wth_split (m := m) (L := [(b5, actObj (gI l i)), (q, mObj ((writeR s ((gI l i).s) ((gI l i).t)).1.now)), (b4, rObj (rT ((putQ (rT r s) 1 ((gI l i).s) ((gI l i).t)).1) ((writeR s ((gI l i).s) ((gI l i).t)).1))), (b1, dObj b3 q ((writeR s ((gI l i).s) ((gI l i).t)).1)), (b3, mObj ((writeR s ((gI l i).s) ((gI l i).t)).1.kept))]) hNb5 (pick_perm [2] _)) (fun Kc hKc => u_QPutT b4 hI.2.2.2 (by omega) 1 ((gI l i).s) ((gI l i).t) (writeR s ((gI l i).s) ((gI l i).t)) (hI.2.2.2.write ((gI l i).s) ((gI l i).t)) (by first | assumption | exact hba.1 | exact hba.2.1) (by first | assumption | exact hba.1 | exact hba.2.1) _ Kc hKc)
   ·
    refine ⟨?_, ?_, ?_, trivial⟩
    ·
     show pseq _ _ _ _ _ [(55, .err 108 ((writeR s ((gI l i).s) ((gI l i).t)).2)), (61, .int .i64 ((writeR s ((gI l i).s) ((gI l i).t)).2)), (0, .slice false (l.map actAV)), (4, .ptr ⟨b1, 0, none⟩), (5, .ptr ⟨b4, 0, none⟩), (6, .int .i64 i), (7, .ptr ⟨b5, 0, none⟩), (8, .bool true), (35, .str ((gI l i).kind)), (48, .bool (((gI l i).kind) == ([119, 114, 105, 116, 101] : List UInt8)))] _
     refine ⟨trivial, ⟨rfl, by decide⟩, ?_⟩
     refine pq_loadp rfl (v := .str ((gI l i).s)) rfl (wth_get 0 hNb5 rfl) (apartOk_one rfl rfl (Nat.le_of_ble_eq_true rfl)) rfl ?_
     refine ⟨⟨rfl, by decide⟩, ?_⟩
     refine pq_loadp rfl (v := .str ((gI l i).t)) rfl (wth_get 0 hNb5 rfl) (apartOk_one rfl rfl (Nat.le_of_ble_eq_true rfl)) rfl ?_
     refine ⟨trivial, ⟨rfl, by decide⟩, ?_⟩
     refine pq_loadp rfl (v := .str ((gI l i).s)) rfl (wth_get 0 hNb5 rfl) (apartOk_one rfl rfl (Nat.le_of_ble_eq_true rfl)) rfl ?_
     refine ⟨⟨rfl, by decide⟩, ?_⟩
     refine pq_loadp rfl (v := .str ((gI l i).t)) rfl (wth_get 0 hNb5 rfl) (apartOk_one rfl rfl (Nat.le_of_ble_eq_true rfl)) rfl ?_
     refine ⟨(fun Kc hKc => u_same_eq ((writeR s ((gI l i).s) ((gI l i).t)).2) (by first | decide | assumption | exact listR_nn _ | exact readR_nn _ _ | exact writeR_nn _ _ _ | exact appR_nn _ _ _ | exact makeR_nn _ _ _ | exact moveR_nn _ _ _ | exact remR_nn _ _ | exact syncF_nn _ | exact (stepF_keep _).2.2.2) _ Kc hKc), trivial, ?_⟩
     exact rfl
    ·
     show pseq _ _ _ _ _ [(55, .err 108 ((writeR s ((gI l i).s) ((gI l i).t)).2)), (61, .int .i64 ((writeR s ((gI l i).s) ((gI l i).t)).2)), (0, .slice false (l.map actAV)), (4, .ptr ⟨b1, 0, none⟩), (5, .ptr ⟨b4, 0, none⟩), (6, .int .i64 i), (7, .ptr ⟨b5, 0, none⟩), (8, .bool true), (35, .str ((gI l i).kind)), (48, .bool (((gI l i).kind) == ([119, 114, 105, 116, 101] : List UInt8)))] _
     refine ⟨trivial, ⟨rfl, by decide⟩, ?_⟩
     refine pq_loadp rfl (v := .str ((gI l i).s)) rfl (wth_get 0 hNb5 rfl) (apartOk_one rfl rfl (Nat.le_of_ble_eq_true rfl)) rfl ?_
     refine ⟨⟨rfl, by decide⟩, ?_⟩
     refine pq_loadp rfl (v := .str ((gI l i).t)) rfl (wth_get 0 hNb5 rfl) (apartOk_one rfl rfl (Nat.le_of_ble_eq_true rfl)) rfl ?_
     refine ⟨trivial, ⟨rfl, by decide⟩, ?_⟩
     refine pq_loadp rfl (v := .str ((gI l i).s)) rfl (wth_get 0 hNb5 rfl) (apartOk_one rfl rfl (Nat.le_of_ble_eq_true rfl)) rfl ?_
     refine ⟨⟨rfl, by decide⟩, ?_⟩
     refine pq_loadp rfl (v := .str ((gI l i).t)) rfl (wth_get 0 hNb5 rfl) (apartOk_one rfl rfl (Nat.le_of_ble_eq_true rfl)) rfl ?_
     refine ⟨(fun Kc hKc => u_same_eq ((writeR s ((gI l i).s) ((gI l i).t)).2) (by first | decide | assumption | exact listR_nn _ | exact readR_nn _ _ | exact writeR_nn _ _ _ | exact appR_nn _ _ _ | exact makeR_nn _ _ _ | exact moveR_nn _ _ _ | exact remR_nn _ _ | exact syncF_nn _ | exact (stepF_keep _).2.2.2) _ Kc hKc), trivial, ?_⟩
     exact rfl
    ·
     show pseq _ _ _ _ _ [(55, .err 108 ((writeR s ((gI l i).s) ((gI l i).t)).2)), (61, .int .i64 ((writeR s ((gI l i).s) ((gI l i).t)).2)), (0, .slice false (l.map actAV)), (4, .ptr ⟨b1, 0, none⟩), (5, .ptr ⟨b4, 0, none⟩), (6, .int .i64 i), (7, .ptr ⟨b5, 0, none⟩), (8, .bool true), (35, .str ((gI l i).kind)), (48, .bool (((gI l i).kind) == ([119, 114, 105, 116, 101] : List UInt8)))] _
     refine ⟨trivial, ⟨rfl, by decide⟩, ?_⟩
     refine pq_loadp rfl (v := .str ((gI l i).s)) rfl (wth_get 0 hNb5 rfl) (apartOk_one rfl rfl (Nat.le_of_ble_eq_true rfl)) rfl ?_
     refine ⟨⟨rfl, by decide⟩, ?_⟩
     refine pq_loadp rfl (v := .str ((gI l i).t)) rfl (wth_get 0 hNb5 rfl) (apartOk_one rfl rfl (Nat.le_of_ble_eq_true rfl)) rfl ?_
     refine ⟨trivial, ⟨rfl, by decide⟩, ?_⟩
     refine pq_loadp rfl (v := .str ((gI l i).s)) rfl (wth_get 0 hNb5 rfl) (apartOk_one rfl rfl (Nat.le_of_ble_eq_true rfl)) rfl ?_
     refine ⟨⟨rfl, by decide⟩, ?_⟩
     refine pq_loadp rfl (v := .str ((gI l i).t)) rfl (wth_get 0 hNb5 rfl) (apartOk_one rfl rfl (Nat.le_of_ble_eq_true rfl)) rfl ?_
     refine ⟨(fun Kc hKc => u_same_eq ((writeR s ((gI l i).s) ((gI l i).t)).2) (by first | decide | assumption | exact listR_nn _ | exact readR_nn _ _ | exact writeR_nn _ _ _ | exact appR_nn _ _ _ | exact makeR_nn _ _ _ | exact moveR_nn _ _ _ | exact remR_nn _ _ | exact syncF_nn _ | exact (stepF_keep _).2.2.2) _ Kc hKc), trivial, ?_⟩
     exact rfl
   intro K1 hK1
   show K1 [(0, .slice false (l.map actAV)), (4, .ptr ⟨b1, 0, none⟩), (5, .ptr ⟨b4, 0, none⟩), (6, .int .i64 i), (7, .ptr ⟨b5, 0, none⟩), (8, .bool true)] (AMem.wth m [(b5, actObj (gI l i)), (q, mObj ((writeR s ((gI l i).s) ((gI l i).t)).1.now)), (b4, rObj (rT ((putQ (rT r s) 1 ((gI l i).s) ((gI l i).t)).1) ((writeR s ((gI l i).s) ((gI l i).t)).1))), (b1, dObj b3 q ((writeR s ((gI l i).s) ((gI l i).t)).1)), (b3, mObj ((writeR s ((gI l i).s) ((gI l i).t)).1.kept))])
   refine hK1 _ _ ?_; clear hK1 K1
   have hT2 := (hI.2.2.2.write (gI l i).s (gI l i).t).t
   generalize (writeR s ((gI l i).s) ((gI l i).t)).1 = s2 at hT2 ⊢
   generalize (putQ (rT r s) 1 ((gI l i).s) ((gI l i).t)).1 = r2 at hT2 ⊢
   refine hK6 _ _ ?_; clear hK6
   refine awp_draw_seq Try.mixed [(.bool (nameF ((gI l i).s))), (.bool (nameF ((gI l i).s))), (.bool s2.down), (.int .i64 s2.steps), (.bool true)] [0, 4, 5, 6, 208] (by decide) (by decide) ?_
   intro K1 hK1
   suffices key : K1 [(0, .slice false (l.map actAV)), (4, .ptr ⟨b1, 0, none⟩), (5, .ptr ⟨b4, 0, none⟩), (6, .int .i64 i), (208, .bool ((!((Int.tmod i 9) == 0)) && false))] (AMem.wth m [(b5, actObj (gI l i)), (q, mObj s2.now), (b4, rObj (rT r2 s2)), (b1, dObj b3 q s2), (b3, mObj s2.kept)]) by
    refine ⟨trivial, trivial, trivial, ⟨rfl, by decide⟩, ?_⟩
    refine pq_loadp rfl (v := .str ((gI l i).s)) rfl (wth_get 0 hNb5 rfl) (apartOk_one rfl rfl (Nat.le_of_ble_eq_true rfl)) rfl ?_
    refine ⟨(fun Kc hKc => u_Name ((gI l i).s) (by first | assumption | exact hba.1 | exact hba.2.1) _ Kc hKc), ⟨rfl, by decide⟩, ?_⟩
    refine pq_loadp rfl (v := .str ((gI l i).s)) rfl (wth_get 0 hNb5 rfl) (apartOk_one rfl rfl (Nat.le_of_ble_eq_true rfl)) rfl ?_
    refine ⟨(fun Kc hKc => u_FileMay ((gI l i).s) (by first | assumption | exact hba.1 | exact hba.2.1) _ Kc hKc), rfl, ?_⟩
    refine pq_top 178 (.bool false) (congrArg AV.bool (by simp)) ?_
    refine ⟨trivial, ?_⟩
    refine ⟨trivial, trivial, (pure_mem (wth_split (m := m) (L := [(b5, actObj (gI l i)), (q, mObj s2.now), (b4, rObj (rT r2 s2)), (b1, dObj b3 q s2), (b3, mObj s2.kept)]) hNb5 (pick_perm [3] _)) (fun Kc hKc => u_Down b1 b3 q s2 _ Kc hKc)), trivial, trivial, ⟨rfl, by decide⟩, ?_⟩
    refine pq_loadp rfl (v := .bool s2.down) rfl (wth_get 2 hNb5 rfl) (apartOk_one rfl rfl (Nat.le_of_ble_eq_true rfl)) rfl ?_
    refine ⟨rfl, ?_⟩
    refine pq_top 187 (.bool false) (congrArg AV.bool (by simp)) ?_
    refine ⟨trivial, ?_⟩
    refine ⟨trivial, trivial, (pure_mem (wth_split (m := m) (L := [(b5, actObj (gI l i)), (q, mObj s2.now), (b4, rObj (rT r2 s2)), (b1, dObj b3 q s2), (b3, mObj s2.kept)]) hNb5 (pick_perm [3] _)) (fun Kc hKc => u_Steps b1 b3 q s2 _ Kc hKc)), trivial, trivial, ⟨rfl, by decide⟩, ?_⟩
    refine pq_loadp rfl (v := .int .i64 s2.steps) rfl (wth_get 2 hNb5 rfl) (apartOk_one rfl rfl (Nat.le_of_ble_eq_true rfl)) rfl ?_
    refine ⟨trivial, ?_⟩
    refine pq_top 196 (.bool false) (congrArg AV.bool (by simp)) ?_
    refine ⟨trivial, ?_⟩
    refine ⟨trivial, trivial, (by exact rem_ok 9 (by decide) hI.1 (by decide)), trivial, trivial, ?_⟩
    show pseq _ _ _ _ _ [(202, .bool ((Int.tmod i 9) == 0)), (201, .bool ((Int.tmod i 9) == 0)), (200, .int .i64 (Int.tmod i 9)), (199, .int .i64 i), (198, .bool false), (197, .bool false), (196, .bool false), (195, .int .i64 s2.steps), (194, .ptr ⟨b4, 5, none⟩), (193, .ptr ⟨b4, 0, none⟩), (192, .ptr ⟨b4, 0, none⟩), (191, .int .i64 s2.steps), (190, .ptr ⟨b1, 0, none⟩), (189, .bool false), (188, .bool false), (187, .bool false), (186, .bool s2.down), (185, .ptr ⟨b4, 4, none⟩), (184, .ptr ⟨b4, 0, none⟩), (183, .ptr ⟨b4, 0, none⟩), (182, .bool s2.down), (181, .ptr ⟨b1, 0, none⟩), (180, .bool false), (179, .bool false), (178, .bool false), (177, .bool (nameF ((gI l i).s))), (176, .str ((gI l i).s)), (175, .ptr ⟨b5, 1, none⟩), (174, .bool (nameF ((gI l i).s))), (173, .str ((gI l i).s)), (172, .ptr ⟨b5, 1, none⟩), (171, .bool false), (170, .bool false), (169, .bool true), (0, .slice false (l.map actAV)), (4, .ptr ⟨b1, 0, none⟩), (5, .ptr ⟨b4, 0, none⟩), (6, .int .i64 i), (7, .ptr ⟨b5, 0, none⟩), (8, .bool true)] _
    refine (bool_ff (((Int.tmod i 9) == 0))).elim (fun h4 => ?_) (fun h4 => ?_)
    ·
     refine pq_frame [(202, .bool false), (201, .bool false), (200, .int .i64 (Int.tmod i 9)), (199, .int .i64 i), (198, .bool false), (197, .bool false), (196, .bool false), (195, .int .i64 s2.steps), (194, .ptr ⟨b4, 5, none⟩), (193, .ptr ⟨b4, 0, none⟩), (192, .ptr ⟨b4, 0, none⟩), (191, .int .i64 s2.steps), (190, .ptr ⟨b1, 0, none⟩), (189, .bool false), (188, .bool false), (187, .bool false), (186, .bool s2.down), (185, .ptr ⟨b4, 4, none⟩), (184, .ptr ⟨b4, 0, none⟩), (183, .ptr ⟨b4, 0, none⟩), (182, .bool s2.down), (181, .ptr ⟨b1, 0, none⟩), (180, .bool false), (179, .bool false), (178, .bool false), (177, .bool (nameF ((gI l i).s))), (176, .str ((gI l i).s)), (175, .ptr ⟨b5, 1, none⟩), (174, .bool (nameF ((gI l i).s))), (173, .str ((gI l i).s)), (172, .ptr ⟨b5, 1, none⟩), (171, .bool false), (170, .bool false), (169, .bool true), (0, .slice false (l.map actAV)), (4, .ptr ⟨b1, 0, none⟩), (5, .ptr ⟨b4, 0, none⟩), (6, .int .i64 i), (7, .ptr ⟨b5, 0, none⟩), (8, .bool true)] (by first | (rw [h4]; done) | (rw [h4]; rfl)) ?_
     try rw [h4] at key
     replace h4 : Int.tmod i 9 ≠ 0 := (ne_of_beq_false h4)
     refine pq_off rfl rfl ?_
     refine pq_off rfl rfl ?_
     refine pq_offc rfl ?_
     refine pq_off rfl rfl ?_
     refine ⟨trivial, ?_⟩
     refine ⟨trivial, ?_⟩
     exact key
    ·
     refine pq_frame [(202, .bool true), (201, .bool true), (200, .int .i64 (Int.tmod i 9)), (199, .int .i64 i), (198, .bool false), (197, .bool false), (196, .bool false), (195, .int .i64 s2.steps), (194, .ptr ⟨b4, 5, none⟩), (193, .ptr ⟨b4, 0, none⟩), (192, .ptr ⟨b4, 0, none⟩), (191, .int .i64 s2.steps), (190, .ptr ⟨b1, 0, none⟩), (189, .bool false), (188, .bool false), (187, .bool false), (186, .bool s2.down), (185, .ptr ⟨b4, 4, none⟩), (184, .ptr ⟨b4, 0, none⟩), (183, .ptr ⟨b4, 0, none⟩), (182, .bool s2.down), (181, .ptr ⟨b1, 0, none⟩), (180, .bool false), (179, .bool false), (178, .bool false), (177, .bool (nameF ((gI l i).s))), (176, .str ((gI l i).s)), (175, .ptr ⟨b5, 1, none⟩), (174, .bool (nameF ((gI l i).s))), (173, .str ((gI l i).s)), (172, .ptr ⟨b5, 1, none⟩), (171, .bool false), (170, .bool false), (169, .bool true), (0, .slice false (l.map actAV)), (4, .ptr ⟨b1, 0, none⟩), (5, .ptr ⟨b4, 0, none⟩), (6, .int .i64 i), (7, .ptr ⟨b5, 0, none⟩), (8, .bool true)] (by first | (rw [h4]; done) | (rw [h4]; rfl)) ?_
     try rw [h4] at key
     replace h4 : Int.tmod i 9 = 0 := (eq_of_beq h4)
     refine ⟨trivial, trivial, (pure_mem (wth_split (m := m) (L := [(b5, actObj (gI l i)), (q, mObj s2.now), (b4, rObj (rT r2 s2)), (b1, dObj b3 q s2), (b3, mObj s2.kept)]) hNb5 (pick_perm [3, 1, 1] _)) (fun Kc hKc => u_asDisk b1 b3 q b4 s2 r2 (i.toNat + 1) (by have q := hNb5; simp at q ⊢; omega) hT2 (by omega) _ Kc hKc)), trivial, trivial, ?_⟩
     refine ⟨trivial, ?_⟩
     exact key
   refine hK1 _ _ ?_; clear hK1 K1
   refine awp_cond rfl rfl (fun h5 => ?_) (fun h5 => ?_)
   ·
    replace h5 : (Int.tmod i 9 ≠ 0) ∧ (False) := ⟨(ne_of_beq_false (bnT (bandL h5))), (by cases (bandR h5))⟩
    refine awp_reg2_seq [] [2] (by decide) ?_
    intro K1 hK1
    refine ⟨trivial, ?_⟩
    show K1 [(2, .bool false)] (AMem.wth m [(b5, actObj (gI l i)), (q, mObj s2.now), (b4, rObj (rT r2 s2)), (b1, dObj b3 q s2), (b3, mObj s2.kept)])
    refine hK1 _ _ ?_; clear hK1 K1
    refine awp_ret ?_
    refine ⟨trivial, m, (wth_sub2 (m := m) [(b5, actObj (gI l i)), (q, mObj s2.now), (b4, rObj (rT r2 s2)), (b1, dObj b3 q s2), (b3, mObj s2.kept)] [] hNb5 (by simp only [List.map_cons, List.map_nil, List.forall_mem_cons]; exact ⟨hFb5, hFq, hFb4, hFb1, hFb3, fun _ h => by cases h⟩)), ?_⟩
    show K (.bool false) m
   
    first | exact hK | exact absurd (‹(Int.tmod i 9 ≠ 0) ∧ False›).2 id
   replace h5 : (Int.tmod i 9 = 0) ∨ (True) := ((bandF h5).imp (fun q => (eq_of_beq (bnF q))) (fun q => trivial))
   refine awp_skip ?_
   refine hK5 _ _ ?_; clear hK5
   have hNd2 : ([q, b4, b1, b3] : List Nat).Nodup := drop_nodup (L := [(b5, actObj (gI l i)), (q, mObj s2.now), (b4, rObj (rT r2 s2)), (b1, dObj b3 q s2), (b3, mObj s2.kept)]) hNb5 (pick_perm [0] _)
   refine awp_dropP [(b5, actObj (gI l i))] [(q, mObj s2.now), (b4, rObj (rT r2 s2)), (b1, dObj b3 q s2), (b3, mObj s2.kept)] hNb5 (pick_perm [0] _) (by simp only [List.map_cons, List.map_nil, List.forall_mem_cons]; exact ⟨hFb5, fun _ h => by cases h⟩) ?_
   refine awp_reg2 [] [0, 4, 5, 6] (by decide) ?_
   intro K1 hK1
   refine ⟨trivial, ?_⟩
   refine ar_add rfl (a := i) (b := 1) rfl rfl (by omega) (by omega) ?_
   refine ⟨trivial, ?_⟩
   show K1 [(0, .slice false (l.map actAV)), (4, .ptr ⟨b1, 0, none⟩), (5, .ptr ⟨b4, 0, none⟩), (6, .int .i64 (i + 1))] (AMem.wth m [(q, mObj s2.now), (b4, rObj (rT r2 s2)), (b1, dObj b3 q s2), (b3, mObj s2.kept)])
   refine hK1 _ _ ?_; clear hK1 K1
   refine ⟨(i + 1, q, r2, s2), rfl, rfl, ?_, ?_⟩
   ·
    show ([q, b4, b1, b3] : List Nat).Nodup ∧ m q = none ∧ (0 ≤ ((i + 1 : Int)) ∧ ((i + 1 : Int)) ≤ l.length ∧ l.length ≤ 100 ∧ Two ((s2 : DSt)) ((r2 : RSt)) ((i + 1 : Int)).toNat)
    refine ⟨hNd2, hFq, ?_⟩
    refine ⟨by omega, by omega, hI.2.2.1, ?_⟩
    rw [show (i + 1).toNat = i.toNat + 1 from by omega]
    first | exact hT2 | exact hI.2.2.2.mono (Nat.le_succ _)
   ·
    show l.length - ((i + 1 : Int)).toNat < l.length - i.toNat
    omega
  replace h3 : (gI l i).kind ≠ ([119, 114, 105, 116, 101] : List UInt8) := (ne_of_beq_false h3)
  refine awp_reg2_seq [] [0, 4, 5, 6, 7, 8, 35, 63] (by decide) ?_
  intro K1 hK1
  refine ⟨trivial, trivial, ?_⟩
  show K1 [(0, .slice false (l.map actAV)), (4, .ptr ⟨b1, 0, none⟩), (5, .ptr ⟨b4, 0, none⟩), (6, .int .i64 i), (7, .ptr ⟨b5, 0, none⟩), (8, .bool true), (35, .str ((gI l i).kind)), (63, .bool (((gI l i).kind) == ([97, 112, 112, 101, 110, 100] : List UInt8)))] (AMem.wth m [(b5, actObj (gI l i)), (q, mObj s.now), (b4, rObj (rT r s)), (b1, dObj b3 q s), (b3, mObj s.kept)])
  refine hK1 _ _ ?_; clear hK1 K1
  refine awp_cond rfl rfl (fun h6 => ?_) (fun h6 => ?_)
  ·
   replace h6 : (gI l i).kind = ([97, 112, 112, 101, 110, 100] : List UInt8) := (eq_of_beq h6)
   refine awp_draw_memP Try.mixed [(5, 70), (11, 76)] [(5, 70, .err 108 ((appR s ((gI l i).s) ((gI l i).t)).2)), (11, 76, .int .i64 ((appR s ((gI l i).s) ((gI l i).t)).2))] [(AMem.wth m [(b5, actObj (gI l i)), (q, mObj s.now), (b4, rObj (rT r s)), (b1, dObj b3 q s), (b3, mObj s.kept)]), (AMem.wth m [(b5, actObj (gI l i)), (q, mObj ((appR s ((gI l i).s) ((gI l i).t)).1.now)), (b4, rObj (rT r s)), (b1, dObj b3 q ((appR s ((gI l i).s) ((gI l i).t)).1)), (b3, mObj ((appR s ((gI l i).s) ((gI l i).t)).1.kept))]), (AMem.wth m [(b5, actObj (gI l i)), (q, mObj ((appR s ((gI l i).s) ((gI l i).t)).1.now)), (b4, rObj (rT ((putQ (rT r s) 2 ((gI l i).s) ((gI l i).t)).1) ((appR s ((gI l i).s) ((gI l i).t)).1))), (b1, dObj b3 q ((appR s ((gI l i).s) ((gI l i).t)).1)), (b3, mObj ((appR s ((gI l i).s) ((gI l i).t)).1.kept))])] [(.bool true)] [0, 4, 5, 6, 7, 8] [(8, .bool true), (77, .bool true), (75, .str ((gI l i).t)), (74, .ptr ⟨b5, 2, none⟩), (73, .str ((gI l i).s)), (72, .ptr ⟨b5, 1, none⟩), (71, .ptr ⟨b4, 0, none⟩), (69, .str ((gI l i).t)), (68, .ptr ⟨b5, 2, none⟩), (67, .str ((gI l i).s)), (66, .ptr ⟨b5, 1, none⟩), (65, .ptr ⟨b1, 0, none⟩), (70, .err 108 ((appR s ((gI l i).s) ((gI l i).t)).2)), (76, .int .i64 ((appR s ((gI l i).s) ((gI l i).t)).2)), (0, .slice false (l.map actAV)), (4, .ptr ⟨b1, 0, none⟩), (5, .ptr ⟨b4, 0, none⟩), (6, .int .i64 i), (7, .ptr ⟨b5, 0, none⟩), (8, .bool true), (35, .str ((gI l i).kind)), (63, .bool (((gI l i).kind) == ([97, 112, 112, 101, 110, 100] : List UInt8)))] (AMem.wth m [(b5, actObj (gI l i)), (q, mObj ((appR s ((gI l i).s) ((gI l i).t)).1.now)), (b4, rObj (rT ((putQ (rT r s) 2 ((gI l i).s) ((gI l i).t)).1) ((appR s ((gI l i).s) ((gI l i).t)).1))), (b1, dObj b3 q ((appR s ((gI l i).s) ((gI l i).t)).1)), (b3, mObj ((appR s ((gI l i).s) ((gI l i).t)).1.kept))]) (by decide) (by decide) (by decide) rfl rfl rfl rfl ?_ ?_ ?_
   ·
    refine ⟨?_, ?_, trivial⟩
    ·
     exact mem_call (wth_split (m := m) (L := [(b5, actObj (gI l i)), (q, mObj s.now), (b4, rObj (rT r s)), (b1, dObj b3 q s), (b3, mObj s.kept)]) hNb5 (pick_perm [3, 1, 2] _)) (wth_split (m := m) (L := [(b5, actObj (gI l i)), (q, mObj ((appR s ((gI l i).s) ((gI l i).t)).1.now)), (b4, rObj (rT r s)), (b1, dObj b3 q ((appR s ((gI l i).s) ((gI l i).t)).1)), (b3, mObj ((appR s ((gI l i).s) ((gI l i).t)).1.kept))]) hNb5 (pick_perm [3, 1, 2] _)) (fun Kc hKc => u_App3 b1 b3 q s ((gI l i).s) ((gI l i).t) i.toNat (by have q := hNb5; simp at q ⊢; omega) hI.2.2.2.inv (by omega) (by first | assumption | exact hba.1 | exact hba.2.1) (by first | assumption | exact hba.1 | exact hba.2.1) _ Kc hKc)
    ·
     exact mem_call (wth_split (m := m) (L := [(b5, actObj (gI l i)), (q, mObj ((appR s ((gI l i).s) ((gI l i).t)).1.now)), (b4, rObj (rT r s)), (b1, dObj b3 q ((appR s ((gI l i).s) ((gI l i).t)).1)), (b3, mObj ((appR s ((gI l i).s) ((gI l i).t)).1.kept))]) hNb5 (pick_perm [2] _)) (wth_split (m := m) (L := [(b5, actObj (gI l i)), (q, mObj ((appR s ((gI l i).s) ((gI l i).t)).1.now)), (b4, rObj (rT ((putQ (rT r s) 2 ((gI l i).s) ((gI l i).t)).1) ((appR s ((gI l i).s) ((gI l i).t)).1))), (b1, dObj b3 q ((appR s ((gI l i).s) ((gI l i).t)).1)), (b3, mObj ((appR s ((gI l i).s) ((gI l i).t)).1.kept))]) hNb5 (pick_perm [2] _)) (fun Kc hKc => u_QPutT b4 hI.2.2.2 (by omega) 2 ((gI l i).s) ((gI l i).t) (appR s ((gI l i).s) ((gI l i).t)) (hI.2.2.2.append ((gI l i).s) ((gI l i).t)) (by first | assumption | exact hba.1 | exact hba.2.1) (by first | assumption | exact hba.1 | exact hba.2.1) _ Kc hKc)
   ·
    refine ⟨?_, ?_, ?_, trivial⟩
    ·
     show pseq _ _ _ _ _ [(70, .err 108 ((appR s ((gI l i).s) ((gI l i).t)).2)), (76, .int .i64 ((appR s ((gI l i).s) ((gI l i).t)).2)), (0, .slice false (l.map actAV)), (4, .ptr ⟨b1, 0, none⟩), (5, .ptr ⟨b4, 0, none⟩), (6, .int .i64 i), (7, .ptr ⟨b5, 0, none⟩), (8, .bool true), (35, .str ((gI l i).kind)), (63, .bool (((gI l i).kind) == ([97, 112, 112, 101, 110, 100] : List UInt8)))] _
     refine ⟨trivial, ⟨rfl, by decide⟩, ?_⟩
     refine pq_loadp rfl (v := .str ((gI l i).s)) rfl (wth_get 0 hNb5 rfl) (apartOk_one rfl rfl (Nat.le_of_ble_eq_true rfl)) rfl ?_
     refine ⟨⟨rfl, by decide⟩, ?_⟩
     refine pq_loadp rfl (v := .str ((gI l i).t)) rfl (wth_get 0 hNb5 rfl) (apartOk_one rfl rfl (Nat.le_of_ble_eq_true rfl)) rfl ?_
     refine ⟨trivial, ⟨rfl, by decide⟩, ?_⟩
     refine pq_loadp rfl (v := .str ((gI l i).s)) rfl (wth_get 0 hNb5 rfl) (apartOk_one rfl rfl (Nat.le_of_ble_eq_true rfl)) rfl ?_
     refine ⟨⟨rfl, by decide⟩, ?_⟩
     refine pq_loadp rfl (v := .str ((gI l i).t)) rfl (wth_get 0 hNb5 rfl) (apartOk_one rfl rfl (Nat.le_of_ble_eq_true rfl)) rfl ?_
     refine ⟨(fun Kc hKc => u_same_eq ((appR s ((gI l i).s) ((gI l i).t)).2) (by first | decide | assumption | exact listR_nn _ | exact readR_nn _ _ | exact writeR_nn _ _ _ | exact appR_nn _ _ _ | exact makeR_nn _ _ _ | exact moveR_nn _ _ _ | exact remR_nn _ _ | exact syncF_nn _ | exact (stepF_keep _).2.2.2) _ Kc hKc), trivial, ?_⟩
     exact rfl
    ·
     show pseq _ _ _ _ _ [(70, .err 108 ((appR s ((gI l i).s) ((gI l i).t)).2)), (76, .int .i64 ((appR s ((gI l i).s) ((gI l i).t)).2)), (0, .slice false (l.map actAV)), (4, .ptr ⟨b1, 0, none⟩), (5, .ptr ⟨b4, 0, none⟩), (6, .int .i64 i), (7, .ptr ⟨b5, 0, none⟩), (8, .bool true), (35, .str ((gI l i).kind)), (63, .bool (((gI l i).kind) == ([97, 112, 112, 101, 110, 100] : List UInt8)))] _
     refine ⟨trivial, ⟨rfl, by decide⟩, ?_⟩
     refine pq_loadp rfl (v := .str ((gI l i).s)) rfl (wth_get 0 hNb5 rfl) (apartOk_one rfl rfl (Nat.le_of_ble_eq_true rfl)) rfl ?_
     refine ⟨⟨rfl, by decide⟩, ?_⟩
     refine pq_loadp rfl (v := .str ((gI l i).t)) rfl (wth_get 0 hNb5 rfl) (apartOk_one rfl rfl (Nat.le_of_ble_eq_true rfl)) rfl ?_
     refine ⟨trivial, ⟨rfl, by decide⟩, ?_⟩
     refine pq_loadp rfl (v := .str ((gI l i).s)) rfl (wth_get 0 hNb5 rfl) (apartOk_one rfl rfl (Nat.le_of_ble_eq_true rfl)) rfl ?_
     refine ⟨⟨rfl, by decide⟩, ?_⟩
     refine pq_loadp rfl (v := .str ((gI l i).t)) rfl (wth_get 0 hNb5 rfl) (apartOk_one rfl rfl (Nat.le_of_ble_eq_true rfl)) rfl ?_
     refine ⟨(fun Kc hKc => u_same_eq ((appR s ((gI l i).s) ((gI l i).t)).2) (by first | decide | assumption | exact listR_nn _ | exact readR_nn _ _ | exact writeR_nn _ _ _ | exact appR_nn _ _ _ | exact makeR_nn _ _ _ | exact moveR_nn _ _ _ | exact remR_nn _ _ | exact syncF_nn _ | exact (stepF_keep _).2.2.2) _ Kc hKc), trivial, ?_⟩
     exact rfl
    ·
     show pseq _ _ _ _ _ [(70, .err 108 ((appR s ((gI l i).s) ((gI l i).t)).2)), (76, .int .i64 ((appR s ((gI l i).s) ((gI l i).t)).2)), (0, .slice false (l.map actAV)), (4, .ptr ⟨b1, 0, none⟩), (5, .ptr ⟨b4, 0, none⟩), (6, .int .i64 i), (7, .ptr ⟨b5, 0, none⟩), (8, .bool true), (35, .str ((gI l i).kind)), (63, .bool (((gI l i).kind) == ([97, 112, 112, 101, 110, 100] : List UInt8)))] _
     refine ⟨trivial, ⟨rfl, by decide⟩, ?_⟩
     refine pq_loadp rfl (v := .str ((gI l i).s)) rfl (wth_get 0 hNb5 rfl) (apartOk_one rfl rfl (Nat.le_of_ble_eq_true rfl)) rfl ?_
     refine ⟨⟨rfl, by decide⟩, ?_⟩
     refine pq_loadp rfl (v := .str ((gI l i).t)) rfl (wth_get 0 hNb5 rfl) (apartOk_one rfl rfl (Nat.le_of_ble_eq_true rfl)) rfl ?_
     refine ⟨trivial, ⟨rfl, by decide⟩, ?_⟩
     refine pq_loadp rfl (v := .str ((gI l i).s)) rfl (wth_get 0 hNb5 rfl) (apartOk_one rfl rfl (Nat.le_of_ble_eq_true rfl)) rfl ?_
     refine ⟨⟨rfl, by decide⟩, ?_⟩
     refine pq_loadp rfl (v := .str ((gI l i).t)) rfl (wth_get 0 hNb5 rfl) (apartOk_one rfl rfl (Nat.le_of_ble_eq_true rfl)) rfl ?_
     refine ⟨(fun Kc hKc => u_same_eq ((appR s ((gI l i).s) ((gI l i).t)).2) (by first | decide | assumption | exact listR_nn _ | exact readR_nn _ _ | exact writeR_nn _ _ _ | exact appR_nn _ _ _ | exact makeR_nn _ _ _ | exact moveR_nn _ _ _ | exact remR_nn _ _ | exact syncF_nn _ | exact (stepF_keep _).2.2.2) _ Kc hKc), trivial, ?_⟩
     exact rfl
   intro K1 hK1
   show K1 [(0, .slice false (l.map actAV)), (4, .ptr ⟨b1, 0, none⟩), (5, .ptr ⟨b4, 0, none⟩), (6, .int .i64 i), (7, .ptr ⟨b5, 0, none⟩), (8, .bool true)] (AMem.wth m [(b5, actObj (gI l i)), (q, mObj ((appR s ((gI l i).s) ((gI l i).t)).1.now)), (b4, rObj (rT ((putQ (rT r s) 2 ((gI l i).s) ((gI l i).t)).1) ((appR s ((gI l i).s) ((gI l i).t)).1))), (b1, dObj b3 q ((appR s ((gI l i).s) ((gI l i).t)).1)), (b3, mObj ((appR s ((gI l i).s) ((gI l i).t)).1.kept))])
   refine hK1 _ _ ?_; clear hK1 K1
   have hT2 := (hI.2.2.2.append (gI l i).s (gI l i).t).t
   generalize (appR s ((gI l i).s) ((gI l i).t)).1 = s2 at hT2 ⊢
   generalize (putQ (rT r s) 2 ((gI l i).s) ((gI l i).t)).1 = r2 at hT2 ⊢
   refine hK6 _ _ ?_; clear hK6
   refine awp_draw_seq Try.mixed [(.bool (nameF ((gI l i).s))), (.bool (nameF ((gI l i).s))), (.bool s2.down), (.int .i64 s2.steps), (.bool true)] [0, 4, 5, 6, 208] (by decide) (by decide) ?_
   intro K1 hK1
   suffices key : K1 [(0, .slice false (l.map actAV)), (4, .ptr ⟨b1, 0, none⟩), (5, .ptr ⟨b4, 0, none⟩), (6, .int .i64 i), (208, .bool ((!((Int.tmod i 9) == 0)) && false))] (AMem.wth m [(b5, actObj (gI l i)), (q, mObj s2.now), (b4, rObj (rT r2 s2)), (b1, dObj b3 q s2), (b3, mObj s2.kept)]) by
    refine ⟨trivial, trivial, trivial, ⟨rfl, by decide⟩, ?_⟩
    refine pq_loadp rfl (v := .str ((gI l i).s)) rfl (wth_get 0 hNb5 rfl) (apartOk_one rfl rfl (Nat.le_of_ble_eq_true rfl)) rfl ?_
    refine ⟨(fun Kc hKc => u_Name ((gI l i).s) (by first | assumption | exact hba.1 | exact hba.2.1) _ Kc hKc), ⟨rfl, by decide⟩, ?_⟩
    refine pq_loadp rfl (v := .str ((gI l i).s)) rfl (wth_get 0 hNb5 rfl) (apartOk_one rfl rfl (Nat.le_of_ble_eq_true rfl)) rfl ?_
    refine ⟨(fun Kc hKc => u_FileMay ((gI l i).s) (by first | assumption | exact hba.1 | exact hba.2.1) _ Kc hKc), rfl, ?_⟩
    refine pq_top 178 (.bool false) (congrArg AV.bool (by simp)) ?_
    refine ⟨trivial, ?_⟩
    refine ⟨trivial, trivial, (pure_mem (wth_split (m := m) (L := [(b5, actObj (gI l i)), (q, mObj s2.now), (b4, rObj (rT r2 s2)), (b1, dObj b3 q s2), (b3, mObj s2.kept)]) hNb5 (pick_perm [3] _)) (fun Kc hKc => u_Down b1 b3 q s2 _ Kc hKc)), trivial, trivial, ⟨rfl, by decide⟩, ?_⟩
    refine pq_loadp rfl (v := .bool s2.down) rfl (wth_get 2 hNb5 rfl) (apartOk_one rfl rfl (Nat.le_of_ble_eq_true rfl)) rfl ?_
    refine ⟨rfl, ?_⟩
    refine pq_top 187 (.bool false) (congrArg AV.bool (by simp)) ?_
    refine ⟨trivial, ?_⟩
    refine ⟨trivial, trivial, (pure_mem (wth_split (m := m) (L := [(b5, actObj (gI l i)), (q, mObj s2.now), (b4, rObj (rT r2 s2)), (b1, dObj b3 q s2), (b3, mObj s2.kept)]) hNb5 (pick_perm [3] _)) (fun Kc hKc => u_Steps b1 b3 q s2 _ Kc hKc)), trivial, trivial, ⟨rfl, by decide⟩, ?_⟩
    refine pq_loadp rfl (v := .int .i64 s2.steps) rfl (wth_get 2 hNb5 rfl) (apartOk_one rfl rfl (Nat.le_of_ble_eq_true rfl)) rfl ?_
    refine ⟨trivial, ?_⟩
    refine pq_top 196 (.bool false) (congrArg AV.bool (by simp)) ?_
    refine ⟨trivial, ?_⟩
    refine ⟨trivial, trivial, (by exact rem_ok 9 (by decide) hI.1 (by decide)), trivial, trivial, ?_⟩
    show pseq _ _ _ _ _ [(202, .bool ((Int.tmod i 9) == 0)), (201, .bool ((Int.tmod i 9) == 0)), (200, .int .i64 (Int.tmod i 9)), (199, .int .i64 i), (198, .bool false), (197, .bool false), (196, .bool false), (195, .int .i64 s2.steps), (194, .ptr ⟨b4, 5, none⟩), (193, .ptr ⟨b4, 0, none⟩), (192, .ptr ⟨b4, 0, none⟩), (191, .int .i64 s2.steps), (190, .ptr ⟨b1, 0, none⟩), (189, .bool false), (188, .bool false), (187, .bool false), (186, .bool s2.down), (185, .ptr ⟨b4, 4, none⟩), (184, .ptr ⟨b4, 0, none⟩), (183, .ptr ⟨b4, 0, none⟩), (182, .bool s2.down), (181, .ptr ⟨b1, 0, none⟩), (180, .bool false), (179, .bool false), (178, .bool false), (177, .bool (nameF ((gI l i).s))), (176, .str ((gI l i).s)), (175, .ptr ⟨b5, 1, none⟩), (174, .bool (nameF ((gI l i).s))), (173, .str ((gI l i).s)), (172, .ptr ⟨b5, 1, none⟩), (171, .bool false), (170, .bool false), (169, .bool true), (0, .slice false (l.map actAV)), (4, .ptr ⟨b1, 0, none⟩), (5, .ptr ⟨b4, 0, none⟩), (6, .int .i64 i), (7, .ptr ⟨b5, 0, none⟩), (8, .bool true)] _
    refine (bool_ff (((Int.tmod i 9) == 0))).elim (fun h7 => ?_) (fun h7 => ?_)
    ·
     refine pq_frame [(202, .bool false), (201, .bool false), (200, .int .i64 (Int.tmod i 9)), (199, .int .i64 i), (198, .bool false), (197, .bool false), (196, .bool false), (195, .int .i64 s2.steps), (194, .ptr ⟨b4, 5, none⟩), (193, .ptr ⟨b4, 0, none⟩), (192, .ptr ⟨b4, 0, none⟩), (191, .int .i64 s2.steps), (190, .ptr ⟨b1, 0, none⟩), (189, .bool false), (188, .bool false), (187, .bool false), (186, .bool s2.down), (185, .ptr ⟨b4, 4, none⟩), (184, .ptr ⟨b4, 0, none⟩), (183, .ptr ⟨b4, 0, none⟩), (182, .bool s2.down), (181, .ptr ⟨b1, 0, none⟩), (180, .bool false), (179, .bool false), (178, .bool false), (177, .bool (nameF ((gI l i).s))), (176, .str ((gI l i).s)), (175, .ptr ⟨b5, 1, none⟩), (174, .bool (nameF ((gI l i).s))), (173, .str ((gI l i).s)), (172, .ptr ⟨b5, 1, none⟩), (171, .bool false), (170, .bool false), (169, .bool true), (0, .slice false (l.map actAV)), (4, .ptr ⟨b1, 0, none⟩), (5, .ptr ⟨b4, 0, none⟩), (6, .int .i64 i), (7, .ptr ⟨b5, 0, none⟩), (8, .bool true)] (by first | (rw [h7]; done) | (rw [h7]; rfl)) ?_
     try rw [h7] at key
     replace h7 : Int.tmod i 9 ≠ 0 := (ne_of_beq_false h7)
     refine pq_off rfl rfl ?_
     refine pq_off rfl rfl ?_
     refine pq_offc rfl ?_
     refine pq_off rfl rfl ?_
     refine ⟨trivial, ?_⟩
     refine ⟨trivial, ?_⟩
     exact key
    ·
     refine pq_frame [(202, .bool true), (201, .bool true), (200, .int .i64 (Int.tmod i 9)), (199, .int .i64 i), (198, .bool false), (197, .bool false), (196, .bool false), (195, .int .i64 s2.steps), (194, .ptr ⟨b4, 5, none⟩), (193, .ptr ⟨b4, 0, none⟩), (192, .ptr ⟨b4, 0, none⟩), (191, .int .i64 s2.steps), (190, .ptr ⟨b1, 0, none⟩), (189, .bool false), (188, .bool false), (187, .bool false), (186, .bool s2.down), (185, .ptr ⟨b4, 4, none⟩), (184, .ptr ⟨b4, 0, none⟩), (183, .ptr ⟨b4, 0, none⟩), (182, .bool s2.down), (181, .ptr ⟨b1, 0, none⟩), (180, .bool false), (179, .bool false), (178, .bool false), (177, .bool (nameF ((gI l i).s))), (176, .str ((gI l i).s)), (175, .ptr ⟨b5, 1, none⟩), (174, .bool (nameF ((gI l i).s))), (173, .str ((gI l i).s)), (172, .ptr ⟨b5, 1, none⟩), (171, .bool false), (170, .bool false), (169, .bool true), (0, .slice false (l.map actAV)), (4, .ptr ⟨b1, 0, none⟩), (5, .ptr ⟨b4, 0, none⟩), (6, .int .i64 i), (7, .ptr ⟨b5, 0, none⟩), (8, .bool true)] (by first | (rw [h7]; done) | (rw [h7]; rfl)) ?_
     try rw [h7] at key
     replace h7 : Int.tmod i 9 = 0 := (eq_of_beq h7)
     refine ⟨trivial, trivial, (pure_mem (wth_split (m := m) (L := [(b5, actObj (gI l i)), (q, mObj s2.now), (b4, rObj (rT r2 s2)), (b1, dObj b3 q s2), (b3, mObj s2.kept)]) hNb5 (pick_perm [3, 1, 1] _)) (fun Kc hKc => u_asDisk b1 b3 q b4 s2 r2 (i.toNat + 1) (by have q := hNb5; simp at q ⊢; omega) hT2 (by omega) _ Kc hKc)), trivial, trivial, ?_⟩
     refine ⟨trivial, ?_⟩
     exact key
   refine hK1 _ _ ?_; clear hK1 K1
   refine awp_cond rfl rfl (fun h8 => ?_) (fun h8 => ?_)
   ·
    replace h8 : (Int.tmod i 9 ≠ 0) ∧ (False) := ⟨(ne_of_beq_false (bnT (bandL h8))), (by cases (bandR h8))⟩
    refine awp_reg2_seq [] [2] (by decide) ?_
    intro K1 hK1
    refine ⟨trivial, ?_⟩
    show K1 [(2, .bool false)] (AMem.wth m [(b5, actObj (gI l i)), (q, mObj s2.now), (b4, rObj (rT r2 s2)), (b1, dObj b3 q s2), (b3, mObj s2.kept)])
    refine hK1 _ _ ?_; clear hK1 K1
    refine awp_ret ?_
    refine ⟨trivial, m, (wth_sub2 (m := m) [(b5, actObj (gI l i)), (q, mObj s2.now), (b4, rObj (rT r2 s2)), (b1, dObj b3 q s2), (b3, mObj s2.kept)] [] hNb5 (by simp only [List.map_cons, List.map_nil, List.forall_mem_cons]; exact ⟨hFb5, hFq, hFb4, hFb1, hFb3, fun _ h => by cases h⟩)), ?_⟩
    show K (.bool false) m
   
    first | exact hK | exact absurd (‹(Int.tmod i 9 ≠ 0) ∧ False›).2 id
   replace h8 : (Int.tmod i 9 = 0) ∨ (True) := ((bandF h8).imp (fun q => (eq_of_beq (bnF q))) (fun q => trivial))
   refine awp_skip ?_
   refine hK5 _ _ ?_; clear hK5
   have hNd3 : ([q, b4, b1, b3] : List Nat).Nodup := drop_nodup (L := [(b5, actObj (gI l i)), (q, mObj s2.now), (b4, rObj (rT r2 s2)), (b1, dObj b3 q s2), (b3, mObj s2.kept)]) hNb5 (pick_perm [0] _)
   refine awp_dropP [(b5, actObj (gI l i))] [(q, mObj s2.now), (b4, rObj (rT r2 s2)), (b1, dObj b3 q s2), (b3, mObj s2.kept)] hNb5 (pick_perm [0] _) (by simp only [List.map_cons, List.map_nil, List.forall_mem_cons]; exact ⟨hFb5, fun _ h => by cases h⟩) ?_
   refine awp_reg2 [] [0, 4, 5, 6] (by decide) ?_
   intro K1 hK1
   refine ⟨trivial, ?_⟩
   refine ar_add rfl (a := i) (b := 1) rfl rfl (by omega) (by omega) ?_
   refine ⟨trivial, ?_⟩
   show K1 [(0, .slice false (l.map actAV)), (4, .ptr ⟨b1, 0, none⟩), (5, .ptr ⟨b4, 0, none⟩), (6, .int .i64 (i + 1))] (AMem.wth m [(q, mObj s2.now), (b4, rObj (rT r2 s2)), (b1, dObj b3 q s2), (b3, mObj s2.kept)])
   refine hK1 _ _ ?_; clear hK1 K1
   refine ⟨(i + 1, q, r2, s2), rfl, rfl, ?_, ?_⟩
   ·
    show ([q, b4, b1, b3] : List Nat).Nodup ∧ m q = none ∧ (0 ≤ ((i + 1 : Int)) ∧ ((i + 1 : Int)) ≤ l.length ∧ l.length ≤ 100 ∧ Two ((s2 : DSt)) ((r2 : RSt)) ((i + 1 : Int)).toNat)
    refine ⟨hNd3, hFq, ?_⟩
    refine ⟨by omega, by omega, hI.2.2.1, ?_⟩
    rw [show (i + 1).toNat = i.toNat + 1 from by omega]
    first | exact hT2 | exact hI.2.2.2.mono (Nat.le_succ _)
   ·
    show l.length - ((i + 1 : Int)).toNat < l.length - i.toNat
    omega
  replace h6 : (gI l i).kind ≠ ([97, 112, 112, 101, 110, 100] : List UInt8) := (ne_of_beq_false h6)
  refine awp_reg2_seq [] [0, 4, 5, 6, 7, 8, 35, 78] (by decide) ?_
  intro K1 hK1
  refine ⟨trivial, trivial, ?_⟩
  show K1 [(0, .slice false (l.map actAV)), (4, .ptr ⟨b1, 0, none⟩), (5, .ptr ⟨b4, 0, none⟩), (6, .int .i64 i), (7, .ptr ⟨b5, 0, none⟩), (8, .bool true), (35, .str ((gI l i).kind)), (78, .bool (((gI l i).kind) == ([109, 97, 107, 101] : List UInt8)))] (AMem.wth m [(b5, actObj (gI l i)), (q, mObj s.now), (b4, rObj (rT r s)), (b1, dObj b3 q s), (b3, mObj s.kept)])
  refine hK1 _ _ ?_; clear hK1 K1
  refine awp_cond rfl rfl (fun h9 => ?_) (fun h9 => ?_)
  ·
   replace h9 : (gI l i).kind = ([109, 97, 107, 101] : List UInt8) := (eq_of_beq h9)
   refine awp_draw_memP Try.mixed [(5, 85), (11, 91)] [(5, 85, .err 108 ((makeR s ((gI l i).s) ((gI l i).t)).2)), (11, 91, .int .i64 ((makeR s ((gI l i).s) ((gI l i).t)).2))] [(AMem.wth m [(b5, actObj (gI l i)), (q, mObj s.now), (b4, rObj (rT r s)), (b1, dObj b3 q s), (b3, mObj s.kept)]), (AMem.wth m [(b5, actObj (gI l i)), (q, mObj ((makeR s ((gI l i).s) ((gI l i).t)).1.now)), (b4, rObj (rT r s)), (b1, dObj b3 q ((makeR s ((gI l i).s) ((gI l i).t)).1)), (b3, mObj ((makeR s ((gI l i).s) ((gI l i).t)).1.kept))]), (AMem.wth m [(b5, actObj (gI l i)), (q, mObj ((makeR s ((gI l i).s) ((gI l i).t)).1.now)), (b4, rObj (rT ((putQ (rT r s) 3 ((gI l i).s) ((gI l i).t)).1) ((makeR s ((gI l i).s) ((gI l i).t)).1))), (b1, dObj b3 q ((makeR s ((gI l i).s) ((gI l i).t)).1)), (b3, mObj ((makeR s ((gI l i).s) ((gI l i).t)).1.kept))])] [(.bool true)] [0, 4, 5, 6, 7, 8] [(8, .bool true), (92, .bool true), (90, .str ((gI l i).t)), (89, .ptr ⟨b5, 2, none⟩), (88, .str ((gI l i).s)), (87, .ptr ⟨b5, 1, none⟩), (86, .ptr ⟨b4, 0, none⟩), (84, .str ((gI l i).t)), (83, .ptr ⟨b5, 2, none⟩), (82, .str ((gI l i).s)), (81, .ptr ⟨b5, 1, none⟩), (80, .ptr ⟨b1, 0, none⟩), (85, .err 108 ((makeR s ((gI l i).s) ((gI l i).t)).2)), (91, .int .i64 ((makeR s ((gI l i).s) ((gI l i).t)).2)), (0, .slice false (l.map actAV)), (4, .ptr ⟨b1, 0, none⟩), (5, .ptr ⟨b4, 0, none⟩), (6, .int .i64 i), (7, .ptr ⟨b5, 0, none⟩), (8, .bool true), (35, .str ((gI l i).kind)), (78, .bool (((gI l i).kind) == ([109, 97, 107, 101] : List UInt8)))] (AMem.wth m [(b5, actObj (gI l i)), (q, mObj ((makeR s ((gI l i).s) ((gI l i).t)).1.now)), (b4, rObj (rT ((putQ (rT r s) 3 ((gI l i).s) ((gI l i).t)).1) ((makeR s ((gI l i).s) ((gI l i).t)).1))), (b1, dObj b3 q ((makeR s ((gI l i).s) ((gI l i).t)).1)), (b3, mObj ((makeR s ((gI l i).s) ((gI l i).t)).1.kept))]) (by decide) (by decide) (by decide) rfl rfl rfl rfl ?_ ?_ ?_
   ·
    refine ⟨?_, ?_, trivial⟩
    ·
     exact mem_call (wth_split (m := m) (L := [(b5, actObj (gI l i)), (q, mObj s.now), (b4, rObj (rT r s)), (b1, dObj b3 q s), (b3, mObj s.kept)]) hNb5 (pick_perm [3, 1, 2] _)) (wth_split (m := m) (L := [(b5, actObj (gI l i)), (q, mObj ((makeR s ((gI l i).s) ((gI l i).t)).1.now)), (b4, rObj (rT r s)), (b1, dObj b3 q ((makeR s ((gI l i).s) ((gI l i).t)).1)), (b3, mObj ((makeR s ((gI l i).s) ((gI l i).t)).1.kept))]) hNb5 (pick_perm [3, 1, 2] _)) (fun Kc hKc => u_Make3 b1 b3 q s ((gI l i).s) ((gI l i).t) i.toNat (by have q := hNb5; simp at q ⊢; omega) hI.2.2.2.inv (by omega) (by first | assumption | exact hba.1 | exact hba.2.1) (by first | assumption | exact hba.1 | exact hba.2.1) _ Kc hKc)
    ·
     exact mem_call (wth_split (m := m) (L := [(b5, actObj (gI l i)), (q, mObj ((makeR s ((gI l i).s) ((gI l i).t)).1.now)), (b4, rObj (rT r s)), (b1, dObj b3 q ((makeR s ((gI l i).s) ((gI l i).t)).1)), (b3, mObj ((makeR s ((gI l i).s) ((gI l i).t)).1.kept))]) hNb5 (pick_perm [2] _)) (wth_split (m := m) (L := [(b5, actObj (gI l i)), (q, mObj ((makeR s ((gI l i).s) ((gI l i).t)).1.now)), (b4, rObj (rT ((putQ (rT r s) 3 ((gI l i).s) ((gI l i).t)).1) ((makeR s ((gI l i).s) ((gI l i).t)).1))), (b1, dObj b3 q ((makeR s ((gI l i).s) ((gI l i).t)).1)), (b3, mObj ((makeR s ((gI l i).s) ((gI l i).t)).1.kept))]) hNb5 (pick_perm [2] _)) (fun Kc hKc => u_QPutT b4 hI.2.2.2 (by omega) 3 ((gI l i).s) ((gI l i).t) (makeR s ((gI l i).s) ((gI l i).t)) (hI.2.2.2.make ((gI l i).s) ((gI l i).t)) (by first | assumption | exact hba.1 | exact hba.2.1) (by first | assumption | exact hba.1 | exact hba.2.1) _ Kc hKc)
   ·
    refine ⟨?_, ?_, ?_, trivial⟩
    ·
     show pseq _ _ _ _ _ [(85, .err 108 ((makeR s ((gI l i).s) ((gI l i).t)).2)), (91, .int .i64 ((makeR s ((gI l i).s) ((gI l i).t)).2)), (0, .slice false (l.map actAV)), (4, .ptr ⟨b1, 0, none⟩), (5, .ptr ⟨b4, 0, none⟩), (6, .int .i64 i), (7, .ptr ⟨b5, 0, none⟩), (8, .bool true), (35, .str ((gI l i).kind)), (78, .bool (((gI l i).kind) == ([109, 97, 107, 101] : List UInt8)))] _
     refine ⟨trivial, ⟨rfl, by decide⟩, ?_⟩
     refine pq_loadp rfl (v := .str ((gI l i).s)) rfl (wth_get 0 hNb5 rfl) (apartOk_one rfl rfl (Nat.le_of_ble_eq_true rfl)) rfl ?_
     refine ⟨⟨rfl, by decide⟩, ?_⟩
     refine pq_loadp rfl (v := .str ((gI l i).t)) rfl (wth_get 0 hNb5 rfl) (apartOk_one rfl rfl (Nat.le_of_ble_eq_true rfl)) rfl ?_
     refine ⟨trivial, ⟨rfl, by decide⟩, ?_⟩
     refine pq_loadp rfl (v := .str ((gI l i).s)) rfl (wth_get 0 hNb5 rfl) (apartOk_one rfl rfl (Nat.le_of_ble_eq_true rfl)) rfl ?_
     refine ⟨⟨rfl, by decide⟩, ?_⟩
     refine pq_loadp rfl (v := .str ((gI l i).t)) rfl (wth_get 0 hNb5 rfl) (apartOk_one rfl rfl (Nat.le_of_ble_eq_true rfl)) rfl ?_
     refine ⟨(fun Kc hKc => u_same_eq ((makeR s ((gI l i).s) ((gI l i).t)).2) (by first | decide | assumption | exact listR_nn _ | exact readR_nn _ _ | exact writeR_nn _ _ _ | exact appR_nn _ _ _ | exact makeR_nn _ _ _ | exact moveR_nn _ _ _ | exact remR_nn _ _ | exact syncF_nn _ | exact (stepF_keep _).2.2.2) _ Kc hKc), trivial, ?_⟩
     exact rfl
    ·
     show pseq _ _ _ _ _ [(85, .err 108 ((makeR s ((gI l i).s) ((gI l i).t)).2)), (91, .int .i64 ((makeR s ((gI l i).s) ((gI l i).t)).2)), (0, .slice false (l.map actAV)), (4, .ptr ⟨b1, 0, none⟩), (5, .ptr ⟨b4, 0, none⟩), (6, .int .i64 i), (7, .ptr ⟨b5, 0, none⟩), (8, .bool true), (35, .str ((gI l i).kind)), (78, .bool (((gI l i).kind) == ([109, 97, 107, 101] : List UInt8)))] _
     refine ⟨trivial, ⟨rfl, by decide⟩, ?_⟩
     refine pq_loadp rfl (v := .str ((gI l i).s)) rfl (wth_get 0 hNb5 rfl) (apartOk_one rfl rfl (Nat.le_of_ble_eq_true rfl)) rfl ?_
     refine ⟨⟨rfl, by decide⟩, ?_⟩
     refine pq_loadp rfl (v := .str ((gI l i).t)) rfl (wth_get 0 hNb5 rfl) (apartOk_one rfl rfl (Nat.le_of_ble_eq_true rfl)) rfl ?_
     refine ⟨trivial, ⟨rfl, by decide⟩, ?_⟩
     refine pq_loadp rfl (v := .str ((gI l i).s)) rfl (wth_get 0 hNb5 rfl) (apartOk_one rfl rfl (Nat.le_of_ble_eq_true rfl)) rfl ?_
     refine ⟨⟨rfl, by decide⟩, ?_⟩
     refine pq_loadp rfl (v := .str ((gI l i).t)) rfl (wth_get 0 hNb5 rfl) (apartOk_one rfl rfl (Nat.le_of_ble_eq_true rfl)) rfl ?_
     refine ⟨(fun Kc hKc => u_same_eq ((makeR s ((gI l i).s) ((gI l i).t)).2) (by first | decide | assumption | exact listR_nn _ | exact readR_nn _ _ | exact writeR_nn _ _ _ | exact appR_nn _ _ _ | exact makeR_nn _ _ _ | exact moveR_nn _ _ _ | exact remR_nn _ _ | exact syncF_nn _ | exact (stepF_keep _).2.2.2) _ Kc hKc), trivial, ?_⟩
     exact rfl
    ·
     show pseq _ _ _ _ _ [(85, .err 108 ((makeR s ((gI l i).s) ((gI l i).t)).2)), (91, .int .i64 ((makeR s ((gI l i).s) ((gI l i).t)).2)), (0, .slice false (l.map actAV)), (4, .ptr ⟨b1, 0, none⟩), (5, .ptr ⟨b4, 0, none⟩), (6, .int .i64 i), (7, .ptr ⟨b5, 0, none⟩), (8, .bool true), (35, .str ((gI l i).kind)), (78, .bool (((gI l i).kind) == ([109, 97, 107, 101] : List UInt8)))] _
     refine ⟨trivial, ⟨rfl, by decide⟩, ?_⟩
     refine pq_loadp rfl (v := .str ((gI l i).s)) rfl (wth_get 0 hNb5 rfl) (apartOk_one rfl rfl (Nat.le_of_ble_eq_true rfl)) rfl ?_
     refine ⟨⟨rfl, by decide⟩, ?_⟩
     refine pq_loadp rfl (v := .str ((gI l i).t)) rfl (wth_get 0 hNb5 rfl) (apartOk_one rfl rfl (Nat.le_of_ble_eq_true rfl)) rfl ?_
     refine ⟨trivial, ⟨rfl, by decide⟩, ?_⟩
     refine pq_loadp rfl (v := .str ((gI l i).s)) rfl (wth_get 0 hNb5 rfl) (apartOk_one rfl rfl (Nat.le_of_ble_eq_true rfl)) rfl ?_
     refine ⟨⟨rfl, by decide⟩, ?_⟩
     refine pq_loadp rfl (v := .str ((gI l i).t)) rfl (wth_get 0 hNb5 rfl) (apartOk_one rfl rfl (Nat.le_of_ble_eq_true rfl)) rfl ?_
     refine ⟨(fun Kc hKc => u_same_eq ((makeR s ((gI l i).s) ((gI l i).t)).2) (by first | decide | assumption | exact listR_nn _ | exact readR_nn _ _ | exact writeR_nn _ _ _ | exact appR_nn _ _ _ | exact makeR_nn _ _ _ | exact moveR_nn _ _ _ | exact remR_nn _ _ | exact syncF_nn _ | exact (stepF_keep _).2.2.2) _ Kc hKc), trivial, ?_⟩
     exact rfl
   intro K1 hK1
   show K1 [(0, .slice false (l.map actAV)), (4, .ptr ⟨b1, 0, none⟩), (5, .ptr ⟨b4, 0, none⟩), (6, .int .i64 i), (7, .ptr ⟨b5, 0, none⟩), (8, .bool true)] (AMem.wth m [(b5, actObj (gI l i)), (q, mObj ((makeR s ((gI l i).s) ((gI l i).t)).1.now)), (b4, rObj (rT ((putQ (rT r s) 3 ((gI l i).s) ((gI l i).t)).1) ((makeR s ((gI l i).s) ((gI l i).t)).1))), (b1, dObj b3 q ((makeR s ((gI l i).s) ((gI l i).t)).1)), (b3, mObj ((makeR s ((gI l i).s) ((gI l i).t)).1.kept))])
   refine hK1 _ _ ?_; clear hK1 K1
   have hT2 := (hI.2.2.2.make (gI l i).s (gI l i).t).t
   generalize (makeR s ((gI l i).s) ((gI l i).t)).1 = s2 at hT2 ⊢
   generalize (putQ (rT r s) 3 ((gI l i).s) ((gI l i).t)).1 = r2 at hT2 ⊢
   refine hK6 _ _ ?_; clear hK6
   refine awp_draw_seq Try.mixed [(.bool (nameF ((gI l i).s))), (.bool (nameF ((gI l i).s))), (.bool s2.down), (.int .i64 s2.steps), (.bool true)] [0, 4, 5, 6, 208] (by decide) (by decide) ?_
   intro K1 hK1
   suffices key : K1 [(0, .slice false (l.map actAV)), (4, .ptr ⟨b1, 0, none⟩), (5, .ptr ⟨b4, 0, none⟩), (6, .int .i64 i), (208, .bool ((!((Int.tmod i 9) == 0)) && false))] (AMem.wth m [(b5, actObj (gI l i)), (q, mObj s2.now), (b4, rObj (rT r2 s2)), (b1, dObj b3 q s2), (b3, mObj s2.kept)]) by
    refine ⟨trivial, trivial, trivial, ⟨rfl, by decide⟩, ?_⟩
    refine pq_loadp rfl (v := .str ((gI l i).s)) rfl (wth_get 0 hNb5 rfl) (apartOk_one rfl rfl (Nat.le_of_ble_eq_true rfl)) rfl ?_
    refine ⟨(fun Kc hKc => u_Name ((gI l i).s) (by first | assumption | exact hba.1 | exact hba.2.1) _ Kc hKc), ⟨rfl, by decide⟩, ?_⟩
    refine pq_loadp rfl (v := .str ((gI l i).s)) rfl (wth_get 0 hNb5 rfl) (apartOk_one rfl rfl (Nat.le_of_ble_eq_true rfl)) rfl ?_
    refine ⟨(fun Kc hKc => u_FileMay ((gI l i).s) (by first | assumption | exact hba.1 | exact hba.2.1) _ Kc hKc), rfl, ?_⟩
    refine pq_top 178 (.bool false) (congrArg AV.bool (by simp)) ?_
    refine ⟨trivial, ?_⟩
    refine ⟨trivial, trivial, (pure_mem (wth_split (m := m) (L := [(b5, actObj (gI l i)), (q, mObj s2.now), (b4, rObj (rT r2 s2)), (b1, dObj b3 q s2), (b3, mObj s2.kept)]) hNb5 (pick_perm [3] _)) (fun Kc hKc => u_Down b1 b3 q s2 _ Kc hKc)), trivial, trivial, ⟨rfl, by decide⟩, ?_⟩
    refine pq_loadp rfl (v := .bool s2.down) rfl (wth_get 2 hNb5 rfl) (apartOk_one rfl rfl (Nat.le_of_ble_eq_true rfl)) rfl ?_
    refine ⟨rfl, ?_⟩
    refine pq_top 187 (.bool false) (congrArg AV.bool (by simp)) ?_
    refine ⟨trivial, ?_⟩
    refine ⟨trivial, trivial, (pure_mem (wth_split (m := m) (L := [(b5, actObj (gI l i)), (q, mObj s2.now), (b4, rObj (rT r2 s2)), (b1, dObj b3 q s2), (b3, mObj s2.kept)]) hNb5 (pick_perm [3] _)) (fun Kc hKc => u_Steps b1 b3 q s2 _ Kc hKc)), trivial, trivial, ⟨rfl, by decide⟩, ?_⟩
    refine pq_loadp rfl (v := .int .i64 s2.steps) rfl (wth_get 2 hNb5 rfl) (apartOk_one rfl rfl (Nat.le_of_ble_eq_true rfl)) rfl ?_
    refine ⟨trivial, ?_⟩
    refine pq_top 196 (.bool false) (congrArg AV.bool (by simp)) ?_
    refine ⟨trivial, ?_⟩
    refine ⟨trivial, trivial, (by exact rem_ok 9 (by decide) hI.1 (by decide)), trivial, trivial, ?_⟩
    show pseq _ _ _ _ _ [(202, .bool ((Int.tmod i 9) == 0)), (201, .bool ((Int.tmod i 9) == 0)), (200, .int .i64 (Int.tmod i 9)), (199, .int .i64 i), (198, .bool false), (197, .bool false), (196, .bool false), (195, .int .i64 s2.steps), (194, .ptr ⟨b4, 5, none⟩), (193, .ptr ⟨b4, 0, none⟩), (192, .ptr ⟨b4, 0, none⟩), (191, .int .i64 s2.steps), (190, .ptr ⟨b1, 0, none⟩), (189, .bool false), (188, .bool false), (187, .bool false), (186, .bool s2.down), (185, .ptr ⟨b4, 4, none⟩), (184, .ptr ⟨b4, 0, none⟩), (183, .ptr ⟨b4, 0, none⟩), (182, .bool s2.down), (181, .ptr ⟨b1, 0, none⟩), (180, .bool false), (179, .bool false), (178, .bool false), (177, .bool (nameF ((gI l i).s))), (176, .str ((gI l i).s)), (175, .ptr ⟨b5, 1, none⟩), (174, .bool (nameF ((gI l i).s))), (173, .str ((gI l i).s)), (172, .ptr ⟨b5, 1, none⟩), (171, .bool false), (170, .bool false), (169, .bool true), (0, .slice false (l.map actAV)), (4, .ptr ⟨b1, 0, none⟩), (5, .ptr ⟨b4, 0, none⟩), (6, .int .i64 i), (7, .ptr ⟨b5, 0, none⟩), (8, .bool true)] _
    refine (bool_ff (((Int.tmod i 9) == 0))).elim (fun h10 => ?_) (fun h10 => ?_)
    ·
     refine pq_frame [(202, .bool false), (201, .bool false), (200, .int .i64 (Int.tmod i 9)), (199, .int .i64 i), (198, .bool false), (197, .bool false), (196, .bool false), (195, .int .i64 s2.steps), (194, .ptr ⟨b4, 5, none⟩), (193, .ptr ⟨b4, 0, none⟩), (192, .ptr ⟨b4, 0, none⟩), (191, .int .i64 s2.steps), (190, .ptr ⟨b1, 0, none⟩), (189, .bool false), (188, .bool false), (187, .bool false), (186, .bool s2.down), (185, .ptr ⟨b4, 4, none⟩), (184, .ptr ⟨b4, 0, none⟩), (183, .ptr ⟨b4, 0, none⟩), (182, .bool s2.down), (181, .ptr ⟨b1, 0, none⟩), (180, .bool false), (179, .bool false), (178, .bool false), (177, .bool (nameF ((gI l i).s))), (176, .str ((gI l i).s)), (175, .ptr ⟨b5, 1, none⟩), (174, .bool (nameF ((gI l i).s))), (173, .str ((gI l i).s)), (172, .ptr ⟨b5, 1, none⟩), (171, .bool false), (170, .bool false), (169, .bool true), (0, .slice false (l.map actAV)), (4, .ptr ⟨b1, 0, none⟩), (5, .ptr ⟨b4, 0, none⟩), (6, .int .i64 i), (7, .ptr ⟨b5, 0, none⟩), (8, .bool true)] (by first | (rw [h10]; done) | (rw [h10]; rfl)) ?_
     try rw [h10] at key
     replace h10 : Int.tmod i 9 ≠ 0 := (ne_of_beq_false h10)
     refine pq_off rfl rfl ?_
     refine pq_off rfl rfl ?_
     refine pq_offc rfl ?_
     refine pq_off rfl rfl ?_
     refine ⟨trivial, ?_⟩
     refine ⟨trivial, ?_⟩
     exact key
    ·
     refine pq_frame [(202, .bool true), (201, .bool true), (200, .int .i64 (Int.tmod i 9)), (199, .int .i64 i), (198, .bool false), (197, .bool false), (196, .bool false), (195, .int .i64 s2.steps), (194, .ptr ⟨b4, 5, none⟩), (193, .ptr ⟨b4, 0, none⟩), (192, .ptr ⟨b4, 0, none⟩), (191, .int .i64 s2.steps), (190, .ptr ⟨b1, 0, none⟩), (189, .bool false), (188, .bool false), (187, .bool false), (186, .bool s2.down), (185, .ptr ⟨b4, 4, none⟩), (184, .ptr ⟨b4, 0, none⟩), (183, .ptr ⟨b4, 0, none⟩), (182, .bool s2.down), (181, .ptr ⟨b1, 0, none⟩), (180, .bool false), (179, .bool false), (178, .bool false), (177, .bool (nameF ((gI l i).s))), (176, .str ((gI l i).s)), (175, .ptr ⟨b5, 1, none⟩), (174, .bool (nameF ((gI l i).s))), (173, .str ((gI l i).s)), (172, .ptr ⟨b5, 1, none⟩), (171, .bool false), (170, .bool false), (169, .bool true), (0, .slice false (l.map actAV)), (4, .ptr ⟨b1, 0, none⟩), (5, .ptr ⟨b4, 0, none⟩), (6, .int .i64 i), (7, .ptr ⟨b5, 0, none⟩), (8, .bool true)] (by first | (rw [h10]; done) | (rw [h10]; rfl)) ?_
     try rw [h10] at key
     replace h10 : Int.tmod i 9 = 0 := (eq_of_beq h10)
     refine ⟨trivial, trivial, (pure_mem (wth_split (m := m) (L := [(b5, actObj (gI l i)), (q, mObj s2.now), (b4, rObj (rT r2 s2)), (b1, dObj b3 q s2), (b3, mObj s2.kept)]) hNb5 (pick_perm [3, 1, 1] _)) (fun Kc hKc => u_asDisk b1 b3 q b4 s2 r2 (i.toNat + 1) (by have q := hNb5; simp at q ⊢; omega) hT2 (by omega) _ Kc hKc)), trivial, trivial, ?_⟩
     refine ⟨trivial, ?_⟩
     exact key
   refine hK1 _ _ ?_; clear hK1 K1
   refine awp_cond rfl rfl (fun h11 => ?_) (fun h11 => ?_)
   ·
    replace h11 : (Int.tmod i 9 ≠ 0) ∧ (False) := ⟨(ne_of_beq_false (bnT (bandL h11))), (by cases (bandR h11))⟩
    refine awp_reg2_seq [] [2] (by decide) ?_
    intro K1 hK1
    refine ⟨trivial, ?_⟩
    show K1 [(2, .bool false)] (AMem.wth m [(b5, actObj (gI l i)), (q, mObj s2.now), (b4, rObj (rT r2 s2)), (b1, dObj b3 q s2), (b3, mObj s2.kept)])
    refine hK1 _ _ ?_; clear hK1 K1
    refine awp_ret ?_
    refine ⟨trivial, m, (wth_sub2 (m := m) [(b5, actObj (gI l i)), (q, mObj s2.now), (b4, rObj (rT r2 s2)), (b1, dObj b3 q s2), (b3, mObj s2.kept)] [] hNb5 (by simp only [List.map_cons, List.map_nil, List.forall_mem_cons]; exact ⟨hFb5, hFq, hFb4, hFb1, hFb3, fun _ h => by cases h⟩)), ?_⟩
    show K (.bool false) m
   
    first | exact hK | exact absurd (‹(Int.tmod i 9 ≠ 0) ∧ False›).2 id
   replace h11 : (Int.tmod i 9 = 0) ∨ (True) := ((bandF h11).imp (fun q => (eq_of_beq (bnF q))) (fun q => trivial))
   refine awp_skip ?_
   refine hK5 _ _ ?_; clear hK5
   have hNd4 : ([q, b4, b1, b3] : List Nat).Nodup := drop_nodup (L := [(b5, actObj (gI l i)), (q, mObj s2.now), (b4, rObj (rT r2 s2)), (b1, dObj b3 q s2), (b3, mObj s2.kept)]) hNb5 (pick_perm [0] _)
   refine awp_dropP [(b5, actObj (gI l i))] [(q, mObj s2.now), (b4, rObj (rT r2 s2)), (b1, dObj b3 q s2), (b3, mObj s2.kept)] hNb5 (pick_perm [0] _) (by simp only [List.map_cons, List.map_nil, List.forall_mem_cons]; exact ⟨hFb5, fun _ h => by cases h⟩) ?_
   refine awp_reg2 [] [0, 4, 5, 6] (by decide) ?_
   intro K1 hK1
   refine ⟨trivial, ?_⟩
   refine ar_add rfl (a := i) (b := 1) rfl rfl (by omega) (by omega) ?_
   refine ⟨trivial, ?_⟩
   show K1 [(0, .slice false (l.map actAV)), (4, .ptr ⟨b1, 0, none⟩), (5, .ptr ⟨b4, 0, none⟩), (6, .int .i64 (i + 1))] (AMem.wth m [(q, mObj s2.now), (b4, rObj (rT r2 s2)), (b1, dObj b3 q s2), (b3, mObj s2.kept)])
   refine hK1 _ _ ?_; clear hK1 K1
   refine ⟨(i + 1, q, r2, s2), rfl, rfl, ?_, ?_⟩
   ·
    show ([q, b4, b1, b3] : List Nat).Nodup ∧ m q = none ∧ (0 ≤ ((i + 1 : Int)) ∧ ((i + 1 : Int)) ≤ l.length ∧ l.length ≤ 100 ∧ Two ((s2 : DSt)) ((r2 : RSt)) ((i + 1 : Int)).toNat)
    refine ⟨hNd4, hFq, ?_⟩
    refine ⟨by omega, by omega, hI.2.2.1, ?_⟩
    rw [show (i + 1).toNat = i.toNat + 1 from by omega]
    first | exact hT2 | exact hI.2.2.2.mono (Nat.le_succ _)
   ·
    show l.length - ((i + 1 : Int)).toNat < l.length - i.toNat
    omega
  replace h9 : (gI l i).kind ≠ ([109, 97, 107, 101] : List UInt8) := (ne_of_beq_false h9)
  refine awp_reg2_seq [] [0, 4, 5, 6, 7, 8, 35, 93] (by decide) ?_
  intro K1 hK1
  refine ⟨trivial, trivial, ?_⟩
  show K1 [(0, .slice false (l.map actAV)), (4, .ptr ⟨b1, 0, none⟩), (5, .ptr ⟨b4, 0, none⟩), (6, .int .i64 i), (7, .ptr ⟨b5, 0, none⟩), (8, .bool true), (35, .str ((gI l i).kind)), (93, .bool (((gI l i).kind) == ([109, 111, 118, 101] : List UInt8)))] (AMem.wth m [(b5, actObj (gI l i)), (q, mObj s.now), (b4, rObj (rT r s)), (b1, dObj b3 q s), (b3, mObj s.kept)])
  refine hK1 _ _ ?_; clear hK1 K1
  refine awp_cond rfl rfl (fun h12 => ?_) (fun h12 => ?_)
  ·
   replace h12 : (gI l i).kind = ([109, 111, 118, 101] : List UInt8) := (eq_of_beq h12)
   refine awp_draw_memP Try.mixed [(5, 100), (11, 106)] [(5, 100, .err 108 ((moveR s ((gI l i).s) ((gI l i).t)).2)), (11, 106, .int .i64 ((moveR s ((gI l i).s) ((gI l i).t)).2))] [(AMem.wth m [(b5, actObj (gI l i)), (q, mObj s.now), (b4, rObj (rT r s)), (b1, dObj b3 q s), (b3, mObj s.kept)]), (AMem.wth m [(b5, actObj (gI l i)), (q, mObj ((moveR s ((gI l i).s) ((gI l i).t)).1.now)), (b4, rObj (rT r s)), (b1, dObj b3 q ((moveR s ((gI l i).s) ((gI l i).t)).1)), (b3, mObj ((moveR s ((gI l i).s) ((gI l i).t)).1.kept))]), (AMem.wth m [(b5, actObj (gI l i)), (q, mObj ((moveR s ((gI l i).s) ((gI l i).t)).1.now)), (b4, rObj (rT ((moveQ (rT r s) ((gI l i).s) ((gI l i).t)).1) ((moveR s ((gI l i).s) ((gI l i).t)).1))), (b1, dObj b3 q ((moveR s ((gI l i).s) ((gI l i).t)).1)), (b3, mObj ((moveR s ((gI l i).s) ((gI l i).t)).1.kept))])] [(.bool true)] [0, 4, 5, 6, 7, 8] [(8, .bool true), (107, .bool true), (105, .str ((gI l i).t)), (104, .ptr ⟨b5, 2, none⟩), (103, .str ((gI l i).s)), (102, .ptr ⟨b5, 1, none⟩), (101, .ptr ⟨b4, 0, none⟩), (99, .str ((gI l i).t)), (98, .ptr ⟨b5, 2, none⟩), (97, .str ((gI l i).s)), (96, .ptr ⟨b5, 1, none⟩), (95, .ptr ⟨b1, 0, none⟩), (100, .err 108 ((moveR s ((gI l i).s) ((gI l i).t)).2)), (106, .int .i64 ((moveR s ((gI l i).s) ((gI l i).t)).2)), (0, .slice false (l.map actAV)), (4, .ptr ⟨b1, 0, none⟩), (5, .ptr ⟨b4, 0, none⟩), (6, .int .i64 i), (7, .ptr ⟨b5, 0, none⟩), (8, .bool true), (35, .str ((gI l i).kind)), (93, .bool (((gI l i).kind) == ([109, 111, 118, 101] : List UInt8)))] (AMem.wth m [(b5, actObj (gI l i)), (q, mObj ((moveR s ((gI l i).s) ((gI l i).t)).1.now)), (b4, rObj (rT ((moveQ (rT r s) ((gI l i).s) ((gI l i).t)).1) ((moveR s ((gI l i).s) ((gI l i).t)).1))), (b1, dObj b3 q ((moveR s ((gI l i).s) ((gI l i).t)).1)), (b3, mObj ((moveR s ((gI l i).s) ((gI l i).t)).1.kept))]) (by decide) (by decide) (by decide) rfl rfl rfl rfl ?_ ?_ ?_
   ·
    refine ⟨?_, ?_, trivial⟩
    ·
     exact mem_call (wth_split (m := m) (L := [(b5, actObj (gI l i)), (q, mObj s.now), (b4, rObj (rT r s)), (b1, dObj b3 q s), (b3, mObj s.kept)]) hNb5 (pick_perm [3, 1, 2] _)) (wth_split (m := m) (L := [(b5, actObj (gI l i)), (q, mObj ((moveR s ((gI l i).s) ((gI l i).t)).1.now)), (b4, rObj (rT r s)), (b1, dObj b3 q ((moveR s ((gI l i).s) ((gI l i).t)).1)), (b3, mObj ((moveR s ((gI l i).s) ((gI l i).t)).1.kept))]) hNb5 (pick_perm [3, 1, 2] _)) (fun Kc hKc => u_Move3 b1 b3 q s ((gI l i).s) ((gI l i).t) i.toNat (by have q := hNb5; simp at q ⊢; omega) hI.2.2.2.inv (by omega) (by first | assumption | exact hba.1 | exact hba.2.1) (by first | assumption | exact hba.1 | exact hba.2.1) _ Kc hKc)
    ·
     exact mem_call (wth_split (m := m) (L := [(b5, actObj (gI l i)), (q, mObj ((moveR s ((gI l i).s) ((gI l i).t)).1.now)), (b4, rObj (rT r s)), (b1, dObj b3 q ((moveR s ((gI l i).s) ((gI l i).t)).1)), (b3, mObj ((moveR s ((gI l i).s) ((gI l i).t)).1.kept))]) hNb5 (pick_perm [2] _)) (wth_split (m := m) (L := [(b5, actObj (gI l i)), (q, mObj ((moveR s ((gI l i).s) ((gI l i).t)).1.now)), (b4, rObj (rT ((moveQ (rT r s) ((gI l i).s) ((gI l i).t)).1) ((moveR s ((gI l i).s) ((gI l i).t)).1))), (b1, dObj b3 q ((moveR s ((gI l i).s) ((gI l i).t)).1)), (b3, mObj ((moveR s ((gI l i).s) ((gI l i).t)).1.kept))]) hNb5 (pick_perm [2] _)) (fun Kc hKc => u_QMoveT b4 hI.2.2.2 (by omega) ((gI l i).s) ((gI l i).t) (moveR s ((gI l i).s) ((gI l i).t)) (hI.2.2.2.move ((gI l i).s) ((gI l i).t)) (by first | assumption | exact hba.1 | exact hba.2.1) (by first | assumption | exact hba.1 | exact hba.2.1) _ Kc hKc)
   ·
    refine ⟨?_, ?_, ?_, trivial⟩
    ·
     show pseq _ _ _ _ _ [(100, .err 108 ((moveR s ((gI l i).s) ((gI l i).t)).2)), (106, .int .i64 ((moveR s ((gI l i).s) ((gI l i).t)).2)), (0, .slice false (l.map actAV)), (4, .ptr ⟨b1, 0, none⟩), (5, .ptr ⟨b4, 0, none⟩), (6, .int .i64 i), (7, .ptr ⟨b5, 0, none⟩), (8, .bool true), (35, .str ((gI l i).kind)), (93, .bool (((gI l i).kind) == ([109, 111, 118, 101] : List UInt8)))] _
     refine ⟨trivial, ⟨rfl, by decide⟩, ?_⟩
     refine pq_loadp rfl (v := .str ((gI l i).s)) rfl (wth_get 0 hNb5 rfl) (apartOk_one rfl rfl (Nat.le_of_ble_eq_true rfl)) rfl ?_
     refine ⟨⟨rfl, by decide⟩, ?_⟩
     refine pq_loadp rfl (v := .str ((gI l i).t)) rfl (wth_get 0 hNb5 rfl) (apartOk_one rfl rfl (Nat.le_of_ble_eq_true rfl)) rfl ?_
     refine ⟨trivial, ⟨rfl, by decide⟩, ?_⟩
     refine pq_loadp rfl (v := .str ((gI l i).s)) rfl (wth_get 0 hNb5 rfl) (apartOk_one rfl rfl (Nat.le_of_ble_eq_true rfl)) rfl ?_
     refine ⟨⟨rfl, by decide⟩, ?_⟩
     refine pq_loadp rfl (v := .str ((gI l i).t)) rfl (wth_get 0 hNb5 rfl) (apartOk_one rfl rfl (Nat.le_of_ble_eq_true rfl)) rfl ?_
     refine ⟨(fun Kc hKc => u_same_eq ((moveR s ((gI l i).s) ((gI l i).t)).2) (by first | decide | assumption | exact listR_nn _ | exact readR_nn _ _ | exact writeR_nn _ _ _ | exact appR_nn _ _ _ | exact makeR_nn _ _ _ | exact moveR_nn _ _ _ | exact remR_nn _ _ | exact syncF_nn _ | exact (stepF_keep _).2.2.2) _ Kc hKc), trivial, ?_⟩
     exact rfl
    ·
     show pseq _ _ _ _ _ [(100, .err 108 ((moveR s ((gI l i).s) ((gI l i).t)).2)), (106, .int .i64 ((moveR s ((gI l i).s) ((gI l i).t)).2)), (0, .slice false (l.map actAV)), (4, .ptr ⟨b1, 0, none⟩), (5, .ptr ⟨b4, 0, none⟩), (6, .int .i64 i), (7, .ptr ⟨b5, 0, none⟩), (8, .bool true), (35, .str ((gI l i).kind)), (93, .bool (((gI l i).kind) == ([109, 111, 118, 101] : List UInt8)))] _
     refine ⟨trivial, ⟨rfl, by decide⟩, ?_⟩
     refine pq_loadp rfl (v := .str ((gI l i).s)) rfl (wth_get 0 hNb5 rfl) (apartOk_one rfl rfl (Nat.le_of_ble_eq_true rfl)) rfl ?_
     refine ⟨⟨rfl, by decide⟩, ?_⟩
     refine pq_loadp rfl (v := .str ((gI l i).t)) rfl (wth_get 0 hNb5 rfl) (apartOk_one rfl rfl (Nat.le_of_ble_eq_true rfl)) rfl ?_
     refine ⟨trivial, ⟨rfl, by decide⟩, ?_⟩
     refine pq_loadp rfl (v := .str ((gI l i).s)) rfl (wth_get 0 hNb5 rfl) (apartOk_one rfl rfl (Nat.le_of_ble_eq_true rfl)) rfl ?_
     refine ⟨⟨rfl, by decide⟩, ?_⟩
     refine pq_loadp rfl (v := .str ((gI l i).t)) rfl (wth_get 0 hNb5 rfl) (apartOk_one rfl rfl (Nat.le_of_ble_eq_true rfl)) rfl ?_
     refine ⟨(fun Kc hKc => u_same_eq ((moveR s ((gI l i).s) ((gI l i).t)).2) (by first | decide | assumption | exact listR_nn _ | exact readR_nn _ _ | exact writeR_nn _ _ _ | exact appR_nn _ _ _ | exact makeR_nn _ _ _ | exact moveR_nn _ _ _ | exact remR_nn _ _ | exact syncF_nn _ | exact (stepF_keep _).2.2.2) _ Kc hKc), trivial, ?_⟩
     exact rfl
    ·
     show pseq _ _ _ _ _ [(100, .err 108 ((moveR s ((gI l i).s) ((gI l i).t)).2)), (106, .int .i64 ((moveR s ((gI l i).s) ((gI l i).t)).2)), (0, .slice false (l.map actAV)), (4, .ptr ⟨b1, 0, none⟩), (5, .ptr ⟨b4, 0, none⟩), (6, .int .i64 i), (7, .ptr ⟨b5, 0, none⟩), (8, .bool true), (35, .str ((gI l i).kind)), (93, .bool (((gI l i).kind) == ([109, 111, 118, 101] : List UInt8)))] _
     refine ⟨trivial, ⟨rfl, by decide⟩, ?_⟩
     refine pq_loadp rfl (v := .str ((gI l i).s)) rfl (wth_get 0 hNb5 rfl) (apartOk_one rfl rfl (Nat.le_of_ble_eq_true rfl)) rfl ?_
     refine ⟨⟨rfl, by decide⟩, ?_⟩
     refine pq_loadp rfl (v := .str ((gI l i).t)) rfl (wth_get 0 hNb5 rfl) (apartOk_one rfl rfl (Nat.le_of_ble_eq_true rfl)) rfl ?_
     refine ⟨trivial, ⟨rfl, by decide⟩, ?_⟩
     refine pq_loadp rfl (v := .str ((gI l i).s)) rfl (wth_get 0 hNb5 rfl) (apartOk_one rfl rfl (Nat.le_of_ble_eq_true rfl)) rfl ?_
     refine ⟨⟨rfl, by decide⟩, ?_⟩
     refine pq_loadp rfl (v := .str ((gI l i).t)) rfl (wth_get 0 hNb5 rfl) (apartOk_one rfl rfl (Nat.le_of_ble_eq_true rfl)) rfl ?_
     refine ⟨(fun Kc hKc => u_same_eq ((moveR s ((gI l i).s) ((gI l i).t)).2) (by first | decide | assumption | exact listR_nn _ | exact readR_nn _ _ | exact writeR_nn _ _ _ | exact appR_nn _ _ _ | exact makeR_nn _ _ _ | exact moveR_nn _ _ _ | exact remR_nn _ _ | exact syncF_nn _ | exact (stepF_keep _).2.2.2) _ Kc hKc), trivial, ?_⟩
     exact rfl
   intro K1 hK1
   show K1 [(0, .slice false (l.map actAV)), (4, .ptr ⟨b1, 0, none⟩), (5, .ptr ⟨b4, 0, none⟩), (6, .int .i64 i), (7, .ptr ⟨b5, 0, none⟩), (8, .bool true)] (AMem.wth m [(b5, actObj (gI l i)), (q, mObj ((moveR s ((gI l i).s) ((gI l i).t)).1.now)), (b4, rObj (rT ((moveQ (rT r s) ((gI l i).s) ((gI l i).t)).1) ((moveR s ((gI l i).s) ((gI l i).t)).1))), (b1, dObj b3 q ((moveR s ((gI l i).s) ((gI l i).t)).1)), (b3, mObj ((moveR s ((gI l i).s) ((gI l i).t)).1.kept))])
   refine hK1 _ _ ?_; clear hK1 K1
   have hT2 := (hI.2.2.2.move (gI l i).s (gI l i).t).t
   generalize (moveR s ((gI l i).s) ((gI l i).t)).1 = s2 at hT2 ⊢
   generalize (moveQ (rT r s) ((gI l i).s) ((gI l i).t)).1 = r2 at hT2 ⊢
   refine hK6 _ _ ?_; clear hK6
   refine awp_draw_seq Try.mixed [(.bool (nameF ((gI l i).s))), (.bool (nameF ((gI l i).s))), (.bool s2.down), (.int .i64 s2.steps), (.bool true)] [0, 4, 5, 6, 208] (by decide) (by decide) ?_
   intro K1 hK1
   suffices key : K1 [(0, .slice false (l.map actAV)), (4, .ptr ⟨b1, 0, none⟩), (5, .ptr ⟨b4, 0, none⟩), (6, .int .i64 i), (208, .bool ((!((Int.tmod i 9) == 0)) && false))] (AMem.wth m [(b5, actObj (gI l i)), (q, mObj s2.now), (b4, rObj (rT r2 s2)), (b1, dObj b3 q s2), (b3, mObj s2.kept)]) by
    refine ⟨trivial, trivial, trivial, ⟨rfl, by decide⟩, ?_⟩
    refine pq_loadp rfl (v := .str ((gI l i).s)) rfl (wth_get 0 hNb5 rfl) (apartOk_one rfl rfl (Nat.le_of_ble_eq_true rfl)) rfl ?_
    refine ⟨(fun Kc hKc => u_Name ((gI l i).s) (by first | assumption | exact hba.1 | exact hba.2.1) _ Kc hKc), ⟨rfl, by decide⟩, ?_⟩
    refine pq_loadp rfl (v := .str ((gI l i).s)) rfl (wth_get 0 hNb5 rfl) (apartOk_one rfl rfl (Nat.le_of_ble_eq_true rfl)) rfl ?_
    refine ⟨(fun Kc hKc => u_FileMay ((gI l i).s) (by first | assumption | exact hba.1 | exact hba.2.1) _ Kc hKc), rfl, ?_⟩
    refine pq_top 178 (.bool false) (congrArg AV.bool (by simp)) ?_
    refine ⟨trivial, ?_⟩
    refine ⟨trivial, trivial, (pure_mem (wth_split (m := m) (L := [(b5, actObj (gI l i)), (q, mObj s2.now), (b4, rObj (rT r2 s2)), (b1, dObj b3 q s2), (b3, mObj s2.kept)]) hNb5 (pick_perm [3] _)) (fun Kc hKc => u_Down b1 b3 q s2 _ Kc hKc)), trivial, trivial, ⟨rfl, by decide⟩, ?_⟩
    refine pq_loadp rfl (v := .bool s2.down) rfl (wth_get 2 hNb5 rfl) (apartOk_one rfl rfl (Nat.le_of_ble_eq_true rfl)) rfl ?_
    refine ⟨rfl, ?_⟩
    refine pq_top 187 (.bool false) (congrArg AV.bool (by simp)) ?_
    refine ⟨trivial, ?_⟩
    refine ⟨trivial, trivial, (pure_mem (wth_split (m := m) (L := [(b5, actObj (gI l i)), (q, mObj s2.now), (b4, rObj (rT r2 s2)), (b1, dObj b3 q s2), (b3, mObj s2.kept)]) hNb5 (pick_perm [3] _)) (fun Kc hKc => u_Steps b1 b3 q s2 _ Kc hKc)), trivial, trivial, ⟨rfl, by decide⟩, ?_⟩
    refine pq_loadp rfl (v := .int .i64 s2.steps) rfl (wth_get 2 hNb5 rfl) (apartOk_one rfl rfl (Nat.le_of_ble_eq_true rfl)) rfl ?_
    refine ⟨trivial, ?_⟩
    refine pq_top 196 (.bool false) (congrArg AV.bool (by simp)) ?_
    refine ⟨trivial, ?_⟩
    refine ⟨trivial, trivial, (by exact rem_ok 9 (by decide) hI.1 (by decide)), trivial, trivial, ?_⟩
    show pseq _ _ _ _ _ [(202, .bool ((Int.tmod i 9) == 0)), (201, .bool ((Int.tmod i 9) == 0)), (200, .int .i64 (Int.tmod i 9)), (199, .int .i64 i), (198, .bool false), (197, .bool false), (196, .bool false), (195, .int .i64 s2.steps), (194, .ptr ⟨b4, 5, none⟩), (193, .ptr ⟨b4, 0, none⟩), (192, .ptr ⟨b4, 0, none⟩), (191, .int .i64 s2.steps), (190, .ptr ⟨b1, 0, none⟩), (189, .bool false), (188, .bool false), (187, .bool false), (186, .bool s2.down), (185, .ptr ⟨b4, 4, none⟩), (184, .ptr ⟨b4, 0, none⟩), (183, .ptr ⟨b4, 0, none⟩), (182, .bool s2.down), (181, .ptr ⟨b1, 0, none⟩), (180, .bool false), (179, .bool false), (178, .bool false), (177, .bool (nameF ((gI l i).s))), (176, .str ((gI l i).s)), (175, .ptr ⟨b5, 1, none⟩), (174, .bool (nameF ((gI l i).s))), (173, .str ((gI l i).s)), (172, .ptr ⟨b5, 1, none⟩), (171, .bool false), (170, .bool false), (169, .bool true), (0, .slice false (l.map actAV)), (4, .ptr ⟨b1, 0, none⟩), (5, .ptr ⟨b4, 0, none⟩), (6, .int .i64 i), (7, .ptr ⟨b5, 0, none⟩), (8, .bool true)] _
    refine (bool_ff (((Int.tmod i 9) == 0))).elim (fun h13 => ?_) (fun h13 => ?_)
    ·
     refine pq_frame [(202, .bool false), (201, .bool false), (200, .int .i64 (Int.tmod i 9)), (199, .int .i64 i), (198, .bool false), (197, .bool false), (196, .bool false), (195, .int .i64 s2.steps), (194, .ptr ⟨b4, 5, none⟩), (193, .ptr ⟨b4, 0, none⟩), (192, .ptr ⟨b4, 0, none⟩), (191, .int .i64 s2.steps), (190, .ptr ⟨b1, 0, none⟩), (189, .bool false), (188, .bool false), (187, .bool false), (186, .bool s2.down), (185, .ptr ⟨b4, 4, none⟩), (184, .ptr ⟨b4, 0, none⟩), (183, .ptr ⟨b4, 0, none⟩), (182, .bool s2.down), (181, .ptr ⟨b1, 0, none⟩), (180, .bool false), (179, .bool false), (178, .bool false), (177, .bool (nameF ((gI l i).s))), (176, .str ((gI l i).s)), (175, .ptr ⟨b5, 1, none⟩), (174, .bool (nameF ((gI l i).s))), (173, .str ((gI l i).s)), (172, .ptr ⟨b5, 1, none⟩), (171, .bool false), (170, .bool false), (169, .bool true), (0, .slice false (l.map actAV)), (4, .ptr ⟨b1, 0, none⟩), (5, .ptr ⟨b4, 0, none⟩), (6, .int .i64 i), (7, .ptr ⟨b5, 0, none⟩), (8, .bool true)] (by first | (rw [h13]; done) | (rw [h13]; rfl)) ?_
     try rw [h13] at key
     replace h13 : Int.tmod i 9 ≠ 0 := (ne_of_beq_false h13)
     refine pq_off rfl rfl ?_
     refine pq_off rfl rfl ?_
     refine pq_offc rfl ?_
     refine pq_off rfl rfl ?_
     refine ⟨trivial, ?_⟩
     refine ⟨trivial, ?_⟩
     exact key
    ·
     refine pq_frame [(202, .bool true), (201, .bool true), (200, .int .i64 (Int.tmod i 9)), (199, .int .i64 i), (198, .bool false), (197, .bool false), (196, .bool false), (195, .int .i64 s2.steps), (194, .ptr ⟨b4, 5, none⟩), (193, .ptr ⟨b4, 0, none⟩), (192, .ptr ⟨b4, 0, none⟩), (191, .int .i64 s2.steps), (190, .ptr ⟨b1, 0, none⟩), (189, .bool false), (188, .bool false), (187, .bool false), (186, .bool s2.down), (185, .ptr ⟨b4, 4, none⟩), (184, .ptr ⟨b4, 0, none⟩), (183, .ptr ⟨b4, 0, none⟩), (182, .bool s2.down), (181, .ptr ⟨b1, 0, none⟩), (180, .bool false), (179, .bool false), (178, .bool false), (177, .bool (nameF ((gI l i).s))), (176, .str ((gI l i).s)), (175, .ptr ⟨b5, 1, none⟩), (174, .bool (nameF ((gI l i).s))), (173, .str ((gI l i).s)), (172, .ptr ⟨b5, 1, none⟩), (171, .bool false), (170, .bool false), (169, .bool true), (0, .slice false (l.map actAV)), (4, .ptr ⟨b1, 0, none⟩), (5, .ptr ⟨b4, 0, none⟩), (6, .int .i64 i), (7, .ptr ⟨b5, 0, none⟩), (8, .bool true)] (by first | (rw [h13]; done) | (rw [h13]; rfl)) ?_
     try rw [h13] at key
     replace h13 : Int.tmod i 9 = 0 := (eq_of_beq h13)
     refine ⟨trivial, trivial, (pure_mem (wth_split (m := m) (L := [(b5, actObj (gI l i)), (q, mObj s2.now), (b4, rObj (rT r2 s2)), (b1, dObj b3 q s2), (b3, mObj s2.kept)]) hNb5 (pick_perm [3, 1, 1] _)) (fun Kc hKc => u_asDisk b1 b3 q b4 s2 r2 (i.toNat + 1) (by have q := hNb5; simp at q ⊢; omega) hT2 (by omega) _ Kc hKc)), trivial, trivial, ?_⟩
     refine ⟨trivial, ?_⟩
     exact key
   refine hK1 _ _ ?_; clear hK1 K1
   refine awp_cond rfl rfl (fun h14 => ?_) (fun h14 => ?_)
   ·
    replace h14 : (Int.tmod i 9 ≠ 0) ∧ (False) := ⟨(ne_of_beq_false (bnT (bandL h14))), (by cases (bandR h14))⟩
    refine awp_reg2_seq [] [2] (by decide) ?_
    intro K1 hK1
    refine ⟨trivial, ?_⟩
    show K1 [(2, .bool false)] (AMem.wth m [(b5, actObj (gI l i)), (q, mObj s2.now), (b4, rObj (rT r2 s2)), (b1, dObj b3 q s2), (b3, mObj s2.kept)])
    refine hK1 _ _ ?_; clear hK1 K1
    refine awp_ret ?_
    refine ⟨trivial, m, (wth_sub2 (m := m) [(b5, actObj (gI l i)), (q, mObj s2.now), (b4, rObj (rT r2 s2)), (b1, dObj b3 q s2), (b3, mObj s2.kept)] [] hNb5 (by simp only [List.map_cons, List.map_nil, List.forall_mem_cons]; exact ⟨hFb5, hFq, hFb4, hFb1, hFb3, fun _ h => by cases h⟩)), ?_⟩
    show K (.bool false) m
   
    first | exact hK | exact absurd (‹(Int.tmod i 9 ≠ 0) ∧ False›).2 id
   replace h14 : (Int.tmod i 9 = 0) ∨ (True) := ((bandF h14).imp (fun q => (eq_of_beq (bnF q))) (fun q => trivial))
   refine awp_skip ?_
   refine hK5 _ _ ?_; clear hK5
   have hNd5 : ([q, b4, b1, b3] : List Nat).Nodup := drop_nodup (L := [(b5, actObj (gI l i)), (q, mObj s2.now), (b4, rObj (rT r2 s2)), (b1, dObj b3 q s2), (b3, mObj s2.kept)]) hNb5 (pick_perm [0] _)
   refine awp_dropP [(b5, actObj (gI l i))] [(q, mObj s2.now), (b4, rObj (rT r2 s2)), (b1, dObj b3 q s2), (b3, mObj s2.kept)] hNb5 (pick_perm [0] _) (by simp only [List.map_cons, List.map_nil, List.forall_mem_cons]; exact ⟨hFb5, fun _ h => by cases h⟩) ?_
   refine awp_reg2 [] [0, 4, 5, 6] (by decide) ?_
   intro K1 hK1
   refine ⟨trivial, ?_⟩
   refine ar_add rfl (a := i) (b := 1) rfl rfl (by omega) (by omega) ?_
   refine ⟨trivial, ?_⟩
   show K1 [(0, .slice false (l.map actAV)), (4, .ptr ⟨b1, 0, none⟩), (5, .ptr ⟨b4, 0, none⟩), (6, .int .i64 (i + 1))] (AMem.wth m [(q, mObj s2.now), (b4, rObj (rT r2 s2)), (b1, dObj b3 q s2), (b3, mObj s2.kept)])
   refine hK1 _ _ ?_; clear hK1 K1
   refine ⟨(i + 1, q, r2, s2), rfl, rfl, ?_, ?_⟩
   ·
    show ([q, b4, b1, b3] : List Nat).Nodup ∧ m q = none ∧ (0 ≤ ((i + 1 : Int)) ∧ ((i + 1 : Int)) ≤ l.length ∧ l.length ≤ 100 ∧ Two ((s2 : DSt)) ((r2 : RSt)) ((i + 1 : Int)).toNat)
    refine ⟨hNd5, hFq, ?_⟩
    refine ⟨by omega, by omega, hI.2.2.1, ?_⟩
    rw [show (i + 1).toNat = i.toNat + 1 from by omega]
    first | exact hT2 | exact hI.2.2.2.mono (Nat.le_succ _)
   ·
    show l.length - ((i + 1 : Int)).toNat < l.length - i.toNat
    omega
  replace h12 : (gI l i).kind ≠ ([109, 111, 118, 101] : List UInt8) := (ne_of_beq_false h12)
  refine awp_reg2_seq [] [0, 4, 5, 6, 7, 8, 35, 108] (by decide) ?_
  intro K1 hK1
  refine ⟨trivial, trivial, ?_⟩
  show K1 [(0, .slice false (l.map actAV)), (4, .ptr ⟨b1, 0, none⟩), (5, .ptr ⟨b4, 0, none⟩), (6, .int .i64 i), (7, .ptr ⟨b5, 0, none⟩), (8, .bool true), (35, .str ((gI l i).kind)), (108, .bool (((gI l i).kind) == ([114, 101, 109, 111, 118, 101] : List UInt8)))] (AMem.wth m [(b5, actObj (gI l i)), (q, mObj s.now), (b4, rObj (rT r s)), (b1, dObj b3 q s), (b3, mObj s.kept)])
  refine hK1 _ _ ?_; clear hK1 K1
  refine awp_cond rfl rfl (fun h15 => ?_) (fun h15 => ?_)
  ·
   replace h15 : (gI l i).kind = ([114, 101, 109, 111, 118, 101] : List UInt8) := (eq_of_beq h15)
   refine awp_draw_memP Try.mixed [(3, 113), (7, 117)] [(3, 113, .err 108 ((remR s ((gI l i).s)).2)), (7, 117, .int .i64 ((remR s ((gI l i).s)).2))] [(AMem.wth m [(b5, actObj (gI l i)), (q, mObj s.now), (b4, rObj (rT r s)), (b1, dObj b3 q s), (b3, mObj s.kept)]), (AMem.wth m [(b5, actObj (gI l i)), (q, mObj ((remR s ((gI l i).s)).1.now)), (b4, rObj (rT r s)), (b1, dObj b3 q ((remR s ((gI l i).s)).1)), (b3, mObj ((remR s ((gI l i).s)).1.kept))]), (AMem.wth m [(b5, actObj (gI l i)), (q, mObj ((remR s ((gI l i).s)).1.now)), (b4, rObj (rT ((remQ (rT r s) ((gI l i).s)).1) ((remR s ((gI l i).s)).1))), (b1, dObj b3 q ((remR s ((gI l i).s)).1)), (b3, mObj ((remR s ((gI l i).s)).1.kept))])] [(.bool true)] [0, 4, 5, 6, 7, 8] [(8, .bool true), (118, .bool true), (116, .str ((gI l i).s)), (115, .ptr ⟨b5, 1, none⟩), (114, .ptr ⟨b4, 0, none⟩), (112, .str ((gI l i).s)), (111, .ptr ⟨b5, 1, none⟩), (110, .ptr ⟨b1, 0, none⟩), (113, .err 108 ((remR s ((gI l i).s)).2)), (117, .int .i64 ((remR s ((gI l i).s)).2)), (0, .slice false (l.map actAV)), (4, .ptr ⟨b1, 0, none⟩), (5, .ptr ⟨b4, 0, none⟩), (6, .int .i64 i), (7, .ptr ⟨b5, 0, none⟩), (8, .bool true), (35, .str ((gI l i).kind)), (108, .bool (((gI l i).kind) == ([114, 101, 109, 111, 118, 101] : List UInt8)))] (AMem.wth m [(b5, actObj (gI l i)), (q, mObj ((remR s ((gI l i).s)).1.now)), (b4, rObj (rT ((remQ (rT r s) ((gI l i).s)).1) ((remR s ((gI l i).s)).1))), (b1, dObj b3 q ((remR s ((gI l i).s)).1)), (b3, mObj ((remR s ((gI l i).s)).1.kept))]) (by decide) (by decide) (by decide) rfl rfl rfl rfl ?_ ?_ ?_
   ·
    refine ⟨?_, ?_, trivial⟩
    ·
     exact mem_call (wth_split (m := m) (L := [(b5, actObj (gI l i)), (q, mObj s.now), (b4, rObj (rT r s)), (b1, dObj b3 q s), (b3, mObj s.kept)]) hNb5 (pick_perm [3, 1, 2] _)) (wth_split (m := m) (L := [(b5, actObj (gI l i)), (q, mObj ((remR s ((gI l i).s)).1.now)), (b4, rObj (rT r s)), (b1, dObj b3 q ((remR s ((gI l i).s)).1)), (b3, mObj ((remR s ((gI l i).s)).1.kept))]) hNb5 (pick_perm [3, 1, 2] _)) (fun Kc hKc => u_Remove3 b1 b3 q s ((gI l i).s) i.toNat (by have q := hNb5; simp at q ⊢; omega) hI.2.2.2.inv (by omega) (by first | assumption | exact hba.1 | exact hba.2.1) _ Kc hKc)
    ·
     exact mem_call (wth_split (m := m) (L := [(b5, actObj (gI l i)), (q, mObj ((remR s ((gI l i).s)).1.now)), (b4, rObj (rT r s)), (b1, dObj b3 q ((remR s ((gI l i).s)).1)), (b3, mObj ((remR s ((gI l i).s)).1.kept))]) hNb5 (pick_perm [2] _)) (wth_split (m := m) (L := [(b5, actObj (gI l i)), (q, mObj ((remR s ((gI l i).s)).1.now)), (b4, rObj (rT ((remQ (rT r s) ((gI l i).s)).1) ((remR s ((gI l i).s)).1))), (b1, dObj b3 q ((remR s ((gI l i).s)).1)), (b3, mObj ((remR s ((gI l i).s)).1.kept))]) hNb5 (pick_perm [2] _)) (fun Kc hKc => u_QRemoveT b4 hI.2.2.2 (by omega) ((gI l i).s) (remR s ((gI l i).s)) (hI.2.2.2.remove ((gI l i).s)) _ Kc hKc)
   ·
    refine ⟨?_, ?_, ?_, trivial⟩
    ·
     show pseq _ _ _ _ _ [(113, .err 108 ((remR s ((gI l i).s)).2)), (117, .int .i64 ((remR s ((gI l i).s)).2)), (0, .slice false (l.map actAV)), (4, .ptr ⟨b1, 0, none⟩), (5, .ptr ⟨b4, 0, none⟩), (6, .int .i64 i), (7, .ptr ⟨b5, 0, none⟩), (8, .bool true), (35, .str ((gI l i).kind)), (108, .bool (((gI l i).kind) == ([114, 101, 109, 111, 118, 101] : List UInt8)))] _
     refine ⟨trivial, ⟨rfl, by decide⟩, ?_⟩
     refine pq_loadp rfl (v := .str ((gI l i).s)) rfl (wth_get 0 hNb5 rfl) (apartOk_one rfl rfl (Nat.le_of_ble_eq_true rfl)) rfl ?_
     refine ⟨trivial, ⟨rfl, by decide⟩, ?_⟩
     refine pq_loadp rfl (v := .str ((gI l i).s)) rfl (wth_get 0 hNb5 rfl) (apartOk_one rfl rfl (Nat.le_of_ble_eq_true rfl)) rfl ?_
     refine ⟨(fun Kc hKc => u_same_eq ((remR s ((gI l i).s)).2) (by first | decide | assumption | exact listR_nn _ | exact readR_nn _ _ | exact writeR_nn _ _ _ | exact appR_nn _ _ _ | exact makeR_nn _ _ _ | exact moveR_nn _ _ _ | exact remR_nn _ _ | exact syncF_nn _ | exact (stepF_keep _).2.2.2) _ Kc hKc), trivial, ?_⟩
     exact rfl
    ·
     show pseq _ _ _ _ _ [(113, .err 108 ((remR s ((gI l i).s)).2)), (117, .int .i64 ((remR s ((gI l i).s)).2)), (0, .slice false (l.map actAV)), (4, .ptr ⟨b1, 0, none⟩), (5, .ptr ⟨b4, 0, none⟩), (6, .int .i64 i), (7, .ptr ⟨b5, 0, none⟩), (8, .bool true), (35, .str ((gI l i).kind)), (108, .bool (((gI l i).kind) == ([114, 101, 109, 111, 118, 101] : List UInt8)))] _
     refine ⟨trivial, ⟨rfl, by decide⟩, ?_⟩
     refine pq_loadp rfl (v := .str ((gI l i).s)) rfl (wth_get 0 hNb5 rfl) (apartOk_one rfl rfl (Nat.le_of_ble_eq_true rfl)) rfl ?_
     refine ⟨trivial, ⟨rfl, by decide⟩, ?_⟩
     refine pq_loadp rfl (v := .str ((gI l i).s)) rfl (wth_get 0 hNb5 rfl) (apartOk_one rfl rfl (Nat.le_of_ble_eq_true rfl)) rfl ?_
     refine ⟨(fun Kc hKc => u_same_eq ((remR s ((gI l i).s)).2) (by first | decide | assumption | exact listR_nn _ | exact readR_nn _ _ | exact writeR_nn _ _ _ | exact appR_nn _ _ _ | exact makeR_nn _ _ _ | exact moveR_nn _ _ _ | exact remR_nn _ _ | exact syncF_nn _ | exact (stepF_keep _).2.2.2) _ Kc hKc), trivial, ?_⟩
     exact rfl
    ·
     show pseq _ _ _ _ _ [(113, .err 108 ((remR s ((gI l i).s)).2)), (117, .int .i64 ((remR s ((gI l i).s)).2)), (0, .slice false (l.map actAV)), (4, .ptr ⟨b1, 0, none⟩), (5, .ptr ⟨b4, 0, none⟩), (6, .int .i64 i), (7, .ptr ⟨b5, 0, none⟩), (8, .bool true), (35, .str ((gI l i).kind)), (108, .bool (((gI l i).kind) == ([114, 101, 109, 111, 118, 101] : List UInt8)))] _
     refine ⟨trivial, ⟨rfl, by decide⟩, ?_⟩
     refine pq_loadp rfl (v := .str ((gI l i).s)) rfl (wth_get 0 hNb5 rfl) (apartOk_one rfl rfl (Nat.le_of_ble_eq_true rfl)) rfl ?_
     refine ⟨trivial, ⟨rfl, by decide⟩, ?_⟩
     refine pq_loadp rfl (v := .str ((gI l i).s)) rfl (wth_get 0 hNb5 rfl) (apartOk_one rfl rfl (Nat.le_of_ble_eq_true rfl)) rfl ?_
     refine ⟨(fun Kc hKc => u_same_eq ((remR s ((gI l i).s)).2) (by first | decide | assumption | exact listR_nn _ | exact readR_nn _ _ | exact writeR_nn _ _ _ | exact appR_nn _ _ _ | exact makeR_nn _ _ _ | exact moveR_nn _ _ _ | exact remR_nn _ _ | exact syncF_nn _ | exact (stepF_keep _).2.2.2) _ Kc hKc), trivial, ?_⟩
     exact rfl
   intro K1 hK1
   show K1 [(0, .slice false (l.map actAV)), (4, .ptr ⟨b1, 0, none⟩), (5, .ptr ⟨b4, 0, none⟩), (6, .int .i64 i), (7, .ptr ⟨b5, 0, none⟩), (8, .bool true)] (AMem.wth m [(b5, actObj (gI l i)), (q, mObj ((remR s ((gI l i).s)).1.now)), (b4, rObj (rT ((remQ (rT r s) ((gI l i).s)).1) ((remR s ((gI l i).s)).1))), (b1, dObj b3 q ((remR s ((gI l i).s)).1)), (b3, mObj ((remR s ((gI l i).s)).1.kept))])
   refine hK1 _ _ ?_; clear hK1 K1
   have hT2 := (hI.2.2.2.remove (gI l i).s).t
   generalize (remR s ((gI l i).s)).1 = s2 at hT2 ⊢
   generalize (remQ (rT r s) ((gI l i).s)).1 = r2 at hT2 ⊢
   refine hK6 _ _ ?_; clear hK6
   refine awp_draw_seq Try.mixed [(.bool (nameF ((gI l i).s))), (.bool (nameF ((gI l i).s))), (.bool s2.down), (.int .i64 s2.steps), (.bool true)] [0, 4, 5, 6, 208] (by decide) (by decide) ?_
   intro K1 hK1
   suffices key : K1 [(0, .slice false (l.map actAV)), (4, .ptr ⟨b1, 0, none⟩), (5, .ptr ⟨b4, 0, none⟩), (6, .int .i64 i), (208, .bool ((!((Int.tmod i 9) == 0)) && false))] (AMem.wth m [(b5, actObj (gI l i)), (q, mObj s2.now), (b4, rObj (rT r2 s2)), (b1, dObj b3 q s2), (b3, mObj s2.kept)]) by
    refine ⟨trivial, trivial, trivial, ⟨rfl, by decide⟩, ?_⟩
    refine pq_loadp rfl (v := .str ((gI l i).s)) rfl (wth_get 0 hNb5 rfl) (apartOk_one rfl rfl (Nat.le_of_ble_eq_true rfl)) rfl ?_
    refine ⟨(fun Kc hKc => u_Name ((gI l i).s) (by first | assumption | exact hba.1 | exact hba.2.1) _ Kc hKc), ⟨rfl, by decide⟩, ?_⟩
    refine pq_loadp rfl (v := .str ((gI l i).s)) rfl (wth_get 0 hNb5 rfl) (apartOk_one rfl rfl (Nat.le_of_ble_eq_true rfl)) rfl ?_
    refine ⟨(fun Kc hKc => u_FileMay ((gI l i).s) (by first | assumption | exact hba.1 | exact hba.2.1) _ Kc hKc), rfl, ?_⟩
    refine pq_top 178 (.bool false) (congrArg AV.bool (by simp)) ?_
    refine ⟨trivial, ?_⟩
    refine ⟨trivial, trivial, (pure_mem (wth_split (m := m) (L := [(b5, actObj (gI l i)), (q, mObj s2.now), (b4, rObj (rT r2 s2)), (b1, dObj b3 q s2), (b3, mObj s2.kept)]) hNb5 (pick_perm [3] _)) (fun Kc hKc => u_Down b1 b3 q s2 _ Kc hKc)), trivial, trivial, ⟨rfl, by decide⟩, ?_⟩
    refine pq_loadp rfl (v := .bool s2.down) rfl (wth_get 2 hNb5 rfl) (apartOk_one rfl rfl (Nat.le_of_ble_eq_true rfl)) rfl ?_
    refine ⟨rfl, ?_⟩
    refine pq_top 187 (.bool false) (congrArg AV.bool (by simp)) ?_
    refine ⟨trivial, ?_⟩
    refine ⟨trivial, trivial, (pure_mem (wth_split (m := m) (L := [(b5, actObj (gI l i)), (q, mObj s2.now), (b4, rObj (rT r2 s2)), (b1, dObj b3 q s2), (b3, mObj s2.kept)]) hNb5 (pick_perm [3] _)) (fun Kc hKc => u_Steps b1 b3 q s2 _ Kc hKc)), trivial, trivial, ⟨rfl, by decide⟩, ?_⟩
    refine pq_loadp rfl (v := .int .i64 s2.steps) rfl (wth_get 2 hNb5 rfl) (apartOk_one rfl rfl (Nat.le_of_ble_eq_true rfl)) rfl ?_
    refine ⟨trivial, ?_⟩
    refine pq_top 196 (.bool false) (congrArg AV.bool (by simp)) ?_
    refine ⟨trivial, ?_⟩
    refine ⟨trivial, trivial, (by exact rem_ok 9 (by decide) hI.1 (by decide)), trivial, trivial, ?_⟩
    show pseq _ _ _ _ _ [(202, .bool ((Int.tmod i 9) == 0)), (201, .bool ((Int.tmod i 9) == 0)), (200, .int .i64 (Int.tmod i 9)), (199, .int .i64 i), (198, .bool false), (197, .bool false), (196, .bool false), (195, .int .i64 s2.steps), (194, .ptr ⟨b4, 5, none⟩), (193, .ptr ⟨b4, 0, none⟩), (192, .ptr ⟨b4, 0, none⟩), (191, .int .i64 s2.steps), (190, .ptr ⟨b1, 0, none⟩), (189, .bool false), (188, .bool false), (187, .bool false), (186, .bool s2.down), (185, .ptr ⟨b4, 4, none⟩), (184, .ptr ⟨b4, 0, none⟩), (183, .ptr ⟨b4, 0, none⟩), (182, .bool s2.down), (181, .ptr ⟨b1, 0, none⟩), (180, .bool false), (179, .bool false), (178, .bool false), (177, .bool (nameF ((gI l i).s))), (176, .str ((gI l i).s)), (175, .ptr ⟨b5, 1, none⟩), (174, .bool (nameF ((gI l i).s))), (173, .str ((gI l i).s)), (172, .ptr ⟨b5, 1, none⟩), (171, .bool false), (170, .bool false), (169, .bool true), (0, .slice false (l.map actAV)), (4, .ptr ⟨b1, 0, none⟩), (5, .ptr ⟨b4, 0, none⟩), (6, .int .i64 i), (7, .ptr ⟨b5, 0, none⟩), (8, .bool true)] _
    refine (bool_ff (((Int.tmod i 9) == 0))).elim (fun h16 => ?_) (fun h16 => ?_)
    ·
     refine pq_frame [(202, .bool false), (201, .bool false), (200, .int .i64 (Int.tmod i 9)), (199, .int .i64 i), (198, .bool false), (197, .bool false), (196, .bool false), (195, .int .i64 s2.steps), (194, .ptr ⟨b4, 5, none⟩), (193, .ptr ⟨b4, 0, none⟩), (192, .ptr ⟨b4, 0, none⟩), (191, .int .i64 s2.steps), (190, .ptr ⟨b1, 0, none⟩), (189, .bool false), (188, .bool false), (187, .bool false), (186, .bool s2.down), (185, .ptr ⟨b4, 4, none⟩), (184, .ptr ⟨b4, 0, none⟩), (183, .ptr ⟨b4, 0, none⟩), (182, .bool s2.down), (181, .ptr ⟨b1, 0, none⟩), (180, .bool false), (179, .bool false), (178, .bool false), (177, .bool (nameF ((gI l i).s))), (176, .str ((gI l i).s)), (175, .ptr ⟨b5, 1, none⟩), (174, .bool (nameF ((gI l i).s))), (173, .str ((gI l i).s)), (172, .ptr ⟨b5, 1, none⟩), (171, .bool false), (170, .bool false), (169, .bool true), (0, .slice false (l.map actAV)), (4, .ptr ⟨b1, 0, none⟩), (5, .ptr ⟨b4, 0, none⟩), (6, .int .i64 i), (7, .ptr ⟨b5, 0, none⟩), (8, .bool true)] (by first | (rw [h16]; done) | (rw [h16]; rfl)) ?_
     try rw [h16] at key
     replace h16 : Int.tmod i 9 ≠ 0 := (ne_of_beq_false h16)
     refine pq_off rfl rfl ?_
     refine pq_off rfl rfl ?_
     refine pq_offc rfl ?_
     refine pq_off rfl rfl ?_
     refine ⟨trivial, ?_⟩
     refine ⟨trivial, ?_⟩
     exact key
    ·
     refine pq_frame [(202, .bool true), (201, .bool true), (200, .int .i64 (Int.tmod i 9)), (199, .int .i64 i), (198, .bool false), (197, .bool false), (196, .bool false), (195, .int .i64 s2.steps), (194, .ptr ⟨b4, 5, none⟩), (193, .ptr ⟨b4, 0, none⟩), (192, .ptr ⟨b4, 0, none⟩), (191, .int .i64 s2.steps), (190, .ptr ⟨b1, 0, none⟩), (189, .bool false), (188, .bool false), (187, .bool false), (186, .bool s2.down), (185, .ptr ⟨b4, 4, none⟩), (184, .ptr ⟨b4, 0, none⟩), (183, .ptr ⟨b4, 0, none⟩), (182, .bool s2.down), (181, .ptr ⟨b1, 0, none⟩), (180, .bool false), (179, .bool false), (178, .bool false), (177, .bool (nameF ((gI l i).s))), (176, .str ((gI l i).s)), (175, .ptr ⟨b5, 1, none⟩), (174, .bool (nameF ((gI l i).s))), (173, .str ((gI l i).s)), (172, .ptr ⟨b5, 1, none⟩), (171, .bool false), (170, .bool false), (169, .bool true), (0, .slice false (l.map actAV)), (4, .ptr ⟨b1, 0, none⟩), (5, .ptr ⟨b4, 0, none⟩), (6, .int .i64 i), (7, .ptr ⟨b5, 0, none⟩), (8, .bool true)] (by first | (rw [h16]; done) | (rw [h16]; rfl)) ?_
     try rw [h16] at key
     replace h16 : Int.tmod i 9 = 0 := (eq_of_beq h16)
     refine ⟨trivial, trivial, (pure_mem (wth_split (m := m) (L := [(b5, actObj (gI l i)), (q, mObj s2.now), (b4, rObj (rT r2 s2)), (b1, dObj b3 q s2), (b3, mObj s2.kept)]) hNb5 (pick_perm [3, 1, 1] _)) (fun Kc hKc => u_asDisk b1 b3 q b4 s2 r2 (i.toNat + 1) (by have q := hNb5; simp at q ⊢; omega) hT2 (by omega) _ Kc hKc)), trivial, trivial, ?_⟩
     refine ⟨trivial, ?_⟩
     exact key
   refine hK1 _ _ ?_; clear hK1 K1
   refine awp_cond rfl rfl (fun h17 => ?_) (fun h17 => ?_)
   ·
    replace h17 : (Int.tmod i 9 ≠ 0) ∧ (False) := ⟨(ne_of_beq_false (bnT (bandL h17))), (by cases (bandR h17))⟩
    refine awp_reg2_seq [] [2] (by decide) ?_
    intro K1 hK1
    refine ⟨trivial, ?_⟩
    show K1 [(2, .bool false)] (AMem.wth m [(b5, actObj (gI l i)), (q, mObj s2.now), (b4, rObj (rT r2 s2)), (b1, dObj b3 q s2), (b3, mObj s2.kept)])
    refine hK1 _ _ ?_; clear hK1 K1
    refine awp_ret ?_
    refine ⟨trivial, m, (wth_sub2 (m := m) [(b5, actObj (gI l i)), (q, mObj s2.now), (b4, rObj (rT r2 s2)), (b1, dObj b3 q s2), (b3, mObj s2.kept)] [] hNb5 (by simp only [List.map_cons, List.map_nil, List.forall_mem_cons]; exact ⟨hFb5, hFq, hFb4, hFb1, hFb3, fun _ h => by cases h⟩)), ?_⟩
    show K (.bool false) m
   
    first | exact hK | exact absurd (‹(Int.tmod i 9 ≠ 0) ∧ False›).2 id
   replace h17 : (Int.tmod i 9 = 0) ∨ (True) := ((bandF h17).imp (fun q => (eq_of_beq (bnF q))) (fun q => trivial))
   refine awp_skip ?_
   refine hK5 _ _ ?_; clear hK5
   have hNd6 : ([q, b4, b1, b3] : List Nat).Nodup := drop_nodup (L := [(b5, actObj (gI l i)), (q, mObj s2.now), (b4, rObj (rT r2 s2)), (b1, dObj b3 q s2), (b3, mObj s2.kept)]) hNb5 (pick_perm [0] _)
   refine awp_dropP [(b5, actObj (gI l i))] [(q, mObj s2.now), (b4, rObj (rT r2 s2)), (b1, dObj b3 q s2), (b3, mObj s2.kept)] hNb5 (pick_perm [0] _) (by simp only [List.map_cons, List.map_nil, List.forall_mem_cons]; exact ⟨hFb5, fun _ h => by cases h⟩) ?_
   refine awp_reg2 [] [0, 4, 5, 6] (by decide) ?_
   intro K1 hK1
   refine ⟨trivial, ?_⟩
   refine ar_add rfl (a := i) (b := 1) rfl rfl (by omega) (by omega) ?_
   refine ⟨trivial, ?_⟩
   show K1 [(0, .slice false (l.map actAV)), (4, .ptr ⟨b1, 0, none⟩), (5, .ptr ⟨b4, 0, none⟩), (6, .int .i64 (i + 1))] (AMem.wth m [(q, mObj s2.now), (b4, rObj (rT r2 s2)), (b1, dObj b3 q s2), (b3, mObj s2.kept)])
   refine hK1 _ _ ?_; clear hK1 K1
   refine ⟨(i + 1, q, r2, s2), rfl, rfl, ?_, ?_⟩
   ·
    show ([q, b4, b1, b3] : List Nat).Nodup ∧ m q = none ∧ (0 ≤ ((i + 1 : Int)) ∧ ((i + 1 : Int)) ≤ l.length ∧ l.length ≤ 100 ∧ Two ((s2 : DSt)) ((r2 : RSt)) ((i + 1 : Int)).toNat)
    refine ⟨hNd6, hFq, ?_⟩
    refine ⟨by omega, by omega, hI.2.2.1, ?_⟩
    rw [show (i + 1).toNat = i.toNat + 1 from by omega]
    first | exact hT2 | exact hI.2.2.2.mono (Nat.le_succ _)
   ·
    show l.length - ((i + 1 : Int)).toNat < l.length - i.toNat
    omega
  replace h15 : (gI l i).kind ≠ ([114, 101, 109, 111, 118, 101] : List UInt8) := (ne_of_beq_false h15)
  refine awp_reg2_seq [] [0, 4, 5, 6, 7, 8, 35, 119] (by decide) ?_
  intro K1 hK1
  refine ⟨trivial, trivial, ?_⟩
  show K1 [(0, .slice false (l.map actAV)), (4, .ptr ⟨b1, 0, none⟩), (5, .ptr ⟨b4, 0, none⟩), (6, .int .i64 i), (7, .ptr ⟨b5, 0, none⟩), (8, .bool true), (35, .str ((gI l i).kind)), (119, .bool (((gI l i).kind) == ([114, 101, 97, 100] : List UInt8)))] (AMem.wth m [(b5, actObj (gI l i)), (q, mObj s.now), (b4, rObj (rT r s)), (b1, dObj b3 q s), (b3, mObj s.kept)])
  refine hK1 _ _ ?_; clear hK1 K1
  refine awp_cond rfl rfl (fun h18 => ?_) (fun h18 => ?_)
  ·
   replace h18 : (gI l i).kind = ([114, 101, 97, 100] : List UInt8) := (eq_of_beq h18)
   refine awp_reg2_seq [] [0, 4, 5, 6, 7, 9, 10] (by decide) ?_
   intro K1 hK1
   refine ⟨trivial, ⟨rfl, by decide⟩, ?_⟩
   refine ar_loadp rfl (v := .str ((gI l i).s)) rfl (wth_get 0 hNb5 rfl) rfl (apartOk_one rfl rfl (Nat.le_of_ble_eq_true rfl)) rfl ?_
   refine ar_mem (wth_split hNb5 (pick_perm [3, 1] _)) ?_
   refine u_Read b1 b3 q s ((gI l i).s) (by have q := hNb5; simp at q ⊢; omega) _ _ ?_
   show aopsR _ _ _ _ _ _ (AMem.wth (AMem.wth m [(b5, actObj (gI l i)), (b4, rObj (rT r s)), (b3, mObj s.kept)]) [(b1, dObj b3 q s), (q, mObj s.now)])
   refine ar_mem (wth_split (m := m) (L := [(b5, actObj (gI l i)), (q, mObj s.now), (b4, rObj (rT r s)), (b1, dObj b3 q s), (b3, mObj s.kept)]) hNb5 (pick_perm [3, 1] _)).symm ?_
   refine ⟨trivial, (Nat.le_of_ble_eq_true rfl), (Nat.le_of_ble_eq_true rfl), trivial, trivial, ?_⟩
   show K1 [(0, .slice false (l.map actAV)), (4, .ptr ⟨b1, 0, none⟩), (5, .ptr ⟨b4, 0, none⟩), (6, .int .i64 i), (7, .ptr ⟨b5, 0, none⟩), (9, .str ((readR s ((gI l i).s)).1)), (10, .err 108 ((readR s ((gI l i).s)).2))] (AMem.wth m [(b5, actObj (gI l i)), (q, mObj s.now), (b4, rObj (rT r s)), (b1, dObj b3 q s), (b3, mObj s.kept)])
   refine hK1 _ _ ?_; clear hK1 K1
   refine awp_reg2_seq [] [0, 4, 5, 6, 7, 9, 10, 11, 12] (by decide) ?_
   intro K1 hK1
   refine ⟨trivial, ⟨rfl, by decide⟩, ?_⟩
   refine ar_loadp rfl (v := .str ((gI l i).s)) rfl (wth_get 0 hNb5 rfl) rfl (apartOk_one rfl rfl (Nat.le_of_ble_eq_true rfl)) rfl ?_
   refine ar_mem (wth_split hNb5 (pick_perm [2] _)) ?_
   refine u_QReadT b4 hI.2.2.2 ((gI l i).s) _ _ ?_
   show aopsR _ _ _ _ _ _ (AMem.wth (AMem.wth m [(b5, actObj (gI l i)), (q, mObj s.now), (b1, dObj b3 q s), (b3, mObj s.kept)]) [(b4, rObj (rT r s))])
   refine ar_mem (wth_split (m := m) (L := [(b5, actObj (gI l i)), (q, mObj s.now), (b4, rObj (rT r s)), (b1, dObj b3 q s), (b3, mObj s.kept)]) hNb5 (pick_perm [2] _)).symm ?_
   refine ⟨trivial, (Nat.le_of_ble_eq_true rfl), (Nat.le_of_ble_eq_true rfl), trivial, trivial, ?_⟩
   show K1 [(0, .slice false (l.map actAV)), (4, .ptr ⟨b1, 0, none⟩), (5, .ptr ⟨b4, 0, none⟩), (6, .int .i64 i), (7, .ptr ⟨b5, 0, none⟩), (9, .str ((readR s ((gI l i).s)).1)), (10, .err 108 ((readR s ((gI l i).s)).2)), (11, .str ((readR s ((gI l i).s)).1)), (12, .int .i64 ((readR s ((gI l i).s)).2))] (AMem.wth m [(b5, actObj (gI l i)), (q, mObj s.now), (b4, rObj (rT r s)), (b1, dObj b3 q s), (b3, mObj s.kept)])
   refine hK1 _ _ ?_; clear hK1 K1
   refine awp_reg2 [] [0, 4, 5, 6, 7, 8] (by decide) ?_
   intro K1 hK1
   suffices key : K1 [(0, .slice false (l.map actAV)), (4, .ptr ⟨b1, 0, none⟩), (5, .ptr ⟨b4, 0, none⟩), (6, .int .i64 i), (7, .ptr ⟨b5, 0, none⟩), (8, .bool true)] (AMem.wth m [(b5, actObj (gI l i)), (q, mObj s.now), (b4, rObj (rT r s)), (b1, dObj b3 q s), (b3, mObj s.kept)]) by
    refine ⟨trivial, trivial, trivial, ?_⟩
    refine ar_top 137 (.bool true) (congrArg AV.bool (by simp)) ?_
    refine ⟨trivial, trivial, trivial, ?_⟩
    refine u_same_eq ((readR s ((gI l i).s)).2) (by first | decide | assumption | exact listR_nn _ | exact readR_nn _ _ | exact writeR_nn _ _ _ | exact appR_nn _ _ _ | exact makeR_nn _ _ _ | exact moveR_nn _ _ _ | exact remR_nn _ _ | exact syncF_nn _ | exact (stepF_keep _).2.2.2) _ _ ?_
    refine ⟨trivial, ?_⟩
    exact key
   refine hK1 _ _ ?_; clear hK1 K1
   refine hK6 _ _ ?_; clear hK6
   refine awp_draw_seq Try.mixed [(.bool (nameF ((gI l i).s))), (.bool (nameF ((gI l i).s))), (.bool s.down), (.int .i64 s.steps), (.bool true)] [0, 4, 5, 6, 208] (by decide) (by decide) ?_
   intro K1 hK1
   suffices key : K1 [(0, .slice false (l.map actAV)), (4, .ptr ⟨b1, 0, none⟩), (5, .ptr ⟨b4, 0, none⟩), (6, .int .i64 i), (208, .bool ((!((Int.tmod i 9) == 0)) && false))] (AMem.wth m [(b5, actObj (gI l i)), (q, mObj s.now), (b4, rObj (rT r s)), (b1, dObj b3 q s), (b3, mObj s.kept)]) by
    refine ⟨trivial, trivial, trivial, ⟨rfl, by decide⟩, ?_⟩
    refine pq_loadp rfl (v := .str ((gI l i).s)) rfl (wth_get 0 hNb5 rfl) (apartOk_one rfl rfl (Nat.le_of_ble_eq_true rfl)) rfl ?_
    refine ⟨(fun Kc hKc => u_Name ((gI l i).s) (by first | assumption | exact hba.1 | exact hba.2.1) _ Kc hKc), ⟨rfl, by decide⟩, ?_⟩
    refine pq_loadp rfl (v := .str ((gI l i).s)) rfl (wth_get 0 hNb5 rfl) (apartOk_one rfl rfl (Nat.le_of_ble_eq_true rfl)) rfl ?_
    refine ⟨(fun Kc hKc => u_FileMay ((gI l i).s) (by first | assumption | exact hba.1 | exact hba.2.1) _ Kc hKc), rfl, ?_⟩
    refine pq_top 178 (.bool false) (congrArg AV.bool (by simp)) ?_
    refine ⟨trivial, ?_⟩
    refine ⟨trivial, trivial, (pure_mem (wth_split (m := m) (L := [(b5, actObj (gI l i)), (q, mObj s.now), (b4, rObj (rT r s)), (b1, dObj b3 q s), (b3, mObj s.kept)]) hNb5 (pick_perm [3] _)) (fun Kc hKc => u_Down b1 b3 q s _ Kc hKc)), trivial, trivial, ⟨rfl, by decide⟩, ?_⟩
    refine pq_loadp rfl (v := .bool s.down) rfl (wth_get 2 hNb5 rfl) (apartOk_one rfl rfl (Nat.le_of_ble_eq_true rfl)) rfl ?_
    refine ⟨rfl, ?_⟩
    refine pq_top 187 (.bool false) (congrArg AV.bool (by simp)) ?_
    refine ⟨trivial, ?_⟩
    refine ⟨trivial, trivial, (pure_mem (wth_split (m := m) (L := [(b5, actObj (gI l i)), (q, mObj s.now), (b4, rObj (rT r s)), (b1, dObj b3 q s), (b3, mObj s.kept)]) hNb5 (pick_perm [3] _)) (fun Kc hKc => u_Steps b1 b3 q s _ Kc hKc)), trivial, trivial, ⟨rfl, by decide⟩, ?_⟩
    refine pq_loadp rfl (v := .int .i64 s.steps) rfl (wth_get 2 hNb5 rfl) (apartOk_one rfl rfl (Nat.le_of_ble_eq_true rfl)) rfl ?_
    refine ⟨trivial, ?_⟩
    refine pq_top 196 (.bool false) (congrArg AV.bool (by simp)) ?_
    refine ⟨trivial, ?_⟩
    refine ⟨trivial, trivial, (by exact rem_ok 9 (by decide) hI.1 (by decide)), trivial, trivial, ?_⟩
    show pseq _ _ _ _ _ [(202, .bool ((Int.tmod i 9) == 0)), (201, .bool ((Int.tmod i 9) == 0)), (200, .int .i64 (Int.tmod i 9)), (199, .int .i64 i), (198, .bool false), (197, .bool false), (196, .bool false), (195, .int .i64 s.steps), (194, .ptr ⟨b4, 5, none⟩), (193, .ptr ⟨b4, 0, none⟩), (192, .ptr ⟨b4, 0, none⟩), (191, .int .i64 s.steps), (190, .ptr ⟨b1, 0, none⟩), (189, .bool false), (188, .bool false), (187, .bool false), (186, .bool s.down), (185, .ptr ⟨b4, 4, none⟩), (184, .ptr ⟨b4, 0, none⟩), (183, .ptr ⟨b4, 0, none⟩), (182, .bool s.down), (181, .ptr ⟨b1, 0, none⟩), (180, .bool false), (179, .bool false), (178, .bool false), (177, .bool (nameF ((gI l i).s))), (176, .str ((gI l i).s)), (175, .ptr ⟨b5, 1, none⟩), (174, .bool (nameF ((gI l i).s))), (173, .str ((gI l i).s)), (172, .ptr ⟨b5, 1, none⟩), (171, .bool false), (170, .bool false), (169, .bool true), (0, .slice false (l.map actAV)), (4, .ptr ⟨b1, 0, none⟩), (5, .ptr ⟨b4, 0, none⟩), (6, .int .i64 i), (7, .ptr ⟨b5, 0, none⟩), (8, .bool true)] _
    refine (bool_ff (((Int.tmod i 9) == 0))).elim (fun h19 => ?_) (fun h19 => ?_)
    ·
     refine pq_frame [(202, .bool false), (201, .bool false), (200, .int .i64 (Int.tmod i 9)), (199, .int .i64 i), (198, .bool false), (197, .bool false), (196, .bool false), (195, .int .i64 s.steps), (194, .ptr ⟨b4, 5, none⟩), (193, .ptr ⟨b4, 0, none⟩), (192, .ptr ⟨b4, 0, none⟩), (191, .int .i64 s.steps), (190, .ptr ⟨b1, 0, none⟩), (189, .bool false), (188, .bool false), (187, .bool false), (186, .bool s.down), (185, .ptr ⟨b4, 4, none⟩), (184, .ptr ⟨b4, 0, none⟩), (183, .ptr ⟨b4, 0, none⟩), (182, .bool s.down), (181, .ptr ⟨b1, 0, none⟩), (180, .bool false), (179, .bool false), (178, .bool false), (177, .bool (nameF ((gI l i).s))), (176, .str ((gI l i).s)), (175, .ptr ⟨b5, 1, none⟩), (174, .bool (nameF ((gI l i).s))), (173, .str ((gI l i).s)), (172, .ptr ⟨b5, 1, none⟩), (171, .bool false), (170, .bool false), (169, .bool true), (0, .slice false (l.map actAV)), (4, .ptr ⟨b1, 0, none⟩), (5, .ptr ⟨b4, 0, none⟩), (6, .int .i64 i), (7, .ptr ⟨b5, 0, none⟩), (8, .bool true)] (by first | (rw [h19]; done) | (rw [h19]; rfl)) ?_
     try rw [h19] at key
     replace h19 : Int.tmod i 9 ≠ 0 := (ne_of_beq_false h19)
     refine pq_off rfl rfl ?_
     refine pq_off rfl rfl ?_
     refine pq_offc rfl ?_
     refine pq_off rfl rfl ?_
     refine ⟨trivial, ?_⟩
     refine ⟨trivial, ?_⟩
     exact key
    ·
     refine pq_frame [(202, .bool true), (201, .bool true), (200, .int .i64 (Int.tmod i 9)), (199, .int .i64 i), (198, .bool false), (197, .bool false), (196, .bool false), (195, .int .i64 s.steps), (194, .ptr ⟨b4, 5, none⟩), (193, .ptr ⟨b4, 0, none⟩), (192, .ptr ⟨b4, 0, none⟩), (191, .int .i64 s.steps), (190, .ptr ⟨b1, 0, none⟩), (189, .bool false), (188, .bool false), (187, .bool false), (186, .bool s.down), (185, .ptr ⟨b4, 4, none⟩), (184, .ptr ⟨b4, 0, none⟩), (183, .ptr ⟨b4, 0, none⟩), (182, .bool s.down), (181, .ptr ⟨b1, 0, none⟩), (180, .bool false), (179, .bool false), (178, .bool false), (177, .bool (nameF ((gI l i).s))), (176, .str ((gI l i).s)), (175, .ptr ⟨b5, 1, none⟩), (174, .bool (nameF ((gI l i).s))), (173, .str ((gI l i).s)), (172, .ptr ⟨b5, 1, none⟩), (171, .bool false), (170, .bool false), (169, .bool true), (0, .slice false (l.map actAV)), (4, .ptr ⟨b1, 0, none⟩), (5, .ptr ⟨b4, 0, none⟩), (6, .int .i64 i), (7, .ptr ⟨b5, 0, none⟩), (8, .bool true)] (by first | (rw [h19]; done) | (rw [h19]; rfl)) ?_
     try rw [h19] at key
     replace h19 : Int.tmod i 9 = 0 := (eq_of_beq h19)
     refine ⟨trivial, trivial, (pure_mem (wth_split (m := m) (L := [(b5, actObj (gI l i)), (q, mObj s.now), (b4, rObj (rT r s)), (b1, dObj b3 q s), (b3, mObj s.kept)]) hNb5 (pick_perm [3, 1, 1] _)) (fun Kc hKc => u_asDisk b1 b3 q b4 s r i.toNat (by have q := hNb5; simp at q ⊢; omega) hI.2.2.2 (by omega) _ Kc hKc)), trivial, trivial, ?_⟩
     refine ⟨trivial, ?_⟩
     exact key
   refine hK1 _ _ ?_; clear hK1 K1
   refine awp_cond rfl rfl (fun h20 => ?_) (fun h20 => ?_)
   ·
    replace h20 : (Int.tmod i 9 ≠ 0) ∧ (False) := ⟨(ne_of_beq_false (bnT (bandL h20))), (by cases (bandR h20))⟩
    refine awp_reg2_seq [] [2] (by decide) ?_
    intro K1 hK1
    refine ⟨trivial, ?_⟩
    show K1 [(2, .bool false)] (AMem.wth m [(b5, actObj (gI l i)), (q, mObj s.now), (b4, rObj (rT r s)), (b1, dObj b3 q s), (b3, mObj s.kept)])
    refine hK1 _ _ ?_; clear hK1 K1
    refine awp_ret ?_
    refine ⟨trivial, m, (wth_sub2 (m := m) [(b5, actObj (gI l i)), (q, mObj s.now), (b4, rObj (rT r s)), (b1, dObj b3 q s), (b3, mObj s.kept)] [] hNb5 (by simp only [List.map_cons, List.map_nil, List.forall_mem_cons]; exact ⟨hFb5, hFq, hFb4, hFb1, hFb3, fun _ h => by cases h⟩)), ?_⟩
    show K (.bool false) m
   
    first | exact hK | exact absurd (‹(Int.tmod i 9 ≠ 0) ∧ False›).2 id
   replace h20 : (Int.tmod i 9 = 0) ∨ (True) := ((bandF h20).imp (fun q => (eq_of_beq (bnF q))) (fun q => trivial))
   refine awp_skip ?_
   refine hK5 _ _ ?_; clear hK5
   have hNd7 : ([q, b4, b1, b3] : List Nat).Nodup := drop_nodup (L := [(b5, actObj (gI l i)), (q, mObj s.now), (b4, rObj (rT r s)), (b1, dObj b3 q s), (b3, mObj s.kept)]) hNb5 (pick_perm [0] _)
   refine awp_dropP [(b5, actObj (gI l i))] [(q, mObj s.now), (b4, rObj (rT r s)), (b1, dObj b3 q s), (b3, mObj s.kept)] hNb5 (pick_perm [0] _) (by simp only [List.map_cons, List.map_nil, List.forall_mem_cons]; exact ⟨hFb5, fun _ h => by cases h⟩) ?_
   refine awp_reg2 [] [0, 4, 5, 6] (by decide) ?_
   intro K1 hK1
   refine ⟨trivial, ?_⟩
   refine ar_add rfl (a := i) (b := 1) rfl rfl (by omega) (by omega) ?_
   refine ⟨trivial, ?_⟩
   show K1 [(0, .slice false (l.map actAV)), (4, .ptr ⟨b1, 0, none⟩), (5, .ptr ⟨b4, 0, none⟩), (6, .int .i64 (i + 1))] (AMem.wth m [(q, mObj s.now), (b4, rObj (rT r s)), (b1, dObj b3 q s), (b3, mObj s.kept)])
   refine hK1 _ _ ?_; clear hK1 K1
   refine ⟨(i + 1, q, r, s), rfl, rfl, ?_, ?_⟩
   ·
    show ([q, b4, b1, b3] : List Nat).Nodup ∧ m q = none ∧ (0 ≤ ((i + 1 : Int)) ∧ ((i + 1 : Int)) ≤ l.length ∧ l.length ≤ 100 ∧ Two s r ((i + 1 : Int)).toNat)
    refine ⟨hNd7, hFq, ?_⟩
    refine ⟨by omega, by omega, hI.2.2.1, ?_⟩
    rw [show (i + 1).toNat = i.toNat + 1 from by omega]
    first | exact hT2 | exact hI.2.2.2.mono (Nat.le_succ _)
   ·
    show l.length - ((i + 1 : Int)).toNat < l.length - i.toNat
    omega
  replace h18 : (gI l i).kind ≠ ([114, 101, 97, 100] : List UInt8) := (ne_of_beq_false h18)
  refine awp_reg2_seq [] [0, 4, 5, 6, 7, 8, 35, 143] (by decide) ?_
  intro K1 hK1
  refine ⟨trivial, trivial, ?_⟩
  show K1 [(0, .slice false (l.map actAV)), (4, .ptr ⟨b1, 0, none⟩), (5, .ptr ⟨b4, 0, none⟩), (6, .int .i64 i), (7, .ptr ⟨b5, 0, none⟩), (8, .bool true), (35, .str ((gI l i).kind)), (143, .bool (((gI l i).kind) == ([115, 121, 110, 99] : List UInt8)))] (AMem.wth m [(b5, actObj (gI l i)), (q, mObj s.now), (b4, rObj (rT r s)), (b1, dObj b3 q s), (b3, mObj s.kept)])
  refine hK1 _ _ ?_; clear hK1 K1
  refine awp_cond rfl rfl (fun h21 => ?_) (fun h21 => ?_)
  ·
   replace h21 : (gI l i).kind = ([115, 121, 110, 99] : List UInt8) := (eq_of_beq h21)
   refine awp_reg2 [] [0, 4, 5, 6, 7, 8] (by decide) ?_
   intro K1 hK1
   refine ⟨trivial, ?_⟩
   refine ar_mem (wth_split hNb5 (pick_perm [3, 3, 1] _)) ?_
   refine u_Sync3 b1 b3 q s i.toNat (by have q := hNb5; simp at q ⊢; omega) hI.2.2.2.inv (by omega) _ _ ?_
   show aopsR _ _ _ _ _ _ (AMem.wth (AMem.wth m [(b5, actObj (gI l i)), (b4, rObj (rT r s))]) [(b1, dObj b3 q ((syncF s).1)), (b3, mObj ((syncF s).1.kept)), (q, mObj ((syncF s).1.now))])
   refine ar_mem (wth_split (m := m) (L := [(b5, actObj (gI l i)), (q, mObj ((syncF s).1.now)), (b4, rObj (rT r s)), (b1, dObj b3 q ((syncF s).1)), (b3, mObj ((syncF s).1.kept))]) hNb5 (pick_perm [3, 3, 1] _)).symm ?_
   refine ⟨trivial, ?_⟩
   refine ar_mem (wth_split hNb5 (pick_perm [2] _)) ?_
   refine u_QSyncT b4 hI.2.2.2 (by omega) (syncF s) (hI.2.2.2.sync) _ _ ?_
   show aopsR _ _ _ _ _ _ (AMem.wth (AMem.wth m [(b5, actObj (gI l i)), (q, mObj ((syncF s).1.now)), (b1, dObj b3 q ((syncF s).1)), (b3, mObj ((syncF s).1.kept))]) [(b4, rObj (rT ((syncQ (rT r s)).1) ((syncF s).1)))])
   refine ar_mem (wth_split (m := m) (L := [(b5, actObj (gI l i)), (q, mObj ((syncF s).1.now)), (b4, rObj (rT ((syncQ (rT r s)).1) ((syncF s).1))), (b1, dObj b3 q ((syncF s).1)), (b3, mObj ((syncF s).1.kept))]) hNb5 (pick_perm [2] _)).symm ?_
   refine u_same_eq ((syncF s).2) (by first | decide | assumption | exact listR_nn _ | exact readR_nn _ _ | exact writeR_nn _ _ _ | exact appR_nn _ _ _ | exact makeR_nn _ _ _ | exact moveR_nn _ _ _ | exact remR_nn _ _ | exact syncF_nn _ | exact (stepF_keep _).2.2.2) _ _ ?_
   refine ⟨trivial, ?_⟩
   show K1 [(0, .slice false (l.map actAV)), (4, .ptr ⟨b1, 0, none⟩), (5, .ptr ⟨b4, 0, none⟩), (6, .int .i64 i), (7, .ptr ⟨b5, 0, none⟩), (8, .bool true)] (AMem.wth m [(b5, actObj (gI l i)), (q, mObj ((syncF s).1.now)), (b4, rObj (rT ((syncQ (rT r s)).1) ((syncF s).1))), (b1, dObj b3 q ((syncF s).1)), (b3, mObj ((syncF s).1.kept))])
   refine hK1 _ _ ?_; clear hK1 K1
   have hT2 := hI.2.2.2.sync.t
   generalize (syncF s).1 = s2 at hT2 ⊢
   generalize (syncQ (rT r s)).1 = r2 at hT2 ⊢
   refine hK6 _ _ ?_; clear hK6
   refine awp_draw_seq Try.mixed [(.bool (nameF ((gI l i).s))), (.bool (nameF ((gI l i).s))), (.bool s2.down), (.int .i64 s2.steps), (.bool true)] [0, 4, 5, 6, 208] (by decide) (by decide) ?_
   intro K1 hK1
   suffices key : K1 [(0, .slice false (l.map actAV)), (4, .ptr ⟨b1, 0, none⟩), (5, .ptr ⟨b4, 0, none⟩), (6, .int .i64 i), (208, .bool ((!((Int.tmod i 9) == 0)) && false))] (AMem.wth m [(b5, actObj (gI l i)), (q, mObj s2.now), (b4, rObj (rT r2 s2)), (b1, dObj b3 q s2), (b3, mObj s2.kept)]) by
    refine ⟨trivial, trivial, trivial, ⟨rfl, by decide⟩, ?_⟩
    refine pq_loadp rfl (v := .str ((gI l i).s)) rfl (wth_get 0 hNb5 rfl) (apartOk_one rfl rfl (Nat.le_of_ble_eq_true rfl)) rfl ?_
    refine ⟨(fun Kc hKc => u_Name ((gI l i).s) (by first | assumption | exact hba.1 | exact hba.2.1) _ Kc hKc), ⟨rfl, by decide⟩, ?_⟩
    refine pq_loadp rfl (v := .str ((gI l i).s)) rfl (wth_get 0 hNb5 rfl) (apartOk_one rfl rfl (Nat.le_of_ble_eq_true rfl)) rfl ?_
    refine ⟨(fun Kc hKc => u_FileMay ((gI l i).s) (by first | assumption | exact hba.1 | exact hba.2.1) _ Kc hKc), rfl, ?_⟩
    refine pq_top 178 (.bool false) (congrArg AV.bool (by simp)) ?_
    refine ⟨trivial, ?_⟩
    refine ⟨trivial, trivial, (pure_mem (wth_split (m := m) (L := [(b5, actObj (gI l i)), (q, mObj s2.now), (b4, rObj (rT r2 s2)), (b1, dObj b3 q s2), (b3, mObj s2.kept)]) hNb5 (pick_perm [3] _)) (fun Kc hKc => u_Down b1 b3 q s2 _ Kc hKc)), trivial, trivial, ⟨rfl, by decide⟩, ?_⟩
    refine pq_loadp rfl (v := .bool s2.down) rfl (wth_get 2 hNb5 rfl) (apartOk_one rfl rfl (Nat.le_of_ble_eq_true rfl)) rfl ?_
    refine ⟨rfl, ?_⟩
    refine pq_top 187 (.bool false) (congrArg AV.bool (by simp)) ?_
    refine ⟨trivial, ?_⟩
    refine ⟨trivial, trivial, (pure_mem (wth_split (m := m) (L := [(b5, actObj (gI l i)), (q, mObj s2.now), (b4, rObj (rT r2 s2)), (b1, dObj b3 q s2), (b3, mObj s2.kept)]) hNb5 (pick_perm [3] _)) (fun Kc hKc => u_Steps b1 b3 q s2 _ Kc hKc)), trivial, trivial, ⟨rfl, by decide⟩, ?_⟩
    refine pq_loadp rfl (v := .int .i64 s2.steps) rfl (wth_get 2 hNb5 rfl) (apartOk_one rfl rfl (Nat.le_of_ble_eq_true rfl)) rfl ?_
    refine ⟨trivial, ?_⟩
    refine pq_top 196 (.bool false) (congrArg AV.bool (by simp)) ?_
    refine ⟨trivial, ?_⟩
    refine ⟨trivial, trivial, (by exact rem_ok 9 (by decide) hI.1 (by decide)), trivial, trivial, ?_⟩
    show pseq _ _ _ _ _ [(202, .bool ((Int.tmod i 9) == 0)), (201, .bool ((Int.tmod i 9) == 0)), (200, .int .i64 (Int.tmod i 9)), (199, .int .i64 i), (198, .bool false), (197, .bool false), (196, .bool false), (195, .int .i64 s2.steps), (194, .ptr ⟨b4, 5, none⟩), (193, .ptr ⟨b4, 0, none⟩), (192, .ptr ⟨b4, 0, none⟩), (191, .int .i64 s2.steps), (190, .ptr ⟨b1, 0, none⟩), (189, .bool false), (188, .bool false), (187, .bool false), (186, .bool s2.down), (185, .ptr ⟨b4, 4, none⟩), (184, .ptr ⟨b4, 0, none⟩), (183, .ptr ⟨b4, 0, none⟩), (182, .bool s2.down), (181, .ptr ⟨b1, 0, none⟩), (180, .bool false), (179, .bool false), (178, .bool false), (177, .bool (nameF ((gI l i).s))), (176, .str ((gI l i).s)), (175, .ptr ⟨b5, 1, none⟩), (174, .bool (nameF ((gI l i).s))), (173, .str ((gI l i).s)), (172, .ptr ⟨b5, 1, none⟩), (171, .bool false), (170, .bool false), (169, .bool true), (0, .slice false (l.map actAV)), (4, .ptr ⟨b1, 0, none⟩), (5, .ptr ⟨b4, 0, none⟩), (6, .int .i64 i), (7, .ptr ⟨b5, 0, none⟩), (8, .bool true)] _
    refine (bool_ff (((Int.tmod i 9) == 0))).elim (fun h22 => ?_) (fun h22 => ?_)
    ·
     refine pq_frame [(202, .bool false), (201, .bool false), (200, .int .i64 (Int.tmod i 9)), (199, .int .i64 i), (198, .bool false), (197, .bool false), (196, .bool false), (195, .int .i64 s2.steps), (194, .ptr ⟨b4, 5, none⟩), (193, .ptr ⟨b4, 0, none⟩), (192, .ptr ⟨b4, 0, none⟩), (191, .int .i64 s2.steps), (190, .ptr ⟨b1, 0, none⟩), (189, .bool false), (188, .bool false), (187, .bool false), (186, .bool s2.down), (185, .ptr ⟨b4, 4, none⟩), (184, .ptr ⟨b4, 0, none⟩), (183, .ptr ⟨b4, 0, none⟩), (182, .bool s2.down), (181, .ptr ⟨b1, 0, none⟩), (180, .bool false), (179, .bool false), (178, .bool false), (177, .bool (nameF ((gI l i).s))), (176, .str ((gI l i).s)), (175, .ptr ⟨b5, 1, none⟩), (174, .bool (nameF ((gI l i).s))), (173, .str ((gI l i).s)), (172, .ptr ⟨b5, 1, none⟩), (171, .bool false), (170, .bool false), (169, .bool true), (0, .slice false (l.map actAV)), (4, .ptr ⟨b1, 0, none⟩), (5, .ptr ⟨b4, 0, none⟩), (6, .int .i64 i), (7, .ptr ⟨b5, 0, none⟩), (8, .bool true)] (by first | (rw [h22]; done) | (rw [h22]; rfl)) ?_
     try rw [h22] at key
     replace h22 : Int.tmod i 9 ≠ 0 := (ne_of_beq_false h22)
     refine pq_off rfl rfl ?_
     refine pq_off rfl rfl ?_
     refine pq_offc rfl ?_
     refine pq_off rfl rfl ?_
     refine ⟨trivial, ?_⟩
     refine ⟨trivial, ?_⟩
     exact key
    ·
     refine pq_frame [(202, .bool true), (201, .bool true), (200, .int .i64 (Int.tmod i 9)), (199, .int .i64 i), (198, .bool false), (197, .bool false), (196, .bool false), (195, .int .i64 s2.steps), (194, .ptr ⟨b4, 5, none⟩), (193, .ptr ⟨b4, 0, none⟩), (192, .ptr ⟨b4, 0, none⟩), (191, .int .i64 s2.steps), (190, .ptr ⟨b1, 0, none⟩), (189, .bool false), (188, .bool false), (187, .bool false), (186, .bool s2.down), (185, .ptr ⟨b4, 4, none⟩), (184, .ptr ⟨b4, 0, none⟩), (183, .ptr ⟨b4, 0, none⟩), (182, .bool s2.down), (181, .ptr ⟨b1, 0, none⟩), (180, .bool false), (179, .bool false), (178, .bool false), (177, .bool (nameF ((gI l i).s))), (176, .str ((gI l i).s)), (175, .ptr ⟨b5, 1, none⟩), (174, .bool (nameF ((gI l i).s))), (173, .str ((gI l i).s)), (172, .ptr ⟨b5, 1, none⟩), (171, .bool false), (170, .bool false), (169, .bool true), (0, .slice false (l.map actAV)), (4, .ptr ⟨b1, 0, none⟩), (5, .ptr ⟨b4, 0, none⟩), (6, .int .i64 i), (7, .ptr ⟨b5, 0, none⟩), (8, .bool true)] (by first | (rw [h22]; done) | (rw [h22]; rfl)) ?_
     try rw [h22] at key
     replace h22 : Int.tmod i 9 = 0 := (eq_of_beq h22)
     refine ⟨trivial, trivial, (pure_mem (wth_split (m := m) (L := [(b5, actObj (gI l i)), (q, mObj s2.now), (b4, rObj (rT r2 s2)), (b1, dObj b3 q s2), (b3, mObj s2.kept)]) hNb5 (pick_perm [3, 1, 1] _)) (fun Kc hKc => u_asDisk b1 b3 q b4 s2 r2 (i.toNat + 1) (by have q := hNb5; simp at q ⊢; omega) hT2 (by omega) _ Kc hKc)), trivial, trivial, ?_⟩
     refine ⟨trivial, ?_⟩
     exact key
   refine hK1 _ _ ?_; clear hK1 K1
   refine awp_cond rfl rfl (fun h23 => ?_) (fun h23 => ?_)
   ·
    replace h23 : (Int.tmod i 9 ≠ 0) ∧ (False) := ⟨(ne_of_beq_false (bnT (bandL h23))), (by cases (bandR h23))⟩
    refine awp_reg2_seq [] [2] (by decide) ?_
    intro K1 hK1
    refine ⟨trivial, ?_⟩
    show K1 [(2, .bool false)] (AMem.wth m [(b5, actObj (gI l i)), (q, mObj s2.now), (b4, rObj (rT r2 s2)), (b1, dObj b3 q s2), (b3, mObj s2.kept)])
    refine hK1 _ _ ?_; clear hK1 K1
    refine awp_ret ?_
    refine ⟨trivial, m, (wth_sub2 (m := m) [(b5, actObj (gI l i)), (q, mObj s2.now), (b4, rObj (rT r2 s2)), (b1, dObj b3 q s2), (b3, mObj s2.kept)] [] hNb5 (by simp only [List.map_cons, List.map_nil, List.forall_mem_cons]; exact ⟨hFb5, hFq, hFb4, hFb1, hFb3, fun _ h => by cases h⟩)), ?_⟩
    show K (.bool false) m
   
    first | exact hK | exact absurd (‹(Int.tmod i 9 ≠ 0) ∧ False›).2 id
   replace h23 : (Int.tmod i 9 = 0) ∨ (True) := ((bandF h23).imp (fun q => (eq_of_beq (bnF q))) (fun q => trivial))
   refine awp_skip ?_
   refine hK5 _ _ ?_; clear hK5
   have hNd8 : ([q, b4, b1, b3] : List Nat).Nodup := drop_nodup (L := [(b5, actObj (gI l i)), (q, mObj s2.now), (b4, rObj (rT r2 s2)), (b1, dObj b3 q s2), (b3, mObj s2.kept)]) hNb5 (pick_perm [0] _)
   refine awp_dropP [(b5, actObj (gI l i))] [(q, mObj s2.now), (b4, rObj (rT r2 s2)), (b1, dObj b3 q s2), (b3, mObj s2.kept)] hNb5 (pick_perm [0] _) (by simp only [List.map_cons, List.map_nil, List.forall_mem_cons]; exact ⟨hFb5, fun _ h => by cases h⟩) ?_
   refine awp_reg2 [] [0, 4, 5, 6] (by decide) ?_
   intro K1 hK1
   refine ⟨trivial, ?_⟩
   refine ar_add rfl (a := i) (b := 1) rfl rfl (by omega) (by omega) ?_
   refine ⟨trivial, ?_⟩
   show K1 [(0, .slice false (l.map actAV)), (4, .ptr ⟨b1, 0, none⟩), (5, .ptr ⟨b4, 0, none⟩), (6, .int .i64 (i + 1))] (AMem.wth m [(q, mObj s2.now), (b4, rObj (rT r2 s2)), (b1, dObj b3 q s2), (b3, mObj s2.kept)])
   refine hK1 _ _ ?_; clear hK1 K1
   refine ⟨(i + 1, q, r2, s2), rfl, rfl, ?_, ?_⟩
   ·
    show ([q, b4, b1, b3] : List Nat).Nodup ∧ m q = none ∧ (0 ≤ ((i + 1 : Int)) ∧ ((i + 1 : Int)) ≤ l.length ∧ l.length ≤ 100 ∧ Two ((s2 : DSt)) ((r2 : RSt)) ((i + 1 : Int)).toNat)
    refine ⟨hNd8, hFq, ?_⟩
    refine ⟨by omega, by omega, hI.2.2.1, ?_⟩
    rw [show (i + 1).toNat = i.toNat + 1 from by omega]
    first | exact hT2 | exact hI.2.2.2.mono (Nat.le_succ _)
   ·
    show l.length - ((i + 1 : Int)).toNat < l.length - i.toNat
    omega
  replace h21 : (gI l i).kind ≠ ([115, 121, 110, 99] : List UInt8) := (ne_of_beq_false h21)
  refine awp_reg2_seq [] [0, 4, 5, 6, 7, 8, 35, 150] (by decide) ?_
  intro K1 hK1
  refine ⟨trivial, trivial, ?_⟩
  show K1 [(0, .slice false (l.map actAV)), (4, .ptr ⟨b1, 0, none⟩), (5, .ptr ⟨b4, 0, none⟩), (6, .int .i64 i), (7, .ptr ⟨b5, 0, none⟩), (8, .bool true), (35, .str ((gI l i).kind)), (150, .bool (((gI l i).kind) == ([115, 116, 101, 112] : List UInt8)))] (AMem.wth m [(b5, actObj (gI l i)), (q, mObj s.now), (b4, rObj (rT r s)), (b1, dObj b3 q s), (b3, mObj s.kept)])
  refine hK1 _ _ ?_; clear hK1 K1
  refine awp_cond rfl rfl (fun h24 => ?_) (fun h24 => ?_)
  ·
   replace h24 : (gI l i).kind = ([115, 116, 101, 112] : List UInt8) := (eq_of_beq h24)
   refine awp_reg2 [] [0, 4, 5, 6, 7, 8] (by decide) ?_
   intro K1 hK1
   refine ⟨trivial, ?_⟩
   refine ar_mem (wth_split hNb5 (pick_perm [3, 1, 2] _)) ?_
   refine u_Step3 b1 b3 q s i.toNat hI.2.2.2.inv (by omega) _ _ ?_
   show aopsR _ _ _ _ _ _ (AMem.wth (AMem.wth m [(b5, actObj (gI l i)), (b4, rObj (rT r s))]) [(b1, dObj b3 q ((stepF s).1)), (q, mObj ((stepF s).1.now)), (b3, mObj ((stepF s).1.kept))])
   refine ar_mem (wth_split (m := m) (L := [(b5, actObj (gI l i)), (q, mObj ((stepF s).1.now)), (b4, rObj (rT r s)), (b1, dObj b3 q ((stepF s).1)), (b3, mObj ((stepF s).1.kept))]) hNb5 (pick_perm [3, 1, 2] _)).symm ?_
   refine ⟨trivial, ?_⟩
   refine ar_mem (wth_split hNb5 (pick_perm [2] _)) ?_
   refine u_QStepT b4 hI.2.2.2 (by omega) (stepF s) (hI.2.2.2.step) _ _ ?_
   show aopsR _ _ _ _ _ _ (AMem.wth (AMem.wth m [(b5, actObj (gI l i)), (q, mObj ((stepF s).1.now)), (b1, dObj b3 q ((stepF s).1)), (b3, mObj ((stepF s).1.kept))]) [(b4, rObj (rT ((stepQ (rT r s)).1) ((stepF s).1)))])
   refine ar_mem (wth_split (m := m) (L := [(b5, actObj (gI l i)), (q, mObj ((stepF s).1.now)), (b4, rObj (rT ((stepQ (rT r s)).1) ((stepF s).1))), (b1, dObj b3 q ((stepF s).1)), (b3, mObj ((stepF s).1.kept))]) hNb5 (pick_perm [2] _)).symm ?_
   refine u_same_eq ((stepF s).2) (by first | decide | assumption | exact listR_nn _ | exact readR_nn _ _ | exact writeR_nn _ _ _ | exact appR_nn _ _ _ | exact makeR_nn _ _ _ | exact moveR_nn _ _ _ | exact remR_nn _ _ | exact syncF_nn _ | exact (stepF_keep _).2.2.2) _ _ ?_
   refine ⟨trivial, ?_⟩
   show K1 [(0, .slice false (l.map actAV)), (4, .ptr ⟨b1, 0, none⟩), (5, .ptr ⟨b4, 0, none⟩), (6, .int .i64 i), (7, .ptr ⟨b5, 0, none⟩), (8, .bool true)] (AMem.wth m [(b5, actObj (gI l i)), (q, mObj ((stepF s).1.now)), (b4, rObj (rT ((stepQ (rT r s)).1) ((stepF s).1))), (b1, dObj b3 q ((stepF s).1)), (b3, mObj ((stepF s).1.kept))])
   refine hK1 _ _ ?_; clear hK1 K1
   have hT2 := hI.2.2.2.step.t
   generalize (stepF s).1 = s2 at hT2 ⊢
   generalize (stepQ (rT r s)).1 = r2 at hT2 ⊢
   refine hK6 _ _ ?_; clear hK6
   refine awp_draw_seq Try.mixed [(.bool (nameF ((gI l i).s))), (.bool (nameF ((gI l i).s))), (.bool s2.down), (.int .i64 s2.steps), (.bool true)] [0, 4, 5, 6, 208] (by decide) (by decide) ?_
   intro K1 hK1
   suffices key : K1 [(0, .slice false (l.map actAV)), (4, .ptr ⟨b1, 0, none⟩), (5, .ptr ⟨b4, 0, none⟩), (6, .int .i64 i), (208, .bool ((!((Int.tmod i 9) == 0)) && false))] (AMem.wth m [(b5, actObj (gI l i)), (q, mObj s2.now), (b4, rObj (rT r2 s2)), (b1, dObj b3 q s2), (b3, mObj s2.kept)]) by
    refine ⟨trivial, trivial, trivial, ⟨rfl, by decide⟩, ?_⟩
    refine pq_loadp rfl (v := .str ((gI l i).s)) rfl (wth_get 0 hNb5 rfl) (apartOk_one rfl rfl (Nat.le_of_ble_eq_true rfl)) rfl ?_
    refine ⟨(fun Kc hKc => u_Name ((gI l i).s) (by first | assumption | exact hba.1 | exact hba.2.1) _ Kc hKc), ⟨rfl, by decide⟩, ?_⟩
    refine pq_loadp rfl (v := .str ((gI l i).s)) rfl (wth_get 0 hNb5 rfl) (apartOk_one rfl rfl (Nat.le_of_ble_eq_true rfl)) rfl ?_
    refine ⟨(fun Kc hKc => u_FileMay ((gI l i).s) (by first | assumption | exact hba.1 | exact hba.2.1) _ Kc hKc), rfl, ?_⟩
    refine pq_top 178 (.bool false) (congrArg AV.bool (by simp)) ?_
    refine ⟨trivial, ?_⟩
    refine ⟨trivial, trivial, (pure_mem (wth_split (m := m) (L := [(b5, actObj (gI l i)), (q, mObj s2.now), (b4, rObj (rT r2 s2)), (b1, dObj b3 q s2), (b3, mObj s2.kept)]) hNb5 (pick_perm [3] _)) (fun Kc hKc => u_Down b1 b3 q s2 _ Kc hKc)), trivial, trivial, ⟨rfl, by decide⟩, ?_⟩
    refine pq_loadp rfl (v := .bool s2.down) rfl (wth_get 2 hNb5 rfl) (apartOk_one rfl rfl (Nat.le_of_ble_eq_true rfl)) rfl ?_
    refine ⟨rfl, ?_⟩
    refine pq_top 187 (.bool false) (congrArg AV.bool (by simp)) ?_
    refine ⟨trivial, ?_⟩
    refine ⟨trivial, trivial, (pure_mem (wth_split (m := m) (L := [(b5, actObj (gI l i)), (q, mObj s2.now), (b4, rObj (rT r2 s2)), (b1, dObj b3 q s2), (b3, mObj s2.kept)]) hNb5 (pick_perm [3] _)) (fun Kc hKc => u_Steps b1 b3 q s2 _ Kc hKc)), trivial, trivial, ⟨rfl, by decide⟩, ?_⟩
    refine pq_loadp rfl (v := .int .i64 s2.steps) rfl (wth_get 2 hNb5 rfl) (apartOk_one rfl rfl (Nat.le_of_ble_eq_true rfl)) rfl ?_
    refine ⟨trivial, ?_⟩
    refine pq_top 196 (.bool false) (congrArg AV.bool (by simp)) ?_
    refine ⟨trivial, ?_⟩
    refine ⟨trivial, trivial, (by exact rem_ok 9 (by decide) hI.1 (by decide)), trivial, trivial, ?_⟩
    show pseq _ _ _ _ _ [(202, .bool ((Int.tmod i 9) == 0)), (201, .bool ((Int.tmod i 9) == 0)), (200, .int .i64 (Int.tmod i 9)), (199, .int .i64 i), (198, .bool false), (197, .bool false), (196, .bool false), (195, .int .i64 s2.steps), (194, .ptr ⟨b4, 5, none⟩), (193, .ptr ⟨b4, 0, none⟩), (192, .ptr ⟨b4, 0, none⟩), (191, .int .i64 s2.steps), (190, .ptr ⟨b1, 0, none⟩), (189, .bool false), (188, .bool false), (187, .bool false), (186, .bool s2.down), (185, .ptr ⟨b4, 4, none⟩), (184, .ptr ⟨b4, 0, none⟩), (183, .ptr ⟨b4, 0, none⟩), (182, .bool s2.down), (181, .ptr ⟨b1, 0, none⟩), (180, .bool false), (179, .bool false), (178, .bool false), (177, .bool (nameF ((gI l i).s))), (176, .str ((gI l i).s)), (175, .ptr ⟨b5, 1, none⟩), (174, .bool (nameF ((gI l i).s))), (173, .str ((gI l i).s)), (172, .ptr ⟨b5, 1, none⟩), (171, .bool false), (170, .bool false), (169, .bool true), (0, .slice false (l.map actAV)), (4, .ptr ⟨b1, 0, none⟩), (5, .ptr ⟨b4, 0, none⟩), (6, .int .i64 i), (7, .ptr ⟨b5, 0, none⟩), (8, .bool true)] _
    refine (bool_ff (((Int.tmod i 9) == 0))).elim (fun h25 => ?_) (fun h25 => ?_)
    ·
     refine pq_frame [(202, .bool false), (201, .bool false), (200, .int .i64 (Int.tmod i 9)), (199, .int .i64 i), (198, .bool false), (197, .bool false), (196, .bool false), (195, .int .i64 s2.steps), (194, .ptr ⟨b4, 5, none⟩), (193, .ptr ⟨b4, 0, none⟩), (192, .ptr ⟨b4, 0, none⟩), (191, .int .i64 s2.steps), (190, .ptr ⟨b1, 0, none⟩), (189, .bool false), (188, .bool false), (187, .bool false), (186, .bool s2.down), (185, .ptr ⟨b4, 4, none⟩), (184, .ptr ⟨b4, 0, none⟩), (183, .ptr ⟨b4, 0, none⟩), (182, .bool s2.down), (181, .ptr ⟨b1, 0, none⟩), (180, .bool false), (179, .bool false), (178, .bool false), (177, .bool (nameF ((gI l i).s))), (176, .str ((gI l i).s)), (175, .ptr ⟨b5, 1, none⟩), (174, .bool (nameF ((gI l i).s))), (173, .str ((gI l i).s)), (172, .ptr ⟨b5, 1, none⟩), (171, .bool false), (170, .bool false), (169, .bool true), (0, .slice false (l.map actAV)), (4, .ptr ⟨b1, 0, none⟩), (5, .ptr ⟨b4, 0, none⟩), (6, .int .i64 i), (7, .ptr ⟨b5, 0, none⟩), (8, .bool true)] (by first | (rw [h25]; done) | (rw [h25]; rfl)) ?_
     try rw [h25] at key
     replace h25 : Int.tmod i 9 ≠ 0 := (ne_of_beq_false h25)
     refine pq_off rfl rfl ?_
     refine pq_off rfl rfl ?_
     refine pq_offc rfl ?_
     refine pq_off rfl rfl ?_
     refine ⟨trivial, ?_⟩
     refine ⟨trivial, ?_⟩
     exact key
    ·
     refine pq_frame [(202, .bool true), (201, .bool true), (200, .int .i64 (Int.tmod i 9)), (199, .int .i64 i), (198, .bool false), (197, .bool false), (196, .bool false), (195, .int .i64 s2.steps), (194, .ptr ⟨b4, 5, none⟩), (193, .ptr ⟨b4, 0, none⟩), (192, .ptr ⟨b4, 0, none⟩), (191, .int .i64 s2.steps), (190, .ptr ⟨b1, 0, none⟩), (189, .bool false), (188, .bool false), (187, .bool false), (186, .bool s2.down), (185, .ptr ⟨b4, 4, none⟩), (184, .ptr ⟨b4, 0, none⟩), (183, .ptr ⟨b4, 0, none⟩), (182, .bool s2.down), (181, .ptr ⟨b1, 0, none⟩), (180, .bool false), (179, .bool false), (178, .bool false), (177, .bool (nameF ((gI l i).s))), (176, .str ((gI l i).s)), (175, .ptr ⟨b5, 1, none⟩), (174, .bool (nameF ((gI l i).s))), (173, .str ((gI l i).s)), (172, .ptr ⟨b5, 1, none⟩), (171, .bool false), (170, .bool false), (169, .bool true), (0, .slice false (l.map actAV)), (4, .ptr ⟨b1, 0, none⟩), (5, .ptr ⟨b4, 0, none⟩), (6, .int .i64 i), (7, .ptr ⟨b5, 0, none⟩), (8, .bool true)] (by first | (rw [h25]; done) | (rw [h25]; rfl)) ?_
     try rw [h25] at key
     replace h25 : Int.tmod i 9 = 0 := (eq_of_beq h25)
     refine ⟨trivial, trivial, (pure_mem (wth_split (m := m) (L := [(b5, actObj (gI l i)), (q, mObj s2.now), (b4, rObj (rT r2 s2)), (b1, dObj b3 q s2), (b3, mObj s2.kept)]) hNb5 (pick_perm [3, 1, 1] _)) (fun Kc hKc => u_asDisk b1 b3 q b4 s2 r2 (i.toNat + 1) (by have q := hNb5; simp at q ⊢; omega) hT2 (by omega) _ Kc hKc)), trivial, trivial, ?_⟩
     refine ⟨trivial, ?_⟩
     exact key
   refine hK1 _ _ ?_; clear hK1 K1
   refine awp_cond rfl rfl (fun h26 => ?_) (fun h26 => ?_)
   ·
    replace h26 : (Int.tmod i 9 ≠ 0) ∧ (False) := ⟨(ne_of_beq_false (bnT (bandL h26))), (by cases (bandR h26))⟩
    refine awp_reg2_seq [] [2] (by decide) ?_
    intro K1 hK1
    refine ⟨trivial, ?_⟩
    show K1 [(2, .bool false)] (AMem.wth m [(b5, actObj (gI l i)), (q, mObj s2.now), (b4, rObj (rT r2 s2)), (b1, dObj b3 q s2), (b3, mObj s2.kept)])
    refine hK1 _ _ ?_; clear hK1 K1
    refine awp_ret ?_
    refine ⟨trivial, m, (wth_sub2 (m := m) [(b5, actObj (gI l i)), (q, mObj s2.now), (b4, rObj (rT r2 s2)), (b1, dObj b3 q s2), (b3, mObj s2.kept)] [] hNb5 (by simp only [List.map_cons, List.map_nil, List.forall_mem_cons]; exact ⟨hFb5, hFq, hFb4, hFb1, hFb3, fun _ h => by cases h⟩)), ?_⟩
    show K (.bool false) m
   
    first | exact hK | exact absurd (‹(Int.tmod i 9 ≠ 0) ∧ False›).2 id
   replace h26 : (Int.tmod i 9 = 0) ∨ (True) := ((bandF h26).imp (fun q => (eq_of_beq (bnF q))) (fun q => trivial))
   refine awp_skip ?_
   refine hK5 _ _ ?_; clear hK5
   have hNd9 : ([q, b4, b1, b3] : List Nat).Nodup := drop_nodup (L := [(b5, actObj (gI l i)), (q, mObj s2.now), (b4, rObj (rT r2 s2)), (b1, dObj b3 q s2), (b3, mObj s2.kept)]) hNb5 (pick_perm [0] _)
   refine awp_dropP [(b5, actObj (gI l i))] [(q, mObj s2.now), (b4, rObj (rT r2 s2)), (b1, dObj b3 q s2), (b3, mObj s2.kept)] hNb5 (pick_perm [0] _) (by simp only [List.map_cons, List.map_nil, List.forall_mem_cons]; exact ⟨hFb5, fun _ h => by cases h⟩) ?_
   refine awp_reg2 [] [0, 4, 5, 6] (by decide) ?_
   intro K1 hK1
   refine ⟨trivial, ?_⟩
   refine ar_add rfl (a := i) (b := 1) rfl rfl (by omega) (by omega) ?_
   refine ⟨trivial, ?_⟩
   show K1 [(0, .slice false (l.map actAV)), (4, .ptr ⟨b1, 0, none⟩), (5, .ptr ⟨b4, 0, none⟩), (6, .int .i64 (i + 1))] (AMem.wth m [(q, mObj s2.now), (b4, rObj (rT r2 s2)), (b1, dObj b3 q s2), (b3, mObj s2.kept)])
   refine hK1 _ _ ?_; clear hK1 K1
   refine ⟨(i + 1, q, r2, s2), rfl, rfl, ?_, ?_⟩
   ·
    show ([q, b4, b1, b3] : List Nat).Nodup ∧ m q = none ∧ (0 ≤ ((i + 1 : Int)) ∧ ((i + 1 : Int)) ≤ l.length ∧ l.length ≤ 100 ∧ Two ((s2 : DSt)) ((r2 : RSt)) ((i + 1 : Int)).toNat)
    refine ⟨hNd9, hFq, ?_⟩
    refine ⟨by omega, by omega, hI.2.2.1, ?_⟩
    rw [show (i + 1).toNat = i.toNat + 1 from by omega]
    first | exact hT2 | exact hI.2.2.2.mono (Nat.le_succ _)
   ·
    show l.length - ((i + 1 : Int)).toNat < l.length - i.toNat
    omega
  replace h24 : (gI l i).kind ≠ ([115, 116, 101, 112] : List UInt8) := (ne_of_beq_false h24)
  refine awp_reg2_seq [] [0, 4, 5, 6, 7, 8, 157] (by decide) ?_
  intro K1 hK1
  refine ⟨trivial, trivial, ?_⟩
  show K1 [(0, .slice false (l.map actAV)), (4, .ptr ⟨b1, 0, none⟩), (5, .ptr ⟨b4, 0, none⟩), (6, .int .i64 i), (7, .ptr ⟨b5, 0, none⟩), (8, .bool true), (157, .bool (((gI l i).kind) == ([97, 114, 109] : List UInt8)))] (AMem.wth m [(b5, actObj (gI l i)), (q, mObj s.now), (b4, rObj (rT r s)), (b1, dObj b3 q s), (b3, mObj s.kept)])
  refine hK1 _ _ ?_; clear hK1 K1
  refine awp_cond rfl rfl (fun h27 => ?_) (fun h27 => ?_)
  ·
   replace h27 : (gI l i).kind = ([97, 114, 109] : List UInt8) := (eq_of_beq h27)
   refine awp_reg2_seq [] [0, 4, 5, 6, 7, 8] (by decide) ?_
   intro K1 hK1
   refine ⟨trivial, ⟨rfl, by decide⟩, ?_⟩
   refine ar_loadp rfl (v := .int .i64 ((gI l i).a)) rfl (wth_get 0 hNb5 rfl) rfl (apartOk_one rfl rfl (Nat.le_of_ble_eq_true rfl)) rfl ?_
   refine ar_mem (wth_split hNb5 (pick_perm [3, 1, 2] _)) ?_
   refine u_Arm3 b1 b3 q s ((gI l i).a) _ _ ?_
   show aopsR _ _ _ _ _ _ (AMem.wth (AMem.wth m [(b5, actObj (gI l i)), (b4, rObj (rT r s))]) [(b1, dObj b3 q (armD s ((gI l i).a))), (q, mObj ((armD s ((gI l i).a)).now)), (b3, mObj ((armD s ((gI l i).a)).kept))])
   refine ar_mem (wth_split (m := m) (L := [(b5, actObj (gI l i)), (q, mObj ((armD s ((gI l i).a)).now)), (b4, rObj (rT r s)), (b1, dObj b3 q (armD s ((gI l i).a))), (b3, mObj ((armD s ((gI l i).a)).kept))]) hNb5 (pick_perm [3, 1, 2] _)).symm ?_
   show K1 [(0, .slice false (l.map actAV)), (4, .ptr ⟨b1, 0, none⟩), (5, .ptr ⟨b4, 0, none⟩), (6, .int .i64 i), (7, .ptr ⟨b5, 0, none⟩), (8, .bool true)] (AMem.wth m [(b5, actObj (gI l i)), (q, mObj ((armD s ((gI l i).a)).now)), (b4, rObj (rT r s)), (b1, dObj b3 q (armD s ((gI l i).a))), (b3, mObj ((armD s ((gI l i).a)).kept))])
   refine hK1 _ _ ?_; clear hK1 K1
   refine awp_reg2 [] [0, 4, 5, 6, 7, 8] (by decide) ?_
   intro K1 hK1
   refine ⟨trivial, ⟨rfl, by decide⟩, ?_⟩
   refine ar_loadp rfl (v := .int .i64 ((gI l i).a)) rfl (wth_get 0 hNb5 rfl) rfl (apartOk_one rfl rfl (Nat.le_of_ble_eq_true rfl)) rfl ?_
   refine ⟨trivial, trivial, ⟨rfl, by decide⟩, ?_⟩
   refine ar_storep rfl 2 (v := .int .i64 (if -1 > (gI l i).a then -1 else (gI l i).a)) (l' := [.slice true (r.kept.map fileAV), .slice true (r.now.map fileAV), .slice true (r.wait.map trnAV), .int .i64 (if -1 > (gI l i).a then -1 else (gI l i).a), .bool s.down, .int .i64 s.steps]) rfl rfl hNb5 rfl rfl rfl rfl rfl (Nat.le_of_ble_eq_true rfl) rfl ?_
   show K1 [(0, .slice false (l.map actAV)), (4, .ptr ⟨b1, 0, none⟩), (5, .ptr ⟨b4, 0, none⟩), (6, .int .i64 i), (7, .ptr ⟨b5, 0, none⟩), (8, .bool true)] (AMem.wth m [(b5, actObj (gI l i)), (q, mObj ((armD s ((gI l i).a)).now)), (b4, .cells [.slice true (r.kept.map fileAV), .slice true (r.now.map fileAV), .slice true (r.wait.map trnAV), .int .i64 (if -1 > (gI l i).a then -1 else (gI l i).a), .bool s.down, .int .i64 s.steps]), (b1, dObj b3 q (armD s ((gI l i).a))), (b3, mObj ((armD s ((gI l i).a)).kept))])
   refine hK1 _ _ ?_; clear hK1 K1
   have hob : .cells [.slice true (r.kept.map fileAV), .slice true (r.now.map fileAV), .slice true (r.wait.map trnAV), .int .i64 (if -1 > (gI l i).a then -1 else (gI l i).a), .bool s.down, .int .i64 s.steps] = rObj (rT r (armD s (gI l i).a)) := rfl
   rw [hob]
   have hT2 := (show Two (armD s (gI l i).a) r (i.toNat + 1) from hI.2.2.2.arm (gI l i).a hba.2.2)
   generalize armD s ((gI l i).a) = s2 at hT2 ⊢
   refine hK6 _ _ ?_; clear hK6
   refine awp_draw_seq Try.mixed [(.bool (nameF ((gI l i).s))), (.bool (nameF ((gI l i).s))), (.bool s2.down), (.int .i64 s2.steps), (.bool true)] [0, 4, 5, 6, 208] (by decide) (by decide) ?_
   intro K1 hK1
   suffices key : K1 [(0, .slice false (l.map actAV)), (4, .ptr ⟨b1, 0, none⟩), (5, .ptr ⟨b4, 0, none⟩), (6, .int .i64 i), (208, .bool ((!((Int.tmod i 9) == 0)) && false))] (AMem.wth m [(b5, actObj (gI l i)), (q, mObj s2.now), (b4, rObj (rT r s2)), (b1, dObj b3 q s2), (b3, mObj s2.kept)]) by
    refine ⟨trivial, trivial, trivial, ⟨rfl, by decide⟩, ?_⟩
    refine pq_loadp rfl (v := .str ((gI l i).s)) rfl (wth_get 0 hNb5 rfl) (apartOk_one rfl rfl (Nat.le_of_ble_eq_true rfl)) rfl ?_
    refine ⟨(fun Kc hKc => u_Name ((gI l i).s) (by first | assumption | exact hba.1 | exact hba.2.1) _ Kc hKc), ⟨rfl, by decide⟩, ?_⟩
    refine pq_loadp rfl (v := .str ((gI l i).s)) rfl (wth_get 0 hNb5 rfl) (apartOk_one rfl rfl (Nat.le_of_ble_eq_true rfl)) rfl ?_
    refine ⟨(fun Kc hKc => u_FileMay ((gI l i).s) (by first | assumption | exact hba.1 | exact hba.2.1) _ Kc hKc), rfl, ?_⟩
    refine pq_top 178 (.bool false) (congrArg AV.bool (by simp)) ?_
    refine ⟨trivial, ?_⟩
    refine ⟨trivial, trivial, (pure_mem (wth_split (m := m) (L := [(b5, actObj (gI l i)), (q, mObj s2.now), (b4, rObj (rT r s2)), (b1, dObj b3 q s2), (b3, mObj s2.kept)]) hNb5 (pick_perm [3] _)) (fun Kc hKc => u_Down b1 b3 q s2 _ Kc hKc)), trivial, trivial, ⟨rfl, by decide⟩, ?_⟩
    refine pq_loadp rfl (v := .bool s2.down) rfl (wth_get 2 hNb5 rfl) (apartOk_one rfl rfl (Nat.le_of_ble_eq_true rfl)) rfl ?_
    refine ⟨rfl, ?_⟩
    refine pq_top 187 (.bool false) (congrArg AV.bool (by simp)) ?_
    refine ⟨trivial, ?_⟩
    refine ⟨trivial, trivial, (pure_mem (wth_split (m := m) (L := [(b5, actObj (gI l i)), (q, mObj s2.now), (b4, rObj (rT r s2)), (b1, dObj b3 q s2), (b3, mObj s2.kept)]) hNb5 (pick_perm [3] _)) (fun Kc hKc => u_Steps b1 b3 q s2 _ Kc hKc)), trivial, trivial, ⟨rfl, by decide⟩, ?_⟩
    refine pq_loadp rfl (v := .int .i64 s2.steps) rfl (wth_get 2 hNb5 rfl) (apartOk_one rfl rfl (Nat.le_of_ble_eq_true rfl)) rfl ?_
    refine ⟨trivial, ?_⟩
    refine pq_top 196 (.bool false) (congrArg AV.bool (by simp)) ?_
    refine ⟨trivial, ?_⟩
    refine ⟨trivial, trivial, (by exact rem_ok 9 (by decide) hI.1 (by decide)), trivial, trivial, ?_⟩
    show pseq _ _ _ _ _ [(202, .bool ((Int.tmod i 9) == 0)), (201, .bool ((Int.tmod i 9) == 0)), (200, .int .i64 (Int.tmod i 9)), (199, .int .i64 i), (198, .bool false), (197, .bool false), (196, .bool false), (195, .int .i64 s2.steps), (194, .ptr ⟨b4, 5, none⟩), (193, .ptr ⟨b4, 0, none⟩), (192, .ptr ⟨b4, 0, none⟩), (191, .int .i64 s2.steps), (190, .ptr ⟨b1, 0, none⟩), (189, .bool false), (188, .bool false), (187, .bool false), (186, .bool s2.down), (185, .ptr ⟨b4, 4, none⟩), (184, .ptr ⟨b4, 0, none⟩), (183, .ptr ⟨b4, 0, none⟩), (182, .bool s2.down), (181, .ptr ⟨b1, 0, none⟩), (180, .bool false), (179, .bool false), (178, .bool false), (177, .bool (nameF ((gI l i).s))), (176, .str ((gI l i).s)), (175, .ptr ⟨b5, 1, none⟩), (174, .bool (nameF ((gI l i).s))), (173, .str ((gI l i).s)), (172, .ptr ⟨b5, 1, none⟩), (171, .bool false), (170, .bool false), (169, .bool true), (0, .slice false (l.map actAV)), (4, .ptr ⟨b1, 0, none⟩), (5, .ptr ⟨b4, 0, none⟩), (6, .int .i64 i), (7, .ptr ⟨b5, 0, none⟩), (8, .bool true)] _
    refine (bool_ff (((Int.tmod i 9) == 0))).elim (fun h28 => ?_) (fun h28 => ?_)
    ·
     refine pq_frame [(202, .bool false), (201, .bool false), (200, .int .i64 (Int.tmod i 9)), (199, .int .i64 i), (198, .bool false), (197, .bool false), (196, .bool false), (195, .int .i64 s2.steps), (194, .ptr ⟨b4, 5, none⟩), (193, .ptr ⟨b4, 0, none⟩), (192, .ptr ⟨b4, 0, none⟩), (191, .int .i64 s2.steps), (190, .ptr ⟨b1, 0, none⟩), (189, .bool false), (188, .bool false), (187, .bool false), (186, .bool s2.down), (185, .ptr ⟨b4, 4, none⟩), (184, .ptr ⟨b4, 0, none⟩), (183, .ptr ⟨b4, 0, none⟩), (182, .bool s2.down), (181, .ptr ⟨b1, 0, none⟩), (180, .bool false), (179, .bool false), (178, .bool false), (177, .bool (nameF ((gI l i).s))), (176, .str ((gI l i).s)), (175, .ptr ⟨b5, 1, none⟩), (174, .bool (nameF ((gI l i).s))), (173, .str ((gI l i).s)), (172, .ptr ⟨b5, 1, none⟩), (171, .bool false), (170, .bool false), (169, .bool true), (0, .slice false (l.map actAV)), (4, .ptr ⟨b1, 0, none⟩), (5, .ptr ⟨b4, 0, none⟩), (6, .int .i64 i), (7, .ptr ⟨b5, 0, none⟩), (8, .bool true)] (by first | (rw [h28]; done) | (rw [h28]; rfl)) ?_
     try rw [h28] at key
     replace h28 : Int.tmod i 9 ≠ 0 := (ne_of_beq_false h28)
     refine pq_off rfl rfl ?_
     refine pq_off rfl rfl ?_
     refine pq_offc rfl ?_
     refine pq_off rfl rfl ?_
     refine ⟨trivial, ?_⟩
     refine ⟨trivial, ?_⟩
     exact key
    ·
     refine pq_frame [(202, .bool true), (201, .bool true), (200, .int .i64 (Int.tmod i 9)), (199, .int .i64 i), (198, .bool false), (197, .bool false), (196, .bool false), (195, .int .i64 s2.steps), (194, .ptr ⟨b4, 5, none⟩), (193, .ptr ⟨b4, 0, none⟩), (192, .ptr ⟨b4, 0, none⟩), (191, .int .i64 s2.steps), (190, .ptr ⟨b1, 0, none⟩), (189, .bool false), (188, .bool false), (187, .bool false), (186, .bool s2.down), (185, .ptr ⟨b4, 4, none⟩), (184, .ptr ⟨b4, 0, none⟩), (183, .ptr ⟨b4, 0, none⟩), (182, .bool s2.down), (181, .ptr ⟨b1, 0, none⟩), (180, .bool false), (179, .bool false), (178, .bool false), (177, .bool (nameF ((gI l i).s))), (176, .str ((gI l i).s)), (175, .ptr ⟨b5, 1, none⟩), (174, .bool (nameF ((gI l i).s))), (173, .str ((gI l i).s)), (172, .ptr ⟨b5, 1, none⟩), (171, .bool false), (170, .bool false), (169, .bool true), (0, .slice false (l.map actAV)), (4, .ptr ⟨b1, 0, none⟩), (5, .ptr ⟨b4, 0, none⟩), (6, .int .i64 i), (7, .ptr ⟨b5, 0, none⟩), (8, .bool true)] (by first | (rw [h28]; done) | (rw [h28]; rfl)) ?_
     try rw [h28] at key
     replace h28 : Int.tmod i 9 = 0 := (eq_of_beq h28)
     refine ⟨trivial, trivial, (pure_mem (wth_split (m := m) (L := [(b5, actObj (gI l i)), (q, mObj s2.now), (b4, rObj (rT r s2)), (b1, dObj b3 q s2), (b3, mObj s2.kept)]) hNb5 (pick_perm [3, 1, 1] _)) (fun Kc hKc => u_asDisk b1 b3 q b4 s2 r (i.toNat + 1) (by have q := hNb5; simp at q ⊢; omega) hT2 (by omega) _ Kc hKc)), trivial, trivial, ?_⟩
     refine ⟨trivial, ?_⟩
     exact key
   refine hK1 _ _ ?_; clear hK1 K1
   refine awp_cond rfl rfl (fun h29 => ?_) (fun h29 => ?_)
   ·
    replace h29 : (Int.tmod i 9 ≠ 0) ∧ (False) := ⟨(ne_of_beq_false (bnT (bandL h29))), (by cases (bandR h29))⟩
    refine awp_reg2_seq [] [2] (by decide) ?_
    intro K1 hK1
    refine ⟨trivial, ?_⟩
    show K1 [(2, .bool false)] (AMem.wth m [(b5, actObj (gI l i)), (q, mObj s2.now), (b4, rObj (rT r s2)), (b1, dObj b3 q s2), (b3, mObj s2.kept)])
    refine hK1 _ _ ?_; clear hK1 K1
    refine awp_ret ?_
    refine ⟨trivial, m, (wth_sub2 (m := m) [(b5, actObj (gI l i)), (q, mObj s2.now), (b4, rObj (rT r s2)), (b1, dObj b3 q s2), (b3, mObj s2.kept)] [] hNb5 (by simp only [List.map_cons, List.map_nil, List.forall_mem_cons]; exact ⟨hFb5, hFq, hFb4, hFb1, hFb3, fun _ h => by cases h⟩)), ?_⟩
    show K (.bool false) m
   
    first | exact hK | exact absurd (‹(Int.tmod i 9 ≠ 0) ∧ False›).2 id
   replace h29 : (Int.tmod i 9 = 0) ∨ (True) := ((bandF h29).imp (fun q => (eq_of_beq (bnF q))) (fun q => trivial))
   refine awp_skip ?_
   refine hK5 _ _ ?_; clear hK5
   have hNd10 : ([q, b4, b1, b3] : List Nat).Nodup := drop_nodup (L := [(b5, actObj (gI l i)), (q, mObj s2.now), (b4, rObj (rT r s2)), (b1, dObj b3 q s2), (b3, mObj s2.kept)]) hNb5 (pick_perm [0] _)
   refine awp_dropP [(b5, actObj (gI l i))] [(q, mObj s2.now), (b4, rObj (rT r s2)), (b1, dObj b3 q s2), (b3, mObj s2.kept)] hNb5 (pick_perm [0] _) (by simp only [List.map_cons, List.map_nil, List.forall_mem_cons]; exact ⟨hFb5, fun _ h => by cases h⟩) ?_
   refine awp_reg2 [] [0, 4, 5, 6] (by decide) ?_
   intro K1 hK1
   refine ⟨trivial, ?_⟩
   refine ar_add rfl (a := i) (b := 1) rfl rfl (by omega) (by omega) ?_
   refine ⟨trivial, ?_⟩
   show K1 [(0, .slice false (l.map actAV)), (4, .ptr ⟨b1, 0, none⟩), (5, .ptr ⟨b4, 0, none⟩), (6, .int .i64 (i + 1))] (AMem.wth m [(q, mObj s2.now), (b4, rObj (rT r s2)), (b1, dObj b3 q s2), (b3, mObj s2.kept)])
   refine hK1 _ _ ?_; clear hK1 K1
   refine ⟨(i + 1, q, r, s2), rfl, rfl, ?_, ?_⟩
   ·
    show ([q, b4, b1, b3] : List Nat).Nodup ∧ m q = none ∧ (0 ≤ ((i + 1 : Int)) ∧ ((i + 1 : Int)) ≤ l.length ∧ l.length ≤ 100 ∧ Two ((s2 : DSt)) r ((i + 1 : Int)).toNat)
    refine ⟨hNd10, hFq, ?_⟩
    refine ⟨by omega, by omega, hI.2.2.1, ?_⟩
    rw [show (i + 1).toNat = i.toNat + 1 from by omega]
    first | exact hT2 | exact hI.2.2.2.mono (Nat.le_succ _)
   ·
    show l.length - ((i + 1 : Int)).toNat < l.length - i.toNat
    omega
  replace h27 : (gI l i).kind ≠ ([97, 114, 109] : List UInt8) := (ne_of_beq_false h27)
  refine awp_reg2_seq [] [0, 4, 5, 6, 7, 8] (by decide) ?_
  intro K1 hK1
  refine ⟨trivial, ⟨rfl, by decide⟩, ?_⟩
  refine ar_loadp rfl (v := .int .i64 ((gI l i).a)) rfl (wth_get 0 hNb5 rfl) rfl (apartOk_one rfl rfl (Nat.le_of_ble_eq_true rfl)) rfl ?_
  refine ⟨⟨rfl, by decide⟩, ?_⟩
  refine ar_loadp rfl (v := .int .i64 ((gI l i).b)) rfl (wth_get 0 hNb5 rfl) rfl (apartOk_one rfl rfl (Nat.le_of_ble_eq_true rfl)) rfl ?_
  refine ar_mem (wth_split hNb5 (pick_perm [3, 3] _)) ?_
  refine u_RestartD b1 b3 q s ((gI l i).a) ((gI l i).b) i.toNat (by have q := hNb5; simp at q ⊢; omega) hI.2.2.2.inv (by omega) hI.2.2.2.k.nd _ _ ?_
  intro b6 hqb6 hb6 nw1 hp1
  have hwb6 := wth_new1 (m := m) (L := [(b5, actObj (gI l i)), (q, mObj s.now), (b4, rObj (rT r s)), (b1, dObj b3 q s), (b3, mObj s.kept)]) (x := b6) hNb5 (pick_perm [3, 3] _) hqb6 hb6
  have hNb6 : ([b6, b5, q, b4, b1, b3] : List Nat).Nodup := hwb6.1
  have hFb6 : m b6 = none := hwb6.2
  show aopsR _ _ _ _ _ _ (AMem.wth (AMem.wth m [(b5, actObj (gI l i)), (q, mObj s.now), (b4, rObj (rT r s))]) [(b6, mObj ((restS s ((gI l i).a) ((gI l i).b) nw1).now)), (b1, dObj b3 b6 (restS s ((gI l i).a) ((gI l i).b) nw1)), (b3, mObj ((restS s ((gI l i).a) ((gI l i).b) nw1).kept))])
  refine ar_mem (wth_split (m := m) (L := [(b6, mObj ((restS s ((gI l i).a) ((gI l i).b) nw1).now)), (b5, actObj (gI l i)), (q, mObj s.now), (b4, rObj (rT r s)), (b1, dObj b3 b6 (restS s ((gI l i).a) ((gI l i).b) nw1)), (b3, mObj ((restS s ((gI l i).a) ((gI l i).b) nw1).kept))]) hNb6 (pick_perm [0, 3, 3] _)).symm ?_
  show K1 [(0, .slice false (l.map actAV)), (4, .ptr ⟨b1, 0, none⟩), (5, .ptr ⟨b4, 0, none⟩), (6, .int .i64 i), (7, .ptr ⟨b5, 0, none⟩), (8, .bool true)] (AMem.wth m [(b6, mObj ((restS s ((gI l i).a) ((gI l i).b) nw1).now)), (b5, actObj (gI l i)), (q, mObj s.now), (b4, rObj (rT r s)), (b1, dObj b3 b6 (restS s ((gI l i).a) ((gI l i).b) nw1)), (b3, mObj ((restS s ((gI l i).a) ((gI l i).b) nw1).kept))])
  refine hK1 _ _ ?_; clear hK1 K1
  refine awp_reg2 [] [0, 4, 5, 6, 7, 8] (by decide) ?_
  intro K1 hK1
  refine ⟨trivial, ⟨rfl, by decide⟩, ?_⟩
  refine ar_loadp rfl (v := .int .i64 ((gI l i).a)) rfl (wth_get 1 hNb6 rfl) rfl (apartOk_one rfl rfl (Nat.le_of_ble_eq_true rfl)) rfl ?_
  refine ⟨⟨rfl, by decide⟩, ?_⟩
  refine ar_loadp rfl (v := .int .i64 ((gI l i).b)) rfl (wth_get 1 hNb6 rfl) rfl (apartOk_one rfl rfl (Nat.le_of_ble_eq_true rfl)) rfl ?_
  refine ar_mem (wth_split hNb6 (pick_perm [3] _)) ?_
  refine u_QRestartT b4 hI.2.2.2 (by omega) ((gI l i).a) ((gI l i).b) nw1 hp1 _ _ ?_
  show aopsR _ _ _ _ _ _ (AMem.wth (AMem.wth m [(b6, mObj ((restS s ((gI l i).a) ((gI l i).b) nw1).now)), (b5, actObj (gI l i)), (q, mObj s.now), (b1, dObj b3 b6 (restS s ((gI l i).a) ((gI l i).b) nw1)), (b3, mObj ((restS s ((gI l i).a) ((gI l i).b) nw1).kept))]) [(b4, rObj (rT (restQ (rT r s) ((gI l i).a) ((gI l i).b)) (restS s ((gI l i).a) ((gI l i).b) nw1)))])
  refine ar_mem (wth_split (m := m) (L := [(b6, mObj ((restS s ((gI l i).a) ((gI l i).b) nw1).now)), (b5, actObj (gI l i)), (q, mObj s.now), (b4, rObj (rT (restQ (rT r s) ((gI l i).a) ((gI l i).b)) (restS s ((gI l i).a) ((gI l i).b) nw1))), (b1, dObj b3 b6 (restS s ((gI l i).a) ((gI l i).b) nw1)), (b3, mObj ((restS s ((gI l i).a) ((gI l i).b) nw1).kept))]) hNb6 (pick_perm [3] _)).symm ?_
  show K1 [(0, .slice false (l.map actAV)), (4, .ptr ⟨b1, 0, none⟩), (5, .ptr ⟨b4, 0, none⟩), (6, .int .i64 i), (7, .ptr ⟨b5, 0, none⟩), (8, .bool true)] (AMem.wth m [(b6, mObj ((restS s ((gI l i).a) ((gI l i).b) nw1).now)), (b5, actObj (gI l i)), (q, mObj s.now), (b4, rObj (rT (restQ (rT r s) ((gI l i).a) ((gI l i).b)) (restS s ((gI l i).a) ((gI l i).b) nw1))), (b1, dObj b3 b6 (restS s ((gI l i).a) ((gI l i).b) nw1)), (b3, mObj ((restS s ((gI l i).a) ((gI l i).b) nw1).kept))])
  refine hK1 _ _ ?_; clear hK1 K1
  have hT2 := (hI.2.2.2.rest (gI l i).a (gI l i).b hp1).2
  generalize restS s ((gI l i).a) ((gI l i).b) nw1 = s2 at hT2 ⊢
  generalize restQ (rT r s) ((gI l i).a) ((gI l i).b) = r2 at hT2 ⊢
  refine hK6 _ _ ?_; clear hK6
  refine awp_draw_seq Try.mixed [(.bool (nameF ((gI l i).s))), (.bool (nameF ((gI l i).s))), (.bool s2.down), (.int .i64 s2.steps), (.bool true)] [0, 4, 5, 6, 208] (by decide) (by decide) ?_
  intro K1 hK1
  suffices key : K1 [(0, .slice false (l.map actAV)), (4, .ptr ⟨b1, 0, none⟩), (5, .ptr ⟨b4, 0, none⟩), (6, .int .i64 i), (208, .bool ((!((Int.tmod i 9) == 0)) && false))] (AMem.wth m [(b6, mObj s2.now), (b5, actObj (gI l i)), (q, mObj s.now), (b4, rObj (rT r2 s2)), (b1, dObj b3 b6 s2), (b3, mObj s2.kept)]) by
   refine ⟨trivial, trivial, trivial, ⟨rfl, by decide⟩, ?_⟩
   refine pq_loadp rfl (v := .str ((gI l i).s)) rfl (wth_get 1 hNb6 rfl) (apartOk_one rfl rfl (Nat.le_of_ble_eq_true rfl)) rfl ?_
   refine ⟨(fun Kc hKc => u_Name ((gI l i).s) (by first | assumption | exact hba.1 | exact hba.2.1) _ Kc hKc), ⟨rfl, by decide⟩, ?_⟩
   refine pq_loadp rfl (v := .str ((gI l i).s)) rfl (wth_get 1 hNb6 rfl) (apartOk_one rfl rfl (Nat.le_of_ble_eq_true rfl)) rfl ?_
   refine ⟨(fun Kc hKc => u_FileMay ((gI l i).s) (by first | assumption | exact hba.1 | exact hba.2.1) _ Kc hKc), rfl, ?_⟩
   refine pq_top 178 (.bool false) (congrArg AV.bool (by simp)) ?_
   refine ⟨trivial, ?_⟩
   refine ⟨trivial, trivial, (pure_mem (wth_split (m := m) (L := [(b6, mObj s2.now), (b5, actObj (gI l i)), (q, mObj s.now), (b4, rObj (rT r2 s2)), (b1, dObj b3 b6 s2), (b3, mObj s2.kept)]) hNb6 (pick_perm [4] _)) (fun Kc hKc => u_Down b1 b3 b6 s2 _ Kc hKc)), trivial, trivial, ⟨rfl, by decide⟩, ?_⟩
   refine pq_loadp rfl (v := .bool s2.down) rfl (wth_get 3 hNb6 rfl) (apartOk_one rfl rfl (Nat.le_of_ble_eq_true rfl)) rfl ?_
   refine ⟨rfl, ?_⟩
   refine pq_top 187 (.bool false) (congrArg AV.bool (by simp)) ?_
   refine ⟨trivial, ?_⟩
   refine ⟨trivial, trivial, (pure_mem (wth_split (m := m) (L := [(b6, mObj s2.now), (b5, actObj (gI l i)), (q, mObj s.now), (b4, rObj (rT r2 s2)), (b1, dObj b3 b6 s2), (b3, mObj s2.kept)]) hNb6 (pick_perm [4] _)) (fun Kc hKc => u_Steps b1 b3 b6 s2 _ Kc hKc)), trivial, trivial, ⟨rfl, by decide⟩, ?_⟩
   refine pq_loadp rfl (v := .int .i64 s2.steps) rfl (wth_get 3 hNb6 rfl) (apartOk_one rfl rfl (Nat.le_of_ble_eq_true rfl)) rfl ?_
   refine ⟨trivial, ?_⟩
   refine pq_top 196 (.bool false) (congrArg AV.bool (by simp)) ?_
   refine ⟨trivial, ?_⟩
   refine ⟨trivial, trivial, (by exact rem_ok 9 (by decide) hI.1 (by decide)), trivial, trivial, ?_⟩
   show pseq _ _ _ _ _ [(202, .bool ((Int.tmod i 9) == 0)), (201, .bool ((Int.tmod i 9) == 0)), (200, .int .i64 (Int.tmod i 9)), (199, .int .i64 i), (198, .bool false), (197, .bool false), (196, .bool false), (195, .int .i64 s2.steps), (194, .ptr ⟨b4, 5, none⟩), (193, .ptr ⟨b4, 0, none⟩), (192, .ptr ⟨b4, 0, none⟩), (191, .int .i64 s2.steps), (190, .ptr ⟨b1, 0, none⟩), (189, .bool false), (188, .bool false), (187, .bool false), (186, .bool s2.down), (185, .ptr ⟨b4, 4, none⟩), (184, .ptr ⟨b4, 0, none⟩), (183, .ptr ⟨b4, 0, none⟩), (182, .bool s2.down), (181, .ptr ⟨b1, 0, none⟩), (180, .bool false), (179, .bool false), (178, .bool false), (177, .bool (nameF ((gI l i).s))), (176, .str ((gI l i).s)), (175, .ptr ⟨b5, 1, none⟩), (174, .bool (nameF ((gI l i).s))), (173, .str ((gI l i).s)), (172, .ptr ⟨b5, 1, none⟩), (171, .bool false), (170, .bool false), (169, .bool true), (0, .slice false (l.map actAV)), (4, .ptr ⟨b1, 0, none⟩), (5, .ptr ⟨b4, 0, none⟩), (6, .int .i64 i), (7, .ptr ⟨b5, 0, none⟩), (8, .bool true)] _
   refine (bool_ff (((Int.tmod i 9) == 0))).elim (fun h30 => ?_) (fun h30 => ?_)
   ·
    refine pq_frame [(202, .bool false), (201, .bool false), (200, .int .i64 (Int.tmod i 9)), (199, .int .i64 i), (198, .bool false), (197, .bool false), (196, .bool false), (195, .int .i64 s2.steps), (194, .ptr ⟨b4, 5, none⟩), (193, .ptr ⟨b4, 0, none⟩), (192, .ptr ⟨b4, 0, none⟩), (191, .int .i64 s2.steps), (190, .ptr ⟨b1, 0, none⟩), (189, .bool false), (188, .bool false), (187, .bool false), (186, .bool s2.down), (185, .ptr ⟨b4, 4, none⟩), (184, .ptr ⟨b4, 0, none⟩), (183, .ptr ⟨b4, 0, none⟩), (182, .bool s2.down), (181, .ptr ⟨b1, 0, none⟩), (180, .bool false), (179, .bool false), (178, .bool false), (177, .bool (nameF ((gI l i).s))), (176, .str ((gI l i).s)), (175, .ptr ⟨b5, 1, none⟩), (174, .bool (nameF ((gI l i).s))), (173, .str ((gI l i).s)), (172, .ptr ⟨b5, 1, none⟩), (171, .bool false), (170, .bool false), (169, .bool true), (0, .slice false (l.map actAV)), (4, .ptr ⟨b1, 0, none⟩), (5, .ptr ⟨b4, 0, none⟩), (6, .int .i64 i), (7, .ptr ⟨b5, 0, none⟩), (8, .bool true)] (by first | (rw [h30]; done) | (rw [h30]; rfl)) ?_
    try rw [h30] at key
    replace h30 : Int.tmod i 9 ≠ 0 := (ne_of_beq_false h30)
    refine pq_off rfl rfl ?_
    refine pq_off rfl rfl ?_
    refine pq_offc rfl ?_
    refine pq_off rfl rfl ?_
    refine ⟨trivial, ?_⟩
    refine ⟨trivial, ?_⟩
    exact key
   ·
    refine pq_frame [(202, .bool true), (201, .bool true), (200, .int .i64 (Int.tmod i 9)), (199, .int .i64 i), (198, .bool false), (197, .bool false), (196, .bool false), (195, .int .i64 s2.steps), (194, .ptr ⟨b4, 5, none⟩), (193, .ptr ⟨b4, 0, none⟩), (192, .ptr ⟨b4, 0, none⟩), (191, .int .i64 s2.steps), (190, .ptr ⟨b1, 0, none⟩), (189, .bool false), (188, .bool false), (187, .bool false), (186, .bool s2.down), (185, .ptr ⟨b4, 4, none⟩), (184, .ptr ⟨b4, 0, none⟩), (183, .ptr ⟨b4, 0, none⟩), (182, .bool s2.down), (181, .ptr ⟨b1, 0, none⟩), (180, .bool false), (179, .bool false), (178, .bool false), (177, .bool (nameF ((gI l i).s))), (176, .str ((gI l i).s)), (175, .ptr ⟨b5, 1, none⟩), (174, .bool (nameF ((gI l i).s))), (173, .str ((gI l i).s)), (172, .ptr ⟨b5, 1, none⟩), (171, .bool false), (170, .bool false), (169, .bool true), (0, .slice false (l.map actAV)), (4, .ptr ⟨b1, 0, none⟩), (5, .ptr ⟨b4, 0, none⟩), (6, .int .i64 i), (7, .ptr ⟨b5, 0, none⟩), (8, .bool true)] (by first | (rw [h30]; done) | (rw [h30]; rfl)) ?_
    try rw [h30] at key
    replace h30 : Int.tmod i 9 = 0 := (eq_of_beq h30)
    refine ⟨trivial, trivial, (pure_mem (wth_split (m := m) (L := [(b6, mObj s2.now), (b5, actObj (gI l i)), (q, mObj s.now), (b4, rObj (rT r2 s2)), (b1, dObj b3 b6 s2), (b3, mObj s2.kept)]) hNb6 (pick_perm [4, 0, 2] _)) (fun Kc hKc => u_asDisk b1 b3 b6 b4 s2 r2 (i.toNat + 1) (by have q := hNb6; simp at q ⊢; omega) hT2 (by omega) _ Kc hKc)), trivial, trivial, ?_⟩
    refine ⟨trivial, ?_⟩
    exact key
  refine hK1 _ _ ?_; clear hK1 K1
  refine awp_cond rfl rfl (fun h31 => ?_) (fun h31 => ?_)
  ·
   replace h31 : (Int.tmod i 9 ≠ 0) ∧ (False) := ⟨(ne_of_beq_false (bnT (bandL h31))), (by cases (bandR h31))⟩
   refine awp_reg2_seq [] [2] (by decide) ?_
   intro K1 hK1
   refine ⟨trivial, ?_⟩
   show K1 [(2, .bool false)] (AMem.wth m [(b6, mObj s2.now), (b5, actObj (gI l i)), (q, mObj s.now), (b4, rObj (rT r2 s2)), (b1, dObj b3 b6 s2), (b3, mObj s2.kept)])
   refine hK1 _ _ ?_; clear hK1 K1
   refine awp_ret ?_
   refine ⟨trivial, m, (wth_sub2 (m := m) [(b6, mObj s2.now), (b5, actObj (gI l i)), (q, mObj s.now), (b4, rObj (rT r2 s2)), (b1, dObj b3 b6 s2), (b3, mObj s2.kept)] [] hNb6 (by simp only [List.map_cons, List.map_nil, List.forall_mem_cons]; exact ⟨hFb6, hFb5, hFq, hFb4, hFb1, hFb3, fun _ h => by cases h⟩)), ?_⟩
   show K (.bool false) m
  
   first | exact hK | exact absurd (‹(Int.tmod i 9 ≠ 0) ∧ False›).2 id
  replace h31 : (Int.tmod i 9 = 0) ∨ (True) := ((bandF h31).imp (fun q => (eq_of_beq (bnF q))) (fun q => trivial))
  refine awp_skip ?_
  refine hK5 _ _ ?_; clear hK5
  have hNd11 : ([b6, b4, b1, b3] : List Nat).Nodup := drop_nodup (L := [(b6, mObj s2.now), (b5, actObj (gI l i)), (q, mObj s.now), (b4, rObj (rT r2 s2)), (b1, dObj b3 b6 s2), (b3, mObj s2.kept)]) hNb6 (pick_perm [1, 1] _)
  refine awp_dropP [(b5, actObj (gI l i)), (q, mObj s.now)] [(b6, mObj s2.now), (b4, rObj (rT r2 s2)), (b1, dObj b3 b6 s2), (b3, mObj s2.kept)] hNb6 (pick_perm [1, 1] _) (by simp only [List.map_cons, List.map_nil, List.forall_mem_cons]; exact ⟨hFb5, hFq, fun _ h => by cases h⟩) ?_
  refine awp_reg2 [] [0, 4, 5, 6] (by decide) ?_
  intro K1 hK1
  refine ⟨trivial, ?_⟩
  refine ar_add rfl (a := i) (b := 1) rfl rfl (by omega) (by omega) ?_
  refine ⟨trivial, ?_⟩
  show K1 [(0, .slice false (l.map actAV)), (4, .ptr ⟨b1, 0, none⟩), (5, .ptr ⟨b4, 0, none⟩), (6, .int .i64 (i + 1))] (AMem.wth m [(b6, mObj s2.now), (b4, rObj (rT r2 s2)), (b1, dObj b3 b6 s2), (b3, mObj s2.kept)])
  refine hK1 _ _ ?_; clear hK1 K1
  refine ⟨(i + 1, b6, r2, s2), rfl, rfl, ?_, ?_⟩
  ·
   show ([((b6 : Nat)), b4, b1, b3] : List Nat).Nodup ∧ m ((b6 : Nat)) = none ∧ (0 ≤ ((i + 1 : Int)) ∧ ((i + 1 : Int)) ≤ l.length ∧ l.length ≤ 100 ∧ Two ((s2 : DSt)) ((r2 : RSt)) ((i + 1 : Int)).toNat)
   refine ⟨hNd11, hFb6, ?_⟩
   refine ⟨by omega, by omega, hI.2.2.1, ?_⟩
   rw [show (i + 1).toNat = i.toNat + 1 from by omega]
   first | exact hT2 | exact hI.2.2.2.mono (Nat.le_succ _)
  ·
   show l.length - ((i + 1 : Int)).toNat < l.length - i.toNat
   omega
 replace h2 : (l.length : Int) ≤ i := (Int.not_lt.1 (of_decide_eq_false h2))
 refine awp_exit ?_
 refine hK3 _ _ ?_; clear hK3
 refine awp_reg2_seq [] [2] (by decide) ?_
 intro K1 hK1
 refine ⟨trivial, trivial, ?_⟩
 refine ar_mem (wth_split hNq (pick_perm [2, 0, 0] _)) ?_
 refine u_asDisk b1 b3 q b4 s r i.toNat (by have q := hNq; simp at q ⊢; omega) hI.2.2.2 (by omega) _ _ ?_
 show aopsR _ _ _ _ _ _ (AMem.wth (AMem.wth m [(b3, mObj s.kept)]) [(b1, dObj b3 q s), (q, mObj s.now), (b4, rObj (rT r s))])
 refine ar_mem (wth_split (m := m) (L := [(q, mObj s.now), (b4, rObj (rT r s)), (b1, dObj b3 q s), (b3, mObj s.kept)]) hNq (pick_perm [2, 0, 0] _)).symm ?_
 refine ⟨trivial, ?_⟩
 show K1 [(2, .bool true)] (AMem.wth m [(q, mObj s.now), (b4, rObj (rT r s)), (b1, dObj b3 q s), (b3, mObj s.kept)])
 refine hK1 _ _ ?_; clear hK1 K1
 refine awp_ret ?_
 refine ⟨trivial, m, (wth_sub2 (m := m) [(q, mObj s.now), (b4, rObj (rT r s)), (b1, dObj b3 q s), (b3, mObj s.kept)] [] hNq (by simp only [List.map_cons, List.map_nil, List.forall_mem_cons]; exact ⟨hFq, hFb4, hFb1, hFb3, fun _ h => by cases h⟩)), ?_⟩
 show K (.bool true) m

 first | exact hK | exact absurd (‹(Int.tmod i 9 ≠ 0) ∧ False›).2 id

end Go.Proofs
