import Derived.Test.YtoeghipbkmaccaaProg
import Derived.Test.YtoeghipbkmaccaaWl1
import Derived.Test.YtoeghipbkmaccaaCl4
import Derived.Test.YtoeghipbkmaccaaWl8
section
namespace Go.Proofs
open Go Go.Aw
set_option maxRecDepth 100000

set_option maxHeartbeats 4000000 in
theorem u_RAlike1 (a b : Val) (ih : ∀ v w : Val, depV v < depV a → ∀ (m : AMem) (K : AV → AMem → Prop), K (.bool (vEq v w)) m → ACalls Try.prog 86 [valTop v, valTop w] m K) (m : AMem)  (K : AV → AMem → Prop) (hK : K (.bool (vEq a b)) m) : ACalls Try.prog 86 [valTop a, valTop b] m K := by
 refine acalls_enter Try.func86 rfl (by decide) (Nat.le_of_ble_eq_true rfl) ?_
 refine awp_bd 0 (x := valTop a) rfl (fun hbd0 => ?_)
 have hbd0_2 : a.s.length ≤ 140737488355328 := (hbd0 2 (Nat.le_of_ble_eq_true rfl))
 have hbd0_3 : a.l.length ≤ 140737488355328 := bd_map (hbd0 3 (Nat.le_of_ble_eq_true rfl))
 have hbd0_4 : a.f.length ≤ 140737488355328 := bd_map (hbd0 4 (Nat.le_of_ble_eq_true rfl))
 refine awp_bd 1 (x := valTop b) rfl (fun hbd1 => ?_)
 have hbd1_2 : b.s.length ≤ 140737488355328 := (hbd1 2 (Nat.le_of_ble_eq_true rfl))
 have hbd1_3 : b.l.length ≤ 140737488355328 := bd_map (hbd1 3 (Nat.le_of_ble_eq_true rfl))
 have hbd1_4 : b.f.length ≤ 140737488355328 := bd_map (hbd1 4 (Nat.le_of_ble_eq_true rfl))
 show AWP _ _ _ _ [(0, valTop a), (1, valTop b)] m
 refine awp_reg2_seq [] [2, 3] (by decide) ?_
 intro K1 hK1
 refine ar_box rfl (m := m) (L := []) (v := valTop a) (by rfl) rfl ?_
 intro b1 hb1
 have hFb1 : m b1 = none := wth_none (m := m) (L := []) hb1
 have hNb1 : ([b1] : List Nat).Nodup := wth_nodup (m := m) (L := []) hb1 List.nodup_nil
 refine ar_box rfl (m := m) (L := [(b1, .cells [.int .i64 a.kind, .int .i64 a.n, .str a.s, .slice false (a.l.map valIn), .slice false (a.f.map fldIn)])]) (v := valTop b) (by rfl) rfl ?_
 intro b2 hb2
 have hFb2 : m b2 = none := wth_none hb2
 have hNb2 : ([b2, b1] : List Nat).Nodup := wth_nodup hb2 hNb1
 refine ⟨trivial, ?_⟩
 show K1 [(2, .ptr ⟨b1, 0, none⟩), (3, .ptr ⟨b2, 0, none⟩)] (AMem.wth m [(b2, .cells [.int .i64 b.kind, .int .i64 b.n, .str b.s, .slice false (b.l.map valIn), .slice false (b.f.map fldIn)]), (b1, .cells [.int .i64 a.kind, .int .i64 a.n, .str a.s, .slice false (a.l.map valIn), .slice false (a.f.map fldIn)])])
 refine hK1 _ _ ?_; clear hK1 K1
 refine awp_seq_k ?_; intro K2 hK2
 refine awp_reg2_seq [] [2, 3, 45] (by decide) ?_
 intro K1 hK1
 suffices key : K1 [(2, .ptr ⟨b1, 0, none⟩), (3, .ptr ⟨b2, 0, none⟩), (45, .bool (((((!(a.kind == b.kind)) || (!(a.n == b.n))) || (!(a.s == b.s))) || (!((a.l.length : Int) == (b.l.length : Int)))) || (!((a.f.length : Int) == (b.f.length : Int)))))] (AMem.wth m [(b2, .cells [.int .i64 b.kind, .int .i64 b.n, .str b.s, .slice false (b.l.map valIn), .slice false (b.f.map fldIn)]), (b1, .cells [.int .i64 a.kind, .int .i64 a.n, .str a.s, .slice false (a.l.map valIn), .slice false (a.f.map fldIn)])]) by
  refine ⟨⟨rfl, by decide⟩, ?_⟩
  refine ar_loadp rfl (v := .int .i64 a.kind) rfl (wth_get 1 hNb2 rfl) rfl (apartOk_one rfl rfl (Nat.le_of_ble_eq_true rfl)) rfl ?_
  refine ⟨⟨rfl, by decide⟩, ?_⟩
  refine ar_loadp rfl (v := .int .i64 b.kind) rfl (wth_get 0 hNb2 rfl) rfl (apartOk_one rfl rfl (Nat.le_of_ble_eq_true rfl)) rfl ?_
  refine ⟨trivial, trivial, ?_⟩
  show aopsR _ _ _ _ _ [(14, .bool (!(a.kind == b.kind))), (13, .bool (!(a.kind == b.kind))), (12, .int .i64 b.kind), (11, .ptr ⟨b2, 0, none⟩), (10, .int .i64 a.kind), (9, .ptr ⟨b1, 0, none⟩), (2, .ptr ⟨b1, 0, none⟩), (3, .ptr ⟨b2, 0, none⟩)] _
  revert key
  cases h1 : (a.kind == b.kind)
  ·
   replace h1 : a.kind ≠ b.kind := (ne_of_beq_false h1)
   intro key
   refine ar_off rfl (ar_off rfl (ar_off rfl (ar_off rfl (ar_off rfl ?_))))
   refine ⟨trivial, ?_⟩
   refine ar_off rfl (ar_off rfl (ar_off rfl (ar_off rfl (ar_off rfl ?_))))
   refine ⟨trivial, ?_⟩
   refine ar_off rfl (ar_off rfl (ar_off rfl (ar_off rfl (ar_off rfl (ar_off rfl (ar_off rfl ?_))))))
   refine ⟨trivial, ?_⟩
   refine ar_off rfl (ar_off rfl (ar_off rfl (ar_off rfl (ar_off rfl (ar_off rfl (ar_off rfl ?_))))))
   exact key
  ·
   replace h1 : a.kind = b.kind := (eq_of_beq h1)
   intro key
   refine ⟨⟨rfl, by decide⟩, ?_⟩
   refine ar_loadp rfl (v := .int .i64 a.n) rfl (wth_get 1 hNb2 rfl) rfl (apartOk_one rfl rfl (Nat.le_of_ble_eq_true rfl)) rfl ?_
   refine ⟨⟨rfl, by decide⟩, ?_⟩
   refine ar_loadp rfl (v := .int .i64 b.n) rfl (wth_get 0 hNb2 rfl) rfl (apartOk_one rfl rfl (Nat.le_of_ble_eq_true rfl)) rfl ?_
   refine ⟨trivial, ?_⟩
   refine ⟨trivial, ?_⟩
   show aopsR _ _ _ _ _ [(21, .bool (!(a.n == b.n))), (20, .bool (!(a.n == b.n))), (19, .bool (!(a.n == b.n))), (18, .int .i64 b.n), (17, .ptr ⟨b2, 1, none⟩), (16, .int .i64 a.n), (15, .ptr ⟨b1, 1, none⟩), (14, .bool false), (13, .bool false), (12, .int .i64 b.kind), (11, .ptr ⟨b2, 0, none⟩), (10, .int .i64 a.kind), (9, .ptr ⟨b1, 0, none⟩), (2, .ptr ⟨b1, 0, none⟩), (3, .ptr ⟨b2, 0, none⟩)] _
   revert key
   cases h2 : (a.n == b.n)
   ·
    replace h2 : a.n ≠ b.n := (ne_of_beq_false h2)
    intro key
    refine ar_off rfl (ar_off rfl (ar_off rfl (ar_off rfl (ar_off rfl ?_))))
    refine ⟨trivial, ?_⟩
    refine ar_off rfl (ar_off rfl (ar_off rfl (ar_off rfl (ar_off rfl (ar_off rfl (ar_off rfl ?_))))))
    refine ⟨trivial, ?_⟩
    refine ar_off rfl (ar_off rfl (ar_off rfl (ar_off rfl (ar_off rfl (ar_off rfl (ar_off rfl ?_))))))
    exact key
   ·
    replace h2 : a.n = b.n := (eq_of_beq h2)
    intro key
    refine ⟨⟨rfl, by decide⟩, ?_⟩
    refine ar_loadp rfl (v := .str a.s) rfl (wth_get 1 hNb2 rfl) rfl (apartOk_one rfl rfl (Nat.le_of_ble_eq_true rfl)) rfl ?_
    refine ⟨⟨rfl, by decide⟩, ?_⟩
    refine ar_loadp rfl (v := .str b.s) rfl (wth_get 0 hNb2 rfl) rfl (apartOk_one rfl rfl (Nat.le_of_ble_eq_true rfl)) rfl ?_
    refine ⟨trivial, ?_⟩
    refine ⟨trivial, ?_⟩
    show aopsR _ _ _ _ _ [(28, .bool (!(a.s == b.s))), (27, .bool (!(a.s == b.s))), (26, .bool (!(a.s == b.s))), (25, .str b.s), (24, .ptr ⟨b2, 2, none⟩), (23, .str a.s), (22, .ptr ⟨b1, 2, none⟩), (21, .bool false), (20, .bool false), (19, .bool false), (18, .int .i64 b.n), (17, .ptr ⟨b2, 1, none⟩), (16, .int .i64 a.n), (15, .ptr ⟨b1, 1, none⟩), (14, .bool false), (13, .bool false), (12, .int .i64 b.kind), (11, .ptr ⟨b2, 0, none⟩), (10, .int .i64 a.kind), (9, .ptr ⟨b1, 0, none⟩), (2, .ptr ⟨b1, 0, none⟩), (3, .ptr ⟨b2, 0, none⟩)] _
    revert key
    cases h3 : (a.s == b.s)
    ·
     replace h3 : a.s ≠ b.s := (ne_of_beq_false h3)
     intro key
     refine ar_off rfl (ar_off rfl (ar_off rfl (ar_off rfl (ar_off rfl (ar_off rfl (ar_off rfl ?_))))))
     refine ⟨trivial, ?_⟩
     refine ar_off rfl (ar_off rfl (ar_off rfl (ar_off rfl (ar_off rfl (ar_off rfl (ar_off rfl ?_))))))
     exact key
    ·
     replace h3 : a.s = b.s := (eq_of_beq h3)
     intro key
     refine ⟨⟨rfl, by decide⟩, ?_⟩
     refine ar_loadp rfl (v := .slice false (a.l.map valIn)) rfl (wth_get 1 hNb2 rfl) rfl (apartOk_one rfl rfl (Nat.le_of_ble_eq_true rfl)) rfl ?_
     refine ar_len rfl valIn a.l rfl rfl rfl ?_
     refine ⟨⟨rfl, by decide⟩, ?_⟩
     refine ar_loadp rfl (v := .slice false (b.l.map valIn)) rfl (wth_get 0 hNb2 rfl) rfl (apartOk_one rfl rfl (Nat.le_of_ble_eq_true rfl)) rfl ?_
     refine ar_len rfl valIn b.l rfl rfl rfl ?_
     refine ⟨trivial, ?_⟩
     refine ⟨trivial, ?_⟩
     show aopsR _ _ _ _ _ [(37, .bool (!((a.l.length : Int) == (b.l.length : Int)))), (36, .bool (!((a.l.length : Int) == (b.l.length : Int)))), (35, .bool (!((a.l.length : Int) == (b.l.length : Int)))), (34, .int .i64 (b.l.length : Int)), (33, .slice false (b.l.map valIn)), (32, .ptr ⟨b2, 3, none⟩), (31, .int .i64 (a.l.length : Int)), (30, .slice false (a.l.map valIn)), (29, .ptr ⟨b1, 3, none⟩), (28, .bool false), (27, .bool false), (26, .bool false), (25, .str b.s), (24, .ptr ⟨b2, 2, none⟩), (23, .str a.s), (22, .ptr ⟨b1, 2, none⟩), (21, .bool false), (20, .bool false), (19, .bool false), (18, .int .i64 b.n), (17, .ptr ⟨b2, 1, none⟩), (16, .int .i64 a.n), (15, .ptr ⟨b1, 1, none⟩), (14, .bool false), (13, .bool false), (12, .int .i64 b.kind), (11, .ptr ⟨b2, 0, none⟩), (10, .int .i64 a.kind), (9, .ptr ⟨b1, 0, none⟩), (2, .ptr ⟨b1, 0, none⟩), (3, .ptr ⟨b2, 0, none⟩)] _
     revert key
     cases h4 : ((a.l.length : Int) == (b.l.length : Int))
     ·
      replace h4 : (a.l.length : Int) ≠ (b.l.length : Int) := (ne_of_beq_false h4)
      intro key
      refine ar_off rfl (ar_off rfl (ar_off rfl (ar_off rfl (ar_off rfl (ar_off rfl (ar_off rfl ?_))))))
      exact key
     ·
      replace h4 : (a.l.length : Int) = (b.l.length : Int) := (eq_of_beq h4)
      intro key
      refine ⟨⟨rfl, by decide⟩, ?_⟩
      refine ar_loadp rfl (v := .slice false (a.f.map fldIn)) rfl (wth_get 1 hNb2 rfl) rfl (apartOk_one rfl rfl (Nat.le_of_ble_eq_true rfl)) rfl ?_
      refine ar_len rfl fldIn a.f rfl rfl rfl ?_
      refine ⟨⟨rfl, by decide⟩, ?_⟩
      refine ar_loadp rfl (v := .slice false (b.f.map fldIn)) rfl (wth_get 0 hNb2 rfl) rfl (apartOk_one rfl rfl (Nat.le_of_ble_eq_true rfl)) rfl ?_
      refine ar_len rfl fldIn b.f rfl rfl rfl ?_
      refine ⟨trivial, ?_⟩
      exact key
 refine hK1 _ _ ?_; clear hK1 K1
 refine awp_cond rfl rfl (fun h5 => ?_) (fun h5 => ?_)
 ·
  replace h5 : ((((a.kind ≠ b.kind) ∨ (a.n ≠ b.n)) ∨ (a.s ≠ b.s)) ∨ ((a.l.length : Int) ≠ (b.l.length : Int))) ∨ ((a.f.length : Int) ≠ (b.f.length : Int)) := ((borT h5).imp (fun q => ((borT q).imp (fun q => ((borT q).imp (fun q => ((borT q).imp (fun q => (ne_of_beq_false (bnT q))) (fun q => (ne_of_beq_false (bnT q))))) (fun q => (ne_of_beq_false (bnT q))))) (fun q => (ne_of_beq_false (bnT q))))) (fun q => (ne_of_beq_false (bnT q))))
  refine awp_reg2_seq [] [4] (by decide) ?_
  intro K1 hK1
  refine ⟨trivial, ?_⟩
  show K1 [(4, .bool false)] (AMem.wth m [(b2, .cells [.int .i64 b.kind, .int .i64 b.n, .str b.s, .slice false (b.l.map valIn), .slice false (b.f.map fldIn)]), (b1, .cells [.int .i64 a.kind, .int .i64 a.n, .str a.s, .slice false (a.l.map valIn), .slice false (a.f.map fldIn)])])
  refine hK1 _ _ ?_; clear hK1 K1
  refine awp_ret ?_
  refine ⟨trivial, m, (wth_sub2 (m := m) [(b2, .cells [.int .i64 b.kind, .int .i64 b.n, .str b.s, .slice false (b.l.map valIn), .slice false (b.f.map fldIn)]), (b1, .cells [.int .i64 a.kind, .int .i64 a.n, .str a.s, .slice false (a.l.map valIn), .slice false (a.f.map fldIn)])] [] hNb2 (by simp only [List.map_cons, List.map_nil, List.forall_mem_cons]; exact ⟨hFb2, hFb1, fun _ h => by cases h⟩)), ?_⟩
  show K (.bool false) m
 
  rw [vEq_false (by intro hh; subst hh; simp at h5)] at hK; exact hK
 replace h5 : ((((a.kind = b.kind) ∧ (a.n = b.n)) ∧ (a.s = b.s)) ∧ ((a.l.length : Int) = (b.l.length : Int))) ∧ ((a.f.length : Int) = (b.f.length : Int)) := ⟨⟨⟨⟨(eq_of_beq (bnF (borL (borL (borL (borL h5)))))), (eq_of_beq (bnF (borR (borL (borL (borL h5))))))⟩, (eq_of_beq (bnF (borR (borL (borL h5)))))⟩, (eq_of_beq (bnF (borR (borL h5))))⟩, (eq_of_beq (bnF (borR h5)))⟩
 obtain ⟨⟨⟨⟨hk, hn⟩, hs⟩, hl⟩, hf⟩ := h5
 refine awp_skip ?_
 refine hK2 _ _ ?_; clear hK2
 refine awp_seq_k ?_; intro K3 hK3
 refine awp_reg2_seq [] [2, 3, 5] (by decide) ?_
 intro K1 hK1
 refine ⟨trivial, ?_⟩
 show K1 [(2, .ptr ⟨b1, 0, none⟩), (3, .ptr ⟨b2, 0, none⟩), (5, .int .i64 0)] (AMem.wth m [(b2, .cells [.int .i64 b.kind, .int .i64 b.n, .str b.s, .slice false (b.l.map valIn), .slice false (b.f.map fldIn)]), (b1, .cells [.int .i64 a.kind, .int .i64 a.n, .str a.s, .slice false (a.l.map valIn), .slice false (a.f.map fldIn)])])
 refine hK1 _ _ ?_; clear hK1 K1
 refine awp_block ?_
 refine awp_keep [2, 3, 5] (by decide) ?_
 refine awp_loop_st (σ := Int) (fun i => [(2, .ptr ⟨b1, 0, none⟩), (3, .ptr ⟨b2, 0, none⟩), (5, .int .i64 i)]) (fun _ => (AMem.wth m [(b2, .cells [.int .i64 b.kind, .int .i64 b.n, .str b.s, .slice false (b.l.map valIn), .slice false (b.f.map fldIn)]), (b1, .cells [.int .i64 a.kind, .int .i64 a.n, .str a.s, .slice false (a.l.map valIn), .slice false (a.f.map fldIn)])])) (fun i => 0 ≤ i ∧ i ≤ a.l.length ∧ a.l.take i.toNat = b.l.take i.toNat) (fun i => a.l.length - i.toNat) (0) rfl rfl ?_ ?_
 ·
  show 0 ≤ ((0 : Int)) ∧ ((0 : Int)) ≤ a.l.length ∧ a.l.take ((0 : Int)).toNat = b.l.take ((0 : Int)).toNat
  exact ⟨by omega, by omega, rfl⟩
 rintro i hI
 replace hI : 0 ≤ i ∧ i ≤ a.l.length ∧ a.l.take i.toNat = b.l.take i.toNat := hI
 show AWP _ _ _ _ [(2, .ptr ⟨b1, 0, none⟩), (3, .ptr ⟨b2, 0, none⟩), (5, .int .i64 i)] (AMem.wth m [(b2, .cells [.int .i64 b.kind, .int .i64 b.n, .str b.s, .slice false (b.l.map valIn), .slice false (b.f.map fldIn)]), (b1, .cells [.int .i64 a.kind, .int .i64 a.n, .str a.s, .slice false (a.l.map valIn), .slice false (a.f.map fldIn)])])
 refine awp_seq_k ?_; intro K4 hK4
 refine awp_reg2_seq [] [2, 3, 5, 50] (by decide) ?_
 intro K1 hK1
 refine ⟨trivial, ⟨rfl, by decide⟩, ?_⟩
 refine ar_loadp rfl (v := .slice false (a.l.map valIn)) rfl (wth_get 1 hNb2 rfl) rfl (apartOk_one rfl rfl (Nat.le_of_ble_eq_true rfl)) rfl ?_
 refine ar_len rfl valIn a.l rfl rfl rfl ?_
 refine ⟨trivial, ?_⟩
 show K1 [(2, .ptr ⟨b1, 0, none⟩), (3, .ptr ⟨b2, 0, none⟩), (5, .int .i64 i), (50, .bool (decide (i < (a.l.length : Int))))] (AMem.wth m [(b2, .cells [.int .i64 b.kind, .int .i64 b.n, .str b.s, .slice false (b.l.map valIn), .slice false (b.f.map fldIn)]), (b1, .cells [.int .i64 a.kind, .int .i64 a.n, .str a.s, .slice false (a.l.map valIn), .slice false (a.f.map fldIn)])])
 refine hK1 _ _ ?_; clear hK1 K1
 refine awp_cond rfl rfl (fun h6 => ?_) (fun h6 => ?_)
 ·
  replace h6 : i < (a.l.length : Int) := (of_decide_eq_true h6)
  refine awp_skip ?_
  refine hK4 _ _ ?_; clear hK4
  refine awp_seq_k ?_; intro K5 hK5
  refine awp_block ?_
  refine awp_draw_seq Try.mixed [(.bool (vEq (gI a.l i) (gI b.l i)))] [2, 3, 5, 6] (by decide) (by decide) ?_
  intro K1 hK1
  refine ⟨⟨rfl, by decide⟩, ?_⟩
  refine pq_loadp rfl (v := .slice false (a.l.map valIn)) rfl (wth_get 1 hNb2 rfl) (apartOk_one rfl rfl (Nat.le_of_ble_eq_true rfl)) rfl ?_
  refine ⟨trivial, ?_⟩
  refine pq_index rfl valTop a.l i rfl rfl (valMap a.l) rfl rfl (by decide) (fun _ => rfl) (by omega) (by omega) ?_
  refine ⟨(apartOk_agg rfl rfl (Nat.le_of_ble_eq_true rfl)), ⟨rfl, by decide⟩, ?_⟩
  refine pq_loadp rfl (v := .slice false (b.l.map valIn)) rfl (wth_get 0 hNb2 rfl) (apartOk_one rfl rfl (Nat.le_of_ble_eq_true rfl)) rfl ?_
  refine ⟨trivial, ?_⟩
  refine pq_index rfl valTop b.l i rfl rfl (valMap b.l) rfl rfl (by decide) (fun _ => rfl) (by omega) (by omega) ?_
  refine ⟨(apartOk_agg rfl rfl (Nat.le_of_ble_eq_true rfl)), (fun Kc hKc => ih (gI a.l i) (gI b.l i) (by have := depV_eq a; first | (have := depL_mem (gI_mem (l := a.l) (i := i) hI.1 (by assumption)); omega) | (have := depF_mem (gI_mem (l := a.f) (i := i2) hI2.1 (by assumption)); omega)) _ Kc hKc), trivial, ?_⟩
  show K1 [(2, .ptr ⟨b1, 0, none⟩), (3, .ptr ⟨b2, 0, none⟩), (5, .int .i64 i), (6, .bool (vEq (gI a.l i) (gI b.l i)))] (AMem.wth m [(b2, .cells [.int .i64 b.kind, .int .i64 b.n, .str b.s, .slice false (b.l.map valIn), .slice false (b.f.map fldIn)]), (b1, .cells [.int .i64 a.kind, .int .i64 a.n, .str a.s, .slice false (a.l.map valIn), .slice false (a.f.map fldIn)])])
  refine hK1 _ _ ?_; clear hK1 K1
  refine awp_reg2_seq [] [2, 3, 5, 65] (by decide) ?_
  intro K1 hK1
  refine ⟨trivial, trivial, ?_⟩
  show K1 [(2, .ptr ⟨b1, 0, none⟩), (3, .ptr ⟨b2, 0, none⟩), (5, .int .i64 i), (65, .bool (!(vEq (gI a.l i) (gI b.l i))))] (AMem.wth m [(b2, .cells [.int .i64 b.kind, .int .i64 b.n, .str b.s, .slice false (b.l.map valIn), .slice false (b.f.map fldIn)]), (b1, .cells [.int .i64 a.kind, .int .i64 a.n, .str a.s, .slice false (a.l.map valIn), .slice false (a.f.map fldIn)])])
  refine hK1 _ _ ?_; clear hK1 K1
  refine awp_cond rfl rfl (fun h7 => ?_) (fun h7 => ?_)
  ·
   replace h7 : vEq (gI a.l i) (gI b.l i) = false := (bnT h7)
   refine awp_reg2_seq [] [4] (by decide) ?_
   intro K1 hK1
   refine ⟨trivial, ?_⟩
   show K1 [(4, .bool false)] (AMem.wth m [(b2, .cells [.int .i64 b.kind, .int .i64 b.n, .str b.s, .slice false (b.l.map valIn), .slice false (b.f.map fldIn)]), (b1, .cells [.int .i64 a.kind, .int .i64 a.n, .str a.s, .slice false (a.l.map valIn), .slice false (a.f.map fldIn)])])
   refine hK1 _ _ ?_; clear hK1 K1
   refine awp_ret ?_
   refine ⟨trivial, m, (wth_sub2 (m := m) [(b2, .cells [.int .i64 b.kind, .int .i64 b.n, .str b.s, .slice false (b.l.map valIn), .slice false (b.f.map fldIn)]), (b1, .cells [.int .i64 a.kind, .int .i64 a.n, .str a.s, .slice false (a.l.map valIn), .slice false (a.f.map fldIn)])] [] hNb2 (by simp only [List.map_cons, List.map_nil, List.forall_mem_cons]; exact ⟨hFb2, hFb1, fun _ h => by cases h⟩)), ?_⟩
   show K (.bool false) m
  
   rw [vEq_false (by intro hh; subst hh; rw [vEq_true rfl] at h7; cases h7)] at hK; exact hK
  replace h7 : vEq (gI a.l i) (gI b.l i) = true := (bnF h7)
  refine awp_skip ?_
  refine hK5 _ _ ?_; clear hK5
  refine awp_reg2 [] [2, 3, 5] (by decide) ?_
  intro K1 hK1
  refine ⟨trivial, ?_⟩
  refine ar_add rfl (a := i) (b := 1) rfl rfl (by omega) (by omega) ?_
  refine ⟨trivial, ?_⟩
  show K1 [(2, .ptr ⟨b1, 0, none⟩), (3, .ptr ⟨b2, 0, none⟩), (5, .int .i64 (i + 1))] (AMem.wth m [(b2, .cells [.int .i64 b.kind, .int .i64 b.n, .str b.s, .slice false (b.l.map valIn), .slice false (b.f.map fldIn)]), (b1, .cells [.int .i64 a.kind, .int .i64 a.n, .str a.s, .slice false (a.l.map valIn), .slice false (a.f.map fldIn)])])
  refine hK1 _ _ ?_; clear hK1 K1
  refine ⟨(i + 1), rfl, rfl, ?_, ?_⟩
  ·
   show 0 ≤ ((i + 1 : Int)) ∧ ((i + 1 : Int)) ≤ a.l.length ∧ a.l.take ((i + 1 : Int)).toNat = b.l.take ((i + 1 : Int)).toNat
   exact ⟨by omega, by omega, by rw [take_succ_gI hI.1 h6, take_succ_gI hI.1 (by omega), hI.2.2, vEq_iff.1 h7]⟩
  ·
   show a.l.length - ((i + 1 : Int)).toNat < a.l.length - i.toNat
   omega
 replace h6 : (a.l.length : Int) ≤ i := (Int.not_lt.1 (of_decide_eq_false h6))
 refine awp_exit ?_
 refine hK3 _ _ ?_; clear hK3
 refine awp_seq_k ?_; intro K6 hK6
 refine awp_reg2_seq [] [2, 3, 7] (by decide) ?_
 intro K1 hK1
 refine ⟨trivial, ?_⟩
 show K1 [(2, .ptr ⟨b1, 0, none⟩), (3, .ptr ⟨b2, 0, none⟩), (7, .int .i64 0)] (AMem.wth m [(b2, .cells [.int .i64 b.kind, .int .i64 b.n, .str b.s, .slice false (b.l.map valIn), .slice false (b.f.map fldIn)]), (b1, .cells [.int .i64 a.kind, .int .i64 a.n, .str a.s, .slice false (a.l.map valIn), .slice false (a.f.map fldIn)])])
 refine hK1 _ _ ?_; clear hK1 K1
 refine awp_block ?_
 refine awp_keep [2, 3, 7] (by decide) ?_
 refine awp_loop_st (σ := Int) (fun i2 => [(2, .ptr ⟨b1, 0, none⟩), (3, .ptr ⟨b2, 0, none⟩), (7, .int .i64 i2)]) (fun _ => (AMem.wth m [(b2, .cells [.int .i64 b.kind, .int .i64 b.n, .str b.s, .slice false (b.l.map valIn), .slice false (b.f.map fldIn)]), (b1, .cells [.int .i64 a.kind, .int .i64 a.n, .str a.s, .slice false (a.l.map valIn), .slice false (a.f.map fldIn)])])) (fun i2 => 0 ≤ i2 ∧ i2 ≤ a.f.length ∧ a.f.take i2.toNat = b.f.take i2.toNat) (fun i2 => a.f.length - i2.toNat) (0) rfl rfl ?_ ?_
 ·
  show 0 ≤ ((0 : Int)) ∧ ((0 : Int)) ≤ a.f.length ∧ a.f.take ((0 : Int)).toNat = b.f.take ((0 : Int)).toNat
  exact ⟨by omega, by omega, rfl⟩
 rintro i2 hI2
 replace hI2 : 0 ≤ i2 ∧ i2 ≤ a.f.length ∧ a.f.take i2.toNat = b.f.take i2.toNat := hI2
 show AWP _ _ _ _ [(2, .ptr ⟨b1, 0, none⟩), (3, .ptr ⟨b2, 0, none⟩), (7, .int .i64 i2)] (AMem.wth m [(b2, .cells [.int .i64 b.kind, .int .i64 b.n, .str b.s, .slice false (b.l.map valIn), .slice false (b.f.map fldIn)]), (b1, .cells [.int .i64 a.kind, .int .i64 a.n, .str a.s, .slice false (a.l.map valIn), .slice false (a.f.map fldIn)])])
 refine awp_seq_k ?_; intro K7 hK7
 refine awp_reg2_seq [] [2, 3, 7, 70] (by decide) ?_
 intro K1 hK1
 refine ⟨trivial, ⟨rfl, by decide⟩, ?_⟩
 refine ar_loadp rfl (v := .slice false (a.f.map fldIn)) rfl (wth_get 1 hNb2 rfl) rfl (apartOk_one rfl rfl (Nat.le_of_ble_eq_true rfl)) rfl ?_
 refine ar_len rfl fldIn a.f rfl rfl rfl ?_
 refine ⟨trivial, ?_⟩
 show K1 [(2, .ptr ⟨b1, 0, none⟩), (3, .ptr ⟨b2, 0, none⟩), (7, .int .i64 i2), (70, .bool (decide (i2 < (a.f.length : Int))))] (AMem.wth m [(b2, .cells [.int .i64 b.kind, .int .i64 b.n, .str b.s, .slice false (b.l.map valIn), .slice false (b.f.map fldIn)]), (b1, .cells [.int .i64 a.kind, .int .i64 a.n, .str a.s, .slice false (a.l.map valIn), .slice false (a.f.map fldIn)])])
 refine hK1 _ _ ?_; clear hK1 K1
 refine awp_cond rfl rfl (fun h8 => ?_) (fun h8 => ?_)
 ·
  replace h8 : i2 < (a.f.length : Int) := (of_decide_eq_true h8)
  refine awp_skip ?_
  refine hK7 _ _ ?_; clear hK7
  refine awp_seq_k ?_; intro K8 hK8
  refine awp_block ?_
  refine awp_draw_seq Try.mixed [(.bool (vEq ((gI a.f i2).2) ((gI b.f i2).2)))] [2, 3, 7, 8] (by decide) (by decide) ?_
  intro K1 hK1
  refine ⟨⟨rfl, by decide⟩, ?_⟩
  refine pq_loadp rfl (v := .slice false (a.f.map fldIn)) rfl (wth_get 1 hNb2 rfl) (apartOk_one rfl rfl (Nat.le_of_ble_eq_true rfl)) rfl ?_
  refine ⟨trivial, ?_⟩
  refine pq_index rfl fldTop a.f i2 rfl rfl (fldMap a.f) rfl rfl (by decide) (fun _ => rfl) (by omega) (by omega) ?_
  refine ⟨⟨rfl, by decide, (Nat.le_of_ble_eq_true rfl)⟩, (apartOk_agg rfl rfl (Nat.le_of_ble_eq_true rfl)), ⟨rfl, by decide⟩, ?_⟩
  refine pq_loadp rfl (v := .slice false (b.f.map fldIn)) rfl (wth_get 0 hNb2 rfl) (apartOk_one rfl rfl (Nat.le_of_ble_eq_true rfl)) rfl ?_
  refine ⟨trivial, ?_⟩
  refine pq_index rfl fldTop b.f i2 rfl rfl (fldMap b.f) rfl rfl (by decide) (fun _ => rfl) (by omega) (by omega) ?_
  refine ⟨⟨rfl, by decide, (Nat.le_of_ble_eq_true rfl)⟩, (apartOk_agg rfl rfl (Nat.le_of_ble_eq_true rfl)), (fun Kc hKc => ih ((gI a.f i2).2) ((gI b.f i2).2) (by have := depV_eq a; first | (have := depL_mem (gI_mem (l := a.l) (i := i) hI.1 (by assumption)); omega) | (have := depF_mem (gI_mem (l := a.f) (i := i2) hI2.1 (by assumption)); omega)) _ Kc hKc), trivial, ?_⟩
  show K1 [(2, .ptr ⟨b1, 0, none⟩), (3, .ptr ⟨b2, 0, none⟩), (7, .int .i64 i2), (8, .bool (vEq ((gI a.f i2).2) ((gI b.f i2).2)))] (AMem.wth m [(b2, .cells [.int .i64 b.kind, .int .i64 b.n, .str b.s, .slice false (b.l.map valIn), .slice false (b.f.map fldIn)]), (b1, .cells [.int .i64 a.kind, .int .i64 a.n, .str a.s, .slice false (a.l.map valIn), .slice false (a.f.map fldIn)])])
  refine hK1 _ _ ?_; clear hK1 K1
  refine awp_draw_seq Try.mixed [] [2, 3, 7, 102] (by decide) (by decide) ?_
  intro K1 hK1
  suffices key : K1 [(2, .ptr ⟨b1, 0, none⟩), (3, .ptr ⟨b2, 0, none⟩), (7, .int .i64 i2), (102, .bool ((!(vEq ((gI a.f i2).2) ((gI b.f i2).2))) || (!(((gI a.f i2).1) == ((gI b.f i2).1)))))] (AMem.wth m [(b2, .cells [.int .i64 b.kind, .int .i64 b.n, .str b.s, .slice false (b.l.map valIn), .slice false (b.f.map fldIn)]), (b1, .cells [.int .i64 a.kind, .int .i64 a.n, .str a.s, .slice false (a.l.map valIn), .slice false (a.f.map fldIn)])]) by
   refine ⟨trivial, trivial, trivial, ?_⟩
   show pseq _ _ _ _ _ [(88, .bool (!(vEq ((gI a.f i2).2) ((gI b.f i2).2)))), (87, .bool (!(vEq ((gI a.f i2).2) ((gI b.f i2).2)))), (86, .bool (vEq ((gI a.f i2).2) ((gI b.f i2).2))), (2, .ptr ⟨b1, 0, none⟩), (3, .ptr ⟨b2, 0, none⟩), (7, .int .i64 i2), (8, .bool (vEq ((gI a.f i2).2) ((gI b.f i2).2)))] _
   revert key
   cases h9 : (vEq ((gI a.f i2).2) ((gI b.f i2).2))
   ·
    replace h9 : vEq ((gI a.f i2).2) ((gI b.f i2).2) = false := h9
    intro key
    refine pq_off rfl rfl ?_
    refine pq_off rfl rfl ?_
    refine pq_off rfl rfl ?_
    refine pq_off rfl rfl ?_
    refine pq_off rfl rfl ?_
    refine pq_off rfl rfl ?_
    refine pq_off rfl rfl ?_
    refine pq_off rfl rfl ?_
    refine pq_off rfl rfl ?_
    refine pq_off rfl rfl ?_
    refine pq_off rfl rfl ?_
    refine pq_off rfl rfl ?_
    refine pq_off rfl rfl ?_
    refine ⟨trivial, ?_⟩
    exact key
   ·
    replace h9 : vEq ((gI a.f i2).2) ((gI b.f i2).2) = true := h9
    intro key
    refine ⟨⟨rfl, by decide⟩, ?_⟩
    refine pq_loadp rfl (v := .slice false (a.f.map fldIn)) rfl (wth_get 1 hNb2 rfl) (apartOk_one rfl rfl (Nat.le_of_ble_eq_true rfl)) rfl ?_
    refine ⟨trivial, ?_⟩
    refine pq_index rfl fldTop a.f i2 rfl rfl (fldMap a.f) rfl rfl (by decide) (fun _ => rfl) (by omega) (by omega) ?_
    refine ⟨⟨rfl, by decide, (Nat.le_of_ble_eq_true rfl)⟩, (apartOk_one rfl rfl (Nat.le_of_ble_eq_true rfl)), ⟨rfl, by decide⟩, ?_⟩
    refine pq_loadp rfl (v := .slice false (b.f.map fldIn)) rfl (wth_get 0 hNb2 rfl) (apartOk_one rfl rfl (Nat.le_of_ble_eq_true rfl)) rfl ?_
    refine ⟨trivial, ?_⟩
    refine pq_index rfl fldTop b.f i2 rfl rfl (fldMap b.f) rfl rfl (by decide) (fun _ => rfl) (by omega) (by omega) ?_
    refine ⟨⟨rfl, by decide, (Nat.le_of_ble_eq_true rfl)⟩, (apartOk_one rfl rfl (Nat.le_of_ble_eq_true rfl)), trivial, trivial, ?_⟩
    exact key
  refine hK1 _ _ ?_; clear hK1 K1
  refine awp_cond rfl rfl (fun h10 => ?_) (fun h10 => ?_)
  ·
   replace h10 : (vEq ((gI a.f i2).2) ((gI b.f i2).2) = false) ∨ ((gI a.f i2).1 ≠ (gI b.f i2).1) := ((borT h10).imp (fun q => (bnT q)) (fun q => (ne_of_beq_false (bnT q))))
   refine awp_reg2_seq [] [4] (by decide) ?_
   intro K1 hK1
   refine ⟨trivial, ?_⟩
   show K1 [(4, .bool false)] (AMem.wth m [(b2, .cells [.int .i64 b.kind, .int .i64 b.n, .str b.s, .slice false (b.l.map valIn), .slice false (b.f.map fldIn)]), (b1, .cells [.int .i64 a.kind, .int .i64 a.n, .str a.s, .slice false (a.l.map valIn), .slice false (a.f.map fldIn)])])
   refine hK1 _ _ ?_; clear hK1 K1
   refine awp_ret ?_
   refine ⟨trivial, m, (wth_sub2 (m := m) [(b2, .cells [.int .i64 b.kind, .int .i64 b.n, .str b.s, .slice false (b.l.map valIn), .slice false (b.f.map fldIn)]), (b1, .cells [.int .i64 a.kind, .int .i64 a.n, .str a.s, .slice false (a.l.map valIn), .slice false (a.f.map fldIn)])] [] hNb2 (by simp only [List.map_cons, List.map_nil, List.forall_mem_cons]; exact ⟨hFb2, hFb1, fun _ h => by cases h⟩)), ?_⟩
   show K (.bool false) m
  
   rw [vEq_false (by intro hh; subst hh; rw [vEq_true rfl] at h10; simp at h10)] at hK; exact hK
  replace h10 : (vEq ((gI a.f i2).2) ((gI b.f i2).2) = true) ∧ ((gI a.f i2).1 = (gI b.f i2).1) := ⟨(bnF (borL h10)), (eq_of_beq (bnF (borR h10)))⟩
  refine awp_skip ?_
  refine hK8 _ _ ?_; clear hK8
  refine awp_reg2 [] [2, 3, 7] (by decide) ?_
  intro K1 hK1
  refine ⟨trivial, ?_⟩
  refine ar_add rfl (a := i2) (b := 1) rfl rfl (by omega) (by omega) ?_
  refine ⟨trivial, ?_⟩
  show K1 [(2, .ptr ⟨b1, 0, none⟩), (3, .ptr ⟨b2, 0, none⟩), (7, .int .i64 (i2 + 1))] (AMem.wth m [(b2, .cells [.int .i64 b.kind, .int .i64 b.n, .str b.s, .slice false (b.l.map valIn), .slice false (b.f.map fldIn)]), (b1, .cells [.int .i64 a.kind, .int .i64 a.n, .str a.s, .slice false (a.l.map valIn), .slice false (a.f.map fldIn)])])
  refine hK1 _ _ ?_; clear hK1 K1
  refine ⟨(i2 + 1), rfl, rfl, ?_, ?_⟩
  ·
   show 0 ≤ ((i2 + 1 : Int)) ∧ ((i2 + 1 : Int)) ≤ a.f.length ∧ a.f.take ((i2 + 1 : Int)).toNat = b.f.take ((i2 + 1 : Int)).toNat
   exact ⟨by omega, by omega, by rw [take_succ_gI hI2.1 h8, take_succ_gI hI2.1 (by omega), hI2.2.2, Prod.ext h10.2 (vEq_iff.1 h10.1)]⟩
  ·
   show a.f.length - ((i2 + 1 : Int)).toNat < a.f.length - i2.toNat
   omega
 replace h8 : (a.f.length : Int) ≤ i2 := (Int.not_lt.1 (of_decide_eq_false h8))
 refine awp_exit ?_
 refine hK6 _ _ ?_; clear hK6
 refine awp_reg2_seq [] [4] (by decide) ?_
 intro K1 hK1
 refine ⟨trivial, ?_⟩
 show K1 [(4, .bool true)] (AMem.wth m [(b2, .cells [.int .i64 b.kind, .int .i64 b.n, .str b.s, .slice false (b.l.map valIn), .slice false (b.f.map fldIn)]), (b1, .cells [.int .i64 a.kind, .int .i64 a.n, .str a.s, .slice false (a.l.map valIn), .slice false (a.f.map fldIn)])])
 refine hK1 _ _ ?_; clear hK1 K1
 refine awp_ret ?_
 refine ⟨trivial, m, (wth_sub2 (m := m) [(b2, .cells [.int .i64 b.kind, .int .i64 b.n, .str b.s, .slice false (b.l.map valIn), .slice false (b.f.map fldIn)]), (b1, .cells [.int .i64 a.kind, .int .i64 a.n, .str a.s, .slice false (a.l.map valIn), .slice false (a.f.map fldIn)])] [] hNb2 (by simp only [List.map_cons, List.map_nil, List.forall_mem_cons]; exact ⟨hFb2, hFb1, fun _ h => by cases h⟩)), ?_⟩
 show K (.bool true) m

 rw [vEq_true (Val.ext' hk hn hs (by have := hI.2.2; rwa [take_full (by omega), take_full (by omega)] at this) (by have := hI2.2.2; rwa [take_full (by omega), take_full (by omega)] at this))] at hK; exact hK


theorem u_RAlike2 : ∀ (n : Nat) (a b : Val), depV a < n → ∀ (m : AMem) (K : AV → AMem → Prop), K (.bool (vEq a b)) m → ACalls Try.prog 86 [valTop a, valTop b] m K
  | 0, _, _, h => absurd h (Nat.not_lt_zero _)
  | n + 1, a, b, h => fun m K hK => u_RAlike1 a b (fun v w hv => u_RAlike2 n v w (by omega)) m K hK
theorem u_RAlike (a b : Val) (m : AMem) (K : AV → AMem → Prop) (hK : K (.bool (vEq a b)) m) : ACalls Try.prog 86 [valTop a, valTop b] m K := u_RAlike2 (depV a + 1) a b (Nat.lt_succ_self _) m K hK

set_option maxHeartbeats 2000000 in
theorem u_SameThing (a b : Thg)  (m : AMem)  (K : AV → AMem → Prop) (hK : K (.bool (((a.id == b.id) && (a.kind == b.kind)) && vEq a.v b.v)) m) : ACalls Try.prog 54 [thgAV a, thgAV b] m K := by
 refine acalls_enter Try.func54 rfl (by decide) (Nat.le_of_ble_eq_true rfl) ?_
 show AWP _ _ _ _ [(0, thgAV a), (1, thgAV b)] m
 refine awp_reg2_seq [] [2, 3] (by decide) ?_
 intro K1 hK1
 refine ar_box rfl (m := m) (L := []) (v := thgAV a) (by rfl) rfl ?_
 intro b1 hb1
 have hFb1 : m b1 = none := wth_none (m := m) (L := []) hb1
 have hNb1 : ([b1] : List Nat).Nodup := wth_nodup (m := m) (L := []) hb1 List.nodup_nil
 refine ar_box rfl (m := m) (L := [(b1, .cells [.int .i64 a.id, .str a.kind, .int .i64 a.v.kind, .int .i64 a.v.n, .str a.v.s, .slice false (a.v.l.map valIn), .slice false (a.v.f.map fldIn)])]) (v := thgAV b) (by rfl) rfl ?_
 intro b2 hb2
 have hFb2 : m b2 = none := wth_none hb2
 have hNb2 : ([b2, b1] : List Nat).Nodup := wth_nodup hb2 hNb1
 refine ⟨trivial, ?_⟩
 show K1 [(2, .ptr ⟨b1, 0, none⟩), (3, .ptr ⟨b2, 0, none⟩)] (AMem.wth m [(b2, .cells [.int .i64 b.id, .str b.kind, .int .i64 b.v.kind, .int .i64 b.v.n, .str b.v.s, .slice false (b.v.l.map valIn), .slice false (b.v.f.map fldIn)]), (b1, .cells [.int .i64 a.id, .str a.kind, .int .i64 a.v.kind, .int .i64 a.v.n, .str a.v.s, .slice false (a.v.l.map valIn), .slice false (a.v.f.map fldIn)])])
 refine hK1 _ _ ?_; clear hK1 K1
 refine awp_reg2_seq [] [2, 3, 5] (by decide) ?_
 intro K1 hK1
 refine ⟨⟨rfl, by decide⟩, ?_⟩
 refine ar_loadp rfl (v := .agg [.int .i64 a.v.kind, .int .i64 a.v.n, .str a.v.s, .slice false (a.v.l.map valIn), .slice false (a.v.f.map fldIn)]) rfl (wth_get 1 hNb2 rfl) rfl (apartOk_agg rfl rfl (Nat.le_of_ble_eq_true rfl)) rfl ?_
 refine ⟨⟨rfl, by decide⟩, ?_⟩
 refine ar_loadp rfl (v := .agg [.int .i64 b.v.kind, .int .i64 b.v.n, .str b.v.s, .slice false (b.v.l.map valIn), .slice false (b.v.f.map fldIn)]) rfl (wth_get 0 hNb2 rfl) rfl (apartOk_agg rfl rfl (Nat.le_of_ble_eq_true rfl)) rfl ?_
 refine u_RAlike a.v b.v _ _ ?_
 refine ⟨trivial, ?_⟩
 show K1 [(2, .ptr ⟨b1, 0, none⟩), (3, .ptr ⟨b2, 0, none⟩), (5, .bool (vEq a.v b.v))] (AMem.wth m [(b2, .cells [.int .i64 b.id, .str b.kind, .int .i64 b.v.kind, .int .i64 b.v.n, .str b.v.s, .slice false (b.v.l.map valIn), .slice false (b.v.f.map fldIn)]), (b1, .cells [.int .i64 a.id, .str a.kind, .int .i64 a.v.kind, .int .i64 a.v.n, .str a.v.s, .slice false (a.v.l.map valIn), .slice false (a.v.f.map fldIn)])])
 refine hK1 _ _ ?_; clear hK1 K1
 refine awp_reg2_seq [] [4] (by decide) ?_
 intro K1 hK1
 suffices key : K1 [(4, .bool (((a.id == b.id) && (a.kind == b.kind)) && (vEq a.v b.v)))] (AMem.wth m [(b2, .cells [.int .i64 b.id, .str b.kind, .int .i64 b.v.kind, .int .i64 b.v.n, .str b.v.s, .slice false (b.v.l.map valIn), .slice false (b.v.f.map fldIn)]), (b1, .cells [.int .i64 a.id, .str a.kind, .int .i64 a.v.kind, .int .i64 a.v.n, .str a.v.s, .slice false (a.v.l.map valIn), .slice false (a.v.f.map fldIn)])]) by
  refine ⟨⟨rfl, by decide⟩, ?_⟩
  refine ar_loadp rfl (v := .int .i64 a.id) rfl (wth_get 1 hNb2 rfl) rfl (apartOk_one rfl rfl (Nat.le_of_ble_eq_true rfl)) rfl ?_
  refine ⟨⟨rfl, by decide⟩, ?_⟩
  refine ar_loadp rfl (v := .int .i64 b.id) rfl (wth_get 0 hNb2 rfl) rfl (apartOk_one rfl rfl (Nat.le_of_ble_eq_true rfl)) rfl ?_
  refine ⟨trivial, trivial, ?_⟩
  show aopsR _ _ _ _ _ [(16, .bool (a.id == b.id)), (15, .bool (a.id == b.id)), (14, .int .i64 b.id), (13, .ptr ⟨b2, 0, none⟩), (12, .int .i64 a.id), (11, .ptr ⟨b1, 0, none⟩), (2, .ptr ⟨b1, 0, none⟩), (3, .ptr ⟨b2, 0, none⟩), (5, .bool (vEq a.v b.v))] _
  revert key
  cases h1 : (a.id == b.id)
  ·
   replace h1 : a.id ≠ b.id := (ne_of_beq_false h1)
   intro key
   refine ar_off rfl (ar_off rfl (ar_off rfl (ar_off rfl (ar_off rfl ?_))))
   refine ⟨trivial, ?_⟩
   refine ar_off rfl ?_
   refine ⟨trivial, ?_⟩
   exact key
  ·
   replace h1 : a.id = b.id := (eq_of_beq h1)
   intro key
   refine ⟨⟨rfl, by decide⟩, ?_⟩
   refine ar_loadp rfl (v := .str a.kind) rfl (wth_get 1 hNb2 rfl) rfl (apartOk_one rfl rfl (Nat.le_of_ble_eq_true rfl)) rfl ?_
   refine ⟨⟨rfl, by decide⟩, ?_⟩
   refine ar_loadp rfl (v := .str b.kind) rfl (wth_get 0 hNb2 rfl) rfl (apartOk_one rfl rfl (Nat.le_of_ble_eq_true rfl)) rfl ?_
   refine ⟨trivial, ?_⟩
   refine ⟨trivial, ?_⟩
   show aopsR _ _ _ _ _ [(23, .bool (a.kind == b.kind)), (22, .bool (a.kind == b.kind)), (21, .bool (a.kind == b.kind)), (20, .str b.kind), (19, .ptr ⟨b2, 1, none⟩), (18, .str a.kind), (17, .ptr ⟨b1, 1, none⟩), (16, .bool true), (15, .bool true), (14, .int .i64 b.id), (13, .ptr ⟨b2, 0, none⟩), (12, .int .i64 a.id), (11, .ptr ⟨b1, 0, none⟩), (2, .ptr ⟨b1, 0, none⟩), (3, .ptr ⟨b2, 0, none⟩), (5, .bool (vEq a.v b.v))] _
   revert key
   cases h2 : (a.kind == b.kind)
   ·
    replace h2 : a.kind ≠ b.kind := (ne_of_beq_false h2)
    intro key
    refine ar_off rfl ?_
    refine ⟨trivial, ?_⟩
    exact key
   ·
    replace h2 : a.kind = b.kind := (eq_of_beq h2)
    intro key
    refine ⟨trivial, ?_⟩
    refine ⟨trivial, ?_⟩
    exact key
 refine hK1 _ _ ?_; clear hK1 K1
 refine awp_ret ?_
 refine ⟨trivial, m, (wth_sub2 (m := m) [(b2, .cells [.int .i64 b.id, .str b.kind, .int .i64 b.v.kind, .int .i64 b.v.n, .str b.v.s, .slice false (b.v.l.map valIn), .slice false (b.v.f.map fldIn)]), (b1, .cells [.int .i64 a.id, .str a.kind, .int .i64 a.v.kind, .int .i64 a.v.n, .str a.v.s, .slice false (a.v.l.map valIn), .slice false (a.v.f.map fldIn)])] [] hNb2 (by simp only [List.map_cons, List.map_nil, List.forall_mem_cons]; exact ⟨hFb2, hFb1, fun _ h => by cases h⟩)), ?_⟩
 show K (.bool (((a.id == b.id) && (a.kind == b.kind)) && (vEq a.v b.v))) m

 exact hK

set_option maxHeartbeats 2000000 in
theorem u_SameThings1 (l : List Thg)  (m : AMem)  (K : AV → AMem → Prop) (hK : K (.bool true) m) : ACalls Try.prog 61 [.slice false (l.map thgAV), .slice false (l.map thgAV)] m K := by
 refine acalls_enter Try.func61 rfl (by decide) (Nat.le_of_ble_eq_true rfl) ?_
 refine awp_bd 0 (x := .slice false (l.map thgAV)) rfl (fun hbd0 => ?_)
 have hbd0_0 : l.length ≤ 140737488355328 := bd_map (o := false) hbd0
 show AWP _ _ _ _ [(0, .slice false (l.map thgAV)), (1, .slice false (l.map thgAV))] m
 refine awp_reg2_seq [] [0, 1] (by decide) ?_
 intro K1 hK1
 refine ⟨trivial, ?_⟩
 show K1 [(0, .slice false (l.map thgAV)), (1, .slice false (l.map thgAV))] m
 refine hK1 _ _ ?_; clear hK1 K1
 refine awp_seq_k ?_; intro K2 hK2
 refine awp_reg2_seq [] [0, 1, 11] (by decide) ?_
 intro K1 hK1
 refine ⟨trivial, ?_⟩
 refine ar_len rfl thgAV l rfl rfl rfl ?_
 refine ⟨trivial, ?_⟩
 refine ar_len rfl thgAV l rfl rfl rfl ?_
 refine ⟨trivial, ?_⟩
 show K1 [(0, .slice false (l.map thgAV)), (1, .slice false (l.map thgAV)), (11, .bool (!((l.length : Int) == (l.length : Int))))] m
 refine hK1 _ _ ?_; clear hK1 K1
 refine awp_cond rfl rfl (fun h1 => ?_) (fun h1 => ?_)
 ·
  replace h1 : (l.length : Int) ≠ (l.length : Int) := (ne_of_beq_false (bnT h1))
  simp at h1
 replace h1 : (l.length : Int) = (l.length : Int) := (eq_of_beq (bnF h1))
 refine awp_skip ?_
 refine hK2 _ _ ?_; clear hK2
 refine awp_seq_k ?_; intro K3 hK3
 refine awp_reg2_seq [] [0, 1, 5] (by decide) ?_
 intro K1 hK1
 refine ⟨trivial, ?_⟩
 show K1 [(0, .slice false (l.map thgAV)), (1, .slice false (l.map thgAV)), (5, .int .i64 0)] m
 refine hK1 _ _ ?_; clear hK1 K1
 refine awp_block ?_
 refine awp_keep [0, 1, 5] (by decide) ?_
 refine awp_loop_st (σ := Int) (fun i => [(0, .slice false (l.map thgAV)), (1, .slice false (l.map thgAV)), (5, .int .i64 i)]) (fun _ => m) (fun i => 0 ≤ i ∧ i ≤ l.length) (fun i => l.length - i.toNat) (0) rfl rfl ?_ ?_
 ·
  show 0 ≤ ((0 : Int)) ∧ ((0 : Int)) ≤ l.length
  omega
 rintro i hI
 replace hI : 0 ≤ i ∧ i ≤ l.length := hI
 show AWP _ _ _ _ [(0, .slice false (l.map thgAV)), (1, .slice false (l.map thgAV)), (5, .int .i64 i)] m
 refine awp_seq_k ?_; intro K4 hK4
 refine awp_reg2_seq [] [0, 1, 5, 15] (by decide) ?_
 intro K1 hK1
 refine ⟨trivial, trivial, ?_⟩
 refine ar_len rfl thgAV l rfl rfl rfl ?_
 refine ⟨trivial, ?_⟩
 show K1 [(0, .slice false (l.map thgAV)), (1, .slice false (l.map thgAV)), (5, .int .i64 i), (15, .bool (decide (i < (l.length : Int))))] m
 refine hK1 _ _ ?_; clear hK1 K1
 refine awp_cond rfl rfl (fun h2 => ?_) (fun h2 => ?_)
 ·
  replace h2 : i < (l.length : Int) := (of_decide_eq_true h2)
  refine awp_skip ?_
  refine hK4 _ _ ?_; clear hK4
  refine awp_seq_k ?_; intro K5 hK5
  refine awp_block ?_
  refine awp_draw_seq Try.mixed [(.bool ((((gI l i).id == (gI l i).id) && ((gI l i).kind == (gI l i).kind)) && vEq (gI l i).v (gI l i).v))] [0, 1, 5, 6] (by decide) (by decide) ?_
  intro K1 hK1
  refine ⟨trivial, trivial, ?_⟩
  refine pq_index rfl thgAV l i rfl rfl rfl rfl rfl (by decide) (fun _ => rfl) (by omega) (by omega) ?_
  refine ⟨(apartOk_agg rfl rfl (Nat.le_of_ble_eq_true rfl)), trivial, trivial, ?_⟩
  refine pq_index rfl thgAV l i rfl rfl rfl rfl rfl (by decide) (fun _ => rfl) (by omega) (by omega) ?_
  refine ⟨(apartOk_agg rfl rfl (Nat.le_of_ble_eq_true rfl)), (fun Kc hKc => u_SameThing (gI l i) (gI l i) _ Kc hKc), trivial, ?_⟩
  show K1 [(0, .slice false (l.map thgAV)), (1, .slice false (l.map thgAV)), (5, .int .i64 i), (6, .bool ((((gI l i).id == (gI l i).id) && ((gI l i).kind == (gI l i).kind)) && vEq (gI l i).v (gI l i).v))] m
  refine hK1 _ _ ?_; clear hK1 K1
  refine awp_reg2_seq [] [0, 1, 5, 28] (by decide) ?_
  intro K1 hK1
  refine ⟨trivial, trivial, ?_⟩
  show K1 [(0, .slice false (l.map thgAV)), (1, .slice false (l.map thgAV)), (5, .int .i64 i), (28, .bool (!((((gI l i).id == (gI l i).id) && ((gI l i).kind == (gI l i).kind)) && vEq (gI l i).v (gI l i).v)))] m
  refine hK1 _ _ ?_; clear hK1 K1
  refine awp_cond rfl rfl (fun h3 => ?_) (fun h3 => ?_)
  ·
   replace h3 : ((((gI l i).id == (gI l i).id) && ((gI l i).kind == (gI l i).kind)) && vEq (gI l i).v (gI l i).v) = false := (bnT h3)
   rw [vEq_true rfl] at h3
   simp at h3
  replace h3 : ((((gI l i).id == (gI l i).id) && ((gI l i).kind == (gI l i).kind)) && vEq (gI l i).v (gI l i).v) = true := (bnF h3)
  refine awp_skip ?_
  refine hK5 _ _ ?_; clear hK5
  refine awp_reg2 [] [0, 1, 5] (by decide) ?_
  intro K1 hK1
  refine ⟨trivial, ?_⟩
  refine ar_add rfl (a := i) (b := 1) rfl rfl (by omega) (by omega) ?_
  refine ⟨trivial, ?_⟩
  show K1 [(0, .slice false (l.map thgAV)), (1, .slice false (l.map thgAV)), (5, .int .i64 (i + 1))] m
  refine hK1 _ _ ?_; clear hK1 K1
  refine ⟨(i + 1), rfl, rfl, ?_, ?_⟩
  ·
   show 0 ≤ ((i + 1 : Int)) ∧ ((i + 1 : Int)) ≤ l.length
   (first | omega | (simp_all; done) | (simp_all; omega))
  ·
   show l.length - ((i + 1 : Int)).toNat < l.length - i.toNat
   omega
 replace h2 : (l.length : Int) ≤ i := (Int.not_lt.1 (of_decide_eq_false h2))
 refine awp_exit ?_
 refine hK3 _ _ ?_; clear hK3
 refine awp_reg2_seq [] [4] (by decide) ?_
 intro K1 hK1
 refine ⟨trivial, ?_⟩
 show K1 [(4, .bool true)] m
 refine hK1 _ _ ?_; clear hK1 K1
 refine awp_ret ?_
 refine ⟨trivial, m, fun _ _ h => h, ?_⟩
 show K (.bool true) m

 exact hK

set_option maxHeartbeats 2000000 in
theorem u_number (c : Int)  (m : AMem)  (K : AV → AMem → Prop) (hK : K (.int .i64 c) m) : ACalls Try.prog 63 [.err 108 c] m K := by
 refine acalls_enter Try.func63 rfl (by decide) (Nat.le_of_ble_eq_true rfl) ?_
 show AWP _ _ _ _ [(0, .err 108 c)] m
 refine awp_reg2_seq [] [0] (by decide) ?_
 intro K1 hK1
 refine ⟨trivial, ?_⟩
 show K1 [(0, .err 108 c)] m
 refine hK1 _ _ ?_; clear hK1 K1
 refine awp_seq_k ?_; intro K2 hK2
 refine awp_reg2_seq [] [0, 6] (by decide) ?_
 intro K1 hK1
 refine ⟨trivial, ⟨rfl, rfl⟩, ?_⟩
 show K1 [(0, .err 108 c), (6, .bool (c == 0))] m
 refine hK1 _ _ ?_; clear hK1 K1
 refine awp_cond rfl rfl (fun h1 => ?_) (fun h1 => ?_)
 ·
  replace h1 : c = 0 := (eq_of_beq h1)
  refine awp_reg2_seq [] [2] (by decide) ?_
  intro K1 hK1
  refine ⟨trivial, ?_⟩
  show K1 [(2, .int .i64 0)] m
  refine hK1 _ _ ?_; clear hK1 K1
  refine awp_ret ?_
  refine ⟨trivial, m, fun _ _ h => h, ?_⟩
  show K (.int .i64 0) m
 
  refine K_eq hK (congrArg (AV.int .i64) ?_)
  omega
 replace h1 : c ≠ 0 := (ne_of_beq_false h1)
 refine awp_skip ?_
 refine hK2 _ _ ?_; clear hK2
 refine awp_reg2_seq [] [3, 4] (by decide) ?_
 intro K1 hK1
 refine ⟨trivial, rfl, trivial, (Nat.le_of_ble_eq_true rfl), (Nat.le_of_ble_eq_true rfl), trivial, trivial, ?_⟩
 show K1 [(3, .int .i64 c), (4, .bool (!(c == 0)))] m
 refine hK1 _ _ ?_; clear hK1 K1
 refine awp_seq_k ?_; intro K3 hK3
 refine awp_reg2_seq [] [3, 13] (by decide) ?_
 intro K1 hK1
 refine ⟨trivial, trivial, ?_⟩
 show K1 [(3, .int .i64 c), (13, .bool (!(!(c == 0))))] m
 refine hK1 _ _ ?_; clear hK1 K1
 refine awp_cond rfl rfl (fun h2 => ?_) (fun h2 => ?_)
 ·
  replace h2 : c = 0 := (eq_of_beq (bnF (bnT h2)))
  omega
 replace h2 : c ≠ 0 := (ne_of_beq_false (bnT (bnF h2)))
 refine awp_skip ?_
 refine hK3 _ _ ?_; clear hK3
 refine awp_reg2_seq [] [2] (by decide) ?_
 intro K1 hK1
 refine ⟨trivial, trivial, ?_⟩
 show K1 [(2, .int .i64 c)] m
 refine hK1 _ _ ?_; clear hK1 K1
 refine awp_ret ?_
 refine ⟨trivial, m, fun _ _ h => h, ?_⟩
 show K (.int .i64 c) m

 exact hK

end Go.Proofs
end
section
namespace Go.Proofs
open Go Go.Aw
set_option maxRecDepth 100000


/-- What TopToken knows of its cloud and its disk behind n calls. -/
structure TK (c : ClSt) (s : DSt) (n : Nat) : Prop where
  okd : Okd s
  st0 : 0 ≤ s.steps
  st1 : s.steps ≤ n
  fl : c.fails = []
  nx0 : 1 ≤ c.next
  nx1 : c.next ≤ n + 1
  ca0 : 0 ≤ c.calls
  ca1 : c.calls ≤ n
  tl : c.things.length ≤ n
  ol : c.tokens.length ≤ n
  nd : (c.things.map Prod.fst).Nodup
  ids : ∀ p ∈ c.things, p.2.id = p.1 ∧ (1 ≤ p.1 ∧ p.1 < c.next) ∧ chk p.2.v = 0
theorem TK.mono {c : ClSt} {s : DSt} {n m : Nat} (h : TK c s n) (hm : n ≤ m) : TK c s m :=
  ⟨h.okd, h.st0, by have := h.st1; omega, h.fl, h.nx0, by have := h.nx1; omega, h.ca0, by have := h.ca1; omega, by have := h.tl; omega, by have := h.ol; omega, h.nd, h.ids⟩
/-- What a token did. -/
def tokX (c : ClSt) (t : Str) (op : Int) : Dn × Bool × Int :=
  if (mget c.tokens t).isSome = false then (zD, false, 0) else if ((mget c.tokens t).getD zD).op = op then ((mget c.tokens t).getD zD, true, 0) else (zD, false, 15)
theorem TK.call {c : ClSt} {s : DSt} {n : Nat} (h : TK c s n) (t : Str) (op : Int) : callR c s t op = (({ c with calls := c.calls + 1 }, (stepF s).1), tokX c t op) := by
  have k := stepF_ok h.okd
  have e : (mget c.fails c.calls).getD false = false := by rw [h.fl]; rfl
  unfold tokX
  cases q : mget c.tokens t with
  | none => rw [callR_4 k.1 e (.inl (by rw [q]; rfl)), q]; rfl
  | some d =>
    by_cases hd : d.op = op
    · rw [callR_4 k.1 e (.inr (by rw [q]; exact hd)), q]
      rw [if_neg (by simp), if_pos (show ((some d).getD zD).op = op from hd)]; rfl
    · rw [callR_3 k.1 e (by rw [q]; exact ⟨rfl, hd⟩)]
      rw [if_neg (by simp), if_neg (show ¬ ((some d).getD zD).op = op from hd)]
theorem TK.callsE {c : ClSt} {s : DSt} {n : Nat} (h : TK c s n) (t : Str) (op : Int) : ccalls c s t op = c.calls + 1 := by rw [ccalls, h.call]
theorem TK.callT {c : ClSt} {s : DSt} {n : Nat} (h : TK c s n) (t : Str) (op : Int) : Go.Proofs.callT c s t op = tokX c t op := by rw [Go.Proofs.callT, h.call]
theorem TK.step {c : ClSt} {s : DSt} {n : Nat} (h : TK c s n) : TK { c with calls := c.calls + 1 } (stepF s).1 (n + 1) := by
  have k := stepF_ok h.okd
  have q := stepF_steps s
  exact ⟨k.2, by have := h.st0; omega, by have := h.st1; omega, h.fl, h.nx0, by show c.next ≤ _; have := h.nx1; omega, by show 0 ≤ c.calls + 1; have := h.ca0; omega, by show c.calls + 1 ≤ _; have := h.ca1; omega, by show c.things.length ≤ _; have := h.tl; omega, by show c.tokens.length ≤ _; have := h.ol; omega, h.nd, h.ids⟩
/-- A call of which something comes. -/
structure Twice (c : ClSt) (s : DSt) (r1 r2 : (ClSt × DSt) × Int) (n : Nat) : Prop where
  k1 : TK r1.1.1 r1.1.2 (n + 1)
  k2 : TK r2.1.1 r2.1.2 (n + 2)
  er : r2.2 = r1.2
  th : r1.2 = 0 → r2.1.1.things = r1.1.1.things
  m1 : c.next ≤ r1.1.1.next
  m2 : r1.1.1.next ≤ r2.1.1.next
structure Twice2 (c : ClSt) (s : DSt) (r1 r2 : (ClSt × DSt) × (Int × Int)) (n : Nat) : Prop where
  k1 : TK r1.1.1 r1.1.2 (n + 1)
  k2 : TK r2.1.1 r2.1.2 (n + 2)
  er : r2.2.2 = r1.2.2
  th : r1.2.2 = 0 → r2.1.1.things = r1.1.1.things
  m1 : c.next ≤ r1.1.1.next
  m2 : r1.1.1.next ≤ r2.1.1.next
  id : r1.2.2 = 0 → r2.2.1 = r1.2.1
  nw : r1.2.2 = 0 → c.things.length < r1.1.1.things.length → r1.2.1 = c.next ∧ r1.1.1.next = c.next + 1
theorem tokX_put {c c' : ClSt} {t : Str} {op id : Int} (h : c'.tokens = mput c.tokens t ⟨op, id⟩) : tokX c' t op = (⟨op, id⟩, true, 0) := by
  unfold tokX
  rw [h, mget_mputG, if_pos rfl]
  rw [if_neg (by simp), if_pos (by rfl)]; rfl
theorem tokX_eq {c c' : ClSt} {t : Str} {op : Int} (h : c'.tokens = c.tokens) : tokX c' t op = tokX c t op := by unfold tokX; rw [h]
section
variable {c : ClSt} {s : DSt} {n : Nat} {token kind : Str} {v : Val} {id : Int}
theorem TK.create_1 (h : TK c s n) (ha : attrE v = 0) (hk : nameV kind = true) (hx : (tokX c token 1).2.2 ≠ 0 ∨ (tokX c token 1).2.1 = true) : createR c s token kind v = (({ c with calls := c.calls + 1 }, (stepF s).1), ((tokX c token 1).1.id, (tokX c token 1).2.2)) := by
  rw [createR_3 ha hk (by rw [h.callT]; exact hx), h.callT, h.callsE]
theorem TK.create_2 (h : TK c s n) (ha : attrE v = 0) (hk : nameV kind = true) (hx : (tokX c token 1).2.2 = 0 ∧ (tokX c token 1).2.1 = false) (hq : c.quota ≤ c.things.length) : createR c s token kind v = (({ c with calls := c.calls + 1 }, (stepF s).1), (0, 13)) := by
  rw [createR_4 ha hk (by rw [h.callT]; exact hx) hq, h.callsE]
theorem TK.create_3 (h : TK c s n) (ha : attrE v = 0) (hk : nameV kind = true) (hx : (tokX c token 1).2.2 = 0 ∧ (tokX c token 1).2.1 = false) (hq : (c.things.length : Int) < c.quota) : createR c s token kind v = (({ c with calls := c.calls + 1, next := c.next + 1, things := mput c.things c.next ⟨c.next, kind, v⟩, tokens := mput c.tokens token ⟨1, c.next⟩ }, (stepF s).1), (c.next, 0)) := by
  rw [createR_5 ha hk (by rw [h.callT]; exact hx) hq, h.callsE]
theorem TK.update_1 (h : TK c s n) (ha : attrE v = 0) (hx : (tokX c token 2).2.2 ≠ 0 ∨ (tokX c token 2).2.1 = true) : updateR c s token id v = (({ c with calls := c.calls + 1 }, (stepF s).1), (tokX c token 2).2.2) := by
  rw [updateR_2 ha (by rw [h.callT]; exact hx), h.callT, h.callsE]
theorem TK.update_2 (h : TK c s n) (ha : attrE v = 0) (hx : (tokX c token 2).2.2 = 0 ∧ (tokX c token 2).2.1 = false) (hq : (mget c.things id).isSome = false) : updateR c s token id v = (({ c with calls := c.calls + 1 }, (stepF s).1), 7) := by
  rw [updateR_3 ha (by rw [h.callT]; exact hx) hq, h.callsE]
theorem TK.update_3 (h : TK c s n) (ha : attrE v = 0) (hx : (tokX c token 2).2.2 = 0 ∧ (tokX c token 2).2.1 = false) (hq : (mget c.things id).isSome = true) : updateR c s token id v = (({ c with calls := c.calls + 1, things := mput c.things id ⟨((mget c.things id).getD zT).id, ((mget c.things id).getD zT).kind, v⟩, tokens := mput c.tokens token ⟨2, id⟩ }, (stepF s).1), 0) := by
  rw [updateR_4 ha (by rw [h.callT]; exact hx) hq, h.callsE]
theorem TK.delete_1 (h : TK c s n) (hx : (tokX c token 3).2.2 ≠ 0 ∨ (tokX c token 3).2.1 = true) : deleteR c s token id = (({ c with calls := c.calls + 1 }, (stepF s).1), (tokX c token 3).2.2) := by
  rw [deleteR_2 (by rw [h.callT]; exact hx), h.callT, h.callsE]
theorem TK.delete_2 (h : TK c s n) (hx : (tokX c token 3).2.2 = 0 ∧ (tokX c token 3).2.1 = false) (hq : (mget c.things id).isSome = false) : deleteR c s token id = (({ c with calls := c.calls + 1 }, (stepF s).1), 7) := by
  rw [deleteR_3 (by rw [h.callT]; exact hx) hq, h.callsE]
theorem TK.delete_3 (h : TK c s n) (hx : (tokX c token 3).2.2 = 0 ∧ (tokX c token 3).2.1 = false) (hq : (mget c.things id).isSome = true) : deleteR c s token id = (({ c with calls := c.calls + 1, things := mdel c.things id, tokens := mput c.tokens token ⟨3, id⟩ }, (stepF s).1), 0) := by
  rw [deleteR_4 (by rw [h.callT]; exact hx) hq, h.callsE]
theorem TK.twiceSame (h : TK c s n) {e : Int} : Twice c s ((c, s), e) ((c, s), e) n := ⟨h.mono (by omega), h.mono (by omega), rfl, fun _ => rfl, Int.le_refl _, Int.le_refl _⟩
theorem TK.twiceSame2 (h : TK c s n) {e : Int} (he : e ≠ 0) : Twice2 c s ((c, s), (0, e)) ((c, s), (0, e)) n :=
  ⟨h.mono (by omega), h.mono (by omega), rfl, fun _ => rfl, Int.le_refl _, Int.le_refl _, fun _ => rfl, fun k => absurd k he⟩
theorem TK.put (h : TK c s n) {t : Thg} {op : Int} (ht : t.id = id) (h1 : 1 ≤ id) (h2 : id < c.next) (hv : chk t.v = 0) (hl : (mget c.things id).isSome = true) : TK { c with calls := c.calls + 1, things := mput c.things id t, tokens := mput c.tokens token ⟨op, id⟩ } (stepF s).1 (n + 1) := by
  have k := h.step
  refine ⟨k.okd, k.st0, k.st1, k.fl, k.nx0, k.nx1, k.ca0, k.ca1, ?_, ?_, mput_ndG h.nd, ?_⟩
  · show (mput c.things id t).length ≤ _
    rw [mput_len_some hl]; have := h.tl; omega
  · show (mput c.tokens token _).length ≤ _
    have := mput_len c.tokens token ⟨op, id⟩; have := h.ol; omega
  · intro p hp
    rcases mput_memG hp with rfl | hp
    · exact ⟨ht, ⟨h1, h2⟩, hv⟩
    · exact h.ids p hp
theorem TK.new (h : TK c s n) (hv : chk v = 0) : TK { c with calls := c.calls + 1, next := c.next + 1, things := mput c.things c.next ⟨c.next, kind, v⟩, tokens := mput c.tokens token ⟨1, c.next⟩ } (stepF s).1 (n + 1) := by
  have k := h.step
  refine ⟨k.okd, k.st0, k.st1, k.fl, ?_, ?_, k.ca0, k.ca1, ?_, ?_, mput_ndG h.nd, ?_⟩
  · show 1 ≤ c.next + 1; have := h.nx0; omega
  · show c.next + 1 ≤ _; have := h.nx1; omega
  · show (mput c.things c.next _).length ≤ _
    have := mput_len c.things c.next ⟨c.next, kind, v⟩; have := h.tl; omega
  · show (mput c.tokens token _).length ≤ _
    have := mput_len c.tokens token ⟨1, c.next⟩; have := h.ol; omega
  · intro p hp
    have hnx := h.nx0
    rcases mput_memG hp with rfl | hp
    · exact ⟨rfl, ⟨hnx, by show c.next < c.next + 1; omega⟩, hv⟩
    · have := h.ids p hp
      exact ⟨this.1, ⟨this.2.1.1, by show p.1 < c.next + 1; omega⟩, this.2.2⟩
theorem TK.del (h : TK c s n) {op : Int} : TK { c with calls := c.calls + 1, things := mdel c.things id, tokens := mput c.tokens token ⟨op, id⟩ } (stepF s).1 (n + 1) := by
  have k := h.step
  refine ⟨k.okd, k.st0, k.st1, k.fl, k.nx0, k.nx1, k.ca0, k.ca1, ?_, ?_, mdel_ndG h.nd, ?_⟩
  · show (mdel c.things id).length ≤ _
    have := mdel_len c.things id; have := h.tl; omega
  · show (mput c.tokens token _).length ≤ _
    have := mput_len c.tokens token ⟨op, id⟩; have := h.ol; omega
  · intro p hp
    exact h.ids p ((mdel_subG _ _).subset hp)
theorem TK.create2 (h : TK c s n) : Twice2 c s (createR c s token kind v) (createR (createR c s token kind v).1.1 (createR c s token kind v).1.2 token kind v) n := by
  by_cases ha : attrE v = 0
  · cases hk : nameV kind
    · rw [createR_2 ha hk, createR_2 ha hk]; exact h.twiceSame2 (by decide)
    · by_cases hx : (tokX c token 1).2.2 ≠ 0 ∨ (tokX c token 1).2.1 = true
      · rw [h.create_1 ha hk hx, h.step.create_1 ha hk (by rw [tokX_eq rfl]; exact hx), tokX_eq rfl]
        exact ⟨h.step, h.step.step, rfl, fun _ => rfl, Int.le_refl _, Int.le_refl _, fun _ => rfl, fun _ k => absurd k (Nat.lt_irrefl _)⟩
      · have hx : (tokX c token 1).2.2 = 0 ∧ (tokX c token 1).2.1 = false := by simpa [not_or] using hx
        by_cases hq : c.quota ≤ c.things.length
        · rw [h.create_2 ha hk hx hq, h.step.create_2 ha hk (by rw [tokX_eq rfl]; exact hx) hq]
          exact ⟨h.step, h.step.step, rfl, fun _ => rfl, Int.le_refl _, Int.le_refl _, fun _ => rfl, fun k => absurd k (show ¬ (13 : Int) = 0 by decide)⟩
        · have k1 := h.new (token := token) (kind := kind) (attrE_0 ha)
          rw [h.create_3 ha hk hx (by omega), k1.create_1 ha hk (by rw [tokX_put rfl]; exact .inr rfl), tokX_put rfl]
          exact ⟨k1, k1.step, rfl, fun _ => rfl, by show c.next ≤ c.next + 1; omega, Int.le_refl _, fun _ => rfl, fun _ _ => ⟨rfl, rfl⟩⟩
  · rw [createR_1 ha, createR_1 ha]; exact h.twiceSame2 ha
theorem TK.update2 (h : TK c s n) : Twice c s (updateR c s token id v) (updateR (updateR c s token id v).1.1 (updateR c s token id v).1.2 token id v) n := by
  by_cases ha : attrE v = 0
  · by_cases hx : (tokX c token 2).2.2 ≠ 0 ∨ (tokX c token 2).2.1 = true
    · rw [h.update_1 ha hx, h.step.update_1 ha (by rw [tokX_eq rfl]; exact hx), tokX_eq rfl]
      exact ⟨h.step, h.step.step, rfl, fun _ => rfl, Int.le_refl _, Int.le_refl _⟩
    · have hx : (tokX c token 2).2.2 = 0 ∧ (tokX c token 2).2.1 = false := by simpa [not_or] using hx
      cases hq : (mget c.things id).isSome
      · rw [h.update_2 ha hx hq, h.step.update_2 ha (by rw [tokX_eq rfl]; exact hx) hq]
        exact ⟨h.step, h.step.step, rfl, fun _ => rfl, Int.le_refl _, Int.le_refl _⟩
      · have hm : ∃ t, mget c.things id = some t := Option.isSome_iff_exists.1 hq
        obtain ⟨t, hm⟩ := hm
        have hi := h.ids _ (mget_memG hm)
        have k1 := h.put (token := token) (op := 2) (t := ⟨((mget c.things id).getD zT).id, ((mget c.things id).getD zT).kind, v⟩) (by rw [hm]; exact hi.1) hi.2.1.1 hi.2.1.2 (attrE_0 ha) hq
        rw [h.update_3 ha hx hq, k1.update_1 ha (by rw [tokX_put rfl]; exact .inr rfl), tokX_put rfl]
        exact ⟨k1, k1.step, rfl, fun _ => rfl, Int.le_refl _, Int.le_refl _⟩
  · rw [updateR_1 ha, updateR_1 ha]; exact h.twiceSame
theorem TK.delete2 (h : TK c s n) : Twice c s (deleteR c s token id) (deleteR (deleteR c s token id).1.1 (deleteR c s token id).1.2 token id) n := by
  by_cases hx : (tokX c token 3).2.2 ≠ 0 ∨ (tokX c token 3).2.1 = true
  · rw [h.delete_1 hx, h.step.delete_1 (by rw [tokX_eq rfl]; exact hx), tokX_eq rfl]
    exact ⟨h.step, h.step.step, rfl, fun _ => rfl, Int.le_refl _, Int.le_refl _⟩
  · have hx : (tokX c token 3).2.2 = 0 ∧ (tokX c token 3).2.1 = false := by simpa [not_or] using hx
    cases hq : (mget c.things id).isSome
    · rw [h.delete_2 hx hq, h.step.delete_2 (by rw [tokX_eq rfl]; exact hx) hq]
      exact ⟨h.step, h.step.step, rfl, fun _ => rfl, Int.le_refl _, Int.le_refl _⟩
    · have k1 := h.del (id := id) (token := token) (op := 3)
      rw [h.delete_3 hx hq, k1.delete_1 (by rw [tokX_put rfl]; exact .inr rfl), tokX_put rfl]
      exact ⟨k1, k1.step, rfl, fun _ => rfl, Int.le_refl _, Int.le_refl _⟩
end

end Go.Proofs
end
