import Derived.Test.YtoeghipbkmaccaaProg
import Derived.Test.YtoeghipbkmaccaaMix
import Derived.Test.YtoeghipbkmaccaaWxh
import Derived.Test.YtoeghipbkmaccaaWl8
import Derived.Test.YtoeghipbkmaccaaTg1
namespace Go.Proofs
open Go Go.Aw
set_option maxRecDepth 100000


theorem open0L : openR s0 LN = (s0, 0, ([], 0)) := rfl
theorem add0L : addR s0 LN [] 0 [102, 105, 114, 115, 116] = ((addR s0 LN [] 0 [102, 105, 114, 115, 116]).1, 0, ([[102, 105, 114, 115, 116]], 11)) := Prod.ext rfl rfl
def armS (f : Int) : DSt := { (addR s0 LN [] 0 [102, 105, 114, 115, 116]).1 with fuse := if -1 > f then -1 else f }
theorem armS_JL {f : Int} (h1 : f ≤ 100) : JL (armS f) [[102, 105, 114, 115, 116]] 11 2 := by
  have hd := addR_inv (n := LN) (t := [102, 105, 114, 115, 116]) (l := []) (z := 0) DInv.start
  refine ⟨rfl, rfl, rfl, rfl, rfl, by simp, by show (List.map Prod.fst (addR s0 LN [] 0 [102, 105, 114, 115, 116]).1.kept).Nodup; decide, ⟨hd.st0, hd.st1, ?_, ?_, hd.kl, hd.kb, hd.cd, hd.nl, hd.nb⟩⟩
  · show -1 ≤ if -1 > f then -1 else f
    split <;> omega
  · show (if -1 > f then -1 else f) ≤ 9223372036854775807
    split <;> omega
theorem u_ArmE (d kb nb : Nat) (f : Int) (m : AMem) (K : AV → AMem → Prop) (hK : K (.tuple []) (AMem.wth m [(d, dObj kb nb (armS f)), (nb, mObj (armS f).now), (kb, mObj (armS f).kept)])) :
    ACalls Try.prog 37 [.ptr ⟨d, 0, none⟩, .int .i64 f] (AMem.wth m [(d, dObj kb nb (addR s0 LN [] 0 [102, 105, 114, 115, 116]).1), (nb, mObj (addR s0 LN [] 0 [102, 105, 114, 115, 116]).1.now), (kb, mObj (addR s0 LN [] 0 [102, 105, 114, 115, 116]).1.kept)]) K := by
  exact u_Arm d kb nb (addR s0 LN [] 0 [102, 105, 114, 115, 116]).1 f (AMem.wth m [(nb, mObj (addR s0 LN [] 0 [102, 105, 114, 115, 116]).1.now), (kb, mObj (addR s0 LN [] 0 [102, 105, 114, 115, 116]).1.kept)]) K hK
theorem u_RestartE (d kb nb : Nat) (s : DSt) (keep torn : Int) (N : Nat) (hN : [d, kb].Nodup) (hD : DInv N s) (hNN : N ≤ 100000) (hk : (s.kept.map Prod.fst).Nodup) (m : AMem) (K : AV → AMem → Prop)
    (hK : ∀ q, ([q, d, kb] : List Nat).Nodup → m q = none → ∀ nw, nw.Perm (restR s keep torn) → K (.tuple []) (AMem.wth m [(q, mObj (restS s keep torn nw).now), (d, dObj kb q (restS s keep torn nw)), (kb, mObj (restS s keep torn nw).kept)])) :
    ACalls Try.prog 38 [.ptr ⟨d, 0, none⟩, .int .i64 keep, .int .i64 torn] (AMem.wth m [(d, dObj kb nb s), (kb, mObj s.kept)]) K :=
  u_Restart d kb nb s keep torn N hN hD hNN hk m K hK
theorem u_SameTexts_t (xs ys : List Str) (h : xs = ys) (m : AMem) (K : AV → AMem → Prop) (hK : K (.bool true) m) : ACalls Try.prog 19 [.slice false (xs.map strAV), .slice false (ys.map strAV)] m K := u_SameTexts xs ys m K (by rw [decide_eq_true h]; exact hK)
theorem u_SameTexts_f (xs ys : List Str) (h : ¬ xs = ys) (m : AMem) (K : AV → AMem → Prop) (hK : K (.bool false) m) : ACalls Try.prog 19 [.slice false (xs.map strAV), .slice false (ys.map strAV)] m K := u_SameTexts xs ys m K (by rw [decide_eq_false h]; exact hK)

theorem u_number (e : Int)  (m : AMem)  (K : AV → AMem → Prop) (hK : K (.int .i64 e) m) : ACalls Try.prog 63 [.err 108 e] m K := by
 refine acalls_enter Try.func63 rfl (by decide) (Nat.le_of_ble_eq_true rfl) ?_
 show AWP _ _ _ _ [(0, .err 108 e)] m
 refine awp_reg2_seq [] [0] (by decide) ?_
 intro K1 hK1
 refine ⟨trivial, ?_⟩
 show K1 [(0, .err 108 e)] m
 refine hK1 _ _ ?_; clear hK1 K1
 refine awp_seq_k ?_; intro K2 hK2
 refine awp_reg2_seq [] [0, 6] (by decide) ?_
 intro K1 hK1
 refine ⟨trivial, ⟨rfl, rfl⟩, ?_⟩
 show K1 [(0, .err 108 e), (6, .bool (e == 0))] m
 refine hK1 _ _ ?_; clear hK1 K1
 refine awp_cond rfl rfl (fun h1 => ?_) (fun h1 => ?_)
 ·
  replace h1 : e = 0 := (eq_of_beq h1)
  refine awp_reg2_seq [] [2] (by decide) ?_
  intro K1 hK1
  refine ⟨trivial, ?_⟩
  show K1 [(2, .int .i64 0)] m
  refine hK1 _ _ ?_; clear hK1 K1
  refine awp_ret ?_
  refine ⟨trivial, m, fun _ _ h => h, ?_⟩
  show K (.int .i64 0) m
 
  refine K_eq hK (congrArg (AV.int .i64) ?_)
  omega
 ·
  replace h1 : e ≠ 0 := (ne_of_beq_false h1)
  refine awp_skip ?_
  refine hK2 _ _ ?_; clear hK2
  refine awp_reg2_seq [] [3, 4] (by decide) ?_
  intro K1 hK1
  refine ⟨trivial, rfl, trivial, (Nat.le_of_ble_eq_true rfl), (Nat.le_of_ble_eq_true rfl), trivial, trivial, ?_⟩
  show K1 [(3, .int .i64 e), (4, .bool (!(e == 0)))] m
  refine hK1 _ _ ?_; clear hK1 K1
  refine awp_seq_k ?_; intro K3 hK3
  refine awp_reg2_seq [] [3, 13] (by decide) ?_
  intro K1 hK1
  refine ⟨trivial, trivial, ?_⟩
  show K1 [(3, .int .i64 e), (13, .bool (!(!(e == 0))))] m
  refine hK1 _ _ ?_; clear hK1 K1
  refine awp_cond rfl rfl (fun h2 => ?_) (fun h2 => ?_)
  ·
   replace h2 : e = 0 := (eq_of_beq (bnF (bnT h2)))
   omega
  ·
   replace h2 : e ≠ 0 := (ne_of_beq_false (bnT (bnF h2)))
   refine awp_skip ?_
   refine hK3 _ _ ?_; clear hK3
   refine awp_reg2_seq [] [2] (by decide) ?_
   intro K1 hK1
   refine ⟨trivial, trivial, ?_⟩
   show K1 [(2, .int .i64 e)] m
   refine hK1 _ _ ?_; clear hK1 K1
   refine awp_ret ?_
   refine ⟨trivial, m, fun _ _ h => h, ?_⟩
   show K (.int .i64 e) m
  
   exact hK

set_option maxHeartbeats 16000000 in
theorem u_TopLog (l : List Str) (fuse keep torn : Int)  (m : AMem)  (K : AV → AMem → Prop) (hK : K (.bool true) m) : ACalls Try.prog 6 [.slice false (l.map strAV), .int .i64 fuse, .int .i64 keep, .int .i64 torn] m K := by
 refine acalls_enter Try.func6 rfl (by decide) (Nat.le_of_ble_eq_true rfl) ?_
 show AWP _ _ _ _ [(0, .slice false (l.map strAV)), (1, .int .i64 fuse), (2, .int .i64 keep), (3, .int .i64 torn)] m
 refine awp_reg2_seq [] [0, 1, 2, 3] (by decide) ?_
 intro K1 hK1
 refine ⟨trivial, ?_⟩
 show K1 [(0, .slice false (l.map strAV)), (1, .int .i64 fuse), (2, .int .i64 keep), (3, .int .i64 torn)] m
 refine hK1 _ _ ?_; clear hK1 K1
 refine awp_reg2_seq [] [0, 1, 2, 3, 9] (by decide) ?_
 intro K1 hK1
 refine u_New0 _ _ ?_
 intro b1 b2 b3 hqb1 hb1 hb2 hb3
 have hFb1 : m b1 = none := wth_none (m := m) (L := []) hb1
 have hFb2 : m b2 = none := wth_none (m := m) (L := []) hb2
 have hFb3 : m b3 = none := wth_none (m := m) (L := []) hb3
 have hNb1 : ([b1, b2, b3] : List Nat).Nodup := wth_news (m := m) (L := []) hqb1 (by simp only [List.forall_mem_cons]; exact ⟨hb1, hb2, hb3, fun _ h => by cases h⟩) List.nodup_nil
 show aopsR _ _ _ _ _ _ (AMem.wth m [(b1, dObj b3 b2 s0), (b2, mObj s0.now), (b3, mObj s0.kept)])
 refine ⟨trivial, ?_⟩
 show K1 [(0, .slice false (l.map strAV)), (1, .int .i64 fuse), (2, .int .i64 keep), (3, .int .i64 torn), (9, .ptr ⟨b1, 0, none⟩)] (AMem.wth m [(b1, dObj b3 b2 s0), (b2, mObj s0.now), (b3, mObj s0.kept)])
 refine hK1 _ _ ?_; clear hK1 K1
 refine awp_seq_k ?_; intro K2 hK2
 refine awp_reg2_seq [] [0, 1, 2, 3, 9, 22] (by decide) ?_
 intro K1 hK1
 refine ⟨trivial, rfl, ?_⟩
 show K1 [(0, .slice false (l.map strAV)), (1, .int .i64 fuse), (2, .int .i64 keep), (3, .int .i64 torn), (9, .ptr ⟨b1, 0, none⟩), (22, .bool false)] (AMem.wth m [(b1, dObj b3 b2 s0), (b2, mObj s0.now), (b3, mObj s0.kept)])
 refine hK1 _ _ ?_; clear hK1 K1
 refine awp_cond rfl rfl (fun hcz => ?_) (fun hcz => ?_)
 ·
  cases hcz
 clear hcz
 refine awp_skip ?_
 refine hK2 _ _ ?_; clear hK2
 refine awp_reg2_seq [] [0, 1, 2, 3, 9, 10, 11] (by decide) ?_
 intro K1 hK1
 refine ⟨trivial, ?_⟩
 refine u_OpenE b1 b3 b2 s0 LN 0 _ open0L rfl (by have q := hNb1; simp at q ⊢; omega) DInv.start (by decide) (by decide) _ _ ?_
 intro b4 hqb4 hb4
 have hwb4 := wth_new1 (m := m) (L := [(b1, dObj b3 b2 s0), (b2, mObj s0.now), (b3, mObj s0.kept)]) (x := b4) hNb1 (pick_perm [0, 0, 0] _) hqb4 hb4
 have hNb4 : ([b4, b1, b2, b3] : List Nat).Nodup := hwb4.1
 have hFb4 : m b4 = none := hwb4.2
 show aopsR _ _ _ _ _ _ (AMem.wth (AMem.wth m []) [(b4, .cells [.ptr ⟨b1, 0, none⟩, .str ([108, 111, 103] : List UInt8), .slice true (([] : List (List UInt8)).map strAV), .int .i64 0]), (b1, dObj b3 b2 s0), (b2, mObj s0.now), (b3, mObj s0.kept)])
 refine ar_mem (wth_split (m := m) (L := [(b4, .cells [.ptr ⟨b1, 0, none⟩, .str ([108, 111, 103] : List UInt8), .slice true (([] : List (List UInt8)).map strAV), .int .i64 0]), (b1, dObj b3 b2 s0), (b2, mObj s0.now), (b3, mObj s0.kept)]) hNb4 (pick_perm [0, 0, 0, 0] _)).symm ?_
 refine ⟨trivial, (Nat.le_of_ble_eq_true rfl), (Nat.le_of_ble_eq_true rfl), trivial, trivial, ?_⟩
 show K1 [(0, .slice false (l.map strAV)), (1, .int .i64 fuse), (2, .int .i64 keep), (3, .int .i64 torn), (9, .ptr ⟨b1, 0, none⟩), (10, .ptr ⟨b4, 0, none⟩), (11, .err 108 0)] (AMem.wth m [(b4, .cells [.ptr ⟨b1, 0, none⟩, .str ([108, 111, 103] : List UInt8), .slice true (([] : List (List UInt8)).map strAV), .int .i64 0]), (b1, dObj b3 b2 s0), (b2, mObj s0.now), (b3, mObj s0.kept)])
 refine hK1 _ _ ?_; clear hK1 K1
 refine awp_seq_k ?_; intro K3 hK3
 refine awp_reg2_seq [] [0, 1, 2, 3, 9, 10, 38] (by decide) ?_
 intro K1 hK1
 refine ⟨trivial, ⟨rfl, rfl⟩, trivial, trivial, rfl, ?_⟩
 refine ⟨trivial, trivial, ?_⟩
 refine u_AddE b4 b1 b3 b2 s0 LN [] 0 [102, 105, 114, 115, 116] 0 _ add0L (by have q := hNb4; simp at q ⊢; omega) DInv.start (by decide) (by decide) (by decide) (by decide) (by decide) _ _ ?_
 show aopsR _ _ _ _ _ _ (AMem.wth m [(b4, .cells [.ptr ⟨b1, 0, none⟩, .str ([108, 111, 103] : List UInt8), .slice true (([[102, 105, 114, 115, 116]] : List (List UInt8)).map strAV), .int .i64 11]), (b1, dObj b3 b2 ((addR s0 LN [] 0 [102, 105, 114, 115, 116]).1)), (b2, mObj (((addR s0 LN [] 0 [102, 105, 114, 115, 116]).1).now)), (b3, mObj (((addR s0 LN [] 0 [102, 105, 114, 115, 116]).1).kept))])
 refine ⟨⟨rfl, rfl⟩, ?_⟩
 show K1 [(0, .slice false (l.map strAV)), (1, .int .i64 fuse), (2, .int .i64 keep), (3, .int .i64 torn), (9, .ptr ⟨b1, 0, none⟩), (10, .ptr ⟨b4, 0, none⟩), (38, .bool false)] (AMem.wth m [(b4, .cells [.ptr ⟨b1, 0, none⟩, .str ([108, 111, 103] : List UInt8), .slice true (([[102, 105, 114, 115, 116]] : List (List UInt8)).map strAV), .int .i64 11]), (b1, dObj b3 b2 ((addR s0 LN [] 0 [102, 105, 114, 115, 116]).1)), (b2, mObj (((addR s0 LN [] 0 [102, 105, 114, 115, 116]).1).now)), (b3, mObj (((addR s0 LN [] 0 [102, 105, 114, 115, 116]).1).kept))])
 refine hK1 _ _ ?_; clear hK1 K1
 refine awp_cond rfl rfl (fun hcz => ?_) (fun hcz => ?_)
 ·
  cases hcz
 clear hcz
 refine awp_skip ?_
 refine hK3 _ _ ?_; clear hK3
 refine awp_seq_k ?_; intro K4 hK4
 refine awp_reg2_seq [] [0, 1, 2, 3, 9, 10, 41] (by decide) ?_
 intro K1 hK1
 refine ⟨trivial, ?_⟩
 refine ar_len rfl strAV l rfl rfl rfl ?_
 refine ⟨trivial, ?_⟩
 show K1 [(0, .slice false (l.map strAV)), (1, .int .i64 fuse), (2, .int .i64 keep), (3, .int .i64 torn), (9, .ptr ⟨b1, 0, none⟩), (10, .ptr ⟨b4, 0, none⟩), (41, .bool (decide (12 < (l.length : Int))))] (AMem.wth m [(b4, .cells [.ptr ⟨b1, 0, none⟩, .str ([108, 111, 103] : List UInt8), .slice true (([[102, 105, 114, 115, 116]] : List (List UInt8)).map strAV), .int .i64 11]), (b1, dObj b3 b2 ((addR s0 LN [] 0 [102, 105, 114, 115, 116]).1)), (b2, mObj (((addR s0 LN [] 0 [102, 105, 114, 115, 116]).1).now)), (b3, mObj (((addR s0 LN [] 0 [102, 105, 114, 115, 116]).1).kept))])
 refine hK1 _ _ ?_; clear hK1 K1
 refine awp_cond rfl rfl (fun h1 => ?_) (fun h1 => ?_)
 ·
  replace h1 : 12 < (l.length : Int) := (of_decide_eq_true h1)
  refine awp_reg2_seq [] [8] (by decide) ?_
  intro K1 hK1
  refine ⟨trivial, ?_⟩
  show K1 [(8, .bool true)] (AMem.wth m [(b4, .cells [.ptr ⟨b1, 0, none⟩, .str ([108, 111, 103] : List UInt8), .slice true (([[102, 105, 114, 115, 116]] : List (List UInt8)).map strAV), .int .i64 11]), (b1, dObj b3 b2 ((addR s0 LN [] 0 [102, 105, 114, 115, 116]).1)), (b2, mObj (((addR s0 LN [] 0 [102, 105, 114, 115, 116]).1).now)), (b3, mObj (((addR s0 LN [] 0 [102, 105, 114, 115, 116]).1).kept))])
  refine hK1 _ _ ?_; clear hK1 K1
  refine awp_ret ?_
  refine ⟨trivial, m, (wth_sub2 (m := m) [(b4, .cells [.ptr ⟨b1, 0, none⟩, .str ([108, 111, 103] : List UInt8), .slice true (([[102, 105, 114, 115, 116]] : List (List UInt8)).map strAV), .int .i64 11]), (b1, dObj b3 b2 ((addR s0 LN [] 0 [102, 105, 114, 115, 116]).1)), (b2, mObj (((addR s0 LN [] 0 [102, 105, 114, 115, 116]).1).now)), (b3, mObj (((addR s0 LN [] 0 [102, 105, 114, 115, 116]).1).kept))] [] hNb4 (by simp only [List.map_cons, List.map_nil, List.forall_mem_cons]; exact ⟨hFb4, hFb1, hFb2, hFb3, fun _ h => by cases h⟩)), ?_⟩
  show K (.bool true) m
 
  exact hK
 ·
  replace h1 : (l.length : Int) ≤ 12 := (Int.not_lt.1 (of_decide_eq_false h1))
  refine awp_skip ?_
  refine hK4 _ _ ?_; clear hK4
  refine awp_seq_k ?_; intro K5 hK5
  refine awp_reg2_seq [] [0, 1, 2, 3, 9, 10, 12] (by decide) ?_
  intro K1 hK1
  refine ⟨trivial, ?_⟩
  show K1 [(0, .slice false (l.map strAV)), (1, .int .i64 fuse), (2, .int .i64 keep), (3, .int .i64 torn), (9, .ptr ⟨b1, 0, none⟩), (10, .ptr ⟨b4, 0, none⟩), (12, .int .i64 0)] (AMem.wth m [(b4, .cells [.ptr ⟨b1, 0, none⟩, .str ([108, 111, 103] : List UInt8), .slice true (([[102, 105, 114, 115, 116]] : List (List UInt8)).map strAV), .int .i64 11]), (b1, dObj b3 b2 ((addR s0 LN [] 0 [102, 105, 114, 115, 116]).1)), (b2, mObj (((addR s0 LN [] 0 [102, 105, 114, 115, 116]).1).now)), (b3, mObj (((addR s0 LN [] 0 [102, 105, 114, 115, 116]).1).kept))])
  refine hK1 _ _ ?_; clear hK1 K1
  refine awp_block ?_
  refine awp_keep [0, 1, 2, 3, 9, 10, 12] (by decide) ?_
  refine awp_loop_st (σ := Int) (fun i => [(0, .slice false (l.map strAV)), (1, .int .i64 fuse), (2, .int .i64 keep), (3, .int .i64 torn), (9, .ptr ⟨b1, 0, none⟩), (10, .ptr ⟨b4, 0, none⟩), (12, .int .i64 i)]) (fun _ => (AMem.wth m [(b4, .cells [.ptr ⟨b1, 0, none⟩, .str ([108, 111, 103] : List UInt8), .slice true (([[102, 105, 114, 115, 116]] : List (List UInt8)).map strAV), .int .i64 11]), (b1, dObj b3 b2 ((addR s0 LN [] 0 [102, 105, 114, 115, 116]).1)), (b2, mObj (((addR s0 LN [] 0 [102, 105, 114, 115, 116]).1).now)), (b3, mObj (((addR s0 LN [] 0 [102, 105, 114, 115, 116]).1).kept))])) (fun i => 0 ≤ i ∧ i ≤ l.length ∧ ∀ r ∈ l.take i.toNat, r.length ≤ 300) (fun i => l.length - i.toNat) (0) rfl rfl ?_ ?_
  ·
   show 0 ≤ ((0 : Int)) ∧ ((0 : Int)) ≤ l.length ∧ ∀ r ∈ l.take ((0 : Int)).toNat, r.length ≤ 300
   exact ⟨by omega, by omega, by simp⟩
  ·
   rintro i hI
   replace hI : 0 ≤ i ∧ i ≤ l.length ∧ ∀ r ∈ l.take i.toNat, r.length ≤ 300 := hI
   show AWP _ _ _ _ [(0, .slice false (l.map strAV)), (1, .int .i64 fuse), (2, .int .i64 keep), (3, .int .i64 torn), (9, .ptr ⟨b1, 0, none⟩), (10, .ptr ⟨b4, 0, none⟩), (12, .int .i64 i)] (AMem.wth m [(b4, .cells [.ptr ⟨b1, 0, none⟩, .str ([108, 111, 103] : List UInt8), .slice true (([[102, 105, 114, 115, 116]] : List (List UInt8)).map strAV), .int .i64 11]), (b1, dObj b3 b2 ((addR s0 LN [] 0 [102, 105, 114, 115, 116]).1)), (b2, mObj (((addR s0 LN [] 0 [102, 105, 114, 115, 116]).1).now)), (b3, mObj (((addR s0 LN [] 0 [102, 105, 114, 115, 116]).1).kept))])
   refine awp_seq_k ?_; intro K6 hK6
   refine awp_reg2_seq [] [0, 1, 2, 3, 9, 10, 12, 45] (by decide) ?_
   intro K1 hK1
   refine ⟨trivial, trivial, ?_⟩
   refine ar_len rfl strAV l rfl rfl rfl ?_
   refine ⟨trivial, ?_⟩
   show K1 [(0, .slice false (l.map strAV)), (1, .int .i64 fuse), (2, .int .i64 keep), (3, .int .i64 torn), (9, .ptr ⟨b1, 0, none⟩), (10, .ptr ⟨b4, 0, none⟩), (12, .int .i64 i), (45, .bool (decide (i < (l.length : Int))))] (AMem.wth m [(b4, .cells [.ptr ⟨b1, 0, none⟩, .str ([108, 111, 103] : List UInt8), .slice true (([[102, 105, 114, 115, 116]] : List (List UInt8)).map strAV), .int .i64 11]), (b1, dObj b3 b2 ((addR s0 LN [] 0 [102, 105, 114, 115, 116]).1)), (b2, mObj (((addR s0 LN [] 0 [102, 105, 114, 115, 116]).1).now)), (b3, mObj (((addR s0 LN [] 0 [102, 105, 114, 115, 116]).1).kept))])
   refine hK1 _ _ ?_; clear hK1 K1
   refine awp_cond rfl rfl (fun h2 => ?_) (fun h2 => ?_)
   ·
    replace h2 : i < (l.length : Int) := (of_decide_eq_true h2)
    refine awp_skip ?_
    refine hK6 _ _ ?_; clear hK6
    refine awp_seq_k ?_; intro K7 hK7
    refine awp_block ?_
    refine awp_reg2_seq [] [0, 1, 2, 3, 9, 10, 12, 53] (by decide) ?_
    intro K1 hK1
    refine ⟨trivial, trivial, ?_⟩
    refine ar_index rfl strAV l i rfl rfl rfl rfl rfl (by decide) (fun _ => rfl) (by omega) (by omega) ?_
    refine ⟨(apartOk_one rfl rfl (Nat.le_of_ble_eq_true rfl)), trivial, trivial, ?_⟩
    show K1 [(0, .slice false (l.map strAV)), (1, .int .i64 fuse), (2, .int .i64 keep), (3, .int .i64 torn), (9, .ptr ⟨b1, 0, none⟩), (10, .ptr ⟨b4, 0, none⟩), (12, .int .i64 i), (53, .bool (decide (300 < ((gI l i).length : Int))))] (AMem.wth m [(b4, .cells [.ptr ⟨b1, 0, none⟩, .str ([108, 111, 103] : List UInt8), .slice true (([[102, 105, 114, 115, 116]] : List (List UInt8)).map strAV), .int .i64 11]), (b1, dObj b3 b2 ((addR s0 LN [] 0 [102, 105, 114, 115, 116]).1)), (b2, mObj (((addR s0 LN [] 0 [102, 105, 114, 115, 116]).1).now)), (b3, mObj (((addR s0 LN [] 0 [102, 105, 114, 115, 116]).1).kept))])
    refine hK1 _ _ ?_; clear hK1 K1
    refine awp_cond rfl rfl (fun h3 => ?_) (fun h3 => ?_)
    ·
     replace h3 : 300 < ((gI l i).length : Int) := (of_decide_eq_true h3)
     refine awp_reg2_seq [] [8] (by decide) ?_
     intro K1 hK1
     refine ⟨trivial, ?_⟩
     show K1 [(8, .bool true)] (AMem.wth m [(b4, .cells [.ptr ⟨b1, 0, none⟩, .str ([108, 111, 103] : List UInt8), .slice true (([[102, 105, 114, 115, 116]] : List (List UInt8)).map strAV), .int .i64 11]), (b1, dObj b3 b2 ((addR s0 LN [] 0 [102, 105, 114, 115, 116]).1)), (b2, mObj (((addR s0 LN [] 0 [102, 105, 114, 115, 116]).1).now)), (b3, mObj (((addR s0 LN [] 0 [102, 105, 114, 115, 116]).1).kept))])
     refine hK1 _ _ ?_; clear hK1 K1
     refine awp_ret ?_
     refine ⟨trivial, m, (wth_sub2 (m := m) [(b4, .cells [.ptr ⟨b1, 0, none⟩, .str ([108, 111, 103] : List UInt8), .slice true (([[102, 105, 114, 115, 116]] : List (List UInt8)).map strAV), .int .i64 11]), (b1, dObj b3 b2 ((addR s0 LN [] 0 [102, 105, 114, 115, 116]).1)), (b2, mObj (((addR s0 LN [] 0 [102, 105, 114, 115, 116]).1).now)), (b3, mObj (((addR s0 LN [] 0 [102, 105, 114, 115, 116]).1).kept))] [] hNb4 (by simp only [List.map_cons, List.map_nil, List.forall_mem_cons]; exact ⟨hFb4, hFb1, hFb2, hFb3, fun _ h => by cases h⟩)), ?_⟩
     show K (.bool true) m
    
     exact hK
    ·
     replace h3 : ((gI l i).length : Int) ≤ 300 := (Int.not_lt.1 (of_decide_eq_false h3))
     refine awp_skip ?_
     refine hK7 _ _ ?_; clear hK7
     refine awp_reg2 [] [0, 1, 2, 3, 9, 10, 12] (by decide) ?_
     intro K1 hK1
     refine ⟨trivial, ?_⟩
     refine ar_add rfl (a := i) (b := 1) rfl rfl (by omega) (by omega) ?_
     refine ⟨trivial, ?_⟩
     show K1 [(0, .slice false (l.map strAV)), (1, .int .i64 fuse), (2, .int .i64 keep), (3, .int .i64 torn), (9, .ptr ⟨b1, 0, none⟩), (10, .ptr ⟨b4, 0, none⟩), (12, .int .i64 (i + 1))] (AMem.wth m [(b4, .cells [.ptr ⟨b1, 0, none⟩, .str ([108, 111, 103] : List UInt8), .slice true (([[102, 105, 114, 115, 116]] : List (List UInt8)).map strAV), .int .i64 11]), (b1, dObj b3 b2 ((addR s0 LN [] 0 [102, 105, 114, 115, 116]).1)), (b2, mObj (((addR s0 LN [] 0 [102, 105, 114, 115, 116]).1).now)), (b3, mObj (((addR s0 LN [] 0 [102, 105, 114, 115, 116]).1).kept))])
     refine hK1 _ _ ?_; clear hK1 K1
     refine ⟨(i + 1), rfl, rfl, ?_, ?_⟩
     ·
      show 0 ≤ ((i + 1 : Int)) ∧ ((i + 1 : Int)) ≤ l.length ∧ ∀ r ∈ l.take ((i + 1 : Int)).toNat, r.length ≤ 300
      refine ⟨by omega, by omega, fun r hr => ?_⟩
      rw [take_succ_gI hI.1 h2] at hr
      rcases List.mem_append.1 hr with hr | hr
      ·
       exact hI.2.2 r hr
      ·
       simp at hr; subst hr; omega
     ·
      show l.length - ((i + 1 : Int)).toNat < l.length - i.toNat
      omega
   ·
    replace h2 : (l.length : Int) ≤ i := (Int.not_lt.1 (of_decide_eq_false h2))
    have hal : ∀ r ∈ l, r.length ≤ 300 := by have := hI.2.2; rwa [take_full h2] at this
    refine awp_exit ?_
    refine hK5 _ _ ?_; clear hK5
    refine awp_reg2_seq [] [0, 2, 3, 9, 10] (by decide) ?_
    intro K1 hK1
    refine ⟨trivial, trivial, trivial, trivial, ?_⟩
    refine ar_mem (wth_split hNb4 (pick_perm [1, 1, 1] _)) ?_
    refine u_ArmE b1 b3 b2 (if 100 < if -1 > fuse then -1 else fuse then 100 else if -1 > fuse then -1 else fuse) _ _ ?_
    show aopsR _ _ _ _ _ _ (AMem.wth (AMem.wth m [(b4, .cells [.ptr ⟨b1, 0, none⟩, .str ([108, 111, 103] : List UInt8), .slice true (([[102, 105, 114, 115, 116]] : List (List UInt8)).map strAV), .int .i64 11])]) [(b1, dObj b3 b2 (armS (if 100 < if -1 > fuse then -1 else fuse then 100 else if -1 > fuse then -1 else fuse))), (b2, mObj ((armS (if 100 < if -1 > fuse then -1 else fuse then 100 else if -1 > fuse then -1 else fuse)).now)), (b3, mObj ((armS (if 100 < if -1 > fuse then -1 else fuse then 100 else if -1 > fuse then -1 else fuse)).kept))])
    refine ar_mem (wth_split (m := m) (L := [(b4, .cells [.ptr ⟨b1, 0, none⟩, .str ([108, 111, 103] : List UInt8), .slice true (([[102, 105, 114, 115, 116]] : List (List UInt8)).map strAV), .int .i64 11]), (b1, dObj b3 b2 (armS (if 100 < if -1 > fuse then -1 else fuse then 100 else if -1 > fuse then -1 else fuse))), (b2, mObj ((armS (if 100 < if -1 > fuse then -1 else fuse then 100 else if -1 > fuse then -1 else fuse)).now)), (b3, mObj ((armS (if 100 < if -1 > fuse then -1 else fuse then 100 else if -1 > fuse then -1 else fuse)).kept))]) hNb4 (pick_perm [1, 1, 1] _)).symm ?_
    show K1 [(0, .slice false (l.map strAV)), (2, .int .i64 keep), (3, .int .i64 torn), (9, .ptr ⟨b1, 0, none⟩), (10, .ptr ⟨b4, 0, none⟩)] (AMem.wth m [(b4, .cells [.ptr ⟨b1, 0, none⟩, .str ([108, 111, 103] : List UInt8), .slice true (([[102, 105, 114, 115, 116]] : List (List UInt8)).map strAV), .int .i64 11]), (b1, dObj b3 b2 (armS (if 100 < if -1 > fuse then -1 else fuse then 100 else if -1 > fuse then -1 else fuse))), (b2, mObj ((armS (if 100 < if -1 > fuse then -1 else fuse then 100 else if -1 > fuse then -1 else fuse)).now)), (b3, mObj ((armS (if 100 < if -1 > fuse then -1 else fuse then 100 else if -1 > fuse then -1 else fuse)).kept))])
    refine hK1 _ _ ?_; clear hK1 K1
    refine awp_reg2_seq [] [0, 2, 3, 9, 10, 13] (by decide) ?_
    intro K1 hK1
    refine ⟨⟨rfl, Nat.le_of_ble_eq_true rfl, rfl, Nat.le_of_ble_eq_true rfl, rfl, by simp only [List.forall_mem_cons]; exact ⟨⟨rfl, rfl⟩, fun _ h => by cases h⟩⟩, trivial, ?_⟩
    show K1 [(0, .slice false (l.map strAV)), (2, .int .i64 keep), (3, .int .i64 torn), (9, .ptr ⟨b1, 0, none⟩), (10, .ptr ⟨b4, 0, none⟩), (13, .slice true [.str ([102, 105, 114, 115, 116] : List UInt8)])] (AMem.wth m [(b4, .cells [.ptr ⟨b1, 0, none⟩, .str ([108, 111, 103] : List UInt8), .slice true (([[102, 105, 114, 115, 116]] : List (List UInt8)).map strAV), .int .i64 11]), (b1, dObj b3 b2 (armS (if 100 < if -1 > fuse then -1 else fuse then 100 else if -1 > fuse then -1 else fuse))), (b2, mObj ((armS (if 100 < if -1 > fuse then -1 else fuse then 100 else if -1 > fuse then -1 else fuse)).now)), (b3, mObj ((armS (if 100 < if -1 > fuse then -1 else fuse then 100 else if -1 > fuse then -1 else fuse)).kept))])
    refine hK1 _ _ ?_; clear hK1 K1
    refine awp_reg2_seq [] [0, 2, 3, 9, 10, 13, 14] (by decide) ?_
    intro K1 hK1
    refine ⟨⟨rfl, Nat.le_of_ble_eq_true rfl, rfl, Nat.le_of_ble_eq_true rfl, rfl, by simp only [List.forall_mem_cons]; exact ⟨⟨rfl, rfl⟩, fun _ h => by cases h⟩⟩, trivial, ?_⟩
    show K1 [(0, .slice false (l.map strAV)), (2, .int .i64 keep), (3, .int .i64 torn), (9, .ptr ⟨b1, 0, none⟩), (10, .ptr ⟨b4, 0, none⟩), (13, .slice true [.str ([102, 105, 114, 115, 116] : List UInt8)]), (14, .slice true [.str ([102, 105, 114, 115, 116] : List UInt8)])] (AMem.wth m [(b4, .cells [.ptr ⟨b1, 0, none⟩, .str ([108, 111, 103] : List UInt8), .slice true (([[102, 105, 114, 115, 116]] : List (List UInt8)).map strAV), .int .i64 11]), (b1, dObj b3 b2 (armS (if 100 < if -1 > fuse then -1 else fuse then 100 else if -1 > fuse then -1 else fuse))), (b2, mObj ((armS (if 100 < if -1 > fuse then -1 else fuse then 100 else if -1 > fuse then -1 else fuse)).now)), (b3, mObj ((armS (if 100 < if -1 > fuse then -1 else fuse then 100 else if -1 > fuse then -1 else fuse)).kept))])
    refine hK1 _ _ ?_; clear hK1 K1
    refine awp_strip 14 rfl ?_
    refine awp_keep [0, 2, 3, 9, 10, 13, 14] (by decide) ?_
    show AWP _ _ _ _ [(0, .slice false (l.map strAV)), (2, .int .i64 keep), (3, .int .i64 torn), (9, .ptr ⟨b1, 0, none⟩), (10, .ptr ⟨b4, 0, none⟩), (13, .slice true [.str ([102, 105, 114, 115, 116] : List UInt8)]), (14, .slice false [.str ([102, 105, 114, 115, 116] : List UInt8)])] (AMem.wth m [(b4, .cells [.ptr ⟨b1, 0, none⟩, .str ([108, 111, 103] : List UInt8), .slice true (([[102, 105, 114, 115, 116]] : List (List UInt8)).map strAV), .int .i64 11]), (b1, dObj b3 b2 (armS (if 100 < if -1 > fuse then -1 else fuse then 100 else if -1 > fuse then -1 else fuse))), (b2, mObj ((armS (if 100 < if -1 > fuse then -1 else fuse then 100 else if -1 > fuse then -1 else fuse)).now)), (b3, mObj ((armS (if 100 < if -1 > fuse then -1 else fuse then 100 else if -1 > fuse then -1 else fuse)).kept))])
    refine awp_seq_k ?_; intro K8 hK8
    refine awp_reg2_seq [] [0, 2, 3, 9, 10, 13, 14, 15] (by decide) ?_
    intro K1 hK1
    refine ⟨trivial, ?_⟩
    show K1 [(0, .slice false (l.map strAV)), (2, .int .i64 keep), (3, .int .i64 torn), (9, .ptr ⟨b1, 0, none⟩), (10, .ptr ⟨b4, 0, none⟩), (13, .slice true [.str ([102, 105, 114, 115, 116] : List UInt8)]), (14, .slice false [.str ([102, 105, 114, 115, 116] : List UInt8)]), (15, .int .i64 0)] (AMem.wth m [(b4, .cells [.ptr ⟨b1, 0, none⟩, .str ([108, 111, 103] : List UInt8), .slice true (([[102, 105, 114, 115, 116]] : List (List UInt8)).map strAV), .int .i64 11]), (b1, dObj b3 b2 (armS (if 100 < if -1 > fuse then -1 else fuse then 100 else if -1 > fuse then -1 else fuse))), (b2, mObj ((armS (if 100 < if -1 > fuse then -1 else fuse then 100 else if -1 > fuse then -1 else fuse)).now)), (b3, mObj ((armS (if 100 < if -1 > fuse then -1 else fuse then 100 else if -1 > fuse then -1 else fuse)).kept))])
    refine hK1 _ _ ?_; clear hK1 K1
    refine awp_block ?_
    refine awp_keep [0, 2, 3, 9, 10, 13, 14, 15] (by decide) ?_
    refine awp_loop_st (σ := (List (List UInt8)) × (List (List UInt8)) × Int × Int × DSt) (fun ⟨want, last, j, z, s⟩ => [(0, .slice false (l.map strAV)), (2, .int .i64 keep), (3, .int .i64 torn), (9, .ptr ⟨b1, 0, none⟩), (10, .ptr ⟨b4, 0, none⟩), (13, .slice true (want.map strAV)), (14, .slice false (last.map strAV)), (15, .int .i64 j)]) (fun ⟨want, last, j, z, s⟩ => (AMem.wth m [(b4, .cells [.ptr ⟨b1, 0, none⟩, .str ([108, 111, 103] : List UInt8), .slice true (want.map strAV), .int .i64 z]), (b1, dObj b3 b2 s), (b2, mObj s.now), (b3, mObj s.kept)])) (fun ⟨want, last, j, z, s⟩ => 0 ≤ j ∧ j ≤ l.length ∧ (want.length : Int) = j + 1 ∧ JL s want z (2 + 2 * j.toNat)) (fun ⟨want, last, j, z, s⟩ => l.length - j.toNat) ([([102, 105, 114, 115, 116] : List UInt8)], [([102, 105, 114, 115, 116] : List UInt8)], 0, 11, armS (if 100 < if -1 > fuse then -1 else fuse then 100 else if -1 > fuse then -1 else fuse)) rfl rfl ?_ ?_
    ·
     show 0 ≤ ((0 : Int)) ∧ ((0 : Int)) ≤ l.length ∧ ((([([102, 105, 114, 115, 116] : List UInt8)] : (List (List UInt8)))).length : Int) = ((0 : Int)) + 1 ∧ JL ((armS (if 100 < if -1 > fuse then -1 else fuse then 100 else if -1 > fuse then -1 else fuse) : DSt)) (([([102, 105, 114, 115, 116] : List UInt8)] : (List (List UInt8)))) ((11 : Int)) (2 + 2 * ((0 : Int)).toNat)
     exact ⟨by omega, by omega, by simp, armS_JL (by split <;> omega)⟩
    ·
     rintro ⟨want, last, j, z, s⟩ hI2
     replace hI2 : 0 ≤ j ∧ j ≤ l.length ∧ (want.length : Int) = j + 1 ∧ JL s want z (2 + 2 * j.toNat) := hI2
     have hsz := hI2.2.2.2.siz
     have hbd := allF_bnd hI2.2.2.2.rcs
     show AWP _ _ _ _ [(0, .slice false (l.map strAV)), (2, .int .i64 keep), (3, .int .i64 torn), (9, .ptr ⟨b1, 0, none⟩), (10, .ptr ⟨b4, 0, none⟩), (13, .slice true (want.map strAV)), (14, .slice false (last.map strAV)), (15, .int .i64 j)] (AMem.wth m [(b4, .cells [.ptr ⟨b1, 0, none⟩, .str ([108, 111, 103] : List UInt8), .slice true (want.map strAV), .int .i64 z]), (b1, dObj b3 b2 s), (b2, mObj s.now), (b3, mObj s.kept)])
     refine awp_seq_k ?_; intro K9 hK9
     refine awp_reg2_seq [] [0, 2, 3, 9, 10, 13, 14, 15, 64] (by decide) ?_
     intro K1 hK1
     refine ⟨trivial, trivial, ?_⟩
     refine ar_len rfl strAV l rfl rfl rfl ?_
     refine ⟨trivial, ?_⟩
     show K1 [(0, .slice false (l.map strAV)), (2, .int .i64 keep), (3, .int .i64 torn), (9, .ptr ⟨b1, 0, none⟩), (10, .ptr ⟨b4, 0, none⟩), (13, .slice true (want.map strAV)), (14, .slice false (last.map strAV)), (15, .int .i64 j), (64, .bool (decide (j < (l.length : Int))))] (AMem.wth m [(b4, .cells [.ptr ⟨b1, 0, none⟩, .str ([108, 111, 103] : List UInt8), .slice true (want.map strAV), .int .i64 z]), (b1, dObj b3 b2 s), (b2, mObj s.now), (b3, mObj s.kept)])
     refine hK1 _ _ ?_; clear hK1 K1
     refine awp_cond rfl rfl (fun h4 => ?_) (fun h4 => ?_)
     ·
      replace h4 : j < (l.length : Int) := (of_decide_eq_true h4)
      refine awp_skip ?_
      refine hK9 _ _ ?_; clear hK9
      refine awp_seq_k ?_; intro K10 hK10
      refine awp_block ?_
      rcases hI2.2.2.2.add (t := gI l j) (hal _ (gI_mem hI2.1 h4)) (by have := hal _ (gI_mem hI2.1 h4); omega) with ⟨a1, a2, a3, a4⟩ | ⟨a1, a2⟩
      ·
       skip
       refine awp_reg2_seq [] [0, 2, 3, 9, 10, 13, 15, 16] (by decide) ?_
       intro K1 hK1
       refine ⟨trivial, trivial, trivial, ?_⟩
       refine ar_index rfl strAV l j rfl rfl rfl rfl rfl (by decide) (fun _ => rfl) (by omega) (by omega) ?_
       refine ⟨(apartOk_one rfl rfl (Nat.le_of_ble_eq_true rfl)), ?_⟩
       refine u_AddE b4 b1 b3 b2 s LN want z (gI l j) (2 + 2 * j.toNat) _ (show (addR s LN want z (gI l j)) = ((addR s LN want z (gI l j)).1, 0, (want ++ [gI l j], z + (gI l j).length + 6)) from Prod.ext rfl (Prod.ext a1 (Prod.ext a3 a4))) (by have q := hNb4; simp at q ⊢; omega) hI2.2.2.2.inv (by omega) (by decide) (by omega) (by omega) (by omega) _ _ ?_
       show aopsR _ _ _ _ _ _ (AMem.wth m [(b4, .cells [.ptr ⟨b1, 0, none⟩, .str ([108, 111, 103] : List UInt8), .slice true ((want ++ [gI l j]).map strAV), .int .i64 (z + (gI l j).length + 6)]), (b1, dObj b3 b2 ((addR s LN want z (gI l j)).1)), (b2, mObj (((addR s LN want z (gI l j)).1).now)), (b3, mObj (((addR s LN want z (gI l j)).1).kept))])
       refine ⟨trivial, ?_⟩
       show K1 [(0, .slice false (l.map strAV)), (2, .int .i64 keep), (3, .int .i64 torn), (9, .ptr ⟨b1, 0, none⟩), (10, .ptr ⟨b4, 0, none⟩), (13, .slice true (want.map strAV)), (15, .int .i64 j), (16, .err 108 0)] (AMem.wth m [(b4, .cells [.ptr ⟨b1, 0, none⟩, .str ([108, 111, 103] : List UInt8), .slice true ((want ++ [gI l j]).map strAV), .int .i64 (z + (gI l j).length + 6)]), (b1, dObj b3 b2 ((addR s LN want z (gI l j)).1)), (b2, mObj (((addR s LN want z (gI l j)).1).now)), (b3, mObj (((addR s LN want z (gI l j)).1).kept))])
       refine hK1 _ _ ?_; clear hK1 K1
       refine awp_seq_k ?_; intro K11 hK11
       refine awp_reg2_seq [] [0, 2, 3, 9, 10, 13, 15, 16, 74] (by decide) ?_
       intro K1 hK1
       refine ⟨trivial, ⟨rfl, rfl⟩, ?_⟩
       show K1 [(0, .slice false (l.map strAV)), (2, .int .i64 keep), (3, .int .i64 torn), (9, .ptr ⟨b1, 0, none⟩), (10, .ptr ⟨b4, 0, none⟩), (13, .slice true (want.map strAV)), (15, .int .i64 j), (16, .err 108 0), (74, .bool true)] (AMem.wth m [(b4, .cells [.ptr ⟨b1, 0, none⟩, .str ([108, 111, 103] : List UInt8), .slice true ((want ++ [gI l j]).map strAV), .int .i64 (z + (gI l j).length + 6)]), (b1, dObj b3 b2 ((addR s LN want z (gI l j)).1)), (b2, mObj (((addR s LN want z (gI l j)).1).now)), (b3, mObj (((addR s LN want z (gI l j)).1).kept))])
       refine hK1 _ _ ?_; clear hK1 K1
       refine awp_cond rfl rfl (fun hcz => ?_) (fun hcz => ?_)
       rotate_left; · cases hcz
       clear hcz
       refine awp_reg2_seq [75] [0, 2, 3, 9, 10, 13, 15] (by decide) ?_
       intro K1 hK1
       refine ⟨trivial, trivial, trivial, ?_⟩
       refine ar_index rfl strAV l j rfl rfl rfl rfl rfl (by decide) (fun _ => rfl) (by omega) (by omega) ?_
       refine ⟨(apartOk_one rfl rfl (Nat.le_of_ble_eq_true rfl)), ⟨rfl, Nat.le_of_ble_eq_true rfl, rfl, Nat.le_of_ble_eq_true rfl, rfl, by simp only [List.forall_mem_cons]; exact ⟨⟨rfl, rfl⟩, fun _ h => by cases h⟩⟩, ?_⟩
       refine ar_append rfl strAV want ([gI l j] : List (List UInt8)) rfl rfl rfl rfl rfl rfl (Nat.le_of_ble_eq_true rfl) rfl (by (simp only [show Try.prog.bytesOf 9 = 16 from rfl, List.length_append, List.length_cons, List.length_nil]; omega)) (by (first | omega | (simp only [List.length_append, List.length_cons, List.length_nil]; omega))) (fun _ => ⟨rfl, rfl⟩) ?_
       refine ⟨trivial, ?_⟩
       show K1 [(0, .slice false (l.map strAV)), (2, .int .i64 keep), (3, .int .i64 torn), (9, .ptr ⟨b1, 0, none⟩), (10, .ptr ⟨b4, 0, none⟩), (13, .slice true ((want ++ ([gI l j] : List (List UInt8))).map strAV)), (15, .int .i64 j)] (AMem.wth m [(b4, .cells [.ptr ⟨b1, 0, none⟩, .str ([108, 111, 103] : List UInt8), .slice true ((want ++ [gI l j]).map strAV), .int .i64 (z + (gI l j).length + 6)]), (b1, dObj b3 b2 ((addR s LN want z (gI l j)).1)), (b2, mObj (((addR s LN want z (gI l j)).1).now)), (b3, mObj (((addR s LN want z (gI l j)).1).kept))])
       refine hK1 _ _ ?_; clear hK1 K1
       refine awp_reg2_seq [] [0, 2, 3, 9, 10, 13, 14, 15] (by decide) ?_
       intro K1 hK1
       refine ⟨trivial, trivial, ?_⟩
       show K1 [(0, .slice false (l.map strAV)), (2, .int .i64 keep), (3, .int .i64 torn), (9, .ptr ⟨b1, 0, none⟩), (10, .ptr ⟨b4, 0, none⟩), (13, .slice true ((want ++ ([gI l j] : List (List UInt8))).map strAV)), (14, .slice false ((want ++ ([gI l j] : List (List UInt8))).map strAV)), (15, .int .i64 j)] (AMem.wth m [(b4, .cells [.ptr ⟨b1, 0, none⟩, .str ([108, 111, 103] : List UInt8), .slice true ((want ++ [gI l j]).map strAV), .int .i64 (z + (gI l j).length + 6)]), (b1, dObj b3 b2 ((addR s LN want z (gI l j)).1)), (b2, mObj (((addR s LN want z (gI l j)).1).now)), (b3, mObj (((addR s LN want z (gI l j)).1).kept))])
       refine hK1 _ _ ?_; clear hK1 K1
       refine awp_exit ?_
       refine hK10 _ _ ?_; clear hK10
       refine awp_reg2 [] [0, 2, 3, 9, 10, 13, 14, 15] (by decide) ?_
       intro K1 hK1
       refine ⟨trivial, ?_⟩
       refine ar_add rfl (a := j) (b := 1) rfl rfl (by omega) (by omega) ?_
       refine ⟨trivial, ?_⟩
       show K1 [(0, .slice false (l.map strAV)), (2, .int .i64 keep), (3, .int .i64 torn), (9, .ptr ⟨b1, 0, none⟩), (10, .ptr ⟨b4, 0, none⟩), (13, .slice true ((want ++ ([gI l j] : List (List UInt8))).map strAV)), (14, .slice false ((want ++ ([gI l j] : List (List UInt8))).map strAV)), (15, .int .i64 (j + 1))] (AMem.wth m [(b4, .cells [.ptr ⟨b1, 0, none⟩, .str ([108, 111, 103] : List UInt8), .slice true ((want ++ [gI l j]).map strAV), .int .i64 (z + (gI l j).length + 6)]), (b1, dObj b3 b2 ((addR s LN want z (gI l j)).1)), (b2, mObj (((addR s LN want z (gI l j)).1).now)), (b3, mObj (((addR s LN want z (gI l j)).1).kept))])
       refine hK1 _ _ ?_; clear hK1 K1
       refine ⟨(want ++ ([gI l j] : List (List UInt8)), want ++ ([gI l j] : List (List UInt8)), j + 1, z + (gI l j).length + 6, (addR s LN want z (gI l j)).1), rfl, rfl, ?_, ?_⟩
       ·
        show 0 ≤ ((j + 1 : Int)) ∧ ((j + 1 : Int)) ≤ l.length ∧ (((want ++ ([gI l j] : List (List UInt8)) : (List (List UInt8)))).length : Int) = ((j + 1 : Int)) + 1 ∧ JL (((addR s LN want z (gI l j)).1 : DSt)) ((want ++ ([gI l j] : List (List UInt8)) : (List (List UInt8)))) ((z + (gI l j).length + 6 : Int)) (2 + 2 * ((j + 1 : Int)).toNat)
        exact ⟨by omega, by omega, by rw [List.length_append, List.length_singleton]; omega, by have k := a2; rw [a4] at k; exact (show JL _ _ _ _ from (by rw [show 2 + 2 * (j + 1).toNat = 2 + 2 * j.toNat + 2 from by omega]; exact k))⟩
       ·
        show l.length - ((j + 1 : Int)).toNat < l.length - j.toNat
        omega
      ·
       skip
       refine awp_reg2_seq [] [0, 2, 3, 9, 10, 13, 15, 16] (by decide) ?_
       intro K1 hK1
       refine ⟨trivial, trivial, trivial, ?_⟩
       refine ar_index rfl strAV l j rfl rfl rfl rfl rfl (by decide) (fun _ => rfl) (by omega) (by omega) ?_
       refine ⟨(apartOk_one rfl rfl (Nat.le_of_ble_eq_true rfl)), ?_⟩
       refine u_AddE b4 b1 b3 b2 s LN want z (gI l j) (2 + 2 * j.toNat) _ (show (addR s LN want z (gI l j)) = ((addR s LN want z (gI l j)).1, 10, (addR s LN want z (gI l j)).2.2) from Prod.ext rfl (Prod.ext a1 rfl)) (by have q := hNb4; simp at q ⊢; omega) hI2.2.2.2.inv (by omega) (by decide) (by omega) (by omega) (by omega) _ _ ?_
       show aopsR _ _ _ _ _ _ (AMem.wth m [(b4, .cells [.ptr ⟨b1, 0, none⟩, .str ([108, 111, 103] : List UInt8), .slice true (((addR s LN want z (gI l j)).2.2.1).map strAV), .int .i64 ((addR s LN want z (gI l j)).2.2.2)]), (b1, dObj b3 b2 ((addR s LN want z (gI l j)).1)), (b2, mObj (((addR s LN want z (gI l j)).1).now)), (b3, mObj (((addR s LN want z (gI l j)).1).kept))])
       refine ⟨trivial, ?_⟩
       show K1 [(0, .slice false (l.map strAV)), (2, .int .i64 keep), (3, .int .i64 torn), (9, .ptr ⟨b1, 0, none⟩), (10, .ptr ⟨b4, 0, none⟩), (13, .slice true (want.map strAV)), (15, .int .i64 j), (16, .err 108 10)] (AMem.wth m [(b4, .cells [.ptr ⟨b1, 0, none⟩, .str ([108, 111, 103] : List UInt8), .slice true (((addR s LN want z (gI l j)).2.2.1).map strAV), .int .i64 ((addR s LN want z (gI l j)).2.2.2)]), (b1, dObj b3 b2 ((addR s LN want z (gI l j)).1)), (b2, mObj (((addR s LN want z (gI l j)).1).now)), (b3, mObj (((addR s LN want z (gI l j)).1).kept))])
       refine hK1 _ _ ?_; clear hK1 K1
       refine awp_seq_k ?_; intro K12 hK12
       refine awp_reg2_seq [] [0, 2, 3, 9, 10, 13, 15, 16, 74] (by decide) ?_
       intro K1 hK1
       refine ⟨trivial, ⟨rfl, rfl⟩, ?_⟩
       show K1 [(0, .slice false (l.map strAV)), (2, .int .i64 keep), (3, .int .i64 torn), (9, .ptr ⟨b1, 0, none⟩), (10, .ptr ⟨b4, 0, none⟩), (13, .slice true (want.map strAV)), (15, .int .i64 j), (16, .err 108 10), (74, .bool false)] (AMem.wth m [(b4, .cells [.ptr ⟨b1, 0, none⟩, .str ([108, 111, 103] : List UInt8), .slice true (((addR s LN want z (gI l j)).2.2.1).map strAV), .int .i64 ((addR s LN want z (gI l j)).2.2.2)]), (b1, dObj b3 b2 ((addR s LN want z (gI l j)).1)), (b2, mObj (((addR s LN want z (gI l j)).1).now)), (b3, mObj (((addR s LN want z (gI l j)).1).kept))])
       refine hK1 _ _ ?_; clear hK1 K1
       refine awp_cond rfl rfl (fun hcz => ?_) (fun hcz => ?_)
       ·
        cases hcz
       clear hcz
       refine awp_skip ?_
       refine hK12 _ _ ?_; clear hK12
       refine awp_seq_k ?_; intro K13 hK13
       refine awp_reg2_seq [] [0, 2, 3, 9, 13, 15, 16, 85] (by decide) ?_
       intro K1 hK1
       refine ⟨trivial, ?_⟩
       refine u_number 10 _ _ ?_
       refine ⟨trivial, ?_⟩
       show K1 [(0, .slice false (l.map strAV)), (2, .int .i64 keep), (3, .int .i64 torn), (9, .ptr ⟨b1, 0, none⟩), (13, .slice true (want.map strAV)), (15, .int .i64 j), (16, .err 108 10), (85, .bool false)] (AMem.wth m [(b4, .cells [.ptr ⟨b1, 0, none⟩, .str ([108, 111, 103] : List UInt8), .slice true (((addR s LN want z (gI l j)).2.2.1).map strAV), .int .i64 ((addR s LN want z (gI l j)).2.2.2)]), (b1, dObj b3 b2 ((addR s LN want z (gI l j)).1)), (b2, mObj (((addR s LN want z (gI l j)).1).now)), (b3, mObj (((addR s LN want z (gI l j)).1).kept))])
       refine hK1 _ _ ?_; clear hK1 K1
       refine awp_cond rfl rfl (fun hcz => ?_) (fun hcz => ?_)
       ·
        cases hcz
       clear hcz
       refine awp_skip ?_
       refine hK13 _ _ ?_; clear hK13
       refine awp_anyA_seq Try.mixed [2, 3, 9, 13, 14] (by decide) ?_
       intro K1 hK1
       intro A hA
       suffices key : ∀ (_ : True), K1 [(2, .int .i64 keep), (3, .int .i64 torn), (9, .ptr ⟨b1, 0, none⟩), (13, .slice true (want.map strAV)), (14, .slice true ((want ++ ([gI l j] : List (List UInt8))).map strAV))] (AMem.wth m [(b4, .cells [.ptr ⟨b1, 0, none⟩, .str ([108, 111, 103] : List UInt8), .slice true (((addR s LN want z (gI l j)).2.2.1).map strAV), .int .i64 ((addR s LN want z (gI l j)).2.2.2)]), (b1, dObj b3 b2 ((addR s LN want z (gI l j)).1)), (b2, mObj (((addR s LN want z (gI l j)).1).now)), (b3, mObj (((addR s LN want z (gI l j)).1).kept))]) by
        have s0 : ∀ (_ : True), A 0 #[true, true, true, true, true, true, true, true, true] (fun fr m => K1 (fr.keep [2, 3, 9, 13, 14]) m) [(2, .int .i64 keep), (3, .int .i64 torn), (9, .ptr ⟨b1, 0, none⟩), (13, .slice true (want.map strAV)), (14, .slice true ((want ++ ([gI l j] : List (List UInt8))).map strAV))] (AMem.wth m [(b4, .cells [.ptr ⟨b1, 0, none⟩, .str ([108, 111, 103] : List UInt8), .slice true (((addR s LN want z (gI l j)).2.2.1).map strAV), .int .i64 ((addR s LN want z (gI l j)).2.2.2)]), (b1, dObj b3 b2 ((addR s LN want z (gI l j)).1)), (b2, mObj (((addR s LN want z (gI l j)).1).now)), (b3, mObj (((addR s LN want z (gI l j)).1).kept))]) := by
         intro _
         subst hA
         exact AAny.done (by decide +kernel) (key trivial)
        have s1 : ∀ (_ : True), A 1 #[true, true, true, true, true, true, true, true, false] (fun fr m => K1 (fr.keep [2, 3, 9, 13, 14]) m) [(2, .int .i64 keep), (3, .int .i64 torn), (9, .ptr ⟨b1, 0, none⟩), (13, .slice true (want.map strAV)), (96, .slice true ((want ++ ([gI l j] : List (List UInt8))).map strAV))] (AMem.wth m [(b4, .cells [.ptr ⟨b1, 0, none⟩, .str ([108, 111, 103] : List UInt8), .slice true (((addR s LN want z (gI l j)).2.2.1).map strAV), .int .i64 ((addR s LN want z (gI l j)).2.2.2)]), (b1, dObj b3 b2 ((addR s LN want z (gI l j)).1)), (b2, mObj (((addR s LN want z (gI l j)).1).now)), (b3, mObj (((addR s LN want z (gI l j)).1).kept))]) := by
         intro _
         subst hA
         refine AAny.step [] [8] (by decide +kernel) (by simp) (by decide) ⟨?_, trivial⟩
         ·
          show aopsR _ _ _ [_] _ _ _
          refine ⟨trivial, ?_⟩
          refine AAny.keep [2, 3, 9, 13, 14] (by decide) ?_
          exact s0 trivial
        have s2 : ∀ (_ : True), A 2 #[true, true, true, true, true, true, true, false, false] (fun fr m => K1 (fr.keep [2, 3, 9, 13, 14]) m) [(2, .int .i64 keep), (3, .int .i64 torn), (9, .ptr ⟨b1, 0, none⟩), (13, .slice true (want.map strAV)), (90, .slice true (want.map strAV)), (95, .slice true [.str (gI l j)])] (AMem.wth m [(b4, .cells [.ptr ⟨b1, 0, none⟩, .str ([108, 111, 103] : List UInt8), .slice true (((addR s LN want z (gI l j)).2.2.1).map strAV), .int .i64 ((addR s LN want z (gI l j)).2.2.2)]), (b1, dObj b3 b2 ((addR s LN want z (gI l j)).1)), (b2, mObj (((addR s LN want z (gI l j)).1).now)), (b3, mObj (((addR s LN want z (gI l j)).1).kept))]) := by
         intro _
         subst hA
         refine AAny.step [] [7] (by decide +kernel) (by simp) (by decide) ⟨?_, trivial⟩
         ·
          show aopsR _ _ _ [_] _ _ _
          refine ar_append rfl strAV want ([gI l j] : List (List UInt8)) rfl rfl rfl rfl rfl rfl (Nat.le_of_ble_eq_true rfl) rfl (by (simp only [show Try.prog.bytesOf 9 = 16 from rfl, List.length_append, List.length_cons, List.length_nil]; omega)) (by (first | omega | (simp only [List.length_append, List.length_cons, List.length_nil]; omega))) (fun _ => ⟨rfl, rfl⟩) ?_
          refine AAny.keep [2, 3, 9, 13, 96] (by decide) ?_
          exact s1 trivial
        have s3 : ∀ (_ : True), A 3 #[true, true, true, true, true, true, false, false, false] (fun fr m => K1 (fr.keep [2, 3, 9, 13, 14]) m) [(2, .int .i64 keep), (3, .int .i64 torn), (9, .ptr ⟨b1, 0, none⟩), (13, .slice true (want.map strAV)), (90, .slice true (want.map strAV)), (94, .str (gI l j))] (AMem.wth m [(b4, .cells [.ptr ⟨b1, 0, none⟩, .str ([108, 111, 103] : List UInt8), .slice true (((addR s LN want z (gI l j)).2.2.1).map strAV), .int .i64 ((addR s LN want z (gI l j)).2.2.2)]), (b1, dObj b3 b2 ((addR s LN want z (gI l j)).1)), (b2, mObj (((addR s LN want z (gI l j)).1).now)), (b3, mObj (((addR s LN want z (gI l j)).1).kept))]) := by
         intro _
         subst hA
         refine AAny.step [] [6] (by decide +kernel) (by simp) (by decide) ⟨?_, trivial⟩
         ·
          show aopsR _ _ _ [_] _ _ _
          refine ⟨⟨rfl, Nat.le_of_ble_eq_true rfl, rfl, Nat.le_of_ble_eq_true rfl, rfl, by simp only [List.forall_mem_cons]; exact ⟨⟨rfl, rfl⟩, fun _ h => by cases h⟩⟩, ?_⟩
          refine AAny.keep [2, 3, 9, 13, 90, 95] (by decide) ?_
          exact s2 trivial
        have s4 : ∀ (_ : True), A 3 #[true, false, true, true, true, true, true, false, false] (fun fr m => K1 (fr.keep [2, 3, 9, 13, 14]) m) [(2, .int .i64 keep), (3, .int .i64 torn), (9, .ptr ⟨b1, 0, none⟩), (13, .slice true (want.map strAV)), (89, .slice false (want.map strAV)), (95, .slice true [.str (gI l j)])] (AMem.wth m [(b4, .cells [.ptr ⟨b1, 0, none⟩, .str ([108, 111, 103] : List UInt8), .slice true (((addR s LN want z (gI l j)).2.2.1).map strAV), .int .i64 ((addR s LN want z (gI l j)).2.2.2)]), (b1, dObj b3 b2 ((addR s LN want z (gI l j)).1)), (b2, mObj (((addR s LN want z (gI l j)).1).now)), (b3, mObj (((addR s LN want z (gI l j)).1).kept))]) := by
         intro _
         subst hA
         refine AAny.step [] [1] (by decide +kernel) (by simp) (by decide) ⟨?_, trivial⟩
         ·
          show aopsR _ _ _ [_] _ _ _
          refine ar_append0 rfl strAV want rfl rfl rfl rfl (Nat.le_of_ble_eq_true rfl) rfl (by (simp only [show Try.prog.bytesOf 9 = 16 from rfl, List.length_append, List.length_cons, List.length_nil]; omega)) (fun _ => ⟨rfl, rfl⟩) ?_
          refine AAny.keep [2, 3, 9, 13, 90, 95] (by decide) ?_
          exact s2 trivial
        have s5 : ∀ (_ : True), A 4 #[true, true, true, true, true, false, false, false, false] (fun fr m => K1 (fr.keep [2, 3, 9, 13, 14]) m) [(2, .int .i64 keep), (3, .int .i64 torn), (9, .ptr ⟨b1, 0, none⟩), (13, .slice true (want.map strAV)), (90, .slice true (want.map strAV)), (93, .ref (AV.cells (.str (gI l j))))] (AMem.wth m [(b4, .cells [.ptr ⟨b1, 0, none⟩, .str ([108, 111, 103] : List UInt8), .slice true (((addR s LN want z (gI l j)).2.2.1).map strAV), .int .i64 ((addR s LN want z (gI l j)).2.2.2)]), (b1, dObj b3 b2 ((addR s LN want z (gI l j)).1)), (b2, mObj (((addR s LN want z (gI l j)).1).now)), (b3, mObj (((addR s LN want z (gI l j)).1).kept))]) := by
         intro _
         subst hA
         refine AAny.step [] [5] (by decide +kernel) (by simp) (by decide) ⟨?_, trivial⟩
         ·
          show aopsR _ _ _ [_] _ _ _
          refine ⟨(apartOk_one rfl rfl (Nat.le_of_ble_eq_true rfl)), ?_⟩
          refine AAny.keep [2, 3, 9, 13, 90, 94] (by decide) ?_
          exact s3 trivial
        have s6 : ∀ (_ : True), A 4 #[true, false, true, true, true, true, false, false, false] (fun fr m => K1 (fr.keep [2, 3, 9, 13, 14]) m) [(2, .int .i64 keep), (3, .int .i64 torn), (9, .ptr ⟨b1, 0, none⟩), (13, .slice true (want.map strAV)), (89, .slice false (want.map strAV)), (94, .str (gI l j))] (AMem.wth m [(b4, .cells [.ptr ⟨b1, 0, none⟩, .str ([108, 111, 103] : List UInt8), .slice true (((addR s LN want z (gI l j)).2.2.1).map strAV), .int .i64 ((addR s LN want z (gI l j)).2.2.2)]), (b1, dObj b3 b2 ((addR s LN want z (gI l j)).1)), (b2, mObj (((addR s LN want z (gI l j)).1).now)), (b3, mObj (((addR s LN want z (gI l j)).1).kept))]) := by
         intro _
         subst hA
         refine AAny.step [] [1, 6] (by decide +kernel) (by simp) (by decide) ⟨?_, ?_, trivial⟩
         ·
          show aopsR _ _ _ [_] _ _ _
          refine ar_append0 rfl strAV want rfl rfl rfl rfl (Nat.le_of_ble_eq_true rfl) rfl (by (simp only [show Try.prog.bytesOf 9 = 16 from rfl, List.length_append, List.length_cons, List.length_nil]; omega)) (fun _ => ⟨rfl, rfl⟩) ?_
          refine AAny.keep [2, 3, 9, 13, 90, 94] (by decide) ?_
          exact s3 trivial
         ·
          show aopsR _ _ _ [_] _ _ _
          refine ⟨⟨rfl, Nat.le_of_ble_eq_true rfl, rfl, Nat.le_of_ble_eq_true rfl, rfl, by simp only [List.forall_mem_cons]; exact ⟨⟨rfl, rfl⟩, fun _ h => by cases h⟩⟩, ?_⟩
          refine AAny.keep [2, 3, 9, 13, 89, 95] (by decide) ?_
          exact s4 trivial
        have s7 : ∀ (_ : True), A 4 #[false, false, true, true, true, true, true, false, false] (fun fr m => K1 (fr.keep [2, 3, 9, 13, 14]) m) [(2, .int .i64 keep), (3, .int .i64 torn), (9, .ptr ⟨b1, 0, none⟩), (13, .slice true (want.map strAV)), (95, .slice true [.str (gI l j)])] (AMem.wth m [(b4, .cells [.ptr ⟨b1, 0, none⟩, .str ([108, 111, 103] : List UInt8), .slice true (((addR s LN want z (gI l j)).2.2.1).map strAV), .int .i64 ((addR s LN want z (gI l j)).2.2.2)]), (b1, dObj b3 b2 ((addR s LN want z (gI l j)).1)), (b2, mObj (((addR s LN want z (gI l j)).1).now)), (b3, mObj (((addR s LN want z (gI l j)).1).kept))]) := by
         intro _
         subst hA
         refine AAny.step [] [0] (by decide +kernel) (by simp) (by decide) ⟨?_, trivial⟩
         ·
          show aopsR _ _ _ [_] _ _ _
          refine ⟨trivial, ?_⟩
          refine AAny.keep [2, 3, 9, 13, 89, 95] (by decide) ?_
          exact s4 trivial
        have s8 : ∀ (_ : True), A 5 #[true, true, true, true, false, false, false, false, false] (fun fr m => K1 (fr.keep [2, 3, 9, 13, 14]) m) [(2, .int .i64 keep), (3, .int .i64 torn), (9, .ptr ⟨b1, 0, none⟩), (13, .slice true (want.map strAV)), (90, .slice true (want.map strAV)), (91, .slice false (l.map strAV)), (92, .int .i64 j)] (AMem.wth m [(b4, .cells [.ptr ⟨b1, 0, none⟩, .str ([108, 111, 103] : List UInt8), .slice true (((addR s LN want z (gI l j)).2.2.1).map strAV), .int .i64 ((addR s LN want z (gI l j)).2.2.2)]), (b1, dObj b3 b2 ((addR s LN want z (gI l j)).1)), (b2, mObj (((addR s LN want z (gI l j)).1).now)), (b3, mObj (((addR s LN want z (gI l j)).1).kept))]) := by
         intro _
         subst hA
         refine AAny.step [] [4] (by decide +kernel) (by simp) (by decide) ⟨?_, trivial⟩
         ·
          show aopsR _ _ _ [_] _ _ _
          refine ar_index rfl strAV l j rfl rfl rfl rfl rfl (by decide) (fun _ => rfl) (by omega) (by omega) ?_
          refine AAny.keep [2, 3, 9, 13, 90, 93] (by decide) ?_
          exact s5 trivial
        have s9 : ∀ (_ : True), A 5 #[true, false, true, true, true, false, false, false, false] (fun fr m => K1 (fr.keep [2, 3, 9, 13, 14]) m) [(2, .int .i64 keep), (3, .int .i64 torn), (9, .ptr ⟨b1, 0, none⟩), (13, .slice true (want.map strAV)), (89, .slice false (want.map strAV)), (93, .ref (AV.cells (.str (gI l j))))] (AMem.wth m [(b4, .cells [.ptr ⟨b1, 0, none⟩, .str ([108, 111, 103] : List UInt8), .slice true (((addR s LN want z (gI l j)).2.2.1).map strAV), .int .i64 ((addR s LN want z (gI l j)).2.2.2)]), (b1, dObj b3 b2 ((addR s LN want z (gI l j)).1)), (b2, mObj (((addR s LN want z (gI l j)).1).now)), (b3, mObj (((addR s LN want z (gI l j)).1).kept))]) := by
         intro _
         subst hA
         refine AAny.step [] [1, 5] (by decide +kernel) (by simp) (by decide) ⟨?_, ?_, trivial⟩
         ·
          show aopsR _ _ _ [_] _ _ _
          refine ar_append0 rfl strAV want rfl rfl rfl rfl (Nat.le_of_ble_eq_true rfl) rfl (by (simp only [show Try.prog.bytesOf 9 = 16 from rfl, List.length_append, List.length_cons, List.length_nil]; omega)) (fun _ => ⟨rfl, rfl⟩) ?_
          refine AAny.keep [2, 3, 9, 13, 90, 93] (by decide) ?_
          exact s5 trivial
         ·
          show aopsR _ _ _ [_] _ _ _
          refine ⟨(apartOk_one rfl rfl (Nat.le_of_ble_eq_true rfl)), ?_⟩
          refine AAny.keep [2, 3, 9, 13, 89, 94] (by decide) ?_
          exact s6 trivial
        have s10 : ∀ (_ : True), A 5 #[false, false, true, true, true, true, false, false, false] (fun fr m => K1 (fr.keep [2, 3, 9, 13, 14]) m) [(2, .int .i64 keep), (3, .int .i64 torn), (9, .ptr ⟨b1, 0, none⟩), (13, .slice true (want.map strAV)), (94, .str (gI l j))] (AMem.wth m [(b4, .cells [.ptr ⟨b1, 0, none⟩, .str ([108, 111, 103] : List UInt8), .slice true (((addR s LN want z (gI l j)).2.2.1).map strAV), .int .i64 ((addR s LN want z (gI l j)).2.2.2)]), (b1, dObj b3 b2 ((addR s LN want z (gI l j)).1)), (b2, mObj (((addR s LN want z (gI l j)).1).now)), (b3, mObj (((addR s LN want z (gI l j)).1).kept))]) := by
         intro _
         subst hA
         refine AAny.step [] [0, 6] (by decide +kernel) (by simp) (by decide) ⟨?_, ?_, trivial⟩
         ·
          show aopsR _ _ _ [_] _ _ _
          refine ⟨trivial, ?_⟩
          refine AAny.keep [2, 3, 9, 13, 89, 94] (by decide) ?_
          exact s6 trivial
         ·
          show aopsR _ _ _ [_] _ _ _
          refine ⟨⟨rfl, Nat.le_of_ble_eq_true rfl, rfl, Nat.le_of_ble_eq_true rfl, rfl, by simp only [List.forall_mem_cons]; exact ⟨⟨rfl, rfl⟩, fun _ h => by cases h⟩⟩, ?_⟩
          refine AAny.keep [2, 3, 9, 13, 95] (by decide) ?_
          exact s7 trivial
        have s11 : ∀ (_ : True), A 6 #[true, true, true, false, false, false, false, false, false] (fun fr m => K1 (fr.keep [2, 3, 9, 13, 14]) m) [(2, .int .i64 keep), (3, .int .i64 torn), (9, .ptr ⟨b1, 0, none⟩), (13, .slice true (want.map strAV)), (15, .int .i64 j), (90, .slice true (want.map strAV)), (91, .slice false (l.map strAV))] (AMem.wth m [(b4, .cells [.ptr ⟨b1, 0, none⟩, .str ([108, 111, 103] : List UInt8), .slice true (((addR s LN want z (gI l j)).2.2.1).map strAV), .int .i64 ((addR s LN want z (gI l j)).2.2.2)]), (b1, dObj b3 b2 ((addR s LN want z (gI l j)).1)), (b2, mObj (((addR s LN want z (gI l j)).1).now)), (b3, mObj (((addR s LN want z (gI l j)).1).kept))]) := by
         intro _
         subst hA
         refine AAny.step [] [3] (by decide +kernel) (by simp) (by decide) ⟨?_, trivial⟩
         ·
          show aopsR _ _ _ [_] _ _ _
          refine ⟨trivial, ?_⟩
          refine AAny.keep [2, 3, 9, 13, 90, 91, 92] (by decide) ?_
          exact s8 trivial
        have s12 : ∀ (_ : True), A 6 #[true, true, false, true, false, false, false, false, false] (fun fr m => K1 (fr.keep [2, 3, 9, 13, 14]) m) [(0, .slice false (l.map strAV)), (2, .int .i64 keep), (3, .int .i64 torn), (9, .ptr ⟨b1, 0, none⟩), (13, .slice true (want.map strAV)), (90, .slice true (want.map strAV)), (92, .int .i64 j)] (AMem.wth m [(b4, .cells [.ptr ⟨b1, 0, none⟩, .str ([108, 111, 103] : List UInt8), .slice true (((addR s LN want z (gI l j)).2.2.1).map strAV), .int .i64 ((addR s LN want z (gI l j)).2.2.2)]), (b1, dObj b3 b2 ((addR s LN want z (gI l j)).1)), (b2, mObj (((addR s LN want z (gI l j)).1).now)), (b3, mObj (((addR s LN want z (gI l j)).1).kept))]) := by
         intro _
         subst hA
         refine AAny.step [] [2] (by decide +kernel) (by simp) (by decide) ⟨?_, trivial⟩
         ·
          show aopsR _ _ _ [_] _ _ _
          refine ⟨trivial, ?_⟩
          refine AAny.keep [2, 3, 9, 13, 90, 91, 92] (by decide) ?_
          exact s8 trivial
        have s13 : ∀ (_ : True), A 6 #[true, false, true, true, false, false, false, false, false] (fun fr m => K1 (fr.keep [2, 3, 9, 13, 14]) m) [(2, .int .i64 keep), (3, .int .i64 torn), (9, .ptr ⟨b1, 0, none⟩), (13, .slice true (want.map strAV)), (89, .slice false (want.map strAV)), (91, .slice false (l.map strAV)), (92, .int .i64 j)] (AMem.wth m [(b4, .cells [.ptr ⟨b1, 0, none⟩, .str ([108, 111, 103] : List UInt8), .slice true (((addR s LN want z (gI l j)).2.2.1).map strAV), .int .i64 ((addR s LN want z (gI l j)).2.2.2)]), (b1, dObj b3 b2 ((addR s LN want z (gI l j)).1)), (b2, mObj (((addR s LN want z (gI l j)).1).now)), (b3, mObj (((addR s LN want z (gI l j)).1).kept))]) := by
         intro _
         subst hA
         refine AAny.step [] [1, 4] (by decide +kernel) (by simp) (by decide) ⟨?_, ?_, trivial⟩
         ·
          show aopsR _ _ _ [_] _ _ _
          refine ar_append0 rfl strAV want rfl rfl rfl rfl (Nat.le_of_ble_eq_true rfl) rfl (by (simp only [show Try.prog.bytesOf 9 = 16 from rfl, List.length_append, List.length_cons, List.length_nil]; omega)) (fun _ => ⟨rfl, rfl⟩) ?_
          refine AAny.keep [2, 3, 9, 13, 90, 91, 92] (by decide) ?_
          exact s8 trivial
         ·
          show aopsR _ _ _ [_] _ _ _
          refine ar_index rfl strAV l j rfl rfl rfl rfl rfl (by decide) (fun _ => rfl) (by omega) (by omega) ?_
          refine AAny.keep [2, 3, 9, 13, 89, 93] (by decide) ?_
          exact s9 trivial
        have s14 : ∀ (_ : True), A 6 #[false, false, true, true, true, false, false, false, false] (fun fr m => K1 (fr.keep [2, 3, 9, 13, 14]) m) [(2, .int .i64 keep), (3, .int .i64 torn), (9, .ptr ⟨b1, 0, none⟩), (13, .slice true (want.map strAV)), (93, .ref (AV.cells (.str (gI l j))))] (AMem.wth m [(b4, .cells [.ptr ⟨b1, 0, none⟩, .str ([108, 111, 103] : List UInt8), .slice true (((addR s LN want z (gI l j)).2.2.1).map strAV), .int .i64 ((addR s LN want z (gI l j)).2.2.2)]), (b1, dObj b3 b2 ((addR s LN want z (gI l j)).1)), (b2, mObj (((addR s LN want z (gI l j)).1).now)), (b3, mObj (((addR s LN want z (gI l j)).1).kept))]) := by
         intro _
         subst hA
         refine AAny.step [] [0, 5] (by decide +kernel) (by simp) (by decide) ⟨?_, ?_, trivial⟩
         ·
          show aopsR _ _ _ [_] _ _ _
          refine ⟨trivial, ?_⟩
          refine AAny.keep [2, 3, 9, 13, 89, 93] (by decide) ?_
          exact s9 trivial
         ·
          show aopsR _ _ _ [_] _ _ _
          refine ⟨(apartOk_one rfl rfl (Nat.le_of_ble_eq_true rfl)), ?_⟩
          refine AAny.keep [2, 3, 9, 13, 94] (by decide) ?_
          exact s10 trivial
        have s15 : ∀ (_ : True), A 7 #[true, true, false, false, false, false, false, false, false] (fun fr m => K1 (fr.keep [2, 3, 9, 13, 14]) m) [(0, .slice false (l.map strAV)), (2, .int .i64 keep), (3, .int .i64 torn), (9, .ptr ⟨b1, 0, none⟩), (13, .slice true (want.map strAV)), (15, .int .i64 j), (90, .slice true (want.map strAV))] (AMem.wth m [(b4, .cells [.ptr ⟨b1, 0, none⟩, .str ([108, 111, 103] : List UInt8), .slice true (((addR s LN want z (gI l j)).2.2.1).map strAV), .int .i64 ((addR s LN want z (gI l j)).2.2.2)]), (b1, dObj b3 b2 ((addR s LN want z (gI l j)).1)), (b2, mObj (((addR s LN want z (gI l j)).1).now)), (b3, mObj (((addR s LN want z (gI l j)).1).kept))]) := by
         intro _
         subst hA
         refine AAny.step [] [2, 3] (by decide +kernel) (by simp) (by decide) ⟨?_, ?_, trivial⟩
         ·
          show aopsR _ _ _ [_] _ _ _
          refine ⟨trivial, ?_⟩
          refine AAny.keep [2, 3, 9, 13, 15, 90, 91] (by decide) ?_
          exact s11 trivial
         ·
          show aopsR _ _ _ [_] _ _ _
          refine ⟨trivial, ?_⟩
          refine AAny.keep [0, 2, 3, 9, 13, 90, 92] (by decide) ?_
          exact s12 trivial
        have s16 : ∀ (_ : True), A 7 #[true, false, true, false, false, false, false, false, false] (fun fr m => K1 (fr.keep [2, 3, 9, 13, 14]) m) [(2, .int .i64 keep), (3, .int .i64 torn), (9, .ptr ⟨b1, 0, none⟩), (13, .slice true (want.map strAV)), (15, .int .i64 j), (89, .slice false (want.map strAV)), (91, .slice false (l.map strAV))] (AMem.wth m [(b4, .cells [.ptr ⟨b1, 0, none⟩, .str ([108, 111, 103] : List UInt8), .slice true (((addR s LN want z (gI l j)).2.2.1).map strAV), .int .i64 ((addR s LN want z (gI l j)).2.2.2)]), (b1, dObj b3 b2 ((addR s LN want z (gI l j)).1)), (b2, mObj (((addR s LN want z (gI l j)).1).now)), (b3, mObj (((addR s LN want z (gI l j)).1).kept))]) := by
         intro _
         subst hA
         refine AAny.step [] [1, 3] (by decide +kernel) (by simp) (by decide) ⟨?_, ?_, trivial⟩
         ·
          show aopsR _ _ _ [_] _ _ _
          refine ar_append0 rfl strAV want rfl rfl rfl rfl (Nat.le_of_ble_eq_true rfl) rfl (by (simp only [show Try.prog.bytesOf 9 = 16 from rfl, List.length_append, List.length_cons, List.length_nil]; omega)) (fun _ => ⟨rfl, rfl⟩) ?_
          refine AAny.keep [2, 3, 9, 13, 15, 90, 91] (by decide) ?_
          exact s11 trivial
         ·
          show aopsR _ _ _ [_] _ _ _
          refine ⟨trivial, ?_⟩
          refine AAny.keep [2, 3, 9, 13, 89, 91, 92] (by decide) ?_
          exact s13 trivial
        have s17 : ∀ (_ : True), A 7 #[true, false, false, true, false, false, false, false, false] (fun fr m => K1 (fr.keep [2, 3, 9, 13, 14]) m) [(0, .slice false (l.map strAV)), (2, .int .i64 keep), (3, .int .i64 torn), (9, .ptr ⟨b1, 0, none⟩), (13, .slice true (want.map strAV)), (89, .slice false (want.map strAV)), (92, .int .i64 j)] (AMem.wth m [(b4, .cells [.ptr ⟨b1, 0, none⟩, .str ([108, 111, 103] : List UInt8), .slice true (((addR s LN want z (gI l j)).2.2.1).map strAV), .int .i64 ((addR s LN want z (gI l j)).2.2.2)]), (b1, dObj b3 b2 ((addR s LN want z (gI l j)).1)), (b2, mObj (((addR s LN want z (gI l j)).1).now)), (b3, mObj (((addR s LN want z (gI l j)).1).kept))]) := by
         intro _
         subst hA
         refine AAny.step [] [1, 2] (by decide +kernel) (by simp) (by decide) ⟨?_, ?_, trivial⟩
         ·
          show aopsR _ _ _ [_] _ _ _
          refine ar_append0 rfl strAV want rfl rfl rfl rfl (Nat.le_of_ble_eq_true rfl) rfl (by (simp only [show Try.prog.bytesOf 9 = 16 from rfl, List.length_append, List.length_cons, List.length_nil]; omega)) (fun _ => ⟨rfl, rfl⟩) ?_
          refine AAny.keep [0, 2, 3, 9, 13, 90, 92] (by decide) ?_
          exact s12 trivial
         ·
          show aopsR _ _ _ [_] _ _ _
          refine ⟨trivial, ?_⟩
          refine AAny.keep [2, 3, 9, 13, 89, 91, 92] (by decide) ?_
          exact s13 trivial
        have s18 : ∀ (_ : True), A 7 #[false, false, true, true, false, false, false, false, false] (fun fr m => K1 (fr.keep [2, 3, 9, 13, 14]) m) [(2, .int .i64 keep), (3, .int .i64 torn), (9, .ptr ⟨b1, 0, none⟩), (13, .slice true (want.map strAV)), (91, .slice false (l.map strAV)), (92, .int .i64 j)] (AMem.wth m [(b4, .cells [.ptr ⟨b1, 0, none⟩, .str ([108, 111, 103] : List UInt8), .slice true (((addR s LN want z (gI l j)).2.2.1).map strAV), .int .i64 ((addR s LN want z (gI l j)).2.2.2)]), (b1, dObj b3 b2 ((addR s LN want z (gI l j)).1)), (b2, mObj (((addR s LN want z (gI l j)).1).now)), (b3, mObj (((addR s LN want z (gI l j)).1).kept))]) := by
         intro _
         subst hA
         refine AAny.step [] [0, 4] (by decide +kernel) (by simp) (by decide) ⟨?_, ?_, trivial⟩
         ·
          show aopsR _ _ _ [_] _ _ _
          refine ⟨trivial, ?_⟩
          refine AAny.keep [2, 3, 9, 13, 89, 91, 92] (by decide) ?_
          exact s13 trivial
         ·
          show aopsR _ _ _ [_] _ _ _
          refine ar_index rfl strAV l j rfl rfl rfl rfl rfl (by decide) (fun _ => rfl) (by omega) (by omega) ?_
          refine AAny.keep [2, 3, 9, 13, 93] (by decide) ?_
          exact s14 trivial
        have s19 : ∀ (_ : True), A 8 #[true, false, false, false, false, false, false, false, false] (fun fr m => K1 (fr.keep [2, 3, 9, 13, 14]) m) [(0, .slice false (l.map strAV)), (2, .int .i64 keep), (3, .int .i64 torn), (9, .ptr ⟨b1, 0, none⟩), (13, .slice true (want.map strAV)), (15, .int .i64 j), (89, .slice false (want.map strAV))] (AMem.wth m [(b4, .cells [.ptr ⟨b1, 0, none⟩, .str ([108, 111, 103] : List UInt8), .slice true (((addR s LN want z (gI l j)).2.2.1).map strAV), .int .i64 ((addR s LN want z (gI l j)).2.2.2)]), (b1, dObj b3 b2 ((addR s LN want z (gI l j)).1)), (b2, mObj (((addR s LN want z (gI l j)).1).now)), (b3, mObj (((addR s LN want z (gI l j)).1).kept))]) := by
         intro _
         subst hA
         refine AAny.step [] [1, 2, 3] (by decide +kernel) (by simp) (by decide) ⟨?_, ?_, ?_, trivial⟩
         ·
          show aopsR _ _ _ [_] _ _ _
          refine ar_append0 rfl strAV want rfl rfl rfl rfl (Nat.le_of_ble_eq_true rfl) rfl (by (simp only [show Try.prog.bytesOf 9 = 16 from rfl, List.length_append, List.length_cons, List.length_nil]; omega)) (fun _ => ⟨rfl, rfl⟩) ?_
          refine AAny.keep [0, 2, 3, 9, 13, 15, 90] (by decide) ?_
          exact s15 trivial
         ·
          show aopsR _ _ _ [_] _ _ _
          refine ⟨trivial, ?_⟩
          refine AAny.keep [2, 3, 9, 13, 15, 89, 91] (by decide) ?_
          exact s16 trivial
         ·
          show aopsR _ _ _ [_] _ _ _
          refine ⟨trivial, ?_⟩
          refine AAny.keep [0, 2, 3, 9, 13, 89, 92] (by decide) ?_
          exact s17 trivial
        have s20 : ∀ (_ : True), A 8 #[false, false, true, false, false, false, false, false, false] (fun fr m => K1 (fr.keep [2, 3, 9, 13, 14]) m) [(2, .int .i64 keep), (3, .int .i64 torn), (9, .ptr ⟨b1, 0, none⟩), (13, .slice true (want.map strAV)), (15, .int .i64 j), (91, .slice false (l.map strAV))] (AMem.wth m [(b4, .cells [.ptr ⟨b1, 0, none⟩, .str ([108, 111, 103] : List UInt8), .slice true (((addR s LN want z (gI l j)).2.2.1).map strAV), .int .i64 ((addR s LN want z (gI l j)).2.2.2)]), (b1, dObj b3 b2 ((addR s LN want z (gI l j)).1)), (b2, mObj (((addR s LN want z (gI l j)).1).now)), (b3, mObj (((addR s LN want z (gI l j)).1).kept))]) := by
         intro _
         subst hA
         refine AAny.step [] [0, 3] (by decide +kernel) (by simp) (by decide) ⟨?_, ?_, trivial⟩
         ·
          show aopsR _ _ _ [_] _ _ _
          refine ⟨trivial, ?_⟩
          refine AAny.keep [2, 3, 9, 13, 15, 89, 91] (by decide) ?_
          exact s16 trivial
         ·
          show aopsR _ _ _ [_] _ _ _
          refine ⟨trivial, ?_⟩
          refine AAny.keep [2, 3, 9, 13, 91, 92] (by decide) ?_
          exact s18 trivial
        have s21 : ∀ (_ : True), A 8 #[false, false, false, true, false, false, false, false, false] (fun fr m => K1 (fr.keep [2, 3, 9, 13, 14]) m) [(0, .slice false (l.map strAV)), (2, .int .i64 keep), (3, .int .i64 torn), (9, .ptr ⟨b1, 0, none⟩), (13, .slice true (want.map strAV)), (92, .int .i64 j)] (AMem.wth m [(b4, .cells [.ptr ⟨b1, 0, none⟩, .str ([108, 111, 103] : List UInt8), .slice true (((addR s LN want z (gI l j)).2.2.1).map strAV), .int .i64 ((addR s LN want z (gI l j)).2.2.2)]), (b1, dObj b3 b2 ((addR s LN want z (gI l j)).1)), (b2, mObj (((addR s LN want z (gI l j)).1).now)), (b3, mObj (((addR s LN want z (gI l j)).1).kept))]) := by
         intro _
         subst hA
         refine AAny.step [] [0, 2] (by decide +kernel) (by simp) (by decide) ⟨?_, ?_, trivial⟩
         ·
          show aopsR _ _ _ [_] _ _ _
          refine ⟨trivial, ?_⟩
          refine AAny.keep [0, 2, 3, 9, 13, 89, 92] (by decide) ?_
          exact s17 trivial
         ·
          show aopsR _ _ _ [_] _ _ _
          refine ⟨trivial, ?_⟩
          refine AAny.keep [2, 3, 9, 13, 91, 92] (by decide) ?_
          exact s18 trivial
        have s22 : ∀ (_ : True), A 9 #[false, false, false, false, false, false, false, false, false] (fun fr m => K1 (fr.keep [2, 3, 9, 13, 14]) m) [(0, .slice false (l.map strAV)), (2, .int .i64 keep), (3, .int .i64 torn), (9, .ptr ⟨b1, 0, none⟩), (13, .slice true (want.map strAV)), (15, .int .i64 j), (16, .err 108 10), (85, .bool false)] (AMem.wth m [(b4, .cells [.ptr ⟨b1, 0, none⟩, .str ([108, 111, 103] : List UInt8), .slice true (((addR s LN want z (gI l j)).2.2.1).map strAV), .int .i64 ((addR s LN want z (gI l j)).2.2.2)]), (b1, dObj b3 b2 ((addR s LN want z (gI l j)).1)), (b2, mObj (((addR s LN want z (gI l j)).1).now)), (b3, mObj (((addR s LN want z (gI l j)).1).kept))]) := by
         intro _
         subst hA
         refine AAny.step [] [0, 2, 3] (by decide +kernel) (by simp) (by decide) ⟨?_, ?_, ?_, trivial⟩
         ·
          show aopsR _ _ _ [_] _ _ _
          refine ⟨trivial, ?_⟩
          refine AAny.keep [0, 2, 3, 9, 13, 15, 89] (by decide) ?_
          exact s19 trivial
         ·
          show aopsR _ _ _ [_] _ _ _
          refine ⟨trivial, ?_⟩
          refine AAny.keep [2, 3, 9, 13, 15, 91] (by decide) ?_
          exact s20 trivial
         ·
          show aopsR _ _ _ [_] _ _ _
          refine ⟨trivial, ?_⟩
          refine AAny.keep [0, 2, 3, 9, 13, 92] (by decide) ?_
          exact s21 trivial
        exact s22 trivial
       intro _
       refine hK1 _ _ ?_; clear hK1 K1
       have hfell := a2
       show AWP _ _ _ _ [(2, .int .i64 keep), (3, .int .i64 torn), (9, .ptr ⟨b1, 0, none⟩), (13, .slice true (want.map strAV)), (14, .slice true ((want ++ ([gI l j] : List (List UInt8))).map strAV))] (AMem.wth m [(b4, .cells [.ptr ⟨b1, 0, none⟩, .str ([108, 111, 103] : List UInt8), .slice true (((addR s LN want z (gI l j)).2.2.1).map strAV), .int .i64 ((addR s LN want z (gI l j)).2.2.2)]), (b1, dObj b3 b2 ((addR s LN want z (gI l j)).1)), (b2, mObj (((addR s LN want z (gI l j)).1).now)), (b3, mObj (((addR s LN want z (gI l j)).1).kept))])
       refine awp_exit ?_
       refine hK8 _ _ ?_; clear hK8
       refine awp_reg2_seq [] [9, 13, 14] (by decide) ?_
       intro K1 hK1
       refine ⟨trivial, trivial, trivial, ?_⟩
       refine ar_mem (wth_split hNb4 (pick_perm [1, 2] _)) ?_
       refine u_RestartE b1 b3 b2 ((addR s LN want z (gI l j)).1) keep torn _ (by have q := hNb4; simp at q ⊢; omega) hfell.inv (by omega) hfell.nd _ _ ?_
       intro b5 hqb5 hb5 nw1 hp1
       have hwb5 := wth_new1 (m := m) (L := [(b4, .cells [.ptr ⟨b1, 0, none⟩, .str ([108, 111, 103] : List UInt8), .slice true (((addR s LN want z (gI l j)).2.2.1).map strAV), .int .i64 ((addR s LN want z (gI l j)).2.2.2)]), (b1, dObj b3 b2 ((addR s LN want z (gI l j)).1)), (b2, mObj (((addR s LN want z (gI l j)).1).now)), (b3, mObj (((addR s LN want z (gI l j)).1).kept))]) (x := b5) hNb4 (pick_perm [1, 2] _) hqb5 hb5
       have hNb5 : ([b5, b4, b1, b2, b3] : List Nat).Nodup := hwb5.1
       have hFb5 : m b5 = none := hwb5.2
       show aopsR _ _ _ _ _ _ (AMem.wth (AMem.wth m [(b4, .cells [.ptr ⟨b1, 0, none⟩, .str ([108, 111, 103] : List UInt8), .slice true (((addR s LN want z (gI l j)).2.2.1).map strAV), .int .i64 ((addR s LN want z (gI l j)).2.2.2)]), (b2, mObj (((addR s LN want z (gI l j)).1).now))]) [(b5, mObj ((restS ((addR s LN want z (gI l j)).1) keep torn nw1).now)), (b1, dObj b3 b5 (restS ((addR s LN want z (gI l j)).1) keep torn nw1)), (b3, mObj ((restS ((addR s LN want z (gI l j)).1) keep torn nw1).kept))])
       refine ar_mem (wth_split (m := m) (L := [(b5, mObj ((restS ((addR s LN want z (gI l j)).1) keep torn nw1).now)), (b4, .cells [.ptr ⟨b1, 0, none⟩, .str ([108, 111, 103] : List UInt8), .slice true (((addR s LN want z (gI l j)).2.2.1).map strAV), .int .i64 ((addR s LN want z (gI l j)).2.2.2)]), (b1, dObj b3 b5 (restS ((addR s LN want z (gI l j)).1) keep torn nw1)), (b2, mObj (((addR s LN want z (gI l j)).1).now)), (b3, mObj ((restS ((addR s LN want z (gI l j)).1) keep torn nw1).kept))]) hNb5 (pick_perm [0, 1, 2] _)).symm ?_
       show K1 [(9, .ptr ⟨b1, 0, none⟩), (13, .slice true (want.map strAV)), (14, .slice true ((want ++ ([gI l j] : List (List UInt8))).map strAV))] (AMem.wth m [(b5, mObj ((restS ((addR s LN want z (gI l j)).1) keep torn nw1).now)), (b4, .cells [.ptr ⟨b1, 0, none⟩, .str ([108, 111, 103] : List UInt8), .slice true (((addR s LN want z (gI l j)).2.2.1).map strAV), .int .i64 ((addR s LN want z (gI l j)).2.2.2)]), (b1, dObj b3 b5 (restS ((addR s LN want z (gI l j)).1) keep torn nw1)), (b2, mObj (((addR s LN want z (gI l j)).1).now)), (b3, mObj ((restS ((addR s LN want z (gI l j)).1) keep torn nw1).kept))])
       refine hK1 _ _ ?_; clear hK1 K1
       obtain ⟨a, hmg, hgot, hal2, hok, hdv⟩ := hfell.rest hp1
       have hog := openG hok ln_ok hmg hal2 hdv
       have hog2 := openG2 hog.2.1 ln_ok hog.2.2
       show AWP _ _ _ _ [(9, .ptr ⟨b1, 0, none⟩), (13, .slice true (want.map strAV)), (14, .slice true ((want ++ ([gI l j] : List (List UInt8))).map strAV))] (AMem.wth m [(b5, mObj ((restS ((addR s LN want z (gI l j)).1) keep torn nw1).now)), (b4, .cells [.ptr ⟨b1, 0, none⟩, .str ([108, 111, 103] : List UInt8), .slice true (((addR s LN want z (gI l j)).2.2.1).map strAV), .int .i64 ((addR s LN want z (gI l j)).2.2.2)]), (b1, dObj b3 b5 (restS ((addR s LN want z (gI l j)).1) keep torn nw1)), (b2, mObj (((addR s LN want z (gI l j)).1).now)), (b3, mObj ((restS ((addR s LN want z (gI l j)).1) keep torn nw1).kept))])
       refine awp_reg2_seq [] [9, 11, 13, 14, 17] (by decide) ?_
       intro K1 hK1
       refine ⟨trivial, ?_⟩
       refine ar_mem (wth_split hNb5 (pick_perm [2, 0, 2] _)) ?_
       refine u_OpenE b1 b3 b5 (restS ((addR s LN want z (gI l j)).1) keep torn nw1) LN _ _ hog.1 rfl (by have q := hNb5; simp at q ⊢; omega) hdv (by omega) (by decide) _ _ ?_
       intro b6 hqb6 hb6
       have hwb6 := wth_new1 (m := m) (L := [(b5, mObj ((restS ((addR s LN want z (gI l j)).1) keep torn nw1).now)), (b4, .cells [.ptr ⟨b1, 0, none⟩, .str ([108, 111, 103] : List UInt8), .slice true (((addR s LN want z (gI l j)).2.2.1).map strAV), .int .i64 ((addR s LN want z (gI l j)).2.2.2)]), (b1, dObj b3 b5 (restS ((addR s LN want z (gI l j)).1) keep torn nw1)), (b2, mObj (((addR s LN want z (gI l j)).1).now)), (b3, mObj ((restS ((addR s LN want z (gI l j)).1) keep torn nw1).kept))]) (x := b6) hNb5 (pick_perm [2, 0, 2] _) hqb6 hb6
       have hNb6 : ([b6, b5, b4, b1, b2, b3] : List Nat).Nodup := hwb6.1
       have hFb6 : m b6 = none := hwb6.2
       show aopsR _ _ _ _ _ _ (AMem.wth (AMem.wth m [(b4, .cells [.ptr ⟨b1, 0, none⟩, .str ([108, 111, 103] : List UInt8), .slice true (((addR s LN want z (gI l j)).2.2.1).map strAV), .int .i64 ((addR s LN want z (gI l j)).2.2.2)]), (b2, mObj (((addR s LN want z (gI l j)).1).now))]) [(b6, .cells [.ptr ⟨b1, 0, none⟩, .str ([108, 111, 103] : List UInt8), .slice true (((splitR a).1).map strAV), .int .i64 ((splitR a).2)]), (b1, dObj b3 b5 ((openR (restS ((addR s LN want z (gI l j)).1) keep torn nw1) LN).1)), (b5, mObj (((openR (restS ((addR s LN want z (gI l j)).1) keep torn nw1) LN).1).now)), (b3, mObj (((openR (restS ((addR s LN want z (gI l j)).1) keep torn nw1) LN).1).kept))])
       refine ar_mem (wth_split (m := m) (L := [(b6, .cells [.ptr ⟨b1, 0, none⟩, .str ([108, 111, 103] : List UInt8), .slice true (((splitR a).1).map strAV), .int .i64 ((splitR a).2)]), (b5, mObj (((openR (restS ((addR s LN want z (gI l j)).1) keep torn nw1) LN).1).now)), (b4, .cells [.ptr ⟨b1, 0, none⟩, .str ([108, 111, 103] : List UInt8), .slice true (((addR s LN want z (gI l j)).2.2.1).map strAV), .int .i64 ((addR s LN want z (gI l j)).2.2.2)]), (b1, dObj b3 b5 ((openR (restS ((addR s LN want z (gI l j)).1) keep torn nw1) LN).1)), (b2, mObj (((addR s LN want z (gI l j)).1).now)), (b3, mObj (((openR (restS ((addR s LN want z (gI l j)).1) keep torn nw1) LN).1).kept))]) hNb6 (pick_perm [0, 2, 0, 2] _)).symm ?_
       refine ⟨trivial, (Nat.le_of_ble_eq_true rfl), (Nat.le_of_ble_eq_true rfl), trivial, trivial, ?_⟩
       show K1 [(9, .ptr ⟨b1, 0, none⟩), (11, .err 108 0), (13, .slice true (want.map strAV)), (14, .slice true ((want ++ ([gI l j] : List (List UInt8))).map strAV)), (17, .ptr ⟨b6, 0, none⟩)] (AMem.wth m [(b6, .cells [.ptr ⟨b1, 0, none⟩, .str ([108, 111, 103] : List UInt8), .slice true (((splitR a).1).map strAV), .int .i64 ((splitR a).2)]), (b5, mObj (((openR (restS ((addR s LN want z (gI l j)).1) keep torn nw1) LN).1).now)), (b4, .cells [.ptr ⟨b1, 0, none⟩, .str ([108, 111, 103] : List UInt8), .slice true (((addR s LN want z (gI l j)).2.2.1).map strAV), .int .i64 ((addR s LN want z (gI l j)).2.2.2)]), (b1, dObj b3 b5 ((openR (restS ((addR s LN want z (gI l j)).1) keep torn nw1) LN).1)), (b2, mObj (((addR s LN want z (gI l j)).1).now)), (b3, mObj (((openR (restS ((addR s LN want z (gI l j)).1) keep torn nw1) LN).1).kept))])
       refine hK1 _ _ ?_; clear hK1 K1
       refine awp_seq_k ?_; intro K14 hK14
       refine awp_reg2_seq [] [9, 13, 14, 17, 111] (by decide) ?_
       intro K1 hK1
       suffices key : K1 [(9, .ptr ⟨b1, 0, none⟩), (13, .slice true (want.map strAV)), (14, .slice true ((want ++ ([gI l j] : List (List UInt8))).map strAV)), (17, .ptr ⟨b6, 0, none⟩), (111, .bool false)] (AMem.wth m [(b6, .cells [.ptr ⟨b1, 0, none⟩, .str ([108, 111, 103] : List UInt8), .slice true (((splitR a).1).map strAV), .int .i64 ((splitR a).2)]), (b5, mObj (((openR (restS ((addR s LN want z (gI l j)).1) keep torn nw1) LN).1).now)), (b4, .cells [.ptr ⟨b1, 0, none⟩, .str ([108, 111, 103] : List UInt8), .slice true (((addR s LN want z (gI l j)).2.2.1).map strAV), .int .i64 ((addR s LN want z (gI l j)).2.2.2)]), (b1, dObj b3 b5 ((openR (restS ((addR s LN want z (gI l j)).1) keep torn nw1) LN).1)), (b2, mObj (((addR s LN want z (gI l j)).1).now)), (b3, mObj (((openR (restS ((addR s LN want z (gI l j)).1) keep torn nw1) LN).1).kept))]) by
        refine ⟨trivial, ⟨rfl, rfl⟩, trivial, trivial, rfl, ?_⟩
        exact key
       refine hK1 _ _ ?_; clear hK1 K1
       refine awp_cond rfl rfl (fun hcz => ?_) (fun hcz => ?_)
       ·
        cases hcz
       clear hcz
       refine awp_skip ?_
       refine hK14 _ _ ?_; clear hK14
       refine awp_reg2_seq [] [9, 13, 14, 18] (by decide) ?_
       intro K1 hK1
       refine ⟨trivial, ?_⟩
       refine ar_mem (wth_split hNb6 (pick_perm [0] _)) ?_
       refine u_Records b6 b1 ([108, 111, 103] : List UInt8) ((splitR a).1) ((splitR a).2) (by have := hog.2.1.len; omega) _ _ ?_
       show aopsR _ _ _ _ _ _ (AMem.wth (AMem.wth m [(b5, mObj (((openR (restS ((addR s LN want z (gI l j)).1) keep torn nw1) LN).1).now)), (b4, .cells [.ptr ⟨b1, 0, none⟩, .str ([108, 111, 103] : List UInt8), .slice true (((addR s LN want z (gI l j)).2.2.1).map strAV), .int .i64 ((addR s LN want z (gI l j)).2.2.2)]), (b1, dObj b3 b5 ((openR (restS ((addR s LN want z (gI l j)).1) keep torn nw1) LN).1)), (b2, mObj (((addR s LN want z (gI l j)).1).now)), (b3, mObj (((openR (restS ((addR s LN want z (gI l j)).1) keep torn nw1) LN).1).kept))]) [(b6, .cells [.ptr ⟨b1, 0, none⟩, .str ([108, 111, 103] : List UInt8), .slice true (((splitR a).1).map strAV), .int .i64 ((splitR a).2)])])
       refine ar_mem (wth_split (m := m) (L := [(b6, .cells [.ptr ⟨b1, 0, none⟩, .str ([108, 111, 103] : List UInt8), .slice true (((splitR a).1).map strAV), .int .i64 ((splitR a).2)]), (b5, mObj (((openR (restS ((addR s LN want z (gI l j)).1) keep torn nw1) LN).1).now)), (b4, .cells [.ptr ⟨b1, 0, none⟩, .str ([108, 111, 103] : List UInt8), .slice true (((addR s LN want z (gI l j)).2.2.1).map strAV), .int .i64 ((addR s LN want z (gI l j)).2.2.2)]), (b1, dObj b3 b5 ((openR (restS ((addR s LN want z (gI l j)).1) keep torn nw1) LN).1)), (b2, mObj (((addR s LN want z (gI l j)).1).now)), (b3, mObj (((openR (restS ((addR s LN want z (gI l j)).1) keep torn nw1) LN).1).kept))]) hNb6 (pick_perm [0] _)).symm ?_
       refine ⟨trivial, ?_⟩
       show K1 [(9, .ptr ⟨b1, 0, none⟩), (13, .slice true (want.map strAV)), (14, .slice true ((want ++ ([gI l j] : List (List UInt8))).map strAV)), (18, .slice true (((splitR a).1).map strAV))] (AMem.wth m [(b6, .cells [.ptr ⟨b1, 0, none⟩, .str ([108, 111, 103] : List UInt8), .slice true (((splitR a).1).map strAV), .int .i64 ((splitR a).2)]), (b5, mObj (((openR (restS ((addR s LN want z (gI l j)).1) keep torn nw1) LN).1).now)), (b4, .cells [.ptr ⟨b1, 0, none⟩, .str ([108, 111, 103] : List UInt8), .slice true (((addR s LN want z (gI l j)).2.2.1).map strAV), .int .i64 ((addR s LN want z (gI l j)).2.2.2)]), (b1, dObj b3 b5 ((openR (restS ((addR s LN want z (gI l j)).1) keep torn nw1) LN).1)), (b2, mObj (((addR s LN want z (gI l j)).1).now)), (b3, mObj (((openR (restS ((addR s LN want z (gI l j)).1) keep torn nw1) LN).1).kept))])
       refine hK1 _ _ ?_; clear hK1 K1
       refine awp_reg2_seq [] [11, 13, 14, 18, 19] (by decide) ?_
       intro K1 hK1
       refine ⟨trivial, ?_⟩
       refine ar_mem (wth_split hNb6 (pick_perm [3, 1, 3] _)) ?_
       refine u_OpenE b1 b3 b5 ((openR (restS ((addR s LN want z (gI l j)).1) keep torn nw1) LN).1) LN _ _ hog2.1 rfl (by have q := hNb6; simp at q ⊢; omega) hog.2.2 (by omega) (by decide) _ _ ?_
       intro b7 hqb7 hb7
       have hwb7 := wth_new1 (m := m) (L := [(b6, .cells [.ptr ⟨b1, 0, none⟩, .str ([108, 111, 103] : List UInt8), .slice true (((splitR a).1).map strAV), .int .i64 ((splitR a).2)]), (b5, mObj (((openR (restS ((addR s LN want z (gI l j)).1) keep torn nw1) LN).1).now)), (b4, .cells [.ptr ⟨b1, 0, none⟩, .str ([108, 111, 103] : List UInt8), .slice true (((addR s LN want z (gI l j)).2.2.1).map strAV), .int .i64 ((addR s LN want z (gI l j)).2.2.2)]), (b1, dObj b3 b5 ((openR (restS ((addR s LN want z (gI l j)).1) keep torn nw1) LN).1)), (b2, mObj (((addR s LN want z (gI l j)).1).now)), (b3, mObj (((openR (restS ((addR s LN want z (gI l j)).1) keep torn nw1) LN).1).kept))]) (x := b7) hNb6 (pick_perm [3, 1, 3] _) hqb7 hb7
       have hNb7 : ([b7, b6, b5, b4, b1, b2, b3] : List Nat).Nodup := hwb7.1
       have hFb7 : m b7 = none := hwb7.2
       show aopsR _ _ _ _ _ _ (AMem.wth (AMem.wth m [(b6, .cells [.ptr ⟨b1, 0, none⟩, .str ([108, 111, 103] : List UInt8), .slice true (((splitR a).1).map strAV), .int .i64 ((splitR a).2)]), (b4, .cells [.ptr ⟨b1, 0, none⟩, .str ([108, 111, 103] : List UInt8), .slice true (((addR s LN want z (gI l j)).2.2.1).map strAV), .int .i64 ((addR s LN want z (gI l j)).2.2.2)]), (b2, mObj (((addR s LN want z (gI l j)).1).now))]) [(b7, .cells [.ptr ⟨b1, 0, none⟩, .str ([108, 111, 103] : List UInt8), .slice true (((splitR a).1).map strAV), .int .i64 ((splitR a).2)]), (b1, dObj b3 b5 ((openR ((openR (restS ((addR s LN want z (gI l j)).1) keep torn nw1) LN).1) LN).1)), (b5, mObj (((openR ((openR (restS ((addR s LN want z (gI l j)).1) keep torn nw1) LN).1) LN).1).now)), (b3, mObj (((openR ((openR (restS ((addR s LN want z (gI l j)).1) keep torn nw1) LN).1) LN).1).kept))])
       refine ar_mem (wth_split (m := m) (L := [(b7, .cells [.ptr ⟨b1, 0, none⟩, .str ([108, 111, 103] : List UInt8), .slice true (((splitR a).1).map strAV), .int .i64 ((splitR a).2)]), (b6, .cells [.ptr ⟨b1, 0, none⟩, .str ([108, 111, 103] : List UInt8), .slice true (((splitR a).1).map strAV), .int .i64 ((splitR a).2)]), (b5, mObj (((openR ((openR (restS ((addR s LN want z (gI l j)).1) keep torn nw1) LN).1) LN).1).now)), (b4, .cells [.ptr ⟨b1, 0, none⟩, .str ([108, 111, 103] : List UInt8), .slice true (((addR s LN want z (gI l j)).2.2.1).map strAV), .int .i64 ((addR s LN want z (gI l j)).2.2.2)]), (b1, dObj b3 b5 ((openR ((openR (restS ((addR s LN want z (gI l j)).1) keep torn nw1) LN).1) LN).1)), (b2, mObj (((addR s LN want z (gI l j)).1).now)), (b3, mObj (((openR ((openR (restS ((addR s LN want z (gI l j)).1) keep torn nw1) LN).1) LN).1).kept))]) hNb7 (pick_perm [0, 3, 1, 3] _)).symm ?_
       refine ⟨trivial, (Nat.le_of_ble_eq_true rfl), (Nat.le_of_ble_eq_true rfl), trivial, trivial, ?_⟩
       show K1 [(11, .err 108 0), (13, .slice true (want.map strAV)), (14, .slice true ((want ++ ([gI l j] : List (List UInt8))).map strAV)), (18, .slice true (((splitR a).1).map strAV)), (19, .ptr ⟨b7, 0, none⟩)] (AMem.wth m [(b7, .cells [.ptr ⟨b1, 0, none⟩, .str ([108, 111, 103] : List UInt8), .slice true (((splitR a).1).map strAV), .int .i64 ((splitR a).2)]), (b6, .cells [.ptr ⟨b1, 0, none⟩, .str ([108, 111, 103] : List UInt8), .slice true (((splitR a).1).map strAV), .int .i64 ((splitR a).2)]), (b5, mObj (((openR ((openR (restS ((addR s LN want z (gI l j)).1) keep torn nw1) LN).1) LN).1).now)), (b4, .cells [.ptr ⟨b1, 0, none⟩, .str ([108, 111, 103] : List UInt8), .slice true (((addR s LN want z (gI l j)).2.2.1).map strAV), .int .i64 ((addR s LN want z (gI l j)).2.2.2)]), (b1, dObj b3 b5 ((openR ((openR (restS ((addR s LN want z (gI l j)).1) keep torn nw1) LN).1) LN).1)), (b2, mObj (((addR s LN want z (gI l j)).1).now)), (b3, mObj (((openR ((openR (restS ((addR s LN want z (gI l j)).1) keep torn nw1) LN).1) LN).1).kept))])
       refine hK1 _ _ ?_; clear hK1 K1
       by_cases hgw : (splitR a).1 = want
       ·
        skip
        refine awp_reg2_seq [] [8] (by decide) ?_
        intro K1 hK1
        refine ⟨trivial, ⟨rfl, rfl⟩, trivial, trivial, trivial, ?_⟩
        refine u_SameTexts_t ((splitR a).1) want hgw _ _ ?_
        refine ⟨trivial, ?_⟩
        refine ar_off rfl (ar_off rfl (ar_off rfl ?_))
        refine ⟨trivial, trivial, ?_⟩
        refine ar_mem (wth_split hNb7 (pick_perm [0] _)) ?_
        refine u_Records b7 b1 ([108, 111, 103] : List UInt8) ((splitR a).1) ((splitR a).2) (by have := hog.2.1.len; omega) _ _ ?_
        show aopsR _ _ _ _ _ _ (AMem.wth (AMem.wth m [(b6, .cells [.ptr ⟨b1, 0, none⟩, .str ([108, 111, 103] : List UInt8), .slice true (((splitR a).1).map strAV), .int .i64 ((splitR a).2)]), (b5, mObj (((openR ((openR (restS ((addR s LN want z (gI l j)).1) keep torn nw1) LN).1) LN).1).now)), (b4, .cells [.ptr ⟨b1, 0, none⟩, .str ([108, 111, 103] : List UInt8), .slice true (((addR s LN want z (gI l j)).2.2.1).map strAV), .int .i64 ((addR s LN want z (gI l j)).2.2.2)]), (b1, dObj b3 b5 ((openR ((openR (restS ((addR s LN want z (gI l j)).1) keep torn nw1) LN).1) LN).1)), (b2, mObj (((addR s LN want z (gI l j)).1).now)), (b3, mObj (((openR ((openR (restS ((addR s LN want z (gI l j)).1) keep torn nw1) LN).1) LN).1).kept))]) [(b7, .cells [.ptr ⟨b1, 0, none⟩, .str ([108, 111, 103] : List UInt8), .slice true (((splitR a).1).map strAV), .int .i64 ((splitR a).2)])])
        refine ar_mem (wth_split (m := m) (L := [(b7, .cells [.ptr ⟨b1, 0, none⟩, .str ([108, 111, 103] : List UInt8), .slice true (((splitR a).1).map strAV), .int .i64 ((splitR a).2)]), (b6, .cells [.ptr ⟨b1, 0, none⟩, .str ([108, 111, 103] : List UInt8), .slice true (((splitR a).1).map strAV), .int .i64 ((splitR a).2)]), (b5, mObj (((openR ((openR (restS ((addR s LN want z (gI l j)).1) keep torn nw1) LN).1) LN).1).now)), (b4, .cells [.ptr ⟨b1, 0, none⟩, .str ([108, 111, 103] : List UInt8), .slice true (((addR s LN want z (gI l j)).2.2.1).map strAV), .int .i64 ((addR s LN want z (gI l j)).2.2.2)]), (b1, dObj b3 b5 ((openR ((openR (restS ((addR s LN want z (gI l j)).1) keep torn nw1) LN).1) LN).1)), (b2, mObj (((addR s LN want z (gI l j)).1).now)), (b3, mObj (((openR ((openR (restS ((addR s LN want z (gI l j)).1) keep torn nw1) LN).1) LN).1).kept))]) hNb7 (pick_perm [0] _)).symm ?_
        refine ⟨trivial, ?_⟩
        refine u_SameTexts_eq ((splitR a).1) _ _ ?_
        refine ⟨trivial, ?_⟩
        show K1 [(8, .bool true)] (AMem.wth m [(b7, .cells [.ptr ⟨b1, 0, none⟩, .str ([108, 111, 103] : List UInt8), .slice true (((splitR a).1).map strAV), .int .i64 ((splitR a).2)]), (b6, .cells [.ptr ⟨b1, 0, none⟩, .str ([108, 111, 103] : List UInt8), .slice true (((splitR a).1).map strAV), .int .i64 ((splitR a).2)]), (b5, mObj (((openR ((openR (restS ((addR s LN want z (gI l j)).1) keep torn nw1) LN).1) LN).1).now)), (b4, .cells [.ptr ⟨b1, 0, none⟩, .str ([108, 111, 103] : List UInt8), .slice true (((addR s LN want z (gI l j)).2.2.1).map strAV), .int .i64 ((addR s LN want z (gI l j)).2.2.2)]), (b1, dObj b3 b5 ((openR ((openR (restS ((addR s LN want z (gI l j)).1) keep torn nw1) LN).1) LN).1)), (b2, mObj (((addR s LN want z (gI l j)).1).now)), (b3, mObj (((openR ((openR (restS ((addR s LN want z (gI l j)).1) keep torn nw1) LN).1) LN).1).kept))])
        refine hK1 _ _ ?_; clear hK1 K1
        refine awp_ret ?_
        refine ⟨trivial, m, (wth_sub2 (m := m) [(b7, .cells [.ptr ⟨b1, 0, none⟩, .str ([108, 111, 103] : List UInt8), .slice true (((splitR a).1).map strAV), .int .i64 ((splitR a).2)]), (b6, .cells [.ptr ⟨b1, 0, none⟩, .str ([108, 111, 103] : List UInt8), .slice true (((splitR a).1).map strAV), .int .i64 ((splitR a).2)]), (b5, mObj (((openR ((openR (restS ((addR s LN want z (gI l j)).1) keep torn nw1) LN).1) LN).1).now)), (b4, .cells [.ptr ⟨b1, 0, none⟩, .str ([108, 111, 103] : List UInt8), .slice true (((addR s LN want z (gI l j)).2.2.1).map strAV), .int .i64 ((addR s LN want z (gI l j)).2.2.2)]), (b1, dObj b3 b5 ((openR ((openR (restS ((addR s LN want z (gI l j)).1) keep torn nw1) LN).1) LN).1)), (b2, mObj (((addR s LN want z (gI l j)).1).now)), (b3, mObj (((openR ((openR (restS ((addR s LN want z (gI l j)).1) keep torn nw1) LN).1) LN).1).kept))] [] hNb7 (by simp only [List.map_cons, List.map_nil, List.forall_mem_cons]; exact ⟨hFb7, hFb6, hFb5, hFb4, hFb1, hFb2, hFb3, fun _ h => by cases h⟩)), ?_⟩
        show K (.bool true) m
       
        exact hK
       ·
        skip
        refine awp_reg2_seq [] [8] (by decide) ?_
        intro K1 hK1
        refine ⟨trivial, ⟨rfl, rfl⟩, trivial, trivial, trivial, ?_⟩
        refine u_SameTexts_f ((splitR a).1) want hgw _ _ ?_
        refine ⟨trivial, trivial, trivial, ?_⟩
        refine u_SameTexts_t ((splitR a).1) (want ++ ([gI l j] : List (List UInt8))) (hgot.resolve_left hgw) _ _ ?_
        refine ⟨trivial, trivial, ?_⟩
        refine ar_mem (wth_split hNb7 (pick_perm [0] _)) ?_
        refine u_Records b7 b1 ([108, 111, 103] : List UInt8) ((splitR a).1) ((splitR a).2) (by have := hog.2.1.len; omega) _ _ ?_
        show aopsR _ _ _ _ _ _ (AMem.wth (AMem.wth m [(b6, .cells [.ptr ⟨b1, 0, none⟩, .str ([108, 111, 103] : List UInt8), .slice true (((splitR a).1).map strAV), .int .i64 ((splitR a).2)]), (b5, mObj (((openR ((openR (restS ((addR s LN want z (gI l j)).1) keep torn nw1) LN).1) LN).1).now)), (b4, .cells [.ptr ⟨b1, 0, none⟩, .str ([108, 111, 103] : List UInt8), .slice true (((addR s LN want z (gI l j)).2.2.1).map strAV), .int .i64 ((addR s LN want z (gI l j)).2.2.2)]), (b1, dObj b3 b5 ((openR ((openR (restS ((addR s LN want z (gI l j)).1) keep torn nw1) LN).1) LN).1)), (b2, mObj (((addR s LN want z (gI l j)).1).now)), (b3, mObj (((openR ((openR (restS ((addR s LN want z (gI l j)).1) keep torn nw1) LN).1) LN).1).kept))]) [(b7, .cells [.ptr ⟨b1, 0, none⟩, .str ([108, 111, 103] : List UInt8), .slice true (((splitR a).1).map strAV), .int .i64 ((splitR a).2)])])
        refine ar_mem (wth_split (m := m) (L := [(b7, .cells [.ptr ⟨b1, 0, none⟩, .str ([108, 111, 103] : List UInt8), .slice true (((splitR a).1).map strAV), .int .i64 ((splitR a).2)]), (b6, .cells [.ptr ⟨b1, 0, none⟩, .str ([108, 111, 103] : List UInt8), .slice true (((splitR a).1).map strAV), .int .i64 ((splitR a).2)]), (b5, mObj (((openR ((openR (restS ((addR s LN want z (gI l j)).1) keep torn nw1) LN).1) LN).1).now)), (b4, .cells [.ptr ⟨b1, 0, none⟩, .str ([108, 111, 103] : List UInt8), .slice true (((addR s LN want z (gI l j)).2.2.1).map strAV), .int .i64 ((addR s LN want z (gI l j)).2.2.2)]), (b1, dObj b3 b5 ((openR ((openR (restS ((addR s LN want z (gI l j)).1) keep torn nw1) LN).1) LN).1)), (b2, mObj (((addR s LN want z (gI l j)).1).now)), (b3, mObj (((openR ((openR (restS ((addR s LN want z (gI l j)).1) keep torn nw1) LN).1) LN).1).kept))]) hNb7 (pick_perm [0] _)).symm ?_
        refine ⟨trivial, ?_⟩
        refine u_SameTexts_eq ((splitR a).1) _ _ ?_
        refine ⟨trivial, ?_⟩
        show K1 [(8, .bool true)] (AMem.wth m [(b7, .cells [.ptr ⟨b1, 0, none⟩, .str ([108, 111, 103] : List UInt8), .slice true (((splitR a).1).map strAV), .int .i64 ((splitR a).2)]), (b6, .cells [.ptr ⟨b1, 0, none⟩, .str ([108, 111, 103] : List UInt8), .slice true (((splitR a).1).map strAV), .int .i64 ((splitR a).2)]), (b5, mObj (((openR ((openR (restS ((addR s LN want z (gI l j)).1) keep torn nw1) LN).1) LN).1).now)), (b4, .cells [.ptr ⟨b1, 0, none⟩, .str ([108, 111, 103] : List UInt8), .slice true (((addR s LN want z (gI l j)).2.2.1).map strAV), .int .i64 ((addR s LN want z (gI l j)).2.2.2)]), (b1, dObj b3 b5 ((openR ((openR (restS ((addR s LN want z (gI l j)).1) keep torn nw1) LN).1) LN).1)), (b2, mObj (((addR s LN want z (gI l j)).1).now)), (b3, mObj (((openR ((openR (restS ((addR s LN want z (gI l j)).1) keep torn nw1) LN).1) LN).1).kept))])
        refine hK1 _ _ ?_; clear hK1 K1
        refine awp_ret ?_
        refine ⟨trivial, m, (wth_sub2 (m := m) [(b7, .cells [.ptr ⟨b1, 0, none⟩, .str ([108, 111, 103] : List UInt8), .slice true (((splitR a).1).map strAV), .int .i64 ((splitR a).2)]), (b6, .cells [.ptr ⟨b1, 0, none⟩, .str ([108, 111, 103] : List UInt8), .slice true (((splitR a).1).map strAV), .int .i64 ((splitR a).2)]), (b5, mObj (((openR ((openR (restS ((addR s LN want z (gI l j)).1) keep torn nw1) LN).1) LN).1).now)), (b4, .cells [.ptr ⟨b1, 0, none⟩, .str ([108, 111, 103] : List UInt8), .slice true (((addR s LN want z (gI l j)).2.2.1).map strAV), .int .i64 ((addR s LN want z (gI l j)).2.2.2)]), (b1, dObj b3 b5 ((openR ((openR (restS ((addR s LN want z (gI l j)).1) keep torn nw1) LN).1) LN).1)), (b2, mObj (((addR s LN want z (gI l j)).1).now)), (b3, mObj (((openR ((openR (restS ((addR s LN want z (gI l j)).1) keep torn nw1) LN).1) LN).1).kept))] [] hNb7 (by simp only [List.map_cons, List.map_nil, List.forall_mem_cons]; exact ⟨hFb7, hFb6, hFb5, hFb4, hFb1, hFb2, hFb3, fun _ h => by cases h⟩)), ?_⟩
        show K (.bool true) m
       
        exact hK
     ·
      replace h4 : (l.length : Int) ≤ j := (Int.not_lt.1 (of_decide_eq_false h4))
      have hfell := JL.fell (last := last) hI2.2.2.2 (by omega)
      refine awp_exit ?_
      refine hK8 _ _ ?_; clear hK8
      refine awp_reg2_seq [] [9, 13, 14] (by decide) ?_
      intro K1 hK1
      refine ⟨trivial, trivial, trivial, ?_⟩
      refine ar_mem (wth_split hNb4 (pick_perm [1, 2] _)) ?_
      refine u_RestartE b1 b3 b2 s keep torn _ (by have q := hNb4; simp at q ⊢; omega) hfell.inv (by omega) hfell.nd _ _ ?_
      intro b8 hqb8 hb8 nw2 hp2
      have hwb8 := wth_new1 (m := m) (L := [(b4, .cells [.ptr ⟨b1, 0, none⟩, .str ([108, 111, 103] : List UInt8), .slice true (want.map strAV), .int .i64 z]), (b1, dObj b3 b2 s), (b2, mObj s.now), (b3, mObj s.kept)]) (x := b8) hNb4 (pick_perm [1, 2] _) hqb8 hb8
      have hNb8 : ([b8, b4, b1, b2, b3] : List Nat).Nodup := hwb8.1
      have hFb8 : m b8 = none := hwb8.2
      show aopsR _ _ _ _ _ _ (AMem.wth (AMem.wth m [(b4, .cells [.ptr ⟨b1, 0, none⟩, .str ([108, 111, 103] : List UInt8), .slice true (want.map strAV), .int .i64 z]), (b2, mObj s.now)]) [(b8, mObj ((restS s keep torn nw2).now)), (b1, dObj b3 b8 (restS s keep torn nw2)), (b3, mObj ((restS s keep torn nw2).kept))])
      refine ar_mem (wth_split (m := m) (L := [(b8, mObj ((restS s keep torn nw2).now)), (b4, .cells [.ptr ⟨b1, 0, none⟩, .str ([108, 111, 103] : List UInt8), .slice true (want.map strAV), .int .i64 z]), (b1, dObj b3 b8 (restS s keep torn nw2)), (b2, mObj s.now), (b3, mObj ((restS s keep torn nw2).kept))]) hNb8 (pick_perm [0, 1, 2] _)).symm ?_
      show K1 [(9, .ptr ⟨b1, 0, none⟩), (13, .slice true (want.map strAV)), (14, .slice false (last.map strAV))] (AMem.wth m [(b8, mObj ((restS s keep torn nw2).now)), (b4, .cells [.ptr ⟨b1, 0, none⟩, .str ([108, 111, 103] : List UInt8), .slice true (want.map strAV), .int .i64 z]), (b1, dObj b3 b8 (restS s keep torn nw2)), (b2, mObj s.now), (b3, mObj ((restS s keep torn nw2).kept))])
      refine hK1 _ _ ?_; clear hK1 K1
      obtain ⟨a, hmg, hgot, hal2, hok, hdv⟩ := hfell.rest hp2
      have hog := openG hok ln_ok hmg hal2 hdv
      have hog2 := openG2 hog.2.1 ln_ok hog.2.2
      show AWP _ _ _ _ [(9, .ptr ⟨b1, 0, none⟩), (13, .slice true (want.map strAV)), (14, .slice false (last.map strAV))] (AMem.wth m [(b8, mObj ((restS s keep torn nw2).now)), (b4, .cells [.ptr ⟨b1, 0, none⟩, .str ([108, 111, 103] : List UInt8), .slice true (want.map strAV), .int .i64 z]), (b1, dObj b3 b8 (restS s keep torn nw2)), (b2, mObj s.now), (b3, mObj ((restS s keep torn nw2).kept))])
      refine awp_reg2_seq [] [9, 11, 13, 14, 17] (by decide) ?_
      intro K1 hK1
      refine ⟨trivial, ?_⟩
      refine ar_mem (wth_split hNb8 (pick_perm [2, 0, 2] _)) ?_
      refine u_OpenE b1 b3 b8 (restS s keep torn nw2) LN _ _ hog.1 rfl (by have q := hNb8; simp at q ⊢; omega) hdv (by omega) (by decide) _ _ ?_
      intro b9 hqb9 hb9
      have hwb9 := wth_new1 (m := m) (L := [(b8, mObj ((restS s keep torn nw2).now)), (b4, .cells [.ptr ⟨b1, 0, none⟩, .str ([108, 111, 103] : List UInt8), .slice true (want.map strAV), .int .i64 z]), (b1, dObj b3 b8 (restS s keep torn nw2)), (b2, mObj s.now), (b3, mObj ((restS s keep torn nw2).kept))]) (x := b9) hNb8 (pick_perm [2, 0, 2] _) hqb9 hb9
      have hNb9 : ([b9, b8, b4, b1, b2, b3] : List Nat).Nodup := hwb9.1
      have hFb9 : m b9 = none := hwb9.2
      show aopsR _ _ _ _ _ _ (AMem.wth (AMem.wth m [(b4, .cells [.ptr ⟨b1, 0, none⟩, .str ([108, 111, 103] : List UInt8), .slice true (want.map strAV), .int .i64 z]), (b2, mObj s.now)]) [(b9, .cells [.ptr ⟨b1, 0, none⟩, .str ([108, 111, 103] : List UInt8), .slice true (((splitR a).1).map strAV), .int .i64 ((splitR a).2)]), (b1, dObj b3 b8 ((openR (restS s keep torn nw2) LN).1)), (b8, mObj (((openR (restS s keep torn nw2) LN).1).now)), (b3, mObj (((openR (restS s keep torn nw2) LN).1).kept))])
      refine ar_mem (wth_split (m := m) (L := [(b9, .cells [.ptr ⟨b1, 0, none⟩, .str ([108, 111, 103] : List UInt8), .slice true (((splitR a).1).map strAV), .int .i64 ((splitR a).2)]), (b8, mObj (((openR (restS s keep torn nw2) LN).1).now)), (b4, .cells [.ptr ⟨b1, 0, none⟩, .str ([108, 111, 103] : List UInt8), .slice true (want.map strAV), .int .i64 z]), (b1, dObj b3 b8 ((openR (restS s keep torn nw2) LN).1)), (b2, mObj s.now), (b3, mObj (((openR (restS s keep torn nw2) LN).1).kept))]) hNb9 (pick_perm [0, 2, 0, 2] _)).symm ?_
      refine ⟨trivial, (Nat.le_of_ble_eq_true rfl), (Nat.le_of_ble_eq_true rfl), trivial, trivial, ?_⟩
      show K1 [(9, .ptr ⟨b1, 0, none⟩), (11, .err 108 0), (13, .slice true (want.map strAV)), (14, .slice false (last.map strAV)), (17, .ptr ⟨b9, 0, none⟩)] (AMem.wth m [(b9, .cells [.ptr ⟨b1, 0, none⟩, .str ([108, 111, 103] : List UInt8), .slice true (((splitR a).1).map strAV), .int .i64 ((splitR a).2)]), (b8, mObj (((openR (restS s keep torn nw2) LN).1).now)), (b4, .cells [.ptr ⟨b1, 0, none⟩, .str ([108, 111, 103] : List UInt8), .slice true (want.map strAV), .int .i64 z]), (b1, dObj b3 b8 ((openR (restS s keep torn nw2) LN).1)), (b2, mObj s.now), (b3, mObj (((openR (restS s keep torn nw2) LN).1).kept))])
      refine hK1 _ _ ?_; clear hK1 K1
      refine awp_seq_k ?_; intro K15 hK15
      refine awp_reg2_seq [] [9, 13, 14, 17, 111] (by decide) ?_
      intro K1 hK1
      suffices key : K1 [(9, .ptr ⟨b1, 0, none⟩), (13, .slice true (want.map strAV)), (14, .slice false (last.map strAV)), (17, .ptr ⟨b9, 0, none⟩), (111, .bool false)] (AMem.wth m [(b9, .cells [.ptr ⟨b1, 0, none⟩, .str ([108, 111, 103] : List UInt8), .slice true (((splitR a).1).map strAV), .int .i64 ((splitR a).2)]), (b8, mObj (((openR (restS s keep torn nw2) LN).1).now)), (b4, .cells [.ptr ⟨b1, 0, none⟩, .str ([108, 111, 103] : List UInt8), .slice true (want.map strAV), .int .i64 z]), (b1, dObj b3 b8 ((openR (restS s keep torn nw2) LN).1)), (b2, mObj s.now), (b3, mObj (((openR (restS s keep torn nw2) LN).1).kept))]) by
       refine ⟨trivial, ⟨rfl, rfl⟩, trivial, trivial, rfl, ?_⟩
       exact key
      refine hK1 _ _ ?_; clear hK1 K1
      refine awp_cond rfl rfl (fun hcz => ?_) (fun hcz => ?_)
      ·
       cases hcz
      clear hcz
      refine awp_skip ?_
      refine hK15 _ _ ?_; clear hK15
      refine awp_reg2_seq [] [9, 13, 14, 18] (by decide) ?_
      intro K1 hK1
      refine ⟨trivial, ?_⟩
      refine ar_mem (wth_split hNb9 (pick_perm [0] _)) ?_
      refine u_Records b9 b1 ([108, 111, 103] : List UInt8) ((splitR a).1) ((splitR a).2) (by have := hog.2.1.len; omega) _ _ ?_
      show aopsR _ _ _ _ _ _ (AMem.wth (AMem.wth m [(b8, mObj (((openR (restS s keep torn nw2) LN).1).now)), (b4, .cells [.ptr ⟨b1, 0, none⟩, .str ([108, 111, 103] : List UInt8), .slice true (want.map strAV), .int .i64 z]), (b1, dObj b3 b8 ((openR (restS s keep torn nw2) LN).1)), (b2, mObj s.now), (b3, mObj (((openR (restS s keep torn nw2) LN).1).kept))]) [(b9, .cells [.ptr ⟨b1, 0, none⟩, .str ([108, 111, 103] : List UInt8), .slice true (((splitR a).1).map strAV), .int .i64 ((splitR a).2)])])
      refine ar_mem (wth_split (m := m) (L := [(b9, .cells [.ptr ⟨b1, 0, none⟩, .str ([108, 111, 103] : List UInt8), .slice true (((splitR a).1).map strAV), .int .i64 ((splitR a).2)]), (b8, mObj (((openR (restS s keep torn nw2) LN).1).now)), (b4, .cells [.ptr ⟨b1, 0, none⟩, .str ([108, 111, 103] : List UInt8), .slice true (want.map strAV), .int .i64 z]), (b1, dObj b3 b8 ((openR (restS s keep torn nw2) LN).1)), (b2, mObj s.now), (b3, mObj (((openR (restS s keep torn nw2) LN).1).kept))]) hNb9 (pick_perm [0] _)).symm ?_
      refine ⟨trivial, ?_⟩
      show K1 [(9, .ptr ⟨b1, 0, none⟩), (13, .slice true (want.map strAV)), (14, .slice false (last.map strAV)), (18, .slice true (((splitR a).1).map strAV))] (AMem.wth m [(b9, .cells [.ptr ⟨b1, 0, none⟩, .str ([108, 111, 103] : List UInt8), .slice true (((splitR a).1).map strAV), .int .i64 ((splitR a).2)]), (b8, mObj (((openR (restS s keep torn nw2) LN).1).now)), (b4, .cells [.ptr ⟨b1, 0, none⟩, .str ([108, 111, 103] : List UInt8), .slice true (want.map strAV), .int .i64 z]), (b1, dObj b3 b8 ((openR (restS s keep torn nw2) LN).1)), (b2, mObj s.now), (b3, mObj (((openR (restS s keep torn nw2) LN).1).kept))])
      refine hK1 _ _ ?_; clear hK1 K1
      refine awp_reg2_seq [] [11, 13, 14, 18, 19] (by decide) ?_
      intro K1 hK1
      refine ⟨trivial, ?_⟩
      refine ar_mem (wth_split hNb9 (pick_perm [3, 1, 3] _)) ?_
      refine u_OpenE b1 b3 b8 ((openR (restS s keep torn nw2) LN).1) LN _ _ hog2.1 rfl (by have q := hNb9; simp at q ⊢; omega) hog.2.2 (by omega) (by decide) _ _ ?_
      intro b10 hqb10 hb10
      have hwb10 := wth_new1 (m := m) (L := [(b9, .cells [.ptr ⟨b1, 0, none⟩, .str ([108, 111, 103] : List UInt8), .slice true (((splitR a).1).map strAV), .int .i64 ((splitR a).2)]), (b8, mObj (((openR (restS s keep torn nw2) LN).1).now)), (b4, .cells [.ptr ⟨b1, 0, none⟩, .str ([108, 111, 103] : List UInt8), .slice true (want.map strAV), .int .i64 z]), (b1, dObj b3 b8 ((openR (restS s keep torn nw2) LN).1)), (b2, mObj s.now), (b3, mObj (((openR (restS s keep torn nw2) LN).1).kept))]) (x := b10) hNb9 (pick_perm [3, 1, 3] _) hqb10 hb10
      have hNb10 : ([b10, b9, b8, b4, b1, b2, b3] : List Nat).Nodup := hwb10.1
      have hFb10 : m b10 = none := hwb10.2
      show aopsR _ _ _ _ _ _ (AMem.wth (AMem.wth m [(b9, .cells [.ptr ⟨b1, 0, none⟩, .str ([108, 111, 103] : List UInt8), .slice true (((splitR a).1).map strAV), .int .i64 ((splitR a).2)]), (b4, .cells [.ptr ⟨b1, 0, none⟩, .str ([108, 111, 103] : List UInt8), .slice true (want.map strAV), .int .i64 z]), (b2, mObj s.now)]) [(b10, .cells [.ptr ⟨b1, 0, none⟩, .str ([108, 111, 103] : List UInt8), .slice true (((splitR a).1).map strAV), .int .i64 ((splitR a).2)]), (b1, dObj b3 b8 ((openR ((openR (restS s keep torn nw2) LN).1) LN).1)), (b8, mObj (((openR ((openR (restS s keep torn nw2) LN).1) LN).1).now)), (b3, mObj (((openR ((openR (restS s keep torn nw2) LN).1) LN).1).kept))])
      refine ar_mem (wth_split (m := m) (L := [(b10, .cells [.ptr ⟨b1, 0, none⟩, .str ([108, 111, 103] : List UInt8), .slice true (((splitR a).1).map strAV), .int .i64 ((splitR a).2)]), (b9, .cells [.ptr ⟨b1, 0, none⟩, .str ([108, 111, 103] : List UInt8), .slice true (((splitR a).1).map strAV), .int .i64 ((splitR a).2)]), (b8, mObj (((openR ((openR (restS s keep torn nw2) LN).1) LN).1).now)), (b4, .cells [.ptr ⟨b1, 0, none⟩, .str ([108, 111, 103] : List UInt8), .slice true (want.map strAV), .int .i64 z]), (b1, dObj b3 b8 ((openR ((openR (restS s keep torn nw2) LN).1) LN).1)), (b2, mObj s.now), (b3, mObj (((openR ((openR (restS s keep torn nw2) LN).1) LN).1).kept))]) hNb10 (pick_perm [0, 3, 1, 3] _)).symm ?_
      refine ⟨trivial, (Nat.le_of_ble_eq_true rfl), (Nat.le_of_ble_eq_true rfl), trivial, trivial, ?_⟩
      show K1 [(11, .err 108 0), (13, .slice true (want.map strAV)), (14, .slice false (last.map strAV)), (18, .slice true (((splitR a).1).map strAV)), (19, .ptr ⟨b10, 0, none⟩)] (AMem.wth m [(b10, .cells [.ptr ⟨b1, 0, none⟩, .str ([108, 111, 103] : List UInt8), .slice true (((splitR a).1).map strAV), .int .i64 ((splitR a).2)]), (b9, .cells [.ptr ⟨b1, 0, none⟩, .str ([108, 111, 103] : List UInt8), .slice true (((splitR a).1).map strAV), .int .i64 ((splitR a).2)]), (b8, mObj (((openR ((openR (restS s keep torn nw2) LN).1) LN).1).now)), (b4, .cells [.ptr ⟨b1, 0, none⟩, .str ([108, 111, 103] : List UInt8), .slice true (want.map strAV), .int .i64 z]), (b1, dObj b3 b8 ((openR ((openR (restS s keep torn nw2) LN).1) LN).1)), (b2, mObj s.now), (b3, mObj (((openR ((openR (restS s keep torn nw2) LN).1) LN).1).kept))])
      refine hK1 _ _ ?_; clear hK1 K1
      by_cases hgw : (splitR a).1 = want
      ·
       skip
       refine awp_reg2_seq [] [8] (by decide) ?_
       intro K1 hK1
       refine ⟨trivial, ⟨rfl, rfl⟩, trivial, trivial, trivial, ?_⟩
       refine u_SameTexts_t ((splitR a).1) want hgw _ _ ?_
       refine ⟨trivial, ?_⟩
       refine ar_off rfl (ar_off rfl (ar_off rfl ?_))
       refine ⟨trivial, trivial, ?_⟩
       refine ar_mem (wth_split hNb10 (pick_perm [0] _)) ?_
       refine u_Records b10 b1 ([108, 111, 103] : List UInt8) ((splitR a).1) ((splitR a).2) (by have := hog.2.1.len; omega) _ _ ?_
       show aopsR _ _ _ _ _ _ (AMem.wth (AMem.wth m [(b9, .cells [.ptr ⟨b1, 0, none⟩, .str ([108, 111, 103] : List UInt8), .slice true (((splitR a).1).map strAV), .int .i64 ((splitR a).2)]), (b8, mObj (((openR ((openR (restS s keep torn nw2) LN).1) LN).1).now)), (b4, .cells [.ptr ⟨b1, 0, none⟩, .str ([108, 111, 103] : List UInt8), .slice true (want.map strAV), .int .i64 z]), (b1, dObj b3 b8 ((openR ((openR (restS s keep torn nw2) LN).1) LN).1)), (b2, mObj s.now), (b3, mObj (((openR ((openR (restS s keep torn nw2) LN).1) LN).1).kept))]) [(b10, .cells [.ptr ⟨b1, 0, none⟩, .str ([108, 111, 103] : List UInt8), .slice true (((splitR a).1).map strAV), .int .i64 ((splitR a).2)])])
       refine ar_mem (wth_split (m := m) (L := [(b10, .cells [.ptr ⟨b1, 0, none⟩, .str ([108, 111, 103] : List UInt8), .slice true (((splitR a).1).map strAV), .int .i64 ((splitR a).2)]), (b9, .cells [.ptr ⟨b1, 0, none⟩, .str ([108, 111, 103] : List UInt8), .slice true (((splitR a).1).map strAV), .int .i64 ((splitR a).2)]), (b8, mObj (((openR ((openR (restS s keep torn nw2) LN).1) LN).1).now)), (b4, .cells [.ptr ⟨b1, 0, none⟩, .str ([108, 111, 103] : List UInt8), .slice true (want.map strAV), .int .i64 z]), (b1, dObj b3 b8 ((openR ((openR (restS s keep torn nw2) LN).1) LN).1)), (b2, mObj s.now), (b3, mObj (((openR ((openR (restS s keep torn nw2) LN).1) LN).1).kept))]) hNb10 (pick_perm [0] _)).symm ?_
       refine ⟨trivial, ?_⟩
       refine u_SameTexts_eq ((splitR a).1) _ _ ?_
       refine ⟨trivial, ?_⟩
       show K1 [(8, .bool true)] (AMem.wth m [(b10, .cells [.ptr ⟨b1, 0, none⟩, .str ([108, 111, 103] : List UInt8), .slice true (((splitR a).1).map strAV), .int .i64 ((splitR a).2)]), (b9, .cells [.ptr ⟨b1, 0, none⟩, .str ([108, 111, 103] : List UInt8), .slice true (((splitR a).1).map strAV), .int .i64 ((splitR a).2)]), (b8, mObj (((openR ((openR (restS s keep torn nw2) LN).1) LN).1).now)), (b4, .cells [.ptr ⟨b1, 0, none⟩, .str ([108, 111, 103] : List UInt8), .slice true (want.map strAV), .int .i64 z]), (b1, dObj b3 b8 ((openR ((openR (restS s keep torn nw2) LN).1) LN).1)), (b2, mObj s.now), (b3, mObj (((openR ((openR (restS s keep torn nw2) LN).1) LN).1).kept))])
       refine hK1 _ _ ?_; clear hK1 K1
       refine awp_ret ?_
       refine ⟨trivial, m, (wth_sub2 (m := m) [(b10, .cells [.ptr ⟨b1, 0, none⟩, .str ([108, 111, 103] : List UInt8), .slice true (((splitR a).1).map strAV), .int .i64 ((splitR a).2)]), (b9, .cells [.ptr ⟨b1, 0, none⟩, .str ([108, 111, 103] : List UInt8), .slice true (((splitR a).1).map strAV), .int .i64 ((splitR a).2)]), (b8, mObj (((openR ((openR (restS s keep torn nw2) LN).1) LN).1).now)), (b4, .cells [.ptr ⟨b1, 0, none⟩, .str ([108, 111, 103] : List UInt8), .slice true (want.map strAV), .int .i64 z]), (b1, dObj b3 b8 ((openR ((openR (restS s keep torn nw2) LN).1) LN).1)), (b2, mObj s.now), (b3, mObj (((openR ((openR (restS s keep torn nw2) LN).1) LN).1).kept))] [] hNb10 (by simp only [List.map_cons, List.map_nil, List.forall_mem_cons]; exact ⟨hFb10, hFb9, hFb8, hFb4, hFb1, hFb2, hFb3, fun _ h => by cases h⟩)), ?_⟩
       show K (.bool true) m
      
       exact hK
      ·
       skip
       refine awp_reg2_seq [] [8] (by decide) ?_
       intro K1 hK1
       refine ⟨trivial, ⟨rfl, rfl⟩, trivial, trivial, trivial, ?_⟩
       refine u_SameTexts_f ((splitR a).1) want hgw _ _ ?_
       refine ⟨trivial, trivial, trivial, ?_⟩
       refine u_SameTexts_t ((splitR a).1) last (hgot.resolve_left hgw) _ _ ?_
       refine ⟨trivial, trivial, ?_⟩
       refine ar_mem (wth_split hNb10 (pick_perm [0] _)) ?_
       refine u_Records b10 b1 ([108, 111, 103] : List UInt8) ((splitR a).1) ((splitR a).2) (by have := hog.2.1.len; omega) _ _ ?_
       show aopsR _ _ _ _ _ _ (AMem.wth (AMem.wth m [(b9, .cells [.ptr ⟨b1, 0, none⟩, .str ([108, 111, 103] : List UInt8), .slice true (((splitR a).1).map strAV), .int .i64 ((splitR a).2)]), (b8, mObj (((openR ((openR (restS s keep torn nw2) LN).1) LN).1).now)), (b4, .cells [.ptr ⟨b1, 0, none⟩, .str ([108, 111, 103] : List UInt8), .slice true (want.map strAV), .int .i64 z]), (b1, dObj b3 b8 ((openR ((openR (restS s keep torn nw2) LN).1) LN).1)), (b2, mObj s.now), (b3, mObj (((openR ((openR (restS s keep torn nw2) LN).1) LN).1).kept))]) [(b10, .cells [.ptr ⟨b1, 0, none⟩, .str ([108, 111, 103] : List UInt8), .slice true (((splitR a).1).map strAV), .int .i64 ((splitR a).2)])])
       refine ar_mem (wth_split (m := m) (L := [(b10, .cells [.ptr ⟨b1, 0, none⟩, .str ([108, 111, 103] : List UInt8), .slice true (((splitR a).1).map strAV), .int .i64 ((splitR a).2)]), (b9, .cells [.ptr ⟨b1, 0, none⟩, .str ([108, 111, 103] : List UInt8), .slice true (((splitR a).1).map strAV), .int .i64 ((splitR a).2)]), (b8, mObj (((openR ((openR (restS s keep torn nw2) LN).1) LN).1).now)), (b4, .cells [.ptr ⟨b1, 0, none⟩, .str ([108, 111, 103] : List UInt8), .slice true (want.map strAV), .int .i64 z]), (b1, dObj b3 b8 ((openR ((openR (restS s keep torn nw2) LN).1) LN).1)), (b2, mObj s.now), (b3, mObj (((openR ((openR (restS s keep torn nw2) LN).1) LN).1).kept))]) hNb10 (pick_perm [0] _)).symm ?_
       refine ⟨trivial, ?_⟩
       refine u_SameTexts_eq ((splitR a).1) _ _ ?_
       refine ⟨trivial, ?_⟩
       show K1 [(8, .bool true)] (AMem.wth m [(b10, .cells [.ptr ⟨b1, 0, none⟩, .str ([108, 111, 103] : List UInt8), .slice true (((splitR a).1).map strAV), .int .i64 ((splitR a).2)]), (b9, .cells [.ptr ⟨b1, 0, none⟩, .str ([108, 111, 103] : List UInt8), .slice true (((splitR a).1).map strAV), .int .i64 ((splitR a).2)]), (b8, mObj (((openR ((openR (restS s keep torn nw2) LN).1) LN).1).now)), (b4, .cells [.ptr ⟨b1, 0, none⟩, .str ([108, 111, 103] : List UInt8), .slice true (want.map strAV), .int .i64 z]), (b1, dObj b3 b8 ((openR ((openR (restS s keep torn nw2) LN).1) LN).1)), (b2, mObj s.now), (b3, mObj (((openR ((openR (restS s keep torn nw2) LN).1) LN).1).kept))])
       refine hK1 _ _ ?_; clear hK1 K1
       refine awp_ret ?_
       refine ⟨trivial, m, (wth_sub2 (m := m) [(b10, .cells [.ptr ⟨b1, 0, none⟩, .str ([108, 111, 103] : List UInt8), .slice true (((splitR a).1).map strAV), .int .i64 ((splitR a).2)]), (b9, .cells [.ptr ⟨b1, 0, none⟩, .str ([108, 111, 103] : List UInt8), .slice true (((splitR a).1).map strAV), .int .i64 ((splitR a).2)]), (b8, mObj (((openR ((openR (restS s keep torn nw2) LN).1) LN).1).now)), (b4, .cells [.ptr ⟨b1, 0, none⟩, .str ([108, 111, 103] : List UInt8), .slice true (want.map strAV), .int .i64 z]), (b1, dObj b3 b8 ((openR ((openR (restS s keep torn nw2) LN).1) LN).1)), (b2, mObj s.now), (b3, mObj (((openR ((openR (restS s keep torn nw2) LN).1) LN).1).kept))] [] hNb10 (by simp only [List.map_cons, List.map_nil, List.forall_mem_cons]; exact ⟨hFb10, hFb9, hFb8, hFb4, hFb1, hFb2, hFb3, fun _ h => by cases h⟩)), ?_⟩
       show K (.bool true) m
      
       exact hK

end Go.Proofs
