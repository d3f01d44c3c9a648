import Derived.Test.YtoeghipbkmaccaaProg
import Derived.Test.YtoeghipbkmaccaaMix
import Derived.Test.YtoeghipbkmaccaaWxe
import Derived.Test.YtoeghipbkmaccaaWl5
namespace Go.Proofs
open Go Go.Aw
set_option maxRecDepth 100000


theorem take_gI {α : Type} [Inhabited α] {xs ys : List α} {i : Int} (h0 : 0 ≤ i) (hi : i < xs.length) (hi' : i < ys.length) (h : xs.take i.toNat = ys.take i.toNat) (he : gI xs i = gI ys i) : xs.take (i + 1).toNat = ys.take (i + 1).toNat := by
  rw [take_succ_gI h0 hi, take_succ_gI h0 hi', h, he]
theorem take_all {α : Type} {xs ys : List α} {i : Int} (hl : (xs.length : Int) = ys.length) (hi : (xs.length : Int) ≤ i) (h : xs.take i.toNat = ys.take i.toNat) : xs = ys := by
  rwa [List.take_of_length_le (by omega), List.take_of_length_le (by omega)] at h
def addR (s : DSt) (name : Str) (l : List Str) (z : Int) (t : Str) : DSt × Int × (List Str × Int) :=
  if 400 < (t.length : Int) ∨ 4000 < z + t.length + 6 then (s, 2, (l, z))
  else if (appR s name (framedL t)).2 ≠ 0 then ((appR s name (framedL t)).1, (appR s name (framedL t)).2, (l, z))
  else if (syncF (appR s name (framedL t)).1).2 ≠ 0 then ((syncF (appR s name (framedL t)).1).1, (syncF (appR s name (framedL t)).1).2, (l, z))
  else ((syncF (appR s name (framedL t)).1).1, 0, (l ++ [t], z + (t.length + 6)))
def clearR (s : DSt) (name : Str) (l : List Str) (z : Int) : DSt × Int × (List Str × Int) :=
  if (writeR s name []).2 ≠ 0 then ((writeR s name []).1, (writeR s name []).2, (l, z))
  else if (syncF (writeR s name []).1).2 ≠ 0 then ((syncF (writeR s name []).1).1, (syncF (writeR s name []).1).2, (l, z))
  else ((syncF (writeR s name []).1).1, 0, ([], 0))

theorem u_SameTexts (xs ys : List Str)  (m : AMem)  (K : AV → AMem → Prop) (hK : K (.bool (decide (xs = ys))) m) : ACalls Try.prog 19 [.slice false (xs.map strAV), .slice false (ys.map strAV)] m K := by
 refine acalls_enter Try.func19 rfl (by decide) (Nat.le_of_ble_eq_true rfl) ?_
 refine awp_bd 0 (x := .slice false (xs.map strAV)) rfl (fun hbd0 => ?_)
 have hbd0_0 : xs.length ≤ 140737488355328 := bd_map (o := false) hbd0
 show AWP _ _ _ _ [(0, .slice false (xs.map strAV)), (1, .slice false (ys.map strAV))] m
 refine awp_reg2_seq [] [0, 1] (by decide) ?_
 intro K1 hK1
 refine ⟨trivial, ?_⟩
 show K1 [(0, .slice false (xs.map strAV)), (1, .slice false (ys.map strAV))] m
 refine hK1 _ _ ?_; clear hK1 K1
 refine awp_seq_k ?_; intro K2 hK2
 refine awp_reg2_seq [] [0, 1, 10] (by decide) ?_
 intro K1 hK1
 refine ⟨trivial, ?_⟩
 refine ar_len rfl strAV xs rfl rfl rfl ?_
 refine ⟨trivial, ?_⟩
 refine ar_len rfl strAV ys rfl rfl rfl ?_
 refine ⟨trivial, ?_⟩
 show K1 [(0, .slice false (xs.map strAV)), (1, .slice false (ys.map strAV)), (10, .bool (!((xs.length : Int) == (ys.length : Int))))] m
 refine hK1 _ _ ?_; clear hK1 K1
 refine awp_cond rfl rfl (fun h1 => ?_) (fun h1 => ?_)
 ·
  replace h1 : (xs.length : Int) ≠ (ys.length : Int) := (ne_of_beq_false (bnT h1))
  refine awp_reg2_seq [] [4] (by decide) ?_
  intro K1 hK1
  refine ⟨trivial, ?_⟩
  show K1 [(4, .bool false)] m
  refine hK1 _ _ ?_; clear hK1 K1
  refine awp_ret ?_
  refine ⟨trivial, m, fun _ _ h => h, ?_⟩
  show K (.bool false) m
 
  refine K_eq hK (congrArg AV.bool ?_)
  simp only [decide_eq_false_iff_not]; rintro rfl; omega
 ·
  replace h1 : (xs.length : Int) = (ys.length : Int) := (eq_of_beq (bnF h1))
  refine awp_skip ?_
  refine hK2 _ _ ?_; clear hK2
  refine awp_seq_k ?_; intro K3 hK3
  refine awp_reg2_seq [] [0, 1, 5] (by decide) ?_
  intro K1 hK1
  refine ⟨trivial, ?_⟩
  show K1 [(0, .slice false (xs.map strAV)), (1, .slice false (ys.map strAV)), (5, .int .i64 0)] m
  refine hK1 _ _ ?_; clear hK1 K1
  refine awp_block ?_
  refine awp_keep [0, 1, 5] (by decide) ?_
  refine awp_loop_st (σ := Int) (fun i => [(0, .slice false (xs.map strAV)), (1, .slice false (ys.map strAV)), (5, .int .i64 i)]) (fun _ => m) (fun i => 0 ≤ i ∧ i ≤ xs.length ∧ xs.take i.toNat = ys.take i.toNat) (fun i => xs.length - i.toNat) (0) rfl rfl ?_ ?_
  ·
   show 0 ≤ ((0 : Int)) ∧ ((0 : Int)) ≤ xs.length ∧ xs.take ((0 : Int)).toNat = ys.take ((0 : Int)).toNat
   exact ⟨by omega, by omega, rfl⟩
  ·
   rintro i hI
   replace hI : 0 ≤ i ∧ i ≤ xs.length ∧ xs.take i.toNat = ys.take i.toNat := hI
   show AWP _ _ _ _ [(0, .slice false (xs.map strAV)), (1, .slice false (ys.map strAV)), (5, .int .i64 i)] m
   refine awp_seq_k ?_; intro K4 hK4
   refine awp_reg2_seq [] [0, 1, 5, 14] (by decide) ?_
   intro K1 hK1
   refine ⟨trivial, trivial, ?_⟩
   refine ar_len rfl strAV xs rfl rfl rfl ?_
   refine ⟨trivial, ?_⟩
   show K1 [(0, .slice false (xs.map strAV)), (1, .slice false (ys.map strAV)), (5, .int .i64 i), (14, .bool (decide (i < (xs.length : Int))))] m
   refine hK1 _ _ ?_; clear hK1 K1
   refine awp_cond rfl rfl (fun h2 => ?_) (fun h2 => ?_)
   ·
    replace h2 : i < (xs.length : Int) := (of_decide_eq_true h2)
    refine awp_skip ?_
    refine hK4 _ _ ?_; clear hK4
    refine awp_seq_k ?_; intro K5 hK5
    refine awp_block ?_
    refine awp_draw_seq Try.mixed [] [0, 1, 5, 25] (by decide) (by decide) ?_
    intro K1 hK1
    refine ⟨trivial, trivial, ?_⟩
    refine pq_index rfl strAV xs i rfl rfl rfl rfl rfl (by decide) (fun _ => rfl) (by omega) (by omega) ?_
    refine ⟨(apartOk_one rfl rfl (Nat.le_of_ble_eq_true rfl)), trivial, trivial, ?_⟩
    refine pq_index rfl strAV ys i rfl rfl rfl rfl rfl (by decide) (fun _ => rfl) (by omega) (by omega) ?_
    refine ⟨(apartOk_one rfl rfl (Nat.le_of_ble_eq_true rfl)), trivial, ?_⟩
    show K1 [(0, .slice false (xs.map strAV)), (1, .slice false (ys.map strAV)), (5, .int .i64 i), (25, .bool (!((gI xs i) == (gI ys i))))] m
    refine hK1 _ _ ?_; clear hK1 K1
    refine awp_cond rfl rfl (fun h3 => ?_) (fun h3 => ?_)
    ·
     replace h3 : gI xs i ≠ gI ys i := (ne_of_beq_false (bnT h3))
     refine awp_reg2_seq [] [4] (by decide) ?_
     intro K1 hK1
     refine ⟨trivial, ?_⟩
     show K1 [(4, .bool false)] m
     refine hK1 _ _ ?_; clear hK1 K1
     refine awp_ret ?_
     refine ⟨trivial, m, fun _ _ h => h, ?_⟩
     show K (.bool false) m
    
     refine K_eq hK (congrArg AV.bool ?_)
     simp only [decide_eq_false_iff_not]; rintro rfl; simp at h3
    ·
     replace h3 : gI xs i = gI ys i := (eq_of_beq (bnF h3))
     refine awp_skip ?_
     refine hK5 _ _ ?_; clear hK5
     refine awp_reg2 [] [0, 1, 5] (by decide) ?_
     intro K1 hK1
     refine ⟨trivial, ?_⟩
     refine ar_add rfl (a := i) (b := 1) rfl rfl (by omega) (by omega) ?_
     refine ⟨trivial, ?_⟩
     show K1 [(0, .slice false (xs.map strAV)), (1, .slice false (ys.map strAV)), (5, .int .i64 (i + 1))] m
     refine hK1 _ _ ?_; clear hK1 K1
     refine ⟨(i + 1), rfl, rfl, ?_, ?_⟩
     ·
      show 0 ≤ ((i + 1 : Int)) ∧ ((i + 1 : Int)) ≤ xs.length ∧ xs.take ((i + 1 : Int)).toNat = ys.take ((i + 1 : Int)).toNat
      exact ⟨by omega, by omega, take_gI hI.1 h2 (by omega) hI.2.2 h3⟩
     ·
      show xs.length - ((i + 1 : Int)).toNat < xs.length - i.toNat
      omega
   ·
    replace h2 : (xs.length : Int) ≤ i := (Int.not_lt.1 (of_decide_eq_false h2))
    refine awp_exit ?_
    refine hK3 _ _ ?_; clear hK3
    refine awp_reg2_seq [] [4] (by decide) ?_
    intro K1 hK1
    refine ⟨trivial, ?_⟩
    show K1 [(4, .bool true)] m
    refine hK1 _ _ ?_; clear hK1 K1
    refine awp_ret ?_
    refine ⟨trivial, m, fun _ _ h => h, ?_⟩
    show K (.bool true) m
   
    refine K_eq hK (congrArg AV.bool ?_)
    rw [decide_eq_true_eq]; exact take_all h1 (by omega) hI.2.2

theorem u_same (e f : Int) (he : 0 ≤ e) (m : AMem)  (K : AV → AMem → Prop) (hK : K (.bool (e == f)) m) : ACalls Try.prog 14 [.err 108 e, .int .i64 f] m K := by
 refine acalls_enter Try.func14 rfl (by decide) (Nat.le_of_ble_eq_true rfl) ?_
 show AWP _ _ _ _ [(0, .err 108 e), (1, .int .i64 f)] m
 refine awp_reg2_seq [] [0, 1] (by decide) ?_
 intro K1 hK1
 refine ⟨trivial, ?_⟩
 show K1 [(0, .err 108 e), (1, .int .i64 f)] m
 refine hK1 _ _ ?_; clear hK1 K1
 refine awp_seq_k ?_; intro K2 hK2
 refine awp_reg2_seq [] [0, 1, 8] (by decide) ?_
 intro K1 hK1
 refine ⟨trivial, ⟨rfl, rfl⟩, ?_⟩
 show K1 [(0, .err 108 e), (1, .int .i64 f), (8, .bool (e == 0))] m
 refine hK1 _ _ ?_; clear hK1 K1
 refine awp_cond rfl rfl (fun h1 => ?_) (fun h1 => ?_)
 ·
  replace h1 : e = 0 := (eq_of_beq h1)
  refine awp_reg2_seq [] [4] (by decide) ?_
  intro K1 hK1
  refine ⟨trivial, trivial, trivial, ?_⟩
  show K1 [(4, .bool (f == 0))] m
  refine hK1 _ _ ?_; clear hK1 K1
  refine awp_ret ?_
  refine ⟨trivial, m, fun _ _ h => h, ?_⟩
  show K (.bool (f == 0)) m
 
  refine K_eq hK (congrArg AV.bool ?_)
  rw [Bool.eq_iff_iff]; simp; omega
 ·
  replace h1 : e ≠ 0 := (ne_of_beq_false h1)
  refine awp_skip ?_
  refine hK2 _ _ ?_; clear hK2
  refine awp_reg2_seq [] [1, 5, 6] (by decide) ?_
  intro K1 hK1
  refine ⟨trivial, rfl, trivial, (Nat.le_of_ble_eq_true rfl), (Nat.le_of_ble_eq_true rfl), trivial, trivial, ?_⟩
  show K1 [(1, .int .i64 f), (5, .int .i64 e), (6, .bool (!(e == 0)))] m
  refine hK1 _ _ ?_; clear hK1 K1
  refine awp_reg2_seq [] [4] (by decide) ?_
  intro K1 hK1
  suffices key : K1 [(4, .bool (((!(e == 0)) && (decide (0 < f))) && (e == f)))] m by
   refine ⟨trivial, trivial, ?_⟩
   show aopsR _ _ _ _ _ [(17, .bool (!(e == 0))), (16, .bool (!(e == 0))), (1, .int .i64 f), (5, .int .i64 e), (6, .bool (!(e == 0)))] _
   revert key
   cases h2 : (e == 0)
   ·
    replace h2 : e ≠ 0 := (ne_of_beq_false h2)
    intro key
    refine ⟨trivial, trivial, ?_⟩
    refine ⟨trivial, ?_⟩
    show aopsR _ _ _ _ _ [(21, .bool (decide (0 < f))), (20, .bool (decide (0 < f))), (19, .bool (decide (0 < f))), (18, .int .i64 f), (17, .bool true), (16, .bool true), (1, .int .i64 f), (5, .int .i64 e), (6, .bool true)] _
    revert key
    cases h3 : (decide (0 < f))
    ·
     replace h3 : f ≤ 0 := (Int.not_lt.1 (of_decide_eq_false h3))
     intro key
     refine ar_off rfl (ar_off rfl (ar_off rfl ?_))
     refine ⟨trivial, ?_⟩
     exact key
    ·
     replace h3 : 0 < f := (of_decide_eq_true h3)
     intro key
     refine ⟨trivial, trivial, trivial, ?_⟩
     refine ⟨trivial, ?_⟩
     exact key
   ·
    replace h2 : e = 0 := (eq_of_beq h2)
    intro key
    refine ar_off rfl (ar_off rfl ?_)
    refine ⟨trivial, ?_⟩
    refine ar_off rfl (ar_off rfl (ar_off rfl ?_))
    refine ⟨trivial, ?_⟩
    exact key
  refine hK1 _ _ ?_; clear hK1 K1
  refine awp_ret ?_
  refine ⟨trivial, m, fun _ _ h => h, ?_⟩
  show K (.bool (((!(e == 0)) && (decide (0 < f))) && (e == f))) m
 
  refine K_eq hK (congrArg AV.bool ?_)
  rw [Bool.eq_iff_iff]; simp; omega

theorem u_Size (x d : Nat) (name : Str) (l : List Str) (z : Int)  (m : AMem)  (K : AV → AMem → Prop) (hK : K (.int .i64 z) (AMem.wth m [(x, .cells [.ptr ⟨d, 0, none⟩, .str name, .slice true (l.map strAV), .int .i64 z])])) : ACalls Try.prog 18 [.ptr ⟨x, 0, none⟩] (AMem.wth m [(x, .cells [.ptr ⟨d, 0, none⟩, .str name, .slice true (l.map strAV), .int .i64 z])]) K := by
 refine acalls_enter Try.func18 rfl (by decide) (Nat.le_of_ble_eq_true rfl) ?_
 show AWP _ _ _ _ [(0, .ptr ⟨x, 0, none⟩)] (AMem.wth m [(x, .cells [.ptr ⟨d, 0, none⟩, .str name, .slice true (l.map strAV), .int .i64 z])])
 refine awp_reg2_seq [] [0] (by decide) ?_
 intro K1 hK1
 refine ⟨trivial, ?_⟩
 show K1 [(0, .ptr ⟨x, 0, none⟩)] (AMem.wth m [(x, .cells [.ptr ⟨d, 0, none⟩, .str name, .slice true (l.map strAV), .int .i64 z])])
 refine hK1 _ _ ?_; clear hK1 K1
 refine awp_reg2_seq [] [2] (by decide) ?_
 intro K1 hK1
 refine ⟨trivial, trivial, ⟨rfl, by decide⟩, ?_⟩
 refine ar_loadp rfl (m := m) (L := [(x, .cells [.ptr ⟨d, 0, none⟩, .str name, .slice true (l.map strAV), .int .i64 z])]) (v := .int .i64 z) rfl (wth_get 0 (nodup_1 x) rfl) rfl (apartOk_one rfl rfl (Nat.le_of_ble_eq_true rfl)) rfl ?_
 refine ⟨trivial, ?_⟩
 show K1 [(2, .int .i64 z)] (AMem.wth m [(x, .cells [.ptr ⟨d, 0, none⟩, .str name, .slice true (l.map strAV), .int .i64 z])])
 refine hK1 _ _ ?_; clear hK1 K1
 refine awp_ret ?_
 refine ⟨trivial, (AMem.wth m [(x, .cells [.ptr ⟨d, 0, none⟩, .str name, .slice true (l.map strAV), .int .i64 z])]), fun _ _ h => h, ?_⟩
 show K (.int .i64 z) (AMem.wth m [(x, .cells [.ptr ⟨d, 0, none⟩, .str name, .slice true (l.map strAV), .int .i64 z])])

 exact hK

theorem u_Records (x d : Nat) (name : Str) (l : List Str) (z : Int) (hl : l.length ≤ 1000000) (m : AMem)  (K : AV → AMem → Prop) (hK : K (.slice true (l.map strAV)) (AMem.wth m [(x, .cells [.ptr ⟨d, 0, none⟩, .str name, .slice true (l.map strAV), .int .i64 z])])) : ACalls Try.prog 20 [.ptr ⟨x, 0, none⟩] (AMem.wth m [(x, .cells [.ptr ⟨d, 0, none⟩, .str name, .slice true (l.map strAV), .int .i64 z])]) K := by
 refine acalls_enter Try.func20 rfl (by decide) (Nat.le_of_ble_eq_true rfl) ?_
 show AWP _ _ _ _ [(0, .ptr ⟨x, 0, none⟩)] (AMem.wth m [(x, .cells [.ptr ⟨d, 0, none⟩, .str name, .slice true (l.map strAV), .int .i64 z])])
 refine awp_reg2_seq [] [0] (by decide) ?_
 intro K1 hK1
 refine ⟨trivial, ?_⟩
 show K1 [(0, .ptr ⟨x, 0, none⟩)] (AMem.wth m [(x, .cells [.ptr ⟨d, 0, none⟩, .str name, .slice true (l.map strAV), .int .i64 z])])
 refine hK1 _ _ ?_; clear hK1 K1
 refine awp_reg2_seq [] [2] (by decide) ?_
 intro K1 hK1
 refine ⟨trivial, trivial, ⟨rfl, by decide⟩, ?_⟩
 refine ar_loadp rfl (m := m) (L := [(x, .cells [.ptr ⟨d, 0, none⟩, .str name, .slice true (l.map strAV), .int .i64 z])]) (v := .slice false (l.map strAV)) rfl (wth_get 0 (nodup_1 x) rfl) rfl (apartOk_one rfl rfl (Nat.le_of_ble_eq_true rfl)) rfl ?_
 refine ar_append0 rfl strAV l rfl rfl rfl rfl (Nat.le_of_ble_eq_true rfl) rfl (by (simp only [show Try.prog.bytesOf 9 = 16 from rfl, List.length_append, List.length_cons, List.length_nil]; omega)) (fun _ => ⟨rfl, rfl⟩) ?_
 refine ⟨trivial, ?_⟩
 show K1 [(2, .slice true (l.map strAV))] (AMem.wth m [(x, .cells [.ptr ⟨d, 0, none⟩, .str name, .slice true (l.map strAV), .int .i64 z])])
 refine hK1 _ _ ?_; clear hK1 K1
 refine awp_ret ?_
 refine ⟨trivial, (AMem.wth m [(x, .cells [.ptr ⟨d, 0, none⟩, .str name, .slice true (l.map strAV), .int .i64 z])]), fun _ _ h => h, ?_⟩
 show K (.slice true (l.map strAV)) (AMem.wth m [(x, .cells [.ptr ⟨d, 0, none⟩, .str name, .slice true (l.map strAV), .int .i64 z])])

 exact hK

set_option maxHeartbeats 8000000 in
theorem u_Add (x d kb nb : Nat) (s : DSt) (name : Str) (l : List Str) (z : Int) (t : Str) (N : Nat) (hN : [x, d, nb, kb].Nodup) (hD : DInv N s) (hNN : N ≤ 4000) (hn : name.length ≤ 16777216) (hl : l.length ≤ 1000000) (hz : 0 ≤ z) (hz2 : z ≤ 1000000) (m : AMem)  (K : AV → AMem → Prop) (hK : K (.err 108 (addR s name l z t).2.1) (AMem.wth m [(x, .cells [.ptr ⟨d, 0, none⟩, .str name, .slice true ((addR s name l z t).2.2.1.map strAV), .int .i64 (addR s name l z t).2.2.2]), (d, dObj kb nb (addR s name l z t).1), (nb, mObj (addR s name l z t).1.now), (kb, mObj (addR s name l z t).1.kept)])) : ACalls Try.prog 21 [.ptr ⟨x, 0, none⟩, .str t] (AMem.wth m [(x, .cells [.ptr ⟨d, 0, none⟩, .str name, .slice true (l.map strAV), .int .i64 z]), (d, dObj kb nb s), (nb, mObj s.now), (kb, mObj s.kept)]) K := by
 have hfl := framedL_len t
 refine acalls_enter Try.func21 rfl (by decide) (Nat.le_of_ble_eq_true rfl) ?_
 refine awp_bd 1 (x := .str t) rfl (fun hbd1 => ?_)
 have hbd1_0 : t.length ≤ 140737488355328 := hbd1
 show AWP _ _ _ _ [(0, .ptr ⟨x, 0, none⟩), (1, .str t)] (AMem.wth m [(x, .cells [.ptr ⟨d, 0, none⟩, .str name, .slice true (l.map strAV), .int .i64 z]), (d, dObj kb nb s), (nb, mObj s.now), (kb, mObj s.kept)])
 refine awp_reg2_seq [] [0, 1] (by decide) ?_
 intro K1 hK1
 refine ⟨trivial, ?_⟩
 show K1 [(0, .ptr ⟨x, 0, none⟩), (1, .str t)] (AMem.wth m [(x, .cells [.ptr ⟨d, 0, none⟩, .str name, .slice true (l.map strAV), .int .i64 z]), (d, dObj kb nb s), (nb, mObj s.now), (kb, mObj s.kept)])
 refine hK1 _ _ ?_; clear hK1 K1
 refine awp_seq_k ?_; intro K2 hK2
 refine awp_reg2_seq [] [0, 1, 19] (by decide) ?_
 intro K1 hK1
 suffices key : K1 [(0, .ptr ⟨x, 0, none⟩), (1, .str t), (19, .bool ((decide (400 < (t.length : Int))) || (decide (4000 < (z + (t.length : Int)) + 6))))] (AMem.wth m [(x, .cells [.ptr ⟨d, 0, none⟩, .str name, .slice true (l.map strAV), .int .i64 z]), (d, dObj kb nb s), (nb, mObj s.now), (kb, mObj s.kept)]) by
  refine ⟨trivial, trivial, trivial, trivial, ?_⟩
  show aopsR _ _ _ _ _ [(9, .bool (decide (400 < (t.length : Int)))), (8, .bool (decide (400 < (t.length : Int)))), (7, .int .i64 (t.length : Int)), (6, .str t), (0, .ptr ⟨x, 0, none⟩), (1, .str t)] _
  revert key
  cases h1 : (decide (400 < (t.length : Int)))
  ·
   replace h1 : (t.length : Int) ≤ 400 := (Int.not_lt.1 (of_decide_eq_false h1))
   intro key
   refine ⟨trivial, trivial, ⟨rfl, by decide⟩, ?_⟩
   refine ar_loadp rfl (m := m) (L := [(x, .cells [.ptr ⟨d, 0, none⟩, .str name, .slice true (l.map strAV), .int .i64 z]), (d, dObj kb nb s), (nb, mObj s.now), (kb, mObj s.kept)]) (v := .int .i64 z) rfl (wth_get 0 hN rfl) rfl (apartOk_one rfl rfl (Nat.le_of_ble_eq_true rfl)) rfl ?_
   refine ⟨trivial, trivial, ?_⟩
   refine ar_add rfl (a := z) (b := (t.length : Int)) rfl rfl (by omega) (by omega) ?_
   refine ar_add rfl (a := z + (t.length : Int)) (b := 6) rfl rfl (by omega) (by omega) ?_
   refine ⟨trivial, ?_⟩
   exact key
  ·
   replace h1 : 400 < (t.length : Int) := (of_decide_eq_true h1)
   intro key
   refine ar_off rfl (ar_off rfl (ar_off rfl (ar_off rfl (ar_off rfl (ar_off rfl (ar_off rfl (ar_off rfl (ar_off rfl ?_))))))))
   exact key
 refine hK1 _ _ ?_; clear hK1 K1
 refine awp_cond rfl rfl (fun h2 => ?_) (fun h2 => ?_)
 ·
  replace h2 : (400 < (t.length : Int)) ∨ (4000 < (z + (t.length : Int)) + 6) := ((borT h2).imp (fun q => (of_decide_eq_true q)) (fun q => (of_decide_eq_true q)))
  refine awp_reg2_seq [] [4] (by decide) ?_
  intro K1 hK1
  refine ⟨trivial, trivial, ?_⟩
  show K1 [(4, .iface 108 (.int .i64 2))] (AMem.wth m [(x, .cells [.ptr ⟨d, 0, none⟩, .str name, .slice true (l.map strAV), .int .i64 z]), (d, dObj kb nb s), (nb, mObj s.now), (kb, mObj s.kept)])
  refine hK1 _ _ ?_; clear hK1 K1
  refine awp_toErr 108 [4] ?_
  show AWP _ _ _ _ [(4, .err 108 2)] (AMem.wth m [(x, .cells [.ptr ⟨d, 0, none⟩, .str name, .slice true (l.map strAV), .int .i64 z]), (d, dObj kb nb s), (nb, mObj s.now), (kb, mObj s.kept)])
  refine awp_ret ?_
  refine ⟨trivial, (AMem.wth m [(x, .cells [.ptr ⟨d, 0, none⟩, .str name, .slice true (l.map strAV), .int .i64 z]), (d, dObj kb nb s), (nb, mObj s.now), (kb, mObj s.kept)]), fun _ _ h => h, ?_⟩
  show K (.err 108 2) (AMem.wth m [(x, .cells [.ptr ⟨d, 0, none⟩, .str name, .slice true (l.map strAV), .int .i64 z]), (d, dObj kb nb s), (nb, mObj s.now), (kb, mObj s.kept)])
 
  have e0 : addR s name l z t = ((s, 2, (l, z)) : DSt × Int × (List Str × Int)) := by
   first | (rw [addR, if_pos h2]; done) | (rw [addR, if_neg (by omega), if_neg (by omega), if_pos h4]; done) | (rw [addR, if_neg (by omega), if_neg (by omega), if_neg (by omega)]; done) | (rw [addR, if_neg (by omega), if_pos h5]; done) | (exact absurd h5 h3)
  rw [e0] at hK
  exact hK
 ·
  replace h2 : ((t.length : Int) ≤ 400) ∧ ((z + (t.length : Int)) + 6 ≤ 4000) := ⟨(Int.not_lt.1 (of_decide_eq_false (borL h2))), (Int.not_lt.1 (of_decide_eq_false (borR h2)))⟩
  refine awp_skip ?_
  refine hK2 _ _ ?_; clear hK2
  refine awp_anyA_seq Try.mixed [0, 1, 5] (by decide) ?_
  intro K1 hK1
  intro A hA
  suffices key : ∀ (_ : True), K1 [(0, .ptr ⟨x, 0, none⟩), (1, .str t), (5, .err 108 ((appR s name (framedL t)).2))] (AMem.wth m [(x, .cells [.ptr ⟨d, 0, none⟩, .str name, .slice true (l.map strAV), .int .i64 z]), (d, dObj kb nb ((appR s name (framedL t)).1)), (nb, mObj ((appR s name (framedL t)).1.now)), (kb, mObj ((appR s name (framedL t)).1.kept))]) by
   have s0 : ∀ (_ : True), A 0 #[true, true, true, true, true, true, true, true, true, true, true, true] (fun fr m => K1 (fr.keep [0, 1, 5]) m) [(0, .ptr ⟨x, 0, none⟩), (1, .str t), (5, .err 108 ((appR s name (framedL t)).2))] (AMem.wth m [(x, .cells [.ptr ⟨d, 0, none⟩, .str name, .slice true (l.map strAV), .int .i64 z]), (d, dObj kb nb ((appR s name (framedL t)).1)), (nb, mObj ((appR s name (framedL t)).1.now)), (kb, mObj ((appR s name (framedL t)).1.kept))]) := by
    intro _
    subst hA
    exact AAny.done (by decide +kernel) (key trivial)
   have s1 : ∀ (_ : True), A 1 #[true, true, true, true, true, true, true, true, true, true, true, false] (fun fr m => K1 (fr.keep [0, 1, 5]) m) [(0, .ptr ⟨x, 0, none⟩), (1, .str t), (31, .err 108 ((appR s name (framedL t)).2))] (AMem.wth m [(x, .cells [.ptr ⟨d, 0, none⟩, .str name, .slice true (l.map strAV), .int .i64 z]), (d, dObj kb nb ((appR s name (framedL t)).1)), (nb, mObj ((appR s name (framedL t)).1.now)), (kb, mObj ((appR s name (framedL t)).1.kept))]) := by
    intro _
    subst hA
    refine AAny.step [] [11] (by decide +kernel) (by simp) (by decide) ⟨?_, trivial⟩
    ·
     show aopsR _ _ _ [_] _ _ _
     refine ⟨trivial, ?_⟩
     refine AAny.keep [0, 1, 5] (by decide) ?_
     exact s0 trivial
   have s2 : ∀ (_ : True), A 2 #[true, true, true, true, true, true, true, true, true, true, false, false] (fun fr m => K1 (fr.keep [0, 1, 5]) m) [(0, .ptr ⟨x, 0, none⟩), (1, .str t), (24, .ptr ⟨d, 0, none⟩), (28, .str name), (30, .str (framedL t))] (AMem.wth m [(x, .cells [.ptr ⟨d, 0, none⟩, .str name, .slice true (l.map strAV), .int .i64 z]), (d, dObj kb nb s), (nb, mObj s.now), (kb, mObj s.kept)]) := by
    intro _
    subst hA
    refine AAny.step [] [10] (by decide +kernel) (by simp) (by decide) ⟨?_, trivial⟩
    ·
     show aopsR _ _ _ [_] _ _ _
     refine ar_mem (wth_split hN (pick_perm [1, 1, 1] _)) ?_
     refine u_App3 d kb nb s name (framedL t) N (by have q := hN; simp at q ⊢; omega) hD (by omega) (by first | assumption | omega | (simp; done)) (by first | assumption | omega | (simp; done)) _ _ ?_
     show aopsR _ _ _ _ _ _ (AMem.wth (AMem.wth m [(x, .cells [.ptr ⟨d, 0, none⟩, .str name, .slice true (l.map strAV), .int .i64 z])]) [(d, dObj kb nb ((appR s name (framedL t)).1)), (nb, mObj ((appR s name (framedL t)).1.now)), (kb, mObj ((appR s name (framedL t)).1.kept))])
     refine ar_mem (wth_split (m := m) (L := [(x, .cells [.ptr ⟨d, 0, none⟩, .str name, .slice true (l.map strAV), .int .i64 z]), (d, dObj kb nb ((appR s name (framedL t)).1)), (nb, mObj ((appR s name (framedL t)).1.now)), (kb, mObj ((appR s name (framedL t)).1.kept))]) hN (pick_perm [1, 1, 1] _)).symm ?_
     refine AAny.keep [0, 1, 31] (by decide) ?_
     exact s1 trivial
   have s3 : ∀ (_ : True), A 3 #[true, true, true, true, true, true, true, true, true, false, false, false] (fun fr m => K1 (fr.keep [0, 1, 5]) m) [(0, .ptr ⟨x, 0, none⟩), (1, .str t), (24, .ptr ⟨d, 0, none⟩), (28, .str name), (29, .str t)] (AMem.wth m [(x, .cells [.ptr ⟨d, 0, none⟩, .str name, .slice true (l.map strAV), .int .i64 z]), (d, dObj kb nb s), (nb, mObj s.now), (kb, mObj s.kept)]) := by
    intro _
    subst hA
    refine AAny.step [] [9] (by decide +kernel) (by simp) (by decide) ⟨?_, trivial⟩
    ·
     show aopsR _ _ _ [_] _ _ _
     refine u_frame t (by omega) _ _ ?_
     refine AAny.keep [0, 1, 24, 28, 30] (by decide) ?_
     exact s2 trivial
   have s4 : ∀ (_ : True), A 3 #[true, true, true, true, true, true, true, false, true, true, false, false] (fun fr m => K1 (fr.keep [0, 1, 5]) m) [(0, .ptr ⟨x, 0, none⟩), (1, .str t), (24, .ptr ⟨d, 0, none⟩), (27, .ptr ⟨x, 1, none⟩), (30, .str (framedL t))] (AMem.wth m [(x, .cells [.ptr ⟨d, 0, none⟩, .str name, .slice true (l.map strAV), .int .i64 z]), (d, dObj kb nb s), (nb, mObj s.now), (kb, mObj s.kept)]) := by
    intro _
    subst hA
    refine AAny.step [] [7] (by decide +kernel) (by simp) (by decide) ⟨?_, trivial⟩
    ·
     show aopsR _ _ _ [_] _ _ _
     refine ar_loadp rfl (m := m) (L := [(x, .cells [.ptr ⟨d, 0, none⟩, .str name, .slice true (l.map strAV), .int .i64 z]), (d, dObj kb nb s), (nb, mObj s.now), (kb, mObj s.kept)]) (v := .str name) rfl (wth_get 0 hN rfl) rfl (apartOk_one rfl rfl (Nat.le_of_ble_eq_true rfl)) rfl ?_
     refine AAny.keep [0, 1, 24, 28, 30] (by decide) ?_
     exact s2 trivial
   have s5 : ∀ (_ : True), A 3 #[true, true, true, false, true, true, true, true, true, true, false, false] (fun fr m => K1 (fr.keep [0, 1, 5]) m) [(0, .ptr ⟨x, 0, none⟩), (1, .str t), (23, .ptr ⟨x, 0, none⟩), (28, .str name), (30, .str (framedL t))] (AMem.wth m [(x, .cells [.ptr ⟨d, 0, none⟩, .str name, .slice true (l.map strAV), .int .i64 z]), (d, dObj kb nb s), (nb, mObj s.now), (kb, mObj s.kept)]) := by
    intro _
    subst hA
    refine AAny.step [] [3] (by decide +kernel) (by simp) (by decide) ⟨?_, trivial⟩
    ·
     show aopsR _ _ _ [_] _ _ _
     refine ar_loadp rfl (m := m) (L := [(x, .cells [.ptr ⟨d, 0, none⟩, .str name, .slice true (l.map strAV), .int .i64 z]), (d, dObj kb nb s), (nb, mObj s.now), (kb, mObj s.kept)]) (v := .ptr ⟨d, 0, none⟩) rfl (wth_get 0 hN rfl) rfl (apartOk_one rfl rfl (Nat.le_of_ble_eq_true rfl)) rfl ?_
     refine AAny.keep [0, 1, 24, 28, 30] (by decide) ?_
     exact s2 trivial
   have s6 : ∀ (_ : True), A 4 #[true, true, true, true, true, true, true, true, false, false, false, false] (fun fr m => K1 (fr.keep [0, 1, 5]) m) [(0, .ptr ⟨x, 0, none⟩), (1, .str t), (24, .ptr ⟨d, 0, none⟩), (28, .str name)] (AMem.wth m [(x, .cells [.ptr ⟨d, 0, none⟩, .str name, .slice true (l.map strAV), .int .i64 z]), (d, dObj kb nb s), (nb, mObj s.now), (kb, mObj s.kept)]) := by
    intro _
    subst hA
    refine AAny.step [] [8] (by decide +kernel) (by simp) (by decide) ⟨?_, trivial⟩
    ·
     show aopsR _ _ _ [_] _ _ _
     refine ⟨trivial, ?_⟩
     refine AAny.keep [0, 1, 24, 28, 29] (by decide) ?_
     exact s3 trivial
   have s7 : ∀ (_ : True), A 4 #[true, true, true, true, true, true, true, false, true, false, false, false] (fun fr m => K1 (fr.keep [0, 1, 5]) m) [(0, .ptr ⟨x, 0, none⟩), (1, .str t), (24, .ptr ⟨d, 0, none⟩), (27, .ptr ⟨x, 1, none⟩), (29, .str t)] (AMem.wth m [(x, .cells [.ptr ⟨d, 0, none⟩, .str name, .slice true (l.map strAV), .int .i64 z]), (d, dObj kb nb s), (nb, mObj s.now), (kb, mObj s.kept)]) := by
    intro _
    subst hA
    refine AAny.step [] [7, 9] (by decide +kernel) (by simp) (by decide) ⟨?_, ?_, trivial⟩
    ·
     show aopsR _ _ _ [_] _ _ _
     refine ar_loadp rfl (m := m) (L := [(x, .cells [.ptr ⟨d, 0, none⟩, .str name, .slice true (l.map strAV), .int .i64 z]), (d, dObj kb nb s), (nb, mObj s.now), (kb, mObj s.kept)]) (v := .str name) rfl (wth_get 0 hN rfl) rfl (apartOk_one rfl rfl (Nat.le_of_ble_eq_true rfl)) rfl ?_
     refine AAny.keep [0, 1, 24, 28, 29] (by decide) ?_
     exact s3 trivial
    ·
     show aopsR _ _ _ [_] _ _ _
     refine u_frame t (by omega) _ _ ?_
     refine AAny.keep [0, 1, 24, 27, 30] (by decide) ?_
     exact s4 trivial
   have s8 : ∀ (_ : True), A 4 #[true, true, true, true, true, true, false, false, true, true, false, false] (fun fr m => K1 (fr.keep [0, 1, 5]) m) [(0, .ptr ⟨x, 0, none⟩), (1, .str t), (24, .ptr ⟨d, 0, none⟩), (26, .ptr ⟨x, 0, none⟩), (30, .str (framedL t))] (AMem.wth m [(x, .cells [.ptr ⟨d, 0, none⟩, .str name, .slice true (l.map strAV), .int .i64 z]), (d, dObj kb nb s), (nb, mObj s.now), (kb, mObj s.kept)]) := by
    intro _
    subst hA
    refine AAny.step [] [6] (by decide +kernel) (by simp) (by decide) ⟨?_, trivial⟩
    ·
     show aopsR _ _ _ [_] _ _ _
     refine ⟨⟨rfl, by decide⟩, ?_⟩
     refine AAny.keep [0, 1, 24, 27, 30] (by decide) ?_
     exact s4 trivial
   have s9 : ∀ (_ : True), A 4 #[true, true, true, false, true, true, true, true, true, false, false, false] (fun fr m => K1 (fr.keep [0, 1, 5]) m) [(0, .ptr ⟨x, 0, none⟩), (1, .str t), (23, .ptr ⟨x, 0, none⟩), (28, .str name), (29, .str t)] (AMem.wth m [(x, .cells [.ptr ⟨d, 0, none⟩, .str name, .slice true (l.map strAV), .int .i64 z]), (d, dObj kb nb s), (nb, mObj s.now), (kb, mObj s.kept)]) := by
    intro _
    subst hA
    refine AAny.step [] [3, 9] (by decide +kernel) (by simp) (by decide) ⟨?_, ?_, trivial⟩
    ·
     show aopsR _ _ _ [_] _ _ _
     refine ar_loadp rfl (m := m) (L := [(x, .cells [.ptr ⟨d, 0, none⟩, .str name, .slice true (l.map strAV), .int .i64 z]), (d, dObj kb nb s), (nb, mObj s.now), (kb, mObj s.kept)]) (v := .ptr ⟨d, 0, none⟩) rfl (wth_get 0 hN rfl) rfl (apartOk_one rfl rfl (Nat.le_of_ble_eq_true rfl)) rfl ?_
     refine AAny.keep [0, 1, 24, 28, 29] (by decide) ?_
     exact s3 trivial
    ·
     show aopsR _ _ _ [_] _ _ _
     refine u_frame t (by omega) _ _ ?_
     refine AAny.keep [0, 1, 23, 28, 30] (by decide) ?_
     exact s5 trivial
   have s10 : ∀ (_ : True), A 4 #[true, true, true, false, true, true, true, false, true, true, false, false] (fun fr m => K1 (fr.keep [0, 1, 5]) m) [(0, .ptr ⟨x, 0, none⟩), (1, .str t), (23, .ptr ⟨x, 0, none⟩), (27, .ptr ⟨x, 1, none⟩), (30, .str (framedL t))] (AMem.wth m [(x, .cells [.ptr ⟨d, 0, none⟩, .str name, .slice true (l.map strAV), .int .i64 z]), (d, dObj kb nb s), (nb, mObj s.now), (kb, mObj s.kept)]) := by
    intro _
    subst hA
    refine AAny.step [] [3, 7] (by decide +kernel) (by simp) (by decide) ⟨?_, ?_, trivial⟩
    ·
     show aopsR _ _ _ [_] _ _ _
     refine ar_loadp rfl (m := m) (L := [(x, .cells [.ptr ⟨d, 0, none⟩, .str name, .slice true (l.map strAV), .int .i64 z]), (d, dObj kb nb s), (nb, mObj s.now), (kb, mObj s.kept)]) (v := .ptr ⟨d, 0, none⟩) rfl (wth_get 0 hN rfl) rfl (apartOk_one rfl rfl (Nat.le_of_ble_eq_true rfl)) rfl ?_
     refine AAny.keep [0, 1, 24, 27, 30] (by decide) ?_
     exact s4 trivial
    ·
     show aopsR _ _ _ [_] _ _ _
     refine ar_loadp rfl (m := m) (L := [(x, .cells [.ptr ⟨d, 0, none⟩, .str name, .slice true (l.map strAV), .int .i64 z]), (d, dObj kb nb s), (nb, mObj s.now), (kb, mObj s.kept)]) (v := .str name) rfl (wth_get 0 hN rfl) rfl (apartOk_one rfl rfl (Nat.le_of_ble_eq_true rfl)) rfl ?_
     refine AAny.keep [0, 1, 23, 28, 30] (by decide) ?_
     exact s5 trivial
   have s11 : ∀ (_ : True), A 4 #[true, true, false, false, true, true, true, true, true, true, false, false] (fun fr m => K1 (fr.keep [0, 1, 5]) m) [(0, .ptr ⟨x, 0, none⟩), (1, .str t), (22, .ptr ⟨x, 0, none⟩), (28, .str name), (30, .str (framedL t))] (AMem.wth m [(x, .cells [.ptr ⟨d, 0, none⟩, .str name, .slice true (l.map strAV), .int .i64 z]), (d, dObj kb nb s), (nb, mObj s.now), (kb, mObj s.kept)]) := by
    intro _
    subst hA
    refine AAny.step [] [2] (by decide +kernel) (by simp) (by decide) ⟨?_, trivial⟩
    ·
     show aopsR _ _ _ [_] _ _ _
     refine ⟨⟨rfl, by decide⟩, ?_⟩
     refine AAny.keep [0, 1, 23, 28, 30] (by decide) ?_
     exact s5 trivial
   have s12 : ∀ (_ : True), A 5 #[true, true, true, true, true, true, true, false, false, false, false, false] (fun fr m => K1 (fr.keep [0, 1, 5]) m) [(0, .ptr ⟨x, 0, none⟩), (1, .str t), (24, .ptr ⟨d, 0, none⟩), (27, .ptr ⟨x, 1, none⟩)] (AMem.wth m [(x, .cells [.ptr ⟨d, 0, none⟩, .str name, .slice true (l.map strAV), .int .i64 z]), (d, dObj kb nb s), (nb, mObj s.now), (kb, mObj s.kept)]) := by
    intro _
    subst hA
    refine AAny.step [] [7, 8] (by decide +kernel) (by simp) (by decide) ⟨?_, ?_, trivial⟩
    ·
     show aopsR _ _ _ [_] _ _ _
     refine ar_loadp rfl (m := m) (L := [(x, .cells [.ptr ⟨d, 0, none⟩, .str name, .slice true (l.map strAV), .int .i64 z]), (d, dObj kb nb s), (nb, mObj s.now), (kb, mObj s.kept)]) (v := .str name) rfl (wth_get 0 hN rfl) rfl (apartOk_one rfl rfl (Nat.le_of_ble_eq_true rfl)) rfl ?_
     refine AAny.keep [0, 1, 24, 28] (by decide) ?_
     exact s6 trivial
    ·
     show aopsR _ _ _ [_] _ _ _
     refine ⟨trivial, ?_⟩
     refine AAny.keep [0, 1, 24, 27, 29] (by decide) ?_
     exact s7 trivial
   have s13 : ∀ (_ : True), A 5 #[true, true, true, true, true, true, false, false, true, false, false, false] (fun fr m => K1 (fr.keep [0, 1, 5]) m) [(0, .ptr ⟨x, 0, none⟩), (1, .str t), (24, .ptr ⟨d, 0, none⟩), (26, .ptr ⟨x, 0, none⟩), (29, .str t)] (AMem.wth m [(x, .cells [.ptr ⟨d, 0, none⟩, .str name, .slice true (l.map strAV), .int .i64 z]), (d, dObj kb nb s), (nb, mObj s.now), (kb, mObj s.kept)]) := by
    intro _
    subst hA
    refine AAny.step [] [6, 9] (by decide +kernel) (by simp) (by decide) ⟨?_, ?_, trivial⟩
    ·
     show aopsR _ _ _ [_] _ _ _
     refine ⟨⟨rfl, by decide⟩, ?_⟩
     refine AAny.keep [0, 1, 24, 27, 29] (by decide) ?_
     exact s7 trivial
    ·
     show aopsR _ _ _ [_] _ _ _
     refine u_frame t (by omega) _ _ ?_
     refine AAny.keep [0, 1, 24, 26, 30] (by decide) ?_
     exact s8 trivial
   have s14 : ∀ (_ : True), A 5 #[true, true, true, true, true, false, false, false, true, true, false, false] (fun fr m => K1 (fr.keep [0, 1, 5]) m) [(0, .ptr ⟨x, 0, none⟩), (1, .str t), (24, .ptr ⟨d, 0, none⟩), (25, .ptr ⟨x, 0, none⟩), (30, .str (framedL t))] (AMem.wth m [(x, .cells [.ptr ⟨d, 0, none⟩, .str name, .slice true (l.map strAV), .int .i64 z]), (d, dObj kb nb s), (nb, mObj s.now), (kb, mObj s.kept)]) := by
    intro _
    subst hA
    refine AAny.step [] [5] (by decide +kernel) (by simp) (by decide) ⟨?_, trivial⟩
    ·
     show aopsR _ _ _ [_] _ _ _
     refine ⟨trivial, ?_⟩
     refine AAny.keep [0, 1, 24, 26, 30] (by decide) ?_
     exact s8 trivial
   have s15 : ∀ (_ : True), A 5 #[true, true, true, false, true, true, true, true, false, false, false, false] (fun fr m => K1 (fr.keep [0, 1, 5]) m) [(0, .ptr ⟨x, 0, none⟩), (1, .str t), (23, .ptr ⟨x, 0, none⟩), (28, .str name)] (AMem.wth m [(x, .cells [.ptr ⟨d, 0, none⟩, .str name, .slice true (l.map strAV), .int .i64 z]), (d, dObj kb nb s), (nb, mObj s.now), (kb, mObj s.kept)]) := by
    intro _
    subst hA
    refine AAny.step [] [3, 8] (by decide +kernel) (by simp) (by decide) ⟨?_, ?_, trivial⟩
    ·
     show aopsR _ _ _ [_] _ _ _
     refine ar_loadp rfl (m := m) (L := [(x, .cells [.ptr ⟨d, 0, none⟩, .str name, .slice true (l.map strAV), .int .i64 z]), (d, dObj kb nb s), (nb, mObj s.now), (kb, mObj s.kept)]) (v := .ptr ⟨d, 0, none⟩) rfl (wth_get 0 hN rfl) rfl (apartOk_one rfl rfl (Nat.le_of_ble_eq_true rfl)) rfl ?_
     refine AAny.keep [0, 1, 24, 28] (by decide) ?_
     exact s6 trivial
    ·
     show aopsR _ _ _ [_] _ _ _
     refine ⟨trivial, ?_⟩
     refine AAny.keep [0, 1, 23, 28, 29] (by decide) ?_
     exact s9 trivial
   have s16 : ∀ (_ : True), A 5 #[true, true, true, false, true, true, true, false, true, false, false, false] (fun fr m => K1 (fr.keep [0, 1, 5]) m) [(0, .ptr ⟨x, 0, none⟩), (1, .str t), (23, .ptr ⟨x, 0, none⟩), (27, .ptr ⟨x, 1, none⟩), (29, .str t)] (AMem.wth m [(x, .cells [.ptr ⟨d, 0, none⟩, .str name, .slice true (l.map strAV), .int .i64 z]), (d, dObj kb nb s), (nb, mObj s.now), (kb, mObj s.kept)]) := by
    intro _
    subst hA
    refine AAny.step [] [3, 7, 9] (by decide +kernel) (by simp) (by decide) ⟨?_, ?_, ?_, trivial⟩
    ·
     show aopsR _ _ _ [_] _ _ _
     refine ar_loadp rfl (m := m) (L := [(x, .cells [.ptr ⟨d, 0, none⟩, .str name, .slice true (l.map strAV), .int .i64 z]), (d, dObj kb nb s), (nb, mObj s.now), (kb, mObj s.kept)]) (v := .ptr ⟨d, 0, none⟩) rfl (wth_get 0 hN rfl) rfl (apartOk_one rfl rfl (Nat.le_of_ble_eq_true rfl)) rfl ?_
     refine AAny.keep [0, 1, 24, 27, 29] (by decide) ?_
     exact s7 trivial
    ·
     show aopsR _ _ _ [_] _ _ _
     refine ar_loadp rfl (m := m) (L := [(x, .cells [.ptr ⟨d, 0, none⟩, .str name, .slice true (l.map strAV), .int .i64 z]), (d, dObj kb nb s), (nb, mObj s.now), (kb, mObj s.kept)]) (v := .str name) rfl (wth_get 0 hN rfl) rfl (apartOk_one rfl rfl (Nat.le_of_ble_eq_true rfl)) rfl ?_
     refine AAny.keep [0, 1, 23, 28, 29] (by decide) ?_
     exact s9 trivial
    ·
     show aopsR _ _ _ [_] _ _ _
     refine u_frame t (by omega) _ _ ?_
     refine AAny.keep [0, 1, 23, 27, 30] (by decide) ?_
     exact s10 trivial
   have s17 : ∀ (_ : True), A 5 #[true, true, true, false, true, true, false, false, true, true, false, false] (fun fr m => K1 (fr.keep [0, 1, 5]) m) [(0, .ptr ⟨x, 0, none⟩), (1, .str t), (23, .ptr ⟨x, 0, none⟩), (26, .ptr ⟨x, 0, none⟩), (30, .str (framedL t))] (AMem.wth m [(x, .cells [.ptr ⟨d, 0, none⟩, .str name, .slice true (l.map strAV), .int .i64 z]), (d, dObj kb nb s), (nb, mObj s.now), (kb, mObj s.kept)]) := by
    intro _
    subst hA
    refine AAny.step [] [3, 6] (by decide +kernel) (by simp) (by decide) ⟨?_, ?_, trivial⟩
    ·
     show aopsR _ _ _ [_] _ _ _
     refine ar_loadp rfl (m := m) (L := [(x, .cells [.ptr ⟨d, 0, none⟩, .str name, .slice true (l.map strAV), .int .i64 z]), (d, dObj kb nb s), (nb, mObj s.now), (kb, mObj s.kept)]) (v := .ptr ⟨d, 0, none⟩) rfl (wth_get 0 hN rfl) rfl (apartOk_one rfl rfl (Nat.le_of_ble_eq_true rfl)) rfl ?_
     refine AAny.keep [0, 1, 24, 26, 30] (by decide) ?_
     exact s8 trivial
    ·
     show aopsR _ _ _ [_] _ _ _
     refine ⟨⟨rfl, by decide⟩, ?_⟩
     refine AAny.keep [0, 1, 23, 27, 30] (by decide) ?_
     exact s10 trivial
   have s18 : ∀ (_ : True), A 5 #[true, true, false, false, true, true, true, true, true, false, false, false] (fun fr m => K1 (fr.keep [0, 1, 5]) m) [(0, .ptr ⟨x, 0, none⟩), (1, .str t), (22, .ptr ⟨x, 0, none⟩), (28, .str name), (29, .str t)] (AMem.wth m [(x, .cells [.ptr ⟨d, 0, none⟩, .str name, .slice true (l.map strAV), .int .i64 z]), (d, dObj kb nb s), (nb, mObj s.now), (kb, mObj s.kept)]) := by
    intro _
    subst hA
    refine AAny.step [] [2, 9] (by decide +kernel) (by simp) (by decide) ⟨?_, ?_, trivial⟩
    ·
     show aopsR _ _ _ [_] _ _ _
     refine ⟨⟨rfl, by decide⟩, ?_⟩
     refine AAny.keep [0, 1, 23, 28, 29] (by decide) ?_
     exact s9 trivial
    ·
     show aopsR _ _ _ [_] _ _ _
     refine u_frame t (by omega) _ _ ?_
     refine AAny.keep [0, 1, 22, 28, 30] (by decide) ?_
     exact s11 trivial
   have s19 : ∀ (_ : True), A 5 #[true, true, false, false, true, true, true, false, true, true, false, false] (fun fr m => K1 (fr.keep [0, 1, 5]) m) [(0, .ptr ⟨x, 0, none⟩), (1, .str t), (22, .ptr ⟨x, 0, none⟩), (27, .ptr ⟨x, 1, none⟩), (30, .str (framedL t))] (AMem.wth m [(x, .cells [.ptr ⟨d, 0, none⟩, .str name, .slice true (l.map strAV), .int .i64 z]), (d, dObj kb nb s), (nb, mObj s.now), (kb, mObj s.kept)]) := by
    intro _
    subst hA
    refine AAny.step [] [2, 7] (by decide +kernel) (by simp) (by decide) ⟨?_, ?_, trivial⟩
    ·
     show aopsR _ _ _ [_] _ _ _
     refine ⟨⟨rfl, by decide⟩, ?_⟩
     refine AAny.keep [0, 1, 23, 27, 30] (by decide) ?_
     exact s10 trivial
    ·
     show aopsR _ _ _ [_] _ _ _
     refine ar_loadp rfl (m := m) (L := [(x, .cells [.ptr ⟨d, 0, none⟩, .str name, .slice true (l.map strAV), .int .i64 z]), (d, dObj kb nb s), (nb, mObj s.now), (kb, mObj s.kept)]) (v := .str name) rfl (wth_get 0 hN rfl) rfl (apartOk_one rfl rfl (Nat.le_of_ble_eq_true rfl)) rfl ?_
     refine AAny.keep [0, 1, 22, 28, 30] (by decide) ?_
     exact s11 trivial
   have s20 : ∀ (_ : True), A 5 #[true, false, false, false, true, true, true, true, true, true, false, false] (fun fr m => K1 (fr.keep [0, 1, 5]) m) [(0, .ptr ⟨x, 0, none⟩), (1, .str t), (21, .ptr ⟨x, 0, none⟩), (28, .str name), (30, .str (framedL t))] (AMem.wth m [(x, .cells [.ptr ⟨d, 0, none⟩, .str name, .slice true (l.map strAV), .int .i64 z]), (d, dObj kb nb s), (nb, mObj s.now), (kb, mObj s.kept)]) := by
    intro _
    subst hA
    refine AAny.step [] [1] (by decide +kernel) (by simp) (by decide) ⟨?_, trivial⟩
    ·
     show aopsR _ _ _ [_] _ _ _
     refine ⟨trivial, ?_⟩
     refine AAny.keep [0, 1, 22, 28, 30] (by decide) ?_
     exact s11 trivial
   have s21 : ∀ (_ : True), A 6 #[true, true, true, true, true, true, false, false, false, false, false, false] (fun fr m => K1 (fr.keep [0, 1, 5]) m) [(0, .ptr ⟨x, 0, none⟩), (1, .str t), (24, .ptr ⟨d, 0, none⟩), (26, .ptr ⟨x, 0, none⟩)] (AMem.wth m [(x, .cells [.ptr ⟨d, 0, none⟩, .str name, .slice true (l.map strAV), .int .i64 z]), (d, dObj kb nb s), (nb, mObj s.now), (kb, mObj s.kept)]) := by
    intro _
    subst hA
    refine AAny.step [] [6, 8] (by decide +kernel) (by simp) (by decide) ⟨?_, ?_, trivial⟩
    ·
     show aopsR _ _ _ [_] _ _ _
     refine ⟨⟨rfl, by decide⟩, ?_⟩
     refine AAny.keep [0, 1, 24, 27] (by decide) ?_
     exact s12 trivial
    ·
     show aopsR _ _ _ [_] _ _ _
     refine ⟨trivial, ?_⟩
     refine AAny.keep [0, 1, 24, 26, 29] (by decide) ?_
     exact s13 trivial
   have s22 : ∀ (_ : True), A 6 #[true, true, true, true, true, false, false, false, true, false, false, false] (fun fr m => K1 (fr.keep [0, 1, 5]) m) [(0, .ptr ⟨x, 0, none⟩), (1, .str t), (24, .ptr ⟨d, 0, none⟩), (25, .ptr ⟨x, 0, none⟩), (29, .str t)] (AMem.wth m [(x, .cells [.ptr ⟨d, 0, none⟩, .str name, .slice true (l.map strAV), .int .i64 z]), (d, dObj kb nb s), (nb, mObj s.now), (kb, mObj s.kept)]) := by
    intro _
    subst hA
    refine AAny.step [] [5, 9] (by decide +kernel) (by simp) (by decide) ⟨?_, ?_, trivial⟩
    ·
     show aopsR _ _ _ [_] _ _ _
     refine ⟨trivial, ?_⟩
     refine AAny.keep [0, 1, 24, 26, 29] (by decide) ?_
     exact s13 trivial
    ·
     show aopsR _ _ _ [_] _ _ _
     refine u_frame t (by omega) _ _ ?_
     refine AAny.keep [0, 1, 24, 25, 30] (by decide) ?_
     exact s14 trivial
   have s23 : ∀ (_ : True), A 6 #[true, true, true, true, false, false, false, false, true, true, false, false] (fun fr m => K1 (fr.keep [0, 1, 5]) m) [(0, .ptr ⟨x, 0, none⟩), (1, .str t), (24, .ptr ⟨d, 0, none⟩), (30, .str (framedL t))] (AMem.wth m [(x, .cells [.ptr ⟨d, 0, none⟩, .str name, .slice true (l.map strAV), .int .i64 z]), (d, dObj kb nb s), (nb, mObj s.now), (kb, mObj s.kept)]) := by
    intro _
    subst hA
    refine AAny.step [] [4] (by decide +kernel) (by simp) (by decide) ⟨?_, trivial⟩
    ·
     show aopsR _ _ _ [_] _ _ _
     refine ⟨trivial, ?_⟩
     refine AAny.keep [0, 1, 24, 25, 30] (by decide) ?_
     exact s14 trivial
   have s24 : ∀ (_ : True), A 6 #[true, true, true, false, true, true, true, false, false, false, false, false] (fun fr m => K1 (fr.keep [0, 1, 5]) m) [(0, .ptr ⟨x, 0, none⟩), (1, .str t), (23, .ptr ⟨x, 0, none⟩), (27, .ptr ⟨x, 1, none⟩)] (AMem.wth m [(x, .cells [.ptr ⟨d, 0, none⟩, .str name, .slice true (l.map strAV), .int .i64 z]), (d, dObj kb nb s), (nb, mObj s.now), (kb, mObj s.kept)]) := by
    intro _
    subst hA
    refine AAny.step [] [3, 7, 8] (by decide +kernel) (by simp) (by decide) ⟨?_, ?_, ?_, trivial⟩
    ·
     show aopsR _ _ _ [_] _ _ _
     refine ar_loadp rfl (m := m) (L := [(x, .cells [.ptr ⟨d, 0, none⟩, .str name, .slice true (l.map strAV), .int .i64 z]), (d, dObj kb nb s), (nb, mObj s.now), (kb, mObj s.kept)]) (v := .ptr ⟨d, 0, none⟩) rfl (wth_get 0 hN rfl) rfl (apartOk_one rfl rfl (Nat.le_of_ble_eq_true rfl)) rfl ?_
     refine AAny.keep [0, 1, 24, 27] (by decide) ?_
     exact s12 trivial
    ·
     show aopsR _ _ _ [_] _ _ _
     refine ar_loadp rfl (m := m) (L := [(x, .cells [.ptr ⟨d, 0, none⟩, .str name, .slice true (l.map strAV), .int .i64 z]), (d, dObj kb nb s), (nb, mObj s.now), (kb, mObj s.kept)]) (v := .str name) rfl (wth_get 0 hN rfl) rfl (apartOk_one rfl rfl (Nat.le_of_ble_eq_true rfl)) rfl ?_
     refine AAny.keep [0, 1, 23, 28] (by decide) ?_
     exact s15 trivial
    ·
     show aopsR _ _ _ [_] _ _ _
     refine ⟨trivial, ?_⟩
     refine AAny.keep [0, 1, 23, 27, 29] (by decide) ?_
     exact s16 trivial
   have s25 : ∀ (_ : True), A 6 #[true, true, true, false, true, true, false, false, true, false, false, false] (fun fr m => K1 (fr.keep [0, 1, 5]) m) [(0, .ptr ⟨x, 0, none⟩), (1, .str t), (23, .ptr ⟨x, 0, none⟩), (26, .ptr ⟨x, 0, none⟩), (29, .str t)] (AMem.wth m [(x, .cells [.ptr ⟨d, 0, none⟩, .str name, .slice true (l.map strAV), .int .i64 z]), (d, dObj kb nb s), (nb, mObj s.now), (kb, mObj s.kept)]) := by
    intro _
    subst hA
    refine AAny.step [] [3, 6, 9] (by decide +kernel) (by simp) (by decide) ⟨?_, ?_, ?_, trivial⟩
    ·
     show aopsR _ _ _ [_] _ _ _
     refine ar_loadp rfl (m := m) (L := [(x, .cells [.ptr ⟨d, 0, none⟩, .str name, .slice true (l.map strAV), .int .i64 z]), (d, dObj kb nb s), (nb, mObj s.now), (kb, mObj s.kept)]) (v := .ptr ⟨d, 0, none⟩) rfl (wth_get 0 hN rfl) rfl (apartOk_one rfl rfl (Nat.le_of_ble_eq_true rfl)) rfl ?_
     refine AAny.keep [0, 1, 24, 26, 29] (by decide) ?_
     exact s13 trivial
    ·
     show aopsR _ _ _ [_] _ _ _
     refine ⟨⟨rfl, by decide⟩, ?_⟩
     refine AAny.keep [0, 1, 23, 27, 29] (by decide) ?_
     exact s16 trivial
    ·
     show aopsR _ _ _ [_] _ _ _
     refine u_frame t (by omega) _ _ ?_
     refine AAny.keep [0, 1, 23, 26, 30] (by decide) ?_
     exact s17 trivial
   have s26 : ∀ (_ : True), A 6 #[true, true, true, false, true, false, false, false, true, true, false, false] (fun fr m => K1 (fr.keep [0, 1, 5]) m) [(0, .ptr ⟨x, 0, none⟩), (1, .str t), (23, .ptr ⟨x, 0, none⟩), (25, .ptr ⟨x, 0, none⟩), (30, .str (framedL t))] (AMem.wth m [(x, .cells [.ptr ⟨d, 0, none⟩, .str name, .slice true (l.map strAV), .int .i64 z]), (d, dObj kb nb s), (nb, mObj s.now), (kb, mObj s.kept)]) := by
    intro _
    subst hA
    refine AAny.step [] [3, 5] (by decide +kernel) (by simp) (by decide) ⟨?_, ?_, trivial⟩
    ·
     show aopsR _ _ _ [_] _ _ _
     refine ar_loadp rfl (m := m) (L := [(x, .cells [.ptr ⟨d, 0, none⟩, .str name, .slice true (l.map strAV), .int .i64 z]), (d, dObj kb nb s), (nb, mObj s.now), (kb, mObj s.kept)]) (v := .ptr ⟨d, 0, none⟩) rfl (wth_get 0 hN rfl) rfl (apartOk_one rfl rfl (Nat.le_of_ble_eq_true rfl)) rfl ?_
     refine AAny.keep [0, 1, 24, 25, 30] (by decide) ?_
     exact s14 trivial
    ·
     show aopsR _ _ _ [_] _ _ _
     refine ⟨trivial, ?_⟩
     refine AAny.keep [0, 1, 23, 26, 30] (by decide) ?_
     exact s17 trivial
   have s27 : ∀ (_ : True), A 6 #[true, true, false, false, true, true, true, true, false, false, false, false] (fun fr m => K1 (fr.keep [0, 1, 5]) m) [(0, .ptr ⟨x, 0, none⟩), (1, .str t), (22, .ptr ⟨x, 0, none⟩), (28, .str name)] (AMem.wth m [(x, .cells [.ptr ⟨d, 0, none⟩, .str name, .slice true (l.map strAV), .int .i64 z]), (d, dObj kb nb s), (nb, mObj s.now), (kb, mObj s.kept)]) := by
    intro _
    subst hA
    refine AAny.step [] [2, 8] (by decide +kernel) (by simp) (by decide) ⟨?_, ?_, trivial⟩
    ·
     show aopsR _ _ _ [_] _ _ _
     refine ⟨⟨rfl, by decide⟩, ?_⟩
     refine AAny.keep [0, 1, 23, 28] (by decide) ?_
     exact s15 trivial
    ·
     show aopsR _ _ _ [_] _ _ _
     refine ⟨trivial, ?_⟩
     refine AAny.keep [0, 1, 22, 28, 29] (by decide) ?_
     exact s18 trivial
   have s28 : ∀ (_ : True), A 6 #[true, true, false, false, true, true, true, false, true, false, false, false] (fun fr m => K1 (fr.keep [0, 1, 5]) m) [(0, .ptr ⟨x, 0, none⟩), (1, .str t), (22, .ptr ⟨x, 0, none⟩), (27, .ptr ⟨x, 1, none⟩), (29, .str t)] (AMem.wth m [(x, .cells [.ptr ⟨d, 0, none⟩, .str name, .slice true (l.map strAV), .int .i64 z]), (d, dObj kb nb s), (nb, mObj s.now), (kb, mObj s.kept)]) := by
    intro _
    subst hA
    refine AAny.step [] [2, 7, 9] (by decide +kernel) (by simp) (by decide) ⟨?_, ?_, ?_, trivial⟩
    ·
     show aopsR _ _ _ [_] _ _ _
     refine ⟨⟨rfl, by decide⟩, ?_⟩
     refine AAny.keep [0, 1, 23, 27, 29] (by decide) ?_
     exact s16 trivial
    ·
     show aopsR _ _ _ [_] _ _ _
     refine ar_loadp rfl (m := m) (L := [(x, .cells [.ptr ⟨d, 0, none⟩, .str name, .slice true (l.map strAV), .int .i64 z]), (d, dObj kb nb s), (nb, mObj s.now), (kb, mObj s.kept)]) (v := .str name) rfl (wth_get 0 hN rfl) rfl (apartOk_one rfl rfl (Nat.le_of_ble_eq_true rfl)) rfl ?_
     refine AAny.keep [0, 1, 22, 28, 29] (by decide) ?_
     exact s18 trivial
    ·
     show aopsR _ _ _ [_] _ _ _
     refine u_frame t (by omega) _ _ ?_
     refine AAny.keep [0, 1, 22, 27, 30] (by decide) ?_
     exact s19 trivial
   have s29 : ∀ (_ : True), A 6 #[true, true, false, false, true, true, false, false, true, true, false, false] (fun fr m => K1 (fr.keep [0, 1, 5]) m) [(0, .ptr ⟨x, 0, none⟩), (1, .str t), (22, .ptr ⟨x, 0, none⟩), (26, .ptr ⟨x, 0, none⟩), (30, .str (framedL t))] (AMem.wth m [(x, .cells [.ptr ⟨d, 0, none⟩, .str name, .slice true (l.map strAV), .int .i64 z]), (d, dObj kb nb s), (nb, mObj s.now), (kb, mObj s.kept)]) := by
    intro _
    subst hA
    refine AAny.step [] [2, 6] (by decide +kernel) (by simp) (by decide) ⟨?_, ?_, trivial⟩
    ·
     show aopsR _ _ _ [_] _ _ _
     refine ⟨⟨rfl, by decide⟩, ?_⟩
     refine AAny.keep [0, 1, 23, 26, 30] (by decide) ?_
     exact s17 trivial
    ·
     show aopsR _ _ _ [_] _ _ _
     refine ⟨⟨rfl, by decide⟩, ?_⟩
     refine AAny.keep [0, 1, 22, 27, 30] (by decide) ?_
     exact s19 trivial
   have s30 : ∀ (_ : True), A 6 #[true, false, false, false, true, true, true, true, true, false, false, false] (fun fr m => K1 (fr.keep [0, 1, 5]) m) [(0, .ptr ⟨x, 0, none⟩), (1, .str t), (21, .ptr ⟨x, 0, none⟩), (28, .str name), (29, .str t)] (AMem.wth m [(x, .cells [.ptr ⟨d, 0, none⟩, .str name, .slice true (l.map strAV), .int .i64 z]), (d, dObj kb nb s), (nb, mObj s.now), (kb, mObj s.kept)]) := by
    intro _
    subst hA
    refine AAny.step [] [1, 9] (by decide +kernel) (by simp) (by decide) ⟨?_, ?_, trivial⟩
    ·
     show aopsR _ _ _ [_] _ _ _
     refine ⟨trivial, ?_⟩
     refine AAny.keep [0, 1, 22, 28, 29] (by decide) ?_
     exact s18 trivial
    ·
     show aopsR _ _ _ [_] _ _ _
     refine u_frame t (by omega) _ _ ?_
     refine AAny.keep [0, 1, 21, 28, 30] (by decide) ?_
     exact s20 trivial
   have s31 : ∀ (_ : True), A 6 #[true, false, false, false, true, true, true, false, true, true, false, false] (fun fr m => K1 (fr.keep [0, 1, 5]) m) [(0, .ptr ⟨x, 0, none⟩), (1, .str t), (21, .ptr ⟨x, 0, none⟩), (27, .ptr ⟨x, 1, none⟩), (30, .str (framedL t))] (AMem.wth m [(x, .cells [.ptr ⟨d, 0, none⟩, .str name, .slice true (l.map strAV), .int .i64 z]), (d, dObj kb nb s), (nb, mObj s.now), (kb, mObj s.kept)]) := by
    intro _
    subst hA
    refine AAny.step [] [1, 7] (by decide +kernel) (by simp) (by decide) ⟨?_, ?_, trivial⟩
    ·
     show aopsR _ _ _ [_] _ _ _
     refine ⟨trivial, ?_⟩
     refine AAny.keep [0, 1, 22, 27, 30] (by decide) ?_
     exact s19 trivial
    ·
     show aopsR _ _ _ [_] _ _ _
     refine ar_loadp rfl (m := m) (L := [(x, .cells [.ptr ⟨d, 0, none⟩, .str name, .slice true (l.map strAV), .int .i64 z]), (d, dObj kb nb s), (nb, mObj s.now), (kb, mObj s.kept)]) (v := .str name) rfl (wth_get 0 hN rfl) rfl (apartOk_one rfl rfl (Nat.le_of_ble_eq_true rfl)) rfl ?_
     refine AAny.keep [0, 1, 21, 28, 30] (by decide) ?_
     exact s20 trivial
   have s32 : ∀ (_ : True), A 6 #[false, false, false, false, true, true, true, true, true, true, false, false] (fun fr m => K1 (fr.keep [0, 1, 5]) m) [(0, .ptr ⟨x, 0, none⟩), (1, .str t), (28, .str name), (30, .str (framedL t))] (AMem.wth m [(x, .cells [.ptr ⟨d, 0, none⟩, .str name, .slice true (l.map strAV), .int .i64 z]), (d, dObj kb nb s), (nb, mObj s.now), (kb, mObj s.kept)]) := by
    intro _
    subst hA
    refine AAny.step [] [0] (by decide +kernel) (by simp) (by decide) ⟨?_, trivial⟩
    ·
     show aopsR _ _ _ [_] _ _ _
     refine ⟨trivial, ?_⟩
     refine AAny.keep [0, 1, 21, 28, 30] (by decide) ?_
     exact s20 trivial
   have s33 : ∀ (_ : True), A 7 #[true, true, true, true, true, false, false, false, false, false, false, false] (fun fr m => K1 (fr.keep [0, 1, 5]) m) [(0, .ptr ⟨x, 0, none⟩), (1, .str t), (24, .ptr ⟨d, 0, none⟩), (25, .ptr ⟨x, 0, none⟩)] (AMem.wth m [(x, .cells [.ptr ⟨d, 0, none⟩, .str name, .slice true (l.map strAV), .int .i64 z]), (d, dObj kb nb s), (nb, mObj s.now), (kb, mObj s.kept)]) := by
    intro _
    subst hA
    refine AAny.step [] [5, 8] (by decide +kernel) (by simp) (by decide) ⟨?_, ?_, trivial⟩
    ·
     show aopsR _ _ _ [_] _ _ _
     refine ⟨trivial, ?_⟩
     refine AAny.keep [0, 1, 24, 26] (by decide) ?_
     exact s21 trivial
    ·
     show aopsR _ _ _ [_] _ _ _
     refine ⟨trivial, ?_⟩
     refine AAny.keep [0, 1, 24, 25, 29] (by decide) ?_
     exact s22 trivial
   have s34 : ∀ (_ : True), A 7 #[true, true, true, true, false, false, false, false, true, false, false, false] (fun fr m => K1 (fr.keep [0, 1, 5]) m) [(0, .ptr ⟨x, 0, none⟩), (1, .str t), (24, .ptr ⟨d, 0, none⟩), (29, .str t)] (AMem.wth m [(x, .cells [.ptr ⟨d, 0, none⟩, .str name, .slice true (l.map strAV), .int .i64 z]), (d, dObj kb nb s), (nb, mObj s.now), (kb, mObj s.kept)]) := by
    intro _
    subst hA
    refine AAny.step [] [4, 9] (by decide +kernel) (by simp) (by decide) ⟨?_, ?_, trivial⟩
    ·
     show aopsR _ _ _ [_] _ _ _
     refine ⟨trivial, ?_⟩
     refine AAny.keep [0, 1, 24, 25, 29] (by decide) ?_
     exact s22 trivial
    ·
     show aopsR _ _ _ [_] _ _ _
     refine u_frame t (by omega) _ _ ?_
     refine AAny.keep [0, 1, 24, 30] (by decide) ?_
     exact s23 trivial
   have s35 : ∀ (_ : True), A 7 #[true, true, true, false, true, true, false, false, false, false, false, false] (fun fr m => K1 (fr.keep [0, 1, 5]) m) [(0, .ptr ⟨x, 0, none⟩), (1, .str t), (23, .ptr ⟨x, 0, none⟩), (26, .ptr ⟨x, 0, none⟩)] (AMem.wth m [(x, .cells [.ptr ⟨d, 0, none⟩, .str name, .slice true (l.map strAV), .int .i64 z]), (d, dObj kb nb s), (nb, mObj s.now), (kb, mObj s.kept)]) := by
    intro _
    subst hA
    refine AAny.step [] [3, 6, 8] (by decide +kernel) (by simp) (by decide) ⟨?_, ?_, ?_, trivial⟩
    ·
     show aopsR _ _ _ [_] _ _ _
     refine ar_loadp rfl (m := m) (L := [(x, .cells [.ptr ⟨d, 0, none⟩, .str name, .slice true (l.map strAV), .int .i64 z]), (d, dObj kb nb s), (nb, mObj s.now), (kb, mObj s.kept)]) (v := .ptr ⟨d, 0, none⟩) rfl (wth_get 0 hN rfl) rfl (apartOk_one rfl rfl (Nat.le_of_ble_eq_true rfl)) rfl ?_
     refine AAny.keep [0, 1, 24, 26] (by decide) ?_
     exact s21 trivial
    ·
     show aopsR _ _ _ [_] _ _ _
     refine ⟨⟨rfl, by decide⟩, ?_⟩
     refine AAny.keep [0, 1, 23, 27] (by decide) ?_
     exact s24 trivial
    ·
     show aopsR _ _ _ [_] _ _ _
     refine ⟨trivial, ?_⟩
     refine AAny.keep [0, 1, 23, 26, 29] (by decide) ?_
     exact s25 trivial
   have s36 : ∀ (_ : True), A 7 #[true, true, true, false, true, false, false, false, true, false, false, false] (fun fr m => K1 (fr.keep [0, 1, 5]) m) [(0, .ptr ⟨x, 0, none⟩), (1, .str t), (23, .ptr ⟨x, 0, none⟩), (25, .ptr ⟨x, 0, none⟩), (29, .str t)] (AMem.wth m [(x, .cells [.ptr ⟨d, 0, none⟩, .str name, .slice true (l.map strAV), .int .i64 z]), (d, dObj kb nb s), (nb, mObj s.now), (kb, mObj s.kept)]) := by
    intro _
    subst hA
    refine AAny.step [] [3, 5, 9] (by decide +kernel) (by simp) (by decide) ⟨?_, ?_, ?_, trivial⟩
    ·
     show aopsR _ _ _ [_] _ _ _
     refine ar_loadp rfl (m := m) (L := [(x, .cells [.ptr ⟨d, 0, none⟩, .str name, .slice true (l.map strAV), .int .i64 z]), (d, dObj kb nb s), (nb, mObj s.now), (kb, mObj s.kept)]) (v := .ptr ⟨d, 0, none⟩) rfl (wth_get 0 hN rfl) rfl (apartOk_one rfl rfl (Nat.le_of_ble_eq_true rfl)) rfl ?_
     refine AAny.keep [0, 1, 24, 25, 29] (by decide) ?_
     exact s22 trivial
    ·
     show aopsR _ _ _ [_] _ _ _
     refine ⟨trivial, ?_⟩
     refine AAny.keep [0, 1, 23, 26, 29] (by decide) ?_
     exact s25 trivial
    ·
     show aopsR _ _ _ [_] _ _ _
     refine u_frame t (by omega) _ _ ?_
     refine AAny.keep [0, 1, 23, 25, 30] (by decide) ?_
     exact s26 trivial
   have s37 : ∀ (_ : True), A 7 #[true, true, true, false, false, false, false, false, true, true, false, false] (fun fr m => K1 (fr.keep [0, 1, 5]) m) [(0, .ptr ⟨x, 0, none⟩), (1, .str t), (23, .ptr ⟨x, 0, none⟩), (30, .str (framedL t))] (AMem.wth m [(x, .cells [.ptr ⟨d, 0, none⟩, .str name, .slice true (l.map strAV), .int .i64 z]), (d, dObj kb nb s), (nb, mObj s.now), (kb, mObj s.kept)]) := by
    intro _
    subst hA
    refine AAny.step [] [3, 4] (by decide +kernel) (by simp) (by decide) ⟨?_, ?_, trivial⟩
    ·
     show aopsR _ _ _ [_] _ _ _
     refine ar_loadp rfl (m := m) (L := [(x, .cells [.ptr ⟨d, 0, none⟩, .str name, .slice true (l.map strAV), .int .i64 z]), (d, dObj kb nb s), (nb, mObj s.now), (kb, mObj s.kept)]) (v := .ptr ⟨d, 0, none⟩) rfl (wth_get 0 hN rfl) rfl (apartOk_one rfl rfl (Nat.le_of_ble_eq_true rfl)) rfl ?_
     refine AAny.keep [0, 1, 24, 30] (by decide) ?_
     exact s23 trivial
    ·
     show aopsR _ _ _ [_] _ _ _
     refine ⟨trivial, ?_⟩
     refine AAny.keep [0, 1, 23, 25, 30] (by decide) ?_
     exact s26 trivial
   have s38 : ∀ (_ : True), A 7 #[true, true, false, false, true, true, true, false, false, false, false, false] (fun fr m => K1 (fr.keep [0, 1, 5]) m) [(0, .ptr ⟨x, 0, none⟩), (1, .str t), (22, .ptr ⟨x, 0, none⟩), (27, .ptr ⟨x, 1, none⟩)] (AMem.wth m [(x, .cells [.ptr ⟨d, 0, none⟩, .str name, .slice true (l.map strAV), .int .i64 z]), (d, dObj kb nb s), (nb, mObj s.now), (kb, mObj s.kept)]) := by
    intro _
    subst hA
    refine AAny.step [] [2, 7, 8] (by decide +kernel) (by simp) (by decide) ⟨?_, ?_, ?_, trivial⟩
    ·
     show aopsR _ _ _ [_] _ _ _
     refine ⟨⟨rfl, by decide⟩, ?_⟩
     refine AAny.keep [0, 1, 23, 27] (by decide) ?_
     exact s24 trivial
    ·
     show aopsR _ _ _ [_] _ _ _
     refine ar_loadp rfl (m := m) (L := [(x, .cells [.ptr ⟨d, 0, none⟩, .str name, .slice true (l.map strAV), .int .i64 z]), (d, dObj kb nb s), (nb, mObj s.now), (kb, mObj s.kept)]) (v := .str name) rfl (wth_get 0 hN rfl) rfl (apartOk_one rfl rfl (Nat.le_of_ble_eq_true rfl)) rfl ?_
     refine AAny.keep [0, 1, 22, 28] (by decide) ?_
     exact s27 trivial
    ·
     show aopsR _ _ _ [_] _ _ _
     refine ⟨trivial, ?_⟩
     refine AAny.keep [0, 1, 22, 27, 29] (by decide) ?_
     exact s28 trivial
   have s39 : ∀ (_ : True), A 7 #[true, true, false, false, true, true, false, false, true, false, false, false] (fun fr m => K1 (fr.keep [0, 1, 5]) m) [(0, .ptr ⟨x, 0, none⟩), (1, .str t), (22, .ptr ⟨x, 0, none⟩), (26, .ptr ⟨x, 0, none⟩), (29, .str t)] (AMem.wth m [(x, .cells [.ptr ⟨d, 0, none⟩, .str name, .slice true (l.map strAV), .int .i64 z]), (d, dObj kb nb s), (nb, mObj s.now), (kb, mObj s.kept)]) := by
    intro _
    subst hA
    refine AAny.step [] [2, 6, 9] (by decide +kernel) (by simp) (by decide) ⟨?_, ?_, ?_, trivial⟩
    ·
     show aopsR _ _ _ [_] _ _ _
     refine ⟨⟨rfl, by decide⟩, ?_⟩
     refine AAny.keep [0, 1, 23, 26, 29] (by decide) ?_
     exact s25 trivial
    ·
     show aopsR _ _ _ [_] _ _ _
     refine ⟨⟨rfl, by decide⟩, ?_⟩
     refine AAny.keep [0, 1, 22, 27, 29] (by decide) ?_
     exact s28 trivial
    ·
     show aopsR _ _ _ [_] _ _ _
     refine u_frame t (by omega) _ _ ?_
     refine AAny.keep [0, 1, 22, 26, 30] (by decide) ?_
     exact s29 trivial
   have s40 : ∀ (_ : True), A 7 #[true, true, false, false, true, false, false, false, true, true, false, false] (fun fr m => K1 (fr.keep [0, 1, 5]) m) [(0, .ptr ⟨x, 0, none⟩), (1, .str t), (22, .ptr ⟨x, 0, none⟩), (25, .ptr ⟨x, 0, none⟩), (30, .str (framedL t))] (AMem.wth m [(x, .cells [.ptr ⟨d, 0, none⟩, .str name, .slice true (l.map strAV), .int .i64 z]), (d, dObj kb nb s), (nb, mObj s.now), (kb, mObj s.kept)]) := by
    intro _
    subst hA
    refine AAny.step [] [2, 5] (by decide +kernel) (by simp) (by decide) ⟨?_, ?_, trivial⟩
    ·
     show aopsR _ _ _ [_] _ _ _
     refine ⟨⟨rfl, by decide⟩, ?_⟩
     refine AAny.keep [0, 1, 23, 25, 30] (by decide) ?_
     exact s26 trivial
    ·
     show aopsR _ _ _ [_] _ _ _
     refine ⟨trivial, ?_⟩
     refine AAny.keep [0, 1, 22, 26, 30] (by decide) ?_
     exact s29 trivial
   have s41 : ∀ (_ : True), A 7 #[true, false, false, false, true, true, true, true, false, false, false, false] (fun fr m => K1 (fr.keep [0, 1, 5]) m) [(0, .ptr ⟨x, 0, none⟩), (1, .str t), (21, .ptr ⟨x, 0, none⟩), (28, .str name)] (AMem.wth m [(x, .cells [.ptr ⟨d, 0, none⟩, .str name, .slice true (l.map strAV), .int .i64 z]), (d, dObj kb nb s), (nb, mObj s.now), (kb, mObj s.kept)]) := by
    intro _
    subst hA
    refine AAny.step [] [1, 8] (by decide +kernel) (by simp) (by decide) ⟨?_, ?_, trivial⟩
    ·
     show aopsR _ _ _ [_] _ _ _
     refine ⟨trivial, ?_⟩
     refine AAny.keep [0, 1, 22, 28] (by decide) ?_
     exact s27 trivial
    ·
     show aopsR _ _ _ [_] _ _ _
     refine ⟨trivial, ?_⟩
     refine AAny.keep [0, 1, 21, 28, 29] (by decide) ?_
     exact s30 trivial
   have s42 : ∀ (_ : True), A 7 #[true, false, false, false, true, true, true, false, true, false, false, false] (fun fr m => K1 (fr.keep [0, 1, 5]) m) [(0, .ptr ⟨x, 0, none⟩), (1, .str t), (21, .ptr ⟨x, 0, none⟩), (27, .ptr ⟨x, 1, none⟩), (29, .str t)] (AMem.wth m [(x, .cells [.ptr ⟨d, 0, none⟩, .str name, .slice true (l.map strAV), .int .i64 z]), (d, dObj kb nb s), (nb, mObj s.now), (kb, mObj s.kept)]) := by
    intro _
    subst hA
    refine AAny.step [] [1, 7, 9] (by decide +kernel) (by simp) (by decide) ⟨?_, ?_, ?_, trivial⟩
    ·
     show aopsR _ _ _ [_] _ _ _
     refine ⟨trivial, ?_⟩
     refine AAny.keep [0, 1, 22, 27, 29] (by decide) ?_
     exact s28 trivial
    ·
     show aopsR _ _ _ [_] _ _ _
     refine ar_loadp rfl (m := m) (L := [(x, .cells [.ptr ⟨d, 0, none⟩, .str name, .slice true (l.map strAV), .int .i64 z]), (d, dObj kb nb s), (nb, mObj s.now), (kb, mObj s.kept)]) (v := .str name) rfl (wth_get 0 hN rfl) rfl (apartOk_one rfl rfl (Nat.le_of_ble_eq_true rfl)) rfl ?_
     refine AAny.keep [0, 1, 21, 28, 29] (by decide) ?_
     exact s30 trivial
    ·
     show aopsR _ _ _ [_] _ _ _
     refine u_frame t (by omega) _ _ ?_
     refine AAny.keep [0, 1, 21, 27, 30] (by decide) ?_
     exact s31 trivial
   have s43 : ∀ (_ : True), A 7 #[true, false, false, false, true, true, false, false, true, true, false, false] (fun fr m => K1 (fr.keep [0, 1, 5]) m) [(0, .ptr ⟨x, 0, none⟩), (1, .str t), (21, .ptr ⟨x, 0, none⟩), (26, .ptr ⟨x, 0, none⟩), (30, .str (framedL t))] (AMem.wth m [(x, .cells [.ptr ⟨d, 0, none⟩, .str name, .slice true (l.map strAV), .int .i64 z]), (d, dObj kb nb s), (nb, mObj s.now), (kb, mObj s.kept)]) := by
    intro _
    subst hA
    refine AAny.step [] [1, 6] (by decide +kernel) (by simp) (by decide) ⟨?_, ?_, trivial⟩
    ·
     show aopsR _ _ _ [_] _ _ _
     refine ⟨trivial, ?_⟩
     refine AAny.keep [0, 1, 22, 26, 30] (by decide) ?_
     exact s29 trivial
    ·
     show aopsR _ _ _ [_] _ _ _
     refine ⟨⟨rfl, by decide⟩, ?_⟩
     refine AAny.keep [0, 1, 21, 27, 30] (by decide) ?_
     exact s31 trivial
   have s44 : ∀ (_ : True), A 7 #[false, false, false, false, true, true, true, true, true, false, false, false] (fun fr m => K1 (fr.keep [0, 1, 5]) m) [(0, .ptr ⟨x, 0, none⟩), (1, .str t), (28, .str name), (29, .str t)] (AMem.wth m [(x, .cells [.ptr ⟨d, 0, none⟩, .str name, .slice true (l.map strAV), .int .i64 z]), (d, dObj kb nb s), (nb, mObj s.now), (kb, mObj s.kept)]) := by
    intro _
    subst hA
    refine AAny.step [] [0, 9] (by decide +kernel) (by simp) (by decide) ⟨?_, ?_, trivial⟩
    ·
     show aopsR _ _ _ [_] _ _ _
     refine ⟨trivial, ?_⟩
     refine AAny.keep [0, 1, 21, 28, 29] (by decide) ?_
     exact s30 trivial
    ·
     show aopsR _ _ _ [_] _ _ _
     refine u_frame t (by omega) _ _ ?_
     refine AAny.keep [0, 1, 28, 30] (by decide) ?_
     exact s32 trivial
   have s45 : ∀ (_ : True), A 7 #[false, false, false, false, true, true, true, false, true, true, false, false] (fun fr m => K1 (fr.keep [0, 1, 5]) m) [(0, .ptr ⟨x, 0, none⟩), (1, .str t), (27, .ptr ⟨x, 1, none⟩), (30, .str (framedL t))] (AMem.wth m [(x, .cells [.ptr ⟨d, 0, none⟩, .str name, .slice true (l.map strAV), .int .i64 z]), (d, dObj kb nb s), (nb, mObj s.now), (kb, mObj s.kept)]) := by
    intro _
    subst hA
    refine AAny.step [] [0, 7] (by decide +kernel) (by simp) (by decide) ⟨?_, ?_, trivial⟩
    ·
     show aopsR _ _ _ [_] _ _ _
     refine ⟨trivial, ?_⟩
     refine AAny.keep [0, 1, 21, 27, 30] (by decide) ?_
     exact s31 trivial
    ·
     show aopsR _ _ _ [_] _ _ _
     refine ar_loadp rfl (m := m) (L := [(x, .cells [.ptr ⟨d, 0, none⟩, .str name, .slice true (l.map strAV), .int .i64 z]), (d, dObj kb nb s), (nb, mObj s.now), (kb, mObj s.kept)]) (v := .str name) rfl (wth_get 0 hN rfl) rfl (apartOk_one rfl rfl (Nat.le_of_ble_eq_true rfl)) rfl ?_
     refine AAny.keep [0, 1, 28, 30] (by decide) ?_
     exact s32 trivial
   have s46 : ∀ (_ : True), A 8 #[true, true, true, true, false, false, false, false, false, false, false, false] (fun fr m => K1 (fr.keep [0, 1, 5]) m) [(0, .ptr ⟨x, 0, none⟩), (1, .str t), (24, .ptr ⟨d, 0, none⟩)] (AMem.wth m [(x, .cells [.ptr ⟨d, 0, none⟩, .str name, .slice true (l.map strAV), .int .i64 z]), (d, dObj kb nb s), (nb, mObj s.now), (kb, mObj s.kept)]) := by
    intro _
    subst hA
    refine AAny.step [] [4, 8] (by decide +kernel) (by simp) (by decide) ⟨?_, ?_, trivial⟩
    ·
     show aopsR _ _ _ [_] _ _ _
     refine ⟨trivial, ?_⟩
     refine AAny.keep [0, 1, 24, 25] (by decide) ?_
     exact s33 trivial
    ·
     show aopsR _ _ _ [_] _ _ _
     refine ⟨trivial, ?_⟩
     refine AAny.keep [0, 1, 24, 29] (by decide) ?_
     exact s34 trivial
   have s47 : ∀ (_ : True), A 8 #[true, true, true, false, true, false, false, false, false, false, false, false] (fun fr m => K1 (fr.keep [0, 1, 5]) m) [(0, .ptr ⟨x, 0, none⟩), (1, .str t), (23, .ptr ⟨x, 0, none⟩), (25, .ptr ⟨x, 0, none⟩)] (AMem.wth m [(x, .cells [.ptr ⟨d, 0, none⟩, .str name, .slice true (l.map strAV), .int .i64 z]), (d, dObj kb nb s), (nb, mObj s.now), (kb, mObj s.kept)]) := by
    intro _
    subst hA
    refine AAny.step [] [3, 5, 8] (by decide +kernel) (by simp) (by decide) ⟨?_, ?_, ?_, trivial⟩
    ·
     show aopsR _ _ _ [_] _ _ _
     refine ar_loadp rfl (m := m) (L := [(x, .cells [.ptr ⟨d, 0, none⟩, .str name, .slice true (l.map strAV), .int .i64 z]), (d, dObj kb nb s), (nb, mObj s.now), (kb, mObj s.kept)]) (v := .ptr ⟨d, 0, none⟩) rfl (wth_get 0 hN rfl) rfl (apartOk_one rfl rfl (Nat.le_of_ble_eq_true rfl)) rfl ?_
     refine AAny.keep [0, 1, 24, 25] (by decide) ?_
     exact s33 trivial
    ·
     show aopsR _ _ _ [_] _ _ _
     refine ⟨trivial, ?_⟩
     refine AAny.keep [0, 1, 23, 26] (by decide) ?_
     exact s35 trivial
    ·
     show aopsR _ _ _ [_] _ _ _
     refine ⟨trivial, ?_⟩
     refine AAny.keep [0, 1, 23, 25, 29] (by decide) ?_
     exact s36 trivial
   have s48 : ∀ (_ : True), A 8 #[true, true, true, false, false, false, false, false, true, false, false, false] (fun fr m => K1 (fr.keep [0, 1, 5]) m) [(0, .ptr ⟨x, 0, none⟩), (1, .str t), (23, .ptr ⟨x, 0, none⟩), (29, .str t)] (AMem.wth m [(x, .cells [.ptr ⟨d, 0, none⟩, .str name, .slice true (l.map strAV), .int .i64 z]), (d, dObj kb nb s), (nb, mObj s.now), (kb, mObj s.kept)]) := by
    intro _
    subst hA
    refine AAny.step [] [3, 4, 9] (by decide +kernel) (by simp) (by decide) ⟨?_, ?_, ?_, trivial⟩
    ·
     show aopsR _ _ _ [_] _ _ _
     refine ar_loadp rfl (m := m) (L := [(x, .cells [.ptr ⟨d, 0, none⟩, .str name, .slice true (l.map strAV), .int .i64 z]), (d, dObj kb nb s), (nb, mObj s.now), (kb, mObj s.kept)]) (v := .ptr ⟨d, 0, none⟩) rfl (wth_get 0 hN rfl) rfl (apartOk_one rfl rfl (Nat.le_of_ble_eq_true rfl)) rfl ?_
     refine AAny.keep [0, 1, 24, 29] (by decide) ?_
     exact s34 trivial
    ·
     show aopsR _ _ _ [_] _ _ _
     refine ⟨trivial, ?_⟩
     refine AAny.keep [0, 1, 23, 25, 29] (by decide) ?_
     exact s36 trivial
    ·
     show aopsR _ _ _ [_] _ _ _
     refine u_frame t (by omega) _ _ ?_
     refine AAny.keep [0, 1, 23, 30] (by decide) ?_
     exact s37 trivial
   have s49 : ∀ (_ : True), A 8 #[true, true, false, false, true, true, false, false, false, false, false, false] (fun fr m => K1 (fr.keep [0, 1, 5]) m) [(0, .ptr ⟨x, 0, none⟩), (1, .str t), (22, .ptr ⟨x, 0, none⟩), (26, .ptr ⟨x, 0, none⟩)] (AMem.wth m [(x, .cells [.ptr ⟨d, 0, none⟩, .str name, .slice true (l.map strAV), .int .i64 z]), (d, dObj kb nb s), (nb, mObj s.now), (kb, mObj s.kept)]) := by
    intro _
    subst hA
    refine AAny.step [] [2, 6, 8] (by decide +kernel) (by simp) (by decide) ⟨?_, ?_, ?_, trivial⟩
    ·
     show aopsR _ _ _ [_] _ _ _
     refine ⟨⟨rfl, by decide⟩, ?_⟩
     refine AAny.keep [0, 1, 23, 26] (by decide) ?_
     exact s35 trivial
    ·
     show aopsR _ _ _ [_] _ _ _
     refine ⟨⟨rfl, by decide⟩, ?_⟩
     refine AAny.keep [0, 1, 22, 27] (by decide) ?_
     exact s38 trivial
    ·
     show aopsR _ _ _ [_] _ _ _
     refine ⟨trivial, ?_⟩
     refine AAny.keep [0, 1, 22, 26, 29] (by decide) ?_
     exact s39 trivial
   have s50 : ∀ (_ : True), A 8 #[true, true, false, false, true, false, false, false, true, false, false, false] (fun fr m => K1 (fr.keep [0, 1, 5]) m) [(0, .ptr ⟨x, 0, none⟩), (1, .str t), (22, .ptr ⟨x, 0, none⟩), (25, .ptr ⟨x, 0, none⟩), (29, .str t)] (AMem.wth m [(x, .cells [.ptr ⟨d, 0, none⟩, .str name, .slice true (l.map strAV), .int .i64 z]), (d, dObj kb nb s), (nb, mObj s.now), (kb, mObj s.kept)]) := by
    intro _
    subst hA
    refine AAny.step [] [2, 5, 9] (by decide +kernel) (by simp) (by decide) ⟨?_, ?_, ?_, trivial⟩
    ·
     show aopsR _ _ _ [_] _ _ _
     refine ⟨⟨rfl, by decide⟩, ?_⟩
     refine AAny.keep [0, 1, 23, 25, 29] (by decide) ?_
     exact s36 trivial
    ·
     show aopsR _ _ _ [_] _ _ _
     refine ⟨trivial, ?_⟩
     refine AAny.keep [0, 1, 22, 26, 29] (by decide) ?_
     exact s39 trivial
    ·
     show aopsR _ _ _ [_] _ _ _
     refine u_frame t (by omega) _ _ ?_
     refine AAny.keep [0, 1, 22, 25, 30] (by decide) ?_
     exact s40 trivial
   have s51 : ∀ (_ : True), A 8 #[true, true, false, false, false, false, false, false, true, true, false, false] (fun fr m => K1 (fr.keep [0, 1, 5]) m) [(0, .ptr ⟨x, 0, none⟩), (1, .str t), (22, .ptr ⟨x, 0, none⟩), (30, .str (framedL t))] (AMem.wth m [(x, .cells [.ptr ⟨d, 0, none⟩, .str name, .slice true (l.map strAV), .int .i64 z]), (d, dObj kb nb s), (nb, mObj s.now), (kb, mObj s.kept)]) := by
    intro _
    subst hA
    refine AAny.step [] [2, 4] (by decide +kernel) (by simp) (by decide) ⟨?_, ?_, trivial⟩
    ·
     show aopsR _ _ _ [_] _ _ _
     refine ⟨⟨rfl, by decide⟩, ?_⟩
     refine AAny.keep [0, 1, 23, 30] (by decide) ?_
     exact s37 trivial
    ·
     show aopsR _ _ _ [_] _ _ _
     refine ⟨trivial, ?_⟩
     refine AAny.keep [0, 1, 22, 25, 30] (by decide) ?_
     exact s40 trivial
   have s52 : ∀ (_ : True), A 8 #[true, false, false, false, true, true, true, false, false, false, false, false] (fun fr m => K1 (fr.keep [0, 1, 5]) m) [(0, .ptr ⟨x, 0, none⟩), (1, .str t), (21, .ptr ⟨x, 0, none⟩), (27, .ptr ⟨x, 1, none⟩)] (AMem.wth m [(x, .cells [.ptr ⟨d, 0, none⟩, .str name, .slice true (l.map strAV), .int .i64 z]), (d, dObj kb nb s), (nb, mObj s.now), (kb, mObj s.kept)]) := by
    intro _
    subst hA
    refine AAny.step [] [1, 7, 8] (by decide +kernel) (by simp) (by decide) ⟨?_, ?_, ?_, trivial⟩
    ·
     show aopsR _ _ _ [_] _ _ _
     refine ⟨trivial, ?_⟩
     refine AAny.keep [0, 1, 22, 27] (by decide) ?_
     exact s38 trivial
    ·
     show aopsR _ _ _ [_] _ _ _
     refine ar_loadp rfl (m := m) (L := [(x, .cells [.ptr ⟨d, 0, none⟩, .str name, .slice true (l.map strAV), .int .i64 z]), (d, dObj kb nb s), (nb, mObj s.now), (kb, mObj s.kept)]) (v := .str name) rfl (wth_get 0 hN rfl) rfl (apartOk_one rfl rfl (Nat.le_of_ble_eq_true rfl)) rfl ?_
     refine AAny.keep [0, 1, 21, 28] (by decide) ?_
     exact s41 trivial
    ·
     show aopsR _ _ _ [_] _ _ _
     refine ⟨trivial, ?_⟩
     refine AAny.keep [0, 1, 21, 27, 29] (by decide) ?_
     exact s42 trivial
   have s53 : ∀ (_ : True), A 8 #[true, false, false, false, true, true, false, false, true, false, false, false] (fun fr m => K1 (fr.keep [0, 1, 5]) m) [(0, .ptr ⟨x, 0, none⟩), (1, .str t), (21, .ptr ⟨x, 0, none⟩), (26, .ptr ⟨x, 0, none⟩), (29, .str t)] (AMem.wth m [(x, .cells [.ptr ⟨d, 0, none⟩, .str name, .slice true (l.map strAV), .int .i64 z]), (d, dObj kb nb s), (nb, mObj s.now), (kb, mObj s.kept)]) := by
    intro _
    subst hA
    refine AAny.step [] [1, 6, 9] (by decide +kernel) (by simp) (by decide) ⟨?_, ?_, ?_, trivial⟩
    ·
     show aopsR _ _ _ [_] _ _ _
     refine ⟨trivial, ?_⟩
     refine AAny.keep [0, 1, 22, 26, 29] (by decide) ?_
     exact s39 trivial
    ·
     show aopsR _ _ _ [_] _ _ _
     refine ⟨⟨rfl, by decide⟩, ?_⟩
     refine AAny.keep [0, 1, 21, 27, 29] (by decide) ?_
     exact s42 trivial
    ·
     show aopsR _ _ _ [_] _ _ _
     refine u_frame t (by omega) _ _ ?_
     refine AAny.keep [0, 1, 21, 26, 30] (by decide) ?_
     exact s43 trivial
   have s54 : ∀ (_ : True), A 8 #[true, false, false, false, true, false, false, false, true, true, false, false] (fun fr m => K1 (fr.keep [0, 1, 5]) m) [(0, .ptr ⟨x, 0, none⟩), (1, .str t), (21, .ptr ⟨x, 0, none⟩), (25, .ptr ⟨x, 0, none⟩), (30, .str (framedL t))] (AMem.wth m [(x, .cells [.ptr ⟨d, 0, none⟩, .str name, .slice true (l.map strAV), .int .i64 z]), (d, dObj kb nb s), (nb, mObj s.now), (kb, mObj s.kept)]) := by
    intro _
    subst hA
    refine AAny.step [] [1, 5] (by decide +kernel) (by simp) (by decide) ⟨?_, ?_, trivial⟩
    ·
     show aopsR _ _ _ [_] _ _ _
     refine ⟨trivial, ?_⟩
     refine AAny.keep [0, 1, 22, 25, 30] (by decide) ?_
     exact s40 trivial
    ·
     show aopsR _ _ _ [_] _ _ _
     refine ⟨trivial, ?_⟩
     refine AAny.keep [0, 1, 21, 26, 30] (by decide) ?_
     exact s43 trivial
   have s55 : ∀ (_ : True), A 8 #[false, false, false, false, true, true, true, true, false, false, false, false] (fun fr m => K1 (fr.keep [0, 1, 5]) m) [(0, .ptr ⟨x, 0, none⟩), (1, .str t), (28, .str name)] (AMem.wth m [(x, .cells [.ptr ⟨d, 0, none⟩, .str name, .slice true (l.map strAV), .int .i64 z]), (d, dObj kb nb s), (nb, mObj s.now), (kb, mObj s.kept)]) := by
    intro _
    subst hA
    refine AAny.step [] [0, 8] (by decide +kernel) (by simp) (by decide) ⟨?_, ?_, trivial⟩
    ·
     show aopsR _ _ _ [_] _ _ _
     refine ⟨trivial, ?_⟩
     refine AAny.keep [0, 1, 21, 28] (by decide) ?_
     exact s41 trivial
    ·
     show aopsR _ _ _ [_] _ _ _
     refine ⟨trivial, ?_⟩
     refine AAny.keep [0, 1, 28, 29] (by decide) ?_
     exact s44 trivial
   have s56 : ∀ (_ : True), A 8 #[false, false, false, false, true, true, true, false, true, false, false, false] (fun fr m => K1 (fr.keep [0, 1, 5]) m) [(0, .ptr ⟨x, 0, none⟩), (1, .str t), (27, .ptr ⟨x, 1, none⟩), (29, .str t)] (AMem.wth m [(x, .cells [.ptr ⟨d, 0, none⟩, .str name, .slice true (l.map strAV), .int .i64 z]), (d, dObj kb nb s), (nb, mObj s.now), (kb, mObj s.kept)]) := by
    intro _
    subst hA
    refine AAny.step [] [0, 7, 9] (by decide +kernel) (by simp) (by decide) ⟨?_, ?_, ?_, trivial⟩
    ·
     show aopsR _ _ _ [_] _ _ _
     refine ⟨trivial, ?_⟩
     refine AAny.keep [0, 1, 21, 27, 29] (by decide) ?_
     exact s42 trivial
    ·
     show aopsR _ _ _ [_] _ _ _
     refine ar_loadp rfl (m := m) (L := [(x, .cells [.ptr ⟨d, 0, none⟩, .str name, .slice true (l.map strAV), .int .i64 z]), (d, dObj kb nb s), (nb, mObj s.now), (kb, mObj s.kept)]) (v := .str name) rfl (wth_get 0 hN rfl) rfl (apartOk_one rfl rfl (Nat.le_of_ble_eq_true rfl)) rfl ?_
     refine AAny.keep [0, 1, 28, 29] (by decide) ?_
     exact s44 trivial
    ·
     show aopsR _ _ _ [_] _ _ _
     refine u_frame t (by omega) _ _ ?_
     refine AAny.keep [0, 1, 27, 30] (by decide) ?_
     exact s45 trivial
   have s57 : ∀ (_ : True), A 8 #[false, false, false, false, true, true, false, false, true, true, false, false] (fun fr m => K1 (fr.keep [0, 1, 5]) m) [(0, .ptr ⟨x, 0, none⟩), (1, .str t), (26, .ptr ⟨x, 0, none⟩), (30, .str (framedL t))] (AMem.wth m [(x, .cells [.ptr ⟨d, 0, none⟩, .str name, .slice true (l.map strAV), .int .i64 z]), (d, dObj kb nb s), (nb, mObj s.now), (kb, mObj s.kept)]) := by
    intro _
    subst hA
    refine AAny.step [] [0, 6] (by decide +kernel) (by simp) (by decide) ⟨?_, ?_, trivial⟩
    ·
     show aopsR _ _ _ [_] _ _ _
     refine ⟨trivial, ?_⟩
     refine AAny.keep [0, 1, 21, 26, 30] (by decide) ?_
     exact s43 trivial
    ·
     show aopsR _ _ _ [_] _ _ _
     refine ⟨⟨rfl, by decide⟩, ?_⟩
     refine AAny.keep [0, 1, 27, 30] (by decide) ?_
     exact s45 trivial
   have s58 : ∀ (_ : True), A 9 #[true, true, true, false, false, false, false, false, false, false, false, false] (fun fr m => K1 (fr.keep [0, 1, 5]) m) [(0, .ptr ⟨x, 0, none⟩), (1, .str t), (23, .ptr ⟨x, 0, none⟩)] (AMem.wth m [(x, .cells [.ptr ⟨d, 0, none⟩, .str name, .slice true (l.map strAV), .int .i64 z]), (d, dObj kb nb s), (nb, mObj s.now), (kb, mObj s.kept)]) := by
    intro _
    subst hA
    refine AAny.step [] [3, 4, 8] (by decide +kernel) (by simp) (by decide) ⟨?_, ?_, ?_, trivial⟩
    ·
     show aopsR _ _ _ [_] _ _ _
     refine ar_loadp rfl (m := m) (L := [(x, .cells [.ptr ⟨d, 0, none⟩, .str name, .slice true (l.map strAV), .int .i64 z]), (d, dObj kb nb s), (nb, mObj s.now), (kb, mObj s.kept)]) (v := .ptr ⟨d, 0, none⟩) rfl (wth_get 0 hN rfl) rfl (apartOk_one rfl rfl (Nat.le_of_ble_eq_true rfl)) rfl ?_
     refine AAny.keep [0, 1, 24] (by decide) ?_
     exact s46 trivial
    ·
     show aopsR _ _ _ [_] _ _ _
     refine ⟨trivial, ?_⟩
     refine AAny.keep [0, 1, 23, 25] (by decide) ?_
     exact s47 trivial
    ·
     show aopsR _ _ _ [_] _ _ _
     refine ⟨trivial, ?_⟩
     refine AAny.keep [0, 1, 23, 29] (by decide) ?_
     exact s48 trivial
   have s59 : ∀ (_ : True), A 9 #[true, true, false, false, true, false, false, false, false, false, false, false] (fun fr m => K1 (fr.keep [0, 1, 5]) m) [(0, .ptr ⟨x, 0, none⟩), (1, .str t), (22, .ptr ⟨x, 0, none⟩), (25, .ptr ⟨x, 0, none⟩)] (AMem.wth m [(x, .cells [.ptr ⟨d, 0, none⟩, .str name, .slice true (l.map strAV), .int .i64 z]), (d, dObj kb nb s), (nb, mObj s.now), (kb, mObj s.kept)]) := by
    intro _
    subst hA
    refine AAny.step [] [2, 5, 8] (by decide +kernel) (by simp) (by decide) ⟨?_, ?_, ?_, trivial⟩
    ·
     show aopsR _ _ _ [_] _ _ _
     refine ⟨⟨rfl, by decide⟩, ?_⟩
     refine AAny.keep [0, 1, 23, 25] (by decide) ?_
     exact s47 trivial
    ·
     show aopsR _ _ _ [_] _ _ _
     refine ⟨trivial, ?_⟩
     refine AAny.keep [0, 1, 22, 26] (by decide) ?_
     exact s49 trivial
    ·
     show aopsR _ _ _ [_] _ _ _
     refine ⟨trivial, ?_⟩
     refine AAny.keep [0, 1, 22, 25, 29] (by decide) ?_
     exact s50 trivial
   have s60 : ∀ (_ : True), A 9 #[true, true, false, false, false, false, false, false, true, false, false, false] (fun fr m => K1 (fr.keep [0, 1, 5]) m) [(0, .ptr ⟨x, 0, none⟩), (1, .str t), (22, .ptr ⟨x, 0, none⟩), (29, .str t)] (AMem.wth m [(x, .cells [.ptr ⟨d, 0, none⟩, .str name, .slice true (l.map strAV), .int .i64 z]), (d, dObj kb nb s), (nb, mObj s.now), (kb, mObj s.kept)]) := by
    intro _
    subst hA
    refine AAny.step [] [2, 4, 9] (by decide +kernel) (by simp) (by decide) ⟨?_, ?_, ?_, trivial⟩
    ·
     show aopsR _ _ _ [_] _ _ _
     refine ⟨⟨rfl, by decide⟩, ?_⟩
     refine AAny.keep [0, 1, 23, 29] (by decide) ?_
     exact s48 trivial
    ·
     show aopsR _ _ _ [_] _ _ _
     refine ⟨trivial, ?_⟩
     refine AAny.keep [0, 1, 22, 25, 29] (by decide) ?_
     exact s50 trivial
    ·
     show aopsR _ _ _ [_] _ _ _
     refine u_frame t (by omega) _ _ ?_
     refine AAny.keep [0, 1, 22, 30] (by decide) ?_
     exact s51 trivial
   have s61 : ∀ (_ : True), A 9 #[true, false, false, false, true, true, false, false, false, false, false, false] (fun fr m => K1 (fr.keep [0, 1, 5]) m) [(0, .ptr ⟨x, 0, none⟩), (1, .str t), (21, .ptr ⟨x, 0, none⟩), (26, .ptr ⟨x, 0, none⟩)] (AMem.wth m [(x, .cells [.ptr ⟨d, 0, none⟩, .str name, .slice true (l.map strAV), .int .i64 z]), (d, dObj kb nb s), (nb, mObj s.now), (kb, mObj s.kept)]) := by
    intro _
    subst hA
    refine AAny.step [] [1, 6, 8] (by decide +kernel) (by simp) (by decide) ⟨?_, ?_, ?_, trivial⟩
    ·
     show aopsR _ _ _ [_] _ _ _
     refine ⟨trivial, ?_⟩
     refine AAny.keep [0, 1, 22, 26] (by decide) ?_
     exact s49 trivial
    ·
     show aopsR _ _ _ [_] _ _ _
     refine ⟨⟨rfl, by decide⟩, ?_⟩
     refine AAny.keep [0, 1, 21, 27] (by decide) ?_
     exact s52 trivial
    ·
     show aopsR _ _ _ [_] _ _ _
     refine ⟨trivial, ?_⟩
     refine AAny.keep [0, 1, 21, 26, 29] (by decide) ?_
     exact s53 trivial
   have s62 : ∀ (_ : True), A 9 #[true, false, false, false, true, false, false, false, true, false, false, false] (fun fr m => K1 (fr.keep [0, 1, 5]) m) [(0, .ptr ⟨x, 0, none⟩), (1, .str t), (21, .ptr ⟨x, 0, none⟩), (25, .ptr ⟨x, 0, none⟩), (29, .str t)] (AMem.wth m [(x, .cells [.ptr ⟨d, 0, none⟩, .str name, .slice true (l.map strAV), .int .i64 z]), (d, dObj kb nb s), (nb, mObj s.now), (kb, mObj s.kept)]) := by
    intro _
    subst hA
    refine AAny.step [] [1, 5, 9] (by decide +kernel) (by simp) (by decide) ⟨?_, ?_, ?_, trivial⟩
    ·
     show aopsR _ _ _ [_] _ _ _
     refine ⟨trivial, ?_⟩
     refine AAny.keep [0, 1, 22, 25, 29] (by decide) ?_
     exact s50 trivial
    ·
     show aopsR _ _ _ [_] _ _ _
     refine ⟨trivial, ?_⟩
     refine AAny.keep [0, 1, 21, 26, 29] (by decide) ?_
     exact s53 trivial
    ·
     show aopsR _ _ _ [_] _ _ _
     refine u_frame t (by omega) _ _ ?_
     refine AAny.keep [0, 1, 21, 25, 30] (by decide) ?_
     exact s54 trivial
   have s63 : ∀ (_ : True), A 9 #[true, false, false, false, false, false, false, false, true, true, false, false] (fun fr m => K1 (fr.keep [0, 1, 5]) m) [(0, .ptr ⟨x, 0, none⟩), (1, .str t), (21, .ptr ⟨x, 0, none⟩), (30, .str (framedL t))] (AMem.wth m [(x, .cells [.ptr ⟨d, 0, none⟩, .str name, .slice true (l.map strAV), .int .i64 z]), (d, dObj kb nb s), (nb, mObj s.now), (kb, mObj s.kept)]) := by
    intro _
    subst hA
    refine AAny.step [] [1, 4] (by decide +kernel) (by simp) (by decide) ⟨?_, ?_, trivial⟩
    ·
     show aopsR _ _ _ [_] _ _ _
     refine ⟨trivial, ?_⟩
     refine AAny.keep [0, 1, 22, 30] (by decide) ?_
     exact s51 trivial
    ·
     show aopsR _ _ _ [_] _ _ _
     refine ⟨trivial, ?_⟩
     refine AAny.keep [0, 1, 21, 25, 30] (by decide) ?_
     exact s54 trivial
   have s64 : ∀ (_ : True), A 9 #[false, false, false, false, true, true, true, false, false, false, false, false] (fun fr m => K1 (fr.keep [0, 1, 5]) m) [(0, .ptr ⟨x, 0, none⟩), (1, .str t), (27, .ptr ⟨x, 1, none⟩)] (AMem.wth m [(x, .cells [.ptr ⟨d, 0, none⟩, .str name, .slice true (l.map strAV), .int .i64 z]), (d, dObj kb nb s), (nb, mObj s.now), (kb, mObj s.kept)]) := by
    intro _
    subst hA
    refine AAny.step [] [0, 7, 8] (by decide +kernel) (by simp) (by decide) ⟨?_, ?_, ?_, trivial⟩
    ·
     show aopsR _ _ _ [_] _ _ _
     refine ⟨trivial, ?_⟩
     refine AAny.keep [0, 1, 21, 27] (by decide) ?_
     exact s52 trivial
    ·
     show aopsR _ _ _ [_] _ _ _
     refine ar_loadp rfl (m := m) (L := [(x, .cells [.ptr ⟨d, 0, none⟩, .str name, .slice true (l.map strAV), .int .i64 z]), (d, dObj kb nb s), (nb, mObj s.now), (kb, mObj s.kept)]) (v := .str name) rfl (wth_get 0 hN rfl) rfl (apartOk_one rfl rfl (Nat.le_of_ble_eq_true rfl)) rfl ?_
     refine AAny.keep [0, 1, 28] (by decide) ?_
     exact s55 trivial
    ·
     show aopsR _ _ _ [_] _ _ _
     refine ⟨trivial, ?_⟩
     refine AAny.keep [0, 1, 27, 29] (by decide) ?_
     exact s56 trivial
   have s65 : ∀ (_ : True), A 9 #[false, false, false, false, true, true, false, false, true, false, false, false] (fun fr m => K1 (fr.keep [0, 1, 5]) m) [(0, .ptr ⟨x, 0, none⟩), (1, .str t), (26, .ptr ⟨x, 0, none⟩), (29, .str t)] (AMem.wth m [(x, .cells [.ptr ⟨d, 0, none⟩, .str name, .slice true (l.map strAV), .int .i64 z]), (d, dObj kb nb s), (nb, mObj s.now), (kb, mObj s.kept)]) := by
    intro _
    subst hA
    refine AAny.step [] [0, 6, 9] (by decide +kernel) (by simp) (by decide) ⟨?_, ?_, ?_, trivial⟩
    ·
     show aopsR _ _ _ [_] _ _ _
     refine ⟨trivial, ?_⟩
     refine AAny.keep [0, 1, 21, 26, 29] (by decide) ?_
     exact s53 trivial
    ·
     show aopsR _ _ _ [_] _ _ _
     refine ⟨⟨rfl, by decide⟩, ?_⟩
     refine AAny.keep [0, 1, 27, 29] (by decide) ?_
     exact s56 trivial
    ·
     show aopsR _ _ _ [_] _ _ _
     refine u_frame t (by omega) _ _ ?_
     refine AAny.keep [0, 1, 26, 30] (by decide) ?_
     exact s57 trivial
   have s66 : ∀ (_ : True), A 9 #[false, false, false, false, true, false, false, false, true, true, false, false] (fun fr m => K1 (fr.keep [0, 1, 5]) m) [(0, .ptr ⟨x, 0, none⟩), (1, .str t), (25, .ptr ⟨x, 0, none⟩), (30, .str (framedL t))] (AMem.wth m [(x, .cells [.ptr ⟨d, 0, none⟩, .str name, .slice true (l.map strAV), .int .i64 z]), (d, dObj kb nb s), (nb, mObj s.now), (kb, mObj s.kept)]) := by
    intro _
    subst hA
    refine AAny.step [] [0, 5] (by decide +kernel) (by simp) (by decide) ⟨?_, ?_, trivial⟩
    ·
     show aopsR _ _ _ [_] _ _ _
     refine ⟨trivial, ?_⟩
     refine AAny.keep [0, 1, 21, 25, 30] (by decide) ?_
     exact s54 trivial
    ·
     show aopsR _ _ _ [_] _ _ _
     refine ⟨trivial, ?_⟩
     refine AAny.keep [0, 1, 26, 30] (by decide) ?_
     exact s57 trivial
   have s67 : ∀ (_ : True), A 10 #[true, true, false, false, false, false, false, false, false, false, false, false] (fun fr m => K1 (fr.keep [0, 1, 5]) m) [(0, .ptr ⟨x, 0, none⟩), (1, .str t), (22, .ptr ⟨x, 0, none⟩)] (AMem.wth m [(x, .cells [.ptr ⟨d, 0, none⟩, .str name, .slice true (l.map strAV), .int .i64 z]), (d, dObj kb nb s), (nb, mObj s.now), (kb, mObj s.kept)]) := by
    intro _
    subst hA
    refine AAny.step [] [2, 4, 8] (by decide +kernel) (by simp) (by decide) ⟨?_, ?_, ?_, trivial⟩
    ·
     show aopsR _ _ _ [_] _ _ _
     refine ⟨⟨rfl, by decide⟩, ?_⟩
     refine AAny.keep [0, 1, 23] (by decide) ?_
     exact s58 trivial
    ·
     show aopsR _ _ _ [_] _ _ _
     refine ⟨trivial, ?_⟩
     refine AAny.keep [0, 1, 22, 25] (by decide) ?_
     exact s59 trivial
    ·
     show aopsR _ _ _ [_] _ _ _
     refine ⟨trivial, ?_⟩
     refine AAny.keep [0, 1, 22, 29] (by decide) ?_
     exact s60 trivial
   have s68 : ∀ (_ : True), A 10 #[true, false, false, false, true, false, false, false, false, false, false, false] (fun fr m => K1 (fr.keep [0, 1, 5]) m) [(0, .ptr ⟨x, 0, none⟩), (1, .str t), (21, .ptr ⟨x, 0, none⟩), (25, .ptr ⟨x, 0, none⟩)] (AMem.wth m [(x, .cells [.ptr ⟨d, 0, none⟩, .str name, .slice true (l.map strAV), .int .i64 z]), (d, dObj kb nb s), (nb, mObj s.now), (kb, mObj s.kept)]) := by
    intro _
    subst hA
    refine AAny.step [] [1, 5, 8] (by decide +kernel) (by simp) (by decide) ⟨?_, ?_, ?_, trivial⟩
    ·
     show aopsR _ _ _ [_] _ _ _
     refine ⟨trivial, ?_⟩
     refine AAny.keep [0, 1, 22, 25] (by decide) ?_
     exact s59 trivial
    ·
     show aopsR _ _ _ [_] _ _ _
     refine ⟨trivial, ?_⟩
     refine AAny.keep [0, 1, 21, 26] (by decide) ?_
     exact s61 trivial
    ·
     show aopsR _ _ _ [_] _ _ _
     refine ⟨trivial, ?_⟩
     refine AAny.keep [0, 1, 21, 25, 29] (by decide) ?_
     exact s62 trivial
   have s69 : ∀ (_ : True), A 10 #[true, false, false, false, false, false, false, false, true, false, false, false] (fun fr m => K1 (fr.keep [0, 1, 5]) m) [(0, .ptr ⟨x, 0, none⟩), (1, .str t), (21, .ptr ⟨x, 0, none⟩), (29, .str t)] (AMem.wth m [(x, .cells [.ptr ⟨d, 0, none⟩, .str name, .slice true (l.map strAV), .int .i64 z]), (d, dObj kb nb s), (nb, mObj s.now), (kb, mObj s.kept)]) := by
    intro _
    subst hA
    refine AAny.step [] [1, 4, 9] (by decide +kernel) (by simp) (by decide) ⟨?_, ?_, ?_, trivial⟩
    ·
     show aopsR _ _ _ [_] _ _ _
     refine ⟨trivial, ?_⟩
     refine AAny.keep [0, 1, 22, 29] (by decide) ?_
     exact s60 trivial
    ·
     show aopsR _ _ _ [_] _ _ _
     refine ⟨trivial, ?_⟩
     refine AAny.keep [0, 1, 21, 25, 29] (by decide) ?_
     exact s62 trivial
    ·
     show aopsR _ _ _ [_] _ _ _
     refine u_frame t (by omega) _ _ ?_
     refine AAny.keep [0, 1, 21, 30] (by decide) ?_
     exact s63 trivial
   have s70 : ∀ (_ : True), A 10 #[false, false, false, false, true, true, false, false, false, false, false, false] (fun fr m => K1 (fr.keep [0, 1, 5]) m) [(0, .ptr ⟨x, 0, none⟩), (1, .str t), (26, .ptr ⟨x, 0, none⟩)] (AMem.wth m [(x, .cells [.ptr ⟨d, 0, none⟩, .str name, .slice true (l.map strAV), .int .i64 z]), (d, dObj kb nb s), (nb, mObj s.now), (kb, mObj s.kept)]) := by
    intro _
    subst hA
    refine AAny.step [] [0, 6, 8] (by decide +kernel) (by simp) (by decide) ⟨?_, ?_, ?_, trivial⟩
    ·
     show aopsR _ _ _ [_] _ _ _
     refine ⟨trivial, ?_⟩
     refine AAny.keep [0, 1, 21, 26] (by decide) ?_
     exact s61 trivial
    ·
     show aopsR _ _ _ [_] _ _ _
     refine ⟨⟨rfl, by decide⟩, ?_⟩
     refine AAny.keep [0, 1, 27] (by decide) ?_
     exact s64 trivial
    ·
     show aopsR _ _ _ [_] _ _ _
     refine ⟨trivial, ?_⟩
     refine AAny.keep [0, 1, 26, 29] (by decide) ?_
     exact s65 trivial
   have s71 : ∀ (_ : True), A 10 #[false, false, false, false, true, false, false, false, true, false, false, false] (fun fr m => K1 (fr.keep [0, 1, 5]) m) [(0, .ptr ⟨x, 0, none⟩), (1, .str t), (25, .ptr ⟨x, 0, none⟩), (29, .str t)] (AMem.wth m [(x, .cells [.ptr ⟨d, 0, none⟩, .str name, .slice true (l.map strAV), .int .i64 z]), (d, dObj kb nb s), (nb, mObj s.now), (kb, mObj s.kept)]) := by
    intro _
    subst hA
    refine AAny.step [] [0, 5, 9] (by decide +kernel) (by simp) (by decide) ⟨?_, ?_, ?_, trivial⟩
    ·
     show aopsR _ _ _ [_] _ _ _
     refine ⟨trivial, ?_⟩
     refine AAny.keep [0, 1, 21, 25, 29] (by decide) ?_
     exact s62 trivial
    ·
     show aopsR _ _ _ [_] _ _ _
     refine ⟨trivial, ?_⟩
     refine AAny.keep [0, 1, 26, 29] (by decide) ?_
     exact s65 trivial
    ·
     show aopsR _ _ _ [_] _ _ _
     refine u_frame t (by omega) _ _ ?_
     refine AAny.keep [0, 1, 25, 30] (by decide) ?_
     exact s66 trivial
   have s72 : ∀ (_ : True), A 10 #[false, false, false, false, false, false, false, false, true, true, false, false] (fun fr m => K1 (fr.keep [0, 1, 5]) m) [(0, .ptr ⟨x, 0, none⟩), (1, .str t), (30, .str (framedL t))] (AMem.wth m [(x, .cells [.ptr ⟨d, 0, none⟩, .str name, .slice true (l.map strAV), .int .i64 z]), (d, dObj kb nb s), (nb, mObj s.now), (kb, mObj s.kept)]) := by
    intro _
    subst hA
    refine AAny.step [] [0, 4] (by decide +kernel) (by simp) (by decide) ⟨?_, ?_, trivial⟩
    ·
     show aopsR _ _ _ [_] _ _ _
     refine ⟨trivial, ?_⟩
     refine AAny.keep [0, 1, 21, 30] (by decide) ?_
     exact s63 trivial
    ·
     show aopsR _ _ _ [_] _ _ _
     refine ⟨trivial, ?_⟩
     refine AAny.keep [0, 1, 25, 30] (by decide) ?_
     exact s66 trivial
   have s73 : ∀ (_ : True), A 11 #[true, false, false, false, false, false, false, false, false, false, false, false] (fun fr m => K1 (fr.keep [0, 1, 5]) m) [(0, .ptr ⟨x, 0, none⟩), (1, .str t), (21, .ptr ⟨x, 0, none⟩)] (AMem.wth m [(x, .cells [.ptr ⟨d, 0, none⟩, .str name, .slice true (l.map strAV), .int .i64 z]), (d, dObj kb nb s), (nb, mObj s.now), (kb, mObj s.kept)]) := by
    intro _
    subst hA
    refine AAny.step [] [1, 4, 8] (by decide +kernel) (by simp) (by decide) ⟨?_, ?_, ?_, trivial⟩
    ·
     show aopsR _ _ _ [_] _ _ _
     refine ⟨trivial, ?_⟩
     refine AAny.keep [0, 1, 22] (by decide) ?_
     exact s67 trivial
    ·
     show aopsR _ _ _ [_] _ _ _
     refine ⟨trivial, ?_⟩
     refine AAny.keep [0, 1, 21, 25] (by decide) ?_
     exact s68 trivial
    ·
     show aopsR _ _ _ [_] _ _ _
     refine ⟨trivial, ?_⟩
     refine AAny.keep [0, 1, 21, 29] (by decide) ?_
     exact s69 trivial
   have s74 : ∀ (_ : True), A 11 #[false, false, false, false, true, false, false, false, false, false, false, false] (fun fr m => K1 (fr.keep [0, 1, 5]) m) [(0, .ptr ⟨x, 0, none⟩), (1, .str t), (25, .ptr ⟨x, 0, none⟩)] (AMem.wth m [(x, .cells [.ptr ⟨d, 0, none⟩, .str name, .slice true (l.map strAV), .int .i64 z]), (d, dObj kb nb s), (nb, mObj s.now), (kb, mObj s.kept)]) := by
    intro _
    subst hA
    refine AAny.step [] [0, 5, 8] (by decide +kernel) (by simp) (by decide) ⟨?_, ?_, ?_, trivial⟩
    ·
     show aopsR _ _ _ [_] _ _ _
     refine ⟨trivial, ?_⟩
     refine AAny.keep [0, 1, 21, 25] (by decide) ?_
     exact s68 trivial
    ·
     show aopsR _ _ _ [_] _ _ _
     refine ⟨trivial, ?_⟩
     refine AAny.keep [0, 1, 26] (by decide) ?_
     exact s70 trivial
    ·
     show aopsR _ _ _ [_] _ _ _
     refine ⟨trivial, ?_⟩
     refine AAny.keep [0, 1, 25, 29] (by decide) ?_
     exact s71 trivial
   have s75 : ∀ (_ : True), A 11 #[false, false, false, false, false, false, false, false, true, false, false, false] (fun fr m => K1 (fr.keep [0, 1, 5]) m) [(0, .ptr ⟨x, 0, none⟩), (1, .str t), (29, .str t)] (AMem.wth m [(x, .cells [.ptr ⟨d, 0, none⟩, .str name, .slice true (l.map strAV), .int .i64 z]), (d, dObj kb nb s), (nb, mObj s.now), (kb, mObj s.kept)]) := by
    intro _
    subst hA
    refine AAny.step [] [0, 4, 9] (by decide +kernel) (by simp) (by decide) ⟨?_, ?_, ?_, trivial⟩
    ·
     show aopsR _ _ _ [_] _ _ _
     refine ⟨trivial, ?_⟩
     refine AAny.keep [0, 1, 21, 29] (by decide) ?_
     exact s69 trivial
    ·
     show aopsR _ _ _ [_] _ _ _
     refine ⟨trivial, ?_⟩
     refine AAny.keep [0, 1, 25, 29] (by decide) ?_
     exact s71 trivial
    ·
     show aopsR _ _ _ [_] _ _ _
     refine u_frame t (by omega) _ _ ?_
     refine AAny.keep [0, 1, 30] (by decide) ?_
     exact s72 trivial
   have s76 : ∀ (_ : True), A 12 #[false, false, false, false, false, false, false, false, false, false, false, false] (fun fr m => K1 (fr.keep [0, 1, 5]) m) [(0, .ptr ⟨x, 0, none⟩), (1, .str t), (19, .bool ((decide (400 < (t.length : Int))) || (decide (4000 < (z + (t.length : Int)) + 6))))] (AMem.wth m [(x, .cells [.ptr ⟨d, 0, none⟩, .str name, .slice true (l.map strAV), .int .i64 z]), (d, dObj kb nb s), (nb, mObj s.now), (kb, mObj s.kept)]) := by
    intro _
    subst hA
    refine AAny.step [] [0, 4, 8] (by decide +kernel) (by simp) (by decide) ⟨?_, ?_, ?_, trivial⟩
    ·
     show aopsR _ _ _ [_] _ _ _
     refine ⟨trivial, ?_⟩
     refine AAny.keep [0, 1, 21] (by decide) ?_
     exact s73 trivial
    ·
     show aopsR _ _ _ [_] _ _ _
     refine ⟨trivial, ?_⟩
     refine AAny.keep [0, 1, 25] (by decide) ?_
     exact s74 trivial
    ·
     show aopsR _ _ _ [_] _ _ _
     refine ⟨trivial, ?_⟩
     refine AAny.keep [0, 1, 29] (by decide) ?_
     exact s75 trivial
   exact s76 trivial
  intro _
  refine hK1 _ _ ?_; clear hK1 K1
  refine awp_seq_k ?_; intro K3 hK3
  refine awp_reg2_seq [] [0, 1, 5, 33] (by decide) ?_
  intro K1 hK1
  refine ⟨trivial, ⟨rfl, rfl⟩, ?_⟩
  show K1 [(0, .ptr ⟨x, 0, none⟩), (1, .str t), (5, .err 108 ((appR s name (framedL t)).2)), (33, .bool (((appR s name (framedL t)).2) == 0))] (AMem.wth m [(x, .cells [.ptr ⟨d, 0, none⟩, .str name, .slice true (l.map strAV), .int .i64 z]), (d, dObj kb nb ((appR s name (framedL t)).1)), (nb, mObj ((appR s name (framedL t)).1.now)), (kb, mObj ((appR s name (framedL t)).1.kept))])
  refine hK1 _ _ ?_; clear hK1 K1
  refine awp_cond rfl rfl (fun h3 => ?_) (fun h3 => ?_)
  ·
   replace h3 : (appR s name (framedL t)).2 = 0 := (eq_of_beq h3)
   refine awp_reg2 [] [0, 1, 5] (by decide) ?_
   intro K1 hK1
   refine ⟨trivial, trivial, ⟨rfl, by decide⟩, ?_⟩
   refine ar_loadp rfl (m := m) (L := [(x, .cells [.ptr ⟨d, 0, none⟩, .str name, .slice true (l.map strAV), .int .i64 z]), (d, dObj kb nb ((appR s name (framedL t)).1)), (nb, mObj ((appR s name (framedL t)).1.now)), (kb, mObj ((appR s name (framedL t)).1.kept))]) (v := .ptr ⟨d, 0, none⟩) rfl (wth_get 0 hN rfl) rfl (apartOk_one rfl rfl (Nat.le_of_ble_eq_true rfl)) rfl ?_
   refine ar_mem (wth_split hN (pick_perm [1, 2, 1] _)) ?_
   refine u_Sync3 d kb nb ((appR s name (framedL t)).1) (N + 1) (by have q := hN; simp at q ⊢; omega) (appR_inv hD) (by omega) _ _ ?_
   show aopsR _ _ _ _ _ _ (AMem.wth (AMem.wth m [(x, .cells [.ptr ⟨d, 0, none⟩, .str name, .slice true (l.map strAV), .int .i64 z])]) [(d, dObj kb nb ((syncF ((appR s name (framedL t)).1)).1)), (kb, mObj ((syncF ((appR s name (framedL t)).1)).1.kept)), (nb, mObj ((syncF ((appR s name (framedL t)).1)).1.now))])
   refine ar_mem (wth_split (m := m) (L := [(x, .cells [.ptr ⟨d, 0, none⟩, .str name, .slice true (l.map strAV), .int .i64 z]), (d, dObj kb nb ((syncF ((appR s name (framedL t)).1)).1)), (nb, mObj ((syncF ((appR s name (framedL t)).1)).1.now)), (kb, mObj ((syncF ((appR s name (framedL t)).1)).1.kept))]) hN (pick_perm [1, 2, 1] _)).symm ?_
   refine ⟨trivial, ?_⟩
   show K1 [(0, .ptr ⟨x, 0, none⟩), (1, .str t), (5, .err 108 ((syncF ((appR s name (framedL t)).1)).2))] (AMem.wth m [(x, .cells [.ptr ⟨d, 0, none⟩, .str name, .slice true (l.map strAV), .int .i64 z]), (d, dObj kb nb ((syncF ((appR s name (framedL t)).1)).1)), (nb, mObj ((syncF ((appR s name (framedL t)).1)).1.now)), (kb, mObj ((syncF ((appR s name (framedL t)).1)).1.kept))])
   refine hK1 _ _ ?_; clear hK1 K1
   refine hK3 _ _ ?_; clear hK3
   refine awp_seq_k ?_; intro K4 hK4
   refine awp_reg2_seq [] [0, 1, 5, 40] (by decide) ?_
   intro K1 hK1
   refine ⟨trivial, ⟨rfl, rfl⟩, ?_⟩
   show K1 [(0, .ptr ⟨x, 0, none⟩), (1, .str t), (5, .err 108 ((syncF ((appR s name (framedL t)).1)).2)), (40, .bool (!(((syncF ((appR s name (framedL t)).1)).2) == 0)))] (AMem.wth m [(x, .cells [.ptr ⟨d, 0, none⟩, .str name, .slice true (l.map strAV), .int .i64 z]), (d, dObj kb nb ((syncF ((appR s name (framedL t)).1)).1)), (nb, mObj ((syncF ((appR s name (framedL t)).1)).1.now)), (kb, mObj ((syncF ((appR s name (framedL t)).1)).1.kept))])
   refine hK1 _ _ ?_; clear hK1 K1
   refine awp_cond rfl rfl (fun h4 => ?_) (fun h4 => ?_)
   ·
    replace h4 : (syncF ((appR s name (framedL t)).1)).2 ≠ 0 := (ne_of_beq_false (bnT h4))
    refine awp_reg2_seq [] [4] (by decide) ?_
    intro K1 hK1
    refine ⟨trivial, trivial, ?_⟩
    show K1 [(4, .err 108 ((syncF ((appR s name (framedL t)).1)).2))] (AMem.wth m [(x, .cells [.ptr ⟨d, 0, none⟩, .str name, .slice true (l.map strAV), .int .i64 z]), (d, dObj kb nb ((syncF ((appR s name (framedL t)).1)).1)), (nb, mObj ((syncF ((appR s name (framedL t)).1)).1.now)), (kb, mObj ((syncF ((appR s name (framedL t)).1)).1.kept))])
    refine hK1 _ _ ?_; clear hK1 K1
    refine awp_ret ?_
    refine ⟨trivial, (AMem.wth m [(x, .cells [.ptr ⟨d, 0, none⟩, .str name, .slice true (l.map strAV), .int .i64 z]), (d, dObj kb nb ((syncF ((appR s name (framedL t)).1)).1)), (nb, mObj ((syncF ((appR s name (framedL t)).1)).1.now)), (kb, mObj ((syncF ((appR s name (framedL t)).1)).1.kept))]), fun _ _ h => h, ?_⟩
    show K (.err 108 ((syncF ((appR s name (framedL t)).1)).2)) (AMem.wth m [(x, .cells [.ptr ⟨d, 0, none⟩, .str name, .slice true (l.map strAV), .int .i64 z]), (d, dObj kb nb ((syncF ((appR s name (framedL t)).1)).1)), (nb, mObj ((syncF ((appR s name (framedL t)).1)).1.now)), (kb, mObj ((syncF ((appR s name (framedL t)).1)).1.kept))])
   
    have e0 : addR s name l z t = (((syncF ((appR s name (framedL t)).1)).1, (syncF ((appR s name (framedL t)).1)).2, (l, z)) : DSt × Int × (List Str × Int)) := by
     first | (rw [addR, if_pos h2]; done) | (rw [addR, if_neg (by omega), if_neg (by omega), if_pos h4]; done) | (rw [addR, if_neg (by omega), if_neg (by omega), if_neg (by omega)]; done) | (rw [addR, if_neg (by omega), if_pos h5]; done) | (exact absurd h5 h3)
    rw [e0] at hK
    exact hK
   ·
    replace h4 : (syncF ((appR s name (framedL t)).1)).2 = 0 := (eq_of_beq (bnF h4))
    refine awp_skip ?_
    refine hK4 _ _ ?_; clear hK4
    refine awp_reg2_seq [46] [0, 1] (by decide) ?_
    intro K1 hK1
    refine ⟨trivial, trivial, trivial, ⟨rfl, by decide⟩, ?_⟩
    refine ar_loads rfl (m := m) (L := [(x, .cells [.ptr ⟨d, 0, none⟩, .str name, .slice true (l.map strAV), .int .i64 z]), (d, dObj kb nb ((syncF ((appR s name (framedL t)).1)).1)), (nb, mObj ((syncF ((appR s name (framedL t)).1)).1.now)), (kb, mObj ((syncF ((appR s name (framedL t)).1)).1.kept))]) (i := 0) rfl hN rfl rfl rfl rfl (Nat.le_of_ble_eq_true rfl) ?_
    refine ⟨trivial, ⟨rfl, Nat.le_of_ble_eq_true rfl, rfl, Nat.le_of_ble_eq_true rfl, rfl, by simp only [List.forall_mem_cons]; exact ⟨⟨rfl, rfl⟩, fun _ h => by cases h⟩⟩, ?_⟩
    refine ar_append rfl strAV l ([t] : List (List UInt8)) rfl rfl rfl rfl rfl rfl (Nat.le_of_ble_eq_true rfl) rfl (by (simp only [show Try.prog.bytesOf 9 = 16 from rfl, List.length_append, List.length_cons, List.length_nil]; omega)) (by (first | omega | (simp only [List.length_append, List.length_cons, List.length_nil]; omega))) (fun _ => ⟨rfl, rfl⟩) ?_
    refine ⟨trivial, ⟨rfl, by decide⟩, ?_⟩
    refine ar_storep rfl 0 (m := m) (L := [(x, .cells [.ptr ⟨d, 0, none⟩, .str name, .slice false (l.map strAV), .int .i64 z]), (d, dObj kb nb ((syncF ((appR s name (framedL t)).1)).1)), (nb, mObj ((syncF ((appR s name (framedL t)).1)).1.now)), (kb, mObj ((syncF ((appR s name (framedL t)).1)).1.kept))]) (v := .slice true ((l ++ ([t] : List (List UInt8))).map strAV)) (l' := [.ptr ⟨d, 0, none⟩, .str name, .slice true ((l ++ ([t] : List (List UInt8))).map strAV), .int .i64 z]) rfl rfl hN rfl rfl rfl rfl rfl (Nat.le_of_ble_eq_true rfl) rfl ?_
    show K1 [(0, .ptr ⟨x, 0, none⟩), (1, .str t)] (AMem.wth m [(x, .cells [.ptr ⟨d, 0, none⟩, .str name, .slice true ((l ++ ([t] : List (List UInt8))).map strAV), .int .i64 z]), (d, dObj kb nb ((syncF ((appR s name (framedL t)).1)).1)), (nb, mObj ((syncF ((appR s name (framedL t)).1)).1.now)), (kb, mObj ((syncF ((appR s name (framedL t)).1)).1.kept))])
    refine hK1 _ _ ?_; clear hK1 K1
    refine awp_reg2_seq [] [] (by decide) ?_
    intro K1 hK1
    refine ⟨trivial, trivial, ⟨rfl, by decide⟩, ?_⟩
    refine ar_loadp rfl (m := m) (L := [(x, .cells [.ptr ⟨d, 0, none⟩, .str name, .slice true ((l ++ ([t] : List (List UInt8))).map strAV), .int .i64 z]), (d, dObj kb nb ((syncF ((appR s name (framedL t)).1)).1)), (nb, mObj ((syncF ((appR s name (framedL t)).1)).1.now)), (kb, mObj ((syncF ((appR s name (framedL t)).1)).1.kept))]) (v := .int .i64 z) rfl (wth_get 0 hN rfl) rfl (apartOk_one rfl rfl (Nat.le_of_ble_eq_true rfl)) rfl ?_
    refine ⟨trivial, trivial, ?_⟩
    refine ar_add rfl (a := (t.length : Int)) (b := 6) rfl rfl (by omega) (by omega) ?_
    refine ar_add rfl (a := z) (b := (t.length : Int) + 6) rfl rfl (by omega) (by omega) ?_
    refine ⟨trivial, ⟨rfl, by decide⟩, ?_⟩
    refine ar_storep rfl 0 (m := m) (L := [(x, .cells [.ptr ⟨d, 0, none⟩, .str name, .slice true ((l ++ ([t] : List (List UInt8))).map strAV), .int .i64 z]), (d, dObj kb nb ((syncF ((appR s name (framedL t)).1)).1)), (nb, mObj ((syncF ((appR s name (framedL t)).1)).1.now)), (kb, mObj ((syncF ((appR s name (framedL t)).1)).1.kept))]) (v := .int .i64 (z + ((t.length : Int) + 6))) (l' := [.ptr ⟨d, 0, none⟩, .str name, .slice true ((l ++ ([t] : List (List UInt8))).map strAV), .int .i64 (z + ((t.length : Int) + 6))]) rfl rfl hN rfl rfl rfl rfl rfl (Nat.le_of_ble_eq_true rfl) rfl ?_
    show K1 [] (AMem.wth m [(x, .cells [.ptr ⟨d, 0, none⟩, .str name, .slice true ((l ++ ([t] : List (List UInt8))).map strAV), .int .i64 (z + ((t.length : Int) + 6))]), (d, dObj kb nb ((syncF ((appR s name (framedL t)).1)).1)), (nb, mObj ((syncF ((appR s name (framedL t)).1)).1.now)), (kb, mObj ((syncF ((appR s name (framedL t)).1)).1.kept))])
    refine hK1 _ _ ?_; clear hK1 K1
    refine awp_reg2_seq [] [4] (by decide) ?_
    intro K1 hK1
    refine ⟨trivial, ?_⟩
    show K1 [(4, .nilIface)] (AMem.wth m [(x, .cells [.ptr ⟨d, 0, none⟩, .str name, .slice true ((l ++ ([t] : List (List UInt8))).map strAV), .int .i64 (z + ((t.length : Int) + 6))]), (d, dObj kb nb ((syncF ((appR s name (framedL t)).1)).1)), (nb, mObj ((syncF ((appR s name (framedL t)).1)).1.now)), (kb, mObj ((syncF ((appR s name (framedL t)).1)).1.kept))])
    refine hK1 _ _ ?_; clear hK1 K1
    refine awp_toErr 108 [4] ?_
    show AWP _ _ _ _ [(4, .err 108 0)] (AMem.wth m [(x, .cells [.ptr ⟨d, 0, none⟩, .str name, .slice true ((l ++ ([t] : List (List UInt8))).map strAV), .int .i64 (z + ((t.length : Int) + 6))]), (d, dObj kb nb ((syncF ((appR s name (framedL t)).1)).1)), (nb, mObj ((syncF ((appR s name (framedL t)).1)).1.now)), (kb, mObj ((syncF ((appR s name (framedL t)).1)).1.kept))])
    refine awp_ret ?_
    refine ⟨trivial, (AMem.wth m [(x, .cells [.ptr ⟨d, 0, none⟩, .str name, .slice true ((l ++ ([t] : List (List UInt8))).map strAV), .int .i64 (z + ((t.length : Int) + 6))]), (d, dObj kb nb ((syncF ((appR s name (framedL t)).1)).1)), (nb, mObj ((syncF ((appR s name (framedL t)).1)).1.now)), (kb, mObj ((syncF ((appR s name (framedL t)).1)).1.kept))]), fun _ _ h => h, ?_⟩
    show K (.err 108 0) (AMem.wth m [(x, .cells [.ptr ⟨d, 0, none⟩, .str name, .slice true ((l ++ ([t] : List (List UInt8))).map strAV), .int .i64 (z + ((t.length : Int) + 6))]), (d, dObj kb nb ((syncF ((appR s name (framedL t)).1)).1)), (nb, mObj ((syncF ((appR s name (framedL t)).1)).1.now)), (kb, mObj ((syncF ((appR s name (framedL t)).1)).1.kept))])
   
    have e0 : addR s name l z t = (((syncF ((appR s name (framedL t)).1)).1, 0, (l ++ ([t] : List (List UInt8)), z + ((t.length : Int) + 6))) : DSt × Int × (List Str × Int)) := by
     first | (rw [addR, if_pos h2]; done) | (rw [addR, if_neg (by omega), if_neg (by omega), if_pos h4]; done) | (rw [addR, if_neg (by omega), if_neg (by omega), if_neg (by omega)]; done) | (rw [addR, if_neg (by omega), if_pos h5]; done) | (exact absurd h5 h3)
    rw [e0] at hK
    exact hK
  ·
   replace h3 : (appR s name (framedL t)).2 ≠ 0 := (ne_of_beq_false h3)
   refine awp_skip ?_
   refine hK3 _ _ ?_; clear hK3
   refine awp_seq_k ?_; intro K5 hK5
   refine awp_reg2_seq [] [0, 1, 5, 40] (by decide) ?_
   intro K1 hK1
   refine ⟨trivial, ⟨rfl, rfl⟩, ?_⟩
   show K1 [(0, .ptr ⟨x, 0, none⟩), (1, .str t), (5, .err 108 ((appR s name (framedL t)).2)), (40, .bool (!(((appR s name (framedL t)).2) == 0)))] (AMem.wth m [(x, .cells [.ptr ⟨d, 0, none⟩, .str name, .slice true (l.map strAV), .int .i64 z]), (d, dObj kb nb ((appR s name (framedL t)).1)), (nb, mObj ((appR s name (framedL t)).1.now)), (kb, mObj ((appR s name (framedL t)).1.kept))])
   refine hK1 _ _ ?_; clear hK1 K1
   refine awp_cond rfl rfl (fun h5 => ?_) (fun h5 => ?_)
   ·
    replace h5 : (appR s name (framedL t)).2 ≠ 0 := (ne_of_beq_false (bnT h5))
    refine awp_reg2_seq [] [4] (by decide) ?_
    intro K1 hK1
    refine ⟨trivial, trivial, ?_⟩
    show K1 [(4, .err 108 ((appR s name (framedL t)).2))] (AMem.wth m [(x, .cells [.ptr ⟨d, 0, none⟩, .str name, .slice true (l.map strAV), .int .i64 z]), (d, dObj kb nb ((appR s name (framedL t)).1)), (nb, mObj ((appR s name (framedL t)).1.now)), (kb, mObj ((appR s name (framedL t)).1.kept))])
    refine hK1 _ _ ?_; clear hK1 K1
    refine awp_ret ?_
    refine ⟨trivial, (AMem.wth m [(x, .cells [.ptr ⟨d, 0, none⟩, .str name, .slice true (l.map strAV), .int .i64 z]), (d, dObj kb nb ((appR s name (framedL t)).1)), (nb, mObj ((appR s name (framedL t)).1.now)), (kb, mObj ((appR s name (framedL t)).1.kept))]), fun _ _ h => h, ?_⟩
    show K (.err 108 ((appR s name (framedL t)).2)) (AMem.wth m [(x, .cells [.ptr ⟨d, 0, none⟩, .str name, .slice true (l.map strAV), .int .i64 z]), (d, dObj kb nb ((appR s name (framedL t)).1)), (nb, mObj ((appR s name (framedL t)).1.now)), (kb, mObj ((appR s name (framedL t)).1.kept))])
   
    have e0 : addR s name l z t = (((appR s name (framedL t)).1, (appR s name (framedL t)).2, (l, z)) : DSt × Int × (List Str × Int)) := by
     first | (rw [addR, if_pos h2]; done) | (rw [addR, if_neg (by omega), if_neg (by omega), if_pos h4]; done) | (rw [addR, if_neg (by omega), if_neg (by omega), if_neg (by omega)]; done) | (rw [addR, if_neg (by omega), if_pos h5]; done) | (exact absurd h5 h3)
    rw [e0] at hK
    exact hK
   ·
    replace h5 : (appR s name (framedL t)).2 = 0 := (eq_of_beq (bnF h5))
    refine awp_skip ?_
    refine hK5 _ _ ?_; clear hK5
    refine awp_reg2_seq [46] [0, 1] (by decide) ?_
    intro K1 hK1
    refine ⟨trivial, trivial, trivial, ⟨rfl, by decide⟩, ?_⟩
    refine ar_loads rfl (m := m) (L := [(x, .cells [.ptr ⟨d, 0, none⟩, .str name, .slice true (l.map strAV), .int .i64 z]), (d, dObj kb nb ((appR s name (framedL t)).1)), (nb, mObj ((appR s name (framedL t)).1.now)), (kb, mObj ((appR s name (framedL t)).1.kept))]) (i := 0) rfl hN rfl rfl rfl rfl (Nat.le_of_ble_eq_true rfl) ?_
    refine ⟨trivial, ⟨rfl, Nat.le_of_ble_eq_true rfl, rfl, Nat.le_of_ble_eq_true rfl, rfl, by simp only [List.forall_mem_cons]; exact ⟨⟨rfl, rfl⟩, fun _ h => by cases h⟩⟩, ?_⟩
    refine ar_append rfl strAV l ([t] : List (List UInt8)) rfl rfl rfl rfl rfl rfl (Nat.le_of_ble_eq_true rfl) rfl (by (simp only [show Try.prog.bytesOf 9 = 16 from rfl, List.length_append, List.length_cons, List.length_nil]; omega)) (by (first | omega | (simp only [List.length_append, List.length_cons, List.length_nil]; omega))) (fun _ => ⟨rfl, rfl⟩) ?_
    refine ⟨trivial, ⟨rfl, by decide⟩, ?_⟩
    refine ar_storep rfl 0 (m := m) (L := [(x, .cells [.ptr ⟨d, 0, none⟩, .str name, .slice false (l.map strAV), .int .i64 z]), (d, dObj kb nb ((appR s name (framedL t)).1)), (nb, mObj ((appR s name (framedL t)).1.now)), (kb, mObj ((appR s name (framedL t)).1.kept))]) (v := .slice true ((l ++ ([t] : List (List UInt8))).map strAV)) (l' := [.ptr ⟨d, 0, none⟩, .str name, .slice true ((l ++ ([t] : List (List UInt8))).map strAV), .int .i64 z]) rfl rfl hN rfl rfl rfl rfl rfl (Nat.le_of_ble_eq_true rfl) rfl ?_
    show K1 [(0, .ptr ⟨x, 0, none⟩), (1, .str t)] (AMem.wth m [(x, .cells [.ptr ⟨d, 0, none⟩, .str name, .slice true ((l ++ ([t] : List (List UInt8))).map strAV), .int .i64 z]), (d, dObj kb nb ((appR s name (framedL t)).1)), (nb, mObj ((appR s name (framedL t)).1.now)), (kb, mObj ((appR s name (framedL t)).1.kept))])
    refine hK1 _ _ ?_; clear hK1 K1
    refine awp_reg2_seq [] [] (by decide) ?_
    intro K1 hK1
    refine ⟨trivial, trivial, ⟨rfl, by decide⟩, ?_⟩
    refine ar_loadp rfl (m := m) (L := [(x, .cells [.ptr ⟨d, 0, none⟩, .str name, .slice true ((l ++ ([t] : List (List UInt8))).map strAV), .int .i64 z]), (d, dObj kb nb ((appR s name (framedL t)).1)), (nb, mObj ((appR s name (framedL t)).1.now)), (kb, mObj ((appR s name (framedL t)).1.kept))]) (v := .int .i64 z) rfl (wth_get 0 hN rfl) rfl (apartOk_one rfl rfl (Nat.le_of_ble_eq_true rfl)) rfl ?_
    refine ⟨trivial, trivial, ?_⟩
    refine ar_add rfl (a := (t.length : Int)) (b := 6) rfl rfl (by omega) (by omega) ?_
    refine ar_add rfl (a := z) (b := (t.length : Int) + 6) rfl rfl (by omega) (by omega) ?_
    refine ⟨trivial, ⟨rfl, by decide⟩, ?_⟩
    refine ar_storep rfl 0 (m := m) (L := [(x, .cells [.ptr ⟨d, 0, none⟩, .str name, .slice true ((l ++ ([t] : List (List UInt8))).map strAV), .int .i64 z]), (d, dObj kb nb ((appR s name (framedL t)).1)), (nb, mObj ((appR s name (framedL t)).1.now)), (kb, mObj ((appR s name (framedL t)).1.kept))]) (v := .int .i64 (z + ((t.length : Int) + 6))) (l' := [.ptr ⟨d, 0, none⟩, .str name, .slice true ((l ++ ([t] : List (List UInt8))).map strAV), .int .i64 (z + ((t.length : Int) + 6))]) rfl rfl hN rfl rfl rfl rfl rfl (Nat.le_of_ble_eq_true rfl) rfl ?_
    show K1 [] (AMem.wth m [(x, .cells [.ptr ⟨d, 0, none⟩, .str name, .slice true ((l ++ ([t] : List (List UInt8))).map strAV), .int .i64 (z + ((t.length : Int) + 6))]), (d, dObj kb nb ((appR s name (framedL t)).1)), (nb, mObj ((appR s name (framedL t)).1.now)), (kb, mObj ((appR s name (framedL t)).1.kept))])
    refine hK1 _ _ ?_; clear hK1 K1
    refine awp_reg2_seq [] [4] (by decide) ?_
    intro K1 hK1
    refine ⟨trivial, ?_⟩
    show K1 [(4, .nilIface)] (AMem.wth m [(x, .cells [.ptr ⟨d, 0, none⟩, .str name, .slice true ((l ++ ([t] : List (List UInt8))).map strAV), .int .i64 (z + ((t.length : Int) + 6))]), (d, dObj kb nb ((appR s name (framedL t)).1)), (nb, mObj ((appR s name (framedL t)).1.now)), (kb, mObj ((appR s name (framedL t)).1.kept))])
    refine hK1 _ _ ?_; clear hK1 K1
    refine awp_toErr 108 [4] ?_
    show AWP _ _ _ _ [(4, .err 108 0)] (AMem.wth m [(x, .cells [.ptr ⟨d, 0, none⟩, .str name, .slice true ((l ++ ([t] : List (List UInt8))).map strAV), .int .i64 (z + ((t.length : Int) + 6))]), (d, dObj kb nb ((appR s name (framedL t)).1)), (nb, mObj ((appR s name (framedL t)).1.now)), (kb, mObj ((appR s name (framedL t)).1.kept))])
    refine awp_ret ?_
    refine ⟨trivial, (AMem.wth m [(x, .cells [.ptr ⟨d, 0, none⟩, .str name, .slice true ((l ++ ([t] : List (List UInt8))).map strAV), .int .i64 (z + ((t.length : Int) + 6))]), (d, dObj kb nb ((appR s name (framedL t)).1)), (nb, mObj ((appR s name (framedL t)).1.now)), (kb, mObj ((appR s name (framedL t)).1.kept))]), fun _ _ h => h, ?_⟩
    show K (.err 108 0) (AMem.wth m [(x, .cells [.ptr ⟨d, 0, none⟩, .str name, .slice true ((l ++ ([t] : List (List UInt8))).map strAV), .int .i64 (z + ((t.length : Int) + 6))]), (d, dObj kb nb ((appR s name (framedL t)).1)), (nb, mObj ((appR s name (framedL t)).1.now)), (kb, mObj ((appR s name (framedL t)).1.kept))])
   
    have e0 : addR s name l z t = (((appR s name (framedL t)).1, 0, (l ++ ([t] : List (List UInt8)), z + ((t.length : Int) + 6))) : DSt × Int × (List Str × Int)) := by
     first | (rw [addR, if_pos h2]; done) | (rw [addR, if_neg (by omega), if_neg (by omega), if_pos h4]; done) | (rw [addR, if_neg (by omega), if_neg (by omega), if_neg (by omega)]; done) | (rw [addR, if_neg (by omega), if_pos h5]; done) | (exact absurd h5 h3)
    rw [e0] at hK
    exact hK

set_option maxHeartbeats 8000000 in
theorem u_Clear (x d kb nb : Nat) (s : DSt) (name : Str) (l : List Str) (z : Int) (N : Nat) (hN : [x, d, nb, kb].Nodup) (hD : DInv N s) (hNN : N ≤ 4000) (hn : name.length ≤ 16777216) (m : AMem)  (K : AV → AMem → Prop) (hK : K (.err 108 (clearR s name l z).2.1) (AMem.wth m [(x, .cells [.ptr ⟨d, 0, none⟩, .str name, .slice true ((clearR s name l z).2.2.1.map strAV), .int .i64 (clearR s name l z).2.2.2]), (d, dObj kb nb (clearR s name l z).1), (nb, mObj (clearR s name l z).1.now), (kb, mObj (clearR s name l z).1.kept)])) : ACalls Try.prog 22 [.ptr ⟨x, 0, none⟩] (AMem.wth m [(x, .cells [.ptr ⟨d, 0, none⟩, .str name, .slice true (l.map strAV), .int .i64 z]), (d, dObj kb nb s), (nb, mObj s.now), (kb, mObj s.kept)]) K := by
 refine acalls_enter Try.func22 rfl (by decide) (Nat.le_of_ble_eq_true rfl) ?_
 show AWP _ _ _ _ [(0, .ptr ⟨x, 0, none⟩)] (AMem.wth m [(x, .cells [.ptr ⟨d, 0, none⟩, .str name, .slice true (l.map strAV), .int .i64 z]), (d, dObj kb nb s), (nb, mObj s.now), (kb, mObj s.kept)])
 refine awp_reg2_seq [] [0] (by decide) ?_
 intro K1 hK1
 refine ⟨trivial, ?_⟩
 show K1 [(0, .ptr ⟨x, 0, none⟩)] (AMem.wth m [(x, .cells [.ptr ⟨d, 0, none⟩, .str name, .slice true (l.map strAV), .int .i64 z]), (d, dObj kb nb s), (nb, mObj s.now), (kb, mObj s.kept)])
 refine hK1 _ _ ?_; clear hK1 K1
 refine awp_anyA_seq Try.mixed [0, 3] (by decide) ?_
 intro K1 hK1
 intro A hA
 suffices key : ∀ (_ : True), K1 [(0, .ptr ⟨x, 0, none⟩), (3, .err 108 ((writeR s name ([])).2))] (AMem.wth m [(x, .cells [.ptr ⟨d, 0, none⟩, .str name, .slice true (l.map strAV), .int .i64 z]), (d, dObj kb nb ((writeR s name ([])).1)), (nb, mObj ((writeR s name ([])).1.now)), (kb, mObj ((writeR s name ([])).1.kept))]) by
  have s0 : ∀ (_ : True), A 0 #[true, true, true, true, true, true, true, true, true, true] (fun fr m => K1 (fr.keep [0, 3]) m) [(0, .ptr ⟨x, 0, none⟩), (3, .err 108 ((writeR s name ([])).2))] (AMem.wth m [(x, .cells [.ptr ⟨d, 0, none⟩, .str name, .slice true (l.map strAV), .int .i64 z]), (d, dObj kb nb ((writeR s name ([])).1)), (nb, mObj ((writeR s name ([])).1.now)), (kb, mObj ((writeR s name ([])).1.kept))]) := by
   intro _
   subst hA
   exact AAny.done (by decide +kernel) (key trivial)
  have s1 : ∀ (_ : True), A 1 #[true, true, true, true, true, true, true, true, true, false] (fun fr m => K1 (fr.keep [0, 3]) m) [(0, .ptr ⟨x, 0, none⟩), (12, .err 108 ((writeR s name ([])).2))] (AMem.wth m [(x, .cells [.ptr ⟨d, 0, none⟩, .str name, .slice true (l.map strAV), .int .i64 z]), (d, dObj kb nb ((writeR s name ([])).1)), (nb, mObj ((writeR s name ([])).1.now)), (kb, mObj ((writeR s name ([])).1.kept))]) := by
   intro _
   subst hA
   refine AAny.step [] [9] (by decide +kernel) (by simp) (by decide) ⟨?_, trivial⟩
   ·
    show aopsR _ _ _ [_] _ _ _
    refine ⟨trivial, ?_⟩
    refine AAny.keep [0, 3] (by decide) ?_
    exact s0 trivial
  have s2 : ∀ (_ : True), A 2 #[true, true, true, true, true, true, true, true, false, false] (fun fr m => K1 (fr.keep [0, 3]) m) [(0, .ptr ⟨x, 0, none⟩), (7, .ptr ⟨d, 0, none⟩), (11, .str name)] (AMem.wth m [(x, .cells [.ptr ⟨d, 0, none⟩, .str name, .slice true (l.map strAV), .int .i64 z]), (d, dObj kb nb s), (nb, mObj s.now), (kb, mObj s.kept)]) := by
   intro _
   subst hA
   refine AAny.step [] [8] (by decide +kernel) (by simp) (by decide) ⟨?_, trivial⟩
   ·
    show aopsR _ _ _ [_] _ _ _
    refine ar_mem (wth_split hN (pick_perm [1, 1, 1] _)) ?_
    refine u_Write3 d kb nb s name ([]) N (by have q := hN; simp at q ⊢; omega) hD (by omega) (by first | assumption | omega | (simp; done)) (by first | assumption | omega | (simp; done)) _ _ ?_
    show aopsR _ _ _ _ _ _ (AMem.wth (AMem.wth m [(x, .cells [.ptr ⟨d, 0, none⟩, .str name, .slice true (l.map strAV), .int .i64 z])]) [(d, dObj kb nb ((writeR s name ([])).1)), (nb, mObj ((writeR s name ([])).1.now)), (kb, mObj ((writeR s name ([])).1.kept))])
    refine ar_mem (wth_split (m := m) (L := [(x, .cells [.ptr ⟨d, 0, none⟩, .str name, .slice true (l.map strAV), .int .i64 z]), (d, dObj kb nb ((writeR s name ([])).1)), (nb, mObj ((writeR s name ([])).1.now)), (kb, mObj ((writeR s name ([])).1.kept))]) hN (pick_perm [1, 1, 1] _)).symm ?_
    refine AAny.keep [0, 12] (by decide) ?_
    exact s1 trivial
  have s3 : ∀ (_ : True), A 3 #[true, true, true, true, true, true, true, false, false, false] (fun fr m => K1 (fr.keep [0, 3]) m) [(0, .ptr ⟨x, 0, none⟩), (7, .ptr ⟨d, 0, none⟩), (10, .ptr ⟨x, 1, none⟩)] (AMem.wth m [(x, .cells [.ptr ⟨d, 0, none⟩, .str name, .slice true (l.map strAV), .int .i64 z]), (d, dObj kb nb s), (nb, mObj s.now), (kb, mObj s.kept)]) := by
   intro _
   subst hA
   refine AAny.step [] [7] (by decide +kernel) (by simp) (by decide) ⟨?_, trivial⟩
   ·
    show aopsR _ _ _ [_] _ _ _
    refine ar_loadp rfl (m := m) (L := [(x, .cells [.ptr ⟨d, 0, none⟩, .str name, .slice true (l.map strAV), .int .i64 z]), (d, dObj kb nb s), (nb, mObj s.now), (kb, mObj s.kept)]) (v := .str name) rfl (wth_get 0 hN rfl) rfl (apartOk_one rfl rfl (Nat.le_of_ble_eq_true rfl)) rfl ?_
    refine AAny.keep [0, 7, 11] (by decide) ?_
    exact s2 trivial
  have s4 : ∀ (_ : True), A 3 #[true, true, true, false, true, true, true, true, false, false] (fun fr m => K1 (fr.keep [0, 3]) m) [(0, .ptr ⟨x, 0, none⟩), (6, .ptr ⟨x, 0, none⟩), (11, .str name)] (AMem.wth m [(x, .cells [.ptr ⟨d, 0, none⟩, .str name, .slice true (l.map strAV), .int .i64 z]), (d, dObj kb nb s), (nb, mObj s.now), (kb, mObj s.kept)]) := by
   intro _
   subst hA
   refine AAny.step [] [3] (by decide +kernel) (by simp) (by decide) ⟨?_, trivial⟩
   ·
    show aopsR _ _ _ [_] _ _ _
    refine ar_loadp rfl (m := m) (L := [(x, .cells [.ptr ⟨d, 0, none⟩, .str name, .slice true (l.map strAV), .int .i64 z]), (d, dObj kb nb s), (nb, mObj s.now), (kb, mObj s.kept)]) (v := .ptr ⟨d, 0, none⟩) rfl (wth_get 0 hN rfl) rfl (apartOk_one rfl rfl (Nat.le_of_ble_eq_true rfl)) rfl ?_
    refine AAny.keep [0, 7, 11] (by decide) ?_
    exact s2 trivial
  have s5 : ∀ (_ : True), A 4 #[true, true, true, true, true, true, false, false, false, false] (fun fr m => K1 (fr.keep [0, 3]) m) [(0, .ptr ⟨x, 0, none⟩), (7, .ptr ⟨d, 0, none⟩), (9, .ptr ⟨x, 0, none⟩)] (AMem.wth m [(x, .cells [.ptr ⟨d, 0, none⟩, .str name, .slice true (l.map strAV), .int .i64 z]), (d, dObj kb nb s), (nb, mObj s.now), (kb, mObj s.kept)]) := by
   intro _
   subst hA
   refine AAny.step [] [6] (by decide +kernel) (by simp) (by decide) ⟨?_, trivial⟩
   ·
    show aopsR _ _ _ [_] _ _ _
    refine ⟨⟨rfl, by decide⟩, ?_⟩
    refine AAny.keep [0, 7, 10] (by decide) ?_
    exact s3 trivial
  have s6 : ∀ (_ : True), A 4 #[true, true, true, false, true, true, true, false, false, false] (fun fr m => K1 (fr.keep [0, 3]) m) [(0, .ptr ⟨x, 0, none⟩), (6, .ptr ⟨x, 0, none⟩), (10, .ptr ⟨x, 1, none⟩)] (AMem.wth m [(x, .cells [.ptr ⟨d, 0, none⟩, .str name, .slice true (l.map strAV), .int .i64 z]), (d, dObj kb nb s), (nb, mObj s.now), (kb, mObj s.kept)]) := by
   intro _
   subst hA
   refine AAny.step [] [3, 7] (by decide +kernel) (by simp) (by decide) ⟨?_, ?_, trivial⟩
   ·
    show aopsR _ _ _ [_] _ _ _
    refine ar_loadp rfl (m := m) (L := [(x, .cells [.ptr ⟨d, 0, none⟩, .str name, .slice true (l.map strAV), .int .i64 z]), (d, dObj kb nb s), (nb, mObj s.now), (kb, mObj s.kept)]) (v := .ptr ⟨d, 0, none⟩) rfl (wth_get 0 hN rfl) rfl (apartOk_one rfl rfl (Nat.le_of_ble_eq_true rfl)) rfl ?_
    refine AAny.keep [0, 7, 10] (by decide) ?_
    exact s3 trivial
   ·
    show aopsR _ _ _ [_] _ _ _
    refine ar_loadp rfl (m := m) (L := [(x, .cells [.ptr ⟨d, 0, none⟩, .str name, .slice true (l.map strAV), .int .i64 z]), (d, dObj kb nb s), (nb, mObj s.now), (kb, mObj s.kept)]) (v := .str name) rfl (wth_get 0 hN rfl) rfl (apartOk_one rfl rfl (Nat.le_of_ble_eq_true rfl)) rfl ?_
    refine AAny.keep [0, 6, 11] (by decide) ?_
    exact s4 trivial
  have s7 : ∀ (_ : True), A 4 #[true, true, false, false, true, true, true, true, false, false] (fun fr m => K1 (fr.keep [0, 3]) m) [(0, .ptr ⟨x, 0, none⟩), (5, .ptr ⟨x, 0, none⟩), (11, .str name)] (AMem.wth m [(x, .cells [.ptr ⟨d, 0, none⟩, .str name, .slice true (l.map strAV), .int .i64 z]), (d, dObj kb nb s), (nb, mObj s.now), (kb, mObj s.kept)]) := by
   intro _
   subst hA
   refine AAny.step [] [2] (by decide +kernel) (by simp) (by decide) ⟨?_, trivial⟩
   ·
    show aopsR _ _ _ [_] _ _ _
    refine ⟨⟨rfl, by decide⟩, ?_⟩
    refine AAny.keep [0, 6, 11] (by decide) ?_
    exact s4 trivial
  have s8 : ∀ (_ : True), A 5 #[true, true, true, true, true, false, false, false, false, false] (fun fr m => K1 (fr.keep [0, 3]) m) [(0, .ptr ⟨x, 0, none⟩), (7, .ptr ⟨d, 0, none⟩), (8, .ptr ⟨x, 0, none⟩)] (AMem.wth m [(x, .cells [.ptr ⟨d, 0, none⟩, .str name, .slice true (l.map strAV), .int .i64 z]), (d, dObj kb nb s), (nb, mObj s.now), (kb, mObj s.kept)]) := by
   intro _
   subst hA
   refine AAny.step [] [5] (by decide +kernel) (by simp) (by decide) ⟨?_, trivial⟩
   ·
    show aopsR _ _ _ [_] _ _ _
    refine ⟨trivial, ?_⟩
    refine AAny.keep [0, 7, 9] (by decide) ?_
    exact s5 trivial
  have s9 : ∀ (_ : True), A 5 #[true, true, true, false, true, true, false, false, false, false] (fun fr m => K1 (fr.keep [0, 3]) m) [(0, .ptr ⟨x, 0, none⟩), (6, .ptr ⟨x, 0, none⟩), (9, .ptr ⟨x, 0, none⟩)] (AMem.wth m [(x, .cells [.ptr ⟨d, 0, none⟩, .str name, .slice true (l.map strAV), .int .i64 z]), (d, dObj kb nb s), (nb, mObj s.now), (kb, mObj s.kept)]) := by
   intro _
   subst hA
   refine AAny.step [] [3, 6] (by decide +kernel) (by simp) (by decide) ⟨?_, ?_, trivial⟩
   ·
    show aopsR _ _ _ [_] _ _ _
    refine ar_loadp rfl (m := m) (L := [(x, .cells [.ptr ⟨d, 0, none⟩, .str name, .slice true (l.map strAV), .int .i64 z]), (d, dObj kb nb s), (nb, mObj s.now), (kb, mObj s.kept)]) (v := .ptr ⟨d, 0, none⟩) rfl (wth_get 0 hN rfl) rfl (apartOk_one rfl rfl (Nat.le_of_ble_eq_true rfl)) rfl ?_
    refine AAny.keep [0, 7, 9] (by decide) ?_
    exact s5 trivial
   ·
    show aopsR _ _ _ [_] _ _ _
    refine ⟨⟨rfl, by decide⟩, ?_⟩
    refine AAny.keep [0, 6, 10] (by decide) ?_
    exact s6 trivial
  have s10 : ∀ (_ : True), A 5 #[true, true, false, false, true, true, true, false, false, false] (fun fr m => K1 (fr.keep [0, 3]) m) [(0, .ptr ⟨x, 0, none⟩), (5, .ptr ⟨x, 0, none⟩), (10, .ptr ⟨x, 1, none⟩)] (AMem.wth m [(x, .cells [.ptr ⟨d, 0, none⟩, .str name, .slice true (l.map strAV), .int .i64 z]), (d, dObj kb nb s), (nb, mObj s.now), (kb, mObj s.kept)]) := by
   intro _
   subst hA
   refine AAny.step [] [2, 7] (by decide +kernel) (by simp) (by decide) ⟨?_, ?_, trivial⟩
   ·
    show aopsR _ _ _ [_] _ _ _
    refine ⟨⟨rfl, by decide⟩, ?_⟩
    refine AAny.keep [0, 6, 10] (by decide) ?_
    exact s6 trivial
   ·
    show aopsR _ _ _ [_] _ _ _
    refine ar_loadp rfl (m := m) (L := [(x, .cells [.ptr ⟨d, 0, none⟩, .str name, .slice true (l.map strAV), .int .i64 z]), (d, dObj kb nb s), (nb, mObj s.now), (kb, mObj s.kept)]) (v := .str name) rfl (wth_get 0 hN rfl) rfl (apartOk_one rfl rfl (Nat.le_of_ble_eq_true rfl)) rfl ?_
    refine AAny.keep [0, 5, 11] (by decide) ?_
    exact s7 trivial
  have s11 : ∀ (_ : True), A 5 #[true, false, false, false, true, true, true, true, false, false] (fun fr m => K1 (fr.keep [0, 3]) m) [(0, .ptr ⟨x, 0, none⟩), (4, .ptr ⟨x, 0, none⟩), (11, .str name)] (AMem.wth m [(x, .cells [.ptr ⟨d, 0, none⟩, .str name, .slice true (l.map strAV), .int .i64 z]), (d, dObj kb nb s), (nb, mObj s.now), (kb, mObj s.kept)]) := by
   intro _
   subst hA
   refine AAny.step [] [1] (by decide +kernel) (by simp) (by decide) ⟨?_, trivial⟩
   ·
    show aopsR _ _ _ [_] _ _ _
    refine ⟨trivial, ?_⟩
    refine AAny.keep [0, 5, 11] (by decide) ?_
    exact s7 trivial
  have s12 : ∀ (_ : True), A 6 #[true, true, true, true, false, false, false, false, false, false] (fun fr m => K1 (fr.keep [0, 3]) m) [(0, .ptr ⟨x, 0, none⟩), (7, .ptr ⟨d, 0, none⟩)] (AMem.wth m [(x, .cells [.ptr ⟨d, 0, none⟩, .str name, .slice true (l.map strAV), .int .i64 z]), (d, dObj kb nb s), (nb, mObj s.now), (kb, mObj s.kept)]) := by
   intro _
   subst hA
   refine AAny.step [] [4] (by decide +kernel) (by simp) (by decide) ⟨?_, trivial⟩
   ·
    show aopsR _ _ _ [_] _ _ _
    refine ⟨trivial, ?_⟩
    refine AAny.keep [0, 7, 8] (by decide) ?_
    exact s8 trivial
  have s13 : ∀ (_ : True), A 6 #[true, true, true, false, true, false, false, false, false, false] (fun fr m => K1 (fr.keep [0, 3]) m) [(0, .ptr ⟨x, 0, none⟩), (6, .ptr ⟨x, 0, none⟩), (8, .ptr ⟨x, 0, none⟩)] (AMem.wth m [(x, .cells [.ptr ⟨d, 0, none⟩, .str name, .slice true (l.map strAV), .int .i64 z]), (d, dObj kb nb s), (nb, mObj s.now), (kb, mObj s.kept)]) := by
   intro _
   subst hA
   refine AAny.step [] [3, 5] (by decide +kernel) (by simp) (by decide) ⟨?_, ?_, trivial⟩
   ·
    show aopsR _ _ _ [_] _ _ _
    refine ar_loadp rfl (m := m) (L := [(x, .cells [.ptr ⟨d, 0, none⟩, .str name, .slice true (l.map strAV), .int .i64 z]), (d, dObj kb nb s), (nb, mObj s.now), (kb, mObj s.kept)]) (v := .ptr ⟨d, 0, none⟩) rfl (wth_get 0 hN rfl) rfl (apartOk_one rfl rfl (Nat.le_of_ble_eq_true rfl)) rfl ?_
    refine AAny.keep [0, 7, 8] (by decide) ?_
    exact s8 trivial
   ·
    show aopsR _ _ _ [_] _ _ _
    refine ⟨trivial, ?_⟩
    refine AAny.keep [0, 6, 9] (by decide) ?_
    exact s9 trivial
  have s14 : ∀ (_ : True), A 6 #[true, true, false, false, true, true, false, false, false, false] (fun fr m => K1 (fr.keep [0, 3]) m) [(0, .ptr ⟨x, 0, none⟩), (5, .ptr ⟨x, 0, none⟩), (9, .ptr ⟨x, 0, none⟩)] (AMem.wth m [(x, .cells [.ptr ⟨d, 0, none⟩, .str name, .slice true (l.map strAV), .int .i64 z]), (d, dObj kb nb s), (nb, mObj s.now), (kb, mObj s.kept)]) := by
   intro _
   subst hA
   refine AAny.step [] [2, 6] (by decide +kernel) (by simp) (by decide) ⟨?_, ?_, trivial⟩
   ·
    show aopsR _ _ _ [_] _ _ _
    refine ⟨⟨rfl, by decide⟩, ?_⟩
    refine AAny.keep [0, 6, 9] (by decide) ?_
    exact s9 trivial
   ·
    show aopsR _ _ _ [_] _ _ _
    refine ⟨⟨rfl, by decide⟩, ?_⟩
    refine AAny.keep [0, 5, 10] (by decide) ?_
    exact s10 trivial
  have s15 : ∀ (_ : True), A 6 #[true, false, false, false, true, true, true, false, false, false] (fun fr m => K1 (fr.keep [0, 3]) m) [(0, .ptr ⟨x, 0, none⟩), (4, .ptr ⟨x, 0, none⟩), (10, .ptr ⟨x, 1, none⟩)] (AMem.wth m [(x, .cells [.ptr ⟨d, 0, none⟩, .str name, .slice true (l.map strAV), .int .i64 z]), (d, dObj kb nb s), (nb, mObj s.now), (kb, mObj s.kept)]) := by
   intro _
   subst hA
   refine AAny.step [] [1, 7] (by decide +kernel) (by simp) (by decide) ⟨?_, ?_, trivial⟩
   ·
    show aopsR _ _ _ [_] _ _ _
    refine ⟨trivial, ?_⟩
    refine AAny.keep [0, 5, 10] (by decide) ?_
    exact s10 trivial
   ·
    show aopsR _ _ _ [_] _ _ _
    refine ar_loadp rfl (m := m) (L := [(x, .cells [.ptr ⟨d, 0, none⟩, .str name, .slice true (l.map strAV), .int .i64 z]), (d, dObj kb nb s), (nb, mObj s.now), (kb, mObj s.kept)]) (v := .str name) rfl (wth_get 0 hN rfl) rfl (apartOk_one rfl rfl (Nat.le_of_ble_eq_true rfl)) rfl ?_
    refine AAny.keep [0, 4, 11] (by decide) ?_
    exact s11 trivial
  have s16 : ∀ (_ : True), A 6 #[false, false, false, false, true, true, true, true, false, false] (fun fr m => K1 (fr.keep [0, 3]) m) [(0, .ptr ⟨x, 0, none⟩), (11, .str name)] (AMem.wth m [(x, .cells [.ptr ⟨d, 0, none⟩, .str name, .slice true (l.map strAV), .int .i64 z]), (d, dObj kb nb s), (nb, mObj s.now), (kb, mObj s.kept)]) := by
   intro _
   subst hA
   refine AAny.step [] [0] (by decide +kernel) (by simp) (by decide) ⟨?_, trivial⟩
   ·
    show aopsR _ _ _ [_] _ _ _
    refine ⟨trivial, ?_⟩
    refine AAny.keep [0, 4, 11] (by decide) ?_
    exact s11 trivial
  have s17 : ∀ (_ : True), A 7 #[true, true, true, false, false, false, false, false, false, false] (fun fr m => K1 (fr.keep [0, 3]) m) [(0, .ptr ⟨x, 0, none⟩), (6, .ptr ⟨x, 0, none⟩)] (AMem.wth m [(x, .cells [.ptr ⟨d, 0, none⟩, .str name, .slice true (l.map strAV), .int .i64 z]), (d, dObj kb nb s), (nb, mObj s.now), (kb, mObj s.kept)]) := by
   intro _
   subst hA
   refine AAny.step [] [3, 4] (by decide +kernel) (by simp) (by decide) ⟨?_, ?_, trivial⟩
   ·
    show aopsR _ _ _ [_] _ _ _
    refine ar_loadp rfl (m := m) (L := [(x, .cells [.ptr ⟨d, 0, none⟩, .str name, .slice true (l.map strAV), .int .i64 z]), (d, dObj kb nb s), (nb, mObj s.now), (kb, mObj s.kept)]) (v := .ptr ⟨d, 0, none⟩) rfl (wth_get 0 hN rfl) rfl (apartOk_one rfl rfl (Nat.le_of_ble_eq_true rfl)) rfl ?_
    refine AAny.keep [0, 7] (by decide) ?_
    exact s12 trivial
   ·
    show aopsR _ _ _ [_] _ _ _
    refine ⟨trivial, ?_⟩
    refine AAny.keep [0, 6, 8] (by decide) ?_
    exact s13 trivial
  have s18 : ∀ (_ : True), A 7 #[true, true, false, false, true, false, false, false, false, false] (fun fr m => K1 (fr.keep [0, 3]) m) [(0, .ptr ⟨x, 0, none⟩), (5, .ptr ⟨x, 0, none⟩), (8, .ptr ⟨x, 0, none⟩)] (AMem.wth m [(x, .cells [.ptr ⟨d, 0, none⟩, .str name, .slice true (l.map strAV), .int .i64 z]), (d, dObj kb nb s), (nb, mObj s.now), (kb, mObj s.kept)]) := by
   intro _
   subst hA
   refine AAny.step [] [2, 5] (by decide +kernel) (by simp) (by decide) ⟨?_, ?_, trivial⟩
   ·
    show aopsR _ _ _ [_] _ _ _
    refine ⟨⟨rfl, by decide⟩, ?_⟩
    refine AAny.keep [0, 6, 8] (by decide) ?_
    exact s13 trivial
   ·
    show aopsR _ _ _ [_] _ _ _
    refine ⟨trivial, ?_⟩
    refine AAny.keep [0, 5, 9] (by decide) ?_
    exact s14 trivial
  have s19 : ∀ (_ : True), A 7 #[true, false, false, false, true, true, false, false, false, false] (fun fr m => K1 (fr.keep [0, 3]) m) [(0, .ptr ⟨x, 0, none⟩), (4, .ptr ⟨x, 0, none⟩), (9, .ptr ⟨x, 0, none⟩)] (AMem.wth m [(x, .cells [.ptr ⟨d, 0, none⟩, .str name, .slice true (l.map strAV), .int .i64 z]), (d, dObj kb nb s), (nb, mObj s.now), (kb, mObj s.kept)]) := by
   intro _
   subst hA
   refine AAny.step [] [1, 6] (by decide +kernel) (by simp) (by decide) ⟨?_, ?_, trivial⟩
   ·
    show aopsR _ _ _ [_] _ _ _
    refine ⟨trivial, ?_⟩
    refine AAny.keep [0, 5, 9] (by decide) ?_
    exact s14 trivial
   ·
    show aopsR _ _ _ [_] _ _ _
    refine ⟨⟨rfl, by decide⟩, ?_⟩
    refine AAny.keep [0, 4, 10] (by decide) ?_
    exact s15 trivial
  have s20 : ∀ (_ : True), A 7 #[false, false, false, false, true, true, true, false, false, false] (fun fr m => K1 (fr.keep [0, 3]) m) [(0, .ptr ⟨x, 0, none⟩), (10, .ptr ⟨x, 1, none⟩)] (AMem.wth m [(x, .cells [.ptr ⟨d, 0, none⟩, .str name, .slice true (l.map strAV), .int .i64 z]), (d, dObj kb nb s), (nb, mObj s.now), (kb, mObj s.kept)]) := by
   intro _
   subst hA
   refine AAny.step [] [0, 7] (by decide +kernel) (by simp) (by decide) ⟨?_, ?_, trivial⟩
   ·
    show aopsR _ _ _ [_] _ _ _
    refine ⟨trivial, ?_⟩
    refine AAny.keep [0, 4, 10] (by decide) ?_
    exact s15 trivial
   ·
    show aopsR _ _ _ [_] _ _ _
    refine ar_loadp rfl (m := m) (L := [(x, .cells [.ptr ⟨d, 0, none⟩, .str name, .slice true (l.map strAV), .int .i64 z]), (d, dObj kb nb s), (nb, mObj s.now), (kb, mObj s.kept)]) (v := .str name) rfl (wth_get 0 hN rfl) rfl (apartOk_one rfl rfl (Nat.le_of_ble_eq_true rfl)) rfl ?_
    refine AAny.keep [0, 11] (by decide) ?_
    exact s16 trivial
  have s21 : ∀ (_ : True), A 8 #[true, true, false, false, false, false, false, false, false, false] (fun fr m => K1 (fr.keep [0, 3]) m) [(0, .ptr ⟨x, 0, none⟩), (5, .ptr ⟨x, 0, none⟩)] (AMem.wth m [(x, .cells [.ptr ⟨d, 0, none⟩, .str name, .slice true (l.map strAV), .int .i64 z]), (d, dObj kb nb s), (nb, mObj s.now), (kb, mObj s.kept)]) := by
   intro _
   subst hA
   refine AAny.step [] [2, 4] (by decide +kernel) (by simp) (by decide) ⟨?_, ?_, trivial⟩
   ·
    show aopsR _ _ _ [_] _ _ _
    refine ⟨⟨rfl, by decide⟩, ?_⟩
    refine AAny.keep [0, 6] (by decide) ?_
    exact s17 trivial
   ·
    show aopsR _ _ _ [_] _ _ _
    refine ⟨trivial, ?_⟩
    refine AAny.keep [0, 5, 8] (by decide) ?_
    exact s18 trivial
  have s22 : ∀ (_ : True), A 8 #[true, false, false, false, true, false, false, false, false, false] (fun fr m => K1 (fr.keep [0, 3]) m) [(0, .ptr ⟨x, 0, none⟩), (4, .ptr ⟨x, 0, none⟩), (8, .ptr ⟨x, 0, none⟩)] (AMem.wth m [(x, .cells [.ptr ⟨d, 0, none⟩, .str name, .slice true (l.map strAV), .int .i64 z]), (d, dObj kb nb s), (nb, mObj s.now), (kb, mObj s.kept)]) := by
   intro _
   subst hA
   refine AAny.step [] [1, 5] (by decide +kernel) (by simp) (by decide) ⟨?_, ?_, trivial⟩
   ·
    show aopsR _ _ _ [_] _ _ _
    refine ⟨trivial, ?_⟩
    refine AAny.keep [0, 5, 8] (by decide) ?_
    exact s18 trivial
   ·
    show aopsR _ _ _ [_] _ _ _
    refine ⟨trivial, ?_⟩
    refine AAny.keep [0, 4, 9] (by decide) ?_
    exact s19 trivial
  have s23 : ∀ (_ : True), A 8 #[false, false, false, false, true, true, false, false, false, false] (fun fr m => K1 (fr.keep [0, 3]) m) [(0, .ptr ⟨x, 0, none⟩), (9, .ptr ⟨x, 0, none⟩)] (AMem.wth m [(x, .cells [.ptr ⟨d, 0, none⟩, .str name, .slice true (l.map strAV), .int .i64 z]), (d, dObj kb nb s), (nb, mObj s.now), (kb, mObj s.kept)]) := by
   intro _
   subst hA
   refine AAny.step [] [0, 6] (by decide +kernel) (by simp) (by decide) ⟨?_, ?_, trivial⟩
   ·
    show aopsR _ _ _ [_] _ _ _
    refine ⟨trivial, ?_⟩
    refine AAny.keep [0, 4, 9] (by decide) ?_
    exact s19 trivial
   ·
    show aopsR _ _ _ [_] _ _ _
    refine ⟨⟨rfl, by decide⟩, ?_⟩
    refine AAny.keep [0, 10] (by decide) ?_
    exact s20 trivial
  have s24 : ∀ (_ : True), A 9 #[true, false, false, false, false, false, false, false, false, false] (fun fr m => K1 (fr.keep [0, 3]) m) [(0, .ptr ⟨x, 0, none⟩), (4, .ptr ⟨x, 0, none⟩)] (AMem.wth m [(x, .cells [.ptr ⟨d, 0, none⟩, .str name, .slice true (l.map strAV), .int .i64 z]), (d, dObj kb nb s), (nb, mObj s.now), (kb, mObj s.kept)]) := by
   intro _
   subst hA
   refine AAny.step [] [1, 4] (by decide +kernel) (by simp) (by decide) ⟨?_, ?_, trivial⟩
   ·
    show aopsR _ _ _ [_] _ _ _
    refine ⟨trivial, ?_⟩
    refine AAny.keep [0, 5] (by decide) ?_
    exact s21 trivial
   ·
    show aopsR _ _ _ [_] _ _ _
    refine ⟨trivial, ?_⟩
    refine AAny.keep [0, 4, 8] (by decide) ?_
    exact s22 trivial
  have s25 : ∀ (_ : True), A 9 #[false, false, false, false, true, false, false, false, false, false] (fun fr m => K1 (fr.keep [0, 3]) m) [(0, .ptr ⟨x, 0, none⟩), (8, .ptr ⟨x, 0, none⟩)] (AMem.wth m [(x, .cells [.ptr ⟨d, 0, none⟩, .str name, .slice true (l.map strAV), .int .i64 z]), (d, dObj kb nb s), (nb, mObj s.now), (kb, mObj s.kept)]) := by
   intro _
   subst hA
   refine AAny.step [] [0, 5] (by decide +kernel) (by simp) (by decide) ⟨?_, ?_, trivial⟩
   ·
    show aopsR _ _ _ [_] _ _ _
    refine ⟨trivial, ?_⟩
    refine AAny.keep [0, 4, 8] (by decide) ?_
    exact s22 trivial
   ·
    show aopsR _ _ _ [_] _ _ _
    refine ⟨trivial, ?_⟩
    refine AAny.keep [0, 9] (by decide) ?_
    exact s23 trivial
  have s26 : ∀ (_ : True), A 10 #[false, false, false, false, false, false, false, false, false, false] (fun fr m => K1 (fr.keep [0, 3]) m) [(0, .ptr ⟨x, 0, none⟩)] (AMem.wth m [(x, .cells [.ptr ⟨d, 0, none⟩, .str name, .slice true (l.map strAV), .int .i64 z]), (d, dObj kb nb s), (nb, mObj s.now), (kb, mObj s.kept)]) := by
   intro _
   subst hA
   refine AAny.step [] [0, 4] (by decide +kernel) (by simp) (by decide) ⟨?_, ?_, trivial⟩
   ·
    show aopsR _ _ _ [_] _ _ _
    refine ⟨trivial, ?_⟩
    refine AAny.keep [0, 4] (by decide) ?_
    exact s24 trivial
   ·
    show aopsR _ _ _ [_] _ _ _
    refine ⟨trivial, ?_⟩
    refine AAny.keep [0, 8] (by decide) ?_
    exact s25 trivial
  exact s26 trivial
 intro _
 refine hK1 _ _ ?_; clear hK1 K1
 refine awp_seq_k ?_; intro K2 hK2
 refine awp_reg2_seq [] [0, 3, 14] (by decide) ?_
 intro K1 hK1
 refine ⟨trivial, ⟨rfl, rfl⟩, ?_⟩
 show K1 [(0, .ptr ⟨x, 0, none⟩), (3, .err 108 ((writeR s name ([])).2)), (14, .bool (((writeR s name ([])).2) == 0))] (AMem.wth m [(x, .cells [.ptr ⟨d, 0, none⟩, .str name, .slice true (l.map strAV), .int .i64 z]), (d, dObj kb nb ((writeR s name ([])).1)), (nb, mObj ((writeR s name ([])).1.now)), (kb, mObj ((writeR s name ([])).1.kept))])
 refine hK1 _ _ ?_; clear hK1 K1
 refine awp_cond rfl rfl (fun h1 => ?_) (fun h1 => ?_)
 ·
  replace h1 : (writeR s name ([])).2 = 0 := (eq_of_beq h1)
  refine awp_reg2 [] [0, 3] (by decide) ?_
  intro K1 hK1
  refine ⟨trivial, trivial, ⟨rfl, by decide⟩, ?_⟩
  refine ar_loadp rfl (m := m) (L := [(x, .cells [.ptr ⟨d, 0, none⟩, .str name, .slice true (l.map strAV), .int .i64 z]), (d, dObj kb nb ((writeR s name ([])).1)), (nb, mObj ((writeR s name ([])).1.now)), (kb, mObj ((writeR s name ([])).1.kept))]) (v := .ptr ⟨d, 0, none⟩) rfl (wth_get 0 hN rfl) rfl (apartOk_one rfl rfl (Nat.le_of_ble_eq_true rfl)) rfl ?_
  refine ar_mem (wth_split hN (pick_perm [1, 2, 1] _)) ?_
  refine u_Sync3 d kb nb ((writeR s name ([])).1) (N + 1) (by have q := hN; simp at q ⊢; omega) (writeR_inv hD) (by omega) _ _ ?_
  show aopsR _ _ _ _ _ _ (AMem.wth (AMem.wth m [(x, .cells [.ptr ⟨d, 0, none⟩, .str name, .slice true (l.map strAV), .int .i64 z])]) [(d, dObj kb nb ((syncF ((writeR s name ([])).1)).1)), (kb, mObj ((syncF ((writeR s name ([])).1)).1.kept)), (nb, mObj ((syncF ((writeR s name ([])).1)).1.now))])
  refine ar_mem (wth_split (m := m) (L := [(x, .cells [.ptr ⟨d, 0, none⟩, .str name, .slice true (l.map strAV), .int .i64 z]), (d, dObj kb nb ((syncF ((writeR s name ([])).1)).1)), (nb, mObj ((syncF ((writeR s name ([])).1)).1.now)), (kb, mObj ((syncF ((writeR s name ([])).1)).1.kept))]) hN (pick_perm [1, 2, 1] _)).symm ?_
  refine ⟨trivial, ?_⟩
  show K1 [(0, .ptr ⟨x, 0, none⟩), (3, .err 108 ((syncF ((writeR s name ([])).1)).2))] (AMem.wth m [(x, .cells [.ptr ⟨d, 0, none⟩, .str name, .slice true (l.map strAV), .int .i64 z]), (d, dObj kb nb ((syncF ((writeR s name ([])).1)).1)), (nb, mObj ((syncF ((writeR s name ([])).1)).1.now)), (kb, mObj ((syncF ((writeR s name ([])).1)).1.kept))])
  refine hK1 _ _ ?_; clear hK1 K1
  refine hK2 _ _ ?_; clear hK2
  refine awp_seq_k ?_; intro K3 hK3
  refine awp_reg2_seq [] [0, 3, 21] (by decide) ?_
  intro K1 hK1
  refine ⟨trivial, ⟨rfl, rfl⟩, ?_⟩
  show K1 [(0, .ptr ⟨x, 0, none⟩), (3, .err 108 ((syncF ((writeR s name ([])).1)).2)), (21, .bool (((syncF ((writeR s name ([])).1)).2) == 0))] (AMem.wth m [(x, .cells [.ptr ⟨d, 0, none⟩, .str name, .slice true (l.map strAV), .int .i64 z]), (d, dObj kb nb ((syncF ((writeR s name ([])).1)).1)), (nb, mObj ((syncF ((writeR s name ([])).1)).1.now)), (kb, mObj ((syncF ((writeR s name ([])).1)).1.kept))])
  refine hK1 _ _ ?_; clear hK1 K1
  refine awp_cond rfl rfl (fun h2 => ?_) (fun h2 => ?_)
  ·
   replace h2 : (syncF ((writeR s name ([])).1)).2 = 0 := (eq_of_beq h2)
   refine awp_reg2 [] [3] (by decide) ?_
   intro K1 hK1
   refine ⟨trivial, trivial, trivial, ⟨rfl, by decide⟩, ?_⟩
   refine ar_storep rfl 0 (m := m) (L := [(x, .cells [.ptr ⟨d, 0, none⟩, .str name, .slice true (l.map strAV), .int .i64 z]), (d, dObj kb nb ((syncF ((writeR s name ([])).1)).1)), (nb, mObj ((syncF ((writeR s name ([])).1)).1.now)), (kb, mObj ((syncF ((writeR s name ([])).1)).1.kept))]) (v := .slice true []) (l' := [.ptr ⟨d, 0, none⟩, .str name, .slice true [], .int .i64 z]) rfl rfl hN rfl rfl rfl rfl rfl (Nat.le_of_ble_eq_true rfl) rfl ?_
   refine ⟨trivial, ⟨rfl, by decide⟩, ?_⟩
   refine ar_storep rfl 0 (m := m) (L := [(x, .cells [.ptr ⟨d, 0, none⟩, .str name, .slice true [], .int .i64 z]), (d, dObj kb nb ((syncF ((writeR s name ([])).1)).1)), (nb, mObj ((syncF ((writeR s name ([])).1)).1.now)), (kb, mObj ((syncF ((writeR s name ([])).1)).1.kept))]) (v := .int .i64 0) (l' := [.ptr ⟨d, 0, none⟩, .str name, .slice true [], .int .i64 0]) rfl rfl hN rfl rfl rfl rfl rfl (Nat.le_of_ble_eq_true rfl) rfl ?_
   show K1 [(3, .err 108 ((syncF ((writeR s name ([])).1)).2))] (AMem.wth m [(x, .cells [.ptr ⟨d, 0, none⟩, .str name, .slice true [], .int .i64 0]), (d, dObj kb nb ((syncF ((writeR s name ([])).1)).1)), (nb, mObj ((syncF ((writeR s name ([])).1)).1.now)), (kb, mObj ((syncF ((writeR s name ([])).1)).1.kept))])
   refine hK1 _ _ ?_; clear hK1 K1
   refine hK3 _ _ ?_; clear hK3
   refine awp_reg2_seq [] [2] (by decide) ?_
   intro K1 hK1
   refine ⟨trivial, trivial, ?_⟩
   show K1 [(2, .err 108 ((syncF ((writeR s name ([])).1)).2))] (AMem.wth m [(x, .cells [.ptr ⟨d, 0, none⟩, .str name, .slice true [], .int .i64 0]), (d, dObj kb nb ((syncF ((writeR s name ([])).1)).1)), (nb, mObj ((syncF ((writeR s name ([])).1)).1.now)), (kb, mObj ((syncF ((writeR s name ([])).1)).1.kept))])
   refine hK1 _ _ ?_; clear hK1 K1
   refine awp_ret ?_
   refine ⟨trivial, (AMem.wth m [(x, .cells [.ptr ⟨d, 0, none⟩, .str name, .slice true [], .int .i64 0]), (d, dObj kb nb ((syncF ((writeR s name ([])).1)).1)), (nb, mObj ((syncF ((writeR s name ([])).1)).1.now)), (kb, mObj ((syncF ((writeR s name ([])).1)).1.kept))]), fun _ _ h => h, ?_⟩
   show K (.err 108 ((syncF ((writeR s name ([])).1)).2)) (AMem.wth m [(x, .cells [.ptr ⟨d, 0, none⟩, .str name, .slice true [], .int .i64 0]), (d, dObj kb nb ((syncF ((writeR s name ([])).1)).1)), (nb, mObj ((syncF ((writeR s name ([])).1)).1.now)), (kb, mObj ((syncF ((writeR s name ([])).1)).1.kept))])
  
   have e0 : clearR s name l z = (((syncF ((writeR s name ([])).1)).1, (syncF ((writeR s name ([])).1)).2, ([], 0)) : DSt × Int × (List Str × Int)) := by
    first | (rw [clearR, if_neg (by omega), if_neg (by omega), h2]; done) | (rw [clearR, if_neg (by omega), if_pos h2]; done) | (exact absurd h3 h1) | (rw [clearR, if_pos h1]; done)
   rw [e0] at hK
   exact hK
  ·
   replace h2 : (syncF ((writeR s name ([])).1)).2 ≠ 0 := (ne_of_beq_false h2)
   refine awp_skip ?_
   refine hK3 _ _ ?_; clear hK3
   refine awp_reg2_seq [] [2] (by decide) ?_
   intro K1 hK1
   refine ⟨trivial, trivial, ?_⟩
   show K1 [(2, .err 108 ((syncF ((writeR s name ([])).1)).2))] (AMem.wth m [(x, .cells [.ptr ⟨d, 0, none⟩, .str name, .slice true (l.map strAV), .int .i64 z]), (d, dObj kb nb ((syncF ((writeR s name ([])).1)).1)), (nb, mObj ((syncF ((writeR s name ([])).1)).1.now)), (kb, mObj ((syncF ((writeR s name ([])).1)).1.kept))])
   refine hK1 _ _ ?_; clear hK1 K1
   refine awp_ret ?_
   refine ⟨trivial, (AMem.wth m [(x, .cells [.ptr ⟨d, 0, none⟩, .str name, .slice true (l.map strAV), .int .i64 z]), (d, dObj kb nb ((syncF ((writeR s name ([])).1)).1)), (nb, mObj ((syncF ((writeR s name ([])).1)).1.now)), (kb, mObj ((syncF ((writeR s name ([])).1)).1.kept))]), fun _ _ h => h, ?_⟩
   show K (.err 108 ((syncF ((writeR s name ([])).1)).2)) (AMem.wth m [(x, .cells [.ptr ⟨d, 0, none⟩, .str name, .slice true (l.map strAV), .int .i64 z]), (d, dObj kb nb ((syncF ((writeR s name ([])).1)).1)), (nb, mObj ((syncF ((writeR s name ([])).1)).1.now)), (kb, mObj ((syncF ((writeR s name ([])).1)).1.kept))])
  
   have e0 : clearR s name l z = (((syncF ((writeR s name ([])).1)).1, (syncF ((writeR s name ([])).1)).2, (l, z)) : DSt × Int × (List Str × Int)) := by
    first | (rw [clearR, if_neg (by omega), if_neg (by omega), h2]; done) | (rw [clearR, if_neg (by omega), if_pos h2]; done) | (exact absurd h3 h1) | (rw [clearR, if_pos h1]; done)
   rw [e0] at hK
   exact hK
 ·
  replace h1 : (writeR s name ([])).2 ≠ 0 := (ne_of_beq_false h1)
  refine awp_skip ?_
  refine hK2 _ _ ?_; clear hK2
  refine awp_seq_k ?_; intro K4 hK4
  refine awp_reg2_seq [] [0, 3, 21] (by decide) ?_
  intro K1 hK1
  refine ⟨trivial, ⟨rfl, rfl⟩, ?_⟩
  show K1 [(0, .ptr ⟨x, 0, none⟩), (3, .err 108 ((writeR s name ([])).2)), (21, .bool (((writeR s name ([])).2) == 0))] (AMem.wth m [(x, .cells [.ptr ⟨d, 0, none⟩, .str name, .slice true (l.map strAV), .int .i64 z]), (d, dObj kb nb ((writeR s name ([])).1)), (nb, mObj ((writeR s name ([])).1.now)), (kb, mObj ((writeR s name ([])).1.kept))])
  refine hK1 _ _ ?_; clear hK1 K1
  refine awp_cond rfl rfl (fun h3 => ?_) (fun h3 => ?_)
  ·
   replace h3 : (writeR s name ([])).2 = 0 := (eq_of_beq h3)
   refine awp_reg2 [] [3] (by decide) ?_
   intro K1 hK1
   refine ⟨trivial, trivial, trivial, ⟨rfl, by decide⟩, ?_⟩
   refine ar_storep rfl 0 (m := m) (L := [(x, .cells [.ptr ⟨d, 0, none⟩, .str name, .slice true (l.map strAV), .int .i64 z]), (d, dObj kb nb ((writeR s name ([])).1)), (nb, mObj ((writeR s name ([])).1.now)), (kb, mObj ((writeR s name ([])).1.kept))]) (v := .slice true []) (l' := [.ptr ⟨d, 0, none⟩, .str name, .slice true [], .int .i64 z]) rfl rfl hN rfl rfl rfl rfl rfl (Nat.le_of_ble_eq_true rfl) rfl ?_
   refine ⟨trivial, ⟨rfl, by decide⟩, ?_⟩
   refine ar_storep rfl 0 (m := m) (L := [(x, .cells [.ptr ⟨d, 0, none⟩, .str name, .slice true [], .int .i64 z]), (d, dObj kb nb ((writeR s name ([])).1)), (nb, mObj ((writeR s name ([])).1.now)), (kb, mObj ((writeR s name ([])).1.kept))]) (v := .int .i64 0) (l' := [.ptr ⟨d, 0, none⟩, .str name, .slice true [], .int .i64 0]) rfl rfl hN rfl rfl rfl rfl rfl (Nat.le_of_ble_eq_true rfl) rfl ?_
   show K1 [(3, .err 108 ((writeR s name ([])).2))] (AMem.wth m [(x, .cells [.ptr ⟨d, 0, none⟩, .str name, .slice true [], .int .i64 0]), (d, dObj kb nb ((writeR s name ([])).1)), (nb, mObj ((writeR s name ([])).1.now)), (kb, mObj ((writeR s name ([])).1.kept))])
   refine hK1 _ _ ?_; clear hK1 K1
   refine hK4 _ _ ?_; clear hK4
   refine awp_reg2_seq [] [2] (by decide) ?_
   intro K1 hK1
   refine ⟨trivial, trivial, ?_⟩
   show K1 [(2, .err 108 ((writeR s name ([])).2))] (AMem.wth m [(x, .cells [.ptr ⟨d, 0, none⟩, .str name, .slice true [], .int .i64 0]), (d, dObj kb nb ((writeR s name ([])).1)), (nb, mObj ((writeR s name ([])).1.now)), (kb, mObj ((writeR s name ([])).1.kept))])
   refine hK1 _ _ ?_; clear hK1 K1
   refine awp_ret ?_
   refine ⟨trivial, (AMem.wth m [(x, .cells [.ptr ⟨d, 0, none⟩, .str name, .slice true [], .int .i64 0]), (d, dObj kb nb ((writeR s name ([])).1)), (nb, mObj ((writeR s name ([])).1.now)), (kb, mObj ((writeR s name ([])).1.kept))]), fun _ _ h => h, ?_⟩
   show K (.err 108 ((writeR s name ([])).2)) (AMem.wth m [(x, .cells [.ptr ⟨d, 0, none⟩, .str name, .slice true [], .int .i64 0]), (d, dObj kb nb ((writeR s name ([])).1)), (nb, mObj ((writeR s name ([])).1.now)), (kb, mObj ((writeR s name ([])).1.kept))])
  
   have e0 : clearR s name l z = (((writeR s name ([])).1, (writeR s name ([])).2, ([], 0)) : DSt × Int × (List Str × Int)) := by
    first | (rw [clearR, if_neg (by omega), if_neg (by omega), h2]; done) | (rw [clearR, if_neg (by omega), if_pos h2]; done) | (exact absurd h3 h1) | (rw [clearR, if_pos h1]; done)
   rw [e0] at hK
   exact hK
  ·
   replace h3 : (writeR s name ([])).2 ≠ 0 := (ne_of_beq_false h3)
   refine awp_skip ?_
   refine hK4 _ _ ?_; clear hK4
   refine awp_reg2_seq [] [2] (by decide) ?_
   intro K1 hK1
   refine ⟨trivial, trivial, ?_⟩
   show K1 [(2, .err 108 ((writeR s name ([])).2))] (AMem.wth m [(x, .cells [.ptr ⟨d, 0, none⟩, .str name, .slice true (l.map strAV), .int .i64 z]), (d, dObj kb nb ((writeR s name ([])).1)), (nb, mObj ((writeR s name ([])).1.now)), (kb, mObj ((writeR s name ([])).1.kept))])
   refine hK1 _ _ ?_; clear hK1 K1
   refine awp_ret ?_
   refine ⟨trivial, (AMem.wth m [(x, .cells [.ptr ⟨d, 0, none⟩, .str name, .slice true (l.map strAV), .int .i64 z]), (d, dObj kb nb ((writeR s name ([])).1)), (nb, mObj ((writeR s name ([])).1.now)), (kb, mObj ((writeR s name ([])).1.kept))]), fun _ _ h => h, ?_⟩
   show K (.err 108 ((writeR s name ([])).2)) (AMem.wth m [(x, .cells [.ptr ⟨d, 0, none⟩, .str name, .slice true (l.map strAV), .int .i64 z]), (d, dObj kb nb ((writeR s name ([])).1)), (nb, mObj ((writeR s name ([])).1.now)), (kb, mObj ((writeR s name ([])).1.kept))])
  
   have e0 : clearR s name l z = (((writeR s name ([])).1, (writeR s name ([])).2, (l, z)) : DSt × Int × (List Str × Int)) := by
    first | (rw [clearR, if_neg (by omega), if_neg (by omega), h2]; done) | (rw [clearR, if_neg (by omega), if_pos h2]; done) | (exact absurd h3 h1) | (rw [clearR, if_pos h1]; done)
   rw [e0] at hK
   exact hK

end Go.Proofs
