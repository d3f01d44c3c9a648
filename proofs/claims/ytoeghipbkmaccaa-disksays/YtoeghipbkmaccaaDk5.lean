import Derived.Test.YtoeghipbkmaccaaProg
import Derived.Test.YtoeghipbkmaccaaWl1
import Derived.Test.YtoeghipbkmaccaaDk4
namespace Go.Proofs
open Go Go.Aw
set_option maxRecDepth 100000


structure RSt where
  kept : List (Str × Str)
  now : List (Str × Str)
  wait : List Trn
  fuse : Int
  down : Bool
  steps : Int
def rObj (s : RSt) : AObj := .cells [.slice true (s.kept.map fileAV), .slice true (s.now.map fileAV), .slice true (s.wait.map trnAV), .int .i64 s.fuse, .bool s.down, .int .i64 s.steps]
def stepQ (s : RSt) : RSt × Int :=
  if s.down = true then (s, 10)
  else if s.fuse = 0 then ({ s with down := true, fuse := -1 }, 10)
  else ({ s with fuse := if 0 < s.fuse then s.fuse - 1 else s.fuse, steps := s.steps + 1 }, 0)
theorem stepQ_keep (s : RSt) : (stepQ s).1.kept = s.kept ∧ (stepQ s).1.now = s.now ∧ (stepQ s).1.wait = s.wait ∧ 0 ≤ (stepQ s).2 := by
  unfold stepQ; split
  · exact ⟨rfl, rfl, rfl, by simp⟩
  · split
    · exact ⟨rfl, rfl, rfl, by simp⟩
    · exact ⟨rfl, rfl, rfl, by simp⟩
def doQ (s : RSt) (t : Trn) : RSt × Int :=
  if (stepQ s).2 = 0 then ({ (stepQ s).1 with now := turnR s.now t, wait := s.wait ++ [t] }, (stepQ s).2) else stepQ s
/-- What the walks ask of the model of the disk. -/
structure RInv (N : Nat) (s : RSt) : Prop where
  st0 : 0 ≤ s.steps
  st1 : s.steps ≤ 1000000
  fu0 : -1 ≤ s.fuse
  fu1 : s.fuse ≤ 9223372036854775807
  kl : s.kept.length ≤ 1000
  nl : s.now.length ≤ 1000
  wl : s.wait.length ≤ 1000
  kb : ∀ p ∈ s.kept, p.2.length ≤ 1000000
  nb : ∀ p ∈ s.now, p.2.length ≤ 1000000
  wb : ∀ t ∈ s.wait, t.data.length ≤ 4000
def putQ (s : RSt) (how : Int) (n x : Str) : RSt × Int :=
  if how = 2 ∧ 4000 < (x.length : Int) then (s, 2)
  else if nameF n = false then (s, 3)
  else if 4000 < (if how = 2 ∧ 0 ≤ hasR s.now n then (x.length : Int) + ((mget s.now n).getD []).length else x.length) ∨ (hasR s.now n < 0 ∧ 40 ≤ (s.now.length : Int)) then (s, 2)
  else if how = 3 ∧ 0 ≤ hasR s.now n then (s, 6)
  else doQ s ⟨if how = 3 then 1 else how, n, x, []⟩
def moveQ (s : RSt) (n t : Str) : RSt × Int :=
  if nameF n = false ∨ nameF t = false then (s, 3) else if hasR s.now n < 0 then (s, 7) else if n = t then stepQ s else doQ s ⟨4, n, [], t⟩
def remQ (s : RSt) (n : Str) : RSt × Int := if hasR s.now n < 0 then (s, 7) else doQ s ⟨5, n, [], []⟩
def syncQ (s : RSt) : RSt × Int := if (stepQ s).2 = 0 then ({ (stepQ s).1 with kept := s.now, wait := [] }, (stepQ s).2) else stepQ s
def readQ (s : RSt) (n : Str) : Str × Int := if s.down = true then ([], 10) else if hasR s.now n < 0 then ([], 7) else ((mget s.now n).getD [], 0)
def listQ (s : RSt) : List Str × Int := if s.down = true then ([], 10) else (s.now.map Prod.fst, 0)
def turnL (l : List (Str × Str)) (ts : List Trn) : List (Str × Str) := ts.foldl turnR l
def maxI (a : Int) : Int := if 0 > a then 0 else a
def keptQ (s : RSt) (keep torn : Int) : List (Str × Str) :=
  if maxI keep < (s.wait.length : Int) ∧ (gI s.wait (maxI keep)).kind < 4 ∧ 0 < clampI torn (gI s.wait (maxI keep)).data.length then turnR (turnL s.kept (s.wait.take (maxI keep).toNat)) { gI s.wait (maxI keep) with data := sub (gI s.wait (maxI keep)).data 0 (clampI torn (gI s.wait (maxI keep)).data.length) }
  else turnL s.kept (s.wait.take (maxI keep).toNat)
def restQ (s : RSt) (keep torn : Int) : RSt := ⟨keptQ s keep torn, keptQ s keep torn, [], -1, false, s.steps⟩

set_option maxHeartbeats 2000000 in
theorem u_QStep (r : Nat) (s : RSt) (hR : RInv 0 s) (m : AMem)  (K : AV → AMem → Prop) (hK : K (.int .i64 (stepQ s).2) (AMem.wth m [(r, rObj (stepQ s).1)])) : ACalls Try.prog 36 [.ptr ⟨r, 0, none⟩] (AMem.wth m [(r, rObj s)]) K := by
 have h1q := hR.st0
 have h2q := hR.st1
 have h3q := hR.fu0
 have h4q := hR.fu1
 refine acalls_enter Try.func36 rfl (by decide) (Nat.le_of_ble_eq_true rfl) ?_
 show AWP _ _ _ _ [(0, .ptr ⟨r, 0, none⟩)] (AMem.wth m [(r, rObj s)])
 refine awp_reg2_seq [] [0] (by decide) ?_
 intro K1 hK1
 refine ⟨trivial, ?_⟩
 show K1 [(0, .ptr ⟨r, 0, none⟩)] (AMem.wth m [(r, rObj s)])
 refine hK1 _ _ ?_; clear hK1 K1
 refine awp_seq_k ?_; intro K2 hK2
 refine awp_reg2_seq [] [0, 6] (by decide) ?_
 intro K1 hK1
 refine ⟨trivial, trivial, ⟨rfl, by decide⟩, ?_⟩
 refine ar_loadp rfl (v := .bool s.down) rfl (wth_get 0 (nodup_1 r) rfl) rfl (apartOk_one rfl rfl (Nat.le_of_ble_eq_true rfl)) rfl ?_
 show K1 [(0, .ptr ⟨r, 0, none⟩), (6, .bool s.down)] (AMem.wth m [(r, rObj s)])
 refine hK1 _ _ ?_; clear hK1 K1
 refine awp_cond rfl rfl (fun h1 => ?_) (fun h1 => ?_)
 ·
  replace h1 : s.down = true := h1
  refine awp_reg2_seq [] [2] (by decide) ?_
  intro K1 hK1
  refine ⟨trivial, ?_⟩
  show K1 [(2, .int .i64 10)] (AMem.wth m [(r, rObj s)])
  refine hK1 _ _ ?_; clear hK1 K1
  refine awp_ret ?_
  refine ⟨trivial, (AMem.wth m [(r, rObj s)]), fun _ _ h => h, ?_⟩
  show K (.int .i64 10) (AMem.wth m [(r, rObj s)])
 
  have e0 : stepQ s = ((s, 10) : RSt × Int) := by
   have := hR.fu0
   obtain ⟨kept, now, wait, fuse, down, steps⟩ := s
   simp_all [stepQ] <;> omega
  rw [e0] at hK
  exact hK
 replace h1 : s.down = false := h1
 refine awp_skip ?_
 refine hK2 _ _ ?_; clear hK2
 refine awp_seq_k ?_; intro K3 hK3
 refine awp_reg2_seq [] [0, 11] (by decide) ?_
 intro K1 hK1
 refine ⟨trivial, trivial, ⟨rfl, by decide⟩, ?_⟩
 refine ar_loadp rfl (v := .int .i64 s.fuse) rfl (wth_get 0 (nodup_1 r) rfl) rfl (apartOk_one rfl rfl (Nat.le_of_ble_eq_true rfl)) rfl ?_
 refine ⟨trivial, ?_⟩
 show K1 [(0, .ptr ⟨r, 0, none⟩), (11, .bool (s.fuse == 0))] (AMem.wth m [(r, rObj s)])
 refine hK1 _ _ ?_; clear hK1 K1
 refine awp_cond rfl rfl (fun h2 => ?_) (fun h2 => ?_)
 ·
  replace h2 : s.fuse = 0 := (eq_of_beq h2)
  refine awp_reg2_seq [] [0] (by decide) ?_
  intro K1 hK1
  refine ⟨trivial, trivial, ⟨rfl, by decide⟩, ?_⟩
  refine ar_storep rfl 0 (v := .bool true) (l' := [.slice true (s.kept.map fileAV), .slice true (s.now.map fileAV), .slice true (s.wait.map trnAV), .int .i64 s.fuse, .bool true, .int .i64 s.steps]) rfl rfl (nodup_1 r) rfl rfl rfl rfl rfl (Nat.le_of_ble_eq_true rfl) rfl ?_
  show K1 [(0, .ptr ⟨r, 0, none⟩)] (AMem.wth m [(r, .cells [.slice true (s.kept.map fileAV), .slice true (s.now.map fileAV), .slice true (s.wait.map trnAV), .int .i64 s.fuse, .bool true, .int .i64 s.steps])])
  refine hK1 _ _ ?_; clear hK1 K1
  refine awp_reg2_seq [] [] (by decide) ?_
  intro K1 hK1
  refine ⟨trivial, trivial, ⟨rfl, by decide⟩, ?_⟩
  refine ar_storep rfl 0 (v := .int .i64 (-1)) (l' := [.slice true (s.kept.map fileAV), .slice true (s.now.map fileAV), .slice true (s.wait.map trnAV), .int .i64 (-1), .bool true, .int .i64 s.steps]) rfl rfl (nodup_1 r) rfl rfl rfl rfl rfl (Nat.le_of_ble_eq_true rfl) rfl ?_
  show K1 [] (AMem.wth m [(r, .cells [.slice true (s.kept.map fileAV), .slice true (s.now.map fileAV), .slice true (s.wait.map trnAV), .int .i64 (-1), .bool true, .int .i64 s.steps])])
  refine hK1 _ _ ?_; clear hK1 K1
  refine awp_reg2_seq [] [2] (by decide) ?_
  intro K1 hK1
  refine ⟨trivial, ?_⟩
  show K1 [(2, .int .i64 10)] (AMem.wth m [(r, .cells [.slice true (s.kept.map fileAV), .slice true (s.now.map fileAV), .slice true (s.wait.map trnAV), .int .i64 (-1), .bool true, .int .i64 s.steps])])
  refine hK1 _ _ ?_; clear hK1 K1
  refine awp_ret ?_
  refine ⟨trivial, (AMem.wth m [(r, .cells [.slice true (s.kept.map fileAV), .slice true (s.now.map fileAV), .slice true (s.wait.map trnAV), .int .i64 (-1), .bool true, .int .i64 s.steps])]), fun _ _ h => h, ?_⟩
  show K (.int .i64 10) (AMem.wth m [(r, .cells [.slice true (s.kept.map fileAV), .slice true (s.now.map fileAV), .slice true (s.wait.map trnAV), .int .i64 (-1), .bool true, .int .i64 s.steps])])
 
  have e0 : stepQ s = (((⟨s.kept, s.now, s.wait, -1, true, s.steps⟩ : RSt), 10) : RSt × Int) := by
   have := hR.fu0
   obtain ⟨kept, now, wait, fuse, down, steps⟩ := s
   simp_all [stepQ] <;> omega
  rw [e0] at hK
  exact hK
 replace h2 : s.fuse ≠ 0 := (ne_of_beq_false h2)
 refine awp_skip ?_
 refine hK3 _ _ ?_; clear hK3
 refine awp_seq_k ?_; intro K4 hK4
 refine awp_reg2_seq [] [0, 22] (by decide) ?_
 intro K1 hK1
 refine ⟨trivial, trivial, ⟨rfl, by decide⟩, ?_⟩
 refine ar_loadp rfl (v := .int .i64 s.fuse) rfl (wth_get 0 (nodup_1 r) rfl) rfl (apartOk_one rfl rfl (Nat.le_of_ble_eq_true rfl)) rfl ?_
 refine ⟨trivial, ?_⟩
 show K1 [(0, .ptr ⟨r, 0, none⟩), (22, .bool (decide (0 < s.fuse)))] (AMem.wth m [(r, rObj s)])
 refine hK1 _ _ ?_; clear hK1 K1
 refine awp_cond rfl rfl (fun h3 => ?_) (fun h3 => ?_)
 ·
  replace h3 : 0 < s.fuse := (of_decide_eq_true h3)
  refine awp_reg2 [] [0] (by decide) ?_
  intro K1 hK1
  refine ⟨trivial, trivial, ⟨rfl, by decide⟩, ?_⟩
  refine ar_loadp rfl (v := .int .i64 s.fuse) rfl (wth_get 0 (nodup_1 r) rfl) rfl (apartOk_one rfl rfl (Nat.le_of_ble_eq_true rfl)) rfl ?_
  refine ar_sub rfl (a := s.fuse) (b := 1) rfl rfl (by omega) (by omega) ?_
  refine ⟨trivial, ⟨rfl, by decide⟩, ?_⟩
  refine ar_storep rfl 0 (v := .int .i64 (s.fuse - 1)) (l' := [.slice true (s.kept.map fileAV), .slice true (s.now.map fileAV), .slice true (s.wait.map trnAV), .int .i64 (s.fuse - 1), .bool s.down, .int .i64 s.steps]) rfl rfl (nodup_1 r) rfl rfl rfl rfl rfl (Nat.le_of_ble_eq_true rfl) rfl ?_
  show K1 [(0, .ptr ⟨r, 0, none⟩)] (AMem.wth m [(r, .cells [.slice true (s.kept.map fileAV), .slice true (s.now.map fileAV), .slice true (s.wait.map trnAV), .int .i64 (s.fuse - 1), .bool s.down, .int .i64 s.steps])])
  refine hK1 _ _ ?_; clear hK1 K1
  refine hK4 _ _ ?_; clear hK4
  refine awp_reg2_seq [] [] (by decide) ?_
  intro K1 hK1
  refine ⟨trivial, trivial, ⟨rfl, by decide⟩, ?_⟩
  refine ar_loadp rfl (v := .int .i64 s.steps) rfl (wth_get 0 (nodup_1 r) rfl) rfl (apartOk_one rfl rfl (Nat.le_of_ble_eq_true rfl)) rfl ?_
  refine ar_add rfl (a := s.steps) (b := 1) rfl rfl (by omega) (by omega) ?_
  refine ⟨trivial, ⟨rfl, by decide⟩, ?_⟩
  refine ar_storep rfl 0 (v := .int .i64 (s.steps + 1)) (l' := [.slice true (s.kept.map fileAV), .slice true (s.now.map fileAV), .slice true (s.wait.map trnAV), .int .i64 (s.fuse - 1), .bool s.down, .int .i64 (s.steps + 1)]) rfl rfl (nodup_1 r) rfl rfl rfl rfl rfl (Nat.le_of_ble_eq_true rfl) rfl ?_
  show K1 [] (AMem.wth m [(r, .cells [.slice true (s.kept.map fileAV), .slice true (s.now.map fileAV), .slice true (s.wait.map trnAV), .int .i64 (s.fuse - 1), .bool s.down, .int .i64 (s.steps + 1)])])
  refine hK1 _ _ ?_; clear hK1 K1
  refine awp_reg2_seq [] [2] (by decide) ?_
  intro K1 hK1
  refine ⟨trivial, ?_⟩
  show K1 [(2, .int .i64 0)] (AMem.wth m [(r, .cells [.slice true (s.kept.map fileAV), .slice true (s.now.map fileAV), .slice true (s.wait.map trnAV), .int .i64 (s.fuse - 1), .bool s.down, .int .i64 (s.steps + 1)])])
  refine hK1 _ _ ?_; clear hK1 K1
  refine awp_ret ?_
  refine ⟨trivial, (AMem.wth m [(r, .cells [.slice true (s.kept.map fileAV), .slice true (s.now.map fileAV), .slice true (s.wait.map trnAV), .int .i64 (s.fuse - 1), .bool s.down, .int .i64 (s.steps + 1)])]), fun _ _ h => h, ?_⟩
  show K (.int .i64 0) (AMem.wth m [(r, .cells [.slice true (s.kept.map fileAV), .slice true (s.now.map fileAV), .slice true (s.wait.map trnAV), .int .i64 (s.fuse - 1), .bool s.down, .int .i64 (s.steps + 1)])])
 
  have e0 : stepQ s = (((⟨s.kept, s.now, s.wait, s.fuse - 1, s.down, s.steps + 1⟩ : RSt), 0) : RSt × Int) := by
   have := hR.fu0
   obtain ⟨kept, now, wait, fuse, down, steps⟩ := s
   simp_all [stepQ] <;> omega
  rw [e0] at hK
  exact hK
 replace h3 : s.fuse ≤ 0 := (Int.not_lt.1 (of_decide_eq_false h3))
 refine awp_skip ?_
 refine hK4 _ _ ?_; clear hK4
 refine awp_reg2_seq [] [] (by decide) ?_
 intro K1 hK1
 refine ⟨trivial, trivial, ⟨rfl, by decide⟩, ?_⟩
 refine ar_loadp rfl (v := .int .i64 s.steps) rfl (wth_get 0 (nodup_1 r) rfl) rfl (apartOk_one rfl rfl (Nat.le_of_ble_eq_true rfl)) rfl ?_
 refine ar_add rfl (a := s.steps) (b := 1) rfl rfl (by omega) (by omega) ?_
 refine ⟨trivial, ⟨rfl, by decide⟩, ?_⟩
 refine ar_storep rfl 0 (v := .int .i64 (s.steps + 1)) (l' := [.slice true (s.kept.map fileAV), .slice true (s.now.map fileAV), .slice true (s.wait.map trnAV), .int .i64 s.fuse, .bool s.down, .int .i64 (s.steps + 1)]) rfl rfl (nodup_1 r) rfl rfl rfl rfl rfl (Nat.le_of_ble_eq_true rfl) rfl ?_
 show K1 [] (AMem.wth m [(r, .cells [.slice true (s.kept.map fileAV), .slice true (s.now.map fileAV), .slice true (s.wait.map trnAV), .int .i64 s.fuse, .bool s.down, .int .i64 (s.steps + 1)])])
 refine hK1 _ _ ?_; clear hK1 K1
 refine awp_reg2_seq [] [2] (by decide) ?_
 intro K1 hK1
 refine ⟨trivial, ?_⟩
 show K1 [(2, .int .i64 0)] (AMem.wth m [(r, .cells [.slice true (s.kept.map fileAV), .slice true (s.now.map fileAV), .slice true (s.wait.map trnAV), .int .i64 s.fuse, .bool s.down, .int .i64 (s.steps + 1)])])
 refine hK1 _ _ ?_; clear hK1 K1
 refine awp_ret ?_
 refine ⟨trivial, (AMem.wth m [(r, .cells [.slice true (s.kept.map fileAV), .slice true (s.now.map fileAV), .slice true (s.wait.map trnAV), .int .i64 s.fuse, .bool s.down, .int .i64 (s.steps + 1)])]), fun _ _ h => h, ?_⟩
 show K (.int .i64 0) (AMem.wth m [(r, .cells [.slice true (s.kept.map fileAV), .slice true (s.now.map fileAV), .slice true (s.wait.map trnAV), .int .i64 s.fuse, .bool s.down, .int .i64 (s.steps + 1)])])

 have e0 : stepQ s = (((⟨s.kept, s.now, s.wait, s.fuse, s.down, s.steps + 1⟩ : RSt), 0) : RSt × Int) := by
  have := hR.fu0
  obtain ⟨kept, now, wait, fuse, down, steps⟩ := s
  simp_all [stepQ] <;> omega
 rw [e0] at hK
 exact hK

set_option maxHeartbeats 4000000 in
theorem u_Qdo (r : Nat) (s : RSt) (t : Trn) (hR : RInv 0 s) (ht : t.data.length ≤ 1000000) (m : AMem)  (K : AV → AMem → Prop) (hK : K (.int .i64 (doQ s t).2) (AMem.wth m [(r, rObj (doQ s t).1)])) : ACalls Try.prog 74 [.ptr ⟨r, 0, none⟩, trnAV t] (AMem.wth m [(r, rObj s)]) K := by
 have hk := stepQ_keep s
 have hnl := hR.nl
 have hwl := hR.wl
 have hwl2 : (stepQ s).1.wait.length ≤ 1000 := by rw [hk.2.2.1]; omega
 refine acalls_enter Try.func74 rfl (by decide) (Nat.le_of_ble_eq_true rfl) ?_
 show AWP _ _ _ _ [(0, .ptr ⟨r, 0, none⟩), (1, trnAV t)] (AMem.wth m [(r, rObj s)])
 refine awp_reg2_seq [] [0, 3] (by decide) ?_
 intro K1 hK1
 refine ar_box rfl (m := m) (L := [(r, rObj s)]) (v := trnAV t) (by rfl) rfl ?_
 intro b1 hb1
 have hFb1 : m b1 = none := wth_none (m := m) (L := [(r, rObj s)]) hb1
 have hNb1 : ([b1, r] : List Nat).Nodup := wth_nodup (m := m) (L := [(r, rObj s)]) hb1 (nodup_1 r)
 refine ⟨trivial, ?_⟩
 show K1 [(0, .ptr ⟨r, 0, none⟩), (3, .ptr ⟨b1, 0, none⟩)] (AMem.wth m [(b1, trnObj t), (r, rObj s)])
 refine hK1 _ _ ?_; clear hK1 K1
 refine awp_reg2_seq [] [0, 3, 5] (by decide) ?_
 intro K1 hK1
 refine ⟨trivial, ?_⟩
 refine ar_mem (wth_split hNb1 (pick_perm [1] _)) ?_
 refine u_QStep r s hR _ _ ?_
 show aopsR _ _ _ _ _ _ (AMem.wth (AMem.wth m [(b1, trnObj t)]) [(r, rObj ((stepQ s).1))])
 refine ar_mem (wth_split (m := m) (L := [(b1, trnObj t), (r, rObj ((stepQ s).1))]) hNb1 (pick_perm [1] _)).symm ?_
 refine ⟨trivial, ?_⟩
 show K1 [(0, .ptr ⟨r, 0, none⟩), (3, .ptr ⟨b1, 0, none⟩), (5, .int .i64 ((stepQ s).2))] (AMem.wth m [(b1, trnObj t), (r, rObj ((stepQ s).1))])
 refine hK1 _ _ ?_; clear hK1 K1
 refine awp_seq_k ?_; intro K2 hK2
 refine awp_reg2_seq [] [0, 3, 5, 9] (by decide) ?_
 intro K1 hK1
 refine ⟨trivial, trivial, ?_⟩
 show K1 [(0, .ptr ⟨r, 0, none⟩), (3, .ptr ⟨b1, 0, none⟩), (5, .int .i64 ((stepQ s).2)), (9, .bool (((stepQ s).2) == 0))] (AMem.wth m [(b1, trnObj t), (r, rObj ((stepQ s).1))])
 refine hK1 _ _ ?_; clear hK1 K1
 refine awp_cond rfl rfl (fun h1 => ?_) (fun h1 => ?_)
 ·
  replace h1 : (stepQ s).2 = 0 := (eq_of_beq h1)
  refine awp_anyA_seq Try.mixed [0, 3, 5] (by decide) ?_
  intro K1 hK1
  intro A hA
  suffices key : ∀ (_ : True), K1 [(0, .ptr ⟨r, 0, none⟩), (3, .ptr ⟨b1, 0, none⟩), (5, .int .i64 ((stepQ s).2))] (AMem.wth m [(b1, trnObj t), (r, .cells [.slice true ((((stepQ s).1).kept).map fileAV), .slice true ((turnR (((stepQ s).1).now) t).map fileAV), .slice true ((((stepQ s).1).wait).map trnAV), .int .i64 (((stepQ s).1).fuse), .bool (((stepQ s).1).down), .int .i64 (((stepQ s).1).steps)])]) by
   have s0 : ∀ (_ : True), A 0 #[true, true, true, true, true, true, true, true, true, true] (fun fr m => K1 (fr.keep [0, 3, 5]) m) [(0, .ptr ⟨r, 0, none⟩), (3, .ptr ⟨b1, 0, none⟩), (5, .int .i64 ((stepQ s).2))] (AMem.wth m [(b1, trnObj t), (r, .cells [.slice true ((((stepQ s).1).kept).map fileAV), .slice true ((turnR (((stepQ s).1).now) t).map fileAV), .slice true ((((stepQ s).1).wait).map trnAV), .int .i64 (((stepQ s).1).fuse), .bool (((stepQ s).1).down), .int .i64 (((stepQ s).1).steps)])]) := by
    intro _
    subst hA
    exact AAny.done (by decide +kernel) (key trivial)
   have s1 : ∀ (_ : True), A 1 #[true, true, true, true, true, true, true, true, true, false] (fun fr m => K1 (fr.keep [0, 3, 5]) m) [(0, .ptr ⟨r, 0, none⟩), (3, .ptr ⟨b1, 0, none⟩), (5, .int .i64 ((stepQ s).2)), (16, .slice true ((turnR (((stepQ s).1).now) t).map fileAV)), (18, .ptr ⟨r, 1, none⟩)] (AMem.wth m [(b1, trnObj t), (r, rObj ((stepQ s).1))]) := by
    intro _
    subst hA
    refine AAny.step [] [9] (by decide +kernel) (by simp) (by decide) ⟨?_, trivial⟩
    ·
     show aopsR _ _ _ [_] _ _ _
     refine ar_storep rfl 1 (v := .slice true ((turnR (((stepQ s).1).now) t).map fileAV)) (l' := [.slice true ((((stepQ s).1).kept).map fileAV), .slice true ((turnR (((stepQ s).1).now) t).map fileAV), .slice true ((((stepQ s).1).wait).map trnAV), .int .i64 (((stepQ s).1).fuse), .bool (((stepQ s).1).down), .int .i64 (((stepQ s).1).steps)]) rfl rfl hNb1 rfl rfl rfl rfl rfl (Nat.le_of_ble_eq_true rfl) rfl ?_
     refine AAny.keep [0, 3, 5] (by decide) ?_
     exact s0 trivial
   have s2 : ∀ (_ : True), A 2 #[true, true, true, true, true, true, true, true, false, false] (fun fr m => K1 (fr.keep [0, 3, 5]) m) [(0, .ptr ⟨r, 0, none⟩), (3, .ptr ⟨b1, 0, none⟩), (5, .int .i64 ((stepQ s).2)), (16, .slice true ((turnR (((stepQ s).1).now) t).map fileAV)), (17, .ptr ⟨r, 0, none⟩)] (AMem.wth m [(b1, trnObj t), (r, rObj ((stepQ s).1))]) := by
    intro _
    subst hA
    refine AAny.step [] [8] (by decide +kernel) (by simp) (by decide) ⟨?_, trivial⟩
    ·
     show aopsR _ _ _ [_] _ _ _
     refine ⟨⟨rfl, by decide⟩, ?_⟩
     refine AAny.keep [0, 3, 5, 16, 18] (by decide) ?_
     exact s1 trivial
   have s3 : ∀ (_ : True), A 3 #[true, true, true, true, true, true, true, false, false, false] (fun fr m => K1 (fr.keep [0, 3, 5]) m) [(0, .ptr ⟨r, 0, none⟩), (3, .ptr ⟨b1, 0, none⟩), (5, .int .i64 ((stepQ s).2)), (10, .ptr ⟨r, 0, none⟩), (16, .slice true ((turnR (((stepQ s).1).now) t).map fileAV))] (AMem.wth m [(b1, trnObj t), (r, rObj ((stepQ s).1))]) := by
    intro _
    subst hA
    refine AAny.step [] [7] (by decide +kernel) (by simp) (by decide) ⟨?_, trivial⟩
    ·
     show aopsR _ _ _ [_] _ _ _
     refine ⟨trivial, ?_⟩
     refine AAny.keep [0, 3, 5, 16, 17] (by decide) ?_
     exact s2 trivial
   have s4 : ∀ (_ : True), A 4 #[true, true, true, true, true, true, false, false, false, false] (fun fr m => K1 (fr.keep [0, 3, 5]) m) [(0, .ptr ⟨r, 0, none⟩), (3, .ptr ⟨b1, 0, none⟩), (5, .int .i64 ((stepQ s).2)), (10, .ptr ⟨r, 0, none⟩), (14, .slice false ((((stepQ s).1).now).map fileAV)), (15, .agg [.int .i64 t.kind, .str t.name, .str t.data, .str t.to])] (AMem.wth m [(b1, trnObj t), (r, rObj ((stepQ s).1))]) := by
    intro _
    subst hA
    refine AAny.step [] [6] (by decide +kernel) (by simp) (by decide) ⟨?_, trivial⟩
    ·
     show aopsR _ _ _ [_] _ _ _
     refine u_turned (((stepQ s).1).now) t (by rw [hk.2.1]; omega) (by rw [hk.2.1]; exact hR.nb) (by first | omega | (dsimp only; omega)) _ _ ?_
     refine AAny.keep [0, 3, 5, 10, 16] (by decide) ?_
     exact s3 trivial
   have s5 : ∀ (_ : True), A 4 #[false, true, true, true, true, true, true, false, false, false] (fun fr m => K1 (fr.keep [0, 3, 5]) m) [(0, .ptr ⟨r, 0, none⟩), (3, .ptr ⟨b1, 0, none⟩), (5, .int .i64 ((stepQ s).2)), (16, .slice true ((turnR (((stepQ s).1).now) t).map fileAV))] (AMem.wth m [(b1, trnObj t), (r, rObj ((stepQ s).1))]) := by
    intro _
    subst hA
    refine AAny.step [] [0] (by decide +kernel) (by simp) (by decide) ⟨?_, trivial⟩
    ·
     show aopsR _ _ _ [_] _ _ _
     refine ⟨trivial, ?_⟩
     refine AAny.keep [0, 3, 5, 10, 16] (by decide) ?_
     exact s3 trivial
   have s6 : ∀ (_ : True), A 5 #[true, true, true, true, true, false, false, false, false, false] (fun fr m => K1 (fr.keep [0, 3, 5]) m) [(0, .ptr ⟨r, 0, none⟩), (3, .ptr ⟨b1, 0, none⟩), (5, .int .i64 ((stepQ s).2)), (10, .ptr ⟨r, 0, none⟩), (14, .slice false ((((stepQ s).1).now).map fileAV))] (AMem.wth m [(b1, trnObj t), (r, rObj ((stepQ s).1))]) := by
    intro _
    subst hA
    refine AAny.step [] [5] (by decide +kernel) (by simp) (by decide) ⟨?_, trivial⟩
    ·
     show aopsR _ _ _ [_] _ _ _
     refine ar_loadp rfl (v := .agg [.int .i64 t.kind, .str t.name, .str t.data, .str t.to]) rfl (wth_get 0 hNb1 rfl) rfl (apartOk_agg rfl rfl (Nat.le_of_ble_eq_true rfl)) rfl ?_
     refine AAny.keep [0, 3, 5, 10, 14, 15] (by decide) ?_
     exact s4 trivial
   have s7 : ∀ (_ : True), A 5 #[true, true, true, true, false, true, false, false, false, false] (fun fr m => K1 (fr.keep [0, 3, 5]) m) [(0, .ptr ⟨r, 0, none⟩), (3, .ptr ⟨b1, 0, none⟩), (5, .int .i64 ((stepQ s).2)), (10, .ptr ⟨r, 0, none⟩), (13, .ptr ⟨r, 1, none⟩), (15, .agg [.int .i64 t.kind, .str t.name, .str t.data, .str t.to])] (AMem.wth m [(b1, trnObj t), (r, rObj ((stepQ s).1))]) := by
    intro _
    subst hA
    refine AAny.step [] [4] (by decide +kernel) (by simp) (by decide) ⟨?_, trivial⟩
    ·
     show aopsR _ _ _ [_] _ _ _
     refine ar_loadp rfl (v := .slice false ((((stepQ s).1).now).map fileAV)) rfl (wth_get 1 hNb1 rfl) rfl (apartOk_one rfl rfl (Nat.le_of_ble_eq_true rfl)) rfl ?_
     refine AAny.keep [0, 3, 5, 10, 14, 15] (by decide) ?_
     exact s4 trivial
   have s8 : ∀ (_ : True), A 5 #[false, true, true, true, true, true, false, false, false, false] (fun fr m => K1 (fr.keep [0, 3, 5]) m) [(0, .ptr ⟨r, 0, none⟩), (3, .ptr ⟨b1, 0, none⟩), (5, .int .i64 ((stepQ s).2)), (14, .slice false ((((stepQ s).1).now).map fileAV)), (15, .agg [.int .i64 t.kind, .str t.name, .str t.data, .str t.to])] (AMem.wth m [(b1, trnObj t), (r, rObj ((stepQ s).1))]) := by
    intro _
    subst hA
    refine AAny.step [] [0, 6] (by decide +kernel) (by simp) (by decide) ⟨?_, ?_, trivial⟩
    ·
     show aopsR _ _ _ [_] _ _ _
     refine ⟨trivial, ?_⟩
     refine AAny.keep [0, 3, 5, 10, 14, 15] (by decide) ?_
     exact s4 trivial
    ·
     show aopsR _ _ _ [_] _ _ _
     refine u_turned (((stepQ s).1).now) t (by rw [hk.2.1]; omega) (by rw [hk.2.1]; exact hR.nb) (by first | omega | (dsimp only; omega)) _ _ ?_
     refine AAny.keep [0, 3, 5, 16] (by decide) ?_
     exact s5 trivial
   have s9 : ∀ (_ : True), A 6 #[true, true, true, true, false, false, false, false, false, false] (fun fr m => K1 (fr.keep [0, 3, 5]) m) [(0, .ptr ⟨r, 0, none⟩), (3, .ptr ⟨b1, 0, none⟩), (5, .int .i64 ((stepQ s).2)), (10, .ptr ⟨r, 0, none⟩), (13, .ptr ⟨r, 1, none⟩)] (AMem.wth m [(b1, trnObj t), (r, rObj ((stepQ s).1))]) := by
    intro _
    subst hA
    refine AAny.step [] [4, 5] (by decide +kernel) (by simp) (by decide) ⟨?_, ?_, trivial⟩
    ·
     show aopsR _ _ _ [_] _ _ _
     refine ar_loadp rfl (v := .slice false ((((stepQ s).1).now).map fileAV)) rfl (wth_get 1 hNb1 rfl) rfl (apartOk_one rfl rfl (Nat.le_of_ble_eq_true rfl)) rfl ?_
     refine AAny.keep [0, 3, 5, 10, 14] (by decide) ?_
     exact s6 trivial
    ·
     show aopsR _ _ _ [_] _ _ _
     refine ar_loadp rfl (v := .agg [.int .i64 t.kind, .str t.name, .str t.data, .str t.to]) rfl (wth_get 0 hNb1 rfl) rfl (apartOk_agg rfl rfl (Nat.le_of_ble_eq_true rfl)) rfl ?_
     refine AAny.keep [0, 3, 5, 10, 13, 15] (by decide) ?_
     exact s7 trivial
   have s10 : ∀ (_ : True), A 6 #[true, true, true, false, false, true, false, false, false, false] (fun fr m => K1 (fr.keep [0, 3, 5]) m) [(0, .ptr ⟨r, 0, none⟩), (3, .ptr ⟨b1, 0, none⟩), (5, .int .i64 ((stepQ s).2)), (10, .ptr ⟨r, 0, none⟩), (12, .ptr ⟨r, 0, none⟩), (15, .agg [.int .i64 t.kind, .str t.name, .str t.data, .str t.to])] (AMem.wth m [(b1, trnObj t), (r, rObj ((stepQ s).1))]) := by
    intro _
    subst hA
    refine AAny.step [] [3] (by decide +kernel) (by simp) (by decide) ⟨?_, trivial⟩
    ·
     show aopsR _ _ _ [_] _ _ _
     refine ⟨⟨rfl, by decide⟩, ?_⟩
     refine AAny.keep [0, 3, 5, 10, 13, 15] (by decide) ?_
     exact s7 trivial
   have s11 : ∀ (_ : True), A 6 #[false, true, true, true, true, false, false, false, false, false] (fun fr m => K1 (fr.keep [0, 3, 5]) m) [(0, .ptr ⟨r, 0, none⟩), (3, .ptr ⟨b1, 0, none⟩), (5, .int .i64 ((stepQ s).2)), (14, .slice false ((((stepQ s).1).now).map fileAV))] (AMem.wth m [(b1, trnObj t), (r, rObj ((stepQ s).1))]) := by
    intro _
    subst hA
    refine AAny.step [] [0, 5] (by decide +kernel) (by simp) (by decide) ⟨?_, ?_, trivial⟩
    ·
     show aopsR _ _ _ [_] _ _ _
     refine ⟨trivial, ?_⟩
     refine AAny.keep [0, 3, 5, 10, 14] (by decide) ?_
     exact s6 trivial
    ·
     show aopsR _ _ _ [_] _ _ _
     refine ar_loadp rfl (v := .agg [.int .i64 t.kind, .str t.name, .str t.data, .str t.to]) rfl (wth_get 0 hNb1 rfl) rfl (apartOk_agg rfl rfl (Nat.le_of_ble_eq_true rfl)) rfl ?_
     refine AAny.keep [0, 3, 5, 14, 15] (by decide) ?_
     exact s8 trivial
   have s12 : ∀ (_ : True), A 6 #[false, true, true, true, false, true, false, false, false, false] (fun fr m => K1 (fr.keep [0, 3, 5]) m) [(0, .ptr ⟨r, 0, none⟩), (3, .ptr ⟨b1, 0, none⟩), (5, .int .i64 ((stepQ s).2)), (13, .ptr ⟨r, 1, none⟩), (15, .agg [.int .i64 t.kind, .str t.name, .str t.data, .str t.to])] (AMem.wth m [(b1, trnObj t), (r, rObj ((stepQ s).1))]) := by
    intro _
    subst hA
    refine AAny.step [] [0, 4] (by decide +kernel) (by simp) (by decide) ⟨?_, ?_, trivial⟩
    ·
     show aopsR _ _ _ [_] _ _ _
     refine ⟨trivial, ?_⟩
     refine AAny.keep [0, 3, 5, 10, 13, 15] (by decide) ?_
     exact s7 trivial
    ·
     show aopsR _ _ _ [_] _ _ _
     refine ar_loadp rfl (v := .slice false ((((stepQ s).1).now).map fileAV)) rfl (wth_get 1 hNb1 rfl) rfl (apartOk_one rfl rfl (Nat.le_of_ble_eq_true rfl)) rfl ?_
     refine AAny.keep [0, 3, 5, 14, 15] (by decide) ?_
     exact s8 trivial
   have s13 : ∀ (_ : True), A 7 #[true, true, true, false, false, false, false, false, false, false] (fun fr m => K1 (fr.keep [0, 3, 5]) m) [(0, .ptr ⟨r, 0, none⟩), (3, .ptr ⟨b1, 0, none⟩), (5, .int .i64 ((stepQ s).2)), (10, .ptr ⟨r, 0, none⟩), (12, .ptr ⟨r, 0, none⟩)] (AMem.wth m [(b1, trnObj t), (r, rObj ((stepQ s).1))]) := by
    intro _
    subst hA
    refine AAny.step [] [3, 5] (by decide +kernel) (by simp) (by decide) ⟨?_, ?_, trivial⟩
    ·
     show aopsR _ _ _ [_] _ _ _
     refine ⟨⟨rfl, by decide⟩, ?_⟩
     refine AAny.keep [0, 3, 5, 10, 13] (by decide) ?_
     exact s9 trivial
    ·
     show aopsR _ _ _ [_] _ _ _
     refine ar_loadp rfl (v := .agg [.int .i64 t.kind, .str t.name, .str t.data, .str t.to]) rfl (wth_get 0 hNb1 rfl) rfl (apartOk_agg rfl rfl (Nat.le_of_ble_eq_true rfl)) rfl ?_
     refine AAny.keep [0, 3, 5, 10, 12, 15] (by decide) ?_
     exact s10 trivial
   have s14 : ∀ (_ : True), A 7 #[true, true, false, false, false, true, false, false, false, false] (fun fr m => K1 (fr.keep [0, 3, 5]) m) [(0, .ptr ⟨r, 0, none⟩), (3, .ptr ⟨b1, 0, none⟩), (5, .int .i64 ((stepQ s).2)), (10, .ptr ⟨r, 0, none⟩), (11, .ptr ⟨r, 0, none⟩), (15, .agg [.int .i64 t.kind, .str t.name, .str t.data, .str t.to])] (AMem.wth m [(b1, trnObj t), (r, rObj ((stepQ s).1))]) := by
    intro _
    subst hA
    refine AAny.step [] [2] (by decide +kernel) (by simp) (by decide) ⟨?_, trivial⟩
    ·
     show aopsR _ _ _ [_] _ _ _
     refine ⟨trivial, ?_⟩
     refine AAny.keep [0, 3, 5, 10, 12, 15] (by decide) ?_
     exact s10 trivial
   have s15 : ∀ (_ : True), A 7 #[false, true, true, true, false, false, false, false, false, false] (fun fr m => K1 (fr.keep [0, 3, 5]) m) [(0, .ptr ⟨r, 0, none⟩), (3, .ptr ⟨b1, 0, none⟩), (5, .int .i64 ((stepQ s).2)), (13, .ptr ⟨r, 1, none⟩)] (AMem.wth m [(b1, trnObj t), (r, rObj ((stepQ s).1))]) := by
    intro _
    subst hA
    refine AAny.step [] [0, 4, 5] (by decide +kernel) (by simp) (by decide) ⟨?_, ?_, ?_, trivial⟩
    ·
     show aopsR _ _ _ [_] _ _ _
     refine ⟨trivial, ?_⟩
     refine AAny.keep [0, 3, 5, 10, 13] (by decide) ?_
     exact s9 trivial
    ·
     show aopsR _ _ _ [_] _ _ _
     refine ar_loadp rfl (v := .slice false ((((stepQ s).1).now).map fileAV)) rfl (wth_get 1 hNb1 rfl) rfl (apartOk_one rfl rfl (Nat.le_of_ble_eq_true rfl)) rfl ?_
     refine AAny.keep [0, 3, 5, 14] (by decide) ?_
     exact s11 trivial
    ·
     show aopsR _ _ _ [_] _ _ _
     refine ar_loadp rfl (v := .agg [.int .i64 t.kind, .str t.name, .str t.data, .str t.to]) rfl (wth_get 0 hNb1 rfl) rfl (apartOk_agg rfl rfl (Nat.le_of_ble_eq_true rfl)) rfl ?_
     refine AAny.keep [0, 3, 5, 13, 15] (by decide) ?_
     exact s12 trivial
   have s16 : ∀ (_ : True), A 7 #[false, true, true, false, false, true, false, false, false, false] (fun fr m => K1 (fr.keep [0, 3, 5]) m) [(0, .ptr ⟨r, 0, none⟩), (3, .ptr ⟨b1, 0, none⟩), (5, .int .i64 ((stepQ s).2)), (12, .ptr ⟨r, 0, none⟩), (15, .agg [.int .i64 t.kind, .str t.name, .str t.data, .str t.to])] (AMem.wth m [(b1, trnObj t), (r, rObj ((stepQ s).1))]) := by
    intro _
    subst hA
    refine AAny.step [] [0, 3] (by decide +kernel) (by simp) (by decide) ⟨?_, ?_, trivial⟩
    ·
     show aopsR _ _ _ [_] _ _ _
     refine ⟨trivial, ?_⟩
     refine AAny.keep [0, 3, 5, 10, 12, 15] (by decide) ?_
     exact s10 trivial
    ·
     show aopsR _ _ _ [_] _ _ _
     refine ⟨⟨rfl, by decide⟩, ?_⟩
     refine AAny.keep [0, 3, 5, 13, 15] (by decide) ?_
     exact s12 trivial
   have s17 : ∀ (_ : True), A 8 #[true, true, false, false, false, false, false, false, false, false] (fun fr m => K1 (fr.keep [0, 3, 5]) m) [(0, .ptr ⟨r, 0, none⟩), (3, .ptr ⟨b1, 0, none⟩), (5, .int .i64 ((stepQ s).2)), (10, .ptr ⟨r, 0, none⟩), (11, .ptr ⟨r, 0, none⟩)] (AMem.wth m [(b1, trnObj t), (r, rObj ((stepQ s).1))]) := by
    intro _
    subst hA
    refine AAny.step [] [2, 5] (by decide +kernel) (by simp) (by decide) ⟨?_, ?_, trivial⟩
    ·
     show aopsR _ _ _ [_] _ _ _
     refine ⟨trivial, ?_⟩
     refine AAny.keep [0, 3, 5, 10, 12] (by decide) ?_
     exact s13 trivial
    ·
     show aopsR _ _ _ [_] _ _ _
     refine ar_loadp rfl (v := .agg [.int .i64 t.kind, .str t.name, .str t.data, .str t.to]) rfl (wth_get 0 hNb1 rfl) rfl (apartOk_agg rfl rfl (Nat.le_of_ble_eq_true rfl)) rfl ?_
     refine AAny.keep [0, 3, 5, 10, 11, 15] (by decide) ?_
     exact s14 trivial
   have s18 : ∀ (_ : True), A 8 #[true, false, false, false, false, true, false, false, false, false] (fun fr m => K1 (fr.keep [0, 3, 5]) m) [(0, .ptr ⟨r, 0, none⟩), (3, .ptr ⟨b1, 0, none⟩), (5, .int .i64 ((stepQ s).2)), (10, .ptr ⟨r, 0, none⟩), (15, .agg [.int .i64 t.kind, .str t.name, .str t.data, .str t.to])] (AMem.wth m [(b1, trnObj t), (r, rObj ((stepQ s).1))]) := by
    intro _
    subst hA
    refine AAny.step [] [1] (by decide +kernel) (by simp) (by decide) ⟨?_, trivial⟩
    ·
     show aopsR _ _ _ [_] _ _ _
     refine ⟨trivial, ?_⟩
     refine AAny.keep [0, 3, 5, 10, 11, 15] (by decide) ?_
     exact s14 trivial
   have s19 : ∀ (_ : True), A 8 #[false, true, true, false, false, false, false, false, false, false] (fun fr m => K1 (fr.keep [0, 3, 5]) m) [(0, .ptr ⟨r, 0, none⟩), (3, .ptr ⟨b1, 0, none⟩), (5, .int .i64 ((stepQ s).2)), (12, .ptr ⟨r, 0, none⟩)] (AMem.wth m [(b1, trnObj t), (r, rObj ((stepQ s).1))]) := by
    intro _
    subst hA
    refine AAny.step [] [0, 3, 5] (by decide +kernel) (by simp) (by decide) ⟨?_, ?_, ?_, trivial⟩
    ·
     show aopsR _ _ _ [_] _ _ _
     refine ⟨trivial, ?_⟩
     refine AAny.keep [0, 3, 5, 10, 12] (by decide) ?_
     exact s13 trivial
    ·
     show aopsR _ _ _ [_] _ _ _
     refine ⟨⟨rfl, by decide⟩, ?_⟩
     refine AAny.keep [0, 3, 5, 13] (by decide) ?_
     exact s15 trivial
    ·
     show aopsR _ _ _ [_] _ _ _
     refine ar_loadp rfl (v := .agg [.int .i64 t.kind, .str t.name, .str t.data, .str t.to]) rfl (wth_get 0 hNb1 rfl) rfl (apartOk_agg rfl rfl (Nat.le_of_ble_eq_true rfl)) rfl ?_
     refine AAny.keep [0, 3, 5, 12, 15] (by decide) ?_
     exact s16 trivial
   have s20 : ∀ (_ : True), A 8 #[false, true, false, false, false, true, false, false, false, false] (fun fr m => K1 (fr.keep [0, 3, 5]) m) [(0, .ptr ⟨r, 0, none⟩), (3, .ptr ⟨b1, 0, none⟩), (5, .int .i64 ((stepQ s).2)), (11, .ptr ⟨r, 0, none⟩), (15, .agg [.int .i64 t.kind, .str t.name, .str t.data, .str t.to])] (AMem.wth m [(b1, trnObj t), (r, rObj ((stepQ s).1))]) := by
    intro _
    subst hA
    refine AAny.step [] [0, 2] (by decide +kernel) (by simp) (by decide) ⟨?_, ?_, trivial⟩
    ·
     show aopsR _ _ _ [_] _ _ _
     refine ⟨trivial, ?_⟩
     refine AAny.keep [0, 3, 5, 10, 11, 15] (by decide) ?_
     exact s14 trivial
    ·
     show aopsR _ _ _ [_] _ _ _
     refine ⟨trivial, ?_⟩
     refine AAny.keep [0, 3, 5, 12, 15] (by decide) ?_
     exact s16 trivial
   have s21 : ∀ (_ : True), A 9 #[true, false, false, false, false, false, false, false, false, false] (fun fr m => K1 (fr.keep [0, 3, 5]) m) [(0, .ptr ⟨r, 0, none⟩), (3, .ptr ⟨b1, 0, none⟩), (5, .int .i64 ((stepQ s).2)), (10, .ptr ⟨r, 0, none⟩)] (AMem.wth m [(b1, trnObj t), (r, rObj ((stepQ s).1))]) := by
    intro _
    subst hA
    refine AAny.step [] [1, 5] (by decide +kernel) (by simp) (by decide) ⟨?_, ?_, trivial⟩
    ·
     show aopsR _ _ _ [_] _ _ _
     refine ⟨trivial, ?_⟩
     refine AAny.keep [0, 3, 5, 10, 11] (by decide) ?_
     exact s17 trivial
    ·
     show aopsR _ _ _ [_] _ _ _
     refine ar_loadp rfl (v := .agg [.int .i64 t.kind, .str t.name, .str t.data, .str t.to]) rfl (wth_get 0 hNb1 rfl) rfl (apartOk_agg rfl rfl (Nat.le_of_ble_eq_true rfl)) rfl ?_
     refine AAny.keep [0, 3, 5, 10, 15] (by decide) ?_
     exact s18 trivial
   have s22 : ∀ (_ : True), A 9 #[false, true, false, false, false, false, false, false, false, false] (fun fr m => K1 (fr.keep [0, 3, 5]) m) [(0, .ptr ⟨r, 0, none⟩), (3, .ptr ⟨b1, 0, none⟩), (5, .int .i64 ((stepQ s).2)), (11, .ptr ⟨r, 0, none⟩)] (AMem.wth m [(b1, trnObj t), (r, rObj ((stepQ s).1))]) := by
    intro _
    subst hA
    refine AAny.step [] [0, 2, 5] (by decide +kernel) (by simp) (by decide) ⟨?_, ?_, ?_, trivial⟩
    ·
     show aopsR _ _ _ [_] _ _ _
     refine ⟨trivial, ?_⟩
     refine AAny.keep [0, 3, 5, 10, 11] (by decide) ?_
     exact s17 trivial
    ·
     show aopsR _ _ _ [_] _ _ _
     refine ⟨trivial, ?_⟩
     refine AAny.keep [0, 3, 5, 12] (by decide) ?_
     exact s19 trivial
    ·
     show aopsR _ _ _ [_] _ _ _
     refine ar_loadp rfl (v := .agg [.int .i64 t.kind, .str t.name, .str t.data, .str t.to]) rfl (wth_get 0 hNb1 rfl) rfl (apartOk_agg rfl rfl (Nat.le_of_ble_eq_true rfl)) rfl ?_
     refine AAny.keep [0, 3, 5, 11, 15] (by decide) ?_
     exact s20 trivial
   have s23 : ∀ (_ : True), A 9 #[false, false, false, false, false, true, false, false, false, false] (fun fr m => K1 (fr.keep [0, 3, 5]) m) [(0, .ptr ⟨r, 0, none⟩), (3, .ptr ⟨b1, 0, none⟩), (5, .int .i64 ((stepQ s).2)), (15, .agg [.int .i64 t.kind, .str t.name, .str t.data, .str t.to])] (AMem.wth m [(b1, trnObj t), (r, rObj ((stepQ s).1))]) := by
    intro _
    subst hA
    refine AAny.step [] [0, 1] (by decide +kernel) (by simp) (by decide) ⟨?_, ?_, trivial⟩
    ·
     show aopsR _ _ _ [_] _ _ _
     refine ⟨trivial, ?_⟩
     refine AAny.keep [0, 3, 5, 10, 15] (by decide) ?_
     exact s18 trivial
    ·
     show aopsR _ _ _ [_] _ _ _
     refine ⟨trivial, ?_⟩
     refine AAny.keep [0, 3, 5, 11, 15] (by decide) ?_
     exact s20 trivial
   have s24 : ∀ (_ : True), A 10 #[false, false, false, false, false, false, false, false, false, false] (fun fr m => K1 (fr.keep [0, 3, 5]) m) [(0, .ptr ⟨r, 0, none⟩), (3, .ptr ⟨b1, 0, none⟩), (5, .int .i64 ((stepQ s).2)), (9, .bool (((stepQ s).2) == 0))] (AMem.wth m [(b1, trnObj t), (r, rObj ((stepQ s).1))]) := by
    intro _
    subst hA
    refine AAny.step [] [0, 1, 5] (by decide +kernel) (by simp) (by decide) ⟨?_, ?_, ?_, trivial⟩
    ·
     show aopsR _ _ _ [_] _ _ _
     refine ⟨trivial, ?_⟩
     refine AAny.keep [0, 3, 5, 10] (by decide) ?_
     exact s21 trivial
    ·
     show aopsR _ _ _ [_] _ _ _
     refine ⟨trivial, ?_⟩
     refine AAny.keep [0, 3, 5, 11] (by decide) ?_
     exact s22 trivial
    ·
     show aopsR _ _ _ [_] _ _ _
     refine ar_loadp rfl (v := .agg [.int .i64 t.kind, .str t.name, .str t.data, .str t.to]) rfl (wth_get 0 hNb1 rfl) rfl (apartOk_agg rfl rfl (Nat.le_of_ble_eq_true rfl)) rfl ?_
     refine AAny.keep [0, 3, 5, 15] (by decide) ?_
     exact s23 trivial
   exact s24 trivial
  intro _
  refine hK1 _ _ ?_; clear hK1 K1
  refine awp_anyA Try.mixed [5] (by decide) ?_
  intro K1 hK1
  intro A hA
  suffices key : ∀ (_ : True), K1 [(5, .int .i64 ((stepQ s).2))] (AMem.wth m [(b1, trnObj t), (r, .cells [.slice true ((((stepQ s).1).kept).map fileAV), .slice true ((turnR (((stepQ s).1).now) t).map fileAV), .slice true (((((stepQ s).1).wait) ++ ([t] : List Trn)).map trnAV), .int .i64 (((stepQ s).1).fuse), .bool (((stepQ s).1).down), .int .i64 (((stepQ s).1).steps)])]) by
   have s0 : ∀ (_ : True), A 0 #[true, true, true, true, true, true, true, true, true, true, true] (fun fr m => K1 (fr.keep [5]) m) [(5, .int .i64 ((stepQ s).2))] (AMem.wth m [(b1, trnObj t), (r, .cells [.slice true ((((stepQ s).1).kept).map fileAV), .slice true ((turnR (((stepQ s).1).now) t).map fileAV), .slice true (((((stepQ s).1).wait) ++ ([t] : List Trn)).map trnAV), .int .i64 (((stepQ s).1).fuse), .bool (((stepQ s).1).down), .int .i64 (((stepQ s).1).steps)])]) := by
    intro _
    subst hA
    exact AAny.done (by decide +kernel) (key trivial)
   have s1 : ∀ (_ : True), A 1 #[true, true, true, true, true, true, true, true, true, true, false] (fun fr m => K1 (fr.keep [5]) m) [(5, .int .i64 ((stepQ s).2)), (26, .slice true (((((stepQ s).1).wait) ++ ([t] : List Trn)).map trnAV)), (28, .ptr ⟨r, 2, none⟩)] (AMem.wth m [(b1, trnObj t), (r, .cells [.slice true ((((stepQ s).1).kept).map fileAV), .slice true ((turnR (((stepQ s).1).now) t).map fileAV), .slice false ((((stepQ s).1).wait).map trnAV), .int .i64 (((stepQ s).1).fuse), .bool (((stepQ s).1).down), .int .i64 (((stepQ s).1).steps)])]) := by
    intro _
    subst hA
    refine AAny.step [23] [10] (by decide +kernel) (by simp) (by decide) ⟨?_, trivial⟩
    ·
     show aopsR _ _ _ [_] _ _ _
     refine ar_storep rfl 1 (v := .slice true (((((stepQ s).1).wait) ++ ([t] : List Trn)).map trnAV)) (l' := [.slice true ((((stepQ s).1).kept).map fileAV), .slice true ((turnR (((stepQ s).1).now) t).map fileAV), .slice true (((((stepQ s).1).wait) ++ ([t] : List Trn)).map trnAV), .int .i64 (((stepQ s).1).fuse), .bool (((stepQ s).1).down), .int .i64 (((stepQ s).1).steps)]) rfl rfl hNb1 rfl rfl rfl rfl rfl (Nat.le_of_ble_eq_true rfl) rfl ?_
     refine AAny.keep [5] (by decide) ?_
     exact s0 trivial
   have s2 : ∀ (_ : True), A 2 #[true, true, true, true, true, true, true, true, true, false, false] (fun fr m => K1 (fr.keep [5]) m) [(5, .int .i64 ((stepQ s).2)), (26, .slice true (((((stepQ s).1).wait) ++ ([t] : List Trn)).map trnAV)), (27, .ptr ⟨r, 0, none⟩)] (AMem.wth m [(b1, trnObj t), (r, .cells [.slice true ((((stepQ s).1).kept).map fileAV), .slice true ((turnR (((stepQ s).1).now) t).map fileAV), .slice false ((((stepQ s).1).wait).map trnAV), .int .i64 (((stepQ s).1).fuse), .bool (((stepQ s).1).down), .int .i64 (((stepQ s).1).steps)])]) := by
    intro _
    subst hA
    refine AAny.step [23] [9] (by decide +kernel) (by simp) (by decide) ⟨?_, trivial⟩
    ·
     show aopsR _ _ _ [_] _ _ _
     refine ⟨⟨rfl, by decide⟩, ?_⟩
     refine AAny.keep [5, 26, 28] (by decide) ?_
     exact s1 trivial
   have s3 : ∀ (_ : True), A 3 #[true, true, true, true, true, true, true, true, false, false, false] (fun fr m => K1 (fr.keep [5]) m) [(5, .int .i64 ((stepQ s).2)), (19, .ptr ⟨r, 0, none⟩), (26, .slice true (((((stepQ s).1).wait) ++ ([t] : List Trn)).map trnAV))] (AMem.wth m [(b1, trnObj t), (r, .cells [.slice true ((((stepQ s).1).kept).map fileAV), .slice true ((turnR (((stepQ s).1).now) t).map fileAV), .slice false ((((stepQ s).1).wait).map trnAV), .int .i64 (((stepQ s).1).fuse), .bool (((stepQ s).1).down), .int .i64 (((stepQ s).1).steps)])]) := by
    intro _
    subst hA
    refine AAny.step [23] [8] (by decide +kernel) (by simp) (by decide) ⟨?_, trivial⟩
    ·
     show aopsR _ _ _ [_] _ _ _
     refine ⟨trivial, ?_⟩
     refine AAny.keep [5, 26, 27] (by decide) ?_
     exact s2 trivial
   have s4 : ∀ (_ : True), A 4 #[true, true, true, true, true, true, true, false, false, false, false] (fun fr m => K1 (fr.keep [5]) m) [(5, .int .i64 ((stepQ s).2)), (19, .ptr ⟨r, 0, none⟩), (23, .slice true ((((stepQ s).1).wait).map trnAV)), (25, .slice true [.agg [.int .i64 t.kind, .str t.name, .str t.data, .str t.to]])] (AMem.wth m [(b1, trnObj t), (r, .cells [.slice true ((((stepQ s).1).kept).map fileAV), .slice true ((turnR (((stepQ s).1).now) t).map fileAV), .slice false ((((stepQ s).1).wait).map trnAV), .int .i64 (((stepQ s).1).fuse), .bool (((stepQ s).1).down), .int .i64 (((stepQ s).1).steps)])]) := by
    intro _
    subst hA
    refine AAny.step [23] [7] (by decide +kernel) (by simp) (by decide) ⟨?_, trivial⟩
    ·
     show aopsR _ _ _ [_] _ _ _
     refine ar_append rfl trnAV (((stepQ s).1).wait) ([t] : List Trn) rfl rfl rfl rfl rfl rfl (Nat.le_of_ble_eq_true rfl) rfl (by (simp only [show Try.prog.bytesOf 121 = 56 from rfl, List.length_append, List.length_cons, List.length_nil]; omega)) (by (first | omega | (simp only [List.length_append, List.length_cons, List.length_nil]; omega))) (fun _ => ⟨rfl, rfl⟩) ?_
     refine AAny.keep [5, 19, 26] (by decide) ?_
     exact s3 trivial
   have s5 : ∀ (_ : True), A 4 #[false, true, true, true, true, true, true, true, false, false, false] (fun fr m => K1 (fr.keep [5]) m) [(0, .ptr ⟨r, 0, none⟩), (5, .int .i64 ((stepQ s).2)), (26, .slice true (((((stepQ s).1).wait) ++ ([t] : List Trn)).map trnAV))] (AMem.wth m [(b1, trnObj t), (r, .cells [.slice true ((((stepQ s).1).kept).map fileAV), .slice true ((turnR (((stepQ s).1).now) t).map fileAV), .slice false ((((stepQ s).1).wait).map trnAV), .int .i64 (((stepQ s).1).fuse), .bool (((stepQ s).1).down), .int .i64 (((stepQ s).1).steps)])]) := by
    intro _
    subst hA
    refine AAny.step [23] [0] (by decide +kernel) (by simp) (by decide) ⟨?_, trivial⟩
    ·
     show aopsR _ _ _ [_] _ _ _
     refine ⟨trivial, ?_⟩
     refine AAny.keep [5, 19, 26] (by decide) ?_
     exact s3 trivial
   have s6 : ∀ (_ : True), A 5 #[true, true, true, true, true, true, false, false, false, false, false] (fun fr m => K1 (fr.keep [5]) m) [(5, .int .i64 ((stepQ s).2)), (19, .ptr ⟨r, 0, none⟩), (23, .slice true ((((stepQ s).1).wait).map trnAV)), (24, .agg [.int .i64 t.kind, .str t.name, .str t.data, .str t.to])] (AMem.wth m [(b1, trnObj t), (r, .cells [.slice true ((((stepQ s).1).kept).map fileAV), .slice true ((turnR (((stepQ s).1).now) t).map fileAV), .slice false ((((stepQ s).1).wait).map trnAV), .int .i64 (((stepQ s).1).fuse), .bool (((stepQ s).1).down), .int .i64 (((stepQ s).1).steps)])]) := by
    intro _
    subst hA
    refine AAny.step [23] [6] (by decide +kernel) (by simp) (by decide) ⟨?_, trivial⟩
    ·
     show aopsR _ _ _ [_] _ _ _
     refine ⟨⟨rfl, Nat.le_of_ble_eq_true rfl, rfl, Nat.le_of_ble_eq_true rfl, rfl, by simp only [List.forall_mem_cons]; exact ⟨⟨rfl, rfl⟩, fun _ h => by cases h⟩⟩, ?_⟩
     refine AAny.keep [5, 19, 23, 25] (by decide) ?_
     exact s4 trivial
   have s7 : ∀ (_ : True), A 5 #[true, true, true, true, false, true, true, false, false, false, false] (fun fr m => K1 (fr.keep [5]) m) [(5, .int .i64 ((stepQ s).2)), (19, .ptr ⟨r, 0, none⟩), (22, .ptr ⟨r, 2, none⟩), (25, .slice true [.agg [.int .i64 t.kind, .str t.name, .str t.data, .str t.to]])] (AMem.wth m [(b1, trnObj t), (r, .cells [.slice true ((((stepQ s).1).kept).map fileAV), .slice true ((turnR (((stepQ s).1).now) t).map fileAV), .slice true ((((stepQ s).1).wait).map trnAV), .int .i64 (((stepQ s).1).fuse), .bool (((stepQ s).1).down), .int .i64 (((stepQ s).1).steps)])]) := by
    intro _
    subst hA
    refine AAny.step [23] [4] (by decide +kernel) (by simp) (by decide) ⟨?_, trivial⟩
    ·
     show aopsR _ _ _ [_] _ _ _
     refine ar_loads rfl (i := 1) rfl hNb1 rfl rfl rfl rfl (Nat.le_of_ble_eq_true rfl) ?_
     refine AAny.keep [5, 19, 23, 25] (by decide) ?_
     exact s4 trivial
   have s8 : ∀ (_ : True), A 5 #[false, true, true, true, true, true, true, false, false, false, false] (fun fr m => K1 (fr.keep [5]) m) [(0, .ptr ⟨r, 0, none⟩), (5, .int .i64 ((stepQ s).2)), (23, .slice true ((((stepQ s).1).wait).map trnAV)), (25, .slice true [.agg [.int .i64 t.kind, .str t.name, .str t.data, .str t.to]])] (AMem.wth m [(b1, trnObj t), (r, .cells [.slice true ((((stepQ s).1).kept).map fileAV), .slice true ((turnR (((stepQ s).1).now) t).map fileAV), .slice false ((((stepQ s).1).wait).map trnAV), .int .i64 (((stepQ s).1).fuse), .bool (((stepQ s).1).down), .int .i64 (((stepQ s).1).steps)])]) := by
    intro _
    subst hA
    refine AAny.step [23] [0, 7] (by decide +kernel) (by simp) (by decide) ⟨?_, ?_, trivial⟩
    ·
     show aopsR _ _ _ [_] _ _ _
     refine ⟨trivial, ?_⟩
     refine AAny.keep [5, 19, 23, 25] (by decide) ?_
     exact s4 trivial
    ·
     show aopsR _ _ _ [_] _ _ _
     refine ar_append rfl trnAV (((stepQ s).1).wait) ([t] : List Trn) rfl rfl rfl rfl rfl rfl (Nat.le_of_ble_eq_true rfl) rfl (by (simp only [show Try.prog.bytesOf 121 = 56 from rfl, List.length_append, List.length_cons, List.length_nil]; omega)) (by (first | omega | (simp only [List.length_append, List.length_cons, List.length_nil]; omega))) (fun _ => ⟨rfl, rfl⟩) ?_
     refine AAny.keep [0, 5, 26] (by decide) ?_
     exact s5 trivial
   have s9 : ∀ (_ : True), A 6 #[true, true, true, true, true, false, false, false, false, false, false] (fun fr m => K1 (fr.keep [5]) m) [(3, .ptr ⟨b1, 0, none⟩), (5, .int .i64 ((stepQ s).2)), (19, .ptr ⟨r, 0, none⟩), (23, .slice true ((((stepQ s).1).wait).map trnAV))] (AMem.wth m [(b1, trnObj t), (r, .cells [.slice true ((((stepQ s).1).kept).map fileAV), .slice true ((turnR (((stepQ s).1).now) t).map fileAV), .slice false ((((stepQ s).1).wait).map trnAV), .int .i64 (((stepQ s).1).fuse), .bool (((stepQ s).1).down), .int .i64 (((stepQ s).1).steps)])]) := by
    intro _
    subst hA
    refine AAny.step [23] [5] (by decide +kernel) (by simp) (by decide) ⟨?_, trivial⟩
    ·
     show aopsR _ _ _ [_] _ _ _
     refine ar_loadp rfl (v := .agg [.int .i64 t.kind, .str t.name, .str t.data, .str t.to]) rfl (wth_get 0 hNb1 rfl) rfl (apartOk_agg rfl rfl (Nat.le_of_ble_eq_true rfl)) rfl ?_
     refine AAny.keep [5, 19, 23, 24] (by decide) ?_
     exact s6 trivial
   have s10 : ∀ (_ : True), A 6 #[true, true, true, true, false, true, false, false, false, false, false] (fun fr m => K1 (fr.keep [5]) m) [(5, .int .i64 ((stepQ s).2)), (19, .ptr ⟨r, 0, none⟩), (22, .ptr ⟨r, 2, none⟩), (24, .agg [.int .i64 t.kind, .str t.name, .str t.data, .str t.to])] (AMem.wth m [(b1, trnObj t), (r, .cells [.slice true ((((stepQ s).1).kept).map fileAV), .slice true ((turnR (((stepQ s).1).now) t).map fileAV), .slice true ((((stepQ s).1).wait).map trnAV), .int .i64 (((stepQ s).1).fuse), .bool (((stepQ s).1).down), .int .i64 (((stepQ s).1).steps)])]) := by
    intro _
    subst hA
    refine AAny.step [23] [4, 6] (by decide +kernel) (by simp) (by decide) ⟨?_, ?_, trivial⟩
    ·
     show aopsR _ _ _ [_] _ _ _
     refine ar_loads rfl (i := 1) rfl hNb1 rfl rfl rfl rfl (Nat.le_of_ble_eq_true rfl) ?_
     refine AAny.keep [5, 19, 23, 24] (by decide) ?_
     exact s6 trivial
    ·
     show aopsR _ _ _ [_] _ _ _
     refine ⟨⟨rfl, Nat.le_of_ble_eq_true rfl, rfl, Nat.le_of_ble_eq_true rfl, rfl, by simp only [List.forall_mem_cons]; exact ⟨⟨rfl, rfl⟩, fun _ h => by cases h⟩⟩, ?_⟩
     refine AAny.keep [5, 19, 22, 25] (by decide) ?_
     exact s7 trivial
   have s11 : ∀ (_ : True), A 6 #[true, true, true, false, false, true, true, false, false, false, false] (fun fr m => K1 (fr.keep [5]) m) [(5, .int .i64 ((stepQ s).2)), (19, .ptr ⟨r, 0, none⟩), (21, .ptr ⟨r, 0, none⟩), (25, .slice true [.agg [.int .i64 t.kind, .str t.name, .str t.data, .str t.to]])] (AMem.wth m [(b1, trnObj t), (r, .cells [.slice true ((((stepQ s).1).kept).map fileAV), .slice true ((turnR (((stepQ s).1).now) t).map fileAV), .slice true ((((stepQ s).1).wait).map trnAV), .int .i64 (((stepQ s).1).fuse), .bool (((stepQ s).1).down), .int .i64 (((stepQ s).1).steps)])]) := by
    intro _
    subst hA
    refine AAny.step [23] [3] (by decide +kernel) (by simp) (by decide) ⟨?_, trivial⟩
    ·
     show aopsR _ _ _ [_] _ _ _
     refine ⟨⟨rfl, by decide⟩, ?_⟩
     refine AAny.keep [5, 19, 22, 25] (by decide) ?_
     exact s7 trivial
   have s12 : ∀ (_ : True), A 6 #[false, true, true, true, true, true, false, false, false, false, false] (fun fr m => K1 (fr.keep [5]) m) [(0, .ptr ⟨r, 0, none⟩), (5, .int .i64 ((stepQ s).2)), (23, .slice true ((((stepQ s).1).wait).map trnAV)), (24, .agg [.int .i64 t.kind, .str t.name, .str t.data, .str t.to])] (AMem.wth m [(b1, trnObj t), (r, .cells [.slice true ((((stepQ s).1).kept).map fileAV), .slice true ((turnR (((stepQ s).1).now) t).map fileAV), .slice false ((((stepQ s).1).wait).map trnAV), .int .i64 (((stepQ s).1).fuse), .bool (((stepQ s).1).down), .int .i64 (((stepQ s).1).steps)])]) := by
    intro _
    subst hA
    refine AAny.step [23] [0, 6] (by decide +kernel) (by simp) (by decide) ⟨?_, ?_, trivial⟩
    ·
     show aopsR _ _ _ [_] _ _ _
     refine ⟨trivial, ?_⟩
     refine AAny.keep [5, 19, 23, 24] (by decide) ?_
     exact s6 trivial
    ·
     show aopsR _ _ _ [_] _ _ _
     refine ⟨⟨rfl, Nat.le_of_ble_eq_true rfl, rfl, Nat.le_of_ble_eq_true rfl, rfl, by simp only [List.forall_mem_cons]; exact ⟨⟨rfl, rfl⟩, fun _ h => by cases h⟩⟩, ?_⟩
     refine AAny.keep [0, 5, 23, 25] (by decide) ?_
     exact s8 trivial
   have s13 : ∀ (_ : True), A 6 #[false, true, true, true, false, true, true, false, false, false, false] (fun fr m => K1 (fr.keep [5]) m) [(0, .ptr ⟨r, 0, none⟩), (5, .int .i64 ((stepQ s).2)), (22, .ptr ⟨r, 2, none⟩), (25, .slice true [.agg [.int .i64 t.kind, .str t.name, .str t.data, .str t.to]])] (AMem.wth m [(b1, trnObj t), (r, .cells [.slice true ((((stepQ s).1).kept).map fileAV), .slice true ((turnR (((stepQ s).1).now) t).map fileAV), .slice true ((((stepQ s).1).wait).map trnAV), .int .i64 (((stepQ s).1).fuse), .bool (((stepQ s).1).down), .int .i64 (((stepQ s).1).steps)])]) := by
    intro _
    subst hA
    refine AAny.step [23] [0, 4] (by decide +kernel) (by simp) (by decide) ⟨?_, ?_, trivial⟩
    ·
     show aopsR _ _ _ [_] _ _ _
     refine ⟨trivial, ?_⟩
     refine AAny.keep [5, 19, 22, 25] (by decide) ?_
     exact s7 trivial
    ·
     show aopsR _ _ _ [_] _ _ _
     refine ar_loads rfl (i := 1) rfl hNb1 rfl rfl rfl rfl (Nat.le_of_ble_eq_true rfl) ?_
     refine AAny.keep [0, 5, 23, 25] (by decide) ?_
     exact s8 trivial
   have s14 : ∀ (_ : True), A 7 #[true, true, true, true, false, false, false, false, false, false, false] (fun fr m => K1 (fr.keep [5]) m) [(3, .ptr ⟨b1, 0, none⟩), (5, .int .i64 ((stepQ s).2)), (19, .ptr ⟨r, 0, none⟩), (22, .ptr ⟨r, 2, none⟩)] (AMem.wth m [(b1, trnObj t), (r, .cells [.slice true ((((stepQ s).1).kept).map fileAV), .slice true ((turnR (((stepQ s).1).now) t).map fileAV), .slice true ((((stepQ s).1).wait).map trnAV), .int .i64 (((stepQ s).1).fuse), .bool (((stepQ s).1).down), .int .i64 (((stepQ s).1).steps)])]) := by
    intro _
    subst hA
    refine AAny.step [23] [4, 5] (by decide +kernel) (by simp) (by decide) ⟨?_, ?_, trivial⟩
    ·
     show aopsR _ _ _ [_] _ _ _
     refine ar_loads rfl (i := 1) rfl hNb1 rfl rfl rfl rfl (Nat.le_of_ble_eq_true rfl) ?_
     refine AAny.keep [3, 5, 19, 23] (by decide) ?_
     exact s9 trivial
    ·
     show aopsR _ _ _ [_] _ _ _
     refine ar_loadp rfl (v := .agg [.int .i64 t.kind, .str t.name, .str t.data, .str t.to]) rfl (wth_get 0 hNb1 rfl) rfl (apartOk_agg rfl rfl (Nat.le_of_ble_eq_true rfl)) rfl ?_
     refine AAny.keep [5, 19, 22, 24] (by decide) ?_
     exact s10 trivial
   have s15 : ∀ (_ : True), A 7 #[true, true, true, false, false, true, false, false, false, false, false] (fun fr m => K1 (fr.keep [5]) m) [(5, .int .i64 ((stepQ s).2)), (19, .ptr ⟨r, 0, none⟩), (21, .ptr ⟨r, 0, none⟩), (24, .agg [.int .i64 t.kind, .str t.name, .str t.data, .str t.to])] (AMem.wth m [(b1, trnObj t), (r, .cells [.slice true ((((stepQ s).1).kept).map fileAV), .slice true ((turnR (((stepQ s).1).now) t).map fileAV), .slice true ((((stepQ s).1).wait).map trnAV), .int .i64 (((stepQ s).1).fuse), .bool (((stepQ s).1).down), .int .i64 (((stepQ s).1).steps)])]) := by
    intro _
    subst hA
    refine AAny.step [23] [3, 6] (by decide +kernel) (by simp) (by decide) ⟨?_, ?_, trivial⟩
    ·
     show aopsR _ _ _ [_] _ _ _
     refine ⟨⟨rfl, by decide⟩, ?_⟩
     refine AAny.keep [5, 19, 22, 24] (by decide) ?_
     exact s10 trivial
    ·
     show aopsR _ _ _ [_] _ _ _
     refine ⟨⟨rfl, Nat.le_of_ble_eq_true rfl, rfl, Nat.le_of_ble_eq_true rfl, rfl, by simp only [List.forall_mem_cons]; exact ⟨⟨rfl, rfl⟩, fun _ h => by cases h⟩⟩, ?_⟩
     refine AAny.keep [5, 19, 21, 25] (by decide) ?_
     exact s11 trivial
   have s16 : ∀ (_ : True), A 7 #[true, true, false, false, false, true, true, false, false, false, false] (fun fr m => K1 (fr.keep [5]) m) [(5, .int .i64 ((stepQ s).2)), (19, .ptr ⟨r, 0, none⟩), (20, .ptr ⟨r, 0, none⟩), (25, .slice true [.agg [.int .i64 t.kind, .str t.name, .str t.data, .str t.to]])] (AMem.wth m [(b1, trnObj t), (r, .cells [.slice true ((((stepQ s).1).kept).map fileAV), .slice true ((turnR (((stepQ s).1).now) t).map fileAV), .slice true ((((stepQ s).1).wait).map trnAV), .int .i64 (((stepQ s).1).fuse), .bool (((stepQ s).1).down), .int .i64 (((stepQ s).1).steps)])]) := by
    intro _
    subst hA
    refine AAny.step [23] [2] (by decide +kernel) (by simp) (by decide) ⟨?_, trivial⟩
    ·
     show aopsR _ _ _ [_] _ _ _
     refine ⟨trivial, ?_⟩
     refine AAny.keep [5, 19, 21, 25] (by decide) ?_
     exact s11 trivial
   have s17 : ∀ (_ : True), A 7 #[false, true, true, true, true, false, false, false, false, false, false] (fun fr m => K1 (fr.keep [5]) m) [(0, .ptr ⟨r, 0, none⟩), (3, .ptr ⟨b1, 0, none⟩), (5, .int .i64 ((stepQ s).2)), (23, .slice true ((((stepQ s).1).wait).map trnAV))] (AMem.wth m [(b1, trnObj t), (r, .cells [.slice true ((((stepQ s).1).kept).map fileAV), .slice true ((turnR (((stepQ s).1).now) t).map fileAV), .slice false ((((stepQ s).1).wait).map trnAV), .int .i64 (((stepQ s).1).fuse), .bool (((stepQ s).1).down), .int .i64 (((stepQ s).1).steps)])]) := by
    intro _
    subst hA
    refine AAny.step [23] [0, 5] (by decide +kernel) (by simp) (by decide) ⟨?_, ?_, trivial⟩
    ·
     show aopsR _ _ _ [_] _ _ _
     refine ⟨trivial, ?_⟩
     refine AAny.keep [3, 5, 19, 23] (by decide) ?_
     exact s9 trivial
    ·
     show aopsR _ _ _ [_] _ _ _
     refine ar_loadp rfl (v := .agg [.int .i64 t.kind, .str t.name, .str t.data, .str t.to]) rfl (wth_get 0 hNb1 rfl) rfl (apartOk_agg rfl rfl (Nat.le_of_ble_eq_true rfl)) rfl ?_
     refine AAny.keep [0, 5, 23, 24] (by decide) ?_
     exact s12 trivial
   have s18 : ∀ (_ : True), A 7 #[false, true, true, true, false, true, false, false, false, false, false] (fun fr m => K1 (fr.keep [5]) m) [(0, .ptr ⟨r, 0, none⟩), (5, .int .i64 ((stepQ s).2)), (22, .ptr ⟨r, 2, none⟩), (24, .agg [.int .i64 t.kind, .str t.name, .str t.data, .str t.to])] (AMem.wth m [(b1, trnObj t), (r, .cells [.slice true ((((stepQ s).1).kept).map fileAV), .slice true ((turnR (((stepQ s).1).now) t).map fileAV), .slice true ((((stepQ s).1).wait).map trnAV), .int .i64 (((stepQ s).1).fuse), .bool (((stepQ s).1).down), .int .i64 (((stepQ s).1).steps)])]) := by
    intro _
    subst hA
    refine AAny.step [23] [0, 4, 6] (by decide +kernel) (by simp) (by decide) ⟨?_, ?_, ?_, trivial⟩
    ·
     show aopsR _ _ _ [_] _ _ _
     refine ⟨trivial, ?_⟩
     refine AAny.keep [5, 19, 22, 24] (by decide) ?_
     exact s10 trivial
    ·
     show aopsR _ _ _ [_] _ _ _
     refine ar_loads rfl (i := 1) rfl hNb1 rfl rfl rfl rfl (Nat.le_of_ble_eq_true rfl) ?_
     refine AAny.keep [0, 5, 23, 24] (by decide) ?_
     exact s12 trivial
    ·
     show aopsR _ _ _ [_] _ _ _
     refine ⟨⟨rfl, Nat.le_of_ble_eq_true rfl, rfl, Nat.le_of_ble_eq_true rfl, rfl, by simp only [List.forall_mem_cons]; exact ⟨⟨rfl, rfl⟩, fun _ h => by cases h⟩⟩, ?_⟩
     refine AAny.keep [0, 5, 22, 25] (by decide) ?_
     exact s13 trivial
   have s19 : ∀ (_ : True), A 7 #[false, true, true, false, false, true, true, false, false, false, false] (fun fr m => K1 (fr.keep [5]) m) [(0, .ptr ⟨r, 0, none⟩), (5, .int .i64 ((stepQ s).2)), (21, .ptr ⟨r, 0, none⟩), (25, .slice true [.agg [.int .i64 t.kind, .str t.name, .str t.data, .str t.to]])] (AMem.wth m [(b1, trnObj t), (r, .cells [.slice true ((((stepQ s).1).kept).map fileAV), .slice true ((turnR (((stepQ s).1).now) t).map fileAV), .slice true ((((stepQ s).1).wait).map trnAV), .int .i64 (((stepQ s).1).fuse), .bool (((stepQ s).1).down), .int .i64 (((stepQ s).1).steps)])]) := by
    intro _
    subst hA
    refine AAny.step [23] [0, 3] (by decide +kernel) (by simp) (by decide) ⟨?_, ?_, trivial⟩
    ·
     show aopsR _ _ _ [_] _ _ _
     refine ⟨trivial, ?_⟩
     refine AAny.keep [5, 19, 21, 25] (by decide) ?_
     exact s11 trivial
    ·
     show aopsR _ _ _ [_] _ _ _
     refine ⟨⟨rfl, by decide⟩, ?_⟩
     refine AAny.keep [0, 5, 22, 25] (by decide) ?_
     exact s13 trivial
   have s20 : ∀ (_ : True), A 8 #[true, true, true, false, false, false, false, false, false, false, false] (fun fr m => K1 (fr.keep [5]) m) [(3, .ptr ⟨b1, 0, none⟩), (5, .int .i64 ((stepQ s).2)), (19, .ptr ⟨r, 0, none⟩), (21, .ptr ⟨r, 0, none⟩)] (AMem.wth m [(b1, trnObj t), (r, .cells [.slice true ((((stepQ s).1).kept).map fileAV), .slice true ((turnR (((stepQ s).1).now) t).map fileAV), .slice true ((((stepQ s).1).wait).map trnAV), .int .i64 (((stepQ s).1).fuse), .bool (((stepQ s).1).down), .int .i64 (((stepQ s).1).steps)])]) := by
    intro _
    subst hA
    refine AAny.step [23] [3, 5] (by decide +kernel) (by simp) (by decide) ⟨?_, ?_, trivial⟩
    ·
     show aopsR _ _ _ [_] _ _ _
     refine ⟨⟨rfl, by decide⟩, ?_⟩
     refine AAny.keep [3, 5, 19, 22] (by decide) ?_
     exact s14 trivial
    ·
     show aopsR _ _ _ [_] _ _ _
     refine ar_loadp rfl (v := .agg [.int .i64 t.kind, .str t.name, .str t.data, .str t.to]) rfl (wth_get 0 hNb1 rfl) rfl (apartOk_agg rfl rfl (Nat.le_of_ble_eq_true rfl)) rfl ?_
     refine AAny.keep [5, 19, 21, 24] (by decide) ?_
     exact s15 trivial
   have s21 : ∀ (_ : True), A 8 #[true, true, false, false, false, true, false, false, false, false, false] (fun fr m => K1 (fr.keep [5]) m) [(5, .int .i64 ((stepQ s).2)), (19, .ptr ⟨r, 0, none⟩), (20, .ptr ⟨r, 0, none⟩), (24, .agg [.int .i64 t.kind, .str t.name, .str t.data, .str t.to])] (AMem.wth m [(b1, trnObj t), (r, .cells [.slice true ((((stepQ s).1).kept).map fileAV), .slice true ((turnR (((stepQ s).1).now) t).map fileAV), .slice true ((((stepQ s).1).wait).map trnAV), .int .i64 (((stepQ s).1).fuse), .bool (((stepQ s).1).down), .int .i64 (((stepQ s).1).steps)])]) := by
    intro _
    subst hA
    refine AAny.step [23] [2, 6] (by decide +kernel) (by simp) (by decide) ⟨?_, ?_, trivial⟩
    ·
     show aopsR _ _ _ [_] _ _ _
     refine ⟨trivial, ?_⟩
     refine AAny.keep [5, 19, 21, 24] (by decide) ?_
     exact s15 trivial
    ·
     show aopsR _ _ _ [_] _ _ _
     refine ⟨⟨rfl, Nat.le_of_ble_eq_true rfl, rfl, Nat.le_of_ble_eq_true rfl, rfl, by simp only [List.forall_mem_cons]; exact ⟨⟨rfl, rfl⟩, fun _ h => by cases h⟩⟩, ?_⟩
     refine AAny.keep [5, 19, 20, 25] (by decide) ?_
     exact s16 trivial
   have s22 : ∀ (_ : True), A 8 #[true, false, false, false, false, true, true, false, false, false, false] (fun fr m => K1 (fr.keep [5]) m) [(0, .ptr ⟨r, 0, none⟩), (5, .int .i64 ((stepQ s).2)), (19, .ptr ⟨r, 0, none⟩), (25, .slice true [.agg [.int .i64 t.kind, .str t.name, .str t.data, .str t.to]])] (AMem.wth m [(b1, trnObj t), (r, .cells [.slice true ((((stepQ s).1).kept).map fileAV), .slice true ((turnR (((stepQ s).1).now) t).map fileAV), .slice true ((((stepQ s).1).wait).map trnAV), .int .i64 (((stepQ s).1).fuse), .bool (((stepQ s).1).down), .int .i64 (((stepQ s).1).steps)])]) := by
    intro _
    subst hA
    refine AAny.step [23] [1] (by decide +kernel) (by simp) (by decide) ⟨?_, trivial⟩
    ·
     show aopsR _ _ _ [_] _ _ _
     refine ⟨trivial, ?_⟩
     refine AAny.keep [5, 19, 20, 25] (by decide) ?_
     exact s16 trivial
   have s23 : ∀ (_ : True), A 8 #[false, true, true, true, false, false, false, false, false, false, false] (fun fr m => K1 (fr.keep [5]) m) [(0, .ptr ⟨r, 0, none⟩), (3, .ptr ⟨b1, 0, none⟩), (5, .int .i64 ((stepQ s).2)), (22, .ptr ⟨r, 2, none⟩)] (AMem.wth m [(b1, trnObj t), (r, .cells [.slice true ((((stepQ s).1).kept).map fileAV), .slice true ((turnR (((stepQ s).1).now) t).map fileAV), .slice true ((((stepQ s).1).wait).map trnAV), .int .i64 (((stepQ s).1).fuse), .bool (((stepQ s).1).down), .int .i64 (((stepQ s).1).steps)])]) := by
    intro _
    subst hA
    refine AAny.step [23] [0, 4, 5] (by decide +kernel) (by simp) (by decide) ⟨?_, ?_, ?_, trivial⟩
    ·
     show aopsR _ _ _ [_] _ _ _
     refine ⟨trivial, ?_⟩
     refine AAny.keep [3, 5, 19, 22] (by decide) ?_
     exact s14 trivial
    ·
     show aopsR _ _ _ [_] _ _ _
     refine ar_loads rfl (i := 1) rfl hNb1 rfl rfl rfl rfl (Nat.le_of_ble_eq_true rfl) ?_
     refine AAny.keep [0, 3, 5, 23] (by decide) ?_
     exact s17 trivial
    ·
     show aopsR _ _ _ [_] _ _ _
     refine ar_loadp rfl (v := .agg [.int .i64 t.kind, .str t.name, .str t.data, .str t.to]) rfl (wth_get 0 hNb1 rfl) rfl (apartOk_agg rfl rfl (Nat.le_of_ble_eq_true rfl)) rfl ?_
     refine AAny.keep [0, 5, 22, 24] (by decide) ?_
     exact s18 trivial
   have s24 : ∀ (_ : True), A 8 #[false, true, true, false, false, true, false, false, false, false, false] (fun fr m => K1 (fr.keep [5]) m) [(0, .ptr ⟨r, 0, none⟩), (5, .int .i64 ((stepQ s).2)), (21, .ptr ⟨r, 0, none⟩), (24, .agg [.int .i64 t.kind, .str t.name, .str t.data, .str t.to])] (AMem.wth m [(b1, trnObj t), (r, .cells [.slice true ((((stepQ s).1).kept).map fileAV), .slice true ((turnR (((stepQ s).1).now) t).map fileAV), .slice true ((((stepQ s).1).wait).map trnAV), .int .i64 (((stepQ s).1).fuse), .bool (((stepQ s).1).down), .int .i64 (((stepQ s).1).steps)])]) := by
    intro _
    subst hA
    refine AAny.step [23] [0, 3, 6] (by decide +kernel) (by simp) (by decide) ⟨?_, ?_, ?_, trivial⟩
    ·
     show aopsR _ _ _ [_] _ _ _
     refine ⟨trivial, ?_⟩
     refine AAny.keep [5, 19, 21, 24] (by decide) ?_
     exact s15 trivial
    ·
     show aopsR _ _ _ [_] _ _ _
     refine ⟨⟨rfl, by decide⟩, ?_⟩
     refine AAny.keep [0, 5, 22, 24] (by decide) ?_
     exact s18 trivial
    ·
     show aopsR _ _ _ [_] _ _ _
     refine ⟨⟨rfl, Nat.le_of_ble_eq_true rfl, rfl, Nat.le_of_ble_eq_true rfl, rfl, by simp only [List.forall_mem_cons]; exact ⟨⟨rfl, rfl⟩, fun _ h => by cases h⟩⟩, ?_⟩
     refine AAny.keep [0, 5, 21, 25] (by decide) ?_
     exact s19 trivial
   have s25 : ∀ (_ : True), A 8 #[false, true, false, false, false, true, true, false, false, false, false] (fun fr m => K1 (fr.keep [5]) m) [(0, .ptr ⟨r, 0, none⟩), (5, .int .i64 ((stepQ s).2)), (20, .ptr ⟨r, 0, none⟩), (25, .slice true [.agg [.int .i64 t.kind, .str t.name, .str t.data, .str t.to]])] (AMem.wth m [(b1, trnObj t), (r, .cells [.slice true ((((stepQ s).1).kept).map fileAV), .slice true ((turnR (((stepQ s).1).now) t).map fileAV), .slice true ((((stepQ s).1).wait).map trnAV), .int .i64 (((stepQ s).1).fuse), .bool (((stepQ s).1).down), .int .i64 (((stepQ s).1).steps)])]) := by
    intro _
    subst hA
    refine AAny.step [23] [0, 2] (by decide +kernel) (by simp) (by decide) ⟨?_, ?_, trivial⟩
    ·
     show aopsR _ _ _ [_] _ _ _
     refine ⟨trivial, ?_⟩
     refine AAny.keep [5, 19, 20, 25] (by decide) ?_
     exact s16 trivial
    ·
     show aopsR _ _ _ [_] _ _ _
     refine ⟨trivial, ?_⟩
     refine AAny.keep [0, 5, 21, 25] (by decide) ?_
     exact s19 trivial
   have s26 : ∀ (_ : True), A 9 #[true, true, false, false, false, false, false, false, false, false, false] (fun fr m => K1 (fr.keep [5]) m) [(3, .ptr ⟨b1, 0, none⟩), (5, .int .i64 ((stepQ s).2)), (19, .ptr ⟨r, 0, none⟩), (20, .ptr ⟨r, 0, none⟩)] (AMem.wth m [(b1, trnObj t), (r, .cells [.slice true ((((stepQ s).1).kept).map fileAV), .slice true ((turnR (((stepQ s).1).now) t).map fileAV), .slice true ((((stepQ s).1).wait).map trnAV), .int .i64 (((stepQ s).1).fuse), .bool (((stepQ s).1).down), .int .i64 (((stepQ s).1).steps)])]) := by
    intro _
    subst hA
    refine AAny.step [23] [2, 5] (by decide +kernel) (by simp) (by decide) ⟨?_, ?_, trivial⟩
    ·
     show aopsR _ _ _ [_] _ _ _
     refine ⟨trivial, ?_⟩
     refine AAny.keep [3, 5, 19, 21] (by decide) ?_
     exact s20 trivial
    ·
     show aopsR _ _ _ [_] _ _ _
     refine ar_loadp rfl (v := .agg [.int .i64 t.kind, .str t.name, .str t.data, .str t.to]) rfl (wth_get 0 hNb1 rfl) rfl (apartOk_agg rfl rfl (Nat.le_of_ble_eq_true rfl)) rfl ?_
     refine AAny.keep [5, 19, 20, 24] (by decide) ?_
     exact s21 trivial
   have s27 : ∀ (_ : True), A 9 #[true, false, false, false, false, true, false, false, false, false, false] (fun fr m => K1 (fr.keep [5]) m) [(0, .ptr ⟨r, 0, none⟩), (5, .int .i64 ((stepQ s).2)), (19, .ptr ⟨r, 0, none⟩), (24, .agg [.int .i64 t.kind, .str t.name, .str t.data, .str t.to])] (AMem.wth m [(b1, trnObj t), (r, .cells [.slice true ((((stepQ s).1).kept).map fileAV), .slice true ((turnR (((stepQ s).1).now) t).map fileAV), .slice true ((((stepQ s).1).wait).map trnAV), .int .i64 (((stepQ s).1).fuse), .bool (((stepQ s).1).down), .int .i64 (((stepQ s).1).steps)])]) := by
    intro _
    subst hA
    refine AAny.step [23] [1, 6] (by decide +kernel) (by simp) (by decide) ⟨?_, ?_, trivial⟩
    ·
     show aopsR _ _ _ [_] _ _ _
     refine ⟨trivial, ?_⟩
     refine AAny.keep [5, 19, 20, 24] (by decide) ?_
     exact s21 trivial
    ·
     show aopsR _ _ _ [_] _ _ _
     refine ⟨⟨rfl, Nat.le_of_ble_eq_true rfl, rfl, Nat.le_of_ble_eq_true rfl, rfl, by simp only [List.forall_mem_cons]; exact ⟨⟨rfl, rfl⟩, fun _ h => by cases h⟩⟩, ?_⟩
     refine AAny.keep [0, 5, 19, 25] (by decide) ?_
     exact s22 trivial
   have s28 : ∀ (_ : True), A 9 #[false, true, true, false, false, false, false, false, false, false, false] (fun fr m => K1 (fr.keep [5]) m) [(0, .ptr ⟨r, 0, none⟩), (3, .ptr ⟨b1, 0, none⟩), (5, .int .i64 ((stepQ s).2)), (21, .ptr ⟨r, 0, none⟩)] (AMem.wth m [(b1, trnObj t), (r, .cells [.slice true ((((stepQ s).1).kept).map fileAV), .slice true ((turnR (((stepQ s).1).now) t).map fileAV), .slice true ((((stepQ s).1).wait).map trnAV), .int .i64 (((stepQ s).1).fuse), .bool (((stepQ s).1).down), .int .i64 (((stepQ s).1).steps)])]) := by
    intro _
    subst hA
    refine AAny.step [23] [0, 3, 5] (by decide +kernel) (by simp) (by decide) ⟨?_, ?_, ?_, trivial⟩
    ·
     show aopsR _ _ _ [_] _ _ _
     refine ⟨trivial, ?_⟩
     refine AAny.keep [3, 5, 19, 21] (by decide) ?_
     exact s20 trivial
    ·
     show aopsR _ _ _ [_] _ _ _
     refine ⟨⟨rfl, by decide⟩, ?_⟩
     refine AAny.keep [0, 3, 5, 22] (by decide) ?_
     exact s23 trivial
    ·
     show aopsR _ _ _ [_] _ _ _
     refine ar_loadp rfl (v := .agg [.int .i64 t.kind, .str t.name, .str t.data, .str t.to]) rfl (wth_get 0 hNb1 rfl) rfl (apartOk_agg rfl rfl (Nat.le_of_ble_eq_true rfl)) rfl ?_
     refine AAny.keep [0, 5, 21, 24] (by decide) ?_
     exact s24 trivial
   have s29 : ∀ (_ : True), A 9 #[false, true, false, false, false, true, false, false, false, false, false] (fun fr m => K1 (fr.keep [5]) m) [(0, .ptr ⟨r, 0, none⟩), (5, .int .i64 ((stepQ s).2)), (20, .ptr ⟨r, 0, none⟩), (24, .agg [.int .i64 t.kind, .str t.name, .str t.data, .str t.to])] (AMem.wth m [(b1, trnObj t), (r, .cells [.slice true ((((stepQ s).1).kept).map fileAV), .slice true ((turnR (((stepQ s).1).now) t).map fileAV), .slice true ((((stepQ s).1).wait).map trnAV), .int .i64 (((stepQ s).1).fuse), .bool (((stepQ s).1).down), .int .i64 (((stepQ s).1).steps)])]) := by
    intro _
    subst hA
    refine AAny.step [23] [0, 2, 6] (by decide +kernel) (by simp) (by decide) ⟨?_, ?_, ?_, trivial⟩
    ·
     show aopsR _ _ _ [_] _ _ _
     refine ⟨trivial, ?_⟩
     refine AAny.keep [5, 19, 20, 24] (by decide) ?_
     exact s21 trivial
    ·
     show aopsR _ _ _ [_] _ _ _
     refine ⟨trivial, ?_⟩
     refine AAny.keep [0, 5, 21, 24] (by decide) ?_
     exact s24 trivial
    ·
     show aopsR _ _ _ [_] _ _ _
     refine ⟨⟨rfl, Nat.le_of_ble_eq_true rfl, rfl, Nat.le_of_ble_eq_true rfl, rfl, by simp only [List.forall_mem_cons]; exact ⟨⟨rfl, rfl⟩, fun _ h => by cases h⟩⟩, ?_⟩
     refine AAny.keep [0, 5, 20, 25] (by decide) ?_
     exact s25 trivial
   have s30 : ∀ (_ : True), A 9 #[false, false, false, false, false, true, true, false, false, false, false] (fun fr m => K1 (fr.keep [5]) m) [(0, .ptr ⟨r, 0, none⟩), (5, .int .i64 ((stepQ s).2)), (25, .slice true [.agg [.int .i64 t.kind, .str t.name, .str t.data, .str t.to]])] (AMem.wth m [(b1, trnObj t), (r, .cells [.slice true ((((stepQ s).1).kept).map fileAV), .slice true ((turnR (((stepQ s).1).now) t).map fileAV), .slice true ((((stepQ s).1).wait).map trnAV), .int .i64 (((stepQ s).1).fuse), .bool (((stepQ s).1).down), .int .i64 (((stepQ s).1).steps)])]) := by
    intro _
    subst hA
    refine AAny.step [23] [0, 1] (by decide +kernel) (by simp) (by decide) ⟨?_, ?_, trivial⟩
    ·
     show aopsR _ _ _ [_] _ _ _
     refine ⟨trivial, ?_⟩
     refine AAny.keep [0, 5, 19, 25] (by decide) ?_
     exact s22 trivial
    ·
     show aopsR _ _ _ [_] _ _ _
     refine ⟨trivial, ?_⟩
     refine AAny.keep [0, 5, 20, 25] (by decide) ?_
     exact s25 trivial
   have s31 : ∀ (_ : True), A 10 #[true, false, false, false, false, false, false, false, false, false, false] (fun fr m => K1 (fr.keep [5]) m) [(0, .ptr ⟨r, 0, none⟩), (3, .ptr ⟨b1, 0, none⟩), (5, .int .i64 ((stepQ s).2)), (19, .ptr ⟨r, 0, none⟩)] (AMem.wth m [(b1, trnObj t), (r, .cells [.slice true ((((stepQ s).1).kept).map fileAV), .slice true ((turnR (((stepQ s).1).now) t).map fileAV), .slice true ((((stepQ s).1).wait).map trnAV), .int .i64 (((stepQ s).1).fuse), .bool (((stepQ s).1).down), .int .i64 (((stepQ s).1).steps)])]) := by
    intro _
    subst hA
    refine AAny.step [23] [1, 5] (by decide +kernel) (by simp) (by decide) ⟨?_, ?_, trivial⟩
    ·
     show aopsR _ _ _ [_] _ _ _
     refine ⟨trivial, ?_⟩
     refine AAny.keep [3, 5, 19, 20] (by decide) ?_
     exact s26 trivial
    ·
     show aopsR _ _ _ [_] _ _ _
     refine ar_loadp rfl (v := .agg [.int .i64 t.kind, .str t.name, .str t.data, .str t.to]) rfl (wth_get 0 hNb1 rfl) rfl (apartOk_agg rfl rfl (Nat.le_of_ble_eq_true rfl)) rfl ?_
     refine AAny.keep [0, 5, 19, 24] (by decide) ?_
     exact s27 trivial
   have s32 : ∀ (_ : True), A 10 #[false, true, false, false, false, false, false, false, false, false, false] (fun fr m => K1 (fr.keep [5]) m) [(0, .ptr ⟨r, 0, none⟩), (3, .ptr ⟨b1, 0, none⟩), (5, .int .i64 ((stepQ s).2)), (20, .ptr ⟨r, 0, none⟩)] (AMem.wth m [(b1, trnObj t), (r, .cells [.slice true ((((stepQ s).1).kept).map fileAV), .slice true ((turnR (((stepQ s).1).now) t).map fileAV), .slice true ((((stepQ s).1).wait).map trnAV), .int .i64 (((stepQ s).1).fuse), .bool (((stepQ s).1).down), .int .i64 (((stepQ s).1).steps)])]) := by
    intro _
    subst hA
    refine AAny.step [23] [0, 2, 5] (by decide +kernel) (by simp) (by decide) ⟨?_, ?_, ?_, trivial⟩
    ·
     show aopsR _ _ _ [_] _ _ _
     refine ⟨trivial, ?_⟩
     refine AAny.keep [3, 5, 19, 20] (by decide) ?_
     exact s26 trivial
    ·
     show aopsR _ _ _ [_] _ _ _
     refine ⟨trivial, ?_⟩
     refine AAny.keep [0, 3, 5, 21] (by decide) ?_
     exact s28 trivial
    ·
     show aopsR _ _ _ [_] _ _ _
     refine ar_loadp rfl (v := .agg [.int .i64 t.kind, .str t.name, .str t.data, .str t.to]) rfl (wth_get 0 hNb1 rfl) rfl (apartOk_agg rfl rfl (Nat.le_of_ble_eq_true rfl)) rfl ?_
     refine AAny.keep [0, 5, 20, 24] (by decide) ?_
     exact s29 trivial
   have s33 : ∀ (_ : True), A 10 #[false, false, false, false, false, true, false, false, false, false, false] (fun fr m => K1 (fr.keep [5]) m) [(0, .ptr ⟨r, 0, none⟩), (5, .int .i64 ((stepQ s).2)), (24, .agg [.int .i64 t.kind, .str t.name, .str t.data, .str t.to])] (AMem.wth m [(b1, trnObj t), (r, .cells [.slice true ((((stepQ s).1).kept).map fileAV), .slice true ((turnR (((stepQ s).1).now) t).map fileAV), .slice true ((((stepQ s).1).wait).map trnAV), .int .i64 (((stepQ s).1).fuse), .bool (((stepQ s).1).down), .int .i64 (((stepQ s).1).steps)])]) := by
    intro _
    subst hA
    refine AAny.step [23] [0, 1, 6] (by decide +kernel) (by simp) (by decide) ⟨?_, ?_, ?_, trivial⟩
    ·
     show aopsR _ _ _ [_] _ _ _
     refine ⟨trivial, ?_⟩
     refine AAny.keep [0, 5, 19, 24] (by decide) ?_
     exact s27 trivial
    ·
     show aopsR _ _ _ [_] _ _ _
     refine ⟨trivial, ?_⟩
     refine AAny.keep [0, 5, 20, 24] (by decide) ?_
     exact s29 trivial
    ·
     show aopsR _ _ _ [_] _ _ _
     refine ⟨⟨rfl, Nat.le_of_ble_eq_true rfl, rfl, Nat.le_of_ble_eq_true rfl, rfl, by simp only [List.forall_mem_cons]; exact ⟨⟨rfl, rfl⟩, fun _ h => by cases h⟩⟩, ?_⟩
     refine AAny.keep [0, 5, 25] (by decide) ?_
     exact s30 trivial
   have s34 : ∀ (_ : True), A 11 #[false, false, false, false, false, false, false, false, false, false, false] (fun fr m => K1 (fr.keep [5]) m) [(0, .ptr ⟨r, 0, none⟩), (3, .ptr ⟨b1, 0, none⟩), (5, .int .i64 ((stepQ s).2))] (AMem.wth m [(b1, trnObj t), (r, .cells [.slice true ((((stepQ s).1).kept).map fileAV), .slice true ((turnR (((stepQ s).1).now) t).map fileAV), .slice true ((((stepQ s).1).wait).map trnAV), .int .i64 (((stepQ s).1).fuse), .bool (((stepQ s).1).down), .int .i64 (((stepQ s).1).steps)])]) := by
    intro _
    subst hA
    refine AAny.step [23] [0, 1, 5] (by decide +kernel) (by simp) (by decide) ⟨?_, ?_, ?_, trivial⟩
    ·
     show aopsR _ _ _ [_] _ _ _
     refine ⟨trivial, ?_⟩
     refine AAny.keep [0, 3, 5, 19] (by decide) ?_
     exact s31 trivial
    ·
     show aopsR _ _ _ [_] _ _ _
     refine ⟨trivial, ?_⟩
     refine AAny.keep [0, 3, 5, 20] (by decide) ?_
     exact s32 trivial
    ·
     show aopsR _ _ _ [_] _ _ _
     refine ar_loadp rfl (v := .agg [.int .i64 t.kind, .str t.name, .str t.data, .str t.to]) rfl (wth_get 0 hNb1 rfl) rfl (apartOk_agg rfl rfl (Nat.le_of_ble_eq_true rfl)) rfl ?_
     refine AAny.keep [0, 5, 24] (by decide) ?_
     exact s33 trivial
   exact s34 trivial
  intro _
  refine hK1 _ _ ?_; clear hK1 K1
  refine hK2 _ _ ?_; clear hK2
  refine awp_reg2_seq [] [4] (by decide) ?_
  intro K1 hK1
  refine ⟨trivial, trivial, ?_⟩
  show K1 [(4, .int .i64 ((stepQ s).2))] (AMem.wth m [(b1, trnObj t), (r, .cells [.slice true ((((stepQ s).1).kept).map fileAV), .slice true ((turnR (((stepQ s).1).now) t).map fileAV), .slice true (((((stepQ s).1).wait) ++ ([t] : List Trn)).map trnAV), .int .i64 (((stepQ s).1).fuse), .bool (((stepQ s).1).down), .int .i64 (((stepQ s).1).steps)])])
  refine hK1 _ _ ?_; clear hK1 K1
  refine awp_ret ?_
  refine ⟨trivial, (AMem.wth m [(r, .cells [.slice true ((((stepQ s).1).kept).map fileAV), .slice true ((turnR (((stepQ s).1).now) t).map fileAV), .slice true (((((stepQ s).1).wait) ++ ([t] : List Trn)).map trnAV), .int .i64 (((stepQ s).1).fuse), .bool (((stepQ s).1).down), .int .i64 (((stepQ s).1).steps)])]), (wth_sub2 (m := m) [(b1, trnObj t)] [(r, .cells [.slice true ((((stepQ s).1).kept).map fileAV), .slice true ((turnR (((stepQ s).1).now) t).map fileAV), .slice true (((((stepQ s).1).wait) ++ ([t] : List Trn)).map trnAV), .int .i64 (((stepQ s).1).fuse), .bool (((stepQ s).1).down), .int .i64 (((stepQ s).1).steps)])] hNb1 (by simp only [List.map_cons, List.map_nil, List.forall_mem_cons]; exact ⟨hFb1, fun _ h => by cases h⟩)), ?_⟩
  show K (.int .i64 ((stepQ s).2)) (AMem.wth m [(r, .cells [.slice true ((((stepQ s).1).kept).map fileAV), .slice true ((turnR (((stepQ s).1).now) t).map fileAV), .slice true (((((stepQ s).1).wait) ++ ([t] : List Trn)).map trnAV), .int .i64 (((stepQ s).1).fuse), .bool (((stepQ s).1).down), .int .i64 (((stepQ s).1).steps)])])
 
  have e0 : doQ s t = (((⟨((stepQ s).1).kept, turnR (((stepQ s).1).now) t, (((stepQ s).1).wait) ++ ([t] : List Trn), ((stepQ s).1).fuse, (((stepQ s).1).down), ((stepQ s).1).steps⟩ : RSt), (stepQ s).2) : RSt × Int) := by
   first | (rw [doQ, if_pos (by assumption)]; simp only [hk.1, hk.2.1, hk.2.2.1]; done) | (rw [doQ, if_neg (by assumption)]; done)
  rw [e0] at hK
  exact hK
 replace h1 : (stepQ s).2 ≠ 0 := (ne_of_beq_false h1)
 refine awp_skip ?_
 refine hK2 _ _ ?_; clear hK2
 refine awp_reg2_seq [] [4] (by decide) ?_
 intro K1 hK1
 refine ⟨trivial, trivial, ?_⟩
 show K1 [(4, .int .i64 ((stepQ s).2))] (AMem.wth m [(b1, trnObj t), (r, rObj ((stepQ s).1))])
 refine hK1 _ _ ?_; clear hK1 K1
 refine awp_ret ?_
 refine ⟨trivial, (AMem.wth m [(r, rObj ((stepQ s).1))]), (wth_sub2 (m := m) [(b1, trnObj t)] [(r, rObj ((stepQ s).1))] hNb1 (by simp only [List.map_cons, List.map_nil, List.forall_mem_cons]; exact ⟨hFb1, fun _ h => by cases h⟩)), ?_⟩
 show K (.int .i64 ((stepQ s).2)) (AMem.wth m [(r, rObj ((stepQ s).1))])

 have e0 : doQ s t = ((((stepQ s).1), (stepQ s).2) : RSt × Int) := by
  first | (rw [doQ, if_pos (by assumption)]; simp only [hk.1, hk.2.1, hk.2.2.1]; done) | (rw [doQ, if_neg (by assumption)]; done)
 rw [e0] at hK
 exact hK

set_option maxHeartbeats 2000000 in
theorem u_FileMay (s : Str) (hs : s.length ≤ 140737488355328) (m : AMem)  (K : AV → AMem → Prop) (hK : K (.bool (nameF s)) m) : ACalls Try.prog 41 [.str s] m K := by
 refine acalls_enter Try.func41 rfl (by decide) (Nat.le_of_ble_eq_true rfl) ?_
 show AWP _ _ _ _ [(0, .str s)] m
 refine awp_reg2_seq [] [0] (by decide) ?_
 intro K1 hK1
 refine ⟨trivial, ?_⟩
 show K1 [(0, .str s)] m
 refine hK1 _ _ ?_; clear hK1 K1
 refine awp_seq_k ?_; intro K2 hK2
 refine awp_reg2_seq [] [0, 3] (by decide) ?_
 intro K1 hK1
 refine ⟨trivial, ?_⟩
 show K1 [(0, .str s), (3, .int .i64 0)] m
 refine hK1 _ _ ?_; clear hK1 K1
 refine awp_block ?_
 refine awp_keep [0, 3] (by decide) ?_
 refine awp_loop_st (σ := Int) (fun i => [(0, .str s), (3, .int .i64 i)]) (fun _ => m) (fun i => 0 ≤ i ∧ i ≤ s.length ∧ (s.take i.toNat).all nameC = true) (fun i => s.length - i.toNat) (0) rfl rfl ?_ ?_
 ·
  show 0 ≤ ((0 : Int)) ∧ ((0 : Int)) ≤ s.length ∧ (s.take ((0 : Int)).toNat).all nameC = true
  exact ⟨by omega, by omega, by simp⟩
 rintro i hI
 replace hI : 0 ≤ i ∧ i ≤ s.length ∧ (s.take i.toNat).all nameC = true := hI
 show AWP _ _ _ _ [(0, .str s), (3, .int .i64 i)] m
 refine awp_seq_k ?_; intro K3 hK3
 refine awp_reg2_seq [] [0, 3, 8] (by decide) ?_
 intro K1 hK1
 refine ⟨trivial, trivial, trivial, trivial, ?_⟩
 show K1 [(0, .str s), (3, .int .i64 i), (8, .bool (decide (i < (s.length : Int))))] m
 refine hK1 _ _ ?_; clear hK1 K1
 refine awp_cond rfl rfl (fun h1 => ?_) (fun h1 => ?_)
 ·
  replace h1 : i < (s.length : Int) := (of_decide_eq_true h1)
  refine awp_skip ?_
  refine hK3 _ _ ?_; clear hK3
  refine awp_seq_k ?_; intro K4 hK4
  refine awp_block ?_
  refine awp_reg2_seq [] [0, 3, 4] (by decide) ?_
  intro K1 hK1
  refine ⟨trivial, trivial, ⟨(by omega), (by omega)⟩, trivial, ?_⟩
  show K1 [(0, .str s), (3, .int .i64 i), (4, .int .u8 ((gI s i).toNat))] m
  refine hK1 _ _ ?_; clear hK1 K1
  refine awp_reg2_seq [] [0, 3, 32] (by decide) ?_
  intro K1 hK1
  suffices key : K1 [(0, .str s), (3, .int .i64 i), (32, .bool (!((((decide (97 ≤ ((gI s i).toNat : Int))) && (decide (((gI s i).toNat : Int) ≤ 122))) || ((decide (48 ≤ ((gI s i).toNat : Int))) && (decide (((gI s i).toNat : Int) ≤ 57)))) || (((gI s i).toNat : Int) == 46))))] m by
   refine ⟨trivial, trivial, trivial, ?_⟩
   show aopsR _ _ _ _ _ [(16, .bool (decide (97 ≤ ((gI s i).toNat : Int)))), (15, .bool (decide (97 ≤ ((gI s i).toNat : Int)))), (14, .int .u8 ((gI s i).toNat)), (0, .str s), (3, .int .i64 i), (4, .int .u8 ((gI s i).toNat))] _
   revert key
   cases h2 : (decide (97 ≤ ((gI s i).toNat : Int)))
   ·
    replace h2 : ((gI s i).toNat : Int) < 97 := (Int.not_le.1 (of_decide_eq_false h2))
    intro key
    refine ar_off rfl (ar_off rfl ?_)
    refine ⟨trivial, trivial, trivial, trivial, ?_⟩
    show aopsR _ _ _ _ _ [(23, .bool (decide (48 ≤ ((gI s i).toNat : Int)))), (22, .bool (decide (48 ≤ ((gI s i).toNat : Int)))), (21, .int .u8 ((gI s i).toNat)), (20, .bool false), (19, .bool false), (18, .lazy false (.junk)), (17, .lazy false (.junk)), (16, .bool false), (15, .bool false), (14, .int .u8 ((gI s i).toNat)), (0, .str s), (3, .int .i64 i), (4, .int .u8 ((gI s i).toNat))] _
    revert key
    cases h3 : (decide (48 ≤ ((gI s i).toNat : Int)))
    ·
     replace h3 : ((gI s i).toNat : Int) < 48 := (Int.not_le.1 (of_decide_eq_false h3))
     intro key
     refine ar_off rfl (ar_off rfl ?_)
     refine ⟨trivial, trivial, trivial, ?_⟩
     refine ⟨trivial, ?_⟩
     exact key
    ·
     replace h3 : 48 ≤ ((gI s i).toNat : Int) := (of_decide_eq_true h3)
     intro key
     refine ⟨trivial, trivial, ?_⟩
     refine ⟨trivial, ?_⟩
     show aopsR _ _ _ _ _ [(28, .bool (decide (((gI s i).toNat : Int) ≤ 57))), (27, .bool (decide (((gI s i).toNat : Int) ≤ 57))), (26, .bool (decide (((gI s i).toNat : Int) ≤ 57))), (25, .bool (decide (((gI s i).toNat : Int) ≤ 57))), (24, .int .u8 ((gI s i).toNat)), (23, .bool true), (22, .bool true), (21, .int .u8 ((gI s i).toNat)), (20, .bool false), (19, .bool false), (18, .lazy false (.junk)), (17, .lazy false (.junk)), (16, .bool false), (15, .bool false), (14, .int .u8 ((gI s i).toNat)), (0, .str s), (3, .int .i64 i), (4, .int .u8 ((gI s i).toNat))] _
     revert key
     cases h4 : (decide (((gI s i).toNat : Int) ≤ 57))
     ·
      replace h4 : 57 < ((gI s i).toNat : Int) := (Int.not_le.1 (of_decide_eq_false h4))
      intro key
      refine ⟨trivial, trivial, ?_⟩
      refine ⟨trivial, ?_⟩
      exact key
     ·
      replace h4 : ((gI s i).toNat : Int) ≤ 57 := (of_decide_eq_true h4)
      intro key
      refine ar_off rfl (ar_off rfl ?_)
      refine ⟨trivial, ?_⟩
      exact key
   ·
    replace h2 : 97 ≤ ((gI s i).toNat : Int) := (of_decide_eq_true h2)
    intro key
    refine ⟨trivial, trivial, ?_⟩
    refine ⟨trivial, ?_⟩
    show aopsR _ _ _ _ _ [(20, .bool (decide (((gI s i).toNat : Int) ≤ 122))), (19, .bool (decide (((gI s i).toNat : Int) ≤ 122))), (18, .bool (decide (((gI s i).toNat : Int) ≤ 122))), (17, .int .u8 ((gI s i).toNat)), (16, .bool true), (15, .bool true), (14, .int .u8 ((gI s i).toNat)), (0, .str s), (3, .int .i64 i), (4, .int .u8 ((gI s i).toNat))] _
    revert key
    cases h5 : (decide (((gI s i).toNat : Int) ≤ 122))
    ·
     replace h5 : 122 < ((gI s i).toNat : Int) := (Int.not_le.1 (of_decide_eq_false h5))
     intro key
     refine ⟨trivial, trivial, trivial, ?_⟩
     show aopsR _ _ _ _ _ [(23, .bool (decide (48 ≤ ((gI s i).toNat : Int)))), (22, .bool (decide (48 ≤ ((gI s i).toNat : Int)))), (21, .int .u8 ((gI s i).toNat)), (20, .bool false), (19, .bool false), (18, .bool false), (17, .int .u8 ((gI s i).toNat)), (16, .bool true), (15, .bool true), (14, .int .u8 ((gI s i).toNat)), (0, .str s), (3, .int .i64 i), (4, .int .u8 ((gI s i).toNat))] _
     revert key
     cases h6 : (decide (48 ≤ ((gI s i).toNat : Int)))
     ·
      replace h6 : ((gI s i).toNat : Int) < 48 := (Int.not_le.1 (of_decide_eq_false h6))
      intro key
      refine ar_off rfl (ar_off rfl ?_)
      refine ⟨trivial, trivial, trivial, ?_⟩
      refine ⟨trivial, ?_⟩
      exact key
     ·
      replace h6 : 48 ≤ ((gI s i).toNat : Int) := (of_decide_eq_true h6)
      intro key
      refine ⟨trivial, trivial, ?_⟩
      refine ⟨trivial, ?_⟩
      show aopsR _ _ _ _ _ [(28, .bool (decide (((gI s i).toNat : Int) ≤ 57))), (27, .bool (decide (((gI s i).toNat : Int) ≤ 57))), (26, .bool (decide (((gI s i).toNat : Int) ≤ 57))), (25, .bool (decide (((gI s i).toNat : Int) ≤ 57))), (24, .int .u8 ((gI s i).toNat)), (23, .bool true), (22, .bool true), (21, .int .u8 ((gI s i).toNat)), (20, .bool false), (19, .bool false), (18, .bool false), (17, .int .u8 ((gI s i).toNat)), (16, .bool true), (15, .bool true), (14, .int .u8 ((gI s i).toNat)), (0, .str s), (3, .int .i64 i), (4, .int .u8 ((gI s i).toNat))] _
      revert key
      cases h7 : (decide (((gI s i).toNat : Int) ≤ 57))
      ·
       replace h7 : 57 < ((gI s i).toNat : Int) := (Int.not_le.1 (of_decide_eq_false h7))
       intro key
       refine ⟨trivial, trivial, ?_⟩
       refine ⟨trivial, ?_⟩
       exact key
      ·
       replace h7 : ((gI s i).toNat : Int) ≤ 57 := (of_decide_eq_true h7)
       intro key
       refine ar_off rfl (ar_off rfl ?_)
       refine ⟨trivial, ?_⟩
       exact key
    ·
     replace h5 : ((gI s i).toNat : Int) ≤ 122 := (of_decide_eq_true h5)
     intro key
     refine ar_off rfl (ar_off rfl (ar_off rfl (ar_off rfl (ar_off rfl (ar_off rfl ?_)))))
     refine ⟨trivial, ?_⟩
     refine ar_off rfl (ar_off rfl ?_)
     refine ⟨trivial, ?_⟩
     exact key
  refine hK1 _ _ ?_; clear hK1 K1
  refine awp_cond rfl rfl (fun h8 => ?_) (fun h8 => ?_)
  ·
   replace h8 : (((((gI s i).toNat : Int) < 97) ∨ (122 < ((gI s i).toNat : Int))) ∧ ((((gI s i).toNat : Int) < 48) ∨ (57 < ((gI s i).toNat : Int)))) ∧ (((gI s i).toNat : Int) ≠ 46) := ⟨⟨((bandF (borL (borL (bnT h8)))).imp (fun q => (Int.not_le.1 (of_decide_eq_false q))) (fun q => (Int.not_le.1 (of_decide_eq_false q)))), ((bandF (borR (borL (bnT h8)))).imp (fun q => (Int.not_le.1 (of_decide_eq_false q))) (fun q => (Int.not_le.1 (of_decide_eq_false q))))⟩, (ne_of_beq_false (borR (bnT h8)))⟩
   refine awp_reg2_seq [] [2] (by decide) ?_
   intro K1 hK1
   refine ⟨trivial, ?_⟩
   show K1 [(2, .bool false)] m
   refine hK1 _ _ ?_; clear hK1 K1
   refine awp_ret ?_
   refine ⟨trivial, m, fun _ _ h => h, ?_⟩
   show K (.bool false) m
  
   refine K_eq hK (congrArg AV.bool ?_)
   have hb : nameC (gI s i) = false := by
    rw [Bool.eq_false_iff]; intro hh; simp [nameC] at hh; omega
   have ha : s.all nameC = false := by
    rw [Bool.eq_false_iff]; intro hh
    have := List.all_eq_true.1 hh _ (gI_mem hI.1 h1)
    rw [hb] at this; cases this
   rw [nameF, ha]; rfl
  replace h8 : (((97 ≤ ((gI s i).toNat : Int)) ∧ (((gI s i).toNat : Int) ≤ 122)) ∨ ((48 ≤ ((gI s i).toNat : Int)) ∧ (((gI s i).toNat : Int) ≤ 57))) ∨ (((gI s i).toNat : Int) = 46) := ((borT (bnF h8)).imp (fun q => ((borT q).imp (fun q => ⟨(of_decide_eq_true (bandL q)), (of_decide_eq_true (bandR q))⟩) (fun q => ⟨(of_decide_eq_true (bandL q)), (of_decide_eq_true (bandR q))⟩))) (fun q => (eq_of_beq q)))
  refine awp_skip ?_
  refine hK4 _ _ ?_; clear hK4
  refine awp_reg2 [] [0, 3] (by decide) ?_
  intro K1 hK1
  refine ⟨trivial, ?_⟩
  refine ar_add rfl (a := i) (b := 1) rfl rfl (by omega) (by omega) ?_
  refine ⟨trivial, ?_⟩
  show K1 [(0, .str s), (3, .int .i64 (i + 1))] m
  refine hK1 _ _ ?_; clear hK1 K1
  refine ⟨(i + 1), rfl, rfl, ?_, ?_⟩
  ·
   show 0 ≤ ((i + 1 : Int)) ∧ ((i + 1 : Int)) ≤ s.length ∧ (s.take ((i + 1 : Int)).toNat).all nameC = true
   have hb : nameC (gI s i) = true := by simp [nameC]; omega
   exact ⟨by omega, by omega, by rw [all_snoc hI.1 h1, hI.2.2, hb]; rfl⟩
  ·
   show s.length - ((i + 1 : Int)).toNat < s.length - i.toNat
   omega
 replace h1 : (s.length : Int) ≤ i := (Int.not_lt.1 (of_decide_eq_false h1))
 refine awp_exit ?_
 refine hK2 _ _ ?_; clear hK2
 refine awp_reg2_seq [] [2] (by decide) ?_
 intro K1 hK1
 suffices key : K1 [(2, .bool ((decide (0 < (s.length : Int))) && (decide ((s.length : Int) ≤ 24))))] m by
  refine ⟨trivial, trivial, trivial, trivial, ?_⟩
  show aopsR _ _ _ _ _ [(36, .bool (decide (0 < (s.length : Int)))), (35, .bool (decide (0 < (s.length : Int)))), (34, .int .i64 (s.length : Int)), (33, .str s), (0, .str s), (3, .int .i64 i), (8, .bool (decide (i < (s.length : Int))))] _
  revert key
  cases h9 : (decide (0 < (s.length : Int)))
  ·
   replace h9 : (s.length : Int) ≤ 0 := (Int.not_lt.1 (of_decide_eq_false h9))
   intro key
   refine ar_off rfl (ar_off rfl (ar_off rfl ?_))
   refine ⟨trivial, ?_⟩
   exact key
  ·
   replace h9 : 0 < (s.length : Int) := (of_decide_eq_true h9)
   intro key
   refine ⟨trivial, trivial, trivial, ?_⟩
   refine ⟨trivial, ?_⟩
   exact key
 refine hK1 _ _ ?_; clear hK1 K1
 refine awp_ret ?_
 refine ⟨trivial, m, fun _ _ h => h, ?_⟩
 show K (.bool ((decide (0 < (s.length : Int))) && (decide ((s.length : Int) ≤ 24)))) m

 refine K_eq hK (congrArg AV.bool ?_)
 have ha : s.all nameC = true := by have := hI.2.2; rwa [take_full (by omega)] at this
 rw [nameF, ha]; cases s <;> simp

set_option maxHeartbeats 4000000 in
theorem u_QPut (r : Nat) (s : RSt) (how : Int) (name data : Str) (hR : RInv 0 s) (hn : name.length ≤ 140737488355328) (hd : data.length ≤ 140737488355328) (m : AMem)  (K : AV → AMem → Prop) (hK : K (.int .i64 (putQ s how name data).2) (AMem.wth m [(r, rObj (putQ s how name data).1)])) : ACalls Try.prog 25 [.ptr ⟨r, 0, none⟩, .int .i64 how, .str name, .str data] (AMem.wth m [(r, rObj s)]) K := by
 have hnl := hR.nl
 have hgl := mget_le (k := name) hR.nb
 refine acalls_enter Try.func25 rfl (by decide) (Nat.le_of_ble_eq_true rfl) ?_
 show AWP _ _ _ _ [(0, .ptr ⟨r, 0, none⟩), (1, .int .i64 how), (2, .str name), (3, .str data)] (AMem.wth m [(r, rObj s)])
 refine awp_reg2_seq [] [0, 1, 2, 3] (by decide) ?_
 intro K1 hK1
 refine ⟨trivial, ?_⟩
 show K1 [(0, .ptr ⟨r, 0, none⟩), (1, .int .i64 how), (2, .str name), (3, .str data)] (AMem.wth m [(r, rObj s)])
 refine hK1 _ _ ?_; clear hK1 K1
 refine awp_reg2_seq [] [0, 1, 2, 3, 9] (by decide) ?_
 intro K1 hK1
 refine ⟨trivial, trivial, ⟨rfl, by decide⟩, ?_⟩
 refine ar_loadp rfl (v := .slice false (s.now.map fileAV)) rfl (wth_get 0 (nodup_1 r) rfl) rfl (apartOk_one rfl rfl (Nat.le_of_ble_eq_true rfl)) rfl ?_
 refine ⟨trivial, ?_⟩
 refine u_Has s.now name _ _ ?_
 refine ⟨trivial, ?_⟩
 show K1 [(0, .ptr ⟨r, 0, none⟩), (1, .int .i64 how), (2, .str name), (3, .str data), (9, .int .i64 (hasR s.now name))] (AMem.wth m [(r, rObj s)])
 refine hK1 _ _ ?_; clear hK1 K1
 refine awp_seq_k ?_; intro K2 hK2
 refine awp_reg2_seq [] [0, 1, 2, 3, 9, 24] (by decide) ?_
 intro K1 hK1
 suffices key : K1 [(0, .ptr ⟨r, 0, none⟩), (1, .int .i64 how), (2, .str name), (3, .str data), (9, .int .i64 (hasR s.now name)), (24, .bool ((how == 2) && (decide (4000 < (data.length : Int)))))] (AMem.wth m [(r, rObj s)]) by
  refine ⟨trivial, trivial, trivial, ?_⟩
  show aopsR _ _ _ _ _ [(20, .bool (how == 2)), (19, .bool (how == 2)), (18, .int .i64 how), (0, .ptr ⟨r, 0, none⟩), (1, .int .i64 how), (2, .str name), (3, .str data), (9, .int .i64 (hasR s.now name))] _
  revert key
  cases h1 : (how == 2)
  ·
   replace h1 : how ≠ 2 := (ne_of_beq_false h1)
   intro key
   refine ar_off rfl (ar_off rfl (ar_off rfl ?_))
   exact key
  ·
   replace h1 : how = 2 := (eq_of_beq h1)
   intro key
   refine ⟨trivial, trivial, trivial, ?_⟩
   exact key
 refine hK1 _ _ ?_; clear hK1 K1
 refine awp_cond rfl rfl (fun h2 => ?_) (fun h2 => ?_)
 ·
  replace h2 : (how = 2) ∧ (4000 < (data.length : Int)) := ⟨(eq_of_beq (bandL h2)), (of_decide_eq_true (bandR h2))⟩
  refine awp_reg2_seq [] [8] (by decide) ?_
  intro K1 hK1
  refine ⟨trivial, ?_⟩
  show K1 [(8, .int .i64 2)] (AMem.wth m [(r, rObj s)])
  refine hK1 _ _ ?_; clear hK1 K1
  refine awp_ret ?_
  refine ⟨trivial, (AMem.wth m [(r, rObj s)]), fun _ _ h => h, ?_⟩
  show K (.int .i64 2) (AMem.wth m [(r, rObj s)])
 
  have e0 : putQ s how name data = ((s, 2) : RSt × Int) := by
   first | (rw [putQ, if_pos (by assumption)]; done) | (rw [putQ, if_neg (by omega), if_pos (by assumption)]; done) | (have hZ : (if how = 2 ∧ 0 ≤ hasR s.now name then (data.length : Int) + ((mget s.now name).getD []).length else data.length) = (data.length : Int) + (gI s.now (hasR s.now name)).2.length := (by rw [if_pos (by assumption), (hasR_get (by omega)).2]); unfold putQ; rw [hZ, if_neg (by omega), if_neg (by simp_all)]; first | (rw [if_pos (by omega)]; done) | (rw [if_neg (by omega), if_pos (by omega)]; done) | (rw [if_neg (by omega), if_neg (by omega), if_pos (by omega)]; done) | (rw [if_neg (by omega), if_neg (by omega), if_neg (by omega)]; done)) | (have hZ : (if how = 2 ∧ 0 ≤ hasR s.now name then (data.length : Int) + ((mget s.now name).getD []).length else data.length) = (data.length : Int) := if_neg (by omega); unfold putQ; rw [hZ, if_neg (by omega), if_neg (by simp_all)]; first | (rw [if_pos (by omega)]; done) | (rw [if_neg (by omega), if_pos (by omega)]; done) | (rw [if_neg (by omega), if_neg (by omega), if_pos (by omega)]; done) | (rw [if_neg (by omega), if_neg (by omega), if_neg (by omega)]; done))
  rw [e0] at hK
  exact hK
 replace h2 : (how ≠ 2) ∨ ((data.length : Int) ≤ 4000) := ((bandF h2).imp (fun q => (ne_of_beq_false q)) (fun q => (Int.not_lt.1 (of_decide_eq_false q))))
 refine awp_skip ?_
 refine hK2 _ _ ?_; clear hK2
 refine awp_reg2_seq [] [0, 1, 2, 3, 9, 10] (by decide) ?_
 intro K1 hK1
 refine ⟨trivial, ?_⟩
 refine u_FileMay name (by first | assumption | omega) _ _ ?_
 refine ⟨trivial, ?_⟩
 show K1 [(0, .ptr ⟨r, 0, none⟩), (1, .int .i64 how), (2, .str name), (3, .str data), (9, .int .i64 (hasR s.now name)), (10, .bool (nameF name))] (AMem.wth m [(r, rObj s)])
 refine hK1 _ _ ?_; clear hK1 K1
 refine awp_seq_k ?_; intro K3 hK3
 refine awp_reg2_seq [] [0, 1, 2, 3, 9, 28] (by decide) ?_
 intro K1 hK1
 refine ⟨trivial, trivial, ?_⟩
 show K1 [(0, .ptr ⟨r, 0, none⟩), (1, .int .i64 how), (2, .str name), (3, .str data), (9, .int .i64 (hasR s.now name)), (28, .bool (!(nameF name)))] (AMem.wth m [(r, rObj s)])
 refine hK1 _ _ ?_; clear hK1 K1
 refine awp_cond rfl rfl (fun h3 => ?_) (fun h3 => ?_)
 ·
  replace h3 : nameF name = false := (bnT h3)
  refine awp_reg2_seq [] [8] (by decide) ?_
  intro K1 hK1
  refine ⟨trivial, ?_⟩
  show K1 [(8, .int .i64 3)] (AMem.wth m [(r, rObj s)])
  refine hK1 _ _ ?_; clear hK1 K1
  refine awp_ret ?_
  refine ⟨trivial, (AMem.wth m [(r, rObj s)]), fun _ _ h => h, ?_⟩
  show K (.int .i64 3) (AMem.wth m [(r, rObj s)])
 
  have e0 : putQ s how name data = ((s, 3) : RSt × Int) := by
   first | (rw [putQ, if_pos (by assumption)]; done) | (rw [putQ, if_neg (by omega), if_pos (by assumption)]; done) | (have hZ : (if how = 2 ∧ 0 ≤ hasR s.now name then (data.length : Int) + ((mget s.now name).getD []).length else data.length) = (data.length : Int) + (gI s.now (hasR s.now name)).2.length := (by rw [if_pos (by assumption), (hasR_get (by omega)).2]); unfold putQ; rw [hZ, if_neg (by omega), if_neg (by simp_all)]; first | (rw [if_pos (by omega)]; done) | (rw [if_neg (by omega), if_pos (by omega)]; done) | (rw [if_neg (by omega), if_neg (by omega), if_pos (by omega)]; done) | (rw [if_neg (by omega), if_neg (by omega), if_neg (by omega)]; done)) | (have hZ : (if how = 2 ∧ 0 ≤ hasR s.now name then (data.length : Int) + ((mget s.now name).getD []).length else data.length) = (data.length : Int) := if_neg (by omega); unfold putQ; rw [hZ, if_neg (by omega), if_neg (by simp_all)]; first | (rw [if_pos (by omega)]; done) | (rw [if_neg (by omega), if_pos (by omega)]; done) | (rw [if_neg (by omega), if_neg (by omega), if_pos (by omega)]; done) | (rw [if_neg (by omega), if_neg (by omega), if_neg (by omega)]; done))
  rw [e0] at hK
  exact hK
 replace h3 : nameF name = true := (bnF h3)
 refine awp_skip ?_
 refine hK3 _ _ ?_; clear hK3
 refine awp_reg2_seq [] [0, 1, 2, 3, 9, 11] (by decide) ?_
 intro K1 hK1
 refine ⟨trivial, trivial, trivial, ?_⟩
 show K1 [(0, .ptr ⟨r, 0, none⟩), (1, .int .i64 how), (2, .str name), (3, .str data), (9, .int .i64 (hasR s.now name)), (11, .int .i64 (data.length : Int))] (AMem.wth m [(r, rObj s)])
 refine hK1 _ _ ?_; clear hK1 K1
 refine awp_seq_k ?_; intro K4 hK4
 refine awp_reg2_seq [] [0, 1, 2, 3, 9, 11, 36] (by decide) ?_
 intro K1 hK1
 suffices key : K1 [(0, .ptr ⟨r, 0, none⟩), (1, .int .i64 how), (2, .str name), (3, .str data), (9, .int .i64 (hasR s.now name)), (11, .int .i64 (data.length : Int)), (36, .bool ((how == 2) && (decide (0 ≤ hasR s.now name))))] (AMem.wth m [(r, rObj s)]) by
  refine ⟨trivial, trivial, trivial, ?_⟩
  show aopsR _ _ _ _ _ [(33, .bool (how == 2)), (32, .bool (how == 2)), (31, .int .i64 how), (0, .ptr ⟨r, 0, none⟩), (1, .int .i64 how), (2, .str name), (3, .str data), (9, .int .i64 (hasR s.now name)), (11, .int .i64 (data.length : Int))] _
  revert key
  cases h4 : (how == 2)
  ·
   replace h4 : how ≠ 2 := (ne_of_beq_false h4)
   intro key
   refine ar_off rfl (ar_off rfl ?_)
   exact key
  ·
   replace h4 : how = 2 := (eq_of_beq h4)
   intro key
   refine ⟨trivial, trivial, ?_⟩
   exact key
 refine hK1 _ _ ?_; clear hK1 K1
 refine awp_cond rfl rfl (fun h5 => ?_) (fun h5 => ?_)
 ·
  replace h5 : (how = 2) ∧ (0 ≤ hasR s.now name) := ⟨(eq_of_beq (bandL h5)), (of_decide_eq_true (bandR h5))⟩
  refine awp_reg2 [] [0, 1, 2, 3, 9, 11] (by decide) ?_
  intro K1 hK1
  refine ⟨trivial, trivial, trivial, ⟨rfl, by decide⟩, ?_⟩
  refine ar_loadp rfl (v := .slice false (s.now.map fileAV)) rfl (wth_get 0 (nodup_1 r) rfl) rfl (apartOk_one rfl rfl (Nat.le_of_ble_eq_true rfl)) rfl ?_
  refine ⟨trivial, ?_⟩
  refine ar_index rfl fileAV s.now (hasR s.now name) rfl rfl rfl rfl rfl (by decide) (fun _ => rfl) (by omega) (by exact (hasR_get (by omega)).1) ?_
  refine ⟨⟨rfl, by decide, (Nat.le_of_ble_eq_true rfl)⟩, (apartOk_one rfl rfl (Nat.le_of_ble_eq_true rfl)), trivial, ?_⟩
  refine ar_add rfl (a := (data.length : Int)) (b := (((gI s.now (hasR s.now name)).2).length : Int)) rfl rfl (by first | omega | (have hg := (hasR_get (by omega : 0 ≤ hasR s.now name)).2; rw [hg]; omega)) (by first | omega | (have hg := (hasR_get (by omega : 0 ≤ hasR s.now name)).2; rw [hg]; omega)) ?_
  refine ⟨trivial, ?_⟩
  show K1 [(0, .ptr ⟨r, 0, none⟩), (1, .int .i64 how), (2, .str name), (3, .str data), (9, .int .i64 (hasR s.now name)), (11, .int .i64 ((data.length : Int) + (((gI s.now (hasR s.now name)).2).length : Int)))] (AMem.wth m [(r, rObj s)])
  refine hK1 _ _ ?_; clear hK1 K1
  refine hK4 _ _ ?_; clear hK4
  refine awp_seq_k ?_; intro K5 hK5
  refine awp_reg2_seq [] [0, 1, 2, 3, 9, 61] (by decide) ?_
  intro K1 hK1
  suffices key : K1 [(0, .ptr ⟨r, 0, none⟩), (1, .int .i64 how), (2, .str name), (3, .str data), (9, .int .i64 (hasR s.now name)), (61, .bool ((decide (4000 < (data.length : Int) + (((gI s.now (hasR s.now name)).2).length : Int))) || ((decide (hasR s.now name < 0)) && (decide (40 ≤ (s.now.length : Int))))))] (AMem.wth m [(r, rObj s)]) by
   refine ⟨trivial, trivial, trivial, ?_⟩
   show aopsR _ _ _ _ _ [(50, .bool (decide (4000 < (data.length : Int) + (((gI s.now (hasR s.now name)).2).length : Int)))), (49, .bool (decide (4000 < (data.length : Int) + (((gI s.now (hasR s.now name)).2).length : Int)))), (48, .int .i64 ((data.length : Int) + (((gI s.now (hasR s.now name)).2).length : Int))), (0, .ptr ⟨r, 0, none⟩), (1, .int .i64 how), (2, .str name), (3, .str data), (9, .int .i64 (hasR s.now name)), (11, .int .i64 ((data.length : Int) + (((gI s.now (hasR s.now name)).2).length : Int)))] _
   revert key
   cases h6 : (decide (4000 < (data.length : Int) + (((gI s.now (hasR s.now name)).2).length : Int)))
   ·
    replace h6 : (data.length : Int) + (((gI s.now (hasR s.now name)).2).length : Int) ≤ 4000 := (Int.not_lt.1 (of_decide_eq_false h6))
    intro key
    refine ⟨trivial, trivial, trivial, ?_⟩
    show aopsR _ _ _ _ _ [(53, .bool (decide (hasR s.now name < 0))), (52, .bool (decide (hasR s.now name < 0))), (51, .int .i64 (hasR s.now name)), (50, .bool false), (49, .bool false), (48, .int .i64 ((data.length : Int) + (((gI s.now (hasR s.now name)).2).length : Int))), (0, .ptr ⟨r, 0, none⟩), (1, .int .i64 how), (2, .str name), (3, .str data), (9, .int .i64 (hasR s.now name)), (11, .int .i64 ((data.length : Int) + (((gI s.now (hasR s.now name)).2).length : Int)))] _
    revert key
    cases h7 : (decide (hasR s.now name < 0))
    ·
     replace h7 : 0 ≤ hasR s.now name := (Int.not_lt.1 (of_decide_eq_false h7))
     intro key
     refine ar_off rfl (ar_off rfl (ar_off rfl (ar_off rfl (ar_off rfl (ar_off rfl ?_)))))
     exact key
    ·
     replace h7 : hasR s.now name < 0 := (of_decide_eq_true h7)
     intro key
     refine ⟨trivial, trivial, ⟨rfl, by decide⟩, ?_⟩
     refine ar_loadp rfl (v := .slice false (s.now.map fileAV)) rfl (wth_get 0 (nodup_1 r) rfl) rfl (apartOk_one rfl rfl (Nat.le_of_ble_eq_true rfl)) rfl ?_
     refine ar_len rfl fileAV s.now rfl rfl rfl ?_
     refine ⟨trivial, ?_⟩
     exact key
   ·
    replace h6 : 4000 < (data.length : Int) + (((gI s.now (hasR s.now name)).2).length : Int) := (of_decide_eq_true h6)
    intro key
    refine ar_off rfl (ar_off rfl (ar_off rfl (ar_off rfl (ar_off rfl (ar_off rfl (ar_off rfl (ar_off rfl (ar_off rfl (ar_off rfl ?_)))))))))
    exact key
  refine hK1 _ _ ?_; clear hK1 K1
  refine awp_cond rfl rfl (fun h8 => ?_) (fun h8 => ?_)
  ·
   replace h8 : (4000 < (data.length : Int) + (((gI s.now (hasR s.now name)).2).length : Int)) ∨ ((hasR s.now name < 0) ∧ (40 ≤ (s.now.length : Int))) := ((borT h8).imp (fun q => (of_decide_eq_true q)) (fun q => ⟨(of_decide_eq_true (bandL q)), (of_decide_eq_true (bandR q))⟩))
   refine awp_reg2_seq [] [8] (by decide) ?_
   intro K1 hK1
   refine ⟨trivial, ?_⟩
   show K1 [(8, .int .i64 2)] (AMem.wth m [(r, rObj s)])
   refine hK1 _ _ ?_; clear hK1 K1
   refine awp_ret ?_
   refine ⟨trivial, (AMem.wth m [(r, rObj s)]), fun _ _ h => h, ?_⟩
   show K (.int .i64 2) (AMem.wth m [(r, rObj s)])
  
   have e0 : putQ s how name data = ((s, 2) : RSt × Int) := by
    first | (rw [putQ, if_pos (by assumption)]; done) | (rw [putQ, if_neg (by omega), if_pos (by assumption)]; done) | (have hZ : (if how = 2 ∧ 0 ≤ hasR s.now name then (data.length : Int) + ((mget s.now name).getD []).length else data.length) = (data.length : Int) + (gI s.now (hasR s.now name)).2.length := (by rw [if_pos (by assumption), (hasR_get (by omega)).2]); unfold putQ; rw [hZ, if_neg (by omega), if_neg (by simp_all)]; first | (rw [if_pos (by omega)]; done) | (rw [if_neg (by omega), if_pos (by omega)]; done) | (rw [if_neg (by omega), if_neg (by omega), if_pos (by omega)]; done) | (rw [if_neg (by omega), if_neg (by omega), if_neg (by omega)]; done)) | (have hZ : (if how = 2 ∧ 0 ≤ hasR s.now name then (data.length : Int) + ((mget s.now name).getD []).length else data.length) = (data.length : Int) := if_neg (by omega); unfold putQ; rw [hZ, if_neg (by omega), if_neg (by simp_all)]; first | (rw [if_pos (by omega)]; done) | (rw [if_neg (by omega), if_pos (by omega)]; done) | (rw [if_neg (by omega), if_neg (by omega), if_pos (by omega)]; done) | (rw [if_neg (by omega), if_neg (by omega), if_neg (by omega)]; done))
   rw [e0] at hK
   exact hK
  replace h8 : ((data.length : Int) + (((gI s.now (hasR s.now name)).2).length : Int) ≤ 4000) ∧ ((0 ≤ hasR s.now name) ∨ ((s.now.length : Int) < 40)) := ⟨(Int.not_lt.1 (of_decide_eq_false (borL h8))), ((bandF (borR h8)).imp (fun q => (Int.not_lt.1 (of_decide_eq_false q))) (fun q => (Int.not_le.1 (of_decide_eq_false q))))⟩
  refine awp_skip ?_
  refine hK5 _ _ ?_; clear hK5
  refine awp_seq_k ?_; intro K6 hK6
  refine awp_reg2_seq [] [0, 1, 2, 3, 67] (by decide) ?_
  intro K1 hK1
  suffices key : K1 [(0, .ptr ⟨r, 0, none⟩), (1, .int .i64 how), (2, .str name), (3, .str data), (67, .bool ((how == 3) && (decide (0 ≤ hasR s.now name))))] (AMem.wth m [(r, rObj s)]) by
   refine ⟨trivial, trivial, trivial, ?_⟩
   show aopsR _ _ _ _ _ [(64, .bool (how == 3)), (63, .bool (how == 3)), (62, .int .i64 how), (0, .ptr ⟨r, 0, none⟩), (1, .int .i64 how), (2, .str name), (3, .str data), (9, .int .i64 (hasR s.now name)), (61, .bool ((decide (4000 < (data.length : Int) + (((gI s.now (hasR s.now name)).2).length : Int))) || ((decide (hasR s.now name < 0)) && (decide (40 ≤ (s.now.length : Int))))))] _
   revert key
   cases h9 : (how == 3)
   ·
    replace h9 : how ≠ 3 := (ne_of_beq_false h9)
    intro key
    refine ar_off rfl (ar_off rfl ?_)
    exact key
   ·
    replace h9 : how = 3 := (eq_of_beq h9)
    intro key
    refine ⟨trivial, trivial, ?_⟩
    exact key
  refine hK1 _ _ ?_; clear hK1 K1
  refine awp_cond rfl rfl (fun h10 => ?_) (fun h10 => ?_)
  ·
   replace h10 : (how = 3) ∧ (0 ≤ hasR s.now name) := ⟨(eq_of_beq (bandL h10)), (of_decide_eq_true (bandR h10))⟩
   refine awp_reg2_seq [] [8] (by decide) ?_
   intro K1 hK1
   refine ⟨trivial, ?_⟩
   show K1 [(8, .int .i64 6)] (AMem.wth m [(r, rObj s)])
   refine hK1 _ _ ?_; clear hK1 K1
   refine awp_ret ?_
   refine ⟨trivial, (AMem.wth m [(r, rObj s)]), fun _ _ h => h, ?_⟩
   show K (.int .i64 6) (AMem.wth m [(r, rObj s)])
  
   have e0 : putQ s how name data = ((s, 6) : RSt × Int) := by
    first | (rw [putQ, if_pos (by assumption)]; done) | (rw [putQ, if_neg (by omega), if_pos (by assumption)]; done) | (have hZ : (if how = 2 ∧ 0 ≤ hasR s.now name then (data.length : Int) + ((mget s.now name).getD []).length else data.length) = (data.length : Int) + (gI s.now (hasR s.now name)).2.length := (by rw [if_pos (by assumption), (hasR_get (by omega)).2]); unfold putQ; rw [hZ, if_neg (by omega), if_neg (by simp_all)]; first | (rw [if_pos (by omega)]; done) | (rw [if_neg (by omega), if_pos (by omega)]; done) | (rw [if_neg (by omega), if_neg (by omega), if_pos (by omega)]; done) | (rw [if_neg (by omega), if_neg (by omega), if_neg (by omega)]; done)) | (have hZ : (if how = 2 ∧ 0 ≤ hasR s.now name then (data.length : Int) + ((mget s.now name).getD []).length else data.length) = (data.length : Int) := if_neg (by omega); unfold putQ; rw [hZ, if_neg (by omega), if_neg (by simp_all)]; first | (rw [if_pos (by omega)]; done) | (rw [if_neg (by omega), if_pos (by omega)]; done) | (rw [if_neg (by omega), if_neg (by omega), if_pos (by omega)]; done) | (rw [if_neg (by omega), if_neg (by omega), if_neg (by omega)]; done))
   rw [e0] at hK
   exact hK
  replace h10 : (how ≠ 3) ∨ (hasR s.now name < 0) := ((bandF h10).imp (fun q => (ne_of_beq_false q)) (fun q => (Int.not_le.1 (of_decide_eq_false q))))
  refine awp_skip ?_
  refine hK6 _ _ ?_; clear hK6
  refine awp_seq_k ?_; intro K7 hK7
  refine awp_reg2_seq [] [0, 1, 2, 3, 69] (by decide) ?_
  intro K1 hK1
  refine ⟨trivial, trivial, ?_⟩
  show K1 [(0, .ptr ⟨r, 0, none⟩), (1, .int .i64 how), (2, .str name), (3, .str data), (69, .bool (how == 3))] (AMem.wth m [(r, rObj s)])
  refine hK1 _ _ ?_; clear hK1 K1
  refine awp_cond rfl rfl (fun h11 => ?_) (fun h11 => ?_)
  ·
   replace h11 : how = 3 := (eq_of_beq h11)
   refine awp_reg2 [] [0, 1, 2, 3] (by decide) ?_
   intro K1 hK1
   refine ⟨trivial, ?_⟩
   show K1 [(0, .ptr ⟨r, 0, none⟩), (1, .int .i64 1), (2, .str name), (3, .str data)] (AMem.wth m [(r, rObj s)])
   refine hK1 _ _ ?_; clear hK1 K1
   refine hK7 _ _ ?_; clear hK7
   refine awp_reg2_seq [] [8] (by decide) ?_
   intro K1 hK1
   refine ⟨trivial, trivial, trivial, trivial, ⟨rfl, by simp only [List.forall_mem_cons]; exact ⟨rfl, rfl, rfl, rfl, fun _ h => by cases h⟩, by simp only [List.forall_mem_cons]; exact ⟨rfl, rfl, rfl, fun _ h => by cases h⟩⟩, ?_⟩
   refine u_Qdo r s (⟨1, name, data, []⟩ : Trn) hR (by first | omega | (dsimp only; omega) | simp) _ _ ?_
   show aopsR _ _ _ _ _ _ (AMem.wth m [(r, rObj ((doQ s (⟨1, name, data, []⟩ : Trn)).1))])
   refine ⟨trivial, ?_⟩
   show K1 [(8, .int .i64 ((doQ s (⟨1, name, data, []⟩ : Trn)).2))] (AMem.wth m [(r, rObj ((doQ s (⟨1, name, data, []⟩ : Trn)).1))])
   refine hK1 _ _ ?_; clear hK1 K1
   refine awp_ret ?_
   refine ⟨trivial, (AMem.wth m [(r, rObj ((doQ s (⟨1, name, data, []⟩ : Trn)).1))]), fun _ _ h => h, ?_⟩
   show K (.int .i64 ((doQ s (⟨1, name, data, []⟩ : Trn)).2)) (AMem.wth m [(r, rObj ((doQ s (⟨1, name, data, []⟩ : Trn)).1))])
  
   have e0 : putQ s how name data = ((((doQ s (⟨1, name, data, []⟩ : Trn)).1), (doQ s (⟨1, name, data, []⟩ : Trn)).2) : RSt × Int) := by
    first | (rw [putQ, if_pos (by assumption)]; done) | (rw [putQ, if_neg (by omega), if_pos (by assumption)]; done) | (have hZ : (if how = 2 ∧ 0 ≤ hasR s.now name then (data.length : Int) + ((mget s.now name).getD []).length else data.length) = (data.length : Int) + (gI s.now (hasR s.now name)).2.length := (by rw [if_pos (by assumption), (hasR_get (by omega)).2]); unfold putQ; rw [hZ, if_neg (by omega), if_neg (by simp_all)]; first | (rw [if_pos (by omega)]; done) | (rw [if_neg (by omega), if_pos (by omega)]; done) | (rw [if_neg (by omega), if_neg (by omega), if_pos (by omega)]; done) | (rw [if_neg (by omega), if_neg (by omega), if_neg (by omega)]; done)) | (have hZ : (if how = 2 ∧ 0 ≤ hasR s.now name then (data.length : Int) + ((mget s.now name).getD []).length else data.length) = (data.length : Int) := if_neg (by omega); unfold putQ; rw [hZ, if_neg (by omega), if_neg (by simp_all)]; first | (rw [if_pos (by omega)]; done) | (rw [if_neg (by omega), if_pos (by omega)]; done) | (rw [if_neg (by omega), if_neg (by omega), if_pos (by omega)]; done) | (rw [if_neg (by omega), if_neg (by omega), if_neg (by omega)]; done))
   rw [e0] at hK
   exact hK
  replace h11 : how ≠ 3 := (ne_of_beq_false h11)
  refine awp_skip ?_
  refine hK7 _ _ ?_; clear hK7
  refine awp_reg2_seq [] [8] (by decide) ?_
  intro K1 hK1
  refine ⟨trivial, trivial, trivial, trivial, ⟨rfl, by simp only [List.forall_mem_cons]; exact ⟨rfl, rfl, rfl, rfl, fun _ h => by cases h⟩, by simp only [List.forall_mem_cons]; exact ⟨rfl, rfl, rfl, fun _ h => by cases h⟩⟩, ?_⟩
  refine u_Qdo r s (⟨how, name, data, []⟩ : Trn) hR (by first | omega | (dsimp only; omega) | simp) _ _ ?_
  show aopsR _ _ _ _ _ _ (AMem.wth m [(r, rObj ((doQ s (⟨how, name, data, []⟩ : Trn)).1))])
  refine ⟨trivial, ?_⟩
  show K1 [(8, .int .i64 ((doQ s (⟨how, name, data, []⟩ : Trn)).2))] (AMem.wth m [(r, rObj ((doQ s (⟨how, name, data, []⟩ : Trn)).1))])
  refine hK1 _ _ ?_; clear hK1 K1
  refine awp_ret ?_
  refine ⟨trivial, (AMem.wth m [(r, rObj ((doQ s (⟨how, name, data, []⟩ : Trn)).1))]), fun _ _ h => h, ?_⟩
  show K (.int .i64 ((doQ s (⟨how, name, data, []⟩ : Trn)).2)) (AMem.wth m [(r, rObj ((doQ s (⟨how, name, data, []⟩ : Trn)).1))])
 
  have e0 : putQ s how name data = ((((doQ s (⟨how, name, data, []⟩ : Trn)).1), (doQ s (⟨how, name, data, []⟩ : Trn)).2) : RSt × Int) := by
   first | (rw [putQ, if_pos (by assumption)]; done) | (rw [putQ, if_neg (by omega), if_pos (by assumption)]; done) | (have hZ : (if how = 2 ∧ 0 ≤ hasR s.now name then (data.length : Int) + ((mget s.now name).getD []).length else data.length) = (data.length : Int) + (gI s.now (hasR s.now name)).2.length := (by rw [if_pos (by assumption), (hasR_get (by omega)).2]); unfold putQ; rw [hZ, if_neg (by omega), if_neg (by simp_all)]; first | (rw [if_pos (by omega)]; done) | (rw [if_neg (by omega), if_pos (by omega)]; done) | (rw [if_neg (by omega), if_neg (by omega), if_pos (by omega)]; done) | (rw [if_neg (by omega), if_neg (by omega), if_neg (by omega)]; done)) | (have hZ : (if how = 2 ∧ 0 ≤ hasR s.now name then (data.length : Int) + ((mget s.now name).getD []).length else data.length) = (data.length : Int) := if_neg (by omega); unfold putQ; rw [hZ, if_neg (by omega), if_neg (by simp_all)]; first | (rw [if_pos (by omega)]; done) | (rw [if_neg (by omega), if_pos (by omega)]; done) | (rw [if_neg (by omega), if_neg (by omega), if_pos (by omega)]; done) | (rw [if_neg (by omega), if_neg (by omega), if_neg (by omega)]; done))
  rw [e0] at hK
  exact hK
 replace h5 : (how ≠ 2) ∨ (hasR s.now name < 0) := ((bandF h5).imp (fun q => (ne_of_beq_false q)) (fun q => (Int.not_le.1 (of_decide_eq_false q))))
 refine awp_skip ?_
 refine hK4 _ _ ?_; clear hK4
 refine awp_seq_k ?_; intro K8 hK8
 refine awp_reg2_seq [] [0, 1, 2, 3, 9, 61] (by decide) ?_
 intro K1 hK1
 suffices key : K1 [(0, .ptr ⟨r, 0, none⟩), (1, .int .i64 how), (2, .str name), (3, .str data), (9, .int .i64 (hasR s.now name)), (61, .bool ((decide (4000 < (data.length : Int))) || ((decide (hasR s.now name < 0)) && (decide (40 ≤ (s.now.length : Int))))))] (AMem.wth m [(r, rObj s)]) by
  refine ⟨trivial, trivial, trivial, ?_⟩
  show aopsR _ _ _ _ _ [(50, .bool (decide (4000 < (data.length : Int)))), (49, .bool (decide (4000 < (data.length : Int)))), (48, .int .i64 (data.length : Int)), (0, .ptr ⟨r, 0, none⟩), (1, .int .i64 how), (2, .str name), (3, .str data), (9, .int .i64 (hasR s.now name)), (11, .int .i64 (data.length : Int)), (36, .bool ((how == 2) && (decide (0 ≤ hasR s.now name))))] _
  revert key
  cases h12 : (decide (4000 < (data.length : Int)))
  ·
   replace h12 : (data.length : Int) ≤ 4000 := (Int.not_lt.1 (of_decide_eq_false h12))
   intro key
   refine ⟨trivial, trivial, trivial, ?_⟩
   show aopsR _ _ _ _ _ [(53, .bool (decide (hasR s.now name < 0))), (52, .bool (decide (hasR s.now name < 0))), (51, .int .i64 (hasR s.now name)), (50, .bool false), (49, .bool false), (48, .int .i64 (data.length : Int)), (0, .ptr ⟨r, 0, none⟩), (1, .int .i64 how), (2, .str name), (3, .str data), (9, .int .i64 (hasR s.now name)), (11, .int .i64 (data.length : Int)), (36, .bool ((how == 2) && (decide (0 ≤ hasR s.now name))))] _
   revert key
   cases h13 : (decide (hasR s.now name < 0))
   ·
    replace h13 : 0 ≤ hasR s.now name := (Int.not_lt.1 (of_decide_eq_false h13))
    intro key
    refine ar_off rfl (ar_off rfl (ar_off rfl (ar_off rfl (ar_off rfl (ar_off rfl ?_)))))
    exact key
   ·
    replace h13 : hasR s.now name < 0 := (of_decide_eq_true h13)
    intro key
    refine ⟨trivial, trivial, ⟨rfl, by decide⟩, ?_⟩
    refine ar_loadp rfl (v := .slice false (s.now.map fileAV)) rfl (wth_get 0 (nodup_1 r) rfl) rfl (apartOk_one rfl rfl (Nat.le_of_ble_eq_true rfl)) rfl ?_
    refine ar_len rfl fileAV s.now rfl rfl rfl ?_
    refine ⟨trivial, ?_⟩
    exact key
  ·
   replace h12 : 4000 < (data.length : Int) := (of_decide_eq_true h12)
   intro key
   refine ar_off rfl (ar_off rfl (ar_off rfl (ar_off rfl (ar_off rfl (ar_off rfl (ar_off rfl (ar_off rfl (ar_off rfl (ar_off rfl ?_)))))))))
   exact key
 refine hK1 _ _ ?_; clear hK1 K1
 refine awp_cond rfl rfl (fun h14 => ?_) (fun h14 => ?_)
 ·
  replace h14 : (4000 < (data.length : Int)) ∨ ((hasR s.now name < 0) ∧ (40 ≤ (s.now.length : Int))) := ((borT h14).imp (fun q => (of_decide_eq_true q)) (fun q => ⟨(of_decide_eq_true (bandL q)), (of_decide_eq_true (bandR q))⟩))
  refine awp_reg2_seq [] [8] (by decide) ?_
  intro K1 hK1
  refine ⟨trivial, ?_⟩
  show K1 [(8, .int .i64 2)] (AMem.wth m [(r, rObj s)])
  refine hK1 _ _ ?_; clear hK1 K1
  refine awp_ret ?_
  refine ⟨trivial, (AMem.wth m [(r, rObj s)]), fun _ _ h => h, ?_⟩
  show K (.int .i64 2) (AMem.wth m [(r, rObj s)])
 
  have e0 : putQ s how name data = ((s, 2) : RSt × Int) := by
   first | (rw [putQ, if_pos (by assumption)]; done) | (rw [putQ, if_neg (by omega), if_pos (by assumption)]; done) | (have hZ : (if how = 2 ∧ 0 ≤ hasR s.now name then (data.length : Int) + ((mget s.now name).getD []).length else data.length) = (data.length : Int) + (gI s.now (hasR s.now name)).2.length := (by rw [if_pos (by assumption), (hasR_get (by omega)).2]); unfold putQ; rw [hZ, if_neg (by omega), if_neg (by simp_all)]; first | (rw [if_pos (by omega)]; done) | (rw [if_neg (by omega), if_pos (by omega)]; done) | (rw [if_neg (by omega), if_neg (by omega), if_pos (by omega)]; done) | (rw [if_neg (by omega), if_neg (by omega), if_neg (by omega)]; done)) | (have hZ : (if how = 2 ∧ 0 ≤ hasR s.now name then (data.length : Int) + ((mget s.now name).getD []).length else data.length) = (data.length : Int) := if_neg (by omega); unfold putQ; rw [hZ, if_neg (by omega), if_neg (by simp_all)]; first | (rw [if_pos (by omega)]; done) | (rw [if_neg (by omega), if_pos (by omega)]; done) | (rw [if_neg (by omega), if_neg (by omega), if_pos (by omega)]; done) | (rw [if_neg (by omega), if_neg (by omega), if_neg (by omega)]; done))
  rw [e0] at hK
  exact hK
 replace h14 : ((data.length : Int) ≤ 4000) ∧ ((0 ≤ hasR s.now name) ∨ ((s.now.length : Int) < 40)) := ⟨(Int.not_lt.1 (of_decide_eq_false (borL h14))), ((bandF (borR h14)).imp (fun q => (Int.not_lt.1 (of_decide_eq_false q))) (fun q => (Int.not_le.1 (of_decide_eq_false q))))⟩
 refine awp_skip ?_
 refine hK8 _ _ ?_; clear hK8
 refine awp_seq_k ?_; intro K9 hK9
 refine awp_reg2_seq [] [0, 1, 2, 3, 67] (by decide) ?_
 intro K1 hK1
 suffices key : K1 [(0, .ptr ⟨r, 0, none⟩), (1, .int .i64 how), (2, .str name), (3, .str data), (67, .bool ((how == 3) && (decide (0 ≤ hasR s.now name))))] (AMem.wth m [(r, rObj s)]) by
  refine ⟨trivial, trivial, trivial, ?_⟩
  show aopsR _ _ _ _ _ [(64, .bool (how == 3)), (63, .bool (how == 3)), (62, .int .i64 how), (0, .ptr ⟨r, 0, none⟩), (1, .int .i64 how), (2, .str name), (3, .str data), (9, .int .i64 (hasR s.now name)), (61, .bool ((decide (4000 < (data.length : Int))) || ((decide (hasR s.now name < 0)) && (decide (40 ≤ (s.now.length : Int))))))] _
  revert key
  cases h15 : (how == 3)
  ·
   replace h15 : how ≠ 3 := (ne_of_beq_false h15)
   intro key
   refine ar_off rfl (ar_off rfl ?_)
   exact key
  ·
   replace h15 : how = 3 := (eq_of_beq h15)
   intro key
   refine ⟨trivial, trivial, ?_⟩
   exact key
 refine hK1 _ _ ?_; clear hK1 K1
 refine awp_cond rfl rfl (fun h16 => ?_) (fun h16 => ?_)
 ·
  replace h16 : (how = 3) ∧ (0 ≤ hasR s.now name) := ⟨(eq_of_beq (bandL h16)), (of_decide_eq_true (bandR h16))⟩
  refine awp_reg2_seq [] [8] (by decide) ?_
  intro K1 hK1
  refine ⟨trivial, ?_⟩
  show K1 [(8, .int .i64 6)] (AMem.wth m [(r, rObj s)])
  refine hK1 _ _ ?_; clear hK1 K1
  refine awp_ret ?_
  refine ⟨trivial, (AMem.wth m [(r, rObj s)]), fun _ _ h => h, ?_⟩
  show K (.int .i64 6) (AMem.wth m [(r, rObj s)])
 
  have e0 : putQ s how name data = ((s, 6) : RSt × Int) := by
   first | (rw [putQ, if_pos (by assumption)]; done) | (rw [putQ, if_neg (by omega), if_pos (by assumption)]; done) | (have hZ : (if how = 2 ∧ 0 ≤ hasR s.now name then (data.length : Int) + ((mget s.now name).getD []).length else data.length) = (data.length : Int) + (gI s.now (hasR s.now name)).2.length := (by rw [if_pos (by assumption), (hasR_get (by omega)).2]); unfold putQ; rw [hZ, if_neg (by omega), if_neg (by simp_all)]; first | (rw [if_pos (by omega)]; done) | (rw [if_neg (by omega), if_pos (by omega)]; done) | (rw [if_neg (by omega), if_neg (by omega), if_pos (by omega)]; done) | (rw [if_neg (by omega), if_neg (by omega), if_neg (by omega)]; done)) | (have hZ : (if how = 2 ∧ 0 ≤ hasR s.now name then (data.length : Int) + ((mget s.now name).getD []).length else data.length) = (data.length : Int) := if_neg (by omega); unfold putQ; rw [hZ, if_neg (by omega), if_neg (by simp_all)]; first | (rw [if_pos (by omega)]; done) | (rw [if_neg (by omega), if_pos (by omega)]; done) | (rw [if_neg (by omega), if_neg (by omega), if_pos (by omega)]; done) | (rw [if_neg (by omega), if_neg (by omega), if_neg (by omega)]; done))
  rw [e0] at hK
  exact hK
 replace h16 : (how ≠ 3) ∨ (hasR s.now name < 0) := ((bandF h16).imp (fun q => (ne_of_beq_false q)) (fun q => (Int.not_le.1 (of_decide_eq_false q))))
 refine awp_skip ?_
 refine hK9 _ _ ?_; clear hK9
 refine awp_seq_k ?_; intro K10 hK10
 refine awp_reg2_seq [] [0, 1, 2, 3, 69] (by decide) ?_
 intro K1 hK1
 refine ⟨trivial, trivial, ?_⟩
 show K1 [(0, .ptr ⟨r, 0, none⟩), (1, .int .i64 how), (2, .str name), (3, .str data), (69, .bool (how == 3))] (AMem.wth m [(r, rObj s)])
 refine hK1 _ _ ?_; clear hK1 K1
 refine awp_cond rfl rfl (fun h17 => ?_) (fun h17 => ?_)
 ·
  replace h17 : how = 3 := (eq_of_beq h17)
  refine awp_reg2 [] [0, 1, 2, 3] (by decide) ?_
  intro K1 hK1
  refine ⟨trivial, ?_⟩
  show K1 [(0, .ptr ⟨r, 0, none⟩), (1, .int .i64 1), (2, .str name), (3, .str data)] (AMem.wth m [(r, rObj s)])
  refine hK1 _ _ ?_; clear hK1 K1
  refine hK10 _ _ ?_; clear hK10
  refine awp_reg2_seq [] [8] (by decide) ?_
  intro K1 hK1
  refine ⟨trivial, trivial, trivial, trivial, ⟨rfl, by simp only [List.forall_mem_cons]; exact ⟨rfl, rfl, rfl, rfl, fun _ h => by cases h⟩, by simp only [List.forall_mem_cons]; exact ⟨rfl, rfl, rfl, fun _ h => by cases h⟩⟩, ?_⟩
  refine u_Qdo r s (⟨1, name, data, []⟩ : Trn) hR (by first | omega | (dsimp only; omega) | simp) _ _ ?_
  show aopsR _ _ _ _ _ _ (AMem.wth m [(r, rObj ((doQ s (⟨1, name, data, []⟩ : Trn)).1))])
  refine ⟨trivial, ?_⟩
  show K1 [(8, .int .i64 ((doQ s (⟨1, name, data, []⟩ : Trn)).2))] (AMem.wth m [(r, rObj ((doQ s (⟨1, name, data, []⟩ : Trn)).1))])
  refine hK1 _ _ ?_; clear hK1 K1
  refine awp_ret ?_
  refine ⟨trivial, (AMem.wth m [(r, rObj ((doQ s (⟨1, name, data, []⟩ : Trn)).1))]), fun _ _ h => h, ?_⟩
  show K (.int .i64 ((doQ s (⟨1, name, data, []⟩ : Trn)).2)) (AMem.wth m [(r, rObj ((doQ s (⟨1, name, data, []⟩ : Trn)).1))])
 
  have e0 : putQ s how name data = ((((doQ s (⟨1, name, data, []⟩ : Trn)).1), (doQ s (⟨1, name, data, []⟩ : Trn)).2) : RSt × Int) := by
   first | (rw [putQ, if_pos (by assumption)]; done) | (rw [putQ, if_neg (by omega), if_pos (by assumption)]; done) | (have hZ : (if how = 2 ∧ 0 ≤ hasR s.now name then (data.length : Int) + ((mget s.now name).getD []).length else data.length) = (data.length : Int) + (gI s.now (hasR s.now name)).2.length := (by rw [if_pos (by assumption), (hasR_get (by omega)).2]); unfold putQ; rw [hZ, if_neg (by omega), if_neg (by simp_all)]; first | (rw [if_pos (by omega)]; done) | (rw [if_neg (by omega), if_pos (by omega)]; done) | (rw [if_neg (by omega), if_neg (by omega), if_pos (by omega)]; done) | (rw [if_neg (by omega), if_neg (by omega), if_neg (by omega)]; done)) | (have hZ : (if how = 2 ∧ 0 ≤ hasR s.now name then (data.length : Int) + ((mget s.now name).getD []).length else data.length) = (data.length : Int) := if_neg (by omega); unfold putQ; rw [hZ, if_neg (by omega), if_neg (by simp_all)]; first | (rw [if_pos (by omega)]; done) | (rw [if_neg (by omega), if_pos (by omega)]; done) | (rw [if_neg (by omega), if_neg (by omega), if_pos (by omega)]; done) | (rw [if_neg (by omega), if_neg (by omega), if_neg (by omega)]; done))
  rw [e0] at hK
  exact hK
 replace h17 : how ≠ 3 := (ne_of_beq_false h17)
 refine awp_skip ?_
 refine hK10 _ _ ?_; clear hK10
 refine awp_reg2_seq [] [8] (by decide) ?_
 intro K1 hK1
 refine ⟨trivial, trivial, trivial, trivial, ⟨rfl, by simp only [List.forall_mem_cons]; exact ⟨rfl, rfl, rfl, rfl, fun _ h => by cases h⟩, by simp only [List.forall_mem_cons]; exact ⟨rfl, rfl, rfl, fun _ h => by cases h⟩⟩, ?_⟩
 refine u_Qdo r s (⟨how, name, data, []⟩ : Trn) hR (by first | omega | (dsimp only; omega) | simp) _ _ ?_
 show aopsR _ _ _ _ _ _ (AMem.wth m [(r, rObj ((doQ s (⟨how, name, data, []⟩ : Trn)).1))])
 refine ⟨trivial, ?_⟩
 show K1 [(8, .int .i64 ((doQ s (⟨how, name, data, []⟩ : Trn)).2))] (AMem.wth m [(r, rObj ((doQ s (⟨how, name, data, []⟩ : Trn)).1))])
 refine hK1 _ _ ?_; clear hK1 K1
 refine awp_ret ?_
 refine ⟨trivial, (AMem.wth m [(r, rObj ((doQ s (⟨how, name, data, []⟩ : Trn)).1))]), fun _ _ h => h, ?_⟩
 show K (.int .i64 ((doQ s (⟨how, name, data, []⟩ : Trn)).2)) (AMem.wth m [(r, rObj ((doQ s (⟨how, name, data, []⟩ : Trn)).1))])

 have e0 : putQ s how name data = ((((doQ s (⟨how, name, data, []⟩ : Trn)).1), (doQ s (⟨how, name, data, []⟩ : Trn)).2) : RSt × Int) := by
  first | (rw [putQ, if_pos (by assumption)]; done) | (rw [putQ, if_neg (by omega), if_pos (by assumption)]; done) | (have hZ : (if how = 2 ∧ 0 ≤ hasR s.now name then (data.length : Int) + ((mget s.now name).getD []).length else data.length) = (data.length : Int) + (gI s.now (hasR s.now name)).2.length := (by rw [if_pos (by assumption), (hasR_get (by omega)).2]); unfold putQ; rw [hZ, if_neg (by omega), if_neg (by simp_all)]; first | (rw [if_pos (by omega)]; done) | (rw [if_neg (by omega), if_pos (by omega)]; done) | (rw [if_neg (by omega), if_neg (by omega), if_pos (by omega)]; done) | (rw [if_neg (by omega), if_neg (by omega), if_neg (by omega)]; done)) | (have hZ : (if how = 2 ∧ 0 ≤ hasR s.now name then (data.length : Int) + ((mget s.now name).getD []).length else data.length) = (data.length : Int) := if_neg (by omega); unfold putQ; rw [hZ, if_neg (by omega), if_neg (by simp_all)]; first | (rw [if_pos (by omega)]; done) | (rw [if_neg (by omega), if_pos (by omega)]; done) | (rw [if_neg (by omega), if_neg (by omega), if_pos (by omega)]; done) | (rw [if_neg (by omega), if_neg (by omega), if_neg (by omega)]; done))
 rw [e0] at hK
 exact hK

set_option maxHeartbeats 4000000 in
theorem u_QMove (r : Nat) (s : RSt) (name to : Str) (hR : RInv 0 s) (hn : name.length ≤ 140737488355328) (hd : to.length ≤ 140737488355328) (m : AMem)  (K : AV → AMem → Prop) (hK : K (.int .i64 (moveQ s name to).2) (AMem.wth m [(r, rObj (moveQ s name to).1)])) : ACalls Try.prog 29 [.ptr ⟨r, 0, none⟩, .str name, .str to] (AMem.wth m [(r, rObj s)]) K := by
 refine acalls_enter Try.func29 rfl (by decide) (Nat.le_of_ble_eq_true rfl) ?_
 show AWP _ _ _ _ [(0, .ptr ⟨r, 0, none⟩), (1, .str name), (2, .str to)] (AMem.wth m [(r, rObj s)])
 refine awp_reg2_seq [] [0, 1, 2] (by decide) ?_
 intro K1 hK1
 refine ⟨trivial, ?_⟩
 show K1 [(0, .ptr ⟨r, 0, none⟩), (1, .str name), (2, .str to)] (AMem.wth m [(r, rObj s)])
 refine hK1 _ _ ?_; clear hK1 K1
 refine awp_reg2_seq [] [0, 1, 2, 7] (by decide) ?_
 intro K1 hK1
 refine ⟨trivial, ?_⟩
 refine u_FileMay name (by first | assumption | omega) _ _ ?_
 refine ⟨trivial, ?_⟩
 show K1 [(0, .ptr ⟨r, 0, none⟩), (1, .str name), (2, .str to), (7, .bool (nameF name))] (AMem.wth m [(r, rObj s)])
 refine hK1 _ _ ?_; clear hK1 K1
 refine awp_reg2_seq [] [0, 1, 2, 7, 8] (by decide) ?_
 intro K1 hK1
 refine ⟨trivial, ?_⟩
 refine u_FileMay to (by first | assumption | omega) _ _ ?_
 refine ⟨trivial, ?_⟩
 show K1 [(0, .ptr ⟨r, 0, none⟩), (1, .str name), (2, .str to), (7, .bool (nameF name)), (8, .bool (nameF to))] (AMem.wth m [(r, rObj s)])
 refine hK1 _ _ ?_; clear hK1 K1
 refine awp_seq_k ?_; intro K2 hK2
 refine awp_reg2_seq [] [0, 1, 2, 18] (by decide) ?_
 intro K1 hK1
 suffices key : K1 [(0, .ptr ⟨r, 0, none⟩), (1, .str name), (2, .str to), (18, .bool ((!(nameF name)) || (!(nameF to))))] (AMem.wth m [(r, rObj s)]) by
  refine ⟨trivial, trivial, trivial, ?_⟩
  show aopsR _ _ _ _ _ [(15, .bool (!(nameF name))), (14, .bool (!(nameF name))), (13, .bool (nameF name)), (0, .ptr ⟨r, 0, none⟩), (1, .str name), (2, .str to), (7, .bool (nameF name)), (8, .bool (nameF to))] _
  revert key
  cases h1 : (nameF name)
  ·
   replace h1 : nameF name = false := h1
   intro key
   refine ar_off rfl (ar_off rfl ?_)
   exact key
  ·
   replace h1 : nameF name = true := h1
   intro key
   refine ⟨trivial, trivial, ?_⟩
   exact key
 refine hK1 _ _ ?_; clear hK1 K1
 refine awp_cond rfl rfl (fun h2 => ?_) (fun h2 => ?_)
 ·
  replace h2 : (nameF name = false) ∨ (nameF to = false) := ((borT h2).imp (fun q => (bnT q)) (fun q => (bnT q)))
  refine awp_reg2_seq [] [6] (by decide) ?_
  intro K1 hK1
  refine ⟨trivial, ?_⟩
  show K1 [(6, .int .i64 3)] (AMem.wth m [(r, rObj s)])
  refine hK1 _ _ ?_; clear hK1 K1
  refine awp_ret ?_
  refine ⟨trivial, (AMem.wth m [(r, rObj s)]), fun _ _ h => h, ?_⟩
  show K (.int .i64 3) (AMem.wth m [(r, rObj s)])
 
  have e0 : moveQ s name to = ((s, 3) : RSt × Int) := by
   first | (rw [moveQ, if_pos (by assumption)]; done) | (rw [moveQ, if_neg (by simp_all), if_pos (by assumption)]; done) | (rw [moveQ, if_neg (by simp_all), if_neg (by omega), if_pos (by assumption)]; done) | (rw [moveQ, if_neg (by simp_all), if_neg (by omega), if_neg (by assumption)]; done)
  rw [e0] at hK
  exact hK
 replace h2 : (nameF name = true) ∧ (nameF to = true) := ⟨(bnF (borL h2)), (bnF (borR h2))⟩
 refine awp_skip ?_
 refine hK2 _ _ ?_; clear hK2
 refine awp_seq_k ?_; intro K3 hK3
 refine awp_reg2_seq [] [0, 1, 2, 25] (by decide) ?_
 intro K1 hK1
 refine ⟨trivial, trivial, ⟨rfl, by decide⟩, ?_⟩
 refine ar_loadp rfl (v := .slice false (s.now.map fileAV)) rfl (wth_get 0 (nodup_1 r) rfl) rfl (apartOk_one rfl rfl (Nat.le_of_ble_eq_true rfl)) rfl ?_
 refine ⟨trivial, ?_⟩
 refine u_Has s.now name _ _ ?_
 refine ⟨trivial, ?_⟩
 show K1 [(0, .ptr ⟨r, 0, none⟩), (1, .str name), (2, .str to), (25, .bool (decide (hasR s.now name < 0)))] (AMem.wth m [(r, rObj s)])
 refine hK1 _ _ ?_; clear hK1 K1
 refine awp_cond rfl rfl (fun h3 => ?_) (fun h3 => ?_)
 ·
  replace h3 : hasR s.now name < 0 := (of_decide_eq_true h3)
  refine awp_reg2_seq [] [6] (by decide) ?_
  intro K1 hK1
  refine ⟨trivial, ?_⟩
  show K1 [(6, .int .i64 7)] (AMem.wth m [(r, rObj s)])
  refine hK1 _ _ ?_; clear hK1 K1
  refine awp_ret ?_
  refine ⟨trivial, (AMem.wth m [(r, rObj s)]), fun _ _ h => h, ?_⟩
  show K (.int .i64 7) (AMem.wth m [(r, rObj s)])
 
  have e0 : moveQ s name to = ((s, 7) : RSt × Int) := by
   first | (rw [moveQ, if_pos (by assumption)]; done) | (rw [moveQ, if_neg (by simp_all), if_pos (by assumption)]; done) | (rw [moveQ, if_neg (by simp_all), if_neg (by omega), if_pos (by assumption)]; done) | (rw [moveQ, if_neg (by simp_all), if_neg (by omega), if_neg (by assumption)]; done)
  rw [e0] at hK
  exact hK
 replace h3 : 0 ≤ hasR s.now name := (Int.not_lt.1 (of_decide_eq_false h3))
 refine awp_skip ?_
 refine hK3 _ _ ?_; clear hK3
 refine awp_seq_k ?_; intro K4 hK4
 refine awp_reg2_seq [] [0, 1, 2, 28] (by decide) ?_
 intro K1 hK1
 refine ⟨trivial, trivial, trivial, ?_⟩
 show K1 [(0, .ptr ⟨r, 0, none⟩), (1, .str name), (2, .str to), (28, .bool (name == to))] (AMem.wth m [(r, rObj s)])
 refine hK1 _ _ ?_; clear hK1 K1
 refine awp_cond rfl rfl (fun h4 => ?_) (fun h4 => ?_)
 ·
  replace h4 : name = to := (eq_of_beq h4)
  refine awp_reg2_seq [] [6] (by decide) ?_
  intro K1 hK1
  refine ⟨trivial, ?_⟩
  refine u_QStep r s hR _ _ ?_
  show aopsR _ _ _ _ _ _ (AMem.wth m [(r, rObj ((stepQ s).1))])
  refine ⟨trivial, ?_⟩
  show K1 [(6, .int .i64 ((stepQ s).2))] (AMem.wth m [(r, rObj ((stepQ s).1))])
  refine hK1 _ _ ?_; clear hK1 K1
  refine awp_ret ?_
  refine ⟨trivial, (AMem.wth m [(r, rObj ((stepQ s).1))]), fun _ _ h => h, ?_⟩
  show K (.int .i64 ((stepQ s).2)) (AMem.wth m [(r, rObj ((stepQ s).1))])
 
  have e0 : moveQ s name to = ((((stepQ s).1), (stepQ s).2) : RSt × Int) := by
   first | (rw [moveQ, if_pos (by assumption)]; done) | (rw [moveQ, if_neg (by simp_all), if_pos (by assumption)]; done) | (rw [moveQ, if_neg (by simp_all), if_neg (by omega), if_pos (by assumption)]; done) | (rw [moveQ, if_neg (by simp_all), if_neg (by omega), if_neg (by assumption)]; done)
  rw [e0] at hK
  exact hK
 replace h4 : name ≠ to := (ne_of_beq_false h4)
 refine awp_skip ?_
 refine hK4 _ _ ?_; clear hK4
 refine awp_reg2_seq [] [6] (by decide) ?_
 intro K1 hK1
 refine ⟨trivial, trivial, trivial, ⟨rfl, by simp only [List.forall_mem_cons]; exact ⟨rfl, rfl, rfl, rfl, fun _ h => by cases h⟩, by simp only [List.forall_mem_cons]; exact ⟨rfl, rfl, rfl, fun _ h => by cases h⟩⟩, ?_⟩
 refine u_Qdo r s (⟨4, name, [], to⟩ : Trn) hR (by first | omega | (dsimp only; omega) | simp) _ _ ?_
 show aopsR _ _ _ _ _ _ (AMem.wth m [(r, rObj ((doQ s (⟨4, name, [], to⟩ : Trn)).1))])
 refine ⟨trivial, ?_⟩
 show K1 [(6, .int .i64 ((doQ s (⟨4, name, [], to⟩ : Trn)).2))] (AMem.wth m [(r, rObj ((doQ s (⟨4, name, [], to⟩ : Trn)).1))])
 refine hK1 _ _ ?_; clear hK1 K1
 refine awp_ret ?_
 refine ⟨trivial, (AMem.wth m [(r, rObj ((doQ s (⟨4, name, [], to⟩ : Trn)).1))]), fun _ _ h => h, ?_⟩
 show K (.int .i64 ((doQ s (⟨4, name, [], to⟩ : Trn)).2)) (AMem.wth m [(r, rObj ((doQ s (⟨4, name, [], to⟩ : Trn)).1))])

 have e0 : moveQ s name to = ((((doQ s (⟨4, name, [], to⟩ : Trn)).1), (doQ s (⟨4, name, [], to⟩ : Trn)).2) : RSt × Int) := by
  first | (rw [moveQ, if_pos (by assumption)]; done) | (rw [moveQ, if_neg (by simp_all), if_pos (by assumption)]; done) | (rw [moveQ, if_neg (by simp_all), if_neg (by omega), if_pos (by assumption)]; done) | (rw [moveQ, if_neg (by simp_all), if_neg (by omega), if_neg (by assumption)]; done)
 rw [e0] at hK
 exact hK

set_option maxHeartbeats 4000000 in
theorem u_QRemove (r : Nat) (s : RSt) (name : Str) (hR : RInv 0 s) (m : AMem)  (K : AV → AMem → Prop) (hK : K (.int .i64 (remQ s name).2) (AMem.wth m [(r, rObj (remQ s name).1)])) : ACalls Try.prog 31 [.ptr ⟨r, 0, none⟩, .str name] (AMem.wth m [(r, rObj s)]) K := by
 refine acalls_enter Try.func31 rfl (by decide) (Nat.le_of_ble_eq_true rfl) ?_
 show AWP _ _ _ _ [(0, .ptr ⟨r, 0, none⟩), (1, .str name)] (AMem.wth m [(r, rObj s)])
 refine awp_reg2_seq [] [0, 1] (by decide) ?_
 intro K1 hK1
 refine ⟨trivial, ?_⟩
 show K1 [(0, .ptr ⟨r, 0, none⟩), (1, .str name)] (AMem.wth m [(r, rObj s)])
 refine hK1 _ _ ?_; clear hK1 K1
 refine awp_seq_k ?_; intro K2 hK2
 refine awp_reg2_seq [] [0, 1, 11] (by decide) ?_
 intro K1 hK1
 refine ⟨trivial, trivial, ⟨rfl, by decide⟩, ?_⟩
 refine ar_loadp rfl (v := .slice false (s.now.map fileAV)) rfl (wth_get 0 (nodup_1 r) rfl) rfl (apartOk_one rfl rfl (Nat.le_of_ble_eq_true rfl)) rfl ?_
 refine ⟨trivial, ?_⟩
 refine u_Has s.now name _ _ ?_
 refine ⟨trivial, ?_⟩
 show K1 [(0, .ptr ⟨r, 0, none⟩), (1, .str name), (11, .bool (decide (hasR s.now name < 0)))] (AMem.wth m [(r, rObj s)])
 refine hK1 _ _ ?_; clear hK1 K1
 refine awp_cond rfl rfl (fun h1 => ?_) (fun h1 => ?_)
 ·
  replace h1 : hasR s.now name < 0 := (of_decide_eq_true h1)
  refine awp_reg2_seq [] [4] (by decide) ?_
  intro K1 hK1
  refine ⟨trivial, ?_⟩
  show K1 [(4, .int .i64 7)] (AMem.wth m [(r, rObj s)])
  refine hK1 _ _ ?_; clear hK1 K1
  refine awp_ret ?_
  refine ⟨trivial, (AMem.wth m [(r, rObj s)]), fun _ _ h => h, ?_⟩
  show K (.int .i64 7) (AMem.wth m [(r, rObj s)])
 
  have e0 : remQ s name = ((s, 7) : RSt × Int) := by
   first | (rw [remQ, if_pos (by assumption)]; done) | (rw [remQ, if_neg (by omega)]; done)
  rw [e0] at hK
  exact hK
 replace h1 : 0 ≤ hasR s.now name := (Int.not_lt.1 (of_decide_eq_false h1))
 refine awp_skip ?_
 refine hK2 _ _ ?_; clear hK2
 refine awp_reg2_seq [] [4] (by decide) ?_
 intro K1 hK1
 refine ⟨trivial, trivial, ⟨rfl, by simp only [List.forall_mem_cons]; exact ⟨rfl, rfl, rfl, rfl, fun _ h => by cases h⟩, by simp only [List.forall_mem_cons]; exact ⟨rfl, rfl, fun _ h => by cases h⟩⟩, ?_⟩
 refine u_Qdo r s (⟨5, name, [], []⟩ : Trn) hR (by first | omega | (dsimp only; omega) | simp) _ _ ?_
 show aopsR _ _ _ _ _ _ (AMem.wth m [(r, rObj ((doQ s (⟨5, name, [], []⟩ : Trn)).1))])
 refine ⟨trivial, ?_⟩
 show K1 [(4, .int .i64 ((doQ s (⟨5, name, [], []⟩ : Trn)).2))] (AMem.wth m [(r, rObj ((doQ s (⟨5, name, [], []⟩ : Trn)).1))])
 refine hK1 _ _ ?_; clear hK1 K1
 refine awp_ret ?_
 refine ⟨trivial, (AMem.wth m [(r, rObj ((doQ s (⟨5, name, [], []⟩ : Trn)).1))]), fun _ _ h => h, ?_⟩
 show K (.int .i64 ((doQ s (⟨5, name, [], []⟩ : Trn)).2)) (AMem.wth m [(r, rObj ((doQ s (⟨5, name, [], []⟩ : Trn)).1))])

 have e0 : remQ s name = ((((doQ s (⟨5, name, [], []⟩ : Trn)).1), (doQ s (⟨5, name, [], []⟩ : Trn)).2) : RSt × Int) := by
  first | (rw [remQ, if_pos (by assumption)]; done) | (rw [remQ, if_neg (by omega)]; done)
 rw [e0] at hK
 exact hK

set_option maxHeartbeats 4000000 in
theorem u_QSync (r : Nat) (s : RSt) (hR : RInv 0 s) (m : AMem)  (K : AV → AMem → Prop) (hK : K (.int .i64 (syncQ s).2) (AMem.wth m [(r, rObj (syncQ s).1)])) : ACalls Try.prog 34 [.ptr ⟨r, 0, none⟩] (AMem.wth m [(r, rObj s)]) K := by
 have hk := stepQ_keep s
 have hnl := hR.nl
 have hnl2 : (stepQ s).1.now.length ≤ 1000 := by rw [hk.2.1]; omega
 refine acalls_enter Try.func34 rfl (by decide) (Nat.le_of_ble_eq_true rfl) ?_
 show AWP _ _ _ _ [(0, .ptr ⟨r, 0, none⟩)] (AMem.wth m [(r, rObj s)])
 refine awp_reg2_seq [] [0] (by decide) ?_
 intro K1 hK1
 refine ⟨trivial, ?_⟩
 show K1 [(0, .ptr ⟨r, 0, none⟩)] (AMem.wth m [(r, rObj s)])
 refine hK1 _ _ ?_; clear hK1 K1
 refine awp_reg2_seq [] [0, 3] (by decide) ?_
 intro K1 hK1
 refine ⟨trivial, ?_⟩
 refine u_QStep r s hR _ _ ?_
 show aopsR _ _ _ _ _ _ (AMem.wth m [(r, rObj ((stepQ s).1))])
 refine ⟨trivial, ?_⟩
 show K1 [(0, .ptr ⟨r, 0, none⟩), (3, .int .i64 ((stepQ s).2))] (AMem.wth m [(r, rObj ((stepQ s).1))])
 refine hK1 _ _ ?_; clear hK1 K1
 refine awp_seq_k ?_; intro K2 hK2
 refine awp_reg2_seq [] [0, 3, 7] (by decide) ?_
 intro K1 hK1
 refine ⟨trivial, trivial, ?_⟩
 show K1 [(0, .ptr ⟨r, 0, none⟩), (3, .int .i64 ((stepQ s).2)), (7, .bool (((stepQ s).2) == 0))] (AMem.wth m [(r, rObj ((stepQ s).1))])
 refine hK1 _ _ ?_; clear hK1 K1
 refine awp_cond rfl rfl (fun h1 => ?_) (fun h1 => ?_)
 ·
  replace h1 : (stepQ s).2 = 0 := (eq_of_beq h1)
  refine awp_reg2_seq [] [0, 3] (by decide) ?_
  intro K1 hK1
  refine ⟨trivial, trivial, trivial, ⟨rfl, by decide⟩, ?_⟩
  refine ar_loadp rfl (v := .slice false ((((stepQ s).1).now).map fileAV)) rfl (wth_get 0 (nodup_1 r) rfl) rfl (apartOk_one rfl rfl (Nat.le_of_ble_eq_true rfl)) rfl ?_
  refine ar_append0 rfl fileAV (((stepQ s).1).now) rfl rfl rfl rfl (Nat.le_of_ble_eq_true rfl) rfl (by (simp only [show Try.prog.bytesOf 118 = 32 from rfl, List.length_append, List.length_cons, List.length_nil]; omega)) (fun _ => ⟨rfl, rfl⟩) ?_
  refine ⟨trivial, ⟨rfl, by decide⟩, ?_⟩
  refine ar_storep rfl 0 (v := .slice true ((((stepQ s).1).now).map fileAV)) (l' := [.slice true ((((stepQ s).1).now).map fileAV), .slice true ((((stepQ s).1).now).map fileAV), .slice true ((((stepQ s).1).wait).map trnAV), .int .i64 (((stepQ s).1).fuse), .bool (((stepQ s).1).down), .int .i64 (((stepQ s).1).steps)]) rfl rfl (nodup_1 r) rfl rfl rfl rfl rfl (Nat.le_of_ble_eq_true rfl) rfl ?_
  show K1 [(0, .ptr ⟨r, 0, none⟩), (3, .int .i64 ((stepQ s).2))] (AMem.wth m [(r, .cells [.slice true ((((stepQ s).1).now).map fileAV), .slice true ((((stepQ s).1).now).map fileAV), .slice true ((((stepQ s).1).wait).map trnAV), .int .i64 (((stepQ s).1).fuse), .bool (((stepQ s).1).down), .int .i64 (((stepQ s).1).steps)])])
  refine hK1 _ _ ?_; clear hK1 K1
  refine awp_reg2 [] [3] (by decide) ?_
  intro K1 hK1
  refine ⟨trivial, trivial, ⟨rfl, by decide⟩, ?_⟩
  refine ar_storep rfl 0 (v := .slice true []) (l' := [.slice true ((((stepQ s).1).now).map fileAV), .slice true ((((stepQ s).1).now).map fileAV), .slice true [], .int .i64 (((stepQ s).1).fuse), .bool (((stepQ s).1).down), .int .i64 (((stepQ s).1).steps)]) rfl rfl (nodup_1 r) rfl rfl rfl rfl rfl (Nat.le_of_ble_eq_true rfl) rfl ?_
  show K1 [(3, .int .i64 ((stepQ s).2))] (AMem.wth m [(r, .cells [.slice true ((((stepQ s).1).now).map fileAV), .slice true ((((stepQ s).1).now).map fileAV), .slice true [], .int .i64 (((stepQ s).1).fuse), .bool (((stepQ s).1).down), .int .i64 (((stepQ s).1).steps)])])
  refine hK1 _ _ ?_; clear hK1 K1
  refine hK2 _ _ ?_; clear hK2
  refine awp_reg2_seq [] [2] (by decide) ?_
  intro K1 hK1
  refine ⟨trivial, trivial, ?_⟩
  show K1 [(2, .int .i64 ((stepQ s).2))] (AMem.wth m [(r, .cells [.slice true ((((stepQ s).1).now).map fileAV), .slice true ((((stepQ s).1).now).map fileAV), .slice true [], .int .i64 (((stepQ s).1).fuse), .bool (((stepQ s).1).down), .int .i64 (((stepQ s).1).steps)])])
  refine hK1 _ _ ?_; clear hK1 K1
  refine awp_ret ?_
  refine ⟨trivial, (AMem.wth m [(r, .cells [.slice true ((((stepQ s).1).now).map fileAV), .slice true ((((stepQ s).1).now).map fileAV), .slice true [], .int .i64 (((stepQ s).1).fuse), .bool (((stepQ s).1).down), .int .i64 (((stepQ s).1).steps)])]), fun _ _ h => h, ?_⟩
  show K (.int .i64 ((stepQ s).2)) (AMem.wth m [(r, .cells [.slice true ((((stepQ s).1).now).map fileAV), .slice true ((((stepQ s).1).now).map fileAV), .slice true [], .int .i64 (((stepQ s).1).fuse), .bool (((stepQ s).1).down), .int .i64 (((stepQ s).1).steps)])])
 
  have e0 : syncQ s = (((⟨((stepQ s).1).now, ((stepQ s).1).now, [], ((stepQ s).1).fuse, (((stepQ s).1).down), ((stepQ s).1).steps⟩ : RSt), (stepQ s).2) : RSt × Int) := by
   first | (rw [syncQ, if_pos (by assumption), ← hk.2.1]; done) | (rw [syncQ, if_neg (by assumption)]; done)
  rw [e0] at hK
  exact hK
 replace h1 : (stepQ s).2 ≠ 0 := (ne_of_beq_false h1)
 refine awp_skip ?_
 refine hK2 _ _ ?_; clear hK2
 refine awp_reg2_seq [] [2] (by decide) ?_
 intro K1 hK1
 refine ⟨trivial, trivial, ?_⟩
 show K1 [(2, .int .i64 ((stepQ s).2))] (AMem.wth m [(r, rObj ((stepQ s).1))])
 refine hK1 _ _ ?_; clear hK1 K1
 refine awp_ret ?_
 refine ⟨trivial, (AMem.wth m [(r, rObj ((stepQ s).1))]), fun _ _ h => h, ?_⟩
 show K (.int .i64 ((stepQ s).2)) (AMem.wth m [(r, rObj ((stepQ s).1))])

 have e0 : syncQ s = ((((stepQ s).1), (stepQ s).2) : RSt × Int) := by
  first | (rw [syncQ, if_pos (by assumption), ← hk.2.1]; done) | (rw [syncQ, if_neg (by assumption)]; done)
 rw [e0] at hK
 exact hK

set_option maxHeartbeats 4000000 in
theorem u_QRead (r : Nat) (s : RSt) (name : Str)  (m : AMem)  (K : AV → AMem → Prop) (hK : K (.tuple [.str (readQ s name).1, .int .i64 (readQ s name).2]) (AMem.wth m [(r, rObj s)])) : ACalls Try.prog 32 [.ptr ⟨r, 0, none⟩, .str name] (AMem.wth m [(r, rObj s)]) K := by
 refine acalls_enter Try.func32 rfl (by decide) (Nat.le_of_ble_eq_true rfl) ?_
 show AWP _ _ _ _ [(0, .ptr ⟨r, 0, none⟩), (1, .str name)] (AMem.wth m [(r, rObj s)])
 refine awp_reg2_seq [] [0, 1] (by decide) ?_
 intro K1 hK1
 refine ⟨trivial, trivial, ?_⟩
 show K1 [(0, .ptr ⟨r, 0, none⟩), (1, .str name)] (AMem.wth m [(r, rObj s)])
 refine hK1 _ _ ?_; clear hK1 K1
 refine awp_seq_k ?_; intro K2 hK2
 refine awp_reg2_seq [] [0, 1, 10] (by decide) ?_
 intro K1 hK1
 refine ⟨trivial, trivial, ⟨rfl, by decide⟩, ?_⟩
 refine ar_loadp rfl (v := .bool s.down) rfl (wth_get 0 (nodup_1 r) rfl) rfl (apartOk_one rfl rfl (Nat.le_of_ble_eq_true rfl)) rfl ?_
 show K1 [(0, .ptr ⟨r, 0, none⟩), (1, .str name), (10, .bool s.down)] (AMem.wth m [(r, rObj s)])
 refine hK1 _ _ ?_; clear hK1 K1
 refine awp_cond rfl rfl (fun h1 => ?_) (fun h1 => ?_)
 ·
  replace h1 : s.down = true := h1
  refine awp_reg2_seq [] [4, 5] (by decide) ?_
  intro K1 hK1
  refine ⟨trivial, trivial, ?_⟩
  show K1 [(4, .str ([])), (5, .int .i64 10)] (AMem.wth m [(r, rObj s)])
  refine hK1 _ _ ?_; clear hK1 K1
  refine awp_ret ?_
  refine ⟨trivial, trivial, (AMem.wth m [(r, rObj s)]), fun _ _ h => h, ?_⟩
  show K (.tuple [.str ([]), .int .i64 10]) (AMem.wth m [(r, rObj s)])
 
  have e0 : readQ s name = (([], 10) : Str × Int) := by
   first | (rw [readQ, if_pos (by assumption)]; done) | (rw [readQ, if_neg (by simp_all), if_pos (by assumption)]; done) | (rw [readQ, if_neg (by simp_all), if_neg (by omega), ← (hasR_get (by omega)).2]; done)
  rw [e0] at hK
  exact hK
 replace h1 : s.down = false := h1
 refine awp_skip ?_
 refine hK2 _ _ ?_; clear hK2
 refine awp_reg2_seq [] [0, 6] (by decide) ?_
 intro K1 hK1
 refine ⟨trivial, trivial, ⟨rfl, by decide⟩, ?_⟩
 refine ar_loadp rfl (v := .slice false (s.now.map fileAV)) rfl (wth_get 0 (nodup_1 r) rfl) rfl (apartOk_one rfl rfl (Nat.le_of_ble_eq_true rfl)) rfl ?_
 refine ⟨trivial, ?_⟩
 refine u_Has s.now name _ _ ?_
 refine ⟨trivial, ?_⟩
 show K1 [(0, .ptr ⟨r, 0, none⟩), (6, .int .i64 (hasR s.now name))] (AMem.wth m [(r, rObj s)])
 refine hK1 _ _ ?_; clear hK1 K1
 refine awp_seq_k ?_; intro K3 hK3
 refine awp_reg2_seq [] [0, 6, 18] (by decide) ?_
 intro K1 hK1
 refine ⟨trivial, trivial, ?_⟩
 show K1 [(0, .ptr ⟨r, 0, none⟩), (6, .int .i64 (hasR s.now name)), (18, .bool (decide (hasR s.now name < 0)))] (AMem.wth m [(r, rObj s)])
 refine hK1 _ _ ?_; clear hK1 K1
 refine awp_cond rfl rfl (fun h2 => ?_) (fun h2 => ?_)
 ·
  replace h2 : hasR s.now name < 0 := (of_decide_eq_true h2)
  refine awp_reg2_seq [] [4, 5] (by decide) ?_
  intro K1 hK1
  refine ⟨trivial, trivial, ?_⟩
  show K1 [(4, .str ([])), (5, .int .i64 7)] (AMem.wth m [(r, rObj s)])
  refine hK1 _ _ ?_; clear hK1 K1
  refine awp_ret ?_
  refine ⟨trivial, trivial, (AMem.wth m [(r, rObj s)]), fun _ _ h => h, ?_⟩
  show K (.tuple [.str ([]), .int .i64 7]) (AMem.wth m [(r, rObj s)])
 
  have e0 : readQ s name = (([], 7) : Str × Int) := by
   first | (rw [readQ, if_pos (by assumption)]; done) | (rw [readQ, if_neg (by simp_all), if_pos (by assumption)]; done) | (rw [readQ, if_neg (by simp_all), if_neg (by omega), ← (hasR_get (by omega)).2]; done)
  rw [e0] at hK
  exact hK
 replace h2 : 0 ≤ hasR s.now name := (Int.not_lt.1 (of_decide_eq_false h2))
 refine awp_skip ?_
 refine hK3 _ _ ?_; clear hK3
 refine awp_reg2_seq [] [4, 5] (by decide) ?_
 intro K1 hK1
 refine ⟨trivial, trivial, ⟨rfl, by decide⟩, ?_⟩
 refine ar_loadp rfl (v := .slice false (s.now.map fileAV)) rfl (wth_get 0 (nodup_1 r) rfl) rfl (apartOk_one rfl rfl (Nat.le_of_ble_eq_true rfl)) rfl ?_
 refine ⟨trivial, ?_⟩
 refine ar_index rfl fileAV s.now (hasR s.now name) rfl rfl rfl rfl rfl (by decide) (fun _ => rfl) (by omega) (by exact (hasR_get (by omega)).1) ?_
 refine ⟨⟨rfl, by decide, (Nat.le_of_ble_eq_true rfl)⟩, (apartOk_one rfl rfl (Nat.le_of_ble_eq_true rfl)), trivial, trivial, ?_⟩
 show K1 [(4, .str ((gI s.now (hasR s.now name)).2)), (5, .int .i64 0)] (AMem.wth m [(r, rObj s)])
 refine hK1 _ _ ?_; clear hK1 K1
 refine awp_ret ?_
 refine ⟨trivial, trivial, (AMem.wth m [(r, rObj s)]), fun _ _ h => h, ?_⟩
 show K (.tuple [.str ((gI s.now (hasR s.now name)).2), .int .i64 0]) (AMem.wth m [(r, rObj s)])

 have e0 : readQ s name = (((gI s.now (hasR s.now name)).2, 0) : Str × Int) := by
  first | (rw [readQ, if_pos (by assumption)]; done) | (rw [readQ, if_neg (by simp_all), if_pos (by assumption)]; done) | (rw [readQ, if_neg (by simp_all), if_neg (by omega), ← (hasR_get (by omega)).2]; done)
 rw [e0] at hK
 exact hK

theorem u_QNew   (m : AMem)  (K : AV → AMem → Prop) (hK : ∀ r, m r = none → K (.ptr ⟨r, 0, none⟩) (AMem.wth m [(r, rObj ⟨[], [], [], -1, false, 0⟩)])) : ACalls Try.prog 24 [] m K := by
 refine acalls_enter Try.func24 rfl (by decide) (Nat.le_of_ble_eq_true rfl) ?_
 show AWP _ _ _ _ [] m
 refine awp_reg2_seq [] [] (by decide) ?_
 intro K1 hK1
 refine ⟨trivial, ?_⟩
 show K1 [] m
 refine hK1 _ _ ?_; clear hK1 K1
 refine awp_reg2_seq [] [0] (by decide) ?_
 intro K1 hK1
 refine ⟨⟨rfl, by simp only [List.forall_mem_cons]; exact ⟨rfl, rfl, rfl, rfl, rfl, rfl, fun _ h => by cases h⟩, by simp only [List.forall_mem_cons]; exact ⟨rfl, fun _ h => by cases h⟩⟩, ?_⟩
 refine ar_box rfl (m := m) (L := []) (v := .agg [.slice true [], .slice true [], .slice true [], .int .i64 (-1), .bool false, .int .i64 0]) rfl rfl ?_
 intro b1 hb1
 have hFb1 : m b1 = none := wth_none (m := m) (L := []) hb1
 have hNb1 : ([b1] : List Nat).Nodup := wth_nodup (m := m) (L := []) hb1 List.nodup_nil
 refine ⟨trivial, ?_⟩
 show K1 [(0, .ptr ⟨b1, 0, none⟩)] (AMem.wth m [(b1, .cells [.slice true [], .slice true [], .slice true [], .int .i64 (-1), .bool false, .int .i64 0])])
 refine hK1 _ _ ?_; clear hK1 K1
 refine awp_ret ?_
 refine ⟨trivial, (AMem.wth m [(b1, .cells [.slice true [], .slice true [], .slice true [], .int .i64 (-1), .bool false, .int .i64 0])]), fun _ _ h => h, ?_⟩
 show K (.ptr ⟨b1, 0, none⟩) (AMem.wth m [(b1, .cells [.slice true [], .slice true [], .slice true [], .int .i64 (-1), .bool false, .int .i64 0])])

 exact hK b1 hFb1

set_option maxHeartbeats 4000000 in
theorem u_QList (r : Nat) (s : RSt) (hR : RInv 0 s) (m : AMem)  (K : AV → AMem → Prop) (hK : K (.tuple [.slice true ((listQ s).1.map strAV), .int .i64 (listQ s).2]) (AMem.wth m [(r, rObj s)])) : ACalls Try.prog 78 [.ptr ⟨r, 0, none⟩] (AMem.wth m [(r, rObj s)]) K := by
 have hnl := hR.nl
 refine acalls_enter Try.func78 rfl (by decide) (Nat.le_of_ble_eq_true rfl) ?_
 show AWP _ _ _ _ [(0, .ptr ⟨r, 0, none⟩)] (AMem.wth m [(r, rObj s)])
 refine awp_reg2_seq [] [0] (by decide) ?_
 intro K1 hK1
 refine ⟨trivial, trivial, ?_⟩
 show K1 [(0, .ptr ⟨r, 0, none⟩)] (AMem.wth m [(r, rObj s)])
 refine hK1 _ _ ?_; clear hK1 K1
 refine awp_seq_k ?_; intro K2 hK2
 refine awp_reg2_seq [] [0, 9] (by decide) ?_
 intro K1 hK1
 refine ⟨trivial, trivial, ⟨rfl, by decide⟩, ?_⟩
 refine ar_loadp rfl (v := .bool s.down) rfl (wth_get 0 (nodup_1 r) rfl) rfl (apartOk_one rfl rfl (Nat.le_of_ble_eq_true rfl)) rfl ?_
 show K1 [(0, .ptr ⟨r, 0, none⟩), (9, .bool s.down)] (AMem.wth m [(r, rObj s)])
 refine hK1 _ _ ?_; clear hK1 K1
 refine awp_cond rfl rfl (fun h1 => ?_) (fun h1 => ?_)
 ·
  replace h1 : s.down = true := h1
  refine awp_reg2_seq [] [2, 3] (by decide) ?_
  intro K1 hK1
  refine ⟨trivial, trivial, ?_⟩
  show K1 [(2, .slice true []), (3, .int .i64 10)] (AMem.wth m [(r, rObj s)])
  refine hK1 _ _ ?_; clear hK1 K1
  refine awp_ret ?_
  refine ⟨trivial, trivial, (AMem.wth m [(r, rObj s)]), fun _ _ h => h, ?_⟩
  show K (.tuple [.slice true [], .int .i64 10]) (AMem.wth m [(r, rObj s)])
 
  have e0 : listQ s = (([], 10) : List Str × Int) := by
   first | (rw [listQ, if_pos (by assumption)]; done) | (have e := hI.2.2; rw [take_full (by omega)] at e; rw [listQ, if_neg (by simp [h1]), e]; done)
  rw [e0] at hK
  exact hK
 replace h1 : s.down = false := h1
 refine awp_skip ?_
 refine hK2 _ _ ?_; clear hK2
 refine awp_reg2_seq [] [0, 4] (by decide) ?_
 intro K1 hK1
 refine ⟨trivial, ?_⟩
 show K1 [(0, .ptr ⟨r, 0, none⟩), (4, .slice true [])] (AMem.wth m [(r, rObj s)])
 refine hK1 _ _ ?_; clear hK1 K1
 refine awp_seq_k ?_; intro K3 hK3
 refine awp_reg2_seq [] [0, 4, 5] (by decide) ?_
 intro K1 hK1
 refine ⟨trivial, ?_⟩
 show K1 [(0, .ptr ⟨r, 0, none⟩), (4, .slice true []), (5, .int .i64 0)] (AMem.wth m [(r, rObj s)])
 refine hK1 _ _ ?_; clear hK1 K1
 refine awp_block ?_
 refine awp_keep [0, 4, 5] (by decide) ?_
 refine awp_loop_st (σ := (List (List UInt8)) × Int) (fun ⟨out, i⟩ => [(0, .ptr ⟨r, 0, none⟩), (4, .slice true (out.map strAV)), (5, .int .i64 i)]) (fun _ => (AMem.wth m [(r, rObj s)])) (fun ⟨out, i⟩ => 0 ≤ i ∧ i ≤ s.now.length ∧ out = (s.now.take i.toNat).map Prod.fst) (fun ⟨out, i⟩ => s.now.length - i.toNat) ([], 0) rfl rfl ?_ ?_
 ·
  show 0 ≤ ((0 : Int)) ∧ ((0 : Int)) ≤ s.now.length ∧ (([] : (List (List UInt8)))) = (s.now.take ((0 : Int)).toNat).map Prod.fst
  exact ⟨by omega, by omega, by simp⟩
 rintro ⟨out, i⟩ hI
 replace hI : 0 ≤ i ∧ i ≤ s.now.length ∧ out = (s.now.take i.toNat).map Prod.fst := hI
 show AWP _ _ _ _ [(0, .ptr ⟨r, 0, none⟩), (4, .slice true (out.map strAV)), (5, .int .i64 i)] (AMem.wth m [(r, rObj s)])
 refine awp_seq_k ?_; intro K4 hK4
 refine awp_reg2_seq [] [0, 4, 5, 16] (by decide) ?_
 intro K1 hK1
 refine ⟨trivial, trivial, trivial, ⟨rfl, by decide⟩, ?_⟩
 refine ar_loadp rfl (v := .slice false (s.now.map fileAV)) rfl (wth_get 0 (nodup_1 r) rfl) rfl (apartOk_one rfl rfl (Nat.le_of_ble_eq_true rfl)) rfl ?_
 refine ar_len rfl fileAV s.now rfl rfl rfl ?_
 refine ⟨trivial, ?_⟩
 show K1 [(0, .ptr ⟨r, 0, none⟩), (4, .slice true (out.map strAV)), (5, .int .i64 i), (16, .bool (decide (i < (s.now.length : Int))))] (AMem.wth m [(r, rObj s)])
 refine hK1 _ _ ?_; clear hK1 K1
 refine awp_cond rfl rfl (fun h2 => ?_) (fun h2 => ?_)
 ·
  replace h2 : i < (s.now.length : Int) := (of_decide_eq_true h2)
  have hol : out.length ≤ 1000 := by rw [hI.2.2]; simp; omega
  refine awp_skip ?_
  refine hK4 _ _ ?_; clear hK4
  refine awp_seq_k ?_; intro K5 hK5
  refine awp_block ?_
  refine awp_reg2 [19] [0, 4, 5] (by decide) ?_
  intro K1 hK1
  refine ⟨trivial, trivial, trivial, ⟨rfl, by decide⟩, ?_⟩
  refine ar_loadp rfl (v := .slice false (s.now.map fileAV)) rfl (wth_get 0 (nodup_1 r) rfl) rfl (apartOk_one rfl rfl (Nat.le_of_ble_eq_true rfl)) rfl ?_
  refine ⟨trivial, ?_⟩
  refine ar_index rfl fileAV s.now i rfl rfl rfl rfl rfl (by decide) (fun _ => rfl) (by omega) (by omega) ?_
  refine ⟨⟨rfl, by decide, (Nat.le_of_ble_eq_true rfl)⟩, (apartOk_one rfl rfl (Nat.le_of_ble_eq_true rfl)), ⟨rfl, Nat.le_of_ble_eq_true rfl, rfl, Nat.le_of_ble_eq_true rfl, rfl, by simp only [List.forall_mem_cons]; exact ⟨⟨rfl, rfl⟩, fun _ h => by cases h⟩⟩, ?_⟩
  refine ar_append rfl strAV out ([(gI s.now i).1] : List (List UInt8)) rfl rfl rfl rfl rfl rfl (Nat.le_of_ble_eq_true rfl) rfl (by (simp only [show Try.prog.bytesOf 9 = 16 from rfl, List.length_append, List.length_cons, List.length_nil]; omega)) (by (first | omega | (simp only [List.length_append, List.length_cons, List.length_nil]; omega))) (fun _ => ⟨rfl, rfl⟩) ?_
  refine ⟨trivial, ?_⟩
  show K1 [(0, .ptr ⟨r, 0, none⟩), (4, .slice true ((out ++ ([(gI s.now i).1] : List (List UInt8))).map strAV)), (5, .int .i64 i)] (AMem.wth m [(r, rObj s)])
  refine hK1 _ _ ?_; clear hK1 K1
  refine hK5 _ _ ?_; clear hK5
  refine awp_reg2 [] [0, 4, 5] (by decide) ?_
  intro K1 hK1
  refine ⟨trivial, ?_⟩
  refine ar_add rfl (a := i) (b := 1) rfl rfl (by omega) (by omega) ?_
  refine ⟨trivial, ?_⟩
  show K1 [(0, .ptr ⟨r, 0, none⟩), (4, .slice true ((out ++ ([(gI s.now i).1] : List (List UInt8))).map strAV)), (5, .int .i64 (i + 1))] (AMem.wth m [(r, rObj s)])
  refine hK1 _ _ ?_; clear hK1 K1
  refine ⟨(out ++ ([(gI s.now i).1] : List (List UInt8)), i + 1), rfl, rfl, ?_, ?_⟩
  ·
   show 0 ≤ ((i + 1 : Int)) ∧ ((i + 1 : Int)) ≤ s.now.length ∧ ((out ++ ([(gI s.now i).1] : List (List UInt8)) : (List (List UInt8)))) = (s.now.take ((i + 1 : Int)).toNat).map Prod.fst
   exact ⟨by omega, by omega, by rw [take_succ_gI hI.1 h2, List.map_append, ← hI.2.2]; rfl⟩
  ·
   show s.now.length - ((i + 1 : Int)).toNat < s.now.length - i.toNat
   omega
 replace h2 : (s.now.length : Int) ≤ i := (Int.not_lt.1 (of_decide_eq_false h2))
 refine awp_exit ?_
 refine hK3 _ _ ?_; clear hK3
 refine awp_reg2_seq [30] [2, 3] (by decide) ?_
 intro K1 hK1
 refine ⟨trivial, trivial, trivial, ?_⟩
 show K1 [(2, .slice true (out.map strAV)), (3, .int .i64 0)] (AMem.wth m [(r, rObj s)])
 refine hK1 _ _ ?_; clear hK1 K1
 refine awp_ret ?_
 refine ⟨trivial, trivial, (AMem.wth m [(r, rObj s)]), fun _ _ h => h, ?_⟩
 show K (.tuple [.slice true (out.map strAV), .int .i64 0]) (AMem.wth m [(r, rObj s)])

 have e0 : listQ s = ((out, 0) : List Str × Int) := by
  first | (rw [listQ, if_pos (by assumption)]; done) | (have e := hI.2.2; rw [take_full (by omega)] at e; rw [listQ, if_neg (by simp [h1]), e]; done)
 rw [e0] at hK
 exact hK

end Go.Proofs
