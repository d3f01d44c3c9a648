import Derived.Test.YtoeghipbkmaccaaProg
import Derived.Test.YtoeghipbkmaccaaMix
import Derived.Test.YtoeghipbkmaccaaWxe
import Derived.Test.YtoeghipbkmaccaaWl4
namespace Go.Proofs
open Go Go.Aw
set_option maxRecDepth 100000


def openB (s : DSt) (name t : Str) : DSt × Int × (List Str × Int) :=
  if (splitR t).2 < (t.length : Int) then
    if (writeR s name (sub t 0 (splitR t).2)).2 ≠ 0 then ((writeR s name (sub t 0 (splitR t).2)).1, (writeR s name (sub t 0 (splitR t).2)).2, ([], 0))
    else if (syncF (writeR s name (sub t 0 (splitR t).2)).1).2 ≠ 0 then ((syncF (writeR s name (sub t 0 (splitR t).2)).1).1, (syncF (writeR s name (sub t 0 (splitR t).2)).1).2, ([], 0))
    else ((syncF (writeR s name (sub t 0 (splitR t).2)).1).1, 0, splitR t)
  else (s, 0, splitR t)
def openR (s : DSt) (name : Str) : DSt × Int × (List Str × Int) :=
  if nameF name = false then (s, 3, ([], 0))
  else if (readR s name).2 = 7 then openB s name []
  else if (readR s name).2 ≠ 0 then (s, (readR s name).2, ([], 0))
  else openB s name (readR s name).1
theorem readR_len {N : Nat} {s : DSt} {name : Str} (h : DInv N s) : (readR s name).1.length ≤ 4000 * N := by
  unfold readR
  split
  · simp
  · split
    · simp
    · exact mget_le h.nb
theorem readR_none {s : DSt} {name : Str} (h : (readR s name).2 ≠ 0) : (readR s name).1 = [] := by
  unfold readR at h ⊢
  split
  · rfl
  · rename_i h1
    rw [if_neg h1] at h
    split
    · rfl
    · rename_i h2; rw [if_neg h2] at h; exact absurd rfl h
theorem splitF_end (s : Str) : ∀ (n : Nat) (a : Int) (l : List Str), 0 ≤ a → a ≤ s.length → 0 ≤ (splitF n s a l).2 ∧ (splitF n s a l).2 ≤ s.length
  | 0, a, l, h0, h1 => ⟨h0, h1⟩
  | n + 1, a, l, h0, h1 => by
    rw [splitF]
    split
    · exact ⟨h0, h1⟩
    · split
      · exact ⟨h0, h1⟩
      · rename_i h2 h3
        split
        · exact ⟨h0, h1⟩
        · have : lenAt s a = ((gI s a).toNat : Int) + 256 * ((gI s (a + 1)).toNat : Int) := rfl
          exact splitF_end s n _ _ (by omega) (by omega)
theorem splitR_end (s : Str) : 0 ≤ (splitR s).2 ∧ (splitR s).2 ≤ s.length := splitF_end s _ 0 [] (by omega) (by omega)
theorem writeR_inv {N : Nat} {s : DSt} {name data : Str} (h : DInv N s) : DInv (N + 1) (writeR s name data).1 := by
  unfold writeR
  split
  · exact h.mono (by omega)
  · rename_i h1
    have := mayR_size (by omega : mayR s name data.length = 0)
    exact h.do (by show data.length ≤ 4000; omega)
theorem appR_inv {N : Nat} {s : DSt} {name data : Str} (h : DInv N s) : DInv (N + 1) (appR s name data).1 := by
  unfold appR
  split
  · exact h.mono (by omega)
  · split
    · exact h.mono (by omega)
    · exact h.do (by show data.length ≤ 4000; omega)


theorem doF_kept (s : DSt) (c : Chg) : (doF s c).1.kept = s.kept := by
  unfold doF; split
  · exact (stepF_keep s).1
  · exact (stepF_keep s).1
theorem writeR_kept (s : DSt) (n x : Str) : (writeR s n x).1.kept = s.kept := by
  unfold writeR; split
  · rfl
  · exact doF_kept _ _
theorem appR_kept (s : DSt) (n x : Str) : (appR s n x).1.kept = s.kept := by
  unfold appR; split
  · rfl
  · split
    · rfl
    · exact doF_kept _ _
theorem syncF_now (s : DSt) : (syncF s).1.now = s.now := by
  unfold syncF; split
  · exact (stepF_keep s).2.1
  · exact (stepF_keep s).2.1
theorem u_Write3 (d kb nb : Nat) (s : DSt) (name data : Str) (N : Nat) (hN : [d, nb, kb].Nodup) (hD : DInv N s) (hNN : N ≤ 100000) (hn : name.length ≤ 16777216) (hd : data.length ≤ 16777216) (m : AMem) (K : AV → AMem → Prop)
    (hK : K (.err 108 (writeR s name data).2) (AMem.wth m [(d, dObj kb nb (writeR s name data).1), (nb, mObj (writeR s name data).1.now), (kb, mObj (writeR s name data).1.kept)])) :
    ACalls Try.prog 12 [.ptr ⟨d, 0, none⟩, .str name, .str data] (AMem.wth m [(d, dObj kb nb s), (nb, mObj s.now), (kb, mObj s.kept)]) K := by
  rw [writeR_kept] at hK
  exact u_Write d kb nb s name data N (by simp at hN ⊢; omega) hD hNN hn hd (AMem.wth m [(kb, mObj s.kept)]) K hK
theorem u_App3 (d kb nb : Nat) (s : DSt) (name data : Str) (N : Nat) (hN : [d, nb, kb].Nodup) (hD : DInv N s) (hNN : N ≤ 100000) (hn : name.length ≤ 16777216) (hd : data.length ≤ 16777216) (m : AMem) (K : AV → AMem → Prop)
    (hK : K (.err 108 (appR s name data).2) (AMem.wth m [(d, dObj kb nb (appR s name data).1), (nb, mObj (appR s name data).1.now), (kb, mObj (appR s name data).1.kept)])) :
    ACalls Try.prog 26 [.ptr ⟨d, 0, none⟩, .str name, .str data] (AMem.wth m [(d, dObj kb nb s), (nb, mObj s.now), (kb, mObj s.kept)]) K := by
  rw [appR_kept] at hK
  exact u_Append d kb nb s name data N (by simp at hN ⊢; omega) hD hNN hn hd (AMem.wth m [(kb, mObj s.kept)]) K hK
theorem u_Sync3 (d kb nb : Nat) (s : DSt) (N : Nat) (hN : [d, kb, nb].Nodup) (hD : DInv N s) (hNN : N ≤ 100000) (m : AMem) (K : AV → AMem → Prop)
    (hK : K (.err 108 (syncF s).2) (AMem.wth m [(d, dObj kb nb (syncF s).1), (kb, mObj (syncF s).1.kept), (nb, mObj (syncF s).1.now)])) :
    ACalls Try.prog 33 [.ptr ⟨d, 0, none⟩] (AMem.wth m [(d, dObj kb nb s), (kb, mObj s.kept), (nb, mObj s.now)]) K := by
  rw [syncF_now] at hK
  exact u_Sync d kb nb s N (by simp at hN ⊢; omega) hD hNN (AMem.wth m [(nb, mObj s.now)]) K hK

set_option maxHeartbeats 4000000 in
theorem u_Open (d kb nb : Nat) (s : DSt) (name : Str) (N : Nat) (hN : [d, nb, kb].Nodup) (hD : DInv N s) (hNN : N ≤ 4000) (hn : name.length ≤ 16777216) (m : AMem)  (K : AV → AMem → Prop) (hE : (openR s name).2.1 ≠ 0 → K (.tuple [.nilptr, .err 108 (openR s name).2.1]) (AMem.wth m [(d, dObj kb nb (openR s name).1), (nb, mObj (openR s name).1.now), (kb, mObj (openR s name).1.kept)]))
 (hK : (openR s name).2.1 = 0 → ∀ x, ([x, d, nb, kb] : List Nat).Nodup → m x = none → K (.tuple [.ptr ⟨x, 0, none⟩, .err 108 0]) (AMem.wth m [(x, .cells [.ptr ⟨d, 0, none⟩, .str name, .slice true ((openR s name).2.2.1.map strAV), .int .i64 (openR s name).2.2.2]), (d, dObj kb nb (openR s name).1), (nb, mObj (openR s name).1.now), (kb, mObj (openR s name).1.kept)])) : ACalls Try.prog 13 [.ptr ⟨d, 0, none⟩, .str name] (AMem.wth m [(d, dObj kb nb s), (nb, mObj s.now), (kb, mObj s.kept)]) K := by
 have hrl := readR_len (name := name) hD
 have hrl2 : (readR s name).1.length ≤ 16777216 := by omega
 refine acalls_enter Try.func13 rfl (by decide) (Nat.le_of_ble_eq_true rfl) ?_
 show AWP _ _ _ _ [(0, .ptr ⟨d, 0, none⟩), (1, .str name)] (AMem.wth m [(d, dObj kb nb s), (nb, mObj s.now), (kb, mObj s.kept)])
 refine awp_reg2_seq [] [0, 1] (by decide) ?_
 intro K1 hK1
 refine ⟨trivial, trivial, ?_⟩
 show K1 [(0, .ptr ⟨d, 0, none⟩), (1, .str name)] (AMem.wth m [(d, dObj kb nb s), (nb, mObj s.now), (kb, mObj s.kept)])
 refine hK1 _ _ ?_; clear hK1 K1
 refine awp_seq_k ?_; intro K2 hK2
 refine awp_reg2_seq [] [0, 1, 12] (by decide) ?_
 intro K1 hK1
 refine ⟨trivial, ?_⟩
 refine u_Name name (by first | assumption | omega) _ _ ?_
 refine ⟨trivial, ?_⟩
 show K1 [(0, .ptr ⟨d, 0, none⟩), (1, .str name), (12, .bool (!(nameF name)))] (AMem.wth m [(d, dObj kb nb s), (nb, mObj s.now), (kb, mObj s.kept)])
 refine hK1 _ _ ?_; clear hK1 K1
 refine awp_cond rfl rfl (fun h1 => ?_) (fun h1 => ?_)
 ·
  replace h1 : nameF name = false := (bnT h1)
  refine awp_reg2_seq [] [4, 5] (by decide) ?_
  intro K1 hK1
  refine ⟨trivial, trivial, trivial, ?_⟩
  show K1 [(4, .nilptr), (5, .iface 108 (.int .i64 3))] (AMem.wth m [(d, dObj kb nb s), (nb, mObj s.now), (kb, mObj s.kept)])
  refine hK1 _ _ ?_; clear hK1 K1
  refine awp_toErr 108 [5] ?_
  show AWP _ _ _ _ [(4, .nilptr), (5, .err 108 3)] (AMem.wth m [(d, dObj kb nb s), (nb, mObj s.now), (kb, mObj s.kept)])
  refine awp_ret ?_
  refine ⟨trivial, trivial, (AMem.wth m [(d, dObj kb nb s), (nb, mObj s.now), (kb, mObj s.kept)]), fun _ _ h => h, ?_⟩
  show K (.tuple [.nilptr, .err 108 3]) (AMem.wth m [(d, dObj kb nb s), (nb, mObj s.now), (kb, mObj s.kept)])
 
  rw [openR, if_pos h1] at hE; exact hE (show (3 : Int) ≠ 0 by decide)
 ·
  replace h1 : nameF name = true := (bnF h1)
  have hse := splitR_end (readR s name).1
  have hsub : 0 ≤ (splitR (readR s name).1).2 → (splitR (readR s name).1).2 ≤ (readR s name).1.length → (sub (readR s name).1 0 (splitR (readR s name).1).2).length ≤ 16777216 := fun a b => by have := sub_len (readR s name).1 0 _ (by omega) a b; omega
  have hsub2 := hsub hse.1 hse.2
  refine awp_skip ?_
  refine hK2 _ _ ?_; clear hK2
  refine awp_reg2_seq [] [0, 1, 6, 7] (by decide) ?_
  intro K1 hK1
  refine ⟨trivial, trivial, ?_⟩
  refine ar_mem (wth_split hN (pick_perm [0, 0] _)) ?_
  refine u_Read d kb nb s name (by have q := hN; simp at q ⊢; omega) _ _ ?_
  show aopsR _ _ _ _ _ _ (AMem.wth (AMem.wth m [(kb, mObj s.kept)]) [(d, dObj kb nb s), (nb, mObj s.now)])
  refine ar_mem (wth_split (m := m) (L := [(d, dObj kb nb s), (nb, mObj s.now), (kb, mObj s.kept)]) hN (pick_perm [0, 0] _)).symm ?_
  refine ⟨trivial, (Nat.le_of_ble_eq_true rfl), (Nat.le_of_ble_eq_true rfl), trivial, trivial, ?_⟩
  show K1 [(0, .ptr ⟨d, 0, none⟩), (1, .str name), (6, .str ((readR s name).1)), (7, .err 108 ((readR s name).2))] (AMem.wth m [(d, dObj kb nb s), (nb, mObj s.now), (kb, mObj s.kept)])
  refine hK1 _ _ ?_; clear hK1 K1
  refine awp_seq_k ?_; intro K3 hK3
  refine awp_reg2_seq [] [0, 1, 6, 7, 22] (by decide) ?_
  intro K1 hK1
  refine ⟨trivial, trivial, ⟨rfl, rfl, rfl, rfl, rfl, by decide⟩, ?_⟩
  show K1 [(0, .ptr ⟨d, 0, none⟩), (1, .str name), (6, .str ((readR s name).1)), (7, .err 108 ((readR s name).2)), (22, .bool (((readR s name).2) == 7))] (AMem.wth m [(d, dObj kb nb s), (nb, mObj s.now), (kb, mObj s.kept)])
  refine hK1 _ _ ?_; clear hK1 K1
  refine awp_cond rfl rfl (fun h2 => ?_) (fun h2 => ?_)
  ·
   replace h2 : (readR s name).2 = 7 := (eq_of_beq h2)
   refine awp_reg2 [] [0, 1, 6, 7] (by decide) ?_
   intro K1 hK1
   refine ⟨trivial, trivial, ?_⟩
   show K1 [(0, .ptr ⟨d, 0, none⟩), (1, .str name), (6, .str ([])), (7, .nilIface)] (AMem.wth m [(d, dObj kb nb s), (nb, mObj s.now), (kb, mObj s.kept)])
   refine hK1 _ _ ?_; clear hK1 K1
   refine hK3 _ _ ?_; clear hK3
   refine awp_seq_k ?_; intro K4 hK4
   refine awp_reg2_seq [] [0, 1, 6, 7, 24] (by decide) ?_
   intro K1 hK1
   refine ⟨trivial, ⟨rfl, rfl⟩, ?_⟩
   show K1 [(0, .ptr ⟨d, 0, none⟩), (1, .str name), (6, .str ([])), (7, .nilIface), (24, .bool false)] (AMem.wth m [(d, dObj kb nb s), (nb, mObj s.now), (kb, mObj s.kept)])
   refine hK1 _ _ ?_; clear hK1 K1
   refine awp_cond rfl rfl (fun hcz => ?_) (fun hcz => ?_)
   ·
    cases hcz
   clear hcz
   refine awp_skip ?_
   refine hK4 _ _ ?_; clear hK4
   refine awp_reg2_seq [26, 29] [0, 1, 6, 8, 9] (by decide) ?_
   intro K1 hK1
   refine ⟨trivial, ?_⟩
   refine u_split ([]) (by first | assumption | omega | simp) _ _ ?_
   refine ⟨trivial, (Nat.le_of_ble_eq_true rfl), (Nat.le_of_ble_eq_true rfl), trivial, trivial, ?_⟩
   show K1 [(0, .ptr ⟨d, 0, none⟩), (1, .str name), (6, .str ([])), (8, .slice true (((splitR ([])).1).map strAV)), (9, .int .i64 ((splitR ([])).2))] (AMem.wth m [(d, dObj kb nb s), (nb, mObj s.now), (kb, mObj s.kept)])
   refine hK1 _ _ ?_; clear hK1 K1
   refine awp_seq_k ?_; intro K5 hK5
   refine awp_reg2_seq [] [0, 1, 6, 8, 9, 34] (by decide) ?_
   intro K1 hK1
   refine ⟨trivial, trivial, trivial, trivial, ?_⟩
   show K1 [(0, .ptr ⟨d, 0, none⟩), (1, .str name), (6, .str ([])), (8, .slice true (((splitR ([])).1).map strAV)), (9, .int .i64 ((splitR ([])).2)), (34, .bool (decide ((splitR ([])).2 < (([]).length : Int))))] (AMem.wth m [(d, dObj kb nb s), (nb, mObj s.now), (kb, mObj s.kept)])
   refine hK1 _ _ ?_; clear hK1 K1
   refine awp_cond rfl rfl (fun h3 => ?_) (fun h3 => ?_)
   ·
    replace h3 : (splitR ([])).2 < (([]).length : Int) := (of_decide_eq_true h3)
    exact absurd h3 (by decide)
   ·
    replace h3 : (([]).length : Int) ≤ (splitR ([])).2 := (Int.not_lt.1 (of_decide_eq_false h3))
    refine awp_skip ?_
    refine hK5 _ _ ?_; clear hK5
    refine awp_reg2_seq [50, 52] [4, 5] (by decide) ?_
    intro K1 hK1
    refine ⟨trivial, trivial, trivial, trivial, ?_⟩
    refine ar_buildOwn rfl 50 [.ptr ⟨d, 0, none⟩, .str name] [.int .i64 ((splitR ([])).2)] rfl rfl rfl rfl (by simp only [List.forall_mem_cons]; exact ⟨rfl, rfl, rfl, rfl, fun _ h => by cases h⟩) (fun X hX => by simp only [List.forall_mem_cons]; exact ⟨rfl, rfl, hX, rfl, fun _ h => by cases h⟩) (fun _ _ _ => rfl) rfl rfl rfl ?_
    refine ar_box rfl (m := m) (L := [(d, dObj kb nb s), (nb, mObj s.now), (kb, mObj s.kept)]) (v := .agg [.ptr ⟨d, 0, none⟩, .str name, .slice true (((splitR ([])).1).map strAV), .int .i64 ((splitR ([])).2)]) rfl rfl ?_
    intro b1 hb1
    have hFb1 : m b1 = none := wth_none (m := m) (L := [(d, dObj kb nb s), (nb, mObj s.now), (kb, mObj s.kept)]) hb1
    have hNb1 : ([b1, d, nb, kb] : List Nat).Nodup := wth_nodup (m := m) (L := [(d, dObj kb nb s), (nb, mObj s.now), (kb, mObj s.kept)]) hb1 hN
    refine ⟨trivial, trivial, ?_⟩
    show K1 [(4, .ptr ⟨b1, 0, none⟩), (5, .nilIface)] (AMem.wth m [(b1, .cells [.ptr ⟨d, 0, none⟩, .str name, .slice true (((splitR ([])).1).map strAV), .int .i64 ((splitR ([])).2)]), (d, dObj kb nb s), (nb, mObj s.now), (kb, mObj s.kept)])
    refine hK1 _ _ ?_; clear hK1 K1
    refine awp_toErr 108 [5] ?_
    show AWP _ _ _ _ [(4, .ptr ⟨b1, 0, none⟩), (5, .err 108 0)] (AMem.wth m [(b1, .cells [.ptr ⟨d, 0, none⟩, .str name, .slice true (((splitR ([])).1).map strAV), .int .i64 ((splitR ([])).2)]), (d, dObj kb nb s), (nb, mObj s.now), (kb, mObj s.kept)])
    refine awp_ret ?_
    refine ⟨trivial, trivial, (AMem.wth m [(b1, .cells [.ptr ⟨d, 0, none⟩, .str name, .slice true (((splitR ([])).1).map strAV), .int .i64 ((splitR ([])).2)]), (d, dObj kb nb s), (nb, mObj s.now), (kb, mObj s.kept)]), fun _ _ h => h, ?_⟩
    show K (.tuple [.ptr ⟨b1, 0, none⟩, .err 108 0]) (AMem.wth m [(b1, .cells [.ptr ⟨d, 0, none⟩, .str name, .slice true (((splitR ([])).1).map strAV), .int .i64 ((splitR ([])).2)]), (d, dObj kb nb s), (nb, mObj s.now), (kb, mObj s.kept)])
   
    rw [openR, if_neg (by simp [h1]), if_pos h2, openB, if_neg (by omega)] at hK; exact hK rfl b1 hNb1 hFb1
  ·
   replace h2 : (readR s name).2 ≠ 7 := (ne_of_beq_false h2)
   refine awp_skip ?_
   refine hK3 _ _ ?_; clear hK3
   refine awp_seq_k ?_; intro K6 hK6
   refine awp_reg2_seq [] [0, 1, 6, 7, 24] (by decide) ?_
   intro K1 hK1
   refine ⟨trivial, ⟨rfl, rfl⟩, ?_⟩
   show K1 [(0, .ptr ⟨d, 0, none⟩), (1, .str name), (6, .str ((readR s name).1)), (7, .err 108 ((readR s name).2)), (24, .bool (!(((readR s name).2) == 0)))] (AMem.wth m [(d, dObj kb nb s), (nb, mObj s.now), (kb, mObj s.kept)])
   refine hK1 _ _ ?_; clear hK1 K1
   refine awp_cond rfl rfl (fun h4 => ?_) (fun h4 => ?_)
   ·
    replace h4 : (readR s name).2 ≠ 0 := (ne_of_beq_false (bnT h4))
    refine awp_reg2_seq [] [4, 5] (by decide) ?_
    intro K1 hK1
    refine ⟨trivial, trivial, trivial, ?_⟩
    show K1 [(4, .nilptr), (5, .err 108 ((readR s name).2))] (AMem.wth m [(d, dObj kb nb s), (nb, mObj s.now), (kb, mObj s.kept)])
    refine hK1 _ _ ?_; clear hK1 K1
    refine awp_ret ?_
    refine ⟨trivial, trivial, (AMem.wth m [(d, dObj kb nb s), (nb, mObj s.now), (kb, mObj s.kept)]), fun _ _ h => h, ?_⟩
    show K (.tuple [.nilptr, .err 108 ((readR s name).2)]) (AMem.wth m [(d, dObj kb nb s), (nb, mObj s.now), (kb, mObj s.kept)])
   
    rw [openR, if_neg (by simp [h1]), if_neg h2, if_pos h4] at hE; exact hE h4
   ·
    replace h4 : (readR s name).2 = 0 := (eq_of_beq (bnF h4))
    refine awp_skip ?_
    refine hK6 _ _ ?_; clear hK6
    refine awp_reg2_seq [26, 29] [0, 1, 6, 8, 9] (by decide) ?_
    intro K1 hK1
    refine ⟨trivial, ?_⟩
    refine u_split ((readR s name).1) (by first | assumption | omega | simp) _ _ ?_
    refine ⟨trivial, (Nat.le_of_ble_eq_true rfl), (Nat.le_of_ble_eq_true rfl), trivial, trivial, ?_⟩
    show K1 [(0, .ptr ⟨d, 0, none⟩), (1, .str name), (6, .str ((readR s name).1)), (8, .slice true (((splitR ((readR s name).1)).1).map strAV)), (9, .int .i64 ((splitR ((readR s name).1)).2))] (AMem.wth m [(d, dObj kb nb s), (nb, mObj s.now), (kb, mObj s.kept)])
    refine hK1 _ _ ?_; clear hK1 K1
    refine awp_seq_k ?_; intro K7 hK7
    refine awp_reg2_seq [] [0, 1, 6, 8, 9, 34] (by decide) ?_
    intro K1 hK1
    refine ⟨trivial, trivial, trivial, trivial, ?_⟩
    show K1 [(0, .ptr ⟨d, 0, none⟩), (1, .str name), (6, .str ((readR s name).1)), (8, .slice true (((splitR ((readR s name).1)).1).map strAV)), (9, .int .i64 ((splitR ((readR s name).1)).2)), (34, .bool (decide ((splitR ((readR s name).1)).2 < (((readR s name).1).length : Int))))] (AMem.wth m [(d, dObj kb nb s), (nb, mObj s.now), (kb, mObj s.kept)])
    refine hK1 _ _ ?_; clear hK1 K1
    refine awp_cond rfl rfl (fun h5 => ?_) (fun h5 => ?_)
    ·
     replace h5 : (splitR ((readR s name).1)).2 < (((readR s name).1).length : Int) := (of_decide_eq_true h5)
     refine awp_reg2_seq [] [0, 1, 7, 8, 9] (by decide) ?_
     intro K1 hK1
     refine ⟨trivial, trivial, trivial, trivial, ⟨(by omega), (by omega), (by omega)⟩, ?_⟩
     refine u_Write3 d kb nb s name (sub ((readR s name).1) 0 ((splitR ((readR s name).1)).2)) N (by have q := hN; simp at q ⊢; omega) hD (by omega) (by first | assumption | omega | (simp; done)) (by first | assumption | omega | (simp; done)) _ _ ?_
     show aopsR _ _ _ _ _ _ (AMem.wth m [(d, dObj kb nb ((writeR s name (sub ((readR s name).1) 0 ((splitR ((readR s name).1)).2))).1)), (nb, mObj ((writeR s name (sub ((readR s name).1) 0 ((splitR ((readR s name).1)).2))).1.now)), (kb, mObj ((writeR s name (sub ((readR s name).1) 0 ((splitR ((readR s name).1)).2))).1.kept))])
     refine ⟨trivial, ?_⟩
     show K1 [(0, .ptr ⟨d, 0, none⟩), (1, .str name), (7, .err 108 ((writeR s name (sub ((readR s name).1) 0 ((splitR ((readR s name).1)).2))).2)), (8, .slice true (((splitR ((readR s name).1)).1).map strAV)), (9, .int .i64 ((splitR ((readR s name).1)).2))] (AMem.wth m [(d, dObj kb nb ((writeR s name (sub ((readR s name).1) 0 ((splitR ((readR s name).1)).2))).1)), (nb, mObj ((writeR s name (sub ((readR s name).1) 0 ((splitR ((readR s name).1)).2))).1.now)), (kb, mObj ((writeR s name (sub ((readR s name).1) 0 ((splitR ((readR s name).1)).2))).1.kept))])
     refine hK1 _ _ ?_; clear hK1 K1
     refine awp_seq_k ?_; intro K8 hK8
     refine awp_reg2_seq [] [0, 1, 7, 8, 9, 42] (by decide) ?_
     intro K1 hK1
     refine ⟨trivial, ⟨rfl, rfl⟩, ?_⟩
     show K1 [(0, .ptr ⟨d, 0, none⟩), (1, .str name), (7, .err 108 ((writeR s name (sub ((readR s name).1) 0 ((splitR ((readR s name).1)).2))).2)), (8, .slice true (((splitR ((readR s name).1)).1).map strAV)), (9, .int .i64 ((splitR ((readR s name).1)).2)), (42, .bool (((writeR s name (sub ((readR s name).1) 0 ((splitR ((readR s name).1)).2))).2) == 0))] (AMem.wth m [(d, dObj kb nb ((writeR s name (sub ((readR s name).1) 0 ((splitR ((readR s name).1)).2))).1)), (nb, mObj ((writeR s name (sub ((readR s name).1) 0 ((splitR ((readR s name).1)).2))).1.now)), (kb, mObj ((writeR s name (sub ((readR s name).1) 0 ((splitR ((readR s name).1)).2))).1.kept))])
     refine hK1 _ _ ?_; clear hK1 K1
     refine awp_cond rfl rfl (fun h6 => ?_) (fun h6 => ?_)
     ·
      replace h6 : (writeR s name (sub ((readR s name).1) 0 ((splitR ((readR s name).1)).2))).2 = 0 := (eq_of_beq h6)
      refine awp_reg2 [] [0, 1, 7, 8, 9] (by decide) ?_
      intro K1 hK1
      refine ⟨trivial, ?_⟩
      refine ar_mem (wth_split hN (pick_perm [0, 1, 0] _)) ?_
      refine u_Sync3 d kb nb ((writeR s name (sub ((readR s name).1) 0 ((splitR ((readR s name).1)).2))).1) (N + 1) (by have q := hN; simp at q ⊢; omega) (writeR_inv hD) (by omega) _ _ ?_
      show aopsR _ _ _ _ _ _ (AMem.wth (AMem.wth m []) [(d, dObj kb nb ((syncF ((writeR s name (sub ((readR s name).1) 0 ((splitR ((readR s name).1)).2))).1)).1)), (kb, mObj ((syncF ((writeR s name (sub ((readR s name).1) 0 ((splitR ((readR s name).1)).2))).1)).1.kept)), (nb, mObj ((syncF ((writeR s name (sub ((readR s name).1) 0 ((splitR ((readR s name).1)).2))).1)).1.now))])
      refine ar_mem (wth_split (m := m) (L := [(d, dObj kb nb ((syncF ((writeR s name (sub ((readR s name).1) 0 ((splitR ((readR s name).1)).2))).1)).1)), (nb, mObj ((syncF ((writeR s name (sub ((readR s name).1) 0 ((splitR ((readR s name).1)).2))).1)).1.now)), (kb, mObj ((syncF ((writeR s name (sub ((readR s name).1) 0 ((splitR ((readR s name).1)).2))).1)).1.kept))]) hN (pick_perm [0, 1, 0] _)).symm ?_
      refine ⟨trivial, ?_⟩
      show K1 [(0, .ptr ⟨d, 0, none⟩), (1, .str name), (7, .err 108 ((syncF ((writeR s name (sub ((readR s name).1) 0 ((splitR ((readR s name).1)).2))).1)).2)), (8, .slice true (((splitR ((readR s name).1)).1).map strAV)), (9, .int .i64 ((splitR ((readR s name).1)).2))] (AMem.wth m [(d, dObj kb nb ((syncF ((writeR s name (sub ((readR s name).1) 0 ((splitR ((readR s name).1)).2))).1)).1)), (nb, mObj ((syncF ((writeR s name (sub ((readR s name).1) 0 ((splitR ((readR s name).1)).2))).1)).1.now)), (kb, mObj ((syncF ((writeR s name (sub ((readR s name).1) 0 ((splitR ((readR s name).1)).2))).1)).1.kept))])
      refine hK1 _ _ ?_; clear hK1 K1
      refine hK8 _ _ ?_; clear hK8
      refine awp_reg2_seq [] [0, 1, 7, 8, 9, 46] (by decide) ?_
      intro K1 hK1
      refine ⟨trivial, ⟨rfl, rfl⟩, ?_⟩
      show K1 [(0, .ptr ⟨d, 0, none⟩), (1, .str name), (7, .err 108 ((syncF ((writeR s name (sub ((readR s name).1) 0 ((splitR ((readR s name).1)).2))).1)).2)), (8, .slice true (((splitR ((readR s name).1)).1).map strAV)), (9, .int .i64 ((splitR ((readR s name).1)).2)), (46, .bool (!(((syncF ((writeR s name (sub ((readR s name).1) 0 ((splitR ((readR s name).1)).2))).1)).2) == 0)))] (AMem.wth m [(d, dObj kb nb ((syncF ((writeR s name (sub ((readR s name).1) 0 ((splitR ((readR s name).1)).2))).1)).1)), (nb, mObj ((syncF ((writeR s name (sub ((readR s name).1) 0 ((splitR ((readR s name).1)).2))).1)).1.now)), (kb, mObj ((syncF ((writeR s name (sub ((readR s name).1) 0 ((splitR ((readR s name).1)).2))).1)).1.kept))])
      refine hK1 _ _ ?_; clear hK1 K1
      refine awp_cond rfl rfl (fun h7 => ?_) (fun h7 => ?_)
      ·
       replace h7 : (syncF ((writeR s name (sub ((readR s name).1) 0 ((splitR ((readR s name).1)).2))).1)).2 ≠ 0 := (ne_of_beq_false (bnT h7))
       refine awp_reg2_seq [] [4, 5] (by decide) ?_
       intro K1 hK1
       refine ⟨trivial, trivial, trivial, ?_⟩
       show K1 [(4, .nilptr), (5, .err 108 ((syncF ((writeR s name (sub ((readR s name).1) 0 ((splitR ((readR s name).1)).2))).1)).2))] (AMem.wth m [(d, dObj kb nb ((syncF ((writeR s name (sub ((readR s name).1) 0 ((splitR ((readR s name).1)).2))).1)).1)), (nb, mObj ((syncF ((writeR s name (sub ((readR s name).1) 0 ((splitR ((readR s name).1)).2))).1)).1.now)), (kb, mObj ((syncF ((writeR s name (sub ((readR s name).1) 0 ((splitR ((readR s name).1)).2))).1)).1.kept))])
       refine hK1 _ _ ?_; clear hK1 K1
       refine awp_ret ?_
       refine ⟨trivial, trivial, (AMem.wth m [(d, dObj kb nb ((syncF ((writeR s name (sub ((readR s name).1) 0 ((splitR ((readR s name).1)).2))).1)).1)), (nb, mObj ((syncF ((writeR s name (sub ((readR s name).1) 0 ((splitR ((readR s name).1)).2))).1)).1.now)), (kb, mObj ((syncF ((writeR s name (sub ((readR s name).1) 0 ((splitR ((readR s name).1)).2))).1)).1.kept))]), fun _ _ h => h, ?_⟩
       show K (.tuple [.nilptr, .err 108 ((syncF ((writeR s name (sub ((readR s name).1) 0 ((splitR ((readR s name).1)).2))).1)).2)]) (AMem.wth m [(d, dObj kb nb ((syncF ((writeR s name (sub ((readR s name).1) 0 ((splitR ((readR s name).1)).2))).1)).1)), (nb, mObj ((syncF ((writeR s name (sub ((readR s name).1) 0 ((splitR ((readR s name).1)).2))).1)).1.now)), (kb, mObj ((syncF ((writeR s name (sub ((readR s name).1) 0 ((splitR ((readR s name).1)).2))).1)).1.kept))])
      
       rw [openR, if_neg (by simp [h1]), if_neg h2, if_neg (by omega), openB, if_pos h5, if_neg (by omega), if_pos h7] at hE; exact hE h7
      ·
       replace h7 : (syncF ((writeR s name (sub ((readR s name).1) 0 ((splitR ((readR s name).1)).2))).1)).2 = 0 := (eq_of_beq (bnF h7))
       refine awp_skip ?_
       refine hK7 _ _ ?_; clear hK7
       refine awp_reg2_seq [50, 52] [4, 5] (by decide) ?_
       intro K1 hK1
       refine ⟨trivial, trivial, trivial, trivial, ?_⟩
       refine ar_buildOwn rfl 50 [.ptr ⟨d, 0, none⟩, .str name] [.int .i64 ((splitR ((readR s name).1)).2)] rfl rfl rfl rfl (by simp only [List.forall_mem_cons]; exact ⟨rfl, rfl, rfl, rfl, fun _ h => by cases h⟩) (fun X hX => by simp only [List.forall_mem_cons]; exact ⟨rfl, rfl, hX, rfl, fun _ h => by cases h⟩) (fun _ _ _ => rfl) rfl rfl rfl ?_
       refine ar_box rfl (m := m) (L := [(d, dObj kb nb ((syncF ((writeR s name (sub ((readR s name).1) 0 ((splitR ((readR s name).1)).2))).1)).1)), (nb, mObj ((syncF ((writeR s name (sub ((readR s name).1) 0 ((splitR ((readR s name).1)).2))).1)).1.now)), (kb, mObj ((syncF ((writeR s name (sub ((readR s name).1) 0 ((splitR ((readR s name).1)).2))).1)).1.kept))]) (v := .agg [.ptr ⟨d, 0, none⟩, .str name, .slice true (((splitR ((readR s name).1)).1).map strAV), .int .i64 ((splitR ((readR s name).1)).2)]) rfl rfl ?_
       intro b2 hb2
       have hFb2 : m b2 = none := wth_none (m := m) (L := [(d, dObj kb nb ((syncF ((writeR s name (sub ((readR s name).1) 0 ((splitR ((readR s name).1)).2))).1)).1)), (nb, mObj ((syncF ((writeR s name (sub ((readR s name).1) 0 ((splitR ((readR s name).1)).2))).1)).1.now)), (kb, mObj ((syncF ((writeR s name (sub ((readR s name).1) 0 ((splitR ((readR s name).1)).2))).1)).1.kept))]) hb2
       have hNb2 : ([b2, d, nb, kb] : List Nat).Nodup := wth_nodup (m := m) (L := [(d, dObj kb nb ((syncF ((writeR s name (sub ((readR s name).1) 0 ((splitR ((readR s name).1)).2))).1)).1)), (nb, mObj ((syncF ((writeR s name (sub ((readR s name).1) 0 ((splitR ((readR s name).1)).2))).1)).1.now)), (kb, mObj ((syncF ((writeR s name (sub ((readR s name).1) 0 ((splitR ((readR s name).1)).2))).1)).1.kept))]) hb2 hN
       refine ⟨trivial, trivial, ?_⟩
       show K1 [(4, .ptr ⟨b2, 0, none⟩), (5, .nilIface)] (AMem.wth m [(b2, .cells [.ptr ⟨d, 0, none⟩, .str name, .slice true (((splitR ((readR s name).1)).1).map strAV), .int .i64 ((splitR ((readR s name).1)).2)]), (d, dObj kb nb ((syncF ((writeR s name (sub ((readR s name).1) 0 ((splitR ((readR s name).1)).2))).1)).1)), (nb, mObj ((syncF ((writeR s name (sub ((readR s name).1) 0 ((splitR ((readR s name).1)).2))).1)).1.now)), (kb, mObj ((syncF ((writeR s name (sub ((readR s name).1) 0 ((splitR ((readR s name).1)).2))).1)).1.kept))])
       refine hK1 _ _ ?_; clear hK1 K1
       refine awp_toErr 108 [5] ?_
       show AWP _ _ _ _ [(4, .ptr ⟨b2, 0, none⟩), (5, .err 108 0)] (AMem.wth m [(b2, .cells [.ptr ⟨d, 0, none⟩, .str name, .slice true (((splitR ((readR s name).1)).1).map strAV), .int .i64 ((splitR ((readR s name).1)).2)]), (d, dObj kb nb ((syncF ((writeR s name (sub ((readR s name).1) 0 ((splitR ((readR s name).1)).2))).1)).1)), (nb, mObj ((syncF ((writeR s name (sub ((readR s name).1) 0 ((splitR ((readR s name).1)).2))).1)).1.now)), (kb, mObj ((syncF ((writeR s name (sub ((readR s name).1) 0 ((splitR ((readR s name).1)).2))).1)).1.kept))])
       refine awp_ret ?_
       refine ⟨trivial, trivial, (AMem.wth m [(b2, .cells [.ptr ⟨d, 0, none⟩, .str name, .slice true (((splitR ((readR s name).1)).1).map strAV), .int .i64 ((splitR ((readR s name).1)).2)]), (d, dObj kb nb ((syncF ((writeR s name (sub ((readR s name).1) 0 ((splitR ((readR s name).1)).2))).1)).1)), (nb, mObj ((syncF ((writeR s name (sub ((readR s name).1) 0 ((splitR ((readR s name).1)).2))).1)).1.now)), (kb, mObj ((syncF ((writeR s name (sub ((readR s name).1) 0 ((splitR ((readR s name).1)).2))).1)).1.kept))]), fun _ _ h => h, ?_⟩
       show K (.tuple [.ptr ⟨b2, 0, none⟩, .err 108 0]) (AMem.wth m [(b2, .cells [.ptr ⟨d, 0, none⟩, .str name, .slice true (((splitR ((readR s name).1)).1).map strAV), .int .i64 ((splitR ((readR s name).1)).2)]), (d, dObj kb nb ((syncF ((writeR s name (sub ((readR s name).1) 0 ((splitR ((readR s name).1)).2))).1)).1)), (nb, mObj ((syncF ((writeR s name (sub ((readR s name).1) 0 ((splitR ((readR s name).1)).2))).1)).1.now)), (kb, mObj ((syncF ((writeR s name (sub ((readR s name).1) 0 ((splitR ((readR s name).1)).2))).1)).1.kept))])
      
       rw [openR, if_neg (by simp [h1]), if_neg h2, if_neg (by omega), openB, if_pos h5, if_neg (by omega), if_neg (by omega)] at hK; exact hK rfl b2 hNb2 hFb2
     ·
      replace h6 : (writeR s name (sub ((readR s name).1) 0 ((splitR ((readR s name).1)).2))).2 ≠ 0 := (ne_of_beq_false h6)
      refine awp_skip ?_
      refine hK8 _ _ ?_; clear hK8
      refine awp_reg2_seq [] [0, 1, 7, 8, 9, 46] (by decide) ?_
      intro K1 hK1
      refine ⟨trivial, ⟨rfl, rfl⟩, ?_⟩
      show K1 [(0, .ptr ⟨d, 0, none⟩), (1, .str name), (7, .err 108 ((writeR s name (sub ((readR s name).1) 0 ((splitR ((readR s name).1)).2))).2)), (8, .slice true (((splitR ((readR s name).1)).1).map strAV)), (9, .int .i64 ((splitR ((readR s name).1)).2)), (46, .bool (!(((writeR s name (sub ((readR s name).1) 0 ((splitR ((readR s name).1)).2))).2) == 0)))] (AMem.wth m [(d, dObj kb nb ((writeR s name (sub ((readR s name).1) 0 ((splitR ((readR s name).1)).2))).1)), (nb, mObj ((writeR s name (sub ((readR s name).1) 0 ((splitR ((readR s name).1)).2))).1.now)), (kb, mObj ((writeR s name (sub ((readR s name).1) 0 ((splitR ((readR s name).1)).2))).1.kept))])
      refine hK1 _ _ ?_; clear hK1 K1
      refine awp_cond rfl rfl (fun h8 => ?_) (fun h8 => ?_)
      ·
       replace h8 : (writeR s name (sub ((readR s name).1) 0 ((splitR ((readR s name).1)).2))).2 ≠ 0 := (ne_of_beq_false (bnT h8))
       refine awp_reg2_seq [] [4, 5] (by decide) ?_
       intro K1 hK1
       refine ⟨trivial, trivial, trivial, ?_⟩
       show K1 [(4, .nilptr), (5, .err 108 ((writeR s name (sub ((readR s name).1) 0 ((splitR ((readR s name).1)).2))).2))] (AMem.wth m [(d, dObj kb nb ((writeR s name (sub ((readR s name).1) 0 ((splitR ((readR s name).1)).2))).1)), (nb, mObj ((writeR s name (sub ((readR s name).1) 0 ((splitR ((readR s name).1)).2))).1.now)), (kb, mObj ((writeR s name (sub ((readR s name).1) 0 ((splitR ((readR s name).1)).2))).1.kept))])
       refine hK1 _ _ ?_; clear hK1 K1
       refine awp_ret ?_
       refine ⟨trivial, trivial, (AMem.wth m [(d, dObj kb nb ((writeR s name (sub ((readR s name).1) 0 ((splitR ((readR s name).1)).2))).1)), (nb, mObj ((writeR s name (sub ((readR s name).1) 0 ((splitR ((readR s name).1)).2))).1.now)), (kb, mObj ((writeR s name (sub ((readR s name).1) 0 ((splitR ((readR s name).1)).2))).1.kept))]), fun _ _ h => h, ?_⟩
       show K (.tuple [.nilptr, .err 108 ((writeR s name (sub ((readR s name).1) 0 ((splitR ((readR s name).1)).2))).2)]) (AMem.wth m [(d, dObj kb nb ((writeR s name (sub ((readR s name).1) 0 ((splitR ((readR s name).1)).2))).1)), (nb, mObj ((writeR s name (sub ((readR s name).1) 0 ((splitR ((readR s name).1)).2))).1.now)), (kb, mObj ((writeR s name (sub ((readR s name).1) 0 ((splitR ((readR s name).1)).2))).1.kept))])
      
       rw [openR, if_neg (by simp [h1]), if_neg h2, if_neg (by omega), openB, if_pos h5, if_pos h8] at hE; exact hE h8
      ·
       replace h8 : (writeR s name (sub ((readR s name).1) 0 ((splitR ((readR s name).1)).2))).2 = 0 := (eq_of_beq (bnF h8))
       exact absurd h8 h6
    ·
     replace h5 : (((readR s name).1).length : Int) ≤ (splitR ((readR s name).1)).2 := (Int.not_lt.1 (of_decide_eq_false h5))
     refine awp_skip ?_
     refine hK7 _ _ ?_; clear hK7
     refine awp_reg2_seq [50, 52] [4, 5] (by decide) ?_
     intro K1 hK1
     refine ⟨trivial, trivial, trivial, trivial, ?_⟩
     refine ar_buildOwn rfl 50 [.ptr ⟨d, 0, none⟩, .str name] [.int .i64 ((splitR ((readR s name).1)).2)] rfl rfl rfl rfl (by simp only [List.forall_mem_cons]; exact ⟨rfl, rfl, rfl, rfl, fun _ h => by cases h⟩) (fun X hX => by simp only [List.forall_mem_cons]; exact ⟨rfl, rfl, hX, rfl, fun _ h => by cases h⟩) (fun _ _ _ => rfl) rfl rfl rfl ?_
     refine ar_box rfl (m := m) (L := [(d, dObj kb nb s), (nb, mObj s.now), (kb, mObj s.kept)]) (v := .agg [.ptr ⟨d, 0, none⟩, .str name, .slice true (((splitR ((readR s name).1)).1).map strAV), .int .i64 ((splitR ((readR s name).1)).2)]) rfl rfl ?_
     intro b3 hb3
     have hFb3 : m b3 = none := wth_none (m := m) (L := [(d, dObj kb nb s), (nb, mObj s.now), (kb, mObj s.kept)]) hb3
     have hNb3 : ([b3, d, nb, kb] : List Nat).Nodup := wth_nodup (m := m) (L := [(d, dObj kb nb s), (nb, mObj s.now), (kb, mObj s.kept)]) hb3 hN
     refine ⟨trivial, trivial, ?_⟩
     show K1 [(4, .ptr ⟨b3, 0, none⟩), (5, .nilIface)] (AMem.wth m [(b3, .cells [.ptr ⟨d, 0, none⟩, .str name, .slice true (((splitR ((readR s name).1)).1).map strAV), .int .i64 ((splitR ((readR s name).1)).2)]), (d, dObj kb nb s), (nb, mObj s.now), (kb, mObj s.kept)])
     refine hK1 _ _ ?_; clear hK1 K1
     refine awp_toErr 108 [5] ?_
     show AWP _ _ _ _ [(4, .ptr ⟨b3, 0, none⟩), (5, .err 108 0)] (AMem.wth m [(b3, .cells [.ptr ⟨d, 0, none⟩, .str name, .slice true (((splitR ((readR s name).1)).1).map strAV), .int .i64 ((splitR ((readR s name).1)).2)]), (d, dObj kb nb s), (nb, mObj s.now), (kb, mObj s.kept)])
     refine awp_ret ?_
     refine ⟨trivial, trivial, (AMem.wth m [(b3, .cells [.ptr ⟨d, 0, none⟩, .str name, .slice true (((splitR ((readR s name).1)).1).map strAV), .int .i64 ((splitR ((readR s name).1)).2)]), (d, dObj kb nb s), (nb, mObj s.now), (kb, mObj s.kept)]), fun _ _ h => h, ?_⟩
     show K (.tuple [.ptr ⟨b3, 0, none⟩, .err 108 0]) (AMem.wth m [(b3, .cells [.ptr ⟨d, 0, none⟩, .str name, .slice true (((splitR ((readR s name).1)).1).map strAV), .int .i64 ((splitR ((readR s name).1)).2)]), (d, dObj kb nb s), (nb, mObj s.now), (kb, mObj s.kept)])
    
     rw [openR, if_neg (by simp [h1]), if_neg h2, if_neg (by omega), openB, if_neg (by omega)] at hK; exact hK rfl b3 hNb3 hFb3

end Go.Proofs
