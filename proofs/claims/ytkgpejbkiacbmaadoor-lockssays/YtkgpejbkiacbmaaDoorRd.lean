/-
  Values and acts that a law is handed read as typed data.
-/
import Derived.Test.YtkgpejbkiacbmaaDoorLk8
import Derived.Test.YtkgpejbkiacbmaaDoorSv4
import Derived.Test.YtkgpejbkiacbmaaDoorWxf
section
namespace Go.Proofs
open Go Go.Aw Go.Sx
set_option maxRecDepth 100000
set_option maxHeartbeats 4000000 in
theorem u_TakeB (d nb kb : Nat) (s : DSt) (M : List (Str × Str)) (N : Nat) (who : Int) (l : List Str)  (hL : Lk N s M) (hNN : N + l.length + 1 ≤ 100000) (hR : M.length + l.length ≤ 40) (m : AMem) (gd : Gd [d, nb, kb] m) (K : AV → AMem → Prop) (hT : Tabs m) (hK : ∀ s1, Lk (N + l.length + 1) s1 (takeR M who ((fun _ => true)) l).1 → K (.err 60 (takeR M who ((fun _ => true)) l).2) (AMem.wth m [(d, dObj kb nb s1), (nb, mObj s1.now), (kb, mObj s1.kept)])) : ACalls Tryd.prog 10 [.ptr ⟨d, 0, none⟩, .int .i64 who, .slice false (l.map strAV), .func (.func 23) [] []] (AMem.wth m [(d, dObj kb nb s), (nb, mObj s.now), (kb, mObj s.kept)]) K := by
 have hod := ordL_len l
 refine enter (c := cf [] [0, 4] [13] [] [7] [d, nb, kb]) (vs := [.loc 0 0, .av (.int .i64 who), .av (.slice false (l.map strAV)), .fn 23 [] []]) (L := [.cells [.mp 2, .mp 1, .own (s.wait.map chgAV), vI s.fuse, vB s.down, vI s.steps], .obj (mObj s.now), .obj (mObj s.kept)]) (m := m) true tbOk Tryd.mixed Tryd.func10 rfl (k := 4) (by show fnOk [] _ _ _ = true; decide +kernel) rfl (gd.good rfl) ?_
 refine ⟨fun F0 => ?_⟩
 have hbd2_0 : l.length ≤ 140737488355328 := bd_map (o := false) (F0 2).1
 refine call0 (fun _ => u_owner who) rfl ?_
 refine sq ?_
 refine an (fun h1 => ?_) (fun h1 => ?_)
 · refine ⟨fun _ => ?_⟩
   rcases Classical.em (l = []) with hnil | hnil
   · refine call0 (fun _ => u_CloneE l hnil) rfl ?_
     refine call0 (fun _ => u_SortJ0) rfl ?_
     refine call0 (fun _ => u_CompactE l hnil) rfl ?_
     refine sq ?_
     refine cv0 ?_
     refine ln ?_
     refine lp (σ := Int) [] [0, 1, 3, 10, 29, 30, 31] 3 (fun i => ([(0, .loc 0 0), (1, vI who), (3, .fn 23 [] []), (10, vL ((ordL l).map strAV)), (29, vL ((ordL l).map strAV)), (30, vI ((ordL l).length : Int)), (31, vI i)], [.cells [.mp 2, .mp 1, .own (s.wait.map chgAV), vI s.fuse, vB s.down, vI s.steps], .obj (mObj s.now), .obj (mObj s.kept)], m)) (fun i => 0 ≤ i ∧ i ≤ (ordL l).length ∧ takeE M who ((fun _ => true)) (ordL l) = takeE M who ((fun _ => true)) ((ordL l).drop i.toNat)) (fun i => (ordL l).length - i.toNat) (0) ⟨rfl, rfl⟩ ?_ ?_
     · try dsimp only
       exact ⟨by omega, by omega, rfl⟩
     rintro i hI
     refine sq ?_
     refine an (fun h2 => ?_) (fun h2 => ?_)
     · refine sq ?_
       refine ix (by omega) ?_
       refine callT [0, 1, 2] [.cells [.mp 2, .mp 1, .own (s.wait.map chgAV), vI s.fuse, vB s.down, vI s.steps], .obj (mObj s.now), .obj (mObj s.kept)] (.av (.tuple [.int .i64 ((ownR M (gI (ordL l) i)).1), .bool ((ownR M (gI (ordL l) i)).2.1), .err 60 ((ownR M (gI (ordL l) i)).2.2)])) rfl (fun bs mm gd ht => fun K hK => u_Owner (bs.getD 0 0) (bs.getD 1 0) (bs.getD 2 0) s M N (gI (ordL l) i) hL (by omega) mm gd K (Tabs.up ht hT) hK) ?_
       refine sq ?_
       refine an (fun h3 => ?_) (fun h3 => ?_)
       · refine mg [0, 1, 3, 10, 29, 30, 31] 55 ((((ownR M (gI (ordL l) i)).2.1) && (!(((ownR M (gI (ordL l) i)).1) == who))) && ((fun _ => true) ((ownR M (gI (ordL l) i)).1))) ?_ ?_
         · repeat' first
            | exact ⟨⟨_, rfl, by grind [SB.val]⟩, rfl⟩
            | refine an (fun _ => ?_) (fun _ => ?_)
            | refine call0 (fun _ => u_always ((ownR M (gI (ordL l) i)).1)) rfl ?_
         refine an (fun h4 => ?_) (fun h4 => ?_)
         · replace h4 : (((ownR M (gI (ordL l) i)).2.1 = true) ∧ ((ownR M (gI (ordL l) i)).1 ≠ who)) ∧ ((fun _ => true) ((ownR M (gI (ordL l) i)).1) = true) := ⟨⟨(bandL (bandL h4)), (ne_of_beq_false (bnT (bandR (bandL h4))))⟩, (bandR h4)⟩
           refine rt rfl fun _ => ?_
           show K (.err 60 14) (AMem.wth m [(d, dObj kb nb s), (nb, mObj s.now), (kb, mObj s.kept)])
           have hw : ¬(who < 0 ∨ 4 ≤ who) := by grind
           have he : takeE M who ((fun _ => true)) (ordL l) = 14 := by rw [hI.2.2, takeE_drop hI.1 h2, if_neg (not_not_intro h3), if_pos (by grind)]
           rw [takeR, if_neg (by omega), if_pos (by rw [he]; decide), he] at hK
           exact hK s (hL.mono (by omega))
         replace h4 : (((ownR M (gI (ordL l) i)).2.1 = false) ∨ ((ownR M (gI (ordL l) i)).1 = who)) ∨ ((fun _ => true) ((ownR M (gI (ordL l) i)).1) = false) := ((bandF h4).imp (fun q => ((bandF q).imp (fun q => q) (fun q => (eq_of_beq (bnF q))))) (fun q => q))
         refine an (by omega) ?_
         refine ⟨(i + 1), ⟨rfl, rfl⟩, ?_, ?_⟩
         · try dsimp only
           exact ⟨by omega, by omega, by rw [hI.2.2, takeE_drop hI.1 h2, if_neg (not_not_intro h3), if_neg (by grind)]⟩
         try dsimp only
         omega
       refine rt rfl fun _ => ?_
       show K (.err 60 ((ownR M (gI (ordL l) i)).2.2)) (AMem.wth m [(d, dObj kb nb s), (nb, mObj s.now), (kb, mObj s.kept)])
       have hw : ¬(who < 0 ∨ 4 ≤ who) := by grind
       have he : takeE M who ((fun _ => true)) (ordL l) = (ownR M (gI (ordL l) i)).2.2 := by rw [hI.2.2, takeE_drop hI.1 h2, if_pos h3]
       rw [takeR, if_neg (by omega), if_pos (by rw [he]; exact h3), he] at hK
       exact hK s (hL.mono (by omega))
     have hw : ¬(who < 0 ∨ 4 ≤ who) := by grind
     have hf0 : takeE M who ((fun _ => true)) (ordL l) = 0 := by rw [hI.2.2, List.drop_eq_nil_of_le (by omega)]; rfl
     refine sq ?_
     refine ln ?_
     refine lp (σ := Int × DSt) [] [0, 1, 10, 58, 59, 60] 3 (fun ⟨j, t1⟩ => ([(0, .loc 0 0), (1, vI who), (10, vL ((ordL l).map strAV)), (58, vL ((ordL l).map strAV)), (59, vI ((ordL l).length : Int)), (60, vI j)], [.cells [.mp 2, .mp 1, .own (t1.wait.map chgAV), vI t1.fuse, vB t1.down, vI t1.steps], .obj (mObj t1.now), .obj (mObj t1.kept)], m)) (fun ⟨j, t1⟩ => 0 ≤ j ∧ j ≤ (ordL l).length ∧ Lk (N + j.toNat) t1 (lkF who M ((ordL l).take j.toNat))) (fun ⟨j, t1⟩ => (ordL l).length - j.toNat) (0, s) ⟨rfl, rfl⟩ ?_ ?_
     · try dsimp only
       exact ⟨by omega, by omega, hL⟩
     rintro ⟨j, t1⟩ hI2
     dsimp only at hI2
     refine sq ?_
     refine an (fun h5 => ?_) (fun h5 => ?_)
     · refine sq ?_
       refine ix (by omega) ?_
       refine call0 (fun _ => u_file (gI (ordL l) j) (by have := nameV_len (own_name (takeE_all hf0 _ (gI_mem (i := j) (by omega) (by omega)))); omega)) rfl ?_
       refine callT [] [] (vS (Lib.itoa who)) rfl (fun bs mm gd ht => fun K hK => u_Itoa who (by omega) (by omega) mm (Tabs.up ht hT) K hK) ?_
       refine callY 60 [0, 1, 2] (σ := DSt) (fun s1 => Lk (N + j.toNat + 1) s1 (mput (lkF who M ((ordL l).take j.toNat)) (gI (ordL l) j) (Lib.itoa who))) (fun s1 => .av (.err 60 0)) (fun s1 => [.cells [.mp 2, .mp 1, .own (s1.wait.map chgAV), vI s1.fuse, vB s1.down, vI s1.steps], .obj (mObj s1.now), .obj (mObj s1.kept)]) rfl (fun _ => rfl) (fun bs mm gd ht K hK => u_WriteL (bs.getD 0 0) (bs.getD 2 0) (bs.getD 1 0) hI2.2.2 gd.nd (by omega) (own_name (takeE_all hf0 _ (gI_mem (by omega) (by omega)))) (itoa_w (by omega) (by omega)) (.inr (by have := lkF_len who ((ordL l).take j.toNat) M; rw [List.length_take] at this; omega)) mm K (fun s_ hh => hK s_ hh)) ?_
       rintro s1 hx1
       refine an (fun h6 => ?_) (fun h6 => ?_)
       · refine an (by omega) ?_
         refine ⟨(j + 1, s1), ⟨rfl, rfl⟩, ?_, ?_⟩
         · try dsimp only
           exact ⟨by omega, by omega, by rw [lkF_step hI2.1 h5, show (j + 1).toNat = j.toNat + 1 from by omega]; exact hx1⟩
         try dsimp only
         omega
       refine rt rfl fun _ => ?_
       show K (.err 60 0) (AMem.wth m [(d, dObj kb nb s1), (nb, mObj s1.now), (kb, mObj s1.kept)])
       exact absurd rfl h6
     refine sq ?_
     refine ln ?_
     refine an (fun h7 => ?_) (fun h7 => ?_)
     · refine rt rfl fun _ => ?_
       show K (.err 60 0) (AMem.wth m [(d, dObj kb nb t1), (nb, mObj t1.now), (kb, mObj t1.kept)])
       have hu : takeR M who ((fun _ => true)) l = (lkF who M (ordL l), 0) := by rw [takeR, if_neg (by omega), if_neg (not_not_intro hf0)]
       rw [hu] at hK
       have hq := hI2.2.2
       rw [take_full (by omega)] at hq
       refine hK t1 ?_
       exact hq.mono (by omega)
     refine callY 60 [0, 1, 2] (σ := DSt) (fun s2 => Lk (N + j.toNat + 1) s2 (lkF who M ((ordL l).take j.toNat))) (fun s2 => .av (.err 60 0)) (fun s2 => [.cells [.mp 2, .mp 1, .own (s2.wait.map chgAV), vI s2.fuse, vB s2.down, vI s2.steps], .obj (mObj s2.now), .obj (mObj s2.kept)]) rfl (fun _ => rfl) (fun bs mm gd ht K hK => u_SyncL (bs.getD 0 0) (bs.getD 2 0) (bs.getD 1 0) hI2.2.2 gd.nd (by omega) mm K (fun s_ hh => hK s_ hh)) ?_
     rintro s2 hx2
     refine rt rfl fun _ => ?_
     show K (.err 60 0) (AMem.wth m [(d, dObj kb nb s2), (nb, mObj s2.now), (kb, mObj s2.kept)])
     have hu : takeR M who ((fun _ => true)) l = (lkF who M (ordL l), 0) := by rw [takeR, if_neg (by omega), if_neg (not_not_intro hf0)]
     rw [hu] at hK
     have hq := hx2
     rw [take_full (by omega)] at hq
     refine hK s2 ?_
     exact hq.mono (by omega)
   · refine callClone l (fun _ => rfl) rfl (fun m K hK => u_Clone l hnil (by omega) m K hK) ?_
     rintro cp tl hcp
     refine callM [3] [.obj (rowJ (sortL l) tl)] (.tup []) rfl (fun bs mm gd => u_SortJ (bs.getD 3 0) cp tl l (by omega) mm) ?_
     refine callM [3] [.obj (rowJ (Lib.compact (sortL l) ++ List.replicate ((sortL l).length - (Lib.compact (sortL l)).length) []) tl)] (.ms 3 ((Lib.compact (sortL l)).length) cp) rfl (fun bs mm gd => u_CompactN (bs.getD 3 0) l.length cp tl (sortL l) (sortL_len l).symm (by rw [sortL_len]; omega) mm) ?_
     refine sq ?_
     refine cvT (Lib.compact (sortL l) ++ List.replicate ((sortL l).length - (Lib.compact (sortL l)).length) []) tl (ordL l) 10 rfl rfl rfl ⟨by simp, by have := ordL_len l; show (ordL l).length ≤ _; omega⟩ (by exact List.take_left) ?_
     refine ln ?_
     refine lp (σ := Int) [] [0, 1, 3, 10, 29, 30, 31] 3 (fun i => ([(0, .loc 0 0), (1, vI who), (3, .fn 23 [] []), (10, vL ((ordL l).map strAV)), (29, vL ((ordL l).map strAV)), (30, vI ((ordL l).length : Int)), (31, vI i)], [.cells [.mp 2, .mp 1, .own (s.wait.map chgAV), vI s.fuse, vB s.down, vI s.steps], .obj (mObj s.now), .obj (mObj s.kept)], m)) (fun i => 0 ≤ i ∧ i ≤ (ordL l).length ∧ takeE M who ((fun _ => true)) (ordL l) = takeE M who ((fun _ => true)) ((ordL l).drop i.toNat)) (fun i => (ordL l).length - i.toNat) (0) ⟨rfl, rfl⟩ ?_ ?_
     · try dsimp only
       exact ⟨by omega, by omega, rfl⟩
     rintro i hI
     refine sq ?_
     refine an (fun h8 => ?_) (fun h8 => ?_)
     · refine sq ?_
       refine ix (by omega) ?_
       refine callT [0, 1, 2] [.cells [.mp 2, .mp 1, .own (s.wait.map chgAV), vI s.fuse, vB s.down, vI s.steps], .obj (mObj s.now), .obj (mObj s.kept)] (.av (.tuple [.int .i64 ((ownR M (gI (ordL l) i)).1), .bool ((ownR M (gI (ordL l) i)).2.1), .err 60 ((ownR M (gI (ordL l) i)).2.2)])) rfl (fun bs mm gd ht => fun K hK => u_Owner (bs.getD 0 0) (bs.getD 1 0) (bs.getD 2 0) s M N (gI (ordL l) i) hL (by omega) mm gd K (Tabs.up ht hT) hK) ?_
       refine sq ?_
       refine an (fun h9 => ?_) (fun h9 => ?_)
       · refine mg [0, 1, 3, 10, 29, 30, 31] 55 ((((ownR M (gI (ordL l) i)).2.1) && (!(((ownR M (gI (ordL l) i)).1) == who))) && ((fun _ => true) ((ownR M (gI (ordL l) i)).1))) ?_ ?_
         · repeat' first
            | exact ⟨⟨_, rfl, by grind [SB.val]⟩, rfl⟩
            | refine an (fun _ => ?_) (fun _ => ?_)
            | refine call0 (fun _ => u_always ((ownR M (gI (ordL l) i)).1)) rfl ?_
         refine an (fun h10 => ?_) (fun h10 => ?_)
         · replace h10 : (((ownR M (gI (ordL l) i)).2.1 = true) ∧ ((ownR M (gI (ordL l) i)).1 ≠ who)) ∧ ((fun _ => true) ((ownR M (gI (ordL l) i)).1) = true) := ⟨⟨(bandL (bandL h10)), (ne_of_beq_false (bnT (bandR (bandL h10))))⟩, (bandR h10)⟩
           refine rt rfl fun _ => ?_
           show K (.err 60 14) (AMem.wth m [(d, dObj kb nb s), (nb, mObj s.now), (kb, mObj s.kept)])
           have hw : ¬(who < 0 ∨ 4 ≤ who) := by grind
           have he : takeE M who ((fun _ => true)) (ordL l) = 14 := by rw [hI.2.2, takeE_drop hI.1 h8, if_neg (not_not_intro h9), if_pos (by grind)]
           rw [takeR, if_neg (by omega), if_pos (by rw [he]; decide), he] at hK
           exact hK s (hL.mono (by omega))
         replace h10 : (((ownR M (gI (ordL l) i)).2.1 = false) ∨ ((ownR M (gI (ordL l) i)).1 = who)) ∨ ((fun _ => true) ((ownR M (gI (ordL l) i)).1) = false) := ((bandF h10).imp (fun q => ((bandF q).imp (fun q => q) (fun q => (eq_of_beq (bnF q))))) (fun q => q))
         refine an (by omega) ?_
         refine ⟨(i + 1), ⟨rfl, rfl⟩, ?_, ?_⟩
         · try dsimp only
           exact ⟨by omega, by omega, by rw [hI.2.2, takeE_drop hI.1 h8, if_neg (not_not_intro h9), if_neg (by grind)]⟩
         try dsimp only
         omega
       refine rt rfl fun _ => ?_
       show K (.err 60 ((ownR M (gI (ordL l) i)).2.2)) (AMem.wth m [(d, dObj kb nb s), (nb, mObj s.now), (kb, mObj s.kept)])
       have hw : ¬(who < 0 ∨ 4 ≤ who) := by grind
       have he : takeE M who ((fun _ => true)) (ordL l) = (ownR M (gI (ordL l) i)).2.2 := by rw [hI.2.2, takeE_drop hI.1 h8, if_pos h9]
       rw [takeR, if_neg (by omega), if_pos (by rw [he]; exact h9), he] at hK
       exact hK s (hL.mono (by omega))
     have hw : ¬(who < 0 ∨ 4 ≤ who) := by grind
     have hf0 : takeE M who ((fun _ => true)) (ordL l) = 0 := by rw [hI.2.2, List.drop_eq_nil_of_le (by omega)]; rfl
     refine sq ?_
     refine ln ?_
     refine lp (σ := Int × DSt) [] [0, 1, 10, 58, 59, 60] 3 (fun ⟨j, t1⟩ => ([(0, .loc 0 0), (1, vI who), (10, vL ((ordL l).map strAV)), (58, vL ((ordL l).map strAV)), (59, vI ((ordL l).length : Int)), (60, vI j)], [.cells [.mp 2, .mp 1, .own (t1.wait.map chgAV), vI t1.fuse, vB t1.down, vI t1.steps], .obj (mObj t1.now), .obj (mObj t1.kept)], m)) (fun ⟨j, t1⟩ => 0 ≤ j ∧ j ≤ (ordL l).length ∧ Lk (N + j.toNat) t1 (lkF who M ((ordL l).take j.toNat))) (fun ⟨j, t1⟩ => (ordL l).length - j.toNat) (0, s) ⟨rfl, rfl⟩ ?_ ?_
     · try dsimp only
       exact ⟨by omega, by omega, hL⟩
     rintro ⟨j, t1⟩ hI2
     dsimp only at hI2
     refine sq ?_
     refine an (fun h11 => ?_) (fun h11 => ?_)
     · refine sq ?_
       refine ix (by omega) ?_
       refine call0 (fun _ => u_file (gI (ordL l) j) (by have := nameV_len (own_name (takeE_all hf0 _ (gI_mem (i := j) (by omega) (by omega)))); omega)) rfl ?_
       refine callT [] [] (vS (Lib.itoa who)) rfl (fun bs mm gd ht => fun K hK => u_Itoa who (by omega) (by omega) mm (Tabs.up ht hT) K hK) ?_
       refine callY 60 [0, 1, 2] (σ := DSt) (fun s4 => Lk (N + j.toNat + 1) s4 (mput (lkF who M ((ordL l).take j.toNat)) (gI (ordL l) j) (Lib.itoa who))) (fun s4 => .av (.err 60 0)) (fun s4 => [.cells [.mp 2, .mp 1, .own (s4.wait.map chgAV), vI s4.fuse, vB s4.down, vI s4.steps], .obj (mObj s4.now), .obj (mObj s4.kept)]) rfl (fun _ => rfl) (fun bs mm gd ht K hK => u_WriteL (bs.getD 0 0) (bs.getD 2 0) (bs.getD 1 0) hI2.2.2 gd.nd (by omega) (own_name (takeE_all hf0 _ (gI_mem (by omega) (by omega)))) (itoa_w (by omega) (by omega)) (.inr (by have := lkF_len who ((ordL l).take j.toNat) M; rw [List.length_take] at this; omega)) mm K (fun s_ hh => hK s_ hh)) ?_
       rintro s4 hx4
       refine an (fun h12 => ?_) (fun h12 => ?_)
       · refine an (by omega) ?_
         refine ⟨(j + 1, s4), ⟨rfl, rfl⟩, ?_, ?_⟩
         · try dsimp only
           exact ⟨by omega, by omega, by rw [lkF_step hI2.1 h11, show (j + 1).toNat = j.toNat + 1 from by omega]; exact hx4⟩
         try dsimp only
         omega
       refine rt rfl fun _ => ?_
       show K (.err 60 0) (AMem.wth m [(d, dObj kb nb s4), (nb, mObj s4.now), (kb, mObj s4.kept)])
       exact absurd rfl h12
     refine sq ?_
     refine ln ?_
     refine an (fun h13 => ?_) (fun h13 => ?_)
     · refine rt rfl fun _ => ?_
       show K (.err 60 0) (AMem.wth m [(d, dObj kb nb t1), (nb, mObj t1.now), (kb, mObj t1.kept)])
       have hu : takeR M who ((fun _ => true)) l = (lkF who M (ordL l), 0) := by rw [takeR, if_neg (by omega), if_neg (not_not_intro hf0)]
       rw [hu] at hK
       have hq := hI2.2.2
       rw [take_full (by omega)] at hq
       refine hK t1 ?_
       exact hq.mono (by omega)
     refine callY 60 [0, 1, 2] (σ := DSt) (fun s5 => Lk (N + j.toNat + 1) s5 (lkF who M ((ordL l).take j.toNat))) (fun s5 => .av (.err 60 0)) (fun s5 => [.cells [.mp 2, .mp 1, .own (s5.wait.map chgAV), vI s5.fuse, vB s5.down, vI s5.steps], .obj (mObj s5.now), .obj (mObj s5.kept)]) rfl (fun _ => rfl) (fun bs mm gd ht K hK => u_SyncL (bs.getD 0 0) (bs.getD 2 0) (bs.getD 1 0) hI2.2.2 gd.nd (by omega) mm K (fun s_ hh => hK s_ hh)) ?_
     rintro s5 hx5
     refine rt rfl fun _ => ?_
     show K (.err 60 0) (AMem.wth m [(d, dObj kb nb s5), (nb, mObj s5.now), (kb, mObj s5.kept)])
     have hu : takeR M who ((fun _ => true)) l = (lkF who M (ordL l), 0) := by rw [takeR, if_neg (by omega), if_neg (not_not_intro hf0)]
     rw [hu] at hK
     have hq := hx5
     rw [take_full (by omega)] at hq
     refine hK s5 ?_
     exact hq.mono (by omega)
 refine rt rfl fun _ => ?_
 show K (.err 60 (if who < 0 ∨ 4 ≤ who then 1 else 0)) (AMem.wth m [(d, dObj kb nb s), (nb, mObj s.now), (kb, mObj s.kept)])
 have hw : who < 0 ∨ 4 ≤ who := by grind
 rw [takeR, if_pos (by omega)] at hK
 rw [if_pos hw]
 exact hK s (hL.mono (by omega))
set_option maxHeartbeats 2000000 in
theorem u_shuts   (m : AMem)  (K : AV → AMem → Prop) (hT : Tabs m) (hK : K (.bool true) m) : ACalls Tryd.prog 5 [] m K := by
 refine enter (c := cf [] [] [6] [] [] []) (vs := []) (L := []) (m := m) false tbOk Tryd.mixed Tryd.func5 rfl (k := 0) (by show fnOk [] _ _ _ = true; decide +kernel) rfl (Good.nil m) ?_
 refine callN3 (.obj (mObj d0.kept)) (.obj (mObj d0.now)) (.cells [.mp 0, .mp 1, .own (d0.wait.map chgAV), vI d0.fuse, vB d0.down, vI d0.steps]) (fun d nb kb => dObj kb nb d0) (mObj []) (mObj []) rfl (fun _ => rfl) (fun _ => rfl) (fun bs d nb kb hl => dObj3 d nb kb hl) (fun bs mm hl ht K hK => u_New mm K hK) ?_
 refine sq ?_
 refine callY 60 [2, 1, 0] (σ := DSt) (fun s2 => Lk (0 + [[97]].length + 1) s2 [([97], Lib.itoa 2)]) (fun s2 => .av (.err 60 0)) (fun s2 => [.cells [.mp 0, .mp 1, .own (s2.wait.map chgAV), vI s2.fuse, vB s2.down, vI s2.steps], .obj (mObj s2.now), .obj (mObj s2.kept)]) rfl (fun _ => rfl) (fun bs mm gd ht K hK => u_TakeB (bs.getD 2 0) (bs.getD 1 0) (bs.getD 0 0) d0 [] 0 2 [[97]] Lk.new (by decide) (by decide) mm gd K (Tabs.up ht hT) (fun s_ hh => by rw [take_one (n := [97]) rfl (by decide) (by decide)] at hh ⊢; exact hK s_ hh)) ?_
 rintro s2 hx2
 refine callT [2, 1, 0] [.cells [.mp 0, .mp 1, .own (s2.wait.map chgAV), vI s2.fuse, vB s2.down, vI s2.steps], .obj (mObj s2.now), .obj (mObj s2.kept)] (.av (.tuple [.int .i64 2, .bool true, .err 60 0])) rfl (fun bs mm gd ht => fun K hK => u_Owner (bs.getD 2 0) (bs.getD 1 0) (bs.getD 0 0) s2 _ 2 [97] hx2 (by decide) mm gd K (Tabs.up ht hT) (by rw [own_new (n := [97]) (w := 2) rfl (by decide) (by decide)]; exact hK)) ?_
 refine mg [] 0 (2 == 2) ?_ ?_
 · repeat' first
    | exact ⟨⟨_, rfl, by grind [SB.val]⟩, rfl⟩
    | refine an (fun _ => ?_) (fun _ => ?_)
    | refine call0 (fun _ => u_same_eq 0 (by first | decide | omega | exact SAMENN)) rfl ?_
 exact rt0 rfl fun _ => hK
end Go.Proofs
end
section
namespace Go.Proofs
open Go Go.Aw Go.Sx
set_option maxRecDepth 100000
theorem takeR_nn (M : List (Str × Str)) (who : Int) (av : Int → Bool) (l : List Str) : 0 ≤ (takeR M who av l).2 := by
  unfold takeR
  split
  · exact (by decide : (0 : Int) ≤ 1)
  · split
    · exact takeE_nn ..
    · exact Int.le_refl _
theorem unlR_nn (M : List (Str × Str)) (who : Int) (l : List Str) : 0 ≤ (unlR M who l).2 := by
  unfold unlR
  split
  · exact (by decide : (0 : Int) ≤ 1)
  · split
    · exact firstE_nn ..
    · exact Int.le_refl _
set_option maxHeartbeats 8000000 in
theorem u_LocksSays (l : List ActT)  (m : AMem)  (K : AV → AMem → Prop) (hT : Tabs m) (hK : K (.bool true) m) : ACalls Tryd.prog 3 [.slice false (l.map actAV)] m K := by
 refine enter (c := cf [] [0] [2, 16, 25, 29] [18999, 20999] [18, 20] []) (vs := [.av (.slice false (l.map actAV))]) (L := []) (m := m) false tbOk Tryd.mixed Tryd.func3 rfl (k := 1) (by show fnOk [18999, 20999] _ _ _ = true; decide +kernel) rfl (Good.nil m) ?_
 refine ⟨fun F0 => ?_⟩
 have hbd0_0 : l.length ≤ 140737488355328 := bd_map (o := false) (F0 0).1
 refine callT [] [] (.b (.lit true)) rfl (fun bs mm gd ht => fun K hK => u_shuts mm K (Tabs.up ht hT) hK) ?_
 refine sq ?_
 refine mg [0, 3] 27 (!(lightA l 80 12000)) ?_ ?_
 · repeat' first
    | exact ⟨⟨_, rfl, by grind [SB.val]⟩, rfl⟩
    | refine an (fun _ => ?_) (fun _ => ?_)
    | refine call0 (fun _ => u_LightActs l 80 12000) rfl ?_
 refine an (fun h1 => ?_) (fun h1 => ?_)
 · exact rt0 rfl fun _ => hK
 refine callN3 (.obj (mObj d0.kept)) (.obj (mObj d0.now)) (.cells [.mp 0, .mp 1, .own (d0.wait.map chgAV), vI d0.fuse, vB d0.down, vI d0.steps]) (fun d nb kb => dObj kb nb d0) (mObj []) (mObj []) rfl (fun _ => rfl) (fun _ => rfl) (fun bs d nb kb hl => dObj3 d nb kb hl) (fun bs mm hl ht K hK => u_New mm K hK) ?_
 refine sq ?_
 refine lp (σ := Int × DSt × List (Str × Str) × Int × Int) [] [0, 4, 5, 6, 7, 8, 9] 6 (fun ⟨i, s, M, lo, hi⟩ => ([(0, vL (l.map actAV)), (4, .loc 2 0), (5, .mp 3), (6, .loc 4 0), (7, .loc 5 0), (8, .fn 8 [] [.loc 4 0, .loc 5 0]), (9, vI i)], [.obj (mObj s.kept), .obj (mObj s.now), .cells [.mp 0, .mp 1, .own (s.wait.map chgAV), vI s.fuse, vB s.down, vI s.steps], .obj (mObj M), .cells [vI lo], .cells [vI hi]], m)) (fun ⟨i, s, M, lo, hi⟩ => 0 ≤ i ∧ i ≤ l.length ∧ Lk (20 * i.toNat) s M ∧ M.length ≤ 24) (fun ⟨i, s, M, lo, hi⟩ => l.length - i.toNat) (0, d0, ([] : List ((List UInt8) × (List UInt8))), 0, 9) ⟨rfl, rfl⟩ ?_ ?_
 · try dsimp only
   exact ⟨by omega, by omega, Lk.new, by decide⟩
 rintro ⟨i, s, M, lo, hi⟩ hI
 dsimp only at hI
 have hla : lightA l 80 12000 = true := by simpa using h1
 have hl80 := lightA_len hla
 refine sq ?_
 refine ln ?_
 refine an (fun h2 => ?_) (fun h2 => ?_)
 · have hnl := lightA_names hla _ (gI_mem hI.1 h2)
   refine sq ?_
   refine ix (by omega) ?_
   refine jn (σ := Bool × DSt × List (Str × Str) × Int × Int) [(11, 0)] [0, 4, 5, 6, 7, 8, 9, 11] 7 (fun ⟨ok3, s3, M3, lo3, hi3⟩ => ([(0, vL (l.map actAV)), (4, .loc 2 0), (5, .mp 3), (6, .loc 4 0), (7, .loc 5 0), (8, .fn 8 [] [.loc 4 0, .loc 5 0]), (9, vI i), (11, vB ok3)], [.obj (mObj s3.kept), .obj (mObj s3.now), .cells [.mp 0, .mp 1, .own (s3.wait.map chgAV), vI s3.fuse, vB s3.down, vI s3.steps], .obj (mObj M3), .cells [vI lo3], .cells [vI hi3], .cells [vS ((gI l i).kind), vS ((gI l i).s), vS ((gI l i).t), vI ((gI l i).a), vI ((gI l i).b), vI (((gI l i).v).kind), vI (((gI l i).v).n), vS (((gI l i).v).s), vL ((((gI l i).v).l).map valIn), vL ((((gI l i).v).f).map fldIn), vL (((gI l i).names).map strAV)]], m)) (fun ⟨ok3, s3, M3, lo3, hi3⟩ => Lk (20 * i.toNat + 13) s3 M3 ∧ ok3 = true ∧ M3.length ≤ 36) ?_ ?_
   · rintro ⟨ok3, s3, M3, lo3, hi3⟩ hj0
     refine callM [2, 1, 0] [.cells [.mp 0, .mp 1, .own (s3.wait.map chgAV), vI s3.fuse, vB s3.down, vI s3.steps], .obj (mObj s3.now), .obj (mObj s3.kept)] (.av (.tuple [.slice false ((sortL (M3.map Prod.fst)).map strAV), .err 60 0])) rfl (fun bs mm gd => u_All (bs.getD 2 0) (bs.getD 1 0) (bs.getD 0 0) s3 M3 _ hj0.1 (by omega) mm gd) ?_
     refine sq ?_
     refine mg [0, 4, 5, 6, 7, 8, 9, 18] 157 ((!ok3) || (!(0 == 0))) ?_ ?_
     · repeat' first
        | exact ⟨⟨_, rfl, by grind [SB.val]⟩, rfl⟩
        | refine an (fun _ => ?_) (fun _ => ?_)
        | refine callM [3] [.obj (mObj M3)] (vL ((ordL (M3.map Prod.fst)).map strAV)) rfl (fun bs mm gd => u_Sorted (bs.getD 3 0) M3 (by omega) mm) ?_
        | refine call0 (fun _ => u_SameTexts_eq _ _ (sortL_ord hj0.1.nd)) rfl ?_
     refine an (fun h3 => ?_) (fun h3 => ?_)
     · replace h3 : (ok3 = false) ∨ (0 ≠ 0) := ((borT h3).imp (fun q => (bnT q)) (fun q => (ne_of_beq_false (bnT q))))
       refine rt0 rfl fun _ => ?_
       show K (.bool false) m
       rcases h3 with h | h
       · rw [hj0.2.1] at h; cases h
       · exact absurd rfl h
     replace h3 : (ok3 = true) ∧ (0 = 0) := ⟨(bnF (borL h3)), (eq_of_beq (bnF (borR h3)))⟩
     refine ln ?_
     refine an (fun h4 => ?_) (fun h4 => ?_)
     · exact rt0 rfl fun _ => hK
     refine an (by omega) ?_
     refine ⟨(i + 1, s3, M3, lo3, hi3), ⟨rfl, rfl⟩, ?_, ?_⟩
     · try dsimp only
       exact ⟨by omega, by omega, hj0.1.mono (by omega), by have hsl := sortL_len (M3.map Prod.fst); rw [List.length_map] at hsl; omega⟩
     try dsimp only
     omega
   refine an (fun h5 => ?_) (fun h5 => ?_)
   · refine rgA tbOk Tryd.mixed (σ := Bool × DSt × List (Str × Str)) (.f 0 (.f 1 (.f 3 (.f 5 (.f 7 (.f 8 (.f 10 (.f 12 (.o 2 (.o 4 (.o 6 (.o 9 (.s 11 (.s 13 (.s 14 (.s 15 .d)))) (.o 11 (.s 9 (.s 13 (.s 14 (.s 15 .d)))) .z)) (.o 9 (.o 6 (.s 11 (.s 13 (.s 14 (.s 15 .d)))) (.o 11 (.s 6 (.s 13 (.s 14 (.s 15 .d)))) .z)) (.o 11 (.o 6 (.s 9 (.s 13 (.s 14 (.s 15 .d)))) (.o 9 (.s 6 (.s 13 (.s 14 (.s 15 .d)))) .z)) .z))) (.o 9 (.o 4 (.o 6 (.s 11 (.s 13 (.s 14 (.s 15 .d)))) (.o 11 (.s 6 (.s 13 (.s 14 (.s 15 .d)))) .z)) (.o 11 (.s 4 (.s 6 (.s 13 (.s 14 (.s 15 .d))))) .z)) (.o 11 (.o 4 (.o 6 (.s 9 (.s 13 (.s 14 (.s 15 .d)))) (.o 9 (.s 6 (.s 13 (.s 14 (.s 15 .d)))) .z)) (.o 9 (.s 4 (.s 6 (.s 13 (.s 14 (.s 15 .d))))) .z)) .z))) (.o 4 (.o 2 (.o 6 (.o 9 (.s 11 (.s 13 (.s 14 (.s 15 .d)))) (.o 11 (.s 9 (.s 13 (.s 14 (.s 15 .d)))) .z)) (.o 9 (.o 6 (.s 11 (.s 13 (.s 14 (.s 15 .d)))) (.o 11 (.s 6 (.s 13 (.s 14 (.s 15 .d)))) .z)) (.o 11 (.o 6 (.s 9 (.s 13 (.s 14 (.s 15 .d)))) (.o 9 (.s 6 (.s 13 (.s 14 (.s 15 .d)))) .z)) .z))) (.o 9 (.o 2 (.o 6 (.s 11 (.s 13 (.s 14 (.s 15 .d)))) (.o 11 (.s 6 (.s 13 (.s 14 (.s 15 .d)))) .z)) (.o 11 (.s 2 (.s 6 (.s 13 (.s 14 (.s 15 .d))))) .z)) (.o 11 (.o 2 (.o 6 (.s 9 (.s 13 (.s 14 (.s 15 .d)))) (.o 9 (.s 6 (.s 13 (.s 14 (.s 15 .d)))) .z)) (.o 9 (.s 2 (.s 6 (.s 13 (.s 14 (.s 15 .d))))) .z)) .z))) (.o 9 (.o 2 (.o 4 (.o 6 (.s 11 (.s 13 (.s 14 (.s 15 .d)))) (.o 11 (.s 6 (.s 13 (.s 14 (.s 15 .d)))) .z)) (.o 11 (.s 4 (.s 6 (.s 13 (.s 14 (.s 15 .d))))) .z)) (.o 4 (.o 2 (.o 6 (.s 11 (.s 13 (.s 14 (.s 15 .d)))) (.o 11 (.s 6 (.s 13 (.s 14 (.s 15 .d)))) .z)) (.o 11 (.s 2 (.s 6 (.s 13 (.s 14 (.s 15 .d))))) .z)) (.o 11 (.o 2 (.s 4 (.s 6 (.s 13 (.s 14 (.s 15 .d))))) (.o 4 (.s 2 (.s 6 (.s 13 (.s 14 (.s 15 .d))))) .z)) .z))) (.o 11 (.o 2 (.o 4 (.o 6 (.s 9 (.s 13 (.s 14 (.s 15 .d)))) (.o 9 (.s 6 (.s 13 (.s 14 (.s 15 .d)))) .z)) (.o 9 (.s 4 (.s 6 (.s 13 (.s 14 (.s 15 .d))))) .z)) (.o 4 (.o 2 (.o 6 (.s 9 (.s 13 (.s 14 (.s 15 .d)))) (.o 9 (.s 6 (.s 13 (.s 14 (.s 15 .d)))) .z)) (.o 9 (.s 2 (.s 6 (.s 13 (.s 14 (.s 15 .d))))) .z)) (.o 9 (.o 2 (.s 4 (.s 6 (.s 13 (.s 14 (.s 15 .d))))) (.o 4 (.s 2 (.s 6 (.s 13 (.s 14 (.s 15 .d))))) .z)) .z))) .z)))))))))))) [(11, 0)] [0, 4, 5, 6, 7, 8, 9, 11] 7 (fun ⟨ok2, s2, M2⟩ => ([(0, vL (l.map actAV)), (4, .loc 2 0), (5, .mp 3), (6, .loc 4 0), (7, .loc 5 0), (8, .fn 8 [] [.loc 4 0, .loc 5 0]), (9, vI i), (11, vB ok2)], [.obj (mObj s2.kept), .obj (mObj s2.now), .cells [.mp 0, .mp 1, .own (s2.wait.map chgAV), vI s2.fuse, vB s2.down, vI s2.steps], .obj (mObj M2), .cells [vI lo], .cells [vI hi], .cells [vS ((gI l i).kind), vS ((gI l i).s), vS ((gI l i).t), vI ((gI l i).a), vI ((gI l i).b), vI (((gI l i).v).kind), vI (((gI l i).v).n), vS (((gI l i).v).s), vL ((((gI l i).v).l).map valIn), vL ((((gI l i).v).f).map fldIn), vL (((gI l i).names).map strAV)]], m)) (fun ⟨ok2, s2, M2⟩ => Lk (20 * i.toNat + 13) s2 M2 ∧ ok2 = true ∧ M2.length ≤ M.length + 12) (by decide +kernel) ?_ ?_
     · rintro ⟨ok2, s2, M2⟩ hy18
       try dsimp only at hy18
       refine ⟨(ok2, s2, M2, lo, hi), ⟨rfl, rfl⟩, ?_⟩
       first | exact ⟨hy18.1, hy18.2.1, by have := hy18.2.2; omega⟩ | exact ⟨hy20.1, hy20.2.1, by have := hy20.2.2; omega⟩ | exact ⟨hI.2.2.1.mono (by omega), by simp, by omega⟩ | exact ⟨hx2, by simp, by have := mput_len M (gI l i).s (gI l i).t; omega⟩
     repeat' first
      | refine ⟨(true, s2, (takeR M ((gI l i).a) (avF lo hi) ((gI l i).names)).1), ⟨rfl, rfl⟩, ⟨hx2, rfl, by have := takeR_len M (gI l i).a (avF lo hi) (gI l i).names; omega⟩⟩
      | (refine callY 60 [2, 1, 0, 4, 5] (σ := DSt) (fun s2 => Lk (20 * i.toNat + 13) s2 (takeR M ((gI l i).a) (avF lo hi) ((gI l i).names)).1) (fun s2 => .av (.err 60 ((takeR M ((gI l i).a) (avF lo hi) ((gI l i).names)).2))) (fun s2 => [.cells [.mp 0, .mp 1, .own (s2.wait.map chgAV), vI s2.fuse, vB s2.down, vI s2.steps], .obj (mObj s2.now), .obj (mObj s2.kept), .cells [vI lo], .cells [vI hi]]) rfl (fun _ => rfl) (fun bs mm gd ht K hK => u_TakeA (bs.getD 2 0) (bs.getD 1 0) (bs.getD 0 0) s M (20 * i.toNat) ((gI l i).a) ((gI l i).names) (bs.getD 4 0) (bs.getD 5 0) lo hi hI.2.2.1 (by omega) (by omega) mm gd K (Tabs.up ht hT) (fun s_ hh => hK s_ (hh.mono (by omega)))) ?_; rintro s2 hx2)
      | refine callM [3, 4, 5] [.obj (mObj ((takeR M ((gI l i).a) (avF lo hi) ((gI l i).names)).1)), .cells [vI lo], .cells [vI hi]] (vI ((takeR M ((gI l i).a) (avF lo hi) ((gI l i).names)).2)) rfl (fun bs mm gd => u_LockAllA M ((gI l i).a) ((gI l i).names) (bs.getD 3 0) (bs.getD 4 0) (bs.getD 5 0) lo hi (by omega) (by omega) mm gd) ?_
      | refine call0 (fun _ => u_same_eq ((takeR M ((gI l i).a) (avF lo hi) ((gI l i).names)).2) (by first | exact takeR_nn .. | exact unlR_nn .. | exact ownR_nn ..)) rfl ?_
      | refine ⟨?_, ?_, ?_, ?_, trivial⟩
      | refine ⟨?_, ?_, ?_, trivial⟩
      | refine ⟨?_, ?_, trivial⟩
   refine an (fun h6 => ?_) (fun h6 => ?_)
   · refine rgA tbOk Tryd.mixed (σ := Bool × DSt × List (Str × Str)) (.f 0 (.f 1 (.f 3 (.f 6 (.f 7 (.f 9 (.o 2 (.o 4 (.o 5 (.o 8 (.s 10 (.s 11 (.s 12 (.s 13 .d)))) (.o 10 (.s 8 (.s 11 (.s 12 (.s 13 .d)))) .z)) (.o 8 (.o 5 (.s 10 (.s 11 (.s 12 (.s 13 .d)))) (.o 10 (.s 5 (.s 11 (.s 12 (.s 13 .d)))) .z)) (.o 10 (.o 5 (.s 8 (.s 11 (.s 12 (.s 13 .d)))) (.o 8 (.s 5 (.s 11 (.s 12 (.s 13 .d)))) .z)) .z))) (.o 8 (.o 4 (.o 5 (.s 10 (.s 11 (.s 12 (.s 13 .d)))) (.o 10 (.s 5 (.s 11 (.s 12 (.s 13 .d)))) .z)) (.o 10 (.s 4 (.s 5 (.s 11 (.s 12 (.s 13 .d))))) .z)) (.o 10 (.o 4 (.o 5 (.s 8 (.s 11 (.s 12 (.s 13 .d)))) (.o 8 (.s 5 (.s 11 (.s 12 (.s 13 .d)))) .z)) (.o 8 (.s 4 (.s 5 (.s 11 (.s 12 (.s 13 .d))))) .z)) .z))) (.o 4 (.o 2 (.o 5 (.o 8 (.s 10 (.s 11 (.s 12 (.s 13 .d)))) (.o 10 (.s 8 (.s 11 (.s 12 (.s 13 .d)))) .z)) (.o 8 (.o 5 (.s 10 (.s 11 (.s 12 (.s 13 .d)))) (.o 10 (.s 5 (.s 11 (.s 12 (.s 13 .d)))) .z)) (.o 10 (.o 5 (.s 8 (.s 11 (.s 12 (.s 13 .d)))) (.o 8 (.s 5 (.s 11 (.s 12 (.s 13 .d)))) .z)) .z))) (.o 8 (.o 2 (.o 5 (.s 10 (.s 11 (.s 12 (.s 13 .d)))) (.o 10 (.s 5 (.s 11 (.s 12 (.s 13 .d)))) .z)) (.o 10 (.s 2 (.s 5 (.s 11 (.s 12 (.s 13 .d))))) .z)) (.o 10 (.o 2 (.o 5 (.s 8 (.s 11 (.s 12 (.s 13 .d)))) (.o 8 (.s 5 (.s 11 (.s 12 (.s 13 .d)))) .z)) (.o 8 (.s 2 (.s 5 (.s 11 (.s 12 (.s 13 .d))))) .z)) .z))) (.o 8 (.o 2 (.o 4 (.o 5 (.s 10 (.s 11 (.s 12 (.s 13 .d)))) (.o 10 (.s 5 (.s 11 (.s 12 (.s 13 .d)))) .z)) (.o 10 (.s 4 (.s 5 (.s 11 (.s 12 (.s 13 .d))))) .z)) (.o 4 (.o 2 (.o 5 (.s 10 (.s 11 (.s 12 (.s 13 .d)))) (.o 10 (.s 5 (.s 11 (.s 12 (.s 13 .d)))) .z)) (.o 10 (.s 2 (.s 5 (.s 11 (.s 12 (.s 13 .d))))) .z)) (.o 10 (.o 2 (.s 4 (.s 5 (.s 11 (.s 12 (.s 13 .d))))) (.o 4 (.s 2 (.s 5 (.s 11 (.s 12 (.s 13 .d))))) .z)) .z))) (.o 10 (.o 2 (.o 4 (.o 5 (.s 8 (.s 11 (.s 12 (.s 13 .d)))) (.o 8 (.s 5 (.s 11 (.s 12 (.s 13 .d)))) .z)) (.o 8 (.s 4 (.s 5 (.s 11 (.s 12 (.s 13 .d))))) .z)) (.o 4 (.o 2 (.o 5 (.s 8 (.s 11 (.s 12 (.s 13 .d)))) (.o 8 (.s 5 (.s 11 (.s 12 (.s 13 .d)))) .z)) (.o 8 (.s 2 (.s 5 (.s 11 (.s 12 (.s 13 .d))))) .z)) (.o 8 (.o 2 (.s 4 (.s 5 (.s 11 (.s 12 (.s 13 .d))))) (.o 4 (.s 2 (.s 5 (.s 11 (.s 12 (.s 13 .d))))) .z)) .z))) .z)))))))))) [(11, 0)] [0, 4, 5, 6, 7, 8, 9, 11] 7 (fun ⟨ok2, s2, M2⟩ => ([(0, vL (l.map actAV)), (4, .loc 2 0), (5, .mp 3), (6, .loc 4 0), (7, .loc 5 0), (8, .fn 8 [] [.loc 4 0, .loc 5 0]), (9, vI i), (11, vB ok2)], [.obj (mObj s2.kept), .obj (mObj s2.now), .cells [.mp 0, .mp 1, .own (s2.wait.map chgAV), vI s2.fuse, vB s2.down, vI s2.steps], .obj (mObj M2), .cells [vI lo], .cells [vI hi], .cells [vS ((gI l i).kind), vS ((gI l i).s), vS ((gI l i).t), vI ((gI l i).a), vI ((gI l i).b), vI (((gI l i).v).kind), vI (((gI l i).v).n), vS (((gI l i).v).s), vL ((((gI l i).v).l).map valIn), vL ((((gI l i).v).f).map fldIn), vL (((gI l i).names).map strAV)]], m)) (fun ⟨ok2, s2, M2⟩ => Lk (20 * i.toNat + 13) s2 M2 ∧ ok2 = true ∧ M2.length ≤ M.length + 12) (by decide +kernel) ?_ ?_
     · rintro ⟨ok2, s2, M2⟩ hy20
       try dsimp only at hy20
       refine ⟨(ok2, s2, M2, lo, hi), ⟨rfl, rfl⟩, ?_⟩
       first | exact ⟨hy18.1, hy18.2.1, by have := hy18.2.2; omega⟩ | exact ⟨hy20.1, hy20.2.1, by have := hy20.2.2; omega⟩ | exact ⟨hI.2.2.1.mono (by omega), by simp, by omega⟩ | exact ⟨hx3, by simp, by have := mput_len M (gI l i).s (gI l i).t; omega⟩
     repeat' first
      | refine ⟨(true, s3, (unlR M ((gI l i).a) ((gI l i).names)).1), ⟨rfl, rfl⟩, ⟨hx3, rfl, by have := unlR_len M (gI l i).a (gI l i).names; omega⟩⟩
      | (refine callY 60 [2, 1, 0] (σ := DSt) (fun s3 => Lk (20 * i.toNat + 13) s3 (unlR M ((gI l i).a) ((gI l i).names)).1) (fun s3 => .av (.err 60 ((unlR M ((gI l i).a) ((gI l i).names)).2))) (fun s3 => [.cells [.mp 0, .mp 1, .own (s3.wait.map chgAV), vI s3.fuse, vB s3.down, vI s3.steps], .obj (mObj s3.now), .obj (mObj s3.kept)]) rfl (fun _ => rfl) (fun bs mm gd ht K hK => u_Give (bs.getD 2 0) (bs.getD 1 0) (bs.getD 0 0) s M (20 * i.toNat) ((gI l i).a) ((gI l i).names) hI.2.2.1 (by omega) mm gd K (Tabs.up ht hT) (fun s_ hh => hK s_ (hh.mono (by omega)))) ?_; rintro s3 hx3)
      | refine callM [3] [.obj (mObj ((unlR M ((gI l i).a) ((gI l i).names)).1))] (vI ((unlR M ((gI l i).a) ((gI l i).names)).2)) rfl (fun bs mm gd => u_UnlockAll M ((gI l i).a) ((gI l i).names) (bs.getD 3 0) mm gd) ?_
      | refine call0 (fun _ => u_same_eq ((unlR M ((gI l i).a) ((gI l i).names)).2) (by first | exact takeR_nn .. | exact unlR_nn .. | exact ownR_nn ..)) rfl ?_
      | refine ⟨?_, ?_, ?_, ?_, trivial⟩
      | refine ⟨?_, ?_, ?_, trivial⟩
      | refine ⟨?_, ?_, trivial⟩
   refine an (fun h7 => ?_) (fun h7 => ?_)
   · refine ⟨(true, s, M, (gI l i).a, (gI l i).b), ⟨rfl, rfl⟩, ?_⟩
     first | exact ⟨hy18.1, hy18.2.1, by have := hy18.2.2; omega⟩ | exact ⟨hy20.1, hy20.2.1, by have := hy20.2.2; omega⟩ | exact ⟨hI.2.2.1.mono (by omega), by simp, by omega⟩ | exact ⟨hx3, by simp, by have := mput_len M (gI l i).s (gI l i).t; omega⟩
   refine an (fun h8 => ?_) (fun h8 => ?_)
   · refine mg [0, 4, 5, 6, 7, 8, 9, 10, 11] 126 (((nameV ((gI l i).s)) && (decide ((((gI l i).t).length : Int) ≤ 4000))) && (decide ((M.length : Int) < 24))) ?_ ?_
     · repeat' first
        | exact ⟨⟨_, rfl, by grind [SB.val]⟩, rfl⟩
        | refine an (fun _ => ?_) (fun _ => ?_)
        | refine call0 (fun _ => u_NameMay ((gI l i).s)) rfl ?_
        | refine ⟨_, List.length_map _, ?_⟩
     refine an (fun h9 => ?_) (fun h9 => ?_)
     · replace h9 : ((nameV ((gI l i).s) = true) ∧ ((((gI l i).t).length : Int) ≤ 4000)) ∧ ((M.length : Int) < 24) := ⟨⟨(bandL (bandL h9)), (of_decide_eq_true (bandR (bandL h9)))⟩, (of_decide_eq_true (bandR h9))⟩
       refine an (by have := nameV_len h9.1.1; simp only [List.length_append, List.length_cons, List.length_nil]; omega) ?_
       refine callY 60 [2, 1, 0] (σ := DSt) (fun s4 => Lk (20 * i.toNat + 13) s4 (mput M (gI l i).s ((gI l i).t))) (fun s4 => .av (.err 60 0)) (fun s4 => [.cells [.mp 0, .mp 1, .own (s4.wait.map chgAV), vI s4.fuse, vB s4.down, vI s4.steps], .obj (mObj s4.now), .obj (mObj s4.kept)]) rfl (fun _ => rfl) (fun bs mm gd ht K hK => u_WriteL (bs.getD 2 0) (bs.getD 0 0) (bs.getD 1 0) hI.2.2.1 gd.nd (by omega) h9.1.1 (by have := h9.1.2; omega) (.inr (by omega)) mm K (fun s_ hh => hK s_ (hh.mono (by omega)))) ?_
       rintro s4 hx4
       refine mup tbOk (dk := .string) strAV strAV strKey_ok M ((gI l i).s) ((gI l i).t) (t := 27) (ke := 9) (ve := 9) mpSS rfl rfl rfl rfl rfl (fun _ => rfl) (by (have := mput_len M ((gI l i).s) ((gI l i).t); (try simp only [List.length_nil] at this); omega)) ?_
       refine ⟨((0 == 0), s4, mput M ((gI l i).s) ((gI l i).t), lo, hi), ⟨rfl, rfl⟩, ?_⟩
       first | exact ⟨hy18.1, hy18.2.1, by have := hy18.2.2; omega⟩ | exact ⟨hy20.1, hy20.2.1, by have := hy20.2.2; omega⟩ | exact ⟨hI.2.2.1.mono (by omega), by simp, by omega⟩ | exact ⟨hx4, by simp, by have := mput_len M (gI l i).s (gI l i).t; omega⟩
     replace h9 : ((nameV ((gI l i).s) = false) ∨ (4000 < (((gI l i).t).length : Int))) ∨ (24 ≤ (M.length : Int)) := ((bandF h9).imp (fun q => ((bandF q).imp (fun q => q) (fun q => (Int.not_le.1 (of_decide_eq_false q))))) (fun q => (Int.not_lt.1 (of_decide_eq_false q))))
     refine ⟨(true, s, M, lo, hi), ⟨rfl, rfl⟩, ?_⟩
     first | exact ⟨hy18.1, hy18.2.1, by have := hy18.2.2; omega⟩ | exact ⟨hy20.1, hy20.2.1, by have := hy20.2.2; omega⟩ | exact ⟨hI.2.2.1.mono (by omega), by simp, by omega⟩ | exact ⟨hx4, by simp, by have := mput_len M (gI l i).s (gI l i).t; omega⟩
   refine callT [2, 1, 0] [.cells [.mp 0, .mp 1, .own (s.wait.map chgAV), vI s.fuse, vB s.down, vI s.steps], .obj (mObj s.now), .obj (mObj s.kept)] (.av (.tuple [.int .i64 ((ownR M ((gI l i).s)).1), .bool ((ownR M ((gI l i).s)).2.1), .err 60 ((ownR M ((gI l i).s)).2.2)])) rfl (fun bs mm gd ht => fun K hK => u_Owner (bs.getD 2 0) (bs.getD 1 0) (bs.getD 0 0) s M _ ((gI l i).s) hI.2.2.1 (by omega) mm gd K (Tabs.up ht hT) hK) ?_
   refine callM [3] [.obj (mObj M)] (.av (.tuple [.int .i64 ((ownR M ((gI l i).s)).1), .bool ((ownR M ((gI l i).s)).2.1), .int .i64 ((ownR M ((gI l i).s)).2.2)])) rfl (fun bs mm gd => u_OwnerOf M ((gI l i).s) (bs.getD 3 0) mm gd) ?_
   refine mg [0, 4, 5, 6, 7, 8, 9] 11 ((((ownR M ((gI l i).s)).1) == ((ownR M ((gI l i).s)).1)) && (((ownR M ((gI l i).s)).2.1) == ((ownR M ((gI l i).s)).2.1))) ?_ ?_
   · repeat' first
      | exact ⟨⟨_, rfl, by grind [SB.val]⟩, rfl⟩
      | refine an (fun _ => ?_) (fun _ => ?_)
      | refine call0 (fun _ => u_same_eq ((ownR M ((gI l i).s)).2.2) (by first | exact takeR_nn .. | exact unlR_nn .. | exact ownR_nn ..)) rfl ?_
   refine ⟨(((((ownR M ((gI l i).s)).1) == ((ownR M ((gI l i).s)).1)) && (((ownR M ((gI l i).s)).2.1) == ((ownR M ((gI l i).s)).2.1))), s, M, lo, hi), ⟨rfl, rfl⟩, ?_⟩
   first | exact ⟨hy18.1, hy18.2.1, by have := hy18.2.2; omega⟩ | exact ⟨hy20.1, hy20.2.1, by have := hy20.2.2; omega⟩ | exact ⟨hI.2.2.1.mono (by omega), by simp, by omega⟩ | exact ⟨hx4, by simp, by have := mput_len M (gI l i).s (gI l i).t; omega⟩
 exact rt0 rfl fun _ => hK
end Go.Proofs
end
section
namespace Go.Proofs
open Go Go.Aw Go.RowKit Go.WideShapes Go.ChangeShapes
set_option maxRecDepth 100000
theorem valIn_len (v : Val) : (valIn v).cells.length = 5 := by cases v; rfl
theorem fldIn_len (v : Str × Val) : (fldIn v).cells.length = 6 := by
  obtain ⟨s, v⟩ := v
  cases v; rfl
theorem rd_fld {n : Nat} (ih : ∀ k, k < n → Rd Tryd.prog k 32 valIn) : Rd Tryd.prog n 82 fldIn := by
  intro H enc W sp cs d ps h hw
  obtain ⟨hl, hf⟩ := rd_fields Tryd.underlying82 h hw
  obtain ⟨s, _, hs⟩ := hf 0 _ strAV rfl (fun _ _ => rd_string (by rfl)) (by decide)
  obtain ⟨v, _, hv⟩ := hf 1 _ valIn rfl (fun k hk => ih k hk) (by decide)
  refine ⟨(s, v), by rw [fldIn_len, hl]; rfl, fun i hi => ?_⟩
  rw [hl] at hi
  replace hi : i < 6 := hi
  cases v with
  | mk k n t l f =>
    match i, hi with
    | 0, _ => exact hs 0 (by decide)
    | 1, _ => exact hv 0 (by decide)
    | 2, _ => exact hv 1 (by decide)
    | 3, _ => exact hv 2 (by decide)
    | 4, _ => exact hv 3 (by decide)
    | 5, _ => exact hv 4 (by decide)
theorem rd_val (n : Nat) : Rd Tryd.prog n 32 valIn := by
  induction n using Nat.strongRecOn with
  | ind n ih =>
    intro H enc W sp cs d ps h hw
    obtain ⟨hl, hf⟩ := rd_fields Tryd.underlying32 h hw
    obtain ⟨k, _, hk⟩ := hf 0 _ intAV rfl (fun _ _ => rd_int (by rfl)) (by decide)
    obtain ⟨m, _, hm⟩ := hf 1 _ intAV rfl (fun _ _ => rd_int (by rfl)) (by decide)
    obtain ⟨s, _, hs⟩ := hf 2 _ strAV rfl (fun _ _ => rd_string (by rfl)) (by decide)
    obtain ⟨l, _, hll⟩ := hf 3 _ (lstAV valIn) rfl (fun j hj => rd_slice (by rfl) (by rfl) (by decide) (by decide) valIn_len (fun i hi => ih i (by omega))) (by decide)
    obtain ⟨f, _, hff⟩ := hf 4 _ (lstAV fldIn) rfl (fun j hj => rd_slice (by rfl) (by rfl) (by decide) (by decide) fldIn_len (fun i hi => rd_fld (fun q hq => ih q (by omega)))) (by decide)
    refine ⟨.mk k m s l f, by rw [valIn_len, hl]; rfl, fun i hi => ?_⟩
    rw [hl] at hi
    replace hi : i < 5 := hi
    rw [valIn_eq]
    match i, hi with
    | 0, _ => exact hk 0 (by decide)
    | 1, _ => exact hm 0 (by decide)
    | 2, _ => exact hs 0 (by decide)
    | 3, _ => exact hll 0 (by decide)
    | 4, _ => exact hff 0 (by decide)
theorem rd_act (n : Nat) : Rd Tryd.prog n 35 actAV := by
  intro H enc W sp cs d ps h hw
  obtain ⟨hl, hf⟩ := rd_fields Tryd.underlying35 h hw
  obtain ⟨k, _, hk⟩ := hf 0 _ strAV rfl (fun _ _ => rd_string (by rfl)) (by decide)
  obtain ⟨s, _, hs⟩ := hf 1 _ strAV rfl (fun _ _ => rd_string (by rfl)) (by decide)
  obtain ⟨t, _, ht⟩ := hf 2 _ strAV rfl (fun _ _ => rd_string (by rfl)) (by decide)
  obtain ⟨a, _, ha⟩ := hf 3 _ intAV rfl (fun _ _ => rd_int (by rfl)) (by decide)
  obtain ⟨b, _, hb⟩ := hf 4 _ intAV rfl (fun _ _ => rd_int (by rfl)) (by decide)
  obtain ⟨v, _, hv⟩ := hf 5 _ valIn rfl (fun _ _ => rd_val _) (by decide)
  obtain ⟨ns, _, hns⟩ := hf 6 _ (lstAV strAV) rfl (fun _ _ => rd_slice (by rfl) (by rfl) (by decide) (by decide) (fun _ => rfl) (fun _ _ => rd_string (by rfl))) (by decide)
  rw [valIn_eq] at hv
  refine ⟨⟨k, s, t, a, b, v, ns⟩, hl.symm, fun i hi => ?_⟩
  rw [hl] at hi
  replace hi : i < 11 := hi
  match i, hi with
  | 0, _ => exact hk 0 (by decide)
  | 1, _ => exact hs 0 (by decide)
  | 2, _ => exact ht 0 (by decide)
  | 3, _ => exact ha 0 (by decide)
  | 4, _ => exact hb 0 (by decide)
  | 5, _ => exact hv 0 (by decide)
  | 6, _ => exact hv 1 (by decide)
  | 7, _ => exact hv 2 (by decide)
  | 8, _ => exact hv 3 (by decide)
  | 9, _ => exact hv 4 (by decide)
  | 10, _ => exact hns 0 (by decide)
theorem okT_valN : ∀ (n : Nat) (v : Val), depV v < n → OkT (valIn v)
  | 0, _, h => absurd h (Nat.not_lt_zero _)
  | n + 1, v, h => by
    have e := depV_eq v
    rw [valIn_eq, valTop]
    have hl : ∀ w ∈ v.l, OkT (valIn w) := fun w hw => okT_valN n w (by have := depL_mem hw; omega)
    have hf : ∀ p ∈ v.f, OkT (fldIn p) := fun p hp => by
      have h2 := okT_valN n p.2 (by have := depF_mem hp; omega)
      rw [valIn_eq, valTop] at h2
      cases h2 with
      | agg _ h3 =>
        rw [fldIn_eq, fldTop]
        refine .agg _ fun y hy => ?_
        rcases List.mem_cons.1 hy with rfl | hy
        · exact .str _
        · exact h3 y hy
    refine .agg _ fun y hy => ?_
    simp only [List.mem_cons, List.not_mem_nil, or_false] at hy
    rcases hy with rfl | rfl | rfl | rfl | rfl
    · exact .int _ _ (by decide)
    · exact .int _ _ (by decide)
    · exact .str _
    · refine .slice _ (fun x hx => ?_) fun x hx y hy => ?_
      · obtain ⟨w, _, rfl⟩ := List.mem_map.1 hx
        exact fun e => by have := valIn_len w; rw [e] at this; cases this
      · obtain ⟨w, hw, rfl⟩ := List.mem_map.1 hx
        have h2 := hl w hw
        rw [valIn_eq, valTop] at h2
        rw [valIn_eq, valTop] at hy
        cases h2 with
        | agg _ h3 => exact h3 y hy
    · refine .slice _ (fun x hx => ?_) fun x hx y hy => ?_
      · obtain ⟨p, _, rfl⟩ := List.mem_map.1 hx
        exact fun e => by have := fldIn_len p; rw [e] at this; cases this
      · obtain ⟨p, hp, rfl⟩ := List.mem_map.1 hx
        have h2 := hf p hp
        rw [fldIn_eq, fldTop] at h2
        rw [fldIn_eq, fldTop] at hy
        cases h2 with
        | agg _ h3 => exact h3 y hy
theorem okT_val (v : Val) : OkT (valIn v) := okT_valN _ v (Nat.lt_succ_self _)
theorem okT_strs (l : List Str) : OkT (.slice false (l.map strAV)) := by
  refine .slice _ (fun x hx => ?_) fun x hx y hy => ?_
  · obtain ⟨s, _, rfl⟩ := List.mem_map.1 hx
    exact List.cons_ne_nil _ _
  · obtain ⟨s, _, rfl⟩ := List.mem_map.1 hx
    rw [List.mem_singleton.1 (show y ∈ [AV.str s] from hy)]; exact .str _
theorem okT_act (x : ActT) : ∀ y ∈ (actAV x).cells, OkT y := by
  intro y hy
  have h2 := okT_val x.v
  rw [valIn_eq] at h2
  have h3 : ∀ z ∈ (valTop x.v).cells, OkT z := by
    cases h2 with
    | agg _ h3 => exact h3
  replace hy : y ∈ [AV.str x.kind, .str x.s, .str x.t, .int .i64 x.a, .int .i64 x.b] ++ ((valTop x.v).cells ++ [.slice false (x.names.map strAV)]) := hy
  rcases List.mem_append.1 hy with hy | hy
  · simp only [List.mem_cons, List.not_mem_nil, or_false] at hy
    rcases hy with rfl | rfl | rfl | rfl | rfl
    · exact .str _
    · exact .str _
    · exact .str _
    · exact .int _ _ (by decide)
    · exact .int _ _ (by decide)
  · rcases List.mem_append.1 hy with hy | hy
    · exact h3 y hy
    · rw [List.mem_singleton.1 hy]; exact okT_strs _
theorem okT_acts (l : List ActT) : OkT (lstAV actAV l) := by
  refine .slice _ (fun x hx => ?_) fun x hx y hy => ?_
  · obtain ⟨p, _, rfl⟩ := List.mem_map.1 hx
    simp [actAV, AV.cells]
  · obtain ⟨p, hp, rfl⟩ := List.mem_map.1 hx
    exact okT_act p y hy
end Go.Proofs
end
