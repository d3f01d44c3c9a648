import Derived.Test.YtnahenbiipdlkaaGreatDoorPx8
section
namespace Go.Proofs
open Go Go.Aw Go.Sx
set_option maxRecDepth 100000
set_option maxHeartbeats 8000000 in
theorem u_DExpr1 (l : List Tok) (n a e q : Int) (k : Nat) (d : Int) (r : Nat) (ih : ∀ a e q d : Int, d = 7 - (k : Int) → 0 ≤ a → a ≤ l.length → 0 ≤ e → ∀ (r : Nat) (m : AMem), Gd [r] m → ∀ (K : AV → AMem → Prop), (∀ x' a' e' q', OX l (exprP l n k a) x' a e q a' e' q' → K (expTop x') (AMem.wth m [(r, .cells [.slice false (l.map tokAV), .int .i64 a', .int .i64 n, .int .i64 e', .int .i64 q'])])) → ACalls Tryz.prog 130 [.ptr ⟨r, 0, none⟩, .int .i64 d] (AMem.wth m [(r, .cells [.slice false (l.map tokAV), .int .i64 a, .int .i64 n, .int .i64 e, .int .i64 q])]) K) (hl : l.length ≤ 5000) (h0 : 0 ≤ a) (ha : a ≤ l.length) (he : 0 ≤ e) (hw : TokOk l) (hk : k ≤ 7) (hd : d + 1 = 7 - (k : Int)) (hz : e = 0) (m : AMem) (gd : Gd [r] m) (K : AV → AMem → Prop) (hK : ∀ x' a' e' q', OX l (exprP l n (k + 1) a) x' a e q a' e' q' → K (expTop x') (AMem.wth m [(r, .cells [.slice false (l.map tokAV), .int .i64 a', .int .i64 n, .int .i64 e', .int .i64 q'])])) : ACalls Tryz.prog 130 [.ptr ⟨r, 0, none⟩, .int .i64 d] (AMem.wth m [(r, .cells [.slice false (l.map tokAV), .int .i64 a, .int .i64 n, .int .i64 e, .int .i64 q])]) K := by
 refine enter (c := cf [] [] [14, 17, 39, 51, 61] [8999] [8] [r]) (vs := [.loc 0 0, .av (.int .i64 d)]) (L := [rD l n a e q]) (m := m) false tbOk Tryz.mixed Tryz.func130 rfl (k := 2) (by show fnOk [8999] _ _ _ = true; decide +kernel) rfl (gd.good rfl) ?_
 refine sq ?_
 refine an (fun h1 => ?_) (fun h1 => ?_)
 · omega
 refine sq ?_
 refine an (fun h2 => ?_) (fun h2 => ?_)
 · omega
 refine sq ?_
 refine ln ?_
 refine an (fun h3 => ?_) (fun h3 => ?_)
 · refine callY 115 [0] (σ := Int × Int) (fun ⟨e_1, q_1⟩ => (e = 0 → e_1 = 5 ∧ q_1 = hereP l n a) ∧ (e ≠ 0 → e_1 = e ∧ q_1 = q) ∧ 0 < e_1) (fun ⟨e_1, q_1⟩ => .tup []) (fun ⟨e_1, q_1⟩ => [rD l n a e_1 q_1]) rfl (fun _ => rfl) (fun bs mm gd ht K hK => u_Fail l n a e q 5 (bs.getD 0 0) (by decide) hl (by omega) (by omega) (by omega) mm gd K (fun z => hK (5, hereP l n a) ⟨fun _ => ⟨rfl, rfl⟩, fun y => absurd z y, by decide⟩) (fun z => hK (e, q) ⟨fun y => absurd y z, fun _ => ⟨rfl, rfl⟩, by omega⟩)) ?_
   rintro ⟨e_1, q_1⟩ hx1
   dsimp only at hx1
   obtain ⟨fa1, fb1, fc1⟩ := hx1
   refine rt rfl fun _ => ?_
   show K (.agg [.int .i64 0, .int .i64 0, .int .i64 0, .str ([]), .slice false [], .slice false [], .str ([]), .str ([]), .slice false [], .slice false []]) (AMem.wth m [(r, .cells [.slice false (l.map tokAV), .int .i64 a, .int .i64 n, .int .i64 e_1, .int .i64 q_1])])
   refine K_eq (hK (zE) _ _ _ ?_) ?_
   · rw [exprP, if_neg (by grind [tokB]), if_neg (by grind [tokB]), if_neg (by grind [tokB]), if_neg (by grind [tokB]), if_neg (by grind [tokB]), if_neg (by grind [tokB])]
     rw [wordP, if_neg (by grind [tokB]), if_neg (by grind [tokB]), if_neg (by grind [tokB]), if_neg (by grind [tokB]), if_neg (by grind [tokB]), if_neg (by grind [tokB]), if_neg (by grind [tokB])]
     exact OX.bad _ ha fa1 fb1 fc1
   · simp only [expTop, Exp.a, Exp.n, List.map_cons, List.map_nil, List.map_append, List.cons_append, List.nil_append, expIn_eq]; rfl
 refine rgA tbOk Tryz.mixed (σ := Unit) (.f 0 (.f 1 (.f 2 (.f 4 (.f 5 (.f 6 (.o 3 (.o 7 (.o 8 (.o 9 (.s 10 (.s 11 .d)) (.o 10 (.s 9 (.s 11 .d)) .z)) (.o 10 (.s 8 (.s 9 (.s 11 .d))) .z)) (.o 10 (.s 7 (.s 8 (.s 9 (.s 11 .d)))) .z)) (.o 7 (.o 3 (.o 8 (.o 9 (.s 10 (.s 11 .d)) (.o 10 (.s 9 (.s 11 .d)) .z)) (.o 10 (.s 8 (.s 9 (.s 11 .d))) .z)) (.o 10 (.s 3 (.s 8 (.s 9 (.s 11 .d)))) .z)) (.o 10 (.o 3 (.s 7 (.s 8 (.s 9 (.s 11 .d)))) (.o 7 (.s 3 (.s 8 (.s 9 (.s 11 .d)))) .z)) .z))))))))) [] [0, 1, 4, 5] 3 (fun _ => ([(0, .loc 0 0), (1, vI d), (4, .loc 1 0), (5, .loc 2 0)], [rD l n a e q, .cells [vI 0, vI 0, vI 0, vS ([]), .own [], .own [], vS ([]), vS ([]), .own [], .own []], .cells [vI ((gI l a).1), vI ((gI l a).2.1), vS ((gI l a).2.2)]], m)) (fun _ => True) (by decide +kernel) ?_ ?_
 · rintro _ hy8
   try dsimp only at hy8
   refine sq ?_
   refine an (fun h4 => ?_) (fun h4 => ?_)
   · refine callY 115 [0] (σ := Exp × Int × Int × Int) (fun ⟨x_2, a_2, e_2, q_2⟩ => OX l (numP l n 1 a) x_2 a e q a_2 e_2 q_2) (fun ⟨x_2, a_2, e_2, q_2⟩ => xS x_2) (fun ⟨x_2, a_2, e_2, q_2⟩ => [rD l n a_2 e_2 q_2]) rfl (fun _ => rfl) (fun bs mm gd ht K hK => u_Number l n a e q 1 (bs.getD 0 0) hl (by omega) (by omega) (by omega) hw (by omega) hz mm gd K (fun x_ a_ e_ q_ hh => hK (x_, a_, e_, q_) hh)) ?_
     rintro ⟨x_2, a_2, e_2, q_2⟩ hx2
     dsimp only at hx2
     have lo2 := hx2.lo
     have hi2 := hx2.hi
     have nn2 := hx2.nn
     refine rt rfl fun _ => ?_
     show K (.agg [.int .i64 x_2.kind, .int .i64 x_2.v.kind, .int .i64 x_2.v.n, .str x_2.v.s, .slice false (x_2.v.l.map valIn), .slice false (x_2.v.f.map fldIn), .str x_2.s, .str x_2.t, .slice false (x_2.a.map expIn), .slice false (x_2.n.map strAV)]) (AMem.wth m [(r, .cells [.slice false (l.map tokAV), .int .i64 a_2, .int .i64 n, .int .i64 e_2, .int .i64 q_2])])
     refine hK x_2 _ _ _ ?_
     rw [exprP, if_neg (by grind [tokB]), if_neg (by grind [tokB]), if_neg (by grind [tokB]), if_neg (by grind [tokB]), if_pos (by grind [tokB])]
     exact hx2
   refine an (fun h5 => ?_) (fun h5 => ?_)
   · refine an (by omega) ?_
     refine rt rfl fun _ => ?_
     show K (.agg [.int .i64 1, .int .i64 2, .int .i64 0, .str ((gI l a).2.2), .slice false [], .slice false [], .str ([]), .str ([]), .slice false [], .slice false []]) (AMem.wth m [(r, .cells [.slice false (l.map tokAV), .int .i64 (a + 1), .int .i64 n, .int .i64 e, .int .i64 q])])
     refine K_eq (hK (litE (.mk 2 0 (gI l a).2.2 [] [])) _ _ _ ?_) ?_
     · rw [exprP, if_neg (by grind [tokB]), if_neg (by grind [tokB]), if_neg (by grind [tokB]), if_neg (by grind [tokB]), if_neg (by grind [tokB]), if_pos (by grind [tokB])]
       exact OX.one (by omega) hz
     · simp only [expTop, Exp.a, Exp.n, List.map_cons, List.map_nil, List.map_append, List.cons_append, List.nil_append, expIn_eq]; rfl
   refine mg [0, 1, 4, 5] 74 ((((gI l a).1) == 4) && (((gI l a).2.2) == ([45] : List UInt8))) ?_ ?_
   · repeat' first
      | exact ⟨⟨_, rfl, by grind [SB.val]⟩, rfl⟩
      | refine an (fun _ => ?_) (fun _ => ?_)
   refine an (fun h6 => ?_) (fun h6 => ?_)
   · replace h6 : ((gI l a).1 = 4) ∧ ((gI l a).2.2 = ([45] : List UInt8)) := ⟨(eq_of_beq (bandL h6)), (eq_of_beq (bandR h6))⟩
     refine an (by omega) ?_
     refine callY 115 [0] (σ := Exp × Int × Int × Int) (fun ⟨x_3, a_3, e_3, q_3⟩ => OX l (numP l n (-1) (a + 1)) x_3 (a + 1) e q a_3 e_3 q_3) (fun ⟨x_3, a_3, e_3, q_3⟩ => xS x_3) (fun ⟨x_3, a_3, e_3, q_3⟩ => [rD l n a_3 e_3 q_3]) rfl (fun _ => rfl) (fun bs mm gd ht K hK => u_Number l n (a + 1) e q (-1) (bs.getD 0 0) hl (by omega) (by omega) (by omega) hw (by omega) hz mm gd K (fun x_ a_ e_ q_ hh => hK (x_, a_, e_, q_) hh)) ?_
     rintro ⟨x_3, a_3, e_3, q_3⟩ hx3
     dsimp only at hx3
     have lo3 := hx3.lo
     have hi3 := hx3.hi
     have nn3 := hx3.nn
     refine rt rfl fun _ => ?_
     show K (.agg [.int .i64 x_3.kind, .int .i64 x_3.v.kind, .int .i64 x_3.v.n, .str x_3.v.s, .slice false (x_3.v.l.map valIn), .slice false (x_3.v.f.map fldIn), .str x_3.s, .str x_3.t, .slice false (x_3.a.map expIn), .slice false (x_3.n.map strAV)]) (AMem.wth m [(r, .cells [.slice false (l.map tokAV), .int .i64 a_3, .int .i64 n, .int .i64 e_3, .int .i64 q_3])])
     refine hK x_3 _ _ _ ?_
     rw [exprP, if_neg (by grind [tokB]), if_neg (by grind [tokB]), if_neg (by grind [tokB]), if_pos (by grind [tokB])]
     exact OX.from hz (by omega) hx3
   replace h6 : ((gI l a).1 ≠ 4) ∨ ((gI l a).2.2 ≠ ([45] : List UInt8)) := ((bandF h6).imp (fun q => (ne_of_beq_false q)) (fun q => (ne_of_beq_false q)))
   refine mg [0, 1, 4, 5] 92 ((((gI l a).1) == 4) && (((gI l a).2.2) == ([40] : List UInt8))) ?_ ?_
   · repeat' first
      | exact ⟨⟨_, rfl, by grind [SB.val]⟩, rfl⟩
      | refine an (fun _ => ?_) (fun _ => ?_)
   refine an (fun h7 => ?_) (fun h7 => ?_)
   · replace h7 : ((gI l a).1 = 4) ∧ ((gI l a).2.2 = ([40] : List UInt8)) := ⟨(eq_of_beq (bandL h7)), (eq_of_beq (bandR h7))⟩
     refine an (by omega) ?_
     refine an (by omega) ?_
     refine callY 115 [0] (σ := Exp × Int × Int × Int) (fun ⟨x_4, a_4, e_4, q_4⟩ => OX l (exprP l n k (a + 1)) x_4 (a + 1) e q a_4 e_4 q_4) (fun ⟨x_4, a_4, e_4, q_4⟩ => xS x_4) (fun ⟨x_4, a_4, e_4, q_4⟩ => [rD l n a_4 e_4 q_4]) rfl (fun _ => rfl) (fun bs mm gd ht K hK => ih (a + 1) e q (d + 1) (by omega) (by omega) (by omega) (by omega) (bs.getD 0 0) mm gd K (fun x_ a_ e_ q_ hh => hK (x_, a_, e_, q_) hh)) ?_
     rintro ⟨x_4, a_4, e_4, q_4⟩ hx4
     dsimp only at hx4
     have lo4 := hx4.lo
     have hi4 := hx4.hi
     have nn4 := hx4.nn
     refine callY 115 [0] (σ := (Unit) ⊕ (Unit)) (Sum.elim (fun _ => e_4 = 0 ∧ tokB l 4 ([43] : List UInt8) a_4 = true) (fun _ => e_4 = 0 → tokB l 4 ([43] : List UInt8) a_4 = false)) (Sum.elim (fun _ => .b (.lit true)) (fun _ => .b (.lit false))) (Sum.elim (fun _ => [rD l n (a_4 + 1) e_4 q_4]) (fun _ => [rD l n a_4 e_4 q_4])) rfl (fun x => by rcases x with _ | _ <;> rfl) (fun bs mm gd ht K hK => u_Eat l n a_4 e_4 q_4 4 ([43] : List UInt8) (bs.getD 0 0) hl (by omega) (by omega) (by omega) mm gd K (fun z w => hK (.inl ()) ⟨z, w⟩) (fun z => hK (.inr ()) z)) ?_
     rintro (_ | _) hx5
     · try dsimp only [Sum.elim_inl, Sum.elim_inr] at hx5
       dsimp only [Sum.elim_inl, Sum.elim_inr]
       have ht5 := tokB_lt hx5.2
       refine ap expIn ([]) ([x_4] : List Exp) (by simp only [List.map_cons, List.map_nil, expIn_eq]; try rfl) (by simp only [List.map_cons, List.map_nil, expIn_eq]; try rfl) (fun a => by rw [expIn_eq]; exact ⟨rfl, rfl⟩) (by (simp only [List.length_append, List.length_cons, List.length_nil]; omega)) ?_
       refine sq ?_
       refine an (by omega) ?_
       refine callY 115 [0] (σ := Exp × Int × Int × Int) (fun ⟨x_6, a_6, e_6, q_6⟩ => OX l (exprP l n k (a_4 + 1)) x_6 (a_4 + 1) e_4 q_4 a_6 e_6 q_6) (fun ⟨x_6, a_6, e_6, q_6⟩ => xS x_6) (fun ⟨x_6, a_6, e_6, q_6⟩ => [rD l n a_6 e_6 q_6]) rfl (fun _ => rfl) (fun bs mm gd ht K hK => ih (a_4 + 1) e_4 q_4 (d + 1) (by omega) (by omega) (by omega) (by omega) (bs.getD 0 0) mm gd K (fun x_ a_ e_ q_ hh => hK (x_, a_, e_, q_) hh)) ?_
       rintro ⟨x_6, a_6, e_6, q_6⟩ hx6
       dsimp only at hx6
       have lo6 := hx6.lo
       have hi6 := hx6.hi
       have nn6 := hx6.nn
       refine ap expIn ([x_4] : List Exp) ([x_6] : List Exp) rfl (by simp only [List.map_cons, List.map_nil, expIn_eq]; try rfl) (fun a => by rw [expIn_eq]; exact ⟨rfl, rfl⟩) (by (simp only [List.length_append, List.length_cons, List.length_nil]; omega)) ?_
       refine callY 115 [0] (σ := Str × Int × Int × Int) (fun ⟨s_7, a_7, e_7, q_7⟩ => (OX l (wantP l n 4 ([41] : List UInt8) a_6) s_7 a_6 e_6 q_6 a_7 e_7 q_7) ∧ (e_7 ≠ 0 → s_7 = [])) (fun ⟨s_7, a_7, e_7, q_7⟩ => vS s_7) (fun ⟨s_7, a_7, e_7, q_7⟩ => [rD l n a_7 e_7 q_7]) rfl (fun _ => rfl) (fun bs mm gd ht K hK => u_Want l n a_6 e_6 q_6 4 ([41] : List UInt8) (bs.getD 0 0) hl (by omega) (by omega) (by omega) mm gd K (fun s_ a_ e_ q_ hh hz => hK (s_, a_, e_, q_) ⟨hh, hz⟩)) ?_
       rintro ⟨s_7, a_7, e_7, q_7⟩ hx7
       dsimp only at hx7
       obtain ⟨hx7, hz7⟩ := hx7
       have lo7 := hx7.lo
       have hi7 := hx7.hi
       have nn7 := hx7.nn
       refine rt rfl fun _ => ?_
       show K (.agg [.int .i64 5, .int .i64 0, .int .i64 0, .str ([]), .slice false [], .slice false [], .str ([]), .str ([]), .slice false ((([x_4] : List Exp) ++ ([x_6] : List Exp)).map expIn), .slice false []]) (AMem.wth m [(r, .cells [.slice false (l.map tokAV), .int .i64 a_7, .int .i64 n, .int .i64 e_7, .int .i64 q_7])])
       refine K_eq (hK (.mk 5 zV [] [] [x_4, x_6] []) _ _ _ ?_) ?_
       · rw [exprP, if_pos (by grind [tokB])]
         rw [betweenP]
         refine OX.from hz (by omega) (hx4.bind ?_)
         rw [if_pos hx5.2]
         exact OX.from hx5.1 (by omega) (hx6.bind (hx7.map fun _ => Exp.mk 5 zV [] [] [x_4, x_6] []))
       · simp only [expTop, Exp.a, Exp.n, List.map_cons, List.map_nil, List.map_append, List.cons_append, List.nil_append, expIn_eq]; rfl
     try dsimp only [Sum.elim_inl, Sum.elim_inr] at hx5
     dsimp only [Sum.elim_inl, Sum.elim_inr]
     refine callY 115 [0] (σ := (Unit) ⊕ (Unit)) (Sum.elim (fun _ => e_4 = 0 ∧ tokB l 4 ([61, 61] : List UInt8) a_4 = true) (fun _ => e_4 = 0 → tokB l 4 ([61, 61] : List UInt8) a_4 = false)) (Sum.elim (fun _ => .b (.lit true)) (fun _ => .b (.lit false))) (Sum.elim (fun _ => [rD l n (a_4 + 1) e_4 q_4]) (fun _ => [rD l n a_4 e_4 q_4])) rfl (fun x => by rcases x with _ | _ <;> rfl) (fun bs mm gd ht K hK => u_Eat l n a_4 e_4 q_4 4 ([61, 61] : List UInt8) (bs.getD 0 0) hl (by omega) (by omega) (by omega) mm gd K (fun z w => hK (.inl ()) ⟨z, w⟩) (fun z => hK (.inr ()) z)) ?_
     rintro (_ | _) hx8
     · try dsimp only [Sum.elim_inl, Sum.elim_inr] at hx8
       dsimp only [Sum.elim_inl, Sum.elim_inr]
       have ht8 := tokB_lt hx8.2
       refine ap expIn ([]) ([x_4] : List Exp) (by simp only [List.map_cons, List.map_nil, expIn_eq]; try rfl) (by simp only [List.map_cons, List.map_nil, expIn_eq]; try rfl) (fun a => by rw [expIn_eq]; exact ⟨rfl, rfl⟩) (by (simp only [List.length_append, List.length_cons, List.length_nil]; omega)) ?_
       refine sq ?_
       refine an (by omega) ?_
       refine callY 115 [0] (σ := Exp × Int × Int × Int) (fun ⟨x_9, a_9, e_9, q_9⟩ => OX l (exprP l n k (a_4 + 1)) x_9 (a_4 + 1) e_4 q_4 a_9 e_9 q_9) (fun ⟨x_9, a_9, e_9, q_9⟩ => xS x_9) (fun ⟨x_9, a_9, e_9, q_9⟩ => [rD l n a_9 e_9 q_9]) rfl (fun _ => rfl) (fun bs mm gd ht K hK => ih (a_4 + 1) e_4 q_4 (d + 1) (by omega) (by omega) (by omega) (by omega) (bs.getD 0 0) mm gd K (fun x_ a_ e_ q_ hh => hK (x_, a_, e_, q_) hh)) ?_
       rintro ⟨x_9, a_9, e_9, q_9⟩ hx9
       dsimp only at hx9
       have lo9 := hx9.lo
       have hi9 := hx9.hi
       have nn9 := hx9.nn
       refine ap expIn ([x_4] : List Exp) ([x_9] : List Exp) rfl (by simp only [List.map_cons, List.map_nil, expIn_eq]; try rfl) (fun a => by rw [expIn_eq]; exact ⟨rfl, rfl⟩) (by (simp only [List.length_append, List.length_cons, List.length_nil]; omega)) ?_
       refine callY 115 [0] (σ := Str × Int × Int × Int) (fun ⟨s_10, a_10, e_10, q_10⟩ => (OX l (wantP l n 4 ([41] : List UInt8) a_9) s_10 a_9 e_9 q_9 a_10 e_10 q_10) ∧ (e_10 ≠ 0 → s_10 = [])) (fun ⟨s_10, a_10, e_10, q_10⟩ => vS s_10) (fun ⟨s_10, a_10, e_10, q_10⟩ => [rD l n a_10 e_10 q_10]) rfl (fun _ => rfl) (fun bs mm gd ht K hK => u_Want l n a_9 e_9 q_9 4 ([41] : List UInt8) (bs.getD 0 0) hl (by omega) (by omega) (by omega) mm gd K (fun s_ a_ e_ q_ hh hz => hK (s_, a_, e_, q_) ⟨hh, hz⟩)) ?_
       rintro ⟨s_10, a_10, e_10, q_10⟩ hx10
       dsimp only at hx10
       obtain ⟨hx10, hz10⟩ := hx10
       have lo10 := hx10.lo
       have hi10 := hx10.hi
       have nn10 := hx10.nn
       refine rt rfl fun _ => ?_
       show K (.agg [.int .i64 6, .int .i64 0, .int .i64 0, .str ([]), .slice false [], .slice false [], .str ([]), .str ([]), .slice false ((([x_4] : List Exp) ++ ([x_9] : List Exp)).map expIn), .slice false []]) (AMem.wth m [(r, .cells [.slice false (l.map tokAV), .int .i64 a_10, .int .i64 n, .int .i64 e_10, .int .i64 q_10])])
       refine K_eq (hK (.mk 6 zV [] [] [x_4, x_9] []) _ _ _ ?_) ?_
       · rw [exprP, if_pos (by grind [tokB])]
         rw [betweenP]
         refine OX.from hz (by omega) (hx4.bind ?_)
         rw [if_neg (tokN (hx5 hx8.1)), if_pos hx8.2]
         exact OX.from hx8.1 (by omega) (hx9.bind (hx10.map fun _ => Exp.mk 6 zV [] [] [x_4, x_9] []))
       · simp only [expTop, Exp.a, Exp.n, List.map_cons, List.map_nil, List.map_append, List.cons_append, List.nil_append, expIn_eq]; rfl
     try dsimp only [Sum.elim_inl, Sum.elim_inr] at hx8
     dsimp only [Sum.elim_inl, Sum.elim_inr]
     refine callY 115 [0] (σ := (Unit) ⊕ (Unit)) (Sum.elim (fun _ => e_4 = 0 ∧ tokB l 4 ([63] : List UInt8) a_4 = true) (fun _ => e_4 = 0 → tokB l 4 ([63] : List UInt8) a_4 = false)) (Sum.elim (fun _ => .b (.lit true)) (fun _ => .b (.lit false))) (Sum.elim (fun _ => [rD l n (a_4 + 1) e_4 q_4]) (fun _ => [rD l n a_4 e_4 q_4])) rfl (fun x => by rcases x with _ | _ <;> rfl) (fun bs mm gd ht K hK => u_Eat l n a_4 e_4 q_4 4 ([63] : List UInt8) (bs.getD 0 0) hl (by omega) (by omega) (by omega) mm gd K (fun z w => hK (.inl ()) ⟨z, w⟩) (fun z => hK (.inr ()) z)) ?_
     rintro (_ | _) hx11
     · try dsimp only [Sum.elim_inl, Sum.elim_inr] at hx11
       dsimp only [Sum.elim_inl, Sum.elim_inr]
       have ht11 := tokB_lt hx11.2
       refine ap expIn ([]) ([x_4] : List Exp) (by simp only [List.map_cons, List.map_nil, expIn_eq]; try rfl) (by simp only [List.map_cons, List.map_nil, expIn_eq]; try rfl) (fun a => by rw [expIn_eq]; exact ⟨rfl, rfl⟩) (by (simp only [List.length_append, List.length_cons, List.length_nil]; omega)) ?_
       refine sq ?_
       refine an (by omega) ?_
       refine callY 115 [0] (σ := Exp × Int × Int × Int) (fun ⟨x_12, a_12, e_12, q_12⟩ => OX l (exprP l n k (a_4 + 1)) x_12 (a_4 + 1) e_4 q_4 a_12 e_12 q_12) (fun ⟨x_12, a_12, e_12, q_12⟩ => xS x_12) (fun ⟨x_12, a_12, e_12, q_12⟩ => [rD l n a_12 e_12 q_12]) rfl (fun _ => rfl) (fun bs mm gd ht K hK => ih (a_4 + 1) e_4 q_4 (d + 1) (by omega) (by omega) (by omega) (by omega) (bs.getD 0 0) mm gd K (fun x_ a_ e_ q_ hh => hK (x_, a_, e_, q_) hh)) ?_
       rintro ⟨x_12, a_12, e_12, q_12⟩ hx12
       dsimp only at hx12
       have lo12 := hx12.lo
       have hi12 := hx12.hi
       have nn12 := hx12.nn
       refine ap expIn ([x_4] : List Exp) ([x_12] : List Exp) rfl (by simp only [List.map_cons, List.map_nil, expIn_eq]; try rfl) (fun a => by rw [expIn_eq]; exact ⟨rfl, rfl⟩) (by (simp only [List.length_append, List.length_cons, List.length_nil]; omega)) ?_
       refine callY 115 [0] (σ := Str × Int × Int × Int) (fun ⟨s_13, a_13, e_13, q_13⟩ => (OX l (wantP l n 4 ([58] : List UInt8) a_12) s_13 a_12 e_12 q_12 a_13 e_13 q_13) ∧ (e_13 ≠ 0 → s_13 = [])) (fun ⟨s_13, a_13, e_13, q_13⟩ => vS s_13) (fun ⟨s_13, a_13, e_13, q_13⟩ => [rD l n a_13 e_13 q_13]) rfl (fun _ => rfl) (fun bs mm gd ht K hK => u_Want l n a_12 e_12 q_12 4 ([58] : List UInt8) (bs.getD 0 0) hl (by omega) (by omega) (by omega) mm gd K (fun s_ a_ e_ q_ hh hz => hK (s_, a_, e_, q_) ⟨hh, hz⟩)) ?_
       rintro ⟨s_13, a_13, e_13, q_13⟩ hx13
       dsimp only at hx13
       obtain ⟨hx13, hz13⟩ := hx13
       have lo13 := hx13.lo
       have hi13 := hx13.hi
       have nn13 := hx13.nn
       refine an (by omega) ?_
       refine callY 115 [0] (σ := Exp × Int × Int × Int) (fun ⟨x_14, a_14, e_14, q_14⟩ => OX l (exprP l n k a_13) x_14 a_13 e_13 q_13 a_14 e_14 q_14) (fun ⟨x_14, a_14, e_14, q_14⟩ => xS x_14) (fun ⟨x_14, a_14, e_14, q_14⟩ => [rD l n a_14 e_14 q_14]) rfl (fun _ => rfl) (fun bs mm gd ht K hK => ih a_13 e_13 q_13 (d + 1) (by omega) (by omega) (by omega) (by omega) (bs.getD 0 0) mm gd K (fun x_ a_ e_ q_ hh => hK (x_, a_, e_, q_) hh)) ?_
       rintro ⟨x_14, a_14, e_14, q_14⟩ hx14
       dsimp only at hx14
       have lo14 := hx14.lo
       have hi14 := hx14.hi
       have nn14 := hx14.nn
       refine ap expIn (([x_4] : List Exp) ++ ([x_12] : List Exp)) ([x_14] : List Exp) rfl (by simp only [List.map_cons, List.map_nil, expIn_eq]; try rfl) (fun a => by rw [expIn_eq]; exact ⟨rfl, rfl⟩) (by (simp only [List.length_append, List.length_cons, List.length_nil]; omega)) ?_
       refine callY 115 [0] (σ := Str × Int × Int × Int) (fun ⟨s_15, a_15, e_15, q_15⟩ => (OX l (wantP l n 4 ([41] : List UInt8) a_14) s_15 a_14 e_14 q_14 a_15 e_15 q_15) ∧ (e_15 ≠ 0 → s_15 = [])) (fun ⟨s_15, a_15, e_15, q_15⟩ => vS s_15) (fun ⟨s_15, a_15, e_15, q_15⟩ => [rD l n a_15 e_15 q_15]) rfl (fun _ => rfl) (fun bs mm gd ht K hK => u_Want l n a_14 e_14 q_14 4 ([41] : List UInt8) (bs.getD 0 0) hl (by omega) (by omega) (by omega) mm gd K (fun s_ a_ e_ q_ hh hz => hK (s_, a_, e_, q_) ⟨hh, hz⟩)) ?_
       rintro ⟨s_15, a_15, e_15, q_15⟩ hx15
       dsimp only at hx15
       obtain ⟨hx15, hz15⟩ := hx15
       have lo15 := hx15.lo
       have hi15 := hx15.hi
       have nn15 := hx15.nn
       refine rt rfl fun _ => ?_
       show K (.agg [.int .i64 7, .int .i64 0, .int .i64 0, .str ([]), .slice false [], .slice false [], .str ([]), .str ([]), .slice false (((([x_4] : List Exp) ++ ([x_12] : List Exp)) ++ ([x_14] : List Exp)).map expIn), .slice false []]) (AMem.wth m [(r, .cells [.slice false (l.map tokAV), .int .i64 a_15, .int .i64 n, .int .i64 e_15, .int .i64 q_15])])
       refine K_eq (hK (.mk 7 zV [] [] [x_4, x_12, x_14] []) _ _ _ ?_) ?_
       · rw [exprP, if_pos (by grind [tokB])]
         rw [betweenP]
         refine OX.from hz (by omega) (hx4.bind ?_)
         rw [if_neg (tokN (hx5 hx11.1)), if_neg (tokN (hx8 hx11.1)), if_pos hx11.2]
         exact OX.from hx11.1 (by omega) (hx12.bind (hx13.bind (hx14.bind (hx15.map fun _ => Exp.mk 7 zV [] [] [x_4, x_12, x_14] []))))
       · simp only [expTop, Exp.a, Exp.n, List.map_cons, List.map_nil, List.map_append, List.cons_append, List.nil_append, expIn_eq]; rfl
     try dsimp only [Sum.elim_inl, Sum.elim_inr] at hx11
     dsimp only [Sum.elim_inl, Sum.elim_inr]
     refine ap expIn ([]) ([x_4] : List Exp) (by simp only [List.map_cons, List.map_nil, expIn_eq]; try rfl) (by simp only [List.map_cons, List.map_nil, expIn_eq]; try rfl) (fun a => by rw [expIn_eq]; exact ⟨rfl, rfl⟩) (by (simp only [List.length_append, List.length_cons, List.length_nil]; omega)) ?_
     refine sq ?_
     refine callY 115 [0] (σ := Int × Int) (fun ⟨e_16, q_16⟩ => (e_4 = 0 → e_16 = 5 ∧ q_16 = hereP l n a_4) ∧ (e_4 ≠ 0 → e_16 = e_4 ∧ q_16 = q_4) ∧ 0 < e_16) (fun ⟨e_16, q_16⟩ => .tup []) (fun ⟨e_16, q_16⟩ => [rD l n a_4 e_16 q_16]) rfl (fun _ => rfl) (fun bs mm gd ht K hK => u_Fail l n a_4 e_4 q_4 5 (bs.getD 0 0) (by decide) hl (by omega) (by omega) (by omega) mm gd K (fun z => hK (5, hereP l n a_4) ⟨fun _ => ⟨rfl, rfl⟩, fun y => absurd z y, by decide⟩) (fun z => hK (e_4, q_4) ⟨fun y => absurd y z, fun _ => ⟨rfl, rfl⟩, by omega⟩)) ?_
     rintro ⟨e_16, q_16⟩ hx16
     dsimp only at hx16
     obtain ⟨fa16, fb16, fc16⟩ := hx16
     refine an (by omega) ?_
     refine callY 115 [0] (σ := Exp × Int × Int × Int) (fun ⟨x_17, a_17, e_17, q_17⟩ => OX l (exprP l n k a_4) x_17 a_4 e_16 q_16 a_17 e_17 q_17) (fun ⟨x_17, a_17, e_17, q_17⟩ => xS x_17) (fun ⟨x_17, a_17, e_17, q_17⟩ => [rD l n a_17 e_17 q_17]) rfl (fun _ => rfl) (fun bs mm gd ht K hK => ih a_4 e_16 q_16 (d + 1) (by omega) (by omega) (by omega) (by omega) (bs.getD 0 0) mm gd K (fun x_ a_ e_ q_ hh => hK (x_, a_, e_, q_) hh)) ?_
     rintro ⟨x_17, a_17, e_17, q_17⟩ hx17
     dsimp only at hx17
     have lo17 := hx17.lo
     have hi17 := hx17.hi
     have nn17 := hx17.nn
     refine ap expIn ([x_4] : List Exp) ([x_17] : List Exp) rfl (by simp only [List.map_cons, List.map_nil, expIn_eq]; try rfl) (fun a => by rw [expIn_eq]; exact ⟨rfl, rfl⟩) (by (simp only [List.length_append, List.length_cons, List.length_nil]; omega)) ?_
     refine callY 115 [0] (σ := Str × Int × Int × Int) (fun ⟨s_18, a_18, e_18, q_18⟩ => (OX l (wantP l n 4 ([41] : List UInt8) a_17) s_18 a_17 e_17 q_17 a_18 e_18 q_18) ∧ (e_18 ≠ 0 → s_18 = [])) (fun ⟨s_18, a_18, e_18, q_18⟩ => vS s_18) (fun ⟨s_18, a_18, e_18, q_18⟩ => [rD l n a_18 e_18 q_18]) rfl (fun _ => rfl) (fun bs mm gd ht K hK => u_Want l n a_17 e_17 q_17 4 ([41] : List UInt8) (bs.getD 0 0) hl (by omega) (by omega) (by omega) mm gd K (fun s_ a_ e_ q_ hh hz => hK (s_, a_, e_, q_) ⟨hh, hz⟩)) ?_
     rintro ⟨s_18, a_18, e_18, q_18⟩ hx18
     dsimp only at hx18
     obtain ⟨hx18, hz18⟩ := hx18
     have lo18 := hx18.lo
     have hi18 := hx18.hi
     have nn18 := hx18.nn
     refine rt rfl fun _ => ?_
     show K (.agg [.int .i64 0, .int .i64 0, .int .i64 0, .str ([]), .slice false [], .slice false [], .str ([]), .str ([]), .slice false ((([x_4] : List Exp) ++ ([x_17] : List Exp)).map expIn), .slice false []]) (AMem.wth m [(r, .cells [.slice false (l.map tokAV), .int .i64 a_18, .int .i64 n, .int .i64 e_18, .int .i64 q_18])])
     refine K_eq (hK (.mk 0 zV [] [] [x_4, x_17] []) _ _ _ ?_) ?_
     · rw [exprP, if_pos (by grind [tokB])]
       obtain ⟨rfl, rfl, rfl⟩ := hx17.st (by omega)
       obtain ⟨rfl, rfl, rfl⟩ := hx18.st (by omega)
       rw [betweenP]
       refine OX.from hz (by omega) (hx4.bind ?_)
       by_cases hy : e_4 = 0
       · rw [if_neg (tokN (hx5 hy)), if_neg (tokN (hx8 hy)), if_neg (tokN (hx11 hy))]
         exact OX.bad _ (by omega) fa16 fb16 fc16
       · obtain ⟨rfl, rfl⟩ := fb16 hy
         exact OX.stuck hy (by omega) (by omega)
     · simp only [expTop, Exp.a, Exp.n, List.map_cons, List.map_nil, List.map_append, List.cons_append, List.nil_append, expIn_eq]; rfl
   replace h7 : ((gI l a).1 ≠ 4) ∨ ((gI l a).2.2 ≠ ([40] : List UInt8)) := ((bandF h7).imp (fun q => (ne_of_beq_false q)) (fun q => (ne_of_beq_false q)))
   refine mg [0, 1, 4, 5] 173 ((((gI l a).1) == 4) && (((gI l a).2.2) == ([91] : List UInt8))) ?_ ?_
   · repeat' first
      | exact ⟨⟨_, rfl, by grind [SB.val]⟩, rfl⟩
      | refine an (fun _ => ?_) (fun _ => ?_)
   refine an (fun h8 => ?_) (fun h8 => ?_)
   · replace h8 : ((gI l a).1 = 4) ∧ ((gI l a).2.2 = ([91] : List UInt8)) := ⟨(eq_of_beq (bandL h8)), (eq_of_beq (bandR h8))⟩
     refine an (by omega) ?_
     refine sq ?_
     refine lp (σ := Int × Int × Int × List Exp) [] [0, 1, 4, 13] 4 (fun ⟨a2, e2, q2, xs⟩ => ([(0, .loc 0 0), (1, vI d), (4, .loc 1 0), (13, .loc 3 0)], [rD l n a2 e2 q2, .cells [vI 0, vI 0, vI 0, vS ([]), .own [], .own [], vS ([]), vS ([]), .own [], .own []], .cells [vI ((gI l a).1), vI ((gI l a).2.1), vS ((gI l a).2.2)], .cells [vI 8, vI 0, vI 0, vS ([] : Str), .own [], .own [], vS ([] : Str), vS ([] : Str), .own (xs.map expIn), .own []]], m)) (fun ⟨a2, e2, q2, xs⟩ => 0 ≤ a2 ∧ a + 1 ≤ a2 ∧ a2 ≤ l.length ∧ 0 ≤ e2 ∧ (e2 = 0 → (xs.length : Int) ≤ a2) ∧ xs.length ≤ 5001 ∧ ∃ fu : Nat, (e2 = 0 → l.length - a2 < fu) ∧ CX (listP (exprP l n k) l n (l.length + 1) (a + 1) []) e2 q2 (listP (exprP l n k) l n fu a2 xs)) (fun ⟨a2, e2, q2, xs⟩ => if e2 = 0 then l.length - a2.toNat + 1 else 0) (a + 1, e, q, []) ⟨rfl, rfl⟩ ?_ ?_
     · try dsimp only
       exact ⟨by omega, by omega, by omega, by omega, fun _ => by simp; omega, by simp, l.length + 1, fun _ => by omega, ⟨fun _ => rfl, fun h => absurd hz h⟩⟩
     rintro ⟨a2, e2, q2, xs⟩ hI
     dsimp only at hI
     obtain ⟨i1, i2, i3, i4, i5, i6, fu, i8, i9⟩ := hI
     refine sq ?_
     refine an (fun h9 => ?_) (fun h9 => ?_)
     · obtain ⟨fu, rfl⟩ : ∃ k, fu = k + 1 := ⟨fu - 1, by have := i8 h9; omega⟩
       have i10 := i8 h9
       have i11 := i5 h9
       refine callY 115 [0] (σ := (Unit) ⊕ (Unit)) (Sum.elim (fun _ => e2 = 0 ∧ tokB l 4 ([93] : List UInt8) a2 = true) (fun _ => e2 = 0 → tokB l 4 ([93] : List UInt8) a2 = false)) (Sum.elim (fun _ => .b (.lit true)) (fun _ => .b (.lit false))) (Sum.elim (fun _ => [rD l n (a2 + 1) e2 q2]) (fun _ => [rD l n a2 e2 q2])) rfl (fun x => by rcases x with _ | _ <;> rfl) (fun bs mm gd ht K hK => u_Eat l n a2 e2 q2 4 ([93] : List UInt8) (bs.getD 0 0) hl (by omega) (by omega) (by omega) mm gd K (fun z w => hK (.inl ()) ⟨z, w⟩) (fun z => hK (.inr ()) z)) ?_
       rintro (_ | _) hx19
       · try dsimp only [Sum.elim_inl, Sum.elim_inr] at hx19
         dsimp only [Sum.elim_inl, Sum.elim_inr]
         have ht19 := tokB_lt hx19.2
         refine sq ?_
         refine rt rfl fun _ => ?_
         show K (.agg [.int .i64 8, .int .i64 0, .int .i64 0, .str ([] : Str), .slice false [], .slice false [], .str ([] : Str), .str ([] : Str), .slice false (xs.map expIn), .slice false []]) (AMem.wth m [(r, .cells [.slice false (l.map tokAV), .int .i64 (a2 + 1), .int .i64 n, .int .i64 e2, .int .i64 q2])])
         refine K_eq (hK (.mk 8 zV [] [] xs []) _ _ _ ?_) ?_
         · rw [exprP, if_neg (by grind [tokB]), if_pos (by grind [tokB])]
           exact OX.from hz (by omega) (CX.done (a := a + 1) (e := e) (q := q) (i9.to fun _ => listP_ok hx19.2) hx19.1 hz (by omega) (tokB_lt hx19.2))
         · simp only [expTop, Exp.a, Exp.n, List.map_cons, List.map_nil, List.map_append, List.cons_append, List.nil_append, expIn_eq]; rfl
       try dsimp only [Sum.elim_inl, Sum.elim_inr] at hx19
       dsimp only [Sum.elim_inl, Sum.elim_inr]
       refine sq ?_
       refine sq ?_
       refine ln ?_
       refine an (fun h10 => ?_) (fun h10 => ?_)
       · refine callY 115 [0] (σ := Str × Int × Int × Int) (fun ⟨s_20, a_20, e_20, q_20⟩ => (OX l (wantP l n 4 ([44] : List UInt8) a2) s_20 a2 e2 q2 a_20 e_20 q_20) ∧ (e_20 ≠ 0 → s_20 = [])) (fun ⟨s_20, a_20, e_20, q_20⟩ => vS s_20) (fun ⟨s_20, a_20, e_20, q_20⟩ => [rD l n a_20 e_20 q_20]) rfl (fun _ => rfl) (fun bs mm gd ht K hK => u_Want l n a2 e2 q2 4 ([44] : List UInt8) (bs.getD 0 0) hl (by omega) (by omega) (by omega) mm gd K (fun s_ a_ e_ q_ hh hz => hK (s_, a_, e_, q_) ⟨hh, hz⟩)) ?_
         rintro ⟨s_20, a_20, e_20, q_20⟩ hx20
         dsimp only at hx20
         obtain ⟨hx20, hz20⟩ := hx20
         have lo20 := hx20.lo
         have hi20 := hx20.hi
         have nn20 := hx20.nn
         refine an (by omega) ?_
         refine callY 115 [0] (σ := Exp × Int × Int × Int) (fun ⟨x_21, a_21, e_21, q_21⟩ => OX l (exprP l n k a_20) x_21 a_20 e_20 q_20 a_21 e_21 q_21) (fun ⟨x_21, a_21, e_21, q_21⟩ => xS x_21) (fun ⟨x_21, a_21, e_21, q_21⟩ => [rD l n a_21 e_21 q_21]) rfl (fun _ => rfl) (fun bs mm gd ht K hK => ih a_20 e_20 q_20 (d + 1) (by omega) (by omega) (by omega) (by omega) (bs.getD 0 0) mm gd K (fun x_ a_ e_ q_ hh => hK (x_, a_, e_, q_) hh)) ?_
         rintro ⟨x_21, a_21, e_21, q_21⟩ hx21
         dsimp only at hx21
         have lo21 := hx21.lo
         have hi21 := hx21.hi
         have nn21 := hx21.nn
         refine ap expIn xs ([x_21] : List Exp) rfl (by simp only [List.map_cons, List.map_nil, expIn_eq]; try rfl) (fun a => by rw [expIn_eq]; exact ⟨rfl, rfl⟩) (by (simp only [List.length_append, List.length_cons, List.length_nil]; omega)) ?_
         refine ⟨(a_21, e_21, q_21, xs ++ ([x_21] : List Exp)), ⟨rfl, rfl⟩, ?_, ?_⟩
         · try dsimp only
           have hg := hx21.gt
           have c := CX.step (CX.step (p := wantP l n 4 [44] a2) (x := s_20) (g := fun _ a => (exprP l n k a).bind fun x a => listP (exprP l n k) l n fu a (xs ++ [x])) (i9.to fun _ => (listP_no (hx19 h9)).trans (sep_some h10)) hx20) hx21
           simp only [List.length_append, List.length_cons, List.length_nil]
           exact ⟨by omega, by omega, by omega, by omega, fun hq => by have := hg hq; omega, by omega, fu, fun hq => by have := hg hq; omega, c⟩
         try dsimp only
         rw [if_pos h9]
         have hg := hx21.gt
         split <;> omega
       refine an (by omega) ?_
       refine callY 115 [0] (σ := Exp × Int × Int × Int) (fun ⟨x_22, a_22, e_22, q_22⟩ => OX l (exprP l n k a2) x_22 a2 e2 q2 a_22 e_22 q_22) (fun ⟨x_22, a_22, e_22, q_22⟩ => xS x_22) (fun ⟨x_22, a_22, e_22, q_22⟩ => [rD l n a_22 e_22 q_22]) rfl (fun _ => rfl) (fun bs mm gd ht K hK => ih a2 e2 q2 (d + 1) (by omega) (by omega) (by omega) (by omega) (bs.getD 0 0) mm gd K (fun x_ a_ e_ q_ hh => hK (x_, a_, e_, q_) hh)) ?_
       rintro ⟨x_22, a_22, e_22, q_22⟩ hx22
       dsimp only at hx22
       have lo22 := hx22.lo
       have hi22 := hx22.hi
       have nn22 := hx22.nn
       refine ap expIn xs ([x_22] : List Exp) rfl (by simp only [List.map_cons, List.map_nil, expIn_eq]; try rfl) (fun a => by rw [expIn_eq]; exact ⟨rfl, rfl⟩) (by (simp only [List.length_append, List.length_cons, List.length_nil]; omega)) ?_
       refine ⟨(a_22, e_22, q_22, xs ++ ([x_22] : List Exp)), ⟨rfl, rfl⟩, ?_, ?_⟩
       · try dsimp only
         have hg := hx22.gt
         have c := CX.step (i9.to fun _ => (listP_no (hx19 h9)).trans (sep_none h10)) hx22
         simp only [List.length_append, List.length_cons, List.length_nil]
         exact ⟨by omega, by omega, by omega, by omega, fun hq => by have := hg hq; omega, by omega, fu, fun hq => by have := hg hq; omega, c⟩
       try dsimp only
       rw [if_pos h9]
       have hg := hx22.gt
       split <;> omega
     refine rt rfl fun _ => ?_
     show K (.agg [.int .i64 8, .int .i64 0, .int .i64 0, .str ([] : Str), .slice false [], .slice false [], .str ([] : Str), .str ([] : Str), .slice false (xs.map expIn), .slice false []]) (AMem.wth m [(r, .cells [.slice false (l.map tokAV), .int .i64 a2, .int .i64 n, .int .i64 e2, .int .i64 q2])])
     refine K_eq (hK (.mk 8 zV [] [] xs []) _ _ _ ?_) ?_
     · rw [exprP, if_neg (by grind [tokB]), if_pos (by grind [tokB])]
       exact OX.from hz (by omega) (CX.bad (a := a + 1) (e := e) (q := q) i9 h9 hz (by omega) (by omega) (by omega))
     · simp only [expTop, Exp.a, Exp.n, List.map_cons, List.map_nil, List.map_append, List.cons_append, List.nil_append, expIn_eq]; rfl
   replace h8 : ((gI l a).1 ≠ 4) ∨ ((gI l a).2.2 ≠ ([91] : List UInt8)) := ((bandF h8).imp (fun q => (ne_of_beq_false q)) (fun q => (ne_of_beq_false q)))
   refine mg [0, 1, 4, 5] 216 ((((gI l a).1) == 4) && (((gI l a).2.2) == ([123] : List UInt8))) ?_ ?_
   · repeat' first
      | exact ⟨⟨_, rfl, by grind [SB.val]⟩, rfl⟩
      | refine an (fun _ => ?_) (fun _ => ?_)
   refine an (fun h11 => ?_) (fun h11 => ?_)
   · replace h11 : ((gI l a).1 = 4) ∧ ((gI l a).2.2 = ([123] : List UInt8)) := ⟨(eq_of_beq (bandL h11)), (eq_of_beq (bandR h11))⟩
     refine an (by omega) ?_
     refine sq ?_
     refine lp (σ := Int × Int × Int × List Exp × List Str) [] [0, 1, 4, 16] 4 (fun ⟨a2, e2, q2, xs, ns⟩ => ([(0, .loc 0 0), (1, vI d), (4, .loc 1 0), (16, .loc 3 0)], [rD l n a2 e2 q2, .cells [vI 0, vI 0, vI 0, vS ([]), .own [], .own [], vS ([]), vS ([]), .own [], .own []], .cells [vI ((gI l a).1), vI ((gI l a).2.1), vS ((gI l a).2.2)], .cells [vI 9, vI 0, vI 0, vS ([] : Str), .own [], .own [], vS ([] : Str), vS ([] : Str), .own (xs.map expIn), .own (ns.map strAV)]], m)) (fun ⟨a2, e2, q2, xs, ns⟩ => 0 ≤ a2 ∧ a + 1 ≤ a2 ∧ a2 ≤ l.length ∧ 0 ≤ e2 ∧ (e2 = 0 → (xs.length : Int) ≤ a2 ∧ (ns.length : Int) ≤ a2) ∧ xs.length ≤ 5001 ∧ ns.length ≤ 5001 ∧ ∃ fu : Nat, (e2 = 0 → l.length - a2 < fu) ∧ CX (recP (exprP l n k) l n (l.length + 1) (a + 1) [] []) e2 q2 (recP (exprP l n k) l n fu a2 ns xs)) (fun ⟨a2, e2, q2, xs, ns⟩ => if e2 = 0 then l.length - a2.toNat + 1 else 0) (a + 1, e, q, [], []) ⟨rfl, rfl⟩ ?_ ?_
     · try dsimp only
       exact ⟨by omega, by omega, by omega, by omega, fun _ => ⟨by simp; omega, by simp; omega⟩, by simp, by simp, l.length + 1, fun _ => by omega, ⟨fun _ => rfl, fun h => absurd hz h⟩⟩
     rintro ⟨a2, e2, q2, xs, ns⟩ hI
     dsimp only at hI
     obtain ⟨i1, i2, i3, i4, i5, i6, i7, fu, i8, i9⟩ := hI
     refine sq ?_
     refine an (fun h12 => ?_) (fun h12 => ?_)
     · obtain ⟨fu, rfl⟩ : ∃ k, fu = k + 1 := ⟨fu - 1, by have := i8 h12; omega⟩
       have i10 := i8 h12
       have i11 := i5 h12
       refine callY 115 [0] (σ := (Unit) ⊕ (Unit)) (Sum.elim (fun _ => e2 = 0 ∧ tokB l 4 ([125] : List UInt8) a2 = true) (fun _ => e2 = 0 → tokB l 4 ([125] : List UInt8) a2 = false)) (Sum.elim (fun _ => .b (.lit true)) (fun _ => .b (.lit false))) (Sum.elim (fun _ => [rD l n (a2 + 1) e2 q2]) (fun _ => [rD l n a2 e2 q2])) rfl (fun x => by rcases x with _ | _ <;> rfl) (fun bs mm gd ht K hK => u_Eat l n a2 e2 q2 4 ([125] : List UInt8) (bs.getD 0 0) hl (by omega) (by omega) (by omega) mm gd K (fun z w => hK (.inl ()) ⟨z, w⟩) (fun z => hK (.inr ()) z)) ?_
       rintro (_ | _) hx23
       · try dsimp only [Sum.elim_inl, Sum.elim_inr] at hx23
         dsimp only [Sum.elim_inl, Sum.elim_inr]
         have ht23 := tokB_lt hx23.2
         refine sq ?_
         refine rt rfl fun _ => ?_
         show K (.agg [.int .i64 9, .int .i64 0, .int .i64 0, .str ([] : Str), .slice false [], .slice false [], .str ([] : Str), .str ([] : Str), .slice false (xs.map expIn), .slice false (ns.map strAV)]) (AMem.wth m [(r, .cells [.slice false (l.map tokAV), .int .i64 (a2 + 1), .int .i64 n, .int .i64 e2, .int .i64 q2])])
         refine K_eq (hK (.mk 9 zV [] [] xs ns) _ _ _ ?_) ?_
         · rw [exprP, if_neg (by grind [tokB]), if_neg (by grind [tokB]), if_pos (by grind [tokB])]
           exact OX.from hz (by omega) (CX.done (a := a + 1) (e := e) (q := q) (i9.to fun _ => recP_ok hx23.2) hx23.1 hz (by omega) (tokB_lt hx23.2))
         · simp only [expTop, Exp.a, Exp.n, List.map_cons, List.map_nil, List.map_append, List.cons_append, List.nil_append, expIn_eq]; rfl
       try dsimp only [Sum.elim_inl, Sum.elim_inr] at hx23
       dsimp only [Sum.elim_inl, Sum.elim_inr]
       refine sq ?_
       refine sq ?_
       refine ln ?_
       refine an (fun h13 => ?_) (fun h13 => ?_)
       · refine callY 115 [0] (σ := Str × Int × Int × Int) (fun ⟨s_24, a_24, e_24, q_24⟩ => (OX l (wantP l n 4 ([44] : List UInt8) a2) s_24 a2 e2 q2 a_24 e_24 q_24) ∧ (e_24 ≠ 0 → s_24 = [])) (fun ⟨s_24, a_24, e_24, q_24⟩ => vS s_24) (fun ⟨s_24, a_24, e_24, q_24⟩ => [rD l n a_24 e_24 q_24]) rfl (fun _ => rfl) (fun bs mm gd ht K hK => u_Want l n a2 e2 q2 4 ([44] : List UInt8) (bs.getD 0 0) hl (by omega) (by omega) (by omega) mm gd K (fun s_ a_ e_ q_ hh hz => hK (s_, a_, e_, q_) ⟨hh, hz⟩)) ?_
         rintro ⟨s_24, a_24, e_24, q_24⟩ hx24
         dsimp only at hx24
         obtain ⟨hx24, hz24⟩ := hx24
         have lo24 := hx24.lo
         have hi24 := hx24.hi
         have nn24 := hx24.nn
         refine callY 115 [0] (σ := Str × Int × Int × Int) (fun ⟨s_25, a_25, e_25, q_25⟩ => (OX l (wantP l n 1 ([]) a_24) s_25 a_24 e_24 q_24 a_25 e_25 q_25) ∧ (e_25 ≠ 0 → s_25 = [])) (fun ⟨s_25, a_25, e_25, q_25⟩ => vS s_25) (fun ⟨s_25, a_25, e_25, q_25⟩ => [rD l n a_25 e_25 q_25]) rfl (fun _ => rfl) (fun bs mm gd ht K hK => u_Want l n a_24 e_24 q_24 1 ([]) (bs.getD 0 0) hl (by omega) (by omega) (by omega) mm gd K (fun s_ a_ e_ q_ hh hz => hK (s_, a_, e_, q_) ⟨hh, hz⟩)) ?_
         rintro ⟨s_25, a_25, e_25, q_25⟩ hx25
         dsimp only at hx25
         obtain ⟨hx25, hz25⟩ := hx25
         have lo25 := hx25.lo
         have hi25 := hx25.hi
         have nn25 := hx25.nn
         refine sq ?_
         refine mg [0, 1, 4, 16, 18] 265 ((decide (0 < (ns.length : Int))) && (!(Op.bytesLess (gI ns ((ns.length : Int) - 1)) s_25))) ?_ ?_
         · repeat' first
            | exact ⟨⟨_, rfl, by grind [SB.val]⟩, rfl⟩
            | refine an (fun _ => ?_) (fun _ => ?_)
            | refine ln ?_
            | refine an (by omega) ?_
            | refine ix (by omega) ?_
         refine an (fun h14 => ?_) (fun h14 => ?_)
         · replace h14 : (0 < (ns.length : Int)) ∧ (Op.bytesLess (gI ns ((ns.length : Int) - 1)) s_25 = false) := ⟨(of_decide_eq_true (bandL h14)), (bnT (bandR h14))⟩
           refine callY 115 [0] (σ := Int × Int) (fun ⟨e_26, q_26⟩ => (e_25 = 0 → e_26 = 3 ∧ q_26 = hereP l n a_25) ∧ (e_25 ≠ 0 → e_26 = e_25 ∧ q_26 = q_25) ∧ 0 < e_26) (fun ⟨e_26, q_26⟩ => .tup []) (fun ⟨e_26, q_26⟩ => [rD l n a_25 e_26 q_26]) rfl (fun _ => rfl) (fun bs mm gd ht K hK => u_Fail l n a_25 e_25 q_25 3 (bs.getD 0 0) (by decide) hl (by omega) (by omega) (by omega) mm gd K (fun z => hK (3, hereP l n a_25) ⟨fun _ => ⟨rfl, rfl⟩, fun y => absurd z y, by decide⟩) (fun z => hK (e_25, q_25) ⟨fun y => absurd y z, fun _ => ⟨rfl, rfl⟩, by omega⟩)) ?_
           rintro ⟨e_26, q_26⟩ hx26
           dsimp only at hx26
           obtain ⟨fa26, fb26, fc26⟩ := hx26
           refine callY 115 [0] (σ := Str × Int × Int × Int) (fun ⟨s_27, a_27, e_27, q_27⟩ => (OX l (wantP l n 4 ([58] : List UInt8) a_25) s_27 a_25 e_26 q_26 a_27 e_27 q_27) ∧ (e_27 ≠ 0 → s_27 = [])) (fun ⟨s_27, a_27, e_27, q_27⟩ => vS s_27) (fun ⟨s_27, a_27, e_27, q_27⟩ => [rD l n a_27 e_27 q_27]) rfl (fun _ => rfl) (fun bs mm gd ht K hK => u_Want l n a_25 e_26 q_26 4 ([58] : List UInt8) (bs.getD 0 0) hl (by omega) (by omega) (by omega) mm gd K (fun s_ a_ e_ q_ hh hz => hK (s_, a_, e_, q_) ⟨hh, hz⟩)) ?_
           rintro ⟨s_27, a_27, e_27, q_27⟩ hx27
           dsimp only at hx27
           obtain ⟨hx27, hz27⟩ := hx27
           have lo27 := hx27.lo
           have hi27 := hx27.hi
           have nn27 := hx27.nn
           refine an (by omega) ?_
           refine callY 115 [0] (σ := Exp × Int × Int × Int) (fun ⟨x_28, a_28, e_28, q_28⟩ => OX l (exprP l n k a_27) x_28 a_27 e_27 q_27 a_28 e_28 q_28) (fun ⟨x_28, a_28, e_28, q_28⟩ => xS x_28) (fun ⟨x_28, a_28, e_28, q_28⟩ => [rD l n a_28 e_28 q_28]) rfl (fun _ => rfl) (fun bs mm gd ht K hK => ih a_27 e_27 q_27 (d + 1) (by omega) (by omega) (by omega) (by omega) (bs.getD 0 0) mm gd K (fun x_ a_ e_ q_ hh => hK (x_, a_, e_, q_) hh)) ?_
           rintro ⟨x_28, a_28, e_28, q_28⟩ hx28
           dsimp only at hx28
           have lo28 := hx28.lo
           have hi28 := hx28.hi
           have nn28 := hx28.nn
           refine ap strAV ns ([s_25] : List (List UInt8)) rfl rfl (fun _ => ⟨rfl, rfl⟩) (by (simp only [List.length_append, List.length_cons, List.length_nil]; omega)) ?_
           refine ap expIn xs ([x_28] : List Exp) rfl (by simp only [List.map_cons, List.map_nil, expIn_eq]; try rfl) (fun a => by rw [expIn_eq]; exact ⟨rfl, rfl⟩) (by (simp only [List.length_append, List.length_cons, List.length_nil]; omega)) ?_
           refine ⟨(a_28, e_28, q_28, xs ++ ([x_28] : List Exp), ns ++ ([s_25] : List (List UInt8))), ⟨rfl, rfl⟩, ?_, ?_⟩
           · try dsimp only
             have hg := hx28.gt
             have c1 := CX.step (CX.step (p := wantP l n 4 [44] a2) (x := s_24) (g := fun _ a => recB (exprP l n k) l n fu ns xs a) (i9.to fun _ => (recP_no (hx23 h12)).trans (sep_some h13)) hx24) hx25
             have c2 := CX.fail (R := recC (exprP l n k) l n fu ns xs s_25 a_25) (c1.to fun _ => recN_t h14) fa26 fb26 fc26
             have c := CX.step (CX.step c2 hx27) hx28
             simp only [List.length_append, List.length_cons, List.length_nil]
             exact ⟨by omega, by omega, by omega, by omega, fun hq => by have := hg hq; omega, by omega, by omega, fu, fun hq => by have := hg hq; omega, c⟩
           try dsimp only
           rw [if_pos h12]
           have hg := hx28.gt
           split <;> omega
         replace h14 : ((ns.length : Int) ≤ 0) ∨ (Op.bytesLess (gI ns ((ns.length : Int) - 1)) s_25 = true) := ((bandF h14).imp (fun q => (Int.not_lt.1 (of_decide_eq_false q))) (fun q => (bnF q)))
         refine callY 115 [0] (σ := Str × Int × Int × Int) (fun ⟨s_29, a_29, e_29, q_29⟩ => (OX l (wantP l n 4 ([58] : List UInt8) a_25) s_29 a_25 e_25 q_25 a_29 e_29 q_29) ∧ (e_29 ≠ 0 → s_29 = [])) (fun ⟨s_29, a_29, e_29, q_29⟩ => vS s_29) (fun ⟨s_29, a_29, e_29, q_29⟩ => [rD l n a_29 e_29 q_29]) rfl (fun _ => rfl) (fun bs mm gd ht K hK => u_Want l n a_25 e_25 q_25 4 ([58] : List UInt8) (bs.getD 0 0) hl (by omega) (by omega) (by omega) mm gd K (fun s_ a_ e_ q_ hh hz => hK (s_, a_, e_, q_) ⟨hh, hz⟩)) ?_
         rintro ⟨s_29, a_29, e_29, q_29⟩ hx29
         dsimp only at hx29
         obtain ⟨hx29, hz29⟩ := hx29
         have lo29 := hx29.lo
         have hi29 := hx29.hi
         have nn29 := hx29.nn
         refine an (by omega) ?_
         refine callY 115 [0] (σ := Exp × Int × Int × Int) (fun ⟨x_30, a_30, e_30, q_30⟩ => OX l (exprP l n k a_29) x_30 a_29 e_29 q_29 a_30 e_30 q_30) (fun ⟨x_30, a_30, e_30, q_30⟩ => xS x_30) (fun ⟨x_30, a_30, e_30, q_30⟩ => [rD l n a_30 e_30 q_30]) rfl (fun _ => rfl) (fun bs mm gd ht K hK => ih a_29 e_29 q_29 (d + 1) (by omega) (by omega) (by omega) (by omega) (bs.getD 0 0) mm gd K (fun x_ a_ e_ q_ hh => hK (x_, a_, e_, q_) hh)) ?_
         rintro ⟨x_30, a_30, e_30, q_30⟩ hx30
         dsimp only at hx30
         have lo30 := hx30.lo
         have hi30 := hx30.hi
         have nn30 := hx30.nn
         refine ap strAV ns ([s_25] : List (List UInt8)) rfl rfl (fun _ => ⟨rfl, rfl⟩) (by (simp only [List.length_append, List.length_cons, List.length_nil]; omega)) ?_
         refine ap expIn xs ([x_30] : List Exp) rfl (by simp only [List.map_cons, List.map_nil, expIn_eq]; try rfl) (fun a => by rw [expIn_eq]; exact ⟨rfl, rfl⟩) (by (simp only [List.length_append, List.length_cons, List.length_nil]; omega)) ?_
         refine ⟨(a_30, e_30, q_30, xs ++ ([x_30] : List Exp), ns ++ ([s_25] : List (List UInt8))), ⟨rfl, rfl⟩, ?_, ?_⟩
         · try dsimp only
           have hg := hx30.gt
           have c1 := CX.step (CX.step (p := wantP l n 4 [44] a2) (x := s_24) (g := fun _ a => recB (exprP l n k) l n fu ns xs a) (i9.to fun _ => (recP_no (hx23 h12)).trans (sep_some h13)) hx24) hx25
           have c2 := c1.to fun _ => recN_f h14
           have c := CX.step (CX.step c2 hx29) hx30
           simp only [List.length_append, List.length_cons, List.length_nil]
           exact ⟨by omega, by omega, by omega, by omega, fun hq => by have := hg hq; omega, by omega, by omega, fu, fun hq => by have := hg hq; omega, c⟩
         try dsimp only
         rw [if_pos h12]
         have hg := hx30.gt
         split <;> omega
       refine callY 115 [0] (σ := Str × Int × Int × Int) (fun ⟨s_31, a_31, e_31, q_31⟩ => (OX l (wantP l n 1 ([]) a2) s_31 a2 e2 q2 a_31 e_31 q_31) ∧ (e_31 ≠ 0 → s_31 = [])) (fun ⟨s_31, a_31, e_31, q_31⟩ => vS s_31) (fun ⟨s_31, a_31, e_31, q_31⟩ => [rD l n a_31 e_31 q_31]) rfl (fun _ => rfl) (fun bs mm gd ht K hK => u_Want l n a2 e2 q2 1 ([]) (bs.getD 0 0) hl (by omega) (by omega) (by omega) mm gd K (fun s_ a_ e_ q_ hh hz => hK (s_, a_, e_, q_) ⟨hh, hz⟩)) ?_
       rintro ⟨s_31, a_31, e_31, q_31⟩ hx31
       dsimp only at hx31
       obtain ⟨hx31, hz31⟩ := hx31
       have lo31 := hx31.lo
       have hi31 := hx31.hi
       have nn31 := hx31.nn
       refine sq ?_
       refine mg [0, 1, 4, 16, 18] 265 ((decide (0 < (ns.length : Int))) && (!(Op.bytesLess (gI ns ((ns.length : Int) - 1)) s_31))) ?_ ?_
       · repeat' first
          | exact ⟨⟨_, rfl, by grind [SB.val]⟩, rfl⟩
          | refine an (fun _ => ?_) (fun _ => ?_)
          | refine ln ?_
          | refine an (by omega) ?_
          | refine ix (by omega) ?_
       refine an (fun h15 => ?_) (fun h15 => ?_)
       · replace h15 : (0 < (ns.length : Int)) ∧ (Op.bytesLess (gI ns ((ns.length : Int) - 1)) s_31 = false) := ⟨(of_decide_eq_true (bandL h15)), (bnT (bandR h15))⟩
         refine callY 115 [0] (σ := Int × Int) (fun ⟨e_32, q_32⟩ => (e_31 = 0 → e_32 = 3 ∧ q_32 = hereP l n a_31) ∧ (e_31 ≠ 0 → e_32 = e_31 ∧ q_32 = q_31) ∧ 0 < e_32) (fun ⟨e_32, q_32⟩ => .tup []) (fun ⟨e_32, q_32⟩ => [rD l n a_31 e_32 q_32]) rfl (fun _ => rfl) (fun bs mm gd ht K hK => u_Fail l n a_31 e_31 q_31 3 (bs.getD 0 0) (by decide) hl (by omega) (by omega) (by omega) mm gd K (fun z => hK (3, hereP l n a_31) ⟨fun _ => ⟨rfl, rfl⟩, fun y => absurd z y, by decide⟩) (fun z => hK (e_31, q_31) ⟨fun y => absurd y z, fun _ => ⟨rfl, rfl⟩, by omega⟩)) ?_
         rintro ⟨e_32, q_32⟩ hx32
         dsimp only at hx32
         obtain ⟨fa32, fb32, fc32⟩ := hx32
         refine callY 115 [0] (σ := Str × Int × Int × Int) (fun ⟨s_33, a_33, e_33, q_33⟩ => (OX l (wantP l n 4 ([58] : List UInt8) a_31) s_33 a_31 e_32 q_32 a_33 e_33 q_33) ∧ (e_33 ≠ 0 → s_33 = [])) (fun ⟨s_33, a_33, e_33, q_33⟩ => vS s_33) (fun ⟨s_33, a_33, e_33, q_33⟩ => [rD l n a_33 e_33 q_33]) rfl (fun _ => rfl) (fun bs mm gd ht K hK => u_Want l n a_31 e_32 q_32 4 ([58] : List UInt8) (bs.getD 0 0) hl (by omega) (by omega) (by omega) mm gd K (fun s_ a_ e_ q_ hh hz => hK (s_, a_, e_, q_) ⟨hh, hz⟩)) ?_
         rintro ⟨s_33, a_33, e_33, q_33⟩ hx33
         dsimp only at hx33
         obtain ⟨hx33, hz33⟩ := hx33
         have lo33 := hx33.lo
         have hi33 := hx33.hi
         have nn33 := hx33.nn
         refine an (by omega) ?_
         refine callY 115 [0] (σ := Exp × Int × Int × Int) (fun ⟨x_34, a_34, e_34, q_34⟩ => OX l (exprP l n k a_33) x_34 a_33 e_33 q_33 a_34 e_34 q_34) (fun ⟨x_34, a_34, e_34, q_34⟩ => xS x_34) (fun ⟨x_34, a_34, e_34, q_34⟩ => [rD l n a_34 e_34 q_34]) rfl (fun _ => rfl) (fun bs mm gd ht K hK => ih a_33 e_33 q_33 (d + 1) (by omega) (by omega) (by omega) (by omega) (bs.getD 0 0) mm gd K (fun x_ a_ e_ q_ hh => hK (x_, a_, e_, q_) hh)) ?_
         rintro ⟨x_34, a_34, e_34, q_34⟩ hx34
         dsimp only at hx34
         have lo34 := hx34.lo
         have hi34 := hx34.hi
         have nn34 := hx34.nn
         refine ap strAV ns ([s_31] : List (List UInt8)) rfl rfl (fun _ => ⟨rfl, rfl⟩) (by (simp only [List.length_append, List.length_cons, List.length_nil]; omega)) ?_
         refine ap expIn xs ([x_34] : List Exp) rfl (by simp only [List.map_cons, List.map_nil, expIn_eq]; try rfl) (fun a => by rw [expIn_eq]; exact ⟨rfl, rfl⟩) (by (simp only [List.length_append, List.length_cons, List.length_nil]; omega)) ?_
         refine ⟨(a_34, e_34, q_34, xs ++ ([x_34] : List Exp), ns ++ ([s_31] : List (List UInt8))), ⟨rfl, rfl⟩, ?_, ?_⟩
         · try dsimp only
           have hg := hx34.gt
           have c1 := CX.step (i9.to fun _ => (recP_no (hx23 h12)).trans (sep_none h13)) hx31
           have c2 := CX.fail (R := recC (exprP l n k) l n fu ns xs s_31 a_31) (c1.to fun _ => recN_t h15) fa32 fb32 fc32
           have c := CX.step (CX.step c2 hx33) hx34
           simp only [List.length_append, List.length_cons, List.length_nil]
           exact ⟨by omega, by omega, by omega, by omega, fun hq => by have := hg hq; omega, by omega, by omega, fu, fun hq => by have := hg hq; omega, c⟩
         try dsimp only
         rw [if_pos h12]
         have hg := hx34.gt
         split <;> omega
       replace h15 : ((ns.length : Int) ≤ 0) ∨ (Op.bytesLess (gI ns ((ns.length : Int) - 1)) s_31 = true) := ((bandF h15).imp (fun q => (Int.not_lt.1 (of_decide_eq_false q))) (fun q => (bnF q)))
       refine callY 115 [0] (σ := Str × Int × Int × Int) (fun ⟨s_35, a_35, e_35, q_35⟩ => (OX l (wantP l n 4 ([58] : List UInt8) a_31) s_35 a_31 e_31 q_31 a_35 e_35 q_35) ∧ (e_35 ≠ 0 → s_35 = [])) (fun ⟨s_35, a_35, e_35, q_35⟩ => vS s_35) (fun ⟨s_35, a_35, e_35, q_35⟩ => [rD l n a_35 e_35 q_35]) rfl (fun _ => rfl) (fun bs mm gd ht K hK => u_Want l n a_31 e_31 q_31 4 ([58] : List UInt8) (bs.getD 0 0) hl (by omega) (by omega) (by omega) mm gd K (fun s_ a_ e_ q_ hh hz => hK (s_, a_, e_, q_) ⟨hh, hz⟩)) ?_
       rintro ⟨s_35, a_35, e_35, q_35⟩ hx35
       dsimp only at hx35
       obtain ⟨hx35, hz35⟩ := hx35
       have lo35 := hx35.lo
       have hi35 := hx35.hi
       have nn35 := hx35.nn
       refine an (by omega) ?_
       refine callY 115 [0] (σ := Exp × Int × Int × Int) (fun ⟨x_36, a_36, e_36, q_36⟩ => OX l (exprP l n k a_35) x_36 a_35 e_35 q_35 a_36 e_36 q_36) (fun ⟨x_36, a_36, e_36, q_36⟩ => xS x_36) (fun ⟨x_36, a_36, e_36, q_36⟩ => [rD l n a_36 e_36 q_36]) rfl (fun _ => rfl) (fun bs mm gd ht K hK => ih a_35 e_35 q_35 (d + 1) (by omega) (by omega) (by omega) (by omega) (bs.getD 0 0) mm gd K (fun x_ a_ e_ q_ hh => hK (x_, a_, e_, q_) hh)) ?_
       rintro ⟨x_36, a_36, e_36, q_36⟩ hx36
       dsimp only at hx36
       have lo36 := hx36.lo
       have hi36 := hx36.hi
       have nn36 := hx36.nn
       refine ap strAV ns ([s_31] : List (List UInt8)) rfl rfl (fun _ => ⟨rfl, rfl⟩) (by (simp only [List.length_append, List.length_cons, List.length_nil]; omega)) ?_
       refine ap expIn xs ([x_36] : List Exp) rfl (by simp only [List.map_cons, List.map_nil, expIn_eq]; try rfl) (fun a => by rw [expIn_eq]; exact ⟨rfl, rfl⟩) (by (simp only [List.length_append, List.length_cons, List.length_nil]; omega)) ?_
       refine ⟨(a_36, e_36, q_36, xs ++ ([x_36] : List Exp), ns ++ ([s_31] : List (List UInt8))), ⟨rfl, rfl⟩, ?_, ?_⟩
       · try dsimp only
         have hg := hx36.gt
         have c1 := CX.step (i9.to fun _ => (recP_no (hx23 h12)).trans (sep_none h13)) hx31
         have c2 := c1.to fun _ => recN_f h15
         have c := CX.step (CX.step c2 hx35) hx36
         simp only [List.length_append, List.length_cons, List.length_nil]
         exact ⟨by omega, by omega, by omega, by omega, fun hq => by have := hg hq; omega, by omega, by omega, fu, fun hq => by have := hg hq; omega, c⟩
       try dsimp only
       rw [if_pos h12]
       have hg := hx36.gt
       split <;> omega
     refine rt rfl fun _ => ?_
     show K (.agg [.int .i64 9, .int .i64 0, .int .i64 0, .str ([] : Str), .slice false [], .slice false [], .str ([] : Str), .str ([] : Str), .slice false (xs.map expIn), .slice false (ns.map strAV)]) (AMem.wth m [(r, .cells [.slice false (l.map tokAV), .int .i64 a2, .int .i64 n, .int .i64 e2, .int .i64 q2])])
     refine K_eq (hK (.mk 9 zV [] [] xs ns) _ _ _ ?_) ?_
     · rw [exprP, if_neg (by grind [tokB]), if_neg (by grind [tokB]), if_pos (by grind [tokB])]
       exact OX.from hz (by omega) (CX.bad (a := a + 1) (e := e) (q := q) i9 h12 hz (by omega) (by omega) (by omega))
     · simp only [expTop, Exp.a, Exp.n, List.map_cons, List.map_nil, List.map_append, List.cons_append, List.nil_append, expIn_eq]; rfl
   replace h11 : ((gI l a).1 ≠ 4) ∨ ((gI l a).2.2 ≠ ([123] : List UInt8)) := ((bandF h11).imp (fun q => (ne_of_beq_false q)) (fun q => (ne_of_beq_false q)))
   refine an (fun h16 => ?_) (fun h16 => ?_)
   · refine callY 115 [0] (σ := Exp × Int × Int × Int) (fun ⟨x_37, a_37, e_37, q_37⟩ => OX l (wordP (exprP l n k) l n a) x_37 a e q a_37 e_37 q_37) (fun ⟨x_37, a_37, e_37, q_37⟩ => xS x_37) (fun ⟨x_37, a_37, e_37, q_37⟩ => [rD l n a_37 e_37 q_37]) rfl (fun _ => rfl) (fun bs mm gd ht K hK => u_Word1 l n a e q k d ((gI l a).2.2) (bs.getD 0 0) ih hl (by omega) (by omega) (by omega) hz hk hd (by grind [tokB]) rfl mm gd K (fun x_ a_ e_ q_ hh => hK (x_, a_, e_, q_) hh)) ?_
     rintro ⟨x_37, a_37, e_37, q_37⟩ hx37
     dsimp only at hx37
     have lo37 := hx37.lo
     have hi37 := hx37.hi
     have nn37 := hx37.nn
     refine rt rfl fun _ => ?_
     show K (.agg [.int .i64 x_37.kind, .int .i64 x_37.v.kind, .int .i64 x_37.v.n, .str x_37.v.s, .slice false (x_37.v.l.map valIn), .slice false (x_37.v.f.map fldIn), .str x_37.s, .str x_37.t, .slice false (x_37.a.map expIn), .slice false (x_37.n.map strAV)]) (AMem.wth m [(r, .cells [.slice false (l.map tokAV), .int .i64 a_37, .int .i64 n, .int .i64 e_37, .int .i64 q_37])])
     refine hK x_37 _ _ _ ?_
     rw [exprP, if_neg (by grind [tokB]), if_neg (by grind [tokB]), if_neg (by grind [tokB]), if_neg (by grind [tokB]), if_neg (by grind [tokB]), if_neg (by grind [tokB])]
     exact hx37
   refine callY 115 [0] (σ := Int × Int) (fun ⟨e_38, q_38⟩ => (e = 0 → e_38 = 5 ∧ q_38 = hereP l n a) ∧ (e ≠ 0 → e_38 = e ∧ q_38 = q) ∧ 0 < e_38) (fun ⟨e_38, q_38⟩ => .tup []) (fun ⟨e_38, q_38⟩ => [rD l n a e_38 q_38]) rfl (fun _ => rfl) (fun bs mm gd ht K hK => u_Fail l n a e q 5 (bs.getD 0 0) (by decide) hl (by omega) (by omega) (by omega) mm gd K (fun z => hK (5, hereP l n a) ⟨fun _ => ⟨rfl, rfl⟩, fun y => absurd z y, by decide⟩) (fun z => hK (e, q) ⟨fun y => absurd y z, fun _ => ⟨rfl, rfl⟩, by omega⟩)) ?_
   rintro ⟨e_38, q_38⟩ hx38
   dsimp only at hx38
   obtain ⟨fa38, fb38, fc38⟩ := hx38
   refine rt rfl fun _ => ?_
   show K (.agg [.int .i64 0, .int .i64 0, .int .i64 0, .str ([]), .slice false [], .slice false [], .str ([]), .str ([]), .slice false [], .slice false []]) (AMem.wth m [(r, .cells [.slice false (l.map tokAV), .int .i64 a, .int .i64 n, .int .i64 e_38, .int .i64 q_38])])
   refine K_eq (hK (zE) _ _ _ ?_) ?_
   · rw [exprP, if_neg (by grind [tokB]), if_neg (by grind [tokB]), if_neg (by grind [tokB]), if_neg (by grind [tokB]), if_neg (by grind [tokB]), if_neg (by grind [tokB])]
     rw [wordP, if_neg (by grind [tokB]), if_neg (by grind [tokB]), if_neg (by grind [tokB]), if_neg (by grind [tokB]), if_neg (by grind [tokB]), if_neg (by grind [tokB]), if_neg (by grind [tokB])]
     exact OX.bad _ ha fa38 fb38 fc38
   · simp only [expTop, Exp.a, Exp.n, List.map_cons, List.map_nil, List.map_append, List.cons_append, List.nil_append, expIn_eq]; rfl
 refine ⟨?_, ?_, ?_, trivial⟩
 · refine ⟨?_, ?_, trivial⟩
   · refine ⟨?_, ?_, trivial⟩
     · refine ix (by omega) ?_
       refine ⟨?_, ?_, trivial⟩
       · refine ⟨(), ⟨rfl, rfl⟩, ?_⟩
         trivial
       · refine ⟨(), ⟨rfl, rfl⟩, ?_⟩
         trivial
     · refine ix (by omega) ?_
       refine ⟨(), ⟨rfl, rfl⟩, ?_⟩
       trivial
   · refine ix (by omega) ?_
     refine ⟨(), ⟨rfl, rfl⟩, ?_⟩
     trivial
 · refine ⟨?_, ?_, trivial⟩
   · refine ⟨?_, ?_, trivial⟩
     · refine ix (by omega) ?_
       refine ⟨?_, ?_, trivial⟩
       · refine ⟨(), ⟨rfl, rfl⟩, ?_⟩
         trivial
       · refine ⟨(), ⟨rfl, rfl⟩, ?_⟩
         trivial
     · refine ix (by omega) ?_
       refine ⟨(), ⟨rfl, rfl⟩, ?_⟩
       trivial
   · refine ix (by omega) ?_
     refine ⟨(), ⟨rfl, rfl⟩, ?_⟩
     trivial
 · refine ⟨?_, ?_, trivial⟩
   · refine ix (by omega) ?_
     refine ⟨(), ⟨rfl, rfl⟩, ?_⟩
     trivial
   · refine ix (by omega) ?_
     refine ⟨(), ⟨rfl, rfl⟩, ?_⟩
     trivial
end Go.Proofs
end
section
namespace Go.Proofs
open Go Go.Aw Go.Sx
set_option maxRecDepth 100000
set_option maxHeartbeats 2000000 in
theorem u_DExprZ (l : List Tok) (n a e q : Int) (k : Nat) (d : Int) (r : Nat) (hl : l.length ≤ 5000) (h0 : 0 ≤ a) (ha : a ≤ l.length) (he : 0 ≤ e) (hq : e ≠ 0 ∨ (k = 0 ∧ d = 7)) (m : AMem) (gd : Gd [r] m) (K : AV → AMem → Prop) (hK : ∀ x' a' e' q', OX l (exprP l n k a) x' a e q a' e' q' → K (expTop x') (AMem.wth m [(r, .cells [.slice false (l.map tokAV), .int .i64 a', .int .i64 n, .int .i64 e', .int .i64 q'])])) : ACalls Tryz.prog 130 [.ptr ⟨r, 0, none⟩, .int .i64 d] (AMem.wth m [(r, .cells [.slice false (l.map tokAV), .int .i64 a, .int .i64 n, .int .i64 e, .int .i64 q])]) K := by
 refine enter (c := cf [] [] [] [8999] [] [r]) (vs := [.loc 0 0, .av (.int .i64 d)]) (L := [rD l n a e q]) (m := m) false tbOk Tryz.mixed Tryz.func130 rfl (k := 2) (by show fnOk [8999] _ _ _ = true; decide +kernel) rfl (gd.good rfl) ?_
 refine sq ?_
 refine an (fun h1 => ?_) (fun h1 => ?_)
 · refine callY 115 [0] (σ := Int × Int) (fun ⟨e_1, q_1⟩ => (e = 0 → e_1 = 2 ∧ q_1 = hereP l n a) ∧ (e ≠ 0 → e_1 = e ∧ q_1 = q) ∧ 0 < e_1) (fun ⟨e_1, q_1⟩ => .tup []) (fun ⟨e_1, q_1⟩ => [rD l n a e_1 q_1]) rfl (fun _ => rfl) (fun bs mm gd ht K hK => u_Fail l n a e q 2 (bs.getD 0 0) (by decide) hl (by omega) (by omega) (by omega) mm gd K (fun z => hK (2, hereP l n a) ⟨fun _ => ⟨rfl, rfl⟩, fun y => absurd z y, by decide⟩) (fun z => hK (e, q) ⟨fun y => absurd y z, fun _ => ⟨rfl, rfl⟩, by omega⟩)) ?_
   rintro ⟨e_1, q_1⟩ hx1
   dsimp only at hx1
   obtain ⟨fa1, fb1, fc1⟩ := hx1
   refine sq ?_
   refine an (fun h2 => ?_) (fun h2 => ?_)
   · refine rt rfl fun _ => ?_
     show K (.agg [.int .i64 0, .int .i64 0, .int .i64 0, .str ([]), .slice false [], .slice false [], .str ([]), .str ([]), .slice false [], .slice false []]) (AMem.wth m [(r, .cells [.slice false (l.map tokAV), .int .i64 a, .int .i64 n, .int .i64 e_1, .int .i64 q_1])])
     refine hK zE _ _ _ ?_
     by_cases hz : e = 0
     · obtain ⟨rfl, _⟩ := hq.resolve_left (fun h => h hz)
       rw [exprP]
       exact OX.bad _ ha fa1 fb1 fc1
     · obtain ⟨rfl, rfl⟩ := fb1 hz
       exact OX.stuck hz he ha
   exact absurd h2 (by omega)
 refine sq ?_
 refine an (fun h3 => ?_) (fun h3 => ?_)
 · refine rt rfl fun _ => ?_
   show K (.agg [.int .i64 0, .int .i64 0, .int .i64 0, .str ([]), .slice false [], .slice false [], .str ([]), .str ([]), .slice false [], .slice false []]) (AMem.wth m [(r, .cells [.slice false (l.map tokAV), .int .i64 a, .int .i64 n, .int .i64 e, .int .i64 q])])
   refine hK zE _ _ _ ?_
   exact OX.stuck (by omega) he ha
 exact absurd h3 (by omega)
theorem u_DExpr (l : List Tok) (n : Int) (hl : l.length ≤ 5000) (hw : TokOk l) : ∀ (k : Nat), k ≤ 7 → ∀ a e q d : Int, d = 7 - (k : Int) → 0 ≤ a → a ≤ l.length → 0 ≤ e → ∀ (r : Nat) (m : AMem), Gd [r] m → ∀ (K : AV → AMem → Prop), (∀ x' a' e' q', OX l (exprP l n k a) x' a e q a' e' q' → K (expTop x') (AMem.wth m [(r, .cells [.slice false (l.map tokAV), .int .i64 a', .int .i64 n, .int .i64 e', .int .i64 q'])])) → ACalls Tryz.prog 130 [.ptr ⟨r, 0, none⟩, .int .i64 d] (AMem.wth m [(r, .cells [.slice false (l.map tokAV), .int .i64 a, .int .i64 n, .int .i64 e, .int .i64 q])]) K
  | 0, _ => fun a e q d hd h0 ha he r m gd K hK => u_DExprZ l n a e q 0 d r hl h0 ha he (.inr ⟨rfl, by omega⟩) m gd K hK
  | k + 1, hk => fun a e q d hd h0 ha he r m gd K hK => by
    by_cases hz : e = 0
    · exact u_DExpr1 l n a e q k d r (u_DExpr l n hl hw k (by omega)) hl h0 ha he hw (by omega) (by omega) hz m gd K hK
    · exact u_DExprZ l n a e q (k + 1) d r hl h0 ha he (.inl hz) m gd K hK
end Go.Proofs
end
section
namespace Go.Proofs
open Go Go.Aw Go.Sx
set_option maxRecDepth 100000
theorem take_tw (f : UInt8 → Bool) : ∀ (l : Str), l.take (l.takeWhile f).length = l.takeWhile f
  | [] => rfl
  | c :: r => by
    cases h : f c with
    | true => simp only [List.takeWhile_cons, h, if_true, List.length_cons, List.take_succ_cons, take_tw f r]
    | false => simp [h]
theorem sub_run (f : UInt8 → Bool) (s : Str) {a : Int} (h0 : 0 ≤ a) : sub s a (runI f s a) = (s.drop a.toNat).takeWhile f := by
  have e : (runI f s a - a).toNat = ((s.drop a.toNat).takeWhile f).length := by
    simp only [runI, runN]; omega
  rw [sub, e, take_tw]
theorem tw_mem (f : UInt8 → Bool) : ∀ (l : Str), ∀ c ∈ l.takeWhile f, f c = true
  | [], c, h => by cases h
  | x :: r, c, h => by
    cases hx : f x with
    | true =>
      simp only [List.takeWhile_cons, hx, if_true, List.mem_cons] at h
      rcases h with rfl | h
      · exact hx
      · exact tw_mem f r c h
    | false => simp [hx] at h
theorem oneI_dig {s : Str} {a : Int} (h0 : 0 ≤ a) (ha : a < s.length) (h : (oneI s a).1 = 2) : (oneI s a).2.1 ≠ [] ∧ (oneI s a).2.1.length ≤ 10 ∧ ∀ c ∈ (oneI s a).2.1, 48 ≤ c.toNat ∧ c.toNat ≤ 57 := by
  unfold oneI at h ⊢
  split at h
  · split at h <;> simp at h
  · rename_i h1
    split at h
    · rename_i h2
      split at h
      · simp at h
      · rename_i h3
        rw [if_neg h1, if_pos h2, if_neg h3]
        have e := sub_run digitB s h0
        have hl : (runI digitB s a - a) = (((s.drop a.toNat).takeWhile digitB).length : Int) := by
          simp only [runI, runN]; omega
        refine ⟨?_, ?_, ?_⟩
        · rw [e]
          have hd := drop_gI h0 ha
          rw [hd, List.takeWhile_cons, h2]; simp
        · rw [e]; show (List.takeWhile digitB (List.drop a.toNat s)).length ≤ 10; omega
        · rw [e]; intro c hc
          have := digitB_p.1 (tw_mem digitB _ c hc)
          omega
    · split at h
      · split at h <;> simp at h
      · split at h
        · simp at h
        · split at h <;> simp at h
theorem tokF_ok (s : Str) : ∀ (n : Nat) (a : Int) (out : List Tok), 0 ≤ a → TokOk out → TokOk (tokF n s a out).1
  | 0, a, out, _, h => by rw [tokF]; exact h
  | n + 1, a, out, h0, h => by
    rw [tokF]
    split
    · rename_i ha
      split
      · exact tokF_ok s n _ _ (by omega) h
      · split
        · exact tokF_ok s n _ _ (by have := runI_ge noLineB (s := s) h0; omega) h
        · split
          · intro t ht; cases ht
          · rename_i hb
            have he : (oneI s a).2.2.2 = 0 := by simpa using hb
            refine tokF_ok s n _ _ (by have := (oneI_end h0 ha he).1; omega) fun t ht h2 => ?_
            rcases List.mem_append.1 ht with ht | ht
            · exact h t ht h2
            · rw [List.mem_singleton.1 ht] at h2 ⊢
              exact oneI_dig h0 ha h2
    · exact h
theorem tokR_ok (s : Str) : TokOk (tokR s).1 := by
  unfold tokR
  split
  · intro t ht; cases ht
  · exact tokF_ok s _ _ _ (by omega) fun t ht => by cases ht
end Go.Proofs
end
section
namespace Go.Proofs
open Go Go.Aw Go.Sx
set_option maxRecDepth 100000
mutual
def xcE : Exp → Int
  | .mk _ _ _ _ a _ => xcL a + 1
def xcL : List Exp → Int
  | [] => 0
  | e :: r => xcE e + xcL r
end
mutual
def xdE : Exp → Int
  | .mk _ _ _ _ a _ => xdL a + 1
def xdL : List Exp → Int
  | [] => 0
  | e :: r => max (xdE e) (xdL r)
end
theorem xcE_eq (e : Exp) : xcE e = xcL e.a + 1 := by cases e with | mk k v s t a n => simp only [xcE, Exp.a]
theorem xdE_eq (e : Exp) : xdE e = xdL e.a + 1 := by cases e with | mk k v s t a n => simp only [xdE, Exp.a]
theorem xcL_drop {l : List Exp} {i : Int} (h0 : 0 ≤ i) (hi : i < l.length) : xcL (l.drop i.toNat) = xcE (gI l i) + xcL (l.drop (i + 1).toNat) := by rw [drop_gI h0 hi, xcL]
theorem xdL_drop {l : List Exp} {i : Int} (h0 : 0 ≤ i) (hi : i < l.length) : xdL (l.drop i.toNat) = max (xdE (gI l i)) (xdL (l.drop (i + 1).toNat)) := by rw [drop_gI h0 hi, xdL]
mutual
theorem xc_dep : ∀ e : Exp, 1 ≤ xcE e ∧ xcE e ≤ depE e ∧ 1 ≤ xdE e ∧ xdE e ≤ xcE e
  | .mk k v s t a n => by
    have h := xc_depL a
    simp only [xcE, xdE, depE]
    omega
theorem xc_depL : ∀ l : List Exp, 0 ≤ xcL l ∧ xcL l ≤ depEL l ∧ 0 ≤ xdL l ∧ xdL l ≤ xcL l
  | [] => by simp [xcL, xdL, depEL]
  | e :: r => by
    have h1 := xc_dep e
    have h2 := xc_depL r
    simp only [xcL, xdL, depEL]
    omega
end
set_option maxHeartbeats 1000000 in
theorem u_weigh1 (k : Nat) (e : Exp) (ih : ∀ x : Exp, depE x < k → depE x ≤ 1000000000 → ∀ (m : AMem) (K : AV → AMem → Prop), K (.tuple [.int .i64 (xcE x), .int .i64 (xdE x)]) m → ACalls Tryz.prog 55 [expTop x] m K) (hd : depE e < k + 1) (hb : depE e ≤ 1000000000) (m : AMem)  (K : AV → AMem → Prop) (hK : K (.tuple [.int .i64 (xcE e), .int .i64 (xdE e)]) m) : ACalls Tryz.prog 55 [expTop e] m K := by
 have hx := xc_dep e
 refine enter (c := cf [] [0] [] [] [] []) (vs := [.av (expTop e)]) (L := []) (m := m) false tbOk Tryz.mixed Tryz.func55 rfl (k := 1) (by show fnOk [] _ _ _ = true; decide +kernel) rfl (Good.nil m) ?_
 refine ⟨fun F0 => ?_⟩
 have hbd0_3 : e.v.s.length ≤ 140737488355328 := (F0 0 3 (Nat.le_of_ble_eq_true rfl))
 have hbd0_4 : e.v.l.length ≤ 140737488355328 := bd_map (F0 0 4 (Nat.le_of_ble_eq_true rfl))
 have hbd0_5 : e.v.f.length ≤ 140737488355328 := bd_map (F0 0 5 (Nat.le_of_ble_eq_true rfl))
 have hbd0_6 : e.s.length ≤ 140737488355328 := (F0 0 6 (Nat.le_of_ble_eq_true rfl))
 have hbd0_7 : e.t.length ≤ 140737488355328 := (F0 0 7 (Nat.le_of_ble_eq_true rfl))
 have hbd0_8 : e.a.length ≤ 140737488355328 := bd_map (F0 0 8 (Nat.le_of_ble_eq_true rfl))
 have hbd0_9 : e.n.length ≤ 140737488355328 := bd_map (F0 0 9 (Nat.le_of_ble_eq_true rfl))
 refine sq ?_
 refine lp (σ := Int × Int × Int) [] [1, 4, 5, 6] 1 (fun ⟨n_, d_, i⟩ => ([(1, .loc 0 0), (4, vI n_), (5, vI d_), (6, vI i)], [.cells [vI e.kind, vI e.v.kind, vI e.v.n, vS e.v.s, vL (e.v.l.map valIn), vL (e.v.f.map fldIn), vS e.s, vS e.t, vL (e.a.map expIn), vL (e.n.map strAV)]], m)) (fun ⟨n_, d_, i⟩ => 0 ≤ i ∧ i ≤ e.a.length ∧ 1 ≤ n_ ∧ 0 ≤ d_ ∧ xcE e = n_ + xcL (e.a.drop i.toNat) ∧ xdE e = max d_ (xdL (e.a.drop i.toNat)) + 1) (fun ⟨n_, d_, i⟩ => e.a.length - i.toNat) (1, 0, 0) ⟨rfl, rfl⟩ ?_ ?_
 · try dsimp only
   exact ⟨by omega, by omega, by omega, by omega, by rw [xcE_eq]; show _ = 1 + xcL e.a; omega, by rw [xdE_eq]; show _ = max 0 (xdL e.a) + 1; have := (xc_depL e.a).2.2.1; omega⟩
 rintro ⟨n_, d_, i⟩ hI
 dsimp only at hI
 refine sq ?_
 refine ln ?_
 refine an (fun h1 => ?_) (fun h1 => ?_)
 · have hs1 := xcL_drop hI.1 h1
   have hs2 := xdL_drop hI.1 h1
   have hp := xc_dep (gI e.a i)
   have hq := xc_depL (e.a.drop (i + 1).toNat)
   refine sq ?_
   refine ixg expTop expIn_eq (by omega) ?_
   refine call0 (fun _ => ih (gI e.a i) (by have := depE_mem (gI_mem (l := e.a) (i := i) hI.1 (by assumption)); omega) (by have := depE_mem (gI_mem (l := e.a) (i := i) hI.1 (by assumption)); omega)) rfl ?_
   refine an (by omega) ?_
   refine an (by omega) ?_
   refine ⟨(n_ + (xcE (gI e.a i)), if xdE (gI e.a i) > d_ then xdE (gI e.a i) else d_, i + 1), ⟨rfl, rfl⟩, ?_, ?_⟩
   · try dsimp only
     refine ⟨by omega, by omega, by omega, ?_, by omega, ?_⟩ <;> (first | omega | (split <;> omega))
   try dsimp only
   omega
 rw [List.drop_eq_nil_of_le (by omega)] at hI
 simp only [xcL, xdL] at hI
 refine an (by omega) ?_
 refine rt0 rfl fun _ => ?_
 show K (.tuple [.int .i64 n_, .int .i64 (d_ + 1)]) m
 rw [show xcE e = n_ by omega, show xdE e = d_ + 1 by omega] at hK; exact hK
end Go.Proofs
end
section
namespace Go.Proofs
open Go Go.Aw Go.Sx
set_option maxRecDepth 100000
theorem u_weigh2 : ∀ (k : Nat) (e : Exp), depE e < k → depE e ≤ 1000000000 → ∀ (m : AMem) (K : AV → AMem → Prop), K (.tuple [.int .i64 (xcE e), .int .i64 (xdE e)]) m → ACalls Tryz.prog 55 [expTop e] m K
  | 0, _, h => absurd h (Nat.not_lt_zero _)
  | k + 1, e, h => fun hb m K hK => u_weigh1 k e (fun x hx hb2 => u_weigh2 k x hx hb2) h hb m K hK
theorem u_weigh (e : Exp) (hb : depE e ≤ 1000000000) (m : AMem) (K : AV → AMem → Prop) (hK : K (.tuple [.int .i64 (xcE e), .int .i64 (xdE e)]) m) : ACalls Tryz.prog 55 [expTop e] m K := u_weigh2 (depE e + 1) e (Nat.lt_succ_self _) hb m K hK
set_option maxHeartbeats 1000000 in
theorem u_size1 (k : Nat) (e : Exp) (d lf : Int) (p : Nat) (ih : ∀ x : Exp, depE x < k → ∀ d lf : Int, 0 ≤ d → d ≤ 100 → 0 ≤ lf → lf ≤ 60 → ∀ (p : Nat) (m : AMem), Gd [p] m → ∀ (K : AV → AMem → Prop), (∀ f', f' = lf - xcE x ∧ xdE x + d ≤ 7 ∧ xcE x ≤ lf → K (.bool true) (AMem.wth m [(p, .cells [.int .i64 f'])])) → (∀ f', ¬(xdE x + d ≤ 7 ∧ xcE x ≤ lf) ∧ -1 ≤ f' ∧ f' ≤ lf → K (.bool false) (AMem.wth m [(p, .cells [.int .i64 f'])])) → ACalls Tryz.prog 59 [expTop x, .int .i64 d, .ptr ⟨p, 0, none⟩] (AMem.wth m [(p, .cells [.int .i64 lf])]) K) (hd : depE e < k + 1) (q0 : 0 ≤ d) (q1 : d ≤ 100) (q2 : 0 ≤ lf) (q3 : lf ≤ 60) (m : AMem) (gd : Gd [p] m) (K : AV → AMem → Prop) (k1 : ∀ f', f' = lf - xcE e ∧ xdE e + d ≤ 7 ∧ xcE e ≤ lf → K (.bool true) (AMem.wth m [(p, .cells [.int .i64 f'])])) (k2 : ∀ f', ¬(xdE e + d ≤ 7 ∧ xcE e ≤ lf) ∧ -1 ≤ f' ∧ f' ≤ lf → K (.bool false) (AMem.wth m [(p, .cells [.int .i64 f'])])) : ACalls Tryz.prog 59 [expTop e, .int .i64 d, .ptr ⟨p, 0, none⟩] (AMem.wth m [(p, .cells [.int .i64 lf])]) K := by
 have w0 := xc_dep e
 have w1 := xcE_eq e
 have w2 := xdE_eq e
 have w3 := xc_depL e.a
 refine enter (c := cf [] [0] [2] [] [] [p]) (vs := [.av (expTop e), .av (.int .i64 d), .loc 0 0]) (L := [.cells [vI lf]]) (m := m) false tbOk Tryz.mixed Tryz.func59 rfl (k := 3) (by show fnOk [] _ _ _ = true; decide +kernel) rfl (gd.good rfl) ?_
 refine ⟨fun F0 => ?_⟩
 have hbd0_3 : e.v.s.length ≤ 140737488355328 := (F0 0 3 (Nat.le_of_ble_eq_true rfl))
 have hbd0_4 : e.v.l.length ≤ 140737488355328 := bd_map (F0 0 4 (Nat.le_of_ble_eq_true rfl))
 have hbd0_5 : e.v.f.length ≤ 140737488355328 := bd_map (F0 0 5 (Nat.le_of_ble_eq_true rfl))
 have hbd0_6 : e.s.length ≤ 140737488355328 := (F0 0 6 (Nat.le_of_ble_eq_true rfl))
 have hbd0_7 : e.t.length ≤ 140737488355328 := (F0 0 7 (Nat.le_of_ble_eq_true rfl))
 have hbd0_8 : e.a.length ≤ 140737488355328 := bd_map (F0 0 8 (Nat.le_of_ble_eq_true rfl))
 have hbd0_9 : e.n.length ≤ 140737488355328 := bd_map (F0 0 9 (Nat.le_of_ble_eq_true rfl))
 refine an (by omega) ?_
 refine sq ?_
 refine mg [1, 2, 3] 21 ((decide (6 < d)) || (decide (lf - 1 < 0))) ?_ ?_
 · repeat' first
    | exact ⟨⟨_, rfl, by grind [SB.val]⟩, rfl⟩
    | refine an (fun _ => ?_) (fun _ => ?_)
 refine an (fun h1 => ?_) (fun h1 => ?_)
 · replace h1 : (6 < d) ∨ (lf - 1 < 0) := ((borT h1).imp (fun q => (of_decide_eq_true q)) (fun q => (of_decide_eq_true q)))
   refine rt rfl fun _ => ?_
   show K (.bool false) (AMem.wth m [(p, .cells [.int .i64 (lf - 1)])])
   exact k2 _ ⟨by omega, by omega, by omega⟩
 replace h1 : (d ≤ 6) ∧ (0 ≤ lf - 1) := ⟨(Int.not_lt.1 (of_decide_eq_false (borL h1))), (Int.not_lt.1 (of_decide_eq_false (borR h1)))⟩
 refine sq ?_
 refine ln ?_
 refine lp (σ := Int × Int) [] [1, 2, 23, 24, 25] 2 (fun ⟨i, f2⟩ => ([(1, vI d), (2, .loc 0 0), (23, vL (e.a.map expIn)), (24, vI (e.a.length : Int)), (25, vI i)], [.cells [vI f2], .cells [vI e.kind, vI e.v.kind, vI e.v.n, vS e.v.s, vL (e.v.l.map valIn), vL (e.v.f.map fldIn), vS e.s, vS e.t, vL (e.a.map expIn), vL (e.n.map strAV)]], m)) (fun ⟨i, f2⟩ => 0 ≤ i ∧ i ≤ e.a.length ∧ 0 ≤ f2 ∧ f2 ≤ lf ∧ xcE e = lf - f2 + xcL (e.a.drop i.toNat) ∧ xdE e ≤ max (7 - d) (xdL (e.a.drop i.toNat) + 1) ∧ xdL (e.a.drop i.toNat) ≤ xdL e.a) (fun ⟨i, f2⟩ => e.a.length - i.toNat) (0, lf - 1) ⟨rfl, rfl⟩ ?_ ?_
 · try dsimp only
   exact ⟨by omega, by omega, by omega, by omega, by show _ = _ + xcL e.a; omega, by show _ ≤ max _ (xdL e.a + 1); omega, Int.le_refl _⟩
 rintro ⟨i, f2⟩ hI
 dsimp only at hI
 refine sq ?_
 refine an (fun h2 => ?_) (fun h2 => ?_)
 · have s1 := xcL_drop hI.1 h2
   have s2 := xdL_drop hI.1 h2
   have s3 := xc_dep (gI e.a i)
   have s4 := xc_depL (e.a.drop (i + 1).toNat)
   refine sq ?_
   refine ixg expTop expIn_eq (by omega) ?_
   refine an (by omega) ?_
   refine callY 115 [0] (σ := (Int) ⊕ (Int)) (Sum.elim (fun f_1 => f_1 = f2 - xcE (gI e.a i) ∧ xdE (gI e.a i) + (d + 1) ≤ 7 ∧ xcE (gI e.a i) ≤ f2) (fun f_1 => ¬(xdE (gI e.a i) + (d + 1) ≤ 7 ∧ xcE (gI e.a i) ≤ f2) ∧ -1 ≤ f_1 ∧ f_1 ≤ f2)) (Sum.elim (fun f_1 => .b (.lit true)) (fun f_1 => .b (.lit false))) (Sum.elim (fun f_1 => [.cells [vI f_1]]) (fun f_1 => [.cells [vI f_1]])) rfl (fun x => by rcases x with _ | _ <;> rfl) (fun bs mm gd ht K hK => ih (gI e.a i) (by have := depE_mem (gI_mem (l := e.a) (i := i) hI.1 (by assumption)); omega) (d + 1) f2 (by omega) (by omega) (by omega) (by omega) (bs.getD 0 0) mm gd K (fun f hh => hK (.inl f) hh) (fun f hh => hK (.inr f) hh)) ?_
   rintro (f_1 | f_1) hx1
   · try dsimp only [Sum.elim_inl, Sum.elim_inr] at hx1
     dsimp only [Sum.elim_inl, Sum.elim_inr]
     refine an (by omega) ?_
     refine ⟨(i + 1, f_1), ⟨rfl, rfl⟩, ?_, ?_⟩
     · try dsimp only
       (first | omega | (simp_all; done) | (simp_all; omega))
     try dsimp only
     omega
   try dsimp only [Sum.elim_inl, Sum.elim_inr] at hx1
   dsimp only [Sum.elim_inl, Sum.elim_inr]
   refine rt rfl fun _ => ?_
   show K (.bool false) (AMem.wth m [(p, .cells [.int .i64 f_1])])
   exact k2 _ ⟨by omega, by omega, by omega⟩
 rw [List.drop_eq_nil_of_le (by omega)] at hI
 simp only [xcL, xdL] at hI
 refine rt rfl fun _ => ?_
 show K (.bool true) (AMem.wth m [(p, .cells [.int .i64 f2])])
 exact k1 _ ⟨by omega, by omega, by omega⟩
end Go.Proofs
end
section
namespace Go.Proofs
open Go Go.Aw Go.Sx
set_option maxRecDepth 100000
theorem u_size : ∀ (k : Nat) (e : Exp), depE e < k → ∀ d lf : Int, 0 ≤ d → d ≤ 100 → 0 ≤ lf → lf ≤ 60 → ∀ (p : Nat) (m : AMem), Gd [p] m → ∀ (K : AV → AMem → Prop), (∀ f', f' = lf - xcE e ∧ xdE e + d ≤ 7 ∧ xcE e ≤ lf → K (.bool true) (AMem.wth m [(p, .cells [.int .i64 f'])])) → (∀ f', ¬(xdE e + d ≤ 7 ∧ xcE e ≤ lf) ∧ -1 ≤ f' ∧ f' ≤ lf → K (.bool false) (AMem.wth m [(p, .cells [.int .i64 f'])])) → ACalls Tryz.prog 59 [expTop e, .int .i64 d, .ptr ⟨p, 0, none⟩] (AMem.wth m [(p, .cells [.int .i64 lf])]) K
  | 0, _, h => absurd h (Nat.not_lt_zero _)
  | k + 1, e, h => fun d lf h0 h1 h2 h3 p m gd K k1 k2 => u_size1 k e d lf p (fun x hx => u_size k x hx) h h0 h1 h2 h3 m gd K k1 k2
def NamesOk (l : List Str) : Prop := ∀ i : Int, 0 ≤ i → i < l.length → nameV (gI l i) = true ∧ (0 < i → Op.bytesLess (gI l (i - 1)) (gI l i) = true)
structure Sw (e : Exp) (many names : Int) (s t : Bool) : Prop where
  h : (e.kind = 1 ∧ many = 0 ∧ names = 0 ∧ s = (e.s == []) ∧ t = (e.t == [])) ∨ (e.kind = 2 ∧ many = 0 ∧ names = 0 ∧ s = nameV e.s ∧ t = (e.t == [])) ∨ ((e.kind = 3 ∨ e.kind = 4) ∧ many = 0 ∧ names = 0 ∧ s = nameV e.s ∧ t = nameV e.t) ∨
    ((e.kind = 5 ∨ e.kind = 6) ∧ many = 2 ∧ names = 0 ∧ s = (e.s == []) ∧ t = (e.t == [])) ∨ (e.kind = 7 ∧ many = 3 ∧ names = 0 ∧ s = (e.s == []) ∧ t = (e.t == [])) ∨ (e.kind = 8 ∧ many = e.a.length ∧ names = 0 ∧ s = (e.s == []) ∧ t = (e.t == [])) ∨
    (e.kind = 9 ∧ NamesOk e.n ∧ many = e.a.length ∧ names = e.a.length ∧ s = (e.s == []) ∧ t = (e.t == [])) ∨ (e.kind = 10 ∧ many = 1 ∧ names = 0 ∧ s = nameV e.s ∧ t = (e.t == []))
def NodeOk (e : Exp) : Prop :=
  (e.kind = 1 ∧ e.s = [] ∧ e.t = [] ∧ (e.v.kind ≤ 3 ∧ chk e.v = 0) ∧ e.a = [] ∧ e.n = []) ∨
  (e.v = zV ∧ ((e.kind = 2 ∧ nameV e.s = true ∧ e.t = [] ∧ e.a = [] ∧ e.n = []) ∨ ((e.kind = 3 ∨ e.kind = 4) ∧ nameV e.s = true ∧ nameV e.t = true ∧ e.a = [] ∧ e.n = []) ∨ ((e.kind = 5 ∨ e.kind = 6) ∧ e.s = [] ∧ e.t = [] ∧ e.a.length = 2 ∧ e.n = []) ∨
    (e.kind = 7 ∧ e.s = [] ∧ e.t = [] ∧ e.a.length = 3 ∧ e.n = []) ∨ (e.kind = 8 ∧ e.s = [] ∧ e.t = [] ∧ e.n = []) ∨ (e.kind = 9 ∧ e.s = [] ∧ e.t = [] ∧ e.a.length = e.n.length ∧ NamesOk e.n) ∨ (e.kind = 10 ∧ nameV e.s = true ∧ e.t = [] ∧ e.a.length = 1 ∧ e.n = [])))
theorem NodeOk.sw {e : Exp} {many names : Int} {s t : Bool} (w : Sw e many names s t) : NodeOk e ↔ s = true ∧ t = true ∧ ((e.kind = 1 ∧ e.v.kind ≤ 3 ∧ chk e.v = 0) ∨ (e.kind ≠ 1 ∧ e.v = zV)) ∧ (e.a.length : Int) = many ∧ (e.n.length : Int) = names := by
  have l1 : (e.a.length : Int) = 0 ↔ e.a = [] := by rw [← List.length_eq_zero_iff]; omega
  have l2 : (e.n.length : Int) = 0 ↔ e.n = [] := by rw [← List.length_eq_zero_iff]; omega
  unfold NodeOk
  rcases w.h with ⟨hk, rfl, rfl, rfl, rfl⟩ | ⟨hk, rfl, rfl, rfl, rfl⟩ | ⟨hk | hk, rfl, rfl, rfl, rfl⟩ | ⟨hk | hk, rfl, rfl, rfl, rfl⟩ | ⟨hk, rfl, rfl, rfl, rfl⟩ | ⟨hk, rfl, rfl, rfl, rfl⟩ | ⟨hk, hn, rfl, rfl, rfl, rfl⟩ | ⟨hk, rfl, rfl, rfl, rfl⟩ <;> simp only [hk, l1, l2] <;> simp <;> grind
theorem NodeOk.no {e : Exp} (h : ¬(1 ≤ e.kind ∧ e.kind ≤ 10)) : ¬ NodeOk e := by
  unfold NodeOk; omega
theorem NodeOk.n9 {e : Exp} (h : e.kind = 9) (hn : ¬ NamesOk e.n) : ¬ NodeOk e := by
  unfold NodeOk; simp only [h]; simp [hn]
mutual
def fmE : Exp → Prop
  | .mk k v s t a n => NodeOk (.mk k v s t a n) ∧ fmL a
def fmL : List Exp → Prop
  | [] => True
  | e :: r => fmE e ∧ fmL r
end
theorem fmE_eq (e : Exp) : fmE e ↔ NodeOk e ∧ fmL e.a := by cases e with | mk k v s t a n => simp only [fmE, Exp.a]
theorem fmL_drop {l : List Exp} {i : Int} (h0 : 0 ≤ i) (hi : i < l.length) : fmL (l.drop i.toNat) ↔ fmE (gI l i) ∧ fmL (l.drop (i + 1).toNat) := by rw [drop_gI h0 hi, fmL]
open Classical in
noncomputable def fmI (e : Exp) : Int := if fmE e then 0 else 3
open Classical in
noncomputable def exF (e : Exp) : Int := if 60 < xcE e ∨ 6 < xdE e then 2 else fmI e
theorem u_plain (v : Val)  (m : AMem)  (K : AV → AMem → Prop) (hK : K (.bool (decide (v.kind ≤ 3) && (chk v == 0))) m) : ACalls Tryz.prog 78 [valTop v] m K := by
 refine enter (c := cf [] [] [1] [] [] []) (vs := [.av (valTop v)]) (L := []) (m := m) false tbOk Tryz.mixed Tryz.func78 rfl (k := 1) (by show fnOk [] _ _ _ = true; decide +kernel) rfl (Good.nil m) ?_
 refine mg [] 2 ((decide (v.kind ≤ 3)) && ((chk v) == 0)) ?_ ?_
 · repeat' first
    | exact ⟨⟨_, rfl, by grind [SB.val]⟩, rfl⟩
    | refine an (fun _ => ?_) (fun _ => ?_)
    | refine call0 (fun _ => u_Check v) rfl ?_
 exact rt0 rfl fun _ => hK
end Go.Proofs
end
section
namespace Go.Proofs
open Go Go.Aw Go.Sx
set_option maxRecDepth 100000
theorem fmI_0 {e : Exp} : fmI e = 0 ↔ fmE e := by unfold fmI; split <;> simp [*]
theorem fmI_y {e : Exp} (h : fmE e) : fmI e = 0 := fmI_0.2 h
theorem fmI_n {e : Exp} (h : ¬ fmE e) : fmI e = 3 := by unfold fmI; rw [if_neg h]
theorem fmI_3 {e : Exp} (h : fmI e ≠ 0) : fmI e = 3 := fmI_n fun hh => h (fmI_0.2 hh)
theorem fm_node {e : Exp} (h : ¬ NodeOk e) : fmI e = 3 := fmI_n fun hh => h ((fmE_eq e).1 hh).1
theorem fm_kid {e : Exp} {i : Int} (h0 : 0 ≤ i) (hi : i < e.a.length) (hf : fmL e.a ↔ fmL (e.a.drop i.toNat)) (h : fmI (gI e.a i) ≠ 0) : fmI e = fmI (gI e.a i) := by
  rw [fmI_3 h]
  refine fmI_n fun hh => h (fmI_0.2 ?_)
  exact ((fmL_drop h0 hi).1 (hf.1 ((fmE_eq e).1 hh).2)).1
theorem fm_step {e : Exp} {i : Int} (h0 : 0 ≤ i) (hi : i < e.a.length) (hf : fmL e.a ↔ fmL (e.a.drop i.toNat)) (h : fmI (gI e.a i) = 0) : fmL e.a ↔ fmL (e.a.drop (i + 1).toNat) :=
  hf.trans ((fmL_drop h0 hi).trans ⟨fun h => h.2, fun h2 => ⟨fmI_0.1 h, h2⟩⟩)
theorem fm_end {e : Exp} {i : Int} (hi : (e.a.length : Int) ≤ i) (hf : fmL e.a ↔ fmL (e.a.drop i.toNat)) (h : NodeOk e) : fmI e = 0 := by
  rw [List.drop_eq_nil_of_le (by omega)] at hf
  exact fmI_y ((fmE_eq e).2 ⟨h, hf.2 (by simp only [fmL])⟩)
theorem fm_all {e : Exp} (h : fmE e) : NodeOk e ∧ ∀ x ∈ e.a, fmE x := by
  refine ⟨((fmE_eq e).1 h).1, ?_⟩
  have h2 := ((fmE_eq e).1 h).2
  generalize e.a = l at h2
  induction l with
  | nil => intro x hx; cases hx
  | cons a r ih =>
    simp only [fmL] at h2
    intro x hx
    rcases List.mem_cons.1 hx with rfl | hx
    · exact h2.1
    · exact ih h2.2 x hx
open Classical in
noncomputable def fmB (e : Exp) : Bool := decide (fmE e)
theorem fmB_t {e : Exp} : fmB e = true ↔ fmE e := by simp [fmB]
theorem zV_iff {v : Val} : v = zV ↔ v.kind = 0 ∧ v.n = 0 ∧ v.s = [] ∧ v.l = [] ∧ v.f = [] := by
  cases v with
  | mk k n s l f => simp [zV, Val.kind, Val.n, Val.s, Val.l, Val.f]
theorem exF_0 {e : Exp} (h : exF e = 0) : fmE e ∧ xcE e ≤ 60 ∧ xdE e ≤ 6 := by
  unfold exF at h
  split at h
  · cases h
  · rename_i hh
    exact ⟨fmI_0.1 h, by omega, by omega⟩
theorem exF_nn (e : Exp) : 0 ≤ exF e := by
  unfold exF fmI; split
  · decide
  · split <;> decide
mutual
def szE : Exp → Nat
  | .mk _ v _ _ a n => depV v + n.length + szL a + 1
def szL : List Exp → Nat
  | [] => 0
  | e :: r => szE e + szL r
end
theorem szE_eq (e : Exp) : szE e = depV e.v + e.n.length + szL e.a + 1 := by
  cases e with
  | mk k v s t a n => simp only [szE, Exp.a, Exp.v, Exp.n]
theorem szL_mem {l : List Exp} {e : Exp} (h : e ∈ l) : szE e ≤ szL l := by
  induction l with
  | nil => cases h
  | cons a r ih =>
    simp only [szL]
    rcases List.mem_cons.1 h with rfl | h
    · omega
    · have := ih h; omega
theorem szL_len (l : List Exp) : l.length ≤ szL l := by
  induction l with
  | nil => simp
  | cons a r ih => simp only [szL, List.length_cons]; have := szE_eq a; omega
theorem dep_sz : ∀ (k : Nat) (e : Exp), depE e < k → depE e ≤ szE e
  | 0, _, h => absurd h (Nat.not_lt_zero _)
  | k + 1, e, h => by
    have hl : ∀ l : List Exp, (∀ x ∈ l, depE x ≤ szE x) → depEL l ≤ szL l := fun l => by
      induction l with
      | nil => intro _; simp [szL, depEL]
      | cons a r ih =>
        intro hh
        simp only [szL, depEL]
        have := hh a (List.mem_cons_self ..)
        have := ih fun x hx => hh x (List.mem_cons_of_mem _ hx)
        omega
    have := hl e.a fun x hx => dep_sz k x (by have := depE_mem hx; omega)
    rw [depE_eq, szE_eq]; omega
theorem fmB_of {e : Exp} {b : Bool} (hfe : fmE e ↔ NodeOk e) (h : NodeOk e ↔ b = true) : fmB e = b := by
  rw [Bool.eq_iff_iff, fmB_t, hfe]; exact h
theorem names_step {l : List Str} {i : Int} (h : ∀ j : Int, 0 ≤ j → j < i → nameV (gI l j) = true ∧ (0 < j → Op.bytesLess (gI l (j - 1)) (gI l j) = true)) (h1 : nameV (gI l i) = true) (h2 : 0 < i → Op.bytesLess (gI l (i - 1)) (gI l i) = true) :
    ∀ j : Int, 0 ≤ j → j < i + 1 → nameV (gI l j) = true ∧ (0 < j → Op.bytesLess (gI l (j - 1)) (gI l j) = true) := fun j h0 hj => by
  rcases Int.lt_or_le j i with hh | hh
  · exact h j h0 hh
  · obtain rfl : j = i := by omega
    exact ⟨h1, h2⟩
set_option maxHeartbeats 4000000 in
theorem u_check1 (k : Nat) (e : Exp) (ih : ∀ x : Exp, depE x < k → ∀ (m : AMem) (K : AV → AMem → Prop), K (.err 115 (fmI x)) m → ACalls Tryz.prog 60 [expTop x] m K) (hd : depE e < k + 1) (m : AMem)  (K : AV → AMem → Prop) (hK : K (.err 115 (fmI e)) m) : ACalls Tryz.prog 60 [expTop e] m K := by
 refine enter (c := cf [] [0, 23] [23, 28, 29] [] [] []) (vs := [.av (expTop e)]) (L := []) (m := m) true tbOk Tryz.mixed Tryz.func60 rfl (k := 1) (by show fnOk [] _ _ _ = true; decide +kernel) rfl (Good.nil m) ?_
 refine ⟨fun F0 => ?_⟩
 have hbd0_3 : e.v.s.length ≤ 140737488355328 := (F0 0 3 (Nat.le_of_ble_eq_true rfl))
 have hbd0_4 : e.v.l.length ≤ 140737488355328 := bd_map (F0 0 4 (Nat.le_of_ble_eq_true rfl))
 have hbd0_5 : e.v.f.length ≤ 140737488355328 := bd_map (F0 0 5 (Nat.le_of_ble_eq_true rfl))
 have hbd0_6 : e.s.length ≤ 140737488355328 := (F0 0 6 (Nat.le_of_ble_eq_true rfl))
 have hbd0_7 : e.t.length ≤ 140737488355328 := (F0 0 7 (Nat.le_of_ble_eq_true rfl))
 have hbd0_8 : e.a.length ≤ 140737488355328 := bd_map (F0 0 8 (Nat.le_of_ble_eq_true rfl))
 have hbd0_9 : e.n.length ≤ 140737488355328 := bd_map (F0 0 9 (Nat.le_of_ble_eq_true rfl))
 refine jn (σ := Int × Int × Bool × Bool) [(3, 0), (4, 0), (5, 0), (6, 0)] [1, 3, 4, 5, 6] 1 (fun ⟨mn, nn, sb, tb⟩ => ([(1, .loc 0 0), (3, vI mn), (4, vI nn), (5, vB sb), (6, vB tb)], [.cells [vI e.kind, vI e.v.kind, vI e.v.n, vS e.v.s, vL (e.v.l.map valIn), vL (e.v.f.map fldIn), vS e.s, vS e.t, vL (e.a.map expIn), vL (e.n.map strAV)]], m)) (fun ⟨mn, nn, sb, tb⟩ => Sw e mn nn sb tb) ?_ ?_
 · rintro ⟨mn, nn, sb, tb⟩ hj0
   refine mg [1, 3, 4, 5, 6] 9 (((e.kind == 1) && (decide (e.v.kind ≤ 3) && (chk e.v == 0))) || ((!(e.kind == 1)) && (vEq e.v zV))) ?_ ?_
   · repeat' first
      | exact ⟨⟨_, rfl, by grind [SB.val]⟩, rfl⟩
      | refine an (fun _ => ?_) (fun _ => ?_)
      | refine call0 (fun _ => u_plain e.v) rfl ?_
      | refine call0 (fun _ => u_Alike e.v zV) rfl ?_
   refine sq ?_
   refine mg [1] 130 (((((!sb) || (!tb)) || (!(((e.kind == 1) && (decide (e.v.kind ≤ 3) && (chk e.v == 0))) || ((!(e.kind == 1)) && (vEq e.v zV))))) || (!((e.a.length : Int) == mn))) || (!((e.n.length : Int) == nn))) ?_ ?_
   · repeat' first
      | exact ⟨⟨_, rfl, by grind [SB.val]⟩, rfl⟩
      | refine an (fun _ => ?_) (fun _ => ?_)
      | refine ln ?_
   refine an (fun h1 => ?_) (fun h1 => ?_)
   · replace h1 : ((((sb = false) ∨ (tb = false)) ∨ (((e.kind ≠ 1) ∨ ((decide (e.v.kind ≤ 3) && (chk e.v == 0)) = false)) ∧ ((e.kind = 1) ∨ (vEq e.v zV = false)))) ∨ ((e.a.length : Int) ≠ mn)) ∨ ((e.n.length : Int) ≠ nn) := ((borT h1).imp (fun q => ((borT q).imp (fun q => ((borT q).imp (fun q => ((borT q).imp (fun q => (bnT q)) (fun q => (bnT q)))) (fun q => ⟨((bandF (borL (bnT q))).imp (fun q => (ne_of_beq_false q)) (fun q => q)), ((bandF (borR (bnT q))).imp (fun q => (eq_of_beq (bnF q))) (fun q => q))⟩))) (fun q => (ne_of_beq_false (bnT q))))) (fun q => (ne_of_beq_false (bnT q))))
     refine rt0 rfl fun _ => ?_
     show K (.err 115 3) m
     rw [fm_node fun hh => by have := (NodeOk.sw hj0).1 hh; have := @vEq_iff e.v zV; grind] at hK; exact hK
   replace h1 : ((((sb = true) ∧ (tb = true)) ∧ (((e.kind = 1) ∧ ((decide (e.v.kind ≤ 3) && (chk e.v == 0)) = true)) ∨ ((e.kind ≠ 1) ∧ (vEq e.v zV = true)))) ∧ ((e.a.length : Int) = mn)) ∧ ((e.n.length : Int) = nn) := ⟨⟨⟨⟨(bnF (borL (borL (borL (borL h1))))), (bnF (borR (borL (borL (borL h1)))))⟩, ((borT (bnF (borR (borL (borL h1))))).imp (fun q => ⟨(eq_of_beq (bandL q)), (bandR q)⟩) (fun q => ⟨(ne_of_beq_false (bnT (bandL q))), (bandR q)⟩))⟩, (eq_of_beq (bnF (borR (borL h1))))⟩, (eq_of_beq (bnF (borR h1)))⟩
   have hno : NodeOk e := (NodeOk.sw hj0).2 (by have := @vEq_iff e.v zV; grind)
   refine sq ?_
   refine ln ?_
   refine lp (σ := Int) [] [133, 134, 135] 1 (fun i => ([(133, vL (e.a.map expIn)), (134, vI (e.a.length : Int)), (135, vI i)], [.cells [vI e.kind, vI e.v.kind, vI e.v.n, vS e.v.s, vL (e.v.l.map valIn), vL (e.v.f.map fldIn), vS e.s, vS e.t, vL (e.a.map expIn), vL (e.n.map strAV)]], m)) (fun i => 0 ≤ i ∧ i ≤ e.a.length ∧ (fmL e.a ↔ fmL (e.a.drop i.toNat))) (fun i => e.a.length - i.toNat) (0) ⟨rfl, rfl⟩ ?_ ?_
   · try dsimp only
     exact ⟨by omega, by omega, Iff.rfl⟩
   rintro i hI
   refine sq ?_
   refine an (fun h2 => ?_) (fun h2 => ?_)
   · refine sq ?_
     refine ixg expTop expIn_eq (by omega) ?_
     refine call0 (fun _ => ih (gI e.a i) (by have := depE_mem (gI_mem (l := e.a) (i := i) hI.1 (by assumption)); omega)) rfl ?_
     refine an (fun h3 => ?_) (fun h3 => ?_)
     · refine an (by omega) ?_
       refine ⟨(i + 1), ⟨rfl, rfl⟩, ?_, ?_⟩
       · try dsimp only
         exact ⟨by omega, by omega, fm_step hI.1 (by assumption) hI.2.2 (by omega)⟩
       try dsimp only
       omega
     refine rt0 rfl fun _ => ?_
     show K (.err 115 (fmI (gI e.a i))) m
     rw [fm_kid hI.1 (by assumption) hI.2.2 (by assumption)] at hK; exact hK
   refine rt0 rfl fun _ => ?_
   show K (.err 115 0) m
   rw [fm_end (by omega) hI.2.2 hno] at hK; exact hK
 refine an (fun h4 => ?_) (fun h4 => ?_)
 · refine ⟨(0, 0, (e.s == ([])), (e.t == ([]))), ⟨rfl, rfl⟩, ?_⟩
   exact ⟨.inl ⟨by assumption, rfl, rfl, rfl, rfl⟩⟩
 refine an (fun h5 => ?_) (fun h5 => ?_)
 · refine call0 (fun _ => u_VName e.s (by first | omega | exact hbN)) rfl ?_
   refine ⟨(0, 0, (nameV e.s), (e.t == ([]))), ⟨rfl, rfl⟩, ?_⟩
   exact ⟨.inr (.inl ⟨by assumption, rfl, rfl, rfl, rfl⟩)⟩
 refine sq ?_
 refine an (fun h6 => ?_) (fun h6 => ?_)
 · refine an (fun h7 => ?_) (fun h7 => ?_)
   · refine pure0 (fun _ => u_VName e.s (by first | omega | exact hbN)) ?_
     refine pure0 (fun _ => u_VName e.t (by first | omega | exact hbN)) ?_
     refine ⟨(0, 0, (nameV e.s), (nameV e.t)), ⟨rfl, rfl⟩, ?_⟩
     exact ⟨.inr (.inr (.inl ⟨.inl (by assumption), rfl, rfl, rfl, rfl⟩))⟩
   exact absurd h6 h7
 refine an (fun h8 => ?_) (fun h8 => ?_)
 · refine pure0 (fun _ => u_VName e.s (by first | omega | exact hbN)) ?_
   refine pure0 (fun _ => u_VName e.t (by first | omega | exact hbN)) ?_
   refine ⟨(0, 0, (nameV e.s), (nameV e.t)), ⟨rfl, rfl⟩, ?_⟩
   exact ⟨.inr (.inr (.inl ⟨.inr (by assumption), rfl, rfl, rfl, rfl⟩))⟩
 refine sq ?_
 refine an (fun h9 => ?_) (fun h9 => ?_)
 · refine an (fun h10 => ?_) (fun h10 => ?_)
   · refine ⟨(2, 0, (e.s == ([])), (e.t == ([]))), ⟨rfl, rfl⟩, ?_⟩
     exact ⟨.inr (.inr (.inr (.inl ⟨.inl (by assumption), rfl, rfl, rfl, rfl⟩)))⟩
   exact absurd h9 h10
 refine an (fun h11 => ?_) (fun h11 => ?_)
 · refine ⟨(2, 0, (e.s == ([])), (e.t == ([]))), ⟨rfl, rfl⟩, ?_⟩
   exact ⟨.inr (.inr (.inr (.inl ⟨.inr (by assumption), rfl, rfl, rfl, rfl⟩)))⟩
 refine an (fun h12 => ?_) (fun h12 => ?_)
 · refine ⟨(3, 0, (e.s == ([])), (e.t == ([]))), ⟨rfl, rfl⟩, ?_⟩
   exact ⟨.inr (.inr (.inr (.inr (.inl ⟨by assumption, rfl, rfl, rfl, rfl⟩))))⟩
 refine an (fun h13 => ?_) (fun h13 => ?_)
 · refine ln ?_
   refine ⟨((e.a.length : Int), 0, (e.s == ([])), (e.t == ([]))), ⟨rfl, rfl⟩, ?_⟩
   exact ⟨.inr (.inr (.inr (.inr (.inr (.inl ⟨by assumption, rfl, rfl, rfl, rfl⟩)))))⟩
 refine an (fun h14 => ?_) (fun h14 => ?_)
 · refine ln ?_
   refine ln ?_
   refine ln ?_
   refine lp (σ := Int) [] [1, 3, 4, 5, 6, 57, 58, 59] 1 (fun i => ([(1, .loc 0 0), (3, vI (e.a.length : Int)), (4, vI (e.a.length : Int)), (5, vB (e.s == ([]))), (6, vB (e.t == ([]))), (57, vL (e.n.map strAV)), (58, vI (e.n.length : Int)), (59, vI i)], [.cells [vI e.kind, vI e.v.kind, vI e.v.n, vS e.v.s, vL (e.v.l.map valIn), vL (e.v.f.map fldIn), vS e.s, vS e.t, vL (e.a.map expIn), vL (e.n.map strAV)]], m)) (fun i => 0 ≤ i ∧ i ≤ e.n.length ∧ ∀ j : Int, 0 ≤ j → j < i → nameV (gI e.n j) = true ∧ (0 < j → Op.bytesLess (gI e.n (j - 1)) (gI e.n j) = true)) (fun i => e.n.length - i.toNat) (0) ⟨rfl, rfl⟩ ?_ ?_
   · try dsimp only
     exact ⟨by omega, by omega, fun j h0 hj => by omega⟩
   rintro i hI
   refine sq ?_
   refine an (fun h15 => ?_) (fun h15 => ?_)
   · refine sq ?_
     refine ix (by omega) ?_
     refine ⟨fun F23 => ?_⟩
     have hbN : (gI e.n i).length ≤ 140737488355328 := bdL_map (f := strAV) (F23 57).2 (gI_mem hI.1 (by assumption)) 0 (Nat.succ_pos _)
     refine mg [1, 3, 4, 5, 6, 57, 58, 59] 80 ((!(nameV (gI e.n i))) || ((decide (0 < i)) && (!(Op.bytesLess (gI e.n (i - 1)) (gI e.n i))))) ?_ ?_
     · repeat' first
        | exact ⟨⟨_, rfl, by grind [SB.val]⟩, rfl⟩
        | refine an (fun _ => ?_) (fun _ => ?_)
        | refine call0 (fun _ => u_VName (gI e.n i) (by first | omega | exact hbN)) rfl ?_
        | refine an (by omega) ?_
        | refine ix (by omega) ?_
     refine an (fun h16 => ?_) (fun h16 => ?_)
     · replace h16 : (nameV (gI e.n i) = false) ∨ ((0 < i) ∧ (Op.bytesLess (gI e.n (i - 1)) (gI e.n i) = false)) := ((borT h16).imp (fun q => (bnT q)) (fun q => ⟨(of_decide_eq_true (bandL q)), (bnT (bandR q))⟩))
       refine rt0 rfl fun _ => ?_
       show K (.err 115 3) m
       rw [fm_node (NodeOk.n9 (by assumption) fun hh => by have := hh i hI.1 (by assumption); grind)] at hK; exact hK
     replace h16 : (nameV (gI e.n i) = true) ∧ ((i ≤ 0) ∨ (Op.bytesLess (gI e.n (i - 1)) (gI e.n i) = true)) := ⟨(bnF (borL h16)), ((bandF (borR h16)).imp (fun q => (Int.not_lt.1 (of_decide_eq_false q))) (fun q => (bnF q)))⟩
     refine an (by omega) ?_
     refine ⟨(i + 1), ⟨rfl, rfl⟩, ?_, ?_⟩
     · try dsimp only
       exact ⟨by omega, by omega, names_step hI.2.2 (by grind) (by grind)⟩
     try dsimp only
     omega
   refine ⟨((e.a.length : Int), (e.a.length : Int), (e.s == ([])), (e.t == ([]))), ⟨rfl, rfl⟩, ?_⟩
   exact ⟨.inr (.inr (.inr (.inr (.inr (.inr (.inl ⟨by assumption, fun j h0 hj => hI.2.2 j h0 (by omega), rfl, rfl, rfl, rfl⟩))))))⟩
 refine an (fun h17 => ?_) (fun h17 => ?_)
 · refine call0 (fun _ => u_VName e.s (by first | omega | exact hbN)) rfl ?_
   refine ⟨(1, 0, (nameV e.s), (e.t == ([]))), ⟨rfl, rfl⟩, ?_⟩
   exact ⟨.inr (.inr (.inr (.inr (.inr (.inr (.inr ⟨by assumption, rfl, rfl, rfl, rfl⟩))))))⟩
 refine rt0 rfl fun _ => ?_
 show K (.err 115 3) m
 rw [fm_node (NodeOk.no (by omega))] at hK; exact hK
theorem u_check : ∀ (k : Nat) (e : Exp), depE e < k → ∀ (m : AMem) (K : AV → AMem → Prop), K (.err 115 (fmI e)) m → ACalls Tryz.prog 60 [expTop e] m K
  | 0, _, h => absurd h (Nat.not_lt_zero _)
  | k + 1, e, h => fun m K hK => u_check1 k e (fun x hx => u_check k x hx) h m K hK
set_option maxHeartbeats 4000000 in
theorem u_formed1 (k : Nat) (e : Exp) (ih : ∀ x : Exp, depE x < k → szE x ≤ 1000000000 → ∀ (m : AMem) (K : AV → AMem → Prop), K (.bool (fmB x)) m → ACalls Tryz.prog 56 [expTop x] m K) (hd : depE e < k + 1) (hsz : szE e ≤ 1000000000) (m : AMem)  (K : AV → AMem → Prop) (hK : K (.bool (fmB e)) m) : ACalls Tryz.prog 56 [expTop e] m K := by
 have hs := szE_eq e
 refine enter (c := cf [] [0] [7, 10, 14, 16, 19, 22, 24, 26, 32, 34, 36] [] [] []) (vs := [.av (expTop e)]) (L := []) (m := m) false tbOk Tryz.mixed Tryz.func56 rfl (k := 1) (by show fnOk [] _ _ _ = true; decide +kernel) rfl (Good.nil m) ?_
 refine ⟨fun F0 => ?_⟩
 have hbd0_3 : e.v.s.length ≤ 140737488355328 := (F0 0 3 (Nat.le_of_ble_eq_true rfl))
 have hbd0_4 : e.v.l.length ≤ 140737488355328 := bd_map (F0 0 4 (Nat.le_of_ble_eq_true rfl))
 have hbd0_5 : e.v.f.length ≤ 140737488355328 := bd_map (F0 0 5 (Nat.le_of_ble_eq_true rfl))
 have hbd0_6 : e.s.length ≤ 140737488355328 := (F0 0 6 (Nat.le_of_ble_eq_true rfl))
 have hbd0_7 : e.t.length ≤ 140737488355328 := (F0 0 7 (Nat.le_of_ble_eq_true rfl))
 have hbd0_8 : e.a.length ≤ 140737488355328 := bd_map (F0 0 8 (Nat.le_of_ble_eq_true rfl))
 have hbd0_9 : e.n.length ≤ 140737488355328 := bd_map (F0 0 9 (Nat.le_of_ble_eq_true rfl))
 refine sq ?_
 refine lp (σ := Int) [] [1, 3] 1 (fun i => ([(1, .loc 0 0), (3, vI i)], [.cells [vI e.kind, vI e.v.kind, vI e.v.n, vS e.v.s, vL (e.v.l.map valIn), vL (e.v.f.map fldIn), vS e.s, vS e.t, vL (e.a.map expIn), vL (e.n.map strAV)]], m)) (fun i => 0 ≤ i ∧ i ≤ e.a.length ∧ (fmL e.a ↔ fmL (e.a.drop i.toNat))) (fun i => e.a.length - i.toNat) (0) ⟨rfl, rfl⟩ ?_ ?_
 · try dsimp only
   exact ⟨by omega, by omega, Iff.rfl⟩
 rintro i hI
 refine sq ?_
 refine ln ?_
 refine an (fun h1 => ?_) (fun h1 => ?_)
 · refine sq ?_
   refine ixg expTop expIn_eq (by omega) ?_
   refine call0 (fun _ => ih (gI e.a i) (by have := depE_mem (gI_mem (l := e.a) (i := i) hI.1 (by assumption)); omega) (by have := szL_mem (gI_mem (l := e.a) (i := i) hI.1 (by assumption)); omega)) rfl ?_
   refine an (fun h2 => ?_) (fun h2 => ?_)
   · refine an (by omega) ?_
     refine ⟨(i + 1), ⟨rfl, rfl⟩, ?_, ?_⟩
     · try dsimp only
       exact ⟨by omega, by omega, fm_step hI.1 (by assumption) hI.2.2 (fmI_0.2 (fmB_t.1 (by assumption)))⟩
     try dsimp only
     omega
   refine rt0 rfl fun _ => ?_
   show K (.bool false) m
   have q : fmB e = false := by
    rw [Bool.eq_false_iff, ne_eq, fmB_t, fmE_eq]
    intro hh
    have := ((fmL_drop hI.1 (by assumption)).1 (hI.2.2.1 hh.2)).1
    rw [← fmB_t] at this; simp_all
   rw [q] at hK; exact hK
 have hfe : fmE e ↔ NodeOk e := by
   rw [fmE_eq]
   rw [List.drop_eq_nil_of_le (by omega)] at hI
   exact ⟨fun h => h.1, fun h => ⟨h, hI.2.2.2 (by simp only [fmL])⟩⟩
 refine mg [1] 5 (((((e.v.kind == 0) && (e.v.n == 0)) && (e.v.s == ([]))) && ((e.v.l.length : Int) == 0)) && ((e.v.f.length : Int) == 0)) ?_ ?_
 · repeat' first
    | exact ⟨⟨_, rfl, by grind [SB.val]⟩, rfl⟩
    | refine an (fun _ => ?_) (fun _ => ?_)
    | refine ln ?_
 refine call0 (fun _ => u_NameMay e.s) rfl ?_
 refine call0 (fun _ => u_NameMay e.t) rfl ?_
 refine mg [1, 5, 6, 7] 8 ((e.s == ([])) && (e.t == ([]))) ?_ ?_
 · repeat' first
    | exact ⟨⟨_, rfl, by grind [SB.val]⟩, rfl⟩
    | refine an (fun _ => ?_) (fun _ => ?_)
 refine ln ?_
 refine sq ?_
 refine an (fun h3 => ?_) (fun h3 => ?_)
 · refine mg [] 2 ((((((e.a.length : Int) == 0) && ((e.n.length : Int) == 0)) && ((e.s == ([])) && (e.t == ([])))) && (decide (e.v.kind < 4))) && ((chk e.v) == 0)) ?_ ?_
   · repeat' first
      | exact ⟨⟨_, rfl, by grind [SB.val]⟩, rfl⟩
      | refine an (fun _ => ?_) (fun _ => ?_)
      | refine ln ?_
      | refine call0 (fun _ => u_Fault e.v (by omega)) rfl ?_
   refine rt0 rfl fun _ => ?_
   show K (.bool ((((((e.a.length : Int) == 0) && ((e.n.length : Int) == 0)) && ((e.s == ([])) && (e.t == ([])))) && (decide (e.v.kind < 4))) && ((chk e.v) == 0))) m
   refine K_eq hK (congrArg AV.bool (fmB_of hfe ?_))
   have hz := @zV_iff e.v
   have l1 := @List.length_eq_zero_iff _ e.a
   have l2 := @List.length_eq_zero_iff _ e.n
   have l3 := @List.length_eq_zero_iff _ e.v.l
   have l4 := @List.length_eq_zero_iff _ e.v.f
   have hk : e.kind = 1 := by assumption
   have hl : e.v.kind ≤ 3 ↔ e.v.kind < 4 := by omega
   unfold NodeOk
   simp only [hk, hl]
   simp only [Bool.and_eq_true, beq_iff_eq, decide_eq_true_eq]
   simp
   grind
 refine an (fun h4 => ?_) (fun h4 => ?_)
 · refine mg [] 2 (((((((((e.v.kind == 0) && (e.v.n == 0)) && (e.v.s == ([]))) && ((e.v.l.length : Int) == 0)) && ((e.v.f.length : Int) == 0)) && ((e.a.length : Int) == 0)) && ((e.n.length : Int) == 0)) && (nameV e.s)) && (e.t == ([]))) ?_ ?_
   · repeat' first
      | exact ⟨⟨_, rfl, by grind [SB.val]⟩, rfl⟩
      | refine an (fun _ => ?_) (fun _ => ?_)
      | refine ln ?_
   refine rt0 rfl fun _ => ?_
   show K (.bool (((((((((e.v.kind == 0) && (e.v.n == 0)) && (e.v.s == ([]))) && ((e.v.l.length : Int) == 0)) && ((e.v.f.length : Int) == 0)) && ((e.a.length : Int) == 0)) && ((e.n.length : Int) == 0)) && (nameV e.s)) && (e.t == ([])))) m
   refine K_eq hK (congrArg AV.bool (fmB_of hfe ?_))
   have hz := @zV_iff e.v
   have l1 := @List.length_eq_zero_iff _ e.a
   have l2 := @List.length_eq_zero_iff _ e.n
   have l3 := @List.length_eq_zero_iff _ e.v.l
   have l4 := @List.length_eq_zero_iff _ e.v.f
   unfold NodeOk
   grind
 refine sq ?_
 refine an (fun h5 => ?_) (fun h5 => ?_)
 · refine an (fun h6 => ?_) (fun h6 => ?_)
   · refine mg [] 2 (((((((((e.v.kind == 0) && (e.v.n == 0)) && (e.v.s == ([]))) && ((e.v.l.length : Int) == 0)) && ((e.v.f.length : Int) == 0)) && ((e.a.length : Int) == 0)) && ((e.n.length : Int) == 0)) && (nameV e.s)) && (nameV e.t)) ?_ ?_
     · repeat' first
        | exact ⟨⟨_, rfl, by grind [SB.val]⟩, rfl⟩
        | refine an (fun _ => ?_) (fun _ => ?_)
        | refine ln ?_
     refine rt0 rfl fun _ => ?_
     show K (.bool (((((((((e.v.kind == 0) && (e.v.n == 0)) && (e.v.s == ([]))) && ((e.v.l.length : Int) == 0)) && ((e.v.f.length : Int) == 0)) && ((e.a.length : Int) == 0)) && ((e.n.length : Int) == 0)) && (nameV e.s)) && (nameV e.t))) m
     refine K_eq hK (congrArg AV.bool (fmB_of hfe ?_))
     have hz := @zV_iff e.v
     have l1 := @List.length_eq_zero_iff _ e.a
     have l2 := @List.length_eq_zero_iff _ e.n
     have l3 := @List.length_eq_zero_iff _ e.v.l
     have l4 := @List.length_eq_zero_iff _ e.v.f
     unfold NodeOk
     grind
   exact absurd h5 h6
 refine an (fun h7 => ?_) (fun h7 => ?_)
 · refine mg [] 2 (((((((((e.v.kind == 0) && (e.v.n == 0)) && (e.v.s == ([]))) && ((e.v.l.length : Int) == 0)) && ((e.v.f.length : Int) == 0)) && ((e.a.length : Int) == 0)) && ((e.n.length : Int) == 0)) && (nameV e.s)) && (nameV e.t)) ?_ ?_
   · repeat' first
      | exact ⟨⟨_, rfl, by grind [SB.val]⟩, rfl⟩
      | refine an (fun _ => ?_) (fun _ => ?_)
      | refine ln ?_
   refine rt0 rfl fun _ => ?_
   show K (.bool (((((((((e.v.kind == 0) && (e.v.n == 0)) && (e.v.s == ([]))) && ((e.v.l.length : Int) == 0)) && ((e.v.f.length : Int) == 0)) && ((e.a.length : Int) == 0)) && ((e.n.length : Int) == 0)) && (nameV e.s)) && (nameV e.t))) m
   refine K_eq hK (congrArg AV.bool (fmB_of hfe ?_))
   have hz := @zV_iff e.v
   have l1 := @List.length_eq_zero_iff _ e.a
   have l2 := @List.length_eq_zero_iff _ e.n
   have l3 := @List.length_eq_zero_iff _ e.v.l
   have l4 := @List.length_eq_zero_iff _ e.v.f
   unfold NodeOk
   grind
 refine sq ?_
 refine an (fun h8 => ?_) (fun h8 => ?_)
 · refine an (fun h9 => ?_) (fun h9 => ?_)
   · refine mg [] 2 ((((((((e.v.kind == 0) && (e.v.n == 0)) && (e.v.s == ([]))) && ((e.v.l.length : Int) == 0)) && ((e.v.f.length : Int) == 0)) && ((e.a.length : Int) == 2)) && ((e.n.length : Int) == 0)) && ((e.s == ([])) && (e.t == ([])))) ?_ ?_
     · repeat' first
        | exact ⟨⟨_, rfl, by grind [SB.val]⟩, rfl⟩
        | refine an (fun _ => ?_) (fun _ => ?_)
        | refine ln ?_
     refine rt0 rfl fun _ => ?_
     show K (.bool ((((((((e.v.kind == 0) && (e.v.n == 0)) && (e.v.s == ([]))) && ((e.v.l.length : Int) == 0)) && ((e.v.f.length : Int) == 0)) && ((e.a.length : Int) == 2)) && ((e.n.length : Int) == 0)) && ((e.s == ([])) && (e.t == ([]))))) m
     refine K_eq hK (congrArg AV.bool (fmB_of hfe ?_))
     have hz := @zV_iff e.v
     have l1 := @List.length_eq_zero_iff _ e.a
     have l2 := @List.length_eq_zero_iff _ e.n
     have l3 := @List.length_eq_zero_iff _ e.v.l
     have l4 := @List.length_eq_zero_iff _ e.v.f
     unfold NodeOk
     grind
   exact absurd h8 h9
 refine an (fun h10 => ?_) (fun h10 => ?_)
 · refine mg [] 2 ((((((((e.v.kind == 0) && (e.v.n == 0)) && (e.v.s == ([]))) && ((e.v.l.length : Int) == 0)) && ((e.v.f.length : Int) == 0)) && ((e.a.length : Int) == 2)) && ((e.n.length : Int) == 0)) && ((e.s == ([])) && (e.t == ([])))) ?_ ?_
   · repeat' first
      | exact ⟨⟨_, rfl, by grind [SB.val]⟩, rfl⟩
      | refine an (fun _ => ?_) (fun _ => ?_)
      | refine ln ?_
   refine rt0 rfl fun _ => ?_
   show K (.bool ((((((((e.v.kind == 0) && (e.v.n == 0)) && (e.v.s == ([]))) && ((e.v.l.length : Int) == 0)) && ((e.v.f.length : Int) == 0)) && ((e.a.length : Int) == 2)) && ((e.n.length : Int) == 0)) && ((e.s == ([])) && (e.t == ([]))))) m
   refine K_eq hK (congrArg AV.bool (fmB_of hfe ?_))
   have hz := @zV_iff e.v
   have l1 := @List.length_eq_zero_iff _ e.a
   have l2 := @List.length_eq_zero_iff _ e.n
   have l3 := @List.length_eq_zero_iff _ e.v.l
   have l4 := @List.length_eq_zero_iff _ e.v.f
   unfold NodeOk
   grind
 refine an (fun h11 => ?_) (fun h11 => ?_)
 · refine mg [] 2 ((((((((e.v.kind == 0) && (e.v.n == 0)) && (e.v.s == ([]))) && ((e.v.l.length : Int) == 0)) && ((e.v.f.length : Int) == 0)) && ((e.a.length : Int) == 3)) && ((e.n.length : Int) == 0)) && ((e.s == ([])) && (e.t == ([])))) ?_ ?_
   · repeat' first
      | exact ⟨⟨_, rfl, by grind [SB.val]⟩, rfl⟩
      | refine an (fun _ => ?_) (fun _ => ?_)
      | refine ln ?_
   refine rt0 rfl fun _ => ?_
   show K (.bool ((((((((e.v.kind == 0) && (e.v.n == 0)) && (e.v.s == ([]))) && ((e.v.l.length : Int) == 0)) && ((e.v.f.length : Int) == 0)) && ((e.a.length : Int) == 3)) && ((e.n.length : Int) == 0)) && ((e.s == ([])) && (e.t == ([]))))) m
   refine K_eq hK (congrArg AV.bool (fmB_of hfe ?_))
   have hz := @zV_iff e.v
   have l1 := @List.length_eq_zero_iff _ e.a
   have l2 := @List.length_eq_zero_iff _ e.n
   have l3 := @List.length_eq_zero_iff _ e.v.l
   have l4 := @List.length_eq_zero_iff _ e.v.f
   unfold NodeOk
   grind
 refine an (fun h12 => ?_) (fun h12 => ?_)
 · refine mg [] 2 (((((((e.v.kind == 0) && (e.v.n == 0)) && (e.v.s == ([]))) && ((e.v.l.length : Int) == 0)) && ((e.v.f.length : Int) == 0)) && ((e.n.length : Int) == 0)) && ((e.s == ([])) && (e.t == ([])))) ?_ ?_
   · repeat' first
      | exact ⟨⟨_, rfl, by grind [SB.val]⟩, rfl⟩
      | refine an (fun _ => ?_) (fun _ => ?_)
   refine rt0 rfl fun _ => ?_
   show K (.bool (((((((e.v.kind == 0) && (e.v.n == 0)) && (e.v.s == ([]))) && ((e.v.l.length : Int) == 0)) && ((e.v.f.length : Int) == 0)) && ((e.n.length : Int) == 0)) && ((e.s == ([])) && (e.t == ([]))))) m
   refine K_eq hK (congrArg AV.bool (fmB_of hfe ?_))
   have hz := @zV_iff e.v
   have l1 := @List.length_eq_zero_iff _ e.a
   have l2 := @List.length_eq_zero_iff _ e.n
   have l3 := @List.length_eq_zero_iff _ e.v.l
   have l4 := @List.length_eq_zero_iff _ e.v.f
   unfold NodeOk
   grind
 refine an (fun h13 => ?_) (fun h13 => ?_)
 · refine sq ?_
   refine lp (σ := Int) [] [1, 5, 8, 10] 1 (fun i2 => ([(1, .loc 0 0), (5, vB (((((e.v.kind == 0) && (e.v.n == 0)) && (e.v.s == ([]))) && ((e.v.l.length : Int) == 0)) && ((e.v.f.length : Int) == 0))), (8, vB ((e.s == ([])) && (e.t == ([])))), (10, vI i2)], [.cells [vI e.kind, vI e.v.kind, vI e.v.n, vS e.v.s, vL (e.v.l.map valIn), vL (e.v.f.map fldIn), vS e.s, vS e.t, vL (e.a.map expIn), vL (e.n.map strAV)]], m)) (fun i2 => 0 ≤ i2 ∧ i2 ≤ e.n.length ∧ ∀ j : Int, 0 ≤ j → j < i2 → nameV (gI e.n j) = true ∧ (0 < j → Op.bytesLess (gI e.n (j - 1)) (gI e.n j) = true)) (fun i2 => e.n.length - i2.toNat) (0) ⟨rfl, rfl⟩ ?_ ?_
   · try dsimp only
     exact ⟨by omega, by omega, fun j h0 hj => by omega⟩
   rintro i2 hI2
   refine sq ?_
   refine ln ?_
   refine an (fun h14 => ?_) (fun h14 => ?_)
   · refine sq ?_
     refine ix (by omega) ?_
     refine call0 (fun _ => u_NameMay (gI e.n i2)) rfl ?_
     refine mg [1, 5, 8, 10] 214 ((!(nameV (gI e.n i2))) || ((decide (0 < i2)) && (!(Op.bytesLess (gI e.n (i2 - 1)) (gI e.n i2))))) ?_ ?_
     · repeat' first
        | exact ⟨⟨_, rfl, by grind [SB.val]⟩, rfl⟩
        | refine an (fun _ => ?_) (fun _ => ?_)
        | refine an (by omega) ?_
        | refine ix (by omega) ?_
     refine an (fun h15 => ?_) (fun h15 => ?_)
     · replace h15 : (nameV (gI e.n i2) = false) ∨ ((0 < i2) ∧ (Op.bytesLess (gI e.n (i2 - 1)) (gI e.n i2) = false)) := ((borT h15).imp (fun q => (bnT q)) (fun q => ⟨(of_decide_eq_true (bandL q)), (bnT (bandR q))⟩))
       refine rt0 rfl fun _ => ?_
       show K (.bool false) m
       refine K_eq hK (congrArg AV.bool (fmB_of hfe ?_))
       have hz := @zV_iff e.v
       have l1 := @List.length_eq_zero_iff _ e.a
       have l2 := @List.length_eq_zero_iff _ e.n
       have l3 := @List.length_eq_zero_iff _ e.v.l
       have l4 := @List.length_eq_zero_iff _ e.v.f
       have hnm : ¬ NamesOk e.n := fun hh => by have := hh i2 hI2.1 (by assumption); grind
       unfold NodeOk
       grind
     replace h15 : (nameV (gI e.n i2) = true) ∧ ((i2 ≤ 0) ∨ (Op.bytesLess (gI e.n (i2 - 1)) (gI e.n i2) = true)) := ⟨(bnF (borL h15)), ((bandF (borR h15)).imp (fun q => (Int.not_lt.1 (of_decide_eq_false q))) (fun q => (bnF q)))⟩
     refine an (by omega) ?_
     refine ⟨(i2 + 1), ⟨rfl, rfl⟩, ?_, ?_⟩
     · try dsimp only
       exact ⟨by omega, by omega, names_step hI2.2.2 (by grind) (by grind)⟩
     try dsimp only
     omega
   refine mg [] 2 (((((((e.v.kind == 0) && (e.v.n == 0)) && (e.v.s == ([]))) && ((e.v.l.length : Int) == 0)) && ((e.v.f.length : Int) == 0)) && ((e.a.length : Int) == (e.n.length : Int))) && ((e.s == ([])) && (e.t == ([])))) ?_ ?_
   · repeat' first
      | exact ⟨⟨_, rfl, by grind [SB.val]⟩, rfl⟩
      | refine an (fun _ => ?_) (fun _ => ?_)
      | refine ln ?_
   refine rt0 rfl fun _ => ?_
   show K (.bool (((((((e.v.kind == 0) && (e.v.n == 0)) && (e.v.s == ([]))) && ((e.v.l.length : Int) == 0)) && ((e.v.f.length : Int) == 0)) && ((e.a.length : Int) == (e.n.length : Int))) && ((e.s == ([])) && (e.t == ([]))))) m
   refine K_eq hK (congrArg AV.bool (fmB_of hfe ?_))
   have hz := @zV_iff e.v
   have l1 := @List.length_eq_zero_iff _ e.a
   have l2 := @List.length_eq_zero_iff _ e.n
   have l3 := @List.length_eq_zero_iff _ e.v.l
   have l4 := @List.length_eq_zero_iff _ e.v.f
   have hnm : NamesOk e.n := fun j h0 hj => hI2.2.2 j h0 (by omega)
   unfold NodeOk
   grind
 refine an (fun h16 => ?_) (fun h16 => ?_)
 · refine mg [] 2 (((((((((e.v.kind == 0) && (e.v.n == 0)) && (e.v.s == ([]))) && ((e.v.l.length : Int) == 0)) && ((e.v.f.length : Int) == 0)) && ((e.a.length : Int) == 1)) && ((e.n.length : Int) == 0)) && (nameV e.s)) && (e.t == ([]))) ?_ ?_
   · repeat' first
      | exact ⟨⟨_, rfl, by grind [SB.val]⟩, rfl⟩
      | refine an (fun _ => ?_) (fun _ => ?_)
      | refine ln ?_
   refine rt0 rfl fun _ => ?_
   show K (.bool (((((((((e.v.kind == 0) && (e.v.n == 0)) && (e.v.s == ([]))) && ((e.v.l.length : Int) == 0)) && ((e.v.f.length : Int) == 0)) && ((e.a.length : Int) == 1)) && ((e.n.length : Int) == 0)) && (nameV e.s)) && (e.t == ([])))) m
   refine K_eq hK (congrArg AV.bool (fmB_of hfe ?_))
   have hz := @zV_iff e.v
   have l1 := @List.length_eq_zero_iff _ e.a
   have l2 := @List.length_eq_zero_iff _ e.n
   have l3 := @List.length_eq_zero_iff _ e.v.l
   have l4 := @List.length_eq_zero_iff _ e.v.f
   unfold NodeOk
   grind
 refine rt0 rfl fun _ => ?_
 show K (.bool false) m
 refine K_eq hK (congrArg AV.bool (fmB_of hfe ?_))
 have hz := @zV_iff e.v
 have l1 := @List.length_eq_zero_iff _ e.a
 have l2 := @List.length_eq_zero_iff _ e.n
 have l3 := @List.length_eq_zero_iff _ e.v.l
 have l4 := @List.length_eq_zero_iff _ e.v.f
 unfold NodeOk
 grind
theorem u_formed : ∀ (k : Nat) (e : Exp), depE e < k → szE e ≤ 1000000000 → ∀ (m : AMem) (K : AV → AMem → Prop), K (.bool (fmB e)) m → ACalls Tryz.prog 56 [expTop e] m K
  | 0, _, h => absurd h (Nat.not_lt_zero _)
  | k + 1, e, h => fun hz m K hK => u_formed1 k e (fun x hx hy => u_formed k x hx hy) h hz m K hK
theorem sz_dep (e : Exp) : depE e ≤ szE e := dep_sz _ e (Nat.lt_succ_self _)
theorem exF_many {e : Exp} (h : ¬(xdE e + 1 ≤ 7 ∧ xcE e ≤ 60)) : exF e = 2 := by unfold exF; rw [if_pos (by omega)]
theorem exF_few {e : Exp} (h : xdE e + 1 ≤ 7 ∧ xcE e ≤ 60) : exF e = fmI e := by unfold exF; rw [if_neg (by omega)]
set_option maxHeartbeats 1000000 in
theorem u_LCheck (e : Exp)  (m : AMem)  (K : AV → AMem → Prop) (hK : K (.err 115 (exF e)) m) : ACalls Tryz.prog 14 [expTop e] m K := by
 refine enter (c := cf [] [] [] [] [] []) (vs := [.av (expTop e)]) (L := []) (m := m) true tbOk Tryz.mixed Tryz.func14 rfl (k := 1) (by show fnOk [] _ _ _ = true; decide +kernel) rfl (Good.nil m) ?_
 refine sq ?_
 refine callY 115 [1] (σ := (Int) ⊕ (Int)) (Sum.elim (fun f_1 => f_1 = 60 - xcE e ∧ xdE e + 1 ≤ 7 ∧ xcE e ≤ 60) (fun f_1 => ¬(xdE e + 1 ≤ 7 ∧ xcE e ≤ 60) ∧ -1 ≤ f_1 ∧ f_1 ≤ 60)) (Sum.elim (fun f_1 => .b (.lit true)) (fun f_1 => .b (.lit false))) (Sum.elim (fun f_1 => [.cells [vI f_1]]) (fun f_1 => [.cells [vI f_1]])) rfl (fun x => by rcases x with _ | _ <;> rfl) (fun bs mm gd ht K hK => u_size (depE e + 1) e (Nat.lt_succ_self _) 1 60 (by omega) (by omega) (by omega) (by omega) (bs.getD 1 0) mm gd K (fun f hh => hK (.inl f) hh) (fun f hh => hK (.inr f) hh)) ?_
 rintro (f_1 | f_1) hx1
 · try dsimp only [Sum.elim_inl, Sum.elim_inr] at hx1
   dsimp only [Sum.elim_inl, Sum.elim_inr]
   refine call0 (fun _ => u_check (depE e + 1) e (Nat.lt_succ_self _)) rfl ?_
   refine rt0 rfl fun _ => ?_
   show K (.err 115 (fmI e)) m
   rw [exF_few ⟨hx1.2.1, hx1.2.2⟩] at hK; exact hK
 try dsimp only [Sum.elim_inl, Sum.elim_inr] at hx1
 dsimp only [Sum.elim_inl, Sum.elim_inr]
 refine rt0 rfl fun _ => ?_
 show K (.err 115 2) m
 rw [exF_many hx1.1] at hK; exact hK
set_option maxHeartbeats 1000000 in
theorem u_ExprFault (e : Exp) (hsz : szE e ≤ 1000000000) (m : AMem)  (K : AV → AMem → Prop) (hK : K (.int .i64 (exF e)) m) : ACalls Tryz.prog 11 [expTop e] m K := by
 have hdz := sz_dep e
 refine enter (c := cf [] [] [2] [] [] []) (vs := [.av (expTop e)]) (L := []) (m := m) false tbOk Tryz.mixed Tryz.func11 rfl (k := 1) (by show fnOk [] _ _ _ = true; decide +kernel) rfl (Good.nil m) ?_
 refine call0 (fun _ => u_weigh e (by omega)) rfl ?_
 refine sq ?_
 refine mg [1] 16 ((decide (60 < xcE e)) || (decide (6 < xdE e))) ?_ ?_
 · repeat' first
    | exact ⟨⟨_, rfl, by grind [SB.val]⟩, rfl⟩
    | refine an (fun _ => ?_) (fun _ => ?_)
 refine an (fun h1 => ?_) (fun h1 => ?_)
 · replace h1 : (60 < xcE e) ∨ (6 < xdE e) := ((borT h1).imp (fun q => (of_decide_eq_true q)) (fun q => (of_decide_eq_true q)))
   refine rt0 rfl fun _ => ?_
   show K (.int .i64 2) m
   rw [exF_many (by omega)] at hK; exact hK
 replace h1 : (xcE e ≤ 60) ∧ (xdE e ≤ 6) := ⟨(Int.not_lt.1 (of_decide_eq_false (borL h1))), (Int.not_lt.1 (of_decide_eq_false (borR h1)))⟩
 refine call0 (fun _ => u_formed (depE e + 1) e (Nat.lt_succ_self _) hsz) rfl ?_
 refine sq ?_
 refine an (fun h2 => ?_) (fun h2 => ?_)
 · refine rt0 rfl fun _ => ?_
   show K (.int .i64 0) m
   rw [exF_few (by omega), fmI_y (fmB_t.1 h2)] at hK; exact hK
 refine rt0 rfl fun _ => ?_
 show K (.int .i64 3) m
 rw [exF_few (by omega), fmI_n (fun hh => by rw [fmB_t.2 hh] at h2; cases h2)] at hK; exact hK
end Go.Proofs
end
