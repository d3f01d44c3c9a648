import Derived.Test.YtnahenbiipdlkaaDoorPx2
section
namespace Go.Proofs
open Go Go.Aw Go.Sx
set_option maxRecDepth 100000
abbrev xS (e : Exp) : SV := .agg [vI e.kind, vI e.v.kind, vI e.v.n, vS e.v.s, vL (e.v.l.map valIn), vL (e.v.f.map fldIn), vS e.s, vS e.t, vL (e.a.map expIn), vL (e.n.map strAV)]
instance : Inhabited (PR Exp) := ⟨.bad 0 0⟩
section
variable (f : Int → PR Exp) (l : List Tok) (n : Int)
def sepP (xs : List Exp) (a : Int) (g : Int → PR Exp) : PR Exp := if xs = [] then g a else (wantP l n 4 [44] a).bind fun _ a => g a
def listP : Nat → Int → List Exp → PR Exp
  | 0, a, _ => .bad 5 (hereP l n a)
  | k + 1, a, xs => if tokB l 4 [93] a = true then .ok (.mk 8 zV [] [] xs []) (a + 1) else sepP l n xs a fun a => (f a).bind fun x a => listP k a (xs ++ [x])
def badN (ns : List Str) (m : Str) : Prop := 0 < (ns.length : Int) ∧ Op.bytesLess (gI ns ((ns.length : Int) - 1)) m = false
instance (ns : List Str) (m : Str) : Decidable (badN ns m) := by unfold badN; infer_instance
def recP : Nat → Int → List Str → List Exp → PR Exp
  | 0, a, _, _ => .bad 5 (hereP l n a)
  | k + 1, a, ns, xs => if tokB l 4 [125] a = true then .ok (.mk 9 zV [] [] xs ns) (a + 1) else sepP l n xs a fun a => (wantP l n 1 [] a).bind fun m a =>
      if badN ns m then .bad 3 (hereP l n a) else (wantP l n 4 [58] a).bind fun _ a => (f a).bind fun x a => recP k a (ns ++ [m]) (xs ++ [x])
def betweenP (a : Int) : PR Exp := (f a).bind fun x a =>
  if tokB l 4 [43] a = true then (f (a + 1)).bind fun y a => (wantP l n 4 [41] a).bind fun _ a => .ok (.mk 5 zV [] [] [x, y] []) a
  else if tokB l 4 [61, 61] a = true then (f (a + 1)).bind fun y a => (wantP l n 4 [41] a).bind fun _ a => .ok (.mk 6 zV [] [] [x, y] []) a
  else if tokB l 4 [63] a = true then (f (a + 1)).bind fun y a => (wantP l n 4 [58] a).bind fun _ a => (f a).bind fun z a => (wantP l n 4 [41] a).bind fun _ a => .ok (.mk 7 zV [] [] [x, y, z] []) a
  else .bad 5 (hereP l n a)
def wordP (a : Int) : PR Exp :=
  if tokB l 1 [110, 117, 108, 108] a = true then .ok (litE zV) (a + 1)
  else if tokB l 1 [116, 114, 117, 101] a = true then .ok (litE (.mk 3 1 [] [] [])) (a + 1)
  else if tokB l 1 [102, 97, 108, 115, 101] a = true then .ok (litE (.mk 3 0 [] [] [])) (a + 1)
  else if tokB l 1 [105, 110] a = true then (wantP l n 4 [46] (a + 1)).bind fun _ a => (wantP l n 1 [] a).bind fun s a => .ok (.mk 2 zV s [] [] []) a
  else if tokB l 1 [114, 101, 115] a = true then (pairP l n (a + 1)).bind fun st a => .ok (.mk 3 zV st.1 st.2 [] []) a
  else if tokB l 1 [115, 116, 97, 99, 107] a = true then (pairP l n (a + 1)).bind fun st a => .ok (.mk 4 zV st.1 st.2 [] []) a
  else if tokB l 1 [103, 101, 116] a = true then (f (a + 1)).bind fun x a => (wantP l n 1 [] a).bind fun s a => .ok (.mk 10 zV s [] [x] []) a
  else .bad 5 (hereP l n a)
end
def exprP (l : List Tok) (n : Int) : Nat → Int → PR Exp
  | 0, a => .bad 2 (hereP l n a)
  | k + 1, a =>
    if tokB l 4 [40] a = true then betweenP (exprP l n k) l n (a + 1)
    else if tokB l 4 [91] a = true then listP (exprP l n k) l n (l.length + 1) (a + 1) []
    else if tokB l 4 [123] a = true then recP (exprP l n k) l n (l.length + 1) (a + 1) [] []
    else if tokB l 4 [45] a = true then numP l n (-1) (a + 1)
    else if tokB l 2 [] a = true then numP l n 1 a
    else if tokB l 3 [] a = true then .ok (litE (.mk 2 0 (gI l a).2.2 [] [])) (a + 1)
    else wordP (exprP l n k) l n a
theorem tokN {l : List Tok} {k : Int} {s : Str} {a : Int} (h : tokB l k s a = false) : ¬ tokB l k s a = true := by rw [h]; decide
theorem OX.stuck {l : List Tok} {α : Type} {p : PR α} {x : α} {a e q : Int} (h : e ≠ 0) (h0 : 0 ≤ e) (ha : a ≤ l.length) : OX l p x a e q a e q := ⟨fun z => absurd z h, fun _ => ⟨rfl, rfl, rfl⟩, Int.le_refl _, ha, h0, fun z => absurd z h⟩
set_option maxHeartbeats 1000000 in
theorem u_wordB (l : List Tok) (n a e q : Int) (d : Int) (r : Nat) (hl : l.length ≤ 5000) (h0 : 0 ≤ a) (ha : a ≤ l.length) (he : 0 ≤ e) (hz : e ≠ 0) (m : AMem) (gd : Gd [r] m) (K : AV → AMem → Prop) (hK : K (expTop zE) (AMem.wth m [(r, .cells [.slice false (l.map tokAV), .int .i64 a, .int .i64 n, .err 72 e, .int .i64 q])])) : ACalls Tryd.prog 92 [.ptr ⟨r, 0, none⟩, .int .i64 d] (AMem.wth m [(r, .cells [.slice false (l.map tokAV), .int .i64 a, .int .i64 n, .err 72 e, .int .i64 q])]) K := by
 refine enter (c := cf [] [] [] [] [] [r]) (vs := [.loc 0 0, .av (.int .i64 d)]) (L := [rP l n a e q]) (m := m) false tbOk Tryd.mixed Tryd.func92 rfl (k := 2) (by show fnOk [] _ _ _ = true; decide +kernel) rfl (gd.good rfl) ?_
 refine sq ?_
 refine callM [0] [rP l n a e q] (.b (.lit false)) rfl (fun bs mm gd => fun K hK => u_eat l n a e q 1 ([110, 117, 108, 108] : List UInt8) (bs.getD 0 0) hl (by omega) (by omega) (by omega) mm gd K (fun z => absurd z (by omega)) fun _ => hK) ?_
 refine callM [0] [rP l n a e q] (.b (.lit false)) rfl (fun bs mm gd => fun K hK => u_eat l n a e q 1 ([116, 114, 117, 101] : List UInt8) (bs.getD 0 0) hl (by omega) (by omega) (by omega) mm gd K (fun z => absurd z (by omega)) fun _ => hK) ?_
 refine callM [0] [rP l n a e q] (.b (.lit false)) rfl (fun bs mm gd => fun K hK => u_eat l n a e q 1 ([102, 97, 108, 115, 101] : List UInt8) (bs.getD 0 0) hl (by omega) (by omega) (by omega) mm gd K (fun z => absurd z (by omega)) fun _ => hK) ?_
 refine callM [0] [rP l n a e q] (.b (.lit false)) rfl (fun bs mm gd => fun K hK => u_eat l n a e q 1 ([105, 110] : List UInt8) (bs.getD 0 0) hl (by omega) (by omega) (by omega) mm gd K (fun z => absurd z (by omega)) fun _ => hK) ?_
 refine callM [0] [rP l n a e q] (.b (.lit false)) rfl (fun bs mm gd => fun K hK => u_eat l n a e q 1 ([114, 101, 115] : List UInt8) (bs.getD 0 0) hl (by omega) (by omega) (by omega) mm gd K (fun z => absurd z (by omega)) fun _ => hK) ?_
 refine callM [0] [rP l n a e q] (.b (.lit false)) rfl (fun bs mm gd => fun K hK => u_eat l n a e q 1 ([115, 116, 97, 99, 107] : List UInt8) (bs.getD 0 0) hl (by omega) (by omega) (by omega) mm gd K (fun z => absurd z (by omega)) fun _ => hK) ?_
 refine callM [0] [rP l n a e q] (.b (.lit false)) rfl (fun bs mm gd => fun K hK => u_eat l n a e q 1 ([103, 101, 116] : List UInt8) (bs.getD 0 0) hl (by omega) (by omega) (by omega) mm gd K (fun z => absurd z (by omega)) fun _ => hK) ?_
 refine callY 72 [0] (σ := Int × Int) (fun ⟨e_1, q_1⟩ => (e = 0 → e_1 = 5 ∧ q_1 = hereP l n a) ∧ (e ≠ 0 → e_1 = e ∧ q_1 = q) ∧ 0 < e_1) (fun ⟨e_1, q_1⟩ => .tup []) (fun ⟨e_1, q_1⟩ => [rP l n a e_1 q_1]) rfl (fun _ => rfl) (fun bs mm gd ht K hK => u_fail l n a e q 5 (bs.getD 0 0) (by decide) hl (by omega) (by omega) (by omega) mm gd K (fun z => hK (5, hereP l n a) ⟨fun _ => ⟨rfl, rfl⟩, fun y => absurd z y, by decide⟩) (fun z => hK (e, q) ⟨fun y => absurd y z, fun _ => ⟨rfl, rfl⟩, by omega⟩)) ?_
 rintro ⟨e_1, q_1⟩ hx1
 dsimp only at hx1
 obtain ⟨fa1, fb1, fc1⟩ := hx1
 refine rt rfl fun _ => ?_
 show K (.agg [.int .i64 0, .int .i64 0, .int .i64 0, .str ([]), .slice false [], .slice false [], .str ([]), .str ([]), .slice false [], .slice false []]) (AMem.wth m [(r, .cells [.slice false (l.map tokAV), .int .i64 a, .int .i64 n, .err 72 e_1, .int .i64 q_1])])
 obtain ⟨rfl, rfl⟩ := fb1 hz
 exact hK
set_option maxHeartbeats 2000000 in
theorem u_word1 (l : List Tok) (n a e q : Int) (k : Nat) (d : Int) (r : Nat) (ih : ∀ a e q d : Int, d = 7 - (k : Int) → 0 ≤ a → a ≤ l.length → 0 ≤ e → ∀ (r : Nat) (m : AMem), Gd [r] m → Tabs m → ∀ (K : AV → AMem → Prop), (∀ x' a' e' q', OX l (exprP l n k a) x' a e q a' e' q' → K (expTop x') (AMem.wth m [(r, .cells [.slice false (l.map tokAV), .int .i64 a', .int .i64 n, .err 72 e', .int .i64 q'])])) → ACalls Tryd.prog 71 [.ptr ⟨r, 0, none⟩, .int .i64 d] (AMem.wth m [(r, .cells [.slice false (l.map tokAV), .int .i64 a, .int .i64 n, .err 72 e, .int .i64 q])]) K) (hl : l.length ≤ 5000) (h0 : 0 ≤ a) (ha : a ≤ l.length) (he : 0 ≤ e) (hz : e = 0) (hk : k ≤ 7) (hd : d + 1 = 7 - (k : Int)) (m : AMem) (gd : Gd [r] m) (K : AV → AMem → Prop) (hT : Tabs m) (hK : ∀ x' a' e' q', OX l (wordP (exprP l n k) l n a) x' a e q a' e' q' → K (expTop x') (AMem.wth m [(r, .cells [.slice false (l.map tokAV), .int .i64 a', .int .i64 n, .err 72 e', .int .i64 q'])])) : ACalls Tryd.prog 92 [.ptr ⟨r, 0, none⟩, .int .i64 d] (AMem.wth m [(r, .cells [.slice false (l.map tokAV), .int .i64 a, .int .i64 n, .err 72 e, .int .i64 q])]) K := by
 refine enter (c := cf [] [] [] [18999] [18] [r]) (vs := [.loc 0 0, .av (.int .i64 d)]) (L := [rP l n a e q]) (m := m) false tbOk Tryd.mixed Tryd.func92 rfl (k := 2) (by show fnOk [18999] _ _ _ = true; decide +kernel) rfl (gd.good rfl) ?_
 refine sq ?_
 refine callY 72 [0] (σ := (Unit) ⊕ (Unit)) (Sum.elim (fun _ => e = 0 ∧ tokB l 1 ([110, 117, 108, 108] : List UInt8) a = true) (fun _ => e = 0 → tokB l 1 ([110, 117, 108, 108] : List UInt8) a = false)) (Sum.elim (fun _ => .b (.lit true)) (fun _ => .b (.lit false))) (Sum.elim (fun _ => [rP l n (a + 1) e q]) (fun _ => [rP l n a e q])) rfl (fun x => by rcases x with _ | _ <;> rfl) (fun bs mm gd ht K hK => u_eat l n a e q 1 ([110, 117, 108, 108] : List UInt8) (bs.getD 0 0) hl (by omega) (by omega) (by omega) mm gd K (fun z w => hK (.inl ()) ⟨z, w⟩) (fun z => hK (.inr ()) z)) ?_
 rintro (_ | _) hx1
 · try dsimp only [Sum.elim_inl, Sum.elim_inr] at hx1
   dsimp only [Sum.elim_inl, Sum.elim_inr]
   have ht1 := tokB_lt hx1.2
   refine rt rfl fun _ => ?_
   show K (.agg [.int .i64 1, .int .i64 0, .int .i64 0, .str ([]), .slice false [], .slice false [], .str ([]), .str ([]), .slice false [], .slice false []]) (AMem.wth m [(r, .cells [.slice false (l.map tokAV), .int .i64 (a + 1), .int .i64 n, .err 72 e, .int .i64 q])])
   refine hK (litE zV) _ _ _ ?_
   rw [wordP, if_pos hx1.2]
   exact OX.one ht1 hz
 try dsimp only [Sum.elim_inl, Sum.elim_inr] at hx1
 dsimp only [Sum.elim_inl, Sum.elim_inr]
 refine callY 72 [0] (σ := (Unit) ⊕ (Unit)) (Sum.elim (fun _ => e = 0 ∧ tokB l 1 ([116, 114, 117, 101] : List UInt8) a = true) (fun _ => e = 0 → tokB l 1 ([116, 114, 117, 101] : List UInt8) a = false)) (Sum.elim (fun _ => .b (.lit true)) (fun _ => .b (.lit false))) (Sum.elim (fun _ => [rP l n (a + 1) e q]) (fun _ => [rP l n a e q])) rfl (fun x => by rcases x with _ | _ <;> rfl) (fun bs mm gd ht K hK => u_eat l n a e q 1 ([116, 114, 117, 101] : List UInt8) (bs.getD 0 0) hl (by omega) (by omega) (by omega) mm gd K (fun z w => hK (.inl ()) ⟨z, w⟩) (fun z => hK (.inr ()) z)) ?_
 rintro (_ | _) hx2
 · try dsimp only [Sum.elim_inl, Sum.elim_inr] at hx2
   dsimp only [Sum.elim_inl, Sum.elim_inr]
   have ht2 := tokB_lt hx2.2
   refine rt rfl fun _ => ?_
   show K (.agg [.int .i64 1, .int .i64 3, .int .i64 1, .str ([]), .slice false [], .slice false [], .str ([]), .str ([]), .slice false [], .slice false []]) (AMem.wth m [(r, .cells [.slice false (l.map tokAV), .int .i64 (a + 1), .int .i64 n, .err 72 e, .int .i64 q])])
   refine hK (litE (.mk 3 1 [] [] [])) _ _ _ ?_
   rw [wordP, if_neg (tokN (hx1 hz)), if_pos hx2.2]
   exact OX.one ht2 hz
 try dsimp only [Sum.elim_inl, Sum.elim_inr] at hx2
 dsimp only [Sum.elim_inl, Sum.elim_inr]
 refine callY 72 [0] (σ := (Unit) ⊕ (Unit)) (Sum.elim (fun _ => e = 0 ∧ tokB l 1 ([102, 97, 108, 115, 101] : List UInt8) a = true) (fun _ => e = 0 → tokB l 1 ([102, 97, 108, 115, 101] : List UInt8) a = false)) (Sum.elim (fun _ => .b (.lit true)) (fun _ => .b (.lit false))) (Sum.elim (fun _ => [rP l n (a + 1) e q]) (fun _ => [rP l n a e q])) rfl (fun x => by rcases x with _ | _ <;> rfl) (fun bs mm gd ht K hK => u_eat l n a e q 1 ([102, 97, 108, 115, 101] : List UInt8) (bs.getD 0 0) hl (by omega) (by omega) (by omega) mm gd K (fun z w => hK (.inl ()) ⟨z, w⟩) (fun z => hK (.inr ()) z)) ?_
 rintro (_ | _) hx3
 · try dsimp only [Sum.elim_inl, Sum.elim_inr] at hx3
   dsimp only [Sum.elim_inl, Sum.elim_inr]
   have ht3 := tokB_lt hx3.2
   refine rt rfl fun _ => ?_
   show K (.agg [.int .i64 1, .int .i64 3, .int .i64 0, .str ([]), .slice false [], .slice false [], .str ([]), .str ([]), .slice false [], .slice false []]) (AMem.wth m [(r, .cells [.slice false (l.map tokAV), .int .i64 (a + 1), .int .i64 n, .err 72 e, .int .i64 q])])
   refine hK (litE (.mk 3 0 [] [] [])) _ _ _ ?_
   rw [wordP, if_neg (tokN (hx1 hz)), if_neg (tokN (hx2 hz)), if_pos hx3.2]
   exact OX.one ht3 hz
 try dsimp only [Sum.elim_inl, Sum.elim_inr] at hx3
 dsimp only [Sum.elim_inl, Sum.elim_inr]
 refine callY 72 [0] (σ := (Unit) ⊕ (Unit)) (Sum.elim (fun _ => e = 0 ∧ tokB l 1 ([105, 110] : List UInt8) a = true) (fun _ => e = 0 → tokB l 1 ([105, 110] : List UInt8) a = false)) (Sum.elim (fun _ => .b (.lit true)) (fun _ => .b (.lit false))) (Sum.elim (fun _ => [rP l n (a + 1) e q]) (fun _ => [rP l n a e q])) rfl (fun x => by rcases x with _ | _ <;> rfl) (fun bs mm gd ht K hK => u_eat l n a e q 1 ([105, 110] : List UInt8) (bs.getD 0 0) hl (by omega) (by omega) (by omega) mm gd K (fun z w => hK (.inl ()) ⟨z, w⟩) (fun z => hK (.inr ()) z)) ?_
 rintro (_ | _) hx4
 · try dsimp only [Sum.elim_inl, Sum.elim_inr] at hx4
   dsimp only [Sum.elim_inl, Sum.elim_inr]
   have ht4 := tokB_lt hx4.2
   refine callY 72 [0] (σ := Str × Int × Int × Int) (fun ⟨s_5, a_5, e_5, q_5⟩ => (OX l (wantP l n 4 ([46] : List UInt8) (a + 1)) s_5 (a + 1) e q a_5 e_5 q_5) ∧ (e_5 ≠ 0 → s_5 = [])) (fun ⟨s_5, a_5, e_5, q_5⟩ => vS s_5) (fun ⟨s_5, a_5, e_5, q_5⟩ => [rP l n a_5 e_5 q_5]) rfl (fun _ => rfl) (fun bs mm gd ht K hK => u_want l n (a + 1) e q 4 ([46] : List UInt8) (bs.getD 0 0) hl (by omega) (by omega) (by omega) mm gd K (fun s_ a_ e_ q_ hh hz => hK (s_, a_, e_, q_) ⟨hh, hz⟩)) ?_
   rintro ⟨s_5, a_5, e_5, q_5⟩ hx5
   dsimp only at hx5
   obtain ⟨hx5, hz5⟩ := hx5
   have lo5 := hx5.lo
   have hi5 := hx5.hi
   have nn5 := hx5.nn
   refine callY 72 [0] (σ := Str × Int × Int × Int) (fun ⟨s_6, a_6, e_6, q_6⟩ => OX l (wantP l n 1 [] a_5) s_6 a_5 e_5 q_5 a_6 e_6 q_6) (fun ⟨s_6, a_6, e_6, q_6⟩ => vS s_6) (fun ⟨s_6, a_6, e_6, q_6⟩ => [rP l n a_6 e_6 q_6]) rfl (fun _ => rfl) (fun bs mm gd ht K hK => u_name l n a_5 e_5 q_5 (bs.getD 0 0) hl (by omega) (by omega) (by omega) mm gd K (fun s_ a_ e_ q_ hh => hK (s_, a_, e_, q_) hh)) ?_
   rintro ⟨s_6, a_6, e_6, q_6⟩ hx6
   dsimp only at hx6
   have lo6 := hx6.lo
   have hi6 := hx6.hi
   have nn6 := hx6.nn
   refine rt rfl fun _ => ?_
   show K (.agg [.int .i64 2, .int .i64 0, .int .i64 0, .str ([]), .slice false [], .slice false [], .str s_6, .str ([]), .slice false [], .slice false []]) (AMem.wth m [(r, .cells [.slice false (l.map tokAV), .int .i64 a_6, .int .i64 n, .err 72 e_6, .int .i64 q_6])])
   refine hK (.mk 2 zV s_6 [] [] []) _ _ _ ?_
   rw [wordP, if_neg (tokN (hx1 hz)), if_neg (tokN (hx2 hz)), if_neg (tokN (hx3 hz)), if_pos hx4.2]
   exact OX.from hz (by omega) (hx5.bind (hx6.map fun s => Exp.mk 2 zV s [] [] []))
 try dsimp only [Sum.elim_inl, Sum.elim_inr] at hx4
 dsimp only [Sum.elim_inl, Sum.elim_inr]
 refine callY 72 [0] (σ := (Unit) ⊕ (Unit)) (Sum.elim (fun _ => e = 0 ∧ tokB l 1 ([114, 101, 115] : List UInt8) a = true) (fun _ => e = 0 → tokB l 1 ([114, 101, 115] : List UInt8) a = false)) (Sum.elim (fun _ => .b (.lit true)) (fun _ => .b (.lit false))) (Sum.elim (fun _ => [rP l n (a + 1) e q]) (fun _ => [rP l n a e q])) rfl (fun x => by rcases x with _ | _ <;> rfl) (fun bs mm gd ht K hK => u_eat l n a e q 1 ([114, 101, 115] : List UInt8) (bs.getD 0 0) hl (by omega) (by omega) (by omega) mm gd K (fun z w => hK (.inl ()) ⟨z, w⟩) (fun z => hK (.inr ()) z)) ?_
 rintro (_ | _) hx7
 · try dsimp only [Sum.elim_inl, Sum.elim_inr] at hx7
   dsimp only [Sum.elim_inl, Sum.elim_inr]
   have ht7 := tokB_lt hx7.2
   refine callY 72 [0] (σ := Str × Str × Int × Int × Int) (fun ⟨s_8, t_8, a_8, e_8, q_8⟩ => OX l (pairP l n (a + 1)) (s_8, t_8) (a + 1) e q a_8 e_8 q_8) (fun ⟨s_8, t_8, a_8, e_8, q_8⟩ => .av (.tuple [.str s_8, .str t_8])) (fun ⟨s_8, t_8, a_8, e_8, q_8⟩ => [rP l n a_8 e_8 q_8]) rfl (fun _ => rfl) (fun bs mm gd ht K hK => u_pair l n (a + 1) e q (bs.getD 0 0) hl (by omega) (by omega) (by omega) mm gd K (fun s_ t_ a_ e_ q_ hh => hK (s_, t_, a_, e_, q_) hh)) ?_
   rintro ⟨s_8, t_8, a_8, e_8, q_8⟩ hx8
   dsimp only at hx8
   have lo8 := hx8.lo
   have hi8 := hx8.hi
   have nn8 := hx8.nn
   refine rt rfl fun _ => ?_
   show K (.agg [.int .i64 3, .int .i64 0, .int .i64 0, .str ([]), .slice false [], .slice false [], .str s_8, .str t_8, .slice false [], .slice false []]) (AMem.wth m [(r, .cells [.slice false (l.map tokAV), .int .i64 a_8, .int .i64 n, .err 72 e_8, .int .i64 q_8])])
   refine hK (.mk 3 zV s_8 t_8 [] []) _ _ _ ?_
   rw [wordP, if_neg (tokN (hx1 hz)), if_neg (tokN (hx2 hz)), if_neg (tokN (hx3 hz)), if_neg (tokN (hx4 hz)), if_pos hx7.2]
   exact OX.from hz (by omega) (hx8.map fun st => Exp.mk 3 zV st.1 st.2 [] [])
 try dsimp only [Sum.elim_inl, Sum.elim_inr] at hx7
 dsimp only [Sum.elim_inl, Sum.elim_inr]
 refine callY 72 [0] (σ := (Unit) ⊕ (Unit)) (Sum.elim (fun _ => e = 0 ∧ tokB l 1 ([115, 116, 97, 99, 107] : List UInt8) a = true) (fun _ => e = 0 → tokB l 1 ([115, 116, 97, 99, 107] : List UInt8) a = false)) (Sum.elim (fun _ => .b (.lit true)) (fun _ => .b (.lit false))) (Sum.elim (fun _ => [rP l n (a + 1) e q]) (fun _ => [rP l n a e q])) rfl (fun x => by rcases x with _ | _ <;> rfl) (fun bs mm gd ht K hK => u_eat l n a e q 1 ([115, 116, 97, 99, 107] : List UInt8) (bs.getD 0 0) hl (by omega) (by omega) (by omega) mm gd K (fun z w => hK (.inl ()) ⟨z, w⟩) (fun z => hK (.inr ()) z)) ?_
 rintro (_ | _) hx9
 · try dsimp only [Sum.elim_inl, Sum.elim_inr] at hx9
   dsimp only [Sum.elim_inl, Sum.elim_inr]
   have ht9 := tokB_lt hx9.2
   refine callY 72 [0] (σ := Str × Str × Int × Int × Int) (fun ⟨s_10, t_10, a_10, e_10, q_10⟩ => OX l (pairP l n (a + 1)) (s_10, t_10) (a + 1) e q a_10 e_10 q_10) (fun ⟨s_10, t_10, a_10, e_10, q_10⟩ => .av (.tuple [.str s_10, .str t_10])) (fun ⟨s_10, t_10, a_10, e_10, q_10⟩ => [rP l n a_10 e_10 q_10]) rfl (fun _ => rfl) (fun bs mm gd ht K hK => u_pair l n (a + 1) e q (bs.getD 0 0) hl (by omega) (by omega) (by omega) mm gd K (fun s_ t_ a_ e_ q_ hh => hK (s_, t_, a_, e_, q_) hh)) ?_
   rintro ⟨s_10, t_10, a_10, e_10, q_10⟩ hx10
   dsimp only at hx10
   have lo10 := hx10.lo
   have hi10 := hx10.hi
   have nn10 := hx10.nn
   refine rt rfl fun _ => ?_
   show K (.agg [.int .i64 4, .int .i64 0, .int .i64 0, .str ([]), .slice false [], .slice false [], .str s_10, .str t_10, .slice false [], .slice false []]) (AMem.wth m [(r, .cells [.slice false (l.map tokAV), .int .i64 a_10, .int .i64 n, .err 72 e_10, .int .i64 q_10])])
   refine hK (.mk 4 zV s_10 t_10 [] []) _ _ _ ?_
   rw [wordP, if_neg (tokN (hx1 hz)), if_neg (tokN (hx2 hz)), if_neg (tokN (hx3 hz)), if_neg (tokN (hx4 hz)), if_neg (tokN (hx7 hz)), if_pos hx9.2]
   exact OX.from hz (by omega) (hx10.map fun st => Exp.mk 4 zV st.1 st.2 [] [])
 try dsimp only [Sum.elim_inl, Sum.elim_inr] at hx9
 dsimp only [Sum.elim_inl, Sum.elim_inr]
 refine callY 72 [0] (σ := (Unit) ⊕ (Unit)) (Sum.elim (fun _ => e = 0 ∧ tokB l 1 ([103, 101, 116] : List UInt8) a = true) (fun _ => e = 0 → tokB l 1 ([103, 101, 116] : List UInt8) a = false)) (Sum.elim (fun _ => .b (.lit true)) (fun _ => .b (.lit false))) (Sum.elim (fun _ => [rP l n (a + 1) e q]) (fun _ => [rP l n a e q])) rfl (fun x => by rcases x with _ | _ <;> rfl) (fun bs mm gd ht K hK => u_eat l n a e q 1 ([103, 101, 116] : List UInt8) (bs.getD 0 0) hl (by omega) (by omega) (by omega) mm gd K (fun z w => hK (.inl ()) ⟨z, w⟩) (fun z => hK (.inr ()) z)) ?_
 rintro (_ | _) hx11
 · try dsimp only [Sum.elim_inl, Sum.elim_inr] at hx11
   dsimp only [Sum.elim_inl, Sum.elim_inr]
   have ht11 := tokB_lt hx11.2
   refine an (by omega) ?_
   refine callY 72 [0] (σ := Exp × Int × Int × Int) (fun ⟨x_12, a_12, e_12, q_12⟩ => OX l (exprP l n k (a + 1)) x_12 (a + 1) e q a_12 e_12 q_12) (fun ⟨x_12, a_12, e_12, q_12⟩ => xS x_12) (fun ⟨x_12, a_12, e_12, q_12⟩ => [rP l n a_12 e_12 q_12]) rfl (fun _ => rfl) (fun bs mm gd ht K hK => ih (a + 1) e q (d + 1) (by omega) (by omega) (by omega) (by omega) (bs.getD 0 0) mm gd (Tabs.up ht hT) K (fun x_ a_ e_ q_ hh => hK (x_, a_, e_, q_) hh)) ?_
   rintro ⟨x_12, a_12, e_12, q_12⟩ hx12
   dsimp only at hx12
   have lo12 := hx12.lo
   have hi12 := hx12.hi
   have nn12 := hx12.nn
   refine rgA tbOk Tryd.mixed (σ := Int × Int × Int × Str) (.f 0 (.o 1 (.s 2 (.s 3 (.s 4 (.s 5 .d)))) (.o 2 (.o 1 (.s 3 (.s 4 (.s 5 .d))) (.o 3 (.s 1 (.s 4 (.s 5 .d))) .z)) .z))) [] [4] 3 (fun ⟨a9, e9, q9, s9⟩ => ([(4, .loc 1 0)], [rP l n a9 e9 q9, .cells [vI 10, vI 0, vI 0, vS ([]), .own [], .own [], vS s9, vS ([]), vL [.agg [.int .i64 x_12.kind, .int .i64 x_12.v.kind, .int .i64 x_12.v.n, .str x_12.v.s, .slice false (x_12.v.l.map valIn), .slice false (x_12.v.f.map fldIn), .str x_12.s, .str x_12.t, .slice false (x_12.a.map expIn), .slice false (x_12.n.map strAV)]], .own []], .cells [vI x_12.kind, vI x_12.v.kind, vI x_12.v.n, vS x_12.v.s, vL (x_12.v.l.map valIn), vL (x_12.v.f.map fldIn), vS x_12.s, vS x_12.t, vL (x_12.a.map expIn), vL (x_12.n.map strAV)]], m)) (fun ⟨a9, e9, q9, s9⟩ => OX l (wantP l n 1 [] a_12) s9 a_12 e_12 q_12 a9 e9 q9) (by decide +kernel) ?_ ?_
   · rintro ⟨a9, e9, q9, s9⟩ hy18
     try dsimp only at hy18
     refine rt rfl fun _ => ?_
     show K (.agg [.int .i64 10, .int .i64 0, .int .i64 0, .str ([]), .slice false [], .slice false [], .str s9, .str ([]), .slice false [.agg [.int .i64 x_12.kind, .int .i64 x_12.v.kind, .int .i64 x_12.v.n, .str x_12.v.s, .slice false (x_12.v.l.map valIn), .slice false (x_12.v.f.map fldIn), .str x_12.s, .str x_12.t, .slice false (x_12.a.map expIn), .slice false (x_12.n.map strAV)]], .slice false []]) (AMem.wth m [(r, .cells [.slice false (l.map tokAV), .int .i64 a9, .int .i64 n, .err 72 e9, .int .i64 q9])])
     refine K_eq (hK (.mk 10 zV s9 [] [x_12] []) _ _ _ ?_) ?_
     · rw [wordP, if_neg (tokN (hx1 hz)), if_neg (tokN (hx2 hz)), if_neg (tokN (hx3 hz)), if_neg (tokN (hx4 hz)), if_neg (tokN (hx7 hz)), if_neg (tokN (hx9 hz)), if_pos hx11.2]
       exact OX.from hz (by omega) (hx12.bind (hy18.map fun s => Exp.mk 10 zV s [] [x_12] []))
     · simp only [expTop, Exp.a, List.map_cons, List.map_nil, expIn_eq]; rfl
   refine ⟨?_, ?_, trivial⟩
   · refine callY 72 [0] (σ := Str × Int × Int × Int) (fun ⟨s_13, a_13, e_13, q_13⟩ => OX l (wantP l n 1 [] a_12) s_13 a_12 e_12 q_12 a_13 e_13 q_13) (fun ⟨s_13, a_13, e_13, q_13⟩ => vS s_13) (fun ⟨s_13, a_13, e_13, q_13⟩ => [rP l n a_13 e_13 q_13]) rfl (fun _ => rfl) (fun bs mm gd ht K hK => u_name l n a_12 e_12 q_12 (bs.getD 0 0) hl (by omega) (by omega) (by omega) mm gd K (fun s_ a_ e_ q_ hh => hK (s_, a_, e_, q_) hh)) ?_
     rintro ⟨s_13, a_13, e_13, q_13⟩ hx13
     dsimp only at hx13
     have lo13 := hx13.lo
     have hi13 := hx13.hi
     have nn13 := hx13.nn
     refine ⟨(a_13, e_13, q_13, s_13), ⟨rfl, rfl⟩, ?_⟩
     exact hx13
   · refine ⟨?_, ?_, trivial⟩
     · refine callY 72 [0] (σ := Str × Int × Int × Int) (fun ⟨s_14, a_14, e_14, q_14⟩ => OX l (wantP l n 1 [] a_12) s_14 a_12 e_12 q_12 a_14 e_14 q_14) (fun ⟨s_14, a_14, e_14, q_14⟩ => vS s_14) (fun ⟨s_14, a_14, e_14, q_14⟩ => [rP l n a_14 e_14 q_14]) rfl (fun _ => rfl) (fun bs mm gd ht K hK => u_name l n a_12 e_12 q_12 (bs.getD 0 0) hl (by omega) (by omega) (by omega) mm gd K (fun s_ a_ e_ q_ hh => hK (s_, a_, e_, q_) hh)) ?_
       rintro ⟨s_14, a_14, e_14, q_14⟩ hx14
       dsimp only at hx14
       have lo14 := hx14.lo
       have hi14 := hx14.hi
       have nn14 := hx14.nn
       refine ⟨(a_14, e_14, q_14, s_14), ⟨rfl, rfl⟩, ?_⟩
       exact hx14
     · refine callY 72 [0] (σ := Str × Int × Int × Int) (fun ⟨s_15, a_15, e_15, q_15⟩ => OX l (wantP l n 1 [] a_12) s_15 a_12 e_12 q_12 a_15 e_15 q_15) (fun ⟨s_15, a_15, e_15, q_15⟩ => vS s_15) (fun ⟨s_15, a_15, e_15, q_15⟩ => [rP l n a_15 e_15 q_15]) rfl (fun _ => rfl) (fun bs mm gd ht K hK => u_name l n a_12 e_12 q_12 (bs.getD 0 0) hl (by omega) (by omega) (by omega) mm gd K (fun s_ a_ e_ q_ hh => hK (s_, a_, e_, q_) hh)) ?_
       rintro ⟨s_15, a_15, e_15, q_15⟩ hx15
       dsimp only at hx15
       have lo15 := hx15.lo
       have hi15 := hx15.hi
       have nn15 := hx15.nn
       refine ⟨(a_15, e_15, q_15, s_15), ⟨rfl, rfl⟩, ?_⟩
       exact hx15
 try dsimp only [Sum.elim_inl, Sum.elim_inr] at hx11
 dsimp only [Sum.elim_inl, Sum.elim_inr]
 refine callY 72 [0] (σ := Int × Int) (fun ⟨e_16, q_16⟩ => (e = 0 → e_16 = 5 ∧ q_16 = hereP l n a) ∧ (e ≠ 0 → e_16 = e ∧ q_16 = q) ∧ 0 < e_16) (fun ⟨e_16, q_16⟩ => .tup []) (fun ⟨e_16, q_16⟩ => [rP l n a e_16 q_16]) rfl (fun _ => rfl) (fun bs mm gd ht K hK => u_fail l n a e q 5 (bs.getD 0 0) (by decide) hl (by omega) (by omega) (by omega) mm gd K (fun z => hK (5, hereP l n a) ⟨fun _ => ⟨rfl, rfl⟩, fun y => absurd z y, by decide⟩) (fun z => hK (e, q) ⟨fun y => absurd y z, fun _ => ⟨rfl, rfl⟩, by omega⟩)) ?_
 rintro ⟨e_16, q_16⟩ hx16
 dsimp only at hx16
 obtain ⟨fa16, fb16, fc16⟩ := hx16
 refine rt rfl fun _ => ?_
 show K (.agg [.int .i64 0, .int .i64 0, .int .i64 0, .str ([]), .slice false [], .slice false [], .str ([]), .str ([]), .slice false [], .slice false []]) (AMem.wth m [(r, .cells [.slice false (l.map tokAV), .int .i64 a, .int .i64 n, .err 72 e_16, .int .i64 q_16])])
 refine hK zE _ _ _ ?_
 rw [wordP, if_neg (tokN (hx1 hz)), if_neg (tokN (hx2 hz)), if_neg (tokN (hx3 hz)), if_neg (tokN (hx4 hz)), if_neg (tokN (hx7 hz)), if_neg (tokN (hx9 hz)), if_neg (tokN (hx11 hz))]
 exact OX.bad _ ha fa16 fb16 fc16
end Go.Proofs
end
section
namespace Go.Proofs
open Go Go.Aw Go.Sx
set_option maxRecDepth 100000
set_option maxHeartbeats 2000000 in
theorem u_between1 (l : List Tok) (n a e q : Int) (k : Nat) (d : Int) (r : Nat) (ih : ∀ a e q d : Int, d = 7 - (k : Int) → 0 ≤ a → a ≤ l.length → 0 ≤ e → ∀ (r : Nat) (m : AMem), Gd [r] m → Tabs m → ∀ (K : AV → AMem → Prop), (∀ x' a' e' q', OX l (exprP l n k a) x' a e q a' e' q' → K (expTop x') (AMem.wth m [(r, .cells [.slice false (l.map tokAV), .int .i64 a', .int .i64 n, .err 72 e', .int .i64 q'])])) → ACalls Tryd.prog 71 [.ptr ⟨r, 0, none⟩, .int .i64 d] (AMem.wth m [(r, .cells [.slice false (l.map tokAV), .int .i64 a, .int .i64 n, .err 72 e, .int .i64 q])]) K) (hl : l.length ≤ 5000) (h0 : 0 ≤ a) (ha : a ≤ l.length) (he : 0 ≤ e) (hk : k ≤ 7) (hd : d + 1 = 7 - (k : Int)) (m : AMem) (gd : Gd [r] m) (K : AV → AMem → Prop) (hT : Tabs m) (hK : ∀ x' a' e' q', OX l (betweenP (exprP l n k) l n a) x' a e q a' e' q' → K (expTop x') (AMem.wth m [(r, .cells [.slice false (l.map tokAV), .int .i64 a', .int .i64 n, .err 72 e', .int .i64 q'])])) : ACalls Tryd.prog 89 [.ptr ⟨r, 0, none⟩, .int .i64 d] (AMem.wth m [(r, .cells [.slice false (l.map tokAV), .int .i64 a, .int .i64 n, .err 72 e, .int .i64 q])]) K := by
 refine enter (c := cf [1000013] [] [] [9999, 11999] [9, 11] [r]) (vs := [.loc 0 0, .av (.int .i64 d)]) (L := [rP l n a e q]) (m := m) false tbOk Tryd.mixed Tryd.func89 rfl (k := 2) (by show fnOk [9999, 11999] _ _ _ = true; decide +kernel) rfl (gd.good rfl) ?_
 refine an (by omega) ?_
 refine callY 72 [0] (σ := Exp × Int × Int × Int) (fun ⟨x_1, a_1, e_1, q_1⟩ => OX l (exprP l n k a) x_1 a e q a_1 e_1 q_1) (fun ⟨x_1, a_1, e_1, q_1⟩ => xS x_1) (fun ⟨x_1, a_1, e_1, q_1⟩ => [rP l n a_1 e_1 q_1]) rfl (fun _ => rfl) (fun bs mm gd ht K hK => ih a e q (d + 1) (by omega) (by omega) (by omega) (by omega) (bs.getD 0 0) mm gd (Tabs.up ht hT) K (fun x_ a_ e_ q_ hh => hK (x_, a_, e_, q_) hh)) ?_
 rintro ⟨x_1, a_1, e_1, q_1⟩ hx1
 dsimp only at hx1
 have lo1 := hx1.lo
 have hi1 := hx1.hi
 have nn1 := hx1.nn
 refine bown (s := 12) [vI 5, vI 0, vI 0, vS ([]), .own [], .own [], vS ([]), vS ([])] [.own []] [.agg [.int .i64 x_1.kind, .int .i64 x_1.v.kind, .int .i64 x_1.v.n, .str x_1.v.s, .slice false (x_1.v.l.map valIn), .slice false (x_1.v.f.map fldIn), .str x_1.s, .str x_1.t, .slice false (x_1.a.map expIn), .slice false (x_1.n.map strAV)]] rfl rfl rfl (by simp only [List.forall_mem_cons]; exact ⟨rfl, rfl, rfl, rfl, rfl, rfl, fun _ h => by cases h⟩) (fun bs X hX => (by simp only [List.forall_mem_cons]; exact ⟨rfl, hX, fun _ h => by cases h⟩)) (fun _ _ _ _ => rfl) (fun _ => rfl) rfl rfl ?_
 refine sq ?_
 refine callY 72 [0] (σ := (Unit) ⊕ (Unit)) (Sum.elim (fun _ => e_1 = 0 ∧ tokB l 4 ([43] : List UInt8) a_1 = true) (fun _ => e_1 = 0 → tokB l 4 ([43] : List UInt8) a_1 = false)) (Sum.elim (fun _ => .b (.lit true)) (fun _ => .b (.lit false))) (Sum.elim (fun _ => [rP l n (a_1 + 1) e_1 q_1]) (fun _ => [rP l n a_1 e_1 q_1])) rfl (fun x => by rcases x with _ | _ <;> rfl) (fun bs mm gd ht K hK => u_eat l n a_1 e_1 q_1 4 ([43] : List UInt8) (bs.getD 0 0) hl (by omega) (by omega) (by omega) mm gd K (fun z w => hK (.inl ()) ⟨z, w⟩) (fun z => hK (.inr ()) z)) ?_
 rintro (_ | _) hx2
 · try dsimp only [Sum.elim_inl, Sum.elim_inr] at hx2
   dsimp only [Sum.elim_inl, Sum.elim_inr]
   have ht2 := tokB_lt hx2.2
   refine rgA tbOk Tryd.mixed (σ := Int × Int × Int × Exp) (.f 0 (.f 2 (.f 3 (.o 1 (.s 4 (.s 5 (.s 6 (.s 7 (.f 8 (.s 9 .d)))))) (.o 4 (.o 1 (.s 5 (.s 6 (.s 7 (.f 8 (.s 9 .d))))) (.o 5 (.o 1 (.s 6 (.s 7 (.f 8 (.s 9 .d)))) (.o 6 (.s 1 (.s 7 (.f 8 (.s 9 .d)))) .z)) .z)) .z))))) [] [0, 4, 6] 4 (fun ⟨a9, e9, q9, x9⟩ => ([(0, .loc 0 0), (4, .loc 1 0), (6, .loc 3 0)], [rP l n a9 e9 q9, .cells [vI 0, vI 0, vI 0, vS ([]), .own [], .own [], vS ([]), vS ([]), .own [], .own []], .cells [vI x_1.kind, vI x_1.v.kind, vI x_1.v.n, vS x_1.v.s, vL (x_1.v.l.map valIn), vL (x_1.v.f.map fldIn), vS x_1.s, vS x_1.t, vL (x_1.a.map expIn), vL (x_1.n.map strAV)], .cells [vI 5, vI 0, vI 0, vS ([]), .own [], .own [], vS ([]), vS ([]), .own ((([x_1] : List Exp) ++ ([x9] : List Exp)).map expIn), .own []]], m)) (fun ⟨a9, e9, q9, x9⟩ => OX l (exprP l n k (a_1 + 1)) x9 (a_1 + 1) e_1 q_1 a9 e9 q9) (by decide +kernel) ?_ ?_
   · rintro ⟨a9, e9, q9, x9⟩ hy11
     try dsimp only at hy11
     have lo11y := hy11.lo
     have hi11y := hy11.hi
     have nn11y := hy11.nn
     refine callY 72 [0] (σ := Str × Int × Int × Int) (fun ⟨s_6, a_6, e_6, q_6⟩ => (OX l (wantP l n 4 ([41] : List UInt8) a9) s_6 a9 e9 q9 a_6 e_6 q_6) ∧ (e_6 ≠ 0 → s_6 = [])) (fun ⟨s_6, a_6, e_6, q_6⟩ => vS s_6) (fun ⟨s_6, a_6, e_6, q_6⟩ => [rP l n a_6 e_6 q_6]) rfl (fun _ => rfl) (fun bs mm gd ht K hK => u_want l n a9 e9 q9 4 ([41] : List UInt8) (bs.getD 0 0) hl (by omega) (by omega) (by omega) mm gd K (fun s_ a_ e_ q_ hh hz => hK (s_, a_, e_, q_) ⟨hh, hz⟩)) ?_
     rintro ⟨s_6, a_6, e_6, q_6⟩ hx6
     dsimp only at hx6
     obtain ⟨hx6, hz6⟩ := hx6
     have lo6 := hx6.lo
     have hi6 := hx6.hi
     have nn6 := hx6.nn
     refine rt rfl fun _ => ?_
     show K (.agg [.int .i64 5, .int .i64 0, .int .i64 0, .str ([]), .slice false [], .slice false [], .str ([]), .str ([]), .slice false ((([x_1] : List Exp) ++ ([x9] : List Exp)).map expIn), .slice false []]) (AMem.wth m [(r, .cells [.slice false (l.map tokAV), .int .i64 a_6, .int .i64 n, .err 72 e_6, .int .i64 q_6])])
     refine K_eq (hK (.mk 5 zV [] [] [x_1, x9] []) _ _ _ ?_) ?_
     · rw [betweenP]
       refine hx1.bind ?_
       rw [if_pos hx2.2]
       exact OX.from hx2.1 (by omega) (hy11.bind (hx6.map fun _ => Exp.mk 5 zV [] [] [x_1, x9] []))
     · simp only [expTop, Exp.a, List.map_cons, List.map_nil, List.map_append, List.cons_append, List.nil_append, expIn_eq]; rfl
   refine ⟨?_, ?_, trivial⟩
   · refine an (by omega) ?_
     refine callY 72 [0] (σ := Exp × Int × Int × Int) (fun ⟨x_3, a_3, e_3, q_3⟩ => OX l (exprP l n k (a_1 + 1)) x_3 (a_1 + 1) e_1 q_1 a_3 e_3 q_3) (fun ⟨x_3, a_3, e_3, q_3⟩ => xS x_3) (fun ⟨x_3, a_3, e_3, q_3⟩ => [rP l n a_3 e_3 q_3]) rfl (fun _ => rfl) (fun bs mm gd ht K hK => ih (a_1 + 1) e_1 q_1 (d + 1) (by omega) (by omega) (by omega) (by omega) (bs.getD 0 0) mm gd (Tabs.up ht hT) K (fun x_ a_ e_ q_ hh => hK (x_, a_, e_, q_) hh)) ?_
     rintro ⟨x_3, a_3, e_3, q_3⟩ hx3
     dsimp only at hx3
     have lo3 := hx3.lo
     have hi3 := hx3.hi
     have nn3 := hx3.nn
     refine ap expIn ([x_1] : List Exp) ([x_3] : List Exp) (by simp only [List.map_cons, List.map_nil, expIn_eq]; try rfl) (by simp only [List.map_cons, List.map_nil, expIn_eq]; try rfl) (fun a => by rw [expIn_eq]; exact ⟨rfl, rfl⟩) (by (simp only [List.length_append, List.length_cons, List.length_nil]; omega)) ?_
     refine ⟨(a_3, e_3, q_3, x_3), ⟨rfl, rfl⟩, ?_⟩
     exact hx3
   · refine an (by omega) ?_
     refine ⟨?_, ?_, trivial⟩
     · refine callY 72 [0] (σ := Exp × Int × Int × Int) (fun ⟨x_4, a_4, e_4, q_4⟩ => OX l (exprP l n k (a_1 + 1)) x_4 (a_1 + 1) e_1 q_1 a_4 e_4 q_4) (fun ⟨x_4, a_4, e_4, q_4⟩ => xS x_4) (fun ⟨x_4, a_4, e_4, q_4⟩ => [rP l n a_4 e_4 q_4]) rfl (fun _ => rfl) (fun bs mm gd ht K hK => ih (a_1 + 1) e_1 q_1 (d + 1) (by omega) (by omega) (by omega) (by omega) (bs.getD 0 0) mm gd (Tabs.up ht hT) K (fun x_ a_ e_ q_ hh => hK (x_, a_, e_, q_) hh)) ?_
       rintro ⟨x_4, a_4, e_4, q_4⟩ hx4
       dsimp only at hx4
       have lo4 := hx4.lo
       have hi4 := hx4.hi
       have nn4 := hx4.nn
       refine ap expIn ([x_1] : List Exp) ([x_4] : List Exp) (by simp only [List.map_cons, List.map_nil, expIn_eq]; try rfl) (by simp only [List.map_cons, List.map_nil, expIn_eq]; try rfl) (fun a => by rw [expIn_eq]; exact ⟨rfl, rfl⟩) (by (simp only [List.length_append, List.length_cons, List.length_nil]; omega)) ?_
       refine ⟨(a_4, e_4, q_4, x_4), ⟨rfl, rfl⟩, ?_⟩
       exact hx4
     · refine callY 72 [0] (σ := Exp × Int × Int × Int) (fun ⟨x_5, a_5, e_5, q_5⟩ => OX l (exprP l n k (a_1 + 1)) x_5 (a_1 + 1) e_1 q_1 a_5 e_5 q_5) (fun ⟨x_5, a_5, e_5, q_5⟩ => xS x_5) (fun ⟨x_5, a_5, e_5, q_5⟩ => [rP l n a_5 e_5 q_5]) rfl (fun _ => rfl) (fun bs mm gd ht K hK => ih (a_1 + 1) e_1 q_1 (d + 1) (by omega) (by omega) (by omega) (by omega) (bs.getD 0 0) mm gd (Tabs.up ht hT) K (fun x_ a_ e_ q_ hh => hK (x_, a_, e_, q_) hh)) ?_
       rintro ⟨x_5, a_5, e_5, q_5⟩ hx5
       dsimp only at hx5
       have lo5 := hx5.lo
       have hi5 := hx5.hi
       have nn5 := hx5.nn
       refine ⟨?_, ?_, trivial⟩
       · refine ap expIn ([x_1] : List Exp) ([x_5] : List Exp) (by simp only [List.map_cons, List.map_nil, expIn_eq]; try rfl) (by simp only [List.map_cons, List.map_nil, expIn_eq]; try rfl) (fun a => by rw [expIn_eq]; exact ⟨rfl, rfl⟩) (by (simp only [List.length_append, List.length_cons, List.length_nil]; omega)) ?_
         refine ⟨(a_5, e_5, q_5, x_5), ⟨rfl, rfl⟩, ?_⟩
         exact hx5
       · refine ap expIn ([x_1] : List Exp) ([x_5] : List Exp) (by simp only [List.map_cons, List.map_nil, expIn_eq]; try rfl) (by simp only [List.map_cons, List.map_nil, expIn_eq]; try rfl) (fun a => by rw [expIn_eq]; exact ⟨rfl, rfl⟩) (by (simp only [List.length_append, List.length_cons, List.length_nil]; omega)) ?_
         refine ⟨(a_5, e_5, q_5, x_5), ⟨rfl, rfl⟩, ?_⟩
         exact hx5
 try dsimp only [Sum.elim_inl, Sum.elim_inr] at hx2
 dsimp only [Sum.elim_inl, Sum.elim_inr]
 refine callY 72 [0] (σ := (Unit) ⊕ (Unit)) (Sum.elim (fun _ => e_1 = 0 ∧ tokB l 4 ([61, 61] : List UInt8) a_1 = true) (fun _ => e_1 = 0 → tokB l 4 ([61, 61] : List UInt8) a_1 = false)) (Sum.elim (fun _ => .b (.lit true)) (fun _ => .b (.lit false))) (Sum.elim (fun _ => [rP l n (a_1 + 1) e_1 q_1]) (fun _ => [rP l n a_1 e_1 q_1])) rfl (fun x => by rcases x with _ | _ <;> rfl) (fun bs mm gd ht K hK => u_eat l n a_1 e_1 q_1 4 ([61, 61] : List UInt8) (bs.getD 0 0) hl (by omega) (by omega) (by omega) mm gd K (fun z w => hK (.inl ()) ⟨z, w⟩) (fun z => hK (.inr ()) z)) ?_
 rintro (_ | _) hx7
 · try dsimp only [Sum.elim_inl, Sum.elim_inr] at hx7
   dsimp only [Sum.elim_inl, Sum.elim_inr]
   have ht7 := tokB_lt hx7.2
   refine rgA tbOk Tryd.mixed (σ := Int × Int × Int × Exp) (.f 0 (.f 2 (.f 3 (.o 1 (.s 4 (.s 5 (.s 6 (.s 7 (.f 8 (.s 9 .d)))))) (.o 4 (.o 1 (.s 5 (.s 6 (.s 7 (.f 8 (.s 9 .d))))) (.o 5 (.o 1 (.s 6 (.s 7 (.f 8 (.s 9 .d)))) (.o 6 (.s 1 (.s 7 (.f 8 (.s 9 .d)))) .z)) .z)) .z))))) [] [0, 4, 6] 4 (fun ⟨a9, e9, q9, x9⟩ => ([(0, .loc 0 0), (4, .loc 1 0), (6, .loc 3 0)], [rP l n a9 e9 q9, .cells [vI 0, vI 0, vI 0, vS ([]), .own [], .own [], vS ([]), vS ([]), .own [], .own []], .cells [vI x_1.kind, vI x_1.v.kind, vI x_1.v.n, vS x_1.v.s, vL (x_1.v.l.map valIn), vL (x_1.v.f.map fldIn), vS x_1.s, vS x_1.t, vL (x_1.a.map expIn), vL (x_1.n.map strAV)], .cells [vI 6, vI 0, vI 0, vS ([]), .own [], .own [], vS ([]), vS ([]), .own ((([x_1] : List Exp) ++ ([x9] : List Exp)).map expIn), .own []]], m)) (fun ⟨a9, e9, q9, x9⟩ => OX l (exprP l n k (a_1 + 1)) x9 (a_1 + 1) e_1 q_1 a9 e9 q9) (by decide +kernel) ?_ ?_
   · rintro ⟨a9, e9, q9, x9⟩ hy11
     try dsimp only at hy11
     have lo11y := hy11.lo
     have hi11y := hy11.hi
     have nn11y := hy11.nn
     refine callY 72 [0] (σ := Str × Int × Int × Int) (fun ⟨s_11, a_11, e_11, q_11⟩ => (OX l (wantP l n 4 ([41] : List UInt8) a9) s_11 a9 e9 q9 a_11 e_11 q_11) ∧ (e_11 ≠ 0 → s_11 = [])) (fun ⟨s_11, a_11, e_11, q_11⟩ => vS s_11) (fun ⟨s_11, a_11, e_11, q_11⟩ => [rP l n a_11 e_11 q_11]) rfl (fun _ => rfl) (fun bs mm gd ht K hK => u_want l n a9 e9 q9 4 ([41] : List UInt8) (bs.getD 0 0) hl (by omega) (by omega) (by omega) mm gd K (fun s_ a_ e_ q_ hh hz => hK (s_, a_, e_, q_) ⟨hh, hz⟩)) ?_
     rintro ⟨s_11, a_11, e_11, q_11⟩ hx11
     dsimp only at hx11
     obtain ⟨hx11, hz11⟩ := hx11
     have lo11 := hx11.lo
     have hi11 := hx11.hi
     have nn11 := hx11.nn
     refine rt rfl fun _ => ?_
     show K (.agg [.int .i64 6, .int .i64 0, .int .i64 0, .str ([]), .slice false [], .slice false [], .str ([]), .str ([]), .slice false ((([x_1] : List Exp) ++ ([x9] : List Exp)).map expIn), .slice false []]) (AMem.wth m [(r, .cells [.slice false (l.map tokAV), .int .i64 a_11, .int .i64 n, .err 72 e_11, .int .i64 q_11])])
     refine K_eq (hK (.mk 6 zV [] [] [x_1, x9] []) _ _ _ ?_) ?_
     · rw [betweenP]
       refine hx1.bind ?_
       rw [if_neg (tokN (hx2 hx7.1)), if_pos hx7.2]
       exact OX.from hx7.1 (by omega) (hy11.bind (hx11.map fun _ => Exp.mk 6 zV [] [] [x_1, x9] []))
     · simp only [expTop, Exp.a, List.map_cons, List.map_nil, List.map_append, List.cons_append, List.nil_append, expIn_eq]; rfl
   refine ⟨?_, ?_, trivial⟩
   · refine an (by omega) ?_
     refine callY 72 [0] (σ := Exp × Int × Int × Int) (fun ⟨x_8, a_8, e_8, q_8⟩ => OX l (exprP l n k (a_1 + 1)) x_8 (a_1 + 1) e_1 q_1 a_8 e_8 q_8) (fun ⟨x_8, a_8, e_8, q_8⟩ => xS x_8) (fun ⟨x_8, a_8, e_8, q_8⟩ => [rP l n a_8 e_8 q_8]) rfl (fun _ => rfl) (fun bs mm gd ht K hK => ih (a_1 + 1) e_1 q_1 (d + 1) (by omega) (by omega) (by omega) (by omega) (bs.getD 0 0) mm gd (Tabs.up ht hT) K (fun x_ a_ e_ q_ hh => hK (x_, a_, e_, q_) hh)) ?_
     rintro ⟨x_8, a_8, e_8, q_8⟩ hx8
     dsimp only at hx8
     have lo8 := hx8.lo
     have hi8 := hx8.hi
     have nn8 := hx8.nn
     refine ap expIn ([x_1] : List Exp) ([x_8] : List Exp) (by simp only [List.map_cons, List.map_nil, expIn_eq]; try rfl) (by simp only [List.map_cons, List.map_nil, expIn_eq]; try rfl) (fun a => by rw [expIn_eq]; exact ⟨rfl, rfl⟩) (by (simp only [List.length_append, List.length_cons, List.length_nil]; omega)) ?_
     refine ⟨(a_8, e_8, q_8, x_8), ⟨rfl, rfl⟩, ?_⟩
     exact hx8
   · refine an (by omega) ?_
     refine ⟨?_, ?_, trivial⟩
     · refine callY 72 [0] (σ := Exp × Int × Int × Int) (fun ⟨x_9, a_9, e_9, q_9⟩ => OX l (exprP l n k (a_1 + 1)) x_9 (a_1 + 1) e_1 q_1 a_9 e_9 q_9) (fun ⟨x_9, a_9, e_9, q_9⟩ => xS x_9) (fun ⟨x_9, a_9, e_9, q_9⟩ => [rP l n a_9 e_9 q_9]) rfl (fun _ => rfl) (fun bs mm gd ht K hK => ih (a_1 + 1) e_1 q_1 (d + 1) (by omega) (by omega) (by omega) (by omega) (bs.getD 0 0) mm gd (Tabs.up ht hT) K (fun x_ a_ e_ q_ hh => hK (x_, a_, e_, q_) hh)) ?_
       rintro ⟨x_9, a_9, e_9, q_9⟩ hx9
       dsimp only at hx9
       have lo9 := hx9.lo
       have hi9 := hx9.hi
       have nn9 := hx9.nn
       refine ap expIn ([x_1] : List Exp) ([x_9] : List Exp) (by simp only [List.map_cons, List.map_nil, expIn_eq]; try rfl) (by simp only [List.map_cons, List.map_nil, expIn_eq]; try rfl) (fun a => by rw [expIn_eq]; exact ⟨rfl, rfl⟩) (by (simp only [List.length_append, List.length_cons, List.length_nil]; omega)) ?_
       refine ⟨(a_9, e_9, q_9, x_9), ⟨rfl, rfl⟩, ?_⟩
       exact hx9
     · refine callY 72 [0] (σ := Exp × Int × Int × Int) (fun ⟨x_10, a_10, e_10, q_10⟩ => OX l (exprP l n k (a_1 + 1)) x_10 (a_1 + 1) e_1 q_1 a_10 e_10 q_10) (fun ⟨x_10, a_10, e_10, q_10⟩ => xS x_10) (fun ⟨x_10, a_10, e_10, q_10⟩ => [rP l n a_10 e_10 q_10]) rfl (fun _ => rfl) (fun bs mm gd ht K hK => ih (a_1 + 1) e_1 q_1 (d + 1) (by omega) (by omega) (by omega) (by omega) (bs.getD 0 0) mm gd (Tabs.up ht hT) K (fun x_ a_ e_ q_ hh => hK (x_, a_, e_, q_) hh)) ?_
       rintro ⟨x_10, a_10, e_10, q_10⟩ hx10
       dsimp only at hx10
       have lo10 := hx10.lo
       have hi10 := hx10.hi
       have nn10 := hx10.nn
       refine ⟨?_, ?_, trivial⟩
       · refine ap expIn ([x_1] : List Exp) ([x_10] : List Exp) (by simp only [List.map_cons, List.map_nil, expIn_eq]; try rfl) (by simp only [List.map_cons, List.map_nil, expIn_eq]; try rfl) (fun a => by rw [expIn_eq]; exact ⟨rfl, rfl⟩) (by (simp only [List.length_append, List.length_cons, List.length_nil]; omega)) ?_
         refine ⟨(a_10, e_10, q_10, x_10), ⟨rfl, rfl⟩, ?_⟩
         exact hx10
       · refine ap expIn ([x_1] : List Exp) ([x_10] : List Exp) (by simp only [List.map_cons, List.map_nil, expIn_eq]; try rfl) (by simp only [List.map_cons, List.map_nil, expIn_eq]; try rfl) (fun a => by rw [expIn_eq]; exact ⟨rfl, rfl⟩) (by (simp only [List.length_append, List.length_cons, List.length_nil]; omega)) ?_
         refine ⟨(a_10, e_10, q_10, x_10), ⟨rfl, rfl⟩, ?_⟩
         exact hx10
 try dsimp only [Sum.elim_inl, Sum.elim_inr] at hx7
 dsimp only [Sum.elim_inl, Sum.elim_inr]
 refine callY 72 [0] (σ := (Unit) ⊕ (Unit)) (Sum.elim (fun _ => e_1 = 0 ∧ tokB l 4 ([63] : List UInt8) a_1 = true) (fun _ => e_1 = 0 → tokB l 4 ([63] : List UInt8) a_1 = false)) (Sum.elim (fun _ => .b (.lit true)) (fun _ => .b (.lit false))) (Sum.elim (fun _ => [rP l n (a_1 + 1) e_1 q_1]) (fun _ => [rP l n a_1 e_1 q_1])) rfl (fun x => by rcases x with _ | _ <;> rfl) (fun bs mm gd ht K hK => u_eat l n a_1 e_1 q_1 4 ([63] : List UInt8) (bs.getD 0 0) hl (by omega) (by omega) (by omega) mm gd K (fun z w => hK (.inl ()) ⟨z, w⟩) (fun z => hK (.inr ()) z)) ?_
 rintro (_ | _) hx12
 · try dsimp only [Sum.elim_inl, Sum.elim_inr] at hx12
   dsimp only [Sum.elim_inl, Sum.elim_inr]
   have ht12 := tokB_lt hx12.2
   refine rgA tbOk Tryd.mixed (σ := Int × Int × Int × Exp) (.f 0 (.f 2 (.f 3 (.o 1 (.s 4 (.s 5 (.s 6 (.s 7 (.f 8 (.s 9 .d)))))) (.o 4 (.o 1 (.s 5 (.s 6 (.s 7 (.f 8 (.s 9 .d))))) (.o 5 (.o 1 (.s 6 (.s 7 (.f 8 (.s 9 .d)))) (.o 6 (.s 1 (.s 7 (.f 8 (.s 9 .d)))) .z)) .z)) .z))))) [] [0, 1, 4, 6] 4 (fun ⟨b9, f9, p9, y9⟩ => ([(0, .loc 0 0), (1, vI d), (4, .loc 1 0), (6, .loc 3 0)], [rP l n b9 f9 p9, .cells [vI 0, vI 0, vI 0, vS ([]), .own [], .own [], vS ([]), vS ([]), .own [], .own []], .cells [vI x_1.kind, vI x_1.v.kind, vI x_1.v.n, vS x_1.v.s, vL (x_1.v.l.map valIn), vL (x_1.v.f.map fldIn), vS x_1.s, vS x_1.t, vL (x_1.a.map expIn), vL (x_1.n.map strAV)], .cells [vI 7, vI 0, vI 0, vS ([]), .own [], .own [], vS ([]), vS ([]), .own ((([x_1] : List Exp) ++ ([y9] : List Exp)).map expIn), .own []]], m)) (fun ⟨b9, f9, p9, y9⟩ => OX l (exprP l n k (a_1 + 1)) y9 (a_1 + 1) e_1 q_1 b9 f9 p9) (by decide +kernel) ?_ ?_
   · rintro ⟨b9, f9, p9, y9⟩ hy9
     try dsimp only at hy9
     have lo9y := hy9.lo
     have hi9y := hy9.hi
     have nn9y := hy9.nn
     refine callY 72 [0] (σ := Str × Int × Int × Int) (fun ⟨s_16, a_16, e_16, q_16⟩ => (OX l (wantP l n 4 ([58] : List UInt8) b9) s_16 b9 f9 p9 a_16 e_16 q_16) ∧ (e_16 ≠ 0 → s_16 = [])) (fun ⟨s_16, a_16, e_16, q_16⟩ => vS s_16) (fun ⟨s_16, a_16, e_16, q_16⟩ => [rP l n a_16 e_16 q_16]) rfl (fun _ => rfl) (fun bs mm gd ht K hK => u_want l n b9 f9 p9 4 ([58] : List UInt8) (bs.getD 0 0) hl (by omega) (by omega) (by omega) mm gd K (fun s_ a_ e_ q_ hh hz => hK (s_, a_, e_, q_) ⟨hh, hz⟩)) ?_
     rintro ⟨s_16, a_16, e_16, q_16⟩ hx16
     dsimp only at hx16
     obtain ⟨hx16, hz16⟩ := hx16
     have lo16 := hx16.lo
     have hi16 := hx16.hi
     have nn16 := hx16.nn
     refine rgA tbOk Tryd.mixed (σ := Int × Int × Int × Exp) (.f 0 (.f 2 (.f 3 (.o 1 (.s 4 (.s 5 (.s 6 (.s 7 (.f 8 (.s 9 .d)))))) (.o 4 (.o 1 (.s 5 (.s 6 (.s 7 (.f 8 (.s 9 .d))))) (.o 5 (.o 1 (.s 6 (.s 7 (.f 8 (.s 9 .d)))) (.o 6 (.s 1 (.s 7 (.f 8 (.s 9 .d)))) .z)) .z)) .z))))) [] [0, 4, 6] 4 (fun ⟨a9, e9, q9, x9⟩ => ([(0, .loc 0 0), (4, .loc 1 0), (6, .loc 3 0)], [rP l n a9 e9 q9, .cells [vI 0, vI 0, vI 0, vS ([]), .own [], .own [], vS ([]), vS ([]), .own [], .own []], .cells [vI x_1.kind, vI x_1.v.kind, vI x_1.v.n, vS x_1.v.s, vL (x_1.v.l.map valIn), vL (x_1.v.f.map fldIn), vS x_1.s, vS x_1.t, vL (x_1.a.map expIn), vL (x_1.n.map strAV)], .cells [vI 7, vI 0, vI 0, vS ([]), .own [], .own [], vS ([]), vS ([]), .own (((([x_1] : List Exp) ++ ([y9] : List Exp)) ++ ([x9] : List Exp)).map expIn), .own []]], m)) (fun ⟨a9, e9, q9, x9⟩ => OX l (exprP l n k a_16) x9 a_16 e_16 q_16 a9 e9 q9) (by decide +kernel) ?_ ?_
     · rintro ⟨a9, e9, q9, x9⟩ hy11
       try dsimp only at hy11
       have lo11y := hy11.lo
       have hi11y := hy11.hi
       have nn11y := hy11.nn
       refine callY 72 [0] (σ := Str × Int × Int × Int) (fun ⟨s_20, a_20, e_20, q_20⟩ => (OX l (wantP l n 4 ([41] : List UInt8) a9) s_20 a9 e9 q9 a_20 e_20 q_20) ∧ (e_20 ≠ 0 → s_20 = [])) (fun ⟨s_20, a_20, e_20, q_20⟩ => vS s_20) (fun ⟨s_20, a_20, e_20, q_20⟩ => [rP l n a_20 e_20 q_20]) rfl (fun _ => rfl) (fun bs mm gd ht K hK => u_want l n a9 e9 q9 4 ([41] : List UInt8) (bs.getD 0 0) hl (by omega) (by omega) (by omega) mm gd K (fun s_ a_ e_ q_ hh hz => hK (s_, a_, e_, q_) ⟨hh, hz⟩)) ?_
       rintro ⟨s_20, a_20, e_20, q_20⟩ hx20
       dsimp only at hx20
       obtain ⟨hx20, hz20⟩ := hx20
       have lo20 := hx20.lo
       have hi20 := hx20.hi
       have nn20 := hx20.nn
       refine rt rfl fun _ => ?_
       show K (.agg [.int .i64 7, .int .i64 0, .int .i64 0, .str ([]), .slice false [], .slice false [], .str ([]), .str ([]), .slice false (((([x_1] : List Exp) ++ ([y9] : List Exp)) ++ ([x9] : List Exp)).map expIn), .slice false []]) (AMem.wth m [(r, .cells [.slice false (l.map tokAV), .int .i64 a_20, .int .i64 n, .err 72 e_20, .int .i64 q_20])])
       refine K_eq (hK (.mk 7 zV [] [] [x_1, y9, x9] []) _ _ _ ?_) ?_
       · rw [betweenP]
         refine hx1.bind ?_
         rw [if_neg (tokN (hx2 hx12.1)), if_neg (tokN (hx7 hx12.1)), if_pos hx12.2]
         exact OX.from hx12.1 (by omega) (hy9.bind (hx16.bind (hy11.bind (hx20.map fun _ => Exp.mk 7 zV [] [] [x_1, y9, x9] []))))
       · simp only [expTop, Exp.a, List.map_cons, List.map_nil, List.map_append, List.cons_append, List.nil_append, expIn_eq]; rfl
     refine ⟨?_, ?_, trivial⟩
     · refine an (by omega) ?_
       refine callY 72 [0] (σ := Exp × Int × Int × Int) (fun ⟨x_17, a_17, e_17, q_17⟩ => OX l (exprP l n k a_16) x_17 a_16 e_16 q_16 a_17 e_17 q_17) (fun ⟨x_17, a_17, e_17, q_17⟩ => xS x_17) (fun ⟨x_17, a_17, e_17, q_17⟩ => [rP l n a_17 e_17 q_17]) rfl (fun _ => rfl) (fun bs mm gd ht K hK => ih a_16 e_16 q_16 (d + 1) (by omega) (by omega) (by omega) (by omega) (bs.getD 0 0) mm gd (Tabs.up ht hT) K (fun x_ a_ e_ q_ hh => hK (x_, a_, e_, q_) hh)) ?_
       rintro ⟨x_17, a_17, e_17, q_17⟩ hx17
       dsimp only at hx17
       have lo17 := hx17.lo
       have hi17 := hx17.hi
       have nn17 := hx17.nn
       refine ap expIn (([x_1] : List Exp) ++ ([y9] : List Exp)) ([x_17] : List Exp) rfl (by simp only [List.map_cons, List.map_nil, expIn_eq]; try rfl) (fun a => by rw [expIn_eq]; exact ⟨rfl, rfl⟩) (by (simp only [List.length_append, List.length_cons, List.length_nil]; omega)) ?_
       refine ⟨(a_17, e_17, q_17, x_17), ⟨rfl, rfl⟩, ?_⟩
       exact hx17
     · refine an (by omega) ?_
       refine ⟨?_, ?_, trivial⟩
       · refine callY 72 [0] (σ := Exp × Int × Int × Int) (fun ⟨x_18, a_18, e_18, q_18⟩ => OX l (exprP l n k a_16) x_18 a_16 e_16 q_16 a_18 e_18 q_18) (fun ⟨x_18, a_18, e_18, q_18⟩ => xS x_18) (fun ⟨x_18, a_18, e_18, q_18⟩ => [rP l n a_18 e_18 q_18]) rfl (fun _ => rfl) (fun bs mm gd ht K hK => ih a_16 e_16 q_16 (d + 1) (by omega) (by omega) (by omega) (by omega) (bs.getD 0 0) mm gd (Tabs.up ht hT) K (fun x_ a_ e_ q_ hh => hK (x_, a_, e_, q_) hh)) ?_
         rintro ⟨x_18, a_18, e_18, q_18⟩ hx18
         dsimp only at hx18
         have lo18 := hx18.lo
         have hi18 := hx18.hi
         have nn18 := hx18.nn
         refine ap expIn (([x_1] : List Exp) ++ ([y9] : List Exp)) ([x_18] : List Exp) rfl (by simp only [List.map_cons, List.map_nil, expIn_eq]; try rfl) (fun a => by rw [expIn_eq]; exact ⟨rfl, rfl⟩) (by (simp only [List.length_append, List.length_cons, List.length_nil]; omega)) ?_
         refine ⟨(a_18, e_18, q_18, x_18), ⟨rfl, rfl⟩, ?_⟩
         exact hx18
       · refine callY 72 [0] (σ := Exp × Int × Int × Int) (fun ⟨x_19, a_19, e_19, q_19⟩ => OX l (exprP l n k a_16) x_19 a_16 e_16 q_16 a_19 e_19 q_19) (fun ⟨x_19, a_19, e_19, q_19⟩ => xS x_19) (fun ⟨x_19, a_19, e_19, q_19⟩ => [rP l n a_19 e_19 q_19]) rfl (fun _ => rfl) (fun bs mm gd ht K hK => ih a_16 e_16 q_16 (d + 1) (by omega) (by omega) (by omega) (by omega) (bs.getD 0 0) mm gd (Tabs.up ht hT) K (fun x_ a_ e_ q_ hh => hK (x_, a_, e_, q_) hh)) ?_
         rintro ⟨x_19, a_19, e_19, q_19⟩ hx19
         dsimp only at hx19
         have lo19 := hx19.lo
         have hi19 := hx19.hi
         have nn19 := hx19.nn
         refine ⟨?_, ?_, trivial⟩
         · refine ap expIn (([x_1] : List Exp) ++ ([y9] : List Exp)) ([x_19] : List Exp) rfl (by simp only [List.map_cons, List.map_nil, expIn_eq]; try rfl) (fun a => by rw [expIn_eq]; exact ⟨rfl, rfl⟩) (by (simp only [List.length_append, List.length_cons, List.length_nil]; omega)) ?_
           refine ⟨(a_19, e_19, q_19, x_19), ⟨rfl, rfl⟩, ?_⟩
           exact hx19
         · refine ap expIn (([x_1] : List Exp) ++ ([y9] : List Exp)) ([x_19] : List Exp) rfl (by simp only [List.map_cons, List.map_nil, expIn_eq]; try rfl) (fun a => by rw [expIn_eq]; exact ⟨rfl, rfl⟩) (by (simp only [List.length_append, List.length_cons, List.length_nil]; omega)) ?_
           refine ⟨(a_19, e_19, q_19, x_19), ⟨rfl, rfl⟩, ?_⟩
           exact hx19
   refine ⟨?_, ?_, trivial⟩
   · refine an (by omega) ?_
     refine callY 72 [0] (σ := Exp × Int × Int × Int) (fun ⟨x_13, a_13, e_13, q_13⟩ => OX l (exprP l n k (a_1 + 1)) x_13 (a_1 + 1) e_1 q_1 a_13 e_13 q_13) (fun ⟨x_13, a_13, e_13, q_13⟩ => xS x_13) (fun ⟨x_13, a_13, e_13, q_13⟩ => [rP l n a_13 e_13 q_13]) rfl (fun _ => rfl) (fun bs mm gd ht K hK => ih (a_1 + 1) e_1 q_1 (d + 1) (by omega) (by omega) (by omega) (by omega) (bs.getD 0 0) mm gd (Tabs.up ht hT) K (fun x_ a_ e_ q_ hh => hK (x_, a_, e_, q_) hh)) ?_
     rintro ⟨x_13, a_13, e_13, q_13⟩ hx13
     dsimp only at hx13
     have lo13 := hx13.lo
     have hi13 := hx13.hi
     have nn13 := hx13.nn
     refine ap expIn ([x_1] : List Exp) ([x_13] : List Exp) (by simp only [List.map_cons, List.map_nil, expIn_eq]; try rfl) (by simp only [List.map_cons, List.map_nil, expIn_eq]; try rfl) (fun a => by rw [expIn_eq]; exact ⟨rfl, rfl⟩) (by (simp only [List.length_append, List.length_cons, List.length_nil]; omega)) ?_
     refine ⟨(a_13, e_13, q_13, x_13), ⟨rfl, rfl⟩, ?_⟩
     exact hx13
   · refine an (by omega) ?_
     refine ⟨?_, ?_, trivial⟩
     · refine callY 72 [0] (σ := Exp × Int × Int × Int) (fun ⟨x_14, a_14, e_14, q_14⟩ => OX l (exprP l n k (a_1 + 1)) x_14 (a_1 + 1) e_1 q_1 a_14 e_14 q_14) (fun ⟨x_14, a_14, e_14, q_14⟩ => xS x_14) (fun ⟨x_14, a_14, e_14, q_14⟩ => [rP l n a_14 e_14 q_14]) rfl (fun _ => rfl) (fun bs mm gd ht K hK => ih (a_1 + 1) e_1 q_1 (d + 1) (by omega) (by omega) (by omega) (by omega) (bs.getD 0 0) mm gd (Tabs.up ht hT) K (fun x_ a_ e_ q_ hh => hK (x_, a_, e_, q_) hh)) ?_
       rintro ⟨x_14, a_14, e_14, q_14⟩ hx14
       dsimp only at hx14
       have lo14 := hx14.lo
       have hi14 := hx14.hi
       have nn14 := hx14.nn
       refine ap expIn ([x_1] : List Exp) ([x_14] : List Exp) (by simp only [List.map_cons, List.map_nil, expIn_eq]; try rfl) (by simp only [List.map_cons, List.map_nil, expIn_eq]; try rfl) (fun a => by rw [expIn_eq]; exact ⟨rfl, rfl⟩) (by (simp only [List.length_append, List.length_cons, List.length_nil]; omega)) ?_
       refine ⟨(a_14, e_14, q_14, x_14), ⟨rfl, rfl⟩, ?_⟩
       exact hx14
     · refine callY 72 [0] (σ := Exp × Int × Int × Int) (fun ⟨x_15, a_15, e_15, q_15⟩ => OX l (exprP l n k (a_1 + 1)) x_15 (a_1 + 1) e_1 q_1 a_15 e_15 q_15) (fun ⟨x_15, a_15, e_15, q_15⟩ => xS x_15) (fun ⟨x_15, a_15, e_15, q_15⟩ => [rP l n a_15 e_15 q_15]) rfl (fun _ => rfl) (fun bs mm gd ht K hK => ih (a_1 + 1) e_1 q_1 (d + 1) (by omega) (by omega) (by omega) (by omega) (bs.getD 0 0) mm gd (Tabs.up ht hT) K (fun x_ a_ e_ q_ hh => hK (x_, a_, e_, q_) hh)) ?_
       rintro ⟨x_15, a_15, e_15, q_15⟩ hx15
       dsimp only at hx15
       have lo15 := hx15.lo
       have hi15 := hx15.hi
       have nn15 := hx15.nn
       refine ⟨?_, ?_, trivial⟩
       · refine ap expIn ([x_1] : List Exp) ([x_15] : List Exp) (by simp only [List.map_cons, List.map_nil, expIn_eq]; try rfl) (by simp only [List.map_cons, List.map_nil, expIn_eq]; try rfl) (fun a => by rw [expIn_eq]; exact ⟨rfl, rfl⟩) (by (simp only [List.length_append, List.length_cons, List.length_nil]; omega)) ?_
         refine ⟨(a_15, e_15, q_15, x_15), ⟨rfl, rfl⟩, ?_⟩
         exact hx15
       · refine ap expIn ([x_1] : List Exp) ([x_15] : List Exp) (by simp only [List.map_cons, List.map_nil, expIn_eq]; try rfl) (by simp only [List.map_cons, List.map_nil, expIn_eq]; try rfl) (fun a => by rw [expIn_eq]; exact ⟨rfl, rfl⟩) (by (simp only [List.length_append, List.length_cons, List.length_nil]; omega)) ?_
         refine ⟨(a_15, e_15, q_15, x_15), ⟨rfl, rfl⟩, ?_⟩
         exact hx15
 try dsimp only [Sum.elim_inl, Sum.elim_inr] at hx12
 dsimp only [Sum.elim_inl, Sum.elim_inr]
 refine callY 72 [0] (σ := Int × Int) (fun ⟨e_21, q_21⟩ => (e_1 = 0 → e_21 = 5 ∧ q_21 = hereP l n a_1) ∧ (e_1 ≠ 0 → e_21 = e_1 ∧ q_21 = q_1) ∧ 0 < e_21) (fun ⟨e_21, q_21⟩ => .tup []) (fun ⟨e_21, q_21⟩ => [rP l n a_1 e_21 q_21]) rfl (fun _ => rfl) (fun bs mm gd ht K hK => u_fail l n a_1 e_1 q_1 5 (bs.getD 0 0) (by decide) hl (by omega) (by omega) (by omega) mm gd K (fun z => hK (5, hereP l n a_1) ⟨fun _ => ⟨rfl, rfl⟩, fun y => absurd z y, by decide⟩) (fun z => hK (e_1, q_1) ⟨fun y => absurd y z, fun _ => ⟨rfl, rfl⟩, by omega⟩)) ?_
 rintro ⟨e_21, q_21⟩ hx21
 dsimp only at hx21
 obtain ⟨fa21, fb21, fc21⟩ := hx21
 refine rgA tbOk Tryd.mixed (σ := Int × Int × Int × Exp) (.f 0 (.f 2 (.f 3 (.o 1 (.s 4 (.s 5 (.s 6 (.s 7 (.f 8 (.s 9 .d)))))) (.o 4 (.o 1 (.s 5 (.s 6 (.s 7 (.f 8 (.s 9 .d))))) (.o 5 (.o 1 (.s 6 (.s 7 (.f 8 (.s 9 .d)))) (.o 6 (.s 1 (.s 7 (.f 8 (.s 9 .d)))) .z)) .z)) .z))))) [] [0, 4, 6] 4 (fun ⟨a9, e9, q9, x9⟩ => ([(0, .loc 0 0), (4, .loc 1 0), (6, .loc 3 0)], [rP l n a9 e9 q9, .cells [vI 0, vI 0, vI 0, vS ([]), .own [], .own [], vS ([]), vS ([]), .own [], .own []], .cells [vI x_1.kind, vI x_1.v.kind, vI x_1.v.n, vS x_1.v.s, vL (x_1.v.l.map valIn), vL (x_1.v.f.map fldIn), vS x_1.s, vS x_1.t, vL (x_1.a.map expIn), vL (x_1.n.map strAV)], .cells [vI 5, vI 0, vI 0, vS ([]), .own [], .own [], vS ([]), vS ([]), .own ((([x_1] : List Exp) ++ ([x9] : List Exp)).map expIn), .own []]], m)) (fun ⟨a9, e9, q9, x9⟩ => OX l (exprP l n k a_1) x9 a_1 e_21 q_21 a9 e9 q9) (by decide +kernel) ?_ ?_
 · rintro ⟨a9, e9, q9, x9⟩ hy11
   try dsimp only at hy11
   have lo11y := hy11.lo
   have hi11y := hy11.hi
   have nn11y := hy11.nn
   refine callY 72 [0] (σ := Str × Int × Int × Int) (fun ⟨s_25, a_25, e_25, q_25⟩ => (OX l (wantP l n 4 ([41] : List UInt8) a9) s_25 a9 e9 q9 a_25 e_25 q_25) ∧ (e_25 ≠ 0 → s_25 = [])) (fun ⟨s_25, a_25, e_25, q_25⟩ => vS s_25) (fun ⟨s_25, a_25, e_25, q_25⟩ => [rP l n a_25 e_25 q_25]) rfl (fun _ => rfl) (fun bs mm gd ht K hK => u_want l n a9 e9 q9 4 ([41] : List UInt8) (bs.getD 0 0) hl (by omega) (by omega) (by omega) mm gd K (fun s_ a_ e_ q_ hh hz => hK (s_, a_, e_, q_) ⟨hh, hz⟩)) ?_
   rintro ⟨s_25, a_25, e_25, q_25⟩ hx25
   dsimp only at hx25
   obtain ⟨hx25, hz25⟩ := hx25
   have lo25 := hx25.lo
   have hi25 := hx25.hi
   have nn25 := hx25.nn
   refine rt rfl fun _ => ?_
   show K (.agg [.int .i64 5, .int .i64 0, .int .i64 0, .str ([]), .slice false [], .slice false [], .str ([]), .str ([]), .slice false ((([x_1] : List Exp) ++ ([x9] : List Exp)).map expIn), .slice false []]) (AMem.wth m [(r, .cells [.slice false (l.map tokAV), .int .i64 a_25, .int .i64 n, .err 72 e_25, .int .i64 q_25])])
   refine K_eq (hK (.mk 5 zV [] [] [x_1, x9] []) _ _ _ ?_) ?_
   · obtain ⟨rfl, rfl, rfl⟩ := hy11.st (by omega)
     obtain ⟨rfl, rfl, rfl⟩ := hx25.st (by omega)
     rw [betweenP]
     refine hx1.bind ?_
     by_cases hz : e_1 = 0
     · rw [if_neg (tokN (hx2 hz)), if_neg (tokN (hx7 hz)), if_neg (tokN (hx12 hz))]
       exact OX.bad _ (by omega) fa21 fb21 fc21
     · obtain ⟨rfl, rfl⟩ := fb21 hz
       exact OX.stuck hz (by omega) (by omega)
   · simp only [expTop, Exp.a, List.map_cons, List.map_nil, List.map_append, List.cons_append, List.nil_append, expIn_eq]; rfl
 refine ⟨?_, ?_, trivial⟩
 · refine an (by omega) ?_
   refine callY 72 [0] (σ := Exp × Int × Int × Int) (fun ⟨x_22, a_22, e_22, q_22⟩ => OX l (exprP l n k a_1) x_22 a_1 e_21 q_21 a_22 e_22 q_22) (fun ⟨x_22, a_22, e_22, q_22⟩ => xS x_22) (fun ⟨x_22, a_22, e_22, q_22⟩ => [rP l n a_22 e_22 q_22]) rfl (fun _ => rfl) (fun bs mm gd ht K hK => ih a_1 e_21 q_21 (d + 1) (by omega) (by omega) (by omega) (by omega) (bs.getD 0 0) mm gd (Tabs.up ht hT) K (fun x_ a_ e_ q_ hh => hK (x_, a_, e_, q_) hh)) ?_
   rintro ⟨x_22, a_22, e_22, q_22⟩ hx22
   dsimp only at hx22
   have lo22 := hx22.lo
   have hi22 := hx22.hi
   have nn22 := hx22.nn
   refine ap expIn ([x_1] : List Exp) ([x_22] : List Exp) (by simp only [List.map_cons, List.map_nil, expIn_eq]; try rfl) (by simp only [List.map_cons, List.map_nil, expIn_eq]; try rfl) (fun a => by rw [expIn_eq]; exact ⟨rfl, rfl⟩) (by (simp only [List.length_append, List.length_cons, List.length_nil]; omega)) ?_
   refine ⟨(a_22, e_22, q_22, x_22), ⟨rfl, rfl⟩, ?_⟩
   exact hx22
 · refine an (by omega) ?_
   refine ⟨?_, ?_, trivial⟩
   · refine callY 72 [0] (σ := Exp × Int × Int × Int) (fun ⟨x_23, a_23, e_23, q_23⟩ => OX l (exprP l n k a_1) x_23 a_1 e_21 q_21 a_23 e_23 q_23) (fun ⟨x_23, a_23, e_23, q_23⟩ => xS x_23) (fun ⟨x_23, a_23, e_23, q_23⟩ => [rP l n a_23 e_23 q_23]) rfl (fun _ => rfl) (fun bs mm gd ht K hK => ih a_1 e_21 q_21 (d + 1) (by omega) (by omega) (by omega) (by omega) (bs.getD 0 0) mm gd (Tabs.up ht hT) K (fun x_ a_ e_ q_ hh => hK (x_, a_, e_, q_) hh)) ?_
     rintro ⟨x_23, a_23, e_23, q_23⟩ hx23
     dsimp only at hx23
     have lo23 := hx23.lo
     have hi23 := hx23.hi
     have nn23 := hx23.nn
     refine ap expIn ([x_1] : List Exp) ([x_23] : List Exp) (by simp only [List.map_cons, List.map_nil, expIn_eq]; try rfl) (by simp only [List.map_cons, List.map_nil, expIn_eq]; try rfl) (fun a => by rw [expIn_eq]; exact ⟨rfl, rfl⟩) (by (simp only [List.length_append, List.length_cons, List.length_nil]; omega)) ?_
     refine ⟨(a_23, e_23, q_23, x_23), ⟨rfl, rfl⟩, ?_⟩
     exact hx23
   · refine callY 72 [0] (σ := Exp × Int × Int × Int) (fun ⟨x_24, a_24, e_24, q_24⟩ => OX l (exprP l n k a_1) x_24 a_1 e_21 q_21 a_24 e_24 q_24) (fun ⟨x_24, a_24, e_24, q_24⟩ => xS x_24) (fun ⟨x_24, a_24, e_24, q_24⟩ => [rP l n a_24 e_24 q_24]) rfl (fun _ => rfl) (fun bs mm gd ht K hK => ih a_1 e_21 q_21 (d + 1) (by omega) (by omega) (by omega) (by omega) (bs.getD 0 0) mm gd (Tabs.up ht hT) K (fun x_ a_ e_ q_ hh => hK (x_, a_, e_, q_) hh)) ?_
     rintro ⟨x_24, a_24, e_24, q_24⟩ hx24
     dsimp only at hx24
     have lo24 := hx24.lo
     have hi24 := hx24.hi
     have nn24 := hx24.nn
     refine ⟨?_, ?_, trivial⟩
     · refine ap expIn ([x_1] : List Exp) ([x_24] : List Exp) (by simp only [List.map_cons, List.map_nil, expIn_eq]; try rfl) (by simp only [List.map_cons, List.map_nil, expIn_eq]; try rfl) (fun a => by rw [expIn_eq]; exact ⟨rfl, rfl⟩) (by (simp only [List.length_append, List.length_cons, List.length_nil]; omega)) ?_
       refine ⟨(a_24, e_24, q_24, x_24), ⟨rfl, rfl⟩, ?_⟩
       exact hx24
     · refine ap expIn ([x_1] : List Exp) ([x_24] : List Exp) (by simp only [List.map_cons, List.map_nil, expIn_eq]; try rfl) (by simp only [List.map_cons, List.map_nil, expIn_eq]; try rfl) (fun a => by rw [expIn_eq]; exact ⟨rfl, rfl⟩) (by (simp only [List.length_append, List.length_cons, List.length_nil]; omega)) ?_
       refine ⟨(a_24, e_24, q_24, x_24), ⟨rfl, rfl⟩, ?_⟩
       exact hx24
end Go.Proofs
end
section
namespace Go.Proofs
open Go Go.Aw Go.Sx
set_option maxRecDepth 100000
structure CX (P : PR Exp) (e q : Int) (Q : PR Exp) : Prop where
  y : e = 0 → P = Q
  z : e ≠ 0 → P.f = e ∧ P.p = q
section
variable {l : List Tok} {α : Type} {P R : PR Exp} {p : PR α} {x : α} {a1 e1 q1 a2 e2 q2 f s : Int}
theorem CX.step {g : α → Int → PR Exp} (c : CX P e1 q1 (p.bind g)) (o : OX l p x a1 e1 q1 a2 e2 q2) : CX P e2 q2 (g x a2) := by
  by_cases hz : e1 = 0
  · have h1 := o.ok hz
    have hc := c.y hz
    refine ⟨fun h => ?_, fun h => ?_⟩
    · obtain ⟨rfl, rfl⟩ := h1.y h
      rw [hc, PR.bind, if_pos (by rw [← h1.f]; exact h)]
    · rw [hc, PR.bind, if_neg (by rw [← h1.f]; exact h)]
      exact ⟨h1.f.symm, (h1.z h).symm⟩
  · obtain ⟨_, rfl, rfl⟩ := o.st hz
    exact ⟨fun h => absurd h hz, c.z⟩
theorem CX.fail (c : CX P e1 q1 (.bad f s)) (h1 : e1 = 0 → e2 = f ∧ q2 = s) (h2 : e1 ≠ 0 → e2 = e1 ∧ q2 = q1) (h3 : 0 < e2) : CX P e2 q2 R := by
  refine ⟨fun h => by omega, fun _ => ?_⟩
  by_cases hz : e1 = 0
  · obtain ⟨rfl, rfl⟩ := h1 hz; rw [c.y hz]; exact ⟨rfl, rfl⟩
  · obtain ⟨rfl, rfl⟩ := h2 hz; exact c.z hz
theorem CX.to {Q Q' : PR Exp} (c : CX P e1 q1 Q) (h : e1 = 0 → Q = Q') : CX P e1 q1 Q' := ⟨fun z => (c.y z).trans (h z), c.z⟩
theorem CX.done {a e q : Int} {y : Exp} (c : CX P e1 q1 (.ok y (a1 + 1))) (hz : e1 = 0) (he : e = 0) (ha : a ≤ a1) (h : a1 < l.length) : OX l P y a e q (a1 + 1) e1 q1 :=
  ⟨fun _ => by rw [c.y hz]; exact ⟨hz, fun _ => ⟨rfl, rfl⟩, fun h => absurd hz h⟩, fun h => absurd he h, by omega, by omega, by omega, fun _ => by omega⟩
theorem CX.bad {Q : PR Exp} {a e q : Int} {y : Exp} (c : CX P e1 q1 Q) (hz : e1 ≠ 0) (he : e = 0) (ha : a ≤ a1) (h : a1 ≤ l.length) (hn : 0 ≤ e1) : OX l P y a e q a1 e1 q1 :=
  ⟨fun _ => ⟨(c.z hz).1.symm, fun h => absurd h hz, fun _ => (c.z hz).2.symm⟩, fun h => absurd he h, ha, h, hn, fun h => absurd h hz⟩
end
theorem sep_some {l : List Tok} {n a : Int} {xs : List Exp} {g : Int → PR Exp} (h : 0 < (xs.length : Int)) : sepP l n xs a g = (wantP l n 4 [44] a).bind fun _ a => g a := by
  rw [sepP, if_neg (fun e => by subst e; simp at h)]
theorem sep_none {l : List Tok} {n a : Int} {xs : List Exp} {g : Int → PR Exp} (h : (xs.length : Int) ≤ 0) : sepP l n xs a g = g a := by
  rw [sepP, if_pos (List.eq_nil_of_length_eq_zero (by omega))]
section
variable (f : Int → PR Exp) (l : List Tok) (n : Int) (k : Nat) (ns : List Str) (xs : List Exp)
def recC (m : Str) (a : Int) : PR Exp := (wantP l n 4 [58] a).bind fun _ a => (f a).bind fun x a => recP f l n k a (ns ++ [m]) (xs ++ [x])
def recN (m : Str) (a : Int) : PR Exp := if badN ns m then .bad 3 (hereP l n a) else recC f l n k ns xs m a
def recB (a : Int) : PR Exp := (wantP l n 1 [] a).bind fun m a => recN f l n k ns xs m a
end
theorem recN_t {f : Int → PR Exp} {l : List Tok} {n a : Int} {k : Nat} {ns : List Str} {xs : List Exp} {m : Str} (h : badN ns m) : recN f l n k ns xs m a = .bad 3 (hereP l n a) := if_pos h
theorem recN_f {f : Int → PR Exp} {l : List Tok} {n a : Int} {k : Nat} {ns : List Str} {xs : List Exp} {m : Str} (h : (ns.length : Int) ≤ 0 ∨ Op.bytesLess (gI ns ((ns.length : Int) - 1)) m = true) : recN f l n k ns xs m a = recC f l n k ns xs m a :=
  if_neg fun hb => by
    obtain ⟨b1, b2⟩ := hb
    rcases h with h | h
    · omega
    · rw [b2] at h; cases h
theorem recP_no {f : Int → PR Exp} {l : List Tok} {n a : Int} {k : Nat} {ns : List Str} {xs : List Exp} (h : tokB l 4 [125] a = false) : recP f l n (k + 1) a ns xs = sepP l n xs a fun a => recB f l n k ns xs a := by
  rw [recP, if_neg (tokN h)]; rfl
theorem recP_ok {f : Int → PR Exp} {l : List Tok} {n a : Int} {k : Nat} {ns : List Str} {xs : List Exp} (h : tokB l 4 [125] a = true) : recP f l n (k + 1) a ns xs = .ok (.mk 9 zV [] [] xs ns) (a + 1) := by
  rw [recP, if_pos h]
theorem listP_no {f : Int → PR Exp} {l : List Tok} {n a : Int} {k : Nat} {xs : List Exp} (h : tokB l 4 [93] a = false) : listP f l n (k + 1) a xs = sepP l n xs a fun a => (f a).bind fun x a => listP f l n k a (xs ++ [x]) := by
  rw [listP, if_neg (tokN h)]
theorem listP_ok {f : Int → PR Exp} {l : List Tok} {n a : Int} {k : Nat} {xs : List Exp} (h : tokB l 4 [93] a = true) : listP f l n (k + 1) a xs = .ok (.mk 8 zV [] [] xs []) (a + 1) := by
  rw [listP, if_pos h]
set_option maxHeartbeats 4000000 in
theorem u_record1 (l : List Tok) (n a e q : Int) (k : Nat) (d : Int) (r : Nat) (ih : ∀ a e q d : Int, d = 7 - (k : Int) → 0 ≤ a → a ≤ l.length → 0 ≤ e → ∀ (r : Nat) (m : AMem), Gd [r] m → Tabs m → ∀ (K : AV → AMem → Prop), (∀ x' a' e' q', OX l (exprP l n k a) x' a e q a' e' q' → K (expTop x') (AMem.wth m [(r, .cells [.slice false (l.map tokAV), .int .i64 a', .int .i64 n, .err 72 e', .int .i64 q'])])) → ACalls Tryd.prog 71 [.ptr ⟨r, 0, none⟩, .int .i64 d] (AMem.wth m [(r, .cells [.slice false (l.map tokAV), .int .i64 a, .int .i64 n, .err 72 e, .int .i64 q])]) K) (hl : l.length ≤ 5000) (h0 : 0 ≤ a) (ha : a ≤ l.length) (he : 0 ≤ e) (hk : k ≤ 7) (hd : d + 1 = 7 - (k : Int)) (hz : e = 0) (m : AMem) (gd : Gd [r] m) (K : AV → AMem → Prop) (hT : Tabs m) (hK : ∀ x' a' e' q', OX l (recP (exprP l n k) l n (l.length + 1) a [] []) x' a e q a' e' q' → K (expTop x') (AMem.wth m [(r, .cells [.slice false (l.map tokAV), .int .i64 a', .int .i64 n, .err 72 e', .int .i64 q'])])) : ACalls Tryd.prog 90 [.ptr ⟨r, 0, none⟩, .int .i64 d] (AMem.wth m [(r, .cells [.slice false (l.map tokAV), .int .i64 a, .int .i64 n, .err 72 e, .int .i64 q])]) K := by
 refine enter (c := cf [] [] [7] [11999] [11] [r]) (vs := [.loc 0 0, .av (.int .i64 d)]) (L := [rP l n a e q]) (m := m) false tbOk Tryd.mixed Tryd.func90 rfl (k := 2) (by show fnOk [11999] _ _ _ = true; decide +kernel) rfl (gd.good rfl) ?_
 refine sq ?_
 refine lp (σ := Int × Int × Int × List Exp × List Str) [] [0, 1, 4, 5] 3 (fun ⟨a2, e2, q2, xs, ns⟩ => ([(0, .loc 0 0), (1, vI d), (4, .loc 1 0), (5, .loc 2 0)], [rP l n a2 e2 q2, .cells [vI 0, vI 0, vI 0, vS ([]), .own [], .own [], vS ([]), vS ([]), .own [], .own []], .cells [vI 9, vI 0, vI 0, vS ([] : Str), .own [], .own [], vS ([] : Str), vS ([] : Str), .own (xs.map expIn), .own (ns.map strAV)]], m)) (fun ⟨a2, e2, q2, xs, ns⟩ => 0 ≤ a2 ∧ a ≤ a2 ∧ a2 ≤ l.length ∧ 0 ≤ e2 ∧ (e2 = 0 → (xs.length : Int) ≤ a2 ∧ (ns.length : Int) ≤ a2) ∧ xs.length ≤ 5001 ∧ ns.length ≤ 5001 ∧ ∃ fu : Nat, (e2 = 0 → l.length - a2 < fu) ∧ CX (recP (exprP l n k) l n (l.length + 1) a [] []) e2 q2 (recP (exprP l n k) l n fu a2 ns xs)) (fun ⟨a2, e2, q2, xs, ns⟩ => if e2 = 0 then l.length - a2.toNat + 1 else 0) (a, e, q, [], []) ⟨rfl, rfl⟩ ?_ ?_
 · try dsimp only
   exact ⟨by omega, by omega, by omega, by omega, fun _ => ⟨by simp; omega, by simp; omega⟩, by simp, by simp, l.length + 1, fun _ => by omega, ⟨fun _ => rfl, fun h => absurd hz h⟩⟩
 rintro ⟨a2, e2, q2, xs, ns⟩ hI
 dsimp only at hI
 obtain ⟨i1, i2, i3, i4, i5, i6, i7, fu, i8, i9⟩ := hI
 refine sq ?_
 refine callY 72 [0] (σ := (Unit) ⊕ (Unit)) (Sum.elim (fun _ => e2 = 0 ∧ tokB l 4 ([125] : List UInt8) a2 = true) (fun _ => e2 = 0 → tokB l 4 ([125] : List UInt8) a2 = false)) (Sum.elim (fun _ => .b (.lit true)) (fun _ => .b (.lit false))) (Sum.elim (fun _ => [rP l n (a2 + 1) e2 q2]) (fun _ => [rP l n a2 e2 q2])) rfl (fun x => by rcases x with _ | _ <;> rfl) (fun bs mm gd ht K hK => u_eat l n a2 e2 q2 4 ([125] : List UInt8) (bs.getD 0 0) hl (by omega) (by omega) (by omega) mm gd K (fun z w => hK (.inl ()) ⟨z, w⟩) (fun z => hK (.inr ()) z)) ?_
 rintro (_ | _) hx1
 · try dsimp only [Sum.elim_inl, Sum.elim_inr] at hx1
   dsimp only [Sum.elim_inl, Sum.elim_inr]
   have ht1 := tokB_lt hx1.2
   refine rt rfl fun _ => ?_
   show K (.agg [.int .i64 9, .int .i64 0, .int .i64 0, .str ([] : Str), .slice false [], .slice false [], .str ([] : Str), .str ([] : Str), .slice false (xs.map expIn), .slice false (ns.map strAV)]) (AMem.wth m [(r, .cells [.slice false (l.map tokAV), .int .i64 (a2 + 1), .int .i64 n, .err 72 e2, .int .i64 q2])])
   obtain ⟨fu, rfl⟩ : ∃ k, fu = k + 1 := ⟨fu - 1, by have := i8 hx1.1; omega⟩
   refine K_eq (hK (.mk 9 zV [] [] xs ns) _ _ _ ?_) ?_
   · exact CX.done (i9.to fun _ => recP_ok hx1.2) hx1.1 hz (by omega) ht1
   · simp only [expTop, Exp.a, Exp.n]; rfl
 try dsimp only [Sum.elim_inl, Sum.elim_inr] at hx1
 dsimp only [Sum.elim_inl, Sum.elim_inr]
 refine an (fun h1 => ?_) (fun h1 => ?_)
 · obtain ⟨fu, rfl⟩ : ∃ k, fu = k + 1 := ⟨fu - 1, by have := i8 h1; omega⟩
   rw [recP_no (hx1 h1)] at i9
   have i10 := i8 h1
   have i11 := i5 h1
   refine jn (σ := Int × Int × Int) [] [0, 1, 4, 5] 3 (fun ⟨b3, f3, p3⟩ => ([(0, .loc 0 0), (1, vI d), (4, .loc 1 0), (5, .loc 2 0)], [rP l n b3 f3 p3, .cells [vI 0, vI 0, vI 0, vS ([]), .own [], .own [], vS ([]), vS ([]), .own [], .own []], .cells [vI 9, vI 0, vI 0, vS ([] : Str), .own [], .own [], vS ([] : Str), vS ([] : Str), .own (xs.map expIn), .own (ns.map strAV)]], m)) (fun ⟨b3, f3, p3⟩ => a2 ≤ b3 ∧ b3 ≤ l.length ∧ 0 ≤ f3 ∧ CX (recP (exprP l n k) l n (l.length + 1) a [] []) f3 p3 (recB (exprP l n k) l n fu ns xs b3)) ?_ ?_
   · rintro ⟨b3, f3, p3⟩ hj0
     refine callY 72 [0] (σ := Str × Int × Int × Int) (fun ⟨s_2, a_2, e_2, q_2⟩ => OX l (wantP l n 1 [] b3) s_2 b3 f3 p3 a_2 e_2 q_2) (fun ⟨s_2, a_2, e_2, q_2⟩ => vS s_2) (fun ⟨s_2, a_2, e_2, q_2⟩ => [rP l n a_2 e_2 q_2]) rfl (fun _ => rfl) (fun bs mm gd ht K hK => u_name l n b3 f3 p3 (bs.getD 0 0) hl (by omega) (by omega) (by omega) mm gd K (fun s_ a_ e_ q_ hh => hK (s_, a_, e_, q_) hh)) ?_
     rintro ⟨s_2, a_2, e_2, q_2⟩ hx2
     dsimp only at hx2
     have lo2 := hx2.lo
     have hi2 := hx2.hi
     have nn2 := hx2.nn
     refine jn (σ := Int × Int × Int) [] [0, 1, 4, 5, 6] 3 (fun ⟨c3, g3, o3⟩ => ([(0, .loc 0 0), (1, vI d), (4, .loc 1 0), (5, .loc 2 0), (6, vS s_2)], [rP l n c3 g3 o3, .cells [vI 0, vI 0, vI 0, vS ([]), .own [], .own [], vS ([]), vS ([]), .own [], .own []], .cells [vI 9, vI 0, vI 0, vS ([] : Str), .own [], .own [], vS ([] : Str), vS ([] : Str), .own (xs.map expIn), .own (ns.map strAV)]], m)) (fun ⟨c3, g3, o3⟩ => b3 ≤ c3 ∧ c3 ≤ l.length ∧ 0 ≤ g3 ∧ CX (recP (exprP l n k) l n (l.length + 1) a [] []) g3 o3 (recC (exprP l n k) l n fu ns xs s_2 c3)) ?_ ?_
     · rintro ⟨c3, g3, o3⟩ hj1
       refine callY 72 [0] (σ := Str × Int × Int × Int) (fun ⟨s_3, a_3, e_3, q_3⟩ => (OX l (wantP l n 4 ([58] : List UInt8) c3) s_3 c3 g3 o3 a_3 e_3 q_3) ∧ (e_3 ≠ 0 → s_3 = [])) (fun ⟨s_3, a_3, e_3, q_3⟩ => vS s_3) (fun ⟨s_3, a_3, e_3, q_3⟩ => [rP l n a_3 e_3 q_3]) rfl (fun _ => rfl) (fun bs mm gd ht K hK => u_want l n c3 g3 o3 4 ([58] : List UInt8) (bs.getD 0 0) hl (by omega) (by omega) (by omega) mm gd K (fun s_ a_ e_ q_ hh hz => hK (s_, a_, e_, q_) ⟨hh, hz⟩)) ?_
       rintro ⟨s_3, a_3, e_3, q_3⟩ hx3
       dsimp only at hx3
       obtain ⟨hx3, hz3⟩ := hx3
       have lo3 := hx3.lo
       have hi3 := hx3.hi
       have nn3 := hx3.nn
       refine ap strAV ns ([s_2] : List (List UInt8)) rfl rfl (fun _ => ⟨rfl, rfl⟩) (by (simp only [List.length_append, List.length_cons, List.length_nil]; omega)) ?_
       refine rgA tbOk Tryd.mixed (σ := Int × Int × Int × Exp) (.f 0 (.f 2 (.f 3 (.o 1 (.s 4 (.s 5 (.s 6 (.s 7 (.f 8 (.s 9 .d)))))) (.o 4 (.o 1 (.s 5 (.s 6 (.s 7 (.f 8 (.s 9 .d))))) (.o 5 (.o 1 (.s 6 (.s 7 (.f 8 (.s 9 .d)))) (.o 6 (.s 1 (.s 7 (.f 8 (.s 9 .d)))) .z)) .z)) .z))))) [] [0, 1, 4, 5] 3 (fun ⟨a9, e9, q9, x9⟩ => ([(0, .loc 0 0), (1, vI d), (4, .loc 1 0), (5, .loc 2 0)], [rP l n a9 e9 q9, .cells [vI 0, vI 0, vI 0, vS ([]), .own [], .own [], vS ([]), vS ([]), .own [], .own []], .cells [vI 9, vI 0, vI 0, vS ([] : Str), .own [], .own [], vS ([] : Str), vS ([] : Str), .own ((xs ++ ([x9] : List Exp)).map expIn), .own ((ns ++ ([s_2] : List (List UInt8))).map strAV)]], m)) (fun ⟨a9, e9, q9, x9⟩ => OX l (exprP l n k a_3) x9 a_3 e_3 q_3 a9 e9 q9) (by decide +kernel) ?_ ?_
       · rintro ⟨a9, e9, q9, x9⟩ hy11
         try dsimp only at hy11
         have lo11y := hy11.lo
         have hi11y := hy11.hi
         have nn11y := hy11.nn
         refine ⟨(a9, e9, q9, xs ++ ([x9] : List Exp), ns ++ ([s_2] : List (List UInt8))), ⟨rfl, rfl⟩, ?_, ?_⟩
         · try dsimp only
           have hg := hy11.gt
           have c := CX.step (CX.step hj1.2.2.2 hx3) hy11
           simp only [List.length_append, List.length_cons, List.length_nil]
           exact ⟨by omega, by omega, by omega, by omega, fun hq => by have := hg hq; omega, by omega, by omega, fu, fun hq => by have := hg hq; omega, c⟩
         try dsimp only
         rw [if_pos h1]
         have hg := hy11.gt
         split <;> omega
       refine ⟨?_, ?_, trivial⟩
       · refine an (by omega) ?_
         refine callY 72 [0] (σ := Exp × Int × Int × Int) (fun ⟨x_4, a_4, e_4, q_4⟩ => OX l (exprP l n k a_3) x_4 a_3 e_3 q_3 a_4 e_4 q_4) (fun ⟨x_4, a_4, e_4, q_4⟩ => xS x_4) (fun ⟨x_4, a_4, e_4, q_4⟩ => [rP l n a_4 e_4 q_4]) rfl (fun _ => rfl) (fun bs mm gd ht K hK => ih a_3 e_3 q_3 (d + 1) (by omega) (by omega) (by omega) (by omega) (bs.getD 0 0) mm gd (Tabs.up ht hT) K (fun x_ a_ e_ q_ hh => hK (x_, a_, e_, q_) hh)) ?_
         rintro ⟨x_4, a_4, e_4, q_4⟩ hx4
         dsimp only at hx4
         have lo4 := hx4.lo
         have hi4 := hx4.hi
         have nn4 := hx4.nn
         refine ap expIn xs ([x_4] : List Exp) rfl (by simp only [List.map_cons, List.map_nil, expIn_eq]; try rfl) (fun a => by rw [expIn_eq]; exact ⟨rfl, rfl⟩) (by (simp only [List.length_append, List.length_cons, List.length_nil]; omega)) ?_
         refine ⟨(a_4, e_4, q_4, x_4), ⟨rfl, rfl⟩, ?_⟩
         exact hx4
       · refine an (by omega) ?_
         refine ⟨?_, ?_, trivial⟩
         · refine callY 72 [0] (σ := Exp × Int × Int × Int) (fun ⟨x_5, a_5, e_5, q_5⟩ => OX l (exprP l n k a_3) x_5 a_3 e_3 q_3 a_5 e_5 q_5) (fun ⟨x_5, a_5, e_5, q_5⟩ => xS x_5) (fun ⟨x_5, a_5, e_5, q_5⟩ => [rP l n a_5 e_5 q_5]) rfl (fun _ => rfl) (fun bs mm gd ht K hK => ih a_3 e_3 q_3 (d + 1) (by omega) (by omega) (by omega) (by omega) (bs.getD 0 0) mm gd (Tabs.up ht hT) K (fun x_ a_ e_ q_ hh => hK (x_, a_, e_, q_) hh)) ?_
           rintro ⟨x_5, a_5, e_5, q_5⟩ hx5
           dsimp only at hx5
           have lo5 := hx5.lo
           have hi5 := hx5.hi
           have nn5 := hx5.nn
           refine ap expIn xs ([x_5] : List Exp) rfl (by simp only [List.map_cons, List.map_nil, expIn_eq]; try rfl) (fun a => by rw [expIn_eq]; exact ⟨rfl, rfl⟩) (by (simp only [List.length_append, List.length_cons, List.length_nil]; omega)) ?_
           refine ⟨(a_5, e_5, q_5, x_5), ⟨rfl, rfl⟩, ?_⟩
           exact hx5
         · refine callY 72 [0] (σ := Exp × Int × Int × Int) (fun ⟨x_6, a_6, e_6, q_6⟩ => OX l (exprP l n k a_3) x_6 a_3 e_3 q_3 a_6 e_6 q_6) (fun ⟨x_6, a_6, e_6, q_6⟩ => xS x_6) (fun ⟨x_6, a_6, e_6, q_6⟩ => [rP l n a_6 e_6 q_6]) rfl (fun _ => rfl) (fun bs mm gd ht K hK => ih a_3 e_3 q_3 (d + 1) (by omega) (by omega) (by omega) (by omega) (bs.getD 0 0) mm gd (Tabs.up ht hT) K (fun x_ a_ e_ q_ hh => hK (x_, a_, e_, q_) hh)) ?_
           rintro ⟨x_6, a_6, e_6, q_6⟩ hx6
           dsimp only at hx6
           have lo6 := hx6.lo
           have hi6 := hx6.hi
           have nn6 := hx6.nn
           refine ⟨?_, ?_, trivial⟩
           · refine ap expIn xs ([x_6] : List Exp) rfl (by simp only [List.map_cons, List.map_nil, expIn_eq]; try rfl) (fun a => by rw [expIn_eq]; exact ⟨rfl, rfl⟩) (by (simp only [List.length_append, List.length_cons, List.length_nil]; omega)) ?_
             refine ⟨(a_6, e_6, q_6, x_6), ⟨rfl, rfl⟩, ?_⟩
             exact hx6
           · refine ap expIn xs ([x_6] : List Exp) rfl (by simp only [List.map_cons, List.map_nil, expIn_eq]; try rfl) (fun a => by rw [expIn_eq]; exact ⟨rfl, rfl⟩) (by (simp only [List.length_append, List.length_cons, List.length_nil]; omega)) ?_
             refine ⟨(a_6, e_6, q_6, x_6), ⟨rfl, rfl⟩, ?_⟩
             exact hx6
     refine ln ?_
     refine mg [0, 1, 4, 5, 6] 41 ((decide (0 < (ns.length : Int))) && (!(Op.bytesLess (gI ns ((ns.length : Int) - 1)) s_2))) ?_ ?_
     · repeat' first
        | exact ⟨⟨_, rfl, by grind [SB.val]⟩, rfl⟩
        | refine an (fun _ => ?_) (fun _ => ?_)
        | refine an (by omega) ?_
        | refine ix (by omega) ?_
     refine an (fun h2 => ?_) (fun h2 => ?_)
     · replace h2 : (0 < (ns.length : Int)) ∧ (Op.bytesLess (gI ns ((ns.length : Int) - 1)) s_2 = false) := ⟨(of_decide_eq_true (bandL h2)), (bnT (bandR h2))⟩
       refine callY 72 [0] (σ := Int × Int) (fun ⟨e_7, q_7⟩ => (e_2 = 0 → e_7 = 3 ∧ q_7 = hereP l n a_2) ∧ (e_2 ≠ 0 → e_7 = e_2 ∧ q_7 = q_2) ∧ 0 < e_7) (fun ⟨e_7, q_7⟩ => .tup []) (fun ⟨e_7, q_7⟩ => [rP l n a_2 e_7 q_7]) rfl (fun _ => rfl) (fun bs mm gd ht K hK => u_fail l n a_2 e_2 q_2 3 (bs.getD 0 0) (by decide) hl (by omega) (by omega) (by omega) mm gd K (fun z => hK (3, hereP l n a_2) ⟨fun _ => ⟨rfl, rfl⟩, fun y => absurd z y, by decide⟩) (fun z => hK (e_2, q_2) ⟨fun y => absurd y z, fun _ => ⟨rfl, rfl⟩, by omega⟩)) ?_
       rintro ⟨e_7, q_7⟩ hx7
       dsimp only at hx7
       obtain ⟨fa7, fb7, fc7⟩ := hx7
       refine ⟨(a_2, e_7, q_7), ⟨rfl, rfl⟩, ?_⟩
       exact ⟨by omega, by omega, by omega, CX.fail ((CX.step hj0.2.2.2 hx2).to fun _ => recN_t h2) fa7 fb7 fc7⟩
     replace h2 : ((ns.length : Int) ≤ 0) ∨ (Op.bytesLess (gI ns ((ns.length : Int) - 1)) s_2 = true) := ((bandF h2).imp (fun q => (Int.not_lt.1 (of_decide_eq_false q))) (fun q => (bnF q)))
     refine ⟨(a_2, e_2, q_2), ⟨rfl, rfl⟩, ?_⟩
     exact ⟨by omega, by omega, by omega, (CX.step hj0.2.2.2 hx2).to fun _ => recN_f h2⟩
   refine ln ?_
   refine an (fun h3 => ?_) (fun h3 => ?_)
   · refine callY 72 [0] (σ := Str × Int × Int × Int) (fun ⟨s_8, a_8, e_8, q_8⟩ => (OX l (wantP l n 4 ([44] : List UInt8) a2) s_8 a2 e2 q2 a_8 e_8 q_8) ∧ (e_8 ≠ 0 → s_8 = [])) (fun ⟨s_8, a_8, e_8, q_8⟩ => vS s_8) (fun ⟨s_8, a_8, e_8, q_8⟩ => [rP l n a_8 e_8 q_8]) rfl (fun _ => rfl) (fun bs mm gd ht K hK => u_want l n a2 e2 q2 4 ([44] : List UInt8) (bs.getD 0 0) hl (by omega) (by omega) (by omega) mm gd K (fun s_ a_ e_ q_ hh hz => hK (s_, a_, e_, q_) ⟨hh, hz⟩)) ?_
     rintro ⟨s_8, a_8, e_8, q_8⟩ hx8
     dsimp only at hx8
     obtain ⟨hx8, hz8⟩ := hx8
     have lo8 := hx8.lo
     have hi8 := hx8.hi
     have nn8 := hx8.nn
     refine ⟨(a_8, e_8, q_8), ⟨rfl, rfl⟩, ?_⟩
     exact ⟨by omega, by omega, by omega, CX.step (p := wantP l n 4 [44] a2) (x := s_8) (g := fun _ a => recB (exprP l n k) l n fu ns xs a) (i9.to fun _ => sep_some h3) hx8⟩
   refine ⟨(a2, e2, q2), ⟨rfl, rfl⟩, ?_⟩
   exact ⟨by omega, by omega, by omega, i9.to fun _ => sep_none h3⟩
 refine rt rfl fun _ => ?_
 show K (.agg [.int .i64 9, .int .i64 0, .int .i64 0, .str ([] : Str), .slice false [], .slice false [], .str ([] : Str), .str ([] : Str), .slice false (xs.map expIn), .slice false (ns.map strAV)]) (AMem.wth m [(r, .cells [.slice false (l.map tokAV), .int .i64 a2, .int .i64 n, .err 72 e2, .int .i64 q2])])
 refine K_eq (hK (.mk 9 zV [] [] xs ns) _ _ _ ?_) ?_
 · exact CX.bad i9 h1 hz (by omega) (by omega) (by omega)
 · simp only [expTop, Exp.a, Exp.n]; rfl
end Go.Proofs
end
section
namespace Go.Proofs
open Go Go.Aw Go.Sx
set_option maxRecDepth 100000
theorem want_ok {l : List Tok} {n k a e q a1 e1 q1 : Int} {s x : Str} (hz : e = 0) (ht : tokB l k s a = true) (o : OX l (wantP l n k s a) x a e q a1 e1 q1) : x = (gI l a).2.2 ∧ a1 = a + 1 ∧ e1 = 0 := by
  have h := o.ok hz
  rw [wantP, if_pos ht] at h
  have e0 : e1 = 0 := h.f
  obtain ⟨h1, h2⟩ := h.y e0
  exact ⟨h1, h2, e0⟩
theorem OX.okq {l : List Tok} {α : Type} {x : α} {a e q e1 q1 : Int} (h0 : a < l.length) (he : e = 0) (h1 : e1 = 0) : OX l (.ok x (a + 1) : PR α) x a e q (a + 1) e1 q1 :=
  ⟨fun _ => ⟨h1, fun _ => ⟨rfl, rfl⟩, fun h => absurd h1 h⟩, fun h => absurd he h, by omega, by omega, by omega, fun _ => by omega⟩
set_option maxHeartbeats 4000000 in
theorem u_expr1 (l : List Tok) (n a e q : Int) (k : Nat) (d : Int) (r : Nat) (ih : ∀ a e q d : Int, d = 7 - (k : Int) → 0 ≤ a → a ≤ l.length → 0 ≤ e → ∀ (r : Nat) (m : AMem), Gd [r] m → Tabs m → ∀ (K : AV → AMem → Prop), (∀ x' a' e' q', OX l (exprP l n k a) x' a e q a' e' q' → K (expTop x') (AMem.wth m [(r, .cells [.slice false (l.map tokAV), .int .i64 a', .int .i64 n, .err 72 e', .int .i64 q'])])) → ACalls Tryd.prog 71 [.ptr ⟨r, 0, none⟩, .int .i64 d] (AMem.wth m [(r, .cells [.slice false (l.map tokAV), .int .i64 a, .int .i64 n, .err 72 e, .int .i64 q])]) K) (hl : l.length ≤ 5000) (h0 : 0 ≤ a) (ha : a ≤ l.length) (he : 0 ≤ e) (hw : TokOk l) (hk : k ≤ 7) (hd : d + 1 = 7 - (k : Int)) (hz : e = 0) (m : AMem) (gd : Gd [r] m) (K : AV → AMem → Prop) (hT : Tabs m) (hK : ∀ x' a' e' q', OX l (exprP l n (k + 1) a) x' a e q a' e' q' → K (expTop x') (AMem.wth m [(r, .cells [.slice false (l.map tokAV), .int .i64 a', .int .i64 n, .err 72 e', .int .i64 q'])])) : ACalls Tryd.prog 71 [.ptr ⟨r, 0, none⟩, .int .i64 d] (AMem.wth m [(r, .cells [.slice false (l.map tokAV), .int .i64 a, .int .i64 n, .err 72 e, .int .i64 q])]) K := by
 refine enter (c := cf [] [] [] [11999] [11] [r]) (vs := [.loc 0 0, .av (.int .i64 d)]) (L := [rP l n a e q]) (m := m) false tbOk Tryd.mixed Tryd.func71 rfl (k := 2) (by show fnOk [11999] _ _ _ = true; decide +kernel) rfl (gd.good rfl) ?_
 refine sq ?_
 refine an (fun h1 => ?_) (fun h1 => ?_)
 · omega
 refine sq ?_
 refine an (fun h2 => ?_) (fun h2 => ?_)
 · refine callY 72 [0] (σ := (Unit) ⊕ (Unit)) (Sum.elim (fun _ => e = 0 ∧ tokB l 4 ([40] : List UInt8) a = true) (fun _ => e = 0 → tokB l 4 ([40] : List UInt8) a = false)) (Sum.elim (fun _ => .b (.lit true)) (fun _ => .b (.lit false))) (Sum.elim (fun _ => [rP l n (a + 1) e q]) (fun _ => [rP l n a e q])) rfl (fun x => by rcases x with _ | _ <;> rfl) (fun bs mm gd ht K hK => u_eat l n a e q 4 ([40] : List UInt8) (bs.getD 0 0) hl (by omega) (by omega) (by omega) mm gd K (fun z w => hK (.inl ()) ⟨z, w⟩) (fun z => hK (.inr ()) z)) ?_
   rintro (_ | _) hx1
   · try dsimp only [Sum.elim_inl, Sum.elim_inr] at hx1
     dsimp only [Sum.elim_inl, Sum.elim_inr]
     have ht1 := tokB_lt hx1.2
     refine callY 72 [0] (σ := Exp × Int × Int × Int) (fun ⟨x_2, a_2, e_2, q_2⟩ => OX l (betweenP (exprP l n k) l n (a + 1)) x_2 (a + 1) e q a_2 e_2 q_2) (fun ⟨x_2, a_2, e_2, q_2⟩ => xS x_2) (fun ⟨x_2, a_2, e_2, q_2⟩ => [rP l n a_2 e_2 q_2]) rfl (fun _ => rfl) (fun bs mm gd ht K hK => u_between1 l n (a + 1) e q k d (bs.getD 0 0) ih hl (by omega) (by omega) (by omega) hk hd mm gd K (Tabs.up ht hT) (fun x_ a_ e_ q_ hh => hK (x_, a_, e_, q_) hh)) ?_
     rintro ⟨x_2, a_2, e_2, q_2⟩ hx2
     dsimp only at hx2
     have lo2 := hx2.lo
     have hi2 := hx2.hi
     have nn2 := hx2.nn
     refine rt rfl fun _ => ?_
     show K (.agg [.int .i64 x_2.kind, .int .i64 x_2.v.kind, .int .i64 x_2.v.n, .str x_2.v.s, .slice false (x_2.v.l.map valIn), .slice false (x_2.v.f.map fldIn), .str x_2.s, .str x_2.t, .slice false (x_2.a.map expIn), .slice false (x_2.n.map strAV)]) (AMem.wth m [(r, .cells [.slice false (l.map tokAV), .int .i64 a_2, .int .i64 n, .err 72 e_2, .int .i64 q_2])])
     refine hK x_2 _ _ _ ?_
     rw [exprP, if_pos hx1.2]
     exact OX.from hz (by omega) hx2
   try dsimp only [Sum.elim_inl, Sum.elim_inr] at hx1
   dsimp only [Sum.elim_inl, Sum.elim_inr]
   refine callY 72 [0] (σ := (Unit) ⊕ (Unit)) (Sum.elim (fun _ => e = 0 ∧ tokB l 4 ([91] : List UInt8) a = true) (fun _ => e = 0 → tokB l 4 ([91] : List UInt8) a = false)) (Sum.elim (fun _ => .b (.lit true)) (fun _ => .b (.lit false))) (Sum.elim (fun _ => [rP l n (a + 1) e q]) (fun _ => [rP l n a e q])) rfl (fun x => by rcases x with _ | _ <;> rfl) (fun bs mm gd ht K hK => u_eat l n a e q 4 ([91] : List UInt8) (bs.getD 0 0) hl (by omega) (by omega) (by omega) mm gd K (fun z w => hK (.inl ()) ⟨z, w⟩) (fun z => hK (.inr ()) z)) ?_
   rintro (_ | _) hx3
   · try dsimp only [Sum.elim_inl, Sum.elim_inr] at hx3
     dsimp only [Sum.elim_inl, Sum.elim_inr]
     have ht3 := tokB_lt hx3.2
     refine sq ?_
     refine lp (σ := Int × Int × Int × List Exp) [] [0, 1, 4, 5] 3 (fun ⟨a2, e2, q2, xs⟩ => ([(0, .loc 0 0), (1, vI d), (4, .loc 1 0), (5, .loc 2 0)], [rP l n a2 e2 q2, .cells [vI 0, vI 0, vI 0, vS ([]), .own [], .own [], vS ([]), vS ([]), .own [], .own []], .cells [vI 8, vI 0, vI 0, vS ([] : Str), .own [], .own [], vS ([] : Str), vS ([] : Str), .own (xs.map expIn), .own []]], m)) (fun ⟨a2, e2, q2, xs⟩ => 0 ≤ a2 ∧ a + 1 ≤ a2 ∧ a2 ≤ l.length ∧ 0 ≤ e2 ∧ (e2 = 0 → (xs.length : Int) ≤ a2) ∧ xs.length ≤ 5001 ∧ ∃ fu : Nat, (e2 = 0 → l.length - a2 < fu) ∧ CX (listP (exprP l n k) l n (l.length + 1) (a + 1) []) e2 q2 (listP (exprP l n k) l n fu a2 xs)) (fun ⟨a2, e2, q2, xs⟩ => if e2 = 0 then l.length - a2.toNat + 1 else 0) (a + 1, e, q, []) ⟨rfl, rfl⟩ ?_ ?_
     · try dsimp only
       exact ⟨by omega, by omega, by omega, by omega, fun _ => by simp; omega, by simp, l.length + 1, fun _ => by omega, ⟨fun _ => rfl, fun h => absurd hz h⟩⟩
     rintro ⟨a2, e2, q2, xs⟩ hI
     dsimp only at hI
     obtain ⟨i1, i2, i3, i4, i5, i6, fu, i8, i9⟩ := hI
     refine sq ?_
     refine callY 72 [0] (σ := (Unit) ⊕ (Unit)) (Sum.elim (fun _ => e2 = 0 ∧ tokB l 4 ([93] : List UInt8) a2 = true) (fun _ => e2 = 0 → tokB l 4 ([93] : List UInt8) a2 = false)) (Sum.elim (fun _ => .b (.lit true)) (fun _ => .b (.lit false))) (Sum.elim (fun _ => [rP l n (a2 + 1) e2 q2]) (fun _ => [rP l n a2 e2 q2])) rfl (fun x => by rcases x with _ | _ <;> rfl) (fun bs mm gd ht K hK => u_eat l n a2 e2 q2 4 ([93] : List UInt8) (bs.getD 0 0) hl (by omega) (by omega) (by omega) mm gd K (fun z w => hK (.inl ()) ⟨z, w⟩) (fun z => hK (.inr ()) z)) ?_
     rintro (_ | _) hx4
     · try dsimp only [Sum.elim_inl, Sum.elim_inr] at hx4
       dsimp only [Sum.elim_inl, Sum.elim_inr]
       have ht4 := tokB_lt hx4.2
       refine rt rfl fun _ => ?_
       show K (.agg [.int .i64 8, .int .i64 0, .int .i64 0, .str ([] : Str), .slice false [], .slice false [], .str ([] : Str), .str ([] : Str), .slice false (xs.map expIn), .slice false []]) (AMem.wth m [(r, .cells [.slice false (l.map tokAV), .int .i64 (a2 + 1), .int .i64 n, .err 72 e2, .int .i64 q2])])
       obtain ⟨fu, rfl⟩ : ∃ k, fu = k + 1 := ⟨fu - 1, by have := i8 hx4.1; omega⟩
       refine K_eq (hK (.mk 8 zV [] [] xs []) _ _ _ ?_) ?_
       · rw [exprP, if_neg (tokN (hx1 hz)), if_pos hx3.2]
         exact OX.from hz (by omega) (CX.done (a := a + 1) (e := e) (q := q) (i9.to fun _ => listP_ok hx4.2) hx4.1 hz (by omega) ht4)
       · simp only [expTop, Exp.a, Exp.n]; rfl
     try dsimp only [Sum.elim_inl, Sum.elim_inr] at hx4
     dsimp only [Sum.elim_inl, Sum.elim_inr]
     refine an (fun h3 => ?_) (fun h3 => ?_)
     · obtain ⟨fu, rfl⟩ : ∃ k, fu = k + 1 := ⟨fu - 1, by have := i8 h3; omega⟩
       rw [listP_no (hx4 h3)] at i9
       have i10 := i8 h3
       have i11 := i5 h3
       refine sq ?_
       refine ln ?_
       refine an (fun h4 => ?_) (fun h4 => ?_)
       · refine callY 72 [0] (σ := Str × Int × Int × Int) (fun ⟨s_5, a_5, e_5, q_5⟩ => (OX l (wantP l n 4 ([44] : List UInt8) a2) s_5 a2 e2 q2 a_5 e_5 q_5) ∧ (e_5 ≠ 0 → s_5 = [])) (fun ⟨s_5, a_5, e_5, q_5⟩ => vS s_5) (fun ⟨s_5, a_5, e_5, q_5⟩ => [rP l n a_5 e_5 q_5]) rfl (fun _ => rfl) (fun bs mm gd ht K hK => u_want l n a2 e2 q2 4 ([44] : List UInt8) (bs.getD 0 0) hl (by omega) (by omega) (by omega) mm gd K (fun s_ a_ e_ q_ hh hz => hK (s_, a_, e_, q_) ⟨hh, hz⟩)) ?_
         rintro ⟨s_5, a_5, e_5, q_5⟩ hx5
         dsimp only at hx5
         obtain ⟨hx5, hz5⟩ := hx5
         have lo5 := hx5.lo
         have hi5 := hx5.hi
         have nn5 := hx5.nn
         refine rgA tbOk Tryd.mixed (σ := Int × Int × Int × Exp) (.f 0 (.f 2 (.f 3 (.o 1 (.s 4 (.s 5 (.s 6 (.s 7 (.f 8 (.s 9 .d)))))) (.o 4 (.o 1 (.s 5 (.s 6 (.s 7 (.f 8 (.s 9 .d))))) (.o 5 (.o 1 (.s 6 (.s 7 (.f 8 (.s 9 .d)))) (.o 6 (.s 1 (.s 7 (.f 8 (.s 9 .d)))) .z)) .z)) .z))))) [] [0, 1, 4, 5] 3 (fun ⟨a9, e9, q9, x9⟩ => ([(0, .loc 0 0), (1, vI d), (4, .loc 1 0), (5, .loc 2 0)], [rP l n a9 e9 q9, .cells [vI 0, vI 0, vI 0, vS ([]), .own [], .own [], vS ([]), vS ([]), .own [], .own []], .cells [vI 8, vI 0, vI 0, vS ([] : Str), .own [], .own [], vS ([] : Str), vS ([] : Str), .own ((xs ++ ([x9] : List Exp)).map expIn), .own []]], m)) (fun ⟨a9, e9, q9, x9⟩ => OX l (exprP l n k a_5) x9 a_5 e_5 q_5 a9 e9 q9) (by decide +kernel) ?_ ?_
         · rintro ⟨a9, e9, q9, x9⟩ hy11
           try dsimp only at hy11
           have lo11y := hy11.lo
           have hi11y := hy11.hi
           have nn11y := hy11.nn
           refine ⟨(a9, e9, q9, xs ++ ([x9] : List Exp)), ⟨rfl, rfl⟩, ?_, ?_⟩
           · try dsimp only
             have hg := hy11.gt
             have c := CX.step (CX.step (p := wantP l n 4 [44] a2) (x := s_5) (g := fun _ a => (exprP l n k a).bind fun x a => listP (exprP l n k) l n fu a (xs ++ [x])) (i9.to fun _ => sep_some h4) hx5) hy11
             simp only [List.length_append, List.length_cons, List.length_nil]
             exact ⟨by omega, by omega, by omega, by omega, fun hq => by have := hg hq; omega, by omega, fu, fun hq => by have := hg hq; omega, c⟩
           try dsimp only
           rw [if_pos h3]
           have hg := hy11.gt
           split <;> omega
         refine ⟨?_, ?_, trivial⟩
         · refine an (by omega) ?_
           refine callY 72 [0] (σ := Exp × Int × Int × Int) (fun ⟨x_6, a_6, e_6, q_6⟩ => OX l (exprP l n k a_5) x_6 a_5 e_5 q_5 a_6 e_6 q_6) (fun ⟨x_6, a_6, e_6, q_6⟩ => xS x_6) (fun ⟨x_6, a_6, e_6, q_6⟩ => [rP l n a_6 e_6 q_6]) rfl (fun _ => rfl) (fun bs mm gd ht K hK => ih a_5 e_5 q_5 (d + 1) (by omega) (by omega) (by omega) (by omega) (bs.getD 0 0) mm gd (Tabs.up ht hT) K (fun x_ a_ e_ q_ hh => hK (x_, a_, e_, q_) hh)) ?_
           rintro ⟨x_6, a_6, e_6, q_6⟩ hx6
           dsimp only at hx6
           have lo6 := hx6.lo
           have hi6 := hx6.hi
           have nn6 := hx6.nn
           refine ap expIn xs ([x_6] : List Exp) rfl (by simp only [List.map_cons, List.map_nil, expIn_eq]; try rfl) (fun a => by rw [expIn_eq]; exact ⟨rfl, rfl⟩) (by (simp only [List.length_append, List.length_cons, List.length_nil]; omega)) ?_
           refine ⟨(a_6, e_6, q_6, x_6), ⟨rfl, rfl⟩, ?_⟩
           exact hx6
         · refine an (by omega) ?_
           refine ⟨?_, ?_, trivial⟩
           · refine callY 72 [0] (σ := Exp × Int × Int × Int) (fun ⟨x_7, a_7, e_7, q_7⟩ => OX l (exprP l n k a_5) x_7 a_5 e_5 q_5 a_7 e_7 q_7) (fun ⟨x_7, a_7, e_7, q_7⟩ => xS x_7) (fun ⟨x_7, a_7, e_7, q_7⟩ => [rP l n a_7 e_7 q_7]) rfl (fun _ => rfl) (fun bs mm gd ht K hK => ih a_5 e_5 q_5 (d + 1) (by omega) (by omega) (by omega) (by omega) (bs.getD 0 0) mm gd (Tabs.up ht hT) K (fun x_ a_ e_ q_ hh => hK (x_, a_, e_, q_) hh)) ?_
             rintro ⟨x_7, a_7, e_7, q_7⟩ hx7
             dsimp only at hx7
             have lo7 := hx7.lo
             have hi7 := hx7.hi
             have nn7 := hx7.nn
             refine ap expIn xs ([x_7] : List Exp) rfl (by simp only [List.map_cons, List.map_nil, expIn_eq]; try rfl) (fun a => by rw [expIn_eq]; exact ⟨rfl, rfl⟩) (by (simp only [List.length_append, List.length_cons, List.length_nil]; omega)) ?_
             refine ⟨(a_7, e_7, q_7, x_7), ⟨rfl, rfl⟩, ?_⟩
             exact hx7
           · refine callY 72 [0] (σ := Exp × Int × Int × Int) (fun ⟨x_8, a_8, e_8, q_8⟩ => OX l (exprP l n k a_5) x_8 a_5 e_5 q_5 a_8 e_8 q_8) (fun ⟨x_8, a_8, e_8, q_8⟩ => xS x_8) (fun ⟨x_8, a_8, e_8, q_8⟩ => [rP l n a_8 e_8 q_8]) rfl (fun _ => rfl) (fun bs mm gd ht K hK => ih a_5 e_5 q_5 (d + 1) (by omega) (by omega) (by omega) (by omega) (bs.getD 0 0) mm gd (Tabs.up ht hT) K (fun x_ a_ e_ q_ hh => hK (x_, a_, e_, q_) hh)) ?_
             rintro ⟨x_8, a_8, e_8, q_8⟩ hx8
             dsimp only at hx8
             have lo8 := hx8.lo
             have hi8 := hx8.hi
             have nn8 := hx8.nn
             refine ⟨?_, ?_, trivial⟩
             · refine ap expIn xs ([x_8] : List Exp) rfl (by simp only [List.map_cons, List.map_nil, expIn_eq]; try rfl) (fun a => by rw [expIn_eq]; exact ⟨rfl, rfl⟩) (by (simp only [List.length_append, List.length_cons, List.length_nil]; omega)) ?_
               refine ⟨(a_8, e_8, q_8, x_8), ⟨rfl, rfl⟩, ?_⟩
               exact hx8
             · refine ap expIn xs ([x_8] : List Exp) rfl (by simp only [List.map_cons, List.map_nil, expIn_eq]; try rfl) (fun a => by rw [expIn_eq]; exact ⟨rfl, rfl⟩) (by (simp only [List.length_append, List.length_cons, List.length_nil]; omega)) ?_
               refine ⟨(a_8, e_8, q_8, x_8), ⟨rfl, rfl⟩, ?_⟩
               exact hx8
       refine rgA tbOk Tryd.mixed (σ := Int × Int × Int × Exp) (.f 0 (.f 2 (.f 3 (.o 1 (.s 4 (.s 5 (.s 6 (.s 7 (.f 8 (.s 9 .d)))))) (.o 4 (.o 1 (.s 5 (.s 6 (.s 7 (.f 8 (.s 9 .d))))) (.o 5 (.o 1 (.s 6 (.s 7 (.f 8 (.s 9 .d)))) (.o 6 (.s 1 (.s 7 (.f 8 (.s 9 .d)))) .z)) .z)) .z))))) [] [0, 1, 4, 5] 3 (fun ⟨a9, e9, q9, x9⟩ => ([(0, .loc 0 0), (1, vI d), (4, .loc 1 0), (5, .loc 2 0)], [rP l n a9 e9 q9, .cells [vI 0, vI 0, vI 0, vS ([]), .own [], .own [], vS ([]), vS ([]), .own [], .own []], .cells [vI 8, vI 0, vI 0, vS ([] : Str), .own [], .own [], vS ([] : Str), vS ([] : Str), .own ((xs ++ ([x9] : List Exp)).map expIn), .own []]], m)) (fun ⟨a9, e9, q9, x9⟩ => OX l (exprP l n k a2) x9 a2 e2 q2 a9 e9 q9) (by decide +kernel) ?_ ?_
       · rintro ⟨a9, e9, q9, x9⟩ hy11
         try dsimp only at hy11
         have lo11y := hy11.lo
         have hi11y := hy11.hi
         have nn11y := hy11.nn
         refine ⟨(a9, e9, q9, xs ++ ([x9] : List Exp)), ⟨rfl, rfl⟩, ?_, ?_⟩
         · try dsimp only
           have hg := hy11.gt
           have c := CX.step (i9.to fun _ => sep_none h4) hy11
           simp only [List.length_append, List.length_cons, List.length_nil]
           exact ⟨by omega, by omega, by omega, by omega, fun hq => by have := hg hq; omega, by omega, fu, fun hq => by have := hg hq; omega, c⟩
         try dsimp only
         rw [if_pos h3]
         have hg := hy11.gt
         split <;> omega
       refine ⟨?_, ?_, trivial⟩
       · refine an (by omega) ?_
         refine callY 72 [0] (σ := Exp × Int × Int × Int) (fun ⟨x_9, a_9, e_9, q_9⟩ => OX l (exprP l n k a2) x_9 a2 e2 q2 a_9 e_9 q_9) (fun ⟨x_9, a_9, e_9, q_9⟩ => xS x_9) (fun ⟨x_9, a_9, e_9, q_9⟩ => [rP l n a_9 e_9 q_9]) rfl (fun _ => rfl) (fun bs mm gd ht K hK => ih a2 e2 q2 (d + 1) (by omega) (by omega) (by omega) (by omega) (bs.getD 0 0) mm gd (Tabs.up ht hT) K (fun x_ a_ e_ q_ hh => hK (x_, a_, e_, q_) hh)) ?_
         rintro ⟨x_9, a_9, e_9, q_9⟩ hx9
         dsimp only at hx9
         have lo9 := hx9.lo
         have hi9 := hx9.hi
         have nn9 := hx9.nn
         refine ap expIn xs ([x_9] : List Exp) rfl (by simp only [List.map_cons, List.map_nil, expIn_eq]; try rfl) (fun a => by rw [expIn_eq]; exact ⟨rfl, rfl⟩) (by (simp only [List.length_append, List.length_cons, List.length_nil]; omega)) ?_
         refine ⟨(a_9, e_9, q_9, x_9), ⟨rfl, rfl⟩, ?_⟩
         exact hx9
       · refine an (by omega) ?_
         refine ⟨?_, ?_, trivial⟩
         · refine callY 72 [0] (σ := Exp × Int × Int × Int) (fun ⟨x_10, a_10, e_10, q_10⟩ => OX l (exprP l n k a2) x_10 a2 e2 q2 a_10 e_10 q_10) (fun ⟨x_10, a_10, e_10, q_10⟩ => xS x_10) (fun ⟨x_10, a_10, e_10, q_10⟩ => [rP l n a_10 e_10 q_10]) rfl (fun _ => rfl) (fun bs mm gd ht K hK => ih a2 e2 q2 (d + 1) (by omega) (by omega) (by omega) (by omega) (bs.getD 0 0) mm gd (Tabs.up ht hT) K (fun x_ a_ e_ q_ hh => hK (x_, a_, e_, q_) hh)) ?_
           rintro ⟨x_10, a_10, e_10, q_10⟩ hx10
           dsimp only at hx10
           have lo10 := hx10.lo
           have hi10 := hx10.hi
           have nn10 := hx10.nn
           refine ap expIn xs ([x_10] : List Exp) rfl (by simp only [List.map_cons, List.map_nil, expIn_eq]; try rfl) (fun a => by rw [expIn_eq]; exact ⟨rfl, rfl⟩) (by (simp only [List.length_append, List.length_cons, List.length_nil]; omega)) ?_
           refine ⟨(a_10, e_10, q_10, x_10), ⟨rfl, rfl⟩, ?_⟩
           exact hx10
         · refine callY 72 [0] (σ := Exp × Int × Int × Int) (fun ⟨x_11, a_11, e_11, q_11⟩ => OX l (exprP l n k a2) x_11 a2 e2 q2 a_11 e_11 q_11) (fun ⟨x_11, a_11, e_11, q_11⟩ => xS x_11) (fun ⟨x_11, a_11, e_11, q_11⟩ => [rP l n a_11 e_11 q_11]) rfl (fun _ => rfl) (fun bs mm gd ht K hK => ih a2 e2 q2 (d + 1) (by omega) (by omega) (by omega) (by omega) (bs.getD 0 0) mm gd (Tabs.up ht hT) K (fun x_ a_ e_ q_ hh => hK (x_, a_, e_, q_) hh)) ?_
           rintro ⟨x_11, a_11, e_11, q_11⟩ hx11
           dsimp only at hx11
           have lo11 := hx11.lo
           have hi11 := hx11.hi
           have nn11 := hx11.nn
           refine ⟨?_, ?_, trivial⟩
           · refine ap expIn xs ([x_11] : List Exp) rfl (by simp only [List.map_cons, List.map_nil, expIn_eq]; try rfl) (fun a => by rw [expIn_eq]; exact ⟨rfl, rfl⟩) (by (simp only [List.length_append, List.length_cons, List.length_nil]; omega)) ?_
             refine ⟨(a_11, e_11, q_11, x_11), ⟨rfl, rfl⟩, ?_⟩
             exact hx11
           · refine ap expIn xs ([x_11] : List Exp) rfl (by simp only [List.map_cons, List.map_nil, expIn_eq]; try rfl) (fun a => by rw [expIn_eq]; exact ⟨rfl, rfl⟩) (by (simp only [List.length_append, List.length_cons, List.length_nil]; omega)) ?_
             refine ⟨(a_11, e_11, q_11, x_11), ⟨rfl, rfl⟩, ?_⟩
             exact hx11
     refine rt rfl fun _ => ?_
     show K (.agg [.int .i64 8, .int .i64 0, .int .i64 0, .str ([] : Str), .slice false [], .slice false [], .str ([] : Str), .str ([] : Str), .slice false (xs.map expIn), .slice false []]) (AMem.wth m [(r, .cells [.slice false (l.map tokAV), .int .i64 a2, .int .i64 n, .err 72 e2, .int .i64 q2])])
     refine K_eq (hK (.mk 8 zV [] [] xs []) _ _ _ ?_) ?_
     · rw [exprP, if_neg (tokN (hx1 hz)), if_pos hx3.2]
       exact OX.from hz (by omega) (CX.bad (a := a + 1) (e := e) (q := q) i9 h3 hz (by omega) (by omega) (by omega))
     · simp only [expTop, Exp.a, Exp.n]; rfl
   try dsimp only [Sum.elim_inl, Sum.elim_inr] at hx3
   dsimp only [Sum.elim_inl, Sum.elim_inr]
   refine callY 72 [0] (σ := (Unit) ⊕ (Unit)) (Sum.elim (fun _ => e = 0 ∧ tokB l 4 ([123] : List UInt8) a = true) (fun _ => e = 0 → tokB l 4 ([123] : List UInt8) a = false)) (Sum.elim (fun _ => .b (.lit true)) (fun _ => .b (.lit false))) (Sum.elim (fun _ => [rP l n (a + 1) e q]) (fun _ => [rP l n a e q])) rfl (fun x => by rcases x with _ | _ <;> rfl) (fun bs mm gd ht K hK => u_eat l n a e q 4 ([123] : List UInt8) (bs.getD 0 0) hl (by omega) (by omega) (by omega) mm gd K (fun z w => hK (.inl ()) ⟨z, w⟩) (fun z => hK (.inr ()) z)) ?_
   rintro (_ | _) hx12
   · try dsimp only [Sum.elim_inl, Sum.elim_inr] at hx12
     dsimp only [Sum.elim_inl, Sum.elim_inr]
     have ht12 := tokB_lt hx12.2
     refine callY 72 [0] (σ := Exp × Int × Int × Int) (fun ⟨x_13, a_13, e_13, q_13⟩ => OX l (recP (exprP l n k) l n (l.length + 1) (a + 1) [] []) x_13 (a + 1) e q a_13 e_13 q_13) (fun ⟨x_13, a_13, e_13, q_13⟩ => xS x_13) (fun ⟨x_13, a_13, e_13, q_13⟩ => [rP l n a_13 e_13 q_13]) rfl (fun _ => rfl) (fun bs mm gd ht K hK => u_record1 l n (a + 1) e q k d (bs.getD 0 0) ih hl (by omega) (by omega) (by omega) hk hd hz mm gd K (Tabs.up ht hT) (fun x_ a_ e_ q_ hh => hK (x_, a_, e_, q_) hh)) ?_
     rintro ⟨x_13, a_13, e_13, q_13⟩ hx13
     dsimp only at hx13
     have lo13 := hx13.lo
     have hi13 := hx13.hi
     have nn13 := hx13.nn
     refine rt rfl fun _ => ?_
     show K (.agg [.int .i64 x_13.kind, .int .i64 x_13.v.kind, .int .i64 x_13.v.n, .str x_13.v.s, .slice false (x_13.v.l.map valIn), .slice false (x_13.v.f.map fldIn), .str x_13.s, .str x_13.t, .slice false (x_13.a.map expIn), .slice false (x_13.n.map strAV)]) (AMem.wth m [(r, .cells [.slice false (l.map tokAV), .int .i64 a_13, .int .i64 n, .err 72 e_13, .int .i64 q_13])])
     refine hK x_13 _ _ _ ?_
     rw [exprP, if_neg (tokN (hx1 hz)), if_neg (tokN (hx3 hz)), if_pos hx12.2]
     exact OX.from hz (by omega) hx13
   try dsimp only [Sum.elim_inl, Sum.elim_inr] at hx12
   dsimp only [Sum.elim_inl, Sum.elim_inr]
   refine callY 72 [0] (σ := (Unit) ⊕ (Unit)) (Sum.elim (fun _ => e = 0 ∧ tokB l 4 ([45] : List UInt8) a = true) (fun _ => e = 0 → tokB l 4 ([45] : List UInt8) a = false)) (Sum.elim (fun _ => .b (.lit true)) (fun _ => .b (.lit false))) (Sum.elim (fun _ => [rP l n (a + 1) e q]) (fun _ => [rP l n a e q])) rfl (fun x => by rcases x with _ | _ <;> rfl) (fun bs mm gd ht K hK => u_eat l n a e q 4 ([45] : List UInt8) (bs.getD 0 0) hl (by omega) (by omega) (by omega) mm gd K (fun z w => hK (.inl ()) ⟨z, w⟩) (fun z => hK (.inr ()) z)) ?_
   rintro (_ | _) hx14
   · try dsimp only [Sum.elim_inl, Sum.elim_inr] at hx14
     dsimp only [Sum.elim_inl, Sum.elim_inr]
     have ht14 := tokB_lt hx14.2
     refine callY 72 [0] (σ := Exp × Int × Int × Int) (fun ⟨x_15, a_15, e_15, q_15⟩ => OX l (numP l n (-1) (a + 1)) x_15 a e q a_15 e_15 q_15) (fun ⟨x_15, a_15, e_15, q_15⟩ => xS x_15) (fun ⟨x_15, a_15, e_15, q_15⟩ => [rP l n a_15 e_15 q_15]) rfl (fun _ => rfl) (fun bs mm gd ht K hK => u_number l n (a + 1) e q (-1) (bs.getD 0 0) hl (by omega) (by omega) (by omega) hw (by omega) hz a (by omega) (by omega) (by omega) mm gd K (Tabs.up ht hT) (fun x_ a_ e_ q_ hh => hK (x_, a_, e_, q_) hh)) ?_
     rintro ⟨x_15, a_15, e_15, q_15⟩ hx15
     dsimp only at hx15
     have lo15 := hx15.lo
     have hi15 := hx15.hi
     have nn15 := hx15.nn
     refine rt rfl fun _ => ?_
     show K (.agg [.int .i64 x_15.kind, .int .i64 x_15.v.kind, .int .i64 x_15.v.n, .str x_15.v.s, .slice false (x_15.v.l.map valIn), .slice false (x_15.v.f.map fldIn), .str x_15.s, .str x_15.t, .slice false (x_15.a.map expIn), .slice false (x_15.n.map strAV)]) (AMem.wth m [(r, .cells [.slice false (l.map tokAV), .int .i64 a_15, .int .i64 n, .err 72 e_15, .int .i64 q_15])])
     refine hK x_15 _ _ _ ?_
     rw [exprP, if_neg (tokN (hx1 hz)), if_neg (tokN (hx3 hz)), if_neg (tokN (hx12 hz)), if_pos hx14.2]
     exact hx15
   try dsimp only [Sum.elim_inl, Sum.elim_inr] at hx14
   dsimp only [Sum.elim_inl, Sum.elim_inr]
   refine callM [0] [rP l n a e q] (vB (tokE l 2 ([]) a e)) rfl (fun bs mm gd => u_is l n a e q 2 ([]) (bs.getD 0 0) hl (by omega) (by omega) (by omega) mm gd) ?_
   refine an (fun h5 => ?_) (fun h5 => ?_)
   · refine callY 72 [0] (σ := Exp × Int × Int × Int) (fun ⟨x_16, a_16, e_16, q_16⟩ => OX l (numP l n 1 a) x_16 a e q a_16 e_16 q_16) (fun ⟨x_16, a_16, e_16, q_16⟩ => xS x_16) (fun ⟨x_16, a_16, e_16, q_16⟩ => [rP l n a_16 e_16 q_16]) rfl (fun _ => rfl) (fun bs mm gd ht K hK => u_number l n a e q 1 (bs.getD 0 0) hl (by omega) (by omega) (by omega) hw (by omega) hz a (by omega) (by omega) (by omega) mm gd K (Tabs.up ht hT) (fun x_ a_ e_ q_ hh => hK (x_, a_, e_, q_) hh)) ?_
     rintro ⟨x_16, a_16, e_16, q_16⟩ hx16
     dsimp only at hx16
     have lo16 := hx16.lo
     have hi16 := hx16.hi
     have nn16 := hx16.nn
     refine rt rfl fun _ => ?_
     show K (.agg [.int .i64 x_16.kind, .int .i64 x_16.v.kind, .int .i64 x_16.v.n, .str x_16.v.s, .slice false (x_16.v.l.map valIn), .slice false (x_16.v.f.map fldIn), .str x_16.s, .str x_16.t, .slice false (x_16.a.map expIn), .slice false (x_16.n.map strAV)]) (AMem.wth m [(r, .cells [.slice false (l.map tokAV), .int .i64 a_16, .int .i64 n, .err 72 e_16, .int .i64 q_16])])
     refine hK x_16 _ _ _ ?_
     rw [exprP, if_neg (tokN (hx1 hz)), if_neg (tokN (hx3 hz)), if_neg (tokN (hx12 hz)), if_neg (tokN (hx14 hz)), if_pos (tokE_t h5).2]
     exact hx16
   refine callM [0] [rP l n a e q] (vB (tokE l 3 ([]) a e)) rfl (fun bs mm gd => u_is l n a e q 3 ([]) (bs.getD 0 0) hl (by omega) (by omega) (by omega) mm gd) ?_
   refine an (fun h6 => ?_) (fun h6 => ?_)
   · refine callY 72 [0] (σ := Str × Int × Int × Int) (fun ⟨s_17, a_17, e_17, q_17⟩ => (OX l (wantP l n 3 ([]) a) s_17 a e q a_17 e_17 q_17) ∧ (e_17 ≠ 0 → s_17 = [])) (fun ⟨s_17, a_17, e_17, q_17⟩ => vS s_17) (fun ⟨s_17, a_17, e_17, q_17⟩ => [rP l n a_17 e_17 q_17]) rfl (fun _ => rfl) (fun bs mm gd ht K hK => u_want l n a e q 3 ([]) (bs.getD 0 0) hl (by omega) (by omega) (by omega) mm gd K (fun s_ a_ e_ q_ hh hz => hK (s_, a_, e_, q_) ⟨hh, hz⟩)) ?_
     rintro ⟨s_17, a_17, e_17, q_17⟩ hx17
     dsimp only at hx17
     obtain ⟨hx17, hz17⟩ := hx17
     have lo17 := hx17.lo
     have hi17 := hx17.hi
     have nn17 := hx17.nn
     refine rt rfl fun _ => ?_
     show K (.agg [.int .i64 1, .int .i64 2, .int .i64 0, .str s_17, .slice false [], .slice false [], .str ([]), .str ([]), .slice false [], .slice false []]) (AMem.wth m [(r, .cells [.slice false (l.map tokAV), .int .i64 a_17, .int .i64 n, .err 72 e_17, .int .i64 q_17])])
     obtain ⟨w1, w2, w3⟩ := want_ok hz (tokE_t h6).2 hx17
     have hlt := tokB_lt (tokE_t h6).2
     subst w1; subst w2
     refine hK (litE (.mk 2 0 (gI l a).2.2 [] [])) _ _ _ ?_
     rw [exprP, if_neg (tokN (hx1 hz)), if_neg (tokN (hx3 hz)), if_neg (tokN (hx12 hz)), if_neg (tokN (hx14 hz)), if_neg (tokN (tokE_f h5 hz)), if_pos (tokE_t h6).2]
     exact OX.okq hlt hz w3
   refine callY 72 [0] (σ := Exp × Int × Int × Int) (fun ⟨x_18, a_18, e_18, q_18⟩ => OX l (wordP (exprP l n k) l n a) x_18 a e q a_18 e_18 q_18) (fun ⟨x_18, a_18, e_18, q_18⟩ => xS x_18) (fun ⟨x_18, a_18, e_18, q_18⟩ => [rP l n a_18 e_18 q_18]) rfl (fun _ => rfl) (fun bs mm gd ht K hK => u_word1 l n a e q k d (bs.getD 0 0) ih hl (by omega) (by omega) (by omega) hz hk hd mm gd K (Tabs.up ht hT) (fun x_ a_ e_ q_ hh => hK (x_, a_, e_, q_) hh)) ?_
   rintro ⟨x_18, a_18, e_18, q_18⟩ hx18
   dsimp only at hx18
   have lo18 := hx18.lo
   have hi18 := hx18.hi
   have nn18 := hx18.nn
   refine rt rfl fun _ => ?_
   show K (.agg [.int .i64 x_18.kind, .int .i64 x_18.v.kind, .int .i64 x_18.v.n, .str x_18.v.s, .slice false (x_18.v.l.map valIn), .slice false (x_18.v.f.map fldIn), .str x_18.s, .str x_18.t, .slice false (x_18.a.map expIn), .slice false (x_18.n.map strAV)]) (AMem.wth m [(r, .cells [.slice false (l.map tokAV), .int .i64 a_18, .int .i64 n, .err 72 e_18, .int .i64 q_18])])
   refine hK x_18 _ _ _ ?_
   rw [exprP, if_neg (tokN (hx1 hz)), if_neg (tokN (hx3 hz)), if_neg (tokN (hx12 hz)), if_neg (tokN (hx14 hz)), if_neg (tokN (tokE_f h5 hz)), if_neg (tokN (tokE_f h6 hz))]
   exact hx18
 exact absurd hz h2
end Go.Proofs
end
section
namespace Go.Proofs
open Go Go.Aw Go.Sx
set_option maxRecDepth 100000
set_option maxHeartbeats 2000000 in
theorem u_exprZ (l : List Tok) (n a e q : Int) (k : Nat) (d : Int) (r : Nat) (hl : l.length ≤ 5000) (h0 : 0 ≤ a) (ha : a ≤ l.length) (he : 0 ≤ e) (hq : e ≠ 0 ∨ (k = 0 ∧ d = 7)) (m : AMem) (gd : Gd [r] m) (K : AV → AMem → Prop) (hT : Tabs m) (hK : ∀ x' a' e' q', OX l (exprP l n k a) x' a e q a' e' q' → K (expTop x') (AMem.wth m [(r, .cells [.slice false (l.map tokAV), .int .i64 a', .int .i64 n, .err 72 e', .int .i64 q'])])) : ACalls Tryd.prog 71 [.ptr ⟨r, 0, none⟩, .int .i64 d] (AMem.wth m [(r, .cells [.slice false (l.map tokAV), .int .i64 a, .int .i64 n, .err 72 e, .int .i64 q])]) K := by
 refine enter (c := cf [] [] [] [] [] [r]) (vs := [.loc 0 0, .av (.int .i64 d)]) (L := [rP l n a e q]) (m := m) false tbOk Tryd.mixed Tryd.func71 rfl (k := 2) (by show fnOk [] _ _ _ = true; decide +kernel) rfl (gd.good rfl) ?_
 refine sq ?_
 refine an (fun h1 => ?_) (fun h1 => ?_)
 · refine callY 72 [0] (σ := Int × Int) (fun ⟨e_1, q_1⟩ => (e = 0 → e_1 = 2 ∧ q_1 = hereP l n a) ∧ (e ≠ 0 → e_1 = e ∧ q_1 = q) ∧ 0 < e_1) (fun ⟨e_1, q_1⟩ => .tup []) (fun ⟨e_1, q_1⟩ => [rP l n a e_1 q_1]) rfl (fun _ => rfl) (fun bs mm gd ht K hK => u_fail l n a e q 2 (bs.getD 0 0) (by decide) hl (by omega) (by omega) (by omega) mm gd K (fun z => hK (2, hereP l n a) ⟨fun _ => ⟨rfl, rfl⟩, fun y => absurd z y, by decide⟩) (fun z => hK (e, q) ⟨fun y => absurd y z, fun _ => ⟨rfl, rfl⟩, by omega⟩)) ?_
   rintro ⟨e_1, q_1⟩ hx1
   dsimp only at hx1
   obtain ⟨fa1, fb1, fc1⟩ := hx1
   refine sq ?_
   refine an (fun h2 => ?_) (fun h2 => ?_)
   · exact absurd h2 (by omega)
   refine callM [0] [rP l n a e_1 q_1] (xS zE) rfl (fun bs mm gd => u_wordB l n a e_1 q_1 d (bs.getD 0 0) hl (by omega) (by omega) (by omega) (by omega) mm gd) ?_
   refine rt rfl fun _ => ?_
   show K (.agg [.int .i64 zE.kind, .int .i64 zE.v.kind, .int .i64 zE.v.n, .str zE.v.s, .slice false (zE.v.l.map valIn), .slice false (zE.v.f.map fldIn), .str zE.s, .str zE.t, .slice false (zE.a.map expIn), .slice false (zE.n.map strAV)]) (AMem.wth m [(r, .cells [.slice false (l.map tokAV), .int .i64 a, .int .i64 n, .err 72 e_1, .int .i64 q_1])])
   refine hK zE _ _ _ ?_
   by_cases hz : e = 0
   · obtain ⟨rfl, _⟩ := hq.resolve_left (fun h => h hz)
     rw [exprP]
     exact OX.bad _ ha fa1 fb1 fc1
   · obtain ⟨rfl, rfl⟩ := fb1 hz
     exact OX.stuck hz he ha
 refine sq ?_
 refine an (fun h3 => ?_) (fun h3 => ?_)
 · exact absurd h3 (by omega)
 refine callM [0] [rP l n a e q] (xS zE) rfl (fun bs mm gd => u_wordB l n a e q d (bs.getD 0 0) hl (by omega) (by omega) (by omega) (by omega) mm gd) ?_
 refine rt rfl fun _ => ?_
 show K (.agg [.int .i64 zE.kind, .int .i64 zE.v.kind, .int .i64 zE.v.n, .str zE.v.s, .slice false (zE.v.l.map valIn), .slice false (zE.v.f.map fldIn), .str zE.s, .str zE.t, .slice false (zE.a.map expIn), .slice false (zE.n.map strAV)]) (AMem.wth m [(r, .cells [.slice false (l.map tokAV), .int .i64 a, .int .i64 n, .err 72 e, .int .i64 q])])
 refine hK zE _ _ _ ?_
 exact OX.stuck (by omega) he ha
theorem u_expr (l : List Tok) (n : Int) (hl : l.length ≤ 5000) (hw : TokOk l) : ∀ (k : Nat), k ≤ 7 → ∀ a e q d : Int, d = 7 - (k : Int) → 0 ≤ a → a ≤ l.length → 0 ≤ e → ∀ (r : Nat) (m : AMem), Gd [r] m → Tabs m → ∀ (K : AV → AMem → Prop), (∀ x' a' e' q', OX l (exprP l n k a) x' a e q a' e' q' → K (expTop x') (AMem.wth m [(r, .cells [.slice false (l.map tokAV), .int .i64 a', .int .i64 n, .err 72 e', .int .i64 q'])])) → ACalls Tryd.prog 71 [.ptr ⟨r, 0, none⟩, .int .i64 d] (AMem.wth m [(r, .cells [.slice false (l.map tokAV), .int .i64 a, .int .i64 n, .err 72 e, .int .i64 q])]) K
  | 0, _ => fun a e q d hd h0 ha he r m gd hT K hK => u_exprZ l n a e q 0 d r hl h0 ha he (.inr ⟨rfl, by omega⟩) m gd K hT hK
  | k + 1, hk => fun a e q d hd h0 ha he r m gd hT K hK => by
    by_cases hz : e = 0
    · exact u_expr1 l n a e q k d r (u_expr l n hl hw k (by omega)) hl h0 ha he hw (by omega) (by omega) hz m gd K hT hK
    · exact u_exprZ l n a e q (k + 1) d r hl h0 ha he (.inl hz) m gd K hT hK
end Go.Proofs
end
section
namespace Go.Proofs
open Go Go.Aw Go.Sx
set_option maxRecDepth 100000
theorem take_tw (f : UInt8 → Bool) : ∀ (l : Str), l.take (l.takeWhile f).length = l.takeWhile f
  | [] => rfl
  | c :: r => by
    cases h : f c with
    | true => simp only [List.takeWhile_cons, h, if_true, List.length_cons, List.take_succ_cons, take_tw f r]
    | false => simp [h]
theorem sub_run (f : UInt8 → Bool) (s : Str) {a : Int} (h0 : 0 ≤ a) : sub s a (runI f s a) = (s.drop a.toNat).takeWhile f := by
  have e : (runI f s a - a).toNat = ((s.drop a.toNat).takeWhile f).length := by
    simp only [runI, runN]; omega
  rw [sub, e, take_tw]
theorem tw_mem (f : UInt8 → Bool) : ∀ (l : Str), ∀ c ∈ l.takeWhile f, f c = true
  | [], c, h => by cases h
  | x :: r, c, h => by
    cases hx : f x with
    | true =>
      simp only [List.takeWhile_cons, hx, if_true, List.mem_cons] at h
      rcases h with rfl | h
      · exact hx
      · exact tw_mem f r c h
    | false => simp [hx] at h
theorem oneI_dig {s : Str} {a : Int} (h0 : 0 ≤ a) (ha : a < s.length) (h : (oneI s a).1 = 2) : (oneI s a).2.1 ≠ [] ∧ (oneI s a).2.1.length ≤ 10 ∧ ∀ c ∈ (oneI s a).2.1, 48 ≤ c.toNat ∧ c.toNat ≤ 57 := by
  unfold oneI at h ⊢
  split at h
  · split at h <;> simp at h
  · rename_i h1
    split at h
    · rename_i h2
      split at h
      · simp at h
      · rename_i h3
        rw [if_neg h1, if_pos h2, if_neg h3]
        have e := sub_run digitB s h0
        have hl : (runI digitB s a - a) = (((s.drop a.toNat).takeWhile digitB).length : Int) := by
          simp only [runI, runN]; omega
        refine ⟨?_, ?_, ?_⟩
        · rw [e]
          have hd := drop_gI h0 ha
          rw [hd, List.takeWhile_cons, h2]; simp
        · rw [e]; show (List.takeWhile digitB (List.drop a.toNat s)).length ≤ 10; omega
        · rw [e]; intro c hc
          have := digitB_p.1 (tw_mem digitB _ c hc)
          omega
    · split at h
      · split at h <;> simp at h
      · split at h
        · simp at h
        · split at h <;> simp at h
theorem tokF_ok (s : Str) : ∀ (n : Nat) (a : Int) (out : List Tok), 0 ≤ a → TokOk out → TokOk (tokF n s a out).1
  | 0, a, out, _, h => by rw [tokF]; exact h
  | n + 1, a, out, h0, h => by
    rw [tokF]
    split
    · rename_i ha
      split
      · exact tokF_ok s n _ _ (by omega) h
      · split
        · exact tokF_ok s n _ _ (by have := runI_ge noLineB (s := s) h0; omega) h
        · split
          · intro t ht; cases ht
          · rename_i hb
            have he : (oneI s a).2.2.2 = 0 := by simpa using hb
            refine tokF_ok s n _ _ (by have := (oneI_end h0 ha he).1; omega) fun t ht h2 => ?_
            rcases List.mem_append.1 ht with ht | ht
            · exact h t ht h2
            · rw [List.mem_singleton.1 ht] at h2 ⊢
              exact oneI_dig h0 ha h2
    · exact h
theorem tokR_ok (s : Str) : TokOk (tokR s).1 := by
  unfold tokR
  split
  · intro t ht; cases ht
  · exact tokF_ok s _ _ _ (by omega) fun t ht => by cases ht
end Go.Proofs
end
section
namespace Go.Proofs
open Go Go.Aw Go.Sx
set_option maxRecDepth 100000
mutual
def xcE : Exp → Int
  | .mk _ _ _ _ a _ => xcL a + 1
def xcL : List Exp → Int
  | [] => 0
  | e :: r => xcE e + xcL r
end
mutual
def xdE : Exp → Int
  | .mk _ _ _ _ a _ => xdL a + 1
def xdL : List Exp → Int
  | [] => 0
  | e :: r => max (xdE e) (xdL r)
end
theorem xcE_eq (e : Exp) : xcE e = xcL e.a + 1 := by cases e with | mk k v s t a n => simp only [xcE, Exp.a]
theorem xdE_eq (e : Exp) : xdE e = xdL e.a + 1 := by cases e with | mk k v s t a n => simp only [xdE, Exp.a]
theorem xcL_drop {l : List Exp} {i : Int} (h0 : 0 ≤ i) (hi : i < l.length) : xcL (l.drop i.toNat) = xcE (gI l i) + xcL (l.drop (i + 1).toNat) := by rw [drop_gI h0 hi, xcL]
theorem xdL_drop {l : List Exp} {i : Int} (h0 : 0 ≤ i) (hi : i < l.length) : xdL (l.drop i.toNat) = max (xdE (gI l i)) (xdL (l.drop (i + 1).toNat)) := by rw [drop_gI h0 hi, xdL]
mutual
theorem xc_dep : ∀ e : Exp, 1 ≤ xcE e ∧ xcE e ≤ depE e ∧ 1 ≤ xdE e ∧ xdE e ≤ xcE e
  | .mk k v s t a n => by
    have h := xc_depL a
    simp only [xcE, xdE, depE]
    omega
theorem xc_depL : ∀ l : List Exp, 0 ≤ xcL l ∧ xcL l ≤ depEL l ∧ 0 ≤ xdL l ∧ xdL l ≤ xcL l
  | [] => by simp [xcL, xdL, depEL]
  | e :: r => by
    have h1 := xc_dep e
    have h2 := xc_depL r
    simp only [xcL, xdL, depEL]
    omega
end
end Go.Proofs
end
section
namespace Go.Proofs
open Go Go.Aw Go.Sx
set_option maxRecDepth 100000
set_option maxHeartbeats 1000000 in
theorem u_size1 (k : Nat) (e : Exp) (d lf : Int) (p : Nat) (ih : ∀ x : Exp, depE x < k → ∀ d lf : Int, 0 ≤ d → d ≤ 100 → 0 ≤ lf → lf ≤ 60 → ∀ (p : Nat) (m : AMem), Gd [p] m → ∀ (K : AV → AMem → Prop), (∀ f', f' = lf - xcE x ∧ xdE x + d ≤ 7 ∧ xcE x ≤ lf → K (.bool true) (AMem.wth m [(p, .cells [.int .i64 f'])])) → (∀ f', ¬(xdE x + d ≤ 7 ∧ xcE x ≤ lf) ∧ -1 ≤ f' ∧ f' ≤ lf → K (.bool false) (AMem.wth m [(p, .cells [.int .i64 f'])])) → ACalls Tryd.prog 72 [expTop x, .int .i64 d, .ptr ⟨p, 0, none⟩] (AMem.wth m [(p, .cells [.int .i64 lf])]) K) (hd : depE e < k + 1) (q0 : 0 ≤ d) (q1 : d ≤ 100) (q2 : 0 ≤ lf) (q3 : lf ≤ 60) (m : AMem) (gd : Gd [p] m) (K : AV → AMem → Prop) (k1 : ∀ f', f' = lf - xcE e ∧ xdE e + d ≤ 7 ∧ xcE e ≤ lf → K (.bool true) (AMem.wth m [(p, .cells [.int .i64 f'])])) (k2 : ∀ f', ¬(xdE e + d ≤ 7 ∧ xcE e ≤ lf) ∧ -1 ≤ f' ∧ f' ≤ lf → K (.bool false) (AMem.wth m [(p, .cells [.int .i64 f'])])) : ACalls Tryd.prog 72 [expTop e, .int .i64 d, .ptr ⟨p, 0, none⟩] (AMem.wth m [(p, .cells [.int .i64 lf])]) K := by
 have w0 := xc_dep e
 have w1 := xcE_eq e
 have w2 := xdE_eq e
 have w3 := xc_depL e.a
 refine enter (c := cf [] [0] [2] [] [] [p]) (vs := [.av (expTop e), .av (.int .i64 d), .loc 0 0]) (L := [.cells [vI lf]]) (m := m) false tbOk Tryd.mixed Tryd.func72 rfl (k := 3) (by show fnOk [] _ _ _ = true; decide +kernel) rfl (gd.good rfl) ?_
 refine ⟨fun F0 => ?_⟩
 have hbd0_3 : e.v.s.length ≤ 140737488355328 := (F0 0 3 (Nat.le_of_ble_eq_true rfl))
 have hbd0_4 : e.v.l.length ≤ 140737488355328 := bd_map (F0 0 4 (Nat.le_of_ble_eq_true rfl))
 have hbd0_5 : e.v.f.length ≤ 140737488355328 := bd_map (F0 0 5 (Nat.le_of_ble_eq_true rfl))
 have hbd0_6 : e.s.length ≤ 140737488355328 := (F0 0 6 (Nat.le_of_ble_eq_true rfl))
 have hbd0_7 : e.t.length ≤ 140737488355328 := (F0 0 7 (Nat.le_of_ble_eq_true rfl))
 have hbd0_8 : e.a.length ≤ 140737488355328 := bd_map (F0 0 8 (Nat.le_of_ble_eq_true rfl))
 have hbd0_9 : e.n.length ≤ 140737488355328 := bd_map (F0 0 9 (Nat.le_of_ble_eq_true rfl))
 refine an (by omega) ?_
 refine sq ?_
 refine mg [1, 2, 3] 21 ((decide (6 < d)) || (decide (lf - 1 < 0))) ?_ ?_
 · repeat' first
    | exact ⟨⟨_, rfl, by grind [SB.val]⟩, rfl⟩
    | refine an (fun _ => ?_) (fun _ => ?_)
 refine an (fun h1 => ?_) (fun h1 => ?_)
 · replace h1 : (6 < d) ∨ (lf - 1 < 0) := ((borT h1).imp (fun q => (of_decide_eq_true q)) (fun q => (of_decide_eq_true q)))
   refine rt rfl fun _ => ?_
   show K (.bool false) (AMem.wth m [(p, .cells [.int .i64 (lf - 1)])])
   exact k2 _ ⟨by omega, by omega, by omega⟩
 replace h1 : (d ≤ 6) ∧ (0 ≤ lf - 1) := ⟨(Int.not_lt.1 (of_decide_eq_false (borL h1))), (Int.not_lt.1 (of_decide_eq_false (borR h1)))⟩
 refine sq ?_
 refine ln ?_
 refine lp (σ := Int × Int) [] [1, 2, 23, 24, 25] 2 (fun ⟨i, f2⟩ => ([(1, vI d), (2, .loc 0 0), (23, vL (e.a.map expIn)), (24, vI (e.a.length : Int)), (25, vI i)], [.cells [vI f2], .cells [vI e.kind, vI e.v.kind, vI e.v.n, vS e.v.s, vL (e.v.l.map valIn), vL (e.v.f.map fldIn), vS e.s, vS e.t, vL (e.a.map expIn), vL (e.n.map strAV)]], m)) (fun ⟨i, f2⟩ => 0 ≤ i ∧ i ≤ e.a.length ∧ 0 ≤ f2 ∧ f2 ≤ lf ∧ xcE e = lf - f2 + xcL (e.a.drop i.toNat) ∧ xdE e ≤ max (7 - d) (xdL (e.a.drop i.toNat) + 1) ∧ xdL (e.a.drop i.toNat) ≤ xdL e.a) (fun ⟨i, f2⟩ => e.a.length - i.toNat) (0, lf - 1) ⟨rfl, rfl⟩ ?_ ?_
 · try dsimp only
   exact ⟨by omega, by omega, by omega, by omega, by show _ = _ + xcL e.a; omega, by show _ ≤ max _ (xdL e.a + 1); omega, Int.le_refl _⟩
 rintro ⟨i, f2⟩ hI
 dsimp only at hI
 refine sq ?_
 refine an (fun h2 => ?_) (fun h2 => ?_)
 · have s1 := xcL_drop hI.1 h2
   have s2 := xdL_drop hI.1 h2
   have s3 := xc_dep (gI e.a i)
   have s4 := xc_depL (e.a.drop (i + 1).toNat)
   refine sq ?_
   refine ixg expTop expIn_eq (by omega) ?_
   refine an (by omega) ?_
   refine callY 72 [0] (σ := (Int) ⊕ (Int)) (Sum.elim (fun f_1 => f_1 = f2 - xcE (gI e.a i) ∧ xdE (gI e.a i) + (d + 1) ≤ 7 ∧ xcE (gI e.a i) ≤ f2) (fun f_1 => ¬(xdE (gI e.a i) + (d + 1) ≤ 7 ∧ xcE (gI e.a i) ≤ f2) ∧ -1 ≤ f_1 ∧ f_1 ≤ f2)) (Sum.elim (fun f_1 => .b (.lit true)) (fun f_1 => .b (.lit false))) (Sum.elim (fun f_1 => [.cells [vI f_1]]) (fun f_1 => [.cells [vI f_1]])) rfl (fun x => by rcases x with _ | _ <;> rfl) (fun bs mm gd ht K hK => ih (gI e.a i) (by have := depE_mem (gI_mem (l := e.a) (i := i) hI.1 (by assumption)); omega) (d + 1) f2 (by omega) (by omega) (by omega) (by omega) (bs.getD 0 0) mm gd K (fun f hh => hK (.inl f) hh) (fun f hh => hK (.inr f) hh)) ?_
   rintro (f_1 | f_1) hx1
   · try dsimp only [Sum.elim_inl, Sum.elim_inr] at hx1
     dsimp only [Sum.elim_inl, Sum.elim_inr]
     refine an (by omega) ?_
     refine ⟨(i + 1, f_1), ⟨rfl, rfl⟩, ?_, ?_⟩
     · try dsimp only
       (first | omega | (simp_all; done) | (simp_all; omega))
     try dsimp only
     omega
   try dsimp only [Sum.elim_inl, Sum.elim_inr] at hx1
   dsimp only [Sum.elim_inl, Sum.elim_inr]
   refine rt rfl fun _ => ?_
   show K (.bool false) (AMem.wth m [(p, .cells [.int .i64 f_1])])
   exact k2 _ ⟨by omega, by omega, by omega⟩
 rw [List.drop_eq_nil_of_le (by omega)] at hI
 simp only [xcL, xdL] at hI
 refine rt rfl fun _ => ?_
 show K (.bool true) (AMem.wth m [(p, .cells [.int .i64 f2])])
 exact k1 _ ⟨by omega, by omega, by omega⟩
end Go.Proofs
end
section
namespace Go.Proofs
open Go Go.Aw Go.Sx
set_option maxRecDepth 100000
theorem u_size : ∀ (k : Nat) (e : Exp), depE e < k → ∀ d lf : Int, 0 ≤ d → d ≤ 100 → 0 ≤ lf → lf ≤ 60 → ∀ (p : Nat) (m : AMem), Gd [p] m → ∀ (K : AV → AMem → Prop), (∀ f', f' = lf - xcE e ∧ xdE e + d ≤ 7 ∧ xcE e ≤ lf → K (.bool true) (AMem.wth m [(p, .cells [.int .i64 f'])])) → (∀ f', ¬(xdE e + d ≤ 7 ∧ xcE e ≤ lf) ∧ -1 ≤ f' ∧ f' ≤ lf → K (.bool false) (AMem.wth m [(p, .cells [.int .i64 f'])])) → ACalls Tryd.prog 72 [expTop e, .int .i64 d, .ptr ⟨p, 0, none⟩] (AMem.wth m [(p, .cells [.int .i64 lf])]) K
  | 0, _, h => absurd h (Nat.not_lt_zero _)
  | k + 1, e, h => fun d lf h0 h1 h2 h3 p m gd K k1 k2 => u_size1 k e d lf p (fun x hx => u_size k x hx) h h0 h1 h2 h3 m gd K k1 k2
def NamesOk (l : List Str) : Prop := ∀ i : Int, 0 ≤ i → i < l.length → nameV (gI l i) = true ∧ (0 < i → Op.bytesLess (gI l (i - 1)) (gI l i) = true)
structure Sw (e : Exp) (many names : Int) (s t : Bool) : Prop where
  h : (e.kind = 1 ∧ many = 0 ∧ names = 0 ∧ s = (e.s == []) ∧ t = (e.t == [])) ∨ (e.kind = 2 ∧ many = 0 ∧ names = 0 ∧ s = nameV e.s ∧ t = (e.t == [])) ∨ ((e.kind = 3 ∨ e.kind = 4) ∧ many = 0 ∧ names = 0 ∧ s = nameV e.s ∧ t = nameV e.t) ∨
    ((e.kind = 5 ∨ e.kind = 6) ∧ many = 2 ∧ names = 0 ∧ s = (e.s == []) ∧ t = (e.t == [])) ∨ (e.kind = 7 ∧ many = 3 ∧ names = 0 ∧ s = (e.s == []) ∧ t = (e.t == [])) ∨ (e.kind = 8 ∧ many = e.a.length ∧ names = 0 ∧ s = (e.s == []) ∧ t = (e.t == [])) ∨
    (e.kind = 9 ∧ NamesOk e.n ∧ many = e.a.length ∧ names = e.a.length ∧ s = (e.s == []) ∧ t = (e.t == [])) ∨ (e.kind = 10 ∧ many = 1 ∧ names = 0 ∧ s = nameV e.s ∧ t = (e.t == []))
def NodeOk (e : Exp) : Prop :=
  (e.kind = 1 ∧ e.s = [] ∧ e.t = [] ∧ (e.v.kind ≤ 3 ∧ chk e.v = 0) ∧ e.a = [] ∧ e.n = []) ∨
  (e.v = zV ∧ ((e.kind = 2 ∧ nameV e.s = true ∧ e.t = [] ∧ e.a = [] ∧ e.n = []) ∨ ((e.kind = 3 ∨ e.kind = 4) ∧ nameV e.s = true ∧ nameV e.t = true ∧ e.a = [] ∧ e.n = []) ∨ ((e.kind = 5 ∨ e.kind = 6) ∧ e.s = [] ∧ e.t = [] ∧ e.a.length = 2 ∧ e.n = []) ∨
    (e.kind = 7 ∧ e.s = [] ∧ e.t = [] ∧ e.a.length = 3 ∧ e.n = []) ∨ (e.kind = 8 ∧ e.s = [] ∧ e.t = [] ∧ e.n = []) ∨ (e.kind = 9 ∧ e.s = [] ∧ e.t = [] ∧ e.a.length = e.n.length ∧ NamesOk e.n) ∨ (e.kind = 10 ∧ nameV e.s = true ∧ e.t = [] ∧ e.a.length = 1 ∧ e.n = [])))
theorem NodeOk.sw {e : Exp} {many names : Int} {s t : Bool} (w : Sw e many names s t) : NodeOk e ↔ s = true ∧ t = true ∧ ((e.kind = 1 ∧ e.v.kind ≤ 3 ∧ chk e.v = 0) ∨ (e.kind ≠ 1 ∧ e.v = zV)) ∧ (e.a.length : Int) = many ∧ (e.n.length : Int) = names := by
  have l1 : (e.a.length : Int) = 0 ↔ e.a = [] := by rw [← List.length_eq_zero_iff]; omega
  have l2 : (e.n.length : Int) = 0 ↔ e.n = [] := by rw [← List.length_eq_zero_iff]; omega
  unfold NodeOk
  rcases w.h with ⟨hk, rfl, rfl, rfl, rfl⟩ | ⟨hk, rfl, rfl, rfl, rfl⟩ | ⟨hk | hk, rfl, rfl, rfl, rfl⟩ | ⟨hk | hk, rfl, rfl, rfl, rfl⟩ | ⟨hk, rfl, rfl, rfl, rfl⟩ | ⟨hk, rfl, rfl, rfl, rfl⟩ | ⟨hk, hn, rfl, rfl, rfl, rfl⟩ | ⟨hk, rfl, rfl, rfl, rfl⟩ <;> simp only [hk, l1, l2] <;> simp <;> grind
theorem NodeOk.no {e : Exp} (h : ¬(1 ≤ e.kind ∧ e.kind ≤ 10)) : ¬ NodeOk e := by
  unfold NodeOk; omega
theorem NodeOk.n9 {e : Exp} (h : e.kind = 9) (hn : ¬ NamesOk e.n) : ¬ NodeOk e := by
  unfold NodeOk; simp only [h]; simp [hn]
mutual
def fmE : Exp → Prop
  | .mk k v s t a n => NodeOk (.mk k v s t a n) ∧ fmL a
def fmL : List Exp → Prop
  | [] => True
  | e :: r => fmE e ∧ fmL r
end
theorem fmE_eq (e : Exp) : fmE e ↔ NodeOk e ∧ fmL e.a := by cases e with | mk k v s t a n => simp only [fmE, Exp.a]
theorem fmL_drop {l : List Exp} {i : Int} (h0 : 0 ≤ i) (hi : i < l.length) : fmL (l.drop i.toNat) ↔ fmE (gI l i) ∧ fmL (l.drop (i + 1).toNat) := by rw [drop_gI h0 hi, fmL]
open Classical in
noncomputable def fmI (e : Exp) : Int := if fmE e then 0 else 3
open Classical in
noncomputable def exF (e : Exp) : Int := if 60 < xcE e ∨ 6 < xdE e then 2 else fmI e
theorem u_plain (v : Val)  (m : AMem)  (K : AV → AMem → Prop) (hK : K (.bool (decide (v.kind ≤ 3) && (chk v == 0))) m) : ACalls Tryd.prog 78 [valTop v] m K := by
 refine enter (c := cf [] [] [1] [] [] []) (vs := [.av (valTop v)]) (L := []) (m := m) false tbOk Tryd.mixed Tryd.func78 rfl (k := 1) (by show fnOk [] _ _ _ = true; decide +kernel) rfl (Good.nil m) ?_
 refine mg [] 2 ((decide (v.kind ≤ 3)) && ((chk v) == 0)) ?_ ?_
 · repeat' first
    | exact ⟨⟨_, rfl, by grind [SB.val]⟩, rfl⟩
    | refine an (fun _ => ?_) (fun _ => ?_)
    | refine call0 (fun _ => u_Check v) rfl ?_
 exact rt0 rfl fun _ => hK
end Go.Proofs
end
