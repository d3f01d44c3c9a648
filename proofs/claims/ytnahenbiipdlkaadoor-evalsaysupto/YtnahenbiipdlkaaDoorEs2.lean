import Derived.Test.YtnahenbiipdlkaaDoorPx14
import Derived.Test.YtnahenbiipdlkaaDoorWyX
import Derived.Test.YtnahenbiipdlkaaDoorSv4
section
namespace Go.Proofs
open Go Go.Aw Go.Sx
set_option maxRecDepth 100000
theorem fmI_0 {e : Exp} : fmI e = 0 ↔ fmE e := by unfold fmI; split <;> simp [*]
theorem fmI_y {e : Exp} (h : fmE e) : fmI e = 0 := fmI_0.2 h
theorem fmI_n {e : Exp} (h : ¬ fmE e) : fmI e = 3 := by unfold fmI; rw [if_neg h]
theorem fmI_3 {e : Exp} (h : fmI e ≠ 0) : fmI e = 3 := fmI_n fun hh => h (fmI_0.2 hh)
theorem fm_node {e : Exp} (h : ¬ NodeOk e) : fmI e = 3 := fmI_n fun hh => h ((fmE_eq e).1 hh).1
theorem fm_kid {e : Exp} {i : Int} (h0 : 0 ≤ i) (hi : i < e.a.length) (hf : fmL e.a ↔ fmL (e.a.drop i.toNat)) (h : fmI (gI e.a i) ≠ 0) : fmI e = fmI (gI e.a i) := by
  rw [fmI_3 h]
  refine fmI_n fun hh => h (fmI_0.2 ?_)
  exact ((fmL_drop h0 hi).1 (hf.1 ((fmE_eq e).1 hh).2)).1
theorem fm_step {e : Exp} {i : Int} (h0 : 0 ≤ i) (hi : i < e.a.length) (hf : fmL e.a ↔ fmL (e.a.drop i.toNat)) (h : fmI (gI e.a i) = 0) : fmL e.a ↔ fmL (e.a.drop (i + 1).toNat) :=
  hf.trans ((fmL_drop h0 hi).trans ⟨fun h => h.2, fun h2 => ⟨fmI_0.1 h, h2⟩⟩)
theorem fm_end {e : Exp} {i : Int} (hi : (e.a.length : Int) ≤ i) (hf : fmL e.a ↔ fmL (e.a.drop i.toNat)) (h : NodeOk e) : fmI e = 0 := by
  rw [List.drop_eq_nil_of_le (by omega)] at hf
  exact fmI_y ((fmE_eq e).2 ⟨h, hf.2 (by simp only [fmL])⟩)
open Classical in
theorem exF_nn (e : Exp) : 0 ≤ exF e := by
  unfold exF fmI; split
  · decide
  · split <;> decide
mutual
def szE : Exp → Nat
  | .mk _ v _ _ a n => depV v + n.length + szL a + 1
def szL : List Exp → Nat
  | [] => 0
  | e :: r => szE e + szL r
end
theorem szE_eq (e : Exp) : szE e = depV e.v + e.n.length + szL e.a + 1 := by
  cases e with
  | mk k v s t a n => simp only [szE, Exp.a, Exp.v, Exp.n]
theorem szL_mem {l : List Exp} {e : Exp} (h : e ∈ l) : szE e ≤ szL l := by
  induction l with
  | nil => cases h
  | cons a r ih =>
    simp only [szL]
    rcases List.mem_cons.1 h with rfl | h
    · omega
    · have := ih h; omega
theorem szL_len (l : List Exp) : l.length ≤ szL l := by
  induction l with
  | nil => simp
  | cons a r ih => simp only [szL, List.length_cons]; have := szE_eq a; omega
theorem names_step {l : List Str} {i : Int} (h : ∀ j : Int, 0 ≤ j → j < i → nameV (gI l j) = true ∧ (0 < j → Op.bytesLess (gI l (j - 1)) (gI l j) = true)) (h1 : nameV (gI l i) = true) (h2 : 0 < i → Op.bytesLess (gI l (i - 1)) (gI l i) = true) :
    ∀ j : Int, 0 ≤ j → j < i + 1 → nameV (gI l j) = true ∧ (0 < j → Op.bytesLess (gI l (j - 1)) (gI l j) = true) := fun j h0 hj => by
  rcases Int.lt_or_le j i with hh | hh
  · exact h j h0 hh
  · obtain rfl : j = i := by omega
    exact ⟨h1, h2⟩
set_option maxHeartbeats 4000000 in
theorem u_check1 (k : Nat) (e : Exp) (ih : ∀ x : Exp, depE x < k → ∀ (m : AMem) (K : AV → AMem → Prop), K (.err 72 (fmI x)) m → ACalls Tryd.prog 73 [expTop x] m K) (hd : depE e < k + 1) (m : AMem)  (K : AV → AMem → Prop) (hK : K (.err 72 (fmI e)) m) : ACalls Tryd.prog 73 [expTop e] m K := by
 refine enter (c := cf [] [0, 23] [23, 28, 29] [] [] []) (vs := [.av (expTop e)]) (L := []) (m := m) true tbOk Tryd.mixed Tryd.func73 rfl (k := 1) (by show fnOk [] _ _ _ = true; decide +kernel) rfl (Good.nil m) ?_
 refine ⟨fun F0 => ?_⟩
 have hbd0_3 : e.v.s.length ≤ 140737488355328 := (F0 0 3 (Nat.le_of_ble_eq_true rfl))
 have hbd0_4 : e.v.l.length ≤ 140737488355328 := bd_map (F0 0 4 (Nat.le_of_ble_eq_true rfl))
 have hbd0_5 : e.v.f.length ≤ 140737488355328 := bd_map (F0 0 5 (Nat.le_of_ble_eq_true rfl))
 have hbd0_6 : e.s.length ≤ 140737488355328 := (F0 0 6 (Nat.le_of_ble_eq_true rfl))
 have hbd0_7 : e.t.length ≤ 140737488355328 := (F0 0 7 (Nat.le_of_ble_eq_true rfl))
 have hbd0_8 : e.a.length ≤ 140737488355328 := bd_map (F0 0 8 (Nat.le_of_ble_eq_true rfl))
 have hbd0_9 : e.n.length ≤ 140737488355328 := bd_map (F0 0 9 (Nat.le_of_ble_eq_true rfl))
 refine jn (σ := Int × Int × Bool × Bool) [(3, 0), (4, 0), (5, 0), (6, 0)] [1, 3, 4, 5, 6] 1 (fun ⟨mn, nn, sb, tb⟩ => ([(1, .loc 0 0), (3, vI mn), (4, vI nn), (5, vB sb), (6, vB tb)], [.cells [vI e.kind, vI e.v.kind, vI e.v.n, vS e.v.s, vL (e.v.l.map valIn), vL (e.v.f.map fldIn), vS e.s, vS e.t, vL (e.a.map expIn), vL (e.n.map strAV)]], m)) (fun ⟨mn, nn, sb, tb⟩ => Sw e mn nn sb tb) ?_ ?_
 · rintro ⟨mn, nn, sb, tb⟩ hj0
   refine mg [1, 3, 4, 5, 6] 9 (((e.kind == 1) && (decide (e.v.kind ≤ 3) && (chk e.v == 0))) || ((!(e.kind == 1)) && (vEq e.v zV))) ?_ ?_
   · repeat' first
      | exact ⟨⟨_, rfl, by grind [SB.val]⟩, rfl⟩
      | refine an (fun _ => ?_) (fun _ => ?_)
      | refine call0 (fun _ => u_plain e.v) rfl ?_
      | refine call0 (fun _ => u_Alike e.v zV) rfl ?_
   refine sq ?_
   refine mg [1] 130 (((((!sb) || (!tb)) || (!(((e.kind == 1) && (decide (e.v.kind ≤ 3) && (chk e.v == 0))) || ((!(e.kind == 1)) && (vEq e.v zV))))) || (!((e.a.length : Int) == mn))) || (!((e.n.length : Int) == nn))) ?_ ?_
   · repeat' first
      | exact ⟨⟨_, rfl, by grind [SB.val]⟩, rfl⟩
      | refine an (fun _ => ?_) (fun _ => ?_)
      | refine ln ?_
   refine an (fun h1 => ?_) (fun h1 => ?_)
   · replace h1 : ((((sb = false) ∨ (tb = false)) ∨ (((e.kind ≠ 1) ∨ ((decide (e.v.kind ≤ 3) && (chk e.v == 0)) = false)) ∧ ((e.kind = 1) ∨ (vEq e.v zV = false)))) ∨ ((e.a.length : Int) ≠ mn)) ∨ ((e.n.length : Int) ≠ nn) := ((borT h1).imp (fun q => ((borT q).imp (fun q => ((borT q).imp (fun q => ((borT q).imp (fun q => (bnT q)) (fun q => (bnT q)))) (fun q => ⟨((bandF (borL (bnT q))).imp (fun q => (ne_of_beq_false q)) (fun q => q)), ((bandF (borR (bnT q))).imp (fun q => (eq_of_beq (bnF q))) (fun q => q))⟩))) (fun q => (ne_of_beq_false (bnT q))))) (fun q => (ne_of_beq_false (bnT q))))
     refine rt0 rfl fun _ => ?_
     show K (.err 72 3) m
     rw [fm_node fun hh => by have := (NodeOk.sw hj0).1 hh; have := @vEq_iff e.v zV; grind] at hK; exact hK
   replace h1 : ((((sb = true) ∧ (tb = true)) ∧ (((e.kind = 1) ∧ ((decide (e.v.kind ≤ 3) && (chk e.v == 0)) = true)) ∨ ((e.kind ≠ 1) ∧ (vEq e.v zV = true)))) ∧ ((e.a.length : Int) = mn)) ∧ ((e.n.length : Int) = nn) := ⟨⟨⟨⟨(bnF (borL (borL (borL (borL h1))))), (bnF (borR (borL (borL (borL h1)))))⟩, ((borT (bnF (borR (borL (borL h1))))).imp (fun q => ⟨(eq_of_beq (bandL q)), (bandR q)⟩) (fun q => ⟨(ne_of_beq_false (bnT (bandL q))), (bandR q)⟩))⟩, (eq_of_beq (bnF (borR (borL h1))))⟩, (eq_of_beq (bnF (borR h1)))⟩
   have hno : NodeOk e := (NodeOk.sw hj0).2 (by have := @vEq_iff e.v zV; grind)
   refine sq ?_
   refine ln ?_
   refine lp (σ := Int) [] [133, 134, 135] 1 (fun i => ([(133, vL (e.a.map expIn)), (134, vI (e.a.length : Int)), (135, vI i)], [.cells [vI e.kind, vI e.v.kind, vI e.v.n, vS e.v.s, vL (e.v.l.map valIn), vL (e.v.f.map fldIn), vS e.s, vS e.t, vL (e.a.map expIn), vL (e.n.map strAV)]], m)) (fun i => 0 ≤ i ∧ i ≤ e.a.length ∧ (fmL e.a ↔ fmL (e.a.drop i.toNat))) (fun i => e.a.length - i.toNat) (0) ⟨rfl, rfl⟩ ?_ ?_
   · try dsimp only
     exact ⟨by omega, by omega, Iff.rfl⟩
   rintro i hI
   refine sq ?_
   refine an (fun h2 => ?_) (fun h2 => ?_)
   · refine sq ?_
     refine ixg expTop expIn_eq (by omega) ?_
     refine call0 (fun _ => ih (gI e.a i) (by have := depE_mem (gI_mem (l := e.a) (i := i) hI.1 (by assumption)); omega)) rfl ?_
     refine an (fun h3 => ?_) (fun h3 => ?_)
     · refine an (by omega) ?_
       refine ⟨(i + 1), ⟨rfl, rfl⟩, ?_, ?_⟩
       · try dsimp only
         exact ⟨by omega, by omega, fm_step hI.1 (by assumption) hI.2.2 (by omega)⟩
       try dsimp only
       omega
     refine rt0 rfl fun _ => ?_
     show K (.err 72 (fmI (gI e.a i))) m
     rw [fm_kid hI.1 (by assumption) hI.2.2 (by assumption)] at hK; exact hK
   refine rt0 rfl fun _ => ?_
   show K (.err 72 0) m
   rw [fm_end (by omega) hI.2.2 hno] at hK; exact hK
 refine an (fun h4 => ?_) (fun h4 => ?_)
 · refine ⟨(0, 0, (e.s == ([])), (e.t == ([]))), ⟨rfl, rfl⟩, ?_⟩
   exact ⟨.inl ⟨by assumption, rfl, rfl, rfl, rfl⟩⟩
 refine an (fun h5 => ?_) (fun h5 => ?_)
 · refine call0 (fun _ => u_VName e.s (by first | omega | exact hbN)) rfl ?_
   refine ⟨(0, 0, (nameV e.s), (e.t == ([]))), ⟨rfl, rfl⟩, ?_⟩
   exact ⟨.inr (.inl ⟨by assumption, rfl, rfl, rfl, rfl⟩)⟩
 refine sq ?_
 refine an (fun h6 => ?_) (fun h6 => ?_)
 · refine an (fun h7 => ?_) (fun h7 => ?_)
   · refine pure0 (fun _ => u_VName e.s (by first | omega | exact hbN)) ?_
     refine pure0 (fun _ => u_VName e.t (by first | omega | exact hbN)) ?_
     refine ⟨(0, 0, (nameV e.s), (nameV e.t)), ⟨rfl, rfl⟩, ?_⟩
     exact ⟨.inr (.inr (.inl ⟨.inl (by assumption), rfl, rfl, rfl, rfl⟩))⟩
   exact absurd h6 h7
 refine an (fun h8 => ?_) (fun h8 => ?_)
 · refine pure0 (fun _ => u_VName e.s (by first | omega | exact hbN)) ?_
   refine pure0 (fun _ => u_VName e.t (by first | omega | exact hbN)) ?_
   refine ⟨(0, 0, (nameV e.s), (nameV e.t)), ⟨rfl, rfl⟩, ?_⟩
   exact ⟨.inr (.inr (.inl ⟨.inr (by assumption), rfl, rfl, rfl, rfl⟩))⟩
 refine sq ?_
 refine an (fun h9 => ?_) (fun h9 => ?_)
 · refine an (fun h10 => ?_) (fun h10 => ?_)
   · refine ⟨(2, 0, (e.s == ([])), (e.t == ([]))), ⟨rfl, rfl⟩, ?_⟩
     exact ⟨.inr (.inr (.inr (.inl ⟨.inl (by assumption), rfl, rfl, rfl, rfl⟩)))⟩
   exact absurd h9 h10
 refine an (fun h11 => ?_) (fun h11 => ?_)
 · refine ⟨(2, 0, (e.s == ([])), (e.t == ([]))), ⟨rfl, rfl⟩, ?_⟩
   exact ⟨.inr (.inr (.inr (.inl ⟨.inr (by assumption), rfl, rfl, rfl, rfl⟩)))⟩
 refine an (fun h12 => ?_) (fun h12 => ?_)
 · refine ⟨(3, 0, (e.s == ([])), (e.t == ([]))), ⟨rfl, rfl⟩, ?_⟩
   exact ⟨.inr (.inr (.inr (.inr (.inl ⟨by assumption, rfl, rfl, rfl, rfl⟩))))⟩
 refine an (fun h13 => ?_) (fun h13 => ?_)
 · refine ln ?_
   refine ⟨((e.a.length : Int), 0, (e.s == ([])), (e.t == ([]))), ⟨rfl, rfl⟩, ?_⟩
   exact ⟨.inr (.inr (.inr (.inr (.inr (.inl ⟨by assumption, rfl, rfl, rfl, rfl⟩)))))⟩
 refine an (fun h14 => ?_) (fun h14 => ?_)
 · refine ln ?_
   refine ln ?_
   refine ln ?_
   refine lp (σ := Int) [] [1, 3, 4, 5, 6, 57, 58, 59] 1 (fun i => ([(1, .loc 0 0), (3, vI (e.a.length : Int)), (4, vI (e.a.length : Int)), (5, vB (e.s == ([]))), (6, vB (e.t == ([]))), (57, vL (e.n.map strAV)), (58, vI (e.n.length : Int)), (59, vI i)], [.cells [vI e.kind, vI e.v.kind, vI e.v.n, vS e.v.s, vL (e.v.l.map valIn), vL (e.v.f.map fldIn), vS e.s, vS e.t, vL (e.a.map expIn), vL (e.n.map strAV)]], m)) (fun i => 0 ≤ i ∧ i ≤ e.n.length ∧ ∀ j : Int, 0 ≤ j → j < i → nameV (gI e.n j) = true ∧ (0 < j → Op.bytesLess (gI e.n (j - 1)) (gI e.n j) = true)) (fun i => e.n.length - i.toNat) (0) ⟨rfl, rfl⟩ ?_ ?_
   · try dsimp only
     exact ⟨by omega, by omega, fun j h0 hj => by omega⟩
   rintro i hI
   refine sq ?_
   refine an (fun h15 => ?_) (fun h15 => ?_)
   · refine sq ?_
     refine ix (by omega) ?_
     refine ⟨fun F23 => ?_⟩
     have hbN : (gI e.n i).length ≤ 140737488355328 := bdL_map (f := strAV) (F23 57).2 (gI_mem hI.1 (by assumption)) 0 (Nat.succ_pos _)
     refine mg [1, 3, 4, 5, 6, 57, 58, 59] 80 ((!(nameV (gI e.n i))) || ((decide (0 < i)) && (!(Op.bytesLess (gI e.n (i - 1)) (gI e.n i))))) ?_ ?_
     · repeat' first
        | exact ⟨⟨_, rfl, by grind [SB.val]⟩, rfl⟩
        | refine an (fun _ => ?_) (fun _ => ?_)
        | refine call0 (fun _ => u_VName (gI e.n i) (by first | omega | exact hbN)) rfl ?_
        | refine an (by omega) ?_
        | refine ix (by omega) ?_
     refine an (fun h16 => ?_) (fun h16 => ?_)
     · replace h16 : (nameV (gI e.n i) = false) ∨ ((0 < i) ∧ (Op.bytesLess (gI e.n (i - 1)) (gI e.n i) = false)) := ((borT h16).imp (fun q => (bnT q)) (fun q => ⟨(of_decide_eq_true (bandL q)), (bnT (bandR q))⟩))
       refine rt0 rfl fun _ => ?_
       show K (.err 72 3) m
       rw [fm_node (NodeOk.n9 (by assumption) fun hh => by have := hh i hI.1 (by assumption); grind)] at hK; exact hK
     replace h16 : (nameV (gI e.n i) = true) ∧ ((i ≤ 0) ∨ (Op.bytesLess (gI e.n (i - 1)) (gI e.n i) = true)) := ⟨(bnF (borL h16)), ((bandF (borR h16)).imp (fun q => (Int.not_lt.1 (of_decide_eq_false q))) (fun q => (bnF q)))⟩
     refine an (by omega) ?_
     refine ⟨(i + 1), ⟨rfl, rfl⟩, ?_, ?_⟩
     · try dsimp only
       exact ⟨by omega, by omega, names_step hI.2.2 (by grind) (by grind)⟩
     try dsimp only
     omega
   refine ⟨((e.a.length : Int), (e.a.length : Int), (e.s == ([])), (e.t == ([]))), ⟨rfl, rfl⟩, ?_⟩
   exact ⟨.inr (.inr (.inr (.inr (.inr (.inr (.inl ⟨by assumption, fun j h0 hj => hI.2.2 j h0 (by omega), rfl, rfl, rfl, rfl⟩))))))⟩
 refine an (fun h17 => ?_) (fun h17 => ?_)
 · refine call0 (fun _ => u_VName e.s (by first | omega | exact hbN)) rfl ?_
   refine ⟨(1, 0, (nameV e.s), (e.t == ([]))), ⟨rfl, rfl⟩, ?_⟩
   exact ⟨.inr (.inr (.inr (.inr (.inr (.inr (.inr ⟨by assumption, rfl, rfl, rfl, rfl⟩))))))⟩
 refine rt0 rfl fun _ => ?_
 show K (.err 72 3) m
 rw [fm_node (NodeOk.no (by omega))] at hK; exact hK
theorem u_check : ∀ (k : Nat) (e : Exp), depE e < k → ∀ (m : AMem) (K : AV → AMem → Prop), K (.err 72 (fmI e)) m → ACalls Tryd.prog 73 [expTop e] m K
  | 0, _, h => absurd h (Nat.not_lt_zero _)
  | k + 1, e, h => fun m K hK => u_check1 k e (fun x hx => u_check k x hx) h m K hK
theorem exF_many {e : Exp} (h : ¬(xdE e + 1 ≤ 7 ∧ xcE e ≤ 60)) : exF e = 2 := by unfold exF; rw [if_pos (by omega)]
theorem exF_few {e : Exp} (h : xdE e + 1 ≤ 7 ∧ xcE e ≤ 60) : exF e = fmI e := by unfold exF; rw [if_neg (by omega)]
set_option maxHeartbeats 1000000 in
theorem u_LCheck (e : Exp)  (m : AMem)  (K : AV → AMem → Prop) (hK : K (.err 72 (exF e)) m) : ACalls Tryd.prog 41 [expTop e] m K := by
 refine enter (c := cf [] [] [] [] [] []) (vs := [.av (expTop e)]) (L := []) (m := m) true tbOk Tryd.mixed Tryd.func41 rfl (k := 1) (by show fnOk [] _ _ _ = true; decide +kernel) rfl (Good.nil m) ?_
 refine sq ?_
 refine callY 72 [1] (σ := (Int) ⊕ (Int)) (Sum.elim (fun f_1 => f_1 = 60 - xcE e ∧ xdE e + 1 ≤ 7 ∧ xcE e ≤ 60) (fun f_1 => ¬(xdE e + 1 ≤ 7 ∧ xcE e ≤ 60) ∧ -1 ≤ f_1 ∧ f_1 ≤ 60)) (Sum.elim (fun f_1 => .b (.lit true)) (fun f_1 => .b (.lit false))) (Sum.elim (fun f_1 => [.cells [vI f_1]]) (fun f_1 => [.cells [vI f_1]])) rfl (fun x => by rcases x with _ | _ <;> rfl) (fun bs mm gd ht K hK => u_size (depE e + 1) e (Nat.lt_succ_self _) 1 60 (by omega) (by omega) (by omega) (by omega) (bs.getD 1 0) mm gd K (fun f hh => hK (.inl f) hh) (fun f hh => hK (.inr f) hh)) ?_
 rintro (f_1 | f_1) hx1
 · try dsimp only [Sum.elim_inl, Sum.elim_inr] at hx1
   dsimp only [Sum.elim_inl, Sum.elim_inr]
   refine call0 (fun _ => u_check (depE e + 1) e (Nat.lt_succ_self _)) rfl ?_
   refine rt0 rfl fun _ => ?_
   show K (.err 72 (fmI e)) m
   rw [exF_few ⟨hx1.2.1, hx1.2.2⟩] at hK; exact hK
 try dsimp only [Sum.elim_inl, Sum.elim_inr] at hx1
 dsimp only [Sum.elim_inl, Sum.elim_inr]
 refine rt0 rfl fun _ => ?_
 show K (.err 72 2) m
 rw [exF_many hx1.1] at hK; exact hK
end Go.Proofs
end
section
namespace Go.Proofs
open Go Go.Aw Go.Sx
set_option maxRecDepth 100000
def opM (k : Int) : Str := (mget (mput (mput ([] : List (Int × Str)) 5 [32, 43, 32]) 6 [32, 61, 61, 32]) k).getD []
def textE : Nat → Exp → Str
  | 0, _ => []
  | k + 1, e =>
    if e.kind = 1 then textV e.v
    else if e.kind = 2 then [105, 110, 46] ++ e.s
    else if e.kind = 3 then [114, 101, 115, 46] ++ e.s ++ [46] ++ e.t
    else if e.kind = 4 then [115, 116, 97, 99, 107, 46] ++ e.s ++ [46] ++ e.t
    else if e.kind = 5 ∨ e.kind = 6 then [40] ++ textE k (gI e.a 0) ++ opM e.kind ++ textE k (gI e.a 1) ++ [41]
    else if e.kind = 7 then [40] ++ textE k (gI e.a 0) ++ [32, 63, 32] ++ textE k (gI e.a 1) ++ [32, 58, 32] ++ textE k (gI e.a 2) ++ [41]
    else if e.kind = 8 then [91] ++ joinA (textE k) e.a true ++ [93]
    else if e.kind = 9 then [123] ++ joinA (fun p : Str × Exp => p.1 ++ [58, 32] ++ textE k p.2) (e.n.zip e.a) true ++ [125]
    else if e.kind = 10 then [103, 101, 116, 32] ++ textE k (gI e.a 0) ++ [32] ++ e.s
    else []
attribute [irreducible] textE
theorem gI_at {α : Type} [Inhabited α] {l : List α} {i : Int} {x : α} (h0 : 0 ≤ i) (h : l[i.toNat]? = some x) : gI l i = x := by
  simp [gI, List.getD_eq_getElem?_getD, h]
theorem gI_zip {α β : Type} [Inhabited α] [Inhabited β] {a : List α} {b : List β} {i : Int} (h0 : 0 ≤ i) (ha : i < a.length) (hb : i < b.length) : gI (a.zip b) i = (gI a i, gI b i) :=
  gI_at h0 (by rw [List.getElem?_zip_eq_some]; exact ⟨by rw [List.getElem?_eq_getElem (by omega)]; exact congrArg some (gI_at h0 (List.getElem?_eq_getElem (by omega))).symm, by rw [List.getElem?_eq_getElem (by omega)]; exact congrArg some (gI_at h0 (List.getElem?_eq_getElem (by omega))).symm⟩)
end Go.Proofs
end
section
namespace Go.Proofs
open Go Go.Aw Go.Sx
set_option maxRecDepth 100000
structure Gr {α : Type} (w : α → Nat) (p : PR α) (a : Int) : Prop where
  h : p.f = 0 → 4 * a + (w p.x : Int) ≤ 4 * p.a
  n : 0 ≤ p.f
section
variable {α β : Type} {u : α → Nat} {w : β → Nat} {a b : Int}
theorem Gr.no [Inhabited α] {f s : Int} (h : 0 < f) : Gr u (.bad f s : PR α) a := ⟨fun e => absurd (show f = 0 from e) (by omega), show 0 ≤ f by omega⟩
theorem Gr.yes {x : α} (h : 4 * a + (u x : Int) ≤ 4 * b) : Gr u (.ok x b) a := ⟨fun _ => h, Int.le_refl _⟩
theorem Gr.bind [Inhabited β] {p : PR α} {g : α → Int → PR β} (h : Gr u p b) (h2 : ∀ x a1, 4 * b + (u x : Int) ≤ 4 * a1 → Gr w (g x a1) a) : Gr w (p.bind g) a := by
  rw [PR.bind]
  split
  · exact h2 _ _ (h.h (by assumption))
  · rename_i hz; exact Gr.no (by have := h.n; omega)
end
theorem gr_want (l : List Tok) (n k : Int) (s : Str) (a : Int) : Gr (fun _ => 4) (wantP l n k s a) a := by
  rw [wantP]; split
  · exact Gr.yes (by simp; omega)
  · exact Gr.no (by decide)
theorem gr_pair (l : List Tok) (n a : Int) : Gr (fun _ => 4) (pairP l n a) a := by
  rw [pairP]
  refine (gr_want ..).bind fun _ a1 h1 => (gr_want ..).bind fun _ a2 h2 => (gr_want ..).bind fun _ a3 h3 => (gr_want ..).bind fun _ a4 h4 => Gr.yes ?_
  omega
theorem szL_app (x y : List Exp) : szL (x ++ y) = szL x + szL y := by
  induction x with
  | nil => simp [szL]
  | cons a r ih => simp only [List.cons_append, szL, ih]; omega
theorem depV_z : depV zV = 1 := by simp [zV, depV, depL, depF]
theorem szE_lit (k n : Int) (s : Str) : szE (litE (.mk k n s [] [])) = 2 := by simp [litE, szE, szL, depV, depL, depF]
section
variable {f : Int → PR Exp} (hf : ∀ a, Gr szE (f a) a) (l : List Tok) (n : Int)
include hf
theorem gr_between (a c : Int) (hc : c + 1 ≤ a) : Gr szE (betweenP f l n a) c := by
  rw [betweenP]
  refine (hf a).bind fun x a1 h1 => ?_
  split
  · refine (hf _).bind fun y a2 h2 => (gr_want ..).bind fun _ a3 h3 => Gr.yes ?_
    simp only [szE, szL, depV_z, List.length_nil] at h3 ⊢; omega
  split
  · refine (hf _).bind fun y a2 h2 => (gr_want ..).bind fun _ a3 h3 => Gr.yes ?_
    simp only [szE, szL, depV_z, List.length_nil] at h3 ⊢; omega
  split
  · refine (hf _).bind fun y a2 h2 => (gr_want ..).bind fun _ a3 h3 => (hf _).bind fun z a4 h4 => (gr_want ..).bind fun _ a5 h5 => Gr.yes ?_
    simp only [szE, szL, depV_z, List.length_nil] at h3 h5 ⊢; omega
  · exact Gr.no (by decide)
omit hf in
theorem gr_sep {xs : List Exp} {a c : Int} {g : Int → PR Exp} (hg : ∀ b, a ≤ b → Gr szE (g b) c) : Gr szE (sepP l n xs a g) c := by
  rw [sepP]; split
  · exact hg _ (Int.le_refl _)
  · exact (gr_want ..).bind fun _ a1 h1 => hg _ (by omega)
theorem gr_list : ∀ (k : Nat) (a : Int) (xs : List Exp) (c : Int), 4 * c + (szL xs : Int) + 2 ≤ 4 * a → Gr szE (listP f l n k a xs) c
  | 0, _, _, _, _ => Gr.no (by decide)
  | k + 1, a, xs, c, hc => by
    rw [listP]; split
    · refine Gr.yes ?_
      simp only [szE, depV_z, List.length_nil]; omega
    · refine gr_sep l n fun b hb => (hf _).bind fun x a1 h1 => gr_list k _ _ _ ?_
      rw [szL_app]; simp only [szL]; omega
theorem gr_rec : ∀ (k : Nat) (a : Int) (ns : List Str) (xs : List Exp) (c : Int), 4 * c + (szL xs : Int) + (ns.length : Int) + 2 ≤ 4 * a → Gr szE (recP f l n k a ns xs) c
  | 0, _, _, _, _, _ => Gr.no (by decide)
  | k + 1, a, ns, xs, c, hc => by
    rw [recP]; split
    · refine Gr.yes ?_
      simp only [szE, depV_z]; omega
    · refine gr_sep l n fun b hb => (gr_want ..).bind fun _ a1 h1 => ?_
      split
      · exact Gr.no (by decide)
      · refine (gr_want ..).bind fun _ a2 h2 => (hf _).bind fun x a3 h3 => gr_rec k _ _ _ _ ?_
        rw [szL_app]; simp only [szL, List.length_append, List.length_cons, List.length_nil]; omega
theorem gr_word (a : Int) : Gr szE (wordP f l n a) a := by
  rw [wordP]
  split
  · exact Gr.yes (by first | (rw [szE_lit]; omega) | (have := szE_lit 0 0 []; simp only [zV]; omega))
  split
  · exact Gr.yes (by first | (rw [szE_lit]; omega) | (have := szE_lit 0 0 []; simp only [zV]; omega))
  split
  · exact Gr.yes (by first | (rw [szE_lit]; omega) | (have := szE_lit 0 0 []; simp only [zV]; omega))
  split
  · exact (gr_want ..).bind fun _ a1 h1 => (gr_want ..).bind fun _ a2 h2 => Gr.yes (by simp only [szE, szL, depV_z, List.length_nil]; omega)
  split
  · exact (gr_pair ..).bind fun _ a1 h1 => Gr.yes (by simp only [szE, szL, depV_z, List.length_nil]; omega)
  split
  · exact (gr_pair ..).bind fun _ a1 h1 => Gr.yes (by simp only [szE, szL, depV_z, List.length_nil]; omega)
  split
  · exact (hf _).bind fun _ a1 h1 => (gr_want ..).bind fun _ a2 h2 => Gr.yes (by simp only [szE, szL, depV_z, List.length_nil]; omega)
  · exact Gr.no (by decide)
end
theorem gr_num (l : List Tok) (n sg a : Int) : Gr szE (numP l n sg a) a := by
  rw [numP]
  split
  · split
    · exact Gr.no (by decide)
    · exact Gr.yes (by first | (rw [szE_lit]; omega) | (have := szE_lit 0 0 []; simp only [zV]; omega))
  · exact Gr.no (by decide)
theorem Gr.from {p : PR Exp} {a b : Int} (h : Gr szE p a) (hb : b ≤ a) : Gr szE p b := ⟨fun z => by have := h.h z; omega, h.n⟩
theorem gr_expr (l : List Tok) (n : Int) : ∀ (k : Nat) (a : Int), Gr szE (exprP l n k a) a
  | 0, _ => Gr.no (by decide)
  | k + 1, a => by
    have ih := gr_expr l n k
    rw [exprP]
    split
    · exact gr_between ih l n _ _ (Int.le_refl _)
    split
    · exact gr_list ih l n _ _ _ _ (by simp [szL]; omega)
    split
    · exact gr_rec ih l n _ _ _ _ _ (by simp [szL]; omega)
    split
    · exact (gr_num ..).from (by omega)
    split
    · exact gr_num ..
    split
    · exact Gr.yes (by first | (rw [szE_lit]; omega) | (have := szE_lit 0 0 []; simp only [zV]; omega))
    · exact gr_word ih l n a
noncomputable def wholeP (l : List Tok) (n a : Int) : PR Exp := (exprP l n 6 a).bind fun x a' => if exF x = 0 then .ok x a' else .bad (exF x) (hereP l n a)
noncomputable def parseP (s : Str) : Exp × Int × Int :=
  if (tokR s).2.2 = 0 then (if (wholeP (tokR s).1 s.length 0).f = 0 then (if (wholeP (tokR s).1 s.length 0).a < (tokR s).1.length then (zE, hereP (tokR s).1 s.length (wholeP (tokR s).1 s.length 0).a, 5) else ((wholeP (tokR s).1 s.length 0).x, 0, 0)) else (zE, (wholeP (tokR s).1 s.length 0).p, (wholeP (tokR s).1 s.length 0).f)) else (zE, (tokR s).2.1, (tokR s).2.2)
section
variable {l : List Tok} {n a e q a1 e1 q1 : Int} {x : Exp}
theorem OX.sz (o : OX l (exprP l n 6 a) x a e q a1 e1 q1) (he : e = 0) (hz : e1 = 0) (hl : l.length ≤ 5000) (h0 : 0 ≤ a) : szE x ≤ 1000000000 := by
  have h := o.ok he
  obtain ⟨rfl, rfl⟩ := h.y hz
  have := (gr_expr l n 6 a).h (h.f ▸ hz)
  have := o.hi
  omega
theorem OX.whole_y (o : OX l (exprP l n 6 a) x a e q a1 e1 q1) (h : e1 = 0 → exF x = 0) : OX l (wholeP l n a) x a e q a1 e1 q1 := by
  refine ⟨fun he => ?_, o.st, o.lo, o.hi, o.nn, o.gt⟩
  have h1 := o.ok he
  by_cases hz : e1 = 0
  · obtain ⟨rfl, rfl⟩ := h1.y hz
    rw [wholeP, PR.bind, if_pos (by rw [← h1.f]; exact hz), if_pos (h hz)]
    exact ⟨hz, fun _ => ⟨rfl, rfl⟩, fun h => absurd hz h⟩
  · rw [wholeP, PR.bind, if_neg (by rw [← h1.f]; exact hz)]
    exact ⟨h1.f, fun h => absurd h hz, fun _ => h1.z hz⟩
theorem OX.whole_n (o : OX l (exprP l n 6 a) x a e q a1 e1 q1) (he : e = 0) (hz : e1 = 0) (h : exF x ≠ 0) : OX l (wholeP l n a) x a e q a1 (exF x) (hereP l n a) := by
  refine ⟨fun he => ?_, fun h => absurd he h, o.lo, o.hi, exF_nn x, fun hh => absurd hh h⟩
  have h1 := o.ok he
  obtain ⟨rfl, rfl⟩ := h1.y hz
  rw [wholeP, PR.bind, if_pos (by rw [← h1.f]; exact hz), if_neg h]
  exact ⟨rfl, fun hh => absurd hh h, fun _ => rfl⟩
end
theorem parse_end {s : Str} {l : List Tok} {x : Exp} {a1 e1 q1 : Int} (hl0 : (tokR s).1 = l) (ht : (tokR s).2.2 = 0) (o : OX l (wholeP l s.length 0) x 0 0 0 a1 e1 q1) :
    parseP s = if e1 = 0 then (if a1 < l.length then (zE, hereP l s.length a1, 5) else (x, 0, 0)) else (zE, q1, e1) := by
  subst hl0
  have h := o.ok rfl
  rw [parseP, if_pos ht, ← h.f]
  split
  · rename_i hz
    obtain ⟨rfl, rfl⟩ := h.y hz
    rfl
  · rw [← h.z (by assumption)]
set_option maxHeartbeats 2000000 in
theorem u_whole1 (l : List Tok) (n a e q : Int) (k : Nat) (r : Nat) (ih : ∀ a e q d : Int, d = 7 - (k : Int) → 0 ≤ a → a ≤ l.length → 0 ≤ e → ∀ (r : Nat) (m : AMem), Gd [r] m → Tabs m → ∀ (K : AV → AMem → Prop), (∀ x' a' e' q', OX l (exprP l n k a) x' a e q a' e' q' → K (expTop x') (AMem.wth m [(r, .cells [.slice false (l.map tokAV), .int .i64 a', .int .i64 n, .err 72 e', .int .i64 q'])])) → ACalls Tryd.prog 71 [.ptr ⟨r, 0, none⟩, .int .i64 d] (AMem.wth m [(r, .cells [.slice false (l.map tokAV), .int .i64 a, .int .i64 n, .err 72 e, .int .i64 q])]) K) (hl : l.length ≤ 5000) (h0 : 0 ≤ a) (ha : a ≤ l.length) (he : 0 ≤ e) (hk : k = 6) (hz : e = 0) (m : AMem) (gd : Gd [r] m) (K : AV → AMem → Prop) (hT : Tabs m) (hK : ∀ x' a' e' q', OX l (wholeP l n a) x' a e q a' e' q' → K (expTop x') (AMem.wth m [(r, .cells [.slice false (l.map tokAV), .int .i64 a', .int .i64 n, .err 72 e', .int .i64 q'])])) : ACalls Tryd.prog 39 [.ptr ⟨r, 0, none⟩] (AMem.wth m [(r, .cells [.slice false (l.map tokAV), .int .i64 a, .int .i64 n, .err 72 e, .int .i64 q])]) K := by
 refine enter (c := cf [] [] [3] [] [] [r]) (vs := [.loc 0 0]) (L := [rP l n a e q]) (m := m) false tbOk Tryd.mixed Tryd.func39 rfl (k := 1) (by show fnOk [] _ _ _ = true; decide +kernel) rfl (gd.good rfl) ?_
 refine callM [0] [rP l n a e q] (vI (hereP l n a)) rfl (fun bs mm gd => u_here l n a e q (bs.getD 0 0) hl (by omega) (by omega) mm gd) ?_
 refine callY 72 [0] (σ := Exp × Int × Int × Int) (fun ⟨x_1, a_1, e_1, q_1⟩ => OX l (exprP l n k a) x_1 a e q a_1 e_1 q_1) (fun ⟨x_1, a_1, e_1, q_1⟩ => xS x_1) (fun ⟨x_1, a_1, e_1, q_1⟩ => [rP l n a_1 e_1 q_1]) rfl (fun _ => rfl) (fun bs mm gd ht K hK => ih a e q 1 (by omega) (by omega) (by omega) (by omega) (bs.getD 0 0) mm gd (Tabs.up ht hT) K (fun x_ a_ e_ q_ hh => hK (x_, a_, e_, q_) hh)) ?_
 rintro ⟨x_1, a_1, e_1, q_1⟩ hx1
 dsimp only at hx1
 have lo1 := hx1.lo
 have hi1 := hx1.hi
 have nn1 := hx1.nn
 refine sq ?_
 refine mg [0, 2, 3, 4] 18 ((e_1 == 0) && (!((exF x_1) == 0))) ?_ ?_
 · repeat' first
    | exact ⟨⟨_, rfl, by grind [SB.val]⟩, rfl⟩
    | refine an (fun _ => ?_) (fun _ => ?_)
    | refine call0 (fun _ => u_LCheck x_1) rfl ?_
 refine an (fun h1 => ?_) (fun h1 => ?_)
 · replace h1 : (e_1 = 0) ∧ (exF x_1 ≠ 0) := ⟨(eq_of_beq (bandL h1)), (ne_of_beq_false (bnT (bandR h1)))⟩
   refine call0 (fun _ => u_LCheck x_1) rfl ?_
   refine rt rfl fun _ => ?_
   show K (.agg [.int .i64 x_1.kind, .int .i64 x_1.v.kind, .int .i64 x_1.v.n, .str x_1.v.s, .slice false (x_1.v.l.map valIn), .slice false (x_1.v.f.map fldIn), .str x_1.s, .str x_1.t, .slice false (x_1.a.map expIn), .slice false (x_1.n.map strAV)]) (AMem.wth m [(r, .cells [.slice false (l.map tokAV), .int .i64 a_1, .int .i64 n, .err 72 (exF x_1), .int .i64 (hereP l n a)])])
   subst hk
   exact hK _ _ _ _ (hx1.whole_n hz h1.1 h1.2)
 replace h1 : (e_1 ≠ 0) ∨ (exF x_1 = 0) := ((bandF h1).imp (fun q => (ne_of_beq_false q)) (fun q => (eq_of_beq (bnF q))))
 refine rt rfl fun _ => ?_
 show K (.agg [.int .i64 x_1.kind, .int .i64 x_1.v.kind, .int .i64 x_1.v.n, .str x_1.v.s, .slice false (x_1.v.l.map valIn), .slice false (x_1.v.f.map fldIn), .str x_1.s, .str x_1.t, .slice false (x_1.a.map expIn), .slice false (x_1.n.map strAV)]) (AMem.wth m [(r, .cells [.slice false (l.map tokAV), .int .i64 a_1, .int .i64 n, .err 72 e_1, .int .i64 q_1])])
 subst hk
 exact hK _ _ _ _ (hx1.whole_y fun hq => h1.resolve_left (fun hn => hn hq))
set_option maxHeartbeats 2000000 in
theorem u_Parse1 (s : Str) (l : List Tok) (hs : s.length ≤ 16777216) (hl0 : (tokR s).1 = l) (m : AMem)  (K : AV → AMem → Prop) (hT : Tabs m) (hK : K (.tuple [expTop (parseP s).1, .int .i64 (parseP s).2.1, .err 72 (parseP s).2.2]) m) : ACalls Tryd.prog 21 [.str s] m K := by
 have hl : l.length ≤ 5000 := by rw [← hl0]; have := tokR_len s; omega
 have hnn := tokR_nn s
 refine enter (c := cf [] [] [6] [9999] [9] []) (vs := [.av (.str s)]) (L := []) (m := m) true tbOk Tryd.mixed Tryd.func21 rfl (k := 1) (by show fnOk [9999] _ _ _ = true; decide +kernel) rfl (Good.nil m) ?_
 refine call0 (fun _ => fun m K hK => u_Tokens s hs m K (by rw [hl0]; exact hK)) rfl ?_
 refine sq ?_
 refine an (fun h1 => ?_) (fun h1 => ?_)
 · refine callY 72 [1] (σ := Exp × Int × Int × Int) (fun ⟨x_1, a_1, e_1, q_1⟩ => OX l (wholeP l s.length 0) x_1 0 0 0 a_1 e_1 q_1) (fun ⟨x_1, a_1, e_1, q_1⟩ => xS x_1) (fun ⟨x_1, a_1, e_1, q_1⟩ => [rP l (s.length : Int) a_1 e_1 q_1]) rfl (fun _ => rfl) (fun bs mm gd ht K hK => u_whole1 l (s.length : Int) 0 0 0 6 (bs.getD 1 0) (u_expr l (s.length : Int) hl (by rw [← hl0]; exact tokR_ok s) 6 (by decide)) hl (by omega) (by omega) (by omega) rfl rfl mm gd K (Tabs.up ht hT) (fun x_ a_ e_ q_ hh => hK (x_, a_, e_, q_) hh)) ?_
   rintro ⟨x_1, a_1, e_1, q_1⟩ hx1
   dsimp only at hx1
   have lo1 := hx1.lo
   have hi1 := hx1.hi
   have nn1 := hx1.nn
   refine sq ?_
   refine mg [2, 8, 9] 44 ((e_1 == 0) && (decide (a_1 < (l.length : Int)))) ?_ ?_
   · repeat' first
      | exact ⟨⟨_, rfl, by grind [SB.val]⟩, rfl⟩
      | refine an (fun _ => ?_) (fun _ => ?_)
      | refine ln ?_
   refine an (fun h2 => ?_) (fun h2 => ?_)
   · replace h2 : (e_1 = 0) ∧ (a_1 < (l.length : Int)) := ⟨(eq_of_beq (bandL h2)), (of_decide_eq_true (bandR h2))⟩
     refine callY 72 [1] (σ := Int × Int) (fun ⟨e_2, q_2⟩ => (e_1 = 0 → e_2 = 5 ∧ q_2 = hereP l (s.length : Int) a_1) ∧ (e_1 ≠ 0 → e_2 = e_1 ∧ q_2 = q_1) ∧ 0 < e_2) (fun ⟨e_2, q_2⟩ => .tup []) (fun ⟨e_2, q_2⟩ => [rP l (s.length : Int) a_1 e_2 q_2]) rfl (fun _ => rfl) (fun bs mm gd ht K hK => u_fail l (s.length : Int) a_1 e_1 q_1 5 (bs.getD 1 0) (by decide) hl (by omega) (by omega) (by omega) mm gd K (fun z => hK (5, hereP l (s.length : Int) a_1) ⟨fun _ => ⟨rfl, rfl⟩, fun y => absurd z y, by decide⟩) (fun z => hK (e_1, q_1) ⟨fun y => absurd y z, fun _ => ⟨rfl, rfl⟩, by omega⟩)) ?_
     rintro ⟨e_2, q_2⟩ hx2
     dsimp only at hx2
     obtain ⟨fa2, fb2, fc2⟩ := hx2
     refine sq ?_
     refine an (fun h3 => ?_) (fun h3 => ?_)
     · refine rt0 rfl fun _ => ?_
       show K (.tuple [.agg [.int .i64 x_1.kind, .int .i64 x_1.v.kind, .int .i64 x_1.v.n, .str x_1.v.s, .slice false (x_1.v.l.map valIn), .slice false (x_1.v.f.map fldIn), .str x_1.s, .str x_1.t, .slice false (x_1.a.map expIn), .slice false (x_1.n.map strAV)], .int .i64 0, .err 72 0]) m
       exact absurd h3 (by omega)
     refine rgA tbOk Tryd.mixed (σ := Unit) (.f 1 (.f 2 (.f 3 (.f 5 (.f 6 (.f 7 (.o 0 (.o 4 (.o 8 (.s 9 (.s 10 (.s 11 .d))) (.o 9 (.o 8 (.s 10 (.s 11 .d)) (.o 10 (.s 8 (.s 11 .d)) .z)) .z)) (.o 8 (.o 4 (.s 9 (.s 10 (.s 11 .d))) (.o 9 (.s 4 (.s 10 (.s 11 .d))) .z)) (.o 9 (.o 4 (.o 8 (.s 10 (.s 11 .d)) (.o 10 (.s 8 (.s 11 .d)) .z)) (.o 8 (.s 4 (.s 10 (.s 11 .d))) .z)) .z))) (.o 4 (.o 0 (.o 8 (.s 9 (.s 10 (.s 11 .d))) (.o 9 (.o 8 (.s 10 (.s 11 .d)) (.o 10 (.s 8 (.s 11 .d)) .z)) .z)) (.o 8 (.s 0 (.s 9 (.s 10 (.s 11 .d)))) .z)) (.o 8 (.o 0 (.o 4 (.s 9 (.s 10 (.s 11 .d))) (.o 9 (.s 4 (.s 10 (.s 11 .d))) .z)) (.o 4 (.s 0 (.s 9 (.s 10 (.s 11 .d)))) .z)) .z))))))))) [] [2, 3, 4] 3 (fun _ => ([(2, .loc 0 0), (3, vI q_2), (4, .av (.err 72 e_2))], [.cells [vI 0, vI 0, vI 0, vS ([]), .own [], .own [], vS ([]), vS ([]), .own [], .own []], rP l (s.length : Int) a_1 e_2 q_2, .cells [vI x_1.kind, vI x_1.v.kind, vI x_1.v.n, vS x_1.v.s, vL (x_1.v.l.map valIn), vL (x_1.v.f.map fldIn), vS x_1.s, vS x_1.t, vL (x_1.a.map expIn), vL (x_1.n.map strAV)]], m)) (fun _ => True) (by decide +kernel) ?_ ?_
     · rintro _ hy9
       try dsimp only at hy9
       refine rt0 rfl fun _ => ?_
       show K (.tuple [.agg [.int .i64 0, .int .i64 0, .int .i64 0, .str ([]), .slice false [], .slice false [], .str ([]), .str ([]), .slice false [], .slice false []], .int .i64 q_2, .err 72 e_2]) m
       have e := parse_end hl0 (by omega) hx1
       obtain ⟨rfl, rfl⟩ := fa2 h2.1
       rw [if_pos h2.1, if_pos (by omega)] at e
       rw [e] at hK
       exact hK
     refine ⟨?_, ?_, ?_, trivial⟩
     · refine ⟨?_, ?_, ?_, trivial⟩
       · refine ⟨?_, ?_, trivial⟩
         · refine ⟨(), ⟨rfl, rfl⟩, ?_⟩
           trivial
         · refine ⟨?_, ?_, trivial⟩
           · refine ⟨(), ⟨rfl, rfl⟩, ?_⟩
             trivial
           · refine ⟨(), ⟨rfl, rfl⟩, ?_⟩
             trivial
       · refine ⟨?_, ?_, trivial⟩
         · refine ⟨(), ⟨rfl, rfl⟩, ?_⟩
           trivial
         · refine ⟨(), ⟨rfl, rfl⟩, ?_⟩
           trivial
       · refine ⟨?_, ?_, trivial⟩
         · refine ⟨?_, ?_, trivial⟩
           · refine ⟨(), ⟨rfl, rfl⟩, ?_⟩
             trivial
           · refine ⟨(), ⟨rfl, rfl⟩, ?_⟩
             trivial
         · refine ⟨(), ⟨rfl, rfl⟩, ?_⟩
           trivial
     · refine ⟨?_, ?_, trivial⟩
       · refine ⟨?_, ?_, trivial⟩
         · refine ⟨(), ⟨rfl, rfl⟩, ?_⟩
           trivial
         · refine ⟨?_, ?_, trivial⟩
           · refine ⟨(), ⟨rfl, rfl⟩, ?_⟩
             trivial
           · refine ⟨(), ⟨rfl, rfl⟩, ?_⟩
             trivial
       · refine ⟨(), ⟨rfl, rfl⟩, ?_⟩
         trivial
     · refine ⟨?_, ?_, trivial⟩
       · refine ⟨?_, ?_, trivial⟩
         · refine ⟨(), ⟨rfl, rfl⟩, ?_⟩
           trivial
         · refine ⟨(), ⟨rfl, rfl⟩, ?_⟩
           trivial
       · refine ⟨(), ⟨rfl, rfl⟩, ?_⟩
         trivial
   replace h2 : (e_1 ≠ 0) ∨ ((l.length : Int) ≤ a_1) := ((bandF h2).imp (fun q => (ne_of_beq_false q)) (fun q => (Int.not_lt.1 (of_decide_eq_false q))))
   refine sq ?_
   refine an (fun h4 => ?_) (fun h4 => ?_)
   · refine rt0 rfl fun _ => ?_
     show K (.tuple [.agg [.int .i64 x_1.kind, .int .i64 x_1.v.kind, .int .i64 x_1.v.n, .str x_1.v.s, .slice false (x_1.v.l.map valIn), .slice false (x_1.v.f.map fldIn), .str x_1.s, .str x_1.t, .slice false (x_1.a.map expIn), .slice false (x_1.n.map strAV)], .int .i64 0, .err 72 0]) m
     have e := parse_end hl0 (by omega) hx1
     rw [if_pos h4, if_neg (by omega)] at e
     rw [e] at hK
     exact hK
   refine rgA tbOk Tryd.mixed (σ := Unit) (.f 1 (.f 2 (.f 3 (.f 5 (.f 6 (.f 7 (.o 0 (.o 4 (.o 8 (.s 9 (.s 10 (.s 11 .d))) (.o 9 (.o 8 (.s 10 (.s 11 .d)) (.o 10 (.s 8 (.s 11 .d)) .z)) .z)) (.o 8 (.o 4 (.s 9 (.s 10 (.s 11 .d))) (.o 9 (.s 4 (.s 10 (.s 11 .d))) .z)) (.o 9 (.o 4 (.o 8 (.s 10 (.s 11 .d)) (.o 10 (.s 8 (.s 11 .d)) .z)) (.o 8 (.s 4 (.s 10 (.s 11 .d))) .z)) .z))) (.o 4 (.o 0 (.o 8 (.s 9 (.s 10 (.s 11 .d))) (.o 9 (.o 8 (.s 10 (.s 11 .d)) (.o 10 (.s 8 (.s 11 .d)) .z)) .z)) (.o 8 (.s 0 (.s 9 (.s 10 (.s 11 .d)))) .z)) (.o 8 (.o 0 (.o 4 (.s 9 (.s 10 (.s 11 .d))) (.o 9 (.s 4 (.s 10 (.s 11 .d))) .z)) (.o 4 (.s 0 (.s 9 (.s 10 (.s 11 .d)))) .z)) .z))))))))) [] [2, 3, 4] 3 (fun _ => ([(2, .loc 0 0), (3, vI q_1), (4, .av (.err 72 e_1))], [.cells [vI 0, vI 0, vI 0, vS ([]), .own [], .own [], vS ([]), vS ([]), .own [], .own []], rP l (s.length : Int) a_1 e_1 q_1, .cells [vI x_1.kind, vI x_1.v.kind, vI x_1.v.n, vS x_1.v.s, vL (x_1.v.l.map valIn), vL (x_1.v.f.map fldIn), vS x_1.s, vS x_1.t, vL (x_1.a.map expIn), vL (x_1.n.map strAV)]], m)) (fun _ => True) (by decide +kernel) ?_ ?_
   · rintro _ hy9
     try dsimp only at hy9
     refine rt0 rfl fun _ => ?_
     show K (.tuple [.agg [.int .i64 0, .int .i64 0, .int .i64 0, .str ([]), .slice false [], .slice false [], .str ([]), .str ([]), .slice false [], .slice false []], .int .i64 q_1, .err 72 e_1]) m
     have e := parse_end hl0 (by omega) hx1
     rw [if_neg h4] at e
     rw [e] at hK
     exact hK
   refine ⟨?_, ?_, ?_, trivial⟩
   · refine ⟨?_, ?_, ?_, trivial⟩
     · refine ⟨?_, ?_, trivial⟩
       · refine ⟨(), ⟨rfl, rfl⟩, ?_⟩
         trivial
       · refine ⟨?_, ?_, trivial⟩
         · refine ⟨(), ⟨rfl, rfl⟩, ?_⟩
           trivial
         · refine ⟨(), ⟨rfl, rfl⟩, ?_⟩
           trivial
     · refine ⟨?_, ?_, trivial⟩
       · refine ⟨(), ⟨rfl, rfl⟩, ?_⟩
         trivial
       · refine ⟨(), ⟨rfl, rfl⟩, ?_⟩
         trivial
     · refine ⟨?_, ?_, trivial⟩
       · refine ⟨?_, ?_, trivial⟩
         · refine ⟨(), ⟨rfl, rfl⟩, ?_⟩
           trivial
         · refine ⟨(), ⟨rfl, rfl⟩, ?_⟩
           trivial
       · refine ⟨(), ⟨rfl, rfl⟩, ?_⟩
         trivial
   · refine ⟨?_, ?_, trivial⟩
     · refine ⟨?_, ?_, trivial⟩
       · refine ⟨(), ⟨rfl, rfl⟩, ?_⟩
         trivial
       · refine ⟨?_, ?_, trivial⟩
         · refine ⟨(), ⟨rfl, rfl⟩, ?_⟩
           trivial
         · refine ⟨(), ⟨rfl, rfl⟩, ?_⟩
           trivial
     · refine ⟨(), ⟨rfl, rfl⟩, ?_⟩
       trivial
   · refine ⟨?_, ?_, trivial⟩
     · refine ⟨?_, ?_, trivial⟩
       · refine ⟨(), ⟨rfl, rfl⟩, ?_⟩
         trivial
       · refine ⟨(), ⟨rfl, rfl⟩, ?_⟩
         trivial
     · refine ⟨(), ⟨rfl, rfl⟩, ?_⟩
       trivial
 refine rt0 rfl fun _ => ?_
 show K (.tuple [.agg [.int .i64 0, .int .i64 0, .int .i64 0, .str ([]), .slice false [], .slice false [], .str ([]), .str ([]), .slice false [], .slice false []], .int .i64 ((tokR s).2.1), .err 72 ((tokR s).2.2)]) m
 have e : parseP s = (zE, (tokR s).2.1, (tokR s).2.2) := by rw [parseP, if_neg (by omega)]
 rw [e] at hK
 exact hK
theorem u_Parse (s : Str) (hs : s.length ≤ 16777216) (m : AMem) (hT : Tabs m) (K : AV → AMem → Prop) (hK : K (.tuple [expTop (parseP s).1, .int .i64 (parseP s).2.1, .err 72 (parseP s).2.2]) m) : ACalls Tryd.prog 21 [.str s] m K := u_Parse1 s _ hs rfl m K hT hK
end Go.Proofs
end
section
namespace Go.Proofs
open Go Go.Aw Go.Sx
set_option maxRecDepth 100000
def lightFF : List (Str × Val) → Int → Bool
  | [], _ => true
  | p :: r, n => if 3000 < IntKind.i64.wrap (IntKind.i64.wrap (n + p.1.length) + weightV 3000 p.2) then false else lightFF r (IntKind.i64.wrap (IntKind.i64.wrap (n + p.1.length) + weightV 3000 p.2))
def lightFs (l : List (Str × Val)) : Bool := if 12 < (l.length : Int) then false else lightFF l 0
theorem lightFF_drop {l : List (Str × Val)} {i n : Int} (h0 : 0 ≤ i) (hi : i < l.length) : lightFF (l.drop i.toNat) n = if 3000 < IntKind.i64.wrap (IntKind.i64.wrap (n + (gI l i).1.length) + weightV 3000 (gI l i).2) then false else lightFF (l.drop (i + 1).toNat) (IntKind.i64.wrap (IntKind.i64.wrap (n + (gI l i).1.length) + weightV 3000 (gI l i).2)) := by
  rw [drop_gI h0 hi, lightFF]
def namedR (o : Option Val) : Val × Int := if o.isSome = true then (o.getD zV, 0) else (zV, 7)
def fin (r : Val × Int) : Val × Int := if r.2 = 0 then (if chk r.1 = 0 then (r.1, 0) else (zV, chk r.1)) else (zV, r.2)
def allE {α : Type} (g : α → Val × Int) : List α → Int
  | [] => 0
  | x :: r => if (g x).2 = 0 then allE g r else (g x).2
theorem allE_drop {α : Type} [Inhabited α] {g : α → Val × Int} {l : List α} {i : Int} (h0 : 0 ≤ i) (hi : i < l.length) : allE g (l.drop i.toNat) = if (g (gI l i)).2 = 0 then allE g (l.drop (i + 1).toNat) else (g (gI l i)).2 := by
  rw [drop_gI h0 hi, allE]
def plusR (a b : Val) : Val × Int :=
  if a.kind ≠ b.kind then (zV, 9)
  else if a.kind = 1 then (if a.n + b.n > 1000000000 ∨ a.n + b.n < -1000000000 then (zV, 1) else (.mk 1 (a.n + b.n) [] [] [], 0))
  else if a.kind = 2 then (if (a.s.length : Int) + b.s.length > 40 then (zV, 1) else (.mk 2 0 (a.s ++ b.s) [] [], 0))
  else if a.kind = 4 then (.mk 4 0 [] (a.l ++ b.l) [], 0)
  else (zV, 9)
noncomputable def joinR (e : Exp) (l : List Val) : Val × Int :=
  if e.kind = 5 ∧ (l.length : Int) = 2 then plusR (gI l 0) (gI l 1)
  else if e.kind = 6 ∧ (l.length : Int) = 2 then (.mk 3 (if vEq (gI l 0) (gI l 1) = true then 1 else 0) [] [] [], 0)
  else if e.kind = 8 then (.mk 4 0 [] l [], 0)
  else if e.kind = 9 ∧ (e.n.length : Int) = l.length then (.mk 5 0 [] [] (e.n.zip l), 0)
  else if e.kind = 10 ∧ (l.length : Int) = 1 then (if (gI l 0).kind ≠ 5 then (zV, 9) else namedR (mget (gI l 0).f e.s))
  else (zV, 3)
abbrev VMap := List (Str × Val)
abbrev FMap := List (Str × VMap)
noncomputable def evF (en rs : VMap) (fe : FMap) : Nat → Exp → Val × Int
  | 0, _ => (zV, 0)
  | k + 1, e =>
    if e.kind = 1 then (e.v, 0)
    else if e.kind = 2 then namedR (mget en e.s)
    else if e.kind = 3 then (if (mget rs e.s).isSome = true then namedR (mget ((mget rs e.s).getD zV).f e.t) else (zV, 7))
    else if e.kind = 4 then namedR (mget ((mget fe e.s).getD []) e.t)
    else if e.kind = 7 then
      (if (e.a.length : Int) ≠ 3 then (zV, 3)
       else if (fin (evF en rs fe k (gI e.a 0))).2 ≠ 0 then (zV, (fin (evF en rs fe k (gI e.a 0))).2)
       else if (fin (evF en rs fe k (gI e.a 0))).1.kind ≠ 3 then (zV, 9)
       else evF en rs fe k (gI e.a (2 - (fin (evF en rs fe k (gI e.a 0))).1.n)))
    else if allE (fun x => fin (evF en rs fe k x)) e.a ≠ 0 then (zV, allE (fun x => fin (evF en rs fe k x)) e.a)
    else joinR e (e.a.map fun x => (fin (evF en rs fe k x)).1)
theorem fin_ok {r : Val × Int} (h : (fin r).2 = 0) : chk (fin r).1 = 0 := by
  unfold fin at h ⊢
  split
  · split
    · rename_i h2; exact h2
    · rename_i h1 h2; rw [if_pos h1, if_neg h2] at h; exact absurd h h2
  · rename_i h1; rw [if_neg h1] at h; exact absurd h h1
theorem chk_cnt {v : Val} (h : chk v = 0) : depV v ≤ 60 ∧ shpF (depV v + 1) v = true := by
  unfold chk at h
  split at h
  · rename_i h1
    have q := cntF_ok _ _ _ _ (by omega) h1
    exact ⟨by omega, shE_t h⟩
  · simp at h
theorem chk_shp {v : Val} (h : chk v = 0) : shpOk v = true := by
  have q := (chk_cnt h).2
  rw [shpF] at q
  simp only [Bool.and_eq_true] at q
  exact q.1.1
theorem chk_okV {v : Val} (h : chk v = 0) : okV v := okV_small (depV v + 1) v (Nat.lt_succ_self _) (by have := (chk_cnt h).1; omega)
theorem chk_len {v : Val} (h : chk v = 0) : v.l.length ≤ 60 := by
  have q := (chk_cnt h).1
  have := depV_eq v
  have := depL_len v.l
  omega
theorem chk_num {v : Val} (h : chk v = 0) (hk : v.kind = 1) : -1000000000 ≤ v.n ∧ v.n ≤ 1000000000 := by
  have q := chk_shp h
  simp [shpOk, hk] at q
  omega
theorem chk_flag {v : Val} (h : chk v = 0) (hk : v.kind = 3) : 0 ≤ v.n ∧ v.n ≤ 1 := by
  have q := chk_shp h
  simp [shpOk, hk] at q
  omega
theorem allE_ok {α : Type} {g : α → Val × Int} {l : List α} (h : allE g l = 0) : ∀ x ∈ l, (g x).2 = 0 := by
  induction l with
  | nil => intro x hx; cases hx
  | cons a r ih =>
    rw [allE] at h
    split at h
    · rename_i h1
      intro x hx
      rcases List.mem_cons.1 hx with rfl | hx
      · exact h1
      · exact ih h x hx
    · rename_i h1; exact absurd h h1
def envOf (l : List (Str × Val)) : VMap := l.foldl (fun m p => mput m p.1 p.2) []
def namedB (v : Val) (is : Bool) : Val × Int := if is = true then (v, 0) else (zV, 7)
theorem okV_zV : okV zV := okV_small 2 zV (by decide) (by decide)
theorem mget_mem {κ ν : Type} [DecidableEq κ] : ∀ {l : List (κ × ν)} {k : κ} {v : ν}, mget l k = some v → (k, v) ∈ l
  | [], _, _, h => by cases h
  | (a, b) :: r, k, v, h => by
    rw [mget] at h
    split at h
    · rename_i e
      cases h; rw [e]; exact List.mem_cons_self ..
    · exact List.mem_cons_of_mem _ (mget_mem h)
theorem okV_get {l : VMap} (h : ∀ p ∈ l, okV p.2) (s : Str) : okV ((mget l s).getD zV) := by
  cases e : mget l s with
  | none => exact okV_zV
  | some v => exact h _ (mget_mem e)
noncomputable def gE (en rs : VMap) (fe : FMap) (k : Nat) (x : Exp) : Val × Int := fin (evF en rs fe k x)
def allL {α : Type} (g : α → Val × Int) (l : List α) : List Val := if allE g l = 0 then l.map (fun x => (g x).1) else []
theorem allL_ok {α : Type} {g : α → Val × Int} {l : List α} (hg : ∀ x, (g x).2 = 0 → chk (g x).1 = 0) : ∀ v ∈ allL g l, chk v = 0 := by
  intro v hv
  unfold allL at hv
  split at hv
  · rename_i h
    obtain ⟨x, hx, rfl⟩ := List.mem_map.1 hv
    exact hg x (allE_ok h x hx)
  · cases hv
theorem allL_len {α : Type} (g : α → Val × Int) (l : List α) : (allL g l).length ≤ l.length := by
  unfold allL
  split
  · rw [List.length_map]; exact Nat.le_refl _
  · exact Nat.zero_le _
section
variable {en rs : VMap} {fe : FMap} {k : Nat} {e : Exp}
theorem evF_1 (h : e.kind = 1) : evF en rs fe (k + 1) e = (e.v, 0) := by rw [evF, if_pos h]
theorem evF_2 (h : e.kind = 2) : evF en rs fe (k + 1) e = namedB ((mget en e.s).getD zV) (mget en e.s).isSome := by
  rw [evF, if_neg (by omega), if_pos h]; rfl
theorem evF_30 (h : e.kind = 3) (h2 : (mget rs e.s).isSome = false) : evF en rs fe (k + 1) e = (zV, 7) := by
  rw [evF, if_neg (by omega), if_neg (by omega), if_pos h, if_neg (by rw [h2]; simp)]
theorem evF_31 (h : e.kind = 3) (h2 : (mget rs e.s).isSome = true) : evF en rs fe (k + 1) e = namedB ((mget ((mget rs e.s).getD zV).f e.t).getD zV) (mget ((mget rs e.s).getD zV).f e.t).isSome := by
  rw [evF, if_neg (by omega), if_neg (by omega), if_pos h, if_pos h2]; rfl
theorem evF_4 (h : e.kind = 4) : evF en rs fe (k + 1) e = namedB ((mget ((mget fe e.s).getD []) e.t).getD zV) (mget ((mget fe e.s).getD []) e.t).isSome := by
  rw [evF, if_neg (by omega), if_neg (by omega), if_neg (by omega), if_pos h]; rfl
theorem evF_70 (h : e.kind = 7) (h2 : (e.a.length : Int) ≠ 3) : evF en rs fe (k + 1) e = (zV, 3) := by
  rw [evF, if_neg (by omega), if_neg (by omega), if_neg (by omega), if_neg (by omega), if_pos h, if_pos h2]
theorem evF_71 (h : e.kind = 7) (h2 : (e.a.length : Int) = 3) (h3 : (gE en rs fe k (gI e.a 0)).2 ≠ 0) : evF en rs fe (k + 1) e = (zV, (gE en rs fe k (gI e.a 0)).2) := by
  simp only [gE] at h3 ⊢
  rw [evF, if_neg (by omega), if_neg (by omega), if_neg (by omega), if_neg (by omega), if_pos h, if_neg (by omega), if_pos h3]
theorem evF_72 (h : e.kind = 7) (h2 : (e.a.length : Int) = 3) (h3 : (gE en rs fe k (gI e.a 0)).2 = 0) (h4 : (gE en rs fe k (gI e.a 0)).1.kind ≠ 3) : evF en rs fe (k + 1) e = (zV, 9) := by
  simp only [gE] at h3 h4 ⊢
  rw [evF, if_neg (by omega), if_neg (by omega), if_neg (by omega), if_neg (by omega), if_pos h, if_neg (by omega), if_neg (not_not_intro h3), if_pos h4]
theorem evF_73 (h : e.kind = 7) (h2 : (e.a.length : Int) = 3) (h3 : (gE en rs fe k (gI e.a 0)).2 = 0) (h4 : (gE en rs fe k (gI e.a 0)).1.kind = 3) : evF en rs fe (k + 1) e = evF en rs fe k (gI e.a (2 - (gE en rs fe k (gI e.a 0)).1.n)) := by
  simp only [gE] at h3 h4 ⊢
  rw [evF, if_neg (by omega), if_neg (by omega), if_neg (by omega), if_neg (by omega), if_pos h, if_neg (by omega), if_neg (not_not_intro h3), if_neg (not_not_intro h4)]
theorem evF_80 (h1 : e.kind ≠ 1) (h2 : e.kind ≠ 2) (h3 : e.kind ≠ 3) (h4 : e.kind ≠ 4) (h7 : e.kind ≠ 7) (h : allE (gE en rs fe k) e.a ≠ 0) : evF en rs fe (k + 1) e = (zV, allE (gE en rs fe k) e.a) := by
  rw [show gE en rs fe k = fun x => fin (evF en rs fe k x) from rfl] at h ⊢
  rw [evF, if_neg h1, if_neg h2, if_neg h3, if_neg h4, if_neg h7, if_pos h]
theorem evF_81 (h1 : e.kind ≠ 1) (h2 : e.kind ≠ 2) (h3 : e.kind ≠ 3) (h4 : e.kind ≠ 4) (h7 : e.kind ≠ 7) (h : allE (gE en rs fe k) e.a = 0) : evF en rs fe (k + 1) e = joinR e (allL (gE en rs fe k) e.a) := by
  rw [show gE en rs fe k = fun x => fin (evF en rs fe k x) from rfl] at h ⊢
  rw [evF, if_neg h1, if_neg h2, if_neg h3, if_neg h4, if_neg h7, if_neg (not_not_intro h), allL, if_pos h]
end
theorem envOf_len (l : List (Str × Val)) : (envOf l).length ≤ l.length := by
  have : ∀ (l : List (Str × Val)) (m : VMap), (l.foldl (fun m p => mput m p.1 p.2) m).length ≤ m.length + l.length := by
    intro l
    induction l with
    | nil => intro m; simp
    | cons p r ih =>
      intro m
      have h1 := ih (mput m p.1 p.2)
      have h2 := mput_len m p.1 p.2
      simp only [List.foldl_cons, List.length_cons]; omega
  have := this l []
  simpa [envOf] using this
theorem envOf_snoc (l : List (Str × Val)) (p : Str × Val) : envOf (l ++ [p]) = mput (envOf l) p.1 p.2 := by
  simp [envOf, List.foldl_append]
theorem mput_mem {κ ν : Type} [DecidableEq κ] : ∀ {l : List (κ × ν)} {k : κ} {v : ν} {q : κ × ν}, q ∈ mput l k v → q = (k, v) ∨ q ∈ l
  | [], k, v, q, h => by simpa [mput] using h
  | (a, b) :: r, k, v, q, h => by
    rw [mput] at h
    split at h
    · rcases List.mem_cons.1 h with h | h
      · exact .inl h
      · exact .inr (List.mem_cons_of_mem _ h)
    · rcases List.mem_cons.1 h with h | h
      · exact .inr (h ▸ List.mem_cons_self ..)
      · exact (mput_mem h).imp id (List.mem_cons_of_mem _)
structure EnvM (m : AMem) (bi br bf : Nat) (en rs : VMap) (fe : FMap) : Prop where
  i : m bi = some (.map (en.map (mapAV strAV valTop)))
  r : m br = some (.map (rs.map (mapAV strAV valTop)))
  f : ∃ fm : List (Str × Option Nat), m bf = some (.map (fm.map (mapAV strAV mvA))) ∧ ∀ s, MapAt m strAV valTop ((mget fm s).getD none) ((mget fe s).getD [])
theorem EnvM.up {m mm : AMem} {bi br bf : Nat} {en rs : VMap} {fe : FMap} (ht : ∀ b o, m b = some o → mm b = some o) (h : EnvM m bi br bf en rs fe) : EnvM mm bi br bf en rs fe :=
  ⟨ht _ _ h.i, ht _ _ h.r, h.f.imp fun _ hf => ⟨ht _ _ hf.1, fun s => (hf.2 s).up ht⟩⟩
structure EnvOk (en rs : VMap) (fe : FMap) : Prop where
  i : ∀ p ∈ en, okV p.2
  r : ∀ p ∈ rs, okV p.2
  f : ∀ q ∈ fe, ∀ p ∈ q.2, okV p.2
theorem EnvOk.get {en rs : VMap} {fe : FMap} (h : EnvOk en rs fe) (s t : Str) : okV ((mget ((mget fe s).getD []) t).getD zV) := by
  refine okV_get (fun p hp => ?_) t
  cases e : mget fe s with
  | none => rw [e] at hp; cases hp
  | some F => rw [e] at hp; exact h.f _ (mget_mem e) p hp
theorem evF_40 {en rs : VMap} {fe : FMap} {k : Nat} {e : Exp} (h : e.kind = 4) (hf : (mget fe e.s).getD [] = []) : evF en rs fe (k + 1) e = namedB zV false := by
  rw [evF_4 h, hf]; rfl
theorem mpSV : Go.Sx.MpOk tb 33 9 25 .string (valTop zV) := ⟨⟨rfl, rfl⟩, rfl, ⟨trivial, rfl⟩⟩
theorem mpSM : Go.Sx.MpOk tb 34 9 33 .string (mvA none) := ⟨⟨rfl, rfl⟩, rfl, ⟨trivial, rfl⟩⟩
set_option maxHeartbeats 2000000 in
theorem u_named (v : Val) (is : Bool) (hz : okV v) (m : AMem)  (K : AV → AMem → Prop) (hK : K (.tuple [valTop (namedB v is).1, .err 72 (namedB v is).2]) m) : ACalls Tryd.prog 50 [valTop v, .bool is] m K := by
 refine enter (c := cf [] [] [] [] [] []) (vs := [.av (valTop v), .b (.raw is)]) (L := []) (m := m) true tbOk Tryd.mixed Tryd.func50 rfl (k := 2) (by show fnOk [] _ _ _ = true; decide +kernel) rfl (Good.nil m) ?_
 refine sq ?_
 refine an (fun h1 => ?_) (fun h1 => ?_)
 · refine call0 (fun _ => u_Copy v hz) rfl ?_
   have e0 : namedB v is = ((v, 0) : Val × Int) := by
    first | (rw [namedB, if_pos (by assumption)]; done) | (rw [namedB, if_neg (by simp [*])]; rfl)
   rw [e0] at hK
   exact rt0 rfl fun _ => hK
 have e0 : namedB v is = (((⟨0, 0, [], [], []⟩ : Val), 7) : Val × Int) := by
  first | (rw [namedB, if_pos (by assumption)]; done) | (rw [namedB, if_neg (by simp [*])]; rfl)
 rw [e0] at hK
 exact rt0 rfl fun _ => hK
set_option maxHeartbeats 4000000 in
theorem u_plus (a b : Val) (ha : chk a = 0) (hb : chk b = 0) (m : AMem)  (K : AV → AMem → Prop) (hK : K (.tuple [valTop (plusR a b).1, .err 72 (plusR a b).2]) m) : ACalls Tryd.prog 81 [valTop a, valTop b] m K := by
 have hna := chk_num ha
 have hnb := chk_num hb
 have hla := chk_len ha
 have hlb := chk_len hb
 refine enter (c := cf [] [0] [4] [12999] [12] []) (vs := [.av (valTop a), .av (valTop b)]) (L := []) (m := m) true tbOk Tryd.mixed Tryd.func81 rfl (k := 2) (by show fnOk [12999] _ _ _ = true; decide +kernel) rfl (Good.nil m) ?_
 refine ⟨fun F0 => ?_⟩
 have hbd0_2 : a.s.length ≤ 140737488355328 := (F0 0 2 (Nat.le_of_ble_eq_true rfl))
 have hbd0_3 : a.l.length ≤ 140737488355328 := bd_map (F0 0 3 (Nat.le_of_ble_eq_true rfl))
 have hbd0_4 : a.f.length ≤ 140737488355328 := bd_map (F0 0 4 (Nat.le_of_ble_eq_true rfl))
 have hbd1_2 : b.s.length ≤ 140737488355328 := (F0 1 2 (Nat.le_of_ble_eq_true rfl))
 have hbd1_3 : b.l.length ≤ 140737488355328 := bd_map (F0 1 3 (Nat.le_of_ble_eq_true rfl))
 have hbd1_4 : b.f.length ≤ 140737488355328 := bd_map (F0 1 4 (Nat.le_of_ble_eq_true rfl))
 refine sq ?_
 refine an (fun h1 => ?_) (fun h1 => ?_)
 · refine an (fun h2 => ?_) (fun h2 => ?_)
   · refine an (by omega) ?_
     refine sq ?_
     refine mg [4, 6] 27 ((decide (1000000000 < a.n + b.n)) || (decide (a.n + b.n < -1000000000))) ?_ ?_
     · repeat' first
        | exact ⟨⟨_, rfl, by grind [SB.val]⟩, rfl⟩
        | refine an (fun _ => ?_) (fun _ => ?_)
     refine an (fun h3 => ?_) (fun h3 => ?_)
     · replace h3 : (1000000000 < a.n + b.n) ∨ (a.n + b.n < -1000000000) := ((borT h3).imp (fun q => (of_decide_eq_true q)) (fun q => (of_decide_eq_true q)))
       have e0 : plusR a b = (((⟨0, 0, [], [], []⟩ : Val), 1) : Val × Int) := by
        unfold plusR
        simp only [zV]
        first | (rw [if_pos (by omega)]; done) | (rw [if_neg (by omega), if_pos (by omega), if_pos (by omega)]; done) | (rw [if_neg (by omega), if_pos (by omega), if_neg (by omega)]; done) | (rw [if_neg (by omega), if_neg (by omega), if_pos (by omega), if_pos (by omega)]; done) | (rw [if_neg (by omega), if_neg (by omega), if_pos (by omega), if_neg (by omega)]; done) | (rw [if_neg (by omega), if_neg (by omega), if_neg (by omega), if_pos (by omega)]; done) | (rw [if_neg (by omega), if_neg (by omega), if_neg (by omega), if_neg (by omega)]; done)
       rw [e0] at hK
       exact rt0 rfl fun _ => hK
     replace h3 : (a.n + b.n ≤ 1000000000) ∧ (-1000000000 ≤ a.n + b.n) := ⟨(Int.not_lt.1 (of_decide_eq_false (borL h3))), (Int.not_lt.1 (of_decide_eq_false (borR h3)))⟩
     have e0 : plusR a b = (((⟨1, a.n + b.n, [], [], []⟩ : Val), 0) : Val × Int) := by
      unfold plusR
      simp only [zV]
      first | (rw [if_pos (by omega)]; done) | (rw [if_neg (by omega), if_pos (by omega), if_pos (by omega)]; done) | (rw [if_neg (by omega), if_pos (by omega), if_neg (by omega)]; done) | (rw [if_neg (by omega), if_neg (by omega), if_pos (by omega), if_pos (by omega)]; done) | (rw [if_neg (by omega), if_neg (by omega), if_pos (by omega), if_neg (by omega)]; done) | (rw [if_neg (by omega), if_neg (by omega), if_neg (by omega), if_pos (by omega)]; done) | (rw [if_neg (by omega), if_neg (by omega), if_neg (by omega), if_neg (by omega)]; done)
     rw [e0] at hK
     exact rt0 rfl fun _ => hK
   refine an (fun h4 => ?_) (fun h4 => ?_)
   · refine sq ?_
     refine an (by omega) ?_
     refine an (fun h5 => ?_) (fun h5 => ?_)
     · have e0 : plusR a b = (((⟨0, 0, [], [], []⟩ : Val), 1) : Val × Int) := by
        unfold plusR
        simp only [zV]
        first | (rw [if_pos (by omega)]; done) | (rw [if_neg (by omega), if_pos (by omega), if_pos (by omega)]; done) | (rw [if_neg (by omega), if_pos (by omega), if_neg (by omega)]; done) | (rw [if_neg (by omega), if_neg (by omega), if_pos (by omega), if_pos (by omega)]; done) | (rw [if_neg (by omega), if_neg (by omega), if_pos (by omega), if_neg (by omega)]; done) | (rw [if_neg (by omega), if_neg (by omega), if_neg (by omega), if_pos (by omega)]; done) | (rw [if_neg (by omega), if_neg (by omega), if_neg (by omega), if_neg (by omega)]; done)
       rw [e0] at hK
       exact rt0 rfl fun _ => hK
     refine an (by (first | omega | (simp only [List.length_append, List.length_cons, List.length_nil]; omega))) ?_
     have e0 : plusR a b = (((⟨2, 0, a.s ++ b.s, [], []⟩ : Val), 0) : Val × Int) := by
      unfold plusR
      simp only [zV]
      first | (rw [if_pos (by omega)]; done) | (rw [if_neg (by omega), if_pos (by omega), if_pos (by omega)]; done) | (rw [if_neg (by omega), if_pos (by omega), if_neg (by omega)]; done) | (rw [if_neg (by omega), if_neg (by omega), if_pos (by omega), if_pos (by omega)]; done) | (rw [if_neg (by omega), if_neg (by omega), if_pos (by omega), if_neg (by omega)]; done) | (rw [if_neg (by omega), if_neg (by omega), if_neg (by omega), if_pos (by omega)]; done) | (rw [if_neg (by omega), if_neg (by omega), if_neg (by omega), if_neg (by omega)]; done)
     rw [e0] at hK
     exact rt0 rfl fun _ => hK
   refine an (fun h6 => ?_) (fun h6 => ?_)
   · refine rgA tbOk Tryd.mixed (σ := Unit) (.f 0 (.f 3 (.o 1 (.o 2 (.s 4 (.s 5 (.s 6 (.s 7 (.s 8 .d))))) (.o 4 (.s 2 (.s 5 (.s 6 (.s 7 (.s 8 .d))))) .z)) (.o 4 (.s 1 (.s 2 (.s 5 (.s 6 (.s 7 (.s 8 .d)))))) .z)))) [] [4, 5] 3 (fun _ => ([(4, .loc 2 0), (5, .av (.nilIface))], [.cells [vI a.kind, vI a.n, vS a.s, vL (a.l.map valIn), vL (a.f.map fldIn)], .cells [vI b.kind, vI b.n, vS b.s, vL (b.l.map valIn), vL (b.f.map fldIn)], .cells [vI 4, vI 0, vS ([]), vL ((a.l ++ b.l).map valIn), .own []]], m)) (fun _ => True) (by decide +kernel) ?_ ?_
     · rintro _ hy12
       try dsimp only at hy12
       have e0 : plusR a b = (((⟨4, 0, [], a.l ++ b.l, []⟩ : Val), 0) : Val × Int) := by
        unfold plusR
        simp only [zV]
        first | (rw [if_pos (by omega)]; done) | (rw [if_neg (by omega), if_pos (by omega), if_pos (by omega)]; done) | (rw [if_neg (by omega), if_pos (by omega), if_neg (by omega)]; done) | (rw [if_neg (by omega), if_neg (by omega), if_pos (by omega), if_pos (by omega)]; done) | (rw [if_neg (by omega), if_neg (by omega), if_pos (by omega), if_neg (by omega)]; done) | (rw [if_neg (by omega), if_neg (by omega), if_neg (by omega), if_pos (by omega)]; done) | (rw [if_neg (by omega), if_neg (by omega), if_neg (by omega), if_neg (by omega)]; done)
       rw [e0] at hK
       exact rt0 rfl fun _ => hK
     refine ⟨?_, ?_, trivial⟩
     · refine ⟨?_, ?_, trivial⟩
       · refine ap valIn ([]) a.l rfl rfl (fun a => by rw [valIn_eq]; exact ⟨rfl, rfl⟩) (by (simp only [List.length_append, List.length_cons, List.length_nil]; omega)) ?_
         refine ap valIn a.l b.l rfl rfl (fun a => by rw [valIn_eq]; exact ⟨rfl, rfl⟩) (by (simp only [List.length_append, List.length_cons, List.length_nil]; omega)) ?_
         refine ⟨(), ⟨rfl, rfl⟩, ?_⟩
         trivial
       · refine ap valIn ([]) a.l rfl rfl (fun a => by rw [valIn_eq]; exact ⟨rfl, rfl⟩) (by (simp only [List.length_append, List.length_cons, List.length_nil]; omega)) ?_
         refine ap valIn a.l b.l rfl rfl (fun a => by rw [valIn_eq]; exact ⟨rfl, rfl⟩) (by (simp only [List.length_append, List.length_cons, List.length_nil]; omega)) ?_
         refine ⟨(), ⟨rfl, rfl⟩, ?_⟩
         trivial
     · refine ap valIn ([]) a.l rfl rfl (fun a => by rw [valIn_eq]; exact ⟨rfl, rfl⟩) (by (simp only [List.length_append, List.length_cons, List.length_nil]; omega)) ?_
       refine ap valIn a.l b.l rfl rfl (fun a => by rw [valIn_eq]; exact ⟨rfl, rfl⟩) (by (simp only [List.length_append, List.length_cons, List.length_nil]; omega)) ?_
       refine ⟨(), ⟨rfl, rfl⟩, ?_⟩
       trivial
   have e0 : plusR a b = (((⟨0, 0, [], [], []⟩ : Val), 9) : Val × Int) := by
    unfold plusR
    simp only [zV]
    first | (rw [if_pos (by omega)]; done) | (rw [if_neg (by omega), if_pos (by omega), if_pos (by omega)]; done) | (rw [if_neg (by omega), if_pos (by omega), if_neg (by omega)]; done) | (rw [if_neg (by omega), if_neg (by omega), if_pos (by omega), if_pos (by omega)]; done) | (rw [if_neg (by omega), if_neg (by omega), if_pos (by omega), if_neg (by omega)]; done) | (rw [if_neg (by omega), if_neg (by omega), if_neg (by omega), if_pos (by omega)]; done) | (rw [if_neg (by omega), if_neg (by omega), if_neg (by omega), if_neg (by omega)]; done)
   rw [e0] at hK
   exact rt0 rfl fun _ => hK
 have e0 : plusR a b = (((⟨0, 0, [], [], []⟩ : Val), 9) : Val × Int) := by
  unfold plusR
  simp only [zV]
  first | (rw [if_pos (by omega)]; done) | (rw [if_neg (by omega), if_pos (by omega), if_pos (by omega)]; done) | (rw [if_neg (by omega), if_pos (by omega), if_neg (by omega)]; done) | (rw [if_neg (by omega), if_neg (by omega), if_pos (by omega), if_pos (by omega)]; done) | (rw [if_neg (by omega), if_neg (by omega), if_pos (by omega), if_neg (by omega)]; done) | (rw [if_neg (by omega), if_neg (by omega), if_neg (by omega), if_pos (by omega)]; done) | (rw [if_neg (by omega), if_neg (by omega), if_neg (by omega), if_neg (by omega)]; done)
 rw [e0] at hK
 exact rt0 rfl fun _ => hK
set_option maxHeartbeats 8000000 in
theorem u_join (e : Exp) (l : List Val) (hl : ∀ v ∈ l, chk v = 0) (hln : l.length ≤ 837723144972) (m : AMem)  (K : AV → AMem → Prop) (hK : K (.tuple [valTop (joinR e l).1, .err 72 (joinR e l).2]) m) : ACalls Tryd.prog 53 [expTop e, .slice false (l.map valIn)] m K := by
 refine enter (c := cf [] [0] [1, 3, 10, 18] [] [] []) (vs := [.av (expTop e), .av (.slice false (l.map valIn))]) (L := []) (m := m) true tbOk Tryd.mixed Tryd.func53 rfl (k := 2) (by show fnOk [] _ _ _ = true; decide +kernel) rfl (Good.nil m) ?_
 refine ⟨fun F0 => ?_⟩
 have hbd0_3 : e.v.s.length ≤ 140737488355328 := (F0 0 3 (Nat.le_of_ble_eq_true rfl))
 have hbd0_4 : e.v.l.length ≤ 140737488355328 := bd_map (F0 0 4 (Nat.le_of_ble_eq_true rfl))
 have hbd0_5 : e.v.f.length ≤ 140737488355328 := bd_map (F0 0 5 (Nat.le_of_ble_eq_true rfl))
 have hbd0_6 : e.s.length ≤ 140737488355328 := (F0 0 6 (Nat.le_of_ble_eq_true rfl))
 have hbd0_7 : e.t.length ≤ 140737488355328 := (F0 0 7 (Nat.le_of_ble_eq_true rfl))
 have hbd0_8 : e.a.length ≤ 140737488355328 := bd_map (F0 0 8 (Nat.le_of_ble_eq_true rfl))
 have hbd0_9 : e.n.length ≤ 140737488355328 := bd_map (F0 0 9 (Nat.le_of_ble_eq_true rfl))
 have hbd1_0 : l.length ≤ 140737488355328 := bd_map (o := false) (F0 1).1
 refine sq ?_
 refine mg [1, 2, 4] 10 ((e.kind == 5) && ((l.length : Int) == 2)) ?_ ?_
 · repeat' first
    | exact ⟨⟨_, rfl, by grind [SB.val]⟩, rfl⟩
    | refine an (fun _ => ?_) (fun _ => ?_)
    | refine ln ?_
 refine an (fun h1 => ?_) (fun h1 => ?_)
 · replace h1 : (e.kind = 5) ∧ ((l.length : Int) = 2) := ⟨(eq_of_beq (bandL h1)), (eq_of_beq (bandR h1))⟩
   refine ixg valTop valIn_eq (by omega) ?_
   refine ixg valTop valIn_eq (by omega) ?_
   refine pure0 (fun _ => u_plus (gI l 0) (gI l 1) (hl _ (gI_mem (l := l) (i := 0) (by omega) (by omega))) (hl _ (gI_mem (l := l) (i := 1) (by omega) (by omega)))) ?_
   have e0 : joinR e l = ((((plusR (gI l 0) (gI l 1)).1), (plusR (gI l 0) (gI l 1)).2) : Val × Int) := by
    unfold joinR
    simp only [zV]
    first | (rw [if_pos (by omega)]; done) | (rw [if_neg (by omega), if_pos (by omega)]; simp [*]; done) | (rw [if_neg (by omega), if_neg (by omega), if_pos (by omega)]; done) | (rw [if_neg (by omega), if_neg (by omega), if_neg (by omega), if_pos (by omega), hI.2.2, List.take_of_length_le (by rw [List.length_zip]; omega)]; done) | (rw [if_neg (by omega), if_neg (by omega), if_neg (by omega), if_neg (by omega), if_pos (by omega), if_pos (by assumption)]; done) | (rw [if_neg (by omega), if_neg (by omega), if_neg (by omega), if_neg (by omega), if_pos (by omega), if_neg (by simp [*])]; rfl) | (rw [if_neg (by omega), if_neg (by omega), if_neg (by omega), if_neg (by omega), if_neg (by omega)]; done)
   rw [e0] at hK
   exact rt0 rfl fun _ => hK
 replace h1 : (e.kind ≠ 5) ∨ ((l.length : Int) ≠ 2) := ((bandF h1).imp (fun q => (ne_of_beq_false q)) (fun q => (ne_of_beq_false q)))
 refine mg [1, 2, 4] 28 ((e.kind == 6) && ((l.length : Int) == 2)) ?_ ?_
 · repeat' first
    | exact ⟨⟨_, rfl, by grind [SB.val]⟩, rfl⟩
    | refine an (fun _ => ?_) (fun _ => ?_)
    | refine ln ?_
 refine an (fun h2 => ?_) (fun h2 => ?_)
 · replace h2 : (e.kind = 6) ∧ ((l.length : Int) = 2) := ⟨(eq_of_beq (bandL h2)), (eq_of_beq (bandR h2))⟩
   refine sq ?_
   refine ixg valTop valIn_eq (by omega) ?_
   refine ixg valTop valIn_eq (by omega) ?_
   refine pure0 (fun _ => u_Alike (gI l 0) (gI l 1)) ?_
   refine an (fun h3 => ?_) (fun h3 => ?_)
   · have e0 : joinR e l = (((⟨3, 1, [], [], []⟩ : Val), 0) : Val × Int) := by
      unfold joinR
      simp only [zV]
      first | (rw [if_pos (by omega)]; done) | (rw [if_neg (by omega), if_pos (by omega)]; simp [*]; done) | (rw [if_neg (by omega), if_neg (by omega), if_pos (by omega)]; done) | (rw [if_neg (by omega), if_neg (by omega), if_neg (by omega), if_pos (by omega), hI.2.2, List.take_of_length_le (by rw [List.length_zip]; omega)]; done) | (rw [if_neg (by omega), if_neg (by omega), if_neg (by omega), if_neg (by omega), if_pos (by omega), if_pos (by assumption)]; done) | (rw [if_neg (by omega), if_neg (by omega), if_neg (by omega), if_neg (by omega), if_pos (by omega), if_neg (by simp [*])]; rfl) | (rw [if_neg (by omega), if_neg (by omega), if_neg (by omega), if_neg (by omega), if_neg (by omega)]; done)
     rw [e0] at hK
     exact rt0 rfl fun _ => hK
   have e0 : joinR e l = (((⟨3, 0, [], [], []⟩ : Val), 0) : Val × Int) := by
    unfold joinR
    simp only [zV]
    first | (rw [if_pos (by omega)]; done) | (rw [if_neg (by omega), if_pos (by omega)]; simp [*]; done) | (rw [if_neg (by omega), if_neg (by omega), if_pos (by omega)]; done) | (rw [if_neg (by omega), if_neg (by omega), if_neg (by omega), if_pos (by omega), hI.2.2, List.take_of_length_le (by rw [List.length_zip]; omega)]; done) | (rw [if_neg (by omega), if_neg (by omega), if_neg (by omega), if_neg (by omega), if_pos (by omega), if_pos (by assumption)]; done) | (rw [if_neg (by omega), if_neg (by omega), if_neg (by omega), if_neg (by omega), if_pos (by omega), if_neg (by simp [*])]; rfl) | (rw [if_neg (by omega), if_neg (by omega), if_neg (by omega), if_neg (by omega), if_neg (by omega)]; done)
   rw [e0] at hK
   exact rt0 rfl fun _ => hK
 replace h2 : (e.kind ≠ 6) ∨ ((l.length : Int) ≠ 2) := ((bandF h2).imp (fun q => (ne_of_beq_false q)) (fun q => (ne_of_beq_false q)))
 refine an (fun h4 => ?_) (fun h4 => ?_)
 · have e0 : joinR e l = (((⟨4, 0, [], l, []⟩ : Val), 0) : Val × Int) := by
    unfold joinR
    simp only [zV]
    first | (rw [if_pos (by omega)]; done) | (rw [if_neg (by omega), if_pos (by omega)]; simp [*]; done) | (rw [if_neg (by omega), if_neg (by omega), if_pos (by omega)]; done) | (rw [if_neg (by omega), if_neg (by omega), if_neg (by omega), if_pos (by omega), hI.2.2, List.take_of_length_le (by rw [List.length_zip]; omega)]; done) | (rw [if_neg (by omega), if_neg (by omega), if_neg (by omega), if_neg (by omega), if_pos (by omega), if_pos (by assumption)]; done) | (rw [if_neg (by omega), if_neg (by omega), if_neg (by omega), if_neg (by omega), if_pos (by omega), if_neg (by simp [*])]; rfl) | (rw [if_neg (by omega), if_neg (by omega), if_neg (by omega), if_neg (by omega), if_neg (by omega)]; done)
   rw [e0] at hK
   exact rt0 rfl fun _ => hK
 refine mg [1, 2, 4] 53 ((e.kind == 9) && ((e.n.length : Int) == (l.length : Int))) ?_ ?_
 · repeat' first
    | exact ⟨⟨_, rfl, by grind [SB.val]⟩, rfl⟩
    | refine an (fun _ => ?_) (fun _ => ?_)
    | refine ln ?_
 refine an (fun h5 => ?_) (fun h5 => ?_)
 · replace h5 : (e.kind = 9) ∧ ((e.n.length : Int) = (l.length : Int)) := ⟨(eq_of_beq (bandL h5)), (eq_of_beq (bandR h5))⟩
   refine sq ?_
   refine ln ?_
   refine lp (σ := (List (Str × Val)) × Int) [] [2, 4, 7, 65, 66, 67] 2 (fun ⟨of, i⟩ => ([(2, .loc 0 0), (4, .loc 1 0), (7, .own (of.map fldIn)), (65, vL (l.map valIn)), (66, vI (l.length : Int)), (67, vI i)], [.cells [vI e.kind, vI e.v.kind, vI e.v.n, vS e.v.s, vL (e.v.l.map valIn), vL (e.v.f.map fldIn), vS e.s, vS e.t, vL (e.a.map expIn), vL (e.n.map strAV)], .cells [vI 0, vI 0, vS ([]), .own [], .own []]], m)) (fun ⟨of, i⟩ => 0 ≤ i ∧ i ≤ l.length ∧ of = (e.n.zip l).take i.toNat) (fun ⟨of, i⟩ => l.length - i.toNat) ([], 0) ⟨rfl, rfl⟩ ?_ ?_
   · try dsimp only
     exact ⟨by omega, by omega, rfl⟩
   rintro ⟨of, i⟩ hI
   dsimp only at hI
   have hof2 : (of.length : Int) ≤ i := by rw [hI.2.2, List.length_take]; omega
   refine sq ?_
   refine an (fun h6 => ?_) (fun h6 => ?_)
   · refine sq ?_
     refine ixg valTop valIn_eq (by omega) ?_
     refine ix (by omega) ?_
     refine ap fldIn of ([(⟨gI e.n i, (gI l i)⟩ : (Str × Val))] : List (Str × Val)) rfl (by simp only [List.map_cons, List.map_nil, fldIn_eq]; try rfl) (fun a => by rw [fldIn_eq]; exact ⟨rfl, rfl⟩) (by (simp only [List.length_append, List.length_cons, List.length_nil]; omega)) ?_
     refine an (by omega) ?_
     refine ⟨(of ++ ([(⟨gI e.n i, (gI l i)⟩ : (Str × Val))] : List (Str × Val)), i + 1), ⟨rfl, rfl⟩, ?_, ?_⟩
     · try dsimp only
       exact ⟨by omega, by omega, by rw [take_succ_gI hI.1 (by rw [List.length_zip]; omega), ← hI.2.2, gI_zip hI.1 (by omega) (by omega)]⟩
     try dsimp only
     omega
   have e0 : joinR e l = (((⟨5, 0, [], [], of⟩ : Val), 0) : Val × Int) := by
    unfold joinR
    simp only [zV]
    first | (rw [if_pos (by omega)]; done) | (rw [if_neg (by omega), if_pos (by omega)]; simp [*]; done) | (rw [if_neg (by omega), if_neg (by omega), if_pos (by omega)]; done) | (rw [if_neg (by omega), if_neg (by omega), if_neg (by omega), if_pos (by omega), hI.2.2, List.take_of_length_le (by rw [List.length_zip]; omega)]; done) | (rw [if_neg (by omega), if_neg (by omega), if_neg (by omega), if_neg (by omega), if_pos (by omega), if_pos (by assumption)]; done) | (rw [if_neg (by omega), if_neg (by omega), if_neg (by omega), if_neg (by omega), if_pos (by omega), if_neg (by simp [*])]; rfl) | (rw [if_neg (by omega), if_neg (by omega), if_neg (by omega), if_neg (by omega), if_neg (by omega)]; done)
   rw [e0] at hK
   exact rt0 rfl fun _ => hK
 replace h5 : (e.kind ≠ 9) ∨ ((e.n.length : Int) ≠ (l.length : Int)) := ((bandF h5).imp (fun q => (ne_of_beq_false q)) (fun q => (ne_of_beq_false q)))
 refine mg [1, 2, 4] 85 ((e.kind == 10) && ((l.length : Int) == 1)) ?_ ?_
 · repeat' first
    | exact ⟨⟨_, rfl, by grind [SB.val]⟩, rfl⟩
    | refine an (fun _ => ?_) (fun _ => ?_)
    | refine ln ?_
 refine an (fun h7 => ?_) (fun h7 => ?_)
 · replace h7 : (e.kind = 10) ∧ ((l.length : Int) = 1) := ⟨(eq_of_beq (bandL h7)), (eq_of_beq (bandR h7))⟩
   refine sq ?_
   refine ixg valTop valIn_eq (by omega) ?_
   refine an (fun h8 => ?_) (fun h8 => ?_)
   · refine ixg valTop valIn_eq (by omega) ?_
     refine pure0 (fun _ => u_Get (gI l 0) e.s) ?_
     refine pure0 (fun _ => u_named ((mget (gI l 0).f e.s).getD zV) ((mget (gI l 0).f e.s).isSome) (okV_get ((okV_iff _).1 (chk_okV (hl _ (gI_mem (l := l) (i := 0) (by omega) (by omega))))).2.2 _)) ?_
     have e0 : joinR e l = ((((namedB ((mget (gI l 0).f e.s).getD zV) ((mget (gI l 0).f e.s).isSome)).1), (namedB ((mget (gI l 0).f e.s).getD zV) ((mget (gI l 0).f e.s).isSome)).2) : Val × Int) := by
      unfold joinR
      simp only [zV]
      first | (rw [if_pos (by omega)]; done) | (rw [if_neg (by omega), if_pos (by omega)]; simp [*]; done) | (rw [if_neg (by omega), if_neg (by omega), if_pos (by omega)]; done) | (rw [if_neg (by omega), if_neg (by omega), if_neg (by omega), if_pos (by omega), hI.2.2, List.take_of_length_le (by rw [List.length_zip]; omega)]; done) | (rw [if_neg (by omega), if_neg (by omega), if_neg (by omega), if_neg (by omega), if_pos (by omega), if_pos (by assumption)]; done) | (rw [if_neg (by omega), if_neg (by omega), if_neg (by omega), if_neg (by omega), if_pos (by omega), if_neg (by simp [*])]; rfl) | (rw [if_neg (by omega), if_neg (by omega), if_neg (by omega), if_neg (by omega), if_neg (by omega)]; done)
     rw [e0] at hK
     exact rt0 rfl fun _ => hK
   have e0 : joinR e l = (((⟨0, 0, [], [], []⟩ : Val), 9) : Val × Int) := by
    unfold joinR
    simp only [zV]
    first | (rw [if_pos (by omega)]; done) | (rw [if_neg (by omega), if_pos (by omega)]; simp [*]; done) | (rw [if_neg (by omega), if_neg (by omega), if_pos (by omega)]; done) | (rw [if_neg (by omega), if_neg (by omega), if_neg (by omega), if_pos (by omega), hI.2.2, List.take_of_length_le (by rw [List.length_zip]; omega)]; done) | (rw [if_neg (by omega), if_neg (by omega), if_neg (by omega), if_neg (by omega), if_pos (by omega), if_pos (by assumption)]; done) | (rw [if_neg (by omega), if_neg (by omega), if_neg (by omega), if_neg (by omega), if_pos (by omega), if_neg (by simp [*])]; rfl) | (rw [if_neg (by omega), if_neg (by omega), if_neg (by omega), if_neg (by omega), if_neg (by omega)]; done)
   rw [e0] at hK
   exact rt0 rfl fun _ => hK
 replace h7 : (e.kind ≠ 10) ∨ ((l.length : Int) ≠ 1) := ((bandF h7).imp (fun q => (ne_of_beq_false q)) (fun q => (ne_of_beq_false q)))
 have e0 : joinR e l = (((⟨0, 0, [], [], []⟩ : Val), 3) : Val × Int) := by
  unfold joinR
  simp only [zV]
  first | (rw [if_pos (by omega)]; done) | (rw [if_neg (by omega), if_pos (by omega)]; simp [*]; done) | (rw [if_neg (by omega), if_neg (by omega), if_pos (by omega)]; done) | (rw [if_neg (by omega), if_neg (by omega), if_neg (by omega), if_pos (by omega), hI.2.2, List.take_of_length_le (by rw [List.length_zip]; omega)]; done) | (rw [if_neg (by omega), if_neg (by omega), if_neg (by omega), if_neg (by omega), if_pos (by omega), if_pos (by assumption)]; done) | (rw [if_neg (by omega), if_neg (by omega), if_neg (by omega), if_neg (by omega), if_pos (by omega), if_neg (by simp [*])]; rfl) | (rw [if_neg (by omega), if_neg (by omega), if_neg (by omega), if_neg (by omega), if_neg (by omega)]; done)
 rw [e0] at hK
 exact rt0 rfl fun _ => hK
end Go.Proofs
end
section
namespace Go.Proofs
open Go Go.Aw Go.Sx
set_option maxRecDepth 100000
set_option maxHeartbeats 4000000 in
theorem u_Eval1 (e : Exp) (bi br bf : Nat) (en rs : VMap) (fe : FMap) (r : Val × Int) (ih : ∀ (m : AMem), EnvM m bi br bf en rs fe → ∀ (K : AV → AMem → Prop), K (.tuple [valTop (r).1, .err 72 (r).2]) m → ACalls Tryd.prog 30 [expTop e, .agg [.map bi, .map br, .map bf]] m K) (m : AMem)  (K : AV → AMem → Prop) (hE : EnvM m bi br bf en rs fe) (hK : K (.tuple [valTop (fin r).1, .err 72 (fin r).2]) m) : ACalls Tryd.prog 11 [expTop e, .agg [.map bi, .map br, .map bf]] m K := by
 refine enter (c := cf [] [] [] [] [] []) (vs := [.av (expTop e), .agg [.av (.map bi), .av (.map br), .av (.map bf)]]) (L := []) (m := m) true tbOk Tryd.mixed Tryd.func11 rfl (k := 2) (by show fnOk [] _ _ _ = true; decide +kernel) rfl (Good.nil m) ?_
 refine callT [] [] (.av (.tuple [valTop ((r).1), .err 72 ((r).2)])) rfl (fun bs mm gd ht => ih mm (hE.up ht)) ?_
 refine sq ?_
 refine an (fun h1 => ?_) (fun h1 => ?_)
 · refine call0 (fun _ => u_Check ((r).1)) rfl ?_
   refine sq ?_
   refine an (fun h2 => ?_) (fun h2 => ?_)
   · have e0 : fin r = ((((r).1), 0) : Val × Int) := by
      first | omega | (rw [fin, if_pos (by assumption), if_pos (by assumption)]; done) | (rw [fin, if_pos (by assumption), if_neg (by assumption)]; rfl) | (rw [fin, if_neg (by assumption)]; rfl)
     rw [e0] at hK
     exact rt0 rfl fun _ => hK
   have e0 : fin r = (((⟨0, 0, [], [], []⟩ : Val), chk ((r).1)) : Val × Int) := by
    first | omega | (rw [fin, if_pos (by assumption), if_pos (by assumption)]; done) | (rw [fin, if_pos (by assumption), if_neg (by assumption)]; rfl) | (rw [fin, if_neg (by assumption)]; rfl)
   rw [e0] at hK
   exact rt0 rfl fun _ => hK
 refine sq ?_
 refine an (fun h3 => ?_) (fun h3 => ?_)
 · have e0 : fin r = ((((r).1), 0) : Val × Int) := by
    first | omega | (rw [fin, if_pos (by assumption), if_pos (by assumption)]; done) | (rw [fin, if_pos (by assumption), if_neg (by assumption)]; rfl) | (rw [fin, if_neg (by assumption)]; rfl)
   rw [e0] at hK
   exact rt0 rfl fun _ => hK
 have e0 : fin r = (((⟨0, 0, [], [], []⟩ : Val), (r).2) : Val × Int) := by
  first | omega | (rw [fin, if_pos (by assumption), if_pos (by assumption)]; done) | (rw [fin, if_pos (by assumption), if_neg (by assumption)]; rfl) | (rw [fin, if_neg (by assumption)]; rfl)
 rw [e0] at hK
 exact rt0 rfl fun _ => hK
set_option maxHeartbeats 4000000 in
theorem u_all (k : Nat) (l : List Exp) (bi br bf : Nat) (en rs : VMap) (fe : FMap) (hln : l.length ≤ 837723144972) (ih : ∀ x ∈ l, ∀ (m : AMem), EnvM m bi br bf en rs fe → ∀ (K : AV → AMem → Prop), K (.tuple [valTop (evF en rs fe k x).1, .err 72 (evF en rs fe k x).2]) m → ACalls Tryd.prog 30 [expTop x, .agg [.map bi, .map br, .map bf]] m K) (m : AMem)  (K : AV → AMem → Prop) (hE : EnvM m bi br bf en rs fe) (hK : K (.tuple [.slice false ((allL (gE en rs fe k) l).map valIn), .err 72 (allE (gE en rs fe k) l)]) m) : ACalls Tryd.prog 52 [.slice false (l.map expIn), .agg [.map bi, .map br, .map bf]] m K := by
 refine ACalls.pl ?_
 refine enter (c := cf [] [0] [] [] [] []) (vs := [.av (.slice false (l.map expIn)), .agg [.av (.map bi), .av (.map br), .av (.map bf)]]) (L := []) (m := m) true tbOk Tryd.mixed Tryd.func52 rfl (k := 2) (by show fnOk [] _ _ _ = true; decide +kernel) rfl (Good.nil m) ?_
 refine ⟨fun F0 => ?_⟩
 have hbd0_0 : l.length ≤ 140737488355328 := bd_map (o := false) (F0 0).1
 refine sq ?_
 refine ln ?_
 refine lp (σ := (List Val) × Int) [] [3, 6, 11, 12, 13] 1 (fun ⟨out, i⟩ => ([(3, .loc 0 0), (6, .own (out.map valIn)), (11, vL (l.map expIn)), (12, vI (l.length : Int)), (13, vI i)], [.cells [.av (.map bi), .av (.map br), .av (.map bf)]], m)) (fun ⟨out, i⟩ => 0 ≤ i ∧ i ≤ l.length ∧ allE (gE en rs fe k) l = allE (gE en rs fe k) (l.drop i.toNat) ∧ out = (l.take i.toNat).map (fun x => (gE en rs fe k x).1)) (fun ⟨out, i⟩ => l.length - i.toNat) ([], 0) ⟨rfl, rfl⟩ ?_ ?_
 · try dsimp only
   exact ⟨by omega, by omega, rfl, rfl⟩
 rintro ⟨out, i⟩ hI
 dsimp only at hI
 have hol : (out.length : Int) ≤ i := by rw [hI.2.2.2, List.length_map, List.length_take]; omega
 refine sq ?_
 refine an (fun h1 => ?_) (fun h1 => ?_)
 · refine sq ?_
   refine ixg expTop expIn_eq (by omega) ?_
   refine callT [] [] (.av (.tuple [valTop (((gE en rs fe k) (gI l i)).1), .err 72 (((gE en rs fe k) (gI l i)).2)])) rfl (fun bs mm gd ht => fun K hK => u_Eval1 (gI l i) bi br bf en rs fe (evF en rs fe k (gI l i)) (ih _ (gI_mem hI.1 h1)) mm K (hE.up ht) hK) ?_
   refine sq ?_
   refine an (fun h2 => ?_) (fun h2 => ?_)
   · refine ap valIn out ([(((gE en rs fe k) (gI l i)).1)] : List Val) rfl (by simp only [List.map_cons, List.map_nil, valIn_eq]; try rfl) (fun a => by rw [valIn_eq]; exact ⟨rfl, rfl⟩) (by (simp only [List.length_append, List.length_cons, List.length_nil]; omega)) ?_
     refine an (by omega) ?_
     refine ⟨(out ++ ([(((gE en rs fe k) (gI l i)).1)] : List Val), i + 1), ⟨rfl, rfl⟩, ?_, ?_⟩
     · try dsimp only
       exact ⟨by omega, by omega, by rw [hI.2.2.1, allE_drop hI.1 h1, if_pos h2], by rw [take_succ_gI hI.1 h1, List.map_append, ← hI.2.2.2]; rfl⟩
     try dsimp only
     omega
   refine rt0 rfl fun _ => ?_
   show K (.tuple [.slice false [], .err 72 (((gE en rs fe k) (gI l i)).2)]) m
   have q : allE (gE en rs fe k) l = (gE en rs fe k (gI l i)).2 := by rw [hI.2.2.1, allE_drop hI.1 h1, if_neg h2]
   have q2 : allL (gE en rs fe k) l = [] := by rw [allL, if_neg (by rw [q]; exact h2)]
   rw [q2, q] at hK; exact hK
 refine rt0 rfl fun _ => ?_
 show K (.tuple [.slice false (out.map valIn), .err 72 0]) m
 have q : allE (gE en rs fe k) l = 0 := by rw [hI.2.2.1, List.drop_eq_nil_of_le (by omega)]; rfl
 have q2 : allL (gE en rs fe k) l = out := by rw [allL, if_pos q, hI.2.2.2, take_full (by omega)]
 rw [q2, q] at hK; exact hK
set_option maxHeartbeats 8000000 in
theorem u_eval1 (k : Nat) (e : Exp) (bi br bf : Nat) (en rs : VMap) (fe : FMap) (hen : EnvOk en rs fe) (hok : okE e) (ih : ∀ x : Exp, depE x < k → okE x → ∀ (m : AMem), EnvM m bi br bf en rs fe → ∀ (K : AV → AMem → Prop), K (.tuple [valTop (evF en rs fe k x).1, .err 72 (evF en rs fe k x).2]) m → ACalls Tryd.prog 30 [expTop x, .agg [.map bi, .map br, .map bf]] m K) (hd : depE e < k + 1) (m : AMem)  (K : AV → AMem → Prop) (hE : EnvM m bi br bf en rs fe) (hK : K (.tuple [valTop (evF en rs fe (k + 1) e).1, .err 72 (evF en rs fe (k + 1) e).2]) m) : ACalls Tryd.prog 30 [expTop e, .agg [.map bi, .map br, .map bf]] m K := by
 have hoe := (okE_iff e).1 hok
 obtain ⟨fm, hfm, hfe⟩ := hE.f
 refine enter (c := cf [] [0, 13] [] [18999] [18] []) (vs := [.av (expTop e), .agg [.av (.map bi), .av (.map br), .av (.map bf)]]) (L := []) (m := m) true tbOk Tryd.mixed Tryd.func30 rfl (k := 2) (by show fnOk [18999] _ _ _ = true; decide +kernel) rfl (Good.nil m) ?_
 refine ⟨fun F0 => ?_⟩
 have hbd0_3 : e.v.s.length ≤ 140737488355328 := (F0 0 3 (Nat.le_of_ble_eq_true rfl))
 have hbd0_4 : e.v.l.length ≤ 140737488355328 := bd_map (F0 0 4 (Nat.le_of_ble_eq_true rfl))
 have hbd0_5 : e.v.f.length ≤ 140737488355328 := bd_map (F0 0 5 (Nat.le_of_ble_eq_true rfl))
 have hbd0_6 : e.s.length ≤ 140737488355328 := (F0 0 6 (Nat.le_of_ble_eq_true rfl))
 have hbd0_7 : e.t.length ≤ 140737488355328 := (F0 0 7 (Nat.le_of_ble_eq_true rfl))
 have hbd0_8 : e.a.length ≤ 140737488355328 := bd_map (F0 0 8 (Nat.le_of_ble_eq_true rfl))
 have hbd0_9 : e.n.length ≤ 140737488355328 := bd_map (F0 0 9 (Nat.le_of_ble_eq_true rfl))
 refine sq ?_
 refine an (fun h1 => ?_) (fun h1 => ?_)
 · refine call0 (fun _ => u_Copy e.v hoe.1.1) rfl ?_
   have e0 : evF en rs fe (k + 1) e = ((e.v, 0) : Val × Int) := by
    first | exact evF_1 (by assumption) | exact evF_2 (by assumption) | exact evF_30 (by assumption) rfl | exact evF_30 (by assumption) (by assumption) | exact evF_31 (by assumption) (by assumption) | exact evF_40 (by assumption) (by assumption) | exact evF_40 (by assumption) rfl | exact evF_4 (by assumption) | exact evF_70 (by assumption) (by assumption) | exact evF_71 (by assumption) (by assumption) (by assumption) | exact evF_72 (by assumption) (by assumption) (by assumption) (by assumption) | exact evF_73 (by assumption) (by assumption) (by assumption) (by assumption) | exact evF_80 (by assumption) (by assumption) (by assumption) (by assumption) (by assumption) (by assumption) | exact evF_81 (by assumption) (by assumption) (by assumption) (by assumption) (by assumption) (by assumption)
   rw [e0] at hK
   exact rt0 rfl fun _ => hK
 refine an (fun h2 => ?_) (fun h2 => ?_)
 · refine mloB tbOk (dk := .string) strAV valTop strKey_ok en e.s zV mpSV rfl hE.i rfl rfl rfl ?_ rfl
   refine call0 (fun _ => u_named ((mget en e.s).getD zV) ((mget en e.s).isSome) (by first | exact okV_zV | exact okV_get hen.i _ | exact hen.get _ _ | exact okV_get ((okV_iff _).1 (okV_get hen.r _)).2.2 _)) rfl ?_
   have e0 : evF en rs fe (k + 1) e = ((((namedB ((mget en e.s).getD zV) ((mget en e.s).isSome)).1), (namedB ((mget en e.s).getD zV) ((mget en e.s).isSome)).2) : Val × Int) := by
    first | exact evF_1 (by assumption) | exact evF_2 (by assumption) | exact evF_30 (by assumption) rfl | exact evF_30 (by assumption) (by assumption) | exact evF_31 (by assumption) (by assumption) | exact evF_40 (by assumption) (by assumption) | exact evF_40 (by assumption) rfl | exact evF_4 (by assumption) | exact evF_70 (by assumption) (by assumption) | exact evF_71 (by assumption) (by assumption) (by assumption) | exact evF_72 (by assumption) (by assumption) (by assumption) (by assumption) | exact evF_73 (by assumption) (by assumption) (by assumption) (by assumption) | exact evF_80 (by assumption) (by assumption) (by assumption) (by assumption) (by assumption) (by assumption) | exact evF_81 (by assumption) (by assumption) (by assumption) (by assumption) (by assumption) (by assumption)
   rw [e0] at hK
   exact rt0 rfl fun _ => hK
 refine an (fun h3 => ?_) (fun h3 => ?_)
 · refine mloB tbOk (dk := .string) strAV valTop strKey_ok rs e.s zV mpSV rfl hE.r rfl rfl rfl ?_ rfl
   refine sq ?_
   refine an (fun h4 => ?_) (fun h4 => ?_)
   · refine call0 (fun _ => u_Get ((mget rs e.s).getD zV) e.t) rfl ?_
     refine call0 (fun _ => u_named ((mget ((mget rs e.s).getD zV).f e.t).getD zV) ((mget ((mget rs e.s).getD zV).f e.t).isSome) (by first | exact okV_zV | exact okV_get hen.i _ | exact hen.get _ _ | exact okV_get ((okV_iff _).1 (okV_get hen.r _)).2.2 _)) rfl ?_
     have e0 : evF en rs fe (k + 1) e = ((((namedB ((mget ((mget rs e.s).getD zV).f e.t).getD zV) ((mget ((mget rs e.s).getD zV).f e.t).isSome)).1), (namedB ((mget ((mget rs e.s).getD zV).f e.t).getD zV) ((mget ((mget rs e.s).getD zV).f e.t).isSome)).2) : Val × Int) := by
      first | exact evF_1 (by assumption) | exact evF_2 (by assumption) | exact evF_30 (by assumption) rfl | exact evF_30 (by assumption) (by assumption) | exact evF_31 (by assumption) (by assumption) | exact evF_40 (by assumption) (by assumption) | exact evF_40 (by assumption) rfl | exact evF_4 (by assumption) | exact evF_70 (by assumption) (by assumption) | exact evF_71 (by assumption) (by assumption) (by assumption) | exact evF_72 (by assumption) (by assumption) (by assumption) (by assumption) | exact evF_73 (by assumption) (by assumption) (by assumption) (by assumption) | exact evF_80 (by assumption) (by assumption) (by assumption) (by assumption) (by assumption) (by assumption) | exact evF_81 (by assumption) (by assumption) (by assumption) (by assumption) (by assumption) (by assumption)
     rw [e0] at hK
     exact rt0 rfl fun _ => hK
   have e0 : evF en rs fe (k + 1) e = (((⟨0, 0, [], [], []⟩ : Val), 7) : Val × Int) := by
    first | exact evF_1 (by assumption) | exact evF_2 (by assumption) | exact evF_30 (by assumption) rfl | exact evF_30 (by assumption) (by assumption) | exact evF_31 (by assumption) (by assumption) | exact evF_40 (by assumption) (by assumption) | exact evF_40 (by assumption) rfl | exact evF_4 (by assumption) | exact evF_70 (by assumption) (by assumption) | exact evF_71 (by assumption) (by assumption) (by assumption) | exact evF_72 (by assumption) (by assumption) (by assumption) (by assumption) | exact evF_73 (by assumption) (by assumption) (by assumption) (by assumption) | exact evF_80 (by assumption) (by assumption) (by assumption) (by assumption) (by assumption) (by assumption) | exact evF_81 (by assumption) (by assumption) (by assumption) (by assumption) (by assumption) (by assumption)
   rw [e0] at hK
   exact rt0 rfl fun _ => hK
 refine an (fun h5 => ?_) (fun h5 => ?_)
 · refine ⟨fun _ => ?_⟩
   rcases hq9 : (mget fm e.s).getD none with _ | b9 <;> have hfe9 := hfe e.s <;> rw [hq9] at hfe9
   · refine mlkO tbOk (dk := .string) strAV strKey_ok fm e.s none mpSM hfm hq9 rfl rfl rfl ?_
     refine mloN tbOk (dk := .string) (v := valTop zV) strAV strKey_ok e.t mpSV rfl rfl rfl ?_ rfl
     refine call0 (fun _ => u_named zV false (by first | exact okV_zV | exact okV_get hen.i _ | exact hen.get _ _ | exact okV_get ((okV_iff _).1 (okV_get hen.r _)).2.2 _)) rfl ?_
     have e0 : evF en rs fe (k + 1) e = ((((namedB zV false).1), (namedB zV false).2) : Val × Int) := by
      first | exact evF_1 (by assumption) | exact evF_2 (by assumption) | exact evF_30 (by assumption) rfl | exact evF_30 (by assumption) (by assumption) | exact evF_31 (by assumption) (by assumption) | exact evF_40 (by assumption) (by assumption) | exact evF_40 (by assumption) rfl | exact evF_4 (by assumption) | exact evF_70 (by assumption) (by assumption) | exact evF_71 (by assumption) (by assumption) (by assumption) | exact evF_72 (by assumption) (by assumption) (by assumption) (by assumption) | exact evF_73 (by assumption) (by assumption) (by assumption) (by assumption) | exact evF_80 (by assumption) (by assumption) (by assumption) (by assumption) (by assumption) (by assumption) | exact evF_81 (by assumption) (by assumption) (by assumption) (by assumption) (by assumption) (by assumption)
     rw [e0] at hK
     exact rt0 rfl fun _ => hK
   · refine mlkO tbOk (dk := .string) strAV strKey_ok fm e.s (some b9) mpSM hfm hq9 rfl rfl rfl ?_
     refine mloB tbOk (dk := .string) strAV valTop strKey_ok ((mget fe e.s).getD []) e.t zV mpSV rfl hfe9 rfl rfl rfl ?_ rfl
     refine call0 (fun _ => u_named ((mget ((mget fe e.s).getD []) e.t).getD zV) ((mget ((mget fe e.s).getD []) e.t).isSome) (by first | exact okV_zV | exact okV_get hen.i _ | exact hen.get _ _ | exact okV_get ((okV_iff _).1 (okV_get hen.r _)).2.2 _)) rfl ?_
     have e0 : evF en rs fe (k + 1) e = ((((namedB ((mget ((mget fe e.s).getD []) e.t).getD zV) ((mget ((mget fe e.s).getD []) e.t).isSome)).1), (namedB ((mget ((mget fe e.s).getD []) e.t).getD zV) ((mget ((mget fe e.s).getD []) e.t).isSome)).2) : Val × Int) := by
      first | exact evF_1 (by assumption) | exact evF_2 (by assumption) | exact evF_30 (by assumption) rfl | exact evF_30 (by assumption) (by assumption) | exact evF_31 (by assumption) (by assumption) | exact evF_40 (by assumption) (by assumption) | exact evF_40 (by assumption) rfl | exact evF_4 (by assumption) | exact evF_70 (by assumption) (by assumption) | exact evF_71 (by assumption) (by assumption) (by assumption) | exact evF_72 (by assumption) (by assumption) (by assumption) (by assumption) | exact evF_73 (by assumption) (by assumption) (by assumption) (by assumption) | exact evF_80 (by assumption) (by assumption) (by assumption) (by assumption) (by assumption) (by assumption) | exact evF_81 (by assumption) (by assumption) (by assumption) (by assumption) (by assumption) (by assumption)
     rw [e0] at hK
     exact rt0 rfl fun _ => hK
 refine an (fun h6 => ?_) (fun h6 => ?_)
 · refine sq ?_
   refine ln ?_
   refine an (fun h7 => ?_) (fun h7 => ?_)
   · refine rgA tbOk Tryd.mixed (σ := Unit) (.f 0 (.o 1 (.o 2 (.o 3 (.o 4 (.o 5 (.f 6 (.o 7 (.o 8 (.s 9 (.s 10 (.s 11 .d))) (.o 9 (.o 8 (.s 10 (.s 11 .d)) (.o 10 (.s 8 (.s 11 .d)) .z)) .z)) (.o 8 (.o 7 (.s 9 (.s 10 (.s 11 .d))) (.o 9 (.s 7 (.s 10 (.s 11 .d))) .z)) (.o 9 (.o 7 (.o 8 (.s 10 (.s 11 .d)) (.o 10 (.s 8 (.s 11 .d)) .z)) (.o 8 (.s 7 (.s 10 (.s 11 .d))) .z)) .z)))) (.o 9 (.s 5 (.f 6 (.o 7 (.o 8 (.s 10 (.s 11 .d)) (.o 10 (.s 8 (.s 11 .d)) .z)) (.o 8 (.s 7 (.s 10 (.s 11 .d))) .z)))) .z)) (.o 9 (.s 4 (.s 5 (.f 6 (.o 7 (.o 8 (.s 10 (.s 11 .d)) (.o 10 (.s 8 (.s 11 .d)) .z)) (.o 8 (.s 7 (.s 10 (.s 11 .d))) .z))))) .z)) (.o 4 (.o 3 (.o 5 (.f 6 (.o 7 (.o 8 (.s 9 (.s 10 (.s 11 .d))) (.o 9 (.o 8 (.s 10 (.s 11 .d)) (.o 10 (.s 8 (.s 11 .d)) .z)) .z)) (.o 8 (.o 7 (.s 9 (.s 10 (.s 11 .d))) (.o 9 (.s 7 (.s 10 (.s 11 .d))) .z)) (.o 9 (.o 7 (.o 8 (.s 10 (.s 11 .d)) (.o 10 (.s 8 (.s 11 .d)) .z)) (.o 8 (.s 7 (.s 10 (.s 11 .d))) .z)) .z)))) (.o 9 (.s 5 (.f 6 (.o 7 (.o 8 (.s 10 (.s 11 .d)) (.o 10 (.s 8 (.s 11 .d)) .z)) (.o 8 (.s 7 (.s 10 (.s 11 .d))) .z)))) .z)) (.o 9 (.s 3 (.s 5 (.f 6 (.o 7 (.o 8 (.s 10 (.s 11 .d)) (.o 10 (.s 8 (.s 11 .d)) .z)) (.o 8 (.s 7 (.s 10 (.s 11 .d))) .z))))) .z)) (.o 9 (.o 3 (.s 4 (.s 5 (.f 6 (.o 7 (.o 8 (.s 10 (.s 11 .d)) (.o 10 (.s 8 (.s 11 .d)) .z)) (.o 8 (.s 7 (.s 10 (.s 11 .d))) .z))))) (.o 4 (.s 3 (.s 5 (.f 6 (.o 7 (.o 8 (.s 10 (.s 11 .d)) (.o 10 (.s 8 (.s 11 .d)) .z)) (.o 8 (.s 7 (.s 10 (.s 11 .d))) .z))))) .z)) .z))) (.o 4 (.o 2 (.o 3 (.o 5 (.f 6 (.o 7 (.o 8 (.s 9 (.s 10 (.s 11 .d))) (.o 9 (.o 8 (.s 10 (.s 11 .d)) (.o 10 (.s 8 (.s 11 .d)) .z)) .z)) (.o 8 (.o 7 (.s 9 (.s 10 (.s 11 .d))) (.o 9 (.s 7 (.s 10 (.s 11 .d))) .z)) (.o 9 (.o 7 (.o 8 (.s 10 (.s 11 .d)) (.o 10 (.s 8 (.s 11 .d)) .z)) (.o 8 (.s 7 (.s 10 (.s 11 .d))) .z)) .z)))) (.o 9 (.s 5 (.f 6 (.o 7 (.o 8 (.s 10 (.s 11 .d)) (.o 10 (.s 8 (.s 11 .d)) .z)) (.o 8 (.s 7 (.s 10 (.s 11 .d))) .z)))) .z)) (.o 9 (.s 3 (.s 5 (.f 6 (.o 7 (.o 8 (.s 10 (.s 11 .d)) (.o 10 (.s 8 (.s 11 .d)) .z)) (.o 8 (.s 7 (.s 10 (.s 11 .d))) .z))))) .z)) (.o 9 (.s 2 (.s 3 (.s 5 (.f 6 (.o 7 (.o 8 (.s 10 (.s 11 .d)) (.o 10 (.s 8 (.s 11 .d)) .z)) (.o 8 (.s 7 (.s 10 (.s 11 .d))) .z)))))) .z)) (.o 9 (.o 2 (.o 3 (.s 4 (.s 5 (.f 6 (.o 7 (.o 8 (.s 10 (.s 11 .d)) (.o 10 (.s 8 (.s 11 .d)) .z)) (.o 8 (.s 7 (.s 10 (.s 11 .d))) .z))))) (.o 4 (.s 3 (.s 5 (.f 6 (.o 7 (.o 8 (.s 10 (.s 11 .d)) (.o 10 (.s 8 (.s 11 .d)) .z)) (.o 8 (.s 7 (.s 10 (.s 11 .d))) .z))))) .z)) (.o 4 (.s 2 (.s 3 (.s 5 (.f 6 (.o 7 (.o 8 (.s 10 (.s 11 .d)) (.o 10 (.s 8 (.s 11 .d)) .z)) (.o 8 (.s 7 (.s 10 (.s 11 .d))) .z)))))) .z)) .z))) (.o 4 (.o 1 (.o 2 (.o 3 (.o 5 (.f 6 (.o 7 (.o 8 (.s 9 (.s 10 (.s 11 .d))) (.o 9 (.o 8 (.s 10 (.s 11 .d)) (.o 10 (.s 8 (.s 11 .d)) .z)) .z)) (.o 8 (.o 7 (.s 9 (.s 10 (.s 11 .d))) (.o 9 (.s 7 (.s 10 (.s 11 .d))) .z)) (.o 9 (.o 7 (.o 8 (.s 10 (.s 11 .d)) (.o 10 (.s 8 (.s 11 .d)) .z)) (.o 8 (.s 7 (.s 10 (.s 11 .d))) .z)) .z)))) (.o 9 (.s 5 (.f 6 (.o 7 (.o 8 (.s 10 (.s 11 .d)) (.o 10 (.s 8 (.s 11 .d)) .z)) (.o 8 (.s 7 (.s 10 (.s 11 .d))) .z)))) .z)) (.o 9 (.s 3 (.s 5 (.f 6 (.o 7 (.o 8 (.s 10 (.s 11 .d)) (.o 10 (.s 8 (.s 11 .d)) .z)) (.o 8 (.s 7 (.s 10 (.s 11 .d))) .z))))) .z)) (.o 9 (.s 2 (.s 3 (.s 5 (.f 6 (.o 7 (.o 8 (.s 10 (.s 11 .d)) (.o 10 (.s 8 (.s 11 .d)) .z)) (.o 8 (.s 7 (.s 10 (.s 11 .d))) .z)))))) .z)) (.o 9 (.s 1 (.s 2 (.s 3 (.s 5 (.f 6 (.o 7 (.o 8 (.s 10 (.s 11 .d)) (.o 10 (.s 8 (.s 11 .d)) .z)) (.o 8 (.s 7 (.s 10 (.s 11 .d))) .z))))))) .z)) (.o 9 (.o 1 (.o 2 (.o 3 (.s 4 (.s 5 (.f 6 (.o 7 (.o 8 (.s 10 (.s 11 .d)) (.o 10 (.s 8 (.s 11 .d)) .z)) (.o 8 (.s 7 (.s 10 (.s 11 .d))) .z))))) (.o 4 (.s 3 (.s 5 (.f 6 (.o 7 (.o 8 (.s 10 (.s 11 .d)) (.o 10 (.s 8 (.s 11 .d)) .z)) (.o 8 (.s 7 (.s 10 (.s 11 .d))) .z))))) .z)) (.o 4 (.s 2 (.s 3 (.s 5 (.f 6 (.o 7 (.o 8 (.s 10 (.s 11 .d)) (.o 10 (.s 8 (.s 11 .d)) .z)) (.o 8 (.s 7 (.s 10 (.s 11 .d))) .z)))))) .z)) (.o 4 (.s 1 (.s 2 (.s 3 (.s 5 (.f 6 (.o 7 (.o 8 (.s 10 (.s 11 .d)) (.o 10 (.s 8 (.s 11 .d)) .z)) (.o 8 (.s 7 (.s 10 (.s 11 .d))) .z))))))) .z)) .z)))) [] [2, 3, 4, 12, 13] 4 (fun _ => ([(2, .loc 0 0), (3, .loc 1 0), (4, .loc 2 0), (12, .loc 3 0), (13, .av (.err 72 ((gE en rs fe k (gI e.a 0)).2)))], [.cells [vI e.kind, vI e.v.kind, vI e.v.n, vS e.v.s, vL (e.v.l.map valIn), vL (e.v.f.map fldIn), vS e.s, vS e.t, vL (e.a.map expIn), vL (e.n.map strAV)], .cells [.av (.map bi), .av (.map br), .av (.map bf)], .cells [vI 0, vI 0, vS ([]), .own [], .own []], .cells [vI (((gE en rs fe k (gI e.a 0)).1).kind), vI (((gE en rs fe k (gI e.a 0)).1).n), vS (((gE en rs fe k (gI e.a 0)).1).s), vL ((((gE en rs fe k (gI e.a 0)).1).l).map valIn), vL ((((gE en rs fe k (gI e.a 0)).1).f).map fldIn)]], m)) (fun _ => True) (by decide +kernel) ?_ ?_
     · rintro _ hy18
       try dsimp only at hy18
       refine sq ?_
       refine an (fun h8 => ?_) (fun h8 => ?_)
       · refine sq ?_
         refine an (fun h9 => ?_) (fun h9 => ?_)
         · have hfl := chk_flag (v := (gE en rs fe k (gI e.a 0)).1) (fin_ok h8) h9
           refine an (by omega) ?_
           refine ixg expTop expIn_eq (by omega) ?_
           refine pureT (x := .tuple [valTop ((evF en rs fe k (gI e.a (2 - (((gE en rs fe k (gI e.a 0)).1).n)))).1), .err 72 ((evF en rs fe k (gI e.a (2 - (((gE en rs fe k (gI e.a 0)).1).n)))).2)]) (fun bs mm ht => ih (gI e.a (2 - (((gE en rs fe k (gI e.a 0)).1).n))) (by have := depE_mem (gI_mem (l := e.a) (i := 2 - (gE en rs fe k (gI e.a 0)).1.n) (by omega) (by omega)); omega) (hoe.2 _ (gI_mem (by omega) (by omega))) mm (hE.up ht)) ?_
           have e0 : evF en rs fe (k + 1) e = ((((evF en rs fe k (gI e.a (2 - (((gE en rs fe k (gI e.a 0)).1).n)))).1), (evF en rs fe k (gI e.a (2 - (((gE en rs fe k (gI e.a 0)).1).n)))).2) : Val × Int) := by
            first | exact evF_1 (by assumption) | exact evF_2 (by assumption) | exact evF_30 (by assumption) rfl | exact evF_30 (by assumption) (by assumption) | exact evF_31 (by assumption) (by assumption) | exact evF_40 (by assumption) (by assumption) | exact evF_40 (by assumption) rfl | exact evF_4 (by assumption) | exact evF_70 (by assumption) (by assumption) | exact evF_71 (by assumption) (by assumption) (by assumption) | exact evF_72 (by assumption) (by assumption) (by assumption) (by assumption) | exact evF_73 (by assumption) (by assumption) (by assumption) (by assumption) | exact evF_80 (by assumption) (by assumption) (by assumption) (by assumption) (by assumption) (by assumption) | exact evF_81 (by assumption) (by assumption) (by assumption) (by assumption) (by assumption) (by assumption)
           rw [e0] at hK
           exact rt0 rfl fun _ => hK
         have e0 : evF en rs fe (k + 1) e = (((⟨0, 0, [], [], []⟩ : Val), 9) : Val × Int) := by
          first | exact evF_1 (by assumption) | exact evF_2 (by assumption) | exact evF_30 (by assumption) rfl | exact evF_30 (by assumption) (by assumption) | exact evF_31 (by assumption) (by assumption) | exact evF_40 (by assumption) (by assumption) | exact evF_40 (by assumption) rfl | exact evF_4 (by assumption) | exact evF_70 (by assumption) (by assumption) | exact evF_71 (by assumption) (by assumption) (by assumption) | exact evF_72 (by assumption) (by assumption) (by assumption) (by assumption) | exact evF_73 (by assumption) (by assumption) (by assumption) (by assumption) | exact evF_80 (by assumption) (by assumption) (by assumption) (by assumption) (by assumption) (by assumption) | exact evF_81 (by assumption) (by assumption) (by assumption) (by assumption) (by assumption) (by assumption)
         rw [e0] at hK
         exact rt0 rfl fun _ => hK
       have e0 : evF en rs fe (k + 1) e = (((⟨0, 0, [], [], []⟩ : Val), (gE en rs fe k (gI e.a 0)).2) : Val × Int) := by
        first | exact evF_1 (by assumption) | exact evF_2 (by assumption) | exact evF_30 (by assumption) rfl | exact evF_30 (by assumption) (by assumption) | exact evF_31 (by assumption) (by assumption) | exact evF_40 (by assumption) (by assumption) | exact evF_40 (by assumption) rfl | exact evF_4 (by assumption) | exact evF_70 (by assumption) (by assumption) | exact evF_71 (by assumption) (by assumption) (by assumption) | exact evF_72 (by assumption) (by assumption) (by assumption) (by assumption) | exact evF_73 (by assumption) (by assumption) (by assumption) (by assumption) | exact evF_80 (by assumption) (by assumption) (by assumption) (by assumption) (by assumption) (by assumption) | exact evF_81 (by assumption) (by assumption) (by assumption) (by assumption) (by assumption) (by assumption)
       rw [e0] at hK
       exact rt0 rfl fun _ => hK
     repeat' first
      | refine ⟨(), ⟨rfl, rfl⟩, trivial⟩
      | refine ixg expTop expIn_eq (by omega) ?_
      | refine callT [] [] (.av (.tuple [valTop ((gE en rs fe k (gI e.a 0)).1), .err 72 ((gE en rs fe k (gI e.a 0)).2)])) rfl (fun bs mm gd ht => fun K hK => u_Eval1 (gI e.a 0) bi br bf en rs fe (evF en rs fe k (gI e.a 0)) (ih _ (by have := depE_mem (gI_mem (l := e.a) (i := 0) (by omega) (by omega)); omega) (hoe.2 _ (gI_mem (by omega) (by omega)))) mm K (hE.up ht) hK) ?_
      | refine ⟨?_, ?_, ?_, trivial⟩
      | refine ⟨?_, ?_, trivial⟩
   have e0 : evF en rs fe (k + 1) e = (((⟨0, 0, [], [], []⟩ : Val), 3) : Val × Int) := by
    first | exact evF_1 (by assumption) | exact evF_2 (by assumption) | exact evF_30 (by assumption) rfl | exact evF_30 (by assumption) (by assumption) | exact evF_31 (by assumption) (by assumption) | exact evF_40 (by assumption) (by assumption) | exact evF_40 (by assumption) rfl | exact evF_4 (by assumption) | exact evF_70 (by assumption) (by assumption) | exact evF_71 (by assumption) (by assumption) (by assumption) | exact evF_72 (by assumption) (by assumption) (by assumption) (by assumption) | exact evF_73 (by assumption) (by assumption) (by assumption) (by assumption) | exact evF_80 (by assumption) (by assumption) (by assumption) (by assumption) (by assumption) (by assumption) | exact evF_81 (by assumption) (by assumption) (by assumption) (by assumption) (by assumption) (by assumption)
   rw [e0] at hK
   exact rt0 rfl fun _ => hK
 refine callT [] [] (.av (.tuple [.slice false ((allL (gE en rs fe k) e.a).map valIn), .err 72 (allE (gE en rs fe k) e.a)])) rfl (fun bs mm gd ht => fun K hK => u_all k e.a bi br bf en rs fe hoe.1.2 (fun x hx => ih x (by have := depE_mem hx; omega) (hoe.2 x hx)) mm K (hE.up ht) hK) ?_
 refine sq ?_
 refine an (fun h10 => ?_) (fun h10 => ?_)
 · refine call0 (fun _ => u_join e (allL (gE en rs fe k) e.a) (allL_ok (fun x h => fin_ok h)) (by have := allL_len (gE en rs fe k) e.a; omega)) rfl ?_
   have e0 : evF en rs fe (k + 1) e = ((((joinR e (allL (gE en rs fe k) e.a)).1), (joinR e (allL (gE en rs fe k) e.a)).2) : Val × Int) := by
    first | exact evF_1 (by assumption) | exact evF_2 (by assumption) | exact evF_30 (by assumption) rfl | exact evF_30 (by assumption) (by assumption) | exact evF_31 (by assumption) (by assumption) | exact evF_40 (by assumption) (by assumption) | exact evF_40 (by assumption) rfl | exact evF_4 (by assumption) | exact evF_70 (by assumption) (by assumption) | exact evF_71 (by assumption) (by assumption) (by assumption) | exact evF_72 (by assumption) (by assumption) (by assumption) (by assumption) | exact evF_73 (by assumption) (by assumption) (by assumption) (by assumption) | exact evF_80 (by assumption) (by assumption) (by assumption) (by assumption) (by assumption) (by assumption) | exact evF_81 (by assumption) (by assumption) (by assumption) (by assumption) (by assumption) (by assumption)
   rw [e0] at hK
   exact rt0 rfl fun _ => hK
 have e0 : evF en rs fe (k + 1) e = (((⟨0, 0, [], [], []⟩ : Val), allE (gE en rs fe k) e.a) : Val × Int) := by
  first | exact evF_1 (by assumption) | exact evF_2 (by assumption) | exact evF_30 (by assumption) rfl | exact evF_30 (by assumption) (by assumption) | exact evF_31 (by assumption) (by assumption) | exact evF_40 (by assumption) (by assumption) | exact evF_40 (by assumption) rfl | exact evF_4 (by assumption) | exact evF_70 (by assumption) (by assumption) | exact evF_71 (by assumption) (by assumption) (by assumption) | exact evF_72 (by assumption) (by assumption) (by assumption) (by assumption) | exact evF_73 (by assumption) (by assumption) (by assumption) (by assumption) | exact evF_80 (by assumption) (by assumption) (by assumption) (by assumption) (by assumption) (by assumption) | exact evF_81 (by assumption) (by assumption) (by assumption) (by assumption) (by assumption) (by assumption)
 rw [e0] at hK
 exact rt0 rfl fun _ => hK
theorem u_eval (bi br bf : Nat) (en rs : VMap) (fe : FMap) (hen : EnvOk en rs fe) : ∀ (k : Nat) (e : Exp), depE e < k → okE e → ∀ (m : AMem), EnvM m bi br bf en rs fe → ∀ (K : AV → AMem → Prop), K (.tuple [valTop (evF en rs fe k e).1, .err 72 (evF en rs fe k e).2]) m → ACalls Tryd.prog 30 [expTop e, .agg [.map bi, .map br, .map bf]] m K
  | 0, _, h, _ => absurd h (Nat.not_lt_zero _)
  | k + 1, e, h, hok => fun m hE K hK => u_eval1 k e bi br bf en rs fe hen hok (u_eval bi br bf en rs fe hen k) h m K hE hK
theorem u_EvalT (e : Exp) (bi br bf : Nat) (en rs : VMap) (fe : FMap) (hen : EnvOk en rs fe) (hok : okE e) : ∀ (m : AMem), EnvM m bi br bf en rs fe → ∀ (K : AV → AMem → Prop), K (.tuple [valTop (gE en rs fe (depE e + 1) e).1, .err 72 (gE en rs fe (depE e + 1) e).2]) m → ACalls Tryd.prog 11 [expTop e, .agg [.map bi, .map br, .map bf]] m K := fun m hE K hK =>
  u_Eval1 e bi br bf en rs fe (evF en rs fe (depE e + 1) e) (u_eval bi br bf en rs fe hen (depE e + 1) e (Nat.lt_succ_self _) hok) m K hE hK
set_option maxHeartbeats 4000000 in
theorem u_EvalN1 (e : Exp)  (r : Val × Int) (ih : ∀ (m : AMem), ∀ (K : AV → AMem → Prop), K (.tuple [valTop (r).1, .err 72 (r).2]) m → ACalls Tryd.prog 30 [expTop e, .agg [.nilmap, .nilmap, .nilmap]] m K) (m : AMem)  (K : AV → AMem → Prop) (hK : K (.tuple [valTop (fin r).1, .err 72 (fin r).2]) m) : ACalls Tryd.prog 11 [expTop e, .agg [.nilmap, .nilmap, .nilmap]] m K := by
 refine enter (c := cf [] [] [] [] [] []) (vs := [.av (expTop e), .agg [.av (.nilmap), .av (.nilmap), .av (.nilmap)]]) (L := []) (m := m) true tbOk Tryd.mixed Tryd.func11 rfl (k := 2) (by show fnOk [] _ _ _ = true; decide +kernel) rfl (Good.nil m) ?_
 refine callT [] [] (.av (.tuple [valTop ((r).1), .err 72 ((r).2)])) rfl (fun bs mm gd ht => ih mm) ?_
 refine sq ?_
 refine an (fun h1 => ?_) (fun h1 => ?_)
 · refine call0 (fun _ => u_Check ((r).1)) rfl ?_
   refine sq ?_
   refine an (fun h2 => ?_) (fun h2 => ?_)
   · have e0 : fin r = ((((r).1), 0) : Val × Int) := by
      first | omega | (rw [fin, if_pos (by assumption), if_pos (by assumption)]; done) | (rw [fin, if_pos (by assumption), if_neg (by assumption)]; rfl) | (rw [fin, if_neg (by assumption)]; rfl)
     rw [e0] at hK
     exact rt0 rfl fun _ => hK
   have e0 : fin r = (((⟨0, 0, [], [], []⟩ : Val), chk ((r).1)) : Val × Int) := by
    first | omega | (rw [fin, if_pos (by assumption), if_pos (by assumption)]; done) | (rw [fin, if_pos (by assumption), if_neg (by assumption)]; rfl) | (rw [fin, if_neg (by assumption)]; rfl)
   rw [e0] at hK
   exact rt0 rfl fun _ => hK
 refine sq ?_
 refine an (fun h3 => ?_) (fun h3 => ?_)
 · have e0 : fin r = ((((r).1), 0) : Val × Int) := by
    first | omega | (rw [fin, if_pos (by assumption), if_pos (by assumption)]; done) | (rw [fin, if_pos (by assumption), if_neg (by assumption)]; rfl) | (rw [fin, if_neg (by assumption)]; rfl)
   rw [e0] at hK
   exact rt0 rfl fun _ => hK
 have e0 : fin r = (((⟨0, 0, [], [], []⟩ : Val), (r).2) : Val × Int) := by
  first | omega | (rw [fin, if_pos (by assumption), if_pos (by assumption)]; done) | (rw [fin, if_pos (by assumption), if_neg (by assumption)]; rfl) | (rw [fin, if_neg (by assumption)]; rfl)
 rw [e0] at hK
 exact rt0 rfl fun _ => hK
set_option maxHeartbeats 4000000 in
theorem u_allN (k : Nat) (l : List Exp)  (hln : l.length ≤ 837723144972) (ih : ∀ x ∈ l, ∀ (m : AMem), ∀ (K : AV → AMem → Prop), K (.tuple [valTop (evF [] [] [] k x).1, .err 72 (evF [] [] [] k x).2]) m → ACalls Tryd.prog 30 [expTop x, .agg [.nilmap, .nilmap, .nilmap]] m K) (m : AMem)  (K : AV → AMem → Prop) (hK : K (.tuple [.slice false ((allL (gE [] [] [] k) l).map valIn), .err 72 (allE (gE [] [] [] k) l)]) m) : ACalls Tryd.prog 52 [.slice false (l.map expIn), .agg [.nilmap, .nilmap, .nilmap]] m K := by
 refine ACalls.pl ?_
 refine enter (c := cf [] [0] [] [] [] []) (vs := [.av (.slice false (l.map expIn)), .agg [.av (.nilmap), .av (.nilmap), .av (.nilmap)]]) (L := []) (m := m) true tbOk Tryd.mixed Tryd.func52 rfl (k := 2) (by show fnOk [] _ _ _ = true; decide +kernel) rfl (Good.nil m) ?_
 refine ⟨fun F0 => ?_⟩
 have hbd0_0 : l.length ≤ 140737488355328 := bd_map (o := false) (F0 0).1
 refine sq ?_
 refine ln ?_
 refine lp (σ := (List Val) × Int) [] [3, 6, 11, 12, 13] 1 (fun ⟨out, i⟩ => ([(3, .loc 0 0), (6, .own (out.map valIn)), (11, vL (l.map expIn)), (12, vI (l.length : Int)), (13, vI i)], [.cells [.av (.nilmap), .av (.nilmap), .av (.nilmap)]], m)) (fun ⟨out, i⟩ => 0 ≤ i ∧ i ≤ l.length ∧ allE (gE [] [] [] k) l = allE (gE [] [] [] k) (l.drop i.toNat) ∧ out = (l.take i.toNat).map (fun x => (gE [] [] [] k x).1)) (fun ⟨out, i⟩ => l.length - i.toNat) ([], 0) ⟨rfl, rfl⟩ ?_ ?_
 · try dsimp only
   exact ⟨by omega, by omega, rfl, rfl⟩
 rintro ⟨out, i⟩ hI
 dsimp only at hI
 have hol : (out.length : Int) ≤ i := by rw [hI.2.2.2, List.length_map, List.length_take]; omega
 refine sq ?_
 refine an (fun h1 => ?_) (fun h1 => ?_)
 · refine sq ?_
   refine ixg expTop expIn_eq (by omega) ?_
   refine callT [] [] (.av (.tuple [valTop (((gE [] [] [] k) (gI l i)).1), .err 72 (((gE [] [] [] k) (gI l i)).2)])) rfl (fun bs mm gd ht => fun K hK => u_EvalN1 (gI l i)  (evF [] [] [] k (gI l i)) (ih _ (gI_mem hI.1 h1)) mm K hK) ?_
   refine sq ?_
   refine an (fun h2 => ?_) (fun h2 => ?_)
   · refine ap valIn out ([(((gE [] [] [] k) (gI l i)).1)] : List Val) rfl (by simp only [List.map_cons, List.map_nil, valIn_eq]; try rfl) (fun a => by rw [valIn_eq]; exact ⟨rfl, rfl⟩) (by (simp only [List.length_append, List.length_cons, List.length_nil]; omega)) ?_
     refine an (by omega) ?_
     refine ⟨(out ++ ([(((gE [] [] [] k) (gI l i)).1)] : List Val), i + 1), ⟨rfl, rfl⟩, ?_, ?_⟩
     · try dsimp only
       exact ⟨by omega, by omega, by rw [hI.2.2.1, allE_drop hI.1 h1, if_pos h2], by rw [take_succ_gI hI.1 h1, List.map_append, ← hI.2.2.2]; rfl⟩
     try dsimp only
     omega
   refine rt0 rfl fun _ => ?_
   show K (.tuple [.slice false [], .err 72 (((gE [] [] [] k) (gI l i)).2)]) m
   have q : allE (gE [] [] [] k) l = (gE [] [] [] k (gI l i)).2 := by rw [hI.2.2.1, allE_drop hI.1 h1, if_neg h2]
   have q2 : allL (gE [] [] [] k) l = [] := by rw [allL, if_neg (by rw [q]; exact h2)]
   rw [q2, q] at hK; exact hK
 refine rt0 rfl fun _ => ?_
 show K (.tuple [.slice false (out.map valIn), .err 72 0]) m
 have q : allE (gE [] [] [] k) l = 0 := by rw [hI.2.2.1, List.drop_eq_nil_of_le (by omega)]; rfl
 have q2 : allL (gE [] [] [] k) l = out := by rw [allL, if_pos q, hI.2.2.2, take_full (by omega)]
 rw [q2, q] at hK; exact hK
set_option maxHeartbeats 8000000 in
theorem u_evalN1 (k : Nat) (e : Exp)  (hkn : e.kind = 1 ∨ e.kind = 5) (hok : okE e) (ih : ∀ x ∈ e.a, ∀ (m : AMem), ∀ (K : AV → AMem → Prop), K (.tuple [valTop (evF [] [] [] k x).1, .err 72 (evF [] [] [] k x).2]) m → ACalls Tryd.prog 30 [expTop x, .agg [.nilmap, .nilmap, .nilmap]] m K) (m : AMem)  (K : AV → AMem → Prop) (hK : K (.tuple [valTop (evF [] [] [] (k + 1) e).1, .err 72 (evF [] [] [] (k + 1) e).2]) m) : ACalls Tryd.prog 30 [expTop e, .agg [.nilmap, .nilmap, .nilmap]] m K := by
 have hoe := (okE_iff e).1 hok
 refine enter (c := cf [] [0] [] [18999] [] []) (vs := [.av (expTop e), .agg [.av (.nilmap), .av (.nilmap), .av (.nilmap)]]) (L := []) (m := m) true tbOk Tryd.mixed Tryd.func30 rfl (k := 2) (by show fnOk [18999] _ _ _ = true; decide +kernel) rfl (Good.nil m) ?_
 refine ⟨fun F0 => ?_⟩
 have hbd0_3 : e.v.s.length ≤ 140737488355328 := (F0 0 3 (Nat.le_of_ble_eq_true rfl))
 have hbd0_4 : e.v.l.length ≤ 140737488355328 := bd_map (F0 0 4 (Nat.le_of_ble_eq_true rfl))
 have hbd0_5 : e.v.f.length ≤ 140737488355328 := bd_map (F0 0 5 (Nat.le_of_ble_eq_true rfl))
 have hbd0_6 : e.s.length ≤ 140737488355328 := (F0 0 6 (Nat.le_of_ble_eq_true rfl))
 have hbd0_7 : e.t.length ≤ 140737488355328 := (F0 0 7 (Nat.le_of_ble_eq_true rfl))
 have hbd0_8 : e.a.length ≤ 140737488355328 := bd_map (F0 0 8 (Nat.le_of_ble_eq_true rfl))
 have hbd0_9 : e.n.length ≤ 140737488355328 := bd_map (F0 0 9 (Nat.le_of_ble_eq_true rfl))
 refine sq ?_
 refine an (fun h1 => ?_) (fun h1 => ?_)
 · refine call0 (fun _ => u_Copy e.v hoe.1.1) rfl ?_
   have e0 : evF [] [] [] (k + 1) e = ((e.v, 0) : Val × Int) := by
    first | exact evF_1 (by assumption) | exact evF_2 (by assumption) | exact evF_30 (by assumption) rfl | exact evF_30 (by assumption) (by assumption) | exact evF_31 (by assumption) (by assumption) | exact evF_40 (by assumption) (by assumption) | exact evF_40 (by assumption) rfl | exact evF_4 (by assumption) | exact evF_70 (by assumption) (by assumption) | exact evF_71 (by assumption) (by assumption) (by assumption) | exact evF_72 (by assumption) (by assumption) (by assumption) (by assumption) | exact evF_73 (by assumption) (by assumption) (by assumption) (by assumption) | exact evF_80 (by assumption) (by assumption) (by assumption) (by assumption) (by assumption) (by assumption) | exact evF_81 (by assumption) (by assumption) (by assumption) (by assumption) (by assumption) (by assumption)
   rw [e0] at hK
   exact rt0 rfl fun _ => hK
 refine an (fun h2 => ?_) (fun h2 => ?_)
 · exact absurd hkn (by omega)
 refine an (fun h3 => ?_) (fun h3 => ?_)
 · exact absurd hkn (by omega)
 refine an (fun h4 => ?_) (fun h4 => ?_)
 · exact absurd hkn (by omega)
 refine an (fun h5 => ?_) (fun h5 => ?_)
 · exact absurd hkn (by omega)
 refine callT [] [] (.av (.tuple [.slice false ((allL (gE [] [] [] k) e.a).map valIn), .err 72 (allE (gE [] [] [] k) e.a)])) rfl (fun bs mm gd ht => fun K hK => u_allN k e.a hoe.1.2 ih mm K hK) ?_
 refine sq ?_
 refine an (fun h6 => ?_) (fun h6 => ?_)
 · refine call0 (fun _ => u_join e (allL (gE [] [] [] k) e.a) (allL_ok (fun x h => fin_ok h)) (by have := allL_len (gE [] [] [] k) e.a; omega)) rfl ?_
   have e0 : evF [] [] [] (k + 1) e = ((((joinR e (allL (gE [] [] [] k) e.a)).1), (joinR e (allL (gE [] [] [] k) e.a)).2) : Val × Int) := by
    first | exact evF_1 (by assumption) | exact evF_2 (by assumption) | exact evF_30 (by assumption) rfl | exact evF_30 (by assumption) (by assumption) | exact evF_31 (by assumption) (by assumption) | exact evF_40 (by assumption) (by assumption) | exact evF_40 (by assumption) rfl | exact evF_4 (by assumption) | exact evF_70 (by assumption) (by assumption) | exact evF_71 (by assumption) (by assumption) (by assumption) | exact evF_72 (by assumption) (by assumption) (by assumption) (by assumption) | exact evF_73 (by assumption) (by assumption) (by assumption) (by assumption) | exact evF_80 (by assumption) (by assumption) (by assumption) (by assumption) (by assumption) (by assumption) | exact evF_81 (by assumption) (by assumption) (by assumption) (by assumption) (by assumption) (by assumption)
   rw [e0] at hK
   exact rt0 rfl fun _ => hK
 have e0 : evF [] [] [] (k + 1) e = (((⟨0, 0, [], [], []⟩ : Val), allE (gE [] [] [] k) e.a) : Val × Int) := by
  first | exact evF_1 (by assumption) | exact evF_2 (by assumption) | exact evF_30 (by assumption) rfl | exact evF_30 (by assumption) (by assumption) | exact evF_31 (by assumption) (by assumption) | exact evF_40 (by assumption) (by assumption) | exact evF_40 (by assumption) rfl | exact evF_4 (by assumption) | exact evF_70 (by assumption) (by assumption) | exact evF_71 (by assumption) (by assumption) (by assumption) | exact evF_72 (by assumption) (by assumption) (by assumption) (by assumption) | exact evF_73 (by assumption) (by assumption) (by assumption) (by assumption) | exact evF_80 (by assumption) (by assumption) (by assumption) (by assumption) (by assumption) (by assumption) | exact evF_81 (by assumption) (by assumption) (by assumption) (by assumption) (by assumption) (by assumption)
 rw [e0] at hK
 exact rt0 rfl fun _ => hK
end Go.Proofs
end
