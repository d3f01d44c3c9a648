import Derived.Test.YtaeknjhnpmhcmaaPx14
import Derived.Test.YtaeknjhnpmhcmaaProg
import Derived.Test.YtaeknjhnpmhcmaaWxz
section
namespace Go.Proofs
open Go Go.Aw Go.Sx
set_option maxRecDepth 100000
theorem fmI_0 {e : Exp} : fmI e = 0 ↔ fmE e := by unfold fmI; split <;> simp [*]
theorem fmI_y {e : Exp} (h : fmE e) : fmI e = 0 := fmI_0.2 h
theorem fmI_n {e : Exp} (h : ¬ fmE e) : fmI e = 3 := by unfold fmI; rw [if_neg h]
theorem fmI_3 {e : Exp} (h : fmI e ≠ 0) : fmI e = 3 := fmI_n fun hh => h (fmI_0.2 hh)
theorem fm_node {e : Exp} (h : ¬ NodeOk e) : fmI e = 3 := fmI_n fun hh => h ((fmE_eq e).1 hh).1
theorem fm_kid {e : Exp} {i : Int} (h0 : 0 ≤ i) (hi : i < e.a.length) (hf : fmL e.a ↔ fmL (e.a.drop i.toNat)) (h : fmI (gI e.a i) ≠ 0) : fmI e = fmI (gI e.a i) := by
  rw [fmI_3 h]
  refine fmI_n fun hh => h (fmI_0.2 ?_)
  exact ((fmL_drop h0 hi).1 (hf.1 ((fmE_eq e).1 hh).2)).1
theorem fm_step {e : Exp} {i : Int} (h0 : 0 ≤ i) (hi : i < e.a.length) (hf : fmL e.a ↔ fmL (e.a.drop i.toNat)) (h : fmI (gI e.a i) = 0) : fmL e.a ↔ fmL (e.a.drop (i + 1).toNat) :=
  hf.trans ((fmL_drop h0 hi).trans ⟨fun h => h.2, fun h2 => ⟨fmI_0.1 h, h2⟩⟩)
theorem fm_end {e : Exp} {i : Int} (hi : (e.a.length : Int) ≤ i) (hf : fmL e.a ↔ fmL (e.a.drop i.toNat)) (h : NodeOk e) : fmI e = 0 := by
  rw [List.drop_eq_nil_of_le (by omega)] at hf
  exact fmI_y ((fmE_eq e).2 ⟨h, hf.2 (by simp only [fmL])⟩)
open Classical in
theorem exF_0 {e : Exp} (h : exF e = 0) : fmE e ∧ xcE e ≤ 60 ∧ xdE e ≤ 6 := by
  unfold exF at h
  split at h
  · cases h
  · rename_i hh
    exact ⟨fmI_0.1 h, by omega, by omega⟩
mutual
def szE : Exp → Nat
  | .mk _ v _ _ a n => depV v + n.length + szL a + 1
def szL : List Exp → Nat
  | [] => 0
  | e :: r => szE e + szL r
end
theorem szE_eq (e : Exp) : szE e = depV e.v + e.n.length + szL e.a + 1 := by
  cases e with
  | mk k v s t a n => simp only [szE, Exp.a, Exp.v, Exp.n]
theorem szL_mem {l : List Exp} {e : Exp} (h : e ∈ l) : szE e ≤ szL l := by
  induction l with
  | nil => cases h
  | cons a r ih =>
    simp only [szL]
    rcases List.mem_cons.1 h with rfl | h
    · omega
    · have := ih h; omega
theorem szL_len (l : List Exp) : l.length ≤ szL l := by
  induction l with
  | nil => simp
  | cons a r ih => simp only [szL, List.length_cons]; have := szE_eq a; omega
theorem names_step {l : List Str} {i : Int} (h : ∀ j : Int, 0 ≤ j → j < i → nameV (gI l j) = true ∧ (0 < j → Op.bytesLess (gI l (j - 1)) (gI l j) = true)) (h1 : nameV (gI l i) = true) (h2 : 0 < i → Op.bytesLess (gI l (i - 1)) (gI l i) = true) :
    ∀ j : Int, 0 ≤ j → j < i + 1 → nameV (gI l j) = true ∧ (0 < j → Op.bytesLess (gI l (j - 1)) (gI l j) = true) := fun j h0 hj => by
  rcases Int.lt_or_le j i with hh | hh
  · exact h j h0 hh
  · obtain rfl : j = i := by omega
    exact ⟨h1, h2⟩
set_option maxHeartbeats 4000000 in
theorem u_check1 (k : Nat) (e : Exp) (ih : ∀ x : Exp, depE x < k → ∀ (m : AMem) (K : AV → AMem → Prop), K (.err 61 (fmI x)) m → ACalls Try.prog 40 [expTop x] m K) (hd : depE e < k + 1) (m : AMem)  (K : AV → AMem → Prop) (hK : K (.err 61 (fmI e)) m) : ACalls Try.prog 40 [expTop e] m K := by
 refine enter (c := cf [] [0, 23] [23, 28, 29] [] [] []) (vs := [.av (expTop e)]) (L := []) (m := m) true tbOk Try.mixed Try.func40 rfl (k := 1) (by show fnOk [] _ _ _ = true; decide +kernel) rfl (Good.nil m) ?_
 refine ⟨fun F0 => ?_⟩
 have hbd0_3 : e.v.s.length ≤ 140737488355328 := (F0 0 3 (Nat.le_of_ble_eq_true rfl))
 have hbd0_4 : e.v.l.length ≤ 140737488355328 := bd_map (F0 0 4 (Nat.le_of_ble_eq_true rfl))
 have hbd0_5 : e.v.f.length ≤ 140737488355328 := bd_map (F0 0 5 (Nat.le_of_ble_eq_true rfl))
 have hbd0_6 : e.s.length ≤ 140737488355328 := (F0 0 6 (Nat.le_of_ble_eq_true rfl))
 have hbd0_7 : e.t.length ≤ 140737488355328 := (F0 0 7 (Nat.le_of_ble_eq_true rfl))
 have hbd0_8 : e.a.length ≤ 140737488355328 := bd_map (F0 0 8 (Nat.le_of_ble_eq_true rfl))
 have hbd0_9 : e.n.length ≤ 140737488355328 := bd_map (F0 0 9 (Nat.le_of_ble_eq_true rfl))
 refine jn (σ := Int × Int × Bool × Bool) [(3, 0), (4, 0), (5, 0), (6, 0)] [1, 3, 4, 5, 6] 1 (fun ⟨mn, nn, sb, tb⟩ => ([(1, .loc 0 0), (3, vI mn), (4, vI nn), (5, vB sb), (6, vB tb)], [.cells [vI e.kind, vI e.v.kind, vI e.v.n, vS e.v.s, vL (e.v.l.map valIn), vL (e.v.f.map fldIn), vS e.s, vS e.t, vL (e.a.map expIn), vL (e.n.map strAV)]], m)) (fun ⟨mn, nn, sb, tb⟩ => Sw e mn nn sb tb) ?_ ?_
 · rintro ⟨mn, nn, sb, tb⟩ hj0
   refine mg [1, 3, 4, 5, 6] 9 (((e.kind == 1) && (decide (e.v.kind ≤ 3) && (chk e.v == 0))) || ((!(e.kind == 1)) && (vEq e.v zV))) ?_ ?_
   · repeat' first
      | exact ⟨⟨_, rfl, by grind [SB.val]⟩, rfl⟩
      | refine an (fun _ => ?_) (fun _ => ?_)
      | refine call0 (fun _ => u_plain e.v) rfl ?_
      | refine call0 (fun _ => u_Alike e.v zV) rfl ?_
   refine sq ?_
   refine mg [1] 130 (((((!sb) || (!tb)) || (!(((e.kind == 1) && (decide (e.v.kind ≤ 3) && (chk e.v == 0))) || ((!(e.kind == 1)) && (vEq e.v zV))))) || (!((e.a.length : Int) == mn))) || (!((e.n.length : Int) == nn))) ?_ ?_
   · repeat' first
      | exact ⟨⟨_, rfl, by grind [SB.val]⟩, rfl⟩
      | refine an (fun _ => ?_) (fun _ => ?_)
      | refine ln ?_
   refine an (fun h1 => ?_) (fun h1 => ?_)
   · replace h1 : ((((sb = false) ∨ (tb = false)) ∨ (((e.kind ≠ 1) ∨ ((decide (e.v.kind ≤ 3) && (chk e.v == 0)) = false)) ∧ ((e.kind = 1) ∨ (vEq e.v zV = false)))) ∨ ((e.a.length : Int) ≠ mn)) ∨ ((e.n.length : Int) ≠ nn) := ((borT h1).imp (fun q => ((borT q).imp (fun q => ((borT q).imp (fun q => ((borT q).imp (fun q => (bnT q)) (fun q => (bnT q)))) (fun q => ⟨((bandF (borL (bnT q))).imp (fun q => (ne_of_beq_false q)) (fun q => q)), ((bandF (borR (bnT q))).imp (fun q => (eq_of_beq (bnF q))) (fun q => q))⟩))) (fun q => (ne_of_beq_false (bnT q))))) (fun q => (ne_of_beq_false (bnT q))))
     refine rt0 rfl fun _ => ?_
     show K (.err 61 3) m
     rw [fm_node fun hh => by have := (NodeOk.sw hj0).1 hh; have := @vEq_iff e.v zV; grind] at hK; exact hK
   replace h1 : ((((sb = true) ∧ (tb = true)) ∧ (((e.kind = 1) ∧ ((decide (e.v.kind ≤ 3) && (chk e.v == 0)) = true)) ∨ ((e.kind ≠ 1) ∧ (vEq e.v zV = true)))) ∧ ((e.a.length : Int) = mn)) ∧ ((e.n.length : Int) = nn) := ⟨⟨⟨⟨(bnF (borL (borL (borL (borL h1))))), (bnF (borR (borL (borL (borL h1)))))⟩, ((borT (bnF (borR (borL (borL h1))))).imp (fun q => ⟨(eq_of_beq (bandL q)), (bandR q)⟩) (fun q => ⟨(ne_of_beq_false (bnT (bandL q))), (bandR q)⟩))⟩, (eq_of_beq (bnF (borR (borL h1))))⟩, (eq_of_beq (bnF (borR h1)))⟩
   have hno : NodeOk e := (NodeOk.sw hj0).2 (by have := @vEq_iff e.v zV; grind)
   refine sq ?_
   refine ln ?_
   refine lp (σ := Int) [] [133, 134, 135] 1 (fun i => ([(133, vL (e.a.map expIn)), (134, vI (e.a.length : Int)), (135, vI i)], [.cells [vI e.kind, vI e.v.kind, vI e.v.n, vS e.v.s, vL (e.v.l.map valIn), vL (e.v.f.map fldIn), vS e.s, vS e.t, vL (e.a.map expIn), vL (e.n.map strAV)]], m)) (fun i => 0 ≤ i ∧ i ≤ e.a.length ∧ (fmL e.a ↔ fmL (e.a.drop i.toNat))) (fun i => e.a.length - i.toNat) (0) ⟨rfl, rfl⟩ ?_ ?_
   · try dsimp only
     exact ⟨by omega, by omega, Iff.rfl⟩
   rintro i hI
   refine sq ?_
   refine an (fun h2 => ?_) (fun h2 => ?_)
   · refine sq ?_
     refine ixg expTop expIn_eq (by omega) ?_
     refine call0 (fun _ => ih (gI e.a i) (by have := depE_mem (gI_mem (l := e.a) (i := i) hI.1 (by assumption)); omega)) rfl ?_
     refine an (fun h3 => ?_) (fun h3 => ?_)
     · refine an (by omega) ?_
       refine ⟨(i + 1), ⟨rfl, rfl⟩, ?_, ?_⟩
       · try dsimp only
         exact ⟨by omega, by omega, fm_step hI.1 (by assumption) hI.2.2 (by omega)⟩
       try dsimp only
       omega
     refine rt0 rfl fun _ => ?_
     show K (.err 61 (fmI (gI e.a i))) m
     rw [fm_kid hI.1 (by assumption) hI.2.2 (by assumption)] at hK; exact hK
   refine rt0 rfl fun _ => ?_
   show K (.err 61 0) m
   rw [fm_end (by omega) hI.2.2 hno] at hK; exact hK
 refine an (fun h4 => ?_) (fun h4 => ?_)
 · refine ⟨(0, 0, (e.s == ([])), (e.t == ([]))), ⟨rfl, rfl⟩, ⟨.inl ⟨by assumption, rfl, rfl, rfl, rfl⟩⟩⟩
 refine an (fun h5 => ?_) (fun h5 => ?_)
 · refine call0 (fun _ => u_VName e.s (by first | omega | exact hbN)) rfl ?_
   refine ⟨(0, 0, (nameV e.s), (e.t == ([]))), ⟨rfl, rfl⟩, ⟨.inr (.inl ⟨by assumption, rfl, rfl, rfl, rfl⟩)⟩⟩
 refine sq ?_
 refine an (fun h6 => ?_) (fun h6 => ?_)
 · refine an (fun h7 => ?_) (fun h7 => ?_)
   · refine pure0 (fun _ => u_VName e.s (by first | omega | exact hbN)) ?_
     refine pure0 (fun _ => u_VName e.t (by first | omega | exact hbN)) ?_
     refine ⟨(0, 0, (nameV e.s), (nameV e.t)), ⟨rfl, rfl⟩, ⟨.inr (.inr (.inl ⟨.inl (by assumption), rfl, rfl, rfl, rfl⟩))⟩⟩
   exact absurd h6 h7
 refine an (fun h8 => ?_) (fun h8 => ?_)
 · refine pure0 (fun _ => u_VName e.s (by first | omega | exact hbN)) ?_
   refine pure0 (fun _ => u_VName e.t (by first | omega | exact hbN)) ?_
   refine ⟨(0, 0, (nameV e.s), (nameV e.t)), ⟨rfl, rfl⟩, ⟨.inr (.inr (.inl ⟨.inr (by assumption), rfl, rfl, rfl, rfl⟩))⟩⟩
 refine sq ?_
 refine an (fun h9 => ?_) (fun h9 => ?_)
 · refine an (fun h10 => ?_) (fun h10 => ?_)
   · refine ⟨(2, 0, (e.s == ([])), (e.t == ([]))), ⟨rfl, rfl⟩, ⟨.inr (.inr (.inr (.inl ⟨.inl (by assumption), rfl, rfl, rfl, rfl⟩)))⟩⟩
   exact absurd h9 h10
 refine an (fun h11 => ?_) (fun h11 => ?_)
 · refine ⟨(2, 0, (e.s == ([])), (e.t == ([]))), ⟨rfl, rfl⟩, ⟨.inr (.inr (.inr (.inl ⟨.inr (by assumption), rfl, rfl, rfl, rfl⟩)))⟩⟩
 refine an (fun h12 => ?_) (fun h12 => ?_)
 · refine ⟨(3, 0, (e.s == ([])), (e.t == ([]))), ⟨rfl, rfl⟩, ⟨.inr (.inr (.inr (.inr (.inl ⟨by assumption, rfl, rfl, rfl, rfl⟩))))⟩⟩
 refine an (fun h13 => ?_) (fun h13 => ?_)
 · refine ln ?_
   refine ⟨((e.a.length : Int), 0, (e.s == ([])), (e.t == ([]))), ⟨rfl, rfl⟩, ⟨.inr (.inr (.inr (.inr (.inr (.inl ⟨by assumption, rfl, rfl, rfl, rfl⟩)))))⟩⟩
 refine an (fun h14 => ?_) (fun h14 => ?_)
 · refine ln ?_
   refine ln ?_
   refine ln ?_
   refine lp (σ := Int) [] [1, 3, 4, 5, 6, 57, 58, 59] 1 (fun i => ([(1, .loc 0 0), (3, vI (e.a.length : Int)), (4, vI (e.a.length : Int)), (5, vB (e.s == ([]))), (6, vB (e.t == ([]))), (57, vL (e.n.map strAV)), (58, vI (e.n.length : Int)), (59, vI i)], [.cells [vI e.kind, vI e.v.kind, vI e.v.n, vS e.v.s, vL (e.v.l.map valIn), vL (e.v.f.map fldIn), vS e.s, vS e.t, vL (e.a.map expIn), vL (e.n.map strAV)]], m)) (fun i => 0 ≤ i ∧ i ≤ e.n.length ∧ ∀ j : Int, 0 ≤ j → j < i → nameV (gI e.n j) = true ∧ (0 < j → Op.bytesLess (gI e.n (j - 1)) (gI e.n j) = true)) (fun i => e.n.length - i.toNat) (0) ⟨rfl, rfl⟩ ?_ ?_
   · try dsimp only
     exact ⟨by omega, by omega, fun j h0 hj => by omega⟩
   rintro i hI
   refine sq ?_
   refine an (fun h15 => ?_) (fun h15 => ?_)
   · refine sq ?_
     refine ix (by omega) ?_
     refine ⟨fun F23 => ?_⟩
     have hbN : (gI e.n i).length ≤ 140737488355328 := bdL_map (f := strAV) (F23 57).2 (gI_mem hI.1 (by assumption)) 0 (Nat.succ_pos _)
     refine mg [1, 3, 4, 5, 6, 57, 58, 59] 80 ((!(nameV (gI e.n i))) || ((decide (0 < i)) && (!(Op.bytesLess (gI e.n (i - 1)) (gI e.n i))))) ?_ ?_
     · repeat' first
        | exact ⟨⟨_, rfl, by grind [SB.val]⟩, rfl⟩
        | refine an (fun _ => ?_) (fun _ => ?_)
        | refine call0 (fun _ => u_VName (gI e.n i) (by first | omega | exact hbN)) rfl ?_
        | refine an (by omega) ?_
        | refine ix (by omega) ?_
     refine an (fun h16 => ?_) (fun h16 => ?_)
     · replace h16 : (nameV (gI e.n i) = false) ∨ ((0 < i) ∧ (Op.bytesLess (gI e.n (i - 1)) (gI e.n i) = false)) := ((borT h16).imp (fun q => (bnT q)) (fun q => ⟨(of_decide_eq_true (bandL q)), (bnT (bandR q))⟩))
       refine rt0 rfl fun _ => ?_
       show K (.err 61 3) m
       rw [fm_node (NodeOk.n9 (by assumption) fun hh => by have := hh i hI.1 (by assumption); grind)] at hK; exact hK
     replace h16 : (nameV (gI e.n i) = true) ∧ ((i ≤ 0) ∨ (Op.bytesLess (gI e.n (i - 1)) (gI e.n i) = true)) := ⟨(bnF (borL h16)), ((bandF (borR h16)).imp (fun q => (Int.not_lt.1 (of_decide_eq_false q))) (fun q => (bnF q)))⟩
     refine an (by omega) ?_
     refine ⟨(i + 1), ⟨rfl, rfl⟩, ?_, ?_⟩
     · try dsimp only
       exact ⟨by omega, by omega, names_step hI.2.2 (by grind) (by grind)⟩
     try dsimp only
     omega
   refine ⟨((e.a.length : Int), (e.a.length : Int), (e.s == ([])), (e.t == ([]))), ⟨rfl, rfl⟩, ⟨.inr (.inr (.inr (.inr (.inr (.inr (.inl ⟨by assumption, fun j h0 hj => hI.2.2 j h0 (by omega), rfl, rfl, rfl, rfl⟩))))))⟩⟩
 refine an (fun h17 => ?_) (fun h17 => ?_)
 · refine call0 (fun _ => u_VName e.s (by first | omega | exact hbN)) rfl ?_
   refine ⟨(1, 0, (nameV e.s), (e.t == ([]))), ⟨rfl, rfl⟩, ⟨.inr (.inr (.inr (.inr (.inr (.inr (.inr ⟨by assumption, rfl, rfl, rfl, rfl⟩))))))⟩⟩
 refine rt0 rfl fun _ => ?_
 show K (.err 61 3) m
 rw [fm_node (NodeOk.no (by omega))] at hK; exact hK
theorem u_check : ∀ (k : Nat) (e : Exp), depE e < k → ∀ (m : AMem) (K : AV → AMem → Prop), K (.err 61 (fmI e)) m → ACalls Try.prog 40 [expTop e] m K
  | 0, _, h => absurd h (Nat.not_lt_zero _)
  | k + 1, e, h => fun m K hK => u_check1 k e (fun x hx => u_check k x hx) h m K hK
theorem exF_many {e : Exp} (h : ¬(xdE e + 1 ≤ 7 ∧ xcE e ≤ 60)) : exF e = 2 := by unfold exF; rw [if_pos (by omega)]
theorem exF_few {e : Exp} (h : xdE e + 1 ≤ 7 ∧ xcE e ≤ 60) : exF e = fmI e := by unfold exF; rw [if_neg (by omega)]
set_option maxHeartbeats 1000000 in
theorem u_LCheck (e : Exp)  (m : AMem)  (K : AV → AMem → Prop) (hK : K (.err 61 (exF e)) m) : ACalls Try.prog 24 [expTop e] m K := by
 refine enter (c := cf [] [] [] [] [] []) (vs := [.av (expTop e)]) (L := []) (m := m) true tbOk Try.mixed Try.func24 rfl (k := 1) (by show fnOk [] _ _ _ = true; decide +kernel) rfl (Good.nil m) ?_
 refine sq ?_
 refine callY 61 [1] (σ := (Int) ⊕ (Int)) (Sum.elim (fun f_1 => f_1 = 60 - xcE e ∧ xdE e + 1 ≤ 7 ∧ xcE e ≤ 60) (fun f_1 => ¬(xdE e + 1 ≤ 7 ∧ xcE e ≤ 60) ∧ -1 ≤ f_1 ∧ f_1 ≤ 60)) (Sum.elim (fun f_1 => .b (.lit true)) (fun f_1 => .b (.lit false))) (Sum.elim (fun f_1 => [.cells [vI f_1]]) (fun f_1 => [.cells [vI f_1]])) rfl (fun x => by rcases x with _ | _ <;> rfl) (fun bs mm gd ht K hK => u_size (depE e + 1) e (Nat.lt_succ_self _) 1 60 (by omega) (by omega) (by omega) (by omega) (bs.getD 1 0) mm gd K (fun f hh => hK (.inl f) hh) (fun f hh => hK (.inr f) hh)) ?_
 rintro (f_1 | f_1) hx1
 · try dsimp only [Sum.elim_inl, Sum.elim_inr] at hx1
   dsimp only [Sum.elim_inl, Sum.elim_inr]
   refine call0 (fun _ => u_check (depE e + 1) e (Nat.lt_succ_self _)) rfl ?_
   refine rt0 rfl fun _ => ?_
   show K (.err 61 (fmI e)) m
   rw [exF_few ⟨hx1.2.1, hx1.2.2⟩] at hK; exact hK
 try dsimp only [Sum.elim_inl, Sum.elim_inr] at hx1
 dsimp only [Sum.elim_inl, Sum.elim_inr]
 refine rt0 rfl fun _ => ?_
 show K (.err 61 2) m
 rw [exF_many hx1.1] at hK; exact hK
end Go.Proofs
end
section
namespace Go.Proofs
open Go Go.Aw Go.Sx
set_option maxRecDepth 100000
open Classical in
theorem Exp.ext' {a b : Exp} (h1 : a.kind = b.kind) (h2 : a.v = b.v) (h3 : a.s = b.s) (h4 : a.t = b.t) (h5 : a.a = b.a) (h6 : a.n = b.n) : a = b := by
  cases a; cases b
  simp only [Exp.kind, Exp.v, Exp.s, Exp.t, Exp.a, Exp.n] at *
  subst h1 h2 h3 h4 h5 h6; rfl
set_option maxHeartbeats 4000000 in
theorem u_CopyExpr1 (e : Exp) (hz : szE e ≤ 1000000000) (ih : ∀ x : Exp, depE x < depE e → szE x ≤ 1000000000 → ∀ (m : AMem) (K : AV → AMem → Prop), K (expTop x) m → ACalls Try.prog 30 [expTop x] m K) (m : AMem)  (K : AV → AMem → Prop) (hK : K (expTop e) m) : ACalls Try.prog 30 [expTop e] m K := by
 have hs := szE_eq e
 have hsl := szL_len e.a
 refine enter (c := cf [] [] [] [2999, 6999] [2, 6] []) (vs := [.av (expTop e)]) (L := []) (m := m) false tbOk Try.mixed Try.func30 rfl (k := 1) (by show fnOk [2999, 6999] _ _ _ = true; decide +kernel) rfl (Good.nil m) ?_
 refine rgA tbOk Try.mixed (σ := Unit) (.f 0 (.f 3 (.o 1 (.o 2 (.s 4 (.f 6 (.o 5 (.s 7 (.f 8 (.s 9 (.f 10 (.s 11 .d))))) (.o 7 (.f 8 (.o 5 (.s 9 (.f 10 (.s 11 .d))) (.o 9 (.s 5 (.f 10 (.s 11 .d))) .z))) .z)))) (.o 4 (.s 2 (.f 6 (.o 5 (.s 7 (.f 8 (.s 9 (.f 10 (.s 11 .d))))) (.o 7 (.f 8 (.o 5 (.s 9 (.f 10 (.s 11 .d))) (.o 9 (.s 5 (.f 10 (.s 11 .d))) .z))) .z)))) .z)) (.o 4 (.s 1 (.s 2 (.f 6 (.o 5 (.s 7 (.f 8 (.s 9 (.f 10 (.s 11 .d))))) (.o 7 (.f 8 (.o 5 (.s 9 (.f 10 (.s 11 .d))) (.o 9 (.s 5 (.f 10 (.s 11 .d))) .z))) .z))))) .z)))) [] [1, 2, 3] 2 (fun _ => ([(1, .loc 0 0), (2, .loc 1 0), (3, vL (e.a.map expIn))], [.cells [vI e.kind, vI e.v.kind, vI e.v.n, vS e.v.s, vL (e.v.l.map valIn), vL (e.v.f.map fldIn), vS e.s, vS e.t, .own [], .own (e.n.map strAV)], .cells [vI 0, vI 0, vI 0, vS ([]), .own [], .own [], vS ([]), vS ([]), .own [], .own []]], m)) (fun _ => True) (by decide +kernel) ?_ ?_
 · rintro _ hy2
   try dsimp only at hy2
   refine sq ?_
   refine ln ?_
   refine lp (σ := Int × List Exp) [] [1, 2, 17, 18, 19] 2 (fun ⟨i, xs⟩ => ([(1, .loc 0 0), (2, .loc 1 0), (17, vL (e.a.map expIn)), (18, vI (e.a.length : Int)), (19, vI i)], [.cells [vI e.kind, vI e.v.kind, vI e.v.n, vS e.v.s, vL (e.v.l.map valIn), vL (e.v.f.map fldIn), vS e.s, vS e.t, .own (xs.map expIn), .own (e.n.map strAV)], .cells [vI 0, vI 0, vI 0, vS ([]), .own [], .own [], vS ([]), vS ([]), .own [], .own []]], m)) (fun ⟨i, xs⟩ => 0 ≤ i ∧ i ≤ e.a.length ∧ xs = e.a.take i.toNat) (fun ⟨i, xs⟩ => e.a.length - i.toNat) (0, []) ⟨rfl, rfl⟩ ?_ ?_
   · try dsimp only
     exact ⟨by omega, by omega, by simp⟩
   rintro ⟨i, xs⟩ hI
   dsimp only at hI
   have hxl : (xs.length : Int) = i := by rw [hI.2.2, List.length_take]; omega
   refine sq ?_
   refine an (fun h1 => ?_) (fun h1 => ?_)
   · refine sq ?_
     refine ixg expTop expIn_eq (by omega) ?_
     refine rgA tbOk Try.mixed (σ := Unit) (.f 0 (.o 1 (.s 2 (.s 3 (.s 4 (.s 5 (.f 6 (.s 7 .d)))))) (.o 2 (.o 1 (.s 3 (.s 4 (.s 5 (.f 6 (.s 7 .d))))) (.o 3 (.o 1 (.s 4 (.s 5 (.f 6 (.s 7 .d)))) (.o 4 (.s 1 (.s 5 (.f 6 (.s 7 .d)))) .z)) .z)) .z))) [] [1, 2, 17, 18, 19] 3 (fun _ => ([(1, .loc 0 0), (2, .loc 1 0), (17, vL (e.a.map expIn)), (18, vI (e.a.length : Int)), (19, vI i)], [.cells [vI e.kind, vI e.v.kind, vI e.v.n, vS e.v.s, vL (e.v.l.map valIn), vL (e.v.f.map fldIn), vS e.s, vS e.t, .own ((xs ++ ([(gI e.a i)] : List Exp)).map expIn), .own (e.n.map strAV)], .cells [vI 0, vI 0, vI 0, vS ([]), .own [], .own [], vS ([]), vS ([]), .own [], .own []], .cells [vI ((gI e.a i).kind), vI (((gI e.a i).v).kind), vI (((gI e.a i).v).n), vS (((gI e.a i).v).s), vL ((((gI e.a i).v).l).map valIn), vL ((((gI e.a i).v).f).map fldIn), vS ((gI e.a i).s), vS ((gI e.a i).t), vL (((gI e.a i).a).map expIn), vL (((gI e.a i).n).map strAV)]], m)) (fun _ => True) (by decide +kernel) ?_ ?_
     · rintro _ hy6
       try dsimp only at hy6
       refine an (by omega) ?_
       refine ⟨(i + 1, xs ++ ([(gI e.a i)] : List Exp)), ⟨rfl, rfl⟩, ?_, ?_⟩
       · try dsimp only
         exact ⟨by omega, by omega, by rw [take_succ_gI hI.1 (by omega), ← hI.2.2]⟩
       try dsimp only
       omega
     repeat' first
      | refine ⟨(), ⟨rfl, rfl⟩, trivial⟩
      | refine call0 (fun _ => ih (gI e.a i) (depE_mem (gI_mem hI.1 (by assumption))) (by have := szL_mem (gI_mem (l := e.a) (i := i) hI.1 (by assumption)); omega)) rfl ?_
      | refine ap expIn xs ([(gI e.a i)] : List Exp) rfl (by simp only [List.map_cons, List.map_nil, expIn_eq]; try rfl) (fun a => by rw [expIn_eq]; exact ⟨rfl, rfl⟩) (by (simp only [List.length_append, List.length_cons, List.length_nil]; omega)) ?_
      | refine ⟨?_, ?_, trivial⟩
   refine rt0 rfl fun _ => ?_
   show K (.agg [.int .i64 e.kind, .int .i64 e.v.kind, .int .i64 e.v.n, .str e.v.s, .slice false (e.v.l.map valIn), .slice false (e.v.f.map fldIn), .str e.s, .str e.t, .slice false (xs.map expIn), .slice false (e.n.map strAV)]) m
   have q1 : xs = e.a := by have := hI.2.2; rwa [take_full (by omega)] at this
   rw [q1]
   exact hK
 repeat' first
  | refine ⟨(), ⟨rfl, rfl⟩, trivial⟩
  | refine call0 (fun _ => u_Copy e.v (okV_small _ _ (Nat.lt_succ_self _) (by omega))) rfl ?_
  | refine ap strAV ([]) e.n rfl rfl (fun _ => ⟨rfl, rfl⟩) (by (simp only [List.length_append, List.length_cons, List.length_nil]; omega)) ?_
  | refine ⟨?_, ?_, trivial⟩
theorem u_CopyExpr2 : ∀ (n : Nat) (e : Exp), depE e < n → szE e ≤ 1000000000 → ∀ (m : AMem) (K : AV → AMem → Prop), K (expTop e) m → ACalls Try.prog 30 [expTop e] m K
  | 0, _, h, _ => absurd h (Nat.not_lt_zero _)
  | n + 1, e, h, hz => fun m K hK => u_CopyExpr1 e hz (fun x hx hy => u_CopyExpr2 n x (by omega) hy) m K hK
theorem u_CopyExpr (e : Exp) (hz : szE e ≤ 1000000000) (m : AMem) (K : AV → AMem → Prop) (hK : K (expTop e) m) : ACalls Try.prog 30 [expTop e] m K := u_CopyExpr2 (depE e + 1) e (Nat.lt_succ_self _) hz m K hK
end Go.Proofs
end
section
namespace Go.Proofs
open Go Go.Aw
set_option maxRecDepth 100000
def okL (n : Int) (l : List Int) : Bool := l.all fun k => decide (0 ≤ k) && decide (k < n)
def okN (needs : List (List Int)) : Bool := needs.all (okL needs.length)
theorem okL_gI {n : Int} {l : List Int} (h : okL n l = true) {i : Int} (h0 : 0 ≤ i) (hi : i < l.length) : 0 ≤ gI l i ∧ gI l i < n := by
  have hm : gI l i ∈ l := by
    simp only [gI, List.getD_eq_getElem?_getD, List.getElem?_eq_getElem (show i.toNat < l.length by omega), Option.getD_some]
    exact List.getElem_mem _
  have := List.all_eq_true.1 h _ hm
  simpa using this
theorem all_take_succ {α : Type} [Inhabited α] {l : List α} {i : Int} {p : α → Bool} (h0 : 0 ≤ i) (hi : i < l.length) (h : (l.take i.toNat).all p = true) (hp : p (gI l i) = true) : (l.take (i + 1).toNat).all p = true := by
  rw [take_succ_gI h0 hi, List.all_append, h]; simp [hp]
theorem all_of_take {α : Type} {l : List α} {i : Int} {p : α → Bool} (hi : l.length ≤ i) (h : (l.take i.toNat).all p = true) : l.all p = true := by
  rwa [List.take_of_length_le (by omega)] at h
def newE (needs : List (List Int)) : Int := if (64 : Int) < needs.length then 2 else if okN needs = true then 0 else 1
set_option maxHeartbeats 2000000 in
theorem u_New (needs : List (List Int)) (hs : needs.length ≤ 1048576) (hl : ∀ l ∈ needs, l.length ≤ 1048576) (m : AMem)  (K : AV → AMem → Prop) (hE : newE needs ≠ 0 → K (.tuple [.nilptr, .err 61 (newE needs)]) m) (hK : newE needs = 0 → ∀ g, m g = none → K (.tuple [pT g, .err 61 0]) (mW m [(g, .cells [sT (needs.map (lstAV intAV))])])) : ACalls Try.prog 36 [sF (needs.map (lstAV intAV))] m K := by
 refine acalls_enter Try.func36 rfl (by decide) (nB rfl) ?_
 show AWP _ _ _ _ [(0, sF (needs.map (lstAV intAV)))] m
 refine rS [] [0] (by decide) ?_
 intro K1 hK1
 refine ⟨tv, tv, ?_⟩
 show K1 [(0, sF (needs.map (lstAV intAV)))] m
 refine hK1 _ _ ?_; clear hK1 K1
 refine sK ?_; intro K2 hK2
 refine rS [] [0, 11] (by decide) ?_
 intro K1 hK1
 refine ⟨tv, ?_⟩
 refine ar_len rfl (lstAV intAV) needs rfl rfl rfl ?_
 refine ⟨tv, ?_⟩
 show K1 [(0, sF (needs.map (lstAV intAV))), (11, .bool (decide (64 < (needs.length : Int))))] m
 refine hK1 _ _ ?_; clear hK1 K1
 refine cD rfl rfl (fun h1 => ?_) (fun h1 => ?_)
 ·
  replace h1 : 64 < (needs.length : Int) := (of_decide_eq_true h1)
  refine rS [] [2, 3] (by decide) ?_
  intro K1 hK1
  refine ⟨tv, tv, tv, ?_⟩
  show K1 [(2, .nilptr), (3, .iface 61 (iT 2))] m
  refine hK1 _ _ ?_; clear hK1 K1
  refine awp_toErr 61 [3] ?_
  show AWP _ _ _ _ [(2, .nilptr), (3, .err 61 2)] m
  refine awp_ret ?_
  refine ⟨tv, tv, m, fun _ _ h => h, ?_⟩
  show K (.tuple [.nilptr, .err 61 2]) m
 
  have e : newE needs = 2 := by rw [newE, if_pos h1]
  rw [e] at hE; exact hE (by decide)
 replace h1 : (needs.length : Int) ≤ 64 := (Int.not_lt.1 (of_decide_eq_false h1))
 have e0 : ∀ {l : List Int} {i : Int}, 0 ≤ i → i < l.length → okL needs.length l = true → 0 ≤ gI l i ∧ gI l i < needs.length := fun a b c => okL_gI c a b
 refine awp_skip ?_
 refine hK2 _ _ ?_; clear hK2
 refine rS [] [0, 4] (by decide) ?_
 intro K1 hK1
 refine ⟨⟨rfl, by simp only [List.forall_mem_cons]; exact ⟨rfl, nfA⟩, nfA⟩, ?_⟩
 refine ar_box rfl (m := m) (L := []) (v := .agg [.slice true []]) rfl rfl ?_
 intro b1 hb1
 have hFb1 : m b1 = none := wth_none (m := m) (L := []) hb1
 have hNb1 : ([b1] : List Nat).Nodup := wth_nodup (m := m) (L := []) hb1 List.nodup_nil
 refine ⟨tv, ?_⟩
 show K1 [(0, sF (needs.map (lstAV intAV))), (4, pT b1)] (mW m [(b1, .cells [.slice true []])])
 refine hK1 _ _ ?_; clear hK1 K1
 refine sK ?_; intro K3 hK3
 refine rS [] [0, 4, 15, 16, 17] (by decide) ?_
 intro K1 hK1
 refine ⟨tv, ?_⟩
 refine ar_len rfl (lstAV intAV) needs rfl rfl rfl ?_
 refine ⟨tv, ?_⟩
 show K1 [(0, sF (needs.map (lstAV intAV))), (4, pT b1), (15, sF (needs.map (lstAV intAV))), (16, iT (needs.length : Int)), (17, iT 0)] _
 refine hK1 _ _ ?_; clear hK1 K1
 refine awp_block ?_
 refine awp_keep [0, 4, 15, 16, 17] (by decide) ?_
 refine awp_loop_st (σ := Int × (List (List Int))) (fun ⟨j, nd⟩ => [(0, sF (needs.map (lstAV intAV))), (4, pT b1), (15, sF (needs.map (lstAV intAV))), (16, iT (needs.length : Int)), (17, iT j)]) (fun ⟨j, nd⟩ => (mW m [(b1, .cells [sT (nd.map (lstAV intAV))])])) (fun ⟨j, nd⟩ => 0 ≤ j ∧ j ≤ needs.length ∧ nd = needs.take j.toNat ∧ nd.all (okL needs.length) = true) (fun ⟨j, nd⟩ => needs.length - j.toNat) (0, []) rfl rfl ?_ ?_
 ·
  show 0 ≤ ((0 : Int)) ∧ ((0 : Int)) ≤ needs.length ∧ (([] : (List (List Int)))) = needs.take ((0 : Int)).toNat ∧ (([] : (List (List Int)))).all (okL needs.length) = true
  exact ⟨by omega, by omega, by simp, by simp⟩
 rintro ⟨j, nd⟩ hI
 replace hI : 0 ≤ j ∧ j ≤ needs.length ∧ nd = needs.take j.toNat ∧ nd.all (okL needs.length) = true := hI
 show AWP _ _ _ _ [(0, sF (needs.map (lstAV intAV))), (4, pT b1), (15, sF (needs.map (lstAV intAV))), (16, iT (needs.length : Int)), (17, iT j)] (mW m [(b1, .cells [sT (nd.map (lstAV intAV))])])
 refine rS [] [0, 4, 15, 16, 17, 18] (by decide) ?_
 intro K1 hK1
 refine ⟨tv, ?_⟩
 show K1 [(0, sF (needs.map (lstAV intAV))), (4, pT b1), (15, sF (needs.map (lstAV intAV))), (16, iT (needs.length : Int)), (17, iT j), (18, .bool (decide (j < (needs.length : Int))))] _
 refine hK1 _ _ ?_; clear hK1 K1
 refine sK ?_; intro K4 hK4
 refine cD rfl rfl (fun h2 => ?_) (fun h2 => ?_)
 ·
  replace h2 : j < (needs.length : Int) := (of_decide_eq_true h2)
  have hlen := hl _ (gI_mem (l := needs) (i := j) hI.1 h2)
  have hnd : nd.length ≤ 64 := by rw [hI.2.2.1, List.length_take]; omega
  refine awp_skip ?_
  refine hK4 _ _ ?_; clear hK4
  refine sK ?_; intro K5 hK5
  refine awp_block ?_
  refine rS [] [0, 4, 6, 15, 16, 17] (by decide) ?_
  intro K1 hK1
  refine ar_index rfl (lstAV intAV) needs j rfl rfl rfl rfl rfl (by decide) (fun _ => rfl) (by omega) (by omega) ?_
  refine ⟨(aO rfl rfl (nB rfl)), tv, ?_⟩
  show K1 [(0, sF (needs.map (lstAV intAV))), (4, pT b1), (6, sF ((gI needs j).map intAV)), (15, sF (needs.map (lstAV intAV))), (16, iT (needs.length : Int)), (17, iT j)] (mW m [(b1, .cells [sT (nd.map (lstAV intAV))])])
  refine hK1 _ _ ?_; clear hK1 K1
  refine sK ?_; intro K6 hK6
  refine rS [] [0, 4, 6, 15, 16, 17, 21, 22, 23] (by decide) ?_
  intro K1 hK1
  refine ⟨tv, ?_⟩
  refine ar_len rfl intAV (gI needs j) rfl rfl rfl ?_
  refine ⟨tv, ?_⟩
  show K1 [(0, sF (needs.map (lstAV intAV))), (4, pT b1), (6, sF ((gI needs j).map intAV)), (15, sF (needs.map (lstAV intAV))), (16, iT (needs.length : Int)), (17, iT j), (21, sF ((gI needs j).map intAV)), (22, iT ((gI needs j).length : Int)), (23, iT 0)] _
  refine hK1 _ _ ?_; clear hK1 K1
  refine awp_block ?_
  refine awp_keep [0, 4, 6, 15, 16, 17, 21, 22, 23] (by decide) ?_
  refine awp_loop_st (σ := Int) (fun i => [(0, sF (needs.map (lstAV intAV))), (4, pT b1), (6, sF ((gI needs j).map intAV)), (15, sF (needs.map (lstAV intAV))), (16, iT (needs.length : Int)), (17, iT j), (21, sF ((gI needs j).map intAV)), (22, iT ((gI needs j).length : Int)), (23, iT i)]) (fun _ => (mW m [(b1, .cells [sT (nd.map (lstAV intAV))])])) (fun i => 0 ≤ i ∧ i ≤ (gI needs j).length ∧ ((gI needs j).take i.toNat).all (fun k => decide (0 ≤ k) && decide (k < needs.length)) = true) (fun i => (gI needs j).length - i.toNat) (0) rfl rfl ?_ ?_
  ·
   show 0 ≤ ((0 : Int)) ∧ ((0 : Int)) ≤ (gI needs j).length ∧ ((gI needs j).take ((0 : Int)).toNat).all (fun k => decide (0 ≤ k) && decide (k < needs.length)) = true
   exact ⟨by omega, by omega, by simp⟩
  rintro i hI2
  replace hI2 : 0 ≤ i ∧ i ≤ (gI needs j).length ∧ ((gI needs j).take i.toNat).all (fun k => decide (0 ≤ k) && decide (k < needs.length)) = true := hI2
  show AWP _ _ _ _ [(0, sF (needs.map (lstAV intAV))), (4, pT b1), (6, sF ((gI needs j).map intAV)), (15, sF (needs.map (lstAV intAV))), (16, iT (needs.length : Int)), (17, iT j), (21, sF ((gI needs j).map intAV)), (22, iT ((gI needs j).length : Int)), (23, iT i)] (mW m [(b1, .cells [sT (nd.map (lstAV intAV))])])
  refine rS [] [0, 4, 6, 15, 16, 17, 21, 22, 23, 24] (by decide) ?_
  intro K1 hK1
  refine ⟨tv, ?_⟩
  show K1 [(0, sF (needs.map (lstAV intAV))), (4, pT b1), (6, sF ((gI needs j).map intAV)), (15, sF (needs.map (lstAV intAV))), (16, iT (needs.length : Int)), (17, iT j), (21, sF ((gI needs j).map intAV)), (22, iT ((gI needs j).length : Int)), (23, iT i), (24, .bool (decide (i < ((gI needs j).length : Int))))] _
  refine hK1 _ _ ?_; clear hK1 K1
  refine sK ?_; intro K7 hK7
  refine cD rfl rfl (fun h3 => ?_) (fun h3 => ?_)
  ·
   replace h3 : i < ((gI needs j).length : Int) := (of_decide_eq_true h3)
   refine awp_skip ?_
   refine hK7 _ _ ?_; clear hK7
   refine sK ?_; intro K8 hK8
   refine awp_block ?_
   refine rS [] [0, 4, 6, 8, 15, 16, 17, 21, 22, 23] (by decide) ?_
   intro K1 hK1
   refine ar_index rfl intAV (gI needs j) i rfl rfl rfl rfl rfl (by decide) (fun _ => rfl) (by omega) (by omega) ?_
   refine ⟨(aO rfl rfl (nB rfl)), tv, ?_⟩
   show K1 [(0, sF (needs.map (lstAV intAV))), (4, pT b1), (6, sF ((gI needs j).map intAV)), (8, iT (gI (gI needs j) i)), (15, sF (needs.map (lstAV intAV))), (16, iT (needs.length : Int)), (17, iT j), (21, sF ((gI needs j).map intAV)), (22, iT ((gI needs j).length : Int)), (23, iT i)] (mW m [(b1, .cells [sT (nd.map (lstAV intAV))])])
   refine hK1 _ _ ?_; clear hK1 K1
   refine rS [] [0, 4, 6, 15, 16, 17, 21, 22, 23, 34] (by decide) ?_
   intro K1 hK1
   suffices key : K1 [(0, sF (needs.map (lstAV intAV))), (4, pT b1), (6, sF ((gI needs j).map intAV)), (15, sF (needs.map (lstAV intAV))), (16, iT (needs.length : Int)), (17, iT j), (21, sF ((gI needs j).map intAV)), (22, iT ((gI needs j).length : Int)), (23, iT i), (34, .bool ((decide (gI (gI needs j) i < 0)) || (decide ((needs.length : Int) ≤ gI (gI needs j) i))))] (mW m [(b1, .cells [sT (nd.map (lstAV intAV))])]) by
    refine ⟨tv, tv, tv, ?_⟩
    show aopsR _ _ _ _ _ [(29, .bool (decide (gI (gI needs j) i < 0))), (28, .bool (decide (gI (gI needs j) i < 0))), (27, iT (gI (gI needs j) i)), (0, sF (needs.map (lstAV intAV))), (4, pT b1), (6, sF ((gI needs j).map intAV)), (8, iT (gI (gI needs j) i)), (15, sF (needs.map (lstAV intAV))), (16, iT (needs.length : Int)), (17, iT j), (21, sF ((gI needs j).map intAV)), (22, iT ((gI needs j).length : Int)), (23, iT i)] _
    revert key
    cases h4 : (decide (gI (gI needs j) i < 0))
    ·
     replace h4 : 0 ≤ gI (gI needs j) i := (Int.not_lt.1 (of_decide_eq_false h4))
     intro key
     refine ⟨tv, tv, ?_⟩
     refine ar_len rfl (lstAV intAV) needs rfl rfl rfl ?_
     refine ⟨tv, ?_⟩
     exact key
    ·
     replace h4 : gI (gI needs j) i < 0 := (of_decide_eq_true h4)
     intro key
     refine ar_off rfl (ar_off rfl (ar_off rfl (ar_off rfl ?_)))
     exact key
   refine hK1 _ _ ?_; clear hK1 K1
   refine cD rfl rfl (fun h5 => ?_) (fun h5 => ?_)
   ·
    replace h5 : (gI (gI needs j) i < 0) ∨ ((needs.length : Int) ≤ gI (gI needs j) i) := ((borT h5).imp (fun q => (of_decide_eq_true q)) (fun q => (of_decide_eq_true q)))
    refine rS [] [2, 3] (by decide) ?_
    intro K1 hK1
    refine ⟨tv, tv, tv, ?_⟩
    show K1 [(2, .nilptr), (3, .iface 61 (iT 1))] (mW m [(b1, .cells [sT (nd.map (lstAV intAV))])])
    refine hK1 _ _ ?_; clear hK1 K1
    refine awp_toErr 61 [3] ?_
    show AWP _ _ _ _ [(2, .nilptr), (3, .err 61 1)] _
    refine awp_ret ?_
    refine ⟨tv, tv, m, (wth_sub2 (m := m) [(b1, .cells [sT (nd.map (lstAV intAV))])] [] hNb1 (by simp only [List.map_cons, List.map_nil, List.forall_mem_cons]; exact ⟨hFb1, nfA⟩)), ?_⟩
    show K (.tuple [.nilptr, .err 61 1]) m
   
    have e : newE needs = 1 := by
     rw [newE, if_neg (by omega), if_neg]
     intro hh
     have hk : okL needs.length (gI needs j) = true := List.all_eq_true.1 hh _ (gI_mem (l := needs) hI.1 h2)
     have := e0 hI2.1 h3 hk
     omega
    rw [e] at hE; exact hE (by decide)
   replace h5 : (0 ≤ gI (gI needs j) i) ∧ (gI (gI needs j) i < (needs.length : Int)) := ⟨(Int.not_lt.1 (of_decide_eq_false (borL h5))), (Int.not_le.1 (of_decide_eq_false (borR h5)))⟩
   refine awp_skip ?_
   refine hK8 _ _ ?_; clear hK8
   refine awp_reg2 [] [0, 4, 6, 15, 16, 17, 21, 22, 23] (by decide) ?_
   intro K1 hK1
   refine ar_add rfl (a := i) (b := 1) rfl rfl (by omega) (by omega) ?_
   refine ⟨tv, ?_⟩
   show K1 [(0, sF (needs.map (lstAV intAV))), (4, pT b1), (6, sF ((gI needs j).map intAV)), (15, sF (needs.map (lstAV intAV))), (16, iT (needs.length : Int)), (17, iT j), (21, sF ((gI needs j).map intAV)), (22, iT ((gI needs j).length : Int)), (23, iT (i + 1))] (mW m [(b1, .cells [sT (nd.map (lstAV intAV))])])
   refine hK1 _ _ ?_; clear hK1 K1
   refine ⟨(i + 1), rfl, rfl, ?_, ?_⟩
   ·
    show 0 ≤ ((i + 1 : Int)) ∧ ((i + 1 : Int)) ≤ (gI needs j).length ∧ ((gI needs j).take ((i + 1 : Int)).toNat).all (fun k => decide (0 ≤ k) && decide (k < needs.length)) = true
    exact ⟨by omega, by omega, all_take_succ (l := gI needs j) (p := fun k => decide (0 ≤ k) && decide (k < needs.length)) hI2.1 h3 hI2.2.2 (by simp; omega)⟩
   ·
    show (gI needs j).length - ((i + 1 : Int)).toNat < (gI needs j).length - i.toNat
    omega
  replace h3 : ((gI needs j).length : Int) ≤ i := (Int.not_lt.1 (of_decide_eq_false h3))
  refine awp_exit ?_
  refine hK6 _ _ ?_; clear hK6
  refine awp_anyA Try.mixed [0, 4, 15, 16, 17] (by decide) ?_
  intro K1 hK1
  intro A hA
  suffices key : ∀ (_ : True), K1 [(0, sF (needs.map (lstAV intAV))), (4, pT b1), (15, sF (needs.map (lstAV intAV))), (16, iT (needs.length : Int)), (17, iT j)] (mW m [(b1, .cells [sT ((nd ++ ([gI needs j] : List (List Int))).map (lstAV intAV))])]) by
   let KK1 : Fr → AMem → Prop := (fun fr m => K1 (fr.keep [0, 4, 15, 16, 17]) m)
   let f1_0 : Nat × AV := (0, sF (needs.map (lstAV intAV)))
   let f1_1 : Nat × AV := (4, pT b1)
   let f1_2 : Nat × AV := (15, sF (needs.map (lstAV intAV)))
   let f1_3 : Nat × AV := (16, iT (needs.length : Int))
   let f1_4 : Nat × AV := (17, iT j)
   let M1_5 : AMem := (mW m [(b1, .cells [sT ((nd ++ ([gI needs j] : List (List Int))).map (lstAV intAV))])])
   let f1_6 : Nat × AV := (45, sT ((nd ++ ([gI needs j] : List (List Int))).map (lstAV intAV)))
   let f1_7 : Nat × AV := (47, pT b1)
   let M1_8 : AMem := (mW m [(b1, .cells [sF (nd.map (lstAV intAV))])])
   let f1_9 : Nat × AV := (37, pT b1)
   let f1_10 : Nat × AV := (41, sT (nd.map (lstAV intAV)))
   let f1_11 : Nat × AV := (44, .slice true [sF ((gI needs j).map intAV)])
   let f1_12 : Nat × AV := (43, sT ((gI needs j).map intAV))
   let f1_13 : Nat × AV := (40, pT b1)
   let M1_14 : AMem := (mW m [(b1, .cells [sT (nd.map (lstAV intAV))])])
   let f1_15 : Nat × AV := (42, sF ((gI needs j).map intAV))
   have s0 : ∀ (_ : True), A 0 #[true, true, true, true, true, true, true, true, true, true, true, true] KK1 [f1_0, f1_1, f1_2, f1_3, f1_4] M1_5 := by
    intro _
    subst hA
    exact AAny.done (by decide +kernel) (key tv)
   have s1 : ∀ (_ : True), A 1 #[true, true, true, true, true, true, true, true, true, true, true, false] KK1 [f1_0, f1_1, f1_2, f1_3, f1_4, f1_6, f1_7] M1_8 := by
    intro _
    subst hA
    refine AAny.step [41] [11] (by decide +kernel) (by simp) (by decide) ⟨?_, tv⟩
    ·
     show aopsR _ _ _ [_] _ _ _
     refine aS rfl 0 (v := sT ((nd ++ ([gI needs j] : List (List Int))).map (lstAV intAV))) (l' := [sT ((nd ++ ([gI needs j] : List (List Int))).map (lstAV intAV))]) rfl rfl hNb1 rfl rfl rfl rfl rfl (nB rfl) rfl ?_
     refine AAny.keep [0, 4, 15, 16, 17] (by decide) ?_
     exact s0 trivial
   clear s0
   have s2 : ∀ (_ : True), A 4 #[true, true, true, true, true, true, true, true, false, false, false, false] KK1 [f1_0, f1_1, f1_2, f1_3, f1_4, f1_9, f1_10, f1_11] M1_8 := by
    intro _
    subst hA
    refine AAny.step [41] [8] (by decide +kernel) (by simp) (by decide) ⟨?_, tv⟩
    ·
     show aopsR _ _ _ [_] _ _ _
     refine ar_append rfl (lstAV intAV) nd ([gI needs j] : List (List Int)) rfl rfl rfl rfl rfl rfl (nB rfl) rfl (by (simp only [show Try.prog.bytesOf 36 = 24 from rfl, List.length_append, List.length_cons, List.length_nil]; omega)) (by (first | omega | (simp only [List.length_append, List.length_cons, List.length_nil]; omega))) (fun _ => ⟨rfl, rfl⟩) ?_
     refine AAny.fNil (i := 9) rfl rfl rfl (by decide) rfl (by decide +kernel) rfl ?_
     refine AAny.fField (i := 10) rfl rfl rfl (by decide) rfl (by decide +kernel) rfl rfl ⟨rfl, by decide⟩ ?_
     refine AAny.keep [0, 4, 15, 16, 17, 45, 47] (by decide) ?_
     exact s1 trivial
   clear s1
   have s3 : ∀ (_ : True), A 5 #[true, true, true, true, true, true, true, false, false, false, false, false] KK1 [f1_0, f1_1, f1_2, f1_3, f1_4, f1_9, f1_10, f1_12] M1_8 := by
    intro _
    subst hA
    refine AAny.step [41] [7] (by decide +kernel) (by simp) (by decide) ⟨?_, tv⟩
    ·
     show aopsR _ _ _ [_] _ _ _
     refine ⟨⟨rfl, nB rfl, rfl, nB rfl, rfl, by simp only [List.forall_mem_cons]; exact ⟨⟨rfl, rfl⟩, nfA⟩⟩, ?_⟩
     refine AAny.keep [0, 4, 15, 16, 17, 37, 41, 44] (by decide) ?_
     exact s2 trivial
   have s4 : ∀ (_ : True), A 5 #[true, true, true, true, false, true, true, true, false, false, false, false] KK1 [f1_0, f1_1, f1_2, f1_3, f1_4, f1_9, f1_13, f1_11] M1_14 := by
    intro _
    subst hA
    refine AAny.step [41] [4] (by decide +kernel) (by simp) (by decide) ⟨?_, tv⟩
    ·
     show aopsR _ _ _ [_] _ _ _
     refine ar_loads rfl (i := 0) rfl hNb1 rfl rfl rfl rfl (nB rfl) ?_
     refine AAny.keep [0, 4, 15, 16, 17, 37, 41, 44] (by decide) ?_
     exact s2 trivial
   clear s2
   have s5 : ∀ (_ : True), A 6 #[true, true, true, true, true, true, false, false, false, false, false, false] KK1 [f1_0, f1_1, f1_2, f1_3, f1_4, f1_9, f1_10, f1_15] M1_8 := by
    intro _
    subst hA
    refine AAny.step [41] [6] (by decide +kernel) (by simp) (by decide) ⟨?_, tv⟩
    ·
     show aopsR _ _ _ [_] _ _ _
     refine ar_append0 rfl intAV (gI needs j) rfl rfl rfl rfl (nB rfl) rfl (by (simp only [show Try.prog.bytesOf 3 = 8 from rfl, List.length_append, List.length_cons, List.length_nil]; omega)) (fun _ => ⟨rfl, rfl⟩) ?_
     refine AAny.keep [0, 4, 15, 16, 17, 37, 41, 43] (by decide) ?_
     exact s3 trivial
   have s6 : ∀ (_ : True), A 6 #[true, true, true, true, false, true, true, false, false, false, false, false] KK1 [f1_0, f1_1, f1_2, f1_3, f1_4, f1_9, f1_13, f1_12] M1_14 := by
    intro _
    subst hA
    refine AAny.step [41] [4, 7] (by decide +kernel) (by simp) (by decide) ⟨?_, ?_, tv⟩
    ·
     show aopsR _ _ _ [_] _ _ _
     refine ar_loads rfl (i := 0) rfl hNb1 rfl rfl rfl rfl (nB rfl) ?_
     refine AAny.keep [0, 4, 15, 16, 17, 37, 41, 43] (by decide) ?_
     exact s3 trivial
    ·
     show aopsR _ _ _ [_] _ _ _
     refine ⟨⟨rfl, nB rfl, rfl, nB rfl, rfl, by simp only [List.forall_mem_cons]; exact ⟨⟨rfl, rfl⟩, nfA⟩⟩, ?_⟩
     refine AAny.keep [0, 4, 15, 16, 17, 37, 40, 44] (by decide) ?_
     exact s4 trivial
   clear s3 s4
   have s7 : ∀ (_ : True), A 7 #[true, true, true, true, false, true, false, false, false, false, false, false] KK1 [f1_0, f1_1, f1_2, f1_3, f1_4, f1_9, f1_13, f1_15] M1_14 := by
    intro _
    subst hA
    refine AAny.step [41] [4, 6] (by decide +kernel) (by simp) (by decide) ⟨?_, ?_, tv⟩
    ·
     show aopsR _ _ _ [_] _ _ _
     refine ar_loads rfl (i := 0) rfl hNb1 rfl rfl rfl rfl (nB rfl) ?_
     refine AAny.keep [0, 4, 15, 16, 17, 37, 41, 42] (by decide) ?_
     exact s5 trivial
    ·
     show aopsR _ _ _ [_] _ _ _
     refine ar_append0 rfl intAV (gI needs j) rfl rfl rfl rfl (nB rfl) rfl (by (simp only [show Try.prog.bytesOf 3 = 8 from rfl, List.length_append, List.length_cons, List.length_nil]; omega)) (fun _ => ⟨rfl, rfl⟩) ?_
     refine AAny.keep [0, 4, 15, 16, 17, 37, 40, 43] (by decide) ?_
     exact s6 trivial
   clear s5 s6
   subst hA
   refine AAny.fMove (i := 0) rfl rfl rfl (by decide) rfl (by decide +kernel) rfl ?_
   refine AAny.fMove (i := 1) rfl rfl rfl (by decide) rfl (by decide +kernel) rfl ?_
   refine AAny.fNil (i := 2) rfl rfl rfl (by decide) rfl (by decide +kernel) rfl ?_
   refine AAny.fField (i := 3) rfl rfl rfl (by decide) rfl (by decide +kernel) rfl rfl ⟨rfl, by decide⟩ ?_
   refine AAny.fMove (i := 5) rfl rfl rfl (by decide) rfl (by decide +kernel) rfl ?_
   refine AAny.keep [0, 4, 15, 16, 17, 37, 40, 42] (by decide) ?_
   exact s7 trivial
  intro _
  refine hK1 _ _ ?_; clear hK1 K1
  refine hK5 _ _ ?_; clear hK5
  refine awp_reg2 [] [0, 4, 15, 16, 17] (by decide) ?_
  intro K1 hK1
  refine ar_add rfl (a := j) (b := 1) rfl rfl (by omega) (by omega) ?_
  refine ⟨tv, ?_⟩
  show K1 [(0, sF (needs.map (lstAV intAV))), (4, pT b1), (15, sF (needs.map (lstAV intAV))), (16, iT (needs.length : Int)), (17, iT (j + 1))] (mW m [(b1, .cells [sT ((nd ++ ([gI needs j] : List (List Int))).map (lstAV intAV))])])
  refine hK1 _ _ ?_; clear hK1 K1
  refine ⟨(j + 1, nd ++ ([gI needs j] : List (List Int))), rfl, rfl, ?_, ?_⟩
  ·
   show 0 ≤ ((j + 1 : Int)) ∧ ((j + 1 : Int)) ≤ needs.length ∧ ((nd ++ ([gI needs j] : List (List Int)) : (List (List Int)))) = needs.take ((j + 1 : Int)).toNat ∧ ((nd ++ ([gI needs j] : List (List Int)) : (List (List Int)))).all (okL needs.length) = true
   exact ⟨by omega, by omega, by rw [hI.2.2.1, take_succ_gI hI.1 h2], by rw [List.all_append, hI.2.2.2]; simp; exact all_of_take h3 hI2.2.2⟩
  ·
   show needs.length - ((j + 1 : Int)).toNat < needs.length - j.toNat
   omega
 replace h2 : (needs.length : Int) ≤ j := (Int.not_lt.1 (of_decide_eq_false h2))
 refine awp_exit ?_
 refine hK3 _ _ ?_; clear hK3
 refine rS [] [2, 3] (by decide) ?_
 intro K1 hK1
 refine ⟨tv, tv, tv, ?_⟩
 show K1 [(2, pT b1), (3, .nilIface)] (mW m [(b1, .cells [sT (nd.map (lstAV intAV))])])
 refine hK1 _ _ ?_; clear hK1 K1
 refine awp_toErr 61 [3] ?_
 show AWP _ _ _ _ [(2, pT b1), (3, .err 61 0)] _
 refine awp_ret ?_
 refine ⟨tv, tv, (mW m [(b1, .cells [sT (nd.map (lstAV intAV))])]), fun _ _ h => h, ?_⟩
 show K (.tuple [pT b1, .err 61 0]) _
 have e : nd = needs := by rw [hI.2.2.1]; exact List.take_of_length_le (by omega)
 subst e
 exact hK (by rw [newE, if_neg (by omega)]; exact if_pos hI.2.2.2) b1 hFb1
end Go.Proofs
end
section
namespace Go.Proofs
open Go Go.Aw
set_option maxRecDepth 100000
theorem nodup_one (g : Nat) : [g].Nodup := by simp
def readyB (needs : List (List Int)) (lv : List Int) (i : Int) : Bool := (gI lv i == 0) && (gI needs i).all fun k => decide (0 < gI lv k)
def upto (k : Int) : List Int := (List.range k.toNat).map fun i : Nat => (i : Int)
def waveTo (needs : List (List Int)) (lv : List Int) (k : Int) : List Int := (upto k).filter (readyB needs lv)
def setAll (lv wave : List Int) (v : Int) : List Int := wave.foldl (fun l k => l.set k.toNat v) lv
theorem upto_succ {k : Int} (h : 0 ≤ k) : upto (k + 1) = upto k ++ [k] := by
  have e : (k + 1).toNat = k.toNat + 1 := by omega
  simp [upto, e, List.range_succ]; omega
theorem waveTo_succ {needs : List (List Int)} {lv : List Int} {k : Int} (h : 0 ≤ k) : waveTo needs lv (k + 1) = if readyB needs lv k = true then waveTo needs lv k ++ [k] else waveTo needs lv k := by
  rw [waveTo, upto_succ h, List.filter_append]
  by_cases hr : readyB needs lv k = true
  · simp [hr, waveTo]
  · simp [hr, waveTo]
theorem waveTo_mem {needs : List (List Int)} {lv : List Int} {k x : Int} (h : x ∈ waveTo needs lv k) : 0 ≤ x ∧ x < k := by
  have := (List.mem_filter.1 h).1
  simp [upto] at this
  obtain ⟨i, hi, rfl⟩ := this
  omega
theorem waveTo_len (needs : List (List Int)) (lv : List Int) (k : Int) : (waveTo needs lv k).length ≤ k.toNat := by
  refine Nat.le_trans (List.length_filter_le _ _) ?_
  simp [upto]
theorem setAll_len (wave : List Int) (v : Int) : ∀ lv : List Int, (setAll lv wave v).length = lv.length := by
  induction wave with
  | nil => intro lv; rfl
  | cons x w ih => intro lv; simp only [setAll, List.foldl_cons] at ih ⊢; rw [ih]; simp
theorem setAll_snoc (lv wave : List Int) (k v : Int) : setAll lv (wave ++ [k]) v = (setAll lv wave v).set k.toNat v := by simp [setAll]
def wavesF : Nat → List (List Int) → Int → List Int → List (List Int) → List (List Int) × Int
  | 0, _, _, _, out => (out, 0)
  | f + 1, needs, left, lv, out =>
    if left ≤ 0 then (out, 0)
    else if waveTo needs lv needs.length = [] then ([], 8)
    else wavesF f needs (left - (waveTo needs lv needs.length).length) (setAll lv (waveTo needs lv needs.length) (out.length + 1 : Nat)) (out ++ [waveTo needs lv needs.length])
def wavesR (needs : List (List Int)) : List (List Int) × Int := wavesF (needs.length + 1) needs needs.length (List.replicate needs.length 0) []
theorem okN_gI {needs : List (List Int)} (h : okN needs = true) {i k : Int} (h0 : 0 ≤ i) (hi : i < needs.length) (h1 : 0 ≤ k) (hk : k < (gI needs i).length) : 0 ≤ gI (gI needs i) k ∧ gI (gI needs i) k < needs.length :=
  okL_gI (List.all_eq_true.1 h _ (gI_mem h0 hi)) h1 hk
theorem all_take_snoc {α : Type} [Inhabited α] {l : List α} {i : Int} {p : α → Bool} (h0 : 0 ≤ i) (hi : i < l.length) : (l.take (i + 1).toNat).all p = ((l.take i.toNat).all p && p (gI l i)) := by
  rw [take_succ_gI h0 hi, List.all_append]; simp
set_option maxHeartbeats 1000000 in
theorem u_Waves (g : Nat) (needs : List (List Int)) (hok : okN needs = true) (hn : needs.length ≤ 64) (hl : ∀ l ∈ needs, l.length ≤ 1048576) (m : AMem)  (K : AV → AMem → Prop) (hK : K (.tuple [sF ((wavesR needs).1.map (lstAV intAV)), .err 61 (wavesR needs).2]) (mW m [(g, .cells [sT (needs.map (lstAV intAV))])])) : ACalls Try.prog 41 [pT g] (mW m [(g, .cells [sT (needs.map (lstAV intAV))])]) K := by
 refine acalls_enter Try.func41 rfl (by decide) (nB rfl) ?_
 show AWP _ _ _ _ [(0, pT g)] (mW m [(g, .cells [sT (needs.map (lstAV intAV))])])
 refine rS [] [0] (by decide) ?_
 intro K1 hK1
 refine ⟨tv, tv, ?_⟩
 show K1 [(0, pT g)] _
 refine hK1 _ _ ?_; clear hK1 K1
 refine rS [] [0, 4] (by decide) ?_
 intro K1 hK1
 refine ⟨tv, tv, ⟨rfl, by decide⟩, ?_⟩
 refine aL rfl (v := sF (needs.map (lstAV intAV))) rfl (wG 0 (nodup_one g) rfl) rfl (aO rfl rfl (nB rfl)) rfl ?_
 refine ar_len rfl (lstAV intAV) needs rfl rfl rfl ?_
 refine ar_makeSlice rfl (m := m) (L := [(g, .cells [sT (needs.map (lstAV intAV))])]) intAV 0 (needs.length : Int) rfl rfl rfl rfl rfl rfl rfl rfl (by omega) (by simp only [show Try.prog.bytesOf 3 = 8 from rfl]; omega) (by omega) ?_
 intro b1 hb1
 have hFb1 : m b1 = none := wth_none hb1
 have hNb1 : ([b1, g] : List Nat).Nodup := wth_nodup hb1 (nodup_one g)
 refine ⟨tv, ?_⟩
 show K1 [(0, pT g), (4, .ms ⟨b1, 0, none⟩ (((needs.length : Int)).toNat) (((needs.length : Int)).toNat))] (mW m [(b1, .cells ((List.replicate ((needs.length : Int)).toNat 0).map intAV)), (g, .cells [sT (needs.map (lstAV intAV))])])
 refine hK1 _ _ ?_; clear hK1 K1
 refine rS [] [0, 4, 5] (by decide) ?_
 intro K1 hK1
 refine ⟨tv, ?_⟩
 show K1 [(0, pT g), (4, .ms ⟨b1, 0, none⟩ (((needs.length : Int)).toNat) (((needs.length : Int)).toNat)), (5, .slice true [])] _
 refine hK1 _ _ ?_; clear hK1 K1
 refine sK ?_; intro K2 hK2
 refine rS [] [0, 4, 5, 6] (by decide) ?_
 intro K1 hK1
 refine ⟨tv, tv, ⟨rfl, by decide⟩, ?_⟩
 refine aL rfl (v := sF (needs.map (lstAV intAV))) rfl (wG 1 hNb1 rfl) rfl (aO rfl rfl (nB rfl)) rfl ?_
 refine ar_len rfl (lstAV intAV) needs rfl rfl rfl ?_
 refine ⟨tv, ?_⟩
 show K1 [(0, pT g), (4, .ms ⟨b1, 0, none⟩ (((needs.length : Int)).toNat) (((needs.length : Int)).toNat)), (5, .slice true []), (6, iT (needs.length : Int))] _
 refine hK1 _ _ ?_; clear hK1 K1
 refine awp_block ?_
 refine awp_keep [0, 4, 5, 6] (by decide) ?_
 refine awp_loop_st (σ := (List (List Int)) × Int × (List Int)) (fun ⟨out, left, lv⟩ => [(0, pT g), (4, .ms ⟨b1, 0, none⟩ (((needs.length : Int)).toNat) (((needs.length : Int)).toNat)), (5, sT (out.map (lstAV intAV))), (6, iT left)]) (fun ⟨out, left, lv⟩ => (mW m [(b1, .cells (lv.map intAV)), (g, .cells [sT (needs.map (lstAV intAV))])])) (fun ⟨out, left, lv⟩ => left ≤ needs.length ∧ lv.length = needs.length ∧ out.length + left ≤ needs.length ∧ ∃ f : Nat, left < f ∧ wavesR needs = wavesF f needs left lv out) (fun ⟨out, left, lv⟩ => left.toNat) ([], (needs.length : Int), List.replicate ((needs.length : Int)).toNat 0) rfl rfl ?_ ?_
 ·
  show (((needs.length : Int) : Int)) ≤ needs.length ∧ ((List.replicate ((needs.length : Int)).toNat 0 : (List Int))).length = needs.length ∧ (([] : (List (List Int)))).length + (((needs.length : Int) : Int)) ≤ needs.length ∧ ∃ f : Nat, (((needs.length : Int) : Int)) < f ∧ wavesR needs = wavesF f needs (((needs.length : Int) : Int)) ((List.replicate ((needs.length : Int)).toNat 0 : (List Int))) (([] : (List (List Int))))
  exact ⟨by omega, by simp, by simp, needs.length + 1, by omega, rfl⟩
 rintro ⟨out, left, lv⟩ hI
 replace hI : left ≤ needs.length ∧ lv.length = needs.length ∧ out.length + left ≤ needs.length ∧ ∃ f : Nat, left < f ∧ wavesR needs = wavesF f needs left lv out := hI
 obtain ⟨f, hf, hw⟩ := hI.2.2.2
 show AWP _ _ _ _ [(0, pT g), (4, .ms ⟨b1, 0, none⟩ (((needs.length : Int)).toNat) (((needs.length : Int)).toNat)), (5, sT (out.map (lstAV intAV))), (6, iT left)] (mW m [(b1, .cells (lv.map intAV)), (g, .cells [sT (needs.map (lstAV intAV))])])
 refine sK ?_; intro K3 hK3
 refine rS [] [0, 4, 5, 6, 27] (by decide) ?_
 intro K1 hK1
 refine ⟨tv, tv, ?_⟩
 show K1 [(0, pT g), (4, .ms ⟨b1, 0, none⟩ (((needs.length : Int)).toNat) (((needs.length : Int)).toNat)), (5, sT (out.map (lstAV intAV))), (6, iT left), (27, .bool (decide (0 < left)))] _
 refine hK1 _ _ ?_; clear hK1 K1
 refine cD rfl rfl (fun h1 => ?_) (fun h1 => ?_)
 ·
  replace h1 : 0 < left := (of_decide_eq_true h1)
  obtain ⟨f, rfl⟩ : ∃ k, f = k + 1 := ⟨f - 1, by omega⟩
  refine awp_skip ?_
  refine hK3 _ _ ?_; clear hK3
  refine awp_block ?_
  refine rS [] [0, 4, 5, 6, 7] (by decide) ?_
  intro K1 hK1
  refine ⟨tv, ?_⟩
  show K1 [(0, pT g), (4, .ms ⟨b1, 0, none⟩ (((needs.length : Int)).toNat) (((needs.length : Int)).toNat)), (5, sT (out.map (lstAV intAV))), (6, iT left), (7, .slice true [])] (mW m [(b1, .cells (lv.map intAV)), (g, .cells [sT (needs.map (lstAV intAV))])])
  refine hK1 _ _ ?_; clear hK1 K1
  refine sK ?_; intro K4 hK4
  refine rS [] [0, 4, 5, 6, 7, 31, 32, 33] (by decide) ?_
  intro K1 hK1
  refine ⟨tv, tv, ⟨rfl, by decide⟩, ?_⟩
  refine aL rfl (v := sF (needs.map (lstAV intAV))) rfl (wG 1 hNb1 rfl) rfl (aO rfl rfl (nB rfl)) rfl ?_
  refine ar_len rfl (lstAV intAV) needs rfl rfl rfl ?_
  refine ⟨tv, ?_⟩
  show K1 [(0, pT g), (4, .ms ⟨b1, 0, none⟩ (((needs.length : Int)).toNat) (((needs.length : Int)).toNat)), (5, sT (out.map (lstAV intAV))), (6, iT left), (7, .slice true []), (31, sF (needs.map (lstAV intAV))), (32, iT (needs.length : Int)), (33, iT 0)] _
  refine hK1 _ _ ?_; clear hK1 K1
  refine awp_block ?_
  refine awp_keep [0, 4, 5, 6, 7, 31, 32, 33] (by decide) ?_
  refine awp_loop_st (σ := (List Int) × Int) (fun ⟨wave, i⟩ => [(0, pT g), (4, .ms ⟨b1, 0, none⟩ (((needs.length : Int)).toNat) (((needs.length : Int)).toNat)), (5, sT (out.map (lstAV intAV))), (6, iT left), (7, sT (wave.map intAV)), (31, sF (needs.map (lstAV intAV))), (32, iT (needs.length : Int)), (33, iT i)]) (fun _ => (mW m [(b1, .cells (lv.map intAV)), (g, .cells [sT (needs.map (lstAV intAV))])])) (fun ⟨wave, i⟩ => 0 ≤ i ∧ i ≤ needs.length ∧ wave = waveTo needs lv i) (fun ⟨wave, i⟩ => needs.length - i.toNat) ([], 0) rfl rfl ?_ ?_
  ·
   show 0 ≤ ((0 : Int)) ∧ ((0 : Int)) ≤ needs.length ∧ (([] : (List Int))) = waveTo needs lv ((0 : Int))
   exact ⟨by omega, by omega, by simp [waveTo, upto]⟩
  rintro ⟨wave, i⟩ hI2
  replace hI2 : 0 ≤ i ∧ i ≤ needs.length ∧ wave = waveTo needs lv i := hI2
  have hwl := waveTo_len needs lv i
  rw [← hI2.2.2] at hwl
  show AWP _ _ _ _ [(0, pT g), (4, .ms ⟨b1, 0, none⟩ (((needs.length : Int)).toNat) (((needs.length : Int)).toNat)), (5, sT (out.map (lstAV intAV))), (6, iT left), (7, sT (wave.map intAV)), (31, sF (needs.map (lstAV intAV))), (32, iT (needs.length : Int)), (33, iT i)] (mW m [(b1, .cells (lv.map intAV)), (g, .cells [sT (needs.map (lstAV intAV))])])
  refine rS [] [0, 4, 5, 6, 7, 31, 32, 33, 34] (by decide) ?_
  intro K1 hK1
  refine ⟨tv, ?_⟩
  show K1 [(0, pT g), (4, .ms ⟨b1, 0, none⟩ (((needs.length : Int)).toNat) (((needs.length : Int)).toNat)), (5, sT (out.map (lstAV intAV))), (6, iT left), (7, sT (wave.map intAV)), (31, sF (needs.map (lstAV intAV))), (32, iT (needs.length : Int)), (33, iT i), (34, .bool (decide (i < (needs.length : Int))))] _
  refine hK1 _ _ ?_; clear hK1 K1
  refine sK ?_; intro K5 hK5
  refine cD rfl rfl (fun h2 => ?_) (fun h2 => ?_)
  ·
   replace h2 : i < (needs.length : Int) := (of_decide_eq_true h2)
   have hlj := hl _ (gI_mem (l := needs) (i := i) hI2.1 h2)
   refine awp_skip ?_
   refine hK5 _ _ ?_; clear hK5
   refine sK ?_; intro K6 hK6
   refine awp_block ?_
   refine rS [] [0, 4, 5, 6, 7, 8, 9, 31, 32, 33] (by decide) ?_
   intro K1 hK1
   refine ⟨tv, ?_⟩
   refine ar_index rfl (lstAV intAV) needs i rfl rfl rfl rfl rfl (by decide) (fun _ => rfl) (by omega) (by omega) ?_
   refine ⟨(aO rfl rfl (nB rfl)), tv, tv, ?_⟩
   show K1 [(0, pT g), (4, .ms ⟨b1, 0, none⟩ (((needs.length : Int)).toNat) (((needs.length : Int)).toNat)), (5, sT (out.map (lstAV intAV))), (6, iT left), (7, sT (wave.map intAV)), (8, iT i), (9, sF ((gI needs i).map intAV)), (31, sF (needs.map (lstAV intAV))), (32, iT (needs.length : Int)), (33, iT i)] (mW m [(b1, .cells (lv.map intAV)), (g, .cells [sT (needs.map (lstAV intAV))])])
   refine hK1 _ _ ?_; clear hK1 K1
   refine rS [] [0, 4, 5, 6, 7, 8, 9, 10, 31, 32, 33] (by decide) ?_
   intro K1 hK1
   refine ⟨tv, tv, ⟨rfl, (by omega), (by omega)⟩, ?_⟩
   refine ar_loadm rfl intAV lv i rfl rfl (wG 0 hNb1 rfl) rfl rfl rfl (fun _ => rfl) (by omega) (by omega) ?_
   refine ⟨tv, tv, ?_⟩
   show K1 [(0, pT g), (4, .ms ⟨b1, 0, none⟩ (((needs.length : Int)).toNat) (((needs.length : Int)).toNat)), (5, sT (out.map (lstAV intAV))), (6, iT left), (7, sT (wave.map intAV)), (8, iT i), (9, sF ((gI needs i).map intAV)), (10, .bool ((gI lv i) == 0)), (31, sF (needs.map (lstAV intAV))), (32, iT (needs.length : Int)), (33, iT i)] _
   refine hK1 _ _ ?_; clear hK1 K1
   refine sK ?_; intro K7 hK7
   refine rS [] [0, 4, 5, 6, 7, 8, 10, 31, 32, 33, 43, 44, 45] (by decide) ?_
   intro K1 hK1
   refine ⟨tv, ?_⟩
   refine ar_len rfl intAV (gI needs i) rfl rfl rfl ?_
   refine ⟨tv, ?_⟩
   show K1 [(0, pT g), (4, .ms ⟨b1, 0, none⟩ (((needs.length : Int)).toNat) (((needs.length : Int)).toNat)), (5, sT (out.map (lstAV intAV))), (6, iT left), (7, sT (wave.map intAV)), (8, iT i), (10, .bool ((gI lv i) == 0)), (31, sF (needs.map (lstAV intAV))), (32, iT (needs.length : Int)), (33, iT i), (43, sF ((gI needs i).map intAV)), (44, iT ((gI needs i).length : Int)), (45, iT 0)] _
   refine hK1 _ _ ?_; clear hK1 K1
   refine awp_block ?_
   refine awp_keep [0, 4, 5, 6, 7, 8, 10, 31, 32, 33, 43, 44, 45] (by decide) ?_
   refine awp_loop_st (σ := Bool × Int) (fun ⟨ready, j⟩ => [(0, pT g), (4, .ms ⟨b1, 0, none⟩ (((needs.length : Int)).toNat) (((needs.length : Int)).toNat)), (5, sT (out.map (lstAV intAV))), (6, iT left), (7, sT (wave.map intAV)), (8, iT i), (10, .bool ready), (31, sF (needs.map (lstAV intAV))), (32, iT (needs.length : Int)), (33, iT i), (43, sF ((gI needs i).map intAV)), (44, iT ((gI needs i).length : Int)), (45, iT j)]) (fun _ => (mW m [(b1, .cells (lv.map intAV)), (g, .cells [sT (needs.map (lstAV intAV))])])) (fun ⟨ready, j⟩ => 0 ≤ j ∧ j ≤ (gI needs i).length ∧ ready = ((gI lv i == 0) && ((gI needs i).take j.toNat).all fun k => decide (0 < gI lv k))) (fun ⟨ready, j⟩ => (gI needs i).length - j.toNat) (((gI lv i) == 0), 0) rfl rfl ?_ ?_
   ·
    show 0 ≤ ((0 : Int)) ∧ ((0 : Int)) ≤ (gI needs i).length ∧ ((((gI lv i) == 0) : Bool)) = ((gI lv i == 0) && ((gI needs i).take ((0 : Int)).toNat).all fun k => decide (0 < gI lv k))
    exact ⟨by omega, by omega, by simp⟩
   rintro ⟨ready, j⟩ hI3
   replace hI3 : 0 ≤ j ∧ j ≤ (gI needs i).length ∧ ready = ((gI lv i == 0) && ((gI needs i).take j.toNat).all fun k => decide (0 < gI lv k)) := hI3
   show AWP _ _ _ _ [(0, pT g), (4, .ms ⟨b1, 0, none⟩ (((needs.length : Int)).toNat) (((needs.length : Int)).toNat)), (5, sT (out.map (lstAV intAV))), (6, iT left), (7, sT (wave.map intAV)), (8, iT i), (10, .bool ready), (31, sF (needs.map (lstAV intAV))), (32, iT (needs.length : Int)), (33, iT i), (43, sF ((gI needs i).map intAV)), (44, iT ((gI needs i).length : Int)), (45, iT j)] (mW m [(b1, .cells (lv.map intAV)), (g, .cells [sT (needs.map (lstAV intAV))])])
   refine rS [] [0, 4, 5, 6, 7, 8, 10, 31, 32, 33, 43, 44, 45, 46] (by decide) ?_
   intro K1 hK1
   refine ⟨tv, ?_⟩
   show K1 [(0, pT g), (4, .ms ⟨b1, 0, none⟩ (((needs.length : Int)).toNat) (((needs.length : Int)).toNat)), (5, sT (out.map (lstAV intAV))), (6, iT left), (7, sT (wave.map intAV)), (8, iT i), (10, .bool ready), (31, sF (needs.map (lstAV intAV))), (32, iT (needs.length : Int)), (33, iT i), (43, sF ((gI needs i).map intAV)), (44, iT ((gI needs i).length : Int)), (45, iT j), (46, .bool (decide (j < ((gI needs i).length : Int))))] _
   refine hK1 _ _ ?_; clear hK1 K1
   refine sK ?_; intro K8 hK8
   refine cD rfl rfl (fun h3 => ?_) (fun h3 => ?_)
   ·
    replace h3 : j < ((gI needs i).length : Int) := (of_decide_eq_true h3)
    have hg := okN_gI hok hI2.1 h2 hI3.1 h3
    refine awp_skip ?_
    refine hK8 _ _ ?_; clear hK8
    refine sK ?_; intro K9 hK9
    refine awp_block ?_
    refine rS [] [0, 4, 5, 6, 7, 8, 10, 12, 31, 32, 33, 43, 44, 45] (by decide) ?_
    intro K1 hK1
    refine ar_index rfl intAV (gI needs i) j rfl rfl rfl rfl rfl (by decide) (fun _ => rfl) (by omega) (by omega) ?_
    refine ⟨(aO rfl rfl (nB rfl)), tv, ?_⟩
    show K1 [(0, pT g), (4, .ms ⟨b1, 0, none⟩ (((needs.length : Int)).toNat) (((needs.length : Int)).toNat)), (5, sT (out.map (lstAV intAV))), (6, iT left), (7, sT (wave.map intAV)), (8, iT i), (10, .bool ready), (12, iT (gI (gI needs i) j)), (31, sF (needs.map (lstAV intAV))), (32, iT (needs.length : Int)), (33, iT i), (43, sF ((gI needs i).map intAV)), (44, iT ((gI needs i).length : Int)), (45, iT j)] (mW m [(b1, .cells (lv.map intAV)), (g, .cells [sT (needs.map (lstAV intAV))])])
    refine hK1 _ _ ?_; clear hK1 K1
    refine awp_reg2 [] [0, 4, 5, 6, 7, 8, 10, 31, 32, 33, 43, 44, 45] (by decide) ?_
    intro K1 hK1
    suffices key : K1 [(0, pT g), (4, .ms ⟨b1, 0, none⟩ (((needs.length : Int)).toNat) (((needs.length : Int)).toNat)), (5, sT (out.map (lstAV intAV))), (6, iT left), (7, sT (wave.map intAV)), (8, iT i), (10, .bool (ready && (decide (0 < gI lv (gI (gI needs i) j))))), (31, sF (needs.map (lstAV intAV))), (32, iT (needs.length : Int)), (33, iT i), (43, sF ((gI needs i).map intAV)), (44, iT ((gI needs i).length : Int)), (45, iT j)] (mW m [(b1, .cells (lv.map intAV)), (g, .cells [sT (needs.map (lstAV intAV))])]) by
     refine ⟨tv, tv, ?_⟩
     show aopsR _ _ _ _ _ [(50, .bool ready), (49, .bool ready), (0, pT g), (4, .ms ⟨b1, 0, none⟩ (((needs.length : Int)).toNat) (((needs.length : Int)).toNat)), (5, sT (out.map (lstAV intAV))), (6, iT left), (7, sT (wave.map intAV)), (8, iT i), (10, .bool ready), (12, iT (gI (gI needs i) j)), (31, sF (needs.map (lstAV intAV))), (32, iT (needs.length : Int)), (33, iT i), (43, sF ((gI needs i).map intAV)), (44, iT ((gI needs i).length : Int)), (45, iT j)] _
     revert key
     cases h4 : ready
     ·
      replace h4 : ready = false := h4
      intro key
      refine ar_off rfl (ar_off rfl (ar_off rfl (ar_off rfl (ar_off rfl ?_))))
      refine ⟨tv, ?_⟩
      exact key
     ·
      replace h4 : ready = true := h4
      intro key
      refine ⟨tv, tv, ⟨rfl, (by omega), (by omega)⟩, ?_⟩
      refine ar_loadm rfl intAV lv (gI (gI needs i) j) rfl rfl (wG 0 hNb1 rfl) rfl rfl rfl (fun _ => rfl) (by omega) (by omega) ?_
      refine ⟨tv, ?_⟩
      refine ⟨tv, ?_⟩
      exact key
    refine hK1 _ _ ?_; clear hK1 K1
    refine hK9 _ _ ?_; clear hK9
    refine awp_reg2 [] [0, 4, 5, 6, 7, 8, 10, 31, 32, 33, 43, 44, 45] (by decide) ?_
    intro K1 hK1
    refine ar_add rfl (a := j) (b := 1) rfl rfl (by omega) (by omega) ?_
    refine ⟨tv, ?_⟩
    show K1 [(0, pT g), (4, .ms ⟨b1, 0, none⟩ (((needs.length : Int)).toNat) (((needs.length : Int)).toNat)), (5, sT (out.map (lstAV intAV))), (6, iT left), (7, sT (wave.map intAV)), (8, iT i), (10, .bool (ready && (decide (0 < gI lv (gI (gI needs i) j))))), (31, sF (needs.map (lstAV intAV))), (32, iT (needs.length : Int)), (33, iT i), (43, sF ((gI needs i).map intAV)), (44, iT ((gI needs i).length : Int)), (45, iT (j + 1))] (mW m [(b1, .cells (lv.map intAV)), (g, .cells [sT (needs.map (lstAV intAV))])])
    refine hK1 _ _ ?_; clear hK1 K1
    refine ⟨((ready && (decide (0 < gI lv (gI (gI needs i) j)))), j + 1), rfl, rfl, ?_, ?_⟩
    ·
     show 0 ≤ ((j + 1 : Int)) ∧ ((j + 1 : Int)) ≤ (gI needs i).length ∧ (((ready && (decide (0 < gI lv (gI (gI needs i) j)))) : Bool)) = ((gI lv i == 0) && ((gI needs i).take ((j + 1 : Int)).toNat).all fun k => decide (0 < gI lv k))
     exact ⟨by omega, by omega, by rw [all_take_snoc hI3.1 h3, ← Bool.and_assoc, ← hI3.2.2]⟩
    ·
     show (gI needs i).length - ((j + 1 : Int)).toNat < (gI needs i).length - j.toNat
     omega
   replace h3 : ((gI needs i).length : Int) ≤ j := (Int.not_lt.1 (of_decide_eq_false h3))
   have hr : readyB needs lv i = ready := by rw [hI3.2.2, take_full h3]; rfl
   refine awp_exit ?_
   refine hK7 _ _ ?_; clear hK7
   refine rS [] [0, 4, 5, 6, 7, 8, 31, 32, 33, 58] (by decide) ?_
   intro K1 hK1
   refine ⟨tv, ?_⟩
   show K1 [(0, pT g), (4, .ms ⟨b1, 0, none⟩ (((needs.length : Int)).toNat) (((needs.length : Int)).toNat)), (5, sT (out.map (lstAV intAV))), (6, iT left), (7, sT (wave.map intAV)), (8, iT i), (31, sF (needs.map (lstAV intAV))), (32, iT (needs.length : Int)), (33, iT i), (58, .bool ready)] (mW m [(b1, .cells (lv.map intAV)), (g, .cells [sT (needs.map (lstAV intAV))])])
   refine hK1 _ _ ?_; clear hK1 K1
   refine cD rfl rfl (fun h5 => ?_) (fun h5 => ?_)
   ·
    replace h5 : ready = true := h5
    refine awp_reg2 [59] [0, 4, 5, 6, 7, 31, 32, 33] (by decide) ?_
    intro K1 hK1
    refine ⟨tv, tv, ⟨rfl, nB rfl, rfl, nB rfl, rfl, by simp only [List.forall_mem_cons]; exact ⟨⟨rfl, rfl⟩, nfA⟩⟩, ?_⟩
    refine ar_append rfl intAV wave ([i] : List Int) rfl rfl rfl rfl rfl rfl (nB rfl) rfl (by (simp only [show Try.prog.bytesOf 3 = 8 from rfl, List.length_append, List.length_cons, List.length_nil]; omega)) (by (first | omega | (simp only [List.length_append, List.length_cons, List.length_nil]; omega))) (fun _ => ⟨rfl, rfl⟩) ?_
    refine ⟨tv, ?_⟩
    show K1 [(0, pT g), (4, .ms ⟨b1, 0, none⟩ (((needs.length : Int)).toNat) (((needs.length : Int)).toNat)), (5, sT (out.map (lstAV intAV))), (6, iT left), (7, sT ((wave ++ ([i] : List Int)).map intAV)), (31, sF (needs.map (lstAV intAV))), (32, iT (needs.length : Int)), (33, iT i)] (mW m [(b1, .cells (lv.map intAV)), (g, .cells [sT (needs.map (lstAV intAV))])])
    refine hK1 _ _ ?_; clear hK1 K1
    refine hK6 _ _ ?_; clear hK6
    refine awp_reg2 [] [0, 4, 5, 6, 7, 31, 32, 33] (by decide) ?_
    intro K1 hK1
    refine ar_add rfl (a := i) (b := 1) rfl rfl (by omega) (by omega) ?_
    refine ⟨tv, ?_⟩
    show K1 [(0, pT g), (4, .ms ⟨b1, 0, none⟩ (((needs.length : Int)).toNat) (((needs.length : Int)).toNat)), (5, sT (out.map (lstAV intAV))), (6, iT left), (7, sT ((wave ++ ([i] : List Int)).map intAV)), (31, sF (needs.map (lstAV intAV))), (32, iT (needs.length : Int)), (33, iT (i + 1))] _
    refine hK1 _ _ ?_; clear hK1 K1
    refine ⟨(wave ++ ([i] : List Int), i + 1), rfl, rfl, ?_, ?_⟩
    ·
     show 0 ≤ ((i + 1 : Int)) ∧ ((i + 1 : Int)) ≤ needs.length ∧ ((wave ++ ([i] : List Int) : (List Int))) = waveTo needs lv ((i + 1 : Int))
     exact ⟨by omega, by omega, by rw [waveTo_succ hI2.1, if_pos (hr.trans h5), ← hI2.2.2]⟩
    ·
     show needs.length - ((i + 1 : Int)).toNat < needs.length - i.toNat
     omega
   replace h5 : ready = false := h5
   refine awp_skip ?_
   refine hK6 _ _ ?_; clear hK6
   refine awp_reg2 [] [0, 4, 5, 6, 7, 31, 32, 33] (by decide) ?_
   intro K1 hK1
   refine ar_add rfl (a := i) (b := 1) rfl rfl (by omega) (by omega) ?_
   refine ⟨tv, ?_⟩
   show K1 [(0, pT g), (4, .ms ⟨b1, 0, none⟩ (((needs.length : Int)).toNat) (((needs.length : Int)).toNat)), (5, sT (out.map (lstAV intAV))), (6, iT left), (7, sT (wave.map intAV)), (31, sF (needs.map (lstAV intAV))), (32, iT (needs.length : Int)), (33, iT (i + 1))] (mW m [(b1, .cells (lv.map intAV)), (g, .cells [sT (needs.map (lstAV intAV))])])
   refine hK1 _ _ ?_; clear hK1 K1
   refine ⟨(wave, i + 1), rfl, rfl, ?_, ?_⟩
   ·
    show 0 ≤ ((i + 1 : Int)) ∧ ((i + 1 : Int)) ≤ needs.length ∧ wave = waveTo needs lv ((i + 1 : Int))
    exact ⟨by omega, by omega, by rw [waveTo_succ hI2.1, if_neg (by rw [hr, h5]; simp), ← hI2.2.2]⟩
   ·
    show needs.length - ((i + 1 : Int)).toNat < needs.length - i.toNat
    omega
  replace h2 : (needs.length : Int) ≤ i := (Int.not_lt.1 (of_decide_eq_false h2))
  have hwv : wave = waveTo needs lv needs.length := by
   have e : i = needs.length := by omega
   rw [hI2.2.2, e]
  refine awp_exit ?_
  refine hK4 _ _ ?_; clear hK4
  refine sK ?_; intro K10 hK10
  refine rS [] [0, 4, 5, 6, 7, 66] (by decide) ?_
  intro K1 hK1
  refine ⟨tv, ?_⟩
  refine ar_len rfl intAV wave rfl rfl rfl ?_
  refine ⟨tv, ?_⟩
  show K1 [(0, pT g), (4, .ms ⟨b1, 0, none⟩ (((needs.length : Int)).toNat) (((needs.length : Int)).toNat)), (5, sT (out.map (lstAV intAV))), (6, iT left), (7, sT (wave.map intAV)), (66, .bool ((wave.length : Int) == 0))] (mW m [(b1, .cells (lv.map intAV)), (g, .cells [sT (needs.map (lstAV intAV))])])
  refine hK1 _ _ ?_; clear hK1 K1
  refine cD rfl rfl (fun h6 => ?_) (fun h6 => ?_)
  ·
   replace h6 : (wave.length : Int) = 0 := (eq_of_beq h6)
   refine rS [] [2, 3] (by decide) ?_
   intro K1 hK1
   refine ⟨tv, tv, tv, ?_⟩
   show K1 [(2, .slice true []), (3, .iface 61 (iT 8))] (mW m [(b1, .cells (lv.map intAV)), (g, .cells [sT (needs.map (lstAV intAV))])])
   refine hK1 _ _ ?_; clear hK1 K1
   refine awp_toErr 61 [3] ?_
   show AWP _ _ _ _ [(2, .slice true []), (3, .err 61 8)] _
   refine awp_strip 2 rfl ?_
   refine awp_keep [2, 3] (by decide) ?_
   show AWP _ _ _ _ [(2, .slice false []), (3, .err 61 8)] _
   refine awp_ret ?_
   refine ⟨tv, tv, (mW m [(g, .cells [sT (needs.map (lstAV intAV))])]), (wth_sub2 (m := m) [(b1, .cells (lv.map intAV))] [(g, .cells [sT (needs.map (lstAV intAV))])] hNb1 (by simp only [List.map_cons, List.map_nil, List.forall_mem_cons]; exact ⟨hFb1, nfA⟩)), ?_⟩
   show K (.tuple [.slice false [], .err 61 8]) (AMem.wth m [(g, .cells [sT (needs.map (lstAV intAV))])])
  
   refine K_eq hK ?_
   rw [hw, wavesF, if_neg (by omega), if_pos (by rw [← hwv]; exact List.length_eq_zero_iff.1 (by omega))]; rfl
  replace h6 : (wave.length : Int) ≠ 0 := (ne_of_beq_false h6)
  have hne : ¬ waveTo needs lv needs.length = [] := by rw [← hwv]; intro e; rw [e] at h6; exact h6 rfl
  refine awp_skip ?_
  refine hK10 _ _ ?_; clear hK10
  refine rS [68] [0, 4, 5, 6, 7] (by decide) ?_
  intro K1 hK1
  refine ⟨tv, tv, ⟨rfl, nB rfl, rfl, nB rfl, rfl, by simp only [List.forall_mem_cons]; exact ⟨⟨rfl, rfl⟩, nfA⟩⟩, ?_⟩
  refine ar_append rfl (lstAV intAV) out ([wave] : List (List Int)) rfl rfl rfl rfl rfl rfl (nB rfl) rfl (by (simp only [show Try.prog.bytesOf 36 = 24 from rfl, List.length_append, List.length_cons, List.length_nil]; omega)) (by (first | omega | (simp only [List.length_append, List.length_cons, List.length_nil]; omega))) (fun _ => ⟨rfl, rfl⟩) ?_
  refine ⟨tv, ?_⟩
  show K1 [(0, pT g), (4, .ms ⟨b1, 0, none⟩ (((needs.length : Int)).toNat) (((needs.length : Int)).toNat)), (5, sT ((out ++ ([wave] : List (List Int))).map (lstAV intAV))), (6, iT left), (7, sT (wave.map intAV))] (mW m [(b1, .cells (lv.map intAV)), (g, .cells [sT (needs.map (lstAV intAV))])])
  refine hK1 _ _ ?_; clear hK1 K1
  refine sK ?_; intro K11 hK11
  refine rS [] [0, 4, 5, 6, 7, 72, 73, 74] (by decide) ?_
  intro K1 hK1
  refine ⟨tv, ?_⟩
  refine ar_len rfl intAV wave rfl rfl rfl ?_
  refine ⟨tv, ?_⟩
  show K1 [(0, pT g), (4, .ms ⟨b1, 0, none⟩ (((needs.length : Int)).toNat) (((needs.length : Int)).toNat)), (5, sT ((out ++ ([wave] : List (List Int))).map (lstAV intAV))), (6, iT left), (7, sT (wave.map intAV)), (72, sF (wave.map intAV)), (73, iT (wave.length : Int)), (74, iT 0)] _
  refine hK1 _ _ ?_; clear hK1 K1
  refine awp_block ?_
  refine awp_keep [0, 4, 5, 6, 7, 72, 73, 74] (by decide) ?_
  refine awp_loop_st (σ := Int × (List Int)) (fun ⟨q, lv2⟩ => [(0, pT g), (4, .ms ⟨b1, 0, none⟩ (((needs.length : Int)).toNat) (((needs.length : Int)).toNat)), (5, sT ((out ++ ([wave] : List (List Int))).map (lstAV intAV))), (6, iT left), (7, sT (wave.map intAV)), (72, sF (wave.map intAV)), (73, iT (wave.length : Int)), (74, iT q)]) (fun ⟨q, lv2⟩ => (mW m [(b1, .cells (lv2.map intAV)), (g, .cells [sT (needs.map (lstAV intAV))])])) (fun ⟨q, lv2⟩ => 0 ≤ q ∧ q ≤ wave.length ∧ lv2 = setAll lv (wave.take q.toNat) (out.length + 1 : Nat)) (fun ⟨q, lv2⟩ => wave.length - q.toNat) (0, lv) rfl rfl ?_ ?_
  ·
   show 0 ≤ ((0 : Int)) ∧ ((0 : Int)) ≤ wave.length ∧ ((lv : (List Int))) = setAll lv (wave.take ((0 : Int)).toNat) (out.length + 1 : Nat)
   exact ⟨by omega, by omega, by simp [setAll]⟩
  rintro ⟨q, lv2⟩ hI3
  replace hI3 : 0 ≤ q ∧ q ≤ wave.length ∧ lv2 = setAll lv (wave.take q.toNat) (out.length + 1 : Nat) := hI3
  have hl2 : lv2.length = needs.length := by rw [hI3.2.2, setAll_len, hI.2.1]
  show AWP _ _ _ _ [(0, pT g), (4, .ms ⟨b1, 0, none⟩ (((needs.length : Int)).toNat) (((needs.length : Int)).toNat)), (5, sT ((out ++ ([wave] : List (List Int))).map (lstAV intAV))), (6, iT left), (7, sT (wave.map intAV)), (72, sF (wave.map intAV)), (73, iT (wave.length : Int)), (74, iT q)] (mW m [(b1, .cells (lv2.map intAV)), (g, .cells [sT (needs.map (lstAV intAV))])])
  refine rS [] [0, 4, 5, 6, 7, 72, 73, 74, 75] (by decide) ?_
  intro K1 hK1
  refine ⟨tv, ?_⟩
  show K1 [(0, pT g), (4, .ms ⟨b1, 0, none⟩ (((needs.length : Int)).toNat) (((needs.length : Int)).toNat)), (5, sT ((out ++ ([wave] : List (List Int))).map (lstAV intAV))), (6, iT left), (7, sT (wave.map intAV)), (72, sF (wave.map intAV)), (73, iT (wave.length : Int)), (74, iT q), (75, .bool (decide (q < (wave.length : Int))))] _
  refine hK1 _ _ ?_; clear hK1 K1
  refine sK ?_; intro K12 hK12
  refine cD rfl rfl (fun h7 => ?_) (fun h7 => ?_)
  ·
   replace h7 : q < (wave.length : Int) := (of_decide_eq_true h7)
   have hm : 0 ≤ gI wave q ∧ gI wave q < needs.length := waveTo_mem (needs := needs) (lv := lv) (by rw [← hwv]; exact gI_mem hI3.1 h7)
   refine awp_skip ?_
   refine hK12 _ _ ?_; clear hK12
   refine sK ?_; intro K13 hK13
   refine awp_block ?_
   refine rS [] [0, 4, 5, 6, 7, 14, 72, 73, 74] (by decide) ?_
   intro K1 hK1
   refine ar_index rfl intAV wave q rfl rfl rfl rfl rfl (by decide) (fun _ => rfl) (by omega) (by omega) ?_
   refine ⟨(aO rfl rfl (nB rfl)), tv, ?_⟩
   show K1 [(0, pT g), (4, .ms ⟨b1, 0, none⟩ (((needs.length : Int)).toNat) (((needs.length : Int)).toNat)), (5, sT ((out ++ ([wave] : List (List Int))).map (lstAV intAV))), (6, iT left), (7, sT (wave.map intAV)), (14, iT (gI wave q)), (72, sF (wave.map intAV)), (73, iT (wave.length : Int)), (74, iT q)] (mW m [(b1, .cells (lv2.map intAV)), (g, .cells [sT (needs.map (lstAV intAV))])])
   refine hK1 _ _ ?_; clear hK1 K1
   refine awp_reg2 [] [0, 4, 5, 6, 7, 72, 73, 74] (by decide) ?_
   intro K1 hK1
   refine ⟨tv, tv, tv, ?_⟩
   refine ar_len rfl (lstAV intAV) (out ++ ([wave] : List (List Int))) rfl rfl rfl ?_
   refine ⟨⟨rfl, (by omega), (by omega)⟩, ?_⟩
   refine ar_storem rfl 0 intAV lv2 ((out ++ ([wave] : List (List Int))).length : Int) (gI wave q) rfl rfl rfl hNb1 rfl rfl rfl rfl rfl rfl (by omega) (by omega) ?_
   show K1 [(0, pT g), (4, .ms ⟨b1, 0, none⟩ (((needs.length : Int)).toNat) (((needs.length : Int)).toNat)), (5, sT ((out ++ ([wave] : List (List Int))).map (lstAV intAV))), (6, iT left), (7, sT (wave.map intAV)), (72, sF (wave.map intAV)), (73, iT (wave.length : Int)), (74, iT q)] (mW m [(b1, .cells ((lv2.set (gI wave q).toNat ((out ++ ([wave] : List (List Int))).length : Int)).map intAV)), (g, .cells [sT (needs.map (lstAV intAV))])])
   refine hK1 _ _ ?_; clear hK1 K1
   refine hK13 _ _ ?_; clear hK13
   refine awp_reg2 [] [0, 4, 5, 6, 7, 72, 73, 74] (by decide) ?_
   intro K1 hK1
   refine ar_add rfl (a := q) (b := 1) rfl rfl (by omega) (by omega) ?_
   refine ⟨tv, ?_⟩
   show K1 [(0, pT g), (4, .ms ⟨b1, 0, none⟩ (((needs.length : Int)).toNat) (((needs.length : Int)).toNat)), (5, sT ((out ++ ([wave] : List (List Int))).map (lstAV intAV))), (6, iT left), (7, sT (wave.map intAV)), (72, sF (wave.map intAV)), (73, iT (wave.length : Int)), (74, iT (q + 1))] _
   refine hK1 _ _ ?_; clear hK1 K1
   refine ⟨(q + 1, lv2.set (gI wave q).toNat ((out ++ ([wave] : List (List Int))).length : Int)), rfl, rfl, ?_, ?_⟩
   ·
    show 0 ≤ ((q + 1 : Int)) ∧ ((q + 1 : Int)) ≤ wave.length ∧ ((lv2.set (gI wave q).toNat ((out ++ ([wave] : List (List Int))).length : Int) : (List Int))) = setAll lv (wave.take ((q + 1 : Int)).toNat) (out.length + 1 : Nat)
    exact ⟨by omega, by omega, by rw [hI3.2.2, take_succ_gI hI3.1 h7, setAll_snoc]; simp⟩
   ·
    show wave.length - ((q + 1 : Int)).toNat < wave.length - q.toNat
    omega
  replace h7 : (wave.length : Int) ≤ q := (Int.not_lt.1 (of_decide_eq_false h7))
  have e2 : lv2 = setAll lv wave (out.length + 1 : Nat) := by rw [hI3.2.2, take_full h7]
  refine awp_exit ?_
  refine hK11 _ _ ?_; clear hK11
  refine awp_reg2 [] [0, 4, 5, 6] (by decide) ?_
  intro K1 hK1
  refine ⟨tv, tv, ?_⟩
  refine ar_len rfl intAV wave rfl rfl rfl ?_
  refine ar_sub rfl (a := left) (b := (wave.length : Int)) rfl rfl (by omega) (by omega) ?_
  refine ⟨tv, ?_⟩
  show K1 [(0, pT g), (4, .ms ⟨b1, 0, none⟩ (((needs.length : Int)).toNat) (((needs.length : Int)).toNat)), (5, sT ((out ++ ([wave] : List (List Int))).map (lstAV intAV))), (6, iT (left - (wave.length : Int)))] (mW m [(b1, .cells (lv2.map intAV)), (g, .cells [sT (needs.map (lstAV intAV))])])
  refine hK1 _ _ ?_; clear hK1 K1
  refine ⟨(out ++ ([wave] : List (List Int)), left - (wave.length : Int), lv2), rfl, rfl, ?_, ?_⟩
  ·
   show ((left - (wave.length : Int) : Int)) ≤ needs.length ∧ ((lv2 : (List Int))).length = needs.length ∧ ((out ++ ([wave] : List (List Int)) : (List (List Int)))).length + ((left - (wave.length : Int) : Int)) ≤ needs.length ∧ ∃ f : Nat, ((left - (wave.length : Int) : Int)) < f ∧ wavesR needs = wavesF f needs ((left - (wave.length : Int) : Int)) ((lv2 : (List Int))) ((out ++ ([wave] : List (List Int)) : (List (List Int))))
   exact ⟨by omega, hl2, by simp; omega, f, by omega, by rw [hw, wavesF, if_neg (by omega), if_neg hne, ← hwv, e2]⟩
  ·
   show ((left - (wave.length : Int) : Int)).toNat < left.toNat
   omega
 replace h1 : left ≤ 0 := (Int.not_lt.1 (of_decide_eq_false h1))
 refine awp_exit ?_
 refine hK2 _ _ ?_; clear hK2
 refine rS [] [2, 3] (by decide) ?_
 intro K1 hK1
 refine ⟨tv, tv, tv, ?_⟩
 show K1 [(2, sF (out.map (lstAV intAV))), (3, .nilIface)] (mW m [(b1, .cells (lv.map intAV)), (g, .cells [sT (needs.map (lstAV intAV))])])
 refine hK1 _ _ ?_; clear hK1 K1
 refine awp_toErr 61 [3] ?_
 show AWP _ _ _ _ [(2, sF (out.map (lstAV intAV))), (3, .err 61 0)] _
 refine awp_ret ?_
 refine ⟨tv, tv, (mW m [(g, .cells [sT (needs.map (lstAV intAV))])]), (wth_sub2 (m := m) [(b1, .cells (lv.map intAV))] [(g, .cells [sT (needs.map (lstAV intAV))])] hNb1 (by simp only [List.map_cons, List.map_nil, List.forall_mem_cons]; exact ⟨hFb1, nfA⟩)), ?_⟩
 show K (.tuple [sF (out.map (lstAV intAV)), .err 61 0]) (AMem.wth m [(g, .cells [sT (needs.map (lstAV intAV))])])
 refine K_eq hK ?_
 cases f with
 | zero => rw [hw, wavesF]
 | succ f => rw [hw, wavesF, if_pos (by omega)]
end Go.Proofs
end
section
namespace Go.Proofs
open Go Go.Aw
set_option maxRecDepth 100000
theorem wavesF_len (f : Nat) : ∀ needs left lv out, (wavesF f needs left lv out).1.length ≤ out.length + f ∧ ((∀ w ∈ out, w.length ≤ needs.length) → ∀ w ∈ (wavesF f needs left lv out).1, w.length ≤ needs.length) := by
  induction f with
  | zero => intro needs left lv out; exact ⟨by simp [wavesF], fun h => by simpa [wavesF] using h⟩
  | succ f ih =>
    intro needs left lv out
    rw [wavesF]
    split
    · exact ⟨by simp, fun h => h⟩
    · split
      · exact ⟨by simp, fun _ => by simp⟩
      · have := ih needs (left - (waveTo needs lv needs.length).length) (setAll lv (waveTo needs lv needs.length) (out.length + 1 : Nat)) (out ++ [waveTo needs lv needs.length])
        refine ⟨Nat.le_trans this.1 (by simp; omega), fun h => this.2 fun w hw => ?_⟩
        rcases List.mem_append.1 hw with hw | hw
        · exact h w hw
        · simp at hw; subst hw; have := waveTo_len needs lv needs.length; omega
theorem wavesR_len (needs : List (List Int)) : (wavesR needs).1.length ≤ needs.length + 1 ∧ ∀ w ∈ (wavesR needs).1, w.length ≤ needs.length := by
  have := wavesF_len (needs.length + 1) needs needs.length (List.replicate needs.length 0) []
  exact ⟨by simpa [wavesR] using this.1, this.2 (by simp)⟩
theorem flat_len {ls : List (List Int)} {B : Nat} (h : ∀ w ∈ ls, w.length ≤ B) : ls.flatten.length ≤ ls.length * B := by
  induction ls with
  | nil => simp
  | cons x ls ih =>
    have h1 := h x (by simp)
    have h2 := ih (fun w hw => h w (by simp [hw]))
    simp [Nat.succ_mul] at h2 ⊢; omega
theorem flat_take_succ {ls : List (List Int)} {i : Int} (h0 : 0 ≤ i) (hi : i < ls.length) : (ls.take (i + 1).toNat).flatten = (ls.take i.toNat).flatten ++ gI ls i := by
  rw [take_succ_gI h0 hi]; simp
theorem u_Order (g : Nat) (needs : List (List Int)) (hok : okN needs = true) (hn : needs.length ≤ 64) (hl : ∀ l ∈ needs, l.length ≤ 1048576) (m : AMem)  (K : AV → AMem → Prop) (hK : K (.tuple [sF ((wavesR needs).1.flatten.map intAV), .err 61 (wavesR needs).2]) (mW m [(g, .cells [sT (needs.map (lstAV intAV))])])) : ACalls Try.prog 37 [pT g] (mW m [(g, .cells [sT (needs.map (lstAV intAV))])]) K := by
 have hwl := wavesR_len needs
 refine acalls_enter Try.func37 rfl (by decide) (nB rfl) ?_
 show AWP _ _ _ _ [(0, pT g)] (mW m [(g, .cells [sT (needs.map (lstAV intAV))])])
 refine rS [] [0] (by decide) ?_
 intro K1 hK1
 refine ⟨tv, tv, ?_⟩
 show K1 [(0, pT g)] _
 refine hK1 _ _ ?_; clear hK1 K1
 refine rS [] [4, 5] (by decide) ?_
 intro K1 hK1
 refine ⟨tv, ?_⟩
 refine u_Waves g needs hok hn hl _ _ ?_
 show aopsR _ _ _ _ _ _ (mW m [(g, .cells [sT (needs.map (lstAV intAV))])])
 refine ⟨tv, (nB rfl), (nB rfl), tv, tv, ?_⟩
 show K1 [(4, sF (((wavesR needs).1).map (lstAV intAV))), (5, .err 61 ((wavesR needs).2))] _
 refine hK1 _ _ ?_; clear hK1 K1
 refine rS [] [4, 5, 6] (by decide) ?_
 intro K1 hK1
 refine ⟨tv, ?_⟩
 show K1 [(4, sF (((wavesR needs).1).map (lstAV intAV))), (5, .err 61 ((wavesR needs).2)), (6, .slice true [])] _
 refine hK1 _ _ ?_; clear hK1 K1
 refine sK ?_; intro K2 hK2
 refine rS [] [5, 6, 14, 15, 16] (by decide) ?_
 intro K1 hK1
 refine ⟨tv, ?_⟩
 refine ar_len rfl (lstAV intAV) ((wavesR needs).1) rfl rfl rfl ?_
 refine ⟨tv, ?_⟩
 show K1 [(5, .err 61 ((wavesR needs).2)), (6, .slice true []), (14, sF (((wavesR needs).1).map (lstAV intAV))), (15, iT (((wavesR needs).1).length : Int)), (16, iT 0)] _
 refine hK1 _ _ ?_; clear hK1 K1
 refine awp_block ?_
 refine awp_keep [5, 6, 14, 15, 16] (by decide) ?_
 refine awp_loop_st (σ := (List Int) × Int) (fun ⟨out, i⟩ => [(5, .err 61 ((wavesR needs).2)), (6, sT (out.map intAV)), (14, sF (((wavesR needs).1).map (lstAV intAV))), (15, iT (((wavesR needs).1).length : Int)), (16, iT i)]) (fun _ => (mW m [(g, .cells [sT (needs.map (lstAV intAV))])])) (fun ⟨out, i⟩ => 0 ≤ i ∧ i ≤ (wavesR needs).1.length ∧ out = ((wavesR needs).1.take i.toNat).flatten) (fun ⟨out, i⟩ => (wavesR needs).1.length - i.toNat) ([], 0) rfl rfl ?_ ?_
 ·
  show 0 ≤ ((0 : Int)) ∧ ((0 : Int)) ≤ (wavesR needs).1.length ∧ (([] : (List Int))) = ((wavesR needs).1.take ((0 : Int)).toNat).flatten
  exact ⟨by omega, by omega, by simp⟩
 rintro ⟨out, i⟩ hI
 replace hI : 0 ≤ i ∧ i ≤ (wavesR needs).1.length ∧ out = ((wavesR needs).1.take i.toNat).flatten := hI
 show AWP _ _ _ _ [(5, .err 61 ((wavesR needs).2)), (6, sT (out.map intAV)), (14, sF (((wavesR needs).1).map (lstAV intAV))), (15, iT (((wavesR needs).1).length : Int)), (16, iT i)] (mW m [(g, .cells [sT (needs.map (lstAV intAV))])])
 refine rS [] [5, 6, 14, 15, 16, 17] (by decide) ?_
 intro K1 hK1
 refine ⟨tv, ?_⟩
 show K1 [(5, .err 61 ((wavesR needs).2)), (6, sT (out.map intAV)), (14, sF (((wavesR needs).1).map (lstAV intAV))), (15, iT (((wavesR needs).1).length : Int)), (16, iT i), (17, .bool (decide (i < (((wavesR needs).1).length : Int))))] _
 refine hK1 _ _ ?_; clear hK1 K1
 refine sK ?_; intro K3 hK3
 refine cD rfl rfl (fun h1 => ?_) (fun h1 => ?_)
 ·
  replace h1 : i < (((wavesR needs).1).length : Int) := (of_decide_eq_true h1)
  have hb : out.length ≤ 65 * 64 := by
   rw [hI.2.2]
   refine Nat.le_trans (flat_len (B := 64) (fun w hw => Nat.le_trans (hwl.2 w (List.mem_of_mem_take hw)) hn)) (Nat.mul_le_mul_right _ ?_)
   simp; omega
  have hb2 := hwl.2 _ (gI_mem (l := (wavesR needs).1) (i := i) hI.1 h1)
  refine awp_skip ?_
  refine hK3 _ _ ?_; clear hK3
  refine sK ?_; intro K4 hK4
  refine awp_block ?_
  refine rS [] [5, 6, 8, 14, 15, 16] (by decide) ?_
  intro K1 hK1
  refine ar_index rfl (lstAV intAV) ((wavesR needs).1) i rfl rfl rfl rfl rfl (by decide) (fun _ => rfl) (by omega) (by omega) ?_
  refine ⟨(aO rfl rfl (nB rfl)), tv, ?_⟩
  show K1 [(5, .err 61 ((wavesR needs).2)), (6, sT (out.map intAV)), (8, sF ((gI ((wavesR needs).1) i).map intAV)), (14, sF (((wavesR needs).1).map (lstAV intAV))), (15, iT (((wavesR needs).1).length : Int)), (16, iT i)] (mW m [(g, .cells [sT (needs.map (lstAV intAV))])])
  refine hK1 _ _ ?_; clear hK1 K1
  refine awp_reg2 [20] [5, 6, 14, 15, 16] (by decide) ?_
  intro K1 hK1
  refine ⟨tv, tv, ?_⟩
  refine ar_append rfl intAV out (gI ((wavesR needs).1) i) rfl rfl rfl rfl rfl rfl (nB rfl) rfl (by (simp only [show Try.prog.bytesOf 3 = 8 from rfl, List.length_append, List.length_cons, List.length_nil]; omega)) (by (first | omega | (simp only [List.length_append, List.length_cons, List.length_nil]; omega))) (fun _ => ⟨rfl, rfl⟩) ?_
  refine ⟨tv, ?_⟩
  show K1 [(5, .err 61 ((wavesR needs).2)), (6, sT ((out ++ (gI ((wavesR needs).1) i)).map intAV)), (14, sF (((wavesR needs).1).map (lstAV intAV))), (15, iT (((wavesR needs).1).length : Int)), (16, iT i)] _
  refine hK1 _ _ ?_; clear hK1 K1
  refine hK4 _ _ ?_; clear hK4
  refine awp_reg2 [] [5, 6, 14, 15, 16] (by decide) ?_
  intro K1 hK1
  refine ar_add rfl (a := i) (b := 1) rfl rfl (by omega) (by omega) ?_
  refine ⟨tv, ?_⟩
  show K1 [(5, .err 61 ((wavesR needs).2)), (6, sT ((out ++ (gI ((wavesR needs).1) i)).map intAV)), (14, sF (((wavesR needs).1).map (lstAV intAV))), (15, iT (((wavesR needs).1).length : Int)), (16, iT (i + 1))] _
  refine hK1 _ _ ?_; clear hK1 K1
  refine ⟨(out ++ (gI ((wavesR needs).1) i), i + 1), rfl, rfl, ?_, ?_⟩
  ·
   show 0 ≤ ((i + 1 : Int)) ∧ ((i + 1 : Int)) ≤ (wavesR needs).1.length ∧ ((out ++ (gI ((wavesR needs).1) i) : (List Int))) = ((wavesR needs).1.take ((i + 1 : Int)).toNat).flatten
   exact ⟨by omega, by omega, by rw [hI.2.2, flat_take_succ hI.1 h1]⟩
  ·
   show (wavesR needs).1.length - ((i + 1 : Int)).toNat < (wavesR needs).1.length - i.toNat
   omega
 replace h1 : (((wavesR needs).1).length : Int) ≤ i := (Int.not_lt.1 (of_decide_eq_false h1))
 refine awp_exit ?_
 refine hK2 _ _ ?_; clear hK2
 refine rS [] [2, 3] (by decide) ?_
 intro K1 hK1
 refine ⟨tv, tv, tv, tv, ?_⟩
 show K1 [(2, sF (out.map intAV)), (3, .err 61 ((wavesR needs).2))] (mW m [(g, .cells [sT (needs.map (lstAV intAV))])])
 refine hK1 _ _ ?_; clear hK1 K1
 refine awp_ret ?_
 refine ⟨tv, tv, (mW m [(g, .cells [sT (needs.map (lstAV intAV))])]), fun _ _ h => h, ?_⟩
 show K (.tuple [sF (out.map intAV), .err 61 ((wavesR needs).2)]) _
 refine K_eq hK ?_
 rw [hI.2.2, take_full h1]
theorem u_SameNumbers (xs ys : List Int) (hx : xs.length ≤ 140737488355328) (m : AMem)  (K : AV → AMem → Prop) (hK : K (.bool (decide (xs = ys))) m) : ACalls Try.prog 6 [sF (xs.map intAV), sF (ys.map intAV)] m K := by
 refine acalls_enter Try.func6 rfl (by decide) (nB rfl) ?_
 show AWP _ _ _ _ [(0, sF (xs.map intAV)), (1, sF (ys.map intAV))] m
 refine rS [] [0, 1] (by decide) ?_
 intro K1 hK1
 refine ⟨tv, ?_⟩
 show K1 [(0, sF (xs.map intAV)), (1, sF (ys.map intAV))] m
 refine hK1 _ _ ?_; clear hK1 K1
 refine sK ?_; intro K2 hK2
 refine rS [] [0, 1, 10] (by decide) ?_
 intro K1 hK1
 refine ⟨tv, ?_⟩
 refine ar_len rfl intAV xs rfl rfl rfl ?_
 refine ⟨tv, ?_⟩
 refine ar_len rfl intAV ys rfl rfl rfl ?_
 refine ⟨tv, ?_⟩
 show K1 [(0, sF (xs.map intAV)), (1, sF (ys.map intAV)), (10, .bool (!((xs.length : Int) == (ys.length : Int))))] m
 refine hK1 _ _ ?_; clear hK1 K1
 refine cD rfl rfl (fun h1 => ?_) (fun h1 => ?_)
 ·
  replace h1 : (xs.length : Int) ≠ (ys.length : Int) := (ne_of_beq_false (bnT h1))
  refine rS [] [4] (by decide) ?_
  intro K1 hK1
  refine ⟨tv, ?_⟩
  show K1 [(4, .bool false)] m
  refine hK1 _ _ ?_; clear hK1 K1
  refine awp_ret ?_
  refine ⟨tv, m, fun _ _ h => h, ?_⟩
  show K (.bool false) m
 
  refine K_eq hK (cgA AV.bool ?_)
  simp only [decide_eq_false_iff_not]; rintro rfl; omega
 replace h1 : (xs.length : Int) = (ys.length : Int) := (eq_of_beq (bnF h1))
 refine awp_skip ?_
 refine hK2 _ _ ?_; clear hK2
 refine sK ?_; intro K3 hK3
 refine rS [] [0, 1, 5] (by decide) ?_
 intro K1 hK1
 refine ⟨tv, ?_⟩
 show K1 [(0, sF (xs.map intAV)), (1, sF (ys.map intAV)), (5, iT 0)] m
 refine hK1 _ _ ?_; clear hK1 K1
 refine awp_block ?_
 refine awp_keep [0, 1, 5] (by decide) ?_
 refine awp_loop_st (σ := Int) (fun i => [(0, sF (xs.map intAV)), (1, sF (ys.map intAV)), (5, iT i)]) (fun _ => m) (fun i => 0 ≤ i ∧ i ≤ xs.length ∧ xs.take i.toNat = ys.take i.toNat) (fun i => xs.length - i.toNat) (0) rfl rfl ?_ ?_
 ·
  show 0 ≤ ((0 : Int)) ∧ ((0 : Int)) ≤ xs.length ∧ xs.take ((0 : Int)).toNat = ys.take ((0 : Int)).toNat
  exact ⟨by omega, by omega, rfl⟩
 rintro i hI
 replace hI : 0 ≤ i ∧ i ≤ xs.length ∧ xs.take i.toNat = ys.take i.toNat := hI
 show AWP _ _ _ _ [(0, sF (xs.map intAV)), (1, sF (ys.map intAV)), (5, iT i)] m
 refine sK ?_; intro K4 hK4
 refine rS [] [0, 1, 5, 14] (by decide) ?_
 intro K1 hK1
 refine ⟨tv, tv, ?_⟩
 refine ar_len rfl intAV xs rfl rfl rfl ?_
 refine ⟨tv, ?_⟩
 show K1 [(0, sF (xs.map intAV)), (1, sF (ys.map intAV)), (5, iT i), (14, .bool (decide (i < (xs.length : Int))))] m
 refine hK1 _ _ ?_; clear hK1 K1
 refine cD rfl rfl (fun h2 => ?_) (fun h2 => ?_)
 ·
  replace h2 : i < (xs.length : Int) := (of_decide_eq_true h2)
  refine awp_skip ?_
  refine hK4 _ _ ?_; clear hK4
  refine sK ?_; intro K5 hK5
  refine awp_block ?_
  refine awp_draw_seq Try.mixed [] [0, 1, 5, 25] (by decide) (by decide) ?_
  intro K1 hK1
  refine ⟨tv, tv, ?_⟩
  refine pq_index rfl intAV xs i rfl rfl rfl rfl rfl (by decide) (fun _ => rfl) (by omega) (by omega) ?_
  refine ⟨(aO rfl rfl (nB rfl)), tv, tv, ?_⟩
  refine pq_index rfl intAV ys i rfl rfl rfl rfl rfl (by decide) (fun _ => rfl) (by omega) (by omega) ?_
  refine ⟨(aO rfl rfl (nB rfl)), tv, ?_⟩
  show K1 [(0, sF (xs.map intAV)), (1, sF (ys.map intAV)), (5, iT i), (25, .bool (!((gI xs i) == (gI ys i))))] m
  refine hK1 _ _ ?_; clear hK1 K1
  refine cD rfl rfl (fun h3 => ?_) (fun h3 => ?_)
  ·
   replace h3 : gI xs i ≠ gI ys i := (ne_of_beq_false (bnT h3))
   refine rS [] [4] (by decide) ?_
   intro K1 hK1
   refine ⟨tv, ?_⟩
   show K1 [(4, .bool false)] m
   refine hK1 _ _ ?_; clear hK1 K1
   refine awp_ret ?_
   refine ⟨tv, m, fun _ _ h => h, ?_⟩
   show K (.bool false) m
  
   refine K_eq hK (cgA AV.bool ?_)
   simp only [decide_eq_false_iff_not]; rintro rfl; simp at h3
  replace h3 : gI xs i = gI ys i := (eq_of_beq (bnF h3))
  refine awp_skip ?_
  refine hK5 _ _ ?_; clear hK5
  refine awp_reg2 [] [0, 1, 5] (by decide) ?_
  intro K1 hK1
  refine ⟨tv, ?_⟩
  refine ar_add rfl (a := i) (b := 1) rfl rfl (by omega) (by omega) ?_
  refine ⟨tv, ?_⟩
  show K1 [(0, sF (xs.map intAV)), (1, sF (ys.map intAV)), (5, iT (i + 1))] m
  refine hK1 _ _ ?_; clear hK1 K1
  refine ⟨(i + 1), rfl, rfl, ?_, ?_⟩
  ·
   show 0 ≤ ((i + 1 : Int)) ∧ ((i + 1 : Int)) ≤ xs.length ∧ xs.take ((i + 1 : Int)).toNat = ys.take ((i + 1 : Int)).toNat
   exact ⟨by omega, by omega, take_gI hI.1 h2 (by omega) hI.2.2 h3⟩
  ·
   show xs.length - ((i + 1 : Int)).toNat < xs.length - i.toNat
   omega
 replace h2 : (xs.length : Int) ≤ i := (Int.not_lt.1 (of_decide_eq_false h2))
 refine awp_exit ?_
 refine hK3 _ _ ?_; clear hK3
 refine rS [] [4] (by decide) ?_
 intro K1 hK1
 refine ⟨tv, ?_⟩
 show K1 [(4, .bool true)] m
 refine hK1 _ _ ?_; clear hK1 K1
 refine awp_ret ?_
 refine ⟨tv, m, fun _ _ h => h, ?_⟩
 show K (.bool true) m
 refine K_eq hK (cgA AV.bool ?_)
 rw [decide_eq_true_eq]; exact take_all h1 (by omega) hI.2.2
end Go.Proofs
end
section
namespace Go.Proofs
open Go Go.Aw
set_option maxRecDepth 100000
inductive Rch (f : Int → List Int) (l : List Int) : Int → Prop
  | here {x : Int} (h : x ∈ l) : Rch f l x
  | step {x y : Int} (h : Rch f l x) (hy : y ∈ f x) : Rch f l y
theorem gI_set {α : Type} [Inhabited α] {l : List α} {x y : Int} {v : α} (h0 : 0 ≤ x) (h1 : x < l.length) (h2 : 0 ≤ y) : gI (l.set x.toNat v) y = if y = x then v else gI l y := by
  have hx : x.toNat < l.length := by omega
  simp only [gI, List.getD_eq_getElem?_getD, List.getElem?_set]
  by_cases h : y = x
  · subst h; simp [hx]
  · have : x.toNat ≠ y.toNat := by omega
    simp [h, this]
theorem upto_mem {k x : Int} : x ∈ upto k ↔ 0 ≤ x ∧ x < k := by
  simp only [upto, List.mem_map, List.mem_range]
  exact ⟨fun ⟨i, hi, e⟩ => by omega, fun h => ⟨x.toNat, by omega, by omega⟩⟩
end Go.Proofs
end
section
namespace Go.Proofs
open Go Go.Aw
set_option maxRecDepth 100000
def es (s : List Bool) (e : Int × Int) : List Bool := if gI s e.1 = true then s.set e.2.toNat true else s
end Go.Proofs
end
section
namespace Go.Proofs
open Go Go.Aw
set_option maxRecDepth 100000
def MarkLe (s t : List Bool) : Prop := ∀ x, 0 ≤ x → gI s x = true → gI t x = true
theorem MarkLe.refl (s : List Bool) : MarkLe s s := fun _ _ h => h
theorem MarkLe.trans {s t u : List Bool} (h : MarkLe s t) (k : MarkLe t u) : MarkLe s u := fun x h0 hx => k x h0 (h x h0 hx)
end Go.Proofs
end
section
namespace Go.Proofs
open Go Go.Aw
set_option maxRecDepth 100000
def InN (needs : List (List Int)) (j : Int) : Prop := 0 ≤ j ∧ j < needs.length
def IsDepth (needs : List (List Int)) (D : Int → Int) : Prop := ∀ j, InN needs j → 1 ≤ D j ∧ D j ≤ needs.length ∧ (∀ k ∈ gI needs j, D k + 1 ≤ D j) ∧ (D j = 1 ∨ ∃ k ∈ gI needs j, D k + 1 = D j)
def IsCyc (needs : List (List Int)) (U : Int → Prop) : Prop := ∀ j, U j → InN needs j ∧ ∃ k ∈ gI needs j, U k
def groupsTo (needs : List (List Int)) (D : Int → Int) (w : Int) : List (List Int) := ((upto w).map fun v => (upto needs.length).filter fun i => D i == v + 1).filter (· != [])
theorem need_in {needs : List (List Int)} (h : okN needs = true) {j k : Int} (hj : InN needs j) (hk : k ∈ gI needs j) : InN needs k := by
  have := List.all_eq_true.1 (List.all_eq_true.1 h _ (gI_mem hj.1 hj.2)) k hk
  simpa [InN] using this
structure RI (needs : List (List Int)) (lv : List Int) (r i : Int) : Prop where
  len : lv.length = needs.length
  rng : ∀ j, InN needs j → 0 ≤ gI lv j ∧ gI lv j ≤ needs.length
  dep : ∀ D, IsDepth needs D → ∀ j, InN needs j → gI lv j ≤ D j ∧ (D j ≤ gI lv j ∨ (if j < i then r + 1 else r) ≤ gI lv j)
  cyc : ∀ U, IsCyc needs U → ∀ j, U j → (if j < i then r + 1 else r) ≤ gI lv j
def UI (lv ns : List Int) (up : Int) : Prop := 1 ≤ up ∧ (∀ k ∈ ns, 1 + gI lv k ≤ up) ∧ (up = 1 ∨ ∃ k ∈ ns, up = 1 + gI lv k)
theorem UI.nil (lv : List Int) : UI lv [] 1 := ⟨by omega, by simp, .inl rfl⟩
theorem RI.up_dep {needs : List (List Int)} {lv : List Int} {r i up : Int} (hok : okN needs = true) (h : RI needs lv r i) (hi : InN needs i) (hu : UI lv (gI needs i) up) {D : Int → Int} (hD : IsDepth needs D) : up ≤ D i ∧ (D i ≤ up ∨ r + 1 ≤ up) := by
  have hd := hD i hi
  constructor
  · rcases hu.2.2 with e | ⟨k, hk, e⟩
    · omega
    · have h1 := (h.dep D hD k (need_in hok hi hk)).1
      have h2 := hd.2.2.1 k hk
      omega
  · rcases hd.2.2.2 with e | ⟨k, hk, e⟩
    · left; have := hu.1; omega
    · have h1 := (h.dep D hD k (need_in hok hi hk)).2
      have h2 := hu.2.1 k hk
      rcases h1 with h1 | h1
      · left; omega
      · right
        have : r ≤ if k < i then r + 1 else r := by split <;> omega
        omega
theorem RI.step {needs : List (List Int)} {lv : List Int} {r i up : Int} (hok : okN needs = true) (h : RI needs lv r i) (hi : InN needs i) (hu : UI lv (gI needs i) up) (hn : up ≤ needs.length) : RI needs (lv.set i.toNat up) r (i + 1) := by
  have hset : ∀ j, InN needs j → gI (lv.set i.toNat up) j = if j = i then up else gI lv j := fun j hj => gI_set hi.1 (by rw [h.len]; exact hi.2) hj.1
  refine ⟨by simp [h.len], fun j hj => ?_, fun D hD j hj => ?_, fun U hU j hj => ?_⟩
  · rw [hset j hj]; split
    · have := hu.1; omega
    · exact h.rng j hj
  · rw [hset j hj]
    by_cases e : j = i
    · subst e
      rw [if_pos rfl, if_pos (by omega)]
      exact h.up_dep hok hi hu hD
    · rw [if_neg e]
      have := h.dep D hD j hj
      have e2 : (j < i + 1) ↔ (j < i) := by omega
      simp only [e2]; exact this
  · have hj' := hU j hj
    rw [hset j hj'.1]
    by_cases e : j = i
    · subst e
      rw [if_pos rfl, if_pos (by omega)]
      obtain ⟨k, hk, hUk⟩ := hj'.2
      have h1 := h.cyc U hU k hUk
      have h2 := hu.2.1 k hk
      have : r ≤ if k < j then r + 1 else r := by split <;> omega
      omega
    · rw [if_neg e]
      have := h.cyc U hU j hj
      have e2 : (j < i + 1) ↔ (j < i) := by omega
      simp only [e2]; exact this
theorem RI.none {needs : List (List Int)} {lv : List Int} {r i up : Int} (hok : okN needs = true) (h : RI needs lv r i) (hi : InN needs i) (hu : UI lv (gI needs i) up) (hn : needs.length < up) (D : Int → Int) : ¬ IsDepth needs D := fun hD => by
  have := (h.up_dep hok hi hu hD).1
  have := (hD i hi).2.1
  omega
theorem RI.round {needs : List (List Int)} {lv : List Int} {r i : Int} (h : RI needs lv r i) (hi : needs.length ≤ i) : RI needs lv (r + 1) 0 := by
  refine ⟨h.len, h.rng, fun D hD j hj => ?_, fun U hU j hj => ?_⟩
  · have := h.dep D hD j hj
    have hj2 := hj.2
    have hj1 := hj.1
    rw [if_pos (by omega)] at this
    rw [if_neg (by omega)]; exact this
  · have := h.cyc U hU j hj
    have hj' := (hU j hj).1
    have hj2 := hj'.2
    have hj1 := hj'.1
    rw [if_pos (by omega)] at this
    rw [if_neg (by omega)]; exact this
theorem RI.start (needs : List (List Int)) : RI needs (List.replicate needs.length 0) 0 0 := by
  have hz : ∀ j, gI (List.replicate needs.length (0 : Int)) j = 0 := fun j => by
    simp only [gI, List.getD_eq_getElem?_getD, List.getElem?_replicate]
    split <;> rfl
  refine ⟨by simp, fun j _ => ?_, fun D hD j hj => ?_, fun U hU j hj => ?_⟩
  · rw [hz]; omega
  · rw [hz]; have := hD j hj; exact ⟨by omega, .inr (by split <;> first | omega | (have := hj.1; omega))⟩
  · rw [hz]; split
    · have := (hU j hj).1.1; omega
    · omega
theorem RI.fin {needs : List (List Int)} {lv : List Int} {r : Int} (h : RI needs lv r 0) (hr : needs.length < r) {D : Int → Int} (hD : IsDepth needs D) : ∀ j, InN needs j → gI lv j = D j := fun j hj => by
  have h1 := h.dep D hD j hj
  have h2 := h.rng j hj
  have h3 := hj.1
  rw [if_neg (by omega)] at h1
  omega
theorem setAll_gI {n : Int} {wave : List Int} {v : Int} : ∀ {lv : List Int}, lv.length = n → (∀ x ∈ wave, 0 ≤ x ∧ x < n) → ∀ j, 0 ≤ j → gI (setAll lv wave v) j = if j ∈ wave then v else gI lv j := by
  induction wave with
  | nil => intro lv _ _ j _; simp [setAll]
  | cons a w ih =>
    intro lv hl hw j hj
    have e : setAll lv (a :: w) v = setAll (lv.set a.toNat v) w v := rfl
    have ha := hw a (by simp)
    rw [e, ih (by simpa using hl) (fun x hx => hw x (by simp [hx])) j hj, gI_set ha.1 (by omega) hj]
    by_cases h1 : j ∈ w
    · simp [h1]
    · by_cases h2 : j = a <;> simp [h1, h2]
theorem waveTo_mem2 {needs : List (List Int)} {lv : List Int} {x : Int} : x ∈ waveTo needs lv needs.length ↔ InN needs x ∧ readyB needs lv x = true := by
  simp [waveTo, List.mem_filter, upto_mem, InN]
structure WI (needs : List (List Int)) (left : Int) (lv : List Int) (out : List (List Int)) : Prop where
  len : lv.length = needs.length
  rng : ∀ j, InN needs j → 0 ≤ gI lv j ∧ gI lv j ≤ out.length
  sum : out.length + left ≤ needs.length
  cnt : left = ((upto needs.length).filter fun i => gI lv i == 0).length
  grp : out = (upto out.length).map fun v => (upto needs.length).filter fun i => gI lv i == v + 1
  nem : ∀ l ∈ out, l ≠ []
  lo : ∀ j, InN needs j → 0 < gI lv j → ∀ k ∈ gI needs j, 0 < gI lv k ∧ gI lv k + 1 ≤ gI lv j
  ex : ∀ j, InN needs j → 0 < gI lv j → gI lv j = 1 ∨ ∃ k ∈ gI needs j, gI lv k + 1 = gI lv j
  nr : ∀ j, InN needs j → gI lv j = 0 → out.length = 0 ∨ ∃ k ∈ gI needs j, gI lv k = 0 ∨ gI lv k = out.length
theorem filter_or_len {α : Type} (l : List α) (p q : α → Bool) (h : ∀ x ∈ l, ¬ (p x = true ∧ q x = true)) : (l.filter fun x => p x || q x).length = (l.filter p).length + (l.filter q).length := by
  induction l with
  | nil => rfl
  | cons a l ih =>
    have := ih (fun x hx => h x (by simp [hx]))
    have ha := h a (by simp)
    cases hp : p a <;> cases hq : q a <;> simp_all [List.filter_cons] <;> omega
theorem WI.step {needs : List (List Int)} {left : Int} {lv : List Int} {out : List (List Int)} (hok : okN needs = true) (h : WI needs left lv out) (hne : ¬ waveTo needs lv needs.length = []) :
    WI needs (left - (waveTo needs lv needs.length).length) (setAll lv (waveTo needs lv needs.length) (out.length + 1 : Nat)) (out ++ [waveTo needs lv needs.length]) := by
  have hs : ∀ j, InN needs j → gI (setAll lv (waveTo needs lv needs.length) (out.length + 1 : Nat)) j = if readyB needs lv j = true then ((out.length + 1 : Nat) : Int) else gI lv j := fun j hj => by
    rw [setAll_gI (n := needs.length) (by rw [h.len]) (fun x hx => (waveTo_mem2.1 hx).1) j hj.1]
    by_cases hr : readyB needs lv j = true
    · rw [if_pos (waveTo_mem2.2 ⟨hj, hr⟩), if_pos hr]
    · rw [if_neg (fun hh => hr (waveTo_mem2.1 hh).2), if_neg hr]
  have hrd : ∀ j, readyB needs lv j = true → gI lv j = 0 ∧ ∀ k ∈ gI needs j, 0 < gI lv k := fun j hr => by
    simpa [readyB] using hr
  have hlen : 0 < (waveTo needs lv needs.length).length := List.length_pos_iff.2 hne
  have hnot : ∀ k, 0 < gI lv k → ¬ readyB needs lv k = true := fun k hk hr => by have := (hrd k hr).1; omega
  refine ⟨by rw [setAll_len, h.len], fun j hj => ?_, ?_, ?_, ?_, ?_, fun j hj h0 k hk => ?_, fun j hj h0 => ?_, fun j hj h0 => ?_⟩
  · rw [hs j hj]; have := h.rng j hj; simp; split <;> omega
  · have := h.sum; simp; omega
  · have e1 : ((upto needs.length).filter fun i => gI lv i == 0) = (upto needs.length).filter fun i => (gI (setAll lv (waveTo needs lv needs.length) (out.length + 1 : Nat)) i == 0) || readyB needs lv i := by
      refine List.filter_congr fun i hi => ?_
      have hi' : InN needs i := upto_mem.1 hi
      rw [hs i hi']
      by_cases hr : readyB needs lv i = true
      · rw [if_pos hr, hr, (hrd i hr).1]; simp
      · rw [if_neg hr]; simp [hr]
    have e2 := h.cnt
    rw [e1, filter_or_len _ _ _ (fun i hi hh => by
      have hi' : InN needs i := upto_mem.1 hi
      have h1 := hh.1
      rw [hs i hi', if_pos hh.2] at h1
      simp at h1; omega)] at e2
    have e3 : waveTo needs lv needs.length = (upto needs.length).filter (readyB needs lv) := rfl
    rw [e2, e3]; simp
  · have e0 : (out ++ [waveTo needs lv needs.length]).length = out.length + 1 := by simp
    have e1 : ((out.length + 1 : Nat) : Int) = (out.length : Int) + 1 := by omega
    rw [e0, e1, upto_succ (by omega), List.map_append]
    congr 1
    · conv => lhs; rw [h.grp]
      refine List.map_congr_left fun v hv => List.filter_congr fun i hi => ?_
      have hi' : InN needs i := upto_mem.1 hi
      have hv' := upto_mem.1 hv
      rw [← e1, hs i hi']
      by_cases hr : readyB needs lv i = true
      · rw [if_pos hr, (hrd i hr).1]
        have : ¬ ((0 : Int) = v + 1) := by omega
        have h2 : ¬ (((out.length + 1 : Nat) : Int) = v + 1) := by omega
        rw [beq_eq_false_iff_ne.2 this, beq_eq_false_iff_ne.2 h2]
      · rw [if_neg hr]
    · simp only [List.map_cons, List.map_nil]
      congr 1
      refine List.filter_congr fun i hi => ?_
      have hi' : InN needs i := upto_mem.1 hi
      rw [← e1, hs i hi']
      by_cases hr : readyB needs lv i = true
      · rw [if_pos hr, hr]; simp
      · rw [if_neg hr]
        have := h.rng i hi'
        have h2 : ¬ (gI lv i = ((out.length + 1 : Nat) : Int)) := by omega
        simp only [Bool.not_eq_true] at hr
        rw [hr, beq_eq_false_iff_ne.2 h2]
  · intro l hl
    rcases List.mem_append.1 hl with hl | hl
    · exact h.nem l hl
    · simp at hl; subst hl; exact hne
  · have hk' := need_in hok hj hk
    rw [hs j hj] at h0 ⊢
    rw [hs k hk']
    by_cases hr : readyB needs lv j = true
    · have := (hrd j hr).2 k hk
      rw [if_pos hr, if_neg (hnot k this)]
      have := (h.rng k hk').2
      omega
    · rw [if_neg hr] at h0 ⊢
      have := h.lo j hj h0 k hk
      rw [if_neg (hnot k this.1)]
      exact this
  · rw [hs j hj] at h0 ⊢
    by_cases hr : readyB needs lv j = true
    · rw [if_pos hr]
      rcases h.nr j hj (hrd j hr).1 with e | ⟨k, hk, e⟩
      · left; omega
      · right
        have := (hrd j hr).2 k hk
        refine ⟨k, hk, ?_⟩
        rw [hs k (need_in hok hj hk), if_neg (hnot k this)]
        omega
    · rw [if_neg hr] at h0 ⊢
      rcases h.ex j hj h0 with e | ⟨k, hk, e⟩
      · exact .inl e
      · right
        refine ⟨k, hk, ?_⟩
        have := (h.lo j hj h0 k hk).1
        rw [hs k (need_in hok hj hk), if_neg (hnot k this)]
        exact e
  · right
    rw [hs j hj] at h0
    by_cases hr : readyB needs lv j = true
    · rw [if_pos hr] at h0; omega
    · rw [if_neg hr] at h0
      have hex : ∃ k ∈ gI needs j, gI lv k ≤ 0 := by
        have hr' : readyB needs lv j = false := by simpa using hr
        simp only [readyB, h0, beq_self_eq_true, Bool.true_and] at hr'
        obtain ⟨k, hk, h3⟩ := List.all_eq_false.1 hr'
        exact ⟨k, hk, by simpa using h3⟩
      obtain ⟨k, hk, h3⟩ := hex
      have hk' := need_in hok hj hk
      refine ⟨k, hk, ?_⟩
      rw [hs k hk']
      have := h.rng k hk'
      by_cases hr2 : readyB needs lv k = true
      · rw [if_pos hr2]; right; simp
      · rw [if_neg hr2]; left; omega
theorem upto_split (w n : Nat) (h : w ≤ n) : ∃ r : List Int, upto (n : Int) = upto (w : Int) ++ r ∧ ∀ x ∈ r, (w : Int) ≤ x := by
  refine ⟨(List.range (n - w)).map (fun i : Nat => ((w + i : Nat) : Int)), ?_, fun x hx => ?_⟩
  · obtain ⟨d, rfl⟩ := Nat.exists_eq_add_of_le h
    simp only [upto, Int.toNat_natCast, Nat.add_sub_cancel_left, List.range_add, List.map_append, List.map_map]
    rfl
  · obtain ⟨i, hi, rfl⟩ := List.mem_map.1 hx
    omega
theorem WI.groups {needs : List (List Int)} {left : Int} {lv : List Int} {out : List (List Int)} (h : WI needs left lv out) (h0 : 0 ≤ left) : groupsTo needs (gI lv) needs.length = out := by
  have hs := h.sum
  obtain ⟨r, hr, hr2⟩ := upto_split out.length needs.length (by omega)
  unfold groupsTo
  rw [hr, List.map_append, List.filter_append]
  have e1 : ((upto needs.length).filter fun i => false) = [] := by simp
  have h2 : (r.map fun v => (upto out.length ++ r).filter fun i => gI lv i == v + 1).filter (· != []) = [] := by
    rw [List.filter_eq_nil_iff]
    intro l hl
    obtain ⟨v, hv, rfl⟩ := List.mem_map.1 hl
    have := hr2 v hv
    simp only [bne_iff_ne, ne_eq, Decidable.not_not]
    rw [List.filter_eq_nil_iff]
    intro i hi
    rw [← hr] at hi
    have := h.rng i (upto_mem.1 hi)
    simp; omega
  rw [h2, List.append_nil, ← hr, ← h.grp, List.filter_eq_self]
  intro l hl
  simpa using h.nem l hl
theorem WI.depth {needs : List (List Int)} {left : Int} {lv : List Int} {out : List (List Int)} (h : WI needs left lv out) (h0 : left ≤ 0) : IsDepth needs (gI lv) := by
  have hc := h.cnt
  have hz : ∀ j, InN needs j → 0 < gI lv j := fun j hj => by
    have h1 := (h.rng j hj).1
    by_cases e : gI lv j = 0
    · exfalso
      have hm : j ∈ (upto needs.length).filter fun i => gI lv i == 0 := List.mem_filter.2 ⟨upto_mem.2 hj, by simp [e]⟩
      have hl := List.length_pos_of_mem hm
      omega
    · omega
  intro j hj
  have h1 := hz j hj
  have h2 := (h.rng j hj).2
  have h3 := h.sum
  exact ⟨by omega, by omega, fun k hk => (h.lo j hj h1 k hk).2, h.ex j hj h1⟩
theorem WI.cyc {needs : List (List Int)} {left : Int} {lv : List Int} {out : List (List Int)} (hok : okN needs = true) (h : WI needs left lv out) (h0 : 0 < left) (he : waveTo needs lv needs.length = []) : ∃ U j, IsCyc needs U ∧ U j := by
  have hc := h.cnt
  have : ((upto needs.length).filter fun i => gI lv i == 0) ≠ [] := fun e => by rw [e] at hc; simp at hc; omega
  obtain ⟨j, hj⟩ := List.exists_mem_of_ne_nil _ this
  have hj' := List.mem_filter.1 hj
  refine ⟨fun j => InN needs j ∧ gI lv j = 0, j, fun i hi => ⟨hi.1, ?_⟩, upto_mem.1 hj'.1, by simpa using hj'.2⟩
  have hr : ¬ readyB needs lv i = true := fun hr => by
    have : i ∈ waveTo needs lv needs.length := waveTo_mem2.2 ⟨hi.1, hr⟩
    rw [he] at this; cases this
  have hr' : readyB needs lv i = false := by simpa using hr
  simp only [readyB, hi.2, beq_self_eq_true, Bool.true_and] at hr'
  obtain ⟨k, hk, h3⟩ := List.all_eq_false.1 hr'
  have hk' := need_in hok hi.1 hk
  have h4 : gI lv k ≤ 0 := by simpa using h3
  have := (h.rng k hk').1
  exact ⟨k, hk, hk', by omega⟩
theorem wavesF_cases {needs : List (List Int)} (hok : okN needs = true) : ∀ f left lv out, WI needs left lv out → left < (f : Nat) → 0 ≤ left →
    (∃ D, IsDepth needs D ∧ wavesF f needs left lv out = (groupsTo needs D needs.length, 0)) ∨ ((∃ U j, IsCyc needs U ∧ U j) ∧ wavesF f needs left lv out = ([], 8)) := by
  intro f
  induction f with
  | zero => intro left lv out _ h1 h2; omega
  | succ f ih =>
    intro left lv out h h1 h2
    rw [wavesF]
    by_cases h3 : left ≤ 0
    · rw [if_pos h3]
      exact .inl ⟨gI lv, h.depth h3, by rw [h.groups h2]⟩
    · rw [if_neg h3]
      by_cases h4 : waveTo needs lv needs.length = []
      · rw [if_pos h4]
        exact .inr ⟨h.cyc hok (by omega) h4, rfl⟩
      · rw [if_neg h4]
        have hs := h.step hok h4
        have hp := List.length_pos_iff.2 h4
        refine ih _ _ _ hs (by omega) ?_
        rw [hs.cnt]; omega
theorem WI.start (needs : List (List Int)) : WI needs needs.length (List.replicate needs.length 0) [] := by
  have hz : ∀ j, gI (List.replicate needs.length (0 : Int)) j = 0 := fun j => by
    simp only [gI, List.getD_eq_getElem?_getD, List.getElem?_replicate]
    split <;> rfl
  refine ⟨by simp, fun j _ => ?_, by simp, ?_, by simp [upto], by simp, fun j _ h => ?_, fun j _ h => ?_, fun j _ _ => .inl rfl⟩
  · rw [hz]; simp
  · have e : ((upto needs.length).filter fun i => gI (List.replicate needs.length (0 : Int)) i == 0) = upto needs.length := List.filter_eq_self.2 (fun i _ => by rw [hz]; rfl)
    rw [e]; simp [upto]
  · rw [hz] at h; omega
  · rw [hz] at h; omega
theorem wavesR_cases {needs : List (List Int)} (hok : okN needs = true) : (∃ D, IsDepth needs D ∧ wavesR needs = (groupsTo needs D needs.length, 0)) ∨ ((∃ U j, IsCyc needs U ∧ U j) ∧ wavesR needs = ([], 8)) :=
  wavesF_cases hok _ _ _ _ (WI.start needs) (by omega) (by omega)
end Go.Proofs
end
section
namespace Go.Proofs
open Go Go.Aw Go.Sx
set_option maxRecDepth 100000
structure ResT where
  kind : Str
  name : Str
  parts : List (Str × Exp)
instance : Inhabited ResT := ⟨⟨[], [], []⟩⟩
structure StkT where
  name : Str
  ins : List (Str × Val)
  res : List ResT
  outs : List (Str × Exp)
instance : Inhabited StkT := ⟨⟨[], [], [], []⟩⟩
def inAV (p : Str × Val) : AV := .agg [.str p.1, .int .i64 p.2.kind, .int .i64 p.2.n, .str p.2.s, .slice false (p.2.l.map valIn), .slice false (p.2.f.map fldIn)]
def prtAV (p : Str × Exp) : AV := .agg [.str p.1, .int .i64 p.2.kind, .int .i64 p.2.v.kind, .int .i64 p.2.v.n, .str p.2.v.s, .slice false (p.2.v.l.map valIn), .slice false (p.2.v.f.map fldIn), .str p.2.s, .str p.2.t, .slice false (p.2.a.map expIn), .slice false (p.2.n.map strAV)]
def resAV (r : ResT) : AV := .agg [.str r.kind, .str r.name, .slice false (r.parts.map prtAV)]
def stkAV (s : StkT) : AV := .agg [.str s.name, .slice false (s.ins.map inAV), .slice false (s.res.map resAV), .slice false (s.outs.map prtAV)]
def idxA : List Str → Str → Int → Int
  | [], _, _ => -1
  | x :: r, s, i => if x = s then i else idxA r s (i + 1)
def idxF (l : List Str) (s : Str) : Int := idxA l s 0
theorem idxA_ge {s : Str} : ∀ {l : List Str} {i : Int}, 0 ≤ i → idxA l s i = -1 ∨ (i ≤ idxA l s i ∧ idxA l s i < i + l.length)
  | [], _, _ => .inl rfl
  | x :: r, i, h => by
    rw [idxA]
    split
    · right; rw [List.length_cons]; omega
    · rcases idxA_ge (s := s) (l := r) (i := i + 1) (by omega) with h1 | h1
      · exact .inl h1
      · right; rw [List.length_cons]; omega
theorem idxA_no {s : Str} : ∀ {l : List Str} {i : Int}, 0 ≤ i → (idxA l s i < 0 ↔ s ∉ l)
  | [], _, _ => by simp [idxA]
  | x :: r, i, h => by
    rw [idxA]
    by_cases c : x = s
    · subst c; rw [if_pos rfl]; simp; omega
    · rw [if_neg c, idxA_no (by omega), List.mem_cons]; simp [Ne.symm c]
theorem idxF_no {l : List Str} {s : Str} : idxF l s < 0 ↔ s ∉ l := idxA_no (Int.le_refl _)
theorem idxF_ge {l : List Str} {s : Str} : idxF l s = -1 ∨ (0 ≤ idxF l s ∧ idxF l s < l.length) := by
  have := idxA_ge (s := s) (l := l) (Int.le_refl 0)
  unfold idxF; omega
theorem idxA_at {s : Str} : ∀ {l : List Str} {i : Int}, 0 ≤ i → s ∈ l → gI l (idxA l s i - i) = s
  | [], _, _, h => by cases h
  | x :: r, i, h0, h => by
    rw [idxA]
    by_cases c : x = s
    · subst c; rw [if_pos rfl, Int.sub_self]; rfl
    · rw [if_neg c]
      have hr : s ∈ r := (List.mem_cons.1 h).resolve_left (Ne.symm c)
      have h1 := idxA_at (i := i + 1) (by omega) hr
      have h2 := idxA_ge (s := s) (l := r) (i := i + 1) (by omega)
      have h3 := mt (idxA_no (s := s) (l := r) (i := i + 1) (by omega)).1 (fun q => q hr)
      generalize idxA r s (i + 1) = k at *
      have e : (k - i).toNat = (k - (i + 1)).toNat + 1 := by omega
      simp only [gI] at h1 ⊢
      rw [e]; simpa using h1
theorem idxF_at {l : List Str} {s : Str} (h : 0 ≤ idxF l s) : gI l (idxF l s) = s := by
  have hm : s ∈ l := Classical.not_not.1 fun q => by have := idxF_no.2 q; omega
  have := idxA_at (Int.le_refl 0) hm
  rwa [Int.sub_zero] at this
theorem gI_mapS {α : Type} [Inhabited α] {β : Type} [Inhabited β] {f : α → β} {l : List α} {i : Int} (h0 : 0 ≤ i) (hi : i < l.length) : gI (l.map f) i = f (gI l i) := by
  have hn : i.toNat < l.length := by omega
  simp [gI, List.getD_eq_getElem?_getD, hn]
theorem idx_step {α : Type} [Inhabited α] {f : α → Str} {l : List α} {s : Str} {i : Int} (h0 : 0 ≤ i) (hi : i < l.length) : idxA ((l.drop i.toNat).map f) s i = if f (gI l i) = s then i else idxA ((l.drop (i + 1).toNat).map f) s (i + 1) := by
  rw [drop_gI h0 hi, List.map_cons, idxA]
theorem sub0_take {α : Type} (l : List α) {i : Int} (h0 : 0 ≤ i) : sub l 0 i = l.take i.toNat := by
  simp [sub]
theorem twice_t {α : Type} [Inhabited α] {f : α → Str} {l : List α} {i : Int} (h0 : 0 ≤ i) (hi : i < l.length) (h : 0 ≤ idxF ((sub l 0 i).map f) (f (gI l i))) : ¬ (l.map f).Nodup := by
  intro hn
  rw [sub0_take l h0] at h
  have hm : f (gI l i) ∈ (l.take i.toNat).map f := Classical.not_not.1 fun q => by have := idxF_no.2 q; omega
  rw [← List.take_append_drop i.toNat l, List.map_append, drop_gI h0 hi] at hn
  exact (List.nodup_append.1 hn).2.2 _ hm _ (List.mem_cons_self ..) rfl
theorem twice_f {α : Type} [Inhabited α] {f : α → Str} {l : List α} {i : Int} (h0 : 0 ≤ i) (hi : i < l.length) (hn : ((l.take i.toNat).map f).Nodup) (h : idxF ((sub l 0 i).map f) (f (gI l i)) < 0) : ((l.take (i + 1).toNat).map f).Nodup := by
  rw [sub0_take l h0] at h
  rw [take_succ_gI h0 hi, List.map_append]
  exact List.nodup_append.2 ⟨hn, by simp, fun a ha b hb e => by simp at hb; subst hb; subst e; exact idxF_no.1 h ha⟩
theorem u_stackName (x : StkT)  (m : AMem)  (K : AV → AMem → Prop) (hK : K (.str (StkT.name x)) m) : ACalls Try.prog 12 [stkAV x] m K := by
 refine enter (c := cf [] [] [] [] [] []) (vs := [.av (stkAV x)]) (L := []) (m := m) false tbOk Try.mixed Try.func12 rfl (k := 1) (by show fnOk [] _ _ _ = true; decide +kernel) rfl (Good.nil m) ?_
 refine rt0 rfl fun _ => K_eq hK ?_
 show AV.str (StkT.name x) = AV.str x.name
 refine congrArg AV.str ?_
 rfl
theorem u_inputName (x : (Str × Val))  (m : AMem)  (K : AV → AMem → Prop) (hK : K (.str (Prod.fst x)) m) : ACalls Try.prog 14 [inAV x] m K := by
 refine enter (c := cf [] [] [] [] [] []) (vs := [.av (inAV x)]) (L := []) (m := m) false tbOk Try.mixed Try.func14 rfl (k := 1) (by show fnOk [] _ _ _ = true; decide +kernel) rfl (Good.nil m) ?_
 refine rt0 rfl fun _ => K_eq hK ?_
 show AV.str (Prod.fst x) = AV.str x.1
 refine congrArg AV.str ?_
 rfl
theorem u_resourceName (x : ResT)  (m : AMem)  (K : AV → AMem → Prop) (hK : K (.str (ResT.name x)) m) : ACalls Try.prog 16 [resAV x] m K := by
 refine enter (c := cf [] [] [] [] [] []) (vs := [.av (resAV x)]) (L := []) (m := m) false tbOk Try.mixed Try.func16 rfl (k := 1) (by show fnOk [] _ _ _ = true; decide +kernel) rfl (Good.nil m) ?_
 refine rt0 rfl fun _ => K_eq hK ?_
 show AV.str (ResT.name x) = AV.str x.name
 refine congrArg AV.str ?_
 rfl
theorem u_outputName (x : (Str × Exp))  (m : AMem)  (K : AV → AMem → Prop) (hK : K (.str (Prod.fst x)) m) : ACalls Try.prog 18 [prtAV x] m K := by
 refine enter (c := cf [] [] [] [] [] []) (vs := [.av (prtAV x)]) (L := []) (m := m) false tbOk Try.mixed Try.func18 rfl (k := 1) (by show fnOk [] _ _ _ = true; decide +kernel) rfl (Good.nil m) ?_
 refine rt0 rfl fun _ => K_eq hK ?_
 show AV.str (Prod.fst x) = AV.str x.1
 refine congrArg AV.str ?_
 rfl
theorem u_findStack (l : List StkT) (s : Str)  (m : AMem)  (K : AV → AMem → Prop) (hK : K (.int .i64 (idxF (l.map StkT.name) s)) m) : ACalls Try.prog 25 [.slice false (l.map stkAV), .func (.func 12) [] [], .str s] m K := by
 refine enter (c := cf [] [0] [] [] [] []) (vs := [.av (.slice false (l.map stkAV)), .fn 12 [] [], .av (.str s)]) (L := []) (m := m) false tbOk Try.mixed Try.func25 rfl (k := 3) (by show fnOk [] _ _ _ = true; decide +kernel) rfl (Good.nil m) ?_
 refine ⟨fun F0 => ?_⟩
 have hbd0_0 : l.length ≤ 140737488355328 := bd_map (o := false) (F0 0).1
 refine sq ?_
 refine ln ?_
 refine lp (σ := Int) [] [1, 2, 9, 10, 11] 0 (fun i => ([(1, .fn 12 [] []), (2, vS s), (9, vL (l.map stkAV)), (10, vI (l.length : Int)), (11, vI i)], [], m)) (fun i => 0 ≤ i ∧ i ≤ l.length ∧ idxF (l.map StkT.name) s = idxA ((l.drop i.toNat).map StkT.name) s i) (fun i => l.length - i.toNat) (0) ⟨rfl, rfl⟩ ?_ ?_
 · try dsimp only
   exact ⟨by omega, by omega, rfl⟩
 rintro i hI
 refine sq ?_
 refine an (fun h1 => ?_) (fun h1 => ?_)
 · refine sq ?_
   refine ix (by omega) ?_
   refine call0 (fun _ => u_stackName (gI l i)) rfl ?_
   refine an (fun h2 => ?_) (fun h2 => ?_)
   · refine rt0 rfl fun _ => K_eq hK ?_
     show AV.int .i64 (idxF (l.map StkT.name) s) = AV.int .i64 i
     refine congrArg (AV.int .i64) ?_
     rw [hI.2.2, idx_step hI.1 h1, if_pos h2]
   refine an (by omega) ?_
   refine ⟨(i + 1), ⟨rfl, rfl⟩, ?_, ?_⟩
   · try dsimp only
     exact ⟨by omega, by omega, by rw [hI.2.2, idx_step hI.1 h1, if_neg h2]⟩
   try dsimp only
   omega
 refine rt0 rfl fun _ => K_eq hK ?_
 show AV.int .i64 (idxF (l.map StkT.name) s) = AV.int .i64 (-1)
 refine congrArg (AV.int .i64) ?_
 rw [hI.2.2, List.drop_eq_nil_of_le (by omega)]; rfl
theorem u_twiceStack (l : List StkT)  (m : AMem)  (K : AV → AMem → Prop) (hK : K (.bool (decide (¬ (l.map StkT.name).Nodup))) m) : ACalls Try.prog 11 [.slice false (l.map stkAV), .func (.func 12) [] []] m K := by
 refine enter (c := cf [] [0] [] [4999] [4] []) (vs := [.av (.slice false (l.map stkAV)), .fn 12 [] []]) (L := []) (m := m) false tbOk Try.mixed Try.func11 rfl (k := 2) (by show fnOk [4999] _ _ _ = true; decide +kernel) rfl (Good.nil m) ?_
 refine ⟨fun F0 => ?_⟩
 have hbd0_0 : l.length ≤ 140737488355328 := bd_map (o := false) (F0 0).1
 refine sq ?_
 refine ln ?_
 refine lp (σ := Int) [] [0, 1, 7, 8, 9] 0 (fun i => ([(0, vL (l.map stkAV)), (1, .fn 12 [] []), (7, vL (l.map stkAV)), (8, vI (l.length : Int)), (9, vI i)], [], m)) (fun i => 0 ≤ i ∧ i ≤ l.length ∧ ((l.take i.toNat).map StkT.name).Nodup) (fun i => l.length - i.toNat) (0) ⟨rfl, rfl⟩ ?_ ?_
 · try dsimp only
   exact ⟨by omega, by omega, List.nodup_nil⟩
 rintro i hI
 refine sq ?_
 refine an (fun h1 => ?_) (fun h1 => ?_)
 · refine sq ?_
   refine ix ⟨by (try dsimp only [Option.getD_none, Option.getD_some]); omega, by omega⟩ ?_
   refine rgA tbOk Try.mixed (σ := Bool) (.f 0 (.f 1 (.f 3 (.f 4 (.o 2 (.s 5 (.s 6 (.s 7 (.s 8 .d)))) (.o 5 (.o 2 (.s 6 (.s 7 (.s 8 .d))) (.o 6 (.s 2 (.s 7 (.s 8 .d))) .z)) .z)))))) [(22, 0)] [0, 1, 7, 8, 9, 22] 1 (fun c => ([(0, vL (l.map stkAV)), (1, .fn 12 [] []), (7, vL (l.map stkAV)), (8, vI (l.length : Int)), (9, vI i), (22, vB c)], [.cells [vS ((gI l i).name), vL (((gI l i).ins).map inAV), vL (((gI l i).res).map resAV), vL (((gI l i).outs).map prtAV)]], m)) (fun c => c = decide (0 ≤ idxF ((sub l 0 i).map StkT.name) ((gI l i).name))) (by decide +kernel) ?_ ?_
   · rintro c hy4
     refine an (fun h2 => ?_) (fun h2 => ?_)
     · refine rt0 rfl fun _ => ?_
       show K (.bool true) m
       have hc := of_decide_eq_true (hy4.symm.trans h2)
       rw [decide_eq_true (twice_t (f := StkT.name) hI.1 h1 hc)] at hK; exact hK
     refine an (by omega) ?_
     refine ⟨(i + 1), ⟨rfl, rfl⟩, ?_, ?_⟩
     · try dsimp only
       have hc := of_decide_eq_false (hy4.symm.trans h2)
       exact ⟨by omega, by omega, twice_f (f := StkT.name) hI.1 h1 hI.2.2 (Int.not_le.1 hc)⟩
     try dsimp only
     omega
   repeat' first
    | refine ⟨((decide (0 ≤ idxF ((sub l 0 i).map StkT.name) ((gI l i).name)))), ⟨rfl, rfl⟩, rfl⟩
    | refine sbq (fun _ => rfl) ⟨by (try dsimp only [Option.getD_none, Option.getD_some]); omega, by (try dsimp only [Option.getD_none, Option.getD_some]); omega, by omega⟩ ?_
    | refine call0 (fun _ => u_stackName (gI l i)) rfl ?_
    | refine call0 (fun _ => u_findStack (sub l 0 i) ((gI l i).name)) rfl ?_
    | refine ⟨?_, ?_, trivial⟩
 refine rt0 rfl fun _ => ?_
 show K (.bool false) m
 rw [decide_eq_false (not_not_intro (by have := hI.2.2; rwa [take_full (by omega)] at this))] at hK; exact hK
theorem u_findInput (l : List (Str × Val)) (s : Str)  (m : AMem)  (K : AV → AMem → Prop) (hK : K (.int .i64 (idxF (l.map Prod.fst) s)) m) : ACalls Try.prog 26 [.slice false (l.map inAV), .func (.func 14) [] [], .str s] m K := by
 refine enter (c := cf [] [0] [] [] [] []) (vs := [.av (.slice false (l.map inAV)), .fn 14 [] [], .av (.str s)]) (L := []) (m := m) false tbOk Try.mixed Try.func26 rfl (k := 3) (by show fnOk [] _ _ _ = true; decide +kernel) rfl (Good.nil m) ?_
 refine ⟨fun F0 => ?_⟩
 have hbd0_0 : l.length ≤ 140737488355328 := bd_map (o := false) (F0 0).1
 refine sq ?_
 refine ln ?_
 refine lp (σ := Int) [] [1, 2, 9, 10, 11] 0 (fun i => ([(1, .fn 14 [] []), (2, vS s), (9, vL (l.map inAV)), (10, vI (l.length : Int)), (11, vI i)], [], m)) (fun i => 0 ≤ i ∧ i ≤ l.length ∧ idxF (l.map Prod.fst) s = idxA ((l.drop i.toNat).map Prod.fst) s i) (fun i => l.length - i.toNat) (0) ⟨rfl, rfl⟩ ?_ ?_
 · try dsimp only
   exact ⟨by omega, by omega, rfl⟩
 rintro i hI
 refine sq ?_
 refine an (fun h1 => ?_) (fun h1 => ?_)
 · refine sq ?_
   refine ix (by omega) ?_
   refine call0 (fun _ => u_inputName (gI l i)) rfl ?_
   refine an (fun h2 => ?_) (fun h2 => ?_)
   · refine rt0 rfl fun _ => K_eq hK ?_
     show AV.int .i64 (idxF (l.map Prod.fst) s) = AV.int .i64 i
     refine congrArg (AV.int .i64) ?_
     rw [hI.2.2, idx_step hI.1 h1, if_pos h2]
   refine an (by omega) ?_
   refine ⟨(i + 1), ⟨rfl, rfl⟩, ?_, ?_⟩
   · try dsimp only
     exact ⟨by omega, by omega, by rw [hI.2.2, idx_step hI.1 h1, if_neg h2]⟩
   try dsimp only
   omega
 refine rt0 rfl fun _ => K_eq hK ?_
 show AV.int .i64 (idxF (l.map Prod.fst) s) = AV.int .i64 (-1)
 refine congrArg (AV.int .i64) ?_
 rw [hI.2.2, List.drop_eq_nil_of_le (by omega)]; rfl
theorem u_twiceInput (l : List (Str × Val))  (m : AMem)  (K : AV → AMem → Prop) (hK : K (.bool (decide (¬ (l.map Prod.fst).Nodup))) m) : ACalls Try.prog 13 [.slice false (l.map inAV), .func (.func 14) [] []] m K := by
 refine enter (c := cf [] [0] [] [4999] [4] []) (vs := [.av (.slice false (l.map inAV)), .fn 14 [] []]) (L := []) (m := m) false tbOk Try.mixed Try.func13 rfl (k := 2) (by show fnOk [4999] _ _ _ = true; decide +kernel) rfl (Good.nil m) ?_
 refine ⟨fun F0 => ?_⟩
 have hbd0_0 : l.length ≤ 140737488355328 := bd_map (o := false) (F0 0).1
 refine sq ?_
 refine ln ?_
 refine lp (σ := Int) [] [0, 1, 7, 8, 9] 0 (fun i => ([(0, vL (l.map inAV)), (1, .fn 14 [] []), (7, vL (l.map inAV)), (8, vI (l.length : Int)), (9, vI i)], [], m)) (fun i => 0 ≤ i ∧ i ≤ l.length ∧ ((l.take i.toNat).map Prod.fst).Nodup) (fun i => l.length - i.toNat) (0) ⟨rfl, rfl⟩ ?_ ?_
 · try dsimp only
   exact ⟨by omega, by omega, List.nodup_nil⟩
 rintro i hI
 refine sq ?_
 refine an (fun h1 => ?_) (fun h1 => ?_)
 · refine sq ?_
   refine ix ⟨by (try dsimp only [Option.getD_none, Option.getD_some]); omega, by omega⟩ ?_
   refine rgA tbOk Try.mixed (σ := Bool) (.f 0 (.f 1 (.f 3 (.f 4 (.o 2 (.s 5 (.s 6 (.s 7 (.s 8 .d)))) (.o 5 (.o 2 (.s 6 (.s 7 (.s 8 .d))) (.o 6 (.s 2 (.s 7 (.s 8 .d))) .z)) .z)))))) [(22, 0)] [0, 1, 7, 8, 9, 22] 1 (fun c => ([(0, vL (l.map inAV)), (1, .fn 14 [] []), (7, vL (l.map inAV)), (8, vI (l.length : Int)), (9, vI i), (22, vB c)], [.cells [vS ((gI l i).1), vI (((gI l i).2).kind), vI (((gI l i).2).n), vS (((gI l i).2).s), vL ((((gI l i).2).l).map valIn), vL ((((gI l i).2).f).map fldIn)]], m)) (fun c => c = decide (0 ≤ idxF ((sub l 0 i).map Prod.fst) ((gI l i).1))) (by decide +kernel) ?_ ?_
   · rintro c hy4
     refine an (fun h2 => ?_) (fun h2 => ?_)
     · refine rt0 rfl fun _ => ?_
       show K (.bool true) m
       have hc := of_decide_eq_true (hy4.symm.trans h2)
       rw [decide_eq_true (twice_t (f := Prod.fst) hI.1 h1 hc)] at hK; exact hK
     refine an (by omega) ?_
     refine ⟨(i + 1), ⟨rfl, rfl⟩, ?_, ?_⟩
     · try dsimp only
       have hc := of_decide_eq_false (hy4.symm.trans h2)
       exact ⟨by omega, by omega, twice_f (f := Prod.fst) hI.1 h1 hI.2.2 (Int.not_le.1 hc)⟩
     try dsimp only
     omega
   repeat' first
    | refine ⟨((decide (0 ≤ idxF ((sub l 0 i).map Prod.fst) ((gI l i).1)))), ⟨rfl, rfl⟩, rfl⟩
    | refine sbq (fun _ => rfl) ⟨by (try dsimp only [Option.getD_none, Option.getD_some]); omega, by (try dsimp only [Option.getD_none, Option.getD_some]); omega, by omega⟩ ?_
    | refine call0 (fun _ => u_inputName (gI l i)) rfl ?_
    | refine call0 (fun _ => u_findInput (sub l 0 i) ((gI l i).1)) rfl ?_
    | refine ⟨?_, ?_, trivial⟩
 refine rt0 rfl fun _ => ?_
 show K (.bool false) m
 rw [decide_eq_false (not_not_intro (by have := hI.2.2; rwa [take_full (by omega)] at this))] at hK; exact hK
theorem u_findResource (l : List ResT) (s : Str)  (m : AMem)  (K : AV → AMem → Prop) (hK : K (.int .i64 (idxF (l.map ResT.name) s)) m) : ACalls Try.prog 27 [.slice false (l.map resAV), .func (.func 16) [] [], .str s] m K := by
 refine enter (c := cf [] [0] [] [] [] []) (vs := [.av (.slice false (l.map resAV)), .fn 16 [] [], .av (.str s)]) (L := []) (m := m) false tbOk Try.mixed Try.func27 rfl (k := 3) (by show fnOk [] _ _ _ = true; decide +kernel) rfl (Good.nil m) ?_
 refine ⟨fun F0 => ?_⟩
 have hbd0_0 : l.length ≤ 140737488355328 := bd_map (o := false) (F0 0).1
 refine sq ?_
 refine ln ?_
 refine lp (σ := Int) [] [1, 2, 9, 10, 11] 0 (fun i => ([(1, .fn 16 [] []), (2, vS s), (9, vL (l.map resAV)), (10, vI (l.length : Int)), (11, vI i)], [], m)) (fun i => 0 ≤ i ∧ i ≤ l.length ∧ idxF (l.map ResT.name) s = idxA ((l.drop i.toNat).map ResT.name) s i) (fun i => l.length - i.toNat) (0) ⟨rfl, rfl⟩ ?_ ?_
 · try dsimp only
   exact ⟨by omega, by omega, rfl⟩
 rintro i hI
 refine sq ?_
 refine an (fun h1 => ?_) (fun h1 => ?_)
 · refine sq ?_
   refine ix (by omega) ?_
   refine call0 (fun _ => u_resourceName (gI l i)) rfl ?_
   refine an (fun h2 => ?_) (fun h2 => ?_)
   · refine rt0 rfl fun _ => K_eq hK ?_
     show AV.int .i64 (idxF (l.map ResT.name) s) = AV.int .i64 i
     refine congrArg (AV.int .i64) ?_
     rw [hI.2.2, idx_step hI.1 h1, if_pos h2]
   refine an (by omega) ?_
   refine ⟨(i + 1), ⟨rfl, rfl⟩, ?_, ?_⟩
   · try dsimp only
     exact ⟨by omega, by omega, by rw [hI.2.2, idx_step hI.1 h1, if_neg h2]⟩
   try dsimp only
   omega
 refine rt0 rfl fun _ => K_eq hK ?_
 show AV.int .i64 (idxF (l.map ResT.name) s) = AV.int .i64 (-1)
 refine congrArg (AV.int .i64) ?_
 rw [hI.2.2, List.drop_eq_nil_of_le (by omega)]; rfl
theorem u_twiceResource (l : List ResT)  (m : AMem)  (K : AV → AMem → Prop) (hK : K (.bool (decide (¬ (l.map ResT.name).Nodup))) m) : ACalls Try.prog 15 [.slice false (l.map resAV), .func (.func 16) [] []] m K := by
 refine enter (c := cf [] [0] [] [4999] [4] []) (vs := [.av (.slice false (l.map resAV)), .fn 16 [] []]) (L := []) (m := m) false tbOk Try.mixed Try.func15 rfl (k := 2) (by show fnOk [4999] _ _ _ = true; decide +kernel) rfl (Good.nil m) ?_
 refine ⟨fun F0 => ?_⟩
 have hbd0_0 : l.length ≤ 140737488355328 := bd_map (o := false) (F0 0).1
 refine sq ?_
 refine ln ?_
 refine lp (σ := Int) [] [0, 1, 7, 8, 9] 0 (fun i => ([(0, vL (l.map resAV)), (1, .fn 16 [] []), (7, vL (l.map resAV)), (8, vI (l.length : Int)), (9, vI i)], [], m)) (fun i => 0 ≤ i ∧ i ≤ l.length ∧ ((l.take i.toNat).map ResT.name).Nodup) (fun i => l.length - i.toNat) (0) ⟨rfl, rfl⟩ ?_ ?_
 · try dsimp only
   exact ⟨by omega, by omega, List.nodup_nil⟩
 rintro i hI
 refine sq ?_
 refine an (fun h1 => ?_) (fun h1 => ?_)
 · refine sq ?_
   refine ix ⟨by (try dsimp only [Option.getD_none, Option.getD_some]); omega, by omega⟩ ?_
   refine rgA tbOk Try.mixed (σ := Bool) (.f 0 (.f 1 (.f 3 (.f 4 (.o 2 (.s 5 (.s 6 (.s 7 (.s 8 .d)))) (.o 5 (.o 2 (.s 6 (.s 7 (.s 8 .d))) (.o 6 (.s 2 (.s 7 (.s 8 .d))) .z)) .z)))))) [(22, 0)] [0, 1, 7, 8, 9, 22] 1 (fun c => ([(0, vL (l.map resAV)), (1, .fn 16 [] []), (7, vL (l.map resAV)), (8, vI (l.length : Int)), (9, vI i), (22, vB c)], [.cells [vS ((gI l i).kind), vS ((gI l i).name), vL (((gI l i).parts).map prtAV)]], m)) (fun c => c = decide (0 ≤ idxF ((sub l 0 i).map ResT.name) ((gI l i).name))) (by decide +kernel) ?_ ?_
   · rintro c hy4
     refine an (fun h2 => ?_) (fun h2 => ?_)
     · refine rt0 rfl fun _ => ?_
       show K (.bool true) m
       have hc := of_decide_eq_true (hy4.symm.trans h2)
       rw [decide_eq_true (twice_t (f := ResT.name) hI.1 h1 hc)] at hK; exact hK
     refine an (by omega) ?_
     refine ⟨(i + 1), ⟨rfl, rfl⟩, ?_, ?_⟩
     · try dsimp only
       have hc := of_decide_eq_false (hy4.symm.trans h2)
       exact ⟨by omega, by omega, twice_f (f := ResT.name) hI.1 h1 hI.2.2 (Int.not_le.1 hc)⟩
     try dsimp only
     omega
   repeat' first
    | refine ⟨((decide (0 ≤ idxF ((sub l 0 i).map ResT.name) ((gI l i).name)))), ⟨rfl, rfl⟩, rfl⟩
    | refine sbq (fun _ => rfl) ⟨by (try dsimp only [Option.getD_none, Option.getD_some]); omega, by (try dsimp only [Option.getD_none, Option.getD_some]); omega, by omega⟩ ?_
    | refine call0 (fun _ => u_resourceName (gI l i)) rfl ?_
    | refine call0 (fun _ => u_findResource (sub l 0 i) ((gI l i).name)) rfl ?_
    | refine ⟨?_, ?_, trivial⟩
 refine rt0 rfl fun _ => ?_
 show K (.bool false) m
 rw [decide_eq_false (not_not_intro (by have := hI.2.2; rwa [take_full (by omega)] at this))] at hK; exact hK
theorem u_findOutput (l : List (Str × Exp)) (s : Str)  (m : AMem)  (K : AV → AMem → Prop) (hK : K (.int .i64 (idxF (l.map Prod.fst) s)) m) : ACalls Try.prog 28 [.slice false (l.map prtAV), .func (.func 18) [] [], .str s] m K := by
 refine enter (c := cf [] [0] [] [] [] []) (vs := [.av (.slice false (l.map prtAV)), .fn 18 [] [], .av (.str s)]) (L := []) (m := m) false tbOk Try.mixed Try.func28 rfl (k := 3) (by show fnOk [] _ _ _ = true; decide +kernel) rfl (Good.nil m) ?_
 refine ⟨fun F0 => ?_⟩
 have hbd0_0 : l.length ≤ 140737488355328 := bd_map (o := false) (F0 0).1
 refine sq ?_
 refine ln ?_
 refine lp (σ := Int) [] [1, 2, 9, 10, 11] 0 (fun i => ([(1, .fn 18 [] []), (2, vS s), (9, vL (l.map prtAV)), (10, vI (l.length : Int)), (11, vI i)], [], m)) (fun i => 0 ≤ i ∧ i ≤ l.length ∧ idxF (l.map Prod.fst) s = idxA ((l.drop i.toNat).map Prod.fst) s i) (fun i => l.length - i.toNat) (0) ⟨rfl, rfl⟩ ?_ ?_
 · try dsimp only
   exact ⟨by omega, by omega, rfl⟩
 rintro i hI
 refine sq ?_
 refine an (fun h1 => ?_) (fun h1 => ?_)
 · refine sq ?_
   refine ix (by omega) ?_
   refine call0 (fun _ => u_outputName (gI l i)) rfl ?_
   refine an (fun h2 => ?_) (fun h2 => ?_)
   · refine rt0 rfl fun _ => K_eq hK ?_
     show AV.int .i64 (idxF (l.map Prod.fst) s) = AV.int .i64 i
     refine congrArg (AV.int .i64) ?_
     rw [hI.2.2, idx_step hI.1 h1, if_pos h2]
   refine an (by omega) ?_
   refine ⟨(i + 1), ⟨rfl, rfl⟩, ?_, ?_⟩
   · try dsimp only
     exact ⟨by omega, by omega, by rw [hI.2.2, idx_step hI.1 h1, if_neg h2]⟩
   try dsimp only
   omega
 refine rt0 rfl fun _ => K_eq hK ?_
 show AV.int .i64 (idxF (l.map Prod.fst) s) = AV.int .i64 (-1)
 refine congrArg (AV.int .i64) ?_
 rw [hI.2.2, List.drop_eq_nil_of_le (by omega)]; rfl
theorem u_twiceOutput (l : List (Str × Exp))  (m : AMem)  (K : AV → AMem → Prop) (hK : K (.bool (decide (¬ (l.map Prod.fst).Nodup))) m) : ACalls Try.prog 17 [.slice false (l.map prtAV), .func (.func 18) [] []] m K := by
 refine enter (c := cf [] [0] [] [4999] [4] []) (vs := [.av (.slice false (l.map prtAV)), .fn 18 [] []]) (L := []) (m := m) false tbOk Try.mixed Try.func17 rfl (k := 2) (by show fnOk [4999] _ _ _ = true; decide +kernel) rfl (Good.nil m) ?_
 refine ⟨fun F0 => ?_⟩
 have hbd0_0 : l.length ≤ 140737488355328 := bd_map (o := false) (F0 0).1
 refine sq ?_
 refine ln ?_
 refine lp (σ := Int) [] [0, 1, 7, 8, 9] 0 (fun i => ([(0, vL (l.map prtAV)), (1, .fn 18 [] []), (7, vL (l.map prtAV)), (8, vI (l.length : Int)), (9, vI i)], [], m)) (fun i => 0 ≤ i ∧ i ≤ l.length ∧ ((l.take i.toNat).map Prod.fst).Nodup) (fun i => l.length - i.toNat) (0) ⟨rfl, rfl⟩ ?_ ?_
 · try dsimp only
   exact ⟨by omega, by omega, List.nodup_nil⟩
 rintro i hI
 refine sq ?_
 refine an (fun h1 => ?_) (fun h1 => ?_)
 · refine sq ?_
   refine ix ⟨by (try dsimp only [Option.getD_none, Option.getD_some]); omega, by omega⟩ ?_
   refine rgA tbOk Try.mixed (σ := Bool) (.f 0 (.f 1 (.f 3 (.f 4 (.o 2 (.s 5 (.s 6 (.s 7 (.s 8 .d)))) (.o 5 (.o 2 (.s 6 (.s 7 (.s 8 .d))) (.o 6 (.s 2 (.s 7 (.s 8 .d))) .z)) .z)))))) [(22, 0)] [0, 1, 7, 8, 9, 22] 1 (fun c => ([(0, vL (l.map prtAV)), (1, .fn 18 [] []), (7, vL (l.map prtAV)), (8, vI (l.length : Int)), (9, vI i), (22, vB c)], [.cells [vS ((gI l i).1), vI (((gI l i).2).kind), vI ((((gI l i).2).v).kind), vI ((((gI l i).2).v).n), vS ((((gI l i).2).v).s), vL (((((gI l i).2).v).l).map valIn), vL (((((gI l i).2).v).f).map fldIn), vS (((gI l i).2).s), vS (((gI l i).2).t), vL ((((gI l i).2).a).map expIn), vL ((((gI l i).2).n).map strAV)]], m)) (fun c => c = decide (0 ≤ idxF ((sub l 0 i).map Prod.fst) ((gI l i).1))) (by decide +kernel) ?_ ?_
   · rintro c hy4
     refine an (fun h2 => ?_) (fun h2 => ?_)
     · refine rt0 rfl fun _ => ?_
       show K (.bool true) m
       have hc := of_decide_eq_true (hy4.symm.trans h2)
       rw [decide_eq_true (twice_t (f := Prod.fst) hI.1 h1 hc)] at hK; exact hK
     refine an (by omega) ?_
     refine ⟨(i + 1), ⟨rfl, rfl⟩, ?_, ?_⟩
     · try dsimp only
       have hc := of_decide_eq_false (hy4.symm.trans h2)
       exact ⟨by omega, by omega, twice_f (f := Prod.fst) hI.1 h1 hI.2.2 (Int.not_le.1 hc)⟩
     try dsimp only
     omega
   repeat' first
    | refine ⟨((decide (0 ≤ idxF ((sub l 0 i).map Prod.fst) ((gI l i).1)))), ⟨rfl, rfl⟩, rfl⟩
    | refine sbq (fun _ => rfl) ⟨by (try dsimp only [Option.getD_none, Option.getD_some]); omega, by (try dsimp only [Option.getD_none, Option.getD_some]); omega, by omega⟩ ?_
    | refine call0 (fun _ => u_outputName (gI l i)) rfl ?_
    | refine call0 (fun _ => u_findOutput (sub l 0 i) ((gI l i).1)) rfl ?_
    | refine ⟨?_, ?_, trivial⟩
 refine rt0 rfl fun _ => ?_
 show K (.bool false) m
 rw [decide_eq_false (not_not_intro (by have := hI.2.2; rwa [take_full (by omega)] at this))] at hK; exact hK
end Go.Proofs
end
