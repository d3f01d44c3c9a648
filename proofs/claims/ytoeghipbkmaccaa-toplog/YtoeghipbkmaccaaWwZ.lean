/-
  The abstract layer, part 26: a region of an open order, every order walked, state by state.
-/
import Derived.Test.YtoeghipbkmaccaaWwY
namespace Go.Aw
open Go

/-- What is left of a region of an open order, over abstract frames. -/
def AAny (P : Program) (n : Nat) (ops : Array Oper) (fuel : Nat) (listed : Array Bool) (K : Fr → AMem → Prop) (fr : Fr) (m : AMem) : Prop :=
  ∀ F lim w ca Q, St F lim w n fr m ca [] → (∀ lim' w' fr' m' ca', K fr' m' → St F lim' w' n fr' m' ca' [] → Pres F w lim w' lim' → Q Exit.normal ca' w') → wpAny P .any ops Q fuel listed ca w

def allOf (p : Nat → Prop) : List Nat → Prop
  | [] => True
  | i :: r => p i ∧ allOf p r

theorem allOf_mem {p : Nat → Prop} : ∀ {l : List Nat}, allOf p l → ∀ i ∈ l, p i := by
  intro l
  induction l with
  | nil => intro _ i hi; cases hi
  | cons j l ih =>
    intro h i hi
    rcases List.mem_cons.1 hi with rfl | hi
    · exact h.1
    · exact ih h.2 i hi

section
variable {P : Program} {n : Nat} {fr : Fr} {m : AMem} {ops : Array Oper} {fuel : Nat} {listed : Array Bool} {K : Fr → AMem → Prop}

theorem AAny.done (hr : Region.ready .any ops listed = []) (h : K fr m) : AAny P n ops fuel listed K fr m := by
  intro F lim w ca Q st hq
  have := hq lim w fr m ca h st (.refl _ _ _)
  cases fuel with
  | zero => exact ⟨hr, this⟩
  | succ fuel => exact ⟨fun _ => this, fun i hi => by rw [hr] at hi; cases hi⟩

theorem AAny.keep (ks : List Nat) (hks : (ks.all fun t => decide (t < n)) = true) (h : AAny P n ops fuel listed K (fr.keep ks) m) : AAny P n ops fuel listed K fr m :=
  fun F lim w ca Q st hq => h F lim w ca Q (st.keep (by simpa using hks)) hq

theorem AAny.step (stl : List Nat) (rs : List Nat) (hr : Region.ready .any ops listed = rs) (hne : rs ≠ []) (hk : (ops.toList.all fun o => okOper n o && tmpsOk n o) = true)
    (h : allOf (fun i => match ops[i]? with | some o => aopsR P ops stl [o] (AAny P n ops fuel (listed.setIfInBounds i true) K) fr m | none => False) rs) : AAny P n ops (fuel + 1) listed K fr m := by
  intro F lim w ca Q st hq
  refine ⟨fun h0 => absurd (hr.symm.trans h0) hne, fun i hi => ?_⟩
  rw [hr] at hi
  have hs := allOf_mem h i hi
  unfold wpOp
  cases ho : ops[i]? with
  | none => rw [ho] at hs; exact hs.elim
  | some o =>
    rw [ho] at hs
    simp only at hs ⊢
    have hok : okOper n o = true ∧ tmpsOk n o = true := by
      have := List.all_eq_true.1 hk o (by rw [Array.mem_toList_iff]; exact Array.mem_of_getElem? ho)
      simpa using this
    have key : AOps P n ops [o] (AAny P n ops fuel (listed.setIfInBounds i true) K) fr m := aopsR_sound [o] (by simpa using hok) hs
    let Q' : Exit → Act → World → Prop := fun e a w' => match e with
      | .normal => wpAny P .any ops Q fuel (listed.setIfInBounds i true) a w'
      | e => Q e a w'
    have hw := key F lim w ca Q' st (fun lim' w' fr' m' ca' hA st' pr => hA F lim' w' ca' Q st' fun lim'' w'' fr'' m'' ca'' hK st'' pr' => hq lim'' w'' fr'' m'' ca'' hK st'' (pr.trans pr'))
    have conv : ∀ {C : Act → World → Prop}, o.wp P ca w C Q' → o.wp P ca w C Q := by
      intro C hC
      unfold Oper.wp at hC ⊢
      generalize (execOp ca.eval o).run P w = res at hC ⊢
      cases res with
      | ok s w' =>
        cases s with
        | enter f args =>
          refine hC.mono fun e w'' hh => ?_
          cases e <;> exact hh
        | _ => exact hC
      | _ => exact hC
    unfold wpList at hw
    split
    · next hwt =>
      rw [if_pos hwt] at hw
      rcases hw with hw | ⟨h1, h2⟩
      · exact .inl (conv hw)
      · refine .inr ⟨h1, ?_⟩
        exact h2
    · next hwt =>
      rw [if_neg hwt] at hw
      exact hw

theorem awp_any {id : Nat} {Q : Exit → Fr → AMem → Prop} (hm : P.follows .mixedOrders = true) (ks : List Nat) (hk : okAll n ops ks = true)
    (h : ∀ K : Fr → AMem → Prop, (∀ fr m, Q .normal fr m → K fr m) → AAny P n ops ops.size (Array.replicate ops.size false) (fun fr m => K (fr.keep ks) m) fr m) : AWP P n (.region id ops true) Q fr m := by
  intro F lim w ca st
  simp only [okAll, Bool.and_eq_true, List.all_eq_true] at hk
  refine wp_region_any hm ?_
  refine h _ (fun _ _ h => h) F lim _ ca _ (st.heap (w' := { w with drawn := w.drawn + 1 }) rfl) fun lim' w' fr' m' ca' hK st' pr => ?_
  exact ⟨lim', _, m', hK, st'.keep (fun t ht => by simpa using hk.2 t ht), (Pres.drew F w lim).trans pr⟩

theorem awp_any_seq {id : Nat} {c : Code} {Q : Exit → Fr → AMem → Prop} (hm : P.follows .mixedOrders = true) (ks : List Nat) (hk : okAll n ops ks = true)
    (h : ∀ K : Fr → AMem → Prop, (∀ fr m, AWP P n c Q fr m → K fr m) → AAny P n ops ops.size (Array.replicate ops.size false) (fun fr m => K (fr.keep ks) m) fr m) : AWP P n (.seq (.region id ops true) c) Q fr m :=
  awp_seq_k fun K hK => awp_any hm ks hk fun K' hK' => h K' fun fr m h => hK' _ _ (hK _ _ h)

/-- The same, what is left told by a letter. -/
theorem awp_anyA {id : Nat} {Q : Exit → Fr → AMem → Prop} (hm : P.follows .mixedOrders = true) (ks : List Nat) (hk : okAll n ops ks = true)
    (h : ∀ K : Fr → AMem → Prop, (∀ fr m, Q .normal fr m → K fr m) → ∀ A, A = AAny P n ops → A ops.size (Array.replicate ops.size false) (fun fr m => K (fr.keep ks) m) fr m) : AWP P n (.region id ops true) Q fr m :=
  awp_any hm ks hk fun K hK => h K hK _ rfl

theorem awp_anyA_seq {id : Nat} {c : Code} {Q : Exit → Fr → AMem → Prop} (hm : P.follows .mixedOrders = true) (ks : List Nat) (hk : okAll n ops ks = true)
    (h : ∀ K : Fr → AMem → Prop, (∀ fr m, AWP P n c Q fr m → K fr m) → ∀ A, A = AAny P n ops → A ops.size (Array.replicate ops.size false) (fun fr m => K (fr.keep ks) m) fr m) : AWP P n (.seq (.region id ops true) c) Q fr m :=
  awp_any_seq hm ks hk fun K hK => h K hK _ rfl

end
end Go.Aw
