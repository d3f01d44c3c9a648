/-
  The abstract layer, part 7: a function's text over abstract frames: its control, its calls, its operations that only read; and that what holds there holds of the real run.
-/
import Derived.Test.YtoeghipbkmaccaaWwF
namespace Go.Aw
open Go

def okOper (n : Nat) (o : Oper) : Bool := (match o.dst with | some d => decide (d < n) | none => true) && o.op.operands.toList.all opdOk

def okOps (n : Nat) (ops : Array Oper) : Bool := ops.toList.all (okOper n)

/-- What is left of a region, over abstract frames. -/
def AOps (P : Program) (n : Nat) (ops : Array Oper) (l : List Oper) (K : Fr → AMem → Prop) (fr : Fr) (m : AMem) : Prop :=
  ∀ F lim w ca Q, St F lim w n fr m ca [] → (∀ lim' w' fr' m' ca', K fr' m' → St F lim' w' n fr' m' ca' [] → Pres F w lim w' lim' → Q Exit.normal ca' w') → wpList P ops Q l ca w

def APost (F : Nat → Prop) (lim : Nat → Nat) (w : World) (n : Nat) (Q : Exit → Fr → AMem → Prop) : Exit → Act → World → Prop :=
  fun e ca' w' => ∃ lim' fr' m', Q e fr' m' ∧ St F lim' w' n fr' m' ca' [] ∧ Pres F w lim w' lim'

def AWP (P : Program) (n : Nat) (c : Code) (Q : Exit → Fr → AMem → Prop) (fr : Fr) (m : AMem) : Prop :=
  ∀ F lim w ca, St F lim w n fr m ca [] → c.wp P (APost F lim w n Q) ca w

def AThen (next : Fr → AMem → Prop) (Q : Exit → Fr → AMem → Prop) : Exit → Fr → AMem → Prop
  | .normal, fr, m => next fr m
  | e, fr, m => Q e fr m

def AInBlock (id : Nat) (Q : Exit → Fr → AMem → Prop) : Exit → Fr → AMem → Prop
  | .exit id', fr, m => if id' = id then Q .normal fr m else Q (.exit id') fr m
  | e, fr, m => Q e fr m

def noAct : Act := ⟨#[], []⟩

/-- A call: whatever the arguments are that read as 'args' over memory that reads as 'm', it returns, and 'K' holds of what it returns and of memory then. -/
def ACalls (P : Program) (f : FuncId) (args : List AV) (m : AMem) (K : AV → AMem → Prop) : Prop :=
  (∃ fn, P.funcs[f]? = some fn ∧ fn.body.isSome = true ∧ (fn.name == "runtime.NumGoroutine") = false) ∧
  ∀ F lim w (cargs : Array Value), cargs.size = args.length → (∀ i, i < args.length → Rep w lim (cargs.getD i undef) (args.getD i .junk) []) → St F lim w 0 [] m noAct [] →
    Calls P f cargs w fun e w' => ∃ v x lim' m' os, e = .returned v ∧ K x m' ∧ Rep w' lim' v x os ∧ St F lim' w' 0 [] m' noAct os ∧ Pres F w lim w' lim'

theorem ACalls.mono {P : Program} {f : FuncId} {args : List AV} {m : AMem} {K K' : AV → AMem → Prop} (h : ACalls P f args m K) (hk : ∀ x m', K x m' → K' x m') : ACalls P f args m K' :=
  ⟨h.1, fun F lim w cargs h1 h2 h3 => (h.2 F lim w cargs h1 h2 h3).mono fun e w' ⟨v, x, lim', m', os, he, hK, r⟩ => ⟨v, x, lim', m', os, he, hk _ _ hK, r⟩⟩

section
variable {P : Program} {n : Nat} {Q : Exit → Fr → AMem → Prop} {fr : Fr} {m : AMem}

theorem AWP.mono {c : Code} {Q' : Exit → Fr → AMem → Prop} (h : AWP P n c Q fr m) (hq : ∀ e fr m, Q e fr m → Q' e fr m) : AWP P n c Q' fr m :=
  fun F lim w ca st => wp_mono (h F lim w ca st) fun e a w ⟨lim', fr', m', q, r⟩ => ⟨lim', fr', m', hq _ _ _ q, r⟩

theorem APost.from {F : Nat → Prop} {lim lim' : Nat → Nat} {w w' : World} (hp : Pres F w lim w' lim') {e : Exit} {a : Act} {w'' : World} (h : APost F lim' w' n Q e a w'') : APost F lim w n Q e a w'' := by
  obtain ⟨l, f, m, q, st, pr⟩ := h
  exact ⟨l, f, m, q, st, hp.trans pr⟩

theorem awp_skip (h : Q .normal fr m) : AWP P n .skip Q fr m := fun F lim w ca st => wp_skip ⟨lim, fr, m, h, st, .refl _ _ _⟩
theorem awp_ret (h : Q .ret fr m) : AWP P n .ret Q fr m := fun F lim w ca st => wp_ret ⟨lim, fr, m, h, st, .refl _ _ _⟩
theorem awp_exit {id : Nat} (h : Q (.exit id) fr m) : AWP P n (.exit id) Q fr m := fun F lim w ca st => wp_exit ⟨lim, fr, m, h, st, .refl _ _ _⟩

theorem awp_seq {x y : Code} (h : AWP P n x (AThen (AWP P n y Q) Q) fr m) : AWP P n (.seq x y) Q fr m := fun F lim w ca st =>
  wp_seq (wp_mono (h F lim w ca st) fun e a w' ⟨lim', fr', m', q, st', pr⟩ => by
    cases e with
    | normal => exact wp_mono (q F lim' w' a st') fun e a w'' h => h.from pr
    | _ => exact ⟨lim', fr', m', q, st', pr⟩)

/-- The same, what stands behind it out of sight. -/
theorem awp_seq_k {x y : Code} (h : ∀ K : Fr → AMem → Prop, (∀ fr m, AWP P n y Q fr m → K fr m) → AWP P n x (AThen K Q) fr m) : AWP P n (.seq x y) Q fr m :=
  awp_seq (h _ fun _ _ h => h)

theorem awp_block {id : Nat} {c : Code} (h : AWP P n c (AInBlock id Q) fr m) : AWP P n (.block id c) Q fr m := fun F lim w ca st =>
  wp_block (wp_mono (h F lim w ca st) fun e a w' ⟨lim', fr', m', q, st', pr⟩ => by
    cases e with
    | exit id' =>
      simp only [Exit.inBlock, AInBlock] at q ⊢
      split at q
      · rename_i h; rw [if_pos h]; exact ⟨lim', fr', m', q, st', pr⟩
      · rename_i h; rw [if_neg h]; exact ⟨lim', fr', m', q, st', pr⟩
    | _ => exact ⟨lim', fr', m', q, st', pr⟩)

theorem awp_cond {c : Operand} {x y : Code} {b : Bool} (hc : ev fr c = .bool b) (hk : opdOk c = true) (ht : b = true → AWP P n x Q fr m) (hf : b = false → AWP P n y Q fr m) : AWP P n (.cond c x y) Q fr m := fun F lim w ca st => by
  obtain ⟨_, hr, rfl⟩ := ev_rep st hk
  rw [hc] at hr
  exact wp_cond_split (rep_bool_inv hr) (fun h => ht h F lim w ca st) (fun h => hf h F lim w ca st)

theorem awp_loop {c : Code} (I : Fr → AMem → Prop) (μ : Fr → AMem → Nat) (h0 : I fr m) (h : ∀ fr m, I fr m → AWP P n c (AThen (fun fr' m' => I fr' m' ∧ μ fr' m' < μ fr m) Q) fr m) : AWP P n (.loop c) Q fr m := fun F lim w ca st => by
  refine wp_loop_rounds (μ fr m + 1) ?_
  have key : ∀ N fr' m' lim' w' ca', μ fr' m' < N → I fr' m' → St F lim' w' n fr' m' ca' [] → Pres F w lim w' lim' → Code.rounds P c (APost F lim w n Q) N ca' w' := by
    intro N
    induction N with
    | zero => intro fr' m' lim' w' ca' hlt; omega
    | succ N ih =>
      intro fr' m' lim' w' ca' hlt hI st' pr
      refine wp_mono (h fr' m' hI F lim' w' ca' st') fun e a w'' ⟨lim'', fr'', m'', q, st'', pr'⟩ => ?_
      cases e with
      | normal => exact ih fr'' m'' lim'' w'' a (by have := q.2; omega) q.1 st'' (pr.trans pr')
      | _ => exact ⟨lim'', fr'', m'', q, st'', pr.trans pr'⟩
  exact key _ fr m lim w ca (Nat.lt_succ_self _) h0 st (.refl _ _ _)

theorem awp_region {id : Nat} {ops : Array Oper} (ks : List Nat) (hks : (ks.all fun t => decide (t < n)) = true) (h : AOps P n ops ops.toList (fun fr m => Q .normal (fr.keep ks) m) fr m) : AWP P n (.region id ops false) Q fr m := fun F lim w ca st =>
  wp_region_list (h F lim w ca _ st fun lim' w' fr' m' ca' q st' pr => ⟨lim', _, m', q, st'.keep (by simpa using hks), pr⟩)

theorem AOps.nil {ops : Array Oper} {K : Fr → AMem → Prop} (h : K fr m) : AOps P n ops [] K fr m := fun F lim w ca Q st hq => wpList_nil (hq lim w fr m ca h st (.refl _ _ _))

theorem AOps.from {ops : Array Oper} {l : List Oper} {K : Fr → AMem → Prop} {fr' : Fr} {m' : AMem} (h : AOps P n ops l K fr' m') {F : Nat → Prop} {lim lim' : Nat → Nat} {w w' : World} {ca' : Act} {Q : Exit → Act → World → Prop}
    (hq : ∀ lim' w' fr' m' ca', K fr' m' → St F lim' w' n fr' m' ca' [] → Pres F w lim w' lim' → Q Exit.normal ca' w') (st : St F lim' w' n fr' m' ca' []) (pr : Pres F w lim w' lim') : wpList P ops Q l ca' w' :=
  h F lim' w' ca' Q st fun lim'' w'' fr'' m'' ca'' hk st' pr' => hq lim'' w'' fr'' m'' ca'' hk st' (pr.trans pr')

/-- An operation that always runs: what it does, then the rest. -/
theorem AOps.step {ops : Array Oper} {o : Oper} {l : List Oper} {K : Fr → AMem → Prop} (hg : o.guard = none)
    (h : ∀ F lim w ca, St F lim w n fr m ca [] → ∀ (next : Act → World → Prop) Q, (∀ lim' w' fr' m' ca', AOps P n ops l K fr' m' → St F lim' w' n fr' m' ca' [] → Pres F w lim w' lim' → next ca' w') → o.wp P ca w next Q) : AOps P n ops (o :: l) K fr m :=
  fun F lim w ca Q st hq => wpList_plain hg fun next hn => h F lim w ca st next Q fun _ _ _ _ _ hr st' pr => hn _ _ (hr.from hq st' pr)

theorem wp_of_value {o : Oper} {ca : Act} {w w' : World} {v : Value} {next : Act → World → Prop} {Q : Exit → Act → World → Prop} (h : (execOp ca.eval o).run P w = .ok (.value v) w') (hn : next (ca.put o.dst v) w') : o.wp P ca w next Q := by
  unfold Oper.wp; rw [h]; exact hn

theorem wp_of_skip {o : Oper} {ca : Act} {w w' : World} {next : Act → World → Prop} {Q : Exit → Act → World → Prop} (h : (execOp ca.eval o).run P w = .ok .skip w') (hn : next (ca.put o.dst undef) w') : o.wp P ca w next Q := by
  unfold Oper.wp; rw [h]; exact hn

theorem okOper_dst {o : Oper} {d : Nat} (h : okOper n o = true) (hd : o.dst = some d) : d < n := by
  simp [okOper, hd] at h; exact h.1

theorem okOper_opd {o : Oper} (h : okOper n o = true) : ∀ y ∈ o.op.operands.toList, opdOk y = true := by
  simp only [okOper, Bool.and_eq_true, List.all_eq_true] at h; exact h.2

theorem St.memRep {F : Nat → Prop} {lim : Nat → Nat} {w : World} {ca : Act} {fl : List Nat} (st : St F lim w n fr m ca fl) : ∀ b ob, m b = some ob → ∃ os, MRep w lim b ob os := by
  obtain ⟨os, om, ow, h⟩ := st
  exact fun b ob hb => ⟨om b, (h.mem b ob hb).1⟩

/-- An operation that only reads. -/
theorem AOps.quiet {ops : Array Oper} {o : Oper} {l : List Oper} {K : Fr → AMem → Prop} {d : Nat} {side : Prop} {x : AV} (hg : o.guard = none) (hd : o.dst = some d) (hk : okOper n o = true)
    (h : qv P m (ev fr) o.op = some (side, x)) (hs : side) (hr : AOps P n ops l K (fr.put d x) m) : AOps P n ops (o :: l) K fr m := by
  refine AOps.step hg fun F lim w ca st next Q hn => ?_
  obtain ⟨v, h1, h2⟩ := qv_sound (P := P) (w := w) (lim := lim) h hs (ca := ca) (fun y hy => by
    obtain ⟨_, hr, rfl⟩ := ev_rep st (okOper_opd hk y hy); exact hr) st.memRep
  exact wp_of_value h1 (hn lim w _ m _ hr (by rw [hd]; exact st.set (okOper_dst hk hd) h2) (.refl _ _ _))

end
end Go.Aw
