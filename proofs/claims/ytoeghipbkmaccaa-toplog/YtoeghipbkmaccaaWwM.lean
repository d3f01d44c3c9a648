/-
  The abstract layer, part 13: every operation does what 'ares' says.
-/
import Derived.Test.YtoeghipbkmaccaaWwL
namespace Go.Aw
open Go

section
variable {P : Program} {F : Nat → Prop} {lim : Nat → Nat} {w : World} {n : Nat} {fr : Fr} {m : AMem} {ca : Act} {fl : List Nat}

theorem strip_nil : fr.strip [] = fr := rfl
theorem strip_one (s : Nat) : fr.strip [s] = fr.put s (rawOf fr s).plain := rfl

/-- What a slot owns is taken, whatever it is. -/
theorem St.takeRaw (h : St F lim w n fr m ca []) (s : Nat) (hs : s < n) : ∃ os, St F lim w n (fr.strip [s]) m ca os ∧ Rep w lim (ca.tmps.getD s undef) (rawOf fr s) os := by
  cases hg : fr.get s with
  | some x =>
    obtain ⟨os, h1, h2⟩ := h.take hg
    refine ⟨os, ?_, ?_⟩
    · rw [strip_one]; simpa [rawOf, hg] using h1
    · simpa [rawOf, hg] using h2
  | none =>
    refine ⟨[], ?_, by simp [rawOf, hg]; exact .junk _⟩
    rw [strip_one]
    refine h.sub fun t x hx => ?_
    rw [Fr.get_put] at hx
    by_cases e : s = t
    · subst e
      simp [rawOf, hg, AV.plain] at hx
      exact .inr ⟨hx.symm, hs⟩
    · rw [if_neg e] at hx; exact .inl hx

/-- The same of an operand. -/
theorem St.takeOpd (h : St F lim w n fr m ca []) (y : Operand) (hy : opdOk y = true) (hs : ∀ t, y = .tmp t → t < n) : ∃ os, St F lim w n (fr.strip (slotOf y)) m ca os ∧ Rep w lim (ca.eval y) (evR (rawOf fr) y) os := by
  cases y with
  | tmp t => exact h.takeRaw t (hs t rfl)
  | const v => exact ⟨[], h, rep_cval hy⟩
  | global g => exact ⟨[], h, .ptr _⟩
  | func f => exact ⟨[], h, .func _ #[] #[] [] [] rfl rfl (by simp) (by simp)⟩

theorem evP_rep (h : St F lim w n fr m ca fl) {x : Operand} (hx : opdOk x = true) : Rep w lim (ca.eval x) (evP (rawOf fr) x) [] := by
  rw [evP_eq]
  obtain ⟨_, hr, rfl⟩ := ev_rep h hx
  exact hr

def ValOk (P : Program) (F : Nat → Prop) (lim : Nat → Nat) (w : World) (n : Nat) (ca : Act) (o : Oper) (fr' : Fr) (m' : AMem) (x : AV) : Prop :=
  ∃ v w' lim' os, (execOp ca.eval o).run P w = .ok (.value v) w' ∧ St F lim' w' n fr' m' ca os ∧ Rep w' lim' v x os ∧ Pres F w lim w' lim'

theorem ares_qv {o : Oper} {side : Prop} {x : AV} (h : qv P m (evP (rawOf fr)) o.op = some (side, x)) (hs : side) (st : St F lim w n fr m ca []) (hk : okOper n o = true) : ValOk P F lim w n ca o fr m x := by
  obtain ⟨v, h1, h2⟩ := qv_sound (P := P) (w := w) (lim := lim) h hs (ca := ca) (fun y hy => evP_rep st (okOper_opd hk y hy)) st.memRep
  exact ⟨v, w, lim, [], h1, st, h2, .refl _ _ _⟩

theorem ares_default {stl : List Nat} {o : Oper} {side : Prop} {ss : List Nat} {m' : AMem} {x : AV} (h : (match qv P m (evP (rawOf fr)) o.op with | some (side, x) => ARes.val side [] m x | none => .stuck) = .val side ss m' x) (hs : side)
    (st : St F lim w n fr m ca []) (hk : okOper n o = true) : ValOk P F lim w n ca o (fr.strip ss) m' x := by
  cases hq : qv P m (evP (rawOf fr)) o.op with
  | none => simp [hq] at h
  | some p =>
    obtain ⟨sd, y⟩ := p
    simp only [hq, ARes.val.injEq] at h
    obtain ⟨rfl, rfl, rfl, rfl⟩ := h
    exact ares_qv hq hs st hk

theorem tuple_part {v : Value} {l : List AV} {os : List Nat} (h : Rep w lim v (.tuple l) os) {i : Nat} (hi : i < l.length) : ∃ cs : Array Value, ∃ osi : List Nat, v = .tuple cs ∧ i < cs.size ∧ Rep w lim (cs.getD i undef) (l.getD i .junk) osi ∧ (∀ c ∈ osi, c ∈ os) ∧ (os.Nodup → osi.Nodup) := by
  cases h with
  | tuple cs _ oss h hr => exact ⟨cs, oss i, rfl, by omega, hr i hi, fun c hc => mem_flatMap_range.2 ⟨i, hi, hc⟩, fun hn => (nodup_flatMap_range hn).1 i hi⟩

theorem okOper_tmp {o : Oper} {t : Nat} (hk : okOper n o = true) (hn : (o.op.operands.toList.all fun y => match y with | .tmp t => decide (t < n) | _ => true) = true) (ht : Operand.tmp t ∈ o.op.operands.toList) : t < n := by
  rw [List.all_eq_true] at hn
  simpa using hn _ ht

set_option maxHeartbeats 2000000 in
theorem ares_val {stl : List Nat} {o : Oper} {side : Prop} {ss : List Nat} {m' : AMem} {x : AV} (h : ares P m (rawOf fr) stl o.dst o.op = .val side ss m' x) (hs : side) (st : St F lim w n fr m ca []) (hk : okOper n o = true)
    (hn : (o.op.operands.toList.all fun y => match y with | .tmp t => decide (t < n) | _ => true) = true) : ValOk P F lim w n ca o (fr.strip ss) m' x := by
  have ht : ∀ t, Operand.tmp t ∈ o.op.operands.toList → t < n := fun t => okOper_tmp hk hn
  have hopd := okOper_opd hk
  have taken : ∀ s, s < n → (∀ a : Act, execOp a.eval o = pure (.value (a.eval (.tmp s)))) → ValOk P F lim w n ca o (fr.strip [s]) m (rawOf fr s) := fun s hsn he => by
    obtain ⟨os, h1, h2⟩ := st.takeRaw s hsn
    exact ⟨ca.eval (.tmp s), w, lim, os, by rw [he ca]; rfl, h1, h2, .refl _ _ _⟩
  unfold ares at h
  split at h
  · next s hop =>
    simp only [ARes.val.injEq] at h
    obtain ⟨rfl, rfl, rfl, rfl⟩ := h
    exact taken s (ht s (by rw [hop]; simp [Op.operands])) (fun a => by simp [execOp, hop])
  · next s hop =>
    split at h
    · simp only [ARes.val.injEq] at h
      obtain ⟨rfl, rfl, rfl, rfl⟩ := h
      exact taken s (ht s (by rw [hop]; simp [Op.operands])) (fun a => by simp [execOp, hop])
    · simp only [ARes.val.injEq] at h
      obtain ⟨rfl, rfl, rfl, rfl⟩ := h
      exact ares_qv (by rw [hop]; rfl) trivial st hk
  · next s i hop =>
    split at h
    · next l hl =>
      split at h
      · simp only [ARes.val.injEq] at h
        obtain ⟨rfl, rfl, rfl, rfl⟩ := h
        obtain ⟨os, h1, h2⟩ := st.takeRaw s (ht s (by rw [hop]; simp [Op.operands]))
        rw [hl] at h2
        obtain ⟨cs, osi, he, hics, hr, hsub, hnd⟩ := tuple_part h2 hs
        refine ⟨cs.getD i undef, w, lim, osi, ?_, h1.flSub (hnd h1.flNodup) hsub, hr, .refl _ _ _⟩
        simp [execOp, hop, Act.eval, he, Instr.extract, hics]
      · simp only [ARes.val.injEq] at h
        obtain ⟨rfl, rfl, rfl, rfl⟩ := h
        show ValOk P F lim w n ca o fr m _
        refine ares_qv (fr := fr) (side := i < (AV.plainL l).length) ?_ (by simpa [AV.plainL_eq] using hs) st hk
        rw [hop]
        have hg := getD_map_plain l i
        simp only [qv, evP, hl, AV.plain, hg]
    · cases h
  · next t y hop =>
    split at h
    · split at h
      · next b off hev =>
        split at h
        · next l hm =>
          simp only [ARes.val.injEq] at h
          obtain ⟨rfl, rfl, rfl, rfl⟩ := h
          obtain ⟨hu, hag, hoff⟩ := hs
          have hy := evP_rep st (hopd y (by rw [hop]; simp [Op.operands]))
          rw [hev] at hy
          obtain ⟨v, os, h1, h2, h3⟩ := st.takeMem hm hoff
          refine ⟨v, w, lim, os, ?_, h2, h3, .refl _ _ _⟩
          simp [execOp, hop, rep_ptr_inv hy, Instr.loadAt, Instr.sureAddr, loadVar, run_isAgg hu, hag, h1]
        · cases h
      · cases h
    · exact ares_default (stl := stl) (by rw [hop]; exact h) hs st hk
  · split at h
    · split at h <;> cases h
    · cases h
  · cases h
  · split at h <;> cases h
  · split at h
    · split at h <;> cases h
    · cases h
  · split at h <;> cases h
  · next t parts hop =>
    split at h
    · cases h
    · split at h
      · next fs z hu hz =>
        split at h
        · next cells hf =>
          simp only [ARes.val.injEq] at h
          obtain ⟨rfl, rfl, rfl, rfl⟩ := h
          obtain ⟨h1, h2, h3⟩ := hs
          obtain ⟨v, h4, h5⟩ := build_sound (P := P) (w := w) (lim := lim) (ca := ca) hu hz h1 h2 hf (fun p hp => evP_rep st (hopd p.2 (by rw [hop]; simp [Op.operands]; exact ⟨p.1, by simpa using hp⟩))) h3
          exact ⟨v, w, lim, [], by simp [execOp, hop, h4], st, h5, .refl _ _ _⟩
        · cases h
      · cases h
  · next t len parts hop =>
    split at h
    · cases h
    · split at h
      · next e hu =>
        simp only [ARes.val.injEq] at h
        obtain ⟨rfl, rfl, rfl, rfl⟩ := h
        obtain ⟨h1, h2, h3, h4, h5, h6⟩ := hs
        obtain ⟨v, w', lim', os, r1, r2, r3, r4⟩ := buildSlice_sound (P := P) st hu h2 h3 h4 h5 (a := evP (rawOf fr)) (fun p hp => evP_rep st (hopd p.2 (by rw [hop]; simp [Op.operands]; exact ⟨p.1, by simpa using hp⟩))) h6
        exact ⟨v, w', lim', os, by simp [execOp, hop, r1], r2, r3, r4⟩
      · cases h
  · next args ts hop =>
    split at h
    · next s y t u hargs hts =>
      split at h
      · next e e' l own l' hu hu' hraw hev =>
        simp only [ARes.val.injEq] at h
        obtain ⟨rfl, rfl, rfl, rfl⟩ := h
        obtain ⟨rfl, h1, h2, h3, h4, h5, h6, h7⟩ := hs
        have hmem : ∀ z ∈ args.toList, z ∈ o.op.operands.toList := fun z hz => by rw [hop]; simpa [Op.operands, Call.operands] using hz
        obtain ⟨os, s1, s2⟩ := st.takeRaw s (ht s (hmem _ (by rw [hargs]; simp)))
        rw [hraw] at s2
        have hy := evP_rep st (hopd y (hmem _ (by rw [hargs]; simp)))
        rw [hev] at hy
        have hy' : Rep w lim (ca.eval y) (.slice false l') [] := by simpa [AV.plain] using hy.plain
        obtain ⟨v, w', lim', os', r1, r2, r3, r4⟩ := append_sound (P := P) (ty := o.type) s1 hu h3 h2 s2 hy' h4 h5 h6 h7
        refine ⟨v, w', lim', os', ?_, r2, r3, r4⟩
        have e1 : args.map ca.eval = #[ca.eval (.tmp s), ca.eval y] := by apply Array.ext'; simp [hargs]
        have e2 : ts = #[t, t] := by apply Array.ext'; simp [hts]
        simp only [execOp, hop, resolve, invoke, builtin, Sem.run_bind, Sem.run_pure, Result.andThen_ok, e1, e2]
        simp only [Act.eval] at r1 ⊢
        rw [r1]; rfl
      · cases h
    · next y t u hargs hts =>
      split at h
      · next e e' own l' hu hu' hev =>
        simp only [ARes.val.injEq] at h
        obtain ⟨rfl, rfl, rfl, rfl⟩ := h
        obtain ⟨rfl, h1, h2, h3, h4, h5⟩ := hs
        have hmem : ∀ z ∈ args.toList, z ∈ o.op.operands.toList := fun z hz => by rw [hop]; simpa [Op.operands, Call.operands] using hz
        have hy := evP_rep st (hopd y (hmem _ (by rw [hargs]; simp)))
        rw [hev] at hy
        have hy' : Rep w lim (ca.eval y) (.slice false l') [] := by simpa [AV.plain] using hy.plain
        obtain ⟨aa, cc, _, hbig⟩ := rep_slice_len hy'
        obtain ⟨v, w', lim', os', r1, r2, r3, r4⟩ := append_sound (P := P) (ty := o.type) st hu h3 h2 (.nils true) hy' (by simpa using h4) (by simpa using hbig) (by simp) h5
        refine ⟨v, w', lim', os', ?_, r2, by simpa using r3, r4⟩
        have e1 : args.map ca.eval = #[.slice none 0 0, ca.eval y] := by apply Array.ext'; simp [hargs, Act.eval]
        have e2 : ts = #[t, t] := by apply Array.ext'; simp [hts]
        simp only [execOp, hop, resolve, invoke, builtin, Sem.run_bind, Sem.run_pure, Result.andThen_ok, e1, e2]
        rw [r1]; rfl
      · cases h
    · cases h
  · cases h
  · split at h <;> cases h
  · exact ares_default (stl := stl) h hs st hk

end
end Go.Aw
