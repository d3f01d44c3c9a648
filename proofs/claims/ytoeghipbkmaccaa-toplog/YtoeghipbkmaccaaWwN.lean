/-
  The abstract layer, part 14: stores, new blocks, calls; and all of it together.
-/
import Derived.Test.YtoeghipbkmaccaaWwM
namespace Go.Aw
open Go

section
variable {P : Program} {F : Nat → Prop} {lim : Nat → Nat} {w : World} {n : Nat} {fr : Fr} {m : AMem} {ca : Act} {fl : List Nat}

def tmpsOk (n : Nat) (o : Oper) : Bool := o.op.operands.toList.all fun y => match y with | .tmp t => decide (t < n) | _ => true

theorem tmpsOk_lt {o : Oper} (hn : tmpsOk n o = true) {y : Operand} (hy : y ∈ o.op.operands.toList) : ∀ t, y = .tmp t → t < n := by
  intro t ht
  subst ht
  simp only [tmpsOk, List.all_eq_true] at hn
  simpa using hn _ hy

set_option maxHeartbeats 2000000 in
theorem ares_eff {stl : List Nat} {o : Oper} {side : Prop} {ss : List Nat} {m' : AMem} (h : ares P m (rawOf fr) stl o.dst o.op = .eff side ss m') (hs : side) (st : St F lim w n fr m ca []) (hk : okOper n o = true) (hn : tmpsOk n o = true) :
    ∃ w' lim', (execOp ca.eval o).run P w = .ok .skip w' ∧ St F lim' w' n (fr.strip ss) m' ca [] ∧ Pres F w lim w' lim' := by
  have hopd := okOper_opd hk
  unfold ares at h
  split at h
  case h_5 t a x hop =>
    split at h
    · next b off hev =>
      split at h
      · next l hm =>
        simp only [ARes.eff.injEq] at h
        obtain ⟨rfl, rfl, rfl⟩ := h
        obtain ⟨h1, h2, h3, h4, h5⟩ := hs
        have ha := evP_rep st (hopd a (by rw [hop]; simp [Op.operands]))
        rw [hev] at ha
        obtain ⟨os, s1, s2⟩ := st.takeOpd x (hopd x (by rw [hop]; simp [Op.operands])) (tmpsOk_lt hn (by rw [hop]; simp [Op.operands]))
        obtain ⟨oss, c1, c2, c3⟩ := rep_cells s2 h1
        obtain ⟨os', hM⟩ := st.memRep b _ hm
        obtain ⟨cs, e, _, hbl, hsz, _⟩ := mrep_cells_inv hM
        rw [← h3] at h5
        have hvl : (ca.eval x).cells.toList.length = (evR (rawOf fr) x).cells.length := by simpa using c1
        obtain ⟨r1, r2⟩ := s1.storeMem (vs := (ca.eval x).cells.toList) hm hbl h5 hvl (fun i hi => by
          have := c2 i hi
          simpa [Array.getD_eq_getD_getElem?, List.getD_eq_getElem?_getD] using this) c3
        have hone : ∀ v ∈ (ca.eval x).cells.toList, v.oneCell' = true := fun v hv => by
          obtain ⟨k, hk1, rfl⟩ := List.mem_iff_getElem.1 hv
          have hk2 : k < (evR (rawOf fr) x).cells.length := by omega
          have := c2 k hk2
          have hg : (ca.eval x).cells.getD k undef = (ca.eval x).cells.toList[k] := by
            simp [Array.getD_eq_getD_getElem?, show k < (ca.eval x).cells.size from by simpa using hk1]
          rw [hg] at this
          exact one_cell_of h2 hk2 this
        have hst := run_storeCells_at P b off e (ca.eval x).cells.toList 0 cs w hbl (by simp [hsz]; omega) hone
        simp only [Nat.add_zero] at hst
        rw [← h3]
        refine ⟨_, lim, ?_, r1, r2⟩
        simp only [execOp, hop, rep_ptr_inv ha, Instr.storeAt, Instr.sureAddr, storeVar, Sem.run_bind, Sem.run_pure, Result.andThen_ok, run_size h4]
        have hne : ¬ (ca.eval x).cells.size ≠ P.cellsOf t := by rw [c1, h3]; simp
        simp only [hne, if_false, Sem.run_bind, Sem.run_pure, Result.andThen_ok, hst]
      · cases h
    · cases h
  all_goals first
    | cases h
    | (split at h <;> cases h)
    | (split at h <;> (first | cases h | (split at h <;> first | cases h | (split at h <;> cases h))))

theorem flatten_getD (k s : Nat) (z : List AV) (hz : z.length = s) (hs : 0 < s) : ∀ i, i < k * s → (List.replicate k z).flatten.getD i .junk = z.getD (i % s) .junk := by
  induction k with
  | zero => intro i hi; omega
  | succ k ih =>
    intro i hi
    rw [List.replicate_succ, List.flatten_cons]
    by_cases h : i < s
    · rw [getD_append_lt (by omega), Nat.mod_eq_of_lt h]
    · rw [getD_append_ge (by omega), hz, ih (i - s) (by rw [Nat.add_mul] at hi; omega)]
      rw [← Nat.mod_eq_sub_mod (by omega : s ≤ i)]

def NewOk (P : Program) (F : Nat → Prop) (lim : Nat → Nat) (w : World) (n : Nat) (ca : Act) (o : Oper) (fr' : Fr) (m : AMem) (mk : Nat → AV) (ob : AObj) : Prop :=
  ∃ v w' b, (execOp ca.eval o).run P w = .ok (.value v) w' ∧ m b = none ∧ St F lim w' n fr' (m.upd b (some ob)) ca [] ∧ Rep w' lim v (mk b) [] ∧ Pres F w lim w' lim

theorem pres_new (st : St F lim w n fr m ca fl) (o : Obj) : Pres F w lim (w.alloc o) lim := by
  have hP := Pres.alloc st o 0
  have hz := st.lim_new
  have hlim : (fun b => if b = w.heap.size then 0 else lim b) = lim := by funext b; by_cases hb : b = w.heap.size <;> simp [hb, hz]
  rwa [hlim] at hP

theorem st_newMap (st : St F lim w n fr m ca []) : m w.heap.size = none ∧ St F lim (w.alloc (.map #[] 0)) n fr (m.upd w.heap.size (some (.map []))) ca [] := by
  have hP := pres_new st (.map #[] 0)
  have hz := st.lim_new
  have hF : ¬ F w.heap.size := fun hf => absurd (st.lt_of_F hf) (Nat.lt_irrefl _)
  have hm : m w.heap.size = none := by
    cases hb : m w.heap.size with
    | none => rfl
    | some o => exact absurd (st.lt_of_mem (b := w.heap.size) (by rw [hb]; simp)) (Nat.lt_irrefl _)
  have hA := st.alloc (.map #[] 0) 0
  have hlim : (fun b => if b = w.heap.size then 0 else lim b) = lim := by funext b; by_cases hb : b = w.heap.size <;> simp [hb, hz]
  rw [hlim] at hA
  refine ⟨hm, ?_⟩
  obtain ⟨os, om, ow, h⟩ := st
  have hlt : ∀ c, ow c ≠ .none → c < w.heap.size := fun c hc => (h.free c hc).2.2
  refine ⟨os, fun b i => if b = w.heap.size then [] else om b i, ow, h.size, h.defers, fun t x hx => ⟨(h.slots t x hx).1, (h.slots t x hx).2.stable hP.mono hP.cell (fun c hc => ⟨heapOld w _ c (hlt c (by rw [(h.ownS t x hx).2 c hc]; simp)), rfl⟩)⟩, fun b o hb => ?_, h.ownS, fun b o hb i => ?_, h.ownF, fun c hc => ?_, fun b hb => ?_⟩
  · by_cases hbw : b = w.heap.size
    · subst hbw
      simp only [AMem.upd, ↓reduceIte, Option.some.injEq] at hb ⊢
      subst hb
      exact ⟨.map #[] 0 [] (heapNew w _) rfl (by simp) (fun i hi => by simp at hi) (fun i hi => by simp at hi) (fun i j _ hj => by simp at hj) (fun i hi => by simp at hi) _, hz, hF⟩
    · simp only [AMem.upd, if_neg hbw] at hb ⊢
      have hlt' : b < w.heap.size := by
        rcases Nat.lt_or_ge b w.heap.size with hb' | hb'
        · exact hb'
        · have := (h.fresh b hb').2.2; rw [hb] at this; cases this
      have hbn : ¬ b = w.heap.size := hbw
      exact ⟨(h.mem b o hb).1.stable (heapOld w _ b hlt') hP.mono hP.cell (fun i c hc => ⟨heapOld w _ c (hlt c (by rw [(h.ownM b o hb i).2 c hc]; simp)), rfl⟩), (h.mem b o hb).2⟩
  · by_cases hbw : b = w.heap.size
    · subst hbw
      simp
    · simp only [AMem.upd, if_neg hbw] at hb ⊢
      exact h.ownM b o hb i
  · have := h.free c hc
    refine ⟨this.1, ?_, by simp; omega⟩
    simp only [AMem.upd]
    rw [if_neg (by omega)]
    exact this.2.1
  · simp at hb
    have := h.fresh b (by omega)
    refine ⟨this.1, this.2.1, ?_⟩
    simp only [AMem.upd]
    rw [if_neg (by omega)]
    exact this.2.2


set_option maxHeartbeats 2000000 in
theorem ares_new {stl : List Nat} {o : Oper} {side : Prop} {ss : List Nat} {mk : Nat → AV} {ob : AObj} (h : ares P m (rawOf fr) stl o.dst o.op = .new side ss mk ob) (hs : side) (st : St F lim w n fr m ca []) (hk : okOper n o = true) :
    NewOk P F lim w n ca o (fr.strip ss) m mk ob := by
  have hopd := okOper_opd hk
  have mkCells : ∀ (cs : Array Value) (e : TypeId) (l : List AV), CellsR w lim cs l → ∀ v, (execOp ca.eval o).run P w = .ok (.value v) (w.alloc (.cells cs e)) → Rep (w.alloc (.cells cs e)) lim v (mk w.heap.size) [] → ob = .cells l → NewOk P F lim w n ca o fr m mk ob := fun cs e l hc v hr hv ho => by
    obtain ⟨h1, h2⟩ := st.allocMem cs e l hc.1 hc.2
    subst ho
    exact ⟨v, _, w.heap.size, hr, h1, h2, hv, pres_new st _⟩
  unfold ares at h
  split at h
  case h_6 t x hop =>
    simp only [ARes.new.injEq] at h
    obtain ⟨rfl, rfl, rfl, rfl⟩ := h
    have hx := evP_rep st (hopd x (by rw [hop]; simp [Op.operands]))
    exact mkCells _ t _ (rep_cellsR hx hs) (.pointer (some ⟨w.heap.size, 0, none⟩)) (by simp [execOp, hop, Instr.box, newVar, newRow]) (.ptr _) rfl
  case h_7 t hop =>
    split at h
    · next z hz =>
      simp only [ARes.new.injEq] at h
      obtain ⟨rfl, rfl, rfl, rfl⟩ := h
      obtain ⟨v, h1, h2, rfl, h4⟩ := zero_run (w := w) (lim := lim) hz
      exact mkCells _ t _ (rep_cellsR h4 hs) (.pointer (some ⟨w.heap.size, 0, none⟩)) (by simp [execOp, hop, Instr.alloc, newVar, newRow, h1]) (.ptr _) rfl
    · cases h
  case h_8 t x y hop =>
    split at h
    · next e k k' hu hx hy =>
      split at h
      · next z hz =>
        simp only [ARes.new.injEq] at h
        obtain ⟨rfl, rfl, rfl, rfl⟩ := h
        obtain ⟨h1, h2, h3, h4, rfl, h6, h7, h8⟩ := hs
        obtain ⟨v, g1, g2, rfl, g4⟩ := zero_run (w := w) (lim := lim) hz
        have hxr := evP_rep st (hopd x (by rw [hop]; simp [Op.operands]))
        have hyr := evP_rep st (hopd y (by rw [hop]; simp [Op.operands]))
        rw [hx] at hxr; rw [hy] at hyr
        obtain ⟨ex, lx, ux⟩ := rep_int_inv hxr
        obtain ⟨ey, _, _⟩ := rep_int_inv hyr
        have hw := wrap_of_range .i64 k lx ux
        cases hi : P.info? e with
        | none => simp [isU, Program.underlying, hi] at h2
        | some i =>
          obtain ⟨hcs, hbs⟩ := cellsOf_info hi
          rw [hcs] at h3 h4; rw [hbs] at h7
          have hvs : v.cells.size = i.size := by rw [← cval_cells]; exact h3
          obtain ⟨i', v', q1, q2, _, q4⟩ := info_of_zero (P := P) (e := e) (by rw [hz]; rfl)
          rw [hi] at q1
          obtain rfl : i = i' := by simpa using q1
          have hvv : v' = v := by
            have := g1
            simp [zeroValue, typeInfo, hi, q2] at this
            exact this
          subst hvv
          have hmul : (i.bytes : Int) * k = k * i.bytes := Int.mul_comm _ _
          have hrun := run_make (P := P) w t e i v' hu hi q2 .i64 .i64 k k h6 (Int.le_refl _) (by omega) (by omega)
          refine mkCells (madeCells v'.cells (k.toNat * i.size)) e _ ?_ (.slice (some ⟨w.heap.size, 0, none⟩) k.toNat k.toNat) ?_ (.ms _ _ _ (Nat.le_refl _) (by simp only [maxLen]; omega)) rfl
          · refine ⟨by simp [cval_cells, hvs, size_madeCells], fun j hj => ?_⟩
            have hj' : j < k.toNat * i.size := by simpa [cval_cells, hvs] using hj
            have hmod := Nat.mod_lt j h4
            rw [flatten_getD _ i.size _ h3 h4 j hj']
            have e1 : (madeCells v'.cells (k.toNat * i.size)).getD j undef = v'.cells.getD (j % i.size) undef := by
              unfold madeCells
              rw [Array.getD_eq_getD_getElem?, Array.getElem?_map, Array.getElem?_range, if_pos hj']
              simp [getElem!_pos, hvs, hmod, Array.getD]
            rw [e1]
            exact (rep_cellsR g4 h1).2 _ (by rw [h3]; exact hmod)
          · simp only [execOp, hop, ex, ey, Sem.run_bind, hrun, Result.andThen_ok]; rfl
      · cases h
    · cases h
  case h_9 t r hop =>
    split at h
    · next k e hu hr =>
      simp only [ARes.new.injEq] at h
      obtain ⟨rfl, rfl, rfl, rfl⟩ := h
      obtain ⟨h1, h2⟩ := st_newMap st
      refine ⟨.map (some w.heap.size), _, w.heap.size, ?_, h1, h2, .map _, pres_new st _⟩
      cases r with
      | none => simp [execOp, hop, Instr.makeMap, run_und hu]
      | some y => simp at hr
    · next k e kk nn hu hr =>
      simp only [ARes.new.injEq] at h
      obtain ⟨rfl, rfl, rfl, rfl⟩ := h
      obtain ⟨h1, h2⟩ := st_newMap st
      refine ⟨.map (some w.heap.size), _, w.heap.size, ?_, h1, h2, .map _, pres_new st _⟩
      cases r with
      | none => simp at hr
      | some y =>
        simp at hr
        have hy := evP_rep st (hopd y (by rw [hop]; simp [Op.operands]))
        rw [hr] at hy
        obtain ⟨ey, _, _⟩ := rep_int_inv hy
        simp [execOp, hop, Instr.makeMap, run_und hu, ey, asInt, asIntOf]
    · cases h
  all_goals first
    | cases h
    | (split at h <;> cases h)
    | (split at h <;> (first | cases h | (split at h <;> first | cases h | (split at h <;> cases h))))

end
end Go.Aw
