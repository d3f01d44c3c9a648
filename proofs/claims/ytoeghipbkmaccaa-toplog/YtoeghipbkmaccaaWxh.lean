/-
  The abstract layer, part 34: a range over a map: the map's object tells of its iterator, and of what has come.
-/
import Derived.Test.YtoeghipbkmaccaaWxe
import Derived.Maps.RangeRun
namespace Go.Aw
open Go Go.MapKept
open Go.ChangeMaps (setBlock)

section
variable {P : Program} {F : Nat → Prop} {lim : Nat → Nat} {w w' : World} {n : Nat} {fr : Fr} {m : AMem} {ca : Act} {fl : List Nat}

theorem mrep_map_all {b : Nat} {l : List (AV × AV)} {os : Nat → List Nat} (h : MRep w lim b (.map l) os) : ∃ (es : Array MapEntry) (clock : Nat), w.heap[b]? = some (.map es clock) ∧ es.size = l.length ∧ l.length ≤ 140737488355328 ∧
    (∀ i, i < l.length → Rep w lim (es.getD i default).key (l.getD i (.junk, .junk)).1 []) ∧ (∀ i, i < l.length → Rep w lim (es.getD i default).val (l.getD i (.junk, .junk)).2 []) ∧ (∀ i j, i < j → j < l.length → (es.getD i default).born < (es.getD j default).born) ∧ (∀ i, i < l.length → (es.getD i default).born < clock) := by
  cases h with
  | map es clock l hb hs hbig hk hv h1 h2 os => exact ⟨es, clock, hb, hs, hbig, hk, hv, h1, h2⟩

theorem mrep_iter_all {b r : Nat} {l : List (AV × AV)} {seen : List Nat} {os : Nat → List Nat} (h : MRep w lim b (.iter r l seen) os) : ∃ (es : Array MapEntry) (clock : Nat), w.heap[b]? = some (.map es clock) ∧ es.size = l.length ∧ l.length ≤ 140737488355328 ∧
    (∀ i, i < l.length → Rep w lim (es.getD i default).key (l.getD i (.junk, .junk)).1 []) ∧ (∀ i, i < l.length → Rep w lim (es.getD i default).val (l.getD i (.junk, .junk)).2 []) ∧ (∀ i j, i < j → j < l.length → (es.getD i default).born < (es.getD j default).born) ∧ (∀ i, i < l.length → (es.getD i default).born < clock) ∧
    w.heap[r]? = some (.mapIter (some b) clock (seen.map fun i => (es.getD i default).born).toArray clock) ∧ (∀ i ∈ seen, i < l.length) ∧ r ∈ os 0 := by
  cases h with
  | iter es clock r l seen hb hs hbig hk hv h1 h2 hr hsn os hos => exact ⟨es, clock, hb, hs, hbig, hk, hv, h1, h2, hr, hsn, hos⟩

/-- An iterator is laid. -/
theorem St.range (st : St F lim w n fr m ca fl) {b : Nat} {l : List (AV × AV)} (hm : m b = some (.map l)) :
    ∃ es clock, w.heap[b]? = some (.map es clock) ∧ m w.heap.size = none ∧ St F lim (w.alloc (.mapIter (some b) clock #[] clock)) n fr (m.upd b (some (.iter w.heap.size l []))) ca fl ∧ Pres F w lim (w.alloc (.mapIter (some b) clock #[] clock)) lim := by
  have hz := st.lim_new
  have hmn : m w.heap.size = none := by
    cases hb : m w.heap.size with
    | none => rfl
    | some o => exact absurd (st.lt_of_mem (b := w.heap.size) (by rw [hb]; simp)) (Nat.lt_irrefl _)
  have hFn : ¬ F w.heap.size := fun hf => absurd (st.lt_of_F hf) (Nat.lt_irrefl _)
  have hblt : b < w.heap.size := st.lt_of_mem (by rw [hm]; simp)
  have hP := fun clock => Pres.alloc st (.mapIter (some b) clock #[] clock) 0
  have hlim : (fun b => if b = w.heap.size then 0 else lim b) = lim := by funext b; by_cases hb : b = w.heap.size <;> simp [hb, hz]
  rw [hlim] at hP
  obtain ⟨os, om, ow, h⟩ := st
  obtain ⟨hM, hl, hF⟩ := h.mem b _ hm
  obtain ⟨es, clock, hb, hs, hbig, hk, hv, h1, h2⟩ := mrep_map_all hM
  refine ⟨es, clock, hb, hmn, ?_, hP clock⟩
  have hsz1 : (w.alloc (.mapIter (some b) clock #[] clock)).heap.size = w.heap.size + 1 := Array.size_push _
  have hst : ∀ {v x os'}, Rep w lim v x os' → (∀ c ∈ os', ow c ≠ .none) → Rep (w.alloc (.mapIter (some b) clock #[] clock)) lim v x os' := fun hR ho =>
    hR.stable (fun _ => Nat.le_refl _) (hP clock).cell (fun c hc => ⟨heapOld w _ c (h.free c (ho c hc)).2.2, rfl⟩)
  have how : ∀ c, ow c ≠ .none → c ≠ w.heap.size := fun c hc e => by have := (h.free c hc).2.2; omega
  refine ⟨os, fun k i => if k = b then (if i = 0 then [w.heap.size] else []) else om k i, fun c => if c = w.heap.size then .blk b 0 else ow c, h.size, h.defers, fun t x hx => ⟨(h.slots t x hx).1, hst (h.slots t x hx).2 (fun c hc => by rw [(h.ownS t x hx).2 c hc]; simp)⟩, fun k o hk' => ?_, fun t x hx => ⟨(h.ownS t x hx).1, fun c hc => ?_⟩, fun k o hk' i => ?_, ⟨h.ownF.1, fun c hc => ?_⟩, fun c hc => ?_, fun k hk' => ?_⟩
  · by_cases hkb : k = b
    · subst hkb
      simp only [AMem.upd, ↓reduceIte, Option.some.injEq] at hk'
      subst hk'
      refine ⟨.iter es clock w.heap.size l [] ((heapOld w _ k hblt).trans hb) hs hbig (fun i hi => hst (hk i hi) (by simp)) (fun i hi => hst (hv i hi) (by simp)) h1 h2 (heapNew w _) (by simp) _ (by simp), hl, hF⟩
    · simp only [AMem.upd, if_neg hkb] at hk'
      have hM' := h.mem k o hk'
      simp only [if_neg hkb]
      have hklt : k < w.heap.size := by
        rcases Nat.lt_or_ge k w.heap.size with h3 | h3
        · exact h3
        · rw [(h.fresh k h3).2.2] at hk'; cases hk'
      refine ⟨hM'.1.stable (heapOld w _ k hklt) (fun _ => Nat.le_refl _) (hP clock).cell (fun i c hc => ⟨heapOld w _ c (h.free c ?_).2.2, rfl⟩), hM'.2⟩
      rw [(h.ownM k o hk' i).2 c hc]; simp
  · have e1 := (h.ownS t x hx).2 c hc
    have e2 : c ≠ w.heap.size := how c (by rw [e1]; simp)
    simp only [if_neg e2, e1]
  · by_cases hkb : k = b
    · subst hkb
      simp only [if_true]
      by_cases hi : i = 0
      · subst hi; simp
      · simp [hi]
    · simp only [AMem.upd, if_neg hkb] at hk'
      simp only [if_neg hkb]
      refine ⟨(h.ownM k o hk' i).1, fun c hc => ?_⟩
      have e1 := (h.ownM k o hk' i).2 c hc
      have e2 : c ≠ w.heap.size := how c (by rw [e1]; simp)
      simp only [if_neg e2, e1]
  · have e1 := h.ownF.2 c hc
    have e2 : c ≠ w.heap.size := how c (by rw [e1]; simp)
    simp only [if_neg e2, e1]
  · by_cases e2 : c = w.heap.size
    · subst e2
      refine ⟨hFn, ?_, by rw [hsz1]; omega⟩
      simp only [AMem.upd]
      rw [if_neg (by omega)]; exact hmn
    · simp only [if_neg e2] at hc
      have := h.free c hc
      refine ⟨this.1, ?_, by have := this.2.2; rw [hsz1]; omega⟩
      simp only [AMem.upd]
      rw [if_neg (by intro e; subst e; rw [hm] at this; exact absurd this.2.1 (by simp))]; exact this.2.1
  · have hsz : w.heap.size + 1 ≤ k := by rw [hsz1] at hk'; exact hk'
    have := h.fresh k (by omega)
    refine ⟨this.1, this.2.1, ?_⟩
    simp only [AMem.upd]
    rw [if_neg (by omega)]; exact this.2.2

/-- The iterator goes on. -/
theorem St.nextMem (st : St F lim w n fr m ca fl) {b r : Nat} {l : List (AV × AV)} {seen : List Nat} (hm : m b = some (.iter r l seen)) {es : Array MapEntry} {clock : Nat} (hb : w.heap[b]? = some (.map es clock)) {k : Nat} (hk : k < l.length) {w1 : World} (hw1 : w1 = w ∨ w1 = w.drew) :
    St F lim (setBlock w1 r (.mapIter (some b) clock ((seen.map fun i => (es.getD i default).born).toArray.push (es.getD k default).born) clock)) n fr (m.upd b (some (.iter r l (seen ++ [k])))) ca fl ∧ Pres F w lim (setBlock w1 r (.mapIter (some b) clock ((seen.map fun i => (es.getD i default).born).toArray.push (es.getD k default).born) clock)) lim := by
  obtain ⟨os, om, ow, h⟩ := st
  obtain ⟨hM, hl, hF⟩ := h.mem b _ hm
  obtain ⟨es', clock', hb', hs, hbig, hk', hv, h1, h2, hr, hsn, hos⟩ := mrep_iter_all hM
  obtain ⟨rfl, rfl⟩ : es' = es ∧ clock' = clock := by rw [hb] at hb'; injection hb' with e; injection e with e1 e2; exact ⟨e1.symm, e2.symm⟩
  have hw1h : w1.heap = w.heap := by rcases hw1 with rfl | rfl <;> rfl
  generalize hw : setBlock w1 r (.mapIter (some b) clock' ((seen.map fun i => (es'.getD i default).born).toArray.push (es'.getD k default).born) clock') = w2
  have hrlt : r < w.heap.size := (Array.getElem?_eq_some_iff.1 hr).1
  have hother : ∀ j, j ≠ r → w2.heap[j]? = w.heap[j]? := fun j hj => by rw [← hw]; simp [setBlock, hw1h, Array.getElem?_setIfInBounds, Ne.symm hj]
  have hself : w2.heap[r]? = some (.mapIter (some b) clock' ((seen.map fun i => (es'.getD i default).born).toArray.push (es'.getD k default).born) clock') := by rw [← hw]; simp [setBlock, hw1h, hrlt]
  have hsize : w2.heap.size = w.heap.size := by rw [← hw]; simp [setBlock, hw1h]
  have hcell : ∀ j o, o < lim j → w2.cell? ⟨j, o, none⟩ = w.cell? ⟨j, o, none⟩ := fun j o ho => by
    by_cases hj : j = r
    · subst hj
      simp [World.cell?, hself, hr]
    · simp [World.cell?, hother j hj]
  have hor : ow r = .blk b 0 := (h.ownM b _ hm 0).2 r hos
  have hmr : m r = none := (h.free r (by rw [hor]; simp)).2.1
  have hrF : ¬ F r := (h.free r (by rw [hor]; simp)).1
  have hbr : b ≠ r := fun e => by subst e; rw [hm] at hmr; cases hmr
  have hst : ∀ {v x os'}, Rep w lim v x os' → (∀ c ∈ os', c ≠ r) → Rep w2 lim v x os' := fun hR ho => hR.stable (fun _ => Nat.le_refl _) hcell (fun c hc => ⟨hother c (ho c hc), rfl⟩)
  refine ⟨⟨os, om, ow, h.size, h.defers, fun t x hx => ⟨(h.slots t x hx).1, hst (h.slots t x hx).2 (fun c hc e => by have := (h.ownS t x hx).2 c hc; rw [e, hor] at this; cases this)⟩, fun j o hj => ?_, h.ownS, fun j o hj i => ?_, h.ownF, fun c hc => ⟨(h.free c hc).1, ?_, by rw [hsize]; exact (h.free c hc).2.2⟩, fun j hj => ?_⟩, ?_⟩
  · by_cases hjb : j = b
    · subst hjb
      simp only [AMem.upd, ↓reduceIte, Option.some.injEq] at hj
      subst hj
      refine ⟨.iter es' clock' r l (seen ++ [k]) ((hother j hbr).trans hb) hs hbig (fun i hi => hst (hk' i hi) (by simp)) (fun i hi => hst (hv i hi) (by simp)) h1 h2 (by rw [hself]; simp) (fun i hi => ?_) _ hos, hl, hF⟩
      rcases List.mem_append.1 hi with h3 | h3
      · exact hsn i h3
      · obtain rfl : i = k := by simpa using h3
        exact hk
    · simp only [AMem.upd, if_neg hjb] at hj
      have hM' := h.mem j o hj
      have hjr : j ≠ r := fun e => by subst e; rw [hmr] at hj; cases hj
      refine ⟨hM'.1.stable (hother j hjr) (fun _ => Nat.le_refl _) hcell (fun i c hc => ⟨hother c (fun e => ?_), rfl⟩), hM'.2⟩
      have := (h.ownM j o hj i).2 c hc
      rw [e, hor] at this
      injection this with e3
      exact hjb e3.symm
  · by_cases hjb : j = b
    · subst hjb; exact h.ownM j _ hm i
    · simp only [AMem.upd, if_neg hjb] at hj
      exact h.ownM j o hj i
  · have := (h.free c hc).2.1
    simp only [AMem.upd]
    rw [if_neg (fun e => by subst e; rw [hm] at this; cases this)]; exact this
  · rw [hsize] at hj
    have := h.fresh j hj
    refine ⟨this.1, this.2.1, ?_⟩
    simp only [AMem.upd]
    rw [if_neg (fun e => by subst e; rw [hm] at this; cases this.2.2)]; exact this.2.2
  · have hos' : w2.os = w.os := by rw [← hw]; rcases hw1 with rfl | rfl <;> rfl
    have htp : w2.tape = w.tape := by rw [← hw]; rcases hw1 with rfl | rfl <;> rfl
    have hout : w2.output = w.output := by rw [← hw]; rcases hw1 with rfl | rfl <;> rfl
    exact ⟨hos', htp, hout, by rw [hsize]; exact Nat.le_refl _, fun j hj => ⟨hother j (fun e => hrF (by rw [← e]; exact hj)), rfl⟩, fun _ => Nat.le_refl _, hcell⟩

/-- The iterator is let go. -/
theorem St.unrange (st : St F lim w n fr m ca fl) {b r : Nat} {l : List (AV × AV)} {seen : List Nat} (hm : m b = some (.iter r l seen)) : St F lim w n fr (m.upd b (some (.map l))) ca fl := by
  obtain ⟨os, om, ow, h⟩ := st
  obtain ⟨hM, hl, hF⟩ := h.mem b _ hm
  obtain ⟨es, clock, hb, hs, hbig, hk, hv, h1, h2, _, _, _⟩ := mrep_iter_all hM
  refine ⟨os, fun k i => om k i, ow, h.size, h.defers, h.slots, fun k o hk' => ?_, h.ownS, fun k o hk' i => ?_, h.ownF, fun c hc => ⟨(h.free c hc).1, ?_, (h.free c hc).2.2⟩, fun k hk' => ?_⟩
  · by_cases hkb : k = b
    · subst hkb
      simp only [AMem.upd, ↓reduceIte, Option.some.injEq] at hk'
      subst hk'
      exact ⟨.map es clock l hb hs hbig hk hv h1 h2 _, hl, hF⟩
    · simp only [AMem.upd, if_neg hkb] at hk'
      exact h.mem k o hk'
  · by_cases hkb : k = b
    · subst hkb; exact h.ownM k _ hm i
    · simp only [AMem.upd, if_neg hkb] at hk'
      exact h.ownM k o hk' i
  · have := (h.free c hc).2.1
    simp only [AMem.upd]
    rw [if_neg (fun e => by subst e; rw [hm] at this; cases this)]; exact this
  · have := h.fresh k hk'
    refine ⟨this.1, this.2.1, ?_⟩
    simp only [AMem.upd]
    rw [if_neg (fun e => by subst e; rw [hm] at this; cases this.2.2)]; exact this.2.2

theorem awp_unrange {c : Code} {Q : Exit → Fr → AMem → Prop} {L : List (Nat × AObj)} (i : Nat) {b r : Nat} {l : List (AV × AV)} {seen : List Nat} (hN : (L.map Prod.fst).Nodup) (hi : L[i]? = some (b, .iter r l seen)) (h : AWP P n c Q fr (m.wth (L.set i (b, .map l)))) : AWP P n c Q fr (m.wth L) := fun F lim w ca st => by
  have := st.unrange (wth_get (m := m) i hN hi)
  rw [wth_set i hN hi] at this
  exact h F lim w ca this

variable {ops : Array Oper} {stl : List Nat} {r : List Oper} {K : Fr → AMem → Prop} {d : Nat} {ty : TypeId} {pos : String} {af : Array Edge} {gd : Option (Nat × Bool)} {L : List (Nat × AObj)}

theorem ar_range (hg : gOn ops fr gd = some true) (i : Nat) {t ke ve : TypeId} {x : Operand} {b : Nat} {l : List (AV × AV)} (ht : P.underlying t = some (.map ke ve)) (hx : evP (rawOf fr) x = .map b) (hi : L[i]? = some (b, .map l)) (hN : (L.map Prod.fst).Nodup)
    (h : ∀ q, m.wth L q = none → aopsR P ops stl r K (fr.put d (.ptr ⟨q, 0, none⟩)) (m.wth (L.set i (b, .iter q l [])))) :
    aopsR P ops stl (⟨some d, .range t x, ty, pos, af, gd⟩ :: r) K fr (m.wth L) := by
  simp only [aopsR, aopR, hg, ares, qv]
  intro n hk hn F lim w ca st
  have hopd := okOper_opd hk
  have h1 := evP_rep st (hopd x (by simp [Op.operands]))
  rw [hx] at h1
  have e1 : ca.eval x = .map (some b) := by generalize ca.eval x = q at h1; cases h1; rfl
  obtain ⟨es, clock, hb, hmn, s1, s2⟩ := st.range (wth_get (m := m) i hN hi)
  rw [wth_set i hN hi] at s1
  refine ⟨.value (.pointer (some ⟨w.heap.size, 0, none⟩)), _, w.alloc (.mapIter (some b) clock #[] clock), lim, _, _, ?_, .inl rfl, s1.putO (d := some d) (fun t ht => okOper_dst hk ht) (.ptr _), s2, h _ hmn⟩
  simp only [execOp, e1, Instr.range, Sem.run_bind, run_underlying ht, run_getObj_map hb, Result.andThen_ok]
  rfl

theorem leftOf_mem {es : Array MapEntry} {A : Array Nat} {e : MapEntry} (h : e ∈ (leftOf es A).toList) : e ∈ es.toList ∧ ¬ e.born ∈ A.toList := by
  unfold leftOf at h
  simpa using h

theorem ar_next (hg : gOn ops fr gd = some true) (i : Nat) {x : Operand} {b q : Nat} {l : List (AV × AV)} {seen : List Nat} (hx : evP (rawOf fr) x = .ptr ⟨q, 0, none⟩) (hi : L[i]? = some (b, .iter q l seen)) (hN : (L.map Prod.fst).Nodup)
    (h0 : (∀ k, k < l.length → k ∈ seen) → aopsR P ops stl r K (fr.put d (.tuple [.bool false])) (m.wth L))
    (h1 : ∀ k, k < l.length → ¬ k ∈ seen → aopsR P ops stl r K (fr.put d (.tuple [.bool true, (l.getD k (.junk, .junk)).1, (l.getD k (.junk, .junk)).2])) (m.wth (L.set i (b, .iter q l (seen ++ [k]))))) :
    aopsR P ops stl (⟨some d, .next x false, ty, pos, af, gd⟩ :: r) K fr (m.wth L) := by
  simp only [aopsR, aopR, hg, ares, qv]
  intro n hk hn F lim w ca st
  have hopd := okOper_opd hk
  have hx1 := evP_rep st (hopd x (by simp [Op.operands]))
  rw [hx] at hx1
  have e1 : ca.eval x = .pointer (some ⟨q, 0, none⟩) := by generalize ca.eval x = z at hx1; cases hx1; rfl
  have hm := wth_get (m := m) i hN hi
  have hrep : ∃ os, MRep w lim b (.iter q l seen) os := by
    obtain ⟨os, om, ow, h⟩ := st
    exact ⟨_, (h.mem b _ hm).1⟩
  obtain ⟨os, hM⟩ := hrep
  obtain ⟨es, clock, hb, hs, hbig, hk', hv, hb1, hb2, hr, hsn, hos⟩ := mrep_iter_all hM
  have hge : ∀ k, k < l.length → ∃ e, es[k]? = some e ∧ es.getD k default = e := fun k hk2 => by
    have : k < es.size := by omega
    exact ⟨es[k], Array.getElem?_eq_getElem this, by simp [Array.getD, this]⟩
  have hbi : ∀ i j, i < l.length → j < l.length → (es.getD i default).born = (es.getD j default).born → i = j := fun i j hi2 hj2 he => by
    rcases Nat.lt_trichotomy i j with h3 | h3 | h3
    · have := hb1 i j h3 hj2; omega
    · exact h3
    · have := hb1 j i h3 hi2; omega
  have hold : ∀ x ∈ es.toList, x.born < clock := fun x hx2 => by
    obtain ⟨k, hk2, e2⟩ := List.getElem_of_mem hx2
    have hk3 : k < es.size := by simpa using hk2
    have := hb2 k (by omega)
    rw [arr_getD (Array.getElem?_eq_getElem hk3)] at this
    rw [← e2]; simpa using this
  rcases run_next_at (P := P) w ty q b clock clock _ es clock hr hb hold (Nat.le_refl _) with ⟨h3, h4⟩ | ⟨e, he, w1, hw1, h4⟩
  · have hT : Rep w lim (.tuple #[.bool false]) (.tuple [.bool false]) [] := by
      have := Rep.tuple (w := w) (lim := lim) #[.bool false] [.bool false] (fun _ => []) rfl (fun i hi => by
        obtain rfl : i = 0 := by simpa using hi
        exact .bool _)
      rwa [flatMap_nil] at this
    refine ⟨.value (.tuple #[.bool false]), _, w, lim, _, _, by simp only [execOp, e1, Sem.run_bind, h4]; rfl, .inl rfl, st.putO (d := some d) (fun t ht => okOper_dst hk ht) (x := .tuple [.bool false]) hT, .refl _ _ _, h0 (fun k hk2 => ?_)⟩
    · obtain ⟨e, he1, he2⟩ := hge k hk2
      apply Classical.byContradiction
      intro hns
      have : e ∈ (leftOf es (seen.map fun i => (es.getD i default).born).toArray).toList := by
        unfold leftOf
        have hme : e ∈ es := Array.mem_of_getElem? he1
        simp only [Array.toList_filter, List.mem_filter, Array.mem_toList_iff, hme, true_and]
        simp only [List.contains_toArray, Bool.not_eq_true', List.contains_eq_mem, decide_eq_false_iff_not, List.mem_map]
        rintro ⟨j, hj, hj2⟩
        have := hbi j k (hsn j hj) hk2 (by rw [hj2, he2])
        exact hns (this ▸ hj)
      have hz : (leftOf es (seen.map fun i => (es.getD i default).born).toArray).toList.length = 0 := by simpa using h3
      rw [List.length_eq_zero_iff] at hz
      rw [hz] at this; cases this
  · obtain ⟨hee, hne⟩ := leftOf_mem he
    obtain ⟨k, hk2, e2⟩ := List.getElem_of_mem hee
    have hk3 : k < es.size := by simpa using hk2
    have hkl : k < l.length := by omega
    have hd : es.getD k default = e := by rw [arr_getD (Array.getElem?_eq_getElem hk3)]; simpa using e2
    have hns : ¬ k ∈ seen := fun hc => hne (List.mem_map.2 ⟨k, hc, by rw [hd]⟩)
    obtain ⟨s1, s2⟩ := st.nextMem hm hb hkl hw1
    rw [wth_set i hN hi] at s1
    rw [hd] at s1 s2
    have hK := hk' k hkl
    have hV := hv k hkl
    rw [hd] at hK hV
    have hT : Rep (setBlock w1 q (.mapIter (some b) clock ((seen.map fun i => (es.getD i default).born).toArray.push e.born) clock)) lim (.tuple #[.bool true, e.key, e.val]) (.tuple [.bool true, (l.getD k (.junk, .junk)).1, (l.getD k (.junk, .junk)).2]) [] := by
      have := Rep.tuple (w := setBlock w1 q (.mapIter (some b) clock ((seen.map fun i => (es.getD i default).born).toArray.push e.born) clock)) (lim := lim) #[.bool true, e.key, e.val] [.bool true, (l.getD k (.junk, .junk)).1, (l.getD k (.junk, .junk)).2] (fun _ => []) rfl (fun i hi => by
        match i, hi with
        | 0, _ => exact .bool _
        | 1, _ => exact hK.stable (fun _ => Nat.le_refl _) s2.cell (by simp)
        | 2, _ => exact hV.stable (fun _ => Nat.le_refl _) s2.cell (by simp))
      rwa [flatMap_nil] at this
    refine ⟨.value (.tuple #[.bool true, e.key, e.val]), _, _, lim, _, _, by simp only [execOp, e1, Sem.run_bind, h4]; rfl, .inl rfl, s1.putO (d := some d) (fun t ht => okOper_dst hk ht) (x := .tuple [.bool true, (l.getD k (.junk, .junk)).1, (l.getD k (.junk, .junk)).2]) hT, s2, h1 k hkl hns⟩

theorem ar_entry (hg : gOn ops fr gd = some true) (i : Nat) {x : Operand} {b q k : Nat} {l : List (AV × AV)} {seen : List Nat} (hx : evP (rawOf fr) x = .ptr ⟨q, 0, none⟩) (hi : L[i]? = some (b, .iter q l (seen ++ [k]))) (hN : (L.map Prod.fst).Nodup)
    (h : aopsR P ops stl r K (fr.put d (.tuple [(l.getD k (.junk, .junk)).1, (l.getD k (.junk, .junk)).2])) (m.wth L)) :
    aopsR P ops stl (⟨some d, .entry x, ty, pos, af, gd⟩ :: r) K fr (m.wth L) := by
  simp only [aopsR, aopR, hg, ares, qv]
  intro n hk hn F lim w ca st
  have hopd := okOper_opd hk
  have hx1 := evP_rep st (hopd x (by simp [Op.operands]))
  rw [hx] at hx1
  have e1 : ca.eval x = .pointer (some ⟨q, 0, none⟩) := by generalize ca.eval x = z at hx1; cases hx1; rfl
  have hm := wth_get (m := m) i hN hi
  have hrep : ∃ os, MRep w lim b (.iter q l (seen ++ [k])) os := by
    obtain ⟨os, om, ow, h⟩ := st
    exact ⟨_, (h.mem b _ hm).1⟩
  obtain ⟨os, hM⟩ := hrep
  obtain ⟨es, clock, hb, hs, hbig, hk', hv, hb1, hb2, hr, hsn, hos⟩ := mrep_iter_all hM
  have hkl : k < l.length := hsn k (by simp)
  have hk3 : k < es.size := by omega
  have hd : es.getD k default = es[k] := arr_getD (Array.getElem?_eq_getElem hk3)
  have hn2 : (es.toList.map (·.born)).Nodup := by
    rw [List.nodup_iff_pairwise_ne, List.pairwise_iff_getElem]
    intro i j hi2 hj2 hij
    simp only [List.length_map, Array.length_toList] at hi2 hj2
    have := hb1 i j hij (by omega)
    rw [arr_getD (Array.getElem?_eq_getElem hi2), arr_getD (Array.getElem?_eq_getElem hj2)] at this
    simp only [List.getElem_map, Array.getElem_toList]
    omega
  rw [List.map_append, ← List.toArray_appendList] at hr
  have hK := hk' k hkl
  have hV := hv k hkl
  rw [hd] at hK hV
  have h4 := run_entry_at (P := P) w q b clock (seen.map fun i => (es.getD i default).born).toArray es clock es[k] (by rw [hr]; simp [hk3]) hb (by simp) hn2
  refine ⟨.value (.tuple #[es[k].key, es[k].val]), _, w, lim, _, _, by simp only [execOp, e1, Sem.run_bind, h4]; rfl, .inl rfl, st.putO (d := some d) (fun t ht => okOper_dst hk ht) (x := .tuple [(l.getD k (.junk, .junk)).1, (l.getD k (.junk, .junk)).2]) ?_, .refl _ _ _, h⟩
  have := Rep.tuple (w := w) (lim := lim) #[es[k].key, es[k].val] [(l.getD k (.junk, .junk)).1, (l.getD k (.junk, .junk)).2] (fun _ => []) rfl (fun i hi => by
    match i, hi with
    | 0, _ => exact hK
    | 1, _ => exact hV)
  rwa [flatMap_nil] at this

section
variable {κ ν : Type} {kf : κ → AV} {vf : ν → AV}
theorem mapAV_get {l : List (κ × ν)} {k : Nat} (hk : k < (l.map (mapAV kf vf)).length) : ∃ p, l[k]? = some p ∧ (l.map (mapAV kf vf)).getD k (.junk, .junk) = (kf p.1, vf p.2) := by
  have hk' : k < l.length := by simpa using hk
  exact ⟨l[k], List.getElem?_eq_getElem hk', by simp [List.getD_eq_getElem?_getD, hk', mapAV]⟩
theorem ar_nextT (hg : gOn ops fr gd = some true) (i : Nat) (kf : κ → AV) (vf : ν → AV) (l : List (κ × ν)) (seen : List Nat) {x : Operand} {b q : Nat} (hx : evP (rawOf fr) x = .ptr ⟨q, 0, none⟩) (hi : L[i]? = some (b, .iter q (l.map (mapAV kf vf)) seen)) (hN : (L.map Prod.fst).Nodup)
    (h0 : (∀ k, k < l.length → k ∈ seen) → aopsR P ops stl r K (fr.put d (.tuple [.bool false])) (m.wth L))
    (h1 : ∀ k p, l[k]? = some p → ¬ k ∈ seen → aopsR P ops stl r K (fr.put d (.tuple [.bool true, kf p.1, vf p.2])) (m.wth (L.set i (b, .iter q (l.map (mapAV kf vf)) (seen ++ [k]))))) :
    aopsR P ops stl (⟨some d, .next x false, ty, pos, af, gd⟩ :: r) K fr (m.wth L) :=
  ar_next hg i hx hi hN (fun h => h0 (by simpa using h)) (fun k hk hn => by
    obtain ⟨p, hp, e⟩ := mapAV_get hk
    rw [e]; exact h1 k p hp hn)
theorem ar_entryT (hg : gOn ops fr gd = some true) (i : Nat) (kf : κ → AV) (vf : ν → AV) (l : List (κ × ν)) (seen : List Nat) {p : κ × ν} {x : Operand} {b q k : Nat} (hp : l[k]? = some p) (hx : evP (rawOf fr) x = .ptr ⟨q, 0, none⟩) (hi : L[i]? = some (b, .iter q (l.map (mapAV kf vf)) (seen ++ [k]))) (hN : (L.map Prod.fst).Nodup)
    (h : aopsR P ops stl r K (fr.put d (.tuple [kf p.1, vf p.2])) (m.wth L)) :
    aopsR P ops stl (⟨some d, .entry x, ty, pos, af, gd⟩ :: r) K fr (m.wth L) :=
  ar_entry hg i hx hi hN (by
    obtain ⟨hk, hp'⟩ := List.getElem?_eq_some_iff.1 hp
    obtain ⟨p', hp', e⟩ := mapAV_get (kf := kf) (vf := vf) (l := l) (k := k) (by simpa using hk)
    obtain rfl : p = p' := by rw [hp] at hp'; exact Option.some.inj hp'
    rw [e]; exact h)
end

end
end Go.Aw
