/-
  The abstract layer, part 12: literals; what is taken out of memory.
-/
import Derived.Test.YtoeghipbkmaccaaWwK
import Derived.Great.BuildSlice
namespace Go.Aw
open Go

section
variable {P : Program} {F : Nat → Prop} {lim : Nat → Nat} {w : World} {n : Nat} {fr : Fr} {m : AMem} {ca : Act} {fl : List Nat}

def CellsR (w : World) (lim : Nat → Nat) (cs : Array Value) (xs : List AV) : Prop := cs.size = xs.length ∧ ∀ i, i < xs.length → Rep w lim (cs.getD i undef) (xs.getD i .junk) []

theorem flat_nil {oss : Nat → List Nat} {k : Nat} (h : [] = (List.range k).flatMap oss) : ∀ i, i < k → oss i = [] := fun i hi => flatMap_nil_iff h.symm i hi

theorem rep_cellsR {v : Value} {x : AV} (h : Rep w lim v x []) (hx : x.topOk = true) : CellsR w lim v.cells x.cells := by
  obtain ⟨oss, h1, h2, h3⟩ := rep_cells h hx
  exact ⟨h1, fun i hi => by have := h2 i hi; rwa [flat_nil h3 i hi] at this⟩

theorem splice_getD {α : Type} (A B : List α) (dflt : α) (off i : Nat) (hAB : off + B.length ≤ A.length) : (A.take off ++ B ++ A.drop (off + B.length)).getD i dflt = if off ≤ i ∧ i < off + B.length then B.getD (i - off) dflt else A.getD i dflt := by
  simp only [List.getD_eq_getElem?_getD]
  by_cases h1 : i < off
  · rw [if_neg (by omega), List.append_assoc, List.getElem?_append_left (by simp; omega), List.getElem?_take, if_pos h1]
  · by_cases h2 : i < off + B.length
    · rw [if_pos ⟨by omega, h2⟩, List.append_assoc, List.getElem?_append_right (by simp; omega), List.getElem?_append_left (by simp; omega)]
      simp [show min off A.length = off from by omega]
    · rw [if_neg (by omega), List.getElem?_append_right (by simp; omega), List.getElem?_drop]
      congr 2
      simp; omega

theorem fill_sound (place : Nat → Option (Nat × Nat)) : ∀ (ps : List (Nat × AV)) (vps : List (Nat × Value)) (cs : Array Value) (xs ys : List AV), fillA place xs ps = some ys → CellsR w lim cs xs → vps.map (·.1) = ps.map (·.1) →
    (∀ i (hi : i < ps.length), CellsR w lim (vps.getD i (0, undef)).2.cells (ps[i]).2.cells) → ∃ ds, Instr.fill place cs vps = some ds ∧ CellsR w lim ds ys := by
  intro ps
  induction ps with
  | nil =>
    intro vps cs xs ys h hc hm hp
    have : vps = [] := by simpa using hm
    subst this
    simp only [fillA, Option.some.injEq] at h
    subst h
    exact ⟨cs, rfl, hc⟩
  | cons p ps ih =>
    intro vps cs xs ys h hc hm hp
    cases vps with
    | nil => simp at hm
    | cons q vps =>
      obtain ⟨i, x⟩ := p
      obtain ⟨j, v⟩ := q
      simp only [List.map_cons, List.cons.injEq] at hm
      obtain ⟨rfl, hm⟩ := hm
      have hx := hp 0 (by simp)
      simp only [List.getD_cons_zero, List.getElem_cons_zero] at hx
      simp only [fillA] at h
      cases hpl : place j with
      | none => simp [hpl] at h
      | some os =>
        obtain ⟨off, size⟩ := os
        simp only [hpl] at h
        split at h
        · next hcond =>
          obtain ⟨hs, hle⟩ := hcond
          have hvs : v.cells.size = size := hx.1.trans hs
          simp only [Instr.fill, hpl]
          rw [if_neg (by simp [hvs, hc.1]; omega)]
          refine ih vps _ _ ys h ?_ hm (fun k hk => by have := hp (k + 1) (by simp; omega); simpa using this)
          obtain ⟨f1, f2⟩ := Great.foldl_set off v.cells.toList 0 cs
          have hfold : (v.cells.zipIdx.foldl (fun cs (c, j) => cs.setIfInBounds (off + j) c) cs) = ((v.cells.toList.zipIdx 0).foldl (fun cs (x : Value × Nat) => cs.setIfInBounds (off + x.2) x.1) cs) := by
            rw [← Array.foldl_toList]; simp
          rw [hfold]
          refine ⟨by rw [f1, hc.1]; simp; omega, fun k hk => ?_⟩
          have hlen : (xs.take off ++ x.cells ++ xs.drop (off + size)).length = xs.length := by simp; omega
          rw [hlen] at hk
          rw [← hs, splice_getD xs x.cells .junk off k (by omega)]
          have e1 : ((v.cells.toList.zipIdx 0).foldl (fun cs (x : Value × Nat) => cs.setIfInBounds (off + x.2) x.1) cs).getD k undef = if off ≤ k ∧ k < off + x.cells.length then v.cells.getD (k - off) undef else cs.getD k undef := by
            rw [Array.getD_eq_getD_getElem?, f2 k]
            by_cases hin : off ≤ k ∧ k < off + x.cells.length
            · rw [if_pos (by simp [hvs, hc.1]; omega), if_pos hin]
              simp [Array.getD_eq_getD_getElem?]
            · rw [if_neg (by simp [hvs]; omega), if_neg hin, Array.getD_eq_getD_getElem?]
          rw [e1]
          by_cases hin : off ≤ k ∧ k < off + x.cells.length
          · rw [if_pos hin, if_pos hin]; exact hx.2 _ (by omega)
          · rw [if_neg hin, if_neg hin]; exact hc.2 k hk
        · cases h

theorem zero_run {t : TypeId} {z : AV} (h : zeroA P t = some z) : ∃ v, (zeroValue t).run P w = .ok v w ∧ cok v = true ∧ z = cval v ∧ Rep w lim v z [] := by
  obtain ⟨i, v, h1, h2, h3, h4⟩ := info_of_zero (P := P) (e := t) (by rw [h]; rfl)
  rw [h] at h4
  have hz : z = cval v := by simpa using h4
  exact ⟨v, by simp [zeroValue, typeInfo, h1, h2], h3, hz, by rw [hz]; exact rep_cval h3⟩

theorem run_places (fs : List Field) (h : ∀ f ∈ fs, isU P f.type = true) : (fs.mapM fun f => do pure (f.offset, ← sizeOf f.type) : Sem (List (Nat × Nat))).run P w = .ok (fs.map fun f => (f.offset, P.cellsOf f.type)) w := by
  induction fs with
  | nil => rfl
  | cons f fs ih =>
    rw [List.mapM_cons]
    have hrest := ih (fun g hg => h g (by simp [hg]))
    simp only [Sem.run_bind, run_size (h f (by simp)), Result.andThen_ok, Sem.run_pure, hrest, List.map_cons]

theorem build_sound {t : TypeId} {fs : Array Field} {z : AV} {cells : List AV} (hu : P.underlying t = some (.struct fs)) (hz : zeroA P t = some z) (hzt : z.topOk = true) (hfs : ∀ f ∈ fs.toList, isU P f.type = true)
    {parts : Array (Nat × Operand)} {a : Operand → AV} (hf : fillA (fun i => (fs[i]?).map fun f => (f.offset, P.cellsOf f.type)) z.cells (parts.toList.map fun p => (p.1, a p.2)) = some cells)
    (hr : ∀ p ∈ parts.toList, Rep w lim (ca.eval p.2) (a p.2) []) (ht : ∀ p ∈ parts.toList, (a p.2).topOk = true) :
    ∃ v, (Instr.build t (parts.map fun (i, x) => (i, ca.eval x))).run P w = .ok v w ∧ Rep w lim v (.agg cells) [] := by
  obtain ⟨vz, hz1, hz2, rfl, hz3⟩ := zero_run (w := w) (lim := lim) hz
  have hplace : ((fs.mapM fun f => do pure (f.offset, ← sizeOf f.type) : Sem (Array (Nat × Nat)))).run P w = .ok (fs.map fun f => (f.offset, P.cellsOf f.type)) w := by
    have := run_places (P := P) (w := w) fs.toList hfs
    rw [← Array.toList_mapM] at this
    simp only [Sem.run_map] at this
    cases hh : (fs.mapM fun f => do pure (f.offset, ← sizeOf f.type) : Sem (Array (Nat × Nat))).run P w with
    | ok a w' =>
      rw [hh] at this
      simp only [Result.andThen_ok, Result.ok.injEq] at this
      obtain ⟨h1, rfl⟩ := this
      congr 1
      apply Array.ext'
      simpa using h1
    | halt e w' => rw [hh] at this; simp at this
  obtain ⟨ds, h1, h2⟩ := fill_sound (w := w) (lim := lim) _ _ (parts.toList.map fun p => (p.1, ca.eval p.2)) vz.cells _ _ hf (rep_cellsR hz3 hzt) (by simp) (fun i hi => by
    simp only [List.length_map] at hi
    have hmem : parts.toList[i] ∈ parts.toList := List.getElem_mem hi
    have := rep_cellsR (hr _ hmem) (ht _ hmem)
    have e1 : (parts.toList.map fun p => (p.1, ca.eval p.2)).getD i (0, undef) = (parts.toList[i].1, ca.eval parts.toList[i].2) := by
      rw [List.getD_eq_getElem?_getD, List.getElem?_map, List.getElem?_eq_getElem hi]; rfl
    have e2 : (parts.toList.map fun p => (p.1, a p.2))[i] = (parts.toList[i].1, a parts.toList[i].2) := by rw [List.getElem_map]
    rw [e1, e2]; exact this)
  refine ⟨.agg ds, ?_, ?_⟩
  · have hpl : (fun (i : Nat) => (fs.map fun (f : Field) => (f.offset, P.cellsOf f.type))[i]?) = fun (i : Nat) => (fs[i]?).map fun (f : Field) => (f.offset, P.cellsOf f.type) := by funext i; simp
    have hparts : (parts.map fun (i, x) => (i, ca.eval x)).toList = parts.toList.map fun p => (p.1, ca.eval p.2) := by simp
    simp only [Instr.build, Sem.run_bind, hz1, Result.andThen_ok, run_und hu, hplace, hpl, hparts, h1]
    rfl
  · have := Rep.agg (w := w) (lim := lim) ds cells (fun _ => []) h2.1 h2.2
    rw [flatMap_nil] at this
    exact this

theorem zipIdx_of_range {β : Type} (l : List (Nat × β)) (h : l.map (·.1) = List.range l.length) : l = ((l.map (·.2)).zipIdx 0).map fun x => (x.2, x.1) := by
  apply List.ext_getElem?
  intro i
  have hi := congrArg (·[i]?) h
  simp only [List.getElem?_map] at hi
  by_cases hlt : i < l.length
  · simp [hlt] at hi ⊢
    exact Prod.ext hi rfl
  · simp [hlt]

set_option maxHeartbeats 1000000 in
theorem buildSlice_sound (st : St F lim w n fr m ca fl) {t e : TypeId} {len : Nat} {parts : Array (Nat × Operand)} {a : Operand → AV} (hu : P.underlying t = some (.slice e)) (hpos : 0 < P.cellsOf e) (hz : zOk P e = true) (hsmall : len * P.cellsOf e ≤ 16777216)
    (hidx : parts.toList.map (·.1) = List.range len) (hr : ∀ p ∈ parts.toList, Rep w lim (ca.eval p.2) (a p.2) []) (ht : ∀ p ∈ parts.toList, (a p.2).topOk = true ∧ (a p.2).cells.length = P.cellsOf e) :
    ∃ v w' lim' os, (Instr.buildSlice t len (parts.map fun (i, x) => (i, ca.eval x))).run P w = .ok v w' ∧ St F lim' w' n fr m ca os ∧ Rep w' lim' v (.slice true (parts.toList.map fun p => a p.2)) os ∧ Pres F w lim w' lim' := by
  obtain ⟨i, z, hi, hiz, hck, hzA, hzc⟩ := info_of_zOk hz
  obtain ⟨hcs, hbs⟩ := cellsOf_info hi
  rw [hcs] at hpos hsmall ht
  have hlen : parts.toList.length = len := by have := congrArg List.length hidx; simpa using this
  have hsz : ∀ p ∈ parts.toList, (ca.eval p.2).cells.size = i.size := fun p hp => by rw [(rep_cellsR (hr p hp) (ht p hp).1).1]; exact (ht p hp).2
  by_cases h0 : len = 0
  · subst h0
    have hp0 : parts = #[] := by simpa using hlen
    subst hp0
    have hP := Pres.allocUp (w' := w) st rfl rfl rfl rfl (.cells #[] e) 0
    refine ⟨.slice (some ⟨w.heap.size, 0, none⟩) 0 0, w.alloc (.cells #[] e), _, _, by
      have hr0 : Array.range 0 = #[] := by apply Array.ext' ; simp
      simp [Instr.buildSlice, run_und hu, sizeOf, typeInfo, hi, Instr.fill, newRow, hr0], st.allocFly (w' := w) rfl _ 0, ?_, hP⟩
    exact rep_own_new (sz := i.size) (cv := fun _ _ => undef) (by simp) (Nat.le_refl _) (by simp [maxLen]) (by omega) (.inr rfl) (heapNew w _) (by simp) (fun _ h => by omega) (by rw [limUp_same]; simp) (fun _ _ h => by omega) (fun _ _ h => by omega)
  · have hparts : (parts.map fun (i, x) => (i, ca.eval x)).toList = (((parts.toList.map fun p => ca.eval p.2)).zipIdx 0).map fun x => (x.2, x.1) := by
      have h1 : (parts.toList.map fun p => (p.1, ca.eval p.2)).map (·.1) = List.range (parts.toList.map fun p => (p.1, ca.eval p.2)).length := by
        simp only [List.map_map, List.length_map, hlen]
        exact hidx
      have h2 := zipIdx_of_range _ h1
      simp only [List.map_map] at h2
      have e : (parts.map fun (i, x) => (i, ca.eval x)).toList = parts.toList.map fun p => (p.1, ca.eval p.2) := by simp
      rw [e]; exact h2
    have hfill := Great.fill_whole (s := i.size) hpos (parts.toList.map fun p => ca.eval p.2) ((Array.range (len * i.size)).map (z.cells[· % z.cells.size]!)) (fun v hv => by
      obtain ⟨p, hp, rfl⟩ := List.mem_map.1 hv; exact hsz p hp) (by simp [hlen])
    rw [← hparts] at hfill
    have hne : ¬ len * i.size = 0 := by
      have := Nat.mul_pos (Nat.pos_of_ne_zero h0) hpos; omega
    have hrun := run_buildSlice (P := P) w t e len (parts.map fun (i, x) => (i, ca.eval x)) _ i z hu hi hiz (by omega) hne hfill
    have hP := Pres.allocUp (w' := w) st rfl rfl rfl rfl (.cells ((parts.toList.map fun p => ca.eval p.2).flatMap fun v => v.cells.toList).toArray e) (len * i.size)
    refine ⟨_, _, _, _, hrun, st.allocFly (w' := w) rfl _ (len * i.size), ?_, hP⟩
    have hel : ∀ k, k < len → (parts.toList.map fun p => a p.2).getD k .junk = a (parts.toList.getD k (0, .tmp 0)).2 ∧ (parts.toList.map fun p => ca.eval p.2)[k]? = some (ca.eval (parts.toList.getD k (0, .tmp 0)).2) ∧ parts.toList.getD k (0, .tmp 0) ∈ parts.toList := fun k hk => by
      have hk' : k < parts.toList.length := by omega
      have hk2 : k < parts.size := by simpa using hk'
      simp [List.getD_eq_getElem?_getD, hk2]
    have hlenle : len ≤ len * i.size := Nat.le_mul_of_pos_right _ hpos
    refine rep_own_new (sz := i.size) (cv := fun k j => (ca.eval (parts.toList.getD k (0, .tmp 0)).2).cells.getD j undef) (by simp only [List.length_map]; exact hlen) (Nat.le_refl _) (by simp only [maxLen]; omega) (by omega) (.inl (by omega)) (heapNew w _) ?_ (fun k hk => ?_) (by rw [limUp_same]) (fun k j hk hj => ?_) (fun k j hk hj => ?_)
    · have : ∀ (l : List Value), (∀ v ∈ l, v.cells.size = i.size) → (l.flatMap fun v => v.cells.toList).length = l.length * i.size := fun l hl => by
        induction l with
        | nil => simp
        | cons v l ih => rw [List.flatMap_cons, List.length_append, ih (fun u hu => hl u (by simp [hu]))]; simp [hl v (by simp), Nat.add_mul, Nat.add_comm]
      rw [List.size_toArray, this _ (fun v hv => by obtain ⟨p, hp, rfl⟩ := List.mem_map.1 hv; exact hsz p hp), List.length_map, hlen]
    · obtain ⟨h1, h2, h3⟩ := hel k hk
      rw [h1]; exact (ht _ h3).2
    · obtain ⟨h1, h2, h3⟩ := hel k hk
      rw [List.getElem?_toArray, Great.flat_get hpos _ (fun v hv => by obtain ⟨p, hp, rfl⟩ := List.mem_map.1 hv; exact hsz p hp)]
      have e1 : (k * i.size + j) / i.size = k := by rw [Nat.mul_comm, Nat.mul_add_div hpos, Nat.div_eq_of_lt hj, Nat.add_zero]
      have e2 : (k * i.size + j) % i.size = j := by rw [Nat.mul_comm, Nat.mul_add_mod, Nat.mod_eq_of_lt hj]
      rw [e1, e2, h2, Option.bind_some]
      have : j < (ca.eval (parts.toList.getD k (0, .tmp 0)).2).cells.size := by rw [hsz _ h3]; exact hj
      simp only [Array.getD_eq_getD_getElem?, Array.getElem?_eq_getElem this, Option.getD_some]
    · obtain ⟨h1, h2, h3⟩ := hel k hk
      rw [h1]
      exact ((rep_cellsR (hr _ h3) (ht _ h3).1).2 j (by rw [(ht _ h3).2]; exact hj)).stable hP.mono hP.cell (by simp)

/-- What a cell of memory owns is taken out of it. -/
theorem St.takeMem (h : St F lim w n fr m ca []) {b off : Nat} {l : List AV} (hm : m b = some (.cells l)) (ho : off < l.length) :
    ∃ v os, w.cell? ⟨b, off, none⟩ = some v ∧ St F lim w n fr (m.upd b (some (.cells (l.set off (l.getD off .junk).plain)))) ca os ∧ Rep w lim v (l.getD off .junk) os := by
  obtain ⟨os, om, ow, h⟩ := h
  have hM := h.mem b _ hm
  obtain ⟨hMr, hlim, hF⟩ := hM
  cases hMr with
  | cells cs e _ _ hb hs hr =>
    have hoc : off < cs.size := by omega
    refine ⟨cs.getD off undef, om b off, by simp [World.cell?, hb, Array.getD, hoc], ⟨os, fun k i => if k = b ∧ i = off then [] else om k i, fun c => if ow c = .blk b off then .fly else if ow c = .fly then .none else ow c, h.size, h.defers, h.slots, fun k o hk => ?_, fun t x hx => ⟨(h.ownS t x hx).1, fun c hc => ?_⟩, fun k o hk i => ?_, ?_, fun c hc => ?_, fun k hk => ?_⟩, hr off ho⟩
    · by_cases hkb : k = b
      · subst hkb
        simp only [AMem.upd, ↓reduceIte, Option.some.injEq] at hk ⊢
        subst hk
        refine ⟨.cells cs e _ _ hb (by simp [hs]) (fun i hi => ?_), hlim, hF⟩
        simp only [List.length_set] at hi
        by_cases hio : i = off
        · subst hio
          simp only [List.getD_eq_getElem?_getD, List.getElem?_set, ho, if_true, Option.getD_some, and_self]
          have := (hr i hi).plain
          simpa [List.getD_eq_getElem?_getD] using this
        · have : ¬ off = i := fun e => hio e.symm
          simp only [List.getD_eq_getElem?_getD, List.getElem?_set, this, if_false, hio, and_false]
          have := hr i hi
          simpa [List.getD_eq_getElem?_getD] using this
      · simp only [AMem.upd, if_neg hkb] at hk ⊢
        simpa [hkb] using h.mem k o hk
    · have := (h.ownS t x hx).2 c hc
      simp [this]
    · by_cases hkb : k = b
      · subst hkb
        by_cases hio : i = off
        · simp [hio]
        · refine ⟨by simpa [hio] using (h.ownM k _ hm i).1, fun c hc => ?_⟩
          have := (h.ownM k _ hm i).2 c (by simpa [hio] using hc)
          simp [this, hio]
      · simp only [AMem.upd, if_neg hkb] at hk
        refine ⟨by simpa [hkb] using (h.ownM k o hk i).1, fun c hc => ?_⟩
        have := (h.ownM k o hk i).2 c (by simpa [hkb] using hc)
        simp [this, hkb]
    · exact ⟨(h.ownM b _ hm off).1, fun c hc => by simp [(h.ownM b _ hm off).2 c hc]⟩
    · have hne : ow c ≠ .none := by
        intro e; simp [e] at hc
      have := h.free c hne
      refine ⟨this.1, ?_, this.2.2⟩
      have hcb : c ≠ b := fun e => by subst e; rw [hm] at this; cases this.2.1
      simp only [AMem.upd, if_neg hcb]
      exact this.2.1
    · have := h.fresh k hk
      refine ⟨this.1, this.2.1, ?_⟩
      have hcb : k ≠ b := fun e => by subst e; rw [hm] at this; cases this.2.2
      simp only [AMem.upd, if_neg hcb]
      exact this.2.2

end
end Go.Aw
