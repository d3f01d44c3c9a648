/-
  The abstract layer, part 27: slices that are written and grow: their cells are memory that is told of.
-/
import Derived.Test.YtoeghipbkmaccaaWwZ
namespace Go.Aw
open Go

section
variable {P : Program} {F : Nat → Prop} {lim : Nat → Nat} {w w' : World} {n : Nat} {fr : Fr} {m : AMem} {ca : Act} {fl : List Nat}

theorem upd_self {b : Nat} {o : AObj} (h : m b = some o) : (m.upd b none).upd b (some o) = m := by
  funext c
  simp only [AMem.upd]
  by_cases hc : c = b
  · subst hc; simp [h]
  · simp [hc]

theorem upd_upd {b : Nat} {o o' : Option AObj} : (m.upd b o).upd b o' = m.upd b o' := by
  funext c
  simp only [AMem.upd]
  by_cases hc : c = b <;> simp [hc]

theorem rep_app {A B : List Value} {X Y : List AV} (hA : A.length = X.length) (r1 : ∀ q, q < X.length → Rep w lim (A.getD q undef) (X.getD q .junk) []) (r2 : ∀ q, q < Y.length → Rep w lim (B.getD q undef) (Y.getD q .junk) []) :
    ∀ q, q < (X ++ Y).length → Rep w lim ((A ++ B).getD q undef) ((X ++ Y).getD q .junk) [] := by
  intro q hq
  by_cases h : q < X.length
  · rw [getD_append_lt h, List.getD_eq_getElem?_getD, List.getElem?_append_left (by omega), ← List.getD_eq_getElem?_getD]; exact r1 q h
  · rw [getD_append_ge (by omega), List.getD_eq_getElem?_getD, List.getElem?_append_right (by omega), ← List.getD_eq_getElem?_getD, hA]
    rw [List.length_append] at hq
    exact r2 _ (by omega)

set_option maxHeartbeats 1000000 in
theorem appendMs_sound (st : St F lim w n fr m ca []) {t e ty : TypeId} {z : AV} (ht : P.underlying t = some (.slice e)) (hz : zOk P e = true) (hzA : zeroA P e = some z) (hpos : 0 < P.cellsOf e) {b k cap : Nat} {L : List AV} {vy : Value} {l' : List AV}
    (hm : m b = some (.cells L)) (hL : L.length = cap * P.cellsOf e) (hk : k ≤ cap) (hcm : cap ≤ maxLen) (hy : Rep w lim vy (.slice false l') []) (hbytes : (k + l'.length) * P.bytesOf e ≤ 140737488355328) (hbig : k + l'.length ≤ 140737488355328)
    (hpl : ∀ x ∈ L, x.plain = x) (hl' : ∀ x ∈ l', x.cells.length = P.cellsOf e ∧ x.cells.all AV.one = true) (htop : z.topOk = true) :
    ∃ b' cap' w' lim' rest, (Builtin.append_ #[t, t] ty #[.slice (some ⟨b, 0, none⟩) k cap, vy]).run P w = .ok (.slice (some ⟨b', 0, none⟩) (k + l'.length) cap') w' ∧ k + l'.length ≤ cap' ∧ cap' ≤ maxLen ∧
      ((b' = b ∧ cap' = cap ∧ rest = L.drop ((k + l'.length) * P.cellsOf e)) ∨ (m b' = none ∧ rest = (List.replicate (cap' - (k + l'.length)) z.cells).flatten)) ∧
      St F lim' w' n fr ((m.upd b none).upd b' (some (.cells (L.take (k * P.cellsOf e) ++ l'.flatMap AV.cells ++ rest)))) ca [] ∧ Pres F w lim w' lim' := by
  obtain ⟨i, zv, hi, hiz, hck, hzA', hzc⟩ := info_of_zOk hz
  obtain ⟨hcs, hbs⟩ := cellsOf_info hi
  rw [hzA] at hzA'
  have hze : z = cval zv := Option.some.inj hzA'
  have hgl : ∀ (l : List AV) i, i < l.length → l.getD i .junk ∈ l := fun l i hi => by simp [List.getD_eq_getElem?_getD, hi]
  have hmx : ∀ k : Nat, k ≤ 140737488355328 → k ≤ maxLen := fun k hk => by simp only [maxLen]; omega
  rw [hcs] at hL hpos hl'
  rw [hcs]
  by_cases hnil : l' = []
  · subst hnil
    have hvy : ∃ a c, vy = .slice a 0 c := by
      obtain ⟨a, c, rfl, _⟩ := rep_slice_len hy
      exact ⟨a, c, rfl⟩
    obtain ⟨a, c, rfl⟩ := hvy
    refine ⟨b, cap, w, lim, L.drop (k * i.size), by simpa using run_append_zero t e ty i ht hi _ k cap hk a c, by simpa using hk, hcm, .inl ⟨rfl, rfl, by simp⟩, ?_, .refl _ _ _⟩
    simp only [List.flatMap_nil, List.append_nil, List.take_append_drop]
    rw [upd_self hm]; exact st
  have hpos' : 0 < l'.length := List.length_pos_iff.2 hnil
  rcases rep_slice_cases hy with ⟨rfl, _⟩ | ⟨rfl, _⟩ | ⟨yb, yoff, ycap, ysz, ycv, rfl, hycap, hym, hybig, hysz, hylim, hyc, hyr⟩
  · exact (hnil rfl).elim
  · exact (hnil rfl).elim
  have hys : ysz = i.size := by rw [← hysz 0 hpos', (hl' _ (hgl l' 0 hpos')).1]
  subst hys
  have hnews := flatVals_cells (w := w) hpos hyc
  have hnl : (flatVals ycv l'.length i.size).length = l'.length * i.size := by simp [flatVals]
  have hone : ∀ u ∈ flatVals ycv l'.length i.size, u.oneCell' = true := fun u hu => by
    obtain ⟨k, hk, rfl⟩ := List.mem_map.1 hu
    have hk' : k < l'.length * i.size := by simpa using hk
    have hia : k / i.size < l'.length := Nat.div_lt_of_lt_mul (by rw [Nat.mul_comm]; exact hk')
    have hja := Nat.mod_lt k hpos
    exact one_cell_of (hl' _ (hgl l' _ hia)).2 (by rw [hysz _ hia]; exact hja) (hyr _ _ hia hja)
  rw [hbs] at hbytes
  have hflen : (l'.flatMap AV.cells).length = l'.length * i.size := by
    have : ∀ l : List AV, (∀ x ∈ l, x.cells.length = i.size) → (l.flatMap AV.cells).length = l.length * i.size := fun l hl => by
      induction l with
      | nil => simp
      | cons v l ih => rw [List.flatMap_cons, List.length_append, ih (fun u hu => hl u (by simp [hu]))]; simp [hl v (by simp), Nat.add_mul, Nat.add_comm]
    exact this l' (fun x hx => (hl' x hx).1)
  have hfget : ∀ q, q < l'.length * i.size → (l'.flatMap AV.cells).getD q .junk = (l'.getD (q / i.size) .junk).cells.getD (q % i.size) .junk := by
    have : ∀ l : List AV, (∀ x ∈ l, x.cells.length = i.size) → ∀ q, q < l.length * i.size → (l.flatMap AV.cells).getD q .junk = (l.getD (q / i.size) .junk).cells.getD (q % i.size) .junk := fun l hl => by
      induction l with
      | nil => intro q hq; simp at hq
      | cons v l ih =>
        intro q hq
        have hv := hl v (by simp)
        rw [List.flatMap_cons]
        by_cases hqs : q < i.size
        · rw [getD_append_lt (by omega), Nat.div_eq_of_lt hqs, Nat.mod_eq_of_lt hqs]; rfl
        · obtain ⟨r, rfl⟩ := Nat.exists_eq_add_of_le (Nat.le_of_not_lt hqs)
          have e1 : (i.size + r) / i.size = r / i.size + 1 := by rw [Nat.add_comm, Nat.add_div_right _ hpos]
          rw [getD_append_ge (by omega), hv, Nat.add_sub_cancel_left, ih (fun u hu => hl u (by simp [hu])) r (by simp [Nat.succ_mul] at hq; omega), e1, Nat.add_mod_left]
          simp [List.getD_eq_getElem?_getD]
    exact this l' (fun x hx => (hl' x hx).1)
  have hnewr : ∀ q, q < (l'.flatMap AV.cells).length → Rep w lim ((flatVals ycv l'.length i.size).getD q undef) ((l'.flatMap AV.cells).getD q .junk) [] := fun q hq => by
    rw [hflen] at hq
    have h1 : q / i.size < l'.length := Nat.div_lt_of_lt_mul (by rw [Nat.mul_comm]; exact hq)
    have h2 := Nat.mod_lt q hpos
    have h3 := flatVals_get (cv := ycv) (n := l'.length) (sz := i.size) h1 h2
    have h4 : q / i.size * i.size + q % i.size = q := by rw [Nat.mul_comm]; exact Nat.div_add_mod q i.size
    rw [h4] at h3
    rw [hfget q hq, List.getD_eq_getElem?_getD, h3]
    exact hyr _ _ h1 h2
  have hM : ∃ cs e', w.heap[b]? = some (.cells cs e' (0, 0)) ∧ cs.size = L.length ∧ ∀ q, q < L.length → Rep w lim (cs.getD q undef) (L.getD q .junk) [] := by
    obtain ⟨os, om, ow, h⟩ := st
    have hM := (h.mem b _ hm).1
    cases hM with
    | cells cs e' l _ hb hs hr =>
      refine ⟨cs, e', hb, hs, fun q hq => ?_⟩
      have := (hr q hq).plain
      rwa [hpl _ (hgl L q hq)] at this
  obtain ⟨cs, e', hb, hcsz, hcr⟩ := hM
  have hh63 : ((k + l'.length : Nat) : Int) ≤ 9223372036854775807 := by omega
  by_cases hroom : k + l'.length ≤ cap
  · have hfit : k * i.size + (flatVals ycv l'.length i.size).length ≤ cs.size := by
      rw [hnl, hcsz, hL, ← Nat.add_mul]; exact Nat.mul_le_mul_right _ hroom
    have hrun := run_append_room' (P := P) (w := w) t e ty i ht hi b k cap cs e' hb ⟨yb, yoff, none⟩ l'.length ycap _ hnl hnews hone hroom hfit
    obtain ⟨s1, s2⟩ := st.storeMem (off := k * i.size) (xs := l'.flatMap AV.cells) (vs := flatVals ycv l'.length i.size) (oss := fun _ => []) hm hb (by rw [hflen, hL, ← Nat.add_mul]; exact Nat.mul_le_mul_right _ hroom) (by rw [hnl, hflen]) hnewr (by rw [flatMap_nil])
    refine ⟨b, cap, _, _, _, hrun, hroom, hcm, .inl ⟨rfl, rfl, rfl⟩, ?_, s2⟩
    rw [upd_upd]
    rw [hflen, ← Nat.add_mul] at s1
    exact s1
  · have hcell : ∀ q, q < L.length → w.cell? ⟨b, q, none⟩ = some (cs.getD q undef) := fun q hq => by
      have hq' : q < cs.size := by omega
      simp [World.cell?, hb, Array.getD, hq']
    have hkL : k * i.size ≤ L.length := by rw [hL]; exact Nat.mul_le_mul_right _ hk
    have holds : ∀ j u, (cs.toList.take (k * i.size))[j]? = some u → w.cell? ((⟨b, 0, none⟩ : Addr).add j) = some u := fun j u hj => by
      rw [List.getElem?_take] at hj
      split at hj
      · rename_i hjk
        have e1 : (⟨b, 0, none⟩ : Addr).add j = ⟨b, 0 + j, none⟩ := Addr.add_lit b 0 j
        rw [e1, Nat.zero_add]
        simpa [World.cell?, hb] using hj
      · cases hj
    have hol : (cs.toList.take (k * i.size)).length = k * i.size := by simp; omega
    have hfits := growslice_fits (need := k + l'.length) (old := cap) (bytes := i.bytes) (by omega) hbytes
    have hrun := run_append_grow (P := P) w t ty e i zv ht hi hiz ⟨b, 0, none⟩ k cap _ hol holds ⟨yb, yoff, none⟩ l'.length ycap _ hnl hnews (by omega) hh63 hfits
    have hcap := grownCap_ge w (k + l'.length) cap e
    have hcapm := grownCap_le_maxLen w (k + l'.length) cap e (hmx _ hbig)
    generalize grownCap w (k + l'.length) cap e = cap' at hrun hcap hcapm
    have stD : St F lim w.drew n fr m ca [] := st.heap rfl
    obtain ⟨v0, z1, z2, z3, z4⟩ := zero_run (P := P) (w := w) (lim := lim) (t := e) hzA
    have hzs : z.cells.length = i.size := by rw [hze, cval_cells, hzc]
    have hzr : ∀ q, q < i.size → Rep w lim (zv.cells.getD q undef) (z.cells.getD q .junk) [] := fun q hq => by
      have h1 := rep_cval (w := w) (lim := lim) hck
      rw [← hze] at h1
      exact (rep_cellsR h1 htop).2 q (by omega)
    have hlen : (L.take (k * i.size) ++ l'.flatMap AV.cells ++ (List.replicate (cap' - (k + l'.length)) z.cells).flatten).length = cap' * i.size := by
      have : (List.replicate (cap' - (k + l'.length)) z.cells).flatten.length = (cap' - (k + l'.length)) * i.size := by
        rw [List.length_flatten]; simp [hzs]
      simp only [List.length_append, List.length_take, hflen, this]
      rw [Nat.min_eq_left hkL, ← Nat.add_mul, ← Nat.add_mul]; congr 1; omega
    have hsize : ((cs.toList.take (k * i.size)).toArray ++ (flatVals ycv l'.length i.size).toArray ++ Builtin.zeroCells zv.cells (cap' - (k + l'.length))).size = cap' * i.size := by
      simp only [Array.size_append, List.size_toArray, size_zeroCells, hzc, hol, hnl, ← Nat.add_mul]
      congr 1; omega
    have hA := stD.allocMem ((cs.toList.take (k * i.size)).toArray ++ (flatVals ycv l'.length i.size).toArray ++ Builtin.zeroCells zv.cells (cap' - (k + l'.length))) e (L.take (k * i.size) ++ l'.flatMap AV.cells ++ (List.replicate (cap' - (k + l'.length)) z.cells).flatten) (by rw [hsize, hlen]) (fun q hq => by
      refine Rep.stable (w := w) (lim := lim) ?_ (fun _ => Nat.le_refl _) (fun _ _ _ => rfl) (by simp)
      rw [Array.getD_eq_getD_getElem?, ← Array.getElem?_toList, ← List.getD_eq_getElem?_getD]
      simp only [Array.toList_append]
      refine rep_app (by simp [hflen, hnl]; omega) (rep_app (by simp; omega) (fun q hq => ?_) hnewr) (fun q hq => ?_) q hq
      · rw [List.length_take] at hq
        have h1 := hcr q (by omega)
        rw [List.getD_eq_getElem?_getD, List.getElem?_take, if_pos (by omega), List.getD_eq_getElem?_getD, List.getElem?_take, if_pos (by omega)]
        rw [Array.getD_eq_getD_getElem?, ← Array.getElem?_toList, List.getD_eq_getElem?_getD] at h1
        exact h1
      · have hq' : q < (cap' - (k + l'.length)) * i.size := by
          rw [List.length_flatten] at hq; simpa [hzs] using hq
        rw [flatten_getD _ i.size _ hzs hpos q hq']
        have h1 := hzr (q % i.size) (Nat.mod_lt _ hpos)
        have h2 : (Builtin.zeroCells zv.cells (cap' - (k + l'.length))).toList.getD q undef = zv.cells.getD (q % i.size) undef := by
          have h3 : q % i.size < zv.cells.size := by rw [hzc]; exact Nat.mod_lt _ hpos
          have h4 : q < (cap' - (k + l'.length)) * zv.cells.size := by rw [hzc]; exact hq'
          have h5 : q % zv.cells.size < zv.cells.size := Nat.mod_lt _ (by omega)
          rw [← hzc]
          simp [Builtin.zeroCells, List.getD_eq_getElem?_getD, Array.getD_eq_getD_getElem?, h4, h5]
        rw [h2]; exact h1)
    have hPN := pres_new stD (.cells ((cs.toList.take (k * i.size)).toArray ++ (flatVals ycv l'.length i.size).toArray ++ Builtin.zeroCells zv.cells (cap' - (k + l'.length))) e)
    refine ⟨w.heap.size, cap', _, lim, _, hrun, hcap, hcapm, .inr ⟨hA.1, rfl⟩, ?_, ?_⟩
    · refine hA.2.memSub fun c o hc => ?_
      have eD : w.drew.heap.size = w.heap.size := rfl
      simp only [AMem.upd, eD] at hc ⊢
      by_cases h1 : c = w.heap.size
      · rw [if_pos h1] at hc; rw [if_pos h1]; exact hc
      · rw [if_neg h1] at hc; rw [if_neg h1]
        by_cases h2 : c = b
        · rw [if_pos h2] at hc; cases hc
        · rw [if_neg h2] at hc; exact hc
    · exact ⟨rfl, rfl, rfl, Nat.le_trans (Nat.le_of_eq rfl) hPN.size, hPN.res, hPN.mono, hPN.cell⟩


theorem eraseIdx_split {α : Type} {L : List α} {i : Nat} {x : α} (h : L[i]? = some x) : L.Perm (x :: L.eraseIdx i) := by
  induction L generalizing i with
  | nil => simp at h
  | cons a L ih =>
    cases i with
    | zero => simp at h; subst h; exact List.Perm.refl _
    | succ i =>
      simp only [List.getElem?_cons_succ] at h
      simp only [List.eraseIdx_cons_succ]
      exact ((ih h).cons a).trans (List.Perm.swap x a _)

/-- An empty slice whose cells will be written. -/
theorem ar_buildMs0 {ops : Array Oper} {stl : List Nat} {r : List Oper} {K : Fr → AMem → Prop} {d : Nat} {ty : TypeId} {pos : String} {af : Array Edge} {gd : Option (Nat × Bool)} {L : List (Nat × AObj)} (hg : gOn ops fr gd = some true) {t e : TypeId}
    (ht : P.underlying t = some (.slice e)) (hU : isU P e = true) (hs : stl.contains d = true) (h : ∀ b, m.wth L b = none → aopsR P ops stl r K (fr.put d (.ms ⟨b, 0, none⟩ 0 0)) (m.wth ((b, .cells []) :: L))) :
    aopsR P ops stl (⟨some d, .buildSlice t 0 #[], ty, pos, af, gd⟩ :: r) K fr (m.wth L) := by
  simp only [aopsR, aopR, hg, ares, Option.map_some, Option.getD_some, hs, if_true]
  intro n hk hn F lim w ca st
  obtain ⟨i, hi⟩ : ∃ i, P.info? e = some i := by
    unfold isU at hU
    cases hi : P.info? e with
    | none => simp [Program.underlying, hi] at hU
    | some i => exact ⟨i, rfl⟩
  have hr0 : Array.range 0 = #[] := by apply Array.ext'; simp
  obtain ⟨h1, h2⟩ := st.allocMem #[] e [] (by simp) (by simp)
  refine ⟨.value (.slice (some ⟨w.heap.size, 0, none⟩) 0 0), _, w.alloc (.cells #[] e), lim, _, _, ?_, .inl rfl, h2.putO (d := some d) (fun t ht => okOper_dst hk ht) (.ms _ 0 0 (Nat.le_refl _) (by simp [maxLen])), pres_new st _, h _ h1⟩
  simp [execOp, Instr.buildSlice, run_und ht, sizeOf, typeInfo, hi, Instr.fill, newRow, hr0]

/-- Growth of a slice whose cells memory tells of. -/
theorem ar_appendMs {ops : Array Oper} {stl : List Nat} {r : List Oper} {K : Fr → AMem → Prop} {d : Nat} {ty : TypeId} {pos : String} {af : Array Edge} {gd : Option (Nat × Bool)} {L : List (Nat × AObj)} (hg : gOn ops fr gd = some true) (i : Nat) {α : Type} (f : α → AV) (zs ys : List α) (z0 : α) (k : Nat) {own : Bool} {t e : TypeId} {s b : Nat} {y : Operand} {l' : List AV}
    (ht : P.underlying t = some (.slice e)) (hx : rawOf fr s = .ms ⟨b, 0, none⟩ k zs.length) (hy : evP (rawOf fr) y = .slice own l') (hl' : l' = ys.map f) (hz : zOk P e = true) (hzA : zeroA P e = some (f z0)) (hc : P.cellsOf e = 1)
    (hi : L[i]? = some (b, .cells (zs.map f))) (hN : (L.map Prod.fst).Nodup) (hF : m b = none) (hp : ∀ a, (f a).plain = f a) (htop : (f z0).topOk = true) (hf : ∀ a, (f a).cells = [f a]) (hf1 : ∀ a, (f a).one = true)
    (hk : k ≤ zs.length) (hb1 : (k + ys.length) * P.bytesOf e ≤ 140737488355328) (hb2 : k + ys.length ≤ 140737488355328)
    (h : ∀ (b' : Nat) (zs' : List α), m b' = none → (b' :: (L.eraseIdx i).map Prod.fst).Nodup → zs'.take (k + ys.length) = zs.take k ++ ys → k + ys.length ≤ zs'.length →
      aopsR P ops stl r K (fr.put d (.ms ⟨b', 0, none⟩ (k + ys.length) zs'.length)) (m.wth ((b', .cells (zs'.map f)) :: L.eraseIdx i))) :
    aopsR P ops stl (⟨some d, .call ⟨.builtin .append, #[.tmp s, y], #[t, t]⟩, ty, pos, af, gd⟩ :: r) K fr (m.wth L) := by
  simp only [aopsR, aopR, hg, ares, ht, hx, hy]
  intro n hk' hn F lim w ca st
  have hperm := eraseIdx_split hi
  have hN' := hN
  have hm1 := wth_perm (m := m) hN hperm
  have hNp : ((b :: (L.eraseIdx i).map Prod.fst)).Nodup := by
    have := (hperm.map Prod.fst).nodup_iff.1 hN
    simpa using this
  have hget := wth_get (m := m) i hN hi
  subst hl'
  have hvs := evP_rep st (okOper_opd hk' (.tmp s) (by simp [Op.operands, Call.operands]))
  have hxp : evP (rawOf fr) (.tmp s) = .ms ⟨b, 0, none⟩ k zs.length := by simp [evP, hx, AV.plain]
  rw [hxp] at hvs
  obtain ⟨hv, hkc, hcm⟩ := rep_ms_inv hvs
  have hvy := evP_rep st (okOper_opd hk' y (by simp [Op.operands, Call.operands]))
  rw [hy] at hvy
  have hvy' : Rep w lim (ca.eval y) (.slice false (ys.map f)) [] := by simpa [AV.plain] using hvy.plain
  obtain ⟨b', cap', w', lim', rest, r1, r2, r3, r4, r5, r6⟩ := appendMs_sound (P := P) (ty := ty) st ht hz hzA (by rw [hc]; exact Nat.one_pos) hget (by simp [hc]) hk hcm hvy' (by simpa using hb1) (by simpa using hb2)
    (fun x hx => by obtain ⟨a, _, rfl⟩ := List.mem_map.1 hx; exact hp a) (fun x hx => by obtain ⟨a, _, rfl⟩ := List.mem_map.1 hx; rw [hf, hc]; simp [hf1]) htop
  have hflat : ∀ l : List α, (l.map f).flatMap AV.cells = l.map f := fun l => by
    induction l with
    | nil => rfl
    | cons a l ih => rw [List.map_cons, List.flatMap_cons, ih, hf]; rfl
  rw [hc, Nat.mul_one, hflat] at r5
  simp only [List.length_map] at r1 r2
  obtain ⟨zs', hzs, hlen, hb'⟩ : ∃ zs' : List α, (List.take k (zs.map f) ++ ys.map f ++ rest = zs'.map f) ∧ (zs'.length = cap' ∧ zs'.take (k + ys.length) = zs.take k ++ ys) ∧ (m b' = none ∧ (b' :: (L.eraseIdx i).map Prod.fst).Nodup) := by
    rcases r4 with ⟨rfl, rfl, rfl⟩ | ⟨hb', rfl⟩
    · refine ⟨zs.take k ++ ys ++ zs.drop (k + ys.length), by simp [hc, List.map_take, List.map_drop], ⟨by simp; omega, ?_⟩, hF, hNp⟩
      rw [List.take_append_of_le_length (by simp; omega)]
      exact List.take_of_length_le (by simp; omega)
    · refine ⟨zs.take k ++ ys ++ List.replicate (cap' - (k + ys.length)) z0, ?_, ⟨by simp; omega, ?_⟩, ?_⟩
      · rw [List.length_map, flatten_one f z0 (hf z0)]; simp [List.map_take]
      · rw [List.take_append_of_le_length (by simp; omega)]
        exact List.take_of_length_le (by simp; omega)
      · have h1 := wth_fresh hb'
        refine ⟨h1.2, List.nodup_cons.2 ⟨fun hmem => h1.1 ?_, (List.nodup_cons.1 hNp).2⟩⟩
        have : b' ∈ (b :: (L.eraseIdx i).map Prod.fst) := List.mem_cons_of_mem _ hmem
        exact ((hperm.map Prod.fst).mem_iff).2 (by simpa using this)
  rw [hzs] at r5
  have hmem : ((m.wth L).upd b none).upd b' (some (.cells (zs'.map f))) = m.wth ((b', .cells (zs'.map f)) :: L.eraseIdx i) := by
    funext c
    show _ = if c = b' then _ else _
    simp only [AMem.upd]
    by_cases h1 : c = b'
    · simp [h1]
    · rw [if_neg h1, if_neg h1]
      by_cases h2 : c = b
      · subst h2
        rw [if_pos rfl, wth_other (List.nodup_cons.1 hNp).1, hF]
      · rw [if_neg h2, hm1]
        show (if c = b then _ else _) = _
        rw [if_neg h2]
  rw [hmem] at r5
  rw [← hlen.1] at r1 r3 r2
  refine ⟨_, _, w', lim', _, _, ?_, .inl rfl, r5.putO (d := some d) (fun t ht => okOper_dst hk' ht) (.ms _ _ _ r2 r3), r6, h b' zs' hb'.1 hb'.2 hlen.2 r2⟩
  have e1 : (#[Operand.tmp s, y] : Array Operand).map ca.eval = #[.slice (some ⟨b, 0, none⟩) k zs.length, ca.eval y] := by apply Array.ext'; simp [hv]
  simp only [execOp, resolve, invoke, builtin, Sem.run_bind, Sem.run_pure, Result.andThen_ok, e1]
  rw [r1]; rfl


theorem ar_sliceMs0 {ops : Array Oper} {stl : List Nat} {r : List Oper} {K : Fr → AMem → Prop} {d : Nat} {ty : TypeId} {pos : String} {af : Array Edge} {gd : Option (Nat × Bool)} (hg : gOn ops fr gd = some true) {t e : TypeId} {x y : Operand} {b k cap : Nat} (q : Int)
    (ht : P.underlying t = some (.slice e)) (hU : isU P e = true) (hx : evP (rawOf fr) x = .ms ⟨b, 0, none⟩ k cap) (hy : evP (rawOf fr) y = .int .i64 q) (h0 : 0 ≤ q) (h1 : q ≤ k) (h2 : 0 < cap) (h : aopsR P ops stl r K (fr.put d (.ms ⟨b, 0, none⟩ q.toNat cap)) m) :
    aopsR P ops stl (⟨some d, .slice t x none (some y) none, ty, pos, af, gd⟩ :: r) K fr m := by
  simp only [aopsR, aopR, hg, ares, qv, ht, hx, hy, Option.map_some, Option.getD_some, Option.map_none, Option.getD_none]
  refine ⟨⟨hU, Int.le_refl _, h0, h1, by omega⟩, ?_⟩
  simpa [Fr.strip, putO] using h


theorem rep_args {args : Array Operand} (st : St F lim w n fr m ca fl) (hk : ∀ y ∈ args.toList, opdOk y = true) : ∀ i, i < (args.toList.map (evP (rawOf fr))).length → Rep w lim ((args.map ca.eval).getD i undef) ((args.toList.map (evP (rawOf fr))).getD i .junk) [] := by
  intro i hi
  have hi' : i < args.size := by simpa using hi
  have := evP_rep st (hk args[i] (by simp))
  simpa [List.getD_eq_getElem?_getD, Array.getD_eq_getD_getElem?, hi'] using this

/-- A function value is made: what it takes along reads as it does. -/
theorem ar_makeFunc {ops : Array Oper} {stl : List Nat} {r : List Oper} {K : Fr → AMem → Prop} {d : Nat} {ty : TypeId} {pos : String} {af : Array Edge} {gd : Option (Nat × Bool)} (hg : gOn ops fr gd = some true) {fn : Fn} {first caps : Array Operand} {fl cl : List AV}
    (hf : first.toList.map (evP (rawOf fr)) = fl) (hc : caps.toList.map (evP (rawOf fr)) = cl) (h : aopsR P ops stl r K (fr.put d (.func fn fl cl)) m) :
    aopsR P ops stl (⟨some d, .makeFunc fn first caps, ty, pos, af, gd⟩ :: r) K fr m := by
  subst hf hc
  simp only [aopsR, aopR, hg, ares, qv]
  intro n hk hn F lim w ca st
  have hopd := okOper_opd hk
  refine ⟨_, _, w, lim, _, _, rfl, .inl rfl, st.putO (d := some d) (fun t ht => okOper_dst hk ht) (.func fn _ _ _ _ (by simp) (by simp) (rep_args st fun y hy => hopd y (by simp [Op.operands]; exact .inl (by simpa using hy))) (rep_args st fun y hy => hopd y (by simp [Op.operands]; exact .inr (by simpa using hy)))), .refl _ _ _, h⟩


theorem rep_slice_conv {v : Value} {l l' : List AV} (hlen : l'.length = l.length) (hc : ∀ i, (l'.getD i .junk).cells.length = (l.getD i .junk).cells.length) (hr : ∀ i j v, Rep w lim v ((l.getD i .junk).cells.getD j .junk) [] → Rep w lim v ((l'.getD i .junk).cells.getD j .junk) [])
    (h : Rep w lim v (.slice false l) []) : Rep w lim v (.slice false l') [] := by
  cases h with
  | nils own =>
    have : l' = [] := List.length_eq_zero_iff.1 (by simpa using hlen)
    subst this; exact .nils _
  | empty a cap hm =>
    have : l' = [] := List.length_eq_zero_iff.1 (by simpa using hlen)
    subst this; exact .empty a cap hm
  | slice b off n cap sz l cv hn hcap hm hbig hsz hlim hc' hr' =>
    exact .slice b off n cap sz l' cv (by omega) hcap hm hbig (fun i hi => by rw [hc i]; exact hsz i hi) hlim hc' (fun i j hi hj => hr i j _ (hr' i j hi hj))

/-- Arguments that read so read so too. -/
theorem ACalls.conv {f : FuncId} {args args' : List AV} {K : AV → AMem → Prop} (hl : args'.length = args.length) (hr : ∀ w lim i v, Rep w lim v (args.getD i .junk) [] → Rep w lim v (args'.getD i .junk) []) (h : ACalls P f args' m K) : ACalls P f args m K :=
  ⟨h.1, fun F lim w cargs h1 h2 h3 => h.2 F lim w cargs (by rw [h1, hl]) (fun i hi => hr w lim i _ (h2 i (by omega))) h3⟩

end
end Go.Aw
