/-
  The abstract layer, part 10: a slice that grows, a slice that is built.
-/
import Derived.Test.YtoeghipbkmaccaaWwI
namespace Go.Aw
open Go

def limUp (lim : Nat → Nat) (b k : Nat) : Nat → Nat := fun c => if c = b then k else lim c

section
variable {P : Program} {F : Nat → Prop} {lim lim' : Nat → Nat} {w w' : World} {n : Nat} {fr : Fr} {m : AMem} {ca : Act} {fl : List Nat} {os : Nat → List Nat} {om : Nat → Nat → List Nat} {ow : Nat → Place}

theorem StX.world (h : StX F lim w n fr m ca fl os om ow) (hsz : w.heap.size ≤ w'.heap.size) (hl : ∀ b, lim b ≤ lim' b) (hc : ∀ b o, o < lim b → w'.cell? ⟨b, o, none⟩ = w.cell? ⟨b, o, none⟩)
    (hown : ∀ c, ow c ≠ .none → w'.heap[c]? = w.heap[c]? ∧ lim' c = lim c) (hm : ∀ b, m b ≠ none → w'.heap[b]? = w.heap[b]? ∧ lim' b = lim b)
    (hfresh : ∀ b, w'.heap.size ≤ b → lim' b = 0) : StX F lim' w' n fr m ca fl os om ow := by
  refine ⟨h.size, h.defers, fun t x hx => ⟨(h.slots t x hx).1, (h.slots t x hx).2.stable hl hc (fun c hcm => hown c (by rw [(h.ownS t x hx).2 c hcm]; simp))⟩, fun b o hb => ?_, h.ownS, h.ownM, h.ownF,
    fun c hcn => ⟨(h.free c hcn).1, (h.free c hcn).2.1, Nat.lt_of_lt_of_le (h.free c hcn).2.2 hsz⟩, fun b hb => ⟨hfresh b hb, (h.fresh b (Nat.le_trans hsz hb)).2⟩⟩
  have hmb := hm b (by rw [hb]; simp)
  exact ⟨(h.mem b o hb).1.stable hmb.1 hl hc (fun i c hcm => hown c (by rw [(h.ownM b o hb i).2 c hcm]; simp)), hmb.2.trans (h.mem b o hb).2.1, (h.mem b o hb).2.2⟩

theorem StX.dropFly (h : StX F lim w n fr m ca fl os om ow) : StX F lim w n fr m ca [] os om (fun c => if ow c = .fly then .none else ow c) := by
  refine ⟨h.size, h.defers, h.slots, h.mem, fun t x hx => ⟨(h.ownS t x hx).1, fun c hc => by simp [(h.ownS t x hx).2 c hc]⟩, fun b o hb i => ⟨(h.ownM b o hb i).1, fun c hc => by simp [(h.ownM b o hb i).2 c hc]⟩, ⟨by simp, by simp⟩, fun c hc => ?_, h.fresh⟩
  by_cases h1 : ow c = .fly
  · simp [h1] at hc
  · exact h.free c (by simpa [h1] using hc)

theorem StX.flyOne (h : StX F lim w n fr m ca [] os om ow) {c : Nat} (hc : ow c = .none) (hF : ¬ F c) (hm : m c = none) (hlt : c < w.heap.size) : St F lim w n fr m ca [c] := by
  refine ⟨os, om, fun d => if d = c then .fly else ow d, h.size, h.defers, h.slots, h.mem, fun t x hx => ⟨(h.ownS t x hx).1, fun d hd => ?_⟩, fun b o hb i => ⟨(h.ownM b o hb i).1, fun d hd => ?_⟩, by simp, fun d hd => ?_, h.fresh⟩
  · have := (h.ownS t x hx).2 d hd
    have hne : d ≠ c := fun e => by subst e; rw [hc] at this; cases this
    simpa [hne] using this
  · have := (h.ownM b o hb i).2 d hd
    have hne : d ≠ c := fun e => by subst e; rw [hc] at this; cases this
    simpa [hne] using this
  · by_cases hne : d = c
    · subst hne; exact ⟨hF, hm, hlt⟩
    · exact h.free d (by simpa [hne] using hd)

theorem limUp_same (lim : Nat → Nat) (b k : Nat) : limUp lim b k b = k := by simp [limUp]
theorem limUp_other (lim : Nat → Nat) {b c : Nat} (k : Nat) (h : c ≠ b) : limUp lim b k c = lim c := by simp [limUp, h]

/-- A new block, on its way; the world may have drawn. -/
theorem St.allocFly (h : St F lim w n fr m ca fl) (hw : w'.heap = w.heap) (o : Obj) (k : Nat) : St F (limUp lim w.heap.size k) (w'.alloc o) n fr m ca [w.heap.size] := by
  have hlt := fun {b o} (hb : o < lim b) => h.lt_of_lim hb
  have hltm := fun {b} (hb : m b ≠ none) => h.lt_of_mem hb
  obtain ⟨os, om, ow, h⟩ := h
  have hsz : (w'.alloc o).heap.size = w.heap.size + 1 := by simp [hw]
  have hold : ∀ c, c < w.heap.size → (w'.alloc o).heap[c]? = w.heap[c]? := fun c hc => by rw [heapOld w' o c (by rw [hw]; exact hc), hw]
  have hfr := h.fresh _ (Nat.le_refl _)
  have h2 := (h.dropFly).world (w' := w'.alloc o) (lim' := limUp lim w.heap.size k) (by omega) (fun b => ?_) (fun b i hi => ?_) (fun c hc => ?_) (fun b hb => ?_) (fun b hb => ?_)
  · refine h2.flyOne (c := w.heap.size) ?_ hfr.2.1 hfr.2.2 (by omega)
    have : ow w.heap.size = .none := by
      cases e : ow w.heap.size with
      | none => rfl
      | _ => exact absurd (h.free w.heap.size (by rw [e]; simp)).2.2 (Nat.lt_irrefl _)
    simp [this]
  · by_cases hb : b = w.heap.size
    · subst hb; rw [hfr.1]; exact Nat.zero_le _
    · rw [limUp_other _ _ hb]; exact Nat.le_refl _
  · simp [World.cell?, hold b (hlt hi)]
  · have hcl : c < w.heap.size := (h.free c (by by_cases e : ow c = .fly <;> simp_all)).2.2
    exact ⟨hold c hcl, limUp_other _ _ (by omega)⟩
  · exact ⟨hold b (hltm hb), limUp_other _ _ (by have := hltm hb; omega)⟩
  · rw [hsz] at hb
    rw [limUp_other _ _ (by omega)]
    exact (h.fresh b (by omega)).1

theorem Pres.allocUp (h : St F lim w n fr m ca fl) (hw : w'.heap = w.heap) (ho : w'.os = w.os) (ht : w'.tape = w.tape) (hou : w'.output = w.output) (o : Obj) (k : Nat) : Pres F w lim (w'.alloc o) (limUp lim w.heap.size k) := by
  have hold : ∀ c, c < w.heap.size → (w'.alloc o).heap[c]? = w.heap[c]? := fun c hc => by rw [heapOld w' o c (by rw [hw]; exact hc), hw]
  refine ⟨ho, ht, hou, by simp [hw], fun b hb => ⟨hold b (h.lt_of_F hb), limUp_other _ _ (by have := h.lt_of_F hb; omega)⟩, fun b => ?_, fun b i hi => by simp [World.cell?, hold b (h.lt_of_lim hi)]⟩
  by_cases hb : b = w.heap.size
  · subst hb; rw [h.lim_new]; exact Nat.zero_le _
  · rw [limUp_other _ _ hb]; exact Nat.le_refl _

/-- The one block that is on its way is written beyond what is written no more. -/
theorem St.growFly {b : Nat} (h : St F lim w n fr m ca [b]) (hsz : w'.heap.size = w.heap.size) (hother : ∀ c, c ≠ b → w'.heap[c]? = w.heap[c]?) (k : Nat) (hk : lim b ≤ k) (hcell : ∀ o, o < lim b → w'.cell? ⟨b, o, none⟩ = w.cell? ⟨b, o, none⟩)
    (ho : w'.os = w.os) (ht : w'.tape = w.tape) (hou : w'.output = w.output) : St F (limUp lim b k) w' n fr m ca [b] ∧ Pres F w lim w' (limUp lim b k) := by
  have hb := h.flKeep b (by simp)
  have hl : ∀ c, lim c ≤ limUp lim b k c := fun c => by
    by_cases e : c = b
    · subst e; rw [limUp_same]; exact hk
    · rw [limUp_other _ _ e]; exact Nat.le_refl _
  have hc : ∀ c o, o < lim c → w'.cell? ⟨c, o, none⟩ = w.cell? ⟨c, o, none⟩ := fun c o hlt => by
    by_cases e : c = b
    · subst e; exact hcell o hlt
    · simp [World.cell?, hother c e]
  refine ⟨?_, ⟨ho, ht, hou, by omega, fun c hc => ⟨hother c (fun e => by subst e; exact hb.1 hc), limUp_other _ _ (fun e => by subst e; exact hb.1 hc)⟩, hl, hc⟩⟩
  obtain ⟨os, om, ow, h⟩ := h
  have hfly : ow b = .fly := h.ownF.2 b (by simp)
  have h2 := (h.dropFly).world (w' := w') (lim' := limUp lim b k) (by omega) hl hc (fun c hc => ?_) (fun c hc => ?_) (fun c hc => ?_)
  · exact h2.flyOne (c := b) (by simp [hfly]) hb.1 hb.2.1 (by omega)
  · have e : c ≠ b := fun e => by subst e; simp [hfly] at hc
    exact ⟨hother c e, limUp_other _ _ e⟩
  · have e : c ≠ b := fun e => by subst e; exact hc hb.2.1
    exact ⟨hother c e, limUp_other _ _ e⟩
  · rw [limUp_other _ _ (by omega)]
    exact (h.fresh c (by omega)).1

/-- The cells of the elements of a slice, one behind the other. -/
def flatVals (cv : Nat → Nat → Value) (n sz : Nat) : List Value := (List.range (n * sz)).map fun i => cv (i / sz) (i % sz)

theorem flatVals_get {cv : Nat → Nat → Value} {n sz i j : Nat} (hi : i < n) (hj : j < sz) : (flatVals cv n sz)[i * sz + j]? = some (cv i j) := by
  have hlt : i * sz + j < n * sz := by
    have : i * sz + sz ≤ n * sz := by rw [← Nat.succ_mul]; exact Nat.mul_le_mul_right _ hi
    omega
  have h1 : (i * sz + j) / sz = i := by rw [Nat.mul_comm, Nat.mul_add_div (by omega), Nat.div_eq_of_lt hj, Nat.add_zero]
  have h2 : (i * sz + j) % sz = j := by rw [Nat.mul_comm, Nat.mul_add_mod, Nat.mod_eq_of_lt hj]
  simp [flatVals, hlt, h1, h2]

theorem flatVals_cells {cv : Nat → Nat → Value} {n sz b off : Nat} (hsz : 0 < sz) (hc : ∀ i j, i < n → j < sz → w.cell? ⟨b, off + i * sz + j, none⟩ = some (cv i j)) :
    ∀ k u, (flatVals cv n sz)[k]? = some u → w.cell? ((⟨b, off, none⟩ : Addr).add k) = some u := by
  intro k u hu
  rw [addr_add]
  have hk : k < n * sz := by
    rcases Nat.lt_or_ge k (n * sz) with h | h
    · exact h
    · simp [flatVals, h] at hu
  simp [flatVals, hk] at hu
  have hi : k / sz < n := Nat.div_lt_of_lt_mul (by rw [Nat.mul_comm]; exact hk)
  have := hc (k / sz) (k % sz) hi (Nat.mod_lt _ hsz)
  rw [show off + k / sz * sz + k % sz = off + k from by rw [Nat.add_assoc, Nat.mul_comm, Nat.div_add_mod]] at this
  rw [this, hu]

/-- A row that was laid down whole. -/
theorem rep_own_new {b cnt cap sz : Nat} {l : List AV} {cv : Nat → Nat → Value} {cur : Array Value} {e : TypeId} (hl : l.length = cnt) (hcap : cnt ≤ cap) (hm : cap ≤ maxLen) (hbig : cnt ≤ 140737488355328) (h0 : 0 < cnt ∨ cap = 0)
    (hb : w.heap[b]? = some (.cells cur e (0, 0))) (hcur : cur.size = cap * sz) (hsz : ∀ i, i < cnt → (l.getD i .junk).cells.length = sz) (hlim : cnt * sz = lim b)
    (hget : ∀ i j, i < cnt → j < sz → cur[i * sz + j]? = some (cv i j)) (hr : ∀ i j, i < cnt → j < sz → Rep w lim (cv i j) ((l.getD i .junk).cells.getD j .junk) []) :
    Rep w lim (.slice (some ⟨b, 0, none⟩) cnt cap) (.slice true l) [b] :=
  .own b cnt cap sz l cv cur e hl hcap hm hbig h0 hb hcur hsz hlim (fun i j hi hj => by simp [World.cell?, hb, hget i j hi hj]) hr

theorem cellsOf_info {e : TypeId} {i : TypeInfo} (h : P.info? e = some i) : P.cellsOf e = i.size ∧ P.bytesOf e = i.bytes := by simp [Program.cellsOf, Program.bytesOf, h]

theorem info_of_zero {e : TypeId} (h : (zeroA P e).isSome = true) : ∃ i z, P.info? e = some i ∧ i.zero = some z ∧ cok z = true ∧ zeroA P e = some (cval z) := by
  unfold zeroA at h ⊢
  cases hi : P.info? e with
  | none => simp [hi] at h
  | some i =>
    cases hz : i.zero with
    | none => simp [hi, hz] at h
    | some z =>
      simp only [hi, hz, Option.bind_some] at h ⊢
      by_cases hc : cok z = true
      · exact ⟨i, z, rfl, hz, hc, by simp [hc]⟩
      · simp [hc] at h

theorem cval1_cells (v : Value) : (cval1 v).cells.length = 1 := by
  cases v with
  | pointer a => cases a <;> rfl
  | slice a n c => cases a <;> rfl
  | map r => cases r <;> rfl
  | _ => rfl

theorem cval_cells (v : Value) : (cval v).cells.length = v.cells.size := by
  cases v with
  | agg cs => simp [cval, AV.cells, Value.cells]
  | iface t v => rfl
  | pointer a => cases a <;> rfl
  | slice a n c => cases a <;> rfl
  | map r => cases r <;> rfl
  | _ => rfl

theorem info_of_zOk {e : TypeId} (h : zOk P e = true) : ∃ i z, P.info? e = some i ∧ i.zero = some z ∧ cok z = true ∧ zeroA P e = some (cval z) ∧ z.cells.size = i.size := by
  have hs : (zeroA P e).isSome = true := by
    unfold zOk at h
    cases hz : zeroA P e with
    | none => simp [hz] at h
    | some z => rfl
  obtain ⟨i, z, hi, hz, hc, hA⟩ := info_of_zero hs
  refine ⟨i, z, hi, hz, hc, hA, ?_⟩
  simp only [zOk, hA, beq_iff_eq, cval_cells] at h
  rw [h, (cellsOf_info hi).1]

theorem run_append_zero (t e ty : TypeId) (i : TypeInfo) (ht : P.underlying t = some (.slice e)) (hi : P.info? e = some i) (base : Option Addr) (sl cap : Nat) (hsc : sl ≤ cap) (a : Option Addr) (c : Nat) :
    (Builtin.append_ #[t, t] ty #[.slice base sl cap, .slice a 0 c]).run P w = .ok (.slice base sl cap) w := by
  cases a with
  | none => cases base <;> simp [Builtin.append_, run_underlying ht, sizeOf, typeInfo, hi, Builtin.lenOf, Builtin.firstCells, hsc, storeCells]
  | some a => cases base <;> simp [Builtin.append_, run_underlying ht, sizeOf, typeInfo, hi, Builtin.lenOf, Builtin.firstCells, hsc, storeCells, loadCells, loadCellsFrom]

theorem run_append_room' (t e ty : TypeId) (i : TypeInfo) (ht : P.underlying t = some (.slice e)) (hi : P.info? e = some i) (g sLen sCap : Nat) (cur : Array Value) (e' : TypeId) (hg : w.heap[g]? = some (.cells cur e' (0, 0)))
    (a : Addr) (k c : Nat) (news : List Value) (hl : news.length = k * i.size) (hnews : ∀ j u, news[j]? = some u → w.cell? (a.add j) = some u) (h1 : ∀ u ∈ news, u.oneCell' = true)
    (hroom : sLen + k ≤ sCap) (hfit : sLen * i.size + news.length ≤ cur.size) :
    (Builtin.append_ #[t, t] ty #[.slice (some ⟨g, 0, none⟩) sLen sCap, .slice (some a) k c]).run P w =
      .ok (.slice (some ⟨g, 0, none⟩) (sLen + k) sCap) (w.setRow g (cur.toList.take (sLen * i.size) ++ news ++ cur.toList.drop (sLen * i.size + news.length)).toArray) := by
  have hf := run_firstCells_some (P := P) w i.size k a k c news hl hnews
  have hst := run_storeCells_at P g (sLen * i.size) e' news 0 cur w hg (by simpa using hfit) h1
  simp only [Nat.add_zero] at hst
  simp [Builtin.append_, run_underlying ht, sizeOf, typeInfo, hi, Builtin.lenOf, hroom, hf, Addr.add_lit, hst]

end
end Go.Aw
