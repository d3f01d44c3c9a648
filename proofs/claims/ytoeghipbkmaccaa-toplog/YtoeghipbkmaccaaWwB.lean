/-
  The abstract layer, part 2: abstract frames and memory; when a frame and a world read as such; what a step must keep.
-/
import Derived.Test.YtoeghipbkmaccaaWwA
namespace Go.Aw
open Go

abbrev Fr := List (Nat × AV)

def Fr.get : Fr → Nat → Option AV
  | [], _ => none
  | (s, x) :: r, t => if s = t then some x else Fr.get r t

def Fr.put (fr : Fr) (t : Nat) (x : AV) : Fr := (t, x) :: fr

theorem Fr.get_put (fr : Fr) (t s : Nat) (x : AV) : (fr.put t x).get s = if t = s then some x else fr.get s := rfl

/-- What is kept of a frame behind a region: the slots that are named. -/
def Fr.keep (ks : List Nat) (fr : Fr) : Fr := ks.map fun t => (t, (fr.get t).getD .junk)

/-- Objects that may be written. -/
inductive AObj where
  | cells (l : List AV)
  | map (l : List (AV × AV))
  | iter (r : Nat) (l : List (AV × AV)) (seen : List Nat)

abbrev AMem := Nat → Option AObj

def AMem.upd (m : AMem) (b : Nat) (o : Option AObj) : AMem := fun c => if c = b then o else m c

inductive Place where
  | none
  | slot (t : Nat)
  | blk (b i : Nat)
  | fly
  deriving DecidableEq

/-- A block reads as an object. -/
inductive MRep (w : World) (lim : Nat → Nat) (b : Nat) : AObj → (Nat → List Nat) → Prop
  | cells (cs : Array Value) (e : TypeId) (l : List AV) (os : Nat → List Nat) (hb : w.heap[b]? = some (.cells cs e (0, 0))) (hs : cs.size = l.length)
      (hr : ∀ i, i < l.length → Rep w lim (cs.getD i undef) (l.getD i .junk) (os i)) : MRep w lim b (.cells l) os
  | map (es : Array MapEntry) (clock : Nat) (l : List (AV × AV)) (hb : w.heap[b]? = some (.map es clock)) (hs : es.size = l.length) (hbig : l.length ≤ 140737488355328)
      (hk : ∀ i, i < l.length → Rep w lim (es.getD i default).key (l.getD i (.junk, .junk)).1 []) (hv : ∀ i, i < l.length → Rep w lim (es.getD i default).val (l.getD i (.junk, .junk)).2 [])
      (hborn : ∀ i j, i < j → j < l.length → (es.getD i default).born < (es.getD j default).born) (hclock : ∀ i, i < l.length → (es.getD i default).born < clock) (os : Nat → List Nat) : MRep w lim b (.map l) os
  | iter (es : Array MapEntry) (clock r : Nat) (l : List (AV × AV)) (seen : List Nat) (hb : w.heap[b]? = some (.map es clock)) (hs : es.size = l.length) (hbig : l.length ≤ 140737488355328)
      (hk : ∀ i, i < l.length → Rep w lim (es.getD i default).key (l.getD i (.junk, .junk)).1 []) (hv : ∀ i, i < l.length → Rep w lim (es.getD i default).val (l.getD i (.junk, .junk)).2 [])
      (hborn : ∀ i j, i < j → j < l.length → (es.getD i default).born < (es.getD j default).born) (hclock : ∀ i, i < l.length → (es.getD i default).born < clock)
      (hr : w.heap[r]? = some (.mapIter (some b) clock (seen.map fun i => (es.getD i default).born).toArray clock)) (hsn : ∀ i ∈ seen, i < l.length) (os : Nat → List Nat) (hos : r ∈ os 0) : MRep w lim b (.iter r l seen) os

structure StX (F : Nat → Prop) (lim : Nat → Nat) (w : World) (n : Nat) (fr : Fr) (m : AMem) (ca : Act) (fl : List Nat) (os : Nat → List Nat) (om : Nat → Nat → List Nat) (ow : Nat → Place) : Prop where
  size : ca.tmps.size = n
  defers : ca.defers = []
  slots : ∀ t x, fr.get t = some x → t < n ∧ Rep w lim (ca.tmps.getD t undef) x (os t)
  mem : ∀ b o, m b = some o → MRep w lim b o (om b) ∧ lim b = 0 ∧ ¬ F b
  ownS : ∀ t x, fr.get t = some x → (os t).Nodup ∧ ∀ c ∈ os t, ow c = .slot t
  ownM : ∀ b o, m b = some o → ∀ i, (om b i).Nodup ∧ ∀ c ∈ om b i, ow c = .blk b i
  ownF : fl.Nodup ∧ ∀ c ∈ fl, ow c = .fly
  free : ∀ c, ow c ≠ .none → ¬ F c ∧ m c = none ∧ c < w.heap.size
  fresh : ∀ b, w.heap.size ≤ b → lim b = 0 ∧ ¬ F b ∧ m b = none

/-- The frame and the memory read so; 'fl': blocks owned by a value that is on its way. -/
def St (F : Nat → Prop) (lim : Nat → Nat) (w : World) (n : Nat) (fr : Fr) (m : AMem) (ca : Act) (fl : List Nat) : Prop :=
  ∃ os om ow, StX F lim w n fr m ca fl os om ow

/-- What every step keeps: what is reserved, what is written no more. -/
structure Pres (F : Nat → Prop) (w : World) (lim : Nat → Nat) (w' : World) (lim' : Nat → Nat) : Prop where
  os : w'.os = w.os
  tape : w'.tape = w.tape
  output : w'.output = w.output
  size : w.heap.size ≤ w'.heap.size
  res : ∀ b, F b → w'.heap[b]? = w.heap[b]? ∧ lim' b = lim b
  mono : ∀ b, lim b ≤ lim' b
  cell : ∀ b o, o < lim b → w'.cell? ⟨b, o, none⟩ = w.cell? ⟨b, o, none⟩

theorem Pres.refl (F : Nat → Prop) (w : World) (lim : Nat → Nat) : Pres F w lim w lim := ⟨rfl, rfl, rfl, Nat.le_refl _, fun _ _ => ⟨rfl, rfl⟩, fun _ => Nat.le_refl _, fun _ _ _ => rfl⟩

theorem Pres.trans {F : Nat → Prop} {w w' w'' : World} {lim lim' lim'' : Nat → Nat} (h : Pres F w lim w' lim') (k : Pres F w' lim' w'' lim'') : Pres F w lim w'' lim'' :=
  ⟨k.os.trans h.os, k.tape.trans h.tape, k.output.trans h.output, Nat.le_trans h.size k.size,
   fun b hb => ⟨(k.res b hb).1.trans (h.res b hb).1, (k.res b hb).2.trans (h.res b hb).2⟩, fun b => Nat.le_trans (h.mono b) (k.mono b),
   fun b o ho => (k.cell b o (Nat.lt_of_lt_of_le ho (h.mono b))).trans (h.cell b o ho)⟩

theorem Pres.weaken {F F' : Nat → Prop} {w w' : World} {lim lim' : Nat → Nat} (h : Pres F' w lim w' lim') (hF : ∀ b, F b → F' b) : Pres F w lim w' lim' :=
  ⟨h.os, h.tape, h.output, h.size, fun b hb => h.res b (hF b hb), h.mono, h.cell⟩

/-- A world with the same heap, the same streams. -/
theorem Pres.drew (F : Nat → Prop) (w : World) (lim : Nat → Nat) : Pres F w lim w.drew lim := ⟨rfl, rfl, rfl, Nat.le_refl _, fun _ _ => ⟨rfl, rfl⟩, fun _ => Nat.le_refl _, fun _ _ _ => rfl⟩

theorem heapNew (w : World) (o : Obj) : (w.alloc o).heap[w.heap.size]? = some o := by
  show (w.heap.push o)[w.heap.size]? = some o
  simp

theorem heapOld (w : World) (o : Obj) (i : Nat) (h : i < w.heap.size) : (w.alloc o).heap[i]? = w.heap[i]? := by
  show (w.heap.push o)[i]? = w.heap[i]?
  rw [Array.getElem?_push, if_neg (Nat.ne_of_lt h)]

section
variable {F : Nat → Prop} {lim lim' : Nat → Nat} {w w' : World} {n : Nat} {fr : Fr} {m : AMem} {ca : Act} {fl : List Nat}

theorem MRep.stable {b : Nat} {o : AObj} {os : Nat → List Nat} (h : MRep w lim b o os) (hb : w'.heap[b]? = w.heap[b]?) (hl : ∀ b, lim b ≤ lim' b)
    (hc : ∀ b o, o < lim b → w'.cell? ⟨b, o, none⟩ = w.cell? ⟨b, o, none⟩) (ho : ∀ i, ∀ c ∈ os i, w'.heap[c]? = w.heap[c]? ∧ lim' c = lim c) : MRep w' lim' b o os := by
  cases h with
  | cells cs e l os hb' hs hr =>
    exact .cells cs e l os (hb.trans hb') hs (fun i hi => (hr i hi).stable hl hc (ho i))
  | map es clock l hb' hs hbig hk hv h1 h2 _ =>
    exact .map es clock l (hb.trans hb') hs hbig (fun i hi => (hk i hi).stable hl hc (by simp)) (fun i hi => (hv i hi).stable hl hc (by simp)) h1 h2 os
  | iter es clock r l seen hb' hs hbig hk hv h1 h2 hr hsn _ hos =>
    exact .iter es clock r l seen (hb.trans hb') hs hbig (fun i hi => (hk i hi).stable hl hc (by simp)) (fun i hi => (hv i hi).stable hl hc (by simp)) h1 h2 ((ho 0 r hos).1.trans hr) hsn os hos

/-- The world goes on; what the frame and the memory hold stays. -/
theorem St.world (h : St F lim w n fr m ca fl) (hsz : w.heap.size ≤ w'.heap.size) (hl : ∀ b, lim b ≤ lim' b) (hc : ∀ b o, o < lim b → w'.cell? ⟨b, o, none⟩ = w.cell? ⟨b, o, none⟩)
    (hkeep : ∀ c, c < w.heap.size → (¬ F c ∧ m c = none → False) ∨ (w'.heap[c]? = w.heap[c]? ∧ lim' c = lim c) ) (hm : ∀ b, m b ≠ none → w'.heap[b]? = w.heap[b]? ∧ lim' b = lim b)
    (hfresh : ∀ b, w'.heap.size ≤ b → lim' b = 0) : St F lim' w' n fr m ca fl := by
  obtain ⟨os, om, ow, h⟩ := h
  have hown : ∀ c, ow c ≠ .none → w'.heap[c]? = w.heap[c]? ∧ lim' c = lim c := fun c hcn => by
    have hf := h.free c hcn
    rcases hkeep c hf.2.2 with hk | hk
    · exact (hk ⟨hf.1, hf.2.1⟩).elim
    · exact hk
  refine ⟨os, om, ow, h.size, h.defers, fun t x hx => ⟨(h.slots t x hx).1, (h.slots t x hx).2.stable hl hc (fun c hcm => hown c (by rw [(h.ownS t x hx).2 c hcm]; simp))⟩, fun b o hb => ?_, h.ownS, h.ownM, h.ownF,
    fun c hcn => ⟨(h.free c hcn).1, (h.free c hcn).2.1, Nat.lt_of_lt_of_le (h.free c hcn).2.2 hsz⟩, fun b hb => ⟨hfresh b hb, (h.fresh b (Nat.le_trans hsz hb)).2⟩⟩
  have hmb := hm b (by rw [hb]; simp)
  exact ⟨(h.mem b o hb).1.stable hmb.1 hl hc (fun i c hcm => hown c (by rw [(h.ownM b o hb i).2 c hcm]; simp)), hmb.2.trans (h.mem b o hb).2.1, (h.mem b o hb).2.2⟩

/-- Same heap. -/
theorem St.heap (h : St F lim w n fr m ca fl) (hh : w'.heap = w.heap) : St F lim w' n fr m ca fl := by
  have hcell : ∀ b o, w'.cell? ⟨b, o, none⟩ = w.cell? ⟨b, o, none⟩ := fun b o => by simp [World.cell?, hh]
  refine h.world (by rw [hh]; exact Nat.le_refl _) (fun _ => Nat.le_refl _) (fun b o _ => hcell b o) (fun c _ => .inr ⟨by rw [hh], rfl⟩) (fun b _ => ⟨by rw [hh], rfl⟩) (fun b hb => ?_)
  obtain ⟨os, om, ow, h⟩ := h
  exact (h.fresh b (by rw [← hh]; exact hb)).1

theorem cell?_alloc_of_lt (w : World) (o : Obj) {b : Nat} (hb : b < w.heap.size) (i : Nat) : (w.alloc o).cell? ⟨b, i, none⟩ = w.cell? ⟨b, i, none⟩ :=
  World.cell?_alloc_lt w o ⟨b, i, none⟩ hb

theorem St.lt_of_lim (h : St F lim w n fr m ca fl) {b o : Nat} (ho : o < lim b) : b < w.heap.size := by
  obtain ⟨os, om, ow, h⟩ := h
  rcases Nat.lt_or_ge b w.heap.size with hb | hb
  · exact hb
  · have := (h.fresh b hb).1; omega

theorem St.lt_of_F (h : St F lim w n fr m ca fl) {b : Nat} (hb : F b) : b < w.heap.size := by
  obtain ⟨os, om, ow, h⟩ := h
  rcases Nat.lt_or_ge b w.heap.size with hb' | hb'
  · exact hb'
  · exact ((h.fresh b hb').2.1 hb).elim

theorem St.lt_of_mem (h : St F lim w n fr m ca fl) {b : Nat} (hb : m b ≠ none) : b < w.heap.size := by
  obtain ⟨os, om, ow, h⟩ := h
  rcases Nat.lt_or_ge b w.heap.size with hb' | hb'
  · exact hb'
  · exact (hb (h.fresh b hb').2.2).elim

theorem St.lim_new (h : St F lim w n fr m ca fl) : lim w.heap.size = 0 := by
  obtain ⟨os, om, ow, h⟩ := h
  exact (h.fresh _ (Nat.le_refl _)).1

/-- A new block; 'k': so many of its cells are written no more. -/
theorem St.alloc (h : St F lim w n fr m ca fl) (o : Obj) (k : Nat) : St F (fun b => if b = w.heap.size then k else lim b) (w.alloc o) n fr m ca fl := by
  have hz := h.lim_new
  refine h.world (by simp) (fun b => ?_) (fun b i hi => cell?_alloc_of_lt w o (h.lt_of_lim hi) i) (fun c hc => .inr ⟨heapOld w o c hc, by rw [if_neg (by omega)]⟩)
    (fun b hb => ⟨heapOld w o b (h.lt_of_mem hb), by rw [if_neg (Nat.ne_of_lt (h.lt_of_mem hb))]⟩) (fun b hb => ?_)
  · by_cases hb : b = w.heap.size
    · subst hb; rw [hz]; exact Nat.zero_le _
    · rw [if_neg hb]; exact Nat.le_refl _
  · simp at hb
    rw [if_neg (by omega)]
    obtain ⟨os, om, ow, h⟩ := h
    exact (h.fresh b (by omega)).1

theorem Pres.alloc (h : St F lim w n fr m ca fl) (o : Obj) (k : Nat) : Pres F w lim (w.alloc o) (fun b => if b = w.heap.size then k else lim b) := by
  have hz := h.lim_new
  refine ⟨rfl, rfl, rfl, by simp, fun b hb => ⟨heapOld w o b (h.lt_of_F hb), by rw [if_neg (Nat.ne_of_lt (h.lt_of_F hb))]⟩, fun b => ?_, fun b i hi => cell?_alloc_of_lt w o (h.lt_of_lim hi) i⟩
  by_cases hb : b = w.heap.size
  · subst hb; rw [hz]; exact Nat.zero_le _
  · rw [if_neg hb]; exact Nat.le_refl _

/-- A slot is written with what owns nothing. -/
theorem St.set (h : St F lim w n fr m ca []) {d : Nat} (hd : d < n) {v : Value} {x : AV} (hx : Rep w lim v x []) : St F lim w n (fr.put d x) m (ca.put (some d) v) [] := by
  obtain ⟨os, om, ow, h⟩ := h
  refine ⟨fun t => if t = d then [] else os t, om, ow, by simp [Act.put, h.size], h.defers, fun t y hy => ?_, h.mem, fun t y hy => ?_, h.ownM, h.ownF, h.free, h.fresh⟩
  · rw [Fr.get_put] at hy
    by_cases ht : t = d
    · subst ht
      simp only [↓reduceIte, Option.some.injEq] at hy ⊢
      subst hy
      refine ⟨hd, ?_⟩
      simpa [Act.put, Array.getD, h.size, hd] using hx
    · rw [if_neg (fun e => ht e.symm)] at hy
      rw [if_neg ht]
      refine ⟨(h.slots t y hy).1, ?_⟩
      have := (h.slots t y hy).2
      have hne : ¬ d = t := fun e => ht e.symm
      simp only [Act.put, Array.getD_eq_getD_getElem?, Array.getElem?_setIfInBounds, hne, if_false] at this ⊢
      exact this
  · rw [Fr.get_put] at hy
    by_cases ht : t = d
    · simp [ht]
    · rw [if_neg (fun e => ht e.symm)] at hy
      simp only [if_neg ht]
      exact h.ownS t y hy

/-- .. with what owns the blocks that are on their way. -/
theorem St.setOwn (h : St F lim w n fr m ca fl) {d : Nat} (hd : d < n) {v : Value} {x : AV} (hx : Rep w lim v x fl) : St F lim w n (fr.put d x) m (ca.put (some d) v) [] := by
  obtain ⟨os, om, ow, h⟩ := h
  refine ⟨fun t => if t = d then fl else os t, om, fun c => if ow c = .fly then .slot d else if ow c = .slot d then .none else ow c, by simp [Act.put, h.size], h.defers, fun t y hy => ?_, h.mem, fun t y hy => ?_, fun b o hb => ?_, by simp, fun c hc => ?_, h.fresh⟩
  · rw [Fr.get_put] at hy
    by_cases ht : t = d
    · subst ht
      simp only [↓reduceIte, Option.some.injEq] at hy ⊢
      subst hy
      refine ⟨hd, ?_⟩
      simpa [Act.put, Array.getD, h.size, hd] using hx
    · rw [if_neg (fun e => ht e.symm)] at hy
      rw [if_neg ht]
      refine ⟨(h.slots t y hy).1, ?_⟩
      have := (h.slots t y hy).2
      have hne : ¬ d = t := fun e => ht e.symm
      simp only [Act.put, Array.getD_eq_getD_getElem?, Array.getElem?_setIfInBounds, hne, if_false] at this ⊢
      exact this
  · rw [Fr.get_put] at hy
    by_cases ht : t = d
    · simp only [ht, ↓reduceIte]
      exact ⟨h.ownF.1, fun c hc => by simp [h.ownF.2 c hc]⟩
    · rw [if_neg (fun e => ht e.symm)] at hy
      simp only [if_neg ht]
      refine ⟨(h.ownS t y hy).1, fun c hc => ?_⟩
      simp [(h.ownS t y hy).2 c hc, ht]
  · exact fun i => ⟨(h.ownM b o hb i).1, fun c hc => by simp [(h.ownM b o hb i).2 c hc]⟩
  · by_cases h1 : ow c = .fly
    · exact h.free c (by rw [h1]; simp)
    · simp only [h1, ↓reduceIte] at hc
      by_cases h2 : ow c = .slot d
      · simp [h2] at hc
      · simp only [h2, ↓reduceIte] at hc
        exact h.free c hc

/-- What a slot owns is taken out of it. -/
theorem St.take (h : St F lim w n fr m ca []) {s : Nat} {x : AV} (hs : fr.get s = some x) :
    ∃ os, St F lim w n (fr.put s x.plain) m ca os ∧ Rep w lim (ca.tmps.getD s undef) x os := by
  obtain ⟨os, om, ow, h⟩ := h
  refine ⟨os s, ⟨fun t => if t = s then [] else os t, om, fun c => if ow c = .slot s then .fly else if ow c = .fly then .none else ow c, h.size, h.defers, fun t y hy => ?_, h.mem, fun t y hy => ?_, fun b o hb => ?_, ?_, fun c hc => ?_, h.fresh⟩, (h.slots s x hs).2⟩
  · rw [Fr.get_put] at hy
    by_cases ht : t = s
    · subst ht
      simp only [↓reduceIte, Option.some.injEq] at hy ⊢
      subst hy
      exact ⟨(h.slots t x hs).1, (h.slots t x hs).2.plain⟩
    · rw [if_neg (fun e => ht e.symm)] at hy
      simpa [if_neg ht] using h.slots t y hy
  · rw [Fr.get_put] at hy
    by_cases ht : t = s
    · simp [ht]
    · rw [if_neg (fun e => ht e.symm)] at hy
      simp only [if_neg ht]
      refine ⟨(h.ownS t y hy).1, fun c hc => ?_⟩
      simp [(h.ownS t y hy).2 c hc, ht]
  · exact fun i => ⟨(h.ownM b o hb i).1, fun c hc => by simp [(h.ownM b o hb i).2 c hc]⟩
  · exact ⟨(h.ownS s x hs).1, fun c hc => by simp [(h.ownS s x hs).2 c hc]⟩
  · by_cases h1 : ow c = .slot s
    · exact h.free c (by rw [h1]; simp)
    · simp only [h1, ↓reduceIte] at hc
      by_cases h2 : ow c = .fly
      · simp [h2] at hc
      · simp only [h2, ↓reduceIte] at hc
        exact h.free c hc

/-- What is on its way is dropped. -/
theorem St.drop (h : St F lim w n fr m ca fl) : St F lim w n fr m ca [] := by
  obtain ⟨os, om, ow, h⟩ := h
  exact ⟨os, om, ow, h.size, h.defers, h.slots, h.mem, h.ownS, h.ownM, ⟨by simp, by simp⟩, h.free, h.fresh⟩

/-- A frame that says less. -/
theorem St.sub {fr' : Fr} (h : St F lim w n fr m ca fl) (hs : ∀ t x, fr'.get t = some x → fr.get t = some x ∨ (x = .junk ∧ t < n)) : St F lim w n fr' m ca fl := by
  obtain ⟨os, om, ow, h⟩ := h
  classical
  refine ⟨fun t => if fr'.get t = fr.get t then os t else [], om, ow, h.size, h.defers, fun t x hx => ?_, h.mem, fun t x hx => ?_, h.ownM, h.ownF, h.free, h.fresh⟩
  · by_cases he : fr'.get t = fr.get t
    · simp only [he, if_true]
      exact h.slots t x (he ▸ hx)
    · simp only [if_neg he]
      rcases hs t x hx with h1 | ⟨h1, h2⟩
      · exact (he (hx.trans h1.symm)).elim
      · subst h1; exact ⟨h2, .junk _⟩
  · by_cases he : fr'.get t = fr.get t
    · simp only [he, if_true]
      exact h.ownS t x (he ▸ hx)
    · simp [if_neg he]

theorem Fr.get_keep (ks : List Nat) (fr : Fr) (t : Nat) (x : AV) (h : (Fr.keep ks fr).get t = some x) : t ∈ ks ∧ (fr.get t).getD .junk = x := by
  induction ks with
  | nil => simp [Fr.keep, Fr.get] at h
  | cons k ks ih =>
    simp only [Fr.keep, List.map_cons, Fr.get] at h
    by_cases hk : k = t
    · subst hk
      simp only [↓reduceIte, Option.some.injEq] at h
      exact ⟨by simp, h⟩
    · rw [if_neg hk] at h
      have := ih h
      exact ⟨by simp [this.1], this.2⟩

theorem St.keep (h : St F lim w n fr m ca fl) {ks : List Nat} (hk : ∀ t ∈ ks, t < n) : St F lim w n (fr.keep ks) m ca fl := by
  refine h.sub fun t x hx => ?_
  have := Fr.get_keep ks fr t x hx
  cases hg : fr.get t with
  | none => rw [hg] at this; exact .inr ⟨this.2.symm, hk t this.1⟩
  | some y => rw [hg] at this; simp at this; exact .inl (by rw [this.2])

/-- A memory that says less. -/
theorem St.memSub {m' : AMem} (h : St F lim w n fr m ca fl) (hs : ∀ b o, m' b = some o → m b = some o) : St F lim w n fr m' ca fl := by
  obtain ⟨os, om, ow, h⟩ := h
  have hn : ∀ b, m b = none → m' b = none := fun b hb => by
    cases hb' : m' b with
    | none => rfl
    | some o => rw [hs b o hb'] at hb; cases hb
  exact ⟨os, om, ow, h.size, h.defers, h.slots, fun b o hb => h.mem b o (hs b o hb), h.ownS, fun b o hb => h.ownM b o (hs b o hb), h.ownF,
    fun c hc => ⟨(h.free c hc).1, hn c (h.free c hc).2.1, (h.free c hc).2.2⟩, fun b hb => ⟨(h.fresh b hb).1, (h.fresh b hb).2.1, hn b (h.fresh b hb).2.2⟩⟩

/-- A new block that the memory tells of. -/
theorem St.allocMem (h : St F lim w n fr m ca fl) (cs : Array Value) (e : TypeId) (l : List AV) (hs : cs.size = l.length) (hr : ∀ i, i < l.length → Rep w lim (cs.getD i undef) (l.getD i .junk) []) :
    m w.heap.size = none ∧ St F lim (w.alloc (.cells cs e)) n fr (m.upd w.heap.size (some (.cells l))) ca fl := by
  have hz := h.lim_new
  have hA := h.alloc (.cells cs e) 0
  have hlim : (fun b => if b = w.heap.size then 0 else lim b) = lim := by funext b; by_cases hb : b = w.heap.size <;> simp [hb, hz]
  rw [hlim] at hA
  have hP := Pres.alloc h (.cells cs e) 0
  rw [hlim] at hP
  have hF : ¬ F w.heap.size := fun hf => absurd (h.lt_of_F hf) (Nat.lt_irrefl _)
  have hm : m w.heap.size = none := by
    cases hb : m w.heap.size with
    | none => rfl
    | some o => exact absurd (h.lt_of_mem (b := w.heap.size) (by rw [hb]; simp)) (Nat.lt_irrefl _)
  obtain ⟨os0, om0, ow0, h0⟩ := h
  refine ⟨hm, ?_⟩
  obtain ⟨os, om, ow, hA⟩ := hA
  refine ⟨os0, fun b i => if b = w.heap.size then [] else om0 b i, ow0, h0.size, h0.defers, fun t x hx => ?_, fun b o hb => ?_, h0.ownS, fun b o hb => ?_, h0.ownF, fun c hc => ?_, fun b hb => ?_⟩
  · refine ⟨(h0.slots t x hx).1, (h0.slots t x hx).2.stable (fun _ => Nat.le_refl _) hP.cell (fun c hc => ⟨heapOld w _ c ?_, rfl⟩)⟩
    exact (h0.free c (by rw [(h0.ownS t x hx).2 c hc]; simp)).2.2
  · by_cases hbw : b = w.heap.size
    · subst hbw
      simp only [AMem.upd, ↓reduceIte, Option.some.injEq] at hb ⊢
      subst hb
      refine ⟨?_, hz, hF⟩
      exact MRep.cells (w := w.alloc (.cells cs e)) (lim := lim) (b := w.heap.size) cs e l (fun _ => []) (heapNew w _) hs
        (fun i hi => (hr i hi).stable (fun _ => Nat.le_refl _) hP.cell (by simp))
    · simp only [AMem.upd, if_neg hbw] at hb ⊢
      have hlt : b < w.heap.size := by
        rcases Nat.lt_or_ge b w.heap.size with hb' | hb'
        · exact hb'
        · have := (h0.fresh b hb').2.2; rw [hb] at this; cases this
      refine ⟨(h0.mem b o hb).1.stable (heapOld w _ b hlt) (fun _ => Nat.le_refl _) hP.cell (fun i c hc => ⟨heapOld w _ c ?_, rfl⟩), (h0.mem b o hb).2⟩
      exact (h0.free c (by rw [(h0.ownM b o hb i).2 c hc]; simp)).2.2
  · by_cases hbw : b = w.heap.size
    · simp [hbw]
    · simp only [AMem.upd, if_neg hbw] at hb ⊢
      exact h0.ownM b o hb
  · have := h0.free c hc
    refine ⟨this.1, ?_, by simp; omega⟩
    simp only [AMem.upd]
    rw [if_neg (by omega)]
    exact this.2.1
  · simp at hb
    have := h0.fresh b (by omega)
    refine ⟨this.1, this.2.1, ?_⟩
    simp only [AMem.upd]
    rw [if_neg (by omega)]
    exact this.2.2

end
end Go.Aw
