/-
  The abstract layer, part 34: a range over a map: the map's object tells of its iterator, and of what has come.
-/
import Derived.Test.YtbpdfkladkcagaaWxf
import Derived.Maps.RangeRun
import Derived.Shelf.Sort.Plain
import Derived.Test.YtbpdfkladkcagaaProg
section
namespace Go.Aw
open Go Go.MapKept
open Go.ChangeMaps (setBlock)

section
variable {P : Program} {F : Nat → Prop} {lim : Nat → Nat} {w w' : World} {n : Nat} {fr : Fr} {m : AMem} {ca : Act} {fl : List Nat}

theorem mrep_map_all {b : Nat} {l : List (AV × AV)} {os : Nat → List Nat} (h : MRep w lim b (.map l) os) : ∃ (es : Array MapEntry) (clock : Nat), w.heap[b]? = some (.map es clock) ∧ es.size = l.length ∧ l.length ≤ 140737488355328 ∧
    (∀ i, i < l.length → Rep w lim (es.getD i default).key (l.getD i (.junk, .junk)).1 []) ∧ (∀ i, i < l.length → Rep w lim (es.getD i default).val (l.getD i (.junk, .junk)).2 []) ∧ (∀ i j, i < j → j < l.length → (es.getD i default).born < (es.getD j default).born) ∧ (∀ i, i < l.length → (es.getD i default).born < clock) := by
  cases h with
  | map es clock l hb hs hbig hk hv h1 h2 os => exact ⟨es, clock, hb, hs, hbig, hk, hv, h1, h2⟩

/-- An iterator is laid. -/
theorem St.range (st : St F lim w n fr m ca fl) {b : Nat} {l : List (AV × AV)} (hm : m b = some (.map l)) :
    ∃ es clock, w.heap[b]? = some (.map es clock) ∧ m w.heap.size = none ∧ St F lim (w.alloc (.mapIter (some b) clock #[] clock)) n fr (m.upd b (some (.iter w.heap.size l []))) ca fl ∧ Pres F w lim (w.alloc (.mapIter (some b) clock #[] clock)) lim := by
  have hz := st.lim_new
  have hmn : m w.heap.size = none := by
    cases hb : m w.heap.size with
    | none => rfl
    | some o => exact absurd (st.lt_of_mem (b := w.heap.size) (by rw [hb]; simp)) (Nat.lt_irrefl _)
  have hFn : ¬ F w.heap.size := fun hf => absurd (st.lt_of_F hf) (Nat.lt_irrefl _)
  have hblt : b < w.heap.size := st.lt_of_mem (by rw [hm]; simp)
  have hP := fun clock => Pres.alloc st (.mapIter (some b) clock #[] clock) 0
  have hlim : (fun b => if b = w.heap.size then 0 else lim b) = lim := by funext b; by_cases hb : b = w.heap.size <;> simp [hb, hz]
  rw [hlim] at hP
  obtain ⟨os, om, ow, h⟩ := st
  obtain ⟨hM, hl, hF⟩ := h.mem b _ hm
  obtain ⟨es, clock, hb, hs, hbig, hk, hv, h1, h2⟩ := mrep_map_all hM
  refine ⟨es, clock, hb, hmn, ?_, hP clock⟩
  have hsz1 : (w.alloc (.mapIter (some b) clock #[] clock)).heap.size = w.heap.size + 1 := Array.size_push _
  have hst : ∀ {v x os'}, Rep w lim v x os' → (∀ c ∈ os', ow c ≠ .none) → Rep (w.alloc (.mapIter (some b) clock #[] clock)) lim v x os' := fun hR ho =>
    hR.stable (fun _ => Nat.le_refl _) (hP clock).cell (fun c hc => ⟨heapOld w _ c (h.free c (ho c hc)).2.2, rfl⟩)
  have how : ∀ c, ow c ≠ .none → c ≠ w.heap.size := fun c hc e => by have := (h.free c hc).2.2; omega
  refine ⟨os, fun k i => if k = b then (if i = 0 then [w.heap.size] else []) else om k i, fun c => if c = w.heap.size then .blk b 0 else ow c, h.size, h.defers, fun t x hx => ⟨(h.slots t x hx).1, hst (h.slots t x hx).2 (fun c hc => by rw [(h.ownS t x hx).2 c hc]; simp)⟩, fun k o hk' => ?_, fun t x hx => ⟨(h.ownS t x hx).1, fun c hc => ?_⟩, fun k o hk' i => ?_, ⟨h.ownF.1, fun c hc => ?_⟩, fun c hc => ?_, fun k hk' => ?_⟩
  · by_cases hkb : k = b
    · subst hkb
      simp only [AMem.upd, ↓reduceIte, Option.some.injEq] at hk'
      subst hk'
      refine ⟨.iter es clock w.heap.size l [] ((heapOld w _ k hblt).trans hb) hs hbig (fun i hi => hst (hk i hi) (by simp)) (fun i hi => hst (hv i hi) (by simp)) h1 h2 (heapNew w _) (by simp) _ (by simp), hl, hF⟩
    · simp only [AMem.upd, if_neg hkb] at hk'
      have hM' := h.mem k o hk'
      simp only [if_neg hkb]
      have hklt : k < w.heap.size := by
        rcases Nat.lt_or_ge k w.heap.size with h3 | h3
        · exact h3
        · rw [(h.fresh k h3).2.2] at hk'; cases hk'
      refine ⟨hM'.1.stable (heapOld w _ k hklt) (fun _ => Nat.le_refl _) (hP clock).cell (fun i c hc => ⟨heapOld w _ c (h.free c ?_).2.2, rfl⟩), hM'.2⟩
      rw [(h.ownM k o hk' i).2 c hc]; simp
  · have e1 := (h.ownS t x hx).2 c hc
    have e2 : c ≠ w.heap.size := how c (by rw [e1]; simp)
    simp only [if_neg e2, e1]
  · by_cases hkb : k = b
    · subst hkb
      simp only [if_true]
      by_cases hi : i = 0
      · subst hi; simp
      · simp [hi]
    · simp only [AMem.upd, if_neg hkb] at hk'
      simp only [if_neg hkb]
      refine ⟨(h.ownM k o hk' i).1, fun c hc => ?_⟩
      have e1 := (h.ownM k o hk' i).2 c hc
      have e2 : c ≠ w.heap.size := how c (by rw [e1]; simp)
      simp only [if_neg e2, e1]
  · have e1 := h.ownF.2 c hc
    have e2 : c ≠ w.heap.size := how c (by rw [e1]; simp)
    simp only [if_neg e2, e1]
  · by_cases e2 : c = w.heap.size
    · subst e2
      refine ⟨hFn, ?_, by rw [hsz1]; omega⟩
      simp only [AMem.upd]
      rw [if_neg (by omega)]; exact hmn
    · simp only [if_neg e2] at hc
      have := h.free c hc
      refine ⟨this.1, ?_, by have := this.2.2; rw [hsz1]; omega⟩
      simp only [AMem.upd]
      rw [if_neg (by intro e; subst e; rw [hm] at this; exact absurd this.2.1 (by simp))]; exact this.2.1
  · have hsz : w.heap.size + 1 ≤ k := by rw [hsz1] at hk'; exact hk'
    have := h.fresh k (by omega)
    refine ⟨this.1, this.2.1, ?_⟩
    simp only [AMem.upd]
    rw [if_neg (by omega)]; exact this.2.2

variable {ops : Array Oper} {stl : List Nat} {r : List Oper} {K : Fr → AMem → Prop} {d : Nat} {ty : TypeId} {pos : String} {af : Array Edge} {gd : Option (Nat × Bool)} {L : List (Nat × AObj)}

section
variable {κ ν : Type} {kf : κ → AV} {vf : ν → AV}
end

end
end Go.Aw
end
section
namespace Go.Aw
open Go

section
variable {P : Program} {w : World} {lim : Nat → Nat} {v : Value} {x : AV} {os : List Nat} {n : Nat} {fr : Fr} {m : AMem}

/-- How large a thing may be. -/
def bd2 : AV → Prop
  | .str s => s.length ≤ 140737488355328
  | .slice _ l => l.length ≤ 140737488355328
  | .int k i => k.min ≤ i ∧ i ≤ k.max
  | _ => True
theorem rep_bd2 (h : Rep w lim v x os) : bd2 x := by
  cases h with
  | int k i lo hi => exact ⟨lo, hi⟩
  | str s h => show s.data.toList.length ≤ _; simp; exact h
  | nils own => simp [bd2]
  | empty a cap hm => simp [bd2]
  | slice b off n cap sz l cv hn hcap hm hbig => show l.length ≤ _; omega
  | own b n cap sz l cv cur e hn hcap hm hbig => show l.length ≤ _; omega
  | _ => trivial
/-- .. of a list's elements. -/
def bdL (l : List AV) : Prop := ∀ i j, i < l.length → j < (l.getD i .junk).cells.length → bd2 ((l.getD i .junk).cells.getD j .junk)
theorem rep_bdL {o : Bool} {l : List AV} (h : Rep w lim v (.slice o l) os) : bdL l := by
  intro i j hi hj
  cases h with
  | nils own => simp at hi
  | empty a cap hm => simp at hi
  | slice b off n cap sz l cv hn hcap hm hbig hsz hlim hc hr => exact rep_bd2 (hr i j (by omega) (by rw [← hsz i (by omega)]; exact hj))
  | own b n cap sz l cv cur e hn hcap hm hbig h0 hb hcur hsz hlim hc hr => exact rep_bd2 (hr i j (by omega) (by rw [← hsz i (by omega)]; exact hj))
theorem awp_bdL {c : Code} {Q : Exit → Fr → AMem → Prop} (t : Nat) {o : Bool} {l : List AV} (hx : fr.get t = some (.slice o l)) (h : bdL l → AWP P n c Q fr m) : AWP P n c Q fr m := fun F lim w ca st => by
  have hb : bdL l := by
    obtain ⟨os, om, ow, hs⟩ := st
    exact rep_bdL (hs.slots t _ hx).2
  exact h hb F lim w ca st
theorem bdL_map {α : Type} {f : α → AV} {l : List α} {a : α} (h : bdL (l.map f)) (ha : a ∈ l) (j : Nat) (hj : j < (f a).cells.length) : bd2 ((f a).cells.getD j .junk) := by
  obtain ⟨i, hi, e⟩ := List.getElem_of_mem ha
  have e2 : (l.map f).getD i .junk = f a := by simp [List.getD_eq_getElem?_getD, hi, e]
  have := h i j (by simpa using hi) (by rw [e2]; exact hj)
  rwa [e2] at this
end
end Go.Aw
end
section
namespace Go.Aw
open Go

section
variable {P : Program} {n : Nat} {fr : Fr} {m : AMem}
theorem resOf_cell {a t b off : Nat} {l : List AV} (hraw : rawOf fr a = .ptr ⟨b, off, none⟩) (hm : m b = some (.cells l)) : resOf P fr m (.cell a t) = some (apartOk P t l off, (apart P t l off).plain) := by
  simp only [resOf, hraw, hm]
/-- A result that stands in memory. -/
theorem resK_cell1 {fn : Func} {K : AV → AMem → Prop} {a t b off : Nat} {l : List AV} (hr : fn.results.toList = [.cell a t]) (hraw : rawOf fr a = .ptr ⟨b, off, none⟩) (hm : m b = some (.cells l)) (hok : apartOk P t l off) (x : AV) (hx : (apart P t l off).plain = x) (m' : AMem) (hs : ∀ b o, m' b = some o → m b = some o) (hK : K x m') : resK P fn fr m K := by
  unfold resK
  rw [hr]
  simp only [resOf_cell hraw hm]
  rw [hx]
  exact ⟨hok, m', hs, hK⟩
end
end Go.Aw
end
section
namespace Go.Aw
open Go Go.RowKit Go.WideShapes Go.ChangeShapes

/-- What stands at type 't', so deep, reads as an α of which 'ok' holds. -/
def RdP (P : Program) (fuel : Nat) (t : TypeId) {α : Type} (f : α → AV) (ok : α → Prop) : Prop :=
  ∀ (H : Type) (enc : TypeId × Value → H) (W : World) (sp : Nat → Bool) (cs : List Value) (d : DataW H) (ps : List MemPlace), DataW.trod enc P W 0 sp true fuel t cs = some (d, ps) → (∀ n ∈ d.weights P t, n ≤ reachBytes) →
    ∃ x : α, ok x ∧ (f x).cells.length = cs.length ∧ ∀ i, i < cs.length → Rep W (limOf W) (cs.getD i undef) ((f x).cells.getD i .junk) []

section
variable {P : Program} {fuel : Nat} {t e : TypeId}

theorem Rd.toP {α : Type} {f : α → AV} (h : Rd P fuel t f) : RdP P fuel t f (fun _ => True) := fun H enc W sp cs d ps h1 h2 => by
  obtain ⟨x, hx⟩ := h H enc W sp cs d ps h1 h2
  exact ⟨x, trivial, hx⟩
theorem RdP.mono {α : Type} {f : α → AV} {ok ok' : α → Prop} (h : RdP P fuel t f ok) (hk : ∀ x, ok x → ok' x) : RdP P fuel t f ok' := fun H enc W sp cs d ps h1 h2 => by
  obtain ⟨x, h3, hx⟩ := h H enc W sp cs d ps h1 h2
  exact ⟨x, hk x h3, hx⟩
theorem rdP_slice {α : Type} [Inhabited α] {f : α → AV} {sz : Nat} (ht : P.underlying t = some (.slice e)) (hsz : P.cellsOf e = sz) (hpos : 0 < sz) (hby : 0 < P.bytesOf e) (hf : ∀ x, (f x).cells.length = sz) (ok : α → Prop) (hr : ∀ n, n < fuel → RdP P n e f ok) : RdP P fuel t (lstAV f) (fun l => l.length * P.bytesOf e ≤ reachBytes ∧ ∀ a ∈ l, ok a) := by
  intro H enc W sp cs d ps h hw
  rcases DataW.trod_slice ht h with ⟨rfl, _⟩ | ⟨a, len, cap, elems, rest, n, rfl, rfl, hx, hb, hl, hm, hlen, hel, hsp, hns⟩
  · refine ⟨[], ⟨by simp, by simp⟩, rfl, fun i hi => ?_⟩
    obtain rfl : i = 0 := by simpa using hi
    exact .nils false
  simp only [Prod.mk.injEq] at hx
  obtain ⟨rfl, rfl⟩ := hx
  simp only [DataW.weights, ht] at hw
  have hw0 := hw _ (List.mem_cons_self ..)
  simp only [List.length_map] at hw0
  have hlen2 : len ≤ 140737488355328 := by
    have h1 : len * 1 ≤ (elems.length + rest.length) * P.bytesOf e := Nat.mul_le_mul (by omega) hby
    unfold reachBytes at hw0; omega
  rcases Nat.eq_zero_or_pos len with h0 | h0
  · subst h0
    refine ⟨[], ⟨by simp, by simp⟩, rfl, fun i hi => ?_⟩
    obtain rfl : i = 0 := by simpa using hi
    exact .empty a cap hm
  have each : ∀ i, i < len → ∃ (x : α) (cs' : List Value), (ok x ∧ W.cells? 0 (a.add (i * sz)) sz = some cs') ∧ (∀ j, j < sz → Rep W (limOf W) (cs'.getD j undef) ((f x).cells.getD j .junk) []) := fun i hi => by
    have h1 := hel i hi
    rw [hsz, List.getElem?_eq_getElem (show i < elems.length by omega), Option.bind_eq_some_iff] at h1
    obtain ⟨cs', h2, h3⟩ := h1
    have h3' : DataW.trod enc P W 0 sp true n e cs' = some ((elems[i]'(by omega)).1, (elems[i]'(by omega)).2) := h3
    obtain ⟨x, hok, hx1, hx2⟩ := hr n (Nat.lt_succ_self n) H enc W sp cs' _ _ h3' (fun k hk => hw k (List.mem_cons_of_mem _ (List.mem_append_left _ (weightsAll_mem (List.mem_map.2 ⟨_, List.getElem_mem (show i < elems.length by omega), rfl⟩) k hk))))
    have hl2 : cs'.length = sz := by rw [← hx1, hf]
    exact ⟨x, cs', ⟨hok, h2⟩, fun j hj => hx2 j (by omega)⟩
  have hsp : a.spot = none := by
    obtain ⟨x, cs', ⟨_, h1⟩, _⟩ := each 0 h0
    have := (World.cells?_some h1).2.2 0 hpos
    obtain ⟨b, off, spot⟩ := a
    cases spot with
    | none => rfl
    | some s =>
      have hl2 := (World.cells?_some h1).2.1
      rw [List.getElem?_eq_getElem (by omega)] at this
      unfold World.cell? at this
      simp [Addr.add] at this
      split at this <;> simp_all
  obtain ⟨b, off, spot⟩ := a
  simp only at hsp
  subst hsp
  have hg : ∀ i : Nat, ∃ x : α × List Value, i < len → (ok x.1 ∧ W.cells? 0 ((⟨b, off, none⟩ : Addr).add (i * sz)) sz = some x.2) ∧ (∀ j, j < sz → Rep W (limOf W) (x.2.getD j undef) ((f x.1).cells.getD j .junk) []) := fun i => by
    by_cases hi : i < len
    · obtain ⟨x, cs', h1, h2⟩ := each i hi
      exact ⟨(x, cs'), fun _ => ⟨h1, h2⟩⟩
    · exact ⟨(default, []), fun h => absurd h hi⟩
  obtain ⟨g, hg⟩ := Classical.axiomOfChoice hg
  have hcell : ∀ i j, i < len → j < sz → W.cell? ⟨b, off + i * sz + j, none⟩ = some ((g i).2.getD j undef) := fun i j hi hj => by
    have h1 := (hg i hi).1.2
    have h2 := (World.cells?_some h1).2.2 j hj
    have h3 := (World.cells?_some h1).2.1
    rw [Addr.add_lit, Addr.add_lit] at h2
    rw [h2, List.getD_eq_getElem?_getD, List.getElem?_eq_getElem (by omega)]; rfl
  have hw1 : ((List.range len).map fun i => (g i).1).length * P.bytesOf e ≤ reachBytes := by
    rw [List.length_map, List.length_range]
    exact Nat.le_trans (Nat.mul_le_mul_right _ (by omega)) hw0
  refine ⟨(List.range len).map fun i => (g i).1, ⟨hw1, fun a ha => ?_⟩, rfl, fun i hi => ?_⟩
  · obtain ⟨i, hi, rfl⟩ := List.mem_map.1 ha
    exact (hg i (List.mem_range.1 hi)).1.1
  obtain rfl : i = 0 := by simpa using hi
  have hgd : ∀ i, i < len → (((List.range len).map fun i => (g i).1).map f).getD i .junk = f (g i).1 := fun i hi => by
    simp [List.getD_eq_getElem?_getD, hi]
  refine Rep.slice b off len cap sz _ (fun i j => (g i).2.getD j undef) (by simp) hl hm hlen2 (fun i hi => by rw [hgd i hi]; exact hf _) ?_ hcell (fun i j hi hj => by rw [hgd i hi]; exact (hg i hi).2 j hj)
  have h1 := limOf_cell (hcell (len - 1) (sz - 1) (by omega) (by omega))
  have h2 : len * sz = (len - 1) * sz + sz := by rw [← Nat.succ_mul]; congr 1; omega
  omega

theorem RdP.arg {α : Type} {f : α → AV} {ok : α → Prop} {H : Type} {enc : TypeId × Value → H} {W : World} {sp : Nat → Bool} {cs : List Value} {v : Value} {d : DataW H} {ps : List MemPlace} (hr : ∀ n, RdP P n t f ok) (hv : v.cells.toList = cs) (hd : DataW.Trod enc P W 0 sp true t v d ps) (hw : ∀ n ∈ d.weights P t, n ≤ reachBytes) :
    ∃ x : α, ok x ∧ (f x).cells.length = cs.length ∧ ∀ i, i < cs.length → Rep W (limOf W) (cs.getD i undef) ((f x).cells.getD i .junk) [] := by
  obtain ⟨n, hn⟩ := hd
  rw [hv] at hn
  exact hr n H enc W sp _ d ps hn hw


theorem rdP_fields {fs : Array Field} (ht : P.underlying t = some (.struct fs)) {H : Type} {enc : TypeId × Value → H} {W : World} {sp : Nat → Bool} {cs : List Value} {d : DataW H} {ps : List MemPlace} (h : DataW.trod enc P W 0 sp true fuel t cs = some (d, ps)) (hw : ∀ n ∈ d.weights P t, n ≤ reachBytes) :
    cs.length = P.cellsOf t ∧ ∀ (i : Nat) (f : Field) {α : Type} (g : α → AV) (ok : α → Prop), fs[i]? = some f → (∀ n, n < fuel → RdP P n f.type g ok) → f.offset + P.cellsOf f.type ≤ P.cellsOf t →
      ∃ x : α, ok x ∧ (g x).cells.length = P.cellsOf f.type ∧ ∀ j, j < P.cellsOf f.type → Rep W (limOf W) (cs.getD (f.offset + j) undef) ((g x).cells.getD j .junk) [] := by
  obtain ⟨xs, n, rfl, hx, hl, hxl, hf⟩ := DataW.trod_struct ht h
  simp only [Prod.mk.injEq] at hx
  obtain ⟨rfl, rfl⟩ := hx
  refine ⟨hl, fun i f α g ok hi hr ho => ?_⟩
  have h1 := hf i f hi
  have hi2 : i < xs.length := by
    rw [hxl]; exact (Array.getElem?_eq_some_iff.1 hi).1
  rw [List.getElem?_eq_getElem hi2] at h1
  have h1' : DataW.trod enc P W 0 sp true n f.type ((cs.drop f.offset).take (P.cellsOf f.type)) = some ((xs[i]).1, (xs[i]).2) := h1
  simp only [DataW.weights, ht] at hw
  obtain ⟨x, hok, hx1, hx2⟩ := hr n (Nat.lt_succ_self n) H enc W sp _ _ _ h1' (fun k hk => hw k (weightsEach_mem (i := i) (t := f.type) (by simp [hi]) (by simp [hi2]) k hk))
  have hlen : ((cs.drop f.offset).take (P.cellsOf f.type)).length = P.cellsOf f.type := by
    rw [List.length_take, List.length_drop]; omega
  refine ⟨x, hok, by rw [hx1, hlen], fun j hj => ?_⟩
  have h2 := hx2 j (by omega)
  have e : ((cs.drop f.offset).take (P.cellsOf f.type)).getD j undef = cs.getD (f.offset + j) undef := by
    simp [List.getD_eq_getElem?_getD, hj]
  rwa [e] at h2

end
end Go.Aw
end
section
namespace Go.Aw
open Go Go.MapKept

section
variable {P : Program} {F : Nat → Prop} {lim : Nat → Nat} {w w' : World} {n : Nat} {fr : Fr} {m : AMem} {ca : Act} {fl : List Nat}
variable {ops : Array Oper} {stl : List Nat} {r : List Oper} {K : Fr → AMem → Prop} {d : Nat} {ty : TypeId} {pos : String} {af : Array Edge} {gd : Option (Nat × Bool)} {L : List (Nat × AObj)}

theorem lookup_nil {κ : Type} [DecidableEq κ] {dk : TypeDesc} {kf : κ → AV} {kc : κ → Value} (he : KeyEnc dk kf kc) {t ke ve : TypeId} (ht : P.underlying t = some (.map ke ve)) (hke : P.underlying ke = some dk)
    {z : AV} (hz : zeroA P ve = some z) {kv : Value} {k : κ} (hkv : Rep w lim kv (kf k) []) (ok : Bool) :
    ∃ v, Rep w lim v z [] ∧ (Instr.lookup t (.map none) kv ok).run P w = .ok (if ok then .tuple #[v, .bool false] else v) w := by
  obtain rfl := he.1 _ _ _ _ _ hkv
  have hc : (Instr.checkKey true 10000 ke (kc k)).run P w = .ok () w := run_checkKey hke (he.2.1 k) _ 9999
  obtain ⟨v0, z1, z2, z3, z4⟩ := zero_run (P := P) (w := w) (lim := lim) hz
  refine ⟨v0, z4, ?_⟩
  have hfk := run_findKey (P := P) (w := w) hke (findNow_midx he k [] ([] : List (κ × Unit)) 0 rfl)
  simp only [midx, Option.map_none] at hfk
  cases ok <;> simp [Instr.lookup, run_underlying ht, hc, hfk, Result.andThen, z1]

theorem ar_lookupNilOk (hg : gOn ops fr gd = some true) {κ : Type} [DecidableEq κ] {dk : TypeDesc} (kf : κ → AV) {kc : κ → Value} (he : KeyEnc dk kf kc) (k : κ) (z : AV) {t ke ve : TypeId} {x y : Operand} (ht : P.underlying t = some (.map ke ve)) (hke : P.underlying ke = some dk) (hz : zeroA P ve = some z)
    (hx : evP (rawOf fr) x = .nilmap) (hy : evP (rawOf fr) y = kf k) (h : aopsR P ops stl r K (fr.put d (.tuple [z, .bool false])) m) :
    aopsR P ops stl (⟨some d, .lookup t x y true, ty, pos, af, gd⟩ :: r) K fr m := by
  simp only [aopsR, aopR, hg, ares, qv, hx]
  intro n hk hn F lim w ca st
  have hopd := okOper_opd hk
  have h1 := evP_rep st (hopd x (by simp [Op.operands]))
  have h2 := evP_rep st (hopd y (by simp [Op.operands]))
  rw [hx] at h1
  rw [hy] at h2
  have e1 : ca.eval x = .map none := by generalize ca.eval x = q at h1; cases h1; rfl
  obtain ⟨v, r1, r2⟩ := lookup_nil (P := P) he ht hke hz h2 true
  have hT : Rep w lim (.tuple #[v, .bool false]) (.tuple [z, .bool false]) [] := by
    have := Rep.tuple (w := w) (lim := lim) #[v, .bool false] [z, .bool false] (fun _ => []) rfl (fun i hi => by
      match i, hi with
      | 0, _ => exact r1
      | 1, _ => exact .bool _)
    rwa [flatMap_nil] at this
  exact ⟨.value (.tuple #[v, .bool false]), _, w, lim, _, _, by simp only [execOp, e1, Sem.run_bind, r2]; rfl, .inl rfl, st.putO (d := some d) (fun t ht => okOper_dst hk ht) hT, .refl _ _ _, h⟩
/-- A result that stands in memory, beside one that does not. -/
theorem resK_cell2 {fr : Fr} {m : AMem} {fn : Func} {K : AV → AMem → Prop} {a t s b off : Nat} {l : List AV} (hr : fn.results.toList = [.cell a t, .tmp s]) (hraw : rawOf fr a = .ptr ⟨b, off, none⟩) (hm : m b = some (.cells l)) (hok : apartOk P t l off) (x y : AV) (hx : (apart P t l off).plain = x) (hy : resOf P fr m (.tmp s) = some (True, y)) (z : AV) (hz : y.plain = z) (m' : AMem) (hs : ∀ b o, m' b = some o → m b = some o) (hK : K (.tuple [x, z]) m') : resK P fn fr m K := by
  unfold resK
  rw [hr]
  simp only [resOf_cell hraw hm, hy]
  rw [hx, hz]
  exact ⟨hok, trivial, m', hs, hK⟩
end
end Go.Aw
end
section
namespace Go.Aw
open Go Go.RowKit Go.WideShapes Go.ChangeShapes

section
variable {P : Program} {t : TypeId}
theorem RdP.arg1 {α : Type} {f : α → AV} {ok : α → Prop} {H : Type} {enc : TypeId × Value → H} {W : World} {sp : Nat → Bool} {v : Value} {d : DataW H} {ps : List MemPlace} (hr : ∀ n, RdP P n t f ok) (hf : ∀ x, (f x).cells = [f x]) (hv : v.cells.toList = [v]) (hd : DataW.Trod enc P W 0 sp true t v d ps) (hw : ∀ n ∈ d.weights P t, n ≤ reachBytes) :
    ∃ x : α, ok x ∧ Rep W (limOf W) v (f x) [] := by
  obtain ⟨x, hok, h1, h2⟩ := RdP.arg hr hv hd hw
  refine ⟨x, hok, ?_⟩
  have := h2 0 (by simp)
  rw [hf] at this
  exact this
theorem RdP.argS {α : Type} {f : α → AV} {ok : α → Prop} {H : Type} {enc : TypeId × Value → H} {W : World} {sp : Nat → Bool} {cs : Array Value} {d : DataW H} {ps : List MemPlace} (hr : ∀ n, RdP P n t f ok) (hf : ∀ x, ∃ l, f x = .agg l) (hd : DataW.Trod enc P W 0 sp true t (.agg cs) d ps) (hw : ∀ n ∈ d.weights P t, n ≤ reachBytes) :
    ∃ x : α, ok x ∧ Rep W (limOf W) (.agg cs) (f x) [] := by
  obtain ⟨x, hok, h1, h2⟩ := RdP.arg (v := .agg cs) (cs := cs.toList) hr rfl hd hw
  obtain ⟨l, e⟩ := hf x
  refine ⟨x, hok, ?_⟩
  rw [e] at h1 h2 ⊢
  simp only [AV.cells] at h1 h2
  have := Rep.agg (w := W) (lim := limOf W) cs l (fun _ => []) (by simp [h1]) (fun i hi => by
    have := h2 i (by omega)
    simpa [List.getD_eq_getElem?_getD, Array.getD_eq_getD_getElem?] using this)
  rwa [flatMap_nil] at this
end
end Go.Aw
end
section
namespace Go.Aw
open Go Go.MapKept

section
variable {P : Program} {F : Nat → Prop} {lim : Nat → Nat} {w w' : World} {n : Nat} {fr : Fr} {m : AMem} {ca : Act} {fl : List Nat}
variable {ops : Array Oper} {stl : List Nat} {r : List Oper} {K : Fr → AMem → Prop} {d : Nat} {ty : TypeId} {pos : String} {af : Array Edge} {gd : Option (Nat × Bool)} {L : List (Nat × AObj)}

theorem lookup_runP {κ ν : Type} [DecidableEq κ] {dk : TypeDesc} {kf : κ → AV} {kc : κ → Value} {vf : ν → AV} (he : KeyEnc dk kf kc) (st : St F lim w n fr m ca fl) {b : Nat} {l : List (κ × ν)} (hm : m b = some (.map (l.map fun p => (kf p.1, vf p.2)))) {t ke ve : TypeId} (ht : P.underlying t = some (.map ke ve)) (hke : P.underlying ke = some dk)
    {z : ν} {z0 : AV} (hz : zeroA P ve = some z0) (hzp : z0.plain = vf z) {kv : Value} {k : κ} (hkv : Rep w lim kv (kf k) []) (ok : Bool) :
    ∃ v, Rep w lim v (vf ((mget l k).getD z)) [] ∧ (Instr.lookup t (.map (some b)) kv ok).run P w = .ok (if ok then .tuple #[v, .bool (mget l k).isSome] else v) w := by
  obtain ⟨es, clock, hb, hs, hkeys, hval, _, _, _, _, _, _⟩ := map_inv he st hm
  obtain rfl := he.1 _ _ _ _ _ hkv
  have hf := findNow_midx he k es.toList l 0 hkeys
  have hc : (Instr.checkKey es.isEmpty 10000 ke (kc k)).run P w = .ok () w := run_checkKey hke (he.2.1 k) _ 9999
  have hfk := run_findKey (P := P) (w := w) hke hf
  cases hi : midx l k with
  | none =>
    obtain ⟨v0, z1, z2, z3, z4⟩ := zero_run (P := P) (w := w) (lim := lim) hz
    have h1 := (midx_none hi).1
    refine ⟨v0, by rw [h1]; have := z4.plain; rw [hzp] at this; exact this, ?_⟩
    rw [hi] at hfk
    simp only [Option.map_none] at hfk
    cases ok <;> simp [Instr.lookup, run_underlying ht, run_getObj_map hb, hc, hfk, Result.andThen, z1, h1]
  | some j =>
    obtain ⟨c, h1, h2, _, _⟩ := midx_some hi
    refine ⟨(es.toList.getD j default).val, ?_, ?_⟩
    · rw [h2]
      have := hval j _ h1
      rw [Array.getD_eq_getD_getElem?, ← Array.getElem?_toList, ← List.getD_eq_getElem?_getD] at this
      exact this
    · rw [hi] at hfk
      simp only [Option.map_some, Nat.zero_add] at hfk
      cases ok <;> simp only [Instr.lookup, Sem.run_bind, run_underlying ht, run_getObj_map hb, hc, hfk, Result.andThen_ok, Sem.run_pure, h2, Option.isSome_some, if_true] <;> rfl

theorem ar_lookupP (hg : gOn ops fr gd = some true) {κ ν : Type} [DecidableEq κ] {dk : TypeDesc} (kf : κ → AV) {kc : κ → Value} (vf : ν → AV) (he : KeyEnc dk kf kc) (l : List (κ × ν)) (k : κ) (z : ν) {t ke ve : TypeId} {x y : Operand} {b : Nat} {v : AV} (ht : P.underlying t = some (.map ke ve)) (hke : P.underlying ke = some dk) {z0 : AV} (hz : zeroA P ve = some z0) (hzp : z0.plain = vf z)
    (hx : evP (rawOf fr) x = .map b) (hy : evP (rawOf fr) y = kf k) (hm : m.wth L b = some (.map (l.map fun p => (kf p.1, vf p.2)))) (hv : vf ((mget l k).getD z) = v) (h : aopsR P ops stl r K (fr.put d v) (m.wth L)) :
    aopsR P ops stl (⟨some d, .lookup t x y false, ty, pos, af, gd⟩ :: r) K fr (m.wth L) := by
  subst hv
  simp only [aopsR, aopR, hg, ares, qv, hx]
  intro n hk hn F lim w ca st
  have hopd := okOper_opd hk
  have h1 := evP_rep st (hopd x (by simp [Op.operands]))
  have h2 := evP_rep st (hopd y (by simp [Op.operands]))
  rw [hx] at h1
  rw [hy] at h2
  have e1 : ca.eval x = .map (some b) := by generalize ca.eval x = q at h1; cases h1; rfl
  obtain ⟨v, r1, r2⟩ := lookup_runP (P := P) he st hm ht hke hz hzp h2 false
  exact ⟨.value v, v, w, lim, _, _, by simp only [execOp, e1, Sem.run_bind, r2]; rfl, .inl rfl, st.putO (d := some d) (fun t ht => okOper_dst hk ht) r1, .refl _ _ _, h⟩

theorem ar_lookupOkP (hg : gOn ops fr gd = some true) {κ ν : Type} [DecidableEq κ] {dk : TypeDesc} (kf : κ → AV) {kc : κ → Value} (vf : ν → AV) (he : KeyEnc dk kf kc) (l : List (κ × ν)) (k : κ) (z : ν) {t ke ve : TypeId} {x y : Operand} {b : Nat} {v : AV} (ht : P.underlying t = some (.map ke ve)) (hke : P.underlying ke = some dk) {z0 : AV} (hz : zeroA P ve = some z0) (hzp : z0.plain = vf z)
    (hx : evP (rawOf fr) x = .map b) (hy : evP (rawOf fr) y = kf k) (hm : m.wth L b = some (.map (l.map fun p => (kf p.1, vf p.2)))) (hv : vf ((mget l k).getD z) = v) (h : aopsR P ops stl r K (fr.put d (.tuple [v, .bool (mget l k).isSome])) (m.wth L)) :
    aopsR P ops stl (⟨some d, .lookup t x y true, ty, pos, af, gd⟩ :: r) K fr (m.wth L) := by
  subst hv
  simp only [aopsR, aopR, hg, ares, qv, hx]
  intro n hk hn F lim w ca st
  have hopd := okOper_opd hk
  have h1 := evP_rep st (hopd x (by simp [Op.operands]))
  have h2 := evP_rep st (hopd y (by simp [Op.operands]))
  rw [hx] at h1
  rw [hy] at h2
  have e1 : ca.eval x = .map (some b) := by generalize ca.eval x = q at h1; cases h1; rfl
  obtain ⟨v, r1, r2⟩ := lookup_runP (P := P) he st hm ht hke hz hzp h2 true
  have hT : Rep w lim (.tuple #[v, .bool (mget l k).isSome]) (.tuple [vf ((mget l k).getD z), .bool (mget l k).isSome]) [] := by
    have := Rep.tuple (w := w) (lim := lim) #[v, .bool (mget l k).isSome] [vf ((mget l k).getD z), .bool (mget l k).isSome] (fun _ => []) rfl (fun i hi => by
      match i, hi with
      | 0, _ => exact r1
      | 1, _ => exact .bool _)
    rwa [flatMap_nil] at this
  exact ⟨.value (.tuple #[v, .bool (mget l k).isSome]), _, w, lim, _, _, by simp only [execOp, e1, Sem.run_bind, r2]; rfl, .inl rfl, st.putO (d := some d) (fun t ht => okOper_dst hk ht) hT, .refl _ _ _, h⟩


/-- Some blocks are let go, others kept, wherever they stand. -/
theorem wth_keep {m : AMem} {L L1 L2 : List (Nat × AObj)} (hN : (L.map Prod.fst).Nodup) (hp : L.Perm (L1 ++ L2)) (hF : ∀ c ∈ L2.map Prod.fst, m c = none) : ∀ b o, m.wth L1 b = some o → m.wth L b = some o := by
  have hp2 : L.Perm (L2 ++ L1) := hp.trans List.perm_append_comm
  intro b o h
  rw [wth_perm hN hp2]
  exact wth_sub2 L2 L1 ((hp2.map Prod.fst).nodup_iff.1 hN) hF b o h
theorem AAny.memEq {ops : Array Oper} {fuel : Nat} {listed : Array Bool} {K : Fr → AMem → Prop} {fr : Fr} {m m' : AMem} (h : m = m') (H : AAny P n ops fuel listed K fr m') : AAny P n ops fuel listed K fr m := h ▸ H
theorem perm_nodup {L L' : List (Nat × AObj)} (hN : (L.map Prod.fst).Nodup) (hp : L.Perm L') : (L'.map Prod.fst).Nodup := (hp.map Prod.fst).nodup_iff.1 hN
/-- Two results that stand in memory. -/
theorem resK_cells {fr : Fr} {m : AMem} {fn : Func} {K : AV → AMem → Prop} {a t b off : Nat} {l : List AV} {a2 t2 b2 off2 : Nat} {l2 : List AV} (hr : fn.results.toList = [.cell a t, .cell a2 t2]) (hraw : rawOf fr a = .ptr ⟨b, off, none⟩) (hm : m b = some (.cells l)) (hok : apartOk P t l off)
    (hraw2 : rawOf fr a2 = .ptr ⟨b2, off2, none⟩) (hm2 : m b2 = some (.cells l2)) (hok2 : apartOk P t2 l2 off2) (x y : AV) (hx : (apart P t l off).plain = x) (hy : (apart P t2 l2 off2).plain.plain = y) (m' : AMem) (hs : ∀ b o, m' b = some o → m b = some o) (hK : K (.tuple [x, y]) m') : resK P fn fr m K := by
  unfold resK
  rw [hr]
  simp only [resOf_cell hraw hm, resOf_cell hraw2 hm2]
  rw [hx, hy]
  exact ⟨hok, hok2, m', hs, hK⟩
end
end Go.Aw
end
section
namespace Go.Proofs
open Go Go.Aw
theorem Try.mixed : Try.prog.follows .mixedOrders = true := by kernel_rfl
end Go.Proofs
end
section
namespace Go.Proofs
open Go Go.Aw
set_option maxRecDepth 100000

abbrev Str := List UInt8
theorem nodup_1 (x : Nat) : [x].Nodup := by simp
theorem take_succ_gI {α : Type} [Inhabited α] {l : List α} {i : Int} (h0 : 0 ≤ i) (hi : i < l.length) : l.take (i + 1).toNat = l.take i.toNat ++ [gI l i] := by
  have e : (i + 1).toNat = i.toNat + 1 := by omega
  have hn : i.toNat < l.length := by omega
  rw [e, List.take_succ_eq_append_getElem hn]
  simp [gI, List.getD_eq_getElem?_getD, hn]
theorem gI_mem {α : Type} [Inhabited α] {l : List α} {i : Int} (h0 : 0 ≤ i) (hi : i < l.length) : gI l i ∈ l := by
  simp only [gI, List.getD_eq_getElem?_getD, List.getElem?_eq_getElem (show i.toNat < l.length by omega), Option.getD_some]
  exact List.getElem_mem _
theorem take_full {α : Type} {l : List α} {i : Int} (hi : l.length ≤ i) : l.take i.toNat = l := List.take_of_length_le (by omega)


/-- A value, as data. -/
inductive Val where
  | mk (kind n : Int) (s : Str) (l : List Val) (f : List (Str × Val))
instance : Inhabited Val := ⟨.mk 0 0 [] [] []⟩
def Val.kind : Val → Int | .mk k _ _ _ _ => k
def Val.n : Val → Int | .mk _ n _ _ _ => n
def Val.s : Val → Str | .mk _ _ s _ _ => s
def Val.l : Val → List Val | .mk _ _ _ l _ => l
def Val.f : Val → List (Str × Val) | .mk _ _ _ _ f => f
mutual
def valIn : Val → AV
  | .mk k n s l f => .agg [.int .i64 k, .int .i64 n, .str s, .slice false (valsIn l), .slice false (fldsIn f)]
def valsIn : List Val → List AV
  | [] => []
  | v :: r => valIn v :: valsIn r
def fldsIn : List (Str × Val) → List AV
  | [] => []
  | (s, .mk k n t l f) :: r => .agg [.str s, .int .i64 k, .int .i64 n, .str t, .slice false (valsIn l), .slice false (fldsIn f)] :: fldsIn r
end
def fldIn (p : Str × Val) : AV := .agg (.str p.1 :: (valIn p.2).cells)
theorem valsIn_eq (l : List Val) : valsIn l = l.map valIn := by
  induction l with
  | nil => rfl
  | cons v r ih => simp only [valsIn, List.map_cons, ih]
theorem fldsIn_eq (l : List (Str × Val)) : fldsIn l = l.map fldIn := by
  induction l with
  | nil => rfl
  | cons v r ih =>
    obtain ⟨s, v⟩ := v
    cases v with
    | mk k n t l f => simp only [fldsIn, List.map_cons, ih, fldIn, valIn, AV.cells]
def valTop (v : Val) : AV := .agg [.int .i64 v.kind, .int .i64 v.n, .str v.s, .slice false (v.l.map valIn), .slice false (v.f.map fldIn)]
def fldTop (p : Str × Val) : AV := .agg [.str p.1, .int .i64 p.2.kind, .int .i64 p.2.n, .str p.2.s, .slice false (p.2.l.map valIn), .slice false (p.2.f.map fldIn)]
theorem valIn_eq (v : Val) : valIn v = valTop v := by
  cases v with
  | mk k n s l f => simp only [valIn, valTop, valsIn_eq, fldsIn_eq, Val.kind, Val.n, Val.s, Val.l, Val.f]
theorem fldIn_eq (p : Str × Val) : fldIn p = fldTop p := by
  rw [fldIn, valIn_eq]; rfl
theorem valMap (l : List Val) : l.map valIn = l.map valTop := List.map_congr_left fun v _ => valIn_eq v
theorem fldMap (l : List (Str × Val)) : l.map fldIn = l.map fldTop := List.map_congr_left fun v _ => fldIn_eq v
mutual
def weightV (most : Int) : Val → Int
  | .mk _ _ s l f => weightF most f (weightL most l (1 + s.length))
def weightL (most : Int) : List Val → Int → Int
  | [], n => n
  | v :: r, n => if n ≤ most then weightL most r (IntKind.i64.wrap (n + weightV most v)) else n
def weightF (most : Int) : List (Str × Val) → Int → Int
  | [], n => n
  | (s, .mk _ _ t l f) :: r, n => if n ≤ most then weightF most r (IntKind.i64.wrap (IntKind.i64.wrap (n + s.length) + weightF most f (weightL most l (1 + t.length)))) else n
end
theorem weightV_eq (most : Int) (v : Val) : weightV most v = weightF most v.f (weightL most v.l (1 + v.s.length)) := by
  cases v with
  | mk k n s l f => simp only [weightV, Val.f, Val.l, Val.s]
theorem weightF_cons (most : Int) (p : Str × Val) (r : List (Str × Val)) (n : Int) : weightF most (p :: r) n = if n ≤ most then weightF most r (IntKind.i64.wrap (IntKind.i64.wrap (n + p.1.length) + weightV most p.2)) else n := by
  obtain ⟨s, v⟩ := p
  cases v with
  | mk k n t l f => simp only [weightF, weightV]
theorem weightL_stop (most : Int) (l : List Val) (n : Int) (h : most < n) : weightL most l n = n := by
  cases l with
  | nil => simp only [weightL]
  | cons v r => simp only [weightL]; rw [if_neg (by omega)]
theorem weightF_stop (most : Int) (l : List (Str × Val)) (n : Int) (h : most < n) : weightF most l n = n := by
  cases l with
  | nil => simp only [weightF]
  | cons v r => rw [weightF_cons, if_neg (by omega)]
theorem drop_gI {α : Type} [Inhabited α] {l : List α} {i : Int} (h0 : 0 ≤ i) (hi : i < l.length) : l.drop i.toNat = gI l i :: l.drop (i + 1).toNat := by
  have h : i.toNat < l.length := by omega
  have e : (i + 1).toNat = i.toNat + 1 := by omega
  rw [List.drop_eq_getElem_cons h, e]
  simp [gI, List.getD_eq_getElem?_getD, h]
mutual
def depV : Val → Nat
  | .mk _ _ _ l f => depL l + depF f + 1
def depL : List Val → Nat
  | [] => 0
  | v :: r => depV v + depL r
def depF : List (Str × Val) → Nat
  | [] => 0
  | (_, .mk _ _ _ l f) :: r => depL l + depF f + 1 + depF r
end
theorem depL_mem {l : List Val} {v : Val} (h : v ∈ l) : depV v ≤ depL l := by
  induction l with
  | nil => cases h
  | cons a r ih =>
    simp only [depL]
    rcases List.mem_cons.1 h with rfl | h
    · omega
    · have := ih h; omega
theorem depF_mem {l : List (Str × Val)} {p : Str × Val} (h : p ∈ l) : depV p.2 ≤ depF l := by
  induction l with
  | nil => cases h
  | cons a r ih =>
    obtain ⟨s, v⟩ := a
    cases v with
    | mk k n t l f =>
      simp only [depF]
      rcases List.mem_cons.1 h with rfl | h
      · simp only [depV]; omega
      · have := ih h; omega
theorem depV_eq (v : Val) : depV v = depL v.l + depF v.f + 1 := by
  cases v with
  | mk k n s l f => simp only [depV, Val.l, Val.f]

set_option maxHeartbeats 4000000 in
theorem u_weight1 (v : Val) (most : Int) (ih : ∀ w : Val, depV w < depV v → ∀ (m : AMem) (K : AV → AMem → Prop), K (.int .i64 (weightV most w)) m → ACalls Try.prog 19 [valTop w, .int .i64 most] m K) (m : AMem)  (K : AV → AMem → Prop) (hK : K (.int .i64 (weightV most v)) m) : ACalls Try.prog 19 [valTop v, .int .i64 most] m K := by
 refine acalls_enter Try.func19 rfl (by decide) (Nat.le_of_ble_eq_true rfl) ?_
 refine awp_bd 0 (x := valTop v) rfl (fun hbd0 => ?_)
 have hbd0_2 : v.s.length ≤ 140737488355328 := (hbd0 2 (Nat.le_of_ble_eq_true rfl))
 have hbd0_3 : v.l.length ≤ 140737488355328 := bd_map (hbd0 3 (Nat.le_of_ble_eq_true rfl))
 have hbd0_4 : v.f.length ≤ 140737488355328 := bd_map (hbd0 4 (Nat.le_of_ble_eq_true rfl))
 show AWP _ _ _ _ [(0, valTop v), (1, .int .i64 most)] m
 refine awp_reg2_seq [] [1, 2] (by decide) ?_
 intro K1 hK1
 refine ar_box rfl (m := m) (L := []) (v := valTop v) (by rfl) rfl ?_
 intro b1 hb1
 have hFb1 : m b1 = none := wth_none (m := m) (L := []) hb1
 have hNb1 : ([b1] : List Nat).Nodup := wth_nodup (m := m) (L := []) hb1 List.nodup_nil
 refine ⟨trivial, ?_⟩
 show K1 [(1, .int .i64 most), (2, .ptr ⟨b1, 0, none⟩)] (AMem.wth m [(b1, .cells [.int .i64 v.kind, .int .i64 v.n, .str v.s, .slice false (v.l.map valIn), .slice false (v.f.map fldIn)])])
 refine hK1 _ _ ?_; clear hK1 K1
 refine awp_reg2_seq [] [1, 2, 5] (by decide) ?_
 intro K1 hK1
 refine ⟨⟨rfl, by decide⟩, ?_⟩
 refine ar_loadp rfl (v := .str v.s) rfl (wth_get 0 hNb1 rfl) rfl (apartOk_one rfl rfl (Nat.le_of_ble_eq_true rfl)) rfl ?_
 refine ⟨trivial, ?_⟩
 refine ar_add rfl (a := 1) (b := (v.s.length : Int)) rfl rfl (by omega) (by omega) ?_
 refine ⟨trivial, ?_⟩
 show K1 [(1, .int .i64 most), (2, .ptr ⟨b1, 0, none⟩), (5, .int .i64 (1 + (v.s.length : Int)))] (AMem.wth m [(b1, .cells [.int .i64 v.kind, .int .i64 v.n, .str v.s, .slice false (v.l.map valIn), .slice false (v.f.map fldIn)])])
 refine hK1 _ _ ?_; clear hK1 K1
 refine awp_seq_k ?_; intro K2 hK2
 refine awp_reg2_seq [] [1, 2, 5, 6] (by decide) ?_
 intro K1 hK1
 refine ⟨trivial, ?_⟩
 show K1 [(1, .int .i64 most), (2, .ptr ⟨b1, 0, none⟩), (5, .int .i64 (1 + (v.s.length : Int))), (6, .int .i64 0)] (AMem.wth m [(b1, .cells [.int .i64 v.kind, .int .i64 v.n, .str v.s, .slice false (v.l.map valIn), .slice false (v.f.map fldIn)])])
 refine hK1 _ _ ?_; clear hK1 K1
 refine awp_block ?_
 refine awp_keep [1, 2, 5, 6] (by decide) ?_
 refine awp_loop_st (σ := Int × Int) (fun ⟨n_, i⟩ => [(1, .int .i64 most), (2, .ptr ⟨b1, 0, none⟩), (5, .int .i64 n_), (6, .int .i64 i)]) (fun _ => (AMem.wth m [(b1, .cells [.int .i64 v.kind, .int .i64 v.n, .str v.s, .slice false (v.l.map valIn), .slice false (v.f.map fldIn)])])) (fun ⟨n_, i⟩ => 0 ≤ i ∧ i ≤ v.l.length ∧ weightL most v.l (1 + v.s.length) = weightL most (v.l.drop i.toNat) n_) (fun ⟨n_, i⟩ => v.l.length - i.toNat) (1 + (v.s.length : Int), 0) rfl rfl ?_ ?_
 ·
  show 0 ≤ ((0 : Int)) ∧ ((0 : Int)) ≤ v.l.length ∧ weightL most v.l (1 + v.s.length) = weightL most (v.l.drop ((0 : Int)).toNat) ((1 + (v.s.length : Int) : Int))
  exact ⟨by omega, by omega, rfl⟩
 rintro ⟨n_, i⟩ hI
 replace hI : 0 ≤ i ∧ i ≤ v.l.length ∧ weightL most v.l (1 + v.s.length) = weightL most (v.l.drop i.toNat) n_ := hI
 show AWP _ _ _ _ [(1, .int .i64 most), (2, .ptr ⟨b1, 0, none⟩), (5, .int .i64 n_), (6, .int .i64 i)] (AMem.wth m [(b1, .cells [.int .i64 v.kind, .int .i64 v.n, .str v.s, .slice false (v.l.map valIn), .slice false (v.f.map fldIn)])])
 refine awp_seq_k ?_; intro K3 hK3
 refine awp_reg2_seq [] [1, 2, 5, 6, 21] (by decide) ?_
 intro K1 hK1
 suffices key : K1 [(1, .int .i64 most), (2, .ptr ⟨b1, 0, none⟩), (5, .int .i64 n_), (6, .int .i64 i), (21, .bool ((decide (i < (v.l.length : Int))) && (decide (n_ ≤ most))))] (AMem.wth m [(b1, .cells [.int .i64 v.kind, .int .i64 v.n, .str v.s, .slice false (v.l.map valIn), .slice false (v.f.map fldIn)])]) by
  refine ⟨trivial, ⟨rfl, by decide⟩, ?_⟩
  refine ar_loadp rfl (v := .slice false (v.l.map valIn)) rfl (wth_get 0 hNb1 rfl) rfl (apartOk_one rfl rfl (Nat.le_of_ble_eq_true rfl)) rfl ?_
  refine ar_len rfl valIn v.l rfl rfl rfl ?_
  refine ⟨trivial, trivial, ?_⟩
  show aopsR _ _ _ _ _ [(17, .bool (decide (i < (v.l.length : Int)))), (16, .bool (decide (i < (v.l.length : Int)))), (15, .int .i64 (v.l.length : Int)), (14, .slice false (v.l.map valIn)), (13, .ptr ⟨b1, 3, none⟩), (12, .int .i64 i), (1, .int .i64 most), (2, .ptr ⟨b1, 0, none⟩), (5, .int .i64 n_), (6, .int .i64 i)] _
  revert key
  cases h1 : (decide (i < (v.l.length : Int)))
  ·
   replace h1 : (v.l.length : Int) ≤ i := (Int.not_lt.1 (of_decide_eq_false h1))
   intro key
   refine ar_off rfl (ar_off rfl (ar_off rfl ?_))
   exact key
  ·
   replace h1 : i < (v.l.length : Int) := (of_decide_eq_true h1)
   intro key
   refine ⟨trivial, trivial, trivial, ?_⟩
   exact key
 refine hK1 _ _ ?_; clear hK1 K1
 refine awp_cond rfl rfl (fun h2 => ?_) (fun h2 => ?_)
 ·
  replace h2 : (i < (v.l.length : Int)) ∧ (n_ ≤ most) := ⟨(of_decide_eq_true (bandL h2)), (of_decide_eq_true (bandR h2))⟩
  refine awp_skip ?_
  refine hK3 _ _ ?_; clear hK3
  refine awp_seq_k ?_; intro K4 hK4
  refine awp_block ?_
  refine awp_reg2 [] [1, 2, 5, 6] (by decide) ?_
  intro K1 hK1
  refine ⟨trivial, ⟨rfl, by decide⟩, ?_⟩
  refine ar_loadp rfl (v := .slice false (v.l.map valIn)) rfl (wth_get 0 hNb1 rfl) rfl (apartOk_one rfl rfl (Nat.le_of_ble_eq_true rfl)) rfl ?_
  refine ⟨trivial, ?_⟩
  refine ar_index rfl valTop v.l i rfl rfl (valMap v.l) rfl rfl (by decide) (fun _ => rfl) (by omega) (by omega) ?_
  refine ⟨(apartOk_agg rfl rfl (Nat.le_of_ble_eq_true rfl)), trivial, ?_⟩
  refine ih (gI v.l i) (by have := depV_eq v; first | (have := depL_mem (gI_mem (l := v.l) (i := i) hI.1 h2.1); omega) | (have := depF_mem (gI_mem (l := v.f) (i := k) hI2.1 h4.1); omega)) _ _ ?_
  refine ⟨trivial, trivial, ?_⟩
  show K1 [(1, .int .i64 most), (2, .ptr ⟨b1, 0, none⟩), (5, .int .i64 (IntKind.i64.wrap (n_ + (weightV most (gI v.l i))))), (6, .int .i64 i)] (AMem.wth m [(b1, .cells [.int .i64 v.kind, .int .i64 v.n, .str v.s, .slice false (v.l.map valIn), .slice false (v.f.map fldIn)])])
  refine hK1 _ _ ?_; clear hK1 K1
  refine hK4 _ _ ?_; clear hK4
  refine awp_reg2 [] [1, 2, 5, 6] (by decide) ?_
  intro K1 hK1
  refine ⟨trivial, ?_⟩
  refine ar_add rfl (a := i) (b := 1) rfl rfl (by omega) (by omega) ?_
  refine ⟨trivial, ?_⟩
  show K1 [(1, .int .i64 most), (2, .ptr ⟨b1, 0, none⟩), (5, .int .i64 (IntKind.i64.wrap (n_ + (weightV most (gI v.l i))))), (6, .int .i64 (i + 1))] (AMem.wth m [(b1, .cells [.int .i64 v.kind, .int .i64 v.n, .str v.s, .slice false (v.l.map valIn), .slice false (v.f.map fldIn)])])
  refine hK1 _ _ ?_; clear hK1 K1
  refine ⟨(IntKind.i64.wrap (n_ + (weightV most (gI v.l i))), i + 1), rfl, rfl, ?_, ?_⟩
  ·
   show 0 ≤ ((i + 1 : Int)) ∧ ((i + 1 : Int)) ≤ v.l.length ∧ weightL most v.l (1 + v.s.length) = weightL most (v.l.drop ((i + 1 : Int)).toNat) ((IntKind.i64.wrap (n_ + (weightV most (gI v.l i))) : Int))
   refine ⟨by omega, by omega, ?_⟩
   rw [hI.2.2, drop_gI hI.1 h2.1]
   simp only [weightL]
   rw [if_pos h2.2]
  ·
   show v.l.length - ((i + 1 : Int)).toNat < v.l.length - i.toNat
   omega
 replace h2 : ((v.l.length : Int) ≤ i) ∨ (most < n_) := ((bandF h2).imp (fun q => (Int.not_lt.1 (of_decide_eq_false q))) (fun q => (Int.not_le.1 (of_decide_eq_false q))))
 refine awp_exit ?_
 refine hK2 _ _ ?_; clear hK2
 refine awp_seq_k ?_; intro K5 hK5
 refine awp_reg2_seq [] [1, 2, 5, 7] (by decide) ?_
 intro K1 hK1
 refine ⟨trivial, ?_⟩
 show K1 [(1, .int .i64 most), (2, .ptr ⟨b1, 0, none⟩), (5, .int .i64 n_), (7, .int .i64 0)] (AMem.wth m [(b1, .cells [.int .i64 v.kind, .int .i64 v.n, .str v.s, .slice false (v.l.map valIn), .slice false (v.f.map fldIn)])])
 refine hK1 _ _ ?_; clear hK1 K1
 refine awp_block ?_
 refine awp_keep [1, 2, 5, 7] (by decide) ?_
 refine awp_loop_st (σ := Int × Int) (fun ⟨n2, k⟩ => [(1, .int .i64 most), (2, .ptr ⟨b1, 0, none⟩), (5, .int .i64 n2), (7, .int .i64 k)]) (fun _ => (AMem.wth m [(b1, .cells [.int .i64 v.kind, .int .i64 v.n, .str v.s, .slice false (v.l.map valIn), .slice false (v.f.map fldIn)])])) (fun ⟨n2, k⟩ => 0 ≤ k ∧ k ≤ v.f.length ∧ weightV most v = weightF most (v.f.drop k.toNat) n2) (fun ⟨n2, k⟩ => v.f.length - k.toNat) (n_, 0) rfl rfl ?_ ?_
 ·
  show 0 ≤ ((0 : Int)) ∧ ((0 : Int)) ≤ v.f.length ∧ weightV most v = weightF most (v.f.drop ((0 : Int)).toNat) ((n_ : Int))
  refine ⟨by omega, by omega, ?_⟩
  have e : weightL most (v.l.drop i.toNat) n_ = n_ := by
   by_cases hn : most < n_
   ·
    exact weightL_stop _ _ _ hn
   ·
    have hi : (v.l.length : Int) ≤ i := by
     rcases h2 with h | h <;> omega
    rw [List.drop_eq_nil_of_le (by omega)]; simp only [weightL]
  rw [weightV_eq, hI.2.2, e]; rfl
 rintro ⟨n2, k⟩ hI2
 replace hI2 : 0 ≤ k ∧ k ≤ v.f.length ∧ weightV most v = weightF most (v.f.drop k.toNat) n2 := hI2
 show AWP _ _ _ _ [(1, .int .i64 most), (2, .ptr ⟨b1, 0, none⟩), (5, .int .i64 n2), (7, .int .i64 k)] (AMem.wth m [(b1, .cells [.int .i64 v.kind, .int .i64 v.n, .str v.s, .slice false (v.l.map valIn), .slice false (v.f.map fldIn)])])
 refine awp_seq_k ?_; intro K6 hK6
 refine awp_reg2_seq [] [1, 2, 5, 7, 42] (by decide) ?_
 intro K1 hK1
 suffices key : K1 [(1, .int .i64 most), (2, .ptr ⟨b1, 0, none⟩), (5, .int .i64 n2), (7, .int .i64 k), (42, .bool ((decide (k < (v.f.length : Int))) && (decide (n2 ≤ most))))] (AMem.wth m [(b1, .cells [.int .i64 v.kind, .int .i64 v.n, .str v.s, .slice false (v.l.map valIn), .slice false (v.f.map fldIn)])]) by
  refine ⟨trivial, ⟨rfl, by decide⟩, ?_⟩
  refine ar_loadp rfl (v := .slice false (v.f.map fldIn)) rfl (wth_get 0 hNb1 rfl) rfl (apartOk_one rfl rfl (Nat.le_of_ble_eq_true rfl)) rfl ?_
  refine ar_len rfl fldIn v.f rfl rfl rfl ?_
  refine ⟨trivial, trivial, ?_⟩
  show aopsR _ _ _ _ _ [(38, .bool (decide (k < (v.f.length : Int)))), (37, .bool (decide (k < (v.f.length : Int)))), (36, .int .i64 (v.f.length : Int)), (35, .slice false (v.f.map fldIn)), (34, .ptr ⟨b1, 4, none⟩), (33, .int .i64 k), (1, .int .i64 most), (2, .ptr ⟨b1, 0, none⟩), (5, .int .i64 n2), (7, .int .i64 k)] _
  revert key
  cases h3 : (decide (k < (v.f.length : Int)))
  ·
   replace h3 : (v.f.length : Int) ≤ k := (Int.not_lt.1 (of_decide_eq_false h3))
   intro key
   refine ar_off rfl (ar_off rfl (ar_off rfl ?_))
   exact key
  ·
   replace h3 : k < (v.f.length : Int) := (of_decide_eq_true h3)
   intro key
   refine ⟨trivial, trivial, trivial, ?_⟩
   exact key
 refine hK1 _ _ ?_; clear hK1 K1
 refine awp_cond rfl rfl (fun h4 => ?_) (fun h4 => ?_)
 ·
  replace h4 : (k < (v.f.length : Int)) ∧ (n2 ≤ most) := ⟨(of_decide_eq_true (bandL h4)), (of_decide_eq_true (bandR h4))⟩
  refine awp_skip ?_
  refine hK6 _ _ ?_; clear hK6
  refine awp_seq_k ?_; intro K7 hK7
  refine awp_block ?_
  refine awp_draw_k Try.mixed [(.int .i64 (weightV most ((gI v.f k).2)))] [1, 2, 5, 7] (by decide) (by decide) ?_
  intro K1 hK1
  refine ⟨trivial, ⟨rfl, by decide⟩, ?_⟩
  refine pq_loadp rfl (v := .slice false (v.f.map fldIn)) rfl (wth_get 0 hNb1 rfl) (apartOk_one rfl rfl (Nat.le_of_ble_eq_true rfl)) rfl ?_
  refine ⟨trivial, ?_⟩
  refine pq_index rfl fldTop v.f k rfl rfl (fldMap v.f) rfl rfl (by decide) (fun _ => rfl) (by omega) (by omega) ?_
  refine ⟨⟨rfl, by decide, (Nat.le_of_ble_eq_true rfl)⟩, (apartOk_one rfl rfl (Nat.le_of_ble_eq_true rfl)), trivial, trivial, ⟨rfl, by decide⟩, ?_⟩
  refine pq_loadp rfl (v := .slice false (v.f.map fldIn)) rfl (wth_get 0 hNb1 rfl) (apartOk_one rfl rfl (Nat.le_of_ble_eq_true rfl)) rfl ?_
  refine ⟨trivial, ?_⟩
  refine pq_index rfl fldTop v.f k rfl rfl (fldMap v.f) rfl rfl (by decide) (fun _ => rfl) (by omega) (by omega) ?_
  refine ⟨⟨rfl, by decide, (Nat.le_of_ble_eq_true rfl)⟩, (apartOk_agg rfl rfl (Nat.le_of_ble_eq_true rfl)), trivial, (fun Kc hKc => ih ((gI v.f k).2) (by have := depV_eq v; first | (have := depL_mem (gI_mem (l := v.l) (i := i) hI.1 h2.1); omega) | (have := depF_mem (gI_mem (l := v.f) (i := k) hI2.1 h4.1); omega)) _ Kc hKc), trivial, trivial, ?_⟩
  show K1 [(1, .int .i64 most), (2, .ptr ⟨b1, 0, none⟩), (5, .int .i64 (IntKind.i64.wrap ((IntKind.i64.wrap (n2 + (((gI v.f k).1).length : Int))) + (weightV most ((gI v.f k).2))))), (7, .int .i64 k)] (AMem.wth m [(b1, .cells [.int .i64 v.kind, .int .i64 v.n, .str v.s, .slice false (v.l.map valIn), .slice false (v.f.map fldIn)])])
  refine hK1 _ _ ?_; clear hK1 K1
  refine hK7 _ _ ?_; clear hK7
  refine awp_reg2 [] [1, 2, 5, 7] (by decide) ?_
  intro K1 hK1
  refine ⟨trivial, ?_⟩
  refine ar_add rfl (a := k) (b := 1) rfl rfl (by omega) (by omega) ?_
  refine ⟨trivial, ?_⟩
  show K1 [(1, .int .i64 most), (2, .ptr ⟨b1, 0, none⟩), (5, .int .i64 (IntKind.i64.wrap ((IntKind.i64.wrap (n2 + (((gI v.f k).1).length : Int))) + (weightV most ((gI v.f k).2))))), (7, .int .i64 (k + 1))] (AMem.wth m [(b1, .cells [.int .i64 v.kind, .int .i64 v.n, .str v.s, .slice false (v.l.map valIn), .slice false (v.f.map fldIn)])])
  refine hK1 _ _ ?_; clear hK1 K1
  refine ⟨(IntKind.i64.wrap ((IntKind.i64.wrap (n2 + (((gI v.f k).1).length : Int))) + (weightV most ((gI v.f k).2))), k + 1), rfl, rfl, ?_, ?_⟩
  ·
   show 0 ≤ ((k + 1 : Int)) ∧ ((k + 1 : Int)) ≤ v.f.length ∧ weightV most v = weightF most (v.f.drop ((k + 1 : Int)).toNat) ((IntKind.i64.wrap ((IntKind.i64.wrap (n2 + (((gI v.f k).1).length : Int))) + (weightV most ((gI v.f k).2))) : Int))
   exact ⟨by omega, by omega, by rw [hI2.2.2, drop_gI hI2.1 h4.1, weightF_cons, if_pos h4.2]⟩
  ·
   show v.f.length - ((k + 1 : Int)).toNat < v.f.length - k.toNat
   omega
 replace h4 : ((v.f.length : Int) ≤ k) ∨ (most < n2) := ((bandF h4).imp (fun q => (Int.not_lt.1 (of_decide_eq_false q))) (fun q => (Int.not_le.1 (of_decide_eq_false q))))
 refine awp_exit ?_
 refine hK5 _ _ ?_; clear hK5
 refine awp_reg2_seq [] [4] (by decide) ?_
 intro K1 hK1
 refine ⟨trivial, trivial, ?_⟩
 show K1 [(4, .int .i64 n2)] (AMem.wth m [(b1, .cells [.int .i64 v.kind, .int .i64 v.n, .str v.s, .slice false (v.l.map valIn), .slice false (v.f.map fldIn)])])
 refine hK1 _ _ ?_; clear hK1 K1
 refine awp_ret ?_
 refine ⟨trivial, m, (wth_sub2 (m := m) [(b1, .cells [.int .i64 v.kind, .int .i64 v.n, .str v.s, .slice false (v.l.map valIn), .slice false (v.f.map fldIn)])] [] hNb1 (by simp only [List.map_cons, List.map_nil, List.forall_mem_cons]; exact ⟨hFb1, fun _ h => by cases h⟩)), ?_⟩
 show K (.int .i64 n2) m

 have e : weightV most v = n2 := by
  rw [hI2.2.2]
  by_cases hn : most < n2
  ·
   exact weightF_stop _ _ _ hn
  ·
   have hi : (v.f.length : Int) ≤ k := by
    rcases h4 with h | h <;> omega
   rw [List.drop_eq_nil_of_le (by omega)]; simp only [weightF]
 rw [e] at hK; exact hK


theorem u_weight (most : Int) : ∀ (n : Nat) (v : Val), depV v < n → ∀ (m : AMem) (K : AV → AMem → Prop), K (.int .i64 (weightV most v)) m → ACalls Try.prog 19 [valTop v, .int .i64 most] m K
  | 0, _, h => absurd h (Nat.not_lt_zero _)
  | n + 1, v, h => fun m K hK => u_weight1 v most (fun w hw => u_weight most n w (by omega)) m K hK

end Go.Proofs
end
