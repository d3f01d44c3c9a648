/-
  The abstract layer, part 32: a struct's fields read as typed data.
-/
import Derived.Test.YtoeghipbkmaccaaDoorWxb
namespace Go.Aw
open Go Go.RowKit Go.WideShapes Go.ChangeShapes

section
variable {P : Program} {fuel : Nat} {t e : TypeId}

theorem weightsEach_mem {H : Type} : ∀ {ts : List TypeId} {ds : List (DataW H)} {i : Nat} {t : TypeId} {d : DataW H}, ts[i]? = some t → ds[i]? = some d → ∀ n ∈ d.weights P t, n ∈ DataW.weightsEach P ts ds
  | a :: ts, b :: ds, 0, t, d, ht, hd, n, hn => by
    simp only [List.getElem?_cons_zero, Option.some.injEq] at ht hd
    subst ht; subst hd
    exact List.mem_append_left _ hn
  | a :: ts, b :: ds, i + 1, t, d, ht, hd, n, hn => by
    simp only [List.getElem?_cons_succ] at ht hd
    exact List.mem_append_right _ (weightsEach_mem ht hd n hn)
  | [], _, i, t, d, ht, _, _, _ => by simp at ht
  | _ :: _, [], i, t, d, _, hd, _, _ => by simp at hd

/-- The fields of what reads as a struct. -/
theorem rd_fields {fs : Array Field} (ht : P.underlying t = some (.struct fs)) {H : Type} {enc : TypeId × Value → H} {W : World} {sp : Nat → Bool} {cs : List Value} {d : DataW H} {ps : List MemPlace} (h : DataW.trod enc P W 0 sp true fuel t cs = some (d, ps)) (hw : ∀ n ∈ d.weights P t, n ≤ reachBytes) :
    cs.length = P.cellsOf t ∧ ∀ (i : Nat) (f : Field) {α : Type} (g : α → AV), fs[i]? = some f → (∀ n, n < fuel → Rd P n f.type g) → f.offset + P.cellsOf f.type ≤ P.cellsOf t →
      ∃ x : α, (g x).cells.length = P.cellsOf f.type ∧ ∀ j, j < P.cellsOf f.type → Rep W (limOf W) (cs.getD (f.offset + j) undef) ((g x).cells.getD j .junk) [] := by
  obtain ⟨xs, n, rfl, hx, hl, hxl, hf⟩ := DataW.trod_struct ht h
  simp only [Prod.mk.injEq] at hx
  obtain ⟨rfl, rfl⟩ := hx
  refine ⟨hl, fun i f α g hi hr ho => ?_⟩
  have h1 := hf i f hi
  have hi2 : i < xs.length := by
    rw [hxl]; exact (Array.getElem?_eq_some_iff.1 hi).1
  rw [List.getElem?_eq_getElem hi2] at h1
  have h1' : DataW.trod enc P W 0 sp true n f.type ((cs.drop f.offset).take (P.cellsOf f.type)) = some ((xs[i]).1, (xs[i]).2) := h1
  simp only [DataW.weights, ht] at hw
  obtain ⟨x, hx1, hx2⟩ := hr n (Nat.lt_succ_self n) H enc W sp _ _ _ h1' (fun k hk => hw k (weightsEach_mem (i := i) (t := f.type) (by simp [hi]) (by simp [hi2]) k hk))
  have hlen : ((cs.drop f.offset).take (P.cellsOf f.type)).length = P.cellsOf f.type := by
    rw [List.length_take, List.length_drop]; omega
  refine ⟨x, by rw [hx1, hlen], fun j hj => ?_⟩
  have h2 := hx2 j (by omega)
  have e : ((cs.drop f.offset).take (P.cellsOf f.type)).getD j undef = cs.getD (f.offset + j) undef := by
    simp [List.getD_eq_getElem?_getD, hj]
  rwa [e] at h2

end
end Go.Aw
