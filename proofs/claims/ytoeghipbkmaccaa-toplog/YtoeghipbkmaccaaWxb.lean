/-
  The abstract layer, part 28: what a law is handed reads as typed data.
-/
import Derived.Test.YtoeghipbkmaccaaWwW
import Derived.Test.YtoeghipbkmaccaaWwS
import Derived.ProofKit
import Derived.SizedLaws
namespace Go.Aw
open Go Go.RowKit Go.WideShapes Go.ChangeShapes

/-- What stands at type 't', so deep, reads as an α. -/
def Rd (P : Program) (fuel : Nat) (t : TypeId) {α : Type} (f : α → AV) : Prop :=
  ∀ (H : Type) (enc : TypeId × Value → H) (W : World) (sp : Nat → Bool) (cs : List Value) (d : DataW H) (ps : List MemPlace), DataW.trod enc P W 0 sp true fuel t cs = some (d, ps) → (∀ n ∈ d.weights P t, n ≤ reachBytes) →
    ∃ x : α, (f x).cells.length = cs.length ∧ ∀ i, i < cs.length → Rep W (limOf W) (cs.getD i undef) ((f x).cells.getD i .junk) []

section
variable {P : Program} {fuel : Nat} {t e : TypeId}

theorem rd_int (ht : P.underlying t = some (.int .i64)) : Rd P fuel t intAV := by
  intro H enc W sp cs d ps h _
  obtain ⟨n, rfl, _, hw⟩ := DataW.trod_int ht h
  simp only [Lit.wf, IntKind.has, Bool.and_eq_true, decide_eq_true_eq] at hw
  refine ⟨n, rfl, fun i hi => ?_⟩
  obtain rfl : i = 0 := by simpa using hi
  exact .int .i64 n hw.1 hw.2

theorem rd_bool (ht : P.underlying t = some .bool) : Rd P fuel t boolAV := by
  intro H enc W sp cs d ps h _
  obtain ⟨b, rfl, _⟩ := DataW.trod_bool ht h
  refine ⟨b, rfl, fun i hi => ?_⟩
  obtain rfl : i = 0 := by simpa using hi
  exact .bool b

theorem rd_string (ht : P.underlying t = some .string) : Rd P fuel t strAV := by
  intro H enc W sp cs d ps h hw
  obtain ⟨s, rfl, hx, hs⟩ := DataW.trod_string ht h
  simp only [Prod.mk.injEq] at hx
  obtain ⟨rfl, rfl⟩ := hx
  have h1 := hw s.data.toList.length (by simp [DataW.weights])
  refine ⟨s.data.toList, rfl, fun i hi => ?_⟩
  obtain rfl : i = 0 := by simpa using hi
  exact .str s (by unfold reachBytes at h1; simp at h1; omega)

theorem weightsAll_mem {H : Type} {e : TypeId} : ∀ {ds : List (DataW H)} {d : DataW H}, d ∈ ds → ∀ n ∈ d.weights P e, n ∈ DataW.weightsAll P e ds
  | a :: ds, d, hd, n, hn => by
    simp only [DataW.weightsAll, List.mem_append]
    rcases List.mem_cons.1 hd with rfl | hd
    · exact .inl hn
    · exact .inr (weightsAll_mem hd n hn)

theorem rd_slice {α : Type} [Inhabited α] {f : α → AV} {sz : Nat} (ht : P.underlying t = some (.slice e)) (hsz : P.cellsOf e = sz) (hpos : 0 < sz) (hby : 0 < P.bytesOf e) (hf : ∀ x, (f x).cells.length = sz) (hr : ∀ n, n < fuel → Rd P n e f) : Rd P fuel t (lstAV f) := by
  intro H enc W sp cs d ps h hw
  rcases DataW.trod_slice ht h with ⟨rfl, _⟩ | ⟨a, len, cap, elems, rest, n, rfl, rfl, hx, hb, hl, hm, hlen, hel, hsp, hns⟩
  · refine ⟨[], rfl, fun i hi => ?_⟩
    obtain rfl : i = 0 := by simpa using hi
    exact .nils false
  simp only [Prod.mk.injEq] at hx
  obtain ⟨rfl, rfl⟩ := hx
  simp only [DataW.weights, ht] at hw
  have hw0 := hw _ (List.mem_cons_self ..)
  simp only [List.length_map] at hw0
  have hlen2 : len ≤ 140737488355328 := by
    have h1 : len * 1 ≤ (elems.length + rest.length) * P.bytesOf e := Nat.mul_le_mul (by omega) hby
    unfold reachBytes at hw0; omega
  rcases Nat.eq_zero_or_pos len with h0 | h0
  · subst h0
    refine ⟨[], rfl, fun i hi => ?_⟩
    obtain rfl : i = 0 := by simpa using hi
    exact .empty a cap hm
  have each : ∀ i, i < len → ∃ (x : α) (cs' : List Value), W.cells? 0 (a.add (i * sz)) sz = some cs' ∧ (∀ j, j < sz → Rep W (limOf W) (cs'.getD j undef) ((f x).cells.getD j .junk) []) := fun i hi => by
    have h1 := hel i hi
    rw [hsz, List.getElem?_eq_getElem (show i < elems.length by omega), Option.bind_eq_some_iff] at h1
    obtain ⟨cs', h2, h3⟩ := h1
    have h3' : DataW.trod enc P W 0 sp true n e cs' = some ((elems[i]'(by omega)).1, (elems[i]'(by omega)).2) := h3
    obtain ⟨x, hx1, hx2⟩ := hr n (Nat.lt_succ_self n) H enc W sp cs' _ _ h3' (fun k hk => hw k (List.mem_cons_of_mem _ (List.mem_append_left _ (weightsAll_mem (List.mem_map.2 ⟨_, List.getElem_mem (show i < elems.length by omega), rfl⟩) k hk))))
    have hl2 : cs'.length = sz := by rw [← hx1, hf]
    exact ⟨x, cs', h2, fun j hj => hx2 j (by omega)⟩
  have hsp : a.spot = none := by
    obtain ⟨x, cs', h1, _⟩ := each 0 h0
    have := (World.cells?_some h1).2.2 0 hpos
    obtain ⟨b, off, spot⟩ := a
    cases spot with
    | none => rfl
    | some s =>
      have hl2 := (World.cells?_some h1).2.1
      rw [List.getElem?_eq_getElem (by omega)] at this
      unfold World.cell? at this
      simp [Addr.add] at this
      split at this <;> simp_all
  obtain ⟨b, off, spot⟩ := a
  simp only at hsp
  subst hsp
  have hg : ∀ i : Nat, ∃ x : α × List Value, i < len → W.cells? 0 ((⟨b, off, none⟩ : Addr).add (i * sz)) sz = some x.2 ∧ (∀ j, j < sz → Rep W (limOf W) (x.2.getD j undef) ((f x.1).cells.getD j .junk) []) := fun i => by
    by_cases hi : i < len
    · obtain ⟨x, cs', h1, h2⟩ := each i hi
      exact ⟨(x, cs'), fun _ => ⟨h1, h2⟩⟩
    · exact ⟨(default, []), fun h => absurd h hi⟩
  obtain ⟨g, hg⟩ := Classical.axiomOfChoice hg
  have hcell : ∀ i j, i < len → j < sz → W.cell? ⟨b, off + i * sz + j, none⟩ = some ((g i).2.getD j undef) := fun i j hi hj => by
    have h1 := (hg i hi).1
    have h2 := (World.cells?_some h1).2.2 j hj
    have h3 := (World.cells?_some h1).2.1
    rw [Addr.add_lit, Addr.add_lit] at h2
    rw [h2, List.getD_eq_getElem?_getD, List.getElem?_eq_getElem (by omega)]; rfl
  refine ⟨(List.range len).map fun i => (g i).1, rfl, fun i hi => ?_⟩
  obtain rfl : i = 0 := by simpa using hi
  have hgd : ∀ i, i < len → (((List.range len).map fun i => (g i).1).map f).getD i .junk = f (g i).1 := fun i hi => by
    simp [List.getD_eq_getElem?_getD, hi]
  refine Rep.slice b off len cap sz _ (fun i j => (g i).2.getD j undef) (by simp) hl hm hlen2 (fun i hi => by rw [hgd i hi]; exact hf _) ?_ hcell (fun i j hi hj => by rw [hgd i hi]; exact (hg i hi).2 j hj)
  have h1 := limOf_cell (hcell (len - 1) (sz - 1) (by omega) (by omega))
  have h2 : len * sz = (len - 1) * sz + sz := by rw [← Nat.succ_mul]; congr 1; omega
  omega

/-- .. as an argument. -/
theorem Rd.arg {α : Type} {f : α → AV} {H : Type} {enc : TypeId × Value → H} {W : World} {sp : Nat → Bool} {v : Value} {d : DataW H} {ps : List MemPlace} (hr : ∀ n, Rd P n t f) (hf : ∀ x, (f x).cells = [f x]) (hv : v.cells.toList = [v]) (hd : DataW.Trod enc P W 0 sp true t v d ps) (hw : ∀ n ∈ d.weights P t, n ≤ reachBytes) :
    ∃ x : α, Rep W (limOf W) v (f x) [] := by
  obtain ⟨n, hn⟩ := hd
  obtain ⟨x, h1, h2⟩ := hr n H enc W sp _ d ps hn hw
  refine ⟨x, ?_⟩
  rw [hv] at h2
  have := h2 0 (by simp)
  rw [hf] at this
  exact this

theorem sized_arg {H : Type} {ts : List TypeId} {ds : List (DataW H)} (h : (DataW.weightsEach P ts ds).all (· ≤ reachBytes) = true) {j : Nat} {d : DataW H} (ht : ts[j]? = some t) (hd : ds[j]? = some d) : ∀ n ∈ d.weights P t, n ≤ reachBytes := fun n hn => by
  simpa using List.all_eq_true.1 h _ (DataW.weights_mem_each ht hd n hn)

end
end Go.Aw
