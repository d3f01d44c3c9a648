import Derived.Test.YtfpbolgpaipiiaaProg
import Derived.Test.YtfpbolgpaipiiaaMix
import Derived.Test.YtfpbolgpaipiiaaWwZ
import Derived.Test.YtfpbolgpaipiiaaGr6
namespace Go.Proofs
open Go Go.Aw
set_option maxRecDepth 100000


def InN (needs : List (List Int)) (j : Int) : Prop := 0 ≤ j ∧ j < needs.length
def IsDepth (needs : List (List Int)) (D : Int → Int) : Prop := ∀ j, InN needs j → 1 ≤ D j ∧ D j ≤ needs.length ∧ (∀ k ∈ gI needs j, D k + 1 ≤ D j) ∧ (D j = 1 ∨ ∃ k ∈ gI needs j, D k + 1 = D j)
def IsCyc (needs : List (List Int)) (U : Int → Prop) : Prop := ∀ j, U j → InN needs j ∧ ∃ k ∈ gI needs j, U k
def groupsTo (needs : List (List Int)) (D : Int → Int) (w : Int) : List (List Int) := ((upto w).map fun v => (upto needs.length).filter fun i => D i == v + 1).filter (· != [])
theorem need_in {needs : List (List Int)} (h : okN needs = true) {j k : Int} (hj : InN needs j) (hk : k ∈ gI needs j) : InN needs k := by
  have := List.all_eq_true.1 (List.all_eq_true.1 h _ (gI_mem hj.1 hj.2)) k hk
  simpa [InN] using this
/-- What the levels are, in round r, when those before i are done. -/
structure RI (needs : List (List Int)) (lv : List Int) (r i : Int) : Prop where
  len : lv.length = needs.length
  rng : ∀ j, InN needs j → 0 ≤ gI lv j ∧ gI lv j ≤ needs.length
  dep : ∀ D, IsDepth needs D → ∀ j, InN needs j → gI lv j ≤ D j ∧ (D j ≤ gI lv j ∨ (if j < i then r + 1 else r) ≤ gI lv j)
  cyc : ∀ U, IsCyc needs U → ∀ j, U j → (if j < i then r + 1 else r) ≤ gI lv j
def UI (lv ns : List Int) (up : Int) : Prop := 1 ≤ up ∧ (∀ k ∈ ns, 1 + gI lv k ≤ up) ∧ (up = 1 ∨ ∃ k ∈ ns, up = 1 + gI lv k)
theorem UI.nil (lv : List Int) : UI lv [] 1 := ⟨by omega, by simp, .inl rfl⟩
theorem UI.snoc {lv ns : List Int} {up k : Int} (h : UI lv ns up) (h0 : 0 ≤ gI lv k) : UI lv (ns ++ [k]) (if 1 + gI lv k > up then 1 + gI lv k else up) := by
  refine ⟨by split <;> have := h.1 <;> omega, fun x hx => ?_, ?_⟩
  · rcases List.mem_append.1 hx with hx | hx
    · have := h.2.1 x hx; split <;> omega
    · simp at hx; subst hx; split <;> omega
  · split
    · exact .inr ⟨k, by simp, rfl⟩
    · rcases h.2.2 with e | ⟨x, hx, e⟩
      · exact .inl e
      · exact .inr ⟨x, by simp [hx], e⟩
theorem RI.up_dep {needs : List (List Int)} {lv : List Int} {r i up : Int} (hok : okN needs = true) (h : RI needs lv r i) (hi : InN needs i) (hu : UI lv (gI needs i) up) {D : Int → Int} (hD : IsDepth needs D) : up ≤ D i ∧ (D i ≤ up ∨ r + 1 ≤ up) := by
  have hd := hD i hi
  constructor
  · rcases hu.2.2 with e | ⟨k, hk, e⟩
    · omega
    · have h1 := (h.dep D hD k (need_in hok hi hk)).1
      have h2 := hd.2.2.1 k hk
      omega
  · rcases hd.2.2.2 with e | ⟨k, hk, e⟩
    · left; have := hu.1; omega
    · have h1 := (h.dep D hD k (need_in hok hi hk)).2
      have h2 := hu.2.1 k hk
      rcases h1 with h1 | h1
      · left; omega
      · right
        have : r ≤ if k < i then r + 1 else r := by split <;> omega
        omega
theorem RI.step {needs : List (List Int)} {lv : List Int} {r i up : Int} (hok : okN needs = true) (h : RI needs lv r i) (hi : InN needs i) (hu : UI lv (gI needs i) up) (hn : up ≤ needs.length) : RI needs (lv.set i.toNat up) r (i + 1) := by
  have hset : ∀ j, InN needs j → gI (lv.set i.toNat up) j = if j = i then up else gI lv j := fun j hj => gI_set hi.1 (by rw [h.len]; exact hi.2) hj.1
  refine ⟨by simp [h.len], fun j hj => ?_, fun D hD j hj => ?_, fun U hU j hj => ?_⟩
  · rw [hset j hj]; split
    · have := hu.1; omega
    · exact h.rng j hj
  · rw [hset j hj]
    by_cases e : j = i
    · subst e
      rw [if_pos rfl, if_pos (by omega)]
      exact h.up_dep hok hi hu hD
    · rw [if_neg e]
      have := h.dep D hD j hj
      have e2 : (j < i + 1) ↔ (j < i) := by omega
      simp only [e2]; exact this
  · have hj' := hU j hj
    rw [hset j hj'.1]
    by_cases e : j = i
    · subst e
      rw [if_pos rfl, if_pos (by omega)]
      obtain ⟨k, hk, hUk⟩ := hj'.2
      have h1 := h.cyc U hU k hUk
      have h2 := hu.2.1 k hk
      have : r ≤ if k < j then r + 1 else r := by split <;> omega
      omega
    · rw [if_neg e]
      have := h.cyc U hU j hj
      have e2 : (j < i + 1) ↔ (j < i) := by omega
      simp only [e2]; exact this
theorem RI.none {needs : List (List Int)} {lv : List Int} {r i up : Int} (hok : okN needs = true) (h : RI needs lv r i) (hi : InN needs i) (hu : UI lv (gI needs i) up) (hn : needs.length < up) (D : Int → Int) : ¬ IsDepth needs D := fun hD => by
  have := (h.up_dep hok hi hu hD).1
  have := (hD i hi).2.1
  omega
theorem RI.round {needs : List (List Int)} {lv : List Int} {r i : Int} (h : RI needs lv r i) (hi : needs.length ≤ i) : RI needs lv (r + 1) 0 := by
  refine ⟨h.len, h.rng, fun D hD j hj => ?_, fun U hU j hj => ?_⟩
  · have := h.dep D hD j hj
    have hj2 := hj.2
    have hj1 := hj.1
    rw [if_pos (by omega)] at this
    rw [if_neg (by omega)]; exact this
  · have := h.cyc U hU j hj
    have hj' := (hU j hj).1
    have hj2 := hj'.2
    have hj1 := hj'.1
    rw [if_pos (by omega)] at this
    rw [if_neg (by omega)]; exact this
theorem RI.start (needs : List (List Int)) : RI needs (List.replicate needs.length 0) 0 0 := by
  have hz : ∀ j, gI (List.replicate needs.length (0 : Int)) j = 0 := fun j => by
    simp only [gI, List.getD_eq_getElem?_getD, List.getElem?_replicate]
    split <;> rfl
  refine ⟨by simp, fun j _ => ?_, fun D hD j hj => ?_, fun U hU j hj => ?_⟩
  · rw [hz]; omega
  · rw [hz]; have := hD j hj; exact ⟨by omega, .inr (by split <;> first | omega | (have := hj.1; omega))⟩
  · rw [hz]; split
    · have := (hU j hj).1.1; omega
    · omega
theorem RI.fin {needs : List (List Int)} {lv : List Int} {r : Int} (h : RI needs lv r 0) (hr : needs.length < r) {D : Int → Int} (hD : IsDepth needs D) : ∀ j, InN needs j → gI lv j = D j := fun j hj => by
  have h1 := h.dep D hD j hj
  have h2 := h.rng j hj
  have h3 := hj.1
  rw [if_neg (by omega)] at h1
  omega
theorem RI.fin2 {needs : List (List Int)} {lv : List Int} {r : Int} (h : RI needs lv r 0) (hr : needs.length < r) {U : Int → Prop} (hU : IsCyc needs U) (j : Int) : ¬ U j := fun hj => by
  have h1 := h.cyc U hU j hj
  have h2 := h.rng j (hU j hj).1
  have h3 := (hU j hj).1.1
  rw [if_neg (by omega)] at h1
  omega
theorem groupsTo_succ {needs : List (List Int)} {D : Int → Int} {w : Int} (h : 0 ≤ w) : groupsTo needs D (w + 1) = if ((upto needs.length).filter fun i => D i == w + 1) = [] then groupsTo needs D w else groupsTo needs D w ++ [(upto needs.length).filter fun i => D i == w + 1] := by
  rw [groupsTo, upto_succ h, List.map_append, List.filter_append]
  simp only [List.map_cons, List.map_nil, List.filter_cons, List.filter_nil]
  split
  · rename_i hh; rw [if_neg (by simpa using hh)]; rfl
  · rename_i hh
    have : ((upto needs.length).filter fun i => D i == w + 1) = [] := by simpa using hh
    rw [if_pos this]; simp [groupsTo]
theorem groupsTo_congr {needs : List (List Int)} {D D' : Int → Int} (h : ∀ j, InN needs j → D j = D' j) (w : Int) : groupsTo needs D w = groupsTo needs D' w := by
  unfold groupsTo
  congr 1
  refine List.map_congr_left fun v _ => List.filter_congr fun i hi => ?_
  have := upto_mem.1 hi
  rw [h i this]
theorem setAll_gI {n : Int} {wave : List Int} {v : Int} : ∀ {lv : List Int}, lv.length = n → (∀ x ∈ wave, 0 ≤ x ∧ x < n) → ∀ j, 0 ≤ j → gI (setAll lv wave v) j = if j ∈ wave then v else gI lv j := by
  induction wave with
  | nil => intro lv _ _ j _; simp [setAll]
  | cons a w ih =>
    intro lv hl hw j hj
    have e : setAll lv (a :: w) v = setAll (lv.set a.toNat v) w v := rfl
    have ha := hw a (by simp)
    rw [e, ih (by simpa using hl) (fun x hx => hw x (by simp [hx])) j hj, gI_set ha.1 (by omega) hj]
    by_cases h1 : j ∈ w
    · simp [h1]
    · by_cases h2 : j = a <;> simp [h1, h2]
theorem waveTo_mem2 {needs : List (List Int)} {lv : List Int} {x : Int} : x ∈ waveTo needs lv needs.length ↔ InN needs x ∧ readyB needs lv x = true := by
  simp [waveTo, List.mem_filter, upto_mem, InN]
/-- What the program's levels are behind w waves. -/
structure WI (needs : List (List Int)) (left : Int) (lv : List Int) (out : List (List Int)) : Prop where
  len : lv.length = needs.length
  rng : ∀ j, InN needs j → 0 ≤ gI lv j ∧ gI lv j ≤ out.length
  sum : out.length + left ≤ needs.length
  cnt : left = ((upto needs.length).filter fun i => gI lv i == 0).length
  grp : out = (upto out.length).map fun v => (upto needs.length).filter fun i => gI lv i == v + 1
  nem : ∀ l ∈ out, l ≠ []
  lo : ∀ j, InN needs j → 0 < gI lv j → ∀ k ∈ gI needs j, 0 < gI lv k ∧ gI lv k + 1 ≤ gI lv j
  ex : ∀ j, InN needs j → 0 < gI lv j → gI lv j = 1 ∨ ∃ k ∈ gI needs j, gI lv k + 1 = gI lv j
  nr : ∀ j, InN needs j → gI lv j = 0 → out.length = 0 ∨ ∃ k ∈ gI needs j, gI lv k = 0 ∨ gI lv k = out.length
theorem filter_or_len {α : Type} (l : List α) (p q : α → Bool) (h : ∀ x ∈ l, ¬ (p x = true ∧ q x = true)) : (l.filter fun x => p x || q x).length = (l.filter p).length + (l.filter q).length := by
  induction l with
  | nil => rfl
  | cons a l ih =>
    have := ih (fun x hx => h x (by simp [hx]))
    have ha := h a (by simp)
    cases hp : p a <;> cases hq : q a <;> simp_all [List.filter_cons] <;> omega
theorem WI.step {needs : List (List Int)} {left : Int} {lv : List Int} {out : List (List Int)} (hok : okN needs = true) (h : WI needs left lv out) (hne : ¬ waveTo needs lv needs.length = []) :
    WI needs (left - (waveTo needs lv needs.length).length) (setAll lv (waveTo needs lv needs.length) (out.length + 1 : Nat)) (out ++ [waveTo needs lv needs.length]) := by
  have hs : ∀ j, InN needs j → gI (setAll lv (waveTo needs lv needs.length) (out.length + 1 : Nat)) j = if readyB needs lv j = true then ((out.length + 1 : Nat) : Int) else gI lv j := fun j hj => by
    rw [setAll_gI (n := needs.length) (by rw [h.len]) (fun x hx => (waveTo_mem2.1 hx).1) j hj.1]
    by_cases hr : readyB needs lv j = true
    · rw [if_pos (waveTo_mem2.2 ⟨hj, hr⟩), if_pos hr]
    · rw [if_neg (fun hh => hr (waveTo_mem2.1 hh).2), if_neg hr]
  have hrd : ∀ j, readyB needs lv j = true → gI lv j = 0 ∧ ∀ k ∈ gI needs j, 0 < gI lv k := fun j hr => by
    simpa [readyB] using hr
  have hlen : 0 < (waveTo needs lv needs.length).length := List.length_pos_iff.2 hne
  have hnot : ∀ k, 0 < gI lv k → ¬ readyB needs lv k = true := fun k hk hr => by have := (hrd k hr).1; omega
  refine ⟨by rw [setAll_len, h.len], fun j hj => ?_, ?_, ?_, ?_, ?_, fun j hj h0 k hk => ?_, fun j hj h0 => ?_, fun j hj h0 => ?_⟩
  · rw [hs j hj]; have := h.rng j hj; simp; split <;> omega
  · have := h.sum; simp; omega
  · have e1 : ((upto needs.length).filter fun i => gI lv i == 0) = (upto needs.length).filter fun i => (gI (setAll lv (waveTo needs lv needs.length) (out.length + 1 : Nat)) i == 0) || readyB needs lv i := by
      refine List.filter_congr fun i hi => ?_
      have hi' : InN needs i := upto_mem.1 hi
      rw [hs i hi']
      by_cases hr : readyB needs lv i = true
      · rw [if_pos hr, hr, (hrd i hr).1]; simp
      · rw [if_neg hr]; simp [hr]
    have e2 := h.cnt
    rw [e1, filter_or_len _ _ _ (fun i hi hh => by
      have hi' : InN needs i := upto_mem.1 hi
      have h1 := hh.1
      rw [hs i hi', if_pos hh.2] at h1
      simp at h1; omega)] at e2
    have e3 : waveTo needs lv needs.length = (upto needs.length).filter (readyB needs lv) := rfl
    rw [e2, e3]; simp
  · have e0 : (out ++ [waveTo needs lv needs.length]).length = out.length + 1 := by simp
    have e1 : ((out.length + 1 : Nat) : Int) = (out.length : Int) + 1 := by omega
    rw [e0, e1, upto_succ (by omega), List.map_append]
    congr 1
    · conv => lhs; rw [h.grp]
      refine List.map_congr_left fun v hv => List.filter_congr fun i hi => ?_
      have hi' : InN needs i := upto_mem.1 hi
      have hv' := upto_mem.1 hv
      rw [← e1, hs i hi']
      by_cases hr : readyB needs lv i = true
      · rw [if_pos hr, (hrd i hr).1]
        have : ¬ ((0 : Int) = v + 1) := by omega
        have h2 : ¬ (((out.length + 1 : Nat) : Int) = v + 1) := by omega
        rw [beq_eq_false_iff_ne.2 this, beq_eq_false_iff_ne.2 h2]
      · rw [if_neg hr]
    · simp only [List.map_cons, List.map_nil]
      congr 1
      refine List.filter_congr fun i hi => ?_
      have hi' : InN needs i := upto_mem.1 hi
      rw [← e1, hs i hi']
      by_cases hr : readyB needs lv i = true
      · rw [if_pos hr, hr]; simp
      · rw [if_neg hr]
        have := h.rng i hi'
        have h2 : ¬ (gI lv i = ((out.length + 1 : Nat) : Int)) := by omega
        simp only [Bool.not_eq_true] at hr
        rw [hr, beq_eq_false_iff_ne.2 h2]
  · intro l hl
    rcases List.mem_append.1 hl with hl | hl
    · exact h.nem l hl
    · simp at hl; subst hl; exact hne
  · have hk' := need_in hok hj hk
    rw [hs j hj] at h0 ⊢
    rw [hs k hk']
    by_cases hr : readyB needs lv j = true
    · have := (hrd j hr).2 k hk
      rw [if_pos hr, if_neg (hnot k this)]
      have := (h.rng k hk').2
      omega
    · rw [if_neg hr] at h0 ⊢
      have := h.lo j hj h0 k hk
      rw [if_neg (hnot k this.1)]
      exact this
  · rw [hs j hj] at h0 ⊢
    by_cases hr : readyB needs lv j = true
    · rw [if_pos hr]
      rcases h.nr j hj (hrd j hr).1 with e | ⟨k, hk, e⟩
      · left; omega
      · right
        have := (hrd j hr).2 k hk
        refine ⟨k, hk, ?_⟩
        rw [hs k (need_in hok hj hk), if_neg (hnot k this)]
        omega
    · rw [if_neg hr] at h0 ⊢
      rcases h.ex j hj h0 with e | ⟨k, hk, e⟩
      · exact .inl e
      · right
        refine ⟨k, hk, ?_⟩
        have := (h.lo j hj h0 k hk).1
        rw [hs k (need_in hok hj hk), if_neg (hnot k this)]
        exact e
  · right
    rw [hs j hj] at h0
    by_cases hr : readyB needs lv j = true
    · rw [if_pos hr] at h0; omega
    · rw [if_neg hr] at h0
      have hex : ∃ k ∈ gI needs j, gI lv k ≤ 0 := by
        have hr' : readyB needs lv j = false := by simpa using hr
        simp only [readyB, h0, beq_self_eq_true, Bool.true_and] at hr'
        obtain ⟨k, hk, h3⟩ := List.all_eq_false.1 hr'
        exact ⟨k, hk, by simpa using h3⟩
      obtain ⟨k, hk, h3⟩ := hex
      have hk' := need_in hok hj hk
      refine ⟨k, hk, ?_⟩
      rw [hs k hk']
      have := h.rng k hk'
      by_cases hr2 : readyB needs lv k = true
      · rw [if_pos hr2]; right; simp
      · rw [if_neg hr2]; left; omega
theorem upto_split (w n : Nat) (h : w ≤ n) : ∃ r : List Int, upto (n : Int) = upto (w : Int) ++ r ∧ ∀ x ∈ r, (w : Int) ≤ x := by
  refine ⟨(List.range (n - w)).map (fun i : Nat => ((w + i : Nat) : Int)), ?_, fun x hx => ?_⟩
  · obtain ⟨d, rfl⟩ := Nat.exists_eq_add_of_le h
    simp only [upto, Int.toNat_natCast, Nat.add_sub_cancel_left, List.range_add, List.map_append, List.map_map]
    rfl
  · obtain ⟨i, hi, rfl⟩ := List.mem_map.1 hx
    omega
theorem WI.groups {needs : List (List Int)} {left : Int} {lv : List Int} {out : List (List Int)} (h : WI needs left lv out) (h0 : 0 ≤ left) : groupsTo needs (gI lv) needs.length = out := by
  have hs := h.sum
  obtain ⟨r, hr, hr2⟩ := upto_split out.length needs.length (by omega)
  unfold groupsTo
  rw [hr, List.map_append, List.filter_append]
  have e1 : ((upto needs.length).filter fun i => false) = [] := by simp
  have h2 : (r.map fun v => (upto out.length ++ r).filter fun i => gI lv i == v + 1).filter (· != []) = [] := by
    rw [List.filter_eq_nil_iff]
    intro l hl
    obtain ⟨v, hv, rfl⟩ := List.mem_map.1 hl
    have := hr2 v hv
    simp only [bne_iff_ne, ne_eq, Decidable.not_not]
    rw [List.filter_eq_nil_iff]
    intro i hi
    rw [← hr] at hi
    have := h.rng i (upto_mem.1 hi)
    simp; omega
  rw [h2, List.append_nil, ← hr, ← h.grp, List.filter_eq_self]
  intro l hl
  simpa using h.nem l hl
theorem WI.depth {needs : List (List Int)} {left : Int} {lv : List Int} {out : List (List Int)} (h : WI needs left lv out) (h0 : left ≤ 0) : IsDepth needs (gI lv) := by
  have hc := h.cnt
  have hz : ∀ j, InN needs j → 0 < gI lv j := fun j hj => by
    have h1 := (h.rng j hj).1
    by_cases e : gI lv j = 0
    · exfalso
      have hm : j ∈ (upto needs.length).filter fun i => gI lv i == 0 := List.mem_filter.2 ⟨upto_mem.2 hj, by simp [e]⟩
      have hl := List.length_pos_of_mem hm
      omega
    · omega
  intro j hj
  have h1 := hz j hj
  have h2 := (h.rng j hj).2
  have h3 := h.sum
  exact ⟨by omega, by omega, fun k hk => (h.lo j hj h1 k hk).2, h.ex j hj h1⟩
theorem WI.cyc {needs : List (List Int)} {left : Int} {lv : List Int} {out : List (List Int)} (hok : okN needs = true) (h : WI needs left lv out) (h0 : 0 < left) (he : waveTo needs lv needs.length = []) : ∃ U j, IsCyc needs U ∧ U j := by
  have hc := h.cnt
  have : ((upto needs.length).filter fun i => gI lv i == 0) ≠ [] := fun e => by rw [e] at hc; simp at hc; omega
  obtain ⟨j, hj⟩ := List.exists_mem_of_ne_nil _ this
  have hj' := List.mem_filter.1 hj
  refine ⟨fun j => InN needs j ∧ gI lv j = 0, j, fun i hi => ⟨hi.1, ?_⟩, upto_mem.1 hj'.1, by simpa using hj'.2⟩
  have hr : ¬ readyB needs lv i = true := fun hr => by
    have : i ∈ waveTo needs lv needs.length := waveTo_mem2.2 ⟨hi.1, hr⟩
    rw [he] at this; cases this
  have hr' : readyB needs lv i = false := by simpa using hr
  simp only [readyB, hi.2, beq_self_eq_true, Bool.true_and] at hr'
  obtain ⟨k, hk, h3⟩ := List.all_eq_false.1 hr'
  have hk' := need_in hok hi.1 hk
  have h4 : gI lv k ≤ 0 := by simpa using h3
  have := (h.rng k hk').1
  exact ⟨k, hk, hk', by omega⟩
theorem wavesF_cases {needs : List (List Int)} (hok : okN needs = true) : ∀ f left lv out, WI needs left lv out → left < (f : Nat) → 0 ≤ left →
    (∃ D, IsDepth needs D ∧ wavesF f needs left lv out = (groupsTo needs D needs.length, 0)) ∨ ((∃ U j, IsCyc needs U ∧ U j) ∧ wavesF f needs left lv out = ([], 8)) := by
  intro f
  induction f with
  | zero => intro left lv out _ h1 h2; omega
  | succ f ih =>
    intro left lv out h h1 h2
    rw [wavesF]
    by_cases h3 : left ≤ 0
    · rw [if_pos h3]
      exact .inl ⟨gI lv, h.depth h3, by rw [h.groups h2]⟩
    · rw [if_neg h3]
      by_cases h4 : waveTo needs lv needs.length = []
      · rw [if_pos h4]
        exact .inr ⟨h.cyc hok (by omega) h4, rfl⟩
      · rw [if_neg h4]
        have hs := h.step hok h4
        have hp := List.length_pos_iff.2 h4
        refine ih _ _ _ hs (by omega) ?_
        rw [hs.cnt]; omega
theorem WI.start (needs : List (List Int)) : WI needs needs.length (List.replicate needs.length 0) [] := by
  have hz : ∀ j, gI (List.replicate needs.length (0 : Int)) j = 0 := fun j => by
    simp only [gI, List.getD_eq_getElem?_getD, List.getElem?_replicate]
    split <;> rfl
  refine ⟨by simp, fun j _ => ?_, by simp, ?_, by simp [upto], by simp, fun j _ h => ?_, fun j _ h => ?_, fun j _ _ => .inl rfl⟩
  · rw [hz]; simp
  · have e : ((upto needs.length).filter fun i => gI (List.replicate needs.length (0 : Int)) i == 0) = upto needs.length := List.filter_eq_self.2 (fun i _ => by rw [hz]; rfl)
    rw [e]; simp [upto]
  · rw [hz] at h; omega
  · rw [hz] at h; omega
theorem wavesR_cases {needs : List (List Int)} (hok : okN needs = true) : (∃ D, IsDepth needs D ∧ wavesR needs = (groupsTo needs D needs.length, 0)) ∨ ((∃ U j, IsCyc needs U ∧ U j) ∧ wavesR needs = ([], 8)) :=
  wavesF_cases hok _ _ _ _ (WI.start needs) (by omega) (by omega)
theorem wavesR_err {needs : List (List Int)} (hok : okN needs = true) (h : ∀ D, ¬ IsDepth needs D) : wavesR needs = ([], 8) := by
  rcases wavesR_cases hok with ⟨D, hD, _⟩ | ⟨_, e⟩
  · exact absurd hD (h D)
  · exact e
theorem wavesR_ok {needs : List (List Int)} {lv : List Int} {r : Int} (hok : okN needs = true) (h : RI needs lv r 0) (hr : needs.length < r) : wavesR needs = (groupsTo needs (gI lv) needs.length, 0) := by
  rcases wavesR_cases hok with ⟨D, hD, e⟩ | ⟨⟨U, j, hU, hj⟩, _⟩
  · rw [e, groupsTo_congr (h.fin hr hD)]
  · exact absurd hj (h.fin2 hr hU j)

end Go.Proofs
