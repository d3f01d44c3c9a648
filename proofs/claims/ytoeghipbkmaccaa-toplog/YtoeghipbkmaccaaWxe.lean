/-
  The abstract layer, part 31: a struct that takes over what one of its parts owns.
-/
import Derived.Test.YtoeghipbkmaccaaWxd
namespace Go.Aw
open Go

section
variable {P : Program} {F : Nat → Prop} {lim : Nat → Nat} {w w' : World} {n : Nat} {fr : Fr} {m : AMem} {ca : Act} {fl : List Nat}

def partAV (raw : Nat → AV) (s : Nat) (X : AV) : Operand → AV
  | .tmp t => if t = s then X else evP raw (.tmp t)
  | y => evP raw y

theorem build_own {t : TypeId} {fs : Array Field} {z : AV} {parts : Array (Nat × Operand)} {s : Nat} {l pre post : List AV} {os : List Nat} (st : St F lim w n fr m ca fl)
    (hu : P.underlying t = some (.struct fs)) (hz : zeroA P t = some z) (hzt : z.topOk = true) (hfs : ∀ f ∈ fs.toList, isU P f.type = true) (hpt : ∀ X : AV, X.topOk = true → ∀ p ∈ parts.toList, (partAV (rawOf fr) s X p.2).topOk = true)
    (hms : ∀ a k c, fillA (fun i => (fs[i]?).map fun f => (f.offset, P.cellsOf f.type)) z.cells (parts.toList.map fun p => (p.1, partAV (rawOf fr) s (.ms a k c) p.2)) = some (pre ++ .ms a k c :: post))
    (hown : fillA (fun i => (fs[i]?).map fun f => (f.offset, P.cellsOf f.type)) z.cells (parts.toList.map fun p => (p.1, partAV (rawOf fr) s (.slice true l) p.2)) = some (pre ++ .slice true l :: post))
    (hopd : ∀ p ∈ parts.toList, opdOk p.2 = true) (hr : Rep w lim (ca.tmps.getD s undef) (.slice true l) os) :
    ∃ v, (Instr.build t (parts.map fun (i, x) => (i, ca.eval x))).run P w = .ok v w ∧ Rep w lim v (.agg (pre ++ .slice true l :: post)) os := by
  have hrep : ∀ X : AV, Rep w lim (ca.tmps.getD s undef) X [] → ∀ p ∈ parts.toList, Rep w lim (ca.eval p.2) (partAV (rawOf fr) s X p.2) [] := fun X hX p hp => by
    have h1 := evP_rep st (hopd p hp)
    cases hp2 : p.2 with
    | tmp t =>
      rw [hp2] at h1
      simp only [partAV]
      split
      · rename_i e; subst e; exact hX
      · exact h1
    | _ => rw [hp2] at h1; exact h1
  generalize hv : ca.tmps.getD s undef = vs at hr hrep
  have hr0 := hr
  cases hr with
  | nils own =>
    obtain ⟨v, h1, h2⟩ := build_sound (P := P) (w := w) (lim := lim) (ca := ca) hu hz hzt hfs hown (hrep _ (.nils true)) (hpt _ rfl)
    exact ⟨v, h1, h2⟩
  | own b cnt cap sz l cv cur e h1 h2 h3 h4 h5 h6 h7 h8 h9 h10 h11 =>
    obtain ⟨v, r1, r2⟩ := build_sound (P := P) (w := w) (lim := lim) (ca := ca) hu hz hzt hfs (hms ⟨b, 0, none⟩ cnt cap) (hrep _ (.ms _ _ _ h2 h3)) (hpt _ rfl)
    refine ⟨v, r1, ?_⟩
    obtain ⟨osn, hos, r2⟩ : ∃ osn, ([] : List Nat) = osn ∧ Rep w lim v (.agg (pre ++ .ms ⟨b, 0, none⟩ cnt cap :: post)) osn := ⟨[], rfl, r2⟩
    cases r2 with
    | agg cs xs os' hsz hrr =>
      have hnil := flat_nil hos
      have hk := hrr pre.length (by simp)
      rw [hnil pre.length (by simp)] at hk
      have hget : ∀ (X : AV) (i : Nat), (pre ++ X :: post).getD i .junk = if i < pre.length then pre.getD i .junk else if i = pre.length then X else post.getD (i - pre.length - 1) .junk := fun X i => by
        simp only [List.getD_eq_getElem?_getD]
        by_cases hi : i < pre.length
        · rw [if_pos hi, List.getElem?_append_left hi]
        · rw [if_neg hi, List.getElem?_append_right (by omega)]
          by_cases he : i = pre.length
          · subst he; simp
          · rw [if_neg he]
            obtain ⟨d, hd⟩ : ∃ d, i - pre.length = d + 1 := ⟨i - pre.length - 1, by omega⟩
            rw [hd]; simp
      rw [hget, if_neg (by omega), if_pos rfl] at hk
      have hval := (rep_ms_inv hk).1
      have hA := Rep.agg (w := w) (lim := lim) cs (pre ++ .slice true l :: post) (fun i => if i = pre.length then [b] else []) (by rw [hsz]; simp) (fun i hi => by
        have hi' : i < (pre ++ AV.ms ⟨b, 0, none⟩ cnt cap :: post).length := by simp at hi ⊢; exact hi
        have hri := hrr i hi'
        rw [hnil i hi'] at hri
        rw [hget] at hri ⊢
        by_cases he : i = pre.length
        · subst he
          rw [if_neg (by omega), if_pos rfl, if_pos rfl, hval]
          exact hr0
        · rw [if_neg he] at hri
          rw [if_neg he, if_neg he]
          exact hri)
      have hfl : (List.range (pre ++ AV.slice true l :: post).length).flatMap (fun i => if i = pre.length then [b] else []) = [b] := by
        have : ∀ (k n : Nat), k < n → (List.range n).flatMap (fun i => if i = k then [b] else []) = [b] := fun k n => by
          induction n with
          | zero => intro h; omega
          | succ n ih =>
            intro h
            rw [List.range_succ, List.flatMap_append]
            by_cases hk : k = n
            · subst hk
              have h0 : (List.range k).flatMap (fun i => if i = k then [b] else []) = [] := by
                rw [List.flatMap_eq_nil_iff]
                intro i hi
                have := List.mem_range.1 hi
                rw [if_neg (by omega)]
              rw [h0]; simp
            · rw [ih (by omega)]; simp; omega
        exact this _ _ (by simp)
      rw [hfl] at hA
      exact hA

/-- A struct that takes over what one part owns. -/
theorem ar_buildOwn {ops : Array Oper} {stl : List Nat} {r : List Oper} {K : Fr → AMem → Prop} {d : Nat} {ty : TypeId} {pos : String} {af : Array Edge} {gd : Option (Nat × Bool)} (hg : gOn ops fr gd = some true) {t : TypeId} {fs : Array Field} {z : AV} {parts : Array (Nat × Operand)} (s : Nat) {l : List AV} (pre post : List AV)
    (hst : stl.contains d = true) (hu : P.underlying t = some (.struct fs)) (hz : zeroA P t = some z) (hzt : z.topOk = true) (hfs : ∀ f ∈ fs.toList, isU P f.type = true) (hpt : ∀ X : AV, X.topOk = true → ∀ p ∈ parts.toList, (partAV (rawOf fr) s X p.2).topOk = true)
    (hms : ∀ a k c, fillA (fun i => (fs[i]?).map fun f => (f.offset, P.cellsOf f.type)) z.cells (parts.toList.map fun p => (p.1, partAV (rawOf fr) s (.ms a k c) p.2)) = some (pre ++ .ms a k c :: post))
    (hown : fillA (fun i => (fs[i]?).map fun f => (f.offset, P.cellsOf f.type)) z.cells (parts.toList.map fun p => (p.1, partAV (rawOf fr) s (.slice true l) p.2)) = some (pre ++ .slice true l :: post))
    (hx : rawOf fr s = .slice true l) (hmem : (parts.toList.any fun p => match p.2 with | .tmp t => t == s | _ => false) = true) (h : aopsR P ops stl r K ((fr.strip [s]).put d (.agg (pre ++ .slice true l :: post))) m) :
    aopsR P ops stl (⟨some d, .build t parts, ty, pos, af, gd⟩ :: r) K fr m := by
  simp only [aopsR, aopR, hg, ares, Option.map_some, Option.getD_some, hst, if_true]
  intro n hk hn F lim w ca st
  have hsn : s < n := by
    obtain ⟨p, hp, hps⟩ := List.any_eq_true.1 hmem
    have := tmpsOk_lt hn (y := p.2) (by simp [Op.operands]; exact ⟨p.1, by simpa using hp⟩)
    cases hp2 : p.2 with
    | tmp t => rw [hp2] at hps this; simp at hps; subst hps; exact this t rfl
    | _ => rw [hp2] at hps; simp at hps
  obtain ⟨os, s1, s2⟩ := st.takeRaw s hsn
  rw [hx] at s2
  have hopd : ∀ p ∈ parts.toList, opdOk p.2 = true := fun p hp => okOper_opd hk p.2 (by simp [Op.operands]; exact ⟨p.1, by simpa using hp⟩)
  obtain ⟨v, r1, r2⟩ := build_own (P := P) st hu hz hzt hfs hpt hms hown hopd s2
  exact ⟨.value v, v, w, lim, _, _, by simp [execOp, r1], .inl rfl, s1.putO (d := some d) (fun t ht => okOper_dst hk ht) r2, .refl _ _ _, h⟩


/-- The parts at these places, each counted in what is left, and the others. -/
def pick {α : Type} : List α → List Nat → List α × List α
  | L, [] => ([], L)
  | L, i :: is => match L[i]? with
    | some a => (a :: (pick (L.eraseIdx i) is).1, (pick (L.eraseIdx i) is).2)
    | none => pick L is
theorem pick_one {α : Type} : ∀ {l : List α} {i : Nat} {a : α}, l[i]? = some a → l.Perm (a :: l.eraseIdx i)
  | [], _, _, h => by simp at h
  | x :: l, 0, a, h => by
    obtain rfl : x = a := by simpa using h
    exact .refl _
  | x :: l, i + 1, a, h => ((pick_one (l := l) (i := i) (by simpa using h)).cons x).trans (.swap _ _ _)
theorem pick_perm {α : Type} : ∀ (is : List Nat) (L : List α), L.Perm ((pick L is).1 ++ (pick L is).2)
  | [], L => .refl _
  | i :: is, L => by
    unfold pick
    split
    · next a h =>
      exact (pick_one h).trans (List.Perm.cons _ (pick_perm is _))
    · exact pick_perm is L

theorem drop_nodup {L L1 L2 : List (Nat × AObj)} (hN : (L.map Prod.fst).Nodup) (hp : L.Perm (L1 ++ L2)) : (L2.map Prod.fst).Nodup := by
  have h := (hp.map Prod.fst).nodup_iff.1 hN
  rw [List.map_append] at h
  exact (List.nodup_append.1 h).2.1

/-- Blocks that nobody looks at any more are let go, wherever they stand. -/
theorem awp_dropP {c : Code} {Q : Exit → Fr → AMem → Prop} {L : List (Nat × AObj)} (L1 L2 : List (Nat × AObj)) (hN : (L.map Prod.fst).Nodup) (hp : L.Perm (L1 ++ L2)) (hF : ∀ b ∈ L1.map Prod.fst, m b = none) (h : AWP P n c Q fr (m.wth L2)) : AWP P n c Q fr (m.wth L) := by
  rw [wth_perm hN hp]
  exact awp_drop L1 L2 ((hp.map Prod.fst).nodup_iff.1 hN) hF h


theorem wth_new1 {L L1 L2 : List (Nat × AObj)} {x : Nat} (hN : (L.map Prod.fst).Nodup) (hp : L.Perm (L1 ++ L2)) (hq : (x :: L1.map Prod.fst).Nodup) (hx : m.wth L2 x = none) : (x :: L.map Prod.fst).Nodup ∧ m x = none := by
  refine ⟨List.nodup_cons.2 ⟨fun h => ?_, hN⟩, (wth_fresh hx).2⟩
  have h2 := ((hp.map Prod.fst).mem_iff).1 h
  rw [List.map_append] at h2
  rcases List.mem_append.1 h2 with h2 | h2
  · exact (List.nodup_cons.1 hq).1 h2
  · exact (wth_fresh hx).1 h2

end
end Go.Aw
