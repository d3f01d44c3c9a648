/-
  The abstract layer, part 33: a list of errors reads by number.
-/
import Derived.Test.YtoeghipbkmaccaaDoorWwX
namespace Go.Aw
open Go

section
variable {P : Program} {n : Nat} {fr : Fr} {m : AMem} {w : World} {lim : Nat → Nat}

def AV.isE : AV → Bool
  | .iface _ _ => true
  | .nilIface => true
  | .err _ _ => true
  | _ => false
theorem AV.isE_cells {x : AV} (h : x.isE = true) : x.cells = [x] := by
  cases x <;> first | rfl | cases h
theorem AV.toErr_isE {T : TypeId} {x : AV} (h : x.isE = true) : (x.toErr T).isE = true := by
  cases x with
  | iface u y =>
    unfold AV.toErr
    split
    · rfl
    · split <;> rfl
    · exact h
  | nilIface => rfl
  | err _ _ => rfl
  | _ => cases h

def AV.mapErr (T : TypeId) : AV → AV
  | .slice own l => if l.all AV.isE then .slice own (l.map (AV.toErr T)) else .slice own l
  | x => x

theorem errs_get {T : TypeId} {l : List AV} (h : l.all AV.isE = true) {i : Nat} (hi : i < l.length) : (l.map (AV.toErr T)).getD i .junk = (l.getD i .junk).toErr T ∧ (l.getD i .junk).isE = true := by
  have h1 := List.all_eq_true.1 h (l[i]) (List.getElem_mem hi)
  simp [List.getD_eq_getElem?_getD, hi, h1]

theorem mapErr_rep (T : TypeId) {v : Value} {x : AV} {os : List Nat} (h : Rep w lim v x os) : Rep w lim v (x.mapErr T) os := by
  cases h with
  | nils own => exact .nils own
  | empty a cap hm => exact .empty a cap hm
  | slice b off n cap sz l cv hn hcap hm hbig hsz hlim hc hr =>
    unfold AV.mapErr
    simp only
    split
    · next ha =>
      subst hn
      refine .slice b off _ cap sz _ cv (by simp) hcap hm hbig (fun i hi => ?_) hlim hc (fun i j hi hj => ?_)
      · have := errs_get (T := T) ha hi
        have h1 := hsz i hi
        rw [AV.isE_cells this.2] at h1
        rw [this.1, AV.isE_cells (AV.toErr_isE this.2)]
        exact h1
      · have := errs_get (T := T) ha hi
        have h1 := hsz i hi
        have h2 := hr i j hi hj
        rw [AV.isE_cells this.2] at h1 h2
        rw [this.1, AV.isE_cells (AV.toErr_isE this.2)]
        obtain rfl : j = 0 := by simp at h1; omega
        exact toErr_rep T h2
    · exact .slice b off n cap sz l cv hn hcap hm hbig hsz hlim hc hr
  | own b n cap sz l cv cur e hn hcap hm hbig h0 hb hcur hsz hlim hc hr =>
    unfold AV.mapErr
    simp only
    split
    · next ha =>
      subst hn
      refine .own b _ cap sz _ cv cur e (by simp) hcap hm hbig h0 hb hcur (fun i hi => ?_) hlim hc (fun i j hi hj => ?_)
      · have := errs_get (T := T) ha hi
        have h1 := hsz i hi
        rw [AV.isE_cells this.2] at h1
        rw [this.1, AV.isE_cells (AV.toErr_isE this.2)]
        exact h1
      · have := errs_get (T := T) ha hi
        have h1 := hsz i hi
        have h2 := hr i j hi hj
        rw [AV.isE_cells this.2] at h1 h2
        rw [this.1, AV.isE_cells (AV.toErr_isE this.2)]
        obtain rfl : j = 0 := by simp at h1; omega
        exact toErr_rep T h2
    · exact .own b n cap sz l cv cur e hn hcap hm hbig h0 hb hcur hsz hlim hc hr
  | nilIface => exact .nilIface
  | iface t v x h => exact .iface _ _ _ h
  | bool b => exact .bool b
  | int k n lo hi => exact .int k n lo hi
  | str s h => exact .str s h
  | ptr a => exact .ptr a
  | nilptr => exact .nilptr
  | ref b off l cv h1 h2 h3 => exact .ref b off l cv h1 h2 h3
  | ms a len cap h hm => exact .ms a len cap h hm
  | map b => exact .map b
  | nilmap => exact .nilmap
  | func fn f c fl cl hf hc hrf hrc => exact .func fn f c fl cl hf hc hrf hrc
  | nilfunc => exact .nilfunc
  | errN t => exact .errN t
  | errS t e h lo hi => exact .errS t e h lo hi
  | optN => exact .optN
  | optS t v => exact .optS t v
  | agg cs xs os h hr => exact .agg cs xs os h hr
  | tuple cs xs os h hr => exact .tuple cs xs os h hr
  | lazyT v x os h => exact .lazyT v x os h
  | lazyF x => exact .lazyF x
  | junk v => exact .junk v

def Fr.mapErr (T : TypeId) (ts : List Nat) (fr : Fr) : Fr := fr.map fun p => if ts.contains p.1 then (p.1, p.2.mapErr T) else p

theorem Fr.get_mapErr (T : TypeId) (ts : List Nat) (t : Nat) : ∀ fr : Fr, (Fr.mapErr T ts fr).get t = if ts.contains t then (fr.get t).map (AV.mapErr T) else fr.get t := by
  intro fr
  induction fr with
  | nil => simp [Fr.mapErr, Fr.get]
  | cons p fr ih =>
    obtain ⟨s, x⟩ := p
    unfold Fr.mapErr at ih ⊢
    rw [List.map_cons]
    by_cases hc : ts.contains s
    · rw [if_pos hc]
      simp only [Fr.get]
      by_cases hs : s = t
      · subst hs; rw [if_pos rfl, if_pos hc, if_pos rfl]; rfl
      · rw [if_neg hs, if_neg hs, ih]
    · rw [if_neg hc]
      simp only [Fr.get]
      by_cases hs : s = t
      · subst hs; rw [if_pos rfl, if_neg hc, if_pos rfl]
      · rw [if_neg hs, if_neg hs, ih]

theorem awp_mapErr {c : Code} {Q : Exit → Fr → AMem → Prop} (T : TypeId) (ts : List Nat) (h : AWP P n c Q (fr.mapErr T ts) m) : AWP P n c Q fr m :=
  fun F lim w ca st => h F lim w ca (st.conv fun t x' hx => by
    rw [Fr.get_mapErr] at hx
    split at hx
    · cases hg : fr.get t with
      | none => rw [hg] at hx; cases hx
      | some x =>
        rw [hg] at hx
        cases hx
        exact ⟨x, rfl, fun v os hr => mapErr_rep T hr⟩
    · exact ⟨x', hx, fun v os hr => hr⟩)

end
end Go.Aw
