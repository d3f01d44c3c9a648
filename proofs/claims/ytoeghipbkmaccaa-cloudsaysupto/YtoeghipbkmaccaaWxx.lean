/-
  The abstract layer, part 30: maps, told as lists of their entries in the order in which they came.
-/
import Derived.Test.YtoeghipbkmaccaaWxc
import Derived.MapKept
import Derived.WideMake
import Derived.Maps.RangeRun
import Derived.Shelf.Sort.Plain
import Derived.Shelf.SlSortCmp.WholeK
section
namespace Go.Aw
open Go Go.MapKept
section
variable {κ ν : Type} [DecidableEq κ]
def mget : List (κ × ν) → κ → Option ν
  | [], _ => none
  | (a, b) :: r, k => if a = k then some b else mget r k
def mapAV {κ ν : Type} (kf : κ → AV) (vf : ν → AV) (p : κ × ν) : AV × AV := (kf p.1, vf p.2)
def mput : List (κ × ν) → κ → ν → List (κ × ν)
  | [], k, v => [(k, v)]
  | (a, b) :: r, k, v => if a = k then (k, v) :: r else (a, b) :: mput r k v
def mdel : List (κ × ν) → κ → List (κ × ν)
  | [], _ => []
  | (a, b) :: r, k => if a = k then r else (a, b) :: mdel r k
def midx : List (κ × ν) → κ → Option Nat
  | [], _ => none
  | (a, _) :: r, k => if a = k then some 0 else (midx r k).map (· + 1)
theorem midx_none : ∀ {l : List (κ × ν)} {k : κ}, midx l k = none → mget l k = none ∧ mdel l k = l ∧ ∀ v, mput l k v = l ++ [(k, v)]
  | [], _, _ => ⟨rfl, rfl, fun _ => rfl⟩
  | (a, b) :: r, k, h => by
    unfold midx at h
    split at h
    · cases h
    · rename_i hne
      have ih := midx_none (l := r) (k := k) (by simpa using h)
      simp only [mget, mdel, mput, if_neg hne, ih.1, ih.2.1, true_and]
      exact fun v => by rw [ih.2.2 v]; rfl
theorem midx_some : ∀ {l : List (κ × ν)} {k : κ} {j : Nat}, midx l k = some j → ∃ b, l[j]? = some (k, b) ∧ mget l k = some b ∧ mdel l k = l.eraseIdx j ∧ ∀ v, mput l k v = l.set j (k, v)
  | [], _, _, h => by simp [midx] at h
  | (a, b) :: r, k, j, h => by
    unfold midx at h
    split at h
    · rename_i he
      subst he
      obtain rfl : 0 = j := by simpa using h
      exact ⟨b, rfl, by simp [mget], by simp [mdel], fun v => by simp [mput]⟩
    · rename_i hne
      cases hr : midx r k with
      | none => rw [hr] at h; cases h
      | some i =>
        rw [hr] at h
        obtain rfl : i + 1 = j := by simpa using h
        obtain ⟨c, h1, h2, h3, h4⟩ := midx_some hr
        exact ⟨c, by simpa using h1, by simp [mget, hne, h2], by simp [mdel, hne, h3], fun v => by simp [mput, hne, h4]⟩
theorem mdel_len (l : List (κ × ν)) (k : κ) : (mdel l k).length ≤ l.length := by
  induction l with
  | nil => simp [mdel]
  | cons p r ih => obtain ⟨a, b⟩ := p; simp only [mdel]; split <;> simp <;> omega
theorem mput_len (l : List (κ × ν)) (k : κ) (v : ν) : (mput l k v).length ≤ l.length + 1 := by
  induction l with
  | nil => simp [mput]
  | cons p r ih => obtain ⟨a, b⟩ := p; simp only [mput]; split <;> simp <;> omega
end
def KeyEnc (d : TypeDesc) {κ : Type} (kf : κ → AV) (kc : κ → Value) : Prop :=
  (∀ w lim v a os, Rep w lim v (kf a) os → v = kc a) ∧ (∀ a, IsKey d (kc a)) ∧ ∀ a b, kc a = kc b → a = b
def strKey (s : List UInt8) : Value := .string ⟨s.toArray⟩
def intKey (n : Int) : Value := .int .i64 n
theorem strKey_ok : KeyEnc .string strAV strKey := by
  refine ⟨fun w lim v a os h => ?_, fun a => trivial, fun a b h => ?_⟩
  · generalize he : strAV a = x at h
    cases h <;> first | (cases he; done) | skip
    rename_i s hs
    have e : a = s.data.toList := by injection he
    subst e; rfl
  · have : a.toArray = b.toArray := by injection h with h; injection h
    simpa using congrArg Array.toList this
theorem intKey_ok : KeyEnc (.int .i64) intAV intKey := by
  refine ⟨fun w lim v a os h => ?_, fun a => by simp [IsKey, intKey], fun a b h => by injection h⟩
  generalize he : intAV a = x at h
  cases h <;> first | (cases he; done) | skip
  rename_i k n lo hi
  injection he with h1 h2
  subst h1 h2; rfl
section
variable {P : Program} {F : Nat → Prop} {lim : Nat → Nat} {w w' : World} {n : Nat} {fr : Fr} {m : AMem} {ca : Act} {fl : List Nat}
theorem findNow_midx {κ ν : Type} [DecidableEq κ] {d : TypeDesc} {kf : κ → AV} {kc : κ → Value} (he : KeyEnc d kf kc) (k : κ) : ∀ (E : List MapEntry) (l : List (κ × ν)) (i : Nat), E.map (·.key) = l.map (fun p => kc p.1) →
    Instr.findNow d (kc k) E i = some ((midx l k).map fun j => (i + j, (E.getD j default).val))
  | [], [], _, _ => rfl
  | [], _ :: _, _, h => by simp at h
  | _ :: _, [], _, h => by simp at h
  | e :: E, (a, b) :: l, i, h => by
    simp only [List.map_cons, List.cons.injEq] at h
    obtain ⟨h1, h2⟩ := h
    obtain ⟨r, hr, hiff⟩ := sameNow_of_keys (he.2.1 k) (he.2.1 a)
    simp only [Instr.findNow, h1, hr]
    cases r with
    | true =>
      have e1 : a = k := (he.2.2 _ _ (hiff.1 rfl)).symm
      simp [midx, e1]
    | false =>
      have e1 : a ≠ k := fun q => by
        have := hiff.2 (by rw [q]); cases this
      rw [findNow_midx he k E l (i + 1) h2]
      simp only [midx, if_neg e1, Option.map_map]
      congr 1
      cases midx l k with
      | none => rfl
      | some j => simp; omega
theorem map_inv {κ ν : Type} {d : TypeDesc} {kf : κ → AV} {kc : κ → Value} {vf : ν → AV} (he : KeyEnc d kf kc) (st : St F lim w n fr m ca fl) {b : Nat} {l : List (κ × ν)} (hm : m b = some (.map (l.map fun p => (kf p.1, vf p.2)))) :
    ∃ es clock, w.heap[b]? = some (.map es clock) ∧ es.size = l.length ∧ es.toList.map (·.key) = l.map (fun p => kc p.1) ∧ (∀ i p, l[i]? = some p → Rep w lim (es.getD i default).val (vf p.2) []) ∧ (∀ i j, i < j → j < l.length → (es.getD i default).born < (es.getD j default).born) ∧ (∀ i, i < l.length → (es.getD i default).born < clock) ∧
      l.length ≤ 140737488355328 ∧ (∀ i p, l[i]? = some p → Rep w lim (es.getD i default).key (kf p.1) []) ∧ lim b = 0 ∧ ¬ F b := by
  obtain ⟨os, om, ow, h⟩ := st
  obtain ⟨hM, hl, hF⟩ := h.mem b _ hm
  generalize ho : om b = omb at hM
  generalize hL : (l.map fun p => (kf p.1, vf p.2)) = L at hM
  cases hM with
  | map es clock L hb hs hbig hk hv hborn hclock os =>
    subst hL
    simp only [List.length_map] at hs hbig hk hv hborn hclock
    have hget : ∀ i p, l[i]? = some p → (l.map fun p => (kf p.1, vf p.2)).getD i (.junk, .junk) = (kf p.1, vf p.2) := fun i p hp => by simp [List.getD_eq_getElem?_getD, hp]
    have hlt : ∀ i p, l[i]? = some p → i < l.length := fun i p hp => (List.getElem?_eq_some_iff.1 hp).1
    have hkr : ∀ i p, l[i]? = some p → Rep w lim (es.getD i default).key (kf p.1) [] := fun i p hp => by have := hk i (hlt i p hp); rwa [hget i p hp] at this
    refine ⟨es, clock, hb, hs, ?_, fun i p hp => by have := hv i (hlt i p hp); rwa [hget i p hp] at this, hborn, hclock, hbig, hkr, hl, hF⟩
    refine List.ext_getElem (by simp [hs]) fun i h1 h2 => ?_
    have hi : i < l.length := by simpa using h2
    have hi' : i < es.size := by omega
    have := he.1 _ _ _ _ _ (hkr i l[i] (List.getElem?_eq_getElem hi))
    simpa [Array.getD, hi'] using this
theorem St.storeMap (st : St F lim w n fr m ca fl) {b : Nat} {l l' : List (AV × AV)} {es es' : Array MapEntry} {clock clock' : Nat} (hm : m b = some (.map l)) (hb : w.heap[b]? = some (.map es clock)) (hs : es'.size = l'.length) (hbig : l'.length ≤ 140737488355328)
    (hk' : ∀ i, i < l'.length → Rep w lim (es'.getD i default).key (l'.getD i (.junk, .junk)).1 []) (hv : ∀ i, i < l'.length → Rep w lim (es'.getD i default).val (l'.getD i (.junk, .junk)).2 [])
    (hborn : ∀ i j, i < j → j < l'.length → (es'.getD i default).born < (es'.getD j default).born) (hclock : ∀ i, i < l'.length → (es'.getD i default).born < clock') :
    St F lim { w with heap := w.heap.setIfInBounds b (.map es' clock') } n fr (m.upd b (some (.map l'))) ca fl ∧ Pres F w lim { w with heap := w.heap.setIfInBounds b (.map es' clock') } lim := by
  obtain ⟨os, om, ow, h⟩ := st
  obtain ⟨hM, hl, hF⟩ := h.mem b _ hm
  have hblt : b < w.heap.size := (Array.getElem?_eq_some_iff.1 hb).1
  generalize hw : ({ w with heap := w.heap.setIfInBounds b (.map es' clock') } : World) = w1
  have hother : ∀ k, k ≠ b → w1.heap[k]? = w.heap[k]? := fun k hk => by rw [← hw]; simp [Array.getElem?_setIfInBounds, Ne.symm hk]
  have hself : w1.heap[b]? = some (.map es' clock') := by rw [← hw]; simp [hblt]
  have hsize : w1.heap.size = w.heap.size := by rw [← hw]; simp
  have hcell : ∀ k o, o < lim k → w1.cell? ⟨k, o, none⟩ = w.cell? ⟨k, o, none⟩ := fun k o ho => by
    have : k ≠ b := fun e => by subst e; omega
    simp [World.cell?, hother k this]
  have hmb : ∀ c, m c = none → c ≠ b := fun c hc e => by subst e; rw [hm] at hc; cases hc
  have hst : ∀ {v x os'}, Rep w lim v x os' → (∀ c ∈ os', ow c ≠ .none) → Rep w1 lim v x os' := fun hR ho => hR.stable (fun _ => Nat.le_refl _) hcell (fun c hc => ⟨hother c (hmb c (h.free c (ho c hc)).2.1), rfl⟩)
  have hst0 : ∀ {v x}, Rep w lim v x [] → Rep w1 lim v x [] := fun hR => hst hR (by simp)
  refine ⟨?_, by rw [← hw], by rw [← hw], by rw [← hw], by rw [hsize]; exact Nat.le_refl _, fun k hk => ⟨hother k (fun e => by subst e; exact hF hk), rfl⟩, fun _ => Nat.le_refl _, hcell⟩
  refine ⟨os, om, ow, h.size, h.defers, fun t x hx => ⟨(h.slots t x hx).1, hst (h.slots t x hx).2 (fun c hc => by rw [(h.ownS t x hx).2 c hc]; simp)⟩, fun k o hk => ?_, h.ownS, fun k o hk i => ?_, h.ownF, fun c hc => ⟨(h.free c hc).1, ?_, by rw [hsize]; exact (h.free c hc).2.2⟩, fun k hk => ?_⟩
  · by_cases hkb : k = b
    · subst hkb
      simp only [AMem.upd, ↓reduceIte, Option.some.injEq] at hk
      subst hk
      exact ⟨.map es' clock' l' hself hs hbig (fun i hi => hst0 (hk' i hi)) (fun i hi => hst0 (hv i hi)) hborn hclock _, hl, hF⟩
    · simp only [AMem.upd, if_neg hkb] at hk
      have hM' := h.mem k o hk
      refine ⟨hM'.1.stable (hother k hkb) (fun _ => Nat.le_refl _) hcell (fun i c hc => ⟨hother c (hmb c (h.free c ?_).2.1), rfl⟩), hM'.2⟩
      rw [(h.ownM k o hk i).2 c hc]; simp
  · by_cases hkb : k = b
    · subst hkb; exact h.ownM k _ hm i
    · simp only [AMem.upd, if_neg hkb] at hk
      exact h.ownM k o hk i
  · have := (h.free c hc).2.1
    simp only [AMem.upd]
    rw [if_neg (hmb c this)]; exact this
  · rw [hsize] at hk
    have := h.fresh k hk
    refine ⟨this.1, this.2.1, ?_⟩
    simp only [AMem.upd]
    rw [if_neg (by omega)]; exact this.2.2
variable {ops : Array Oper} {stl : List Nat} {r : List Oper} {K : Fr → AMem → Prop} {d : Nat} {ty : TypeId} {pos : String} {af : Array Edge} {gd : Option (Nat × Bool)} {L : List (Nat × AObj)}
theorem ar_makeMap (hg : gOn ops fr gd = some true) {t ke ve : TypeId} (ht : P.underlying t = some (.map ke ve)) (h : ∀ b, m.wth L b = none → aopsR P ops stl r K (fr.put d (.map b)) (m.wth ((b, .map []) :: L))) :
    aopsR P ops stl (⟨some d, .makeMap t none, ty, pos, af, gd⟩ :: r) K fr (m.wth L) := by
  simp only [aopsR, aopR, hg, ares, ht, Option.map_none]
  exact ⟨trivial, h⟩
theorem lookup_run {κ ν : Type} [DecidableEq κ] {dk : TypeDesc} {kf : κ → AV} {kc : κ → Value} {vf : ν → AV} (he : KeyEnc dk kf kc) (st : St F lim w n fr m ca fl) {b : Nat} {l : List (κ × ν)} (hm : m b = some (.map (l.map fun p => (kf p.1, vf p.2)))) {t ke ve : TypeId} (ht : P.underlying t = some (.map ke ve)) (hke : P.underlying ke = some dk)
    {z : ν} (hz : zeroA P ve = some (vf z)) {kv : Value} {k : κ} (hkv : Rep w lim kv (kf k) []) (ok : Bool) :
    ∃ v, Rep w lim v (vf ((mget l k).getD z)) [] ∧ (Instr.lookup t (.map (some b)) kv ok).run P w = .ok (if ok then .tuple #[v, .bool (mget l k).isSome] else v) w := by
  obtain ⟨es, clock, hb, hs, hkeys, hval, _, _, _, _, _, _⟩ := map_inv he st hm
  obtain rfl := he.1 _ _ _ _ _ hkv
  have hf := findNow_midx he k es.toList l 0 hkeys
  have hc : (Instr.checkKey es.isEmpty 10000 ke (kc k)).run P w = .ok () w := run_checkKey hke (he.2.1 k) _ 9999
  have hfk := run_findKey (P := P) (w := w) hke hf
  cases hi : midx l k with
  | none =>
    obtain ⟨v0, z1, z2, z3, z4⟩ := zero_run (P := P) (w := w) (lim := lim) hz
    have h1 := (midx_none hi).1
    refine ⟨v0, by rw [h1]; exact z4, ?_⟩
    rw [hi] at hfk
    simp only [Option.map_none] at hfk
    cases ok <;> simp [Instr.lookup, run_underlying ht, run_getObj_map hb, hc, hfk, Result.andThen, z1, h1]
  | some j =>
    obtain ⟨c, h1, h2, _, _⟩ := midx_some hi
    refine ⟨(es.toList.getD j default).val, ?_, ?_⟩
    · rw [h2]
      have := hval j _ h1
      rw [Array.getD_eq_getD_getElem?, ← Array.getElem?_toList, ← List.getD_eq_getElem?_getD] at this
      exact this
    · rw [hi] at hfk
      simp only [Option.map_some, Nat.zero_add] at hfk
      cases ok <;> simp only [Instr.lookup, Sem.run_bind, run_underlying ht, run_getObj_map hb, hc, hfk, Result.andThen_ok, Sem.run_pure, h2, Option.isSome_some, if_true] <;> rfl
theorem ar_lookup (hg : gOn ops fr gd = some true) {κ ν : Type} [DecidableEq κ] {dk : TypeDesc} (kf : κ → AV) {kc : κ → Value} (vf : ν → AV) (he : KeyEnc dk kf kc) (l : List (κ × ν)) (k : κ) (z : ν) {t ke ve : TypeId} {x y : Operand} {b : Nat} {v : AV} (ht : P.underlying t = some (.map ke ve)) (hke : P.underlying ke = some dk) (hz : zeroA P ve = some (vf z))
    (hx : evP (rawOf fr) x = .map b) (hy : evP (rawOf fr) y = kf k) (hm : m.wth L b = some (.map (l.map fun p => (kf p.1, vf p.2)))) (hv : vf ((mget l k).getD z) = v) (h : aopsR P ops stl r K (fr.put d v) (m.wth L)) :
    aopsR P ops stl (⟨some d, .lookup t x y false, ty, pos, af, gd⟩ :: r) K fr (m.wth L) := by
  subst hv
  simp only [aopsR, aopR, hg, ares, qv, hx]
  intro n hk hn F lim w ca st
  have hopd := okOper_opd hk
  have h1 := evP_rep st (hopd x (by simp [Op.operands]))
  have h2 := evP_rep st (hopd y (by simp [Op.operands]))
  rw [hx] at h1
  rw [hy] at h2
  have e1 : ca.eval x = .map (some b) := by generalize ca.eval x = q at h1; cases h1; rfl
  obtain ⟨v, r1, r2⟩ := lookup_run (P := P) he st hm ht hke hz h2 false
  exact ⟨.value v, v, w, lim, _, _, by simp only [execOp, e1, Sem.run_bind, r2]; rfl, .inl rfl, st.putO (d := some d) (fun t ht => okOper_dst hk ht) r1, .refl _ _ _, h⟩
theorem map_write {κ ν : Type} {dk : TypeDesc} {kf : κ → AV} {kc : κ → Value} {vf : ν → AV} (he : KeyEnc dk kf kc) {es : Array MapEntry} {l l' : List (κ × ν)} {es' : Array MapEntry} (hs : es'.size = l'.length)
    (hk : ∀ i p, l'[i]? = some p → Rep w lim (es'.getD i default).key (kf p.1) [] ∧ Rep w lim (es'.getD i default).val (vf p.2) []) :
    (∀ i, i < (l'.map fun p => (kf p.1, vf p.2)).length → Rep w lim (es'.getD i default).key ((l'.map fun p => (kf p.1, vf p.2)).getD i (.junk, .junk)).1 []) ∧ (∀ i, i < (l'.map fun p => (kf p.1, vf p.2)).length → Rep w lim (es'.getD i default).val ((l'.map fun p => (kf p.1, vf p.2)).getD i (.junk, .junk)).2 []) := by
  have key : ∀ i, i < (l'.map fun p => (kf p.1, vf p.2)).length → Rep w lim (es'.getD i default).key ((l'.map fun p => (kf p.1, vf p.2)).getD i (.junk, .junk)).1 [] ∧ Rep w lim (es'.getD i default).val ((l'.map fun p => (kf p.1, vf p.2)).getD i (.junk, .junk)).2 [] := fun i hi => by
    have hi' : i < l'.length := by simpa using hi
    have := hk i _ (List.getElem?_eq_getElem hi')
    simpa [List.getD_eq_getElem?_getD, hi'] using this
  exact ⟨fun i hi => (key i hi).1, fun i hi => (key i hi).2⟩
theorem arr_getD {α : Type} {es : Array α} {i : Nat} {d x : α} (h : es[i]? = some x) : es.getD i d = x := by
  rw [Array.getD_eq_getD_getElem?, h]; rfl
theorem put_run {κ ν : Type} [DecidableEq κ] {dk : TypeDesc} {kf : κ → AV} {kc : κ → Value} {vf : ν → AV} (he : KeyEnc dk kf kc) (st : St F lim w n fr m ca fl) {b : Nat} {l : List (κ × ν)} (hm : m b = some (.map (l.map fun p => (kf p.1, vf p.2)))) {t ke ve : TypeId} (ht : P.underlying t = some (.map ke ve)) (hke : P.underlying ke = some dk)
    {kv vv : Value} {k : κ} {v : ν} (hkv : Rep w lim kv (kf k) []) (hvv : Rep w lim vv (vf v) []) (hbig : (mput l k v).length ≤ 140737488355328) :
    ∃ w', (Instr.mapUpdate t (.map (some b)) kv vv).run P w = .ok () w' ∧ St F lim w' n fr (m.upd b (some (.map ((mput l k v).map fun p => (kf p.1, vf p.2))))) ca fl ∧ Pres F w lim w' lim := by
  obtain ⟨es, clock, hb, hs, hkeys, hval, hborn, hclock, hlen, hkr, hl0, hF⟩ := map_inv he st hm
  obtain rfl := he.1 _ _ _ _ _ hkv
  have hf := findNow_midx he k es.toList l 0 hkeys
  have hc : (Instr.checkKey false 10000 ke (kc k)).run P w = .ok () w := run_checkKey hke (he.2.1 k) _ 9999
  have hfk := run_findKey (P := P) (w := w) hke hf
  have hgk : ∀ i p, l[i]? = some p → i < es.size := fun i p hp => by have := (List.getElem?_eq_some_iff.1 hp).1; omega
  cases hi : midx l k with
  | none =>
    have h1 := (midx_none hi).2.2 v
    rw [hi] at hfk
    simp only [Option.map_none] at hfk
    have hget : ∀ i, (es.push { key := kc k, val := vv, born := clock }).getD i default = if i < es.size then es.getD i default else if i = es.size then { key := kc k, val := vv, born := clock } else default := fun i => by
      simp only [Array.getD_eq_getD_getElem?, Array.getElem?_push]
      by_cases h2 : i = es.size
      · subst h2; simp
      · rw [if_neg h2]
        by_cases h3 : i < es.size
        · rw [if_pos h3]
        · rw [if_neg h3, if_neg h2, Array.getElem?_eq_none (by omega)]; rfl
    have hw := map_write (w := w) (lim := lim) he (es := es) (l := l) (l' := l ++ [(k, v)]) (es' := es.push { key := kc k, val := vv, born := clock }) (vf := vf) (by simp [hs]) (fun i p hp => by
      rw [hget]
      by_cases h2 : i < l.length
      · rw [List.getElem?_append_left h2] at hp
        rw [if_pos (by omega)]
        exact ⟨hkr i p hp, hval i p hp⟩
      · rw [List.getElem?_append_right (by omega)] at hp
        have h3 : i - l.length = 0 := by
          rcases Nat.eq_zero_or_pos (i - l.length) with h3 | h3
          · exact h3
          · rw [List.getElem?_eq_none (by simp; omega)] at hp; cases hp
        rw [h3] at hp
        obtain rfl : (k, v) = p := by simpa using hp
        rw [if_neg (by omega), if_pos (by omega)]
        exact ⟨hkv, hvv⟩)
    obtain ⟨s1, s2⟩ := st.storeMap (es' := es.push { key := kc k, val := vv, born := clock }) (clock' := clock + 1) (l' := (l ++ [(k, v)]).map fun p => (kf p.1, vf p.2)) hm hb (by simp [hs]) (by rw [← h1]; simpa using hbig) hw.1 hw.2 (fun i j hij hj => by
      simp only [List.length_map, List.length_append, List.length_singleton] at hj
      rw [hget, hget, if_pos (by omega)]
      by_cases h2 : j < es.size
      · rw [if_pos h2]; exact hborn i j hij (by omega)
      · rw [if_neg h2, if_pos (by omega)]; exact hclock i (by omega)) (fun i hi' => by
      simp only [List.length_map, List.length_append, List.length_singleton] at hi'
      rw [hget]
      by_cases h2 : i < es.size
      · rw [if_pos h2]; have := hclock i (by omega); omega
      · rw [if_neg h2, if_pos (by omega)]; exact Nat.lt_succ_self _)
    refine ⟨_, ?_, by rw [h1]; exact s1, s2⟩
    simp [Instr.mapUpdate, run_underlying ht, run_getObj_map hb, hc, hfk, Result.andThen, run_setObj_map _ hb]
  | some j =>
    obtain ⟨c, h1, _, _, h4⟩ := midx_some hi
    have h5 := h4 v
    rw [hi] at hfk
    simp only [Option.map_some, Nat.zero_add] at hfk
    have hjl : j < l.length := (List.getElem?_eq_some_iff.1 h1).1
    have hj : j < es.size := hgk j _ h1
    have hkj : (es[j]?).map (·.key) = some (kc k) := by
      have h6 := he.1 _ _ _ _ _ (hkr j _ h1)
      rw [Array.getElem?_eq_getElem hj]
      rw [arr_getD (Array.getElem?_eq_getElem hj)] at h6
      simp [h6]
    have hget : ∀ i, (es.modify j fun e => { e with key := kc k, val := vv }).getD i default = if i = j then { es.getD j default with key := kc k, val := vv } else es.getD i default := fun i => by
      simp only [Array.getD_eq_getD_getElem?, Array.getElem?_modify]
      by_cases h2 : j = i
      · subst h2; simp [Array.getElem?_eq_getElem hj]
      · rw [if_neg h2, if_neg (Ne.symm h2)]
    have hw := map_write (w := w) (lim := lim) he (es := es) (l := l) (l' := l.set j (k, v)) (es' := es.modify j fun e => { e with key := kc k, val := vv }) (vf := vf) (by simp [hs]) (fun i p hp => by
      rw [hget]
      rw [List.getElem?_set] at hp
      by_cases h2 : j = i
      · subst h2
        rw [if_pos rfl, if_pos hjl] at hp
        obtain rfl : (k, v) = p := by simpa using hp
        rw [if_pos rfl]; exact ⟨hkv, hvv⟩
      · rw [if_neg h2] at hp
        rw [if_neg (Ne.symm h2)]; exact ⟨hkr i p hp, hval i p hp⟩)
    have hb2 : ∀ i, ((es.modify j fun e => { e with key := kc k, val := vv }).getD i default).born = (es.getD i default).born := fun i => by
      rw [hget]; split
      · rename_i h2; subst h2; simp [Array.getD, hj]
      · rfl
    obtain ⟨s1, s2⟩ := st.storeMap (es' := es.modify j fun e => { e with key := kc k, val := vv }) (clock' := clock) (l' := (l.set j (k, v)).map fun p => (kf p.1, vf p.2)) hm hb (by simp [hs]) (by rw [← h5]; simpa using hbig) hw.1 hw.2 (fun i i' hij hj' => by
      rw [hb2, hb2]; exact hborn i i' hij (by simpa using hj')) (fun i hi' => by rw [hb2]; exact hclock i (by simpa using hi'))
    refine ⟨_, ?_, by rw [h5]; exact s1, s2⟩
    have hks : (Instr.keyThatStays (((es[j]?).map (·.key)).getD (kc k)) (kc k)).run P w = .ok (kc k) w := by
      rw [hkj]; exact run_keyThatStays (he.2.1 k)
    simp only [Instr.mapUpdate, Sem.run_bind, run_underlying ht, run_getObj_map hb, hc, hfk, Result.andThen_ok, hks, run_setObj_map _ hb]
theorem del_run {κ ν : Type} [DecidableEq κ] {dk : TypeDesc} {kf : κ → AV} {kc : κ → Value} {vf : ν → AV} (he : KeyEnc dk kf kc) (st : St F lim w n fr m ca fl) {b : Nat} {l : List (κ × ν)} (hm : m b = some (.map (l.map fun p => (kf p.1, vf p.2)))) {t t2 ke ve ty : TypeId} (ht : P.underlying t = some (.map ke ve)) (hke : P.underlying ke = some dk)
    {kv : Value} {k : κ} (hkv : Rep w lim kv (kf k) []) :
    ∃ w', (Builtin.delete_ #[t, t2] ty #[.map (some b), kv]).run P w = .ok (.tuple #[]) w' ∧ St F lim w' n fr (m.upd b (some (.map ((mdel l k).map fun p => (kf p.1, vf p.2))))) ca fl ∧ Pres F w lim w' lim := by
  obtain ⟨es, clock, hb, hs, hkeys, hval, hborn, hclock, hlen, hkr, hl0, hF⟩ := map_inv he st hm
  obtain rfl := he.1 _ _ _ _ _ hkv
  have hf := findNow_midx he k es.toList l 0 hkeys
  have hc : (Instr.checkKey es.isEmpty 10000 ke (kc k)).run P w = .ok () w := run_checkKey hke (he.2.1 k) _ 9999
  have hfk := run_findKey (P := P) (w := w) hke hf
  cases hi : midx l k with
  | none =>
    have h1 := (midx_none hi).2.1
    rw [hi] at hfk
    simp only [Option.map_none] at hfk
    have hw := map_write (w := w) (lim := lim) he (es := es) (l := l) (l' := l) (es' := es) (vf := vf) hs (fun i p hp => ⟨hkr i p hp, hval i p hp⟩)
    obtain ⟨s1, s2⟩ := st.storeMap (es' := es) (clock' := clock) (l' := l.map fun p => (kf p.1, vf p.2)) hm hb (by simp [hs]) (by simpa using hlen) hw.1 hw.2 (fun i j hij hj => hborn i j hij (by simpa using hj)) (fun i hi' => hclock i (by simpa using hi'))
    refine ⟨_, ?_, by rw [h1]; exact s1, s2⟩
    simp [Builtin.delete_, run_underlying ht, run_getObj_map hb, hc, hfk, Result.andThen, run_setObj_map _ hb]
  | some j =>
    obtain ⟨c, h1, _, h3, _⟩ := midx_some hi
    rw [hi] at hfk
    simp only [Option.map_some, Nat.zero_add] at hfk
    have hjl : j < l.length := (List.getElem?_eq_some_iff.1 h1).1
    have hj : j < es.size := by omega
    have hee : es.eraseIdxIfInBounds j = es.eraseIdx j hj := by simp [Array.eraseIdxIfInBounds, hj]
    have hget : ∀ i, (es.eraseIdxIfInBounds j).getD i default = if i < j then es.getD i default else es.getD (i + 1) default := fun i => by
      rw [hee]
      simp only [Array.getD_eq_getD_getElem?, ← Array.getElem?_toList, Array.toList_eraseIdx, List.getElem?_eraseIdx]
      split <;> rfl
    have hlg : ∀ i, (l.eraseIdx j)[i]? = if i < j then l[i]? else l[i + 1]? := fun i => by rw [List.getElem?_eraseIdx]
    have hll : (l.eraseIdx j).length = l.length - 1 := by rw [List.length_eraseIdx]; simp [hjl]
    have hw := map_write (w := w) (lim := lim) he (es := es) (l := l) (l' := l.eraseIdx j) (es' := es.eraseIdxIfInBounds j) (vf := vf) (by rw [hee, Array.size_eraseIdx, hll, hs]) (fun i p hp => by
      rw [hget]
      rw [hlg] at hp
      split at hp
      · rename_i h2; rw [if_pos h2]; exact ⟨hkr i p hp, hval i p hp⟩
      · rename_i h2; rw [if_neg h2]; exact ⟨hkr _ p hp, hval _ p hp⟩)
    obtain ⟨s1, s2⟩ := st.storeMap (es' := es.eraseIdxIfInBounds j) (clock' := clock) (l' := (l.eraseIdx j).map fun p => (kf p.1, vf p.2)) hm hb (by rw [hee, Array.size_eraseIdx, List.length_map, hll, hs]) (by rw [List.length_map]; omega) hw.1 hw.2 (fun i i' hij hj' => by
      rw [List.length_map, hll] at hj'
      rw [hget, hget]
      split <;> split
      · exact hborn i i' hij (by omega)
      · exact hborn i _ (by omega) (by omega)
      · omega
      · exact hborn _ _ (by omega) (by omega)) (fun i hi' => by
      rw [List.length_map, hll] at hi'
      rw [hget]; split
      · exact hclock i (by omega)
      · exact hclock _ (by omega))
    refine ⟨_, ?_, by rw [h3]; exact s1, s2⟩
    simp [Builtin.delete_, run_underlying ht, run_getObj_map hb, hc, hfk, Result.andThen, run_setObj_map _ hb]
theorem ar_mapUpdate (hg : gOn ops fr gd = some true) {κ ν : Type} [DecidableEq κ] {dk : TypeDesc} (i : Nat) (kf : κ → AV) {kc : κ → Value} (vf : ν → AV) (he : KeyEnc dk kf kc) (l : List (κ × ν)) (k : κ) (v : ν) {t ke ve : TypeId} {x y z : Operand} {b : Nat} (ht : P.underlying t = some (.map ke ve)) (hke : P.underlying ke = some dk)
    (hx : evP (rawOf fr) x = .map b) (hy : evP (rawOf fr) y = kf k) (hz : evP (rawOf fr) z = vf v) (hi : L[i]? = some (b, .map (l.map fun p => (kf p.1, vf p.2)))) (hN : (L.map Prod.fst).Nodup) (hbig : (mput l k v).length ≤ 140737488355328)
    (h : aopsR P ops stl r K fr (m.wth (L.set i (b, .map ((mput l k v).map fun p => (kf p.1, vf p.2)))))) :
    aopsR P ops stl (⟨none, .mapUpdate t x y z, ty, pos, af, gd⟩ :: r) K fr (m.wth L) := by
  simp only [aopsR, aopR, hg, ares, qv]
  intro n hk hn F lim w ca st
  have hopd := okOper_opd hk
  have h1 := evP_rep st (hopd x (by simp [Op.operands]))
  have h2 := evP_rep st (hopd y (by simp [Op.operands]))
  have h3 := evP_rep st (hopd z (by simp [Op.operands]))
  rw [hx] at h1
  rw [hy] at h2
  rw [hz] at h3
  have e1 : ca.eval x = .map (some b) := by generalize ca.eval x = q at h1; cases h1; rfl
  obtain ⟨w', r1, r2, r3⟩ := put_run (P := P) he st (wth_get (m := m) i hN hi) ht hke h2 h3 hbig
  rw [wth_set i hN hi] at r2
  exact ⟨.skip, undef, w', lim, _, _, by simp only [execOp, e1, Sem.run_bind, r1]; rfl, .inr ⟨rfl, rfl⟩, r2, r3, h⟩
theorem ar_delete (hg : gOn ops fr gd = some true) {κ ν : Type} [DecidableEq κ] {dk : TypeDesc} (i : Nat) (kf : κ → AV) {kc : κ → Value} (vf : ν → AV) (he : KeyEnc dk kf kc) (l : List (κ × ν)) (k : κ) {t t2 ke ve : TypeId} {x y : Operand} {b : Nat} (ht : P.underlying t = some (.map ke ve)) (hke : P.underlying ke = some dk)
    (hx : evP (rawOf fr) x = .map b) (hy : evP (rawOf fr) y = kf k) (hi : L[i]? = some (b, .map (l.map fun p => (kf p.1, vf p.2)))) (hN : (L.map Prod.fst).Nodup)
    (h : aopsR P ops stl r K fr (m.wth (L.set i (b, .map ((mdel l k).map fun p => (kf p.1, vf p.2)))))) :
    aopsR P ops stl (⟨none, .call ⟨.builtin .delete, #[x, y], #[t, t2]⟩, ty, pos, af, gd⟩ :: r) K fr (m.wth L) := by
  simp only [aopsR, aopR, hg, ares, qv]
  intro n hk hn F lim w ca st
  have hopd := okOper_opd hk
  have h1 := evP_rep st (hopd x (by simp [Op.operands, Call.operands]))
  have h2 := evP_rep st (hopd y (by simp [Op.operands, Call.operands]))
  rw [hx] at h1
  rw [hy] at h2
  have e1 : ca.eval x = .map (some b) := by generalize ca.eval x = q at h1; cases h1; rfl
  obtain ⟨w', r1, r2, r3⟩ := del_run (P := P) (t2 := t2) (ty := ty) he st (wth_get (m := m) i hN hi) ht hke h2
  rw [wth_set i hN hi] at r2
  have e2 : (#[x, y] : Array Operand).map ca.eval = #[.map (some b), ca.eval y] := by apply Array.ext'; simp [e1]
  refine ⟨.value (.tuple #[]), _, w', lim, _, _, ?_, .inl rfl, r2, r3, h⟩
  simp only [execOp, resolve, invoke, builtin, Sem.run_bind, Sem.run_pure, Result.andThen_ok, e2]
  rw [r1]; rfl
theorem awp_drop {c : Code} {Q : Exit → Fr → AMem → Prop} (L1 L2 : List (Nat × AObj)) (hN : ((L1 ++ L2).map Prod.fst).Nodup) (hF : ∀ b ∈ L1.map Prod.fst, m b = none) (h : AWP P n c Q fr (m.wth L2)) : AWP P n c Q fr (m.wth (L1 ++ L2)) :=
  fun F lim w ca st => h F lim w ca (st.memSub (wth_sub2 L1 L2 hN hF))
theorem wth_news {l : List Nat} (h : l.Nodup) (hf : ∀ b ∈ l, m.wth L b = none) (hN : (L.map Prod.fst).Nodup) : (l ++ L.map Prod.fst).Nodup := by
  rw [List.nodup_append]
  exact ⟨h, hN, fun a ha b hb e => (wth_fresh (hf a ha)).1 (by rw [e]; exact hb)⟩
def bd1 : AV → Prop
  | .str s => s.length ≤ 140737488355328
  | .slice _ l => l.length ≤ 140737488355328
  | _ => True
def bdA : AV → Prop
  | .agg l => ∀ i, i < l.length → bd1 (l.getD i .junk)
  | x => bd1 x
theorem rep_bd1 {v : Value} {x : AV} {os : List Nat} (h : Rep w lim v x os) : bd1 x := by
  cases h with
  | str s h => show s.data.toList.length ≤ _; simp; exact h
  | nils own => simp [bd1]
  | empty a cap hm => simp [bd1]
  | slice b off n cap sz l cv hn hcap hm hbig => show l.length ≤ _; omega
  | own b n cap sz l cv cur e hn hcap hm hbig => show l.length ≤ _; omega
  | _ => trivial
theorem rep_bdA {v : Value} {x : AV} {os : List Nat} (h : Rep w lim v x os) : bdA x := by
  cases h with
  | agg cs xs os h hr => exact fun i hi => rep_bd1 (hr i hi)
  | str s h => show s.data.toList.length ≤ _; simp; exact h
  | nils own => simp [bdA, bd1]
  | empty a cap hm => simp [bdA, bd1]
  | slice b off n cap sz l cv hn hcap hm hbig => show l.length ≤ _; omega
  | own b n cap sz l cv cur e hn hcap hm hbig => show l.length ≤ _; omega
  | _ => trivial
theorem bd_map {α : Type} {f : α → AV} {o : Bool} {l : List α} (h : bd1 (.slice o (l.map f))) : l.length ≤ 140737488355328 := by
  have : (l.map f).length ≤ 140737488355328 := h
  simpa using this
theorem awp_bd {c : Code} {Q : Exit → Fr → AMem → Prop} (t : Nat) {x : AV} (hx : fr.get t = some x) (h : bdA x → AWP P n c Q fr m) : AWP P n c Q fr m := fun F lim w ca st => by
  have hb : bdA x := by
    obtain ⟨os, om, ow, hs⟩ := st
    exact rep_bdA (hs.slots t x hx).2
  exact h hb F lim w ca st
end
end Go.Aw
end
section
namespace Go.Aw
open Go
section
variable {P : Program} {F : Nat → Prop} {lim : Nat → Nat} {w w' : World} {n : Nat} {fr : Fr} {m : AMem} {ca : Act} {fl : List Nat}
def pick {α : Type} : List α → List Nat → List α × List α
  | L, [] => ([], L)
  | L, i :: is => match L[i]? with
    | some a => (a :: (pick (L.eraseIdx i) is).1, (pick (L.eraseIdx i) is).2)
    | none => pick L is
theorem pick_one {α : Type} : ∀ {l : List α} {i : Nat} {a : α}, l[i]? = some a → l.Perm (a :: l.eraseIdx i)
  | [], _, _, h => by simp at h
  | x :: l, 0, a, h => by
    obtain rfl : x = a := by simpa using h
    exact .refl _
  | x :: l, i + 1, a, h => ((pick_one (l := l) (i := i) (by simpa using h)).cons x).trans (.swap _ _ _)
theorem pick_perm {α : Type} : ∀ (is : List Nat) (L : List α), L.Perm ((pick L is).1 ++ (pick L is).2)
  | [], L => .refl _
  | i :: is, L => by
    unfold pick
    split
    · next a h =>
      exact (pick_one h).trans (List.Perm.cons _ (pick_perm is _))
    · exact pick_perm is L
theorem drop_nodup {L L1 L2 : List (Nat × AObj)} (hN : (L.map Prod.fst).Nodup) (hp : L.Perm (L1 ++ L2)) : (L2.map Prod.fst).Nodup := by
  have h := (hp.map Prod.fst).nodup_iff.1 hN
  rw [List.map_append] at h
  exact (List.nodup_append.1 h).2.1
theorem awp_dropP {c : Code} {Q : Exit → Fr → AMem → Prop} {L : List (Nat × AObj)} (L1 L2 : List (Nat × AObj)) (hN : (L.map Prod.fst).Nodup) (hp : L.Perm (L1 ++ L2)) (hF : ∀ b ∈ L1.map Prod.fst, m b = none) (h : AWP P n c Q fr (m.wth L2)) : AWP P n c Q fr (m.wth L) := by
  rw [wth_perm hN hp]
  exact awp_drop L1 L2 ((hp.map Prod.fst).nodup_iff.1 hN) hF h
theorem wth_new1 {L L1 L2 : List (Nat × AObj)} {x : Nat} (hN : (L.map Prod.fst).Nodup) (hp : L.Perm (L1 ++ L2)) (hq : (x :: L1.map Prod.fst).Nodup) (hx : m.wth L2 x = none) : (x :: L.map Prod.fst).Nodup ∧ m x = none := by
  refine ⟨List.nodup_cons.2 ⟨fun h => ?_, hN⟩, (wth_fresh hx).2⟩
  have h2 := ((hp.map Prod.fst).mem_iff).1 h
  rw [List.map_append] at h2
  rcases List.mem_append.1 h2 with h2 | h2
  · exact (List.nodup_cons.1 hq).1 h2
  · exact (wth_fresh hx).1 h2
end
end Go.Aw
end
section
namespace Go.Aw
open Go Go.RowKit Go.WideShapes Go.ChangeShapes
section
variable {P : Program} {fuel : Nat} {t e : TypeId}
theorem weightsEach_mem {H : Type} : ∀ {ts : List TypeId} {ds : List (DataW H)} {i : Nat} {t : TypeId} {d : DataW H}, ts[i]? = some t → ds[i]? = some d → ∀ n ∈ d.weights P t, n ∈ DataW.weightsEach P ts ds
  | a :: ts, b :: ds, 0, t, d, ht, hd, n, hn => by
    simp only [List.getElem?_cons_zero, Option.some.injEq] at ht hd
    subst ht; subst hd
    exact List.mem_append_left _ hn
  | a :: ts, b :: ds, i + 1, t, d, ht, hd, n, hn => by
    simp only [List.getElem?_cons_succ] at ht hd
    exact List.mem_append_right _ (weightsEach_mem ht hd n hn)
  | [], _, i, t, d, ht, _, _, _ => by simp at ht
  | _ :: _, [], i, t, d, _, hd, _, _ => by simp at hd
end
end Go.Aw
end
section
namespace Go.Aw
open Go Go.MapKept
open Go.ChangeMaps (setBlock)
section
variable {P : Program} {F : Nat → Prop} {lim : Nat → Nat} {w w' : World} {n : Nat} {fr : Fr} {m : AMem} {ca : Act} {fl : List Nat}
theorem mrep_map_all {b : Nat} {l : List (AV × AV)} {os : Nat → List Nat} (h : MRep w lim b (.map l) os) : ∃ (es : Array MapEntry) (clock : Nat), w.heap[b]? = some (.map es clock) ∧ es.size = l.length ∧ l.length ≤ 140737488355328 ∧
    (∀ i, i < l.length → Rep w lim (es.getD i default).key (l.getD i (.junk, .junk)).1 []) ∧ (∀ i, i < l.length → Rep w lim (es.getD i default).val (l.getD i (.junk, .junk)).2 []) ∧ (∀ i j, i < j → j < l.length → (es.getD i default).born < (es.getD j default).born) ∧ (∀ i, i < l.length → (es.getD i default).born < clock) := by
  cases h with
  | map es clock l hb hs hbig hk hv h1 h2 os => exact ⟨es, clock, hb, hs, hbig, hk, hv, h1, h2⟩
theorem mrep_iter_all {b r : Nat} {l : List (AV × AV)} {seen : List Nat} {os : Nat → List Nat} (h : MRep w lim b (.iter r l seen) os) : ∃ (es : Array MapEntry) (clock : Nat), w.heap[b]? = some (.map es clock) ∧ es.size = l.length ∧ l.length ≤ 140737488355328 ∧
    (∀ i, i < l.length → Rep w lim (es.getD i default).key (l.getD i (.junk, .junk)).1 []) ∧ (∀ i, i < l.length → Rep w lim (es.getD i default).val (l.getD i (.junk, .junk)).2 []) ∧ (∀ i j, i < j → j < l.length → (es.getD i default).born < (es.getD j default).born) ∧ (∀ i, i < l.length → (es.getD i default).born < clock) ∧
    w.heap[r]? = some (.mapIter (some b) clock (seen.map fun i => (es.getD i default).born).toArray clock) ∧ (∀ i ∈ seen, i < l.length) ∧ r ∈ os 0 := by
  cases h with
  | iter es clock r l seen hb hs hbig hk hv h1 h2 hr hsn os hos => exact ⟨es, clock, hb, hs, hbig, hk, hv, h1, h2, hr, hsn, hos⟩
theorem St.range (st : St F lim w n fr m ca fl) {b : Nat} {l : List (AV × AV)} (hm : m b = some (.map l)) :
    ∃ es clock, w.heap[b]? = some (.map es clock) ∧ m w.heap.size = none ∧ St F lim (w.alloc (.mapIter (some b) clock #[] clock)) n fr (m.upd b (some (.iter w.heap.size l []))) ca fl ∧ Pres F w lim (w.alloc (.mapIter (some b) clock #[] clock)) lim := by
  have hz := st.lim_new
  have hmn : m w.heap.size = none := by
    cases hb : m w.heap.size with
    | none => rfl
    | some o => exact absurd (st.lt_of_mem (b := w.heap.size) (by rw [hb]; simp)) (Nat.lt_irrefl _)
  have hFn : ¬ F w.heap.size := fun hf => absurd (st.lt_of_F hf) (Nat.lt_irrefl _)
  have hblt : b < w.heap.size := st.lt_of_mem (by rw [hm]; simp)
  have hP := fun clock => Pres.alloc st (.mapIter (some b) clock #[] clock) 0
  have hlim : (fun b => if b = w.heap.size then 0 else lim b) = lim := by funext b; by_cases hb : b = w.heap.size <;> simp [hb, hz]
  rw [hlim] at hP
  obtain ⟨os, om, ow, h⟩ := st
  obtain ⟨hM, hl, hF⟩ := h.mem b _ hm
  obtain ⟨es, clock, hb, hs, hbig, hk, hv, h1, h2⟩ := mrep_map_all hM
  refine ⟨es, clock, hb, hmn, ?_, hP clock⟩
  have hsz1 : (w.alloc (.mapIter (some b) clock #[] clock)).heap.size = w.heap.size + 1 := Array.size_push _
  have hst : ∀ {v x os'}, Rep w lim v x os' → (∀ c ∈ os', ow c ≠ .none) → Rep (w.alloc (.mapIter (some b) clock #[] clock)) lim v x os' := fun hR ho =>
    hR.stable (fun _ => Nat.le_refl _) (hP clock).cell (fun c hc => ⟨heapOld w _ c (h.free c (ho c hc)).2.2, rfl⟩)
  have how : ∀ c, ow c ≠ .none → c ≠ w.heap.size := fun c hc e => by have := (h.free c hc).2.2; omega
  refine ⟨os, fun k i => if k = b then (if i = 0 then [w.heap.size] else []) else om k i, fun c => if c = w.heap.size then .blk b 0 else ow c, h.size, h.defers, fun t x hx => ⟨(h.slots t x hx).1, hst (h.slots t x hx).2 (fun c hc => by rw [(h.ownS t x hx).2 c hc]; simp)⟩, fun k o hk' => ?_, fun t x hx => ⟨(h.ownS t x hx).1, fun c hc => ?_⟩, fun k o hk' i => ?_, ⟨h.ownF.1, fun c hc => ?_⟩, fun c hc => ?_, fun k hk' => ?_⟩
  · by_cases hkb : k = b
    · subst hkb
      simp only [AMem.upd, ↓reduceIte, Option.some.injEq] at hk'
      subst hk'
      refine ⟨.iter es clock w.heap.size l [] ((heapOld w _ k hblt).trans hb) hs hbig (fun i hi => hst (hk i hi) (by simp)) (fun i hi => hst (hv i hi) (by simp)) h1 h2 (heapNew w _) (by simp) _ (by simp), hl, hF⟩
    · simp only [AMem.upd, if_neg hkb] at hk'
      have hM' := h.mem k o hk'
      simp only [if_neg hkb]
      have hklt : k < w.heap.size := by
        rcases Nat.lt_or_ge k w.heap.size with h3 | h3
        · exact h3
        · rw [(h.fresh k h3).2.2] at hk'; cases hk'
      refine ⟨hM'.1.stable (heapOld w _ k hklt) (fun _ => Nat.le_refl _) (hP clock).cell (fun i c hc => ⟨heapOld w _ c (h.free c ?_).2.2, rfl⟩), hM'.2⟩
      rw [(h.ownM k o hk' i).2 c hc]; simp
  · have e1 := (h.ownS t x hx).2 c hc
    have e2 : c ≠ w.heap.size := how c (by rw [e1]; simp)
    simp only [if_neg e2, e1]
  · by_cases hkb : k = b
    · subst hkb
      simp only [if_true]
      by_cases hi : i = 0
      · subst hi; simp
      · simp [hi]
    · simp only [AMem.upd, if_neg hkb] at hk'
      simp only [if_neg hkb]
      refine ⟨(h.ownM k o hk' i).1, fun c hc => ?_⟩
      have e1 := (h.ownM k o hk' i).2 c hc
      have e2 : c ≠ w.heap.size := how c (by rw [e1]; simp)
      simp only [if_neg e2, e1]
  · have e1 := h.ownF.2 c hc
    have e2 : c ≠ w.heap.size := how c (by rw [e1]; simp)
    simp only [if_neg e2, e1]
  · by_cases e2 : c = w.heap.size
    · subst e2
      refine ⟨hFn, ?_, by rw [hsz1]; omega⟩
      simp only [AMem.upd]
      rw [if_neg (by omega)]; exact hmn
    · simp only [if_neg e2] at hc
      have := h.free c hc
      refine ⟨this.1, ?_, by have := this.2.2; rw [hsz1]; omega⟩
      simp only [AMem.upd]
      rw [if_neg (by intro e; subst e; rw [hm] at this; exact absurd this.2.1 (by simp))]; exact this.2.1
  · have hsz : w.heap.size + 1 ≤ k := by rw [hsz1] at hk'; exact hk'
    have := h.fresh k (by omega)
    refine ⟨this.1, this.2.1, ?_⟩
    simp only [AMem.upd]
    rw [if_neg (by omega)]; exact this.2.2
theorem St.nextMem (st : St F lim w n fr m ca fl) {b r : Nat} {l : List (AV × AV)} {seen : List Nat} (hm : m b = some (.iter r l seen)) {es : Array MapEntry} {clock : Nat} (hb : w.heap[b]? = some (.map es clock)) {k : Nat} (hk : k < l.length) {w1 : World} (hw1 : w1 = w ∨ w1 = w.drew) :
    St F lim (setBlock w1 r (.mapIter (some b) clock ((seen.map fun i => (es.getD i default).born).toArray.push (es.getD k default).born) clock)) n fr (m.upd b (some (.iter r l (seen ++ [k])))) ca fl ∧ Pres F w lim (setBlock w1 r (.mapIter (some b) clock ((seen.map fun i => (es.getD i default).born).toArray.push (es.getD k default).born) clock)) lim := by
  obtain ⟨os, om, ow, h⟩ := st
  obtain ⟨hM, hl, hF⟩ := h.mem b _ hm
  obtain ⟨es', clock', hb', hs, hbig, hk', hv, h1, h2, hr, hsn, hos⟩ := mrep_iter_all hM
  obtain ⟨rfl, rfl⟩ : es' = es ∧ clock' = clock := by rw [hb] at hb'; injection hb' with e; injection e with e1 e2; exact ⟨e1.symm, e2.symm⟩
  have hw1h : w1.heap = w.heap := by rcases hw1 with rfl | rfl <;> rfl
  generalize hw : setBlock w1 r (.mapIter (some b) clock' ((seen.map fun i => (es'.getD i default).born).toArray.push (es'.getD k default).born) clock') = w2
  have hrlt : r < w.heap.size := (Array.getElem?_eq_some_iff.1 hr).1
  have hother : ∀ j, j ≠ r → w2.heap[j]? = w.heap[j]? := fun j hj => by rw [← hw]; simp [setBlock, hw1h, Array.getElem?_setIfInBounds, Ne.symm hj]
  have hself : w2.heap[r]? = some (.mapIter (some b) clock' ((seen.map fun i => (es'.getD i default).born).toArray.push (es'.getD k default).born) clock') := by rw [← hw]; simp [setBlock, hw1h, hrlt]
  have hsize : w2.heap.size = w.heap.size := by rw [← hw]; simp [setBlock, hw1h]
  have hcell : ∀ j o, o < lim j → w2.cell? ⟨j, o, none⟩ = w.cell? ⟨j, o, none⟩ := fun j o ho => by
    by_cases hj : j = r
    · subst hj
      simp [World.cell?, hself, hr]
    · simp [World.cell?, hother j hj]
  have hor : ow r = .blk b 0 := (h.ownM b _ hm 0).2 r hos
  have hmr : m r = none := (h.free r (by rw [hor]; simp)).2.1
  have hrF : ¬ F r := (h.free r (by rw [hor]; simp)).1
  have hbr : b ≠ r := fun e => by subst e; rw [hm] at hmr; cases hmr
  have hst : ∀ {v x os'}, Rep w lim v x os' → (∀ c ∈ os', c ≠ r) → Rep w2 lim v x os' := fun hR ho => hR.stable (fun _ => Nat.le_refl _) hcell (fun c hc => ⟨hother c (ho c hc), rfl⟩)
  refine ⟨⟨os, om, ow, h.size, h.defers, fun t x hx => ⟨(h.slots t x hx).1, hst (h.slots t x hx).2 (fun c hc e => by have := (h.ownS t x hx).2 c hc; rw [e, hor] at this; cases this)⟩, fun j o hj => ?_, h.ownS, fun j o hj i => ?_, h.ownF, fun c hc => ⟨(h.free c hc).1, ?_, by rw [hsize]; exact (h.free c hc).2.2⟩, fun j hj => ?_⟩, ?_⟩
  · by_cases hjb : j = b
    · subst hjb
      simp only [AMem.upd, ↓reduceIte, Option.some.injEq] at hj
      subst hj
      refine ⟨.iter es' clock' r l (seen ++ [k]) ((hother j hbr).trans hb) hs hbig (fun i hi => hst (hk' i hi) (by simp)) (fun i hi => hst (hv i hi) (by simp)) h1 h2 (by rw [hself]; simp) (fun i hi => ?_) _ hos, hl, hF⟩
      rcases List.mem_append.1 hi with h3 | h3
      · exact hsn i h3
      · obtain rfl : i = k := by simpa using h3
        exact hk
    · simp only [AMem.upd, if_neg hjb] at hj
      have hM' := h.mem j o hj
      have hjr : j ≠ r := fun e => by subst e; rw [hmr] at hj; cases hj
      refine ⟨hM'.1.stable (hother j hjr) (fun _ => Nat.le_refl _) hcell (fun i c hc => ⟨hother c (fun e => ?_), rfl⟩), hM'.2⟩
      have := (h.ownM j o hj i).2 c hc
      rw [e, hor] at this
      injection this with e3
      exact hjb e3.symm
  · by_cases hjb : j = b
    · subst hjb; exact h.ownM j _ hm i
    · simp only [AMem.upd, if_neg hjb] at hj
      exact h.ownM j o hj i
  · have := (h.free c hc).2.1
    simp only [AMem.upd]
    rw [if_neg (fun e => by subst e; rw [hm] at this; cases this)]; exact this
  · rw [hsize] at hj
    have := h.fresh j hj
    refine ⟨this.1, this.2.1, ?_⟩
    simp only [AMem.upd]
    rw [if_neg (fun e => by subst e; rw [hm] at this; cases this.2.2)]; exact this.2.2
  · have hos' : w2.os = w.os := by rw [← hw]; rcases hw1 with rfl | rfl <;> rfl
    have htp : w2.tape = w.tape := by rw [← hw]; rcases hw1 with rfl | rfl <;> rfl
    have hout : w2.output = w.output := by rw [← hw]; rcases hw1 with rfl | rfl <;> rfl
    exact ⟨hos', htp, hout, by rw [hsize]; exact Nat.le_refl _, fun j hj => ⟨hother j (fun e => hrF (by rw [← e]; exact hj)), rfl⟩, fun _ => Nat.le_refl _, hcell⟩
theorem St.unrange (st : St F lim w n fr m ca fl) {b r : Nat} {l : List (AV × AV)} {seen : List Nat} (hm : m b = some (.iter r l seen)) : St F lim w n fr (m.upd b (some (.map l))) ca fl := by
  obtain ⟨os, om, ow, h⟩ := st
  obtain ⟨hM, hl, hF⟩ := h.mem b _ hm
  obtain ⟨es, clock, hb, hs, hbig, hk, hv, h1, h2, _, _, _⟩ := mrep_iter_all hM
  refine ⟨os, fun k i => om k i, ow, h.size, h.defers, h.slots, fun k o hk' => ?_, h.ownS, fun k o hk' i => ?_, h.ownF, fun c hc => ⟨(h.free c hc).1, ?_, (h.free c hc).2.2⟩, fun k hk' => ?_⟩
  · by_cases hkb : k = b
    · subst hkb
      simp only [AMem.upd, ↓reduceIte, Option.some.injEq] at hk'
      subst hk'
      exact ⟨.map es clock l hb hs hbig hk hv h1 h2 _, hl, hF⟩
    · simp only [AMem.upd, if_neg hkb] at hk'
      exact h.mem k o hk'
  · by_cases hkb : k = b
    · subst hkb; exact h.ownM k _ hm i
    · simp only [AMem.upd, if_neg hkb] at hk'
      exact h.ownM k o hk' i
  · have := (h.free c hc).2.1
    simp only [AMem.upd]
    rw [if_neg (fun e => by subst e; rw [hm] at this; cases this)]; exact this
  · have := h.fresh k hk'
    refine ⟨this.1, this.2.1, ?_⟩
    simp only [AMem.upd]
    rw [if_neg (fun e => by subst e; rw [hm] at this; cases this.2.2)]; exact this.2.2
theorem awp_unrange {c : Code} {Q : Exit → Fr → AMem → Prop} {L : List (Nat × AObj)} (i : Nat) {b r : Nat} {l : List (AV × AV)} {seen : List Nat} (hN : (L.map Prod.fst).Nodup) (hi : L[i]? = some (b, .iter r l seen)) (h : AWP P n c Q fr (m.wth (L.set i (b, .map l)))) : AWP P n c Q fr (m.wth L) := fun F lim w ca st => by
  have := st.unrange (wth_get (m := m) i hN hi)
  rw [wth_set i hN hi] at this
  exact h F lim w ca this
variable {ops : Array Oper} {stl : List Nat} {r : List Oper} {K : Fr → AMem → Prop} {d : Nat} {ty : TypeId} {pos : String} {af : Array Edge} {gd : Option (Nat × Bool)} {L : List (Nat × AObj)}
theorem ar_range (hg : gOn ops fr gd = some true) (i : Nat) {t ke ve : TypeId} {x : Operand} {b : Nat} {l : List (AV × AV)} (ht : P.underlying t = some (.map ke ve)) (hx : evP (rawOf fr) x = .map b) (hi : L[i]? = some (b, .map l)) (hN : (L.map Prod.fst).Nodup)
    (h : ∀ q, m.wth L q = none → aopsR P ops stl r K (fr.put d (.ptr ⟨q, 0, none⟩)) (m.wth (L.set i (b, .iter q l [])))) :
    aopsR P ops stl (⟨some d, .range t x, ty, pos, af, gd⟩ :: r) K fr (m.wth L) := by
  simp only [aopsR, aopR, hg, ares, qv]
  intro n hk hn F lim w ca st
  have hopd := okOper_opd hk
  have h1 := evP_rep st (hopd x (by simp [Op.operands]))
  rw [hx] at h1
  have e1 : ca.eval x = .map (some b) := by generalize ca.eval x = q at h1; cases h1; rfl
  obtain ⟨es, clock, hb, hmn, s1, s2⟩ := st.range (wth_get (m := m) i hN hi)
  rw [wth_set i hN hi] at s1
  refine ⟨.value (.pointer (some ⟨w.heap.size, 0, none⟩)), _, w.alloc (.mapIter (some b) clock #[] clock), lim, _, _, ?_, .inl rfl, s1.putO (d := some d) (fun t ht => okOper_dst hk ht) (.ptr _), s2, h _ hmn⟩
  simp only [execOp, e1, Instr.range, Sem.run_bind, run_underlying ht, run_getObj_map hb, Result.andThen_ok]
  rfl
theorem leftOf_mem {es : Array MapEntry} {A : Array Nat} {e : MapEntry} (h : e ∈ (leftOf es A).toList) : e ∈ es.toList ∧ ¬ e.born ∈ A.toList := by
  unfold leftOf at h
  simpa using h
theorem ar_next (hg : gOn ops fr gd = some true) (i : Nat) {x : Operand} {b q : Nat} {l : List (AV × AV)} {seen : List Nat} (hx : evP (rawOf fr) x = .ptr ⟨q, 0, none⟩) (hi : L[i]? = some (b, .iter q l seen)) (hN : (L.map Prod.fst).Nodup)
    (h0 : (∀ k, k < l.length → k ∈ seen) → aopsR P ops stl r K (fr.put d (.tuple [.bool false])) (m.wth L))
    (h1 : ∀ k, k < l.length → ¬ k ∈ seen → aopsR P ops stl r K (fr.put d (.tuple [.bool true, (l.getD k (.junk, .junk)).1, (l.getD k (.junk, .junk)).2])) (m.wth (L.set i (b, .iter q l (seen ++ [k]))))) :
    aopsR P ops stl (⟨some d, .next x false, ty, pos, af, gd⟩ :: r) K fr (m.wth L) := by
  simp only [aopsR, aopR, hg, ares, qv]
  intro n hk hn F lim w ca st
  have hopd := okOper_opd hk
  have hx1 := evP_rep st (hopd x (by simp [Op.operands]))
  rw [hx] at hx1
  have e1 : ca.eval x = .pointer (some ⟨q, 0, none⟩) := by generalize ca.eval x = z at hx1; cases hx1; rfl
  have hm := wth_get (m := m) i hN hi
  have hrep : ∃ os, MRep w lim b (.iter q l seen) os := by
    obtain ⟨os, om, ow, h⟩ := st
    exact ⟨_, (h.mem b _ hm).1⟩
  obtain ⟨os, hM⟩ := hrep
  obtain ⟨es, clock, hb, hs, hbig, hk', hv, hb1, hb2, hr, hsn, hos⟩ := mrep_iter_all hM
  have hge : ∀ k, k < l.length → ∃ e, es[k]? = some e ∧ es.getD k default = e := fun k hk2 => by
    have : k < es.size := by omega
    exact ⟨es[k], Array.getElem?_eq_getElem this, by simp [Array.getD, this]⟩
  have hbi : ∀ i j, i < l.length → j < l.length → (es.getD i default).born = (es.getD j default).born → i = j := fun i j hi2 hj2 he => by
    rcases Nat.lt_trichotomy i j with h3 | h3 | h3
    · have := hb1 i j h3 hj2; omega
    · exact h3
    · have := hb1 j i h3 hi2; omega
  have hold : ∀ x ∈ es.toList, x.born < clock := fun x hx2 => by
    obtain ⟨k, hk2, e2⟩ := List.getElem_of_mem hx2
    have hk3 : k < es.size := by simpa using hk2
    have := hb2 k (by omega)
    rw [arr_getD (Array.getElem?_eq_getElem hk3)] at this
    rw [← e2]; simpa using this
  rcases run_next_at (P := P) w ty q b clock clock _ es clock hr hb hold (Nat.le_refl _) with ⟨h3, h4⟩ | ⟨e, he, w1, hw1, h4⟩
  · have hT : Rep w lim (.tuple #[.bool false]) (.tuple [.bool false]) [] := by
      have := Rep.tuple (w := w) (lim := lim) #[.bool false] [.bool false] (fun _ => []) rfl (fun i hi => by
        obtain rfl : i = 0 := by simpa using hi
        exact .bool _)
      rwa [flatMap_nil] at this
    refine ⟨.value (.tuple #[.bool false]), _, w, lim, _, _, by simp only [execOp, e1, Sem.run_bind, h4]; rfl, .inl rfl, st.putO (d := some d) (fun t ht => okOper_dst hk ht) (x := .tuple [.bool false]) hT, .refl _ _ _, h0 (fun k hk2 => ?_)⟩
    · obtain ⟨e, he1, he2⟩ := hge k hk2
      apply Classical.byContradiction
      intro hns
      have : e ∈ (leftOf es (seen.map fun i => (es.getD i default).born).toArray).toList := by
        unfold leftOf
        have hme : e ∈ es := Array.mem_of_getElem? he1
        simp only [Array.toList_filter, List.mem_filter, Array.mem_toList_iff, hme, true_and]
        simp only [List.contains_toArray, Bool.not_eq_true', List.contains_eq_mem, decide_eq_false_iff_not, List.mem_map]
        rintro ⟨j, hj, hj2⟩
        have := hbi j k (hsn j hj) hk2 (by rw [hj2, he2])
        exact hns (this ▸ hj)
      have hz : (leftOf es (seen.map fun i => (es.getD i default).born).toArray).toList.length = 0 := by simpa using h3
      rw [List.length_eq_zero_iff] at hz
      rw [hz] at this; cases this
  · obtain ⟨hee, hne⟩ := leftOf_mem he
    obtain ⟨k, hk2, e2⟩ := List.getElem_of_mem hee
    have hk3 : k < es.size := by simpa using hk2
    have hkl : k < l.length := by omega
    have hd : es.getD k default = e := by rw [arr_getD (Array.getElem?_eq_getElem hk3)]; simpa using e2
    have hns : ¬ k ∈ seen := fun hc => hne (List.mem_map.2 ⟨k, hc, by rw [hd]⟩)
    obtain ⟨s1, s2⟩ := st.nextMem hm hb hkl hw1
    rw [wth_set i hN hi] at s1
    rw [hd] at s1 s2
    have hK := hk' k hkl
    have hV := hv k hkl
    rw [hd] at hK hV
    have hT : Rep (setBlock w1 q (.mapIter (some b) clock ((seen.map fun i => (es.getD i default).born).toArray.push e.born) clock)) lim (.tuple #[.bool true, e.key, e.val]) (.tuple [.bool true, (l.getD k (.junk, .junk)).1, (l.getD k (.junk, .junk)).2]) [] := by
      have := Rep.tuple (w := setBlock w1 q (.mapIter (some b) clock ((seen.map fun i => (es.getD i default).born).toArray.push e.born) clock)) (lim := lim) #[.bool true, e.key, e.val] [.bool true, (l.getD k (.junk, .junk)).1, (l.getD k (.junk, .junk)).2] (fun _ => []) rfl (fun i hi => by
        match i, hi with
        | 0, _ => exact .bool _
        | 1, _ => exact hK.stable (fun _ => Nat.le_refl _) s2.cell (by simp)
        | 2, _ => exact hV.stable (fun _ => Nat.le_refl _) s2.cell (by simp))
      rwa [flatMap_nil] at this
    refine ⟨.value (.tuple #[.bool true, e.key, e.val]), _, _, lim, _, _, by simp only [execOp, e1, Sem.run_bind, h4]; rfl, .inl rfl, s1.putO (d := some d) (fun t ht => okOper_dst hk ht) (x := .tuple [.bool true, (l.getD k (.junk, .junk)).1, (l.getD k (.junk, .junk)).2]) hT, s2, h1 k hkl hns⟩
theorem ar_entry (hg : gOn ops fr gd = some true) (i : Nat) {x : Operand} {b q k : Nat} {l : List (AV × AV)} {seen : List Nat} (hx : evP (rawOf fr) x = .ptr ⟨q, 0, none⟩) (hi : L[i]? = some (b, .iter q l (seen ++ [k]))) (hN : (L.map Prod.fst).Nodup)
    (h : aopsR P ops stl r K (fr.put d (.tuple [(l.getD k (.junk, .junk)).1, (l.getD k (.junk, .junk)).2])) (m.wth L)) :
    aopsR P ops stl (⟨some d, .entry x, ty, pos, af, gd⟩ :: r) K fr (m.wth L) := by
  simp only [aopsR, aopR, hg, ares, qv]
  intro n hk hn F lim w ca st
  have hopd := okOper_opd hk
  have hx1 := evP_rep st (hopd x (by simp [Op.operands]))
  rw [hx] at hx1
  have e1 : ca.eval x = .pointer (some ⟨q, 0, none⟩) := by generalize ca.eval x = z at hx1; cases hx1; rfl
  have hm := wth_get (m := m) i hN hi
  have hrep : ∃ os, MRep w lim b (.iter q l (seen ++ [k])) os := by
    obtain ⟨os, om, ow, h⟩ := st
    exact ⟨_, (h.mem b _ hm).1⟩
  obtain ⟨os, hM⟩ := hrep
  obtain ⟨es, clock, hb, hs, hbig, hk', hv, hb1, hb2, hr, hsn, hos⟩ := mrep_iter_all hM
  have hkl : k < l.length := hsn k (by simp)
  have hk3 : k < es.size := by omega
  have hd : es.getD k default = es[k] := arr_getD (Array.getElem?_eq_getElem hk3)
  have hn2 : (es.toList.map (·.born)).Nodup := by
    rw [List.nodup_iff_pairwise_ne, List.pairwise_iff_getElem]
    intro i j hi2 hj2 hij
    simp only [List.length_map, Array.length_toList] at hi2 hj2
    have := hb1 i j hij (by omega)
    rw [arr_getD (Array.getElem?_eq_getElem hi2), arr_getD (Array.getElem?_eq_getElem hj2)] at this
    simp only [List.getElem_map, Array.getElem_toList]
    omega
  rw [List.map_append, ← List.toArray_appendList] at hr
  have hK := hk' k hkl
  have hV := hv k hkl
  rw [hd] at hK hV
  have h4 := run_entry_at (P := P) w q b clock (seen.map fun i => (es.getD i default).born).toArray es clock es[k] (by rw [hr]; simp [hk3]) hb (by simp) hn2
  refine ⟨.value (.tuple #[es[k].key, es[k].val]), _, w, lim, _, _, by simp only [execOp, e1, Sem.run_bind, h4]; rfl, .inl rfl, st.putO (d := some d) (fun t ht => okOper_dst hk ht) (x := .tuple [(l.getD k (.junk, .junk)).1, (l.getD k (.junk, .junk)).2]) ?_, .refl _ _ _, h⟩
  have := Rep.tuple (w := w) (lim := lim) #[es[k].key, es[k].val] [(l.getD k (.junk, .junk)).1, (l.getD k (.junk, .junk)).2] (fun _ => []) rfl (fun i hi => by
    match i, hi with
    | 0, _ => exact hK
    | 1, _ => exact hV)
  rwa [flatMap_nil] at this
section
variable {κ ν : Type} {kf : κ → AV} {vf : ν → AV}
theorem mapAV_get {l : List (κ × ν)} {k : Nat} (hk : k < (l.map (mapAV kf vf)).length) : ∃ p, l[k]? = some p ∧ (l.map (mapAV kf vf)).getD k (.junk, .junk) = (kf p.1, vf p.2) := by
  have hk' : k < l.length := by simpa using hk
  exact ⟨l[k], List.getElem?_eq_getElem hk', by simp [List.getD_eq_getElem?_getD, hk', mapAV]⟩
theorem ar_nextT (hg : gOn ops fr gd = some true) (i : Nat) (kf : κ → AV) (vf : ν → AV) (l : List (κ × ν)) (seen : List Nat) {x : Operand} {b q : Nat} (hx : evP (rawOf fr) x = .ptr ⟨q, 0, none⟩) (hi : L[i]? = some (b, .iter q (l.map (mapAV kf vf)) seen)) (hN : (L.map Prod.fst).Nodup)
    (h0 : (∀ k, k < l.length → k ∈ seen) → aopsR P ops stl r K (fr.put d (.tuple [.bool false])) (m.wth L))
    (h1 : ∀ k p, l[k]? = some p → ¬ k ∈ seen → aopsR P ops stl r K (fr.put d (.tuple [.bool true, kf p.1, vf p.2])) (m.wth (L.set i (b, .iter q (l.map (mapAV kf vf)) (seen ++ [k]))))) :
    aopsR P ops stl (⟨some d, .next x false, ty, pos, af, gd⟩ :: r) K fr (m.wth L) :=
  ar_next hg i hx hi hN (fun h => h0 (by simpa using h)) (fun k hk hn => by
    obtain ⟨p, hp, e⟩ := mapAV_get hk
    rw [e]; exact h1 k p hp hn)
theorem ar_entryT (hg : gOn ops fr gd = some true) (i : Nat) (kf : κ → AV) (vf : ν → AV) (l : List (κ × ν)) (seen : List Nat) {p : κ × ν} {x : Operand} {b q k : Nat} (hp : l[k]? = some p) (hx : evP (rawOf fr) x = .ptr ⟨q, 0, none⟩) (hi : L[i]? = some (b, .iter q (l.map (mapAV kf vf)) (seen ++ [k]))) (hN : (L.map Prod.fst).Nodup)
    (h : aopsR P ops stl r K (fr.put d (.tuple [kf p.1, vf p.2])) (m.wth L)) :
    aopsR P ops stl (⟨some d, .entry x, ty, pos, af, gd⟩ :: r) K fr (m.wth L) :=
  ar_entry hg i hx hi hN (by
    obtain ⟨hk, hp'⟩ := List.getElem?_eq_some_iff.1 hp
    obtain ⟨p', hp', e⟩ := mapAV_get (kf := kf) (vf := vf) (l := l) (k := k) (by simpa using hk)
    obtain rfl : p = p' := by rw [hp] at hp'; exact Option.some.inj hp'
    rw [e]; exact h)
end
end
end Go.Aw
end
section
namespace Go.Aw
open Go Go.Sort
open Go.Proofs (encStr)
section
variable {P : Program} {F : Nat → Prop} {lim : Nat → Nat} {w w' : World} {n : Nat} {fr : Fr} {m : AMem} {ca : Act} {fl : List Nat}
theorem ms_none {v : Value} {a : Addr} {k c : Nat} {os : List Nat} (h : Rep w lim v (.ms a k c) os) : os = [] := by
  cases h; rfl
def Fr.conv1 (t : Nat) (x : AV) (fr : Fr) : Fr := fr.map fun p => if p.1 = t then (t, x) else p
theorem Fr.get_conv1 (t : Nat) (x : AV) (s : Nat) : ∀ fr : Fr, (Fr.conv1 t x fr).get s = if s = t then (fr.get s).map (fun _ => x) else fr.get s := by
  intro fr
  induction fr with
  | nil => simp [Fr.conv1, Fr.get]
  | cons p fr ih =>
    obtain ⟨q, y⟩ := p
    unfold Fr.conv1 at ih ⊢
    rw [List.map_cons]
    by_cases hq : q = t
    · subst hq
      simp only [Fr.get, if_true]
      by_cases hs : q = s
      · subst hs; simp
      · rw [if_neg hs, if_neg hs, ih]
    · simp only [if_neg hq, Fr.get]
      by_cases hs : q = s
      · subst hs; rw [if_pos rfl, if_neg hq]; simp
      · rw [if_neg hs, if_neg hs, ih]
end
end Go.Aw
end
section
namespace Go.Aw
open Go Go.Sort
section
variable {P : Program} {F : Nat → Prop} {lim : Nat → Nat} {w w' : World} {n : Nat} {fr : Fr} {m : AMem} {ca : Act} {fl : List Nat}
theorem awp_conv1 {c : Code} {Q : Exit → Fr → AMem → Prop} (t : Nat) (x y : AV) (hx : fr.get t = some x) (hc : ∀ w lim v os, Rep w lim v x os → Rep w lim v y []) (h : AWP P n c Q (fr.conv1 t y) m) : AWP P n c Q fr m := fun F lim w ca st => by
  refine h F lim w ca ?_
  obtain ⟨os, om, ow, h0⟩ := st
  refine ⟨fun s => if s = t then [] else os s, om, ow, h0.size, h0.defers, fun s z hz => ?_, h0.mem, fun s z hz => ?_, h0.ownM, h0.ownF, h0.free, h0.fresh⟩
  · rw [Fr.get_conv1] at hz
    by_cases hs : s = t
    · subst hs
      rw [if_pos rfl, hx] at hz
      obtain rfl : y = z := by simpa using hz
      have := h0.slots s x hx
      exact ⟨this.1, by simp only [if_true]; exact hc _ _ _ _ this.2⟩
    · rw [if_neg hs] at hz
      simp only [if_neg hs]
      exact h0.slots s z hz
  · rw [Fr.get_conv1] at hz
    by_cases hs : s = t
    · subst hs; simp
    · rw [if_neg hs] at hz
      simp only [if_neg hs]
      exact h0.ownS s z hz
theorem nils_of_own (w : World) (lim : Nat → Nat) (v : Value) (os : List Nat) (h : Rep w lim v (.slice true []) os) : Rep w lim v .nils [] := by
  generalize hx : AV.slice true [] = x at h
  cases h <;> first | (cases hx; done) | skip
  · exact .nilS none
  · next b k cap sz l cv cur e hn h1 h2 h3 h0 _ _ _ _ _ _ =>
    cases hx
    simp only [List.length_nil] at hn
    subst hn
    rcases h0 with h0 | h0
    · exact absurd h0 (by simp)
    · subst h0; exact .nilS _
theorem own_of_nils (w : World) (lim : Nat → Nat) (v : Value) (os : List Nat) (h : Rep w lim v .nils os) : Rep w lim v (.slice false []) [] := by
  generalize hx : AV.nils = x at h
  cases h <;> first | (cases hx; done) | skip
  rename_i a
  cases a with
  | none => exact .nils false
  | some a => exact .empty a 0 (by simp [maxLen])
theorem nils_inv {v : Value} {os : List Nat} (h : Rep w lim v .nils os) : ∃ a, v = .slice a 0 0 := by
  generalize hx : AV.nils = x at h
  cases h <;> first | (cases hx; done) | skip
  exact ⟨_, rfl⟩
end
end Go.Aw
end
section
namespace Go.Aw
open Go
section
variable {P : Program} {w : World} {lim : Nat → Nat} {v : Value} {x : AV} {os : List Nat} {n : Nat} {fr : Fr} {m : AMem}
def bd2 : AV → Prop
  | .str s => s.length ≤ 140737488355328
  | .slice _ l => l.length ≤ 140737488355328
  | .int k i => k.min ≤ i ∧ i ≤ k.max
  | _ => True
theorem rep_bd2 (h : Rep w lim v x os) : bd2 x := by
  cases h with
  | int k i lo hi => exact ⟨lo, hi⟩
  | str s h => show s.data.toList.length ≤ _; simp; exact h
  | nils own => simp [bd2]
  | empty a cap hm => simp [bd2]
  | slice b off n cap sz l cv hn hcap hm hbig => show l.length ≤ _; omega
  | own b n cap sz l cv cur e hn hcap hm hbig => show l.length ≤ _; omega
  | _ => trivial
def bdL (l : List AV) : Prop := ∀ i j, i < l.length → j < (l.getD i .junk).cells.length → bd2 ((l.getD i .junk).cells.getD j .junk)
theorem rep_bdL {o : Bool} {l : List AV} (h : Rep w lim v (.slice o l) os) : bdL l := by
  intro i j hi hj
  cases h with
  | nils own => simp at hi
  | empty a cap hm => simp at hi
  | slice b off n cap sz l cv hn hcap hm hbig hsz hlim hc hr => exact rep_bd2 (hr i j (by omega) (by rw [← hsz i (by omega)]; exact hj))
  | own b n cap sz l cv cur e hn hcap hm hbig h0 hb hcur hsz hlim hc hr => exact rep_bd2 (hr i j (by omega) (by rw [← hsz i (by omega)]; exact hj))
theorem awp_bdL {c : Code} {Q : Exit → Fr → AMem → Prop} (t : Nat) {o : Bool} {l : List AV} (hx : fr.get t = some (.slice o l)) (h : bdL l → AWP P n c Q fr m) : AWP P n c Q fr m := fun F lim w ca st => by
  have hb : bdL l := by
    obtain ⟨os, om, ow, hs⟩ := st
    exact rep_bdL (hs.slots t _ hx).2
  exact h hb F lim w ca st
theorem bdL_map {α : Type} {f : α → AV} {l : List α} {a : α} (h : bdL (l.map f)) (ha : a ∈ l) (j : Nat) (hj : j < (f a).cells.length) : bd2 ((f a).cells.getD j .junk) := by
  obtain ⟨i, hi, e⟩ := List.getElem_of_mem ha
  have e2 : (l.map f).getD i .junk = f a := by simp [List.getD_eq_getElem?_getD, hi, e]
  have := h i j (by simpa using hi) (by rw [e2]; exact hj)
  rwa [e2] at this
theorem pure_mem {f : Nat} {args : List AV} {m' m'' : AMem} (e : m' = m'') {x : AV} (h : ∀ K : AV → AMem → Prop, K x m'' → ACalls P f args m'' K) : ∀ K : AV → AMem → Prop, K x m' → ACalls P f args m' K := by
  subst e; exact h
end
end Go.Aw
end
section
namespace Go.Aw
open Go
section
variable {P : Program} {n : Nat} {fr : Fr} {m : AMem}
theorem pq_top {ops : Array Oper} {cs : List AV} {r : List Oper} {K : Fr → Prop} {x : AV} (d : Nat) (x' : AV) (e : x = x') (h : pseq P ops m cs r ((d, x') :: fr) K) : pseq P ops m cs r ((d, x) :: fr) K := e ▸ h
theorem ar_top {ops : Array Oper} {stl : List Nat} {r : List Oper} {K : Fr → AMem → Prop} {x : AV} (d : Nat) (x' : AV) (e : x = x') (h : aopsR P ops stl r K ((d, x') :: fr) m) : aopsR P ops stl r K ((d, x) :: fr) m := e ▸ h
theorem ar_frame {ops : Array Oper} {stl : List Nat} {r : List Oper} {K : Fr → AMem → Prop} {fr : Fr} (fr' : Fr) (e : fr = fr') (h : aopsR P ops stl r K fr' m) : aopsR P ops stl r K fr m := e ▸ h
theorem bool_ff (b : Bool) : b = false ∨ b = true := by cases b <;> simp
end
end Go.Aw
end
section
namespace Go.Aw
open Go
section
variable {P : Program} {n : Nat} {fr : Fr} {m : AMem}
theorem resOf_cell {a t b off : Nat} {l : List AV} (hraw : rawOf fr a = .ptr ⟨b, off, none⟩) (hm : m b = some (.cells l)) : resOf P fr m (.cell a t) = some (apartOk P t l off, (apart P t l off).plain) := by
  simp only [resOf, hraw, hm]
theorem resK_cell1 {fn : Func} {K : AV → AMem → Prop} {a t b off : Nat} {l : List AV} (hr : fn.results.toList = [.cell a t]) (hraw : rawOf fr a = .ptr ⟨b, off, none⟩) (hm : m b = some (.cells l)) (hok : apartOk P t l off) (x : AV) (hx : (apart P t l off).plain = x) (m' : AMem) (hs : ∀ b o, m' b = some o → m b = some o) (hK : K x m') : resK P fn fr m K := by
  unfold resK
  rw [hr]
  simp only [resOf_cell hraw hm]
  rw [hx]
  exact ⟨hok, m', hs, hK⟩
end
end Go.Aw
end
section
namespace Go.Aw
open Go Go.RowKit Go.WideShapes Go.ChangeShapes
def RdP (P : Program) (fuel : Nat) (t : TypeId) {α : Type} (f : α → AV) (ok : α → Prop) : Prop :=
  ∀ (H : Type) (enc : TypeId × Value → H) (W : World) (sp : Nat → Bool) (cs : List Value) (d : DataW H) (ps : List MemPlace), DataW.trod enc P W 0 sp true fuel t cs = some (d, ps) → (∀ n ∈ d.weights P t, n ≤ reachBytes) →
    ∃ x : α, ok x ∧ (f x).cells.length = cs.length ∧ ∀ i, i < cs.length → Rep W (limOf W) (cs.getD i undef) ((f x).cells.getD i .junk) []
section
variable {P : Program} {fuel : Nat} {t e : TypeId}
theorem RdP.mono {α : Type} {f : α → AV} {ok ok' : α → Prop} (h : RdP P fuel t f ok) (hk : ∀ x, ok x → ok' x) : RdP P fuel t f ok' := fun H enc W sp cs d ps h1 h2 => by
  obtain ⟨x, h3, hx⟩ := h H enc W sp cs d ps h1 h2
  exact ⟨x, hk x h3, hx⟩
theorem RdP.arg {α : Type} {f : α → AV} {ok : α → Prop} {H : Type} {enc : TypeId × Value → H} {W : World} {sp : Nat → Bool} {cs : List Value} {v : Value} {d : DataW H} {ps : List MemPlace} (hr : ∀ n, RdP P n t f ok) (hv : v.cells.toList = cs) (hd : DataW.Trod enc P W 0 sp true t v d ps) (hw : ∀ n ∈ d.weights P t, n ≤ reachBytes) :
    ∃ x : α, ok x ∧ (f x).cells.length = cs.length ∧ ∀ i, i < cs.length → Rep W (limOf W) (cs.getD i undef) ((f x).cells.getD i .junk) [] := by
  obtain ⟨n, hn⟩ := hd
  rw [hv] at hn
  exact hr n H enc W sp _ d ps hn hw
end
end Go.Aw
end
section
namespace Go.Aw
open Go Go.MapKept
section
variable {P : Program} {F : Nat → Prop} {lim : Nat → Nat} {w w' : World} {n : Nat} {fr : Fr} {m : AMem} {ca : Act} {fl : List Nat}
variable {ops : Array Oper} {stl : List Nat} {r : List Oper} {K : Fr → AMem → Prop} {d : Nat} {ty : TypeId} {pos : String} {af : Array Edge} {gd : Option (Nat × Bool)} {L : List (Nat × AObj)}
theorem resK_cell2 {fr : Fr} {m : AMem} {fn : Func} {K : AV → AMem → Prop} {a t s b off : Nat} {l : List AV} (hr : fn.results.toList = [.cell a t, .tmp s]) (hraw : rawOf fr a = .ptr ⟨b, off, none⟩) (hm : m b = some (.cells l)) (hok : apartOk P t l off) (x y : AV) (hx : (apart P t l off).plain = x) (hy : resOf P fr m (.tmp s) = some (True, y)) (z : AV) (hz : y.plain = z) (m' : AMem) (hs : ∀ b o, m' b = some o → m b = some o) (hK : K (.tuple [x, z]) m') : resK P fn fr m K := by
  unfold resK
  rw [hr]
  simp only [resOf_cell hraw hm, hy]
  rw [hx, hz]
  exact ⟨hok, trivial, m', hs, hK⟩
end
end Go.Aw
end
section
namespace Go.Aw
open Go Go.MapKept
section
variable {P : Program} {F : Nat → Prop} {lim : Nat → Nat} {w w' : World} {n : Nat} {fr : Fr} {m : AMem} {ca : Act} {fl : List Nat}
variable {ops : Array Oper} {stl : List Nat} {r : List Oper} {K : Fr → AMem → Prop} {d : Nat} {ty : TypeId} {pos : String} {af : Array Edge} {gd : Option (Nat × Bool)} {L : List (Nat × AObj)}
theorem lookup_runP {κ ν : Type} [DecidableEq κ] {dk : TypeDesc} {kf : κ → AV} {kc : κ → Value} {vf : ν → AV} (he : KeyEnc dk kf kc) (st : St F lim w n fr m ca fl) {b : Nat} {l : List (κ × ν)} (hm : m b = some (.map (l.map fun p => (kf p.1, vf p.2)))) {t ke ve : TypeId} (ht : P.underlying t = some (.map ke ve)) (hke : P.underlying ke = some dk)
    {z : ν} {z0 : AV} (hz : zeroA P ve = some z0) (hzp : z0.plain = vf z) {kv : Value} {k : κ} (hkv : Rep w lim kv (kf k) []) (ok : Bool) :
    ∃ v, Rep w lim v (vf ((mget l k).getD z)) [] ∧ (Instr.lookup t (.map (some b)) kv ok).run P w = .ok (if ok then .tuple #[v, .bool (mget l k).isSome] else v) w := by
  obtain ⟨es, clock, hb, hs, hkeys, hval, _, _, _, _, _, _⟩ := map_inv he st hm
  obtain rfl := he.1 _ _ _ _ _ hkv
  have hf := findNow_midx he k es.toList l 0 hkeys
  have hc : (Instr.checkKey es.isEmpty 10000 ke (kc k)).run P w = .ok () w := run_checkKey hke (he.2.1 k) _ 9999
  have hfk := run_findKey (P := P) (w := w) hke hf
  cases hi : midx l k with
  | none =>
    obtain ⟨v0, z1, z2, z3, z4⟩ := zero_run (P := P) (w := w) (lim := lim) hz
    have h1 := (midx_none hi).1
    refine ⟨v0, by rw [h1]; have := z4.plain; rw [hzp] at this; exact this, ?_⟩
    rw [hi] at hfk
    simp only [Option.map_none] at hfk
    cases ok <;> simp [Instr.lookup, run_underlying ht, run_getObj_map hb, hc, hfk, Result.andThen, z1, h1]
  | some j =>
    obtain ⟨c, h1, h2, _, _⟩ := midx_some hi
    refine ⟨(es.toList.getD j default).val, ?_, ?_⟩
    · rw [h2]
      have := hval j _ h1
      rw [Array.getD_eq_getD_getElem?, ← Array.getElem?_toList, ← List.getD_eq_getElem?_getD] at this
      exact this
    · rw [hi] at hfk
      simp only [Option.map_some, Nat.zero_add] at hfk
      cases ok <;> simp only [Instr.lookup, Sem.run_bind, run_underlying ht, run_getObj_map hb, hc, hfk, Result.andThen_ok, Sem.run_pure, h2, Option.isSome_some, if_true] <;> rfl
theorem ar_lookupOkP (hg : gOn ops fr gd = some true) {κ ν : Type} [DecidableEq κ] {dk : TypeDesc} (kf : κ → AV) {kc : κ → Value} (vf : ν → AV) (he : KeyEnc dk kf kc) (l : List (κ × ν)) (k : κ) (z : ν) {t ke ve : TypeId} {x y : Operand} {b : Nat} {v : AV} (ht : P.underlying t = some (.map ke ve)) (hke : P.underlying ke = some dk) {z0 : AV} (hz : zeroA P ve = some z0) (hzp : z0.plain = vf z)
    (hx : evP (rawOf fr) x = .map b) (hy : evP (rawOf fr) y = kf k) (hm : m.wth L b = some (.map (l.map fun p => (kf p.1, vf p.2)))) (hv : vf ((mget l k).getD z) = v) (h : aopsR P ops stl r K (fr.put d (.tuple [v, .bool (mget l k).isSome])) (m.wth L)) :
    aopsR P ops stl (⟨some d, .lookup t x y true, ty, pos, af, gd⟩ :: r) K fr (m.wth L) := by
  subst hv
  simp only [aopsR, aopR, hg, ares, qv, hx]
  intro n hk hn F lim w ca st
  have hopd := okOper_opd hk
  have h1 := evP_rep st (hopd x (by simp [Op.operands]))
  have h2 := evP_rep st (hopd y (by simp [Op.operands]))
  rw [hx] at h1
  rw [hy] at h2
  have e1 : ca.eval x = .map (some b) := by generalize ca.eval x = q at h1; cases h1; rfl
  obtain ⟨v, r1, r2⟩ := lookup_runP (P := P) he st hm ht hke hz hzp h2 true
  have hT : Rep w lim (.tuple #[v, .bool (mget l k).isSome]) (.tuple [vf ((mget l k).getD z), .bool (mget l k).isSome]) [] := by
    have := Rep.tuple (w := w) (lim := lim) #[v, .bool (mget l k).isSome] [vf ((mget l k).getD z), .bool (mget l k).isSome] (fun _ => []) rfl (fun i hi => by
      match i, hi with
      | 0, _ => exact r1
      | 1, _ => exact .bool _)
    rwa [flatMap_nil] at this
  exact ⟨.value (.tuple #[v, .bool (mget l k).isSome]), _, w, lim, _, _, by simp only [execOp, e1, Sem.run_bind, r2]; rfl, .inl rfl, st.putO (d := some d) (fun t ht => okOper_dst hk ht) hT, .refl _ _ _, h⟩
theorem wth_keep {m : AMem} {L L1 L2 : List (Nat × AObj)} (hN : (L.map Prod.fst).Nodup) (hp : L.Perm (L1 ++ L2)) (hF : ∀ c ∈ L2.map Prod.fst, m c = none) : ∀ b o, m.wth L1 b = some o → m.wth L b = some o := by
  have hp2 : L.Perm (L2 ++ L1) := hp.trans List.perm_append_comm
  intro b o h
  rw [wth_perm hN hp2]
  exact wth_sub2 L2 L1 ((hp2.map Prod.fst).nodup_iff.1 hN) hF b o h
end
end Go.Aw
end
section
namespace Go.Aw
open Go Go.Sort
def flatK {α : Type} (f : α → AV) (l : List α) : List AV := (l.map f).flatMap AV.cells
section
variable {α : Type} {f : α → AV} {sz : Nat}
theorem flatK_cons (a : α) (l : List α) : flatK f (a :: l) = (f a).cells ++ flatK f l := rfl
theorem flatK_append (l l' : List α) : flatK f (l ++ l') = flatK f l ++ flatK f l' := by simp [flatK]
theorem flatK_len (hf : ∀ a, (f a).cells.length = sz) (l : List α) : (flatK f l).length = l.length * sz := by
  induction l with
  | nil => simp [flatK]
  | cons a l ih => rw [flatK_cons, List.length_append, ih, hf, List.length_cons, Nat.add_mul, Nat.one_mul, Nat.add_comm]
theorem flatK_take (hf : ∀ a, (f a).cells.length = sz) (l : List α) (k : Nat) : (flatK f l).take (k * sz) = flatK f (l.take k) := by
  induction l generalizing k with
  | nil => simp [flatK]
  | cons a l ih =>
    cases k with
    | zero => simp [flatK]
    | succ k =>
      have e : (k + 1) * sz = (f a).cells.length + k * sz := by rw [hf, Nat.add_mul, Nat.one_mul, Nat.add_comm]
      rw [flatK_cons, e, List.take_length_add_append, ih, List.take_succ_cons, flatK_cons]
theorem flatK_drop (hf : ∀ a, (f a).cells.length = sz) (l : List α) (k : Nat) : (flatK f l).drop (k * sz) = flatK f (l.drop k) := by
  induction l generalizing k with
  | nil => simp [flatK]
  | cons a l ih =>
    cases k with
    | zero => simp [flatK]
    | succ k =>
      have e : (k + 1) * sz = (f a).cells.length + k * sz := by rw [hf, Nat.add_mul, Nat.one_mul, Nat.add_comm]
      rw [flatK_cons, e, List.drop_length_add_append, ih, List.drop_succ_cons]
theorem flatK_get (hf : ∀ a, (f a).cells.length = sz) (hpos : 0 < sz) (l : List α) : ∀ q, q < l.length * sz → (flatK f l).getD q .junk = ((l.map f).getD (q / sz) .junk).cells.getD (q % sz) .junk := by
  induction l with
  | nil => intro q hq; simp at hq
  | cons a l ih =>
    intro q hq
    rw [flatK_cons]
    by_cases hqs : q < sz
    · rw [getD_append_lt (by rw [hf]; omega), Nat.div_eq_of_lt hqs, Nat.mod_eq_of_lt hqs]; rfl
    · obtain ⟨r, rfl⟩ := Nat.exists_eq_add_of_le (Nat.le_of_not_lt hqs)
      have e1 : (sz + r) / sz = r / sz + 1 := by rw [Nat.add_comm, Nat.add_div_right _ hpos]
      rw [getD_append_ge (by rw [hf]; omega), hf, Nat.add_sub_cancel_left, ih r (by simp [Nat.succ_mul] at hq; omega), e1, Nat.add_mod_left]
      simp [List.getD_eq_getElem?_getD]
theorem flatK_plain (hp : ∀ a, (f a).plain = f a) (l : List α) : (flatK f l).map AV.plain = flatK f l := by
  induction l with
  | nil => rfl
  | cons a l ih => rw [flatK_cons, List.map_append, ih, ← AV.plainL_eq, ← AV.plain_cells, hp]
theorem flatK_mem_plain (hp : ∀ a, (f a).plain = f a) (l : List α) : ∀ x ∈ flatK f l, x.plain = x := by
  intro x hx
  have h := flatK_plain hp l
  obtain ⟨i, hi, rfl⟩ := List.getElem_of_mem hx
  have h1 : ((flatK f l).map AV.plain)[i]'(by simpa using hi) = (flatK f l)[i] := by simp only [h]
  simpa using h1
theorem flatten_plain {z : AV} {z0 : α} (hz : z.plain = f z0) (k : Nat) : ((List.replicate k z.cells).flatten).map AV.plain = flatK f (List.replicate k z0) := by
  induction k with
  | zero => rfl
  | succ k ih => rw [List.replicate_succ, List.flatten_cons, List.map_append, ih, List.replicate_succ, flatK_cons, ← AV.plainL_eq, ← AV.plain_cells, hz]
end
section
variable {P : Program} {F : Nat → Prop} {lim : Nat → Nat} {w w' : World} {n : Nat} {fr : Fr} {m : AMem} {ca : Act} {fl : List Nat}
theorem St.plainMem (st : St F lim w n fr m ca fl) {b : Nat} {L : List AV} (hm : m b = some (.cells L)) : St F lim w n fr (m.upd b (some (.cells (L.map AV.plain)))) ca fl := by
  obtain ⟨os, om, ow, h⟩ := st
  refine ⟨os, fun c => if c = b then fun _ => [] else om c, ow, h.size, h.defers, h.slots, fun c o hc => ?_, h.ownS, fun c o hc i => ?_, h.ownF, fun c hc => ?_, fun c hc => ?_⟩
  · by_cases e : c = b
    · subst e
      simp only [AMem.upd, if_true] at hc
      obtain rfl := Option.some.inj hc
      obtain ⟨hM, hl, hF⟩ := h.mem c _ hm
      refine ⟨?_, hl, hF⟩
      cases hM with
      | cells cs e l os hb hs hr =>
        refine .cells cs e _ _ hb (by simpa using hs) fun i hi => ?_
        have hi' : i < L.length := by simpa using hi
        have := (hr i hi').plain
        simp only [if_true]
        have e2 : (L.map AV.plain).getD i .junk = (L.getD i .junk).plain := by simp [List.getD_eq_getElem?_getD, hi']
        rw [e2]; exact this
    · simp only [AMem.upd, if_neg e] at hc
      simp only [if_neg e]
      exact h.mem c o hc
  · by_cases e : c = b
    · simp [e]
    · simp only [AMem.upd, if_neg e] at hc
      simp only [if_neg e]
      exact h.ownM c o hc i
  · have := h.free c hc
    refine ⟨this.1, ?_, this.2.2⟩
    simp only [AMem.upd]
    by_cases e : c = b
    · subst e; rw [hm] at this; cases this.2.1
    · rw [if_neg e]; exact this.2.1
  · have := h.fresh c hc
    refine ⟨this.1, this.2.1, ?_⟩
    simp only [AMem.upd]
    by_cases e : c = b
    · subst e; rw [hm] at this; cases this.2.2
    · rw [if_neg e]; exact this.2.2
set_option maxHeartbeats 1000000 in
theorem append0MsK_sound (st : St F lim w n fr m ca []) {t e ty : TypeId} {z : AV} (ht : P.underlying t = some (.slice e)) (hz : zOk P e = true) (hzA : zeroA P e = some z) (hpos : 0 < P.cellsOf e) {a0 : Option Addr} {vy : Value}
    {l' : List AV} (hnil : l' ≠ []) (hy : Rep w lim vy (.slice false l') []) (hbytes : l'.length * P.bytesOf e ≤ 140737488355328) (hbig : l'.length ≤ 140737488355328)
    (hl' : ∀ x ∈ l', x.cells.length = P.cellsOf e ∧ x.cells.all AV.one = true) (htop : z.topOk = true) :
    ∃ b' cap' w', (Builtin.append_ #[t, t] ty #[.slice a0 0 0, vy]).run P w = .ok (.slice (some ⟨b', 0, none⟩) l'.length cap') w' ∧ l'.length ≤ cap' ∧ cap' ≤ maxLen ∧ m b' = none ∧
      St F lim w' n fr (m.upd b' (some (.cells (l'.flatMap AV.cells ++ (List.replicate (cap' - l'.length) z.cells).flatten)))) ca [] ∧ Pres F w lim w' lim := by
  obtain ⟨i, zv, hi, hiz, hck, hzA', hzc⟩ := info_of_zOk hz
  obtain ⟨hcs, hbs⟩ := cellsOf_info hi
  rw [hzA] at hzA'
  have hze : z = cval zv := Option.some.inj hzA'
  have hgl : ∀ (l : List AV) i, i < l.length → l.getD i .junk ∈ l := fun l i hi => by simp [List.getD_eq_getElem?_getD, hi]
  have hmx : ∀ k : Nat, k ≤ 140737488355328 → k ≤ maxLen := fun k hk => by simp only [maxLen]; omega
  rw [hcs] at hpos hl'
  have hpos' : 0 < l'.length := List.length_pos_iff.2 hnil
  rcases rep_slice_cases hy with ⟨rfl, _⟩ | ⟨rfl, _⟩ | ⟨yb, yoff, ycap, ysz, ycv, rfl, hycap, hym, hybig, hysz, hylim, hyc, hyr⟩
  · exact (hnil rfl).elim
  · exact (hnil rfl).elim
  have hys : ysz = i.size := by rw [← hysz 0 hpos', (hl' _ (hgl l' 0 hpos')).1]
  subst hys
  have hnews := flatVals_cells (w := w) hpos hyc
  have hnl : (flatVals ycv l'.length i.size).length = l'.length * i.size := by simp [flatVals]
  rw [hbs] at hbytes
  have hid : ∀ l : List AV, l.flatMap AV.cells = flatK (fun x : AV => x) l := fun l => by simp [flatK]
  have hflen : (l'.flatMap AV.cells).length = l'.length * i.size := by
    have : ∀ l : List AV, (∀ x ∈ l, x.cells.length = i.size) → (l.flatMap AV.cells).length = l.length * i.size := fun l hl => by
      induction l with
      | nil => simp
      | cons v l ih => rw [List.flatMap_cons, List.length_append, ih (fun u hu => hl u (by simp [hu]))]; simp [hl v (by simp), Nat.add_mul, Nat.add_comm]
    exact this l' (fun x hx => (hl' x hx).1)
  have hfget : ∀ q, q < l'.length * i.size → (l'.flatMap AV.cells).getD q .junk = (l'.getD (q / i.size) .junk).cells.getD (q % i.size) .junk := by
    have : ∀ l : List AV, (∀ x ∈ l, x.cells.length = i.size) → ∀ q, q < l.length * i.size → (l.flatMap AV.cells).getD q .junk = (l.getD (q / i.size) .junk).cells.getD (q % i.size) .junk := fun l hl => by
      induction l with
      | nil => intro q hq; simp at hq
      | cons v l ih =>
        intro q hq
        have hv := hl v (by simp)
        rw [List.flatMap_cons]
        by_cases hqs : q < i.size
        · rw [getD_append_lt (by omega), Nat.div_eq_of_lt hqs, Nat.mod_eq_of_lt hqs]; rfl
        · obtain ⟨r, rfl⟩ := Nat.exists_eq_add_of_le (Nat.le_of_not_lt hqs)
          have e1 : (i.size + r) / i.size = r / i.size + 1 := by rw [Nat.add_comm, Nat.add_div_right _ hpos]
          rw [getD_append_ge (by omega), hv, Nat.add_sub_cancel_left, ih (fun u hu => hl u (by simp [hu])) r (by simp [Nat.succ_mul] at hq; omega), e1, Nat.add_mod_left]
          simp [List.getD_eq_getElem?_getD]
    exact this l' (fun x hx => (hl' x hx).1)
  have hnewr : ∀ q, q < (l'.flatMap AV.cells).length → Rep w lim ((flatVals ycv l'.length i.size).getD q undef) ((l'.flatMap AV.cells).getD q .junk) [] := fun q hq => by
    rw [hflen] at hq
    have h1 : q / i.size < l'.length := Nat.div_lt_of_lt_mul (by rw [Nat.mul_comm]; exact hq)
    have h2 := Nat.mod_lt q hpos
    have h3 := flatVals_get (cv := ycv) (n := l'.length) (sz := i.size) h1 h2
    have h4 : q / i.size * i.size + q % i.size = q := by rw [Nat.mul_comm]; exact Nat.div_add_mod q i.size
    rw [h4] at h3
    rw [hfget q hq, List.getD_eq_getElem?_getD, h3]
    exact hyr _ _ h1 h2
  have hh63 : ((l'.length : Nat) : Int) ≤ 9223372036854775807 := by omega
  have stD : St F lim w.drew n fr m ca [] := st.heap rfl
  have hzs : z.cells.length = i.size := by rw [hze, cval_cells, hzc]
  have hzr : ∀ q, q < i.size → Rep w lim (zv.cells.getD q undef) (z.cells.getD q .junk) [] := fun q hq => by
    have h1 := rep_cval (w := w) (lim := lim) hck
    rw [← hze] at h1
    exact (rep_cellsR h1 htop).2 q (by omega)
  have hcap := grownCap_ge w l'.length 0 e
  have hcapm := grownCap_le_maxLen w l'.length 0 e (hmx _ hbig)
  have hfits := growslice_fits (need := l'.length) (old := 0) (bytes := i.bytes) (by omega) hbytes
  have hrun : (Builtin.append_ #[t, t] ty #[.slice a0 0 0, .slice (some ⟨yb, yoff, none⟩) l'.length ycap]).run P w = .ok (.slice (some ⟨w.heap.size, 0, none⟩) l'.length (grownCap w l'.length 0 e)) (w.drew.alloc (.cells ((flatVals ycv l'.length i.size).toArray ++ Builtin.zeroCells zv.cells (grownCap w l'.length 0 e - l'.length)) e)) := by
    cases a0 with
    | none => exact run_append_nil (P := P) w t ty e i zv ht hi hiz ⟨yb, yoff, none⟩ l'.length ycap _ hnl hnews hpos' hh63 (by omega)
    | some a =>
      have := run_append_grow (P := P) w t ty e i zv ht hi hiz a 0 0 [] (by simp) (fun j v hj => by simp at hj) ⟨yb, yoff, none⟩ l'.length ycap _ hnl hnews (by omega) (by simpa using hh63) (by simpa using hfits)
      simpa using this
  generalize grownCap w l'.length 0 e = cap' at hrun hcap hcapm
  have hlen : (l'.flatMap AV.cells ++ (List.replicate (cap' - l'.length) z.cells).flatten).length = cap' * i.size := by
    have : (List.replicate (cap' - l'.length) z.cells).flatten.length = (cap' - l'.length) * i.size := by
      rw [List.length_flatten]; simp [hzs]
    rw [List.length_append, hflen, this, ← Nat.add_mul]; congr 1; omega
  have hsize : ((flatVals ycv l'.length i.size).toArray ++ Builtin.zeroCells zv.cells (cap' - l'.length)).size = cap' * i.size := by
    simp only [Array.size_append, List.size_toArray, size_zeroCells, hzc, hnl, ← Nat.add_mul]
    congr 1; omega
  have hA := stD.allocMem ((flatVals ycv l'.length i.size).toArray ++ Builtin.zeroCells zv.cells (cap' - l'.length)) e (l'.flatMap AV.cells ++ (List.replicate (cap' - l'.length) z.cells).flatten) (by rw [hsize, hlen]) (fun q hq => by
    refine Rep.stable (w := w) (lim := lim) ?_ (fun _ => Nat.le_refl _) (fun _ _ _ => rfl) (by simp)
    rw [Array.getD_eq_getD_getElem?, ← Array.getElem?_toList, ← List.getD_eq_getElem?_getD]
    simp only [Array.toList_append]
    refine rep_app (by simp [hflen, hnl]) hnewr (fun q hq => ?_) q hq
    have hq' : q < (cap' - l'.length) * i.size := by
      rw [List.length_flatten] at hq; simpa [hzs] using hq
    rw [flatten_getD _ i.size _ hzs hpos q hq']
    have h1 := hzr (q % i.size) (Nat.mod_lt _ hpos)
    have h2 : (Builtin.zeroCells zv.cells (cap' - l'.length)).toList.getD q undef = zv.cells.getD (q % i.size) undef := by
      have h3 : q % i.size < zv.cells.size := by rw [hzc]; exact Nat.mod_lt _ hpos
      have h4 : q < (cap' - l'.length) * zv.cells.size := by rw [hzc]; exact hq'
      have h5 : q % zv.cells.size < zv.cells.size := Nat.mod_lt _ (by omega)
      rw [← hzc]
      simp [Builtin.zeroCells, List.getD_eq_getElem?_getD, Array.getD_eq_getD_getElem?, h4, h5]
    rw [h2]; exact h1)
  have hPN := pres_new stD (.cells ((flatVals ycv l'.length i.size).toArray ++ Builtin.zeroCells zv.cells (cap' - l'.length)) e)
  exact ⟨w.heap.size, cap', _, hrun, hcap, hcapm, hA.1, hA.2, ⟨rfl, rfl, rfl, Nat.le_trans (Nat.le_of_eq rfl) hPN.size, hPN.res, hPN.mono, hPN.cell⟩⟩
theorem ar_append0MsK {ops : Array Oper} {stl : List Nat} {r : List Oper} {K : Fr → AMem → Prop} {d : Nat} {ty : TypeId} {pos : String} {af : Array Edge} {gd : Option (Nat × Bool)} {L : List (Nat × AObj)} (hg : gOn ops fr gd = some true) {α : Type} (f : α → AV) (sz : Nat) (ys : List α) (z0 : α) {own : Bool} {t e : TypeId} {s : Nat} {y : Operand} {l' : List AV} {z : AV}
    (ht : P.underlying t = some (.slice e)) (hx : rawOf fr s = .nils) (hy : evP (rawOf fr) y = .slice own l') (hl' : l' = ys.map f) (hz : zOk P e = true) (hzA : zeroA P e = some z) (hzp : z.plain = f z0) (hc : P.cellsOf e = sz) (hpos : 0 < sz)
    (hN : (L.map Prod.fst).Nodup) (hf : ∀ a, (f a).cells.length = sz) (hf1 : ∀ a, (f a).cells.all AV.one = true) (hp : ∀ a, (f a).plain = f a) (htop : z.topOk = true) (hnil : ys ≠ [])
    (hb1 : ys.length * P.bytesOf e ≤ 140737488355328) (hb2 : ys.length ≤ 140737488355328)
    (h : ∀ (b' : Nat) (zs' : List α), m b' = none → (b' :: L.map Prod.fst).Nodup → zs'.take ys.length = ys → ys.length ≤ zs'.length →
      aopsR P ops stl r K (fr.put d (.ms ⟨b', 0, none⟩ ys.length zs'.length)) (m.wth ((b', .cells (flatK f zs')) :: L))) :
    aopsR P ops stl (⟨some d, .call ⟨.builtin .append, #[.tmp s, y], #[t, t]⟩, ty, pos, af, gd⟩ :: r) K fr (m.wth L) := by
  simp only [aopsR, aopR, hg, ares, ht, hx, hy]
  intro n hk' hn F lim w ca st
  subst hl'
  have hvs := evP_rep st (okOper_opd hk' (.tmp s) (by simp [Op.operands, Call.operands]))
  have hxp : evP (rawOf fr) (.tmp s) = .nils := by simp [evP, hx, AV.plain]
  rw [hxp] at hvs
  obtain ⟨a0, hv⟩ := nils_inv hvs
  have hvy := evP_rep st (okOper_opd hk' y (by simp [Op.operands, Call.operands]))
  rw [hy] at hvy
  have hvy' : Rep w lim (ca.eval y) (.slice false (ys.map f)) [] := by simpa [AV.plain] using hvy.plain
  obtain ⟨b', cap', w', r1, r2, r3, r4, r5, r6⟩ := append0MsK_sound (P := P) (ty := ty) (a0 := a0) st ht hz hzA (by rw [hc]; exact hpos) (by simpa using hnil) hvy' (by simpa using hb1) (by simpa using hb2)
    (fun x hx => by obtain ⟨a, _, rfl⟩ := List.mem_map.1 hx; exact ⟨by rw [hf, hc], hf1 a⟩) htop
  simp only [List.length_map] at r1 r2 r5
  have r5' := r5.plainMem (b := b') (L := (ys.map f).flatMap AV.cells ++ (List.replicate (cap' - ys.length) z.cells).flatten) (by simp [AMem.upd])
  have e3 : ((ys.map f).flatMap AV.cells ++ (List.replicate (cap' - ys.length) z.cells).flatten).map AV.plain = flatK f (ys ++ List.replicate (cap' - ys.length) z0) := by
    rw [List.map_append, flatten_plain hzp, flatK_append]
    congr 1
    exact flatK_plain hp ys
  rw [upd_upd, e3] at r5'
  have h1 := wth_fresh r4
  have e1 : (#[.tmp s, y] : Array Operand).map ca.eval = #[.slice a0 0 0, ca.eval y] := by apply Array.ext'; simp [hv]
  refine ⟨.value (.slice (some ⟨b', 0, none⟩) ys.length cap'), _, w', lim, _, _, ?_, .inl rfl, St.putO (m := m.wth ((b', .cells (flatK f (ys ++ List.replicate (cap' - ys.length) z0))) :: L)) (d := some d) r5' (fun t ht => okOper_dst hk' ht) (x := .ms ⟨b', 0, none⟩ ys.length (ys ++ List.replicate (cap' - ys.length) z0).length) ?_, r6, h b' _ h1.2 (List.nodup_cons.2 ⟨h1.1, hN⟩) ?_ ?_⟩
  · simp only [execOp, resolve, invoke, builtin, Sem.run_bind, Sem.run_pure, Result.andThen_ok, e1]
    rw [r1]; rfl
  · have : (ys ++ List.replicate (cap' - ys.length) z0).length = cap' := by simp; omega
    rw [this]
    exact .ms _ _ _ r2 r3
  · rw [List.take_append_of_le_length (Nat.le_refl _)]; exact List.take_of_length_le (Nat.le_refl _)
  · simp
theorem ar_appendMsK {ops : Array Oper} {stl : List Nat} {r : List Oper} {K : Fr → AMem → Prop} {d : Nat} {ty : TypeId} {pos : String} {af : Array Edge} {gd : Option (Nat × Bool)} {L : List (Nat × AObj)} (hg : gOn ops fr gd = some true) (i : Nat) {α : Type} (f : α → AV) (sz : Nat) (zs ys : List α) (z0 : α) (k : Nat) {own : Bool} {t e : TypeId} {s b : Nat} {y : Operand} {l' : List AV} {z : AV}
    (ht : P.underlying t = some (.slice e)) (hx : rawOf fr s = .ms ⟨b, 0, none⟩ k zs.length) (hy : evP (rawOf fr) y = .slice own l') (hl' : l' = ys.map f) (hz : zOk P e = true) (hzA : zeroA P e = some z) (hzp : z.plain = f z0) (hc : P.cellsOf e = sz) (hpos : 0 < sz)
    (hi : L[i]? = some (b, .cells (flatK f zs))) (hN : (L.map Prod.fst).Nodup) (hF : m b = none) (hf : ∀ a, (f a).cells.length = sz) (hf1 : ∀ a, (f a).cells.all AV.one = true) (hp : ∀ a, (f a).plain = f a) (htop : z.topOk = true)
    (hk : k ≤ zs.length) (hb1 : (k + ys.length) * P.bytesOf e ≤ 140737488355328) (hb2 : k + ys.length ≤ 140737488355328)
    (h : ∀ (b' : Nat) (zs' : List α), m b' = none → (b' :: (L.eraseIdx i).map Prod.fst).Nodup → zs'.take (k + ys.length) = zs.take k ++ ys → k + ys.length ≤ zs'.length →
      aopsR P ops stl r K (fr.put d (.ms ⟨b', 0, none⟩ (k + ys.length) zs'.length)) (m.wth ((b', .cells (flatK f zs')) :: L.eraseIdx i))) :
    aopsR P ops stl (⟨some d, .call ⟨.builtin .append, #[.tmp s, y], #[t, t]⟩, ty, pos, af, gd⟩ :: r) K fr (m.wth L) := by
  simp only [aopsR, aopR, hg, ares, ht, hx, hy]
  intro n hk' hn F lim w ca st
  have hperm := eraseIdx_split hi
  have hm1 := wth_perm (m := m) hN hperm
  have hNp : ((b :: (L.eraseIdx i).map Prod.fst)).Nodup := by
    have := (hperm.map Prod.fst).nodup_iff.1 hN
    simpa using this
  have hget := wth_get (m := m) i hN hi
  subst hl'
  have hvs := evP_rep st (okOper_opd hk' (.tmp s) (by simp [Op.operands, Call.operands]))
  have hxp : evP (rawOf fr) (.tmp s) = .ms ⟨b, 0, none⟩ k zs.length := by simp [evP, hx, AV.plain]
  rw [hxp] at hvs
  obtain ⟨hv, hkc, hcm⟩ := rep_ms_inv hvs
  have hvy := evP_rep st (okOper_opd hk' y (by simp [Op.operands, Call.operands]))
  rw [hy] at hvy
  have hvy' : Rep w lim (ca.eval y) (.slice false (ys.map f)) [] := by simpa [AV.plain] using hvy.plain
  obtain ⟨b', cap', w', lim', rest, r1, r2, r3, r4, r5, r6⟩ := appendMs_sound (P := P) (ty := ty) st ht hz hzA (by rw [hc]; exact hpos) hget (by rw [hc, flatK_len hf]) hk hcm hvy' (by simpa using hb1) (by simpa using hb2)
    (flatK_mem_plain hp zs) (fun x hx => by obtain ⟨a, _, rfl⟩ := List.mem_map.1 hx; exact ⟨by rw [hf, hc], hf1 a⟩) htop
  rw [hc, flatK_take hf] at r5
  simp only [List.length_map] at r1 r2 r4
  have r5' := r5.plainMem (b := b') (L := flatK f (zs.take k) ++ (ys.map f).flatMap AV.cells ++ rest) (by simp [AMem.upd])
  rw [upd_upd] at r5'
  obtain ⟨zs', hzs, hlen, hb'⟩ : ∃ zs' : List α, ((flatK f (zs.take k) ++ (ys.map f).flatMap AV.cells ++ rest).map AV.plain = flatK f zs') ∧ (zs'.length = cap' ∧ zs'.take (k + ys.length) = zs.take k ++ ys) ∧ (m b' = none ∧ (b' :: (L.eraseIdx i).map Prod.fst).Nodup) := by
    rcases r4 with ⟨rfl, rfl, rfl⟩ | ⟨hb', rfl⟩
    · refine ⟨zs.take k ++ ys ++ zs.drop (k + ys.length), ?_, ⟨by simp; omega, ?_⟩, hF, hNp⟩
      · rw [hc, flatK_drop hf, List.map_append, List.map_append, flatK_plain hp, flatK_plain hp, flatK_append, flatK_append]
        congr 2
        exact flatK_plain hp ys
      · rw [List.take_append_of_le_length (by simp; omega)]
        exact List.take_of_length_le (by simp; omega)
    · refine ⟨zs.take k ++ ys ++ List.replicate (cap' - (k + ys.length)) z0, ?_, ⟨by simp; omega, ?_⟩, ?_⟩
      · rw [List.map_append, List.map_append, flatten_plain hzp, flatK_plain hp, flatK_append, flatK_append]
        congr 2
        exact flatK_plain hp ys
      · rw [List.take_append_of_le_length (by simp; omega)]
        exact List.take_of_length_le (by simp; omega)
      · have h1 := wth_fresh hb'
        refine ⟨h1.2, List.nodup_cons.2 ⟨fun hmem => h1.1 ?_, (List.nodup_cons.1 hNp).2⟩⟩
        have : b' ∈ (b :: (L.eraseIdx i).map Prod.fst) := List.mem_cons_of_mem _ hmem
        exact ((hperm.map Prod.fst).mem_iff).2 (by simpa using this)
  rw [hzs] at r5'
  have hmem : ((m.wth L).upd b none).upd b' (some (.cells (flatK f zs'))) = m.wth ((b', .cells (flatK f zs')) :: L.eraseIdx i) := by
    funext c
    show _ = if c = b' then _ else _
    simp only [AMem.upd]
    by_cases h1 : c = b'
    · simp [h1]
    · rw [if_neg h1, if_neg h1]
      by_cases h2 : c = b
      · subst h2
        rw [if_pos rfl, wth_other (List.nodup_cons.1 hNp).1, hF]
      · rw [if_neg h2, hm1]
        show (if c = b then _ else _) = _
        rw [if_neg h2]
  rw [hmem] at r5'
  rw [← hlen.1] at r1 r3 r2
  refine ⟨_, _, w', lim', _, _, ?_, .inl rfl, r5'.putO (d := some d) (fun t ht => okOper_dst hk' ht) (.ms _ _ _ r2 r3), r6, h b' zs' hb'.1 hb'.2 hlen.2 r2⟩
  have e1 : (#[Operand.tmp s, y] : Array Operand).map ca.eval = #[.slice (some ⟨b, 0, none⟩) k zs.length, ca.eval y] := by apply Array.ext'; simp [hv]
  simp only [execOp, resolve, invoke, builtin, Sem.run_bind, Sem.run_pure, Result.andThen_ok, e1]
  rw [r1]; rfl
end
end Go.Aw
end
section
namespace Go.Aw
open Go Go.Sort
open Go.Proofs (sortWorldK ltOf)
def rawOk (s : Nat) (vs : List Value) : Prop := vs.length = s + 1 ∧ (∀ v ∈ vs, v.oneCell' = true) ∧ ∃ z : Int, vs.head? = some (.int .i64 z) ∧ 0 ≤ z ∧ z ≤ 1000000000
abbrev RawK (s : Nat) := { vs : List Value // rawOk s vs }
def rawKey {s : Nat} (x : RawK s) : Int := match x.1 with | .int _ z :: _ => z | _ => 0
instance (s : Nat) : Inhabited (RawK s) := ⟨⟨.int .i64 0 :: List.replicate s (.int .i64 0), by simp, by simp [Value.oneCell'], 0, rfl, by omega, by omega⟩⟩
theorem swoRaw (s : Nat) : SWO (ltOf fun x y : RawK s => rawKey x - rawKey y) where
  irrefl x := by simp [ltOf]
  trans x y z h1 h2 := by simp [ltOf] at *; omega
  ntrans x y z h1 h2 := by simp [ltOf] at *; omega
theorem perm_lift {α β : Type} {g : α → β} {R R' : List β} (h : R.Perm R') : ∀ l : List α, l.map g = R → ∃ l', l.Perm l' ∧ l'.map g = R' := by
  induction h with
  | nil => exact fun l hl => ⟨l, .refl _, hl⟩
  | cons x _ ih =>
    intro l hl
    cases l with
    | nil => simp at hl
    | cons a l =>
      simp at hl
      obtain ⟨l', h1, h2⟩ := ih l hl.2
      exact ⟨a :: l', h1.cons a, by simp [h2, hl.1]⟩
  | swap x y r =>
    intro l hl
    match l, hl with
    | a :: b :: l, hl =>
      simp at hl
      exact ⟨b :: a :: l, .swap _ _ _, by simp [hl]⟩
  | trans _ _ ih1 ih2 =>
    intro l hl
    obtain ⟨l1, h1, h2⟩ := ih1 l hl
    obtain ⟨l2, h3, h4⟩ := ih2 l1 h2
    exact ⟨l2, h1.trans h3, h4⟩
section
variable {P : Program} {F : Nat → Prop} {lim : Nat → Nat} {w w' : World} {n : Nat} {fr : Fr} {m : AMem} {ca : Act} {fl : List Nat}
theorem St.putVals (st : St F lim w n fr m ca []) {b : Nat} {L xs : List AV} {vs : List Value} (hm : m b = some (.cells L)) (hs : xs.length ≤ L.length) (hv : vs.length = xs.length) (hr : ∀ i, i < xs.length → Rep w lim (vs.getD i undef) (xs.getD i .junk) []) (k : Nat) (os : Array Obj) :
    St F lim (grow (putRow id (Go.Sort.ahead w k) b 0 vs.toArray) os) n fr (m.upd b (some (.cells (xs ++ L.drop xs.length)))) ca [] ∧ Pres F w lim (grow (putRow id (Go.Sort.ahead w k) b 0 vs.toArray) os) lim := by
  have hex : ∃ cs e, w.heap[b]? = some (.cells cs e (0, 0)) ∧ cs.size = L.length := by
    obtain ⟨os, om, ow, h⟩ := st
    have hM := (h.mem b _ hm).1
    cases hM with
    | cells cs e l _ hb hs hr => exact ⟨cs, e, hb, hs⟩
  obtain ⟨cs, e, hbk, hcs⟩ := hex
  obtain ⟨s1, s2⟩ := st.storeMem (off := 0) (xs := xs) (vs := vs) (oss := fun _ => []) hm hbk (by simpa using hs) hv hr (by rw [flatMap_nil])
  have e1 : (cs.toList.take 0 ++ vs ++ cs.toList.drop (0 + vs.length)).toArray = putCells id 0 vs.toArray cs := by
    apply Array.ext_getElem?
    intro i
    simp only [putCells, Array.getElem?_mapIdx, List.take_zero, List.nil_append, Nat.zero_add, List.getElem?_toArray, List.size_toArray, Nat.zero_le, true_and, Nat.sub_zero]
    by_cases hi : i < vs.length
    · rw [List.getElem?_append_left hi]
      have : i < cs.size := by omega
      simp [hi, this]
    · rw [List.getElem?_append_right (Nat.le_of_not_lt hi)]
      simp only [List.getElem?_drop, hi, if_false]
      rw [show vs.length + (i - vs.length) = i by omega]
      simp
  rw [e1] at s1 s2
  have e2 : (putRow id (Go.Sort.ahead w k) b 0 vs.toArray).heap = (w.setRow b (putCells id 0 vs.toArray cs)).heap := by
    show w.heap.modify b (onCells (putCells id 0 vs.toArray)) = (w.setRow b (putCells id 0 vs.toArray cs)).heap
    apply Array.ext_getElem?
    intro i
    by_cases hi : b = i
    · subst hi
      rw [setRow_heap w b cs _ e (0, 0) hbk]
      simp [Array.getElem?_modify, hbk, onCells]
    · rw [setRow_other w b i _ (Ne.symm hi)]
      simp [Array.getElem?_modify, hi]
  generalize hw1 : w.setRow b (putCells id 0 vs.toArray cs) = w1 at s1 s2 e2
  generalize hw2 : grow (putRow id (Go.Sort.ahead w k) b 0 vs.toArray) os = w2
  have hh : w2.heap = w1.heap ++ os := by rw [← hw2]; show (putRow id (Go.Sort.ahead w k) b 0 vs.toArray).heap ++ os = _; rw [e2]
  have hold : ∀ c, c < w1.heap.size → w2.heap[c]? = w1.heap[c]? := fun c hc => by rw [hh, Array.getElem?_append_left hc]
  have hcell : ∀ c o, o < lim c → w2.cell? ⟨c, o, none⟩ = w1.cell? ⟨c, o, none⟩ := fun c o ho => by
    simp [World.cell?, hold c (s1.lt_of_lim ho)]
  have hfr : ∀ c, w1.heap.size ≤ c → lim c = 0 := fun c hc => by
    obtain ⟨_, _, _, h⟩ := s1
    exact (h.fresh c hc).1
  rw [List.take_zero, List.nil_append, Nat.zero_add] at s1
  refine ⟨?_, s2.trans ?_⟩
  · exact s1.world (w' := w2) (lim' := lim) (by rw [hh]; simp) (fun _ => Nat.le_refl _) hcell (fun c hc => .inr ⟨hold c hc, rfl⟩) (fun c hc => ⟨hold c (s1.lt_of_mem hc), rfl⟩) (fun c hc => hfr c (by rw [hh] at hc; simp at hc; omega))
  · refine ⟨?_, ?_, ?_, by rw [hh]; simp, fun c hc => ⟨hold c (s1.lt_of_F hc), rfl⟩, fun _ => Nat.le_refl _, hcell⟩ <;> (rw [← hw2, ← hw1]; rfl)
theorem func_inv {v : Value} {g : FuncId} {os : List Nat} (h : Rep w lim v (.func (.func g) [] []) os) : v = .func (.func g) #[] #[] := by
  generalize hx : AV.func (.func g) [] [] = x at h
  cases h <;> first | (cases hx; done) | skip
  rename_i f c fl cl hf hc _ _
  cases hx
  have e1 : f = #[] := by simpa using hf
  have e2 : c = #[] := by simpa using hc
  rw [e1, e2]
theorem int_inv {v : Value} {z : Int} {os : List Nat} (h : Rep w lim v (.int .i64 z) os) : v = .int .i64 z := by
  generalize hx : AV.int .i64 z = x at h
  cases h <;> first | (cases hx; done) | skip
  cases hx; rfl
set_option maxHeartbeats 2000000 in
theorem acalls_sortK {f g : FuncId} {s : Nat} {α : Type} [Inhabited α] {fA : α → AV} (key : α → Int) (hex : ∃ fn, P.funcs[f]? = some fn ∧ fn.body.isSome = true ∧ (fn.name == "runtime.NumGoroutine") = false)
    (hC : ∀ (blk off cap : Nat) (d : Array (RawK s)) (w : World), HoldsK (fun x : RawK s => x.1) (s + 1) w blk off d → blk < w.heap.size → d.size < 4611686018427387904 →
      Calls P f #[.slice (some ⟨blk, off, none⟩) d.size cap, .func (.func g) #[] #[]] w fun e w' => e = .returned (.tuple #[]) ∧ ∃ d' n os, PermIn 0 d.size d d' ∧ SortedIn (ltOf fun x y : RawK s => rawKey x - rawKey y) 0 d.size d' ∧ w' = sortWorldK (fun x : RawK s => x.1) (s + 1) w blk off n d' os)
    (hf : ∀ a, (fA a).cells.length = s + 1) (hf1 : ∀ a, (fA a).cells.all AV.one = true) (hp : ∀ a, (fA a).plain = fA a) (hkey : ∀ a, (fA a).cells.getD 0 .junk = .int .i64 (key a))
    (b k cap : Nat) (zs : List α) (hk : k ≤ zs.length) (hkb : k ≤ 140737488355328) (hks : ∀ a ∈ zs.take k, 0 ≤ key a ∧ key a ≤ 1000000000) (m : AMem) (K : AV → AMem → Prop)
    (hK : ∀ zs', zs'.Perm (zs.take k) → zs'.Pairwise (fun a b => key a ≤ key b) → K (.tuple []) (m.wth [(b, .cells (flatK fA (zs' ++ zs.drop k)))])) :
    ACalls P f [.ms ⟨b, 0, none⟩ k cap, .func (.func g) [] []] (m.wth [(b, .cells (flatK fA zs))]) K := by
  refine ⟨hex, fun F lim w cargs hs hr st => ?_⟩
  have h0 := hr 0 (by simp)
  have h1 := hr 1 (by simp)
  simp only [List.getD_cons_zero] at h0
  simp only [List.getD_cons_succ, List.getD_cons_zero] at h1
  obtain ⟨e0, _, hcm⟩ := rep_ms_inv h0
  have e1 := func_inv h1
  have ec : cargs = #[.slice (some ⟨b, 0, none⟩) k cap, .func (.func g) #[] #[]] := by
    apply Array.ext (by simp [hs])
    intro i hi hi'
    have : cargs.getD i undef = cargs[i] := by simp [Array.getD, hi]
    rw [← this]
    have hi2 : i < 2 := by simpa [hs] using hi
    match i, hi2 with
    | 0, _ => rw [e0]; rfl
    | 1, _ => rw [e1]; rfl
  have hm : (m.wth [(b, .cells (flatK fA zs))]) b = some (.cells (flatK fA zs)) := wth_get (L := [(b, .cells (flatK fA zs))]) 0 (by simp) rfl
  have hzl := flatK_len hf zs
  have hcells : ∃ cs e, w.heap[b]? = some (.cells cs e (0, 0)) ∧ cs.size = zs.length * (s + 1) ∧ ∀ q, q < zs.length * (s + 1) → Rep w lim (cs.getD q undef) ((flatK fA zs).getD q .junk) [] := by
    obtain ⟨os, om, ow, h⟩ := st
    have hM := (h.mem b _ hm).1
    cases hM with
    | cells cs e l _ hb hs hr =>
      refine ⟨cs, e, hb, by rw [hs, hzl], fun q hq => ?_⟩
      have h2 := (hr q (by rw [hzl]; exact hq)).plain
      have h3 := flatK_mem_plain hp zs ((flatK fA zs).getD q .junk) (by
        have : q < (flatK fA zs).length := by rw [hzl]; exact hq
        simp [List.getD_eq_getElem?_getD, this])
      rwa [h3] at h2
  obtain ⟨cs, e, hb, hsz, hcv⟩ := hcells
  have hlt : b < w.heap.size := (Array.getElem?_eq_some_iff.1 hb).1
  have hdm : ∀ i j, i < k → j < s + 1 → i * (s + 1) + j < zs.length * (s + 1) ∧ (i * (s + 1) + j) / (s + 1) = i ∧ (i * (s + 1) + j) % (s + 1) = j := fun i j hi hj => by
    have h3 : i * (s + 1) + (s + 1) ≤ zs.length * (s + 1) := by rw [← Nat.succ_mul]; exact Nat.mul_le_mul_right _ (by omega)
    refine ⟨by omega, ?_, ?_⟩
    · rw [Nat.mul_comm, Nat.mul_add_div (by omega), Nat.div_eq_of_lt hj, Nat.add_zero]
    · rw [Nat.mul_comm, Nat.mul_add_mod, Nat.mod_eq_of_lt hj]
  have hget : ∀ i j, i < k → j < s + 1 → (flatK fA zs).getD (i * (s + 1) + j) .junk = (fA (zs.getD i default)).cells.getD j .junk := fun i j hi hj => by
    obtain ⟨q1, q2, q3⟩ := hdm i j hi hj
    rw [flatK_get hf (by omega) zs _ q1, q2, q3]
    have : i < zs.length := by omega
    simp [List.getD_eq_getElem?_getD, this]
  have hcell : ∀ i j, i < k → j < s + 1 → Rep w lim (cs.getD (i * (s + 1) + j) undef) ((fA (zs.getD i default)).cells.getD j .junk) [] := fun i j hi hj => by
    have := hcv _ (hdm i j hi hj).1
    rwa [hget i j hi hj] at this
  let raw : Nat → List Value := fun i => (List.range (s + 1)).map fun j => cs.getD (i * (s + 1) + j) undef
  have hrawl : ∀ i, (raw i).length = s + 1 := fun i => by simp [raw]
  have hmem : ∀ i, i < k → zs.getD i default ∈ zs.take k := fun i hi => by
    have h3 : i < (zs.take k).length := by simp; omega
    have h4 : (zs.take k)[i] = zs.getD i default := by
      have : i < zs.length := by omega
      simp [List.getD_eq_getElem?_getD, this]
    rw [← h4]; exact List.getElem_mem h3
  have hraw0 : ∀ i, i < k → (raw i).head? = some (.int .i64 (key (zs.getD i default))) := fun i hi => by
    have h3 := hcell i 0 hi (by omega)
    rw [hkey] at h3
    have h4 := int_inv h3
    rw [Nat.add_zero] at h4
    simp only [raw, List.range_succ_eq_map, List.map_cons, List.head?_cons, Nat.add_zero, h4]
  have hok : ∀ i, i < k → rawOk s (raw i) := fun i hi => by
    refine ⟨hrawl i, fun v hv => ?_, _, hraw0 i hi, (hks _ (hmem i hi)).1, (hks _ (hmem i hi)).2⟩
    obtain ⟨j, hj, rfl⟩ := List.mem_map.1 hv
    have hj' : j < s + 1 := by simpa using hj
    exact one_cell_of (hf1 (zs.getD i default)) (by rw [hf]; exact hj') (hcell i j hi hj')
  have : ∀ i, ∃ x : RawK s, i < k → x.1 = raw i := fun i => by
    by_cases hi : i < k
    · exact ⟨⟨raw i, hok i hi⟩, fun _ => rfl⟩
    · exact ⟨default, fun h => absurd h hi⟩
  obtain ⟨mk, hmk⟩ := Classical.axiomOfChoice this
  have hkeyr : ∀ i, i < k → rawKey (mk i) = key (zs.getD i default) := fun i hi => by
    have h3 := hraw0 i hi
    rw [← hmk i hi] at h3
    unfold rawKey
    cases hx : (mk i).1 with
    | nil => rw [hx] at h3; cases h3
    | cons a r =>
      rw [hx] at h3
      simp only [List.head?_cons, Option.some.injEq] at h3
      subst h3; rfl
  let R : List (RawK s) := (List.range k).map mk
  have hRl : R.length = k := by simp [R]
  have hRg : ∀ i, i < k → R.toArray[i]! = mk i := fun i hi => by
    have : i < R.toArray.size := by simpa [hRl] using hi
    rw [getElem!_pos R.toArray i this]; simp [R]
  have hH : HoldsK (fun x : RawK s => x.1) (s + 1) w b 0 R.toArray := fun j hj => by
    have hj' : j < k * (s + 1) := by simpa [hRl] using hj
    have hi : j / (s + 1) < k := Nat.div_lt_of_lt_mul (by rw [Nat.mul_comm]; exact hj')
    have hjm := Nat.mod_lt j (show 0 < s + 1 by omega)
    have h4 : j / (s + 1) * (s + 1) + j % (s + 1) = j := by rw [Nat.mul_comm]; exact Nat.div_add_mod j (s + 1)
    refine ⟨?_, by simp [World.frozen?, hb]⟩
    rw [get_flatK _ _ _ j (by simpa [hRl] using hj'), hRg _ hi, hmk _ hi]
    have h5 : (raw (j / (s + 1)))[j % (s + 1)]! = cs.getD j undef := by
      rw [getElem!_pos (raw (j / (s + 1))) (j % (s + 1)) (by rw [hrawl]; exact hjm)]
      simp only [raw, List.getElem_map, List.getElem_range]
      rw [h4]
    rw [h5]
    have hjc : j < cs.size := by rw [hsz]; exact Nat.lt_of_lt_of_le hj' (Nat.mul_le_mul_right _ hk)
    simp [World.cell?, hb, Array.getD, hjc]
  have hC0 := hC b 0 cap R.toArray w hH hlt (by simp [hRl]; omega)
  simp only [List.size_toArray, hRl] at hC0
  rw [ec]
  refine hC0.mono fun e w' ⟨he, d', nn, os, ⟨hp1, _, hp3⟩, hso, hw⟩ => ?_
  have hd's : d'.size = k := by rw [hp1]; simp [hRl]
  have hperm : d'.toList.Perm R := by
    have e2 : d'.extract 0 k = d' := by rw [← hd's]; simp
    have e3 : R.toArray.extract 0 k = R.toArray := by
      have : k = R.toArray.size := by simp [hRl]
      rw [this]; simp
    rw [e2, e3] at hp3
    exact hp3
  obtain ⟨I, hI1, hI2⟩ := perm_lift hperm.symm (List.range k) rfl
  have hIl : I.length = k := by rw [← hI1.length_eq]; simp
  have hIk : ∀ i, i < k → I.getD i 0 < k := fun i hi => by
    have : i < I.length := by omega
    have h3 : I[i] ∈ List.range k := hI1.mem_iff.2 (List.getElem_mem this)
    simpa [List.getD_eq_getElem?_getD, this] using h3
  have hdg : ∀ i, i < k → d'[i]! = mk (I.getD i 0) := fun i hi => by
    have h3 : i < d'.size := by omega
    have h4 : i < I.length := by omega
    rw [getElem!_pos d' i h3]
    have h5 : d'.toList[i]'(by simpa using h3) = (I.map mk)[i]'(by simpa using h4) := by simp only [hI2]
    simpa [List.getD_eq_getElem?_getD, h4] using h5
  let zs' : List α := I.map fun i => zs.getD i default
  have hzs'l : zs'.length = k := by simp [zs', hIl]
  have hzg : ∀ i, i < k → (zs'.map fA).getD i .junk = fA (zs.getD (I.getD i 0) default) := fun i hi => by
    have h4 : i < I.length := by omega
    simp [zs', List.getD_eq_getElem?_getD, h4]
  have hzp : zs'.Perm (zs.take k) := by
    have h3 : (List.range k).map (fun i => zs.getD i default) = zs.take k := by
      apply List.ext_getElem (by simp; omega)
      intro i h4 h5
      have : i < zs.length := by simp at h5; omega
      simp [List.getD_eq_getElem?_getD, this]
    rw [← h3]
    exact (hI1.map _).symm
  have hzo : zs'.Pairwise (fun a b => key a ≤ key b) := by
    rw [List.pairwise_iff_getElem]
    intro i j hi hj hij
    have hj' : j < k := by omega
    have hi' : i < k := by omega
    have h3 := hso i j (Nat.zero_le _) hij hj'
    rw [hdg i hi', hdg j hj'] at h3
    simp only [ltOf, decide_eq_false_iff_not] at h3
    rw [hkeyr _ (hIk i hi'), hkeyr _ (hIk j hj')] at h3
    have h4 : i < I.length := by omega
    have h5 : j < I.length := by omega
    simp only [zs', List.getElem_map]
    simp only [List.getD_eq_getElem?_getD, List.getElem?_eq_getElem h4, List.getElem?_eq_getElem h5, Option.getD_some] at h3
    simp only [List.getD_eq_getElem?_getD]
    omega
  have hfl := flatK_len hf zs'
  obtain ⟨s1, s2⟩ := st.putVals hm (xs := flatK fA zs') (vs := (Go.Sort.flatK (fun x : RawK s => x.1) (s + 1) d').toList) (by rw [hfl, hzl, hzs'l]; exact Nat.mul_le_mul_right _ hk) (by simp [hfl, hzs'l, hd's]) (fun q hq => by
    rw [hfl, hzs'l] at hq
    have hi : q / (s + 1) < k := Nat.div_lt_of_lt_mul (by rw [Nat.mul_comm]; exact hq)
    have hjm := Nat.mod_lt q (show 0 < s + 1 by omega)
    rw [flatK_get hf (by omega) zs' q (by rw [hzs'l]; exact hq), hzg _ hi]
    have h5 : (Go.Sort.flatK (fun x : RawK s => x.1) (s + 1) d').toList.getD q undef = cs.getD (I.getD (q / (s + 1)) 0 * (s + 1) + q % (s + 1)) undef := by
      have h6 : q < (Go.Sort.flatK (fun x : RawK s => x.1) (s + 1) d').size := by simpa [hd's] using hq
      have h7 := get_flatK (fun x : RawK s => x.1) (s + 1) d' q (by rw [hd's]; exact hq)
      rw [getElem!_pos (Go.Sort.flatK (fun x : RawK s => x.1) (s + 1) d') q h6, hdg _ hi, hmk _ (hIk _ hi), getElem!_pos (raw (I.getD (q / (s + 1)) 0)) (q % (s + 1)) (by rw [hrawl]; exact hjm)] at h7
      have h8 : (Go.Sort.flatK (fun x : RawK s => x.1) (s + 1) d').toList.getD q undef = (Go.Sort.flatK (fun x : RawK s => x.1) (s + 1) d')[q] := by
        rw [List.getD_eq_getElem?_getD, Array.getElem?_toList, Array.getElem?_eq_getElem h6]; rfl
      rw [h8, h7]
      simp [raw]
    rw [h5]
    exact hcell _ _ (hIk _ hi) hjm) nn os
  have ew : w' = grow (putRow id (Go.Sort.ahead w nn) b 0 (Go.Sort.flatK (fun x : RawK s => x.1) (s + 1) d').toList.toArray) os := by
    rw [hw]; simp [sortWorldK, putRowK]
  have eu : (m.wth [(b, .cells (flatK fA zs))]).upd b (some (.cells (flatK fA zs' ++ (flatK fA zs).drop (flatK fA zs').length))) = m.wth [(b, .cells (flatK fA (zs' ++ zs.drop k)))] := by
    rw [hfl, hzs'l, flatK_drop hf, flatK_append]
    exact wth_set (L := [(b, .cells (flatK fA zs))]) 0 (by simp) rfl
  rw [eu, ← ew] at s1
  rw [← ew] at s2
  refine ⟨.tuple #[], .tuple [], lim, _, [], he, hK zs' hzp hzo, ?_, s1, s2⟩
  have := Rep.tuple (w := w') (lim := lim) #[] [] (fun _ => []) rfl (fun i hi => by simp at hi)
  rwa [flatMap_nil] at this
theorem St.freezeK {α : Type} {f : α → AV} {sz : Nat} (st : St F lim w n fr m ca []) {b : Nat} {zs : List α} (hf : ∀ a, (f a).cells.length = sz) (hpos : 0 < sz) (hp : ∀ a, (f a).plain = f a) (hm : m b = some (.cells (flatK f zs))) :
    St F (fun c => if c = b then zs.length * sz else lim c) w n fr (m.upd b none) ca [] ∧ Pres F w lim w (fun c => if c = b then zs.length * sz else lim c) ∧
    ∀ k cap v, k ≤ zs.length → k ≤ 140737488355328 → Rep w lim v (.ms ⟨b, 0, none⟩ k cap) [] → Rep w (fun c => if c = b then zs.length * sz else lim c) v (.slice false ((zs.take k).map f)) [] := by
  obtain ⟨os, om, ow, h⟩ := st
  obtain ⟨hM, hl, hF⟩ := h.mem b _ hm
  have hlim : ∀ c, lim c ≤ if c = b then zs.length * sz else lim c := fun c => by split <;> simp_all
  have hown : ∀ c, ow c ≠ .none → c ≠ b := fun c hc e => by subst e; have := (h.free c hc).2.1; rw [hm] at this; cases this
  have hst : ∀ {v x os'}, Rep w lim v x os' → (∀ c ∈ os', ow c ≠ .none) → Rep w (fun c => if c = b then zs.length * sz else lim c) v x os' := fun hR ho => hR.stable hlim (fun _ _ _ => rfl) (fun c hc => ⟨rfl, if_neg (hown c (ho c hc))⟩)
  have hblt : b < w.heap.size := by
    rcases Nat.lt_or_ge b w.heap.size with h3 | h3
    · exact h3
    · rw [(h.fresh b h3).2.2] at hm; cases hm
  refine ⟨⟨os, om, ow, h.size, h.defers, fun t x hx => ⟨(h.slots t x hx).1, hst (h.slots t x hx).2 (fun c hc => by rw [(h.ownS t x hx).2 c hc]; simp)⟩, fun c o hc => ?_, h.ownS, fun c o hc i => ?_, h.ownF, fun c hc => ⟨(h.free c hc).1, ?_, (h.free c hc).2.2⟩, fun c hc => ?_⟩, ⟨rfl, rfl, rfl, Nat.le_refl _, fun c hc => ⟨rfl, ?_⟩, hlim, fun _ _ _ => rfl⟩, fun k cap v hk hz hv => ?_⟩
  · have hcb : c ≠ b := fun e => by subst e; simp [AMem.upd] at hc
    simp only [AMem.upd, if_neg hcb] at hc
    have := h.mem c o hc
    refine ⟨this.1.stable rfl hlim (fun _ _ _ => rfl) (fun i q hq => ⟨rfl, if_neg (hown q (by rw [(h.ownM c o hc i).2 q hq]; simp))⟩), by rw [if_neg hcb]; exact this.2.1, this.2.2⟩
  · have hcb : c ≠ b := fun e => by subst e; simp [AMem.upd] at hc
    simp only [AMem.upd, if_neg hcb] at hc
    exact h.ownM c o hc i
  · have := (h.free c hc).2.1
    simp only [AMem.upd]; split
    · rfl
    · exact this
  · have := h.fresh c hc
    have hcb : c ≠ b := by omega
    refine ⟨by rw [if_neg hcb]; exact this.1, this.2.1, ?_⟩
    simp only [AMem.upd, if_neg hcb]; exact this.2.2
  · exact if_neg (fun e => hF (by rw [← e]; exact hc))
  · obtain ⟨rfl, hkc, hcm⟩ := rep_ms_inv hv
    rcases Nat.eq_zero_or_pos k with h0 | h0
    · subst h0
      exact .empty _ cap hcm
    cases hM with
    | cells cs e l _ hb hs hr =>
      have hsz : cs.size = zs.length * sz := by rw [hs, flatK_len hf]
      have hq : ∀ i j, i < k → j < sz → i * sz + j < zs.length * sz ∧ (i * sz + j) / sz = i ∧ (i * sz + j) % sz = j := fun i j hi hj => by
        have h3 : i * sz + sz ≤ zs.length * sz := by rw [← Nat.succ_mul]; exact Nat.mul_le_mul_right _ (by omega)
        refine ⟨by omega, ?_, ?_⟩
        · rw [Nat.mul_comm, Nat.mul_add_div (by omega), Nat.div_eq_of_lt hj, Nat.add_zero]
        · rw [Nat.mul_comm, Nat.mul_add_mod, Nat.mod_eq_of_lt hj]
      refine Rep.slice b 0 k cap sz _ (fun i j => cs.getD (i * sz + j) undef) (by simp; omega) hkc hcm hz (fun i hi => ?_) (by simp; exact Nat.mul_le_mul_right _ hk) (fun i j hi hj => ?_) (fun i j hi hj => ?_)
      · have hiz : i < zs.length := by omega
        simp [List.getD_eq_getElem?_getD, hi, hiz, hf]
      · have hic : i * sz + j < cs.size := by rw [hsz]; exact (hq i j hi hj).1
        simp [World.cell?, hb, Array.getD, hic]
      · have hiz : i < zs.length := by omega
        obtain ⟨q1, q2, q3⟩ := hq i j hi hj
        have h1 := (hr (i * sz + j) (by rw [flatK_len hf]; exact q1)).plain
        have h2 := flatK_mem_plain hp zs ((flatK f zs).getD (i * sz + j) .junk) (by
          have : i * sz + j < (flatK f zs).length := by rw [flatK_len hf]; exact q1
          simp [List.getD_eq_getElem?_getD, this])
        rw [h2, flatK_get hf hpos zs _ q1, q2, q3] at h1
        have e3 : ((zs.take k).map f).getD i .junk = (zs.map f).getD i .junk := by simp [List.getD_eq_getElem?_getD, hi, hiz]
        rw [e3]
        exact h1.stable hlim (fun _ _ _ => rfl) (by simp)
theorem awp_freezeK {α : Type} {f : α → AV} {sz : Nat} {c : Code} {Q : Exit → Fr → AMem → Prop} {L : List (Nat × AObj)} (t i : Nat) {b k cap : Nat} (zs : List α) (hf : ∀ a, (f a).cells.length = sz) (hpos : 0 < sz) (hp : ∀ a, (f a).plain = f a) (hx : fr.get t = some (.ms ⟨b, 0, none⟩ k cap)) (hi : L[i]? = some (b, .cells (flatK f zs))) (hN : (L.map Prod.fst).Nodup) (hF : m b = none) (hk : k ≤ zs.length) (hz : k ≤ 140737488355328)
    (h : AWP P n c Q (fr.conv1 t (.slice false ((zs.take k).map f))) (m.wth (L.eraseIdx i))) : AWP P n c Q fr (m.wth L) := fun F lim w ca st => by
  have hm := wth_get (m := m) i hN hi
  obtain ⟨s1, s2, s3⟩ := st.freezeK hf hpos hp hm
  have hrep : ∀ v, Rep w lim v (.ms ⟨b, 0, none⟩ k cap) [] → Rep w (fun c => if c = b then zs.length * sz else lim c) v (.slice false ((zs.take k).map f)) [] := fun v => s3 k cap v hk hz
  have hslot : ∃ v, ca.tmps.getD t undef = v ∧ Rep w lim v (.ms ⟨b, 0, none⟩ k cap) [] := by
    obtain ⟨os, om, ow, h0⟩ := st
    have := (h0.slots t _ hx).2
    have ho2 : os t = [] := ms_none this
    rw [ho2] at this
    exact ⟨_, rfl, this⟩
  obtain ⟨v, hv, hv2⟩ := hslot
  have hperm := eraseIdx_split hi
  have em : (m.wth L).upd b none = m.wth (L.eraseIdx i) := by
    rw [wth_perm hN hperm]
    have hnb : b ∉ (L.eraseIdx i).map Prod.fst := by
      have := (hperm.map Prod.fst).nodup_iff.1 hN
      exact (List.nodup_cons.1 (by simpa using this)).1
    funext q
    simp only [AMem.upd]
    split
    · rename_i e; subst e
      rw [wth_other hnb, hF]
    · rename_i e
      show (if q = b then _ else (m.wth (L.eraseIdx i)) q) = _
      rw [if_neg e]
  rw [em] at s1
  have st2 : St F (fun c => if c = b then zs.length * sz else lim c) w n (fr.conv1 t (.slice false ((zs.take k).map f))) (m.wth (L.eraseIdx i)) ca [] := by
    obtain ⟨os, om, ow, h0⟩ := s1
    have hos : os t = [] := by
      exact ms_none (h0.slots t _ hx).2
    refine ⟨os, om, ow, h0.size, h0.defers, fun s x hx2 => ?_, h0.mem, fun s x hx2 => ?_, h0.ownM, h0.ownF, h0.free, h0.fresh⟩
    · rw [Fr.get_conv1] at hx2
      by_cases hs : s = t
      · subst hs
        rw [if_pos rfl, hx] at hx2
        obtain rfl : AV.slice false ((zs.take k).map f) = x := by simpa using hx2
        refine ⟨(h0.slots s _ hx).1, ?_⟩
        rw [hos, hv]; exact hrep v hv2
      · rw [if_neg hs] at hx2
        exact h0.slots s x hx2
    · rw [Fr.get_conv1] at hx2
      by_cases hs : s = t
      · subst hs
        rw [hos]; simp
      · rw [if_neg hs] at hx2
        exact h0.ownS s x hx2
  exact wp_mono (h F _ w ca st2) fun e a w' ⟨l, f, m', q, st', pr⟩ => ⟨l, f, m', q, st', s2.trans pr⟩
end
end Go.Aw
end
section
namespace Go.Aw
open Go
section
variable {P : Program}
theorem resK_cell3 {fr : Fr} {m : AMem} {fn : Func} {K : AV → AMem → Prop} {a t s u b off : Nat} {l : List AV} (hr : fn.results.toList = [.cell a t, .tmp s, .tmp u]) (hraw : rawOf fr a = .ptr ⟨b, off, none⟩) (hm : m b = some (.cells l)) (hok : apartOk P t l off) (x y y' : AV) (hx : (apart P t l off).plain = x)
    (hy : resOf P fr m (.tmp s) = some (True, y)) (hy' : resOf P fr m (.tmp u) = some (True, y')) (z z' : AV) (hz : y.plain = z) (hz' : y'.plain = z') (m' : AMem) (hs : ∀ b o, m' b = some o → m b = some o) (hK : K (.tuple [x, z, z']) m') : resK P fn fr m K := by
  unfold resK
  rw [hr]
  simp only [resOf_cell hraw hm, hy, hy']
  rw [hx, hz, hz']
  exact ⟨hok, trivial, trivial, m', hs, hK⟩
end
section
variable {P : Program} {fr : Fr} {m : AMem} {ops : Array Oper} {cs : List AV} {r : List Oper} {KK : Fr → Prop} {d : Nat} {ty : TypeId} {pos : String} {af : Array Edge} {gd : Option (Nat × Bool)} {L : List (Nat × AObj)}
theorem pq_lenMap (hg : gOn ops fr gd = some true) {α : Type} (f : α → AV × AV) (l : List α) {t ke ve : TypeId} {x : Operand} {b : Nat} (ht : P.underlying t = some (.map ke ve)) (hx : evP (rawOf fr) x = .map b) (hm : m.wth L b = some (.map (l.map f)))
    (h : pseq P ops (m.wth L) cs r (fr.put d (.int .i64 l.length)) KK) : pseq P ops (m.wth L) cs (⟨some d, .call ⟨.builtin .len, #[x], #[t]⟩, ty, pos, af, gd⟩ :: r) fr KK :=
  pq_qv hg (side := True) (x := .int .i64 (l.map f).length) rfl (by simp [qv, ht, hx, hm]) trivial (by simp) h
theorem awp_subQ {P : Program} {n : Nat} {c : Code} {Q : Exit → Fr → AMem → Prop} {fr : Fr} {m : AMem} (h : AWP P n c (fun e fr m => ∃ m', (∀ b o, m' b = some o → m b = some o) ∧ Q e fr m') fr m) : AWP P n c Q fr m := fun F lim w ca st =>
  wp_mono (h F lim w ca st) fun _ _ _ ⟨l, f, _, ⟨m2, hs, q⟩, st', pr⟩ => ⟨l, f, m2, q, st'.memSub hs, pr⟩
end
end Go.Aw
end
section
namespace Go.Aw
section
variable {κ ν : Type} [DecidableEq κ]
theorem mget_memG : ∀ {l : List (κ × ν)} {k : κ} {v : ν}, mget l k = some v → (k, v) ∈ l
  | [], _, _, h => by cases h
  | (a, b) :: r, k, v, h => by
    rw [mget] at h
    split at h
    · rename_i e
      cases h; rw [e]; exact List.mem_cons_self ..
    · exact List.mem_cons_of_mem _ (mget_memG h)
theorem mget_noneG : ∀ {l : List (κ × ν)} {k : κ}, mget l k = none ↔ k ∉ l.map Prod.fst
  | [], k => by simp [mget]
  | (a, b) :: r, k => by
    rw [mget]
    split
    · rename_i e; simp [e]
    · rename_i e
      rw [mget_noneG, List.map_cons, List.mem_cons, not_or]
      exact ⟨fun h => ⟨fun e' => e e'.symm, h⟩, fun h => h.2⟩
theorem mget_mputG : ∀ (l : List (κ × ν)) (k k' : κ) (v : ν), mget (mput l k v) k' = if k = k' then some v else mget l k'
  | [], k, k', v => by rw [mput, mget, mget, mget]
  | (a, b) :: r, k, k', v => by
    rw [mput]
    split
    · rename_i e
      subst e
      rw [mget, mget]
      split <;> rfl
    · rename_i e
      rw [mget, mget, mget_mputG r k k' v]
      by_cases h : a = k'
      · rw [if_pos h, if_neg (by rintro rfl; exact e h), if_pos h]
      · rw [if_neg h, if_neg h]
theorem mput_memG : ∀ {l : List (κ × ν)} {k : κ} {v : ν} {q : κ × ν}, q ∈ mput l k v → q = (k, v) ∨ q ∈ l
  | [], k, v, q, h => by simpa [mput] using h
  | (a, b) :: r, k, v, q, h => by
    rw [mput] at h
    split at h
    · rcases List.mem_cons.1 h with h | h
      · exact .inl h
      · exact .inr (List.mem_cons_of_mem _ h)
    · rcases List.mem_cons.1 h with h | h
      · exact .inr (h ▸ List.mem_cons_self ..)
      · exact (mput_memG h).imp id (List.mem_cons_of_mem _)
theorem mput_keysG : ∀ (l : List (κ × ν)) (k : κ) (v : ν), (mput l k v).map Prod.fst = if k ∈ l.map Prod.fst then l.map Prod.fst else l.map Prod.fst ++ [k]
  | [], k, v => by simp [mput]
  | (a, b) :: r, k, v => by
    rw [mput]
    split
    · rename_i e; subst e; simp
    · rename_i e
      rw [List.map_cons, mput_keysG r k v, List.map_cons]
      have e' : k ≠ a := fun h => e h.symm
      by_cases h : k ∈ r.map Prod.fst
      · rw [if_pos h, if_pos (List.mem_cons_of_mem _ h)]
      · rw [if_neg h, if_neg (by rw [List.mem_cons, not_or]; exact ⟨e', h⟩)]; rfl
theorem mput_ndG {l : List (κ × ν)} {k : κ} {v : ν} (h : (l.map Prod.fst).Nodup) : ((mput l k v).map Prod.fst).Nodup := by
  rw [mput_keysG]
  split
  · exact h
  · rename_i hk
    refine List.nodup_append.2 ⟨h, by simp, fun a ha b hb e => ?_⟩
    rw [List.mem_singleton] at hb
    exact hk (hb ▸ e ▸ ha)
theorem mdel_subG : ∀ (l : List (κ × ν)) (k : κ), (mdel l k).Sublist l
  | [], _ => List.Sublist.refl _
  | (a, b) :: r, k => by
    rw [mdel]
    split
    · exact List.sublist_cons_self _ _
    · exact (mdel_subG r k).cons_cons _
theorem mdel_ndG {l : List (κ × ν)} {k : κ} (h : (l.map Prod.fst).Nodup) : ((mdel l k).map Prod.fst).Nodup := h.sublist ((mdel_subG l k).map _)
theorem mput_len_some {l : List (κ × ν)} {k : κ} {v : ν} (h : (mget l k).isSome = true) : (mput l k v).length = l.length := by
  have e := mput_keysG l k v
  have hk : k ∈ l.map Prod.fst := by
    refine Classical.byContradiction fun hn => ?_
    rw [mget_noneG.2 hn] at h; cases h
  rw [if_pos hk] at e
  have := congrArg List.length e
  simpa using this
end
end Go.Aw
end
section
namespace Go.Aw
open Go
section
variable {α : Type} {f : α → AV} {sz : Nat}
theorem flatK_set (xs : List α) (y : α) (k : Nat) (hk : k < xs.length) : flatK f (xs.set k y) = flatK f (xs.take k) ++ ((f y).cells ++ flatK f (xs.drop (k + 1))) := by
  rw [List.set_eq_take_append_cons_drop, if_pos hk, flatK_append, flatK_cons]
theorem flatK_at_le (hf : ∀ a, (f a).cells.length = sz) (xs : List α) {k j n : Nat} (hk : k < xs.length) (hj : j + n ≤ sz) : k * sz + j + n ≤ (flatK f xs).length := by
  rw [flatK_len hf]
  have : (k + 1) * sz ≤ xs.length * sz := Nat.mul_le_mul_right _ hk
  rw [Nat.add_mul, Nat.one_mul] at this
  omega
end
section
variable {α : Type} [Inhabited α] {f : α → AV} {sz : Nat}
theorem flatK_split (f : α → AV) (xs : List α) (k : Nat) (hk : k < xs.length) : flatK f xs = flatK f (xs.take k) ++ ((f (xs.getD k default)).cells ++ flatK f (xs.drop (k + 1))) := by
  rw [← flatK_cons, ← flatK_append]
  congr 1
  have e : xs.getD k default = xs[k] := by simp [hk]
  rw [e, ← List.drop_eq_getElem_cons hk, List.take_append_drop]
theorem flatK_drop_at (hf : ∀ a, (f a).cells.length = sz) (xs : List α) (k : Nat) (hk : k < xs.length) (j : Nat) (hj : j ≤ sz) : (flatK f xs).drop (k * sz + j) = (f (xs.getD k default)).cells.drop j ++ flatK f (xs.drop (k + 1)) := by
  have hl : (flatK f (xs.take k)).length = k * sz := by rw [flatK_len hf, List.length_take, Nat.min_eq_left (Nat.le_of_lt hk)]
  rw [flatK_split f xs k hk, ← hl, List.drop_length_add_append, List.drop_append_of_le_length (by rw [hf]; exact hj)]
theorem flatK_take_at (hf : ∀ a, (f a).cells.length = sz) (xs : List α) (k : Nat) (hk : k < xs.length) (j : Nat) (hj : j ≤ sz) : (flatK f xs).take (k * sz + j) = flatK f (xs.take k) ++ (f (xs.getD k default)).cells.take j := by
  have hl : (flatK f (xs.take k)).length = k * sz := by rw [flatK_len hf, List.length_take, Nat.min_eq_left (Nat.le_of_lt hk)]
  rw [flatK_split f xs k hk, ← hl, List.take_length_add_append, List.take_append_of_le_length (by rw [hf]; exact hj)]
def partK (P : Program) (t : TypeId) (l : List AV) (j : Nat) : AV := if aggT P t then .agg ((l.drop j).take (P.cellsOf t)) else l.getD j .junk
theorem apart_flatK {P : Program} {t : TypeId} (hf : ∀ a, (f a).cells.length = sz) (xs : List α) {k j : Nat} (hk : k < xs.length) (hj : j + P.cellsOf t ≤ sz) (hc : aggT P t = true ∨ j < sz) : apart P t (flatK f xs) (k * sz + j) = partK P t (f (xs.getD k default)).cells j := by
  unfold apart partK
  split
  · rw [flatK_drop_at hf xs k hk j (by omega), List.take_append_of_le_length (by rw [List.length_drop, hf]; omega)]
  · rename_i ha
    have hj' : j < sz := hc.resolve_left ha
    have h1 : (flatK f xs).getD (k * sz + j) .junk = ((flatK f xs).drop (k * sz + j)).getD 0 .junk := by simp [List.getD_eq_getElem?_getD]
    rw [h1, flatK_drop_at hf xs k hk j (by omega)]
    simp only [List.getD_eq_getElem?_getD]
    rw [List.getElem?_append_left (by rw [List.length_drop, hf]; omega)]
    simp
end
section
variable {P : Program} {α : Type} {sz : Nat}
theorem okK {f : α → AV} {t : TypeId} (hf : ∀ a, (f a).cells.length = sz) (xs : List α) {k j : Nat} (hU : isU P t = true) (hk : k < xs.length) (hj : j + P.cellsOf t ≤ sz) (hj2 : j < sz) : apartOk P t (flatK f xs) (k * sz + j) := by
  refine ⟨hU, ?_⟩
  have h1 := flatK_at_le hf xs hk hj
  have h2 := flatK_at_le (n := 1) hf xs hk (show j + 1 ≤ sz by omega)
  split
  · exact h1
  · omega
end
section
variable {P : Program} {n : Nat} {fr : Fr} {m : AMem} {ops : Array Oper} {stl : List Nat} {r : List Oper} {K : Fr → AMem → Prop} {d : Nat} {ty : TypeId} {pos : String} {af : Array Edge} {gd : Option (Nat × Bool)} {L : List (Nat × AObj)} {cs : List AV} {KK : Fr → Prop}
variable {α : Type} [Inhabited α] {sz : Nat}
theorem ar_loadk (hg : gOn ops fr gd = some true) (f : α → AV) (xs : List α) (k : Int) (j : Nat) {t : TypeId} {x : Operand} {b o : Nat} {v : AV} (hx : evP (rawOf fr) x = .ptr ⟨b, o, none⟩) (ho : o = k.toNat * sz + j) (hm : m.wth L b = some (.cells (flatK f xs))) (hst : stl.contains d = false)
    (hf : ∀ a, (f a).cells.length = sz) (hU : isU P t = true) (hj : j + P.cellsOf t ≤ sz) (hj2 : j < sz) (hv : (partK P t (f (gI xs k)).cells j).plain = v) (h0 : 0 ≤ k) (h1 : k < xs.length) (h : aopsR P ops stl r K (fr.put d v) (m.wth L)) :
    aopsR P ops stl (⟨some d, .load t x, ty, pos, af, gd⟩ :: r) K fr (m.wth L) := by
  subst ho
  have hk : k.toNat < xs.length := by omega
  refine ar_loadp hg hx hm hst (okK hf xs hU hk hj hj2) ?_ h
  rw [apart_flatK hf xs hk hj (.inr hj2)]
  exact hv
theorem pq_loadk (hg : gOn ops fr gd = some true) (f : α → AV) (xs : List α) (k : Int) (j : Nat) {t : TypeId} {x : Operand} {b o : Nat} {v : AV} (hx : evP (rawOf fr) x = .ptr ⟨b, o, none⟩) (ho : o = k.toNat * sz + j) (hm : m.wth L b = some (.cells (flatK f xs)))
    (hf : ∀ a, (f a).cells.length = sz) (hU : isU P t = true) (hj : j + P.cellsOf t ≤ sz) (hj2 : j < sz) (hv : (partK P t (f (gI xs k)).cells j).plain = v) (h0 : 0 ≤ k) (h1 : k < xs.length) (h : pseq P ops (m.wth L) cs r (fr.put d v) KK) :
    pseq P ops (m.wth L) cs (⟨some d, .load t x, ty, pos, af, gd⟩ :: r) fr KK := by
  subst ho
  have hk : k.toNat < xs.length := by omega
  refine pq_loadp hg hx hm (okK hf xs hU hk hj hj2) ?_ h
  rw [apart_flatK hf xs hk hj (.inr hj2)]
  exact hv
theorem ar_storek (hg : gOn ops fr gd = some true) (i : Nat) (f : α → AV) (xs : List α) (y : α) (k : Int) (j : Nat) {t : TypeId} {a x : Operand} {b o : Nat} {v : AV} (ha : evP (rawOf fr) a = .ptr ⟨b, o, none⟩) (ho : o = k.toNat * sz + j) (hx : evR (rawOf fr) x = v) (hN : (L.map Prod.fst).Nodup) (hi : L[i]? = some (b, .cells (flatK f xs)))
    (hf : ∀ a, (f a).cells.length = sz) (h1 : v.topOk = true) (h2 : v.cells.all AV.one = true) (h3 : v.cells.length = P.cellsOf t) (hU : isU P t = true) (hj : j + P.cellsOf t ≤ sz) (hy : (f (gI xs k)).cells.take j ++ v.cells ++ (f (gI xs k)).cells.drop (j + P.cellsOf t) = (f y).cells) (h0 : 0 ≤ k) (hk : k < xs.length)
    (h : aopsR P ops stl r K (fr.strip (slotOf x)) (m.wth (L.set i (b, .cells (flatK f (xs.set k.toNat y)))))) : aopsR P ops stl (⟨none, .store t a x, ty, pos, af, gd⟩ :: r) K fr (m.wth L) := by
  subst ho
  have hk' : k.toNat < xs.length := by omega
  refine ar_storep hg i ha hx hN hi h1 h2 h3 hU (flatK_at_le hf xs hk' hj) ?_ h
  rw [flatK_set xs y k.toNat hk', flatK_take_at hf xs k.toNat hk' j (by omega), Nat.add_assoc, flatK_drop_at hf xs k.toNat hk' _ hj, ← hy]
  simp only [gI, List.append_assoc]
end
end Go.Aw
end
section
namespace Go.Aw
open Go
structure HidR {α : Type} (f : α → AV) (m : AMem) (keys : List Nat) (H : List (Nat × AObj)) (av : AV) (l : List α) : Prop where
  nd : (H.map Prod.fst).Nodup
  fr : ∀ c ∈ H.map Prod.fst, m c = none ∧ c ∉ keys
  sh : (H = [] ∧ av = .nils ∧ l = []) ∨ ∃ b zs, H = [(b, .cells (flatK f zs))] ∧ av = .ms ⟨b, 0, none⟩ l.length zs.length ∧ l.length ≤ zs.length ∧ zs.take l.length = l
section
variable {α : Type} {f : α → AV} {m : AMem} {keys : List Nat} {H : List (Nat × AObj)} {av : AV} {l : List α}
theorem HidR.nil (m : AMem) (keys : List Nat) : HidR f m keys [] .nils [] := ⟨List.nodup_nil, (fun c h => by cases h), .inl ⟨rfl, rfl, rfl⟩⟩
theorem HidR.row {b : Nat} {zs : List α} {k : Nat} (hm : m b = none) (hb : b ∉ keys) (hk : k ≤ zs.length) (hl : zs.take k = l) : HidR f m keys [(b, .cells (flatK f zs))] (.ms ⟨b, 0, none⟩ k zs.length) l := by
  have e : l.length = k := by rw [← hl, List.length_take, Nat.min_eq_left hk]
  refine ⟨by simp, fun c hc => ?_, .inr ⟨b, zs, rfl, by rw [e], by omega, by rw [e]; exact hl⟩⟩
  simp at hc; subst hc; exact ⟨hm, hb⟩
theorem hid_nin {c : Nat} (h : m.wth H c = none) : c ∉ H.map Prod.fst := (wth_fresh h).1
theorem hid_swap {R : List (Nat × AObj)} (hN : ((R ++ H).map Prod.fst).Nodup) : (m.wth H).wth R = (m.wth R).wth H := by
  rw [← wth_append, ← wth_append]
  exact wth_perm hN List.perm_append_comm
theorem hid_call {L L1 L2 : List (Nat × AObj)} (hN : (L.map Prod.fst).Nodup) (hp : L.Perm (L1 ++ L2)) (hH : (H.map Prod.fst).Nodup) (hD : ∀ c ∈ L.map Prod.fst, c ∉ H.map Prod.fst) : (m.wth H).wth L = ((m.wth L2).wth H).wth L1 := by
  rw [wth_split hN hp]
  congr 1
  refine hid_swap ?_
  have hN2 := ((hp.map Prod.fst).nodup_iff.1 hN)
  rw [List.map_append] at hN2
  rw [List.map_append, List.nodup_append]
  refine ⟨(List.nodup_append.1 hN2).2.1, hH, fun a ha b hb e => ?_⟩
  subst e
  exact hD a ((hp.map Prod.fst).mem_iff.2 (by rw [List.map_append]; exact List.mem_append_right _ ha)) hb
theorem HidR.call {L L1 L2 : List (Nat × AObj)} (h : HidR f m keys H av l) (hp : L.Perm (L1 ++ L2)) (hD : ∀ c ∈ L.map Prod.fst, c ∉ H.map Prod.fst) : HidR f (m.wth L2) (L1.map Prod.fst) H av l := by
  refine ⟨h.nd, fun c hc => ?_, h.sh⟩
  have hin : ∀ a ∈ L.map Prod.fst, a ≠ c := fun a ha e => hD a ha (e ▸ hc)
  refine ⟨?_, fun k => hin c ((hp.map Prod.fst).mem_iff.2 (by rw [List.map_append]; exact List.mem_append_left _ k)) rfl⟩
  rw [wth_other (fun k => hin c ((hp.map Prod.fst).mem_iff.2 (by rw [List.map_append]; exact List.mem_append_right _ k)) rfl)]
  exact (h.fr c hc).1
theorem HidR.nin {c : Nat} (h : HidR f m keys H av l) (hc : c ∈ keys) : c ∉ H.map Prod.fst := fun k => (h.fr c k).2 hc
theorem HidR.back {L L1 L2 : List (Nat × AObj)} {K1 : List Nat} (h : HidR f (m.wth L2) K1 H av l) (hK : K1 = L1.map Prod.fst) (hp : L.Perm (L1 ++ L2)) : HidR f m (L.map Prod.fst) H av l := by
  subst hK
  refine ⟨h.nd, fun c hc => ⟨(wth_fresh (h.fr c hc).1).2, fun k => ?_⟩, h.sh⟩
  have := (hp.map Prod.fst).mem_iff.1 k
  rw [List.map_append, List.mem_append] at this
  rcases this with q | q
  · exact (h.fr c hc).2 q
  · exact (wth_fresh (h.fr c hc).1).1 q
theorem HidR.keep {K' : List Nat} (h : HidR f m keys H av l) (hs : ∀ c ∈ K', c ∈ keys) : HidR f m K' H av l := ⟨h.nd, fun c hc => ⟨(h.fr c hc).1, fun k => (h.fr c hc).2 (hs c k)⟩, h.sh⟩
theorem HidR.loc {c : Nat} (h : HidR f m keys H av l) (hm : m c = none) (hc : c ∈ keys) : m.wth H c = none := by rw [wth_other (fun k => (h.fr c k).2 hc)]; exact hm
theorem hid_base {c : Nat} (h : m.wth H c = none) : m c = none := (wth_fresh h).2
theorem HidR.out (h : HidR f m keys H av l) : ∀ c ∈ H.map Prod.fst, m c = none := fun c hc => (h.fr c hc).1
theorem hid_two {a b : Nat} {x y : AObj} (h : a ≠ b) (m : AMem) : m.wth [(a, x), (b, y)] = (m.wth [(a, x)]).wth [(b, y)] := by
  funext c
  show (if c = a then some x else if c = b then some y else m c) = (if c = b then some y else if c = a then some x else m c)
  by_cases h1 : c = a
  · subst h1; rw [if_pos rfl, if_neg h, if_pos rfl]
  · rw [if_neg h1]
    by_cases h2 : c = b
    · rw [if_pos h2, if_pos h2]
    · rw [if_neg h2, if_neg h2, if_neg h1]
end
end Go.Aw
end
section
namespace Go.Aw
open Go
section
variable {P : Program} {F : Nat → Prop} {lim : Nat → Nat} {w : World} {n : Nat} {fr : Fr} {m : AMem} {ca : Act} {fl : List Nat}
theorem St.convMem (st : St F lim w n fr m ca fl) {b : Nat} {L : List AV} (hm : m b = some (.cells L)) (j : Nat) (y : AV) (hj : j < L.length) (hc : ∀ w lim v os, Rep w lim v (L.getD j .junk) os → Rep w lim v y []) : St F lim w n fr (m.upd b (some (.cells (L.set j y)))) ca fl := by
  obtain ⟨os, om, ow, h⟩ := st
  refine ⟨os, fun c => if c = b then (fun i => if i = j then [] else om b i) else om c, ow, h.size, h.defers, h.slots, fun c o hc' => ?_, h.ownS, fun c o hc' i => ?_, h.ownF, fun c hc' => ?_, fun c hc' => ?_⟩
  · by_cases e : c = b
    · subst e
      simp only [AMem.upd, if_true] at hc'
      obtain rfl := Option.some.inj hc'
      obtain ⟨hM, hl, hF⟩ := h.mem c _ hm
      refine ⟨?_, hl, hF⟩
      cases hM with
      | cells cs e l os hb hs hr =>
        refine .cells cs e _ _ hb (by simpa using hs) fun i hi => ?_
        have hi' : i < L.length := by simpa using hi
        simp only [if_true]
        by_cases hij : i = j
        · subst hij
          rw [if_pos rfl]
          have := hc _ _ _ _ (hr i hi')
          simpa [List.getD_eq_getElem?_getD, hi'] using this
        · rw [if_neg hij]
          have := hr i hi'
          simpa [List.getD_eq_getElem?_getD, List.getElem?_set_ne (Ne.symm hij)] using this
    · simp only [AMem.upd, if_neg e] at hc'
      simp only [if_neg e]
      exact h.mem c o hc'
  · by_cases e : c = b
    · subst e
      simp only [if_true]
      by_cases hij : i = j
      · simp [hij]
      · simp only [if_neg hij]
        exact h.ownM c _ hm i
    · simp only [AMem.upd, if_neg e] at hc'
      simp only [if_neg e]
      exact h.ownM c o hc' i
  · have := h.free c hc'
    refine ⟨this.1, ?_, this.2.2⟩
    simp only [AMem.upd]
    by_cases e : c = b
    · subst e; rw [hm] at this; cases this.2.1
    · rw [if_neg e]; exact this.2.1
  · have := h.fresh c hc'
    refine ⟨this.1, this.2.1, ?_⟩
    simp only [AMem.upd]
    by_cases e : c = b
    · subst e; rw [hm] at this; cases this.2.2
    · rw [if_neg e]; exact this.2.2
theorem awp_convM {c : Code} {Q : Exit → Fr → AMem → Prop} {L0 : List (Nat × AObj)} (i : Nat) {b : Nat} {L : List AV} (j : Nat) (y : AV) (hN : (L0.map Prod.fst).Nodup) (hi : L0[i]? = some (b, .cells L)) (hj : j < L.length) (hc : ∀ w lim v os, Rep w lim v (L.getD j .junk) os → Rep w lim v y [])
    (h : AWP P n c Q fr (m.wth (L0.set i (b, .cells (L.set j y))))) : AWP P n c Q fr (m.wth L0) := fun F lim w ca st => by
  have st2 := st.convMem (wth_get i hN hi) j y hj hc
  rw [← wth_set i hN hi] at h
  exact h F lim w ca st2
theorem awp_memEq {c : Code} {Q : Exit → Fr → AMem → Prop} {m' : AMem} (e : m = m') (h : AWP P n c Q fr m') : AWP P n c Q fr m := e ▸ h
end
end Go.Aw
end
