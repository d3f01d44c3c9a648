/-
  The abstract layer, part 30: maps, told as lists of their entries in the order in which they came.
-/
import Derived.Test.YtoeghipbkmaccaaWxc
import Derived.MapKept
import Derived.WideMake
import Derived.Maps.RangeRun
import Derived.Shelf.Sort.Plain
section
namespace Go.Aw
open Go Go.MapKept

section
variable {κ ν : Type} [DecidableEq κ]

def mget : List (κ × ν) → κ → Option ν
  | [], _ => none
  | (a, b) :: r, k => if a = k then some b else mget r k

/-- How an entry of a map reads. -/
def mapAV {κ ν : Type} (kf : κ → AV) (vf : ν → AV) (p : κ × ν) : AV × AV := (kf p.1, vf p.2)

def mput : List (κ × ν) → κ → ν → List (κ × ν)
  | [], k, v => [(k, v)]
  | (a, b) :: r, k, v => if a = k then (k, v) :: r else (a, b) :: mput r k v

def mdel : List (κ × ν) → κ → List (κ × ν)
  | [], _ => []
  | (a, b) :: r, k => if a = k then r else (a, b) :: mdel r k

def midx : List (κ × ν) → κ → Option Nat
  | [], _ => none
  | (a, _) :: r, k => if a = k then some 0 else (midx r k).map (· + 1)

theorem midx_none : ∀ {l : List (κ × ν)} {k : κ}, midx l k = none → mget l k = none ∧ mdel l k = l ∧ ∀ v, mput l k v = l ++ [(k, v)]
  | [], _, _ => ⟨rfl, rfl, fun _ => rfl⟩
  | (a, b) :: r, k, h => by
    unfold midx at h
    split at h
    · cases h
    · rename_i hne
      have ih := midx_none (l := r) (k := k) (by simpa using h)
      simp only [mget, mdel, mput, if_neg hne, ih.1, ih.2.1, true_and]
      exact fun v => by rw [ih.2.2 v]; rfl

theorem midx_some : ∀ {l : List (κ × ν)} {k : κ} {j : Nat}, midx l k = some j → ∃ b, l[j]? = some (k, b) ∧ mget l k = some b ∧ mdel l k = l.eraseIdx j ∧ ∀ v, mput l k v = l.set j (k, v)
  | [], _, _, h => by simp [midx] at h
  | (a, b) :: r, k, j, h => by
    unfold midx at h
    split at h
    · rename_i he
      subst he
      obtain rfl : 0 = j := by simpa using h
      exact ⟨b, rfl, by simp [mget], by simp [mdel], fun v => by simp [mput]⟩
    · rename_i hne
      cases hr : midx r k with
      | none => rw [hr] at h; cases h
      | some i =>
        rw [hr] at h
        obtain rfl : i + 1 = j := by simpa using h
        obtain ⟨c, h1, h2, h3, h4⟩ := midx_some hr
        exact ⟨c, by simpa using h1, by simp [mget, hne, h2], by simp [mdel, hne, h3], fun v => by simp [mput, hne, h4]⟩

theorem mdel_len (l : List (κ × ν)) (k : κ) : (mdel l k).length ≤ l.length := by
  induction l with
  | nil => simp [mdel]
  | cons p r ih => obtain ⟨a, b⟩ := p; simp only [mdel]; split <;> simp <;> omega
theorem mput_len (l : List (κ × ν)) (k : κ) (v : ν) : (mput l k v).length ≤ l.length + 1 := by
  induction l with
  | nil => simp [mput]
  | cons p r ih => obtain ⟨a, b⟩ := p; simp only [mput]; split <;> simp <;> omega
end

/-- Keys that read so are that value. -/
def KeyEnc (d : TypeDesc) {κ : Type} (kf : κ → AV) (kc : κ → Value) : Prop :=
  (∀ w lim v a os, Rep w lim v (kf a) os → v = kc a) ∧ (∀ a, IsKey d (kc a)) ∧ ∀ a b, kc a = kc b → a = b

def strKey (s : List UInt8) : Value := .string ⟨s.toArray⟩
def intKey (n : Int) : Value := .int .i64 n

theorem strKey_ok : KeyEnc .string strAV strKey := by
  refine ⟨fun w lim v a os h => ?_, fun a => trivial, fun a b h => ?_⟩
  · generalize he : strAV a = x at h
    cases h <;> first | (cases he; done) | skip
    rename_i s hs
    have e : a = s.data.toList := by injection he
    subst e; rfl
  · have : a.toArray = b.toArray := by injection h with h; injection h
    simpa using congrArg Array.toList this

theorem intKey_ok : KeyEnc (.int .i64) intAV intKey := by
  refine ⟨fun w lim v a os h => ?_, fun a => by simp [IsKey, intKey], fun a b h => by injection h⟩
  generalize he : intAV a = x at h
  cases h <;> first | (cases he; done) | skip
  rename_i k n lo hi
  injection he with h1 h2
  subst h1 h2; rfl

section
variable {P : Program} {F : Nat → Prop} {lim : Nat → Nat} {w w' : World} {n : Nat} {fr : Fr} {m : AMem} {ca : Act} {fl : List Nat}

theorem findNow_midx {κ ν : Type} [DecidableEq κ] {d : TypeDesc} {kf : κ → AV} {kc : κ → Value} (he : KeyEnc d kf kc) (k : κ) : ∀ (E : List MapEntry) (l : List (κ × ν)) (i : Nat), E.map (·.key) = l.map (fun p => kc p.1) →
    Instr.findNow d (kc k) E i = some ((midx l k).map fun j => (i + j, (E.getD j default).val))
  | [], [], _, _ => rfl
  | [], _ :: _, _, h => by simp at h
  | _ :: _, [], _, h => by simp at h
  | e :: E, (a, b) :: l, i, h => by
    simp only [List.map_cons, List.cons.injEq] at h
    obtain ⟨h1, h2⟩ := h
    obtain ⟨r, hr, hiff⟩ := sameNow_of_keys (he.2.1 k) (he.2.1 a)
    simp only [Instr.findNow, h1, hr]
    cases r with
    | true =>
      have e1 : a = k := (he.2.2 _ _ (hiff.1 rfl)).symm
      simp [midx, e1]
    | false =>
      have e1 : a ≠ k := fun q => by
        have := hiff.2 (by rw [q]); cases this
      rw [findNow_midx he k E l (i + 1) h2]
      simp only [midx, if_neg e1, Option.map_map]
      congr 1
      cases midx l k with
      | none => rfl
      | some j => simp; omega

/-- What is behind a map that reads so. -/
theorem map_inv {κ ν : Type} {d : TypeDesc} {kf : κ → AV} {kc : κ → Value} {vf : ν → AV} (he : KeyEnc d kf kc) (st : St F lim w n fr m ca fl) {b : Nat} {l : List (κ × ν)} (hm : m b = some (.map (l.map fun p => (kf p.1, vf p.2)))) :
    ∃ es clock, w.heap[b]? = some (.map es clock) ∧ es.size = l.length ∧ es.toList.map (·.key) = l.map (fun p => kc p.1) ∧ (∀ i p, l[i]? = some p → Rep w lim (es.getD i default).val (vf p.2) []) ∧ (∀ i j, i < j → j < l.length → (es.getD i default).born < (es.getD j default).born) ∧ (∀ i, i < l.length → (es.getD i default).born < clock) ∧
      l.length ≤ 140737488355328 ∧ (∀ i p, l[i]? = some p → Rep w lim (es.getD i default).key (kf p.1) []) ∧ lim b = 0 ∧ ¬ F b := by
  obtain ⟨os, om, ow, h⟩ := st
  obtain ⟨hM, hl, hF⟩ := h.mem b _ hm
  generalize ho : om b = omb at hM
  generalize hL : (l.map fun p => (kf p.1, vf p.2)) = L at hM
  cases hM with
  | map es clock L hb hs hbig hk hv hborn hclock os =>
    subst hL
    simp only [List.length_map] at hs hbig hk hv hborn hclock
    have hget : ∀ i p, l[i]? = some p → (l.map fun p => (kf p.1, vf p.2)).getD i (.junk, .junk) = (kf p.1, vf p.2) := fun i p hp => by simp [List.getD_eq_getElem?_getD, hp]
    have hlt : ∀ i p, l[i]? = some p → i < l.length := fun i p hp => (List.getElem?_eq_some_iff.1 hp).1
    have hkr : ∀ i p, l[i]? = some p → Rep w lim (es.getD i default).key (kf p.1) [] := fun i p hp => by have := hk i (hlt i p hp); rwa [hget i p hp] at this
    refine ⟨es, clock, hb, hs, ?_, fun i p hp => by have := hv i (hlt i p hp); rwa [hget i p hp] at this, hborn, hclock, hbig, hkr, hl, hF⟩
    refine List.ext_getElem (by simp [hs]) fun i h1 h2 => ?_
    have hi : i < l.length := by simpa using h2
    have hi' : i < es.size := by omega
    have := he.1 _ _ _ _ _ (hkr i l[i] (List.getElem?_eq_getElem hi))
    simpa [Array.getD, hi'] using this

/-- A map is written. -/
theorem St.storeMap (st : St F lim w n fr m ca fl) {b : Nat} {l l' : List (AV × AV)} {es es' : Array MapEntry} {clock clock' : Nat} (hm : m b = some (.map l)) (hb : w.heap[b]? = some (.map es clock)) (hs : es'.size = l'.length) (hbig : l'.length ≤ 140737488355328)
    (hk' : ∀ i, i < l'.length → Rep w lim (es'.getD i default).key (l'.getD i (.junk, .junk)).1 []) (hv : ∀ i, i < l'.length → Rep w lim (es'.getD i default).val (l'.getD i (.junk, .junk)).2 [])
    (hborn : ∀ i j, i < j → j < l'.length → (es'.getD i default).born < (es'.getD j default).born) (hclock : ∀ i, i < l'.length → (es'.getD i default).born < clock') :
    St F lim { w with heap := w.heap.setIfInBounds b (.map es' clock') } n fr (m.upd b (some (.map l'))) ca fl ∧ Pres F w lim { w with heap := w.heap.setIfInBounds b (.map es' clock') } lim := by
  obtain ⟨os, om, ow, h⟩ := st
  obtain ⟨hM, hl, hF⟩ := h.mem b _ hm
  have hblt : b < w.heap.size := (Array.getElem?_eq_some_iff.1 hb).1
  generalize hw : ({ w with heap := w.heap.setIfInBounds b (.map es' clock') } : World) = w1
  have hother : ∀ k, k ≠ b → w1.heap[k]? = w.heap[k]? := fun k hk => by rw [← hw]; simp [Array.getElem?_setIfInBounds, Ne.symm hk]
  have hself : w1.heap[b]? = some (.map es' clock') := by rw [← hw]; simp [hblt]
  have hsize : w1.heap.size = w.heap.size := by rw [← hw]; simp
  have hcell : ∀ k o, o < lim k → w1.cell? ⟨k, o, none⟩ = w.cell? ⟨k, o, none⟩ := fun k o ho => by
    have : k ≠ b := fun e => by subst e; omega
    simp [World.cell?, hother k this]
  have hmb : ∀ c, m c = none → c ≠ b := fun c hc e => by subst e; rw [hm] at hc; cases hc
  have hst : ∀ {v x os'}, Rep w lim v x os' → (∀ c ∈ os', ow c ≠ .none) → Rep w1 lim v x os' := fun hR ho => hR.stable (fun _ => Nat.le_refl _) hcell (fun c hc => ⟨hother c (hmb c (h.free c (ho c hc)).2.1), rfl⟩)
  have hst0 : ∀ {v x}, Rep w lim v x [] → Rep w1 lim v x [] := fun hR => hst hR (by simp)
  refine ⟨?_, by rw [← hw], by rw [← hw], by rw [← hw], by rw [hsize]; exact Nat.le_refl _, fun k hk => ⟨hother k (fun e => by subst e; exact hF hk), rfl⟩, fun _ => Nat.le_refl _, hcell⟩
  refine ⟨os, om, ow, h.size, h.defers, fun t x hx => ⟨(h.slots t x hx).1, hst (h.slots t x hx).2 (fun c hc => by rw [(h.ownS t x hx).2 c hc]; simp)⟩, fun k o hk => ?_, h.ownS, fun k o hk i => ?_, h.ownF, fun c hc => ⟨(h.free c hc).1, ?_, by rw [hsize]; exact (h.free c hc).2.2⟩, fun k hk => ?_⟩
  · by_cases hkb : k = b
    · subst hkb
      simp only [AMem.upd, ↓reduceIte, Option.some.injEq] at hk
      subst hk
      exact ⟨.map es' clock' l' hself hs hbig (fun i hi => hst0 (hk' i hi)) (fun i hi => hst0 (hv i hi)) hborn hclock _, hl, hF⟩
    · simp only [AMem.upd, if_neg hkb] at hk
      have hM' := h.mem k o hk
      refine ⟨hM'.1.stable (hother k hkb) (fun _ => Nat.le_refl _) hcell (fun i c hc => ⟨hother c (hmb c (h.free c ?_).2.1), rfl⟩), hM'.2⟩
      rw [(h.ownM k o hk i).2 c hc]; simp
  · by_cases hkb : k = b
    · subst hkb; exact h.ownM k _ hm i
    · simp only [AMem.upd, if_neg hkb] at hk
      exact h.ownM k o hk i
  · have := (h.free c hc).2.1
    simp only [AMem.upd]
    rw [if_neg (hmb c this)]; exact this
  · rw [hsize] at hk
    have := h.fresh k hk
    refine ⟨this.1, this.2.1, ?_⟩
    simp only [AMem.upd]
    rw [if_neg (by omega)]; exact this.2.2


variable {ops : Array Oper} {stl : List Nat} {r : List Oper} {K : Fr → AMem → Prop} {d : Nat} {ty : TypeId} {pos : String} {af : Array Edge} {gd : Option (Nat × Bool)} {L : List (Nat × AObj)}

theorem ar_makeMap (hg : gOn ops fr gd = some true) {t ke ve : TypeId} (ht : P.underlying t = some (.map ke ve)) (h : ∀ b, m.wth L b = none → aopsR P ops stl r K (fr.put d (.map b)) (m.wth ((b, .map []) :: L))) :
    aopsR P ops stl (⟨some d, .makeMap t none, ty, pos, af, gd⟩ :: r) K fr (m.wth L) := by
  simp only [aopsR, aopR, hg, ares, ht, Option.map_none]
  exact ⟨trivial, h⟩

theorem lookup_run {κ ν : Type} [DecidableEq κ] {dk : TypeDesc} {kf : κ → AV} {kc : κ → Value} {vf : ν → AV} (he : KeyEnc dk kf kc) (st : St F lim w n fr m ca fl) {b : Nat} {l : List (κ × ν)} (hm : m b = some (.map (l.map fun p => (kf p.1, vf p.2)))) {t ke ve : TypeId} (ht : P.underlying t = some (.map ke ve)) (hke : P.underlying ke = some dk)
    {z : ν} (hz : zeroA P ve = some (vf z)) {kv : Value} {k : κ} (hkv : Rep w lim kv (kf k) []) (ok : Bool) :
    ∃ v, Rep w lim v (vf ((mget l k).getD z)) [] ∧ (Instr.lookup t (.map (some b)) kv ok).run P w = .ok (if ok then .tuple #[v, .bool (mget l k).isSome] else v) w := by
  obtain ⟨es, clock, hb, hs, hkeys, hval, _, _, _, _, _, _⟩ := map_inv he st hm
  obtain rfl := he.1 _ _ _ _ _ hkv
  have hf := findNow_midx he k es.toList l 0 hkeys
  have hc : (Instr.checkKey es.isEmpty 10000 ke (kc k)).run P w = .ok () w := run_checkKey hke (he.2.1 k) _ 9999
  have hfk := run_findKey (P := P) (w := w) hke hf
  cases hi : midx l k with
  | none =>
    obtain ⟨v0, z1, z2, z3, z4⟩ := zero_run (P := P) (w := w) (lim := lim) hz
    have h1 := (midx_none hi).1
    refine ⟨v0, by rw [h1]; exact z4, ?_⟩
    rw [hi] at hfk
    simp only [Option.map_none] at hfk
    cases ok <;> simp [Instr.lookup, run_underlying ht, run_getObj_map hb, hc, hfk, Result.andThen, z1, h1]
  | some j =>
    obtain ⟨c, h1, h2, _, _⟩ := midx_some hi
    refine ⟨(es.toList.getD j default).val, ?_, ?_⟩
    · rw [h2]
      have := hval j _ h1
      rw [Array.getD_eq_getD_getElem?, ← Array.getElem?_toList, ← List.getD_eq_getElem?_getD] at this
      exact this
    · rw [hi] at hfk
      simp only [Option.map_some, Nat.zero_add] at hfk
      cases ok <;> simp only [Instr.lookup, Sem.run_bind, run_underlying ht, run_getObj_map hb, hc, hfk, Result.andThen_ok, Sem.run_pure, h2, Option.isSome_some, if_true] <;> rfl

theorem ar_lookup (hg : gOn ops fr gd = some true) {κ ν : Type} [DecidableEq κ] {dk : TypeDesc} (kf : κ → AV) {kc : κ → Value} (vf : ν → AV) (he : KeyEnc dk kf kc) (l : List (κ × ν)) (k : κ) (z : ν) {t ke ve : TypeId} {x y : Operand} {b : Nat} {v : AV} (ht : P.underlying t = some (.map ke ve)) (hke : P.underlying ke = some dk) (hz : zeroA P ve = some (vf z))
    (hx : evP (rawOf fr) x = .map b) (hy : evP (rawOf fr) y = kf k) (hm : m.wth L b = some (.map (l.map fun p => (kf p.1, vf p.2)))) (hv : vf ((mget l k).getD z) = v) (h : aopsR P ops stl r K (fr.put d v) (m.wth L)) :
    aopsR P ops stl (⟨some d, .lookup t x y false, ty, pos, af, gd⟩ :: r) K fr (m.wth L) := by
  subst hv
  simp only [aopsR, aopR, hg, ares, qv, hx]
  intro n hk hn F lim w ca st
  have hopd := okOper_opd hk
  have h1 := evP_rep st (hopd x (by simp [Op.operands]))
  have h2 := evP_rep st (hopd y (by simp [Op.operands]))
  rw [hx] at h1
  rw [hy] at h2
  have e1 : ca.eval x = .map (some b) := by generalize ca.eval x = q at h1; cases h1; rfl
  obtain ⟨v, r1, r2⟩ := lookup_run (P := P) he st hm ht hke hz h2 false
  exact ⟨.value v, v, w, lim, _, _, by simp only [execOp, e1, Sem.run_bind, r2]; rfl, .inl rfl, st.putO (d := some d) (fun t ht => okOper_dst hk ht) r1, .refl _ _ _, h⟩

/-- The entries of a map as they are behind a write. -/
theorem map_write {κ ν : Type} {dk : TypeDesc} {kf : κ → AV} {kc : κ → Value} {vf : ν → AV} (he : KeyEnc dk kf kc) {es : Array MapEntry} {l l' : List (κ × ν)} {es' : Array MapEntry} (hs : es'.size = l'.length)
    (hk : ∀ i p, l'[i]? = some p → Rep w lim (es'.getD i default).key (kf p.1) [] ∧ Rep w lim (es'.getD i default).val (vf p.2) []) :
    (∀ i, i < (l'.map fun p => (kf p.1, vf p.2)).length → Rep w lim (es'.getD i default).key ((l'.map fun p => (kf p.1, vf p.2)).getD i (.junk, .junk)).1 []) ∧ (∀ i, i < (l'.map fun p => (kf p.1, vf p.2)).length → Rep w lim (es'.getD i default).val ((l'.map fun p => (kf p.1, vf p.2)).getD i (.junk, .junk)).2 []) := by
  have key : ∀ i, i < (l'.map fun p => (kf p.1, vf p.2)).length → Rep w lim (es'.getD i default).key ((l'.map fun p => (kf p.1, vf p.2)).getD i (.junk, .junk)).1 [] ∧ Rep w lim (es'.getD i default).val ((l'.map fun p => (kf p.1, vf p.2)).getD i (.junk, .junk)).2 [] := fun i hi => by
    have hi' : i < l'.length := by simpa using hi
    have := hk i _ (List.getElem?_eq_getElem hi')
    simpa [List.getD_eq_getElem?_getD, hi'] using this
  exact ⟨fun i hi => (key i hi).1, fun i hi => (key i hi).2⟩

theorem arr_getD {α : Type} {es : Array α} {i : Nat} {d x : α} (h : es[i]? = some x) : es.getD i d = x := by
  rw [Array.getD_eq_getD_getElem?, h]; rfl

theorem put_run {κ ν : Type} [DecidableEq κ] {dk : TypeDesc} {kf : κ → AV} {kc : κ → Value} {vf : ν → AV} (he : KeyEnc dk kf kc) (st : St F lim w n fr m ca fl) {b : Nat} {l : List (κ × ν)} (hm : m b = some (.map (l.map fun p => (kf p.1, vf p.2)))) {t ke ve : TypeId} (ht : P.underlying t = some (.map ke ve)) (hke : P.underlying ke = some dk)
    {kv vv : Value} {k : κ} {v : ν} (hkv : Rep w lim kv (kf k) []) (hvv : Rep w lim vv (vf v) []) (hbig : (mput l k v).length ≤ 140737488355328) :
    ∃ w', (Instr.mapUpdate t (.map (some b)) kv vv).run P w = .ok () w' ∧ St F lim w' n fr (m.upd b (some (.map ((mput l k v).map fun p => (kf p.1, vf p.2))))) ca fl ∧ Pres F w lim w' lim := by
  obtain ⟨es, clock, hb, hs, hkeys, hval, hborn, hclock, hlen, hkr, hl0, hF⟩ := map_inv he st hm
  obtain rfl := he.1 _ _ _ _ _ hkv
  have hf := findNow_midx he k es.toList l 0 hkeys
  have hc : (Instr.checkKey false 10000 ke (kc k)).run P w = .ok () w := run_checkKey hke (he.2.1 k) _ 9999
  have hfk := run_findKey (P := P) (w := w) hke hf
  have hgk : ∀ i p, l[i]? = some p → i < es.size := fun i p hp => by have := (List.getElem?_eq_some_iff.1 hp).1; omega
  cases hi : midx l k with
  | none =>
    have h1 := (midx_none hi).2.2 v
    rw [hi] at hfk
    simp only [Option.map_none] at hfk
    have hget : ∀ i, (es.push { key := kc k, val := vv, born := clock }).getD i default = if i < es.size then es.getD i default else if i = es.size then { key := kc k, val := vv, born := clock } else default := fun i => by
      simp only [Array.getD_eq_getD_getElem?, Array.getElem?_push]
      by_cases h2 : i = es.size
      · subst h2; simp
      · rw [if_neg h2]
        by_cases h3 : i < es.size
        · rw [if_pos h3]
        · rw [if_neg h3, if_neg h2, Array.getElem?_eq_none (by omega)]; rfl
    have hw := map_write (w := w) (lim := lim) he (es := es) (l := l) (l' := l ++ [(k, v)]) (es' := es.push { key := kc k, val := vv, born := clock }) (vf := vf) (by simp [hs]) (fun i p hp => by
      rw [hget]
      by_cases h2 : i < l.length
      · rw [List.getElem?_append_left h2] at hp
        rw [if_pos (by omega)]
        exact ⟨hkr i p hp, hval i p hp⟩
      · rw [List.getElem?_append_right (by omega)] at hp
        have h3 : i - l.length = 0 := by
          rcases Nat.eq_zero_or_pos (i - l.length) with h3 | h3
          · exact h3
          · rw [List.getElem?_eq_none (by simp; omega)] at hp; cases hp
        rw [h3] at hp
        obtain rfl : (k, v) = p := by simpa using hp
        rw [if_neg (by omega), if_pos (by omega)]
        exact ⟨hkv, hvv⟩)
    obtain ⟨s1, s2⟩ := st.storeMap (es' := es.push { key := kc k, val := vv, born := clock }) (clock' := clock + 1) (l' := (l ++ [(k, v)]).map fun p => (kf p.1, vf p.2)) hm hb (by simp [hs]) (by rw [← h1]; simpa using hbig) hw.1 hw.2 (fun i j hij hj => by
      simp only [List.length_map, List.length_append, List.length_singleton] at hj
      rw [hget, hget, if_pos (by omega)]
      by_cases h2 : j < es.size
      · rw [if_pos h2]; exact hborn i j hij (by omega)
      · rw [if_neg h2, if_pos (by omega)]; exact hclock i (by omega)) (fun i hi' => by
      simp only [List.length_map, List.length_append, List.length_singleton] at hi'
      rw [hget]
      by_cases h2 : i < es.size
      · rw [if_pos h2]; have := hclock i (by omega); omega
      · rw [if_neg h2, if_pos (by omega)]; exact Nat.lt_succ_self _)
    refine ⟨_, ?_, by rw [h1]; exact s1, s2⟩
    simp [Instr.mapUpdate, run_underlying ht, run_getObj_map hb, hc, hfk, Result.andThen, run_setObj_map _ hb]
  | some j =>
    obtain ⟨c, h1, _, _, h4⟩ := midx_some hi
    have h5 := h4 v
    rw [hi] at hfk
    simp only [Option.map_some, Nat.zero_add] at hfk
    have hjl : j < l.length := (List.getElem?_eq_some_iff.1 h1).1
    have hj : j < es.size := hgk j _ h1
    have hkj : (es[j]?).map (·.key) = some (kc k) := by
      have h6 := he.1 _ _ _ _ _ (hkr j _ h1)
      rw [Array.getElem?_eq_getElem hj]
      rw [arr_getD (Array.getElem?_eq_getElem hj)] at h6
      simp [h6]
    have hget : ∀ i, (es.modify j fun e => { e with key := kc k, val := vv }).getD i default = if i = j then { es.getD j default with key := kc k, val := vv } else es.getD i default := fun i => by
      simp only [Array.getD_eq_getD_getElem?, Array.getElem?_modify]
      by_cases h2 : j = i
      · subst h2; simp [Array.getElem?_eq_getElem hj]
      · rw [if_neg h2, if_neg (Ne.symm h2)]
    have hw := map_write (w := w) (lim := lim) he (es := es) (l := l) (l' := l.set j (k, v)) (es' := es.modify j fun e => { e with key := kc k, val := vv }) (vf := vf) (by simp [hs]) (fun i p hp => by
      rw [hget]
      rw [List.getElem?_set] at hp
      by_cases h2 : j = i
      · subst h2
        rw [if_pos rfl, if_pos hjl] at hp
        obtain rfl : (k, v) = p := by simpa using hp
        rw [if_pos rfl]; exact ⟨hkv, hvv⟩
      · rw [if_neg h2] at hp
        rw [if_neg (Ne.symm h2)]; exact ⟨hkr i p hp, hval i p hp⟩)
    have hb2 : ∀ i, ((es.modify j fun e => { e with key := kc k, val := vv }).getD i default).born = (es.getD i default).born := fun i => by
      rw [hget]; split
      · rename_i h2; subst h2; simp [Array.getD, hj]
      · rfl
    obtain ⟨s1, s2⟩ := st.storeMap (es' := es.modify j fun e => { e with key := kc k, val := vv }) (clock' := clock) (l' := (l.set j (k, v)).map fun p => (kf p.1, vf p.2)) hm hb (by simp [hs]) (by rw [← h5]; simpa using hbig) hw.1 hw.2 (fun i i' hij hj' => by
      rw [hb2, hb2]; exact hborn i i' hij (by simpa using hj')) (fun i hi' => by rw [hb2]; exact hclock i (by simpa using hi'))
    refine ⟨_, ?_, by rw [h5]; exact s1, s2⟩
    have hks : (Instr.keyThatStays (((es[j]?).map (·.key)).getD (kc k)) (kc k)).run P w = .ok (kc k) w := by
      rw [hkj]; exact run_keyThatStays (he.2.1 k)
    simp only [Instr.mapUpdate, Sem.run_bind, run_underlying ht, run_getObj_map hb, hc, hfk, Result.andThen_ok, hks, run_setObj_map _ hb]

theorem del_run {κ ν : Type} [DecidableEq κ] {dk : TypeDesc} {kf : κ → AV} {kc : κ → Value} {vf : ν → AV} (he : KeyEnc dk kf kc) (st : St F lim w n fr m ca fl) {b : Nat} {l : List (κ × ν)} (hm : m b = some (.map (l.map fun p => (kf p.1, vf p.2)))) {t t2 ke ve ty : TypeId} (ht : P.underlying t = some (.map ke ve)) (hke : P.underlying ke = some dk)
    {kv : Value} {k : κ} (hkv : Rep w lim kv (kf k) []) :
    ∃ w', (Builtin.delete_ #[t, t2] ty #[.map (some b), kv]).run P w = .ok (.tuple #[]) w' ∧ St F lim w' n fr (m.upd b (some (.map ((mdel l k).map fun p => (kf p.1, vf p.2))))) ca fl ∧ Pres F w lim w' lim := by
  obtain ⟨es, clock, hb, hs, hkeys, hval, hborn, hclock, hlen, hkr, hl0, hF⟩ := map_inv he st hm
  obtain rfl := he.1 _ _ _ _ _ hkv
  have hf := findNow_midx he k es.toList l 0 hkeys
  have hc : (Instr.checkKey es.isEmpty 10000 ke (kc k)).run P w = .ok () w := run_checkKey hke (he.2.1 k) _ 9999
  have hfk := run_findKey (P := P) (w := w) hke hf
  cases hi : midx l k with
  | none =>
    have h1 := (midx_none hi).2.1
    rw [hi] at hfk
    simp only [Option.map_none] at hfk
    have hw := map_write (w := w) (lim := lim) he (es := es) (l := l) (l' := l) (es' := es) (vf := vf) hs (fun i p hp => ⟨hkr i p hp, hval i p hp⟩)
    obtain ⟨s1, s2⟩ := st.storeMap (es' := es) (clock' := clock) (l' := l.map fun p => (kf p.1, vf p.2)) hm hb (by simp [hs]) (by simpa using hlen) hw.1 hw.2 (fun i j hij hj => hborn i j hij (by simpa using hj)) (fun i hi' => hclock i (by simpa using hi'))
    refine ⟨_, ?_, by rw [h1]; exact s1, s2⟩
    simp [Builtin.delete_, run_underlying ht, run_getObj_map hb, hc, hfk, Result.andThen, run_setObj_map _ hb]
  | some j =>
    obtain ⟨c, h1, _, h3, _⟩ := midx_some hi
    rw [hi] at hfk
    simp only [Option.map_some, Nat.zero_add] at hfk
    have hjl : j < l.length := (List.getElem?_eq_some_iff.1 h1).1
    have hj : j < es.size := by omega
    have hee : es.eraseIdxIfInBounds j = es.eraseIdx j hj := by simp [Array.eraseIdxIfInBounds, hj]
    have hget : ∀ i, (es.eraseIdxIfInBounds j).getD i default = if i < j then es.getD i default else es.getD (i + 1) default := fun i => by
      rw [hee]
      simp only [Array.getD_eq_getD_getElem?, ← Array.getElem?_toList, Array.toList_eraseIdx, List.getElem?_eraseIdx]
      split <;> rfl
    have hlg : ∀ i, (l.eraseIdx j)[i]? = if i < j then l[i]? else l[i + 1]? := fun i => by rw [List.getElem?_eraseIdx]
    have hll : (l.eraseIdx j).length = l.length - 1 := by rw [List.length_eraseIdx]; simp [hjl]
    have hw := map_write (w := w) (lim := lim) he (es := es) (l := l) (l' := l.eraseIdx j) (es' := es.eraseIdxIfInBounds j) (vf := vf) (by rw [hee, Array.size_eraseIdx, hll, hs]) (fun i p hp => by
      rw [hget]
      rw [hlg] at hp
      split at hp
      · rename_i h2; rw [if_pos h2]; exact ⟨hkr i p hp, hval i p hp⟩
      · rename_i h2; rw [if_neg h2]; exact ⟨hkr _ p hp, hval _ p hp⟩)
    obtain ⟨s1, s2⟩ := st.storeMap (es' := es.eraseIdxIfInBounds j) (clock' := clock) (l' := (l.eraseIdx j).map fun p => (kf p.1, vf p.2)) hm hb (by rw [hee, Array.size_eraseIdx, List.length_map, hll, hs]) (by rw [List.length_map]; omega) hw.1 hw.2 (fun i i' hij hj' => by
      rw [List.length_map, hll] at hj'
      rw [hget, hget]
      split <;> split
      · exact hborn i i' hij (by omega)
      · exact hborn i _ (by omega) (by omega)
      · omega
      · exact hborn _ _ (by omega) (by omega)) (fun i hi' => by
      rw [List.length_map, hll] at hi'
      rw [hget]; split
      · exact hclock i (by omega)
      · exact hclock _ (by omega))
    refine ⟨_, ?_, by rw [h3]; exact s1, s2⟩
    simp [Builtin.delete_, run_underlying ht, run_getObj_map hb, hc, hfk, Result.andThen, run_setObj_map _ hb]

/-- A map in memory is written. -/
theorem ar_mapUpdate (hg : gOn ops fr gd = some true) {κ ν : Type} [DecidableEq κ] {dk : TypeDesc} (i : Nat) (kf : κ → AV) {kc : κ → Value} (vf : ν → AV) (he : KeyEnc dk kf kc) (l : List (κ × ν)) (k : κ) (v : ν) {t ke ve : TypeId} {x y z : Operand} {b : Nat} (ht : P.underlying t = some (.map ke ve)) (hke : P.underlying ke = some dk)
    (hx : evP (rawOf fr) x = .map b) (hy : evP (rawOf fr) y = kf k) (hz : evP (rawOf fr) z = vf v) (hi : L[i]? = some (b, .map (l.map fun p => (kf p.1, vf p.2)))) (hN : (L.map Prod.fst).Nodup) (hbig : (mput l k v).length ≤ 140737488355328)
    (h : aopsR P ops stl r K fr (m.wth (L.set i (b, .map ((mput l k v).map fun p => (kf p.1, vf p.2)))))) :
    aopsR P ops stl (⟨none, .mapUpdate t x y z, ty, pos, af, gd⟩ :: r) K fr (m.wth L) := by
  simp only [aopsR, aopR, hg, ares, qv]
  intro n hk hn F lim w ca st
  have hopd := okOper_opd hk
  have h1 := evP_rep st (hopd x (by simp [Op.operands]))
  have h2 := evP_rep st (hopd y (by simp [Op.operands]))
  have h3 := evP_rep st (hopd z (by simp [Op.operands]))
  rw [hx] at h1
  rw [hy] at h2
  rw [hz] at h3
  have e1 : ca.eval x = .map (some b) := by generalize ca.eval x = q at h1; cases h1; rfl
  obtain ⟨w', r1, r2, r3⟩ := put_run (P := P) he st (wth_get (m := m) i hN hi) ht hke h2 h3 hbig
  rw [wth_set i hN hi] at r2
  exact ⟨.skip, undef, w', lim, _, _, by simp only [execOp, e1, Sem.run_bind, r1]; rfl, .inr ⟨rfl, rfl⟩, r2, r3, h⟩

theorem ar_delete (hg : gOn ops fr gd = some true) {κ ν : Type} [DecidableEq κ] {dk : TypeDesc} (i : Nat) (kf : κ → AV) {kc : κ → Value} (vf : ν → AV) (he : KeyEnc dk kf kc) (l : List (κ × ν)) (k : κ) {t t2 ke ve : TypeId} {x y : Operand} {b : Nat} (ht : P.underlying t = some (.map ke ve)) (hke : P.underlying ke = some dk)
    (hx : evP (rawOf fr) x = .map b) (hy : evP (rawOf fr) y = kf k) (hi : L[i]? = some (b, .map (l.map fun p => (kf p.1, vf p.2)))) (hN : (L.map Prod.fst).Nodup)
    (h : aopsR P ops stl r K fr (m.wth (L.set i (b, .map ((mdel l k).map fun p => (kf p.1, vf p.2)))))) :
    aopsR P ops stl (⟨none, .call ⟨.builtin .delete, #[x, y], #[t, t2]⟩, ty, pos, af, gd⟩ :: r) K fr (m.wth L) := by
  simp only [aopsR, aopR, hg, ares, qv]
  intro n hk hn F lim w ca st
  have hopd := okOper_opd hk
  have h1 := evP_rep st (hopd x (by simp [Op.operands, Call.operands]))
  have h2 := evP_rep st (hopd y (by simp [Op.operands, Call.operands]))
  rw [hx] at h1
  rw [hy] at h2
  have e1 : ca.eval x = .map (some b) := by generalize ca.eval x = q at h1; cases h1; rfl
  obtain ⟨w', r1, r2, r3⟩ := del_run (P := P) (t2 := t2) (ty := ty) he st (wth_get (m := m) i hN hi) ht hke h2
  rw [wth_set i hN hi] at r2
  have e2 : (#[x, y] : Array Operand).map ca.eval = #[.map (some b), ca.eval y] := by apply Array.ext'; simp [e1]
  refine ⟨.value (.tuple #[]), _, w', lim, _, _, ?_, .inl rfl, r2, r3, h⟩
  simp only [execOp, resolve, invoke, builtin, Sem.run_bind, Sem.run_pure, Result.andThen_ok, e2]
  rw [r1]; rfl


/-- Blocks that nobody looks at any more are let go. -/
theorem awp_drop {c : Code} {Q : Exit → Fr → AMem → Prop} (L1 L2 : List (Nat × AObj)) (hN : ((L1 ++ L2).map Prod.fst).Nodup) (hF : ∀ b ∈ L1.map Prod.fst, m b = none) (h : AWP P n c Q fr (m.wth L2)) : AWP P n c Q fr (m.wth (L1 ++ L2)) :=
  fun F lim w ca st => h F lim w ca (st.memSub (wth_sub2 L1 L2 hN hF))


theorem wth_news {l : List Nat} (h : l.Nodup) (hf : ∀ b ∈ l, m.wth L b = none) (hN : (L.map Prod.fst).Nodup) : (l ++ L.map Prod.fst).Nodup := by
  rw [List.nodup_append]
  exact ⟨h, hN, fun a ha b hb e => (wth_fresh (hf a ha)).1 (by rw [e]; exact hb)⟩


/-- How long a thing may be. -/
def bd1 : AV → Prop
  | .str s => s.length ≤ 140737488355328
  | .slice _ l => l.length ≤ 140737488355328
  | _ => True
def bdA : AV → Prop
  | .agg l => ∀ i, i < l.length → bd1 (l.getD i .junk)
  | x => bd1 x
theorem rep_bd1 {v : Value} {x : AV} {os : List Nat} (h : Rep w lim v x os) : bd1 x := by
  cases h with
  | str s h => show s.data.toList.length ≤ _; simp; exact h
  | nils own => simp [bd1]
  | empty a cap hm => simp [bd1]
  | slice b off n cap sz l cv hn hcap hm hbig => show l.length ≤ _; omega
  | own b n cap sz l cv cur e hn hcap hm hbig => show l.length ≤ _; omega
  | _ => trivial
theorem rep_bdA {v : Value} {x : AV} {os : List Nat} (h : Rep w lim v x os) : bdA x := by
  cases h with
  | agg cs xs os h hr => exact fun i hi => rep_bd1 (hr i hi)
  | str s h => show s.data.toList.length ≤ _; simp; exact h
  | nils own => simp [bdA, bd1]
  | empty a cap hm => simp [bdA, bd1]
  | slice b off n cap sz l cv hn hcap hm hbig => show l.length ≤ _; omega
  | own b n cap sz l cv cur e hn hcap hm hbig => show l.length ≤ _; omega
  | _ => trivial
theorem bd_map {α : Type} {f : α → AV} {o : Bool} {l : List α} (h : bd1 (.slice o (l.map f))) : l.length ≤ 140737488355328 := by
  have : (l.map f).length ≤ 140737488355328 := h
  simpa using this
theorem awp_bd {c : Code} {Q : Exit → Fr → AMem → Prop} (t : Nat) {x : AV} (hx : fr.get t = some x) (h : bdA x → AWP P n c Q fr m) : AWP P n c Q fr m := fun F lim w ca st => by
  have hb : bdA x := by
    obtain ⟨os, om, ow, hs⟩ := st
    exact rep_bdA (hs.slots t x hx).2
  exact h hb F lim w ca st


end
end Go.Aw
end
section
namespace Go.Aw
open Go

section
variable {P : Program} {F : Nat → Prop} {lim : Nat → Nat} {w w' : World} {n : Nat} {fr : Fr} {m : AMem} {ca : Act} {fl : List Nat}

/-- The parts at these places, each counted in what is left, and the others. -/
def pick {α : Type} : List α → List Nat → List α × List α
  | L, [] => ([], L)
  | L, i :: is => match L[i]? with
    | some a => (a :: (pick (L.eraseIdx i) is).1, (pick (L.eraseIdx i) is).2)
    | none => pick L is
theorem pick_one {α : Type} : ∀ {l : List α} {i : Nat} {a : α}, l[i]? = some a → l.Perm (a :: l.eraseIdx i)
  | [], _, _, h => by simp at h
  | x :: l, 0, a, h => by
    obtain rfl : x = a := by simpa using h
    exact .refl _
  | x :: l, i + 1, a, h => ((pick_one (l := l) (i := i) (by simpa using h)).cons x).trans (.swap _ _ _)
theorem pick_perm {α : Type} : ∀ (is : List Nat) (L : List α), L.Perm ((pick L is).1 ++ (pick L is).2)
  | [], L => .refl _
  | i :: is, L => by
    unfold pick
    split
    · next a h =>
      exact (pick_one h).trans (List.Perm.cons _ (pick_perm is _))
    · exact pick_perm is L

theorem drop_nodup {L L1 L2 : List (Nat × AObj)} (hN : (L.map Prod.fst).Nodup) (hp : L.Perm (L1 ++ L2)) : (L2.map Prod.fst).Nodup := by
  have h := (hp.map Prod.fst).nodup_iff.1 hN
  rw [List.map_append] at h
  exact (List.nodup_append.1 h).2.1

/-- Blocks that nobody looks at any more are let go, wherever they stand. -/
theorem awp_dropP {c : Code} {Q : Exit → Fr → AMem → Prop} {L : List (Nat × AObj)} (L1 L2 : List (Nat × AObj)) (hN : (L.map Prod.fst).Nodup) (hp : L.Perm (L1 ++ L2)) (hF : ∀ b ∈ L1.map Prod.fst, m b = none) (h : AWP P n c Q fr (m.wth L2)) : AWP P n c Q fr (m.wth L) := by
  rw [wth_perm hN hp]
  exact awp_drop L1 L2 ((hp.map Prod.fst).nodup_iff.1 hN) hF h


theorem wth_new1 {L L1 L2 : List (Nat × AObj)} {x : Nat} (hN : (L.map Prod.fst).Nodup) (hp : L.Perm (L1 ++ L2)) (hq : (x :: L1.map Prod.fst).Nodup) (hx : m.wth L2 x = none) : (x :: L.map Prod.fst).Nodup ∧ m x = none := by
  refine ⟨List.nodup_cons.2 ⟨fun h => ?_, hN⟩, (wth_fresh hx).2⟩
  have h2 := ((hp.map Prod.fst).mem_iff).1 h
  rw [List.map_append] at h2
  rcases List.mem_append.1 h2 with h2 | h2
  · exact (List.nodup_cons.1 hq).1 h2
  · exact (wth_fresh hx).1 h2

end
end Go.Aw
end
section
namespace Go.Aw
open Go Go.RowKit Go.WideShapes Go.ChangeShapes

section
variable {P : Program} {fuel : Nat} {t e : TypeId}

theorem weightsEach_mem {H : Type} : ∀ {ts : List TypeId} {ds : List (DataW H)} {i : Nat} {t : TypeId} {d : DataW H}, ts[i]? = some t → ds[i]? = some d → ∀ n ∈ d.weights P t, n ∈ DataW.weightsEach P ts ds
  | a :: ts, b :: ds, 0, t, d, ht, hd, n, hn => by
    simp only [List.getElem?_cons_zero, Option.some.injEq] at ht hd
    subst ht; subst hd
    exact List.mem_append_left _ hn
  | a :: ts, b :: ds, i + 1, t, d, ht, hd, n, hn => by
    simp only [List.getElem?_cons_succ] at ht hd
    exact List.mem_append_right _ (weightsEach_mem ht hd n hn)
  | [], _, i, t, d, ht, _, _, _ => by simp at ht
  | _ :: _, [], i, t, d, _, hd, _, _ => by simp at hd

end
end Go.Aw
end
section
namespace Go.Aw
open Go Go.MapKept
open Go.ChangeMaps (setBlock)

section
variable {P : Program} {F : Nat → Prop} {lim : Nat → Nat} {w w' : World} {n : Nat} {fr : Fr} {m : AMem} {ca : Act} {fl : List Nat}

theorem mrep_map_all {b : Nat} {l : List (AV × AV)} {os : Nat → List Nat} (h : MRep w lim b (.map l) os) : ∃ (es : Array MapEntry) (clock : Nat), w.heap[b]? = some (.map es clock) ∧ es.size = l.length ∧ l.length ≤ 140737488355328 ∧
    (∀ i, i < l.length → Rep w lim (es.getD i default).key (l.getD i (.junk, .junk)).1 []) ∧ (∀ i, i < l.length → Rep w lim (es.getD i default).val (l.getD i (.junk, .junk)).2 []) ∧ (∀ i j, i < j → j < l.length → (es.getD i default).born < (es.getD j default).born) ∧ (∀ i, i < l.length → (es.getD i default).born < clock) := by
  cases h with
  | map es clock l hb hs hbig hk hv h1 h2 os => exact ⟨es, clock, hb, hs, hbig, hk, hv, h1, h2⟩

theorem mrep_iter_all {b r : Nat} {l : List (AV × AV)} {seen : List Nat} {os : Nat → List Nat} (h : MRep w lim b (.iter r l seen) os) : ∃ (es : Array MapEntry) (clock : Nat), w.heap[b]? = some (.map es clock) ∧ es.size = l.length ∧ l.length ≤ 140737488355328 ∧
    (∀ i, i < l.length → Rep w lim (es.getD i default).key (l.getD i (.junk, .junk)).1 []) ∧ (∀ i, i < l.length → Rep w lim (es.getD i default).val (l.getD i (.junk, .junk)).2 []) ∧ (∀ i j, i < j → j < l.length → (es.getD i default).born < (es.getD j default).born) ∧ (∀ i, i < l.length → (es.getD i default).born < clock) ∧
    w.heap[r]? = some (.mapIter (some b) clock (seen.map fun i => (es.getD i default).born).toArray clock) ∧ (∀ i ∈ seen, i < l.length) ∧ r ∈ os 0 := by
  cases h with
  | iter es clock r l seen hb hs hbig hk hv h1 h2 hr hsn os hos => exact ⟨es, clock, hb, hs, hbig, hk, hv, h1, h2, hr, hsn, hos⟩

/-- An iterator is laid. -/
theorem St.range (st : St F lim w n fr m ca fl) {b : Nat} {l : List (AV × AV)} (hm : m b = some (.map l)) :
    ∃ es clock, w.heap[b]? = some (.map es clock) ∧ m w.heap.size = none ∧ St F lim (w.alloc (.mapIter (some b) clock #[] clock)) n fr (m.upd b (some (.iter w.heap.size l []))) ca fl ∧ Pres F w lim (w.alloc (.mapIter (some b) clock #[] clock)) lim := by
  have hz := st.lim_new
  have hmn : m w.heap.size = none := by
    cases hb : m w.heap.size with
    | none => rfl
    | some o => exact absurd (st.lt_of_mem (b := w.heap.size) (by rw [hb]; simp)) (Nat.lt_irrefl _)
  have hFn : ¬ F w.heap.size := fun hf => absurd (st.lt_of_F hf) (Nat.lt_irrefl _)
  have hblt : b < w.heap.size := st.lt_of_mem (by rw [hm]; simp)
  have hP := fun clock => Pres.alloc st (.mapIter (some b) clock #[] clock) 0
  have hlim : (fun b => if b = w.heap.size then 0 else lim b) = lim := by funext b; by_cases hb : b = w.heap.size <;> simp [hb, hz]
  rw [hlim] at hP
  obtain ⟨os, om, ow, h⟩ := st
  obtain ⟨hM, hl, hF⟩ := h.mem b _ hm
  obtain ⟨es, clock, hb, hs, hbig, hk, hv, h1, h2⟩ := mrep_map_all hM
  refine ⟨es, clock, hb, hmn, ?_, hP clock⟩
  have hsz1 : (w.alloc (.mapIter (some b) clock #[] clock)).heap.size = w.heap.size + 1 := Array.size_push _
  have hst : ∀ {v x os'}, Rep w lim v x os' → (∀ c ∈ os', ow c ≠ .none) → Rep (w.alloc (.mapIter (some b) clock #[] clock)) lim v x os' := fun hR ho =>
    hR.stable (fun _ => Nat.le_refl _) (hP clock).cell (fun c hc => ⟨heapOld w _ c (h.free c (ho c hc)).2.2, rfl⟩)
  have how : ∀ c, ow c ≠ .none → c ≠ w.heap.size := fun c hc e => by have := (h.free c hc).2.2; omega
  refine ⟨os, fun k i => if k = b then (if i = 0 then [w.heap.size] else []) else om k i, fun c => if c = w.heap.size then .blk b 0 else ow c, h.size, h.defers, fun t x hx => ⟨(h.slots t x hx).1, hst (h.slots t x hx).2 (fun c hc => by rw [(h.ownS t x hx).2 c hc]; simp)⟩, fun k o hk' => ?_, fun t x hx => ⟨(h.ownS t x hx).1, fun c hc => ?_⟩, fun k o hk' i => ?_, ⟨h.ownF.1, fun c hc => ?_⟩, fun c hc => ?_, fun k hk' => ?_⟩
  · by_cases hkb : k = b
    · subst hkb
      simp only [AMem.upd, ↓reduceIte, Option.some.injEq] at hk'
      subst hk'
      refine ⟨.iter es clock w.heap.size l [] ((heapOld w _ k hblt).trans hb) hs hbig (fun i hi => hst (hk i hi) (by simp)) (fun i hi => hst (hv i hi) (by simp)) h1 h2 (heapNew w _) (by simp) _ (by simp), hl, hF⟩
    · simp only [AMem.upd, if_neg hkb] at hk'
      have hM' := h.mem k o hk'
      simp only [if_neg hkb]
      have hklt : k < w.heap.size := by
        rcases Nat.lt_or_ge k w.heap.size with h3 | h3
        · exact h3
        · rw [(h.fresh k h3).2.2] at hk'; cases hk'
      refine ⟨hM'.1.stable (heapOld w _ k hklt) (fun _ => Nat.le_refl _) (hP clock).cell (fun i c hc => ⟨heapOld w _ c (h.free c ?_).2.2, rfl⟩), hM'.2⟩
      rw [(h.ownM k o hk' i).2 c hc]; simp
  · have e1 := (h.ownS t x hx).2 c hc
    have e2 : c ≠ w.heap.size := how c (by rw [e1]; simp)
    simp only [if_neg e2, e1]
  · by_cases hkb : k = b
    · subst hkb
      simp only [if_true]
      by_cases hi : i = 0
      · subst hi; simp
      · simp [hi]
    · simp only [AMem.upd, if_neg hkb] at hk'
      simp only [if_neg hkb]
      refine ⟨(h.ownM k o hk' i).1, fun c hc => ?_⟩
      have e1 := (h.ownM k o hk' i).2 c hc
      have e2 : c ≠ w.heap.size := how c (by rw [e1]; simp)
      simp only [if_neg e2, e1]
  · have e1 := h.ownF.2 c hc
    have e2 : c ≠ w.heap.size := how c (by rw [e1]; simp)
    simp only [if_neg e2, e1]
  · by_cases e2 : c = w.heap.size
    · subst e2
      refine ⟨hFn, ?_, by rw [hsz1]; omega⟩
      simp only [AMem.upd]
      rw [if_neg (by omega)]; exact hmn
    · simp only [if_neg e2] at hc
      have := h.free c hc
      refine ⟨this.1, ?_, by have := this.2.2; rw [hsz1]; omega⟩
      simp only [AMem.upd]
      rw [if_neg (by intro e; subst e; rw [hm] at this; exact absurd this.2.1 (by simp))]; exact this.2.1
  · have hsz : w.heap.size + 1 ≤ k := by rw [hsz1] at hk'; exact hk'
    have := h.fresh k (by omega)
    refine ⟨this.1, this.2.1, ?_⟩
    simp only [AMem.upd]
    rw [if_neg (by omega)]; exact this.2.2

/-- The iterator goes on. -/
theorem St.nextMem (st : St F lim w n fr m ca fl) {b r : Nat} {l : List (AV × AV)} {seen : List Nat} (hm : m b = some (.iter r l seen)) {es : Array MapEntry} {clock : Nat} (hb : w.heap[b]? = some (.map es clock)) {k : Nat} (hk : k < l.length) {w1 : World} (hw1 : w1 = w ∨ w1 = w.drew) :
    St F lim (setBlock w1 r (.mapIter (some b) clock ((seen.map fun i => (es.getD i default).born).toArray.push (es.getD k default).born) clock)) n fr (m.upd b (some (.iter r l (seen ++ [k])))) ca fl ∧ Pres F w lim (setBlock w1 r (.mapIter (some b) clock ((seen.map fun i => (es.getD i default).born).toArray.push (es.getD k default).born) clock)) lim := by
  obtain ⟨os, om, ow, h⟩ := st
  obtain ⟨hM, hl, hF⟩ := h.mem b _ hm
  obtain ⟨es', clock', hb', hs, hbig, hk', hv, h1, h2, hr, hsn, hos⟩ := mrep_iter_all hM
  obtain ⟨rfl, rfl⟩ : es' = es ∧ clock' = clock := by rw [hb] at hb'; injection hb' with e; injection e with e1 e2; exact ⟨e1.symm, e2.symm⟩
  have hw1h : w1.heap = w.heap := by rcases hw1 with rfl | rfl <;> rfl
  generalize hw : setBlock w1 r (.mapIter (some b) clock' ((seen.map fun i => (es'.getD i default).born).toArray.push (es'.getD k default).born) clock') = w2
  have hrlt : r < w.heap.size := (Array.getElem?_eq_some_iff.1 hr).1
  have hother : ∀ j, j ≠ r → w2.heap[j]? = w.heap[j]? := fun j hj => by rw [← hw]; simp [setBlock, hw1h, Array.getElem?_setIfInBounds, Ne.symm hj]
  have hself : w2.heap[r]? = some (.mapIter (some b) clock' ((seen.map fun i => (es'.getD i default).born).toArray.push (es'.getD k default).born) clock') := by rw [← hw]; simp [setBlock, hw1h, hrlt]
  have hsize : w2.heap.size = w.heap.size := by rw [← hw]; simp [setBlock, hw1h]
  have hcell : ∀ j o, o < lim j → w2.cell? ⟨j, o, none⟩ = w.cell? ⟨j, o, none⟩ := fun j o ho => by
    by_cases hj : j = r
    · subst hj
      simp [World.cell?, hself, hr]
    · simp [World.cell?, hother j hj]
  have hor : ow r = .blk b 0 := (h.ownM b _ hm 0).2 r hos
  have hmr : m r = none := (h.free r (by rw [hor]; simp)).2.1
  have hrF : ¬ F r := (h.free r (by rw [hor]; simp)).1
  have hbr : b ≠ r := fun e => by subst e; rw [hm] at hmr; cases hmr
  have hst : ∀ {v x os'}, Rep w lim v x os' → (∀ c ∈ os', c ≠ r) → Rep w2 lim v x os' := fun hR ho => hR.stable (fun _ => Nat.le_refl _) hcell (fun c hc => ⟨hother c (ho c hc), rfl⟩)
  refine ⟨⟨os, om, ow, h.size, h.defers, fun t x hx => ⟨(h.slots t x hx).1, hst (h.slots t x hx).2 (fun c hc e => by have := (h.ownS t x hx).2 c hc; rw [e, hor] at this; cases this)⟩, fun j o hj => ?_, h.ownS, fun j o hj i => ?_, h.ownF, fun c hc => ⟨(h.free c hc).1, ?_, by rw [hsize]; exact (h.free c hc).2.2⟩, fun j hj => ?_⟩, ?_⟩
  · by_cases hjb : j = b
    · subst hjb
      simp only [AMem.upd, ↓reduceIte, Option.some.injEq] at hj
      subst hj
      refine ⟨.iter es' clock' r l (seen ++ [k]) ((hother j hbr).trans hb) hs hbig (fun i hi => hst (hk' i hi) (by simp)) (fun i hi => hst (hv i hi) (by simp)) h1 h2 (by rw [hself]; simp) (fun i hi => ?_) _ hos, hl, hF⟩
      rcases List.mem_append.1 hi with h3 | h3
      · exact hsn i h3
      · obtain rfl : i = k := by simpa using h3
        exact hk
    · simp only [AMem.upd, if_neg hjb] at hj
      have hM' := h.mem j o hj
      have hjr : j ≠ r := fun e => by subst e; rw [hmr] at hj; cases hj
      refine ⟨hM'.1.stable (hother j hjr) (fun _ => Nat.le_refl _) hcell (fun i c hc => ⟨hother c (fun e => ?_), rfl⟩), hM'.2⟩
      have := (h.ownM j o hj i).2 c hc
      rw [e, hor] at this
      injection this with e3
      exact hjb e3.symm
  · by_cases hjb : j = b
    · subst hjb; exact h.ownM j _ hm i
    · simp only [AMem.upd, if_neg hjb] at hj
      exact h.ownM j o hj i
  · have := (h.free c hc).2.1
    simp only [AMem.upd]
    rw [if_neg (fun e => by subst e; rw [hm] at this; cases this)]; exact this
  · rw [hsize] at hj
    have := h.fresh j hj
    refine ⟨this.1, this.2.1, ?_⟩
    simp only [AMem.upd]
    rw [if_neg (fun e => by subst e; rw [hm] at this; cases this.2.2)]; exact this.2.2
  · have hos' : w2.os = w.os := by rw [← hw]; rcases hw1 with rfl | rfl <;> rfl
    have htp : w2.tape = w.tape := by rw [← hw]; rcases hw1 with rfl | rfl <;> rfl
    have hout : w2.output = w.output := by rw [← hw]; rcases hw1 with rfl | rfl <;> rfl
    exact ⟨hos', htp, hout, by rw [hsize]; exact Nat.le_refl _, fun j hj => ⟨hother j (fun e => hrF (by rw [← e]; exact hj)), rfl⟩, fun _ => Nat.le_refl _, hcell⟩

/-- The iterator is let go. -/
theorem St.unrange (st : St F lim w n fr m ca fl) {b r : Nat} {l : List (AV × AV)} {seen : List Nat} (hm : m b = some (.iter r l seen)) : St F lim w n fr (m.upd b (some (.map l))) ca fl := by
  obtain ⟨os, om, ow, h⟩ := st
  obtain ⟨hM, hl, hF⟩ := h.mem b _ hm
  obtain ⟨es, clock, hb, hs, hbig, hk, hv, h1, h2, _, _, _⟩ := mrep_iter_all hM
  refine ⟨os, fun k i => om k i, ow, h.size, h.defers, h.slots, fun k o hk' => ?_, h.ownS, fun k o hk' i => ?_, h.ownF, fun c hc => ⟨(h.free c hc).1, ?_, (h.free c hc).2.2⟩, fun k hk' => ?_⟩
  · by_cases hkb : k = b
    · subst hkb
      simp only [AMem.upd, ↓reduceIte, Option.some.injEq] at hk'
      subst hk'
      exact ⟨.map es clock l hb hs hbig hk hv h1 h2 _, hl, hF⟩
    · simp only [AMem.upd, if_neg hkb] at hk'
      exact h.mem k o hk'
  · by_cases hkb : k = b
    · subst hkb; exact h.ownM k _ hm i
    · simp only [AMem.upd, if_neg hkb] at hk'
      exact h.ownM k o hk' i
  · have := (h.free c hc).2.1
    simp only [AMem.upd]
    rw [if_neg (fun e => by subst e; rw [hm] at this; cases this)]; exact this
  · have := h.fresh k hk'
    refine ⟨this.1, this.2.1, ?_⟩
    simp only [AMem.upd]
    rw [if_neg (fun e => by subst e; rw [hm] at this; cases this.2.2)]; exact this.2.2

theorem awp_unrange {c : Code} {Q : Exit → Fr → AMem → Prop} {L : List (Nat × AObj)} (i : Nat) {b r : Nat} {l : List (AV × AV)} {seen : List Nat} (hN : (L.map Prod.fst).Nodup) (hi : L[i]? = some (b, .iter r l seen)) (h : AWP P n c Q fr (m.wth (L.set i (b, .map l)))) : AWP P n c Q fr (m.wth L) := fun F lim w ca st => by
  have := st.unrange (wth_get (m := m) i hN hi)
  rw [wth_set i hN hi] at this
  exact h F lim w ca this

variable {ops : Array Oper} {stl : List Nat} {r : List Oper} {K : Fr → AMem → Prop} {d : Nat} {ty : TypeId} {pos : String} {af : Array Edge} {gd : Option (Nat × Bool)} {L : List (Nat × AObj)}

theorem ar_range (hg : gOn ops fr gd = some true) (i : Nat) {t ke ve : TypeId} {x : Operand} {b : Nat} {l : List (AV × AV)} (ht : P.underlying t = some (.map ke ve)) (hx : evP (rawOf fr) x = .map b) (hi : L[i]? = some (b, .map l)) (hN : (L.map Prod.fst).Nodup)
    (h : ∀ q, m.wth L q = none → aopsR P ops stl r K (fr.put d (.ptr ⟨q, 0, none⟩)) (m.wth (L.set i (b, .iter q l [])))) :
    aopsR P ops stl (⟨some d, .range t x, ty, pos, af, gd⟩ :: r) K fr (m.wth L) := by
  simp only [aopsR, aopR, hg, ares, qv]
  intro n hk hn F lim w ca st
  have hopd := okOper_opd hk
  have h1 := evP_rep st (hopd x (by simp [Op.operands]))
  rw [hx] at h1
  have e1 : ca.eval x = .map (some b) := by generalize ca.eval x = q at h1; cases h1; rfl
  obtain ⟨es, clock, hb, hmn, s1, s2⟩ := st.range (wth_get (m := m) i hN hi)
  rw [wth_set i hN hi] at s1
  refine ⟨.value (.pointer (some ⟨w.heap.size, 0, none⟩)), _, w.alloc (.mapIter (some b) clock #[] clock), lim, _, _, ?_, .inl rfl, s1.putO (d := some d) (fun t ht => okOper_dst hk ht) (.ptr _), s2, h _ hmn⟩
  simp only [execOp, e1, Instr.range, Sem.run_bind, run_underlying ht, run_getObj_map hb, Result.andThen_ok]
  rfl

theorem leftOf_mem {es : Array MapEntry} {A : Array Nat} {e : MapEntry} (h : e ∈ (leftOf es A).toList) : e ∈ es.toList ∧ ¬ e.born ∈ A.toList := by
  unfold leftOf at h
  simpa using h

theorem ar_next (hg : gOn ops fr gd = some true) (i : Nat) {x : Operand} {b q : Nat} {l : List (AV × AV)} {seen : List Nat} (hx : evP (rawOf fr) x = .ptr ⟨q, 0, none⟩) (hi : L[i]? = some (b, .iter q l seen)) (hN : (L.map Prod.fst).Nodup)
    (h0 : (∀ k, k < l.length → k ∈ seen) → aopsR P ops stl r K (fr.put d (.tuple [.bool false])) (m.wth L))
    (h1 : ∀ k, k < l.length → ¬ k ∈ seen → aopsR P ops stl r K (fr.put d (.tuple [.bool true, (l.getD k (.junk, .junk)).1, (l.getD k (.junk, .junk)).2])) (m.wth (L.set i (b, .iter q l (seen ++ [k]))))) :
    aopsR P ops stl (⟨some d, .next x false, ty, pos, af, gd⟩ :: r) K fr (m.wth L) := by
  simp only [aopsR, aopR, hg, ares, qv]
  intro n hk hn F lim w ca st
  have hopd := okOper_opd hk
  have hx1 := evP_rep st (hopd x (by simp [Op.operands]))
  rw [hx] at hx1
  have e1 : ca.eval x = .pointer (some ⟨q, 0, none⟩) := by generalize ca.eval x = z at hx1; cases hx1; rfl
  have hm := wth_get (m := m) i hN hi
  have hrep : ∃ os, MRep w lim b (.iter q l seen) os := by
    obtain ⟨os, om, ow, h⟩ := st
    exact ⟨_, (h.mem b _ hm).1⟩
  obtain ⟨os, hM⟩ := hrep
  obtain ⟨es, clock, hb, hs, hbig, hk', hv, hb1, hb2, hr, hsn, hos⟩ := mrep_iter_all hM
  have hge : ∀ k, k < l.length → ∃ e, es[k]? = some e ∧ es.getD k default = e := fun k hk2 => by
    have : k < es.size := by omega
    exact ⟨es[k], Array.getElem?_eq_getElem this, by simp [Array.getD, this]⟩
  have hbi : ∀ i j, i < l.length → j < l.length → (es.getD i default).born = (es.getD j default).born → i = j := fun i j hi2 hj2 he => by
    rcases Nat.lt_trichotomy i j with h3 | h3 | h3
    · have := hb1 i j h3 hj2; omega
    · exact h3
    · have := hb1 j i h3 hi2; omega
  have hold : ∀ x ∈ es.toList, x.born < clock := fun x hx2 => by
    obtain ⟨k, hk2, e2⟩ := List.getElem_of_mem hx2
    have hk3 : k < es.size := by simpa using hk2
    have := hb2 k (by omega)
    rw [arr_getD (Array.getElem?_eq_getElem hk3)] at this
    rw [← e2]; simpa using this
  rcases run_next_at (P := P) w ty q b clock clock _ es clock hr hb hold (Nat.le_refl _) with ⟨h3, h4⟩ | ⟨e, he, w1, hw1, h4⟩
  · have hT : Rep w lim (.tuple #[.bool false]) (.tuple [.bool false]) [] := by
      have := Rep.tuple (w := w) (lim := lim) #[.bool false] [.bool false] (fun _ => []) rfl (fun i hi => by
        obtain rfl : i = 0 := by simpa using hi
        exact .bool _)
      rwa [flatMap_nil] at this
    refine ⟨.value (.tuple #[.bool false]), _, w, lim, _, _, by simp only [execOp, e1, Sem.run_bind, h4]; rfl, .inl rfl, st.putO (d := some d) (fun t ht => okOper_dst hk ht) (x := .tuple [.bool false]) hT, .refl _ _ _, h0 (fun k hk2 => ?_)⟩
    · obtain ⟨e, he1, he2⟩ := hge k hk2
      apply Classical.byContradiction
      intro hns
      have : e ∈ (leftOf es (seen.map fun i => (es.getD i default).born).toArray).toList := by
        unfold leftOf
        have hme : e ∈ es := Array.mem_of_getElem? he1
        simp only [Array.toList_filter, List.mem_filter, Array.mem_toList_iff, hme, true_and]
        simp only [List.contains_toArray, Bool.not_eq_true', List.contains_eq_mem, decide_eq_false_iff_not, List.mem_map]
        rintro ⟨j, hj, hj2⟩
        have := hbi j k (hsn j hj) hk2 (by rw [hj2, he2])
        exact hns (this ▸ hj)
      have hz : (leftOf es (seen.map fun i => (es.getD i default).born).toArray).toList.length = 0 := by simpa using h3
      rw [List.length_eq_zero_iff] at hz
      rw [hz] at this; cases this
  · obtain ⟨hee, hne⟩ := leftOf_mem he
    obtain ⟨k, hk2, e2⟩ := List.getElem_of_mem hee
    have hk3 : k < es.size := by simpa using hk2
    have hkl : k < l.length := by omega
    have hd : es.getD k default = e := by rw [arr_getD (Array.getElem?_eq_getElem hk3)]; simpa using e2
    have hns : ¬ k ∈ seen := fun hc => hne (List.mem_map.2 ⟨k, hc, by rw [hd]⟩)
    obtain ⟨s1, s2⟩ := st.nextMem hm hb hkl hw1
    rw [wth_set i hN hi] at s1
    rw [hd] at s1 s2
    have hK := hk' k hkl
    have hV := hv k hkl
    rw [hd] at hK hV
    have hT : Rep (setBlock w1 q (.mapIter (some b) clock ((seen.map fun i => (es.getD i default).born).toArray.push e.born) clock)) lim (.tuple #[.bool true, e.key, e.val]) (.tuple [.bool true, (l.getD k (.junk, .junk)).1, (l.getD k (.junk, .junk)).2]) [] := by
      have := Rep.tuple (w := setBlock w1 q (.mapIter (some b) clock ((seen.map fun i => (es.getD i default).born).toArray.push e.born) clock)) (lim := lim) #[.bool true, e.key, e.val] [.bool true, (l.getD k (.junk, .junk)).1, (l.getD k (.junk, .junk)).2] (fun _ => []) rfl (fun i hi => by
        match i, hi with
        | 0, _ => exact .bool _
        | 1, _ => exact hK.stable (fun _ => Nat.le_refl _) s2.cell (by simp)
        | 2, _ => exact hV.stable (fun _ => Nat.le_refl _) s2.cell (by simp))
      rwa [flatMap_nil] at this
    refine ⟨.value (.tuple #[.bool true, e.key, e.val]), _, _, lim, _, _, by simp only [execOp, e1, Sem.run_bind, h4]; rfl, .inl rfl, s1.putO (d := some d) (fun t ht => okOper_dst hk ht) (x := .tuple [.bool true, (l.getD k (.junk, .junk)).1, (l.getD k (.junk, .junk)).2]) hT, s2, h1 k hkl hns⟩

theorem ar_entry (hg : gOn ops fr gd = some true) (i : Nat) {x : Operand} {b q k : Nat} {l : List (AV × AV)} {seen : List Nat} (hx : evP (rawOf fr) x = .ptr ⟨q, 0, none⟩) (hi : L[i]? = some (b, .iter q l (seen ++ [k]))) (hN : (L.map Prod.fst).Nodup)
    (h : aopsR P ops stl r K (fr.put d (.tuple [(l.getD k (.junk, .junk)).1, (l.getD k (.junk, .junk)).2])) (m.wth L)) :
    aopsR P ops stl (⟨some d, .entry x, ty, pos, af, gd⟩ :: r) K fr (m.wth L) := by
  simp only [aopsR, aopR, hg, ares, qv]
  intro n hk hn F lim w ca st
  have hopd := okOper_opd hk
  have hx1 := evP_rep st (hopd x (by simp [Op.operands]))
  rw [hx] at hx1
  have e1 : ca.eval x = .pointer (some ⟨q, 0, none⟩) := by generalize ca.eval x = z at hx1; cases hx1; rfl
  have hm := wth_get (m := m) i hN hi
  have hrep : ∃ os, MRep w lim b (.iter q l (seen ++ [k])) os := by
    obtain ⟨os, om, ow, h⟩ := st
    exact ⟨_, (h.mem b _ hm).1⟩
  obtain ⟨os, hM⟩ := hrep
  obtain ⟨es, clock, hb, hs, hbig, hk', hv, hb1, hb2, hr, hsn, hos⟩ := mrep_iter_all hM
  have hkl : k < l.length := hsn k (by simp)
  have hk3 : k < es.size := by omega
  have hd : es.getD k default = es[k] := arr_getD (Array.getElem?_eq_getElem hk3)
  have hn2 : (es.toList.map (·.born)).Nodup := by
    rw [List.nodup_iff_pairwise_ne, List.pairwise_iff_getElem]
    intro i j hi2 hj2 hij
    simp only [List.length_map, Array.length_toList] at hi2 hj2
    have := hb1 i j hij (by omega)
    rw [arr_getD (Array.getElem?_eq_getElem hi2), arr_getD (Array.getElem?_eq_getElem hj2)] at this
    simp only [List.getElem_map, Array.getElem_toList]
    omega
  rw [List.map_append, ← List.toArray_appendList] at hr
  have hK := hk' k hkl
  have hV := hv k hkl
  rw [hd] at hK hV
  have h4 := run_entry_at (P := P) w q b clock (seen.map fun i => (es.getD i default).born).toArray es clock es[k] (by rw [hr]; simp [hk3]) hb (by simp) hn2
  refine ⟨.value (.tuple #[es[k].key, es[k].val]), _, w, lim, _, _, by simp only [execOp, e1, Sem.run_bind, h4]; rfl, .inl rfl, st.putO (d := some d) (fun t ht => okOper_dst hk ht) (x := .tuple [(l.getD k (.junk, .junk)).1, (l.getD k (.junk, .junk)).2]) ?_, .refl _ _ _, h⟩
  have := Rep.tuple (w := w) (lim := lim) #[es[k].key, es[k].val] [(l.getD k (.junk, .junk)).1, (l.getD k (.junk, .junk)).2] (fun _ => []) rfl (fun i hi => by
    match i, hi with
    | 0, _ => exact hK
    | 1, _ => exact hV)
  rwa [flatMap_nil] at this

section
variable {κ ν : Type} {kf : κ → AV} {vf : ν → AV}
theorem mapAV_get {l : List (κ × ν)} {k : Nat} (hk : k < (l.map (mapAV kf vf)).length) : ∃ p, l[k]? = some p ∧ (l.map (mapAV kf vf)).getD k (.junk, .junk) = (kf p.1, vf p.2) := by
  have hk' : k < l.length := by simpa using hk
  exact ⟨l[k], List.getElem?_eq_getElem hk', by simp [List.getD_eq_getElem?_getD, hk', mapAV]⟩
theorem ar_nextT (hg : gOn ops fr gd = some true) (i : Nat) (kf : κ → AV) (vf : ν → AV) (l : List (κ × ν)) (seen : List Nat) {x : Operand} {b q : Nat} (hx : evP (rawOf fr) x = .ptr ⟨q, 0, none⟩) (hi : L[i]? = some (b, .iter q (l.map (mapAV kf vf)) seen)) (hN : (L.map Prod.fst).Nodup)
    (h0 : (∀ k, k < l.length → k ∈ seen) → aopsR P ops stl r K (fr.put d (.tuple [.bool false])) (m.wth L))
    (h1 : ∀ k p, l[k]? = some p → ¬ k ∈ seen → aopsR P ops stl r K (fr.put d (.tuple [.bool true, kf p.1, vf p.2])) (m.wth (L.set i (b, .iter q (l.map (mapAV kf vf)) (seen ++ [k]))))) :
    aopsR P ops stl (⟨some d, .next x false, ty, pos, af, gd⟩ :: r) K fr (m.wth L) :=
  ar_next hg i hx hi hN (fun h => h0 (by simpa using h)) (fun k hk hn => by
    obtain ⟨p, hp, e⟩ := mapAV_get hk
    rw [e]; exact h1 k p hp hn)
theorem ar_entryT (hg : gOn ops fr gd = some true) (i : Nat) (kf : κ → AV) (vf : ν → AV) (l : List (κ × ν)) (seen : List Nat) {p : κ × ν} {x : Operand} {b q k : Nat} (hp : l[k]? = some p) (hx : evP (rawOf fr) x = .ptr ⟨q, 0, none⟩) (hi : L[i]? = some (b, .iter q (l.map (mapAV kf vf)) (seen ++ [k]))) (hN : (L.map Prod.fst).Nodup)
    (h : aopsR P ops stl r K (fr.put d (.tuple [kf p.1, vf p.2])) (m.wth L)) :
    aopsR P ops stl (⟨some d, .entry x, ty, pos, af, gd⟩ :: r) K fr (m.wth L) :=
  ar_entry hg i hx hi hN (by
    obtain ⟨hk, hp'⟩ := List.getElem?_eq_some_iff.1 hp
    obtain ⟨p', hp', e⟩ := mapAV_get (kf := kf) (vf := vf) (l := l) (k := k) (by simpa using hk)
    obtain rfl : p = p' := by rw [hp] at hp'; exact Option.some.inj hp'
    rw [e]; exact h)
end

end
end Go.Aw
end
section
namespace Go.Aw
open Go Go.Sort
open Go.Proofs (encStr)

section
variable {P : Program} {F : Nat → Prop} {lim : Nat → Nat} {w w' : World} {n : Nat} {fr : Fr} {m : AMem} {ca : Act} {fl : List Nat}

def sortL (ss : List (List UInt8)) : List (List UInt8) := ss.mergeSort fun x y => decide (x ≤ y)
theorem ms_none {v : Value} {a : Addr} {k c : Nat} {os : List Nat} (h : Rep w lim v (.ms a k c) os) : os = [] := by
  cases h; rfl
def Fr.conv1 (t : Nat) (x : AV) (fr : Fr) : Fr := fr.map fun p => if p.1 = t then (t, x) else p
theorem Fr.get_conv1 (t : Nat) (x : AV) (s : Nat) : ∀ fr : Fr, (Fr.conv1 t x fr).get s = if s = t then (fr.get s).map (fun _ => x) else fr.get s := by
  intro fr
  induction fr with
  | nil => simp [Fr.conv1, Fr.get]
  | cons p fr ih =>
    obtain ⟨q, y⟩ := p
    unfold Fr.conv1 at ih ⊢
    rw [List.map_cons]
    by_cases hq : q = t
    · subst hq
      simp only [Fr.get, if_true]
      by_cases hs : q = s
      · subst hs; simp
      · rw [if_neg hs, if_neg hs, ih]
    · simp only [if_neg hq, Fr.get]
      by_cases hs : q = s
      · subst hs; rw [if_pos rfl, if_neg hq]; simp
      · rw [if_neg hs, if_neg hs, ih]

end
end Go.Aw
end
section
namespace Go.Aw
open Go Go.Sort

section
variable {P : Program} {F : Nat → Prop} {lim : Nat → Nat} {w w' : World} {n : Nat} {fr : Fr} {m : AMem} {ca : Act} {fl : List Nat}

/-- A slot reads otherwise. -/
theorem awp_conv1 {c : Code} {Q : Exit → Fr → AMem → Prop} (t : Nat) (x y : AV) (hx : fr.get t = some x) (hc : ∀ w lim v os, Rep w lim v x os → Rep w lim v y []) (h : AWP P n c Q (fr.conv1 t y) m) : AWP P n c Q fr m := fun F lim w ca st => by
  refine h F lim w ca ?_
  obtain ⟨os, om, ow, h0⟩ := st
  refine ⟨fun s => if s = t then [] else os s, om, ow, h0.size, h0.defers, fun s z hz => ?_, h0.mem, fun s z hz => ?_, h0.ownM, h0.ownF, h0.free, h0.fresh⟩
  · rw [Fr.get_conv1] at hz
    by_cases hs : s = t
    · subst hs
      rw [if_pos rfl, hx] at hz
      obtain rfl : y = z := by simpa using hz
      have := h0.slots s x hx
      exact ⟨this.1, by simp only [if_true]; exact hc _ _ _ _ this.2⟩
    · rw [if_neg hs] at hz
      simp only [if_neg hs]
      exact h0.slots s z hz
  · rw [Fr.get_conv1] at hz
    by_cases hs : s = t
    · subst hs; simp
    · rw [if_neg hs] at hz
      simp only [if_neg hs]
      exact h0.ownS s z hz

theorem nils_of_own (w : World) (lim : Nat → Nat) (v : Value) (os : List Nat) (h : Rep w lim v (.slice true []) os) : Rep w lim v .nils [] := by
  generalize hx : AV.slice true [] = x at h
  cases h <;> first | (cases hx; done) | skip
  · exact .nilS none
  · next b k cap sz l cv cur e hn h1 h2 h3 h0 _ _ _ _ _ _ =>
    cases hx
    simp only [List.length_nil] at hn
    subst hn
    rcases h0 with h0 | h0
    · exact absurd h0 (by simp)
    · subst h0; exact .nilS _
theorem own_of_nils (w : World) (lim : Nat → Nat) (v : Value) (os : List Nat) (h : Rep w lim v .nils os) : Rep w lim v (.slice false []) [] := by
  generalize hx : AV.nils = x at h
  cases h <;> first | (cases hx; done) | skip
  rename_i a
  cases a with
  | none => exact .nils false
  | some a => exact .empty a 0 (by simp [maxLen])

theorem nils_inv {v : Value} {os : List Nat} (h : Rep w lim v .nils os) : ∃ a, v = .slice a 0 0 := by
  generalize hx : AV.nils = x at h
  cases h <;> first | (cases hx; done) | skip
  exact ⟨_, rfl⟩

end
end Go.Aw
end
section
namespace Go.Aw
open Go

section
variable {P : Program} {w : World} {lim : Nat → Nat} {v : Value} {x : AV} {os : List Nat} {n : Nat} {fr : Fr} {m : AMem}

/-- How large a thing may be. -/
def bd2 : AV → Prop
  | .str s => s.length ≤ 140737488355328
  | .slice _ l => l.length ≤ 140737488355328
  | .int k i => k.min ≤ i ∧ i ≤ k.max
  | _ => True
theorem rep_bd2 (h : Rep w lim v x os) : bd2 x := by
  cases h with
  | int k i lo hi => exact ⟨lo, hi⟩
  | str s h => show s.data.toList.length ≤ _; simp; exact h
  | nils own => simp [bd2]
  | empty a cap hm => simp [bd2]
  | slice b off n cap sz l cv hn hcap hm hbig => show l.length ≤ _; omega
  | own b n cap sz l cv cur e hn hcap hm hbig => show l.length ≤ _; omega
  | _ => trivial
/-- .. of a list's elements. -/
def bdL (l : List AV) : Prop := ∀ i j, i < l.length → j < (l.getD i .junk).cells.length → bd2 ((l.getD i .junk).cells.getD j .junk)
theorem rep_bdL {o : Bool} {l : List AV} (h : Rep w lim v (.slice o l) os) : bdL l := by
  intro i j hi hj
  cases h with
  | nils own => simp at hi
  | empty a cap hm => simp at hi
  | slice b off n cap sz l cv hn hcap hm hbig hsz hlim hc hr => exact rep_bd2 (hr i j (by omega) (by rw [← hsz i (by omega)]; exact hj))
  | own b n cap sz l cv cur e hn hcap hm hbig h0 hb hcur hsz hlim hc hr => exact rep_bd2 (hr i j (by omega) (by rw [← hsz i (by omega)]; exact hj))
theorem awp_bdL {c : Code} {Q : Exit → Fr → AMem → Prop} (t : Nat) {o : Bool} {l : List AV} (hx : fr.get t = some (.slice o l)) (h : bdL l → AWP P n c Q fr m) : AWP P n c Q fr m := fun F lim w ca st => by
  have hb : bdL l := by
    obtain ⟨os, om, ow, hs⟩ := st
    exact rep_bdL (hs.slots t _ hx).2
  exact h hb F lim w ca st
theorem bdL_map {α : Type} {f : α → AV} {l : List α} {a : α} (h : bdL (l.map f)) (ha : a ∈ l) (j : Nat) (hj : j < (f a).cells.length) : bd2 ((f a).cells.getD j .junk) := by
  obtain ⟨i, hi, e⟩ := List.getElem_of_mem ha
  have e2 : (l.map f).getD i .junk = f a := by simp [List.getD_eq_getElem?_getD, hi, e]
  have := h i j (by simpa using hi) (by rw [e2]; exact hj)
  rwa [e2] at this
theorem pure_mem {f : Nat} {args : List AV} {m' m'' : AMem} (e : m' = m'') {x : AV} (h : ∀ K : AV → AMem → Prop, K x m'' → ACalls P f args m'' K) : ∀ K : AV → AMem → Prop, K x m' → ACalls P f args m' K := by
  subst e; exact h
end
end Go.Aw
end
section
namespace Go.Aw
open Go

section
variable {P : Program} {n : Nat} {fr : Fr} {m : AMem}

def memSlot (ds : List Nat) (o : Oper) : Bool := match o.dst with | some d => ds.contains d | none => false
def chainOk (ops : Array Oper) : List Nat → Bool
  | a :: b :: r => (closure ops b (edges ops b)).contains a && chainOk ops (b :: r)
  | _ => true
/-- The calls that change memory: where they stand, and what they fill. -/
def memOk (ops : Array Oper) (mc : List (Nat × Nat)) : Bool :=
  drawOk ops && chainOk ops (mc.map (·.1)) &&
  ((List.range ops.size).all fun i => match ops[i]? with
    | some o => !memSlot (mc.map (·.2)) o || (mc.map (·.1)).contains i
    | none => true) &&
  mc.all fun pd => match ops[pd.1]? with
    | some o => o.guard.isNone && o.dst == some pd.2 && (match o.op with | .call ⟨.value (.func _), _, _⟩ => true | _ => false) &&
      ((List.range ops.size).all fun j => match ops[j]? with
        | some q => (decide (j < pd.1) || (match q.dst with | some e => !(slotsOf ops o).contains e | none => true)) && (decide (pd.1 < j) || !(slotsOf ops q).contains pd.2)
        | none => true)
    | none => false
def preput (fr : Fr) : List (Nat × AV) → Fr
  | [] => fr
  | (d, c) :: r => (preput fr r).put d c.plain
def callsM (P : Program) (ops : Array Oper) (E : Fr) : List AMem → List (Nat × AV) → Prop
  | m :: m' :: r, (p, c) :: q => (match ops[p]? with | some o => (match o.op with | .call ⟨.value (.func f), args, _⟩ => ∀ K : AV → AMem → Prop, K c m' → ACalls P f (args.toList.map (evP (rawOf E))) m K | _ => False) | none => False) ∧ callsM P ops E (m' :: r) q
  | _, _ => True
def allM (p : AMem → Prop) : List AMem → Prop
  | [] => True
  | m :: r => p m ∧ allM p r
theorem allM_get {p : AMem → Prop} : ∀ {l : List AMem}, allM p l → ∀ i, i < l.length → ∀ x, l[i]? = some x → p x := by
  intro l
  induction l with
  | nil => intro _ i hi; exact absurd hi (Nat.not_lt_zero _)
  | cons a l ih =>
    intro h i hi x hx
    cases i with
    | zero => simp at hx; subst hx; exact h.1
    | succ i => exact ih h.2 i (by simpa using hi) x (by simpa using hx)
theorem callsM_get {ops : Array Oper} {E : Fr} : ∀ {q : List (Nat × AV)} {Ms : List AMem}, callsM P ops E Ms q → ∀ a, a < q.length → ∀ m m' p c, Ms[a]? = some m → Ms[a + 1]? = some m' → q[a]? = some (p, c) → ∃ (o : Oper) (f : Nat) (args : Array Operand) (ts : Array TypeId), ops[p]? = some o ∧ o.op = .call ⟨.value (.func f), args, ts⟩ ∧ ∀ K : AV → AMem → Prop, K c m' → ACalls P f (args.toList.map (evP (rawOf E))) m K := by
  intro q
  induction q with
  | nil => intro Ms _ a ha; exact absurd ha (Nat.not_lt_zero _)
  | cons x q ih =>
    intro Ms h a ha m m' p c h1 h2 h3
    match Ms, h1, h2 with
    | [], h1, _ => simp at h1
    | [y], _, h2 => simp at h2
    | y :: z :: Ms, h1, h2 =>
      obtain ⟨p', c'⟩ := x
      cases a with
      | zero =>
        simp at h1 h2 h3
        obtain ⟨rfl, rfl⟩ := h3
        subst h1; subst h2
        have := h.1
        split at this
        · next o ho =>
          split at this
          · next f args ts hop => exact ⟨o, f, args, ts, ho, hop, this⟩
          · exact this.elim
        · exact this.elim
      | succ a => exact ih h.2 a (by simpa using ha) m m' p c (by simpa using h1) (by simpa using h2) (by simpa using h3)
theorem chainOk_get {ops : Array Oper} : ∀ {l : List Nat}, chainOk ops l = true → ∀ a x y, l[a]? = some x → l[a + 1]? = some y → x ∈ closure ops y (edges ops y) := by
  intro l
  induction l with
  | nil => intro _ a x y h; simp at h
  | cons z l ih =>
    intro h a x y h1 h2
    match l, h, h2, ih with
    | [], _, h2, _ => simp at h2
    | w :: l, h, h2, ih =>
      simp only [chainOk, Bool.and_eq_true] at h
      cases a with
      | zero => simp at h1 h2; subst h1; subst h2; simpa using h.1
      | succ a => exact ih h.2 a x y (by simpa using h1) (by simpa using h2)
theorem preput_ne {fr : Fr} {t : Nat} : ∀ {l : List (Nat × AV)}, t ∉ l.map Prod.fst → rawOf (preput fr l) t = rawOf fr t := by
  intro l
  induction l with
  | nil => intro _; rfl
  | cons x l ih =>
    intro h
    simp only [List.map_cons, List.mem_cons, not_or] at h
    obtain ⟨d, c⟩ := x
    simp only [preput, rawOf_put]
    rw [if_neg (fun e => h.1 e.symm), ih h.2]
theorem preput_eq {fr : Fr} {d : Nat} {c : AV} : ∀ {l : List (Nat × AV)}, (l.map Prod.fst).Nodup → (d, c) ∈ l → rawOf (preput fr l) d = c.plain := by
  intro l
  induction l with
  | nil => intro _ h; cases h
  | cons x l ih =>
    intro hn h
    obtain ⟨d', c'⟩ := x
    simp only [List.map_cons, List.nodup_cons] at hn
    simp only [preput, rawOf_put]
    rcases List.mem_cons.1 h with h | h
    · injection h with h1 h2; subst h1; subst h2; rw [if_pos rfl]
    · rw [if_neg, ih hn.2 h]
      intro e; subst e
      exact hn.1 (List.mem_map_of_mem (f := Prod.fst) h)
theorem pseqF_trace {ops : Array Oper} {m : AMem} (q : Oper → Bool) : ∀ (l : List Oper) (cs : List AV) (fr : Fr) (K : Fr → Prop), pseq P ops m cs (l.filter q) fr K → ∃ (T : Nat → Fr) (c : Nat → AV) (val : Nat → AV), T 0 = fr ∧ K (T l.length) ∧
    ∀ i o, l[i]? = some o → (q o = true → (∃ side, pv P ops m (c i) (rawOf (T i)) o = some (side, val i) ∧ side) ∧ T (i + 1) = putO (T i) o.dst (val i)) ∧ (q o = false → T (i + 1) = T i) := by
  intro l
  induction l with
  | nil => intro cs fr K h; exact ⟨fun _ => fr, fun _ => .junk, fun _ => .junk, rfl, h, fun i o hi => by simp at hi⟩
  | cons o l ih =>
    intro cs fr K h
    cases hq : q o with
    | true =>
      rw [List.filter_cons_of_pos hq] at h
      simp only [pseq] at h
      split at h
      · next side x hp =>
        obtain ⟨hs, h⟩ := h
        obtain ⟨T, c, val, h1, h2, h3⟩ := ih _ _ K h
        refine ⟨fun i => match i with | 0 => fr | i + 1 => T i, fun i => match i with | 0 => cs.headD .junk | i + 1 => c i, fun i => match i with | 0 => x | i + 1 => val i, rfl, h2, fun i o' hi => ?_⟩
        cases i with
        | zero =>
          simp at hi; subst hi
          exact ⟨fun _ => ⟨⟨side, hp, hs⟩, h1⟩, fun h0 => by rw [hq] at h0; cases h0⟩
        | succ i => exact h3 i o' (by simpa using hi)
      · exact h.elim
    | false =>
      rw [List.filter_cons_of_neg (by simp [hq])] at h
      obtain ⟨T, c, val, h1, h2, h3⟩ := ih _ _ K h
      refine ⟨fun i => match i with | 0 => fr | i + 1 => T i, fun i => match i with | 0 => .junk | i + 1 => c i, fun i => match i with | 0 => .junk | i + 1 => val i, rfl, h2, fun i o' hi => ?_⟩
      cases i with
      | zero =>
        simp at hi; subst hi
        exact ⟨fun h0 => absurd (hq.symm.trans h0) (by decide), fun _ => h1⟩
      | succ i => exact h3 i o' (by simpa using hi)
theorem text_framesF {ops : Array Oper} (D : DrawFacts ops) (q : Oper → Bool) {T : Nat → Fr} {val : Nat → AV} {fr0 : Fr} (h0 : T 0 = fr0) (hs : ∀ (i : Nat) (o : Oper), ops[i]? = some o → (q o = true → T (i + 1) = putO (T i) o.dst (val i)) ∧ (q o = false → T (i + 1) = T i)) :
    ∀ i, i ≤ ops.size → ∀ t, (∀ (j : Nat) (o : Oper), j < i → ops[j]? = some o → q o = true → o.dst = some t → rawOf (T i) t = val j) ∧ ((∀ (j : Nat) (o : Oper), j < i → ops[j]? = some o → q o = true → o.dst ≠ some t) → rawOf (T i) t = rawOf fr0 t) := by
  intro i
  induction i with
  | zero => intro _ t; exact ⟨fun j o hj => absurd hj (Nat.not_lt_zero _), fun _ => by rw [h0]⟩
  | succ i ih =>
    intro hi t
    have hlt : i < ops.size := hi
    obtain ⟨ih1, ih2⟩ := ih (by omega) t
    have ho : ops[i]? = some ops[i] := Array.getElem?_eq_getElem hlt
    obtain ⟨d, hd⟩ := D.dst i _ ho
    cases hq : q ops[i] with
    | false =>
      rw [(hs i _ ho).2 hq]
      refine ⟨fun j o hj hjo hqo hdt => ?_, fun hno => ih2 fun j o hj hjo => hno j o (by omega) hjo⟩
      refine ih1 j o ?_ hjo hqo hdt
      rcases Nat.lt_succ_iff_lt_or_eq.1 hj with h | h
      · exact h
      · subst h
        rw [ho] at hjo; cases hjo
        rw [hq] at hqo; cases hqo
    | true =>
      have hT := (hs i _ ho).1 hq
      rw [hd] at hT
      simp only [putO] at hT
      rw [hT, rawOf_put]
      refine ⟨fun j o hj hjo hqo hdt => ?_, fun hno => ?_⟩
      · by_cases e : d = t
        · subst e
          have : j = i := D.apart j i o _ hjo ho (by rw [hdt, hd])
          subst this
          simp
        · rw [if_neg e]
          refine ih1 j o ?_ hjo hqo hdt
          rcases Nat.lt_succ_iff_lt_or_eq.1 hj with h | h
          · exact h
          · subst h
            rw [ho] at hjo
            cases hjo
            rw [hd] at hdt
            exact (e (by simpa using hdt)).elim
      · have e : ¬ d = t := fun e => hno i _ (Nat.lt_succ_self i) ho hq (by rw [hd, e])
        rw [if_neg e]
        exact ih2 fun j o hj hjo => hno j o (by omega) hjo

set_option maxHeartbeats 2000000 in
theorem awp_draw_mem {id : Nat} {ops : Array Oper} {Q : Exit → Fr → AMem → Prop} (hm : P.follows .mixedOrders = true) (mc : List (Nat × Nat × AV)) (Ms : List AMem) (cs : List AV) (ks : List Nat) (E : Fr) (M : AMem) (hk : okAll n ops ks = true)
    (hd : memOk ops (mc.map fun x => (x.1, x.2.1)) = true) (hds : (mc.map fun x => x.2.1).Nodup) (hM0 : Ms[0]? = some m) (hMk : Ms[mc.length]? = some M) (hlen : Ms.length = mc.length + 1)
    (hc : callsM P ops E Ms (mc.map fun x => (x.1, x.2.2)))
    (hp : allM (fun m => pseq P ops m cs (ops.toList.filter fun o => !memSlot (mc.map fun x => x.2.1) o) (preput fr (mc.map fun x => x.2)) (fun fr' => fr' = E)) Ms)
    (h : ∀ K : Fr → AMem → Prop, (∀ fr m, Q .normal fr m → K fr m) → K (E.keep ks) M) : AWP P n (.region id ops true) Q fr m := by
  replace h := h (Q .normal) (fun _ _ h => h)
  intro F lim w ca st
  simp only [memOk, Bool.and_eq_true, List.map_map, Function.comp_def] at hd
  obtain ⟨⟨⟨hd1, hd2⟩, hd3⟩, hd4⟩ := hd
  have D := drawFacts hd1
  simp only [okAll, Bool.and_eq_true, List.all_eq_true] at hk
  have hlt : ∀ {i : Nat} {o : Oper}, ops[i]? = some o → i < ops.size := fun hi => (Array.getElem?_eq_some_iff.1 hi).1
  -- the calls, one by one
  have hC : ∀ a, a < mc.length → ∃ (p d : Nat) (c : AV) (o : Oper) (f : Nat) (args : Array Operand) (ts : Array TypeId) (ma mb : AMem), mc[a]? = some (p, d, c) ∧ ops[p]? = some o ∧ o.guard = none ∧ o.dst = some d ∧ o.op = .call ⟨.value (.func f), args, ts⟩ ∧ Ms[a]? = some ma ∧ Ms[a + 1]? = some mb ∧
      (∀ K : AV → AMem → Prop, K c mb → ACalls P f (args.toList.map (evP (rawOf E))) ma K) ∧
      (∀ j q e, ops[j]? = some q → q.dst = some e → e ∈ slotsOf ops o → j < p) ∧ (∀ j q, ops[j]? = some q → d ∈ slotsOf ops q → p < j) := by
    intro a ha
    obtain ⟨x, hx⟩ : ∃ x, mc[a]? = some x := ⟨_, List.getElem?_eq_getElem ha⟩
    obtain ⟨p, d, c⟩ := x
    obtain ⟨ma, hma⟩ : ∃ x, Ms[a]? = some x := ⟨_, List.getElem?_eq_getElem (by omega)⟩
    obtain ⟨mb, hmb⟩ : ∃ x, Ms[a + 1]? = some x := ⟨_, List.getElem?_eq_getElem (by omega)⟩
    obtain ⟨o, f, args, ts, ho, hop, hcall⟩ := callsM_get hc a (by simpa using ha) ma mb p c hma hmb (by simp [hx])
    have hmem : (p, d, c) ∈ mc := List.mem_of_getElem? hx
    have h4 := List.all_eq_true.1 hd4 (p, d) (List.mem_map.2 ⟨(p, d, c), hmem, rfl⟩)
    simp only [ho, Bool.and_eq_true, List.all_eq_true, List.mem_range] at h4
    obtain ⟨⟨⟨g1, g2⟩, _⟩, g3⟩ := h4
    refine ⟨p, d, c, o, f, args, ts, ma, mb, hx, ho, by simpa using g1, by simpa using g2, hop, hma, hmb, hcall, fun j q e hq he hes => ?_, fun j q hq hes => ?_⟩
    · have := g3 j (hlt hq)
      simp only [hq, he, Bool.and_eq_true, Bool.or_eq_true, decide_eq_true_eq] at this
      rcases this.1 with h | h
      · exact h
      · have hc : (slotsOf ops o).contains e = true := by simpa using hes
        rw [hc] at h; cases h
    · have := g3 j (hlt hq)
      simp only [hq, Bool.and_eq_true, Bool.or_eq_true, decide_eq_true_eq] at this
      rcases this.2 with h | h
      · exact h
      · have hc : (slotsOf ops q).contains d = true := by simpa using hes
        rw [hc] at h; cases h
  have hmemS : ∀ i o, ops[i]? = some o → memSlot (mc.map fun x => x.2.1) o = true → ∃ (a d : Nat) (c : AV), mc[a]? = some (i, d, c) ∧ o.dst = some d := by
    intro i o ho hs
    have := List.all_eq_true.1 hd3 i (by simpa using hlt ho)
    simp only [ho, hs, Bool.not_true, Bool.false_or] at this
    have hi : i ∈ mc.map fun x => x.1 := by simpa using this
    obtain ⟨x, hx, e⟩ := List.mem_map.1 hi
    obtain ⟨a, hal, hxa⟩ := List.getElem_of_mem hx
    obtain ⟨p, d, c⟩ := x
    simp only at e; subst e
    have hxa' : mc[a]? = some (p, d, c) := by rw [List.getElem?_eq_getElem hal, hxa]
    obtain ⟨p', d', c', o', _, _, _, _, _, e1, e2, _, e3, _⟩ := hC a hal
    rw [hxa'] at e1
    obtain ⟨rfl, rfl, rfl⟩ : p = p' ∧ d = d' ∧ c = c' := by simpa using e1
    rw [ho] at e2; cases e2
    exact ⟨a, d, c, hxa', e3⟩
  -- what the text's order comes to, under each memory
  have trace : ∀ j, j < Ms.length → ∀ mj, Ms[j]? = some mj → ∃ (T : Nat → Fr) (c : Nat → AV) (val : Nat → AV), T 0 = preput fr (mc.map fun x => x.2) ∧ T ops.size = E ∧
      ∀ i o, ops[i]? = some o → (memSlot (mc.map fun x => x.2.1) o = false → (∃ side, pv P ops mj (c i) (rawOf (T i)) o = some (side, val i) ∧ side) ∧ T (i + 1) = putO (T i) o.dst (val i)) ∧ (memSlot (mc.map fun x => x.2.1) o = true → T (i + 1) = T i) := by
    intro j hj mj hmj
    have := allM_get hp j hj mj hmj
    obtain ⟨T, c, val, h1, h2, h3⟩ := pseqF_trace _ _ _ _ _ this
    simp only [Array.getElem?_toList, Array.length_toList] at h2 h3
    exact ⟨T, c, val, h1, h2, fun i o ho => ⟨fun hs => (h3 i o ho).1 (by rw [hs]; rfl), fun hs => (h3 i o ho).2 (by rw [hs]; rfl)⟩⟩
  have frames : ∀ {T : Nat → Fr} {val : Nat → AV}, T 0 = preput fr (mc.map fun x => x.2) → (∀ i o, ops[i]? = some o → (memSlot (mc.map fun x => x.2.1) o = false → T (i + 1) = putO (T i) o.dst (val i)) ∧ (memSlot (mc.map fun x => x.2.1) o = true → T (i + 1) = T i)) → _ :=
    fun {T val} h0 hs => text_framesF D (fun o => !memSlot (mc.map fun x => x.2.1) o) (T := T) (val := val) h0 (fun i o ho => ⟨fun h => (hs i o ho).1 (by simpa using h), fun h => (hs i o ho).2 (by simpa using h)⟩)
  have hmap : (mc.map fun x => x.2).map Prod.fst = mc.map fun x => x.2.1 := by simp
  have pre_ne : ∀ t, t ∉ (mc.map fun x => x.2.1) → rawOf (preput fr (mc.map fun x => x.2)) t = rawOf fr t := fun t ht => preput_ne (by rw [hmap]; exact ht)
  have slot_w : ∀ t, t ∈ (mc.map fun x => x.2.1) → ∃ (j : Nat) (o : Oper), ops[j]? = some o ∧ o.dst = some t := fun t ht => by
    obtain ⟨x, hx, e⟩ := List.mem_map.1 ht
    obtain ⟨a, hal, hxa⟩ := List.getElem_of_mem hx
    obtain ⟨p', d', c', o', _, _, _, _, _, e1, e2, _, e3, _⟩ := hC a hal
    rw [List.getElem?_eq_getElem hal, hxa] at e1
    have e1' := Option.some.inj e1
    subst e1'
    exact ⟨p', o', e2, by rw [e3, ← e]⟩
  -- the last frame
  have Efr : ∀ t, (∀ (j : Nat) (o : Oper), ops[j]? = some o → memSlot (mc.map fun x => x.2.1) o = false → o.dst ≠ some t) → rawOf E t = rawOf (preput fr (mc.map fun x => x.2)) t := by
    intro t hno
    obtain ⟨T, c, val, h1, h2, h3⟩ := trace 0 (by omega) m hM0
    have := (frames h1 (fun i o ho => ⟨fun hs => ((h3 i o ho).1 hs).2, (h3 i o ho).2⟩) ops.size (Nat.le_refl _) t).2 fun j o _ ho hq => hno j o ho (by simpa using hq)
    rw [h2] at this
    exact this
  have Eno : ∀ t, (∀ (j : Nat) (o : Oper), ops[j]? = some o → o.dst ≠ some t) → rawOf E t = rawOf fr t := by
    intro t hno
    rw [Efr t fun j o ho _ => hno j o ho]
    exact pre_ne t fun ht => by
      obtain ⟨j, o, ho, hd⟩ := slot_w t ht
      exact hno j o ho hd
  refine wp_region_any hm ?_
  have key : ∀ fuel (listed : Array Bool) fr' lim' w' ca' (r : Nat) (mr : AMem), listed.size = ops.size → r ≤ mc.length → Ms[r]? = some mr →
      (∀ (a p d : Nat) (c : AV), mc[a]? = some (p, d, c) → (listed.getD p false = true ↔ a < r)) →
      (∀ t, (∀ (j : Nat) (o : Oper), ops[j]? = some o → listed.getD j false = true → o.dst = some t → rawOf fr' t = rawOf E t) ∧ ((∀ (j : Nat) (o : Oper), ops[j]? = some o → listed.getD j false = true → o.dst ≠ some t) → rawOf fr' t = rawOf fr t)) →
      (∀ (j : Nat) (o : Oper) (e : Edge), ops[j]? = some o → listed.getD j false = true → e ∈ o.after → Region.binds .any e = true → listed.getD e.on false = true) →
      ((List.range ops.size).filter fun j => !listed.getD j false).length ≤ fuel →
      St F lim' w' n fr' mr ca' [] → Pres F w lim w' lim' → wpAny P .any ops (APost F lim w n Q) fuel listed ca' w' := by
    intro fuel
    have fin : ∀ (listed : Array Bool) fr' lim' w' ca' (r : Nat) (mr : AMem), r ≤ mc.length → Ms[r]? = some mr → (∀ (a p d : Nat) (c : AV), mc[a]? = some (p, d, c) → (listed.getD p false = true ↔ a < r)) →
        (∀ t, (∀ (j : Nat) (o : Oper), ops[j]? = some o → listed.getD j false = true → o.dst = some t → rawOf fr' t = rawOf E t) ∧ ((∀ (j : Nat) (o : Oper), ops[j]? = some o → listed.getD j false = true → o.dst ≠ some t) → rawOf fr' t = rawOf fr t)) →
        (∀ j, j < ops.size → listed.getD j false = true) → St F lim' w' n fr' mr ca' [] → Pres F w lim w' lim' → APost F lim w n Q .normal ca' w' := fun listed fr' lim' w' ca' r mr hr hmr hL hM hall s1 pr => by
      have hraw : ∀ t, rawOf fr' t = rawOf E t := fun t => by
        obtain ⟨a1, a2⟩ := hM t
        by_cases hex : ∃ (j : Nat) (o : Oper), ops[j]? = some o ∧ o.dst = some t
        · obtain ⟨j, o, hj, ho⟩ := hex
          exact a1 j o hj (hall j (hlt hj)) ho
        · rw [a2 fun j o hj _ ho => hex ⟨j, o, hj, ho⟩, Eno t fun j o hj ho => hex ⟨j, o, hj, ho⟩]
      have hrk : r = mc.length := by
        rcases Nat.lt_or_ge r mc.length with hlt' | hge
        · obtain ⟨p, d, c, o, _, _, _, _, _, e1, e2, _⟩ := hC r hlt'
          have := (hL r p d c e1).1 (hall p (hlt e2))
          omega
        · omega
      subst hrk
      rw [hMk] at hmr; cases hmr
      have hkeep : Fr.keep ks E = Fr.keep ks fr' := by
        unfold Fr.keep
        exact List.map_congr_left fun t _ => by have := hraw t; simp only [rawOf] at this; rw [this]
      rw [hkeep] at h
      exact ⟨lim', _, M, h, s1.keep (fun t ht => by simpa using hk.2 t ht), pr⟩
    have done : ∀ (listed : Array Bool), listed.size = ops.size → Region.ready .any ops listed = [] → ∀ j, j < ops.size → listed.getD j false = true := fun listed hls hr j => by
      induction j using Nat.strongRecOn with
      | _ j ih =>
        intro hj
        cases hl : listed.getD j false with
        | true => rfl
        | false =>
          have ho : ops[j]? = some ops[j] := Array.getElem?_eq_getElem hj
          have : j ∈ Region.ready .any ops listed := by
            rw [mem_ready]
            refine ⟨?_, _, ho, fun e he hb => ih e.on (D.back j _ e ho he hb) (Nat.lt_trans (D.back j _ e ho he hb) hj)⟩
            simp only [Array.getD_eq_getD_getElem?, Array.getElem?_eq_getElem (show j < listed.size by omega), Option.getD_some] at hl ⊢
            exact hl
          rw [hr] at this; cases this
    induction fuel with
    | zero =>
      intro listed fr' lim' w' ca' r mr hls hrk hmr hL hM hCl hcnt s1 pr
      have hall : ∀ j, j < ops.size → listed.getD j false = true := fun j hj => by
        cases hl : listed.getD j false with
        | true => rfl
        | false =>
          have : j ∈ (List.range ops.size).filter fun j => !listed.getD j false := List.mem_filter.2 ⟨List.mem_range.2 hj, by rw [hl]; rfl⟩
          have := List.length_pos_of_mem this
          omega
      refine ⟨?_, fin listed fr' lim' w' ca' r mr hrk hmr hL hM hall s1 pr⟩
      cases hr : Region.ready .any ops listed with
      | nil => rfl
      | cons j rs =>
        have hj : j ∈ Region.ready .any ops listed := by rw [hr]; simp
        rw [mem_ready] at hj
        obtain ⟨h1, o, ho, _⟩ := hj
        have := hall j (hlt ho)
        simp only [Array.getD_eq_getD_getElem?, Array.getElem?_eq_getElem (show j < listed.size by have := hlt ho; omega), Option.getD_some] at h1 this
        rw [h1] at this; cases this
    | succ fuel ih =>
      intro listed fr' lim' w' ca' r mr hls hrk hmr hL hM hCl hcnt s1 pr
      refine ⟨fun hr => fin listed fr' lim' w' ca' r mr hrk hmr hL hM (done listed hls hr) s1 pr, fun i hi => ?_⟩
      rw [mem_ready] at hi
      obtain ⟨hnl, o, ho, hedge⟩ := hi
      have hio := hlt ho
      have hnl' : listed.getD i false = false := by
        simp only [Array.getD_eq_getD_getElem?, Array.getElem?_eq_getElem (show i < listed.size by omega), Option.getD_some] at hnl ⊢
        exact hnl
      obtain ⟨d, hod⟩ := D.dst i o ho
      have hok := hk.1 o (by rw [Array.mem_toList_iff]; exact Array.mem_of_getElem? ho)
      -- what an operation finds
      have looksUp : ∀ t ∈ slotsOf ops o, (∃ (j : Nat) (p : Oper), ops[j]? = some p ∧ p.dst = some t ∧ j < i ∧ rawOf fr' t = rawOf E t) ∨ (∃ (j : Nat) (p : Oper), ops[j]? = some p ∧ p.dst = some t ∧ i ≤ j ∧ rawOf fr' t = rawOf fr t) ∨ ((∀ (j : Nat) (p : Oper), ops[j]? = some p → p.dst ≠ some t) ∧ rawOf fr' t = rawOf fr t) := fun t ht => by
        obtain ⟨a1, a2⟩ := hM t
        by_cases hex : ∃ (j : Nat) (p : Oper), ops[j]? = some p ∧ p.dst = some t
        · obtain ⟨j, p, hj, hp⟩ := hex
          obtain ⟨l1, l2⟩ := D.looks i j o p t ho hj hp ht
          have huniq : ∀ (j' : Nat) (p' : Oper), ops[j']? = some p' → p'.dst = some t → j' = j := fun j' p' hj' hp' => D.apart j' j p' p hj' hj (by rw [hp', hp])
          by_cases hji : j < i
          · obtain ⟨e, he, heon, heb⟩ := l1 hji
            have hlj : listed.getD j false = true := by rw [← heon]; exact hedge e he heb
            exact .inl ⟨j, p, hj, hp, hji, a1 j p hj hlj hp⟩
          · have hnlj : listed.getD j false = false := by
              by_cases hij : i < j
              · obtain ⟨e, he, heon, heb⟩ := l2 hij
                cases hlj : listed.getD j false with
                | false => rfl
                | true =>
                  have := hCl j p e hj hlj he heb
                  rw [heon, hnl'] at this; cases this
              · have : i = j := by omega
                subst this; exact hnl'
            exact .inr (.inl ⟨j, p, hj, hp, by omega, a2 (fun j' p' hj' hl' hp' => by
              rw [huniq j' p' hj' hp', hnlj] at hl'
              cases hl')⟩)
        · exact .inr (.inr ⟨fun j p hj hp => hex ⟨j, p, hj, hp⟩, a2 fun j p hj _ hp => hex ⟨j, p, hj, hp⟩⟩)
      -- behind it
      have next : ∀ (x : AV) (r' : Nat) (mr' : AMem), x = rawOf E d → r' ≤ mc.length → Ms[r']? = some mr' → (∀ (a p d : Nat) (c : AV), mc[a]? = some (p, d, c) → ((listed.setIfInBounds i true).getD p false = true ↔ a < r')) →
          ∀ lim'' w'' v, St F lim'' w'' n (fr'.put d x) mr' (ca'.put o.dst v) [] → Pres F w lim w'' lim'' → wpAny P .any ops (APost F lim w n Q) fuel (listed.setIfInBounds i true) (ca'.put o.dst v) w'' := by
        intro x r' mr' hx hr' hmr' hL' lim'' w'' v s2 pr2
        refine ih (listed.setIfInBounds i true) (fr'.put d x) lim'' w'' _ r' mr' (by simp [hls]) hr' hmr' hL' (fun t => ?_) (fun j p e hj hl he hb => ?_) ?_ s2 pr2
        · obtain ⟨a1, a2⟩ := hM t
          rw [rawOf_put]
          refine ⟨fun j p hj hl hp => ?_, fun hno => ?_⟩
          · by_cases e : d = t
            · subst e; rw [if_pos rfl, hx]
            · rw [if_neg e]
              have hji : i ≠ j := by
                intro e'
                subst e'
                rw [ho] at hj
                have hop : o = p := by simpa using hj
                rw [← hop, hod] at hp
                exact e (by simpa using hp)
              rw [getD_set_ne false hji] at hl
              exact a1 j p hj hl hp
          · have e : ¬ d = t := fun e => hno i o ho (by simp [show i < listed.size by omega]) (by rw [hod, e])
            rw [if_neg e]
            exact a2 fun j p hj hl => hno j p hj (getD_set_true hl)
        · by_cases hji : i = j
          · subst hji
            rw [ho] at hj; cases hj
            exact getD_set_true (hedge e he hb)
          · rw [getD_set_ne false hji] at hl
            exact getD_set_true (hCl j p e hj hl he hb)
        · have hmono : ∀ x, (!(listed.setIfInBounds i true).getD x false) = true → (!listed.getD x false) = true := by
            intro x hx
            cases hl : listed.getD x false with
            | false => rfl
            | true => rw [getD_set_true hl] at hx; simp at hx
          have := filter_lt (fun j => !listed.getD j false) (fun j => !(listed.setIfInBounds i true).getD j false) hmono (List.range ops.size) i (by simpa using hio) (by rw [hnl']; rfl) (by simp [show i < listed.size by omega])
          omega
      show wpOp P ops _ i _ ca' w'
      unfold wpOp
      rw [ho]
      show if Region.wanted o (yielded ops ca'.tmps) then _ else _
      cases hs : memSlot (mc.map fun x => x.2.1) o with
      | false =>
        obtain ⟨T, c, val, h1, h2, h3⟩ := trace r (by omega) mr hmr
        have hTf := frames h1 (fun i o ho => ⟨fun hs => ((h3 i o ho).1 hs).2, (h3 i o ho).2⟩)
        obtain ⟨⟨side, hpv, hside⟩, _⟩ := (h3 i o ho).1 hs
        have hval : val i = rawOf E d := by
          have := (hTf ops.size (Nat.le_refl _) d).1 i o hio ho (by simpa using hs) hod
          rw [h2] at this; exact this.symm
        have hnotin : d ∉ (mc.map fun x => x.2.1) := by
          simp only [memSlot, hod] at hs
          intro hin
          have : (mc.map fun x => x.2.1).contains d = true := by simpa using hin
          rw [this] at hs; cases hs
        have hraw : ∀ t ∈ slotsOf ops o, rawOf (T i) t = rawOf fr' t := fun t ht => by
          obtain ⟨b1, b2⟩ := hTf i (Nat.le_of_lt hio) t
          rcases looksUp t ht with ⟨j, p, hj, hp, hji, e⟩ | ⟨j, p, hj, hp, hij, e⟩ | ⟨hno, e⟩
          · rw [e]
            cases hsp : memSlot (mc.map fun x => x.2.1) p with
            | false =>
              rw [b1 j p hji hj (by simpa using hsp) hp]
              have := (hTf ops.size (Nat.le_refl _) t).1 j p (hlt hj) hj (by simpa using hsp) hp
              rw [h2] at this; exact this.symm
            | true =>
              have un : ∀ (j' : Nat) (q : Oper), ops[j']? = some q → memSlot (mc.map fun x => x.2.1) q = false → q.dst ≠ some t := fun j' q hj' hq hqt => by
                simp only [memSlot, hp] at hsp
                simp only [memSlot, hqt] at hq
                rw [hsp] at hq; cases hq
              rw [b2 fun j' q _ hj' hq => un j' q hj' (by simpa using hq), Efr t un]
          · rw [e]
            have un : ∀ (j' : Nat) (q : Oper), ops[j']? = some q → q.dst = some t → j' = j := fun j' q hj' hq => D.apart j' j q p hj' hj (by rw [hq, hp])
            rw [b2 fun j' q hlt' hj' _ hqt => by have := un j' q hj' hqt; omega]
            refine pre_ne t fun hin => ?_
            have hsp : memSlot (mc.map fun x => x.2.1) p = true := by simp only [memSlot, hp]; simpa using hin
            obtain ⟨a, d', c', hmca, hpd⟩ := hmemS j p hj hsp
            rw [hp] at hpd
            obtain rfl : t = d' := by simpa using hpd
            have hal : a < mc.length := (List.getElem?_eq_some_iff.1 hmca).1
            obtain ⟨p', d', c', o', _, _, _, _, _, e1, e2, _, e3, _, _, _, _, _, g2⟩ := hC a hal
            rw [hmca] at e1
            obtain ⟨rfl, rfl, rfl⟩ : j = p' ∧ t = d' ∧ _ = c' := by simpa using e1
            have := g2 i o ho ht
            omega
          · rw [e, b2 fun j' q _ hj' _ => hno j' q hj']
            exact pre_ne t fun hin => by
              obtain ⟨j, o, hj, hd⟩ := slot_w t hin
              exact hno j o hj hd
        rw [pv_congr hraw] at hpv
        refine pv_step hok.1 hok.2 hpv hside hod s1 fun lim'' w'' v'' s2 pr2 _ => ?_
        refine next (val i) r mr hval hrk hmr (fun a p d' c' hmca => ?_) lim'' w'' v'' s2 (pr.trans pr2)
        have hip : i ≠ p := fun e => by
          subst e
          have hal : a < mc.length := (List.getElem?_eq_some_iff.1 hmca).1
          obtain ⟨p', d'', c'', o', _, _, _, _, _, e1, e2, _, e3, _⟩ := hC a hal
          rw [hmca] at e1
          obtain ⟨rfl, rfl, rfl⟩ : i = p' ∧ d' = d'' ∧ c' = c'' := by simpa using e1
          rw [ho] at e2; cases e2
          rw [hod] at e3
          obtain rfl : d = d' := by simpa using e3
          exact hnotin (List.mem_map.2 ⟨_, List.mem_of_getElem? hmca, rfl⟩)
        rw [getD_set_ne false hip]
        exact hL a p d' c' hmca
      | true =>
        obtain ⟨a, d', c', hmca, hpd⟩ := hmemS i o ho hs
        rw [hod] at hpd
        obtain rfl : d = d' := by simpa using hpd
        have hal : a < mc.length := (List.getElem?_eq_some_iff.1 hmca).1
        obtain ⟨p', d', c'', o', f, args, ts, ma, mb, e1, e2, hg, e3, hop, hma, hmb, hcall, g1, g2⟩ := hC a hal
        rw [hmca] at e1
        obtain ⟨rfl, rfl, rfl⟩ : i = p' ∧ d = d' ∧ c' = c'' := by simpa using e1
        rw [ho] at e2; cases e2
        -- it is the next one
        have hra : r = a := by
          have q1 : ¬ a < r := fun hlt' => by
            have := (hL a i d c' hmca).2 hlt'
            rw [hnl'] at this; cases this
          have q2 : a ≤ r := by
            cases a with
            | zero => exact Nat.zero_le _
            | succ a =>
              obtain ⟨p', d', c'', o', _, _, _, _, _, e1, e2, _⟩ := hC a (by omega)
              have hch := chainOk_get hd2 a p' i (by simp [e1]) (by simp [hmca])
              have hcl := closure_listed (p := fun j => listed.getD j false = true) (ops := ops) (fun j hj e he => by
                have hjlt : j < ops.size := by
                  rcases Nat.lt_or_ge j ops.size with h | h
                  · exact h
                  · have : ops[j]? = none := Array.getElem?_eq_none h
                    simp [edges, this] at he
                have hjo : ops[j]? = some ops[j] := Array.getElem?_eq_getElem hjlt
                obtain ⟨e', he', hb', rfl⟩ := (edges_mem hjo).1 he
                exact hCl j _ e' hjo hj he' hb') i (edges ops i) (fun j hj => by
                  obtain ⟨e', he', hb', rfl⟩ := (edges_mem ho).1 hj
                  exact hedge e' he' hb') p' hch
              have := (hL a p' d' c'' e1).1 hcl
              omega
          omega
        subst hra
        rw [hmr] at hma; cases hma
        have hslots : ∀ t ∈ slotsOf ops o, rawOf E t = rawOf fr' t := fun t ht => by
          rcases looksUp t ht with ⟨j, p, hj, hp, hji, e⟩ | ⟨j, p, hj, hp, hij, e⟩ | ⟨hno, e⟩
          · exact e.symm
          · have := g1 j p t hj hp ht; omega
          · rw [e, Eno t hno]
        have hEd : c'.plain = rawOf E d := by
          rw [Efr d fun j q hj hq hqd => by
            simp only [memSlot, hod] at hs
            simp only [memSlot, hqd] at hq
            rw [hs] at hq; cases hq]
          exact (preput_eq (by rw [hmap]; exact hds) (List.mem_map.2 ⟨_, List.mem_of_getElem? hmca, rfl⟩)).symm
        rw [if_pos (by simp [Region.wanted, hg])]
        refine .inl ?_
        have hopd := okOper_opd hok.1
        have hargs : args.toList.map (evP (rawOf E)) = args.toList.map (evP (rawOf fr')) := List.map_congr_left fun y hy => evP_congr (op := o.op) (fun t ht => hslots t (List.mem_append.2 (.inr ht))) y (by rw [hop]; simp [Op.operands, Call.operands]; exact .inr (by simpa using hy))
        rw [hargs] at hcall
        have hA := args_rep (ca := ca') (a := evP (rawOf fr')) (args := args) (fun y hy => evP_rep s1 (hopd y (by rw [hop]; simp [Op.operands, Call.operands]; exact .inr (by simpa using hy))))
        refine call_wp (hcall (fun x' m' => x' = c' ∧ m' = mb) ⟨rfl, rfl⟩) s1 hA.1 hA.2 (fun fn g1 g2 g3 => by simp [execOp, hop, resolve, Deferred.ofValue, Act.eval, invoke, run_callFunc _ g1 g2 g3]) fun v x lim'' w'' m' os hK hR hS hP => ?_
        obtain ⟨rfl, rfl⟩ := hK
        have s2 : St F lim'' w'' n (fr'.put d x.plain) m' (ca'.put o.dst v) [] := by rw [hod]; exact hS.drop.set (okOper_dst hok.1 hod) hR.plain
        refine next x.plain (r + 1) m' hEd (by omega) hmb (fun a p d' c'' hmca' => ?_) lim'' w'' v s2 (pr.trans hP)
        by_cases hip : i = p
        · subst hip
          have har : a = r := by
            have h1 : mc.map (fun x => x.2.1) = mc.map (fun x => x.2.1) := rfl
            have hal' : a < mc.length := (List.getElem?_eq_some_iff.1 hmca').1
            obtain ⟨p', d'', c3, o', _, _, _, _, _, e1, e2, _, e3', _⟩ := hC a hal'
            rw [hmca'] at e1
            obtain ⟨rfl, rfl, rfl⟩ : i = p' ∧ d' = d'' ∧ c'' = c3 := by simpa using e1
            rw [ho] at e2; cases e2
            rw [hod] at e3'
            obtain rfl : d = d' := by simpa using e3'
            have hn := List.nodup_iff_pairwise_ne.1 hds
            rw [List.pairwise_iff_getElem] at hn
            have ga : (mc.map fun x => x.2.1)[a]'(by simpa using hal') = d := by
              have := (List.getElem?_eq_some_iff.1 hmca').2; simp [this]
            have gr : (mc.map fun x => x.2.1)[r]'(by simpa using hal) = d := by
              have := (List.getElem?_eq_some_iff.1 hmca).2; simp [this]
            rcases Nat.lt_trichotomy a r with hlt' | hlt' | hlt'
            · exact absurd (by rw [ga, gr]) (hn a r (by simpa using hal') (by simpa using hal) hlt')
            · exact hlt'
            · exact absurd (by rw [ga, gr]) (hn r a (by simpa using hal) (by simpa using hal') hlt')
          subst har
          have : (listed.setIfInBounds i true).getD i false = true := by simp [show i < listed.size by omega]
          rw [this]; simp
        · rw [getD_set_ne false hip]
          have hne : a ≠ r := fun e => by
            subst e
            rw [hmca] at hmca'
            obtain ⟨h1, _⟩ : i = p ∧ _ := by simpa using hmca'
            exact hip h1
          rw [hL a p d' c'' hmca']
          omega
  refine key ops.size (Array.replicate ops.size false) fr lim _ ca 0 m (by simp) (Nat.zero_le _) hM0 (fun a p d c hmca => ?_) (fun t => ⟨fun j o hj hl => ?_, fun _ => rfl⟩) (fun j o e hj hl => ?_) ?_ (st.heap (w' := { w with drawn := w.drawn + 1 }) rfl) (Pres.drew F w lim)
  · have hal : a < mc.length := (List.getElem?_eq_some_iff.1 hmca).1
    obtain ⟨p', d', c', o', _, _, _, _, _, e1, e2, _⟩ := hC a hal
    rw [hmca] at e1
    obtain ⟨rfl, rfl, rfl⟩ : p = p' ∧ d = d' ∧ c = c' := by simpa using e1
    have := hlt e2
    simp [Array.getD_eq_getD_getElem?, this]
  · have := hlt hj
    simp [Array.getD_eq_getD_getElem?, this] at hl
  · have := hlt hj
    simp [Array.getD_eq_getD_getElem?, this] at hl
  · refine Nat.le_trans (List.length_filter_le _ _) (by simp)
theorem awp_draw_memP {id : Nat} {ops : Array Oper} {Q : Exit → Fr → AMem → Prop} (hm : P.follows .mixedOrders = true) (pd : List (Nat × Nat)) (mc : List (Nat × Nat × AV)) (Ms : List AMem) (cs : List AV) (ks : List Nat) (E : Fr) (M : AMem) (hk : okAll n ops ks = true)
    (hd : memOk ops pd = true) (hds : (pd.map Prod.snd).Nodup) (hpd : mc.map (fun x => (x.1, x.2.1)) = pd) (hM0 : Ms[0]? = some m) (hMk : Ms[mc.length]? = some M) (hlen : Ms.length = mc.length + 1)
    (hc : callsM P ops E Ms (mc.map fun x => (x.1, x.2.2)))
    (hp : allM (fun m => pseq P ops m cs (ops.toList.filter fun o => !memSlot (mc.map fun x => x.2.1) o) (preput fr (mc.map fun x => x.2)) (fun fr' => fr' = E)) Ms)
    (h : ∀ K : Fr → AMem → Prop, (∀ fr m, Q .normal fr m → K fr m) → K (E.keep ks) M) : AWP P n (.region id ops true) Q fr m := by
  subst hpd
  exact awp_draw_mem hm mc Ms cs ks E M hk hd (by simpa [Function.comp_def] using hds) hM0 hMk hlen hc hp h
/-- A value that is known by another name. -/
theorem pq_top {ops : Array Oper} {cs : List AV} {r : List Oper} {K : Fr → Prop} {x : AV} (d : Nat) (x' : AV) (e : x = x') (h : pseq P ops m cs r ((d, x') :: fr) K) : pseq P ops m cs r ((d, x) :: fr) K := e ▸ h
theorem ar_top {ops : Array Oper} {stl : List Nat} {r : List Oper} {K : Fr → AMem → Prop} {x : AV} (d : Nat) (x' : AV) (e : x = x') (h : aopsR P ops stl r K ((d, x') :: fr) m) : aopsR P ops stl r K ((d, x) :: fr) m := e ▸ h
theorem ar_frame {ops : Array Oper} {stl : List Nat} {r : List Oper} {K : Fr → AMem → Prop} {fr : Fr} (fr' : Fr) (e : fr = fr') (h : aopsR P ops stl r K fr' m) : aopsR P ops stl r K fr m := e ▸ h
theorem bool_ff (b : Bool) : b = false ∨ b = true := by cases b <;> simp
theorem mem_call {f : Nat} {args : List AV} {m1 m2 m1' m2' : AMem} (e : m1 = m1') (e2 : m2 = m2') {x : AV} (h : ∀ K : AV → AMem → Prop, K x m2' → ACalls P f args m1' K) : ∀ K : AV → AMem → Prop, K x m2 → ACalls P f args m1 K := by
  subst e; subst e2; exact h
end
end Go.Aw
end
section
namespace Go.Aw
open Go

section
variable {P : Program} {n : Nat} {fr : Fr} {m : AMem}
theorem resOf_cell {a t b off : Nat} {l : List AV} (hraw : rawOf fr a = .ptr ⟨b, off, none⟩) (hm : m b = some (.cells l)) : resOf P fr m (.cell a t) = some (apartOk P t l off, (apart P t l off).plain) := by
  simp only [resOf, hraw, hm]
/-- A result that stands in memory. -/
theorem resK_cell1 {fn : Func} {K : AV → AMem → Prop} {a t b off : Nat} {l : List AV} (hr : fn.results.toList = [.cell a t]) (hraw : rawOf fr a = .ptr ⟨b, off, none⟩) (hm : m b = some (.cells l)) (hok : apartOk P t l off) (x : AV) (hx : (apart P t l off).plain = x) (m' : AMem) (hs : ∀ b o, m' b = some o → m b = some o) (hK : K x m') : resK P fn fr m K := by
  unfold resK
  rw [hr]
  simp only [resOf_cell hraw hm]
  rw [hx]
  exact ⟨hok, m', hs, hK⟩
end
end Go.Aw
end
section
namespace Go.Aw
open Go Go.RowKit Go.WideShapes Go.ChangeShapes

/-- What stands at type 't', so deep, reads as an α of which 'ok' holds. -/
def RdP (P : Program) (fuel : Nat) (t : TypeId) {α : Type} (f : α → AV) (ok : α → Prop) : Prop :=
  ∀ (H : Type) (enc : TypeId × Value → H) (W : World) (sp : Nat → Bool) (cs : List Value) (d : DataW H) (ps : List MemPlace), DataW.trod enc P W 0 sp true fuel t cs = some (d, ps) → (∀ n ∈ d.weights P t, n ≤ reachBytes) →
    ∃ x : α, ok x ∧ (f x).cells.length = cs.length ∧ ∀ i, i < cs.length → Rep W (limOf W) (cs.getD i undef) ((f x).cells.getD i .junk) []

section
variable {P : Program} {fuel : Nat} {t e : TypeId}

theorem RdP.mono {α : Type} {f : α → AV} {ok ok' : α → Prop} (h : RdP P fuel t f ok) (hk : ∀ x, ok x → ok' x) : RdP P fuel t f ok' := fun H enc W sp cs d ps h1 h2 => by
  obtain ⟨x, h3, hx⟩ := h H enc W sp cs d ps h1 h2
  exact ⟨x, hk x h3, hx⟩
theorem RdP.arg {α : Type} {f : α → AV} {ok : α → Prop} {H : Type} {enc : TypeId × Value → H} {W : World} {sp : Nat → Bool} {cs : List Value} {v : Value} {d : DataW H} {ps : List MemPlace} (hr : ∀ n, RdP P n t f ok) (hv : v.cells.toList = cs) (hd : DataW.Trod enc P W 0 sp true t v d ps) (hw : ∀ n ∈ d.weights P t, n ≤ reachBytes) :
    ∃ x : α, ok x ∧ (f x).cells.length = cs.length ∧ ∀ i, i < cs.length → Rep W (limOf W) (cs.getD i undef) ((f x).cells.getD i .junk) [] := by
  obtain ⟨n, hn⟩ := hd
  rw [hv] at hn
  exact hr n H enc W sp _ d ps hn hw


end
end Go.Aw
end
section
namespace Go.Aw
open Go Go.MapKept

section
variable {P : Program} {F : Nat → Prop} {lim : Nat → Nat} {w w' : World} {n : Nat} {fr : Fr} {m : AMem} {ca : Act} {fl : List Nat}
variable {ops : Array Oper} {stl : List Nat} {r : List Oper} {K : Fr → AMem → Prop} {d : Nat} {ty : TypeId} {pos : String} {af : Array Edge} {gd : Option (Nat × Bool)} {L : List (Nat × AObj)}

/-- A result that stands in memory, beside one that does not. -/
theorem resK_cell2 {fr : Fr} {m : AMem} {fn : Func} {K : AV → AMem → Prop} {a t s b off : Nat} {l : List AV} (hr : fn.results.toList = [.cell a t, .tmp s]) (hraw : rawOf fr a = .ptr ⟨b, off, none⟩) (hm : m b = some (.cells l)) (hok : apartOk P t l off) (x y : AV) (hx : (apart P t l off).plain = x) (hy : resOf P fr m (.tmp s) = some (True, y)) (z : AV) (hz : y.plain = z) (m' : AMem) (hs : ∀ b o, m' b = some o → m b = some o) (hK : K (.tuple [x, z]) m') : resK P fn fr m K := by
  unfold resK
  rw [hr]
  simp only [resOf_cell hraw hm, hy]
  rw [hx, hz]
  exact ⟨hok, trivial, m', hs, hK⟩
end
end Go.Aw
end
section
namespace Go.Aw
open Go Go.MapKept

section
variable {P : Program} {F : Nat → Prop} {lim : Nat → Nat} {w w' : World} {n : Nat} {fr : Fr} {m : AMem} {ca : Act} {fl : List Nat}
variable {ops : Array Oper} {stl : List Nat} {r : List Oper} {K : Fr → AMem → Prop} {d : Nat} {ty : TypeId} {pos : String} {af : Array Edge} {gd : Option (Nat × Bool)} {L : List (Nat × AObj)}

theorem lookup_runP {κ ν : Type} [DecidableEq κ] {dk : TypeDesc} {kf : κ → AV} {kc : κ → Value} {vf : ν → AV} (he : KeyEnc dk kf kc) (st : St F lim w n fr m ca fl) {b : Nat} {l : List (κ × ν)} (hm : m b = some (.map (l.map fun p => (kf p.1, vf p.2)))) {t ke ve : TypeId} (ht : P.underlying t = some (.map ke ve)) (hke : P.underlying ke = some dk)
    {z : ν} {z0 : AV} (hz : zeroA P ve = some z0) (hzp : z0.plain = vf z) {kv : Value} {k : κ} (hkv : Rep w lim kv (kf k) []) (ok : Bool) :
    ∃ v, Rep w lim v (vf ((mget l k).getD z)) [] ∧ (Instr.lookup t (.map (some b)) kv ok).run P w = .ok (if ok then .tuple #[v, .bool (mget l k).isSome] else v) w := by
  obtain ⟨es, clock, hb, hs, hkeys, hval, _, _, _, _, _, _⟩ := map_inv he st hm
  obtain rfl := he.1 _ _ _ _ _ hkv
  have hf := findNow_midx he k es.toList l 0 hkeys
  have hc : (Instr.checkKey es.isEmpty 10000 ke (kc k)).run P w = .ok () w := run_checkKey hke (he.2.1 k) _ 9999
  have hfk := run_findKey (P := P) (w := w) hke hf
  cases hi : midx l k with
  | none =>
    obtain ⟨v0, z1, z2, z3, z4⟩ := zero_run (P := P) (w := w) (lim := lim) hz
    have h1 := (midx_none hi).1
    refine ⟨v0, by rw [h1]; have := z4.plain; rw [hzp] at this; exact this, ?_⟩
    rw [hi] at hfk
    simp only [Option.map_none] at hfk
    cases ok <;> simp [Instr.lookup, run_underlying ht, run_getObj_map hb, hc, hfk, Result.andThen, z1, h1]
  | some j =>
    obtain ⟨c, h1, h2, _, _⟩ := midx_some hi
    refine ⟨(es.toList.getD j default).val, ?_, ?_⟩
    · rw [h2]
      have := hval j _ h1
      rw [Array.getD_eq_getD_getElem?, ← Array.getElem?_toList, ← List.getD_eq_getElem?_getD] at this
      exact this
    · rw [hi] at hfk
      simp only [Option.map_some, Nat.zero_add] at hfk
      cases ok <;> simp only [Instr.lookup, Sem.run_bind, run_underlying ht, run_getObj_map hb, hc, hfk, Result.andThen_ok, Sem.run_pure, h2, Option.isSome_some, if_true] <;> rfl

theorem ar_lookupOkP (hg : gOn ops fr gd = some true) {κ ν : Type} [DecidableEq κ] {dk : TypeDesc} (kf : κ → AV) {kc : κ → Value} (vf : ν → AV) (he : KeyEnc dk kf kc) (l : List (κ × ν)) (k : κ) (z : ν) {t ke ve : TypeId} {x y : Operand} {b : Nat} {v : AV} (ht : P.underlying t = some (.map ke ve)) (hke : P.underlying ke = some dk) {z0 : AV} (hz : zeroA P ve = some z0) (hzp : z0.plain = vf z)
    (hx : evP (rawOf fr) x = .map b) (hy : evP (rawOf fr) y = kf k) (hm : m.wth L b = some (.map (l.map fun p => (kf p.1, vf p.2)))) (hv : vf ((mget l k).getD z) = v) (h : aopsR P ops stl r K (fr.put d (.tuple [v, .bool (mget l k).isSome])) (m.wth L)) :
    aopsR P ops stl (⟨some d, .lookup t x y true, ty, pos, af, gd⟩ :: r) K fr (m.wth L) := by
  subst hv
  simp only [aopsR, aopR, hg, ares, qv, hx]
  intro n hk hn F lim w ca st
  have hopd := okOper_opd hk
  have h1 := evP_rep st (hopd x (by simp [Op.operands]))
  have h2 := evP_rep st (hopd y (by simp [Op.operands]))
  rw [hx] at h1
  rw [hy] at h2
  have e1 : ca.eval x = .map (some b) := by generalize ca.eval x = q at h1; cases h1; rfl
  obtain ⟨v, r1, r2⟩ := lookup_runP (P := P) he st hm ht hke hz hzp h2 true
  have hT : Rep w lim (.tuple #[v, .bool (mget l k).isSome]) (.tuple [vf ((mget l k).getD z), .bool (mget l k).isSome]) [] := by
    have := Rep.tuple (w := w) (lim := lim) #[v, .bool (mget l k).isSome] [vf ((mget l k).getD z), .bool (mget l k).isSome] (fun _ => []) rfl (fun i hi => by
      match i, hi with
      | 0, _ => exact r1
      | 1, _ => exact .bool _)
    rwa [flatMap_nil] at this
  exact ⟨.value (.tuple #[v, .bool (mget l k).isSome]), _, w, lim, _, _, by simp only [execOp, e1, Sem.run_bind, r2]; rfl, .inl rfl, st.putO (d := some d) (fun t ht => okOper_dst hk ht) hT, .refl _ _ _, h⟩


/-- Some blocks are let go, others kept, wherever they stand. -/
theorem wth_keep {m : AMem} {L L1 L2 : List (Nat × AObj)} (hN : (L.map Prod.fst).Nodup) (hp : L.Perm (L1 ++ L2)) (hF : ∀ c ∈ L2.map Prod.fst, m c = none) : ∀ b o, m.wth L1 b = some o → m.wth L b = some o := by
  have hp2 : L.Perm (L2 ++ L1) := hp.trans List.perm_append_comm
  intro b o h
  rw [wth_perm hN hp2]
  exact wth_sub2 L2 L1 ((hp2.map Prod.fst).nodup_iff.1 hN) hF b o h
end
end Go.Aw
end
section
namespace Go.Aw
open Go Go.Sort

/-- The cells of a row of structs. -/
def flatK {α : Type} (f : α → AV) (l : List α) : List AV := (l.map f).flatMap AV.cells

section
variable {α : Type} {f : α → AV} {sz : Nat}
theorem flatK_cons (a : α) (l : List α) : flatK f (a :: l) = (f a).cells ++ flatK f l := rfl
theorem flatK_append (l l' : List α) : flatK f (l ++ l') = flatK f l ++ flatK f l' := by simp [flatK]
theorem flatK_len (hf : ∀ a, (f a).cells.length = sz) (l : List α) : (flatK f l).length = l.length * sz := by
  induction l with
  | nil => simp [flatK]
  | cons a l ih => rw [flatK_cons, List.length_append, ih, hf, List.length_cons, Nat.add_mul, Nat.one_mul, Nat.add_comm]
theorem flatK_take (hf : ∀ a, (f a).cells.length = sz) (l : List α) (k : Nat) : (flatK f l).take (k * sz) = flatK f (l.take k) := by
  induction l generalizing k with
  | nil => simp [flatK]
  | cons a l ih =>
    cases k with
    | zero => simp [flatK]
    | succ k =>
      have e : (k + 1) * sz = (f a).cells.length + k * sz := by rw [hf, Nat.add_mul, Nat.one_mul, Nat.add_comm]
      rw [flatK_cons, e, List.take_length_add_append, ih, List.take_succ_cons, flatK_cons]
theorem flatK_drop (hf : ∀ a, (f a).cells.length = sz) (l : List α) (k : Nat) : (flatK f l).drop (k * sz) = flatK f (l.drop k) := by
  induction l generalizing k with
  | nil => simp [flatK]
  | cons a l ih =>
    cases k with
    | zero => simp [flatK]
    | succ k =>
      have e : (k + 1) * sz = (f a).cells.length + k * sz := by rw [hf, Nat.add_mul, Nat.one_mul, Nat.add_comm]
      rw [flatK_cons, e, List.drop_length_add_append, ih, List.drop_succ_cons]
theorem flatK_get (hf : ∀ a, (f a).cells.length = sz) (hpos : 0 < sz) (l : List α) : ∀ q, q < l.length * sz → (flatK f l).getD q .junk = ((l.map f).getD (q / sz) .junk).cells.getD (q % sz) .junk := by
  induction l with
  | nil => intro q hq; simp at hq
  | cons a l ih =>
    intro q hq
    rw [flatK_cons]
    by_cases hqs : q < sz
    · rw [getD_append_lt (by rw [hf]; omega), Nat.div_eq_of_lt hqs, Nat.mod_eq_of_lt hqs]; rfl
    · obtain ⟨r, rfl⟩ := Nat.exists_eq_add_of_le (Nat.le_of_not_lt hqs)
      have e1 : (sz + r) / sz = r / sz + 1 := by rw [Nat.add_comm, Nat.add_div_right _ hpos]
      rw [getD_append_ge (by rw [hf]; omega), hf, Nat.add_sub_cancel_left, ih r (by simp [Nat.succ_mul] at hq; omega), e1, Nat.add_mod_left]
      simp [List.getD_eq_getElem?_getD]
theorem flatK_plain (hp : ∀ a, (f a).plain = f a) (l : List α) : (flatK f l).map AV.plain = flatK f l := by
  induction l with
  | nil => rfl
  | cons a l ih => rw [flatK_cons, List.map_append, ih, ← AV.plainL_eq, ← AV.plain_cells, hp]
theorem flatK_mem_plain (hp : ∀ a, (f a).plain = f a) (l : List α) : ∀ x ∈ flatK f l, x.plain = x := by
  intro x hx
  have h := flatK_plain hp l
  obtain ⟨i, hi, rfl⟩ := List.getElem_of_mem hx
  have h1 : ((flatK f l).map AV.plain)[i]'(by simpa using hi) = (flatK f l)[i] := by simp only [h]
  simpa using h1
theorem flatten_plain {z : AV} {z0 : α} (hz : z.plain = f z0) (k : Nat) : ((List.replicate k z.cells).flatten).map AV.plain = flatK f (List.replicate k z0) := by
  induction k with
  | zero => rfl
  | succ k ih => rw [List.replicate_succ, List.flatten_cons, List.map_append, ih, List.replicate_succ, flatK_cons, ← AV.plainL_eq, ← AV.plain_cells, hz]
end

section
variable {P : Program} {F : Nat → Prop} {lim : Nat → Nat} {w w' : World} {n : Nat} {fr : Fr} {m : AMem} {ca : Act} {fl : List Nat}

/-- What memory tells of a block's cells, told plainly. -/
theorem St.plainMem (st : St F lim w n fr m ca fl) {b : Nat} {L : List AV} (hm : m b = some (.cells L)) : St F lim w n fr (m.upd b (some (.cells (L.map AV.plain)))) ca fl := by
  obtain ⟨os, om, ow, h⟩ := st
  refine ⟨os, fun c => if c = b then fun _ => [] else om c, ow, h.size, h.defers, h.slots, fun c o hc => ?_, h.ownS, fun c o hc i => ?_, h.ownF, fun c hc => ?_, fun c hc => ?_⟩
  · by_cases e : c = b
    · subst e
      simp only [AMem.upd, if_true] at hc
      obtain rfl := Option.some.inj hc
      obtain ⟨hM, hl, hF⟩ := h.mem c _ hm
      refine ⟨?_, hl, hF⟩
      cases hM with
      | cells cs e l os hb hs hr =>
        refine .cells cs e _ _ hb (by simpa using hs) fun i hi => ?_
        have hi' : i < L.length := by simpa using hi
        have := (hr i hi').plain
        simp only [if_true]
        have e2 : (L.map AV.plain).getD i .junk = (L.getD i .junk).plain := by simp [List.getD_eq_getElem?_getD, hi']
        rw [e2]; exact this
    · simp only [AMem.upd, if_neg e] at hc
      simp only [if_neg e]
      exact h.mem c o hc
  · by_cases e : c = b
    · simp [e]
    · simp only [AMem.upd, if_neg e] at hc
      simp only [if_neg e]
      exact h.ownM c o hc i
  · have := h.free c hc
    refine ⟨this.1, ?_, this.2.2⟩
    simp only [AMem.upd]
    by_cases e : c = b
    · subst e; rw [hm] at this; cases this.2.1
    · rw [if_neg e]; exact this.2.1
  · have := h.fresh c hc
    refine ⟨this.1, this.2.1, ?_⟩
    simp only [AMem.upd]
    by_cases e : c = b
    · subst e; rw [hm] at this; cases this.2.2
    · rw [if_neg e]; exact this.2.2

set_option maxHeartbeats 1000000 in
theorem append0MsK_sound (st : St F lim w n fr m ca []) {t e ty : TypeId} {z : AV} (ht : P.underlying t = some (.slice e)) (hz : zOk P e = true) (hzA : zeroA P e = some z) (hpos : 0 < P.cellsOf e) {a0 : Option Addr} {vy : Value}
    {l' : List AV} (hnil : l' ≠ []) (hy : Rep w lim vy (.slice false l') []) (hbytes : l'.length * P.bytesOf e ≤ 140737488355328) (hbig : l'.length ≤ 140737488355328)
    (hl' : ∀ x ∈ l', x.cells.length = P.cellsOf e ∧ x.cells.all AV.one = true) (htop : z.topOk = true) :
    ∃ b' cap' w', (Builtin.append_ #[t, t] ty #[.slice a0 0 0, vy]).run P w = .ok (.slice (some ⟨b', 0, none⟩) l'.length cap') w' ∧ l'.length ≤ cap' ∧ cap' ≤ maxLen ∧ m b' = none ∧
      St F lim w' n fr (m.upd b' (some (.cells (l'.flatMap AV.cells ++ (List.replicate (cap' - l'.length) z.cells).flatten)))) ca [] ∧ Pres F w lim w' lim := by
  obtain ⟨i, zv, hi, hiz, hck, hzA', hzc⟩ := info_of_zOk hz
  obtain ⟨hcs, hbs⟩ := cellsOf_info hi
  rw [hzA] at hzA'
  have hze : z = cval zv := Option.some.inj hzA'
  have hgl : ∀ (l : List AV) i, i < l.length → l.getD i .junk ∈ l := fun l i hi => by simp [List.getD_eq_getElem?_getD, hi]
  have hmx : ∀ k : Nat, k ≤ 140737488355328 → k ≤ maxLen := fun k hk => by simp only [maxLen]; omega
  rw [hcs] at hpos hl'
  have hpos' : 0 < l'.length := List.length_pos_iff.2 hnil
  rcases rep_slice_cases hy with ⟨rfl, _⟩ | ⟨rfl, _⟩ | ⟨yb, yoff, ycap, ysz, ycv, rfl, hycap, hym, hybig, hysz, hylim, hyc, hyr⟩
  · exact (hnil rfl).elim
  · exact (hnil rfl).elim
  have hys : ysz = i.size := by rw [← hysz 0 hpos', (hl' _ (hgl l' 0 hpos')).1]
  subst hys
  have hnews := flatVals_cells (w := w) hpos hyc
  have hnl : (flatVals ycv l'.length i.size).length = l'.length * i.size := by simp [flatVals]
  rw [hbs] at hbytes
  have hid : ∀ l : List AV, l.flatMap AV.cells = flatK (fun x : AV => x) l := fun l => by simp [flatK]
  have hflen : (l'.flatMap AV.cells).length = l'.length * i.size := by
    have : ∀ l : List AV, (∀ x ∈ l, x.cells.length = i.size) → (l.flatMap AV.cells).length = l.length * i.size := fun l hl => by
      induction l with
      | nil => simp
      | cons v l ih => rw [List.flatMap_cons, List.length_append, ih (fun u hu => hl u (by simp [hu]))]; simp [hl v (by simp), Nat.add_mul, Nat.add_comm]
    exact this l' (fun x hx => (hl' x hx).1)
  have hfget : ∀ q, q < l'.length * i.size → (l'.flatMap AV.cells).getD q .junk = (l'.getD (q / i.size) .junk).cells.getD (q % i.size) .junk := by
    have : ∀ l : List AV, (∀ x ∈ l, x.cells.length = i.size) → ∀ q, q < l.length * i.size → (l.flatMap AV.cells).getD q .junk = (l.getD (q / i.size) .junk).cells.getD (q % i.size) .junk := fun l hl => by
      induction l with
      | nil => intro q hq; simp at hq
      | cons v l ih =>
        intro q hq
        have hv := hl v (by simp)
        rw [List.flatMap_cons]
        by_cases hqs : q < i.size
        · rw [getD_append_lt (by omega), Nat.div_eq_of_lt hqs, Nat.mod_eq_of_lt hqs]; rfl
        · obtain ⟨r, rfl⟩ := Nat.exists_eq_add_of_le (Nat.le_of_not_lt hqs)
          have e1 : (i.size + r) / i.size = r / i.size + 1 := by rw [Nat.add_comm, Nat.add_div_right _ hpos]
          rw [getD_append_ge (by omega), hv, Nat.add_sub_cancel_left, ih (fun u hu => hl u (by simp [hu])) r (by simp [Nat.succ_mul] at hq; omega), e1, Nat.add_mod_left]
          simp [List.getD_eq_getElem?_getD]
    exact this l' (fun x hx => (hl' x hx).1)
  have hnewr : ∀ q, q < (l'.flatMap AV.cells).length → Rep w lim ((flatVals ycv l'.length i.size).getD q undef) ((l'.flatMap AV.cells).getD q .junk) [] := fun q hq => by
    rw [hflen] at hq
    have h1 : q / i.size < l'.length := Nat.div_lt_of_lt_mul (by rw [Nat.mul_comm]; exact hq)
    have h2 := Nat.mod_lt q hpos
    have h3 := flatVals_get (cv := ycv) (n := l'.length) (sz := i.size) h1 h2
    have h4 : q / i.size * i.size + q % i.size = q := by rw [Nat.mul_comm]; exact Nat.div_add_mod q i.size
    rw [h4] at h3
    rw [hfget q hq, List.getD_eq_getElem?_getD, h3]
    exact hyr _ _ h1 h2
  have hh63 : ((l'.length : Nat) : Int) ≤ 9223372036854775807 := by omega
  have stD : St F lim w.drew n fr m ca [] := st.heap rfl
  have hzs : z.cells.length = i.size := by rw [hze, cval_cells, hzc]
  have hzr : ∀ q, q < i.size → Rep w lim (zv.cells.getD q undef) (z.cells.getD q .junk) [] := fun q hq => by
    have h1 := rep_cval (w := w) (lim := lim) hck
    rw [← hze] at h1
    exact (rep_cellsR h1 htop).2 q (by omega)
  have hcap := grownCap_ge w l'.length 0 e
  have hcapm := grownCap_le_maxLen w l'.length 0 e (hmx _ hbig)
  have hfits := growslice_fits (need := l'.length) (old := 0) (bytes := i.bytes) (by omega) hbytes
  have hrun : (Builtin.append_ #[t, t] ty #[.slice a0 0 0, .slice (some ⟨yb, yoff, none⟩) l'.length ycap]).run P w = .ok (.slice (some ⟨w.heap.size, 0, none⟩) l'.length (grownCap w l'.length 0 e)) (w.drew.alloc (.cells ((flatVals ycv l'.length i.size).toArray ++ Builtin.zeroCells zv.cells (grownCap w l'.length 0 e - l'.length)) e)) := by
    cases a0 with
    | none => exact run_append_nil (P := P) w t ty e i zv ht hi hiz ⟨yb, yoff, none⟩ l'.length ycap _ hnl hnews hpos' hh63 (by omega)
    | some a =>
      have := run_append_grow (P := P) w t ty e i zv ht hi hiz a 0 0 [] (by simp) (fun j v hj => by simp at hj) ⟨yb, yoff, none⟩ l'.length ycap _ hnl hnews (by omega) (by simpa using hh63) (by simpa using hfits)
      simpa using this
  generalize grownCap w l'.length 0 e = cap' at hrun hcap hcapm
  have hlen : (l'.flatMap AV.cells ++ (List.replicate (cap' - l'.length) z.cells).flatten).length = cap' * i.size := by
    have : (List.replicate (cap' - l'.length) z.cells).flatten.length = (cap' - l'.length) * i.size := by
      rw [List.length_flatten]; simp [hzs]
    rw [List.length_append, hflen, this, ← Nat.add_mul]; congr 1; omega
  have hsize : ((flatVals ycv l'.length i.size).toArray ++ Builtin.zeroCells zv.cells (cap' - l'.length)).size = cap' * i.size := by
    simp only [Array.size_append, List.size_toArray, size_zeroCells, hzc, hnl, ← Nat.add_mul]
    congr 1; omega
  have hA := stD.allocMem ((flatVals ycv l'.length i.size).toArray ++ Builtin.zeroCells zv.cells (cap' - l'.length)) e (l'.flatMap AV.cells ++ (List.replicate (cap' - l'.length) z.cells).flatten) (by rw [hsize, hlen]) (fun q hq => by
    refine Rep.stable (w := w) (lim := lim) ?_ (fun _ => Nat.le_refl _) (fun _ _ _ => rfl) (by simp)
    rw [Array.getD_eq_getD_getElem?, ← Array.getElem?_toList, ← List.getD_eq_getElem?_getD]
    simp only [Array.toList_append]
    refine rep_app (by simp [hflen, hnl]) hnewr (fun q hq => ?_) q hq
    have hq' : q < (cap' - l'.length) * i.size := by
      rw [List.length_flatten] at hq; simpa [hzs] using hq
    rw [flatten_getD _ i.size _ hzs hpos q hq']
    have h1 := hzr (q % i.size) (Nat.mod_lt _ hpos)
    have h2 : (Builtin.zeroCells zv.cells (cap' - l'.length)).toList.getD q undef = zv.cells.getD (q % i.size) undef := by
      have h3 : q % i.size < zv.cells.size := by rw [hzc]; exact Nat.mod_lt _ hpos
      have h4 : q < (cap' - l'.length) * zv.cells.size := by rw [hzc]; exact hq'
      have h5 : q % zv.cells.size < zv.cells.size := Nat.mod_lt _ (by omega)
      rw [← hzc]
      simp [Builtin.zeroCells, List.getD_eq_getElem?_getD, Array.getD_eq_getD_getElem?, h4, h5]
    rw [h2]; exact h1)
  have hPN := pres_new stD (.cells ((flatVals ycv l'.length i.size).toArray ++ Builtin.zeroCells zv.cells (cap' - l'.length)) e)
  exact ⟨w.heap.size, cap', _, hrun, hcap, hcapm, hA.1, hA.2, ⟨rfl, rfl, rfl, Nat.le_trans (Nat.le_of_eq rfl) hPN.size, hPN.res, hPN.mono, hPN.cell⟩⟩

theorem ar_append0MsK {ops : Array Oper} {stl : List Nat} {r : List Oper} {K : Fr → AMem → Prop} {d : Nat} {ty : TypeId} {pos : String} {af : Array Edge} {gd : Option (Nat × Bool)} {L : List (Nat × AObj)} (hg : gOn ops fr gd = some true) {α : Type} (f : α → AV) (sz : Nat) (ys : List α) (z0 : α) {own : Bool} {t e : TypeId} {s : Nat} {y : Operand} {l' : List AV} {z : AV}
    (ht : P.underlying t = some (.slice e)) (hx : rawOf fr s = .nils) (hy : evP (rawOf fr) y = .slice own l') (hl' : l' = ys.map f) (hz : zOk P e = true) (hzA : zeroA P e = some z) (hzp : z.plain = f z0) (hc : P.cellsOf e = sz) (hpos : 0 < sz)
    (hN : (L.map Prod.fst).Nodup) (hf : ∀ a, (f a).cells.length = sz) (hf1 : ∀ a, (f a).cells.all AV.one = true) (hp : ∀ a, (f a).plain = f a) (htop : z.topOk = true) (hnil : ys ≠ [])
    (hb1 : ys.length * P.bytesOf e ≤ 140737488355328) (hb2 : ys.length ≤ 140737488355328)
    (h : ∀ (b' : Nat) (zs' : List α), m b' = none → (b' :: L.map Prod.fst).Nodup → zs'.take ys.length = ys → ys.length ≤ zs'.length →
      aopsR P ops stl r K (fr.put d (.ms ⟨b', 0, none⟩ ys.length zs'.length)) (m.wth ((b', .cells (flatK f zs')) :: L))) :
    aopsR P ops stl (⟨some d, .call ⟨.builtin .append, #[.tmp s, y], #[t, t]⟩, ty, pos, af, gd⟩ :: r) K fr (m.wth L) := by
  simp only [aopsR, aopR, hg, ares, ht, hx, hy]
  intro n hk' hn F lim w ca st
  subst hl'
  have hvs := evP_rep st (okOper_opd hk' (.tmp s) (by simp [Op.operands, Call.operands]))
  have hxp : evP (rawOf fr) (.tmp s) = .nils := by simp [evP, hx, AV.plain]
  rw [hxp] at hvs
  obtain ⟨a0, hv⟩ := nils_inv hvs
  have hvy := evP_rep st (okOper_opd hk' y (by simp [Op.operands, Call.operands]))
  rw [hy] at hvy
  have hvy' : Rep w lim (ca.eval y) (.slice false (ys.map f)) [] := by simpa [AV.plain] using hvy.plain
  obtain ⟨b', cap', w', r1, r2, r3, r4, r5, r6⟩ := append0MsK_sound (P := P) (ty := ty) (a0 := a0) st ht hz hzA (by rw [hc]; exact hpos) (by simpa using hnil) hvy' (by simpa using hb1) (by simpa using hb2)
    (fun x hx => by obtain ⟨a, _, rfl⟩ := List.mem_map.1 hx; exact ⟨by rw [hf, hc], hf1 a⟩) htop
  simp only [List.length_map] at r1 r2 r5
  have r5' := r5.plainMem (b := b') (L := (ys.map f).flatMap AV.cells ++ (List.replicate (cap' - ys.length) z.cells).flatten) (by simp [AMem.upd])
  have e3 : ((ys.map f).flatMap AV.cells ++ (List.replicate (cap' - ys.length) z.cells).flatten).map AV.plain = flatK f (ys ++ List.replicate (cap' - ys.length) z0) := by
    rw [List.map_append, flatten_plain hzp, flatK_append]
    congr 1
    exact flatK_plain hp ys
  rw [upd_upd, e3] at r5'
  have h1 := wth_fresh r4
  have e1 : (#[.tmp s, y] : Array Operand).map ca.eval = #[.slice a0 0 0, ca.eval y] := by apply Array.ext'; simp [hv]
  refine ⟨.value (.slice (some ⟨b', 0, none⟩) ys.length cap'), _, w', lim, _, _, ?_, .inl rfl, St.putO (m := m.wth ((b', .cells (flatK f (ys ++ List.replicate (cap' - ys.length) z0))) :: L)) (d := some d) r5' (fun t ht => okOper_dst hk' ht) (x := .ms ⟨b', 0, none⟩ ys.length (ys ++ List.replicate (cap' - ys.length) z0).length) ?_, r6, h b' _ h1.2 (List.nodup_cons.2 ⟨h1.1, hN⟩) ?_ ?_⟩
  · simp only [execOp, resolve, invoke, builtin, Sem.run_bind, Sem.run_pure, Result.andThen_ok, e1]
    rw [r1]; rfl
  · have : (ys ++ List.replicate (cap' - ys.length) z0).length = cap' := by simp; omega
    rw [this]
    exact .ms _ _ _ r2 r3
  · rw [List.take_append_of_le_length (Nat.le_refl _)]; exact List.take_of_length_le (Nat.le_refl _)
  · simp

/-- Growth of a slice of structs whose cells memory tells of. -/
theorem ar_appendMsK {ops : Array Oper} {stl : List Nat} {r : List Oper} {K : Fr → AMem → Prop} {d : Nat} {ty : TypeId} {pos : String} {af : Array Edge} {gd : Option (Nat × Bool)} {L : List (Nat × AObj)} (hg : gOn ops fr gd = some true) (i : Nat) {α : Type} (f : α → AV) (sz : Nat) (zs ys : List α) (z0 : α) (k : Nat) {own : Bool} {t e : TypeId} {s b : Nat} {y : Operand} {l' : List AV} {z : AV}
    (ht : P.underlying t = some (.slice e)) (hx : rawOf fr s = .ms ⟨b, 0, none⟩ k zs.length) (hy : evP (rawOf fr) y = .slice own l') (hl' : l' = ys.map f) (hz : zOk P e = true) (hzA : zeroA P e = some z) (hzp : z.plain = f z0) (hc : P.cellsOf e = sz) (hpos : 0 < sz)
    (hi : L[i]? = some (b, .cells (flatK f zs))) (hN : (L.map Prod.fst).Nodup) (hF : m b = none) (hf : ∀ a, (f a).cells.length = sz) (hf1 : ∀ a, (f a).cells.all AV.one = true) (hp : ∀ a, (f a).plain = f a) (htop : z.topOk = true)
    (hk : k ≤ zs.length) (hb1 : (k + ys.length) * P.bytesOf e ≤ 140737488355328) (hb2 : k + ys.length ≤ 140737488355328)
    (h : ∀ (b' : Nat) (zs' : List α), m b' = none → (b' :: (L.eraseIdx i).map Prod.fst).Nodup → zs'.take (k + ys.length) = zs.take k ++ ys → k + ys.length ≤ zs'.length →
      aopsR P ops stl r K (fr.put d (.ms ⟨b', 0, none⟩ (k + ys.length) zs'.length)) (m.wth ((b', .cells (flatK f zs')) :: L.eraseIdx i))) :
    aopsR P ops stl (⟨some d, .call ⟨.builtin .append, #[.tmp s, y], #[t, t]⟩, ty, pos, af, gd⟩ :: r) K fr (m.wth L) := by
  simp only [aopsR, aopR, hg, ares, ht, hx, hy]
  intro n hk' hn F lim w ca st
  have hperm := eraseIdx_split hi
  have hm1 := wth_perm (m := m) hN hperm
  have hNp : ((b :: (L.eraseIdx i).map Prod.fst)).Nodup := by
    have := (hperm.map Prod.fst).nodup_iff.1 hN
    simpa using this
  have hget := wth_get (m := m) i hN hi
  subst hl'
  have hvs := evP_rep st (okOper_opd hk' (.tmp s) (by simp [Op.operands, Call.operands]))
  have hxp : evP (rawOf fr) (.tmp s) = .ms ⟨b, 0, none⟩ k zs.length := by simp [evP, hx, AV.plain]
  rw [hxp] at hvs
  obtain ⟨hv, hkc, hcm⟩ := rep_ms_inv hvs
  have hvy := evP_rep st (okOper_opd hk' y (by simp [Op.operands, Call.operands]))
  rw [hy] at hvy
  have hvy' : Rep w lim (ca.eval y) (.slice false (ys.map f)) [] := by simpa [AV.plain] using hvy.plain
  obtain ⟨b', cap', w', lim', rest, r1, r2, r3, r4, r5, r6⟩ := appendMs_sound (P := P) (ty := ty) st ht hz hzA (by rw [hc]; exact hpos) hget (by rw [hc, flatK_len hf]) hk hcm hvy' (by simpa using hb1) (by simpa using hb2)
    (flatK_mem_plain hp zs) (fun x hx => by obtain ⟨a, _, rfl⟩ := List.mem_map.1 hx; exact ⟨by rw [hf, hc], hf1 a⟩) htop
  rw [hc, flatK_take hf] at r5
  simp only [List.length_map] at r1 r2 r4
  have r5' := r5.plainMem (b := b') (L := flatK f (zs.take k) ++ (ys.map f).flatMap AV.cells ++ rest) (by simp [AMem.upd])
  rw [upd_upd] at r5'
  obtain ⟨zs', hzs, hlen, hb'⟩ : ∃ zs' : List α, ((flatK f (zs.take k) ++ (ys.map f).flatMap AV.cells ++ rest).map AV.plain = flatK f zs') ∧ (zs'.length = cap' ∧ zs'.take (k + ys.length) = zs.take k ++ ys) ∧ (m b' = none ∧ (b' :: (L.eraseIdx i).map Prod.fst).Nodup) := by
    rcases r4 with ⟨rfl, rfl, rfl⟩ | ⟨hb', rfl⟩
    · refine ⟨zs.take k ++ ys ++ zs.drop (k + ys.length), ?_, ⟨by simp; omega, ?_⟩, hF, hNp⟩
      · rw [hc, flatK_drop hf, List.map_append, List.map_append, flatK_plain hp, flatK_plain hp, flatK_append, flatK_append]
        congr 2
        exact flatK_plain hp ys
      · rw [List.take_append_of_le_length (by simp; omega)]
        exact List.take_of_length_le (by simp; omega)
    · refine ⟨zs.take k ++ ys ++ List.replicate (cap' - (k + ys.length)) z0, ?_, ⟨by simp; omega, ?_⟩, ?_⟩
      · rw [List.map_append, List.map_append, flatten_plain hzp, flatK_plain hp, flatK_append, flatK_append]
        congr 2
        exact flatK_plain hp ys
      · rw [List.take_append_of_le_length (by simp; omega)]
        exact List.take_of_length_le (by simp; omega)
      · have h1 := wth_fresh hb'
        refine ⟨h1.2, List.nodup_cons.2 ⟨fun hmem => h1.1 ?_, (List.nodup_cons.1 hNp).2⟩⟩
        have : b' ∈ (b :: (L.eraseIdx i).map Prod.fst) := List.mem_cons_of_mem _ hmem
        exact ((hperm.map Prod.fst).mem_iff).2 (by simpa using this)
  rw [hzs] at r5'
  have hmem : ((m.wth L).upd b none).upd b' (some (.cells (flatK f zs'))) = m.wth ((b', .cells (flatK f zs')) :: L.eraseIdx i) := by
    funext c
    show _ = if c = b' then _ else _
    simp only [AMem.upd]
    by_cases h1 : c = b'
    · simp [h1]
    · rw [if_neg h1, if_neg h1]
      by_cases h2 : c = b
      · subst h2
        rw [if_pos rfl, wth_other (List.nodup_cons.1 hNp).1, hF]
      · rw [if_neg h2, hm1]
        show (if c = b then _ else _) = _
        rw [if_neg h2]
  rw [hmem] at r5'
  rw [← hlen.1] at r1 r3 r2
  refine ⟨_, _, w', lim', _, _, ?_, .inl rfl, r5'.putO (d := some d) (fun t ht => okOper_dst hk' ht) (.ms _ _ _ r2 r3), r6, h b' zs' hb'.1 hb'.2 hlen.2 r2⟩
  have e1 : (#[Operand.tmp s, y] : Array Operand).map ca.eval = #[.slice (some ⟨b, 0, none⟩) k zs.length, ca.eval y] := by apply Array.ext'; simp [hv]
  simp only [execOp, resolve, invoke, builtin, Sem.run_bind, Sem.run_pure, Result.andThen_ok, e1]
  rw [r1]; rfl
end
end Go.Aw
end
