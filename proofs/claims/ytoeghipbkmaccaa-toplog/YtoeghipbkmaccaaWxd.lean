/-
  The abstract layer, part 30: maps, told as lists of their entries in the order in which they came.
-/
import Derived.Test.YtoeghipbkmaccaaWxc
import Derived.MapKept
import Derived.WideMake
namespace Go.Aw
open Go Go.MapKept

section
variable {κ ν : Type} [DecidableEq κ]

def mget : List (κ × ν) → κ → Option ν
  | [], _ => none
  | (a, b) :: r, k => if a = k then some b else mget r k

/-- How an entry of a map reads. -/
def mapAV {κ ν : Type} (kf : κ → AV) (vf : ν → AV) (p : κ × ν) : AV × AV := (kf p.1, vf p.2)

def mput : List (κ × ν) → κ → ν → List (κ × ν)
  | [], k, v => [(k, v)]
  | (a, b) :: r, k, v => if a = k then (k, v) :: r else (a, b) :: mput r k v

def mdel : List (κ × ν) → κ → List (κ × ν)
  | [], _ => []
  | (a, b) :: r, k => if a = k then r else (a, b) :: mdel r k

def midx : List (κ × ν) → κ → Option Nat
  | [], _ => none
  | (a, _) :: r, k => if a = k then some 0 else (midx r k).map (· + 1)

theorem midx_none : ∀ {l : List (κ × ν)} {k : κ}, midx l k = none → mget l k = none ∧ mdel l k = l ∧ ∀ v, mput l k v = l ++ [(k, v)]
  | [], _, _ => ⟨rfl, rfl, fun _ => rfl⟩
  | (a, b) :: r, k, h => by
    unfold midx at h
    split at h
    · cases h
    · rename_i hne
      have ih := midx_none (l := r) (k := k) (by simpa using h)
      simp only [mget, mdel, mput, if_neg hne, ih.1, ih.2.1, true_and]
      exact fun v => by rw [ih.2.2 v]; rfl

theorem midx_some : ∀ {l : List (κ × ν)} {k : κ} {j : Nat}, midx l k = some j → ∃ b, l[j]? = some (k, b) ∧ mget l k = some b ∧ mdel l k = l.eraseIdx j ∧ ∀ v, mput l k v = l.set j (k, v)
  | [], _, _, h => by simp [midx] at h
  | (a, b) :: r, k, j, h => by
    unfold midx at h
    split at h
    · rename_i he
      subst he
      obtain rfl : 0 = j := by simpa using h
      exact ⟨b, rfl, by simp [mget], by simp [mdel], fun v => by simp [mput]⟩
    · rename_i hne
      cases hr : midx r k with
      | none => rw [hr] at h; cases h
      | some i =>
        rw [hr] at h
        obtain rfl : i + 1 = j := by simpa using h
        obtain ⟨c, h1, h2, h3, h4⟩ := midx_some hr
        exact ⟨c, by simpa using h1, by simp [mget, hne, h2], by simp [mdel, hne, h3], fun v => by simp [mput, hne, h4]⟩

theorem mdel_len (l : List (κ × ν)) (k : κ) : (mdel l k).length ≤ l.length := by
  induction l with
  | nil => simp [mdel]
  | cons p r ih => obtain ⟨a, b⟩ := p; simp only [mdel]; split <;> simp <;> omega
theorem mput_len (l : List (κ × ν)) (k : κ) (v : ν) : (mput l k v).length ≤ l.length + 1 := by
  induction l with
  | nil => simp [mput]
  | cons p r ih => obtain ⟨a, b⟩ := p; simp only [mput]; split <;> simp <;> omega
end

/-- Keys that read so are that value. -/
def KeyEnc (d : TypeDesc) {κ : Type} (kf : κ → AV) (kc : κ → Value) : Prop :=
  (∀ w lim v a os, Rep w lim v (kf a) os → v = kc a) ∧ (∀ a, IsKey d (kc a)) ∧ ∀ a b, kc a = kc b → a = b

def strKey (s : List UInt8) : Value := .string ⟨s.toArray⟩
def intKey (n : Int) : Value := .int .i64 n

theorem strKey_ok : KeyEnc .string strAV strKey := by
  refine ⟨fun w lim v a os h => ?_, fun a => trivial, fun a b h => ?_⟩
  · generalize he : strAV a = x at h
    cases h <;> first | (cases he; done) | skip
    rename_i s hs
    have e : a = s.data.toList := by injection he
    subst e; rfl
  · have : a.toArray = b.toArray := by injection h with h; injection h
    simpa using congrArg Array.toList this

theorem intKey_ok : KeyEnc (.int .i64) intAV intKey := by
  refine ⟨fun w lim v a os h => ?_, fun a => by simp [IsKey, intKey], fun a b h => by injection h⟩
  generalize he : intAV a = x at h
  cases h <;> first | (cases he; done) | skip
  rename_i k n lo hi
  injection he with h1 h2
  subst h1 h2; rfl

section
variable {P : Program} {F : Nat → Prop} {lim : Nat → Nat} {w w' : World} {n : Nat} {fr : Fr} {m : AMem} {ca : Act} {fl : List Nat}

theorem findNow_midx {κ ν : Type} [DecidableEq κ] {d : TypeDesc} {kf : κ → AV} {kc : κ → Value} (he : KeyEnc d kf kc) (k : κ) : ∀ (E : List MapEntry) (l : List (κ × ν)) (i : Nat), E.map (·.key) = l.map (fun p => kc p.1) →
    Instr.findNow d (kc k) E i = some ((midx l k).map fun j => (i + j, (E.getD j default).val))
  | [], [], _, _ => rfl
  | [], _ :: _, _, h => by simp at h
  | _ :: _, [], _, h => by simp at h
  | e :: E, (a, b) :: l, i, h => by
    simp only [List.map_cons, List.cons.injEq] at h
    obtain ⟨h1, h2⟩ := h
    obtain ⟨r, hr, hiff⟩ := sameNow_of_keys (he.2.1 k) (he.2.1 a)
    simp only [Instr.findNow, h1, hr]
    cases r with
    | true =>
      have e1 : a = k := (he.2.2 _ _ (hiff.1 rfl)).symm
      simp [midx, e1]
    | false =>
      have e1 : a ≠ k := fun q => by
        have := hiff.2 (by rw [q]); cases this
      rw [findNow_midx he k E l (i + 1) h2]
      simp only [midx, if_neg e1, Option.map_map]
      congr 1
      cases midx l k with
      | none => rfl
      | some j => simp; omega

/-- What is behind a map that reads so. -/
theorem map_inv {κ ν : Type} {d : TypeDesc} {kf : κ → AV} {kc : κ → Value} {vf : ν → AV} (he : KeyEnc d kf kc) (st : St F lim w n fr m ca fl) {b : Nat} {l : List (κ × ν)} (hm : m b = some (.map (l.map fun p => (kf p.1, vf p.2)))) :
    ∃ es clock, w.heap[b]? = some (.map es clock) ∧ es.size = l.length ∧ es.toList.map (·.key) = l.map (fun p => kc p.1) ∧ (∀ i p, l[i]? = some p → Rep w lim (es.getD i default).val (vf p.2) []) ∧ (∀ i j, i < j → j < l.length → (es.getD i default).born < (es.getD j default).born) ∧ (∀ i, i < l.length → (es.getD i default).born < clock) ∧
      l.length ≤ 140737488355328 ∧ (∀ i p, l[i]? = some p → Rep w lim (es.getD i default).key (kf p.1) []) ∧ lim b = 0 ∧ ¬ F b := by
  obtain ⟨os, om, ow, h⟩ := st
  obtain ⟨hM, hl, hF⟩ := h.mem b _ hm
  generalize ho : om b = omb at hM
  generalize hL : (l.map fun p => (kf p.1, vf p.2)) = L at hM
  cases hM with
  | map es clock L hb hs hbig hk hv hborn hclock os =>
    subst hL
    simp only [List.length_map] at hs hbig hk hv hborn hclock
    have hget : ∀ i p, l[i]? = some p → (l.map fun p => (kf p.1, vf p.2)).getD i (.junk, .junk) = (kf p.1, vf p.2) := fun i p hp => by simp [List.getD_eq_getElem?_getD, hp]
    have hlt : ∀ i p, l[i]? = some p → i < l.length := fun i p hp => (List.getElem?_eq_some_iff.1 hp).1
    have hkr : ∀ i p, l[i]? = some p → Rep w lim (es.getD i default).key (kf p.1) [] := fun i p hp => by have := hk i (hlt i p hp); rwa [hget i p hp] at this
    refine ⟨es, clock, hb, hs, ?_, fun i p hp => by have := hv i (hlt i p hp); rwa [hget i p hp] at this, hborn, hclock, hbig, hkr, hl, hF⟩
    refine List.ext_getElem (by simp [hs]) fun i h1 h2 => ?_
    have hi : i < l.length := by simpa using h2
    have hi' : i < es.size := by omega
    have := he.1 _ _ _ _ _ (hkr i l[i] (List.getElem?_eq_getElem hi))
    simpa [Array.getD, hi'] using this

/-- A map is written. -/
theorem St.storeMap (st : St F lim w n fr m ca fl) {b : Nat} {l l' : List (AV × AV)} {es es' : Array MapEntry} {clock clock' : Nat} (hm : m b = some (.map l)) (hb : w.heap[b]? = some (.map es clock)) (hs : es'.size = l'.length) (hbig : l'.length ≤ 140737488355328)
    (hk' : ∀ i, i < l'.length → Rep w lim (es'.getD i default).key (l'.getD i (.junk, .junk)).1 []) (hv : ∀ i, i < l'.length → Rep w lim (es'.getD i default).val (l'.getD i (.junk, .junk)).2 [])
    (hborn : ∀ i j, i < j → j < l'.length → (es'.getD i default).born < (es'.getD j default).born) (hclock : ∀ i, i < l'.length → (es'.getD i default).born < clock') :
    St F lim { w with heap := w.heap.setIfInBounds b (.map es' clock') } n fr (m.upd b (some (.map l'))) ca fl ∧ Pres F w lim { w with heap := w.heap.setIfInBounds b (.map es' clock') } lim := by
  obtain ⟨os, om, ow, h⟩ := st
  obtain ⟨hM, hl, hF⟩ := h.mem b _ hm
  have hblt : b < w.heap.size := (Array.getElem?_eq_some_iff.1 hb).1
  generalize hw : ({ w with heap := w.heap.setIfInBounds b (.map es' clock') } : World) = w1
  have hother : ∀ k, k ≠ b → w1.heap[k]? = w.heap[k]? := fun k hk => by rw [← hw]; simp [Array.getElem?_setIfInBounds, Ne.symm hk]
  have hself : w1.heap[b]? = some (.map es' clock') := by rw [← hw]; simp [hblt]
  have hsize : w1.heap.size = w.heap.size := by rw [← hw]; simp
  have hcell : ∀ k o, o < lim k → w1.cell? ⟨k, o, none⟩ = w.cell? ⟨k, o, none⟩ := fun k o ho => by
    have : k ≠ b := fun e => by subst e; omega
    simp [World.cell?, hother k this]
  have hmb : ∀ c, m c = none → c ≠ b := fun c hc e => by subst e; rw [hm] at hc; cases hc
  have hst : ∀ {v x os'}, Rep w lim v x os' → (∀ c ∈ os', ow c ≠ .none) → Rep w1 lim v x os' := fun hR ho => hR.stable (fun _ => Nat.le_refl _) hcell (fun c hc => ⟨hother c (hmb c (h.free c (ho c hc)).2.1), rfl⟩)
  have hst0 : ∀ {v x}, Rep w lim v x [] → Rep w1 lim v x [] := fun hR => hst hR (by simp)
  refine ⟨?_, by rw [← hw], by rw [← hw], by rw [← hw], by rw [hsize]; exact Nat.le_refl _, fun k hk => ⟨hother k (fun e => by subst e; exact hF hk), rfl⟩, fun _ => Nat.le_refl _, hcell⟩
  refine ⟨os, om, ow, h.size, h.defers, fun t x hx => ⟨(h.slots t x hx).1, hst (h.slots t x hx).2 (fun c hc => by rw [(h.ownS t x hx).2 c hc]; simp)⟩, fun k o hk => ?_, h.ownS, fun k o hk i => ?_, h.ownF, fun c hc => ⟨(h.free c hc).1, ?_, by rw [hsize]; exact (h.free c hc).2.2⟩, fun k hk => ?_⟩
  · by_cases hkb : k = b
    · subst hkb
      simp only [AMem.upd, ↓reduceIte, Option.some.injEq] at hk
      subst hk
      exact ⟨.map es' clock' l' hself hs hbig (fun i hi => hst0 (hk' i hi)) (fun i hi => hst0 (hv i hi)) hborn hclock _, hl, hF⟩
    · simp only [AMem.upd, if_neg hkb] at hk
      have hM' := h.mem k o hk
      refine ⟨hM'.1.stable (hother k hkb) (fun _ => Nat.le_refl _) hcell (fun i c hc => ⟨hother c (hmb c (h.free c ?_).2.1), rfl⟩), hM'.2⟩
      rw [(h.ownM k o hk i).2 c hc]; simp
  · by_cases hkb : k = b
    · subst hkb; exact h.ownM k _ hm i
    · simp only [AMem.upd, if_neg hkb] at hk
      exact h.ownM k o hk i
  · have := (h.free c hc).2.1
    simp only [AMem.upd]
    rw [if_neg (hmb c this)]; exact this
  · rw [hsize] at hk
    have := h.fresh k hk
    refine ⟨this.1, this.2.1, ?_⟩
    simp only [AMem.upd]
    rw [if_neg (by omega)]; exact this.2.2


variable {ops : Array Oper} {stl : List Nat} {r : List Oper} {K : Fr → AMem → Prop} {d : Nat} {ty : TypeId} {pos : String} {af : Array Edge} {gd : Option (Nat × Bool)} {L : List (Nat × AObj)}

theorem ar_makeMap (hg : gOn ops fr gd = some true) {t ke ve : TypeId} (ht : P.underlying t = some (.map ke ve)) (h : ∀ b, m.wth L b = none → aopsR P ops stl r K (fr.put d (.map b)) (m.wth ((b, .map []) :: L))) :
    aopsR P ops stl (⟨some d, .makeMap t none, ty, pos, af, gd⟩ :: r) K fr (m.wth L) := by
  simp only [aopsR, aopR, hg, ares, ht, Option.map_none]
  exact ⟨trivial, h⟩

theorem lookup_run {κ ν : Type} [DecidableEq κ] {dk : TypeDesc} {kf : κ → AV} {kc : κ → Value} {vf : ν → AV} (he : KeyEnc dk kf kc) (st : St F lim w n fr m ca fl) {b : Nat} {l : List (κ × ν)} (hm : m b = some (.map (l.map fun p => (kf p.1, vf p.2)))) {t ke ve : TypeId} (ht : P.underlying t = some (.map ke ve)) (hke : P.underlying ke = some dk)
    {z : ν} (hz : zeroA P ve = some (vf z)) {kv : Value} {k : κ} (hkv : Rep w lim kv (kf k) []) (ok : Bool) :
    ∃ v, Rep w lim v (vf ((mget l k).getD z)) [] ∧ (Instr.lookup t (.map (some b)) kv ok).run P w = .ok (if ok then .tuple #[v, .bool (mget l k).isSome] else v) w := by
  obtain ⟨es, clock, hb, hs, hkeys, hval, _, _, _, _, _, _⟩ := map_inv he st hm
  obtain rfl := he.1 _ _ _ _ _ hkv
  have hf := findNow_midx he k es.toList l 0 hkeys
  have hc : (Instr.checkKey es.isEmpty 10000 ke (kc k)).run P w = .ok () w := run_checkKey hke (he.2.1 k) _ 9999
  have hfk := run_findKey (P := P) (w := w) hke hf
  cases hi : midx l k with
  | none =>
    obtain ⟨v0, z1, z2, z3, z4⟩ := zero_run (P := P) (w := w) (lim := lim) hz
    have h1 := (midx_none hi).1
    refine ⟨v0, by rw [h1]; exact z4, ?_⟩
    rw [hi] at hfk
    simp only [Option.map_none] at hfk
    cases ok <;> simp [Instr.lookup, run_underlying ht, run_getObj_map hb, hc, hfk, Result.andThen, z1, h1]
  | some j =>
    obtain ⟨c, h1, h2, _, _⟩ := midx_some hi
    refine ⟨(es.toList.getD j default).val, ?_, ?_⟩
    · rw [h2]
      have := hval j _ h1
      rw [Array.getD_eq_getD_getElem?, ← Array.getElem?_toList, ← List.getD_eq_getElem?_getD] at this
      exact this
    · rw [hi] at hfk
      simp only [Option.map_some, Nat.zero_add] at hfk
      cases ok <;> simp only [Instr.lookup, Sem.run_bind, run_underlying ht, run_getObj_map hb, hc, hfk, Result.andThen_ok, Sem.run_pure, h2, Option.isSome_some, if_true] <;> rfl

theorem ar_lookup (hg : gOn ops fr gd = some true) {κ ν : Type} [DecidableEq κ] {dk : TypeDesc} (kf : κ → AV) {kc : κ → Value} (vf : ν → AV) (he : KeyEnc dk kf kc) (l : List (κ × ν)) (k : κ) (z : ν) {t ke ve : TypeId} {x y : Operand} {b : Nat} {v : AV} (ht : P.underlying t = some (.map ke ve)) (hke : P.underlying ke = some dk) (hz : zeroA P ve = some (vf z))
    (hx : evP (rawOf fr) x = .map b) (hy : evP (rawOf fr) y = kf k) (hm : m.wth L b = some (.map (l.map fun p => (kf p.1, vf p.2)))) (hv : vf ((mget l k).getD z) = v) (h : aopsR P ops stl r K (fr.put d v) (m.wth L)) :
    aopsR P ops stl (⟨some d, .lookup t x y false, ty, pos, af, gd⟩ :: r) K fr (m.wth L) := by
  subst hv
  simp only [aopsR, aopR, hg, ares, qv, hx]
  intro n hk hn F lim w ca st
  have hopd := okOper_opd hk
  have h1 := evP_rep st (hopd x (by simp [Op.operands]))
  have h2 := evP_rep st (hopd y (by simp [Op.operands]))
  rw [hx] at h1
  rw [hy] at h2
  have e1 : ca.eval x = .map (some b) := by generalize ca.eval x = q at h1; cases h1; rfl
  obtain ⟨v, r1, r2⟩ := lookup_run (P := P) he st hm ht hke hz h2 false
  exact ⟨.value v, v, w, lim, _, _, by simp only [execOp, e1, Sem.run_bind, r2]; rfl, .inl rfl, st.putO (d := some d) (fun t ht => okOper_dst hk ht) r1, .refl _ _ _, h⟩

theorem ar_lookupOk (hg : gOn ops fr gd = some true) {κ ν : Type} [DecidableEq κ] {dk : TypeDesc} (kf : κ → AV) {kc : κ → Value} (vf : ν → AV) (he : KeyEnc dk kf kc) (l : List (κ × ν)) (k : κ) (z : ν) {t ke ve : TypeId} {x y : Operand} {b : Nat} {v : AV} (ht : P.underlying t = some (.map ke ve)) (hke : P.underlying ke = some dk) (hz : zeroA P ve = some (vf z))
    (hx : evP (rawOf fr) x = .map b) (hy : evP (rawOf fr) y = kf k) (hm : m.wth L b = some (.map (l.map fun p => (kf p.1, vf p.2)))) (hv : vf ((mget l k).getD z) = v) (h : aopsR P ops stl r K (fr.put d (.tuple [v, .bool (mget l k).isSome])) (m.wth L)) :
    aopsR P ops stl (⟨some d, .lookup t x y true, ty, pos, af, gd⟩ :: r) K fr (m.wth L) := by
  subst hv
  simp only [aopsR, aopR, hg, ares, qv, hx]
  intro n hk hn F lim w ca st
  have hopd := okOper_opd hk
  have h1 := evP_rep st (hopd x (by simp [Op.operands]))
  have h2 := evP_rep st (hopd y (by simp [Op.operands]))
  rw [hx] at h1
  rw [hy] at h2
  have e1 : ca.eval x = .map (some b) := by generalize ca.eval x = q at h1; cases h1; rfl
  obtain ⟨v, r1, r2⟩ := lookup_run (P := P) he st hm ht hke hz h2 true
  have hT : Rep w lim (.tuple #[v, .bool (mget l k).isSome]) (.tuple [vf ((mget l k).getD z), .bool (mget l k).isSome]) [] := by
    have := Rep.tuple (w := w) (lim := lim) #[v, .bool (mget l k).isSome] [vf ((mget l k).getD z), .bool (mget l k).isSome] (fun _ => []) rfl (fun i hi => by
      match i, hi with
      | 0, _ => exact r1
      | 1, _ => exact .bool _)
    rwa [flatMap_nil] at this
  exact ⟨.value (.tuple #[v, .bool (mget l k).isSome]), _, w, lim, _, _, by simp only [execOp, e1, Sem.run_bind, r2]; rfl, .inl rfl, st.putO (d := some d) (fun t ht => okOper_dst hk ht) hT, .refl _ _ _, h⟩

theorem ar_lenMap (hg : gOn ops fr gd = some true) {α : Type} (f : α → AV × AV) (l : List α) {t ke ve : TypeId} {x : Operand} {b : Nat} (ht : P.underlying t = some (.map ke ve)) (hx : evP (rawOf fr) x = .map b) (hm : m.wth L b = some (.map (l.map f))) (h : aopsR P ops stl r K (fr.put d (.int .i64 l.length)) (m.wth L)) :
    aopsR P ops stl (⟨some d, .call ⟨.builtin .len, #[x], #[t]⟩, ty, pos, af, gd⟩ :: r) K fr (m.wth L) :=
  ar_qv (side := True) (x := .int .i64 (l.map f).length) hg rfl rfl (by simp [qv, ht, hx, hm]) trivial (by simp) h

/-- The entries of a map as they are behind a write. -/
theorem map_write {κ ν : Type} {dk : TypeDesc} {kf : κ → AV} {kc : κ → Value} {vf : ν → AV} (he : KeyEnc dk kf kc) {es : Array MapEntry} {l l' : List (κ × ν)} {es' : Array MapEntry} (hs : es'.size = l'.length)
    (hk : ∀ i p, l'[i]? = some p → Rep w lim (es'.getD i default).key (kf p.1) [] ∧ Rep w lim (es'.getD i default).val (vf p.2) []) :
    (∀ i, i < (l'.map fun p => (kf p.1, vf p.2)).length → Rep w lim (es'.getD i default).key ((l'.map fun p => (kf p.1, vf p.2)).getD i (.junk, .junk)).1 []) ∧ (∀ i, i < (l'.map fun p => (kf p.1, vf p.2)).length → Rep w lim (es'.getD i default).val ((l'.map fun p => (kf p.1, vf p.2)).getD i (.junk, .junk)).2 []) := by
  have key : ∀ i, i < (l'.map fun p => (kf p.1, vf p.2)).length → Rep w lim (es'.getD i default).key ((l'.map fun p => (kf p.1, vf p.2)).getD i (.junk, .junk)).1 [] ∧ Rep w lim (es'.getD i default).val ((l'.map fun p => (kf p.1, vf p.2)).getD i (.junk, .junk)).2 [] := fun i hi => by
    have hi' : i < l'.length := by simpa using hi
    have := hk i _ (List.getElem?_eq_getElem hi')
    simpa [List.getD_eq_getElem?_getD, hi'] using this
  exact ⟨fun i hi => (key i hi).1, fun i hi => (key i hi).2⟩

theorem arr_getD {α : Type} {es : Array α} {i : Nat} {d x : α} (h : es[i]? = some x) : es.getD i d = x := by
  rw [Array.getD_eq_getD_getElem?, h]; rfl

theorem put_run {κ ν : Type} [DecidableEq κ] {dk : TypeDesc} {kf : κ → AV} {kc : κ → Value} {vf : ν → AV} (he : KeyEnc dk kf kc) (st : St F lim w n fr m ca fl) {b : Nat} {l : List (κ × ν)} (hm : m b = some (.map (l.map fun p => (kf p.1, vf p.2)))) {t ke ve : TypeId} (ht : P.underlying t = some (.map ke ve)) (hke : P.underlying ke = some dk)
    {kv vv : Value} {k : κ} {v : ν} (hkv : Rep w lim kv (kf k) []) (hvv : Rep w lim vv (vf v) []) (hbig : (mput l k v).length ≤ 140737488355328) :
    ∃ w', (Instr.mapUpdate t (.map (some b)) kv vv).run P w = .ok () w' ∧ St F lim w' n fr (m.upd b (some (.map ((mput l k v).map fun p => (kf p.1, vf p.2))))) ca fl ∧ Pres F w lim w' lim := by
  obtain ⟨es, clock, hb, hs, hkeys, hval, hborn, hclock, hlen, hkr, hl0, hF⟩ := map_inv he st hm
  obtain rfl := he.1 _ _ _ _ _ hkv
  have hf := findNow_midx he k es.toList l 0 hkeys
  have hc : (Instr.checkKey false 10000 ke (kc k)).run P w = .ok () w := run_checkKey hke (he.2.1 k) _ 9999
  have hfk := run_findKey (P := P) (w := w) hke hf
  have hgk : ∀ i p, l[i]? = some p → i < es.size := fun i p hp => by have := (List.getElem?_eq_some_iff.1 hp).1; omega
  cases hi : midx l k with
  | none =>
    have h1 := (midx_none hi).2.2 v
    rw [hi] at hfk
    simp only [Option.map_none] at hfk
    have hget : ∀ i, (es.push { key := kc k, val := vv, born := clock }).getD i default = if i < es.size then es.getD i default else if i = es.size then { key := kc k, val := vv, born := clock } else default := fun i => by
      simp only [Array.getD_eq_getD_getElem?, Array.getElem?_push]
      by_cases h2 : i = es.size
      · subst h2; simp
      · rw [if_neg h2]
        by_cases h3 : i < es.size
        · rw [if_pos h3]
        · rw [if_neg h3, if_neg h2, Array.getElem?_eq_none (by omega)]; rfl
    have hw := map_write (w := w) (lim := lim) he (es := es) (l := l) (l' := l ++ [(k, v)]) (es' := es.push { key := kc k, val := vv, born := clock }) (vf := vf) (by simp [hs]) (fun i p hp => by
      rw [hget]
      by_cases h2 : i < l.length
      · rw [List.getElem?_append_left h2] at hp
        rw [if_pos (by omega)]
        exact ⟨hkr i p hp, hval i p hp⟩
      · rw [List.getElem?_append_right (by omega)] at hp
        have h3 : i - l.length = 0 := by
          rcases Nat.eq_zero_or_pos (i - l.length) with h3 | h3
          · exact h3
          · rw [List.getElem?_eq_none (by simp; omega)] at hp; cases hp
        rw [h3] at hp
        obtain rfl : (k, v) = p := by simpa using hp
        rw [if_neg (by omega), if_pos (by omega)]
        exact ⟨hkv, hvv⟩)
    obtain ⟨s1, s2⟩ := st.storeMap (es' := es.push { key := kc k, val := vv, born := clock }) (clock' := clock + 1) (l' := (l ++ [(k, v)]).map fun p => (kf p.1, vf p.2)) hm hb (by simp [hs]) (by rw [← h1]; simpa using hbig) hw.1 hw.2 (fun i j hij hj => by
      simp only [List.length_map, List.length_append, List.length_singleton] at hj
      rw [hget, hget, if_pos (by omega)]
      by_cases h2 : j < es.size
      · rw [if_pos h2]; exact hborn i j hij (by omega)
      · rw [if_neg h2, if_pos (by omega)]; exact hclock i (by omega)) (fun i hi' => by
      simp only [List.length_map, List.length_append, List.length_singleton] at hi'
      rw [hget]
      by_cases h2 : i < es.size
      · rw [if_pos h2]; have := hclock i (by omega); omega
      · rw [if_neg h2, if_pos (by omega)]; exact Nat.lt_succ_self _)
    refine ⟨_, ?_, by rw [h1]; exact s1, s2⟩
    simp [Instr.mapUpdate, run_underlying ht, run_getObj_map hb, hc, hfk, Result.andThen, run_setObj_map _ hb]
  | some j =>
    obtain ⟨c, h1, _, _, h4⟩ := midx_some hi
    have h5 := h4 v
    rw [hi] at hfk
    simp only [Option.map_some, Nat.zero_add] at hfk
    have hjl : j < l.length := (List.getElem?_eq_some_iff.1 h1).1
    have hj : j < es.size := hgk j _ h1
    have hkj : (es[j]?).map (·.key) = some (kc k) := by
      have h6 := he.1 _ _ _ _ _ (hkr j _ h1)
      rw [Array.getElem?_eq_getElem hj]
      rw [arr_getD (Array.getElem?_eq_getElem hj)] at h6
      simp [h6]
    have hget : ∀ i, (es.modify j fun e => { e with key := kc k, val := vv }).getD i default = if i = j then { es.getD j default with key := kc k, val := vv } else es.getD i default := fun i => by
      simp only [Array.getD_eq_getD_getElem?, Array.getElem?_modify]
      by_cases h2 : j = i
      · subst h2; simp [Array.getElem?_eq_getElem hj]
      · rw [if_neg h2, if_neg (Ne.symm h2)]
    have hw := map_write (w := w) (lim := lim) he (es := es) (l := l) (l' := l.set j (k, v)) (es' := es.modify j fun e => { e with key := kc k, val := vv }) (vf := vf) (by simp [hs]) (fun i p hp => by
      rw [hget]
      rw [List.getElem?_set] at hp
      by_cases h2 : j = i
      · subst h2
        rw [if_pos rfl, if_pos hjl] at hp
        obtain rfl : (k, v) = p := by simpa using hp
        rw [if_pos rfl]; exact ⟨hkv, hvv⟩
      · rw [if_neg h2] at hp
        rw [if_neg (Ne.symm h2)]; exact ⟨hkr i p hp, hval i p hp⟩)
    have hb2 : ∀ i, ((es.modify j fun e => { e with key := kc k, val := vv }).getD i default).born = (es.getD i default).born := fun i => by
      rw [hget]; split
      · rename_i h2; subst h2; simp [Array.getD, hj]
      · rfl
    obtain ⟨s1, s2⟩ := st.storeMap (es' := es.modify j fun e => { e with key := kc k, val := vv }) (clock' := clock) (l' := (l.set j (k, v)).map fun p => (kf p.1, vf p.2)) hm hb (by simp [hs]) (by rw [← h5]; simpa using hbig) hw.1 hw.2 (fun i i' hij hj' => by
      rw [hb2, hb2]; exact hborn i i' hij (by simpa using hj')) (fun i hi' => by rw [hb2]; exact hclock i (by simpa using hi'))
    refine ⟨_, ?_, by rw [h5]; exact s1, s2⟩
    have hks : (Instr.keyThatStays (((es[j]?).map (·.key)).getD (kc k)) (kc k)).run P w = .ok (kc k) w := by
      rw [hkj]; exact run_keyThatStays (he.2.1 k)
    simp only [Instr.mapUpdate, Sem.run_bind, run_underlying ht, run_getObj_map hb, hc, hfk, Result.andThen_ok, hks, run_setObj_map _ hb]

theorem del_run {κ ν : Type} [DecidableEq κ] {dk : TypeDesc} {kf : κ → AV} {kc : κ → Value} {vf : ν → AV} (he : KeyEnc dk kf kc) (st : St F lim w n fr m ca fl) {b : Nat} {l : List (κ × ν)} (hm : m b = some (.map (l.map fun p => (kf p.1, vf p.2)))) {t t2 ke ve ty : TypeId} (ht : P.underlying t = some (.map ke ve)) (hke : P.underlying ke = some dk)
    {kv : Value} {k : κ} (hkv : Rep w lim kv (kf k) []) :
    ∃ w', (Builtin.delete_ #[t, t2] ty #[.map (some b), kv]).run P w = .ok (.tuple #[]) w' ∧ St F lim w' n fr (m.upd b (some (.map ((mdel l k).map fun p => (kf p.1, vf p.2))))) ca fl ∧ Pres F w lim w' lim := by
  obtain ⟨es, clock, hb, hs, hkeys, hval, hborn, hclock, hlen, hkr, hl0, hF⟩ := map_inv he st hm
  obtain rfl := he.1 _ _ _ _ _ hkv
  have hf := findNow_midx he k es.toList l 0 hkeys
  have hc : (Instr.checkKey es.isEmpty 10000 ke (kc k)).run P w = .ok () w := run_checkKey hke (he.2.1 k) _ 9999
  have hfk := run_findKey (P := P) (w := w) hke hf
  cases hi : midx l k with
  | none =>
    have h1 := (midx_none hi).2.1
    rw [hi] at hfk
    simp only [Option.map_none] at hfk
    have hw := map_write (w := w) (lim := lim) he (es := es) (l := l) (l' := l) (es' := es) (vf := vf) hs (fun i p hp => ⟨hkr i p hp, hval i p hp⟩)
    obtain ⟨s1, s2⟩ := st.storeMap (es' := es) (clock' := clock) (l' := l.map fun p => (kf p.1, vf p.2)) hm hb (by simp [hs]) (by simpa using hlen) hw.1 hw.2 (fun i j hij hj => hborn i j hij (by simpa using hj)) (fun i hi' => hclock i (by simpa using hi'))
    refine ⟨_, ?_, by rw [h1]; exact s1, s2⟩
    simp [Builtin.delete_, run_underlying ht, run_getObj_map hb, hc, hfk, Result.andThen, run_setObj_map _ hb]
  | some j =>
    obtain ⟨c, h1, _, h3, _⟩ := midx_some hi
    rw [hi] at hfk
    simp only [Option.map_some, Nat.zero_add] at hfk
    have hjl : j < l.length := (List.getElem?_eq_some_iff.1 h1).1
    have hj : j < es.size := by omega
    have hee : es.eraseIdxIfInBounds j = es.eraseIdx j hj := by simp [Array.eraseIdxIfInBounds, hj]
    have hget : ∀ i, (es.eraseIdxIfInBounds j).getD i default = if i < j then es.getD i default else es.getD (i + 1) default := fun i => by
      rw [hee]
      simp only [Array.getD_eq_getD_getElem?, ← Array.getElem?_toList, Array.toList_eraseIdx, List.getElem?_eraseIdx]
      split <;> rfl
    have hlg : ∀ i, (l.eraseIdx j)[i]? = if i < j then l[i]? else l[i + 1]? := fun i => by rw [List.getElem?_eraseIdx]
    have hll : (l.eraseIdx j).length = l.length - 1 := by rw [List.length_eraseIdx]; simp [hjl]
    have hw := map_write (w := w) (lim := lim) he (es := es) (l := l) (l' := l.eraseIdx j) (es' := es.eraseIdxIfInBounds j) (vf := vf) (by rw [hee, Array.size_eraseIdx, hll, hs]) (fun i p hp => by
      rw [hget]
      rw [hlg] at hp
      split at hp
      · rename_i h2; rw [if_pos h2]; exact ⟨hkr i p hp, hval i p hp⟩
      · rename_i h2; rw [if_neg h2]; exact ⟨hkr _ p hp, hval _ p hp⟩)
    obtain ⟨s1, s2⟩ := st.storeMap (es' := es.eraseIdxIfInBounds j) (clock' := clock) (l' := (l.eraseIdx j).map fun p => (kf p.1, vf p.2)) hm hb (by rw [hee, Array.size_eraseIdx, List.length_map, hll, hs]) (by rw [List.length_map]; omega) hw.1 hw.2 (fun i i' hij hj' => by
      rw [List.length_map, hll] at hj'
      rw [hget, hget]
      split <;> split
      · exact hborn i i' hij (by omega)
      · exact hborn i _ (by omega) (by omega)
      · omega
      · exact hborn _ _ (by omega) (by omega)) (fun i hi' => by
      rw [List.length_map, hll] at hi'
      rw [hget]; split
      · exact hclock i (by omega)
      · exact hclock _ (by omega))
    refine ⟨_, ?_, by rw [h3]; exact s1, s2⟩
    simp [Builtin.delete_, run_underlying ht, run_getObj_map hb, hc, hfk, Result.andThen, run_setObj_map _ hb]

/-- A map in memory is written. -/
theorem ar_mapUpdate (hg : gOn ops fr gd = some true) {κ ν : Type} [DecidableEq κ] {dk : TypeDesc} (i : Nat) (kf : κ → AV) {kc : κ → Value} (vf : ν → AV) (he : KeyEnc dk kf kc) (l : List (κ × ν)) (k : κ) (v : ν) {t ke ve : TypeId} {x y z : Operand} {b : Nat} (ht : P.underlying t = some (.map ke ve)) (hke : P.underlying ke = some dk)
    (hx : evP (rawOf fr) x = .map b) (hy : evP (rawOf fr) y = kf k) (hz : evP (rawOf fr) z = vf v) (hi : L[i]? = some (b, .map (l.map fun p => (kf p.1, vf p.2)))) (hN : (L.map Prod.fst).Nodup) (hbig : (mput l k v).length ≤ 140737488355328)
    (h : aopsR P ops stl r K fr (m.wth (L.set i (b, .map ((mput l k v).map fun p => (kf p.1, vf p.2)))))) :
    aopsR P ops stl (⟨none, .mapUpdate t x y z, ty, pos, af, gd⟩ :: r) K fr (m.wth L) := by
  simp only [aopsR, aopR, hg, ares, qv]
  intro n hk hn F lim w ca st
  have hopd := okOper_opd hk
  have h1 := evP_rep st (hopd x (by simp [Op.operands]))
  have h2 := evP_rep st (hopd y (by simp [Op.operands]))
  have h3 := evP_rep st (hopd z (by simp [Op.operands]))
  rw [hx] at h1
  rw [hy] at h2
  rw [hz] at h3
  have e1 : ca.eval x = .map (some b) := by generalize ca.eval x = q at h1; cases h1; rfl
  obtain ⟨w', r1, r2, r3⟩ := put_run (P := P) he st (wth_get (m := m) i hN hi) ht hke h2 h3 hbig
  rw [wth_set i hN hi] at r2
  exact ⟨.skip, undef, w', lim, _, _, by simp only [execOp, e1, Sem.run_bind, r1]; rfl, .inr ⟨rfl, rfl⟩, r2, r3, h⟩

theorem ar_delete (hg : gOn ops fr gd = some true) {κ ν : Type} [DecidableEq κ] {dk : TypeDesc} (i : Nat) (kf : κ → AV) {kc : κ → Value} (vf : ν → AV) (he : KeyEnc dk kf kc) (l : List (κ × ν)) (k : κ) {t t2 ke ve : TypeId} {x y : Operand} {b : Nat} (ht : P.underlying t = some (.map ke ve)) (hke : P.underlying ke = some dk)
    (hx : evP (rawOf fr) x = .map b) (hy : evP (rawOf fr) y = kf k) (hi : L[i]? = some (b, .map (l.map fun p => (kf p.1, vf p.2)))) (hN : (L.map Prod.fst).Nodup)
    (h : aopsR P ops stl r K fr (m.wth (L.set i (b, .map ((mdel l k).map fun p => (kf p.1, vf p.2)))))) :
    aopsR P ops stl (⟨none, .call ⟨.builtin .delete, #[x, y], #[t, t2]⟩, ty, pos, af, gd⟩ :: r) K fr (m.wth L) := by
  simp only [aopsR, aopR, hg, ares, qv]
  intro n hk hn F lim w ca st
  have hopd := okOper_opd hk
  have h1 := evP_rep st (hopd x (by simp [Op.operands, Call.operands]))
  have h2 := evP_rep st (hopd y (by simp [Op.operands, Call.operands]))
  rw [hx] at h1
  rw [hy] at h2
  have e1 : ca.eval x = .map (some b) := by generalize ca.eval x = q at h1; cases h1; rfl
  obtain ⟨w', r1, r2, r3⟩ := del_run (P := P) (t2 := t2) (ty := ty) he st (wth_get (m := m) i hN hi) ht hke h2
  rw [wth_set i hN hi] at r2
  have e2 : (#[x, y] : Array Operand).map ca.eval = #[.map (some b), ca.eval y] := by apply Array.ext'; simp [e1]
  refine ⟨.value (.tuple #[]), _, w', lim, _, _, ?_, .inl rfl, r2, r3, h⟩
  simp only [execOp, resolve, invoke, builtin, Sem.run_bind, Sem.run_pure, Result.andThen_ok, e2]
  rw [r1]; rfl


/-- Blocks that nobody looks at any more are let go. -/
theorem awp_drop {c : Code} {Q : Exit → Fr → AMem → Prop} (L1 L2 : List (Nat × AObj)) (hN : ((L1 ++ L2).map Prod.fst).Nodup) (hF : ∀ b ∈ L1.map Prod.fst, m b = none) (h : AWP P n c Q fr (m.wth L2)) : AWP P n c Q fr (m.wth (L1 ++ L2)) :=
  fun F lim w ca st => h F lim w ca (st.memSub (wth_sub2 L1 L2 hN hF))


theorem wth_news {l : List Nat} (h : l.Nodup) (hf : ∀ b ∈ l, m.wth L b = none) (hN : (L.map Prod.fst).Nodup) : (l ++ L.map Prod.fst).Nodup := by
  rw [List.nodup_append]
  exact ⟨h, hN, fun a ha b hb e => (wth_fresh (hf a ha)).1 (by rw [e]; exact hb)⟩


/-- How long a thing may be. -/
def bd1 : AV → Prop
  | .str s => s.length ≤ 140737488355328
  | .slice _ l => l.length ≤ 140737488355328
  | _ => True
def bdA : AV → Prop
  | .agg l => ∀ i, i < l.length → bd1 (l.getD i .junk)
  | x => bd1 x
theorem rep_bd1 {v : Value} {x : AV} {os : List Nat} (h : Rep w lim v x os) : bd1 x := by
  cases h with
  | str s h => show s.data.toList.length ≤ _; simp; exact h
  | nils own => simp [bd1]
  | empty a cap hm => simp [bd1]
  | slice b off n cap sz l cv hn hcap hm hbig => show l.length ≤ _; omega
  | own b n cap sz l cv cur e hn hcap hm hbig => show l.length ≤ _; omega
  | _ => trivial
theorem rep_bdA {v : Value} {x : AV} {os : List Nat} (h : Rep w lim v x os) : bdA x := by
  cases h with
  | agg cs xs os h hr => exact fun i hi => rep_bd1 (hr i hi)
  | str s h => show s.data.toList.length ≤ _; simp; exact h
  | nils own => simp [bdA, bd1]
  | empty a cap hm => simp [bdA, bd1]
  | slice b off n cap sz l cv hn hcap hm hbig => show l.length ≤ _; omega
  | own b n cap sz l cv cur e hn hcap hm hbig => show l.length ≤ _; omega
  | _ => trivial
theorem bd_map {α : Type} {f : α → AV} {o : Bool} {l : List α} (h : bd1 (.slice o (l.map f))) : l.length ≤ 140737488355328 := by
  have : (l.map f).length ≤ 140737488355328 := h
  simpa using this
theorem awp_bd {c : Code} {Q : Exit → Fr → AMem → Prop} (t : Nat) {x : AV} (hx : fr.get t = some x) (h : bdA x → AWP P n c Q fr m) : AWP P n c Q fr m := fun F lim w ca st => by
  have hb : bdA x := by
    obtain ⟨os, om, ow, hs⟩ := st
    exact rep_bdA (hs.slots t x hx).2
  exact h hb F lim w ca st


/-- What a slot owns is given up. -/
theorem awp_strip {c : Code} {Q : Exit → Fr → AMem → Prop} (s : Nat) (hs : decide (s < n) = true) (h : AWP P n c Q (fr.strip [s]) m) : AWP P n c Q fr m := fun F lim w ca st => by
  obtain ⟨os, h1, _⟩ := st.takeRaw s (of_decide_eq_true hs)
  exact h F lim w ca h1.drop

end
end Go.Aw
