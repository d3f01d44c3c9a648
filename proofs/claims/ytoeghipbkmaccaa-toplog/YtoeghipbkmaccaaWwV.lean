/-
  The abstract layer, part 22: rules for single operations, by which a walk is written out: each names what it yields.
-/
import Derived.Test.YtoeghipbkmaccaaWwU
namespace Go.Aw
open Go

/-- The part of a list at a place. -/
def gI {α : Type} [Inhabited α] (xs : List α) (k : Int) : α := xs.getD k.toNat default

theorem wrap64 (n : Int) (h1 : -9223372036854775808 ≤ n) (h2 : n ≤ 9223372036854775807) : IntKind.i64.wrap n = n :=
  wrap_of_range .i64 n (by simp [IntKind.min, IntKind.signed, IntKind.bits]; omega) (by simp [IntKind.max, IntKind.signed, IntKind.bits]; omega)

theorem idx_eq {α : Type} [Inhabited α] (f : α → AV) (xs : List α) (k : Int) (h0 : 0 ≤ k) (h1 : k < xs.length) : (xs.map f).getD k.toNat .junk = f (gI xs k) := by
  have : k.toNat < xs.length := by omega
  simp [gI, List.getD_eq_getElem?_getD, this]

def oneOf (T : TypeId) (e : Int) : AV := if e = 0 then .nilIface else .iface T (.int .i64 e)

section
variable {P : Program} {n : Nat} {ops : Array Oper} {stl : List Nat} {r : List Oper} {K : Fr → AMem → Prop} {fr : Fr} {m : AMem} {d : Nat} {ty : TypeId} {pos : String} {af : Array Edge}

/-- An operation that only reads, its yield spelled anew. -/
theorem ao_qv {op : Op} {side : Prop} {x x' : AV} (hop : ares P m (rawOf fr) stl (some d) op = (match qv P m (evP (rawOf fr)) op with | some (side, x) => .val side [] m x | none => .stuck))
    (hq : qv P m (evP (rawOf fr)) op = some (side, x)) (hs : side) (hx : x = x') (h : aops P ops stl r K (fr.put d x') m) : aops P ops stl (⟨some d, op, ty, pos, af, none⟩ :: r) K fr m := by
  subst hx
  simp only [aops, aop, hop, hq]
  exact ⟨hs, h⟩

/-- No call of a function. -/
def plainOp : Op → Bool
  | .call ⟨.value (.func _), _, _⟩ => false
  | .call ⟨.value (.tmp _), _, _⟩ => false
  | _ => true

/-- .. under a guard that is met. -/
theorem ag_qv {op : Op} {side : Prop} {x x' : AV} {j g : Nat} {b : Bool} (hj : (ops[j]?).bind (·.dst) = some g) (hz : guardVal (rawOf fr g) b = some true)
    (hop : plainOp op = true) (hq : qv P m (gev (rawOf fr) true op) op = some (side, x)) (hs : side) (hx : x = x') (h : aops P ops stl r K (fr.put d (.lazy true x')) m) : aops P ops stl (⟨some d, op, ty, pos, af, some (j, b)⟩ :: r) K fr m := by
  subst hx
  simp only [aops, aop, hj, hz]
  split
  · simp [plainOp] at hop
  · simp [plainOp] at hop
  · simp only [hq]
    exact ⟨fun _ => hs, h⟩

/-- .. under one that is not. -/
theorem ag_off {op : Op} {side : Prop} {x : AV} {j g : Nat} {b : Bool} (hj : (ops[j]?).bind (·.dst) = some g) (hz : guardVal (rawOf fr g) b = some false)
    (hop : plainOp op = true) (hq : qv P m (gev (rawOf fr) false op) op = some (side, x)) (h : aops P ops stl r K (fr.put d (.lazy false x)) m) : aops P ops stl (⟨some d, op, ty, pos, af, some (j, b)⟩ :: r) K fr m := by
  simp only [aops, aop, hj, hz]
  split
  · simp [plainOp] at hop
  · simp [plainOp] at hop
  · simp only [hq]
    exact ⟨(fun h0 => by cases h0), h⟩

theorem ao_add {T T2 : TypeId} {x y : Operand} {a b : Int} (hx : evP (rawOf fr) x = .int .i64 a) (hy : evP (rawOf fr) y = .int .i64 b) (lo : -9223372036854775808 ≤ a + b) (hi : a + b ≤ 9223372036854775807)
    (h : aops P ops stl r K (fr.put d (.int .i64 (a + b))) m) : aops P ops stl (⟨some d, .binOp .add T x y T2, ty, pos, af, none⟩ :: r) K fr m :=
  ao_qv (side := True) (x := .int .i64 (IntKind.i64.wrap (a + b))) rfl (by simp only [qv, hx, hy, anil, abin, if_true]) trivial (by rw [wrap64 _ lo hi]) h

theorem ao_sub {T T2 : TypeId} {x y : Operand} {a b : Int} (hx : evP (rawOf fr) x = .int .i64 a) (hy : evP (rawOf fr) y = .int .i64 b) (lo : -9223372036854775808 ≤ a - b) (hi : a - b ≤ 9223372036854775807)
    (h : aops P ops stl r K (fr.put d (.int .i64 (a - b))) m) : aops P ops stl (⟨some d, .binOp .sub T x y T2, ty, pos, af, none⟩ :: r) K fr m :=
  ao_qv (side := True) (x := .int .i64 (IntKind.i64.wrap (a - b))) rfl (by simp only [qv, hx, hy, anil, abin, if_true]) trivial (by rw [wrap64 _ lo hi]) h

theorem ao_mul {T T2 : TypeId} {x y : Operand} {a b : Int} (hx : evP (rawOf fr) x = .int .i64 a) (hy : evP (rawOf fr) y = .int .i64 b) (lo : -9223372036854775808 ≤ a * b) (hi : a * b ≤ 9223372036854775807)
    (h : aops P ops stl r K (fr.put d (.int .i64 (a * b))) m) : aops P ops stl (⟨some d, .binOp .mul T x y T2, ty, pos, af, none⟩ :: r) K fr m :=
  ao_qv (side := True) (x := .int .i64 (IntKind.i64.wrap (a * b))) rfl (by simp only [qv, hx, hy, anil, abin, if_true]) trivial (by rw [wrap64 _ lo hi]) h

/-- A place of a list whose parts are told. -/
theorem ao_index {α : Type} [Inhabited α] (f : α → AV) (xs : List α) (k : Int) {own : Bool} {kd : IntKind} {t e : TypeId} {x i : Operand} {l : List AV} (ht : P.underlying t = some (.slice e)) (hx : evP (rawOf fr) x = .slice own l) (hl : l = xs.map f) (hi : evP (rawOf fr) i = .int kd k)
    (hU : isU P e = true) (hc : P.cellsOf e ≠ 0) (hf : ∀ a, (f a).cells.length = P.cellsOf e) (h0 : 0 ≤ k) (h1 : k < xs.length) (h : aops P ops stl r K (fr.put d (.ref (f (gI xs k)).cells)) m) :
    aops P ops stl (⟨some d, .indexAddr t x i, ty, pos, af, none⟩ :: r) K fr m := by
  subst hl
  refine ao_qv (side := isU P e = true ∧ P.cellsOf e ≠ 0 ∧ 0 ≤ k ∧ k < (xs.map f).length ∧ ((xs.map f).getD k.toNat .junk).cells.length = P.cellsOf e) (x := .ref ((xs.map f).getD k.toNat .junk).cells) rfl ?_ ⟨hU, hc, h0, by simpa using h1, by rw [idx_eq f xs k h0 h1]; exact hf _⟩ (by rw [idx_eq f xs k h0 h1]) h
  simp only [qv, ht, hx, hi]

theorem ag_index {α : Type} [Inhabited α] (f : α → AV) (xs : List α) (k : Int) {own : Bool} {kd : IntKind} {t e : TypeId} {x i : Operand} {l : List AV} {j g : Nat} {b : Bool} (hj : (ops[j]?).bind (·.dst) = some g) (hz : guardVal (rawOf fr g) b = some true)
    (ht : P.underlying t = some (.slice e)) (hx : gev (rawOf fr) true (.indexAddr t x i) x = .slice own l) (hl : l = xs.map f) (hi : gev (rawOf fr) true (.indexAddr t x i) i = .int kd k)
    (hU : isU P e = true) (hc : P.cellsOf e ≠ 0) (hf : ∀ a, (f a).cells.length = P.cellsOf e) (h0 : 0 ≤ k) (h1 : k < xs.length) (h : aops P ops stl r K (fr.put d (.lazy true (.ref (f (gI xs k)).cells))) m) :
    aops P ops stl (⟨some d, .indexAddr t x i, ty, pos, af, some (j, b)⟩ :: r) K fr m := by
  subst hl
  refine ag_qv (side := isU P e = true ∧ P.cellsOf e ≠ 0 ∧ 0 ≤ k ∧ k < (xs.map f).length ∧ ((xs.map f).getD k.toNat .junk).cells.length = P.cellsOf e) (x := .ref ((xs.map f).getD k.toNat .junk).cells) hj hz rfl ?_ ⟨hU, hc, h0, by simpa using h1, by rw [idx_eq f xs k h0 h1]; exact hf _⟩ (by rw [idx_eq f xs k h0 h1]) h
  simp only [qv, ht, hx, hi]

theorem ag_add {T T2 : TypeId} {x y : Operand} {a b : Int} {j g : Nat} {bb : Bool} (hj : (ops[j]?).bind (·.dst) = some g) (hz : guardVal (rawOf fr g) bb = some true) (hx : gev (rawOf fr) true (.binOp .add T x y T2) x = .int .i64 a) (hy : gev (rawOf fr) true (.binOp .add T x y T2) y = .int .i64 b)
    (lo : -9223372036854775808 ≤ a + b) (hi : a + b ≤ 9223372036854775807) (h : aops P ops stl r K (fr.put d (.lazy true (.int .i64 (a + b)))) m) : aops P ops stl (⟨some d, .binOp .add T x y T2, ty, pos, af, some (j, bb)⟩ :: r) K fr m :=
  ag_qv (side := True) (x := .int .i64 (IntKind.i64.wrap (a + b))) hj hz rfl (by simp only [qv, hx, hy, anil, abin, if_true]) trivial (by rw [wrap64 _ lo hi]) h

theorem ag_sub {T T2 : TypeId} {x y : Operand} {a b : Int} {j g : Nat} {bb : Bool} (hj : (ops[j]?).bind (·.dst) = some g) (hz : guardVal (rawOf fr g) bb = some true) (hx : gev (rawOf fr) true (.binOp .sub T x y T2) x = .int .i64 a) (hy : gev (rawOf fr) true (.binOp .sub T x y T2) y = .int .i64 b)
    (lo : -9223372036854775808 ≤ a - b) (hi : a - b ≤ 9223372036854775807) (h : aops P ops stl r K (fr.put d (.lazy true (.int .i64 (a - b)))) m) : aops P ops stl (⟨some d, .binOp .sub T x y T2, ty, pos, af, some (j, bb)⟩ :: r) K fr m :=
  ag_qv (side := True) (x := .int .i64 (IntKind.i64.wrap (a - b))) hj hz rfl (by simp only [qv, hx, hy, anil, abin, if_true]) trivial (by rw [wrap64 _ lo hi]) h

/-- How long a list is, whose parts are told. -/
theorem ao_len {α : Type} (f : α → AV) (xs : List α) {own : Bool} {t e : TypeId} {x : Operand} {l : List AV} (ht : P.underlying t = some (.slice e)) (hx : evP (rawOf fr) x = .slice own l) (hl : l = xs.map f)
    (h : aops P ops stl r K (fr.put d (.int .i64 xs.length)) m) : aops P ops stl (⟨some d, .call ⟨.builtin .len, #[x], #[t]⟩, ty, pos, af, none⟩ :: r) K fr m := by
  subst hl
  exact ao_qv (side := True) (x := .int .i64 (xs.map f).length) rfl (by simp [qv, ht, hx]) trivial (by simp) h

theorem ag_len {α : Type} (f : α → AV) (xs : List α) {own : Bool} {t e : TypeId} {x : Operand} {l : List AV} {j g : Nat} {b : Bool} (hj : (ops[j]?).bind (·.dst) = some g) (hz : guardVal (rawOf fr g) b = some true) (ht : P.underlying t = some (.slice e))
    (hx : gev (rawOf fr) true (.call ⟨.builtin .len, #[x], #[t]⟩) x = .slice own l) (hl : l = xs.map f) (h : aops P ops stl r K (fr.put d (.lazy true (.int .i64 xs.length))) m) : aops P ops stl (⟨some d, .call ⟨.builtin .len, #[x], #[t]⟩, ty, pos, af, some (j, b)⟩ :: r) K fr m := by
  subst hl
  exact ag_qv (side := True) (x := .int .i64 (xs.map f).length) hj hz rfl (by simp [qv, ht, hx]) trivial (by simp) h

/-- A part of a list whose parts are told. -/
theorem ao_slice {α : Type} (f : α → AV) (xs : List α) (p q : Int) {own : Bool} {t e : TypeId} {x : Operand} {lo hi : Option Operand} {l : List AV} (ht : P.underlying t = some (.slice e)) (hx : evP (rawOf fr) x = .slice own l) (hl : l = xs.map f)
    (hp : asn (lo.map (evP (rawOf fr))) 0 = some p) (hq : asn (hi.map (evP (rawOf fr))) l.length = some q) (hU : isU P e = true) (hf : ∀ a, (f a).cells.length = P.cellsOf e) (h0 : 0 ≤ p) (h1 : p ≤ q) (h2 : q ≤ xs.length)
    (h : aops P ops stl r K (fr.put d (.slice false (((xs.drop p.toNat).take (q - p).toNat).map f))) m) : aops P ops stl (⟨some d, .slice t x lo hi none, ty, pos, af, none⟩ :: r) K fr m := by
  subst hl
  refine ao_qv (side := isU P e = true ∧ 0 ≤ p ∧ p ≤ q ∧ q ≤ (xs.map f).length ∧ ∀ x ∈ xs.map f, x.cells.length = P.cellsOf e) (x := .slice false (((xs.map f).drop p.toNat).take (q - p).toNat)) rfl ?_ ⟨hU, h0, h1, by simpa using h2, fun x hx => ?_⟩ (by rw [← List.map_drop, ← List.map_take]) h
  · simp only [qv, ht, hx, hp, hq]
  · obtain ⟨a, _, rfl⟩ := List.mem_map.1 hx
    exact hf a

/-- One more part behind a list. -/
theorem ao_append {α : Type} (f : α → AV) (xs ys : List α) {own : Bool} {t e : TypeId} {s : Nat} {y : Operand} {l l' : List AV} (ht : P.underlying t = some (.slice e)) (hx : rawOf fr s = .slice true l) (hl : l = xs.map f) (hy : evP (rawOf fr) y = .slice own l') (hl' : l' = ys.map f)
    (hU : isU P e = true) (hc : 0 < P.cellsOf e) (hz : zOk P e = true) (hb : (xs.length + ys.length) * P.bytesOf e ≤ 140737488355328) (hb1 : xs.length + ys.length ≤ 140737488355328) (hf : ∀ a, (f a).cells.length = P.cellsOf e ∧ (f a).cells.all AV.one = true)
    (h : aops P ops stl r K ((fr.put s (.slice false (xs.map f))).put d (.slice true ((xs ++ ys).map f))) m) : aops P ops stl (⟨some d, .call ⟨.builtin .append, #[.tmp s, y], #[t, t]⟩, ty, pos, af, none⟩ :: r) K fr m := by
  subst hl hl'
  have hu : ∃ e', P.underlying t = some (.slice e') := ⟨e, ht⟩
  simp only [aops, aop, ares, ht, hx, hy]
  refine ⟨⟨trivial, hU, hc, hz, by simpa using hb, by simpa using hb1, fun x hx => ?_, fun x hx => ?_⟩, ?_⟩
  · obtain ⟨a, _, rfl⟩ := List.mem_map.1 hx
    exact (hf a).1
  · obtain ⟨a, _, rfl⟩ := List.mem_map.1 hx
    exact hf a
  · simp only [Fr.strip, hx, AV.plain, putO, ← List.map_append]
    exact h

/-- .. behind nothing. -/
theorem ao_append0 {α : Type} (f : α → AV) (ys : List α) {own : Bool} {t e : TypeId} {y : Operand} {l' : List AV} (ht : P.underlying t = some (.slice e)) (hy : evP (rawOf fr) y = .slice own l') (hl' : l' = ys.map f)
    (hU : isU P e = true) (hc : 0 < P.cellsOf e) (hz : zOk P e = true) (hb : ys.length * P.bytesOf e ≤ 140737488355328) (hf : ∀ a, (f a).cells.length = P.cellsOf e ∧ (f a).cells.all AV.one = true)
    (h : aops P ops stl r K (fr.put d (.slice true (ys.map f))) m) : aops P ops stl (⟨some d, .call ⟨.builtin .append, #[.const (.slice none 0 0), y], #[t, t]⟩, ty, pos, af, none⟩ :: r) K fr m := by
  subst hl'
  simp only [aops, aop, ares, ht, hy]
  refine ⟨⟨trivial, hU, hc, hz, by simpa using hb, fun x hx => ?_⟩, h⟩
  obtain ⟨a, _, rfl⟩ := List.mem_map.1 hx
  exact hf a

theorem qv_eqNil {T T2 : TypeId} {x : Operand} {v : AV} {a : Operand → AV} (hx : a x = v) (hn : a (.const .nilIface) = .nilIface) (b : Bool) (hv : (v = .nilIface ∧ b = true) ∨ (∃ t y, v = .iface t y) ∧ b = false) (hT : (match P.underlying T with | some (.interface _) => true | _ => false) = true) :
    (∃ side, qv P m a (.binOp .eql T x (.const .nilIface) T2) = some (side, .bool b) ∧ side) ∧ ∃ side, qv P m a (.binOp .neq T x (.const .nilIface) T2) = some (side, .bool (!b)) ∧ side := by
  rcases hv with ⟨rfl, rfl⟩ | ⟨⟨t, y, rfl⟩, rfl⟩
  · have k1 : ∃ side, anil P .eql T x (.const .nilIface) .nilIface .nilIface = some (side, .bool true) ∧ side := ⟨_, rfl, hT, by simp⟩
    have k2 : ∃ side, anil P .neq T x (.const .nilIface) .nilIface .nilIface = some (side, .bool false) ∧ side := ⟨_, rfl, hT, by simp⟩
    simp only [qv, hx, hn]
    exact ⟨k1, k2⟩
  · have k1 : ∃ side, anil P .eql T x (.const .nilIface) (.iface t y) .nilIface = some (side, .bool false) ∧ side := ⟨_, rfl, hT⟩
    have k2 : ∃ side, anil P .neq T x (.const .nilIface) (.iface t y) .nilIface = some (side, .bool true) ∧ side := ⟨_, rfl, hT⟩
    simp only [qv, hx, hn]
    exact ⟨k1, k2⟩

theorem oneOf_cases (Te : TypeId) (e : Int) : (oneOf Te e = .nilIface ∧ (e == 0) = true) ∨ (∃ t y, oneOf Te e = .iface t y) ∧ (e == 0) = false := by
  by_cases h0 : e = 0
  · left; simp [oneOf, h0]
  · right; simp [oneOf, h0]

/-- An error against none. -/
theorem ao_eqNil {T T2 Te : TypeId} {x : Operand} {e : Int} (hT : (match P.underlying T with | some (.interface _) => true | _ => false) = true) (hx : evP (rawOf fr) x = oneOf Te e) (h : aops P ops stl r K (fr.put d (.bool (e == 0))) m) :
    aops P ops stl (⟨some d, .binOp .eql T x (.const .nilIface) T2, ty, pos, af, none⟩ :: r) K fr m := by
  obtain ⟨⟨side, h1, h2⟩, _⟩ := qv_eqNil (P := P) (m := m) (T2 := T2) hx rfl (e == 0) (oneOf_cases Te e) hT
  exact ao_qv rfl h1 h2 rfl h

theorem ao_neNil {T T2 Te : TypeId} {x : Operand} {e : Int} (hT : (match P.underlying T with | some (.interface _) => true | _ => false) = true) (hx : evP (rawOf fr) x = oneOf Te e) (h : aops P ops stl r K (fr.put d (.bool (!(e == 0)))) m) :
    aops P ops stl (⟨some d, .binOp .neq T x (.const .nilIface) T2, ty, pos, af, none⟩ :: r) K fr m := by
  obtain ⟨_, side, h1, h2⟩ := qv_eqNil (P := P) (m := m) (T2 := T2) hx rfl (e == 0) (oneOf_cases Te e) hT
  exact ao_qv rfl h1 h2 rfl h

/-- Slots that are looked at no more are let go. -/
theorem awp_keep {c : Code} {Q : Exit → Fr → AMem → Prop} (ks : List Nat) (hks : (ks.all fun t => decide (t < n)) = true) (h : AWP P n c Q (fr.keep ks) m) : AWP P n c Q fr m :=
  fun F lim w ca st => h F lim w ca (st.keep (by simpa using hks))

theorem apartOk_one {t : TypeId} {l : List AV} {off : Nat} (h1 : isU P t = true) (h2 : aggT P t = false) (h3 : off < l.length) : apartOk P t l off := ⟨h1, by simp [h2, h3]⟩
theorem apartOk_agg {t : TypeId} {l : List AV} {off : Nat} (h1 : isU P t = true) (h2 : aggT P t = true) (h3 : off + P.cellsOf t ≤ l.length) : apartOk P t l off := ⟨h1, by simp [h2, h3]⟩

end
end Go.Aw
