/-
  The abstract layer, part 3: operations that make nothing and write nothing: what they come to on abstract values, and that they do.
-/
import Derived.Test.YtoeghipbkmaccaaWwB
namespace Go.Aw
open Go

/-- A constant as an abstract value (of one cell). -/
def cval1 : Value → AV
  | .bool b => .bool b
  | .int k n => .int k n
  | .string s => .str s.data.toList
  | .pointer none => .nilptr
  | .slice none _ _ => .slice true []
  | .map none => .nilmap
  | .nilFunc => .nilfunc
  | .nilIface => .nilIface
  | _ => .junk

def cval : Value → AV
  | .agg cs => .agg (cs.toList.map cval1)
  | .iface t v => .iface t (cval1 v)
  | v => cval1 v

def cok1 : Value → Bool
  | .int k n => decide (k.min ≤ n) && decide (n ≤ k.max)
  | .string s => decide (s.size ≤ 140737488355328)
  | .slice none n c => n == 0 && c == 0
  | _ => true

def cok : Value → Bool
  | .agg cs => cs.toList.all cok1
  | .iface _ v => cok1 v
  | v => cok1 v

def opdOk : Operand → Bool
  | .const v => cok v
  | _ => true

section
variable {w : World} {lim : Nat → Nat}

theorem rep_cval1 {v : Value} (h : cok1 v = true) : Rep w lim v (cval1 v) [] := by
  cases v with
  | bool b => exact .bool b
  | int k n => simp [cok1] at h; exact .int k n h.1 h.2
  | string s => simp [cok1] at h; exact .str s h
  | pointer a => cases a with
    | none => exact .nilptr
    | some a => exact .junk _
  | slice a n c => cases a with
    | none => simp [cok1] at h; obtain ⟨rfl, rfl⟩ := h; exact .nils true
    | some a => exact .junk _
  | map r => cases r with
    | none => exact .nilmap
    | some r => exact .junk _
  | nilFunc => exact .nilfunc
  | nilIface => exact .nilIface
  | _ => exact .junk _

theorem rep_cval {v : Value} (h : cok v = true) : Rep w lim v (cval v) [] := by
  cases v with
  | agg cs =>
    simp only [cok, List.all_eq_true] at h
    have := Rep.agg (w := w) (lim := lim) cs (cs.toList.map cval1) (fun _ => []) (by simp) (fun i hi => by
      have hi' : i < cs.size := by simpa using hi
      have e1 : cs.getD i undef = cs[i] := by simp [Array.getD, hi']
      have e2 : (cs.toList.map cval1).getD i .junk = cval1 cs[i] := by simp [List.getD, hi']
      rw [e1, e2]
      exact rep_cval1 (h _ (by simp)))
    rw [flatMap_nil] at this
    exact this
  | iface t v => exact .iface t v _ (rep_cval1 h)
  | _ => exact rep_cval1 h
end

/-- An operand, its own places left with it. -/
def ev (fr : Fr) : Operand → AV
  | .tmp t => ((fr.get t).getD .junk).plain
  | .const v => cval v
  | .global g => .ptr ⟨g, 0, none⟩
  | .func f => .func (.func f) [] []

/-- What is read under a guard. -/
def force (g : Bool) : AV → AV
  | .lazy h x => bif !g || h then x else .junk
  | x => x

theorem force_self (g : Bool) (x : AV) : force g (.lazy g x) = x := by cases g <;> rfl

section
variable {F : Nat → Prop} {lim : Nat → Nat} {w : World} {n : Nat} {fr : Fr} {m : AMem} {ca : Act} {fl : List Nat}

theorem ev_rep (h : St F lim w n fr m ca fl) {x : Operand} (hx : opdOk x = true) : ∃ os, Rep w lim (ca.eval x) (ev fr x) os ∧ os = [] := by
  obtain ⟨os, om, ow, h⟩ := h
  refine ⟨[], ?_, rfl⟩
  cases x with
  | tmp t =>
    simp only [ev, Act.eval]
    cases hg : fr.get t with
    | none => exact .junk _
    | some x => exact (h.slots t x hg).2.plain
  | const v => exact rep_cval hx
  | global g => exact .ptr _
  | func f => exact .func _ #[] #[] [] [] rfl rfl (by simp) (by simp)

theorem force_rep {v : Value} {x : AV} (h : Rep w lim v x []) : Rep w lim v (force true x) [] := by
  cases x with
  | lazy g x =>
    cases g with
    | true => cases h with | lazyT _ _ _ h => exact h
    | false => exact .junk _
  | _ => exact h
end

/-- Types. -/
def aggT (P : Program) (t : TypeId) : Bool :=
  match P.underlying t with
  | some (.struct _) | some (.array _ _) => true
  | _ => false

def isU (P : Program) (t : TypeId) : Bool := (P.underlying t).isSome

/-- One cell against another. -/
def aeq1 (P : Program) (t : TypeId) : AV → AV → Option (Prop × Bool)
  | .int k a, .int k' b => some (k = k' ∧ P.underlying t = some (.int k), a == b)
  | .str a, .str b => some (P.underlying t = some .string, a == b)
  | .bool a, .bool b => some (P.underlying t = some .bool, a == b)
  | _, _ => none

/-- One struct of such cells against another. -/
def aeqs (P : Program) (xs ys : List AV) : List Field → Option (Prop × Bool)
  | [] => some (True, true)
  | f :: fs =>
    match aeq1 P f.type (xs.getD f.offset .junk) (ys.getD f.offset .junk), aeqs P xs ys fs with
    | some (s, b), some (s', b') => some (s ∧ f.name ≠ "_" ∧ s', b && b')
    | _, _ => none

/-- '+' and the comparisons. -/
def abin (P : Program) (op : BinOp) (t : TypeId) (x y : AV) : Option (Prop × AV) :=
  match op, x, y with
  | .add, .int k a, .int k' b => if k = k' then some (True, .int k (k.wrap (a + b))) else none
  | .sub, .int k a, .int k' b => if k = k' then some (True, .int k (k.wrap (a - b))) else none
  | .mul, .int k a, .int k' b => if k = k' then some (True, .int k (k.wrap (a * b))) else none
  | .quo, .int k a, .int k' b => if k = k' then some (b ≠ 0, .int k (k.wrap (a.tdiv b))) else none
  | .rem, .int k a, .int k' b => if k = k' then some (b ≠ 0 ∧ k.min ≤ a.tmod b ∧ a.tmod b ≤ k.max, .int k (a.tmod b)) else none
  | .and, .int k a, .int k' b => if k = k' then some (True, .int k (k.wrap (BitVec.ofInt k.bits a &&& BitVec.ofInt k.bits b).toNat)) else none
  | .or, .int k a, .int k' b => if k = k' then some (True, .int k (k.wrap (BitVec.ofInt k.bits a ||| BitVec.ofInt k.bits b).toNat)) else none
  | .xor, .int k a, .int k' b => if k = k' then some (True, .int k (k.wrap (BitVec.ofInt k.bits a ^^^ BitVec.ofInt k.bits b).toNat)) else none
  | .shl, .int k a, .int _ b => some (0 ≤ b, .int k (k.wrap (a * 2 ^ (min b.toNat k.bits))))
  | .shr, .int k a, .int _ b => some (0 ≤ b ∧ k.min ≤ a.fdiv (2 ^ (min b.toNat k.bits)) ∧ a.fdiv (2 ^ (min b.toNat k.bits)) ≤ k.max, .int k (a.fdiv (2 ^ (min b.toNat k.bits))))
  | .eql, .int k a, .int k' b => if k = k' then some (True, .bool (a == b)) else none
  | .neq, .int k a, .int k' b => if k = k' then some (True, .bool (!(a == b))) else none
  | .lss, .int k a, .int k' b => if k = k' then some (True, .bool (decide (a < b))) else none
  | .leq, .int k a, .int k' b => if k = k' then some (True, .bool (decide (a ≤ b))) else none
  | .gtr, .int k a, .int k' b => if k = k' then some (True, .bool (decide (b < a))) else none
  | .geq, .int k a, .int k' b => if k = k' then some (True, .bool (decide (b ≤ a))) else none
  | .add, .str a, .str b => some (a.length + b.length ≤ 140737488355328, .str (a ++ b))
  | .eql, .str a, .str b => some (True, .bool (a == b))
  | .neq, .str a, .str b => some (True, .bool (!(a == b)))
  | .lss, .str a, .str b => some (True, .bool (Op.bytesLess a b))
  | .leq, .str a, .str b => some (True, .bool (Op.bytesLess a b || a == b))
  | .gtr, .str a, .str b => some (True, .bool (!(Op.bytesLess a b || a == b)))
  | .geq, .str a, .str b => some (True, .bool (!(Op.bytesLess a b)))
  | .eql, .bool a, .bool b => some (P.underlying t = some .bool, .bool (a == b))
  | .neq, .bool a, .bool b => some (P.underlying t = some .bool, .bool (!(a == b)))
  | .eql, .nilIface, .iface _ _ | .eql, .iface _ _, .nilIface => some ((match P.underlying t with | some (.interface _) => true | _ => false) = true, .bool false)
  | .neq, .nilIface, .iface _ _ | .neq, .iface _ _, .nilIface => some ((match P.underlying t with | some (.interface _) => true | _ => false) = true, .bool true)
  | .eql, .iface u (.int k a), .iface u' (.int k' b) => some ((match P.underlying t with | some (.interface _) => true | _ => false) = true ∧ k = k' ∧ P.underlying u = some (.int k) ∧ (P.info? u).map (·.comparable) = some true, .bool (u == u' && a == b))
  | .neq, .iface u (.int k a), .iface u' (.int k' b) => some ((match P.underlying t with | some (.interface _) => true | _ => false) = true ∧ k = k' ∧ P.underlying u = some (.int k) ∧ (P.info? u).map (·.comparable) = some true, .bool (!(u == u' && a == b)))
  | .eql, .ptr _, .nilptr | .eql, .nilptr, .ptr _ | .eql, .ref _, .nilptr | .eql, .nilptr, .ref _ => some ((match P.underlying t with | some (.pointer _) => true | _ => false) = true, .bool false)
  | .neq, .ptr _, .nilptr | .neq, .nilptr, .ptr _ | .neq, .ref _, .nilptr | .neq, .nilptr, .ref _ => some ((match P.underlying t with | some (.pointer _) => true | _ => false) = true, .bool true)
  | .eql, .nilptr, .nilptr => some ((match P.underlying t with | some (.pointer _) => true | _ => false) = true, .bool true)
  | .neq, .nilptr, .nilptr => some ((match P.underlying t with | some (.pointer _) => true | _ => false) = true, .bool false)
  | .eql, .agg xs, .agg ys =>
    match P.underlying t with
    | some (.struct fs) => (aeqs P xs ys fs.toList).map fun p => (P.stoodInHeld t = false ∧ P.eqGuardType P.depth t = false ∧ p.1, .bool p.2)
    | _ => none
  | .neq, .agg xs, .agg ys =>
    match P.underlying t with
    | some (.struct fs) => (aeqs P xs ys fs.toList).map fun p => (P.stoodInHeld t = false ∧ P.eqGuardType P.depth t = false ∧ p.1, .bool (!p.2))
    | _ => none
  | _, _, _ => none

/-- A nil interface against the literal nil. -/
def anil (P : Program) (op : BinOp) (t : TypeId) (x y : Operand) (a b : AV) : Option (Prop × AV) :=
  match op, a, b with
  | .eql, .nilIface, .nilIface => some ((match P.underlying t with | some (.interface _) => true | _ => false) = true ∧ ((x matches .const _) || (y matches .const _)) = true, .bool true)
  | .neq, .nilIface, .nilIface => some ((match P.underlying t with | some (.interface _) => true | _ => false) = true ∧ ((x matches .const _) || (y matches .const _)) = true, .bool false)
  | .eql, .err _ e, .nilIface => some ((match P.underlying t with | some (.interface _) => true | _ => false) = true ∧ ((x matches .const _) || (y matches .const _)) = true, .bool (e == 0))
  | .neq, .err _ e, .nilIface => some ((match P.underlying t with | some (.interface _) => true | _ => false) = true ∧ ((x matches .const _) || (y matches .const _)) = true, .bool (!(e == 0)))
  | .eql, .opt b, .nilIface => some ((match P.underlying t with | some (.interface _) => true | _ => false) = true ∧ ((x matches .const _) || (y matches .const _)) = true, .bool (!b))
  | .neq, .opt b, .nilIface => some ((match P.underlying t with | some (.interface _) => true | _ => false) = true ∧ ((x matches .const _) || (y matches .const _)) = true, .bool b)
  | .eql, .err t' e, .iface u (.int k c) => some ((match P.underlying t with | some (.interface _) => true | _ => false) = true ∧ .i64 = k ∧ P.underlying t' = some (.int .i64) ∧ (P.info? t').map (·.comparable) = some true ∧ t' = u ∧ c ≠ 0, .bool (e == c))
  | .neq, .err t' e, .iface u (.int k c) => some ((match P.underlying t with | some (.interface _) => true | _ => false) = true ∧ .i64 = k ∧ P.underlying t' = some (.int .i64) ∧ (P.info? t').map (·.comparable) = some true ∧ t' = u ∧ c ≠ 0, .bool (!(e == c)))
  | _, _, _ => abin P op t a b

/-- A part of a struct's cells. -/
def apart (P : Program) (t : TypeId) (l : List AV) (off : Nat) : AV :=
  if aggT P t then .agg ((l.drop off).take (P.cellsOf t)) else l.getD off .junk

def apartOk (P : Program) (t : TypeId) (l : List AV) (off : Nat) : Prop :=
  isU P t = true ∧ (if aggT P t then off + P.cellsOf t ≤ l.length else off < l.length)

def asn (low : Option AV) (d : Nat) : Option Int :=
  match low with
  | none => some d
  | some (.int _ n) => some n
  | _ => none

/-- A byte's abstract value, and back. -/
def byteAV (c : UInt8) : AV := .int .u8 c.toNat
def byteOf : AV → UInt8
  | .int _ n => UInt8.ofNat n.toNat
  | _ => 0
theorem byteOf_byteAV (c : UInt8) : byteOf (byteAV c) = c := by simp [byteOf, byteAV]
theorem map_byteOf (l : List UInt8) : (l.map byteAV).map byteOf = l := by
  rw [List.map_map]
  have : byteOf ∘ byteAV = id := by funext c; exact byteOf_byteAV c
  rw [this, List.map_id]

/-- 'lazy' taken off where it is sure. -/
def un : AV → AV
  | .lazy true x => x
  | x => x

/-- What an operation that only reads comes to. 'a': what its operands read as. -/
def qv (P : Program) (m : AMem) (a : Operand → AV) : Op → Option (Prop × AV)
  | .move x | .assign x => some (True, a x)
  | .pick c x y =>
    match un (a c), a x, a y with
    | .bool b, .bool p, .bool q => some (True, .bool (if b then p else q))
    | .bool b, .lazy g (.bool p), .bool q => some (b = true → g = true, .bool (if b then p else q))
    | .bool b, .bool p, .lazy g (.bool q) => some (b = false → g = true, .bool (if b then p else q))
    | .bool b, .lazy g (.bool p), .lazy h (.bool q) => some ((b = true → g = true) ∧ (b = false → h = true), .bool (if b then p else q))
    | _, _, _ => none
  | .load t x =>
    match a x with
    | .ref l => some (apartOk P t l 0, apart P t l 0)
    | .ptr ⟨b, off, none⟩ =>
      match m b with
      | some (.cells l) => some (apartOk P t l off, (apart P t l off).plain)
      | _ => none
    | _ => none
  | .nilCheck x =>
    match a x with
    | .ref l => some (True, .ref l)
    | .ptr p => some (True, .ptr p)
    | .func (.func f) b c => some (True, .func (.func f) b c)
    | _ => none
  | .binOp op t x y _ => anil P op t x y (a x) (a y)
  | .unOp op _ x =>
    match op, a x with
    | .not, .bool b => some (True, .bool (!b))
    | .neg, .int k n => some (True, .int k (k.wrap (0 - n)))
    | _, _ => none
  | .convert s d x =>
    match P.underlying d, a x with
    | some (.int k), .int _ n => some (isU P s = true, .int k (k.wrap n))
    | some .string, .str l => some (isU P s = true, .str l)
    | some .string, .slice _ l => some (∃ e, P.underlying s = some (.slice e) ∧ P.underlying e = some (.int .u8) ∧ ∀ x ∈ l, ∃ k : Int, x = .int .u8 k, .str (l.map byteOf))
    | _, _ => none
  | .makeInterface t x =>
    match P.underlying t with
    | some (.interface _) => none
    | some _ => some (True, .iface t (a x))
    | none => none
  | .fieldAddr s x f =>
    match P.underlying s with
    | some (.struct fs) =>
      match fs[f]? with
      | some fd =>
        match a x with
        | .ref l => some (isU P fd.type = true ∧ P.cellsOf fd.type ≠ 0 ∧ fd.offset < l.length, .ref (l.drop fd.offset))
        | .ptr ⟨b, off, none⟩ => some (isU P fd.type = true ∧ P.cellsOf fd.type ≠ 0, .ptr ⟨b, off + fd.offset, none⟩)
        | _ => none
      | none => none
    | _ => none
  | .field t x f =>
    match P.underlying t with
    | some (.struct fs) =>
      match fs[f]?, a x with
      | some fd, .agg l => some (apartOk P fd.type l fd.offset, apart P fd.type l fd.offset)
      | _, _ => none
    | _ => none
  | .indexAddr t x i =>
    match P.underlying t with
    | some (.slice e) =>
      match a x, a i with
      | .slice _ l, .int _ k => some (isU P e = true ∧ P.cellsOf e ≠ 0 ∧ 0 ≤ k ∧ k < l.length ∧ (l.getD k.toNat .junk).cells.length = P.cellsOf e, .ref (l.getD k.toNat .junk).cells)
      | .ms ⟨b, off, none⟩ len _, .int _ k => some (isU P e = true ∧ 0 ≤ k ∧ k < len, .ptr ⟨b, off + k.toNat * P.cellsOf e, none⟩)
      | _, _ => none
    | _ => none
  | .index t x i =>
    match P.underlying t, a x, a i with
    | some .string, .str l, .int _ k => some (0 ≤ k ∧ k < l.length, .int .u8 (l.getD k.toNat 0).toNat)
    | _, _, _ => none
  | .extract x i =>
    match a x with
    | .tuple l => some (i < l.length, l.getD i .junk)
    | _ => none
  | .slice t x lo hi none =>
    match P.underlying t, a x with
    | some .string, .str l =>
      match asn (lo.map a) 0, asn (hi.map a) l.length with
      | some p, some q => some (0 ≤ p ∧ p ≤ q ∧ q ≤ l.length, .str ((l.drop p.toNat).take (q - p).toNat))
      | _, _ => none
    | some (.slice e), .slice _ l =>
      match asn (lo.map a) 0, asn (hi.map a) l.length with
      | some p, some q => some (isU P e = true ∧ 0 ≤ p ∧ p ≤ q ∧ q ≤ l.length ∧ ∀ x ∈ l, x.cells.length = P.cellsOf e, .slice false ((l.drop p.toNat).take (q - p).toNat))
      | _, _ => none
    | some (.slice e), .ms ⟨b, off, none⟩ len cap =>
      match asn (lo.map a) 0, asn (hi.map a) len with
      | some p, some q => some (isU P e = true ∧ 0 ≤ p ∧ p ≤ q ∧ q ≤ len ∧ p < cap, .ms ⟨b, off + p.toNat * P.cellsOf e, none⟩ (q - p).toNat (cap - p.toNat))
      | _, _ => none
    | _, _ => none
  | .typeAssert x _ t true =>
    match P.underlying t, a x with
    | some (.interface _), _ => none
    | some _, .iface u v => if u = t then some (True, .tuple [v, .bool true]) else none
    | some _, .err u e => if u = t then some ((P.info? t).bind (·.zero) = some (.int .i64 0), .tuple [.int .i64 e, .bool (!(e == 0))]) else none
    | _, _ => none
  | .call ⟨.builtin .len, args, ts⟩ =>
    match args[0]?, ts[0]? with
    | some x, some t =>
      match P.underlying t, a x with
      | some .string, .str l => some (True, .int .i64 l.length)
      | some (.slice _), .slice _ l => some (True, .int .i64 l.length)
      | some (.slice _), .ms _ n _ => some (n ≤ 9223372036854775807, .int .i64 n)
      | some (.map _ _), .nilmap => some (True, .int .i64 0)
      | some (.map _ _), .map b =>
        match m b with
        | some (.map l) => some (True, .int .i64 l.length)
        | _ => none
      | _, _ => none
    | _, _ => none
  | .call ⟨.builtin .max, args, _⟩ =>
    match args.toList with
    | [x, y] =>
      match a x, a y with
      | .int k p, .int k' q => if k = k' then some (True, .int k (if q > p then q else p)) else none
      | _, _ => none
    | _ => none
  | .call ⟨.builtin .min, args, _⟩ =>
    match args.toList with
    | [x, y] =>
      match a x, a y with
      | .int k p, .int k' q => if k = k' then some (True, .int k (if q < p then q else p)) else none
      | _, _ => none
    | _ => none
  | _ => none

end Go.Aw
