/-
  The abstract layer, part 8: every operation over abstract frames.
-/
import Derived.Test.YtoeghipbkmaccaaWwG
namespace Go.Aw
open Go

def rawOf (fr : Fr) (t : Nat) : AV := (fr.get t).getD .junk

/-- An operand as it stands. -/
def evR (raw : Nat → AV) : Operand → AV
  | .tmp t => raw t
  | .const v => cval v
  | .global g => .ptr ⟨g, 0, none⟩
  | .func f => .func (.func f) [] []

/-- An operand, its own places left with it. -/
def evP (raw : Nat → AV) : Operand → AV
  | .tmp t => (raw t).plain
  | .const v => cval v
  | .global g => .ptr ⟨g, 0, none⟩
  | .func f => .func (.func f) [] []

theorem evP_eq (fr : Fr) : evP (rawOf fr) = ev fr := by funext x; cases x <;> rfl

def Fr.strip (fr : Fr) : List Nat → Fr
  | [] => fr
  | s :: r => Fr.strip (fr.put s (rawOf fr s).plain) r

/-- The slot of an operand. -/
def slotOf : Operand → List Nat
  | .tmp t => [t]
  | _ => []

/-- What an operation comes to: 'val side ss m' x': where 'side' holds, it yields x, what the slots ss own is taken, and memory is m' then. 'new': the same, with a new block. -/
inductive ARes where
  | stuck
  | val (side : Prop) (ss : List Nat) (m : AMem) (x : AV)
  | eff (side : Prop) (ss : List Nat) (m : AMem)
  | new (side : Prop) (ss : List Nat) (mk : Nat → AV) (o : AObj)
  | call (f : FuncId) (args : List AV)

/-- Parts laid into cells. -/
def fillA (place : Nat → Option (Nat × Nat)) (cells : List AV) : List (Nat × AV) → Option (List AV)
  | [] => some cells
  | (i, x) :: r =>
    match place i with
    | none => none
    | some (off, size) => if x.cells.length = size ∧ off + size ≤ cells.length then fillA place (cells.take off ++ x.cells ++ cells.drop (off + size)) r else none

/-- The value with which a variable of a type begins. -/
def zeroA (P : Program) (t : TypeId) : Option AV :=
  match (P.info? t).bind (·.zero) with
  | some z => if cok z then some (cval z) else none
  | none => none

def zOk (P : Program) (t : TypeId) : Bool :=
  match zeroA P t with
  | some z => z.cells.length == P.cellsOf t
  | none => false

/-- Surely its own cells are what it is (not 'junk', 'lazy', a tuple). -/
def AV.topOk : AV → Bool
  | .junk | .lazy _ _ | .tuple _ => false
  | _ => true

/-- Surely one cell. -/
def AV.one : AV → Bool
  | .junk | .lazy _ _ | .tuple _ | .agg _ => false
  | _ => true

def keyOk : AV → Bool
  | .int _ _ | .str _ | .bool _ => true
  | _ => false

def keyEq : AV → AV → Bool
  | .int _ a, .int _ b => a == b
  | .str a, .str b => a == b
  | .bool a, .bool b => a == b
  | _, _ => false

def ares (P : Program) (m : AMem) (raw : Nat → AV) (st : List Nat) (d : Option Nat) (op : Op) : ARes :=
  match op with
  | .assign (.tmp s) => .val True [s] m (raw s)
  | .move (.tmp s) => if (d.map st.contains).getD false then .val True [s] m (raw s) else .val True [] m (raw s).plain
  | .extract (.tmp s) i =>
    match raw s with
    | .tuple l => if (d.map st.contains).getD false then .val (i < l.length) [s] m (l.getD i .junk) else .val (i < l.length) [] m (l.getD i .junk).plain
    | _ => .stuck
  | .load t x =>
    if (d.map st.contains).getD false then
      match evP raw x with
      | .ptr ⟨b, off, none⟩ =>
        match m b with
        | some (.cells l) => .val (isU P t = true ∧ aggT P t = false ∧ off < l.length) [] (m.upd b (some (.cells (l.set off (l.getD off .junk).plain)))) (l.getD off .junk)
        | _ => .stuck
      | _ => .stuck
    else
      match qv P m (evP raw) (.load t x) with
      | some (side, v) => .val side [] m v
      | none => .stuck
  | .store t a x =>
    match evP raw a with
    | .ptr ⟨b, off, none⟩ =>
      match m b with
      | some (.cells l) => .eff ((evR raw x).topOk = true ∧ ((evR raw x).cells.all AV.one) = true ∧ (evR raw x).cells.length = P.cellsOf t ∧ isU P t = true ∧ off + P.cellsOf t ≤ l.length) (slotOf x) (m.upd b (some (.cells (l.take off ++ (evR raw x).cells ++ l.drop (off + P.cellsOf t)))))
      | _ => .stuck
    | _ => .stuck
  | .box _ x => .new ((evP raw x).topOk = true) [] (fun b => .ptr ⟨b, 0, none⟩) (.cells (evP raw x).cells)
  | .alloc t =>
    match zeroA P t with
    | some z => .new (z.topOk = true) [] (fun b => .ptr ⟨b, 0, none⟩) (.cells z.cells)
    | none => .stuck
  | .makeSlice t n c =>
    match P.underlying t, evP raw n, evP raw c with
    | some (.slice e), .int .i64 k, .int .i64 k' =>
      match zeroA P e with
      | some z => .new (z.topOk = true ∧ isU P e = true ∧ z.cells.length = P.cellsOf e ∧ 0 < P.cellsOf e ∧ k = k' ∧ 0 ≤ k ∧ k * P.bytesOf e ≤ 140737488355328 ∧ k ≤ 140737488355328) [] (fun b => .ms ⟨b, 0, none⟩ k.toNat k.toNat) (.cells (List.replicate k.toNat z.cells).flatten)
      | none => .stuck
    | _, _, _ => .stuck
  | .makeMap t r =>
    match P.underlying t, r.map (evP raw) with
    | some (.map _ _), none => .new True [] (fun b => .map b) (.map [])
    | some (.map _ _), some (.int _ _) => .new True [] (fun b => .map b) (.map [])
    | _, _ => .stuck
  | .build t parts =>
    if (d.map st.contains).getD false then .stuck else
    match P.underlying t, zeroA P t with
    | some (.struct fs), some z =>
      match fillA (fun i => (fs[i]?).map fun f => (f.offset, P.cellsOf f.type)) z.cells (parts.toList.map fun p => (p.1, evP raw p.2)) with
      | some cells => .val (z.topOk = true ∧ (∀ f ∈ fs.toList, isU P f.type = true) ∧ ∀ p ∈ parts.toList, (evP raw p.2).topOk = true) [] m (.agg cells)
      | none => .stuck
    | _, _ => .stuck
  | .buildSlice t len parts =>
    if (d.map st.contains).getD false then .stuck else
    match P.underlying t with
    | some (.slice e) =>
      .val (isU P e = true ∧ 0 < P.cellsOf e ∧ zOk P e = true ∧ len * P.cellsOf e ≤ 16777216 ∧ parts.toList.map (·.1) = List.range len ∧ ∀ p ∈ parts.toList, (evP raw p.2).topOk = true ∧ (evP raw p.2).cells.length = P.cellsOf e) [] m
        (.slice true (parts.toList.map fun p => evP raw p.2))
    | _ => .stuck
  | .call ⟨.builtin .append, args, ts⟩ =>
    match args.toList, ts.toList with
    | [.tmp s, y], [t, u] =>
      match P.underlying t, P.underlying u, raw s, evP raw y with
      | some (.slice e), some (.slice _), .slice true l, .slice _ l' =>
        .val (t = u ∧ isU P e = true ∧ 0 < P.cellsOf e ∧ zOk P e = true ∧ (l.length + l'.length) * P.bytesOf e ≤ 140737488355328 ∧ l.length + l'.length ≤ 140737488355328 ∧ (∀ x ∈ l, x.cells.length = P.cellsOf e) ∧ ∀ x ∈ l', x.cells.length = P.cellsOf e ∧ x.cells.all AV.one = true) [s] m
          (.slice true (l ++ l'))
      | _, _, _, _ => .stuck
    | [.const (.slice none 0 0), y], [t, u] =>
      match P.underlying t, P.underlying u, evP raw y with
      | some (.slice e), some (.slice _), .slice _ l' =>
        .val (t = u ∧ isU P e = true ∧ 0 < P.cellsOf e ∧ zOk P e = true ∧ l'.length * P.bytesOf e ≤ 140737488355328 ∧ ∀ x ∈ l', x.cells.length = P.cellsOf e ∧ x.cells.all AV.one = true) [] m
          (.slice true l')
      | _, _, _ => .stuck
    | _, _ => .stuck
  | .call ⟨.value (.func f), args, _⟩ => .call f (args.toList.map (evP raw))
  | .call ⟨.value (.tmp t), args, _⟩ =>
    match raw t with
    | .func (.func f) first caps => .call f (first ++ args.toList.map (evP raw) ++ caps)
    | _ => .stuck
  | op =>
    match qv P m (evP raw) op with
    | some (side, x) => .val side [] m x
    | none => .stuck

def PureCall (P : Program) (f : FuncId) (args : List AV) (m : AMem) (x : AV) : Prop := ∀ K : AV → AMem → Prop, K x m → ACalls P f args m K

/-- The rest, behind a call. -/
def Kont (K : Fr → AMem → Prop) (d : Option Nat) (fr : Fr) : AV → AMem → Prop := fun x m =>
  match d with
  | some d => K (fr.put d x) m
  | none => K fr m

def putO (fr : Fr) (d : Option Nat) (x : AV) : Fr :=
  match d with
  | some d => fr.put d x
  | none => fr

def forceG (g : Bool) : AV → AV
  | .lazy h x => .lazy (!g || h) x
  | x => x

def isPick : Op → Bool
  | .pick _ _ _ => true
  | _ => false

def gev (raw : Nat → AV) (g : Bool) (op : Op) (y : Operand) : AV := if isPick op then forceG g (evP raw y) else un (forceG g (evP raw y))

/-- Is the guard met? -/
def guardVal : AV → Bool → Option Bool
  | .bool c, true => some c
  | .bool c, false => some (!c)
  | .lazy h (.bool c), true => some (h && c)
  | .lazy h (.bool c), false => some (h && !c)
  | _, _ => none

def aop (P : Program) (ops : Array Oper) (st : List Nat) (o : Oper) (K : Fr → AMem → Prop) (fr : Fr) (m : AMem) : Prop :=
  match o.guard with
  | none =>
    match ares P m (rawOf fr) st o.dst o.op with
    | .val side ss m' x => side ∧ K (putO (fr.strip ss) o.dst x) m'
    | .eff side ss m' => side ∧ K (putO (fr.strip ss) o.dst .junk) m'
    | .new side ss mk ob => side ∧ ∀ b, m b = none → K (putO (fr.strip ss) o.dst (mk b)) (m.upd b (some ob))
    | .call f args => ACalls P f args m (Kont K o.dst fr)
    | .stuck => False
  | some (j, b) =>
    match (ops[j]?).bind (·.dst), o.dst with
    | some g, some d =>
      match guardVal (rawOf fr g) b with
      | some z =>
        match o.op with
        | .call ⟨.value (.func f), args, _⟩ =>
          ∃ x, (z = true → PureCall P f (args.toList.map (gev (rawOf fr) z o.op)) m x) ∧ K (fr.put d (.lazy z x.plain)) m
        | .call ⟨.value (.tmp t), args, _⟩ =>
          match gev (rawOf fr) z o.op (.tmp t) with
          | .func (.func f) first caps => ∃ x, (z = true → PureCall P f (first ++ args.toList.map (gev (rawOf fr) z o.op) ++ caps) m x) ∧ K (fr.put d (.lazy z x.plain)) m
          | _ => False
        | op =>
          match qv P m (gev (rawOf fr) z op) op with
          | some (side, x) => (z = true → side) ∧ K (fr.put d (.lazy z x)) m
          | none => False
      | none => False
    | _, _ => False

def aops (P : Program) (ops : Array Oper) (st : List Nat) : List Oper → (Fr → AMem → Prop) → Fr → AMem → Prop
  | [], K => K
  | o :: r, K => aop P ops st o (aops P ops st r K)

end Go.Aw
