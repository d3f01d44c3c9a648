/-
  The abstract layer, part 1: abstract values (trees), how a Go value in a world reads as one, and what keeps that reading. No program in sight.
-/
import Derived.WalkKit
section
namespace Go.Aw
open Go
inductive AV where
  | bool (b : Bool)
  | int (k : IntKind) (n : Int)
  | str (s : List UInt8)
  | ptr (a : Addr)
  | nilptr
  | ref (l : List AV)
  | slice (own : Bool) (l : List AV)
  | ms (a : Addr) (len cap : Nat)
  | map (b : Nat)
  | nilmap
  | func (fn : Fn) (first captured : List AV)
  | nilfunc
  | nils
  | iface (t : TypeId) (v : AV)
  | nilIface
  | err (t : TypeId) (e : Int)
  | opt (b : Bool)
  | agg (l : List AV)
  | tuple (l : List AV)
  | lazy (g : Bool) (v : AV)
  | junk
instance : Inhabited AV := ⟨.junk⟩
def AV.cells : AV → List AV
  | .agg l => l
  | x => [x]
mutual
def AV.plain : AV → AV
  | .slice _ l => .slice false l
  | .agg l => .agg (AV.plainL l)
  | .tuple l => .tuple (AV.plainL l)
  | .lazy g x => .lazy g x.plain
  | .bool b => .bool b
  | .int k n => .int k n
  | .str s => .str s
  | .ptr a => .ptr a
  | .nilptr => .nilptr
  | .ref l => .ref l
  | .ms a n c => .ms a n c
  | .map b => .map b
  | .nilmap => .nilmap
  | .func f a b => .func f a b
  | .nilfunc => .nilfunc
  | .nils => .nils
  | .iface t v => .iface t v
  | .nilIface => .nilIface
  | .err t e => .err t e
  | .opt b => .opt b
  | .junk => .junk
def AV.plainL : List AV → List AV
  | [] => []
  | x :: r => x.plain :: AV.plainL r
end
theorem AV.plainL_eq (l : List AV) : AV.plainL l = l.map AV.plain := by
  induction l with
  | nil => rfl
  | cons x r ih => simp [AV.plainL, ih]
theorem getD_map_plain (l : List AV) (i : Nat) : (AV.plainL l).getD i .junk = (l.getD i .junk).plain := by
  rw [AV.plainL_eq]
  simp only [List.getD_eq_getElem?_getD, List.getElem?_map]
  cases l[i]? <;> simp [AV.plain]
theorem AV.plain_cells (x : AV) : x.plain.cells = AV.plainL x.cells := by
  cases x <;> simp [AV.plain, AV.cells, AV.plainL]
inductive Rep (w : World) (lim : Nat → Nat) : Value → AV → List Nat → Prop
  | bool (b : Bool) : Rep w lim (.bool b) (.bool b) []
  | int (k : IntKind) (n : Int) (lo : k.min ≤ n) (hi : n ≤ k.max) : Rep w lim (.int k n) (.int k n) []
  | str (s : ByteArray) (h : s.size ≤ 140737488355328) : Rep w lim (.string s) (.str s.data.toList) []
  | ptr (a : Addr) : Rep w lim (.pointer (some a)) (.ptr a) []
  | nilptr : Rep w lim (.pointer none) .nilptr []
  | ref (b off : Nat) (l : List AV) (cv : Nat → Value) (hl : off + l.length ≤ lim b) (hc : ∀ i, i < l.length → w.cell? ⟨b, off + i, none⟩ = some (cv i))
      (hr : ∀ i, i < l.length → Rep w lim (cv i) (l.getD i .junk) []) : Rep w lim (.pointer (some ⟨b, off, none⟩)) (.ref l) []
  | nils (own : Bool) : Rep w lim (.slice none 0 0) (.slice own []) []
  | empty (a : Addr) (cap : Nat) (hm : cap ≤ maxLen) : Rep w lim (.slice (some a) 0 cap) (.slice false []) []
  | slice (b off n cap sz : Nat) (l : List AV) (cv : Nat → Nat → Value) (hn : l.length = n) (hcap : n ≤ cap) (hm : cap ≤ maxLen) (hbig : n ≤ 140737488355328)
      (hsz : ∀ i, i < n → (l.getD i .junk).cells.length = sz) (hlim : off + n * sz ≤ lim b)
      (hc : ∀ i j, i < n → j < sz → w.cell? ⟨b, off + i * sz + j, none⟩ = some (cv i j))
      (hr : ∀ i j, i < n → j < sz → Rep w lim (cv i j) ((l.getD i .junk).cells.getD j .junk) []) : Rep w lim (.slice (some ⟨b, off, none⟩) n cap) (.slice false l) []
  | own (b n cap sz : Nat) (l : List AV) (cv : Nat → Nat → Value) (cur : Array Value) (e : TypeId) (hn : l.length = n) (hcap : n ≤ cap) (hm : cap ≤ maxLen) (hbig : n ≤ 140737488355328)
      (h0 : 0 < n ∨ cap = 0) (hb : w.heap[b]? = some (.cells cur e (0, 0))) (hcur : cur.size = cap * sz)
      (hsz : ∀ i, i < n → (l.getD i .junk).cells.length = sz) (hlim : n * sz = lim b)
      (hc : ∀ i j, i < n → j < sz → w.cell? ⟨b, i * sz + j, none⟩ = some (cv i j))
      (hr : ∀ i j, i < n → j < sz → Rep w lim (cv i j) ((l.getD i .junk).cells.getD j .junk) []) : Rep w lim (.slice (some ⟨b, 0, none⟩) n cap) (.slice true l) [b]
  | ms (a : Addr) (len cap : Nat) (h : len ≤ cap) (hm : cap ≤ maxLen) : Rep w lim (.slice (some a) len cap) (.ms a len cap) []
  | map (b : Nat) : Rep w lim (.map (some b)) (.map b) []
  | nilmap : Rep w lim (.map none) .nilmap []
  | func (fn : Fn) (f c : Array Value) (fl cl : List AV) (hf : f.size = fl.length) (hc : c.size = cl.length) (hrf : ∀ i, i < fl.length → Rep w lim (f.getD i undef) (fl.getD i .junk) [])
      (hrc : ∀ i, i < cl.length → Rep w lim (c.getD i undef) (cl.getD i .junk) []) : Rep w lim (.func fn f c) (.func fn fl cl) []
  | nilfunc : Rep w lim .nilFunc .nilfunc []
  | nilS (a : Option Addr) : Rep w lim (.slice a 0 0) .nils []
  | iface (t : TypeId) (v : Value) (x : AV) (h : Rep w lim v x []) : Rep w lim (.iface t v) (.iface t x) []
  | nilIface : Rep w lim .nilIface .nilIface []
  | errN (t : TypeId) : Rep w lim .nilIface (.err t 0) []
  | errS (t : TypeId) (e : Int) (h : e ≠ 0) (lo : IntKind.i64.min ≤ e) (hi : e ≤ IntKind.i64.max) : Rep w lim (.iface t (.int .i64 e)) (.err t e) []
  | optN : Rep w lim .nilIface (.opt false) []
  | optS (t : TypeId) (v : Value) : Rep w lim (.iface t v) (.opt true) []
  | agg (cs : Array Value) (xs : List AV) (os : Nat → List Nat) (h : cs.size = xs.length) (hr : ∀ i, i < xs.length → Rep w lim (cs.getD i undef) (xs.getD i .junk) (os i)) :
      Rep w lim (.agg cs) (.agg xs) ((List.range xs.length).flatMap os)
  | tuple (cs : Array Value) (xs : List AV) (os : Nat → List Nat) (h : cs.size = xs.length) (hr : ∀ i, i < xs.length → Rep w lim (cs.getD i undef) (xs.getD i .junk) (os i)) :
      Rep w lim (.tuple cs) (.tuple xs) ((List.range xs.length).flatMap os)
  | lazyT (v : Value) (x : AV) (os : List Nat) (h : Rep w lim v x os) : Rep w lim v (.lazy true x) os
  | lazyF (x : AV) : Rep w lim undef (.lazy false x) []
  | junk (v : Value) : Rep w lim v .junk []
section
variable {w w' : World} {lim lim' : Nat → Nat} {v : Value} {x : AV} {os : List Nat}
theorem Rep.stable (h : Rep w lim v x os) (hl : ∀ b, lim b ≤ lim' b) (hc : ∀ b o, o < lim b → w'.cell? ⟨b, o, none⟩ = w.cell? ⟨b, o, none⟩)
    (ho : ∀ c ∈ os, w'.heap[c]? = w.heap[c]? ∧ lim' c = lim c) : Rep w' lim' v x os := by
  induction h with
  | bool b => exact .bool b
  | int k n lo hi => exact .int k n lo hi
  | str s h => exact .str s h
  | ptr a => exact .ptr a
  | nilptr => exact .nilptr
  | ref b off l cv hl' hc' hr ih =>
    exact .ref b off l cv (Nat.le_trans hl' (hl b)) (fun i hi => by rw [hc b (off + i) (by omega)]; exact hc' i hi) (fun i hi => ih i hi (by simp))
  | nils own => exact .nils own
  | empty a cap hm => exact .empty a cap hm
  | slice b off n cap sz l cv hn hcap hm hbig hsz hlim hc' hr ih =>
    refine .slice b off n cap sz l cv hn hcap hm hbig hsz (Nat.le_trans hlim (hl b)) (fun i j hi hj => ?_) (fun i j hi hj => ih i j hi hj (by simp))
    rw [hc b _ ?_]
    · exact hc' i j hi hj
    · have : i * sz + sz ≤ n * sz := by rw [← Nat.succ_mul]; exact Nat.mul_le_mul_right _ hi
      omega
  | own b n cap sz l cv cur e hn hcap hm hbig h0 hb hcur hsz hlim hc' hr ih =>
    have hob := ho b (by simp)
    refine .own b n cap sz l cv cur e hn hcap hm hbig h0 (hob.1.trans hb) hcur hsz (hlim.trans hob.2.symm) (fun i j hi hj => ?_) (fun i j hi hj => ih i j hi hj (by simp))
    rw [hc b _ ?_]
    · exact hc' i j hi hj
    · have : i * sz + sz ≤ n * sz := by rw [← Nat.succ_mul]; exact Nat.mul_le_mul_right _ hi
      omega
  | ms a len cap h hm => exact .ms a len cap h hm
  | map b => exact .map b
  | nilmap => exact .nilmap
  | func fn f c fl cl hf hc' hrf hrc ihf ihc => exact .func fn f c fl cl hf hc' (fun i hi => ihf i hi (by simp)) (fun i hi => ihc i hi (by simp))
  | nilfunc => exact .nilfunc
  | nilS a => exact .nilS a
  | iface t v x h ih => exact .iface t v x (ih (by simp))
  | nilIface => exact .nilIface
  | errN t => exact .errN t
  | errS t e h lo hi => exact .errS t e h lo hi
  | optN => exact .optN
  | optS t v => exact .optS t v
  | agg cs xs os h hr ih => exact .agg cs xs os h (fun i hi => ih i hi (fun c hc => ho c (List.mem_flatMap.2 ⟨i, by simpa using hi, hc⟩)))
  | tuple cs xs os h hr ih => exact .tuple cs xs os h (fun i hi => ih i hi (fun c hc => ho c (List.mem_flatMap.2 ⟨i, by simpa using hi, hc⟩)))
  | lazyT v x os h ih => exact .lazyT v x os (ih ho)
  | lazyF x => exact .lazyF x
  | junk v => exact .junk v
theorem flatMap_nil (n : Nat) : (List.range n).flatMap (fun _ => ([] : List Nat)) = [] := by
  induction n <;> simp_all
theorem Rep.plain (h : Rep w lim v x os) : Rep w lim v x.plain [] := by
  induction h with
  | bool b => exact .bool b
  | int k n lo hi => exact .int k n lo hi
  | str s h => exact .str s h
  | ptr a => exact .ptr a
  | nilptr => exact .nilptr
  | ref b off l cv hl hc hr ih => exact .ref b off l cv hl hc hr
  | nils own => exact .nils false
  | empty a cap hm => exact .empty a cap hm
  | slice b off n cap sz l cv hn hcap hm hbig hsz hlim hc hr ih => exact .slice b off n cap sz l cv hn hcap hm hbig hsz hlim hc hr
  | own b n cap sz l cv cur e hn hcap hm hbig h0 hb hcur hsz hlim hc hr ih => exact .slice b 0 n cap sz l cv hn hcap hm hbig hsz (by omega) (fun i j hi hj => by simpa using hc i j hi hj) hr
  | ms a len cap h hm => exact .ms a len cap h hm
  | map b => exact .map b
  | nilmap => exact .nilmap
  | func fn f c fl cl hf hc hrf hrc ihf ihc => exact .func fn f c fl cl hf hc hrf hrc
  | nilfunc => exact .nilfunc
  | nilS a => exact .nilS a
  | iface t v x h ih => exact .iface t v x h
  | nilIface => exact .nilIface
  | errN t => exact .errN t
  | errS t e h lo hi => exact .errS t e h lo hi
  | optN => exact .optN
  | optS t v => exact .optS t v
  | agg cs xs os h hr ih =>
    have := Rep.agg (w := w) (lim := lim) cs (AV.plainL xs) (fun _ => []) (by simp [AV.plainL_eq, h]) (fun i hi => by rw [getD_map_plain]; exact ih i (by simpa [AV.plainL_eq] using hi))
    rw [flatMap_nil] at this
    exact this
  | tuple cs xs os h hr ih =>
    have := Rep.tuple (w := w) (lim := lim) cs (AV.plainL xs) (fun _ => []) (by simp [AV.plainL_eq, h]) (fun i hi => by rw [getD_map_plain]; exact ih i (by simpa [AV.plainL_eq] using hi))
    rw [flatMap_nil] at this
    exact this
  | lazyT v x os h ih => exact .lazyT v _ _ ih
  | lazyF x => exact .lazyF _
  | junk v => exact .junk v
theorem Rep.owned_lt (h : Rep w lim v x os) : ∀ c ∈ os, c < w.heap.size := by
  induction h with
  | own b n cap sz l cv cur e hn hcap hm hbig h0 hb hcur hsz hlim hc hr ih =>
    intro c hc
    simp only [List.mem_singleton] at hc
    subst hc
    exact (Array.getElem?_eq_some_iff.1 hb).1
  | agg cs xs os h hr ih =>
    intro c hc
    obtain ⟨i, hi, hc⟩ := List.mem_flatMap.1 hc
    exact ih i (by simpa using hi) c hc
  | tuple cs xs os h hr ih =>
    intro c hc
    obtain ⟨i, hi, hc⟩ := List.mem_flatMap.1 hc
    exact ih i (by simpa using hi) c hc
  | lazyT v x os h ih => exact ih
  | _ => intro c hc; cases hc
end
end Go.Aw
end
section
namespace Go.Aw
open Go
abbrev Fr := List (Nat × AV)
def Fr.get : Fr → Nat → Option AV
  | [], _ => none
  | (s, x) :: r, t => if s = t then some x else Fr.get r t
def Fr.put (fr : Fr) (t : Nat) (x : AV) : Fr := (t, x) :: fr
theorem Fr.get_put (fr : Fr) (t s : Nat) (x : AV) : (fr.put t x).get s = if t = s then some x else fr.get s := rfl
def Fr.keep (ks : List Nat) (fr : Fr) : Fr := ks.map fun t => (t, (fr.get t).getD .junk)
inductive AObj where
  | cells (l : List AV)
  | map (l : List (AV × AV))
  | iter (r : Nat) (l : List (AV × AV)) (seen : List Nat)
  | bld (e eb : TypeId) (l : List AV)
  | tab (e : TypeId) (z : Nat × Nat) (cs : Array Value)
abbrev AMem := Nat → Option AObj
def AMem.upd (m : AMem) (b : Nat) (o : Option AObj) : AMem := fun c => if c = b then o else m c
inductive Place where
  | none
  | slot (t : Nat)
  | blk (b i : Nat)
  | fly
  deriving DecidableEq
inductive MRep (w : World) (lim : Nat → Nat) (b : Nat) : AObj → (Nat → List Nat) → Prop
  | cells (cs : Array Value) (e : TypeId) (l : List AV) (os : Nat → List Nat) (hb : w.heap[b]? = some (.cells cs e (0, 0))) (hs : cs.size = l.length)
      (hr : ∀ i, i < l.length → Rep w lim (cs.getD i undef) (l.getD i .junk) (os i)) : MRep w lim b (.cells l) os
  | map (es : Array MapEntry) (clock : Nat) (l : List (AV × AV)) (hb : w.heap[b]? = some (.map es clock)) (hs : es.size = l.length) (hbig : l.length ≤ 140737488355328)
      (hk : ∀ i, i < l.length → Rep w lim (es.getD i default).key (l.getD i (.junk, .junk)).1 []) (hv : ∀ i, i < l.length → Rep w lim (es.getD i default).val (l.getD i (.junk, .junk)).2 [])
      (hborn : ∀ i j, i < j → j < l.length → (es.getD i default).born < (es.getD j default).born) (hclock : ∀ i, i < l.length → (es.getD i default).born < clock) (os : Nat → List Nat) : MRep w lim b (.map l) os
  | iter (es : Array MapEntry) (clock r : Nat) (l : List (AV × AV)) (seen : List Nat) (hb : w.heap[b]? = some (.map es clock)) (hs : es.size = l.length) (hbig : l.length ≤ 140737488355328)
      (hk : ∀ i, i < l.length → Rep w lim (es.getD i default).key (l.getD i (.junk, .junk)).1 []) (hv : ∀ i, i < l.length → Rep w lim (es.getD i default).val (l.getD i (.junk, .junk)).2 [])
      (hborn : ∀ i j, i < j → j < l.length → (es.getD i default).born < (es.getD j default).born) (hclock : ∀ i, i < l.length → (es.getD i default).born < clock)
      (hr : w.heap[r]? = some (.mapIter (some b) clock (seen.map fun i => (es.getD i default).born).toArray clock)) (hsn : ∀ i ∈ seen, i < l.length) (os : Nat → List Nat) (hos : r ∈ os 0) : MRep w lim b (.iter r l seen) os
  | bld (p v : Value) (e eb : TypeId) (l : List AV) (os : Nat → List Nat) (hb : w.heap[b]? = some (.cells #[p, v] e (0, 0))) (hp : p = .pointer none ∨ p = .pointer (some ⟨b, 0, none⟩)) (hr : Rep w lim v (.slice true l) (os 1))
      (hg : v = .slice none 0 0 ∨ ∃ g n c cur, v = .slice (some ⟨g, 0, none⟩) n c ∧ g ∈ os 1 ∧ l ≠ [] ∧ w.heap[g]? = some (.cells cur eb (0, 0))) : MRep w lim b (.bld e eb l) os
  | tab (e : TypeId) (z : Nat × Nat) (cs : Array Value) (os : Nat → List Nat) (hb : w.heap[b]? = some (.cells cs e z)) : MRep w lim b (.tab e z cs) os
structure StX (F : Nat → Prop) (lim : Nat → Nat) (w : World) (n : Nat) (fr : Fr) (m : AMem) (ca : Act) (fl : List Nat) (os : Nat → List Nat) (om : Nat → Nat → List Nat) (ow : Nat → Place) : Prop where
  size : ca.tmps.size = n
  defers : ca.defers = []
  slots : ∀ t x, fr.get t = some x → t < n ∧ Rep w lim (ca.tmps.getD t undef) x (os t)
  mem : ∀ b o, m b = some o → MRep w lim b o (om b) ∧ lim b = 0 ∧ ¬ F b
  ownS : ∀ t x, fr.get t = some x → (os t).Nodup ∧ ∀ c ∈ os t, ow c = .slot t
  ownM : ∀ b o, m b = some o → ∀ i, (om b i).Nodup ∧ ∀ c ∈ om b i, ow c = .blk b i
  ownF : fl.Nodup ∧ ∀ c ∈ fl, ow c = .fly
  free : ∀ c, ow c ≠ .none → ¬ F c ∧ m c = none ∧ c < w.heap.size
  fresh : ∀ b, w.heap.size ≤ b → lim b = 0 ∧ ¬ F b ∧ m b = none
def St (F : Nat → Prop) (lim : Nat → Nat) (w : World) (n : Nat) (fr : Fr) (m : AMem) (ca : Act) (fl : List Nat) : Prop :=
  ∃ os om ow, StX F lim w n fr m ca fl os om ow
structure Pres (F : Nat → Prop) (w : World) (lim : Nat → Nat) (w' : World) (lim' : Nat → Nat) : Prop where
  os : w'.os = w.os
  tape : w'.tape = w.tape
  output : w'.output = w.output
  size : w.heap.size ≤ w'.heap.size
  res : ∀ b, F b → w'.heap[b]? = w.heap[b]? ∧ lim' b = lim b
  mono : ∀ b, lim b ≤ lim' b
  cell : ∀ b o, o < lim b → w'.cell? ⟨b, o, none⟩ = w.cell? ⟨b, o, none⟩
theorem Pres.refl (F : Nat → Prop) (w : World) (lim : Nat → Nat) : Pres F w lim w lim := ⟨rfl, rfl, rfl, Nat.le_refl _, fun _ _ => ⟨rfl, rfl⟩, fun _ => Nat.le_refl _, fun _ _ _ => rfl⟩
theorem Pres.trans {F : Nat → Prop} {w w' w'' : World} {lim lim' lim'' : Nat → Nat} (h : Pres F w lim w' lim') (k : Pres F w' lim' w'' lim'') : Pres F w lim w'' lim'' :=
  ⟨k.os.trans h.os, k.tape.trans h.tape, k.output.trans h.output, Nat.le_trans h.size k.size,
   fun b hb => ⟨(k.res b hb).1.trans (h.res b hb).1, (k.res b hb).2.trans (h.res b hb).2⟩, fun b => Nat.le_trans (h.mono b) (k.mono b),
   fun b o ho => (k.cell b o (Nat.lt_of_lt_of_le ho (h.mono b))).trans (h.cell b o ho)⟩
theorem Pres.weaken {F F' : Nat → Prop} {w w' : World} {lim lim' : Nat → Nat} (h : Pres F' w lim w' lim') (hF : ∀ b, F b → F' b) : Pres F w lim w' lim' :=
  ⟨h.os, h.tape, h.output, h.size, fun b hb => h.res b (hF b hb), h.mono, h.cell⟩
theorem Pres.drew (F : Nat → Prop) (w : World) (lim : Nat → Nat) : Pres F w lim w.drew lim := ⟨rfl, rfl, rfl, Nat.le_refl _, fun _ _ => ⟨rfl, rfl⟩, fun _ => Nat.le_refl _, fun _ _ _ => rfl⟩
theorem heapNew (w : World) (o : Obj) : (w.alloc o).heap[w.heap.size]? = some o := by
  show (w.heap.push o)[w.heap.size]? = some o
  simp
theorem heapOld (w : World) (o : Obj) (i : Nat) (h : i < w.heap.size) : (w.alloc o).heap[i]? = w.heap[i]? := by
  show (w.heap.push o)[i]? = w.heap[i]?
  rw [Array.getElem?_push, if_neg (Nat.ne_of_lt h)]
section
variable {F : Nat → Prop} {lim lim' : Nat → Nat} {w w' : World} {n : Nat} {fr : Fr} {m : AMem} {ca : Act} {fl : List Nat}
theorem MRep.stable {b : Nat} {o : AObj} {os : Nat → List Nat} (h : MRep w lim b o os) (hb : w'.heap[b]? = w.heap[b]?) (hl : ∀ b, lim b ≤ lim' b)
    (hc : ∀ b o, o < lim b → w'.cell? ⟨b, o, none⟩ = w.cell? ⟨b, o, none⟩) (ho : ∀ i, ∀ c ∈ os i, w'.heap[c]? = w.heap[c]? ∧ lim' c = lim c) : MRep w' lim' b o os := by
  cases h with
  | cells cs e l os hb' hs hr =>
    exact .cells cs e l os (hb.trans hb') hs (fun i hi => (hr i hi).stable hl hc (ho i))
  | map es clock l hb' hs hbig hk hv h1 h2 _ =>
    exact .map es clock l (hb.trans hb') hs hbig (fun i hi => (hk i hi).stable hl hc (by simp)) (fun i hi => (hv i hi).stable hl hc (by simp)) h1 h2 os
  | iter es clock r l seen hb' hs hbig hk hv h1 h2 hr hsn _ hos =>
    exact .iter es clock r l seen (hb.trans hb') hs hbig (fun i hi => (hk i hi).stable hl hc (by simp)) (fun i hi => (hv i hi).stable hl hc (by simp)) h1 h2 ((ho 0 r hos).1.trans hr) hsn os hos
  | bld p v e eb l os hb' hp hr hg =>
    exact .bld p v e eb l os (hb.trans hb') hp (hr.stable hl hc (ho 1)) (by
      rcases hg with hg | ⟨g, n, c, cur, h1, h2, h3, h4⟩
      · exact .inl hg
      · exact .inr ⟨g, n, c, cur, h1, h2, h3, (ho 1 g h2).1.trans h4⟩)
  | tab e z cs os hb' => exact .tab e z cs _ (hb.trans hb')
theorem St.world (h : St F lim w n fr m ca fl) (hsz : w.heap.size ≤ w'.heap.size) (hl : ∀ b, lim b ≤ lim' b) (hc : ∀ b o, o < lim b → w'.cell? ⟨b, o, none⟩ = w.cell? ⟨b, o, none⟩)
    (hkeep : ∀ c, c < w.heap.size → (¬ F c ∧ m c = none → False) ∨ (w'.heap[c]? = w.heap[c]? ∧ lim' c = lim c) ) (hm : ∀ b, m b ≠ none → w'.heap[b]? = w.heap[b]? ∧ lim' b = lim b)
    (hfresh : ∀ b, w'.heap.size ≤ b → lim' b = 0) : St F lim' w' n fr m ca fl := by
  obtain ⟨os, om, ow, h⟩ := h
  have hown : ∀ c, ow c ≠ .none → w'.heap[c]? = w.heap[c]? ∧ lim' c = lim c := fun c hcn => by
    have hf := h.free c hcn
    rcases hkeep c hf.2.2 with hk | hk
    · exact (hk ⟨hf.1, hf.2.1⟩).elim
    · exact hk
  refine ⟨os, om, ow, h.size, h.defers, fun t x hx => ⟨(h.slots t x hx).1, (h.slots t x hx).2.stable hl hc (fun c hcm => hown c (by rw [(h.ownS t x hx).2 c hcm]; simp))⟩, fun b o hb => ?_, h.ownS, h.ownM, h.ownF,
    fun c hcn => ⟨(h.free c hcn).1, (h.free c hcn).2.1, Nat.lt_of_lt_of_le (h.free c hcn).2.2 hsz⟩, fun b hb => ⟨hfresh b hb, (h.fresh b (Nat.le_trans hsz hb)).2⟩⟩
  have hmb := hm b (by rw [hb]; simp)
  exact ⟨(h.mem b o hb).1.stable hmb.1 hl hc (fun i c hcm => hown c (by rw [(h.ownM b o hb i).2 c hcm]; simp)), hmb.2.trans (h.mem b o hb).2.1, (h.mem b o hb).2.2⟩
theorem St.heap (h : St F lim w n fr m ca fl) (hh : w'.heap = w.heap) : St F lim w' n fr m ca fl := by
  have hcell : ∀ b o, w'.cell? ⟨b, o, none⟩ = w.cell? ⟨b, o, none⟩ := fun b o => by simp [World.cell?, hh]
  refine h.world (by rw [hh]; exact Nat.le_refl _) (fun _ => Nat.le_refl _) (fun b o _ => hcell b o) (fun c _ => .inr ⟨by rw [hh], rfl⟩) (fun b _ => ⟨by rw [hh], rfl⟩) (fun b hb => ?_)
  obtain ⟨os, om, ow, h⟩ := h
  exact (h.fresh b (by rw [← hh]; exact hb)).1
theorem cell?_alloc_of_lt (w : World) (o : Obj) {b : Nat} (hb : b < w.heap.size) (i : Nat) : (w.alloc o).cell? ⟨b, i, none⟩ = w.cell? ⟨b, i, none⟩ :=
  World.cell?_alloc_lt w o ⟨b, i, none⟩ hb
theorem St.lt_of_lim (h : St F lim w n fr m ca fl) {b o : Nat} (ho : o < lim b) : b < w.heap.size := by
  obtain ⟨os, om, ow, h⟩ := h
  rcases Nat.lt_or_ge b w.heap.size with hb | hb
  · exact hb
  · have := (h.fresh b hb).1; omega
theorem St.lt_of_F (h : St F lim w n fr m ca fl) {b : Nat} (hb : F b) : b < w.heap.size := by
  obtain ⟨os, om, ow, h⟩ := h
  rcases Nat.lt_or_ge b w.heap.size with hb' | hb'
  · exact hb'
  · exact ((h.fresh b hb').2.1 hb).elim
theorem St.lt_of_mem (h : St F lim w n fr m ca fl) {b : Nat} (hb : m b ≠ none) : b < w.heap.size := by
  obtain ⟨os, om, ow, h⟩ := h
  rcases Nat.lt_or_ge b w.heap.size with hb' | hb'
  · exact hb'
  · exact (hb (h.fresh b hb').2.2).elim
theorem St.lim_new (h : St F lim w n fr m ca fl) : lim w.heap.size = 0 := by
  obtain ⟨os, om, ow, h⟩ := h
  exact (h.fresh _ (Nat.le_refl _)).1
theorem St.alloc (h : St F lim w n fr m ca fl) (o : Obj) (k : Nat) : St F (fun b => if b = w.heap.size then k else lim b) (w.alloc o) n fr m ca fl := by
  have hz := h.lim_new
  refine h.world (by simp) (fun b => ?_) (fun b i hi => cell?_alloc_of_lt w o (h.lt_of_lim hi) i) (fun c hc => .inr ⟨heapOld w o c hc, by rw [if_neg (by omega)]⟩)
    (fun b hb => ⟨heapOld w o b (h.lt_of_mem hb), by rw [if_neg (Nat.ne_of_lt (h.lt_of_mem hb))]⟩) (fun b hb => ?_)
  · by_cases hb : b = w.heap.size
    · subst hb; rw [hz]; exact Nat.zero_le _
    · rw [if_neg hb]; exact Nat.le_refl _
  · simp at hb
    rw [if_neg (by omega)]
    obtain ⟨os, om, ow, h⟩ := h
    exact (h.fresh b (by omega)).1
theorem Pres.alloc (h : St F lim w n fr m ca fl) (o : Obj) (k : Nat) : Pres F w lim (w.alloc o) (fun b => if b = w.heap.size then k else lim b) := by
  have hz := h.lim_new
  refine ⟨rfl, rfl, rfl, by simp, fun b hb => ⟨heapOld w o b (h.lt_of_F hb), by rw [if_neg (Nat.ne_of_lt (h.lt_of_F hb))]⟩, fun b => ?_, fun b i hi => cell?_alloc_of_lt w o (h.lt_of_lim hi) i⟩
  by_cases hb : b = w.heap.size
  · subst hb; rw [hz]; exact Nat.zero_le _
  · rw [if_neg hb]; exact Nat.le_refl _
theorem St.set (h : St F lim w n fr m ca []) {d : Nat} (hd : d < n) {v : Value} {x : AV} (hx : Rep w lim v x []) : St F lim w n (fr.put d x) m (ca.put (some d) v) [] := by
  obtain ⟨os, om, ow, h⟩ := h
  refine ⟨fun t => if t = d then [] else os t, om, ow, by simp [Act.put, h.size], h.defers, fun t y hy => ?_, h.mem, fun t y hy => ?_, h.ownM, h.ownF, h.free, h.fresh⟩
  · rw [Fr.get_put] at hy
    by_cases ht : t = d
    · subst ht
      simp only [↓reduceIte, Option.some.injEq] at hy ⊢
      subst hy
      refine ⟨hd, ?_⟩
      simpa [Act.put, Array.getD, h.size, hd] using hx
    · rw [if_neg (fun e => ht e.symm)] at hy
      rw [if_neg ht]
      refine ⟨(h.slots t y hy).1, ?_⟩
      have := (h.slots t y hy).2
      have hne : ¬ d = t := fun e => ht e.symm
      simp only [Act.put, Array.getD_eq_getD_getElem?, Array.getElem?_setIfInBounds, hne, if_false] at this ⊢
      exact this
  · rw [Fr.get_put] at hy
    by_cases ht : t = d
    · simp [ht]
    · rw [if_neg (fun e => ht e.symm)] at hy
      simp only [if_neg ht]
      exact h.ownS t y hy
theorem St.setOwn (h : St F lim w n fr m ca fl) {d : Nat} (hd : d < n) {v : Value} {x : AV} (hx : Rep w lim v x fl) : St F lim w n (fr.put d x) m (ca.put (some d) v) [] := by
  obtain ⟨os, om, ow, h⟩ := h
  refine ⟨fun t => if t = d then fl else os t, om, fun c => if ow c = .fly then .slot d else if ow c = .slot d then .none else ow c, by simp [Act.put, h.size], h.defers, fun t y hy => ?_, h.mem, fun t y hy => ?_, fun b o hb => ?_, by simp, fun c hc => ?_, h.fresh⟩
  · rw [Fr.get_put] at hy
    by_cases ht : t = d
    · subst ht
      simp only [↓reduceIte, Option.some.injEq] at hy ⊢
      subst hy
      refine ⟨hd, ?_⟩
      simpa [Act.put, Array.getD, h.size, hd] using hx
    · rw [if_neg (fun e => ht e.symm)] at hy
      rw [if_neg ht]
      refine ⟨(h.slots t y hy).1, ?_⟩
      have := (h.slots t y hy).2
      have hne : ¬ d = t := fun e => ht e.symm
      simp only [Act.put, Array.getD_eq_getD_getElem?, Array.getElem?_setIfInBounds, hne, if_false] at this ⊢
      exact this
  · rw [Fr.get_put] at hy
    by_cases ht : t = d
    · simp only [ht, ↓reduceIte]
      exact ⟨h.ownF.1, fun c hc => by simp [h.ownF.2 c hc]⟩
    · rw [if_neg (fun e => ht e.symm)] at hy
      simp only [if_neg ht]
      refine ⟨(h.ownS t y hy).1, fun c hc => ?_⟩
      simp [(h.ownS t y hy).2 c hc, ht]
  · exact fun i => ⟨(h.ownM b o hb i).1, fun c hc => by simp [(h.ownM b o hb i).2 c hc]⟩
  · by_cases h1 : ow c = .fly
    · exact h.free c (by rw [h1]; simp)
    · simp only [h1, ↓reduceIte] at hc
      by_cases h2 : ow c = .slot d
      · simp [h2] at hc
      · simp only [h2, ↓reduceIte] at hc
        exact h.free c hc
theorem St.take (h : St F lim w n fr m ca []) {s : Nat} {x : AV} (hs : fr.get s = some x) :
    ∃ os, St F lim w n (fr.put s x.plain) m ca os ∧ Rep w lim (ca.tmps.getD s undef) x os := by
  obtain ⟨os, om, ow, h⟩ := h
  refine ⟨os s, ⟨fun t => if t = s then [] else os t, om, fun c => if ow c = .slot s then .fly else if ow c = .fly then .none else ow c, h.size, h.defers, fun t y hy => ?_, h.mem, fun t y hy => ?_, fun b o hb => ?_, ?_, fun c hc => ?_, h.fresh⟩, (h.slots s x hs).2⟩
  · rw [Fr.get_put] at hy
    by_cases ht : t = s
    · subst ht
      simp only [↓reduceIte, Option.some.injEq] at hy ⊢
      subst hy
      exact ⟨(h.slots t x hs).1, (h.slots t x hs).2.plain⟩
    · rw [if_neg (fun e => ht e.symm)] at hy
      simpa [if_neg ht] using h.slots t y hy
  · rw [Fr.get_put] at hy
    by_cases ht : t = s
    · simp [ht]
    · rw [if_neg (fun e => ht e.symm)] at hy
      simp only [if_neg ht]
      refine ⟨(h.ownS t y hy).1, fun c hc => ?_⟩
      simp [(h.ownS t y hy).2 c hc, ht]
  · exact fun i => ⟨(h.ownM b o hb i).1, fun c hc => by simp [(h.ownM b o hb i).2 c hc]⟩
  · exact ⟨(h.ownS s x hs).1, fun c hc => by simp [(h.ownS s x hs).2 c hc]⟩
  · by_cases h1 : ow c = .slot s
    · exact h.free c (by rw [h1]; simp)
    · simp only [h1, ↓reduceIte] at hc
      by_cases h2 : ow c = .fly
      · simp [h2] at hc
      · simp only [h2, ↓reduceIte] at hc
        exact h.free c hc
theorem St.drop (h : St F lim w n fr m ca fl) : St F lim w n fr m ca [] := by
  obtain ⟨os, om, ow, h⟩ := h
  exact ⟨os, om, ow, h.size, h.defers, h.slots, h.mem, h.ownS, h.ownM, ⟨by simp, by simp⟩, h.free, h.fresh⟩
theorem St.sub {fr' : Fr} (h : St F lim w n fr m ca fl) (hs : ∀ t x, fr'.get t = some x → fr.get t = some x ∨ (x = .junk ∧ t < n)) : St F lim w n fr' m ca fl := by
  obtain ⟨os, om, ow, h⟩ := h
  classical
  refine ⟨fun t => if fr'.get t = fr.get t then os t else [], om, ow, h.size, h.defers, fun t x hx => ?_, h.mem, fun t x hx => ?_, h.ownM, h.ownF, h.free, h.fresh⟩
  · by_cases he : fr'.get t = fr.get t
    · simp only [he, if_true]
      exact h.slots t x (he ▸ hx)
    · simp only [if_neg he]
      rcases hs t x hx with h1 | ⟨h1, h2⟩
      · exact (he (hx.trans h1.symm)).elim
      · subst h1; exact ⟨h2, .junk _⟩
  · by_cases he : fr'.get t = fr.get t
    · simp only [he, if_true]
      exact h.ownS t x (he ▸ hx)
    · simp [if_neg he]
theorem Fr.get_keep (ks : List Nat) (fr : Fr) (t : Nat) (x : AV) (h : (Fr.keep ks fr).get t = some x) : t ∈ ks ∧ (fr.get t).getD .junk = x := by
  induction ks with
  | nil => simp [Fr.keep, Fr.get] at h
  | cons k ks ih =>
    simp only [Fr.keep, List.map_cons, Fr.get] at h
    by_cases hk : k = t
    · subst hk
      simp only [↓reduceIte, Option.some.injEq] at h
      exact ⟨by simp, h⟩
    · rw [if_neg hk] at h
      have := ih h
      exact ⟨by simp [this.1], this.2⟩
theorem St.keep (h : St F lim w n fr m ca fl) {ks : List Nat} (hk : ∀ t ∈ ks, t < n) : St F lim w n (fr.keep ks) m ca fl := by
  refine h.sub fun t x hx => ?_
  have := Fr.get_keep ks fr t x hx
  cases hg : fr.get t with
  | none => rw [hg] at this; exact .inr ⟨this.2.symm, hk t this.1⟩
  | some y => rw [hg] at this; simp at this; exact .inl (by rw [this.2])
theorem St.memSub {m' : AMem} (h : St F lim w n fr m ca fl) (hs : ∀ b o, m' b = some o → m b = some o) : St F lim w n fr m' ca fl := by
  obtain ⟨os, om, ow, h⟩ := h
  have hn : ∀ b, m b = none → m' b = none := fun b hb => by
    cases hb' : m' b with
    | none => rfl
    | some o => rw [hs b o hb'] at hb; cases hb
  exact ⟨os, om, ow, h.size, h.defers, h.slots, fun b o hb => h.mem b o (hs b o hb), h.ownS, fun b o hb => h.ownM b o (hs b o hb), h.ownF,
    fun c hc => ⟨(h.free c hc).1, hn c (h.free c hc).2.1, (h.free c hc).2.2⟩, fun b hb => ⟨(h.fresh b hb).1, (h.fresh b hb).2.1, hn b (h.fresh b hb).2.2⟩⟩
theorem St.allocMem (h : St F lim w n fr m ca fl) (cs : Array Value) (e : TypeId) (l : List AV) (hs : cs.size = l.length) (hr : ∀ i, i < l.length → Rep w lim (cs.getD i undef) (l.getD i .junk) []) :
    m w.heap.size = none ∧ St F lim (w.alloc (.cells cs e)) n fr (m.upd w.heap.size (some (.cells l))) ca fl := by
  have hz := h.lim_new
  have hA := h.alloc (.cells cs e) 0
  have hlim : (fun b => if b = w.heap.size then 0 else lim b) = lim := by funext b; by_cases hb : b = w.heap.size <;> simp [hb, hz]
  rw [hlim] at hA
  have hP := Pres.alloc h (.cells cs e) 0
  rw [hlim] at hP
  have hF : ¬ F w.heap.size := fun hf => absurd (h.lt_of_F hf) (Nat.lt_irrefl _)
  have hm : m w.heap.size = none := by
    cases hb : m w.heap.size with
    | none => rfl
    | some o => exact absurd (h.lt_of_mem (b := w.heap.size) (by rw [hb]; simp)) (Nat.lt_irrefl _)
  obtain ⟨os0, om0, ow0, h0⟩ := h
  refine ⟨hm, ?_⟩
  obtain ⟨os, om, ow, hA⟩ := hA
  refine ⟨os0, fun b i => if b = w.heap.size then [] else om0 b i, ow0, h0.size, h0.defers, fun t x hx => ?_, fun b o hb => ?_, h0.ownS, fun b o hb => ?_, h0.ownF, fun c hc => ?_, fun b hb => ?_⟩
  · refine ⟨(h0.slots t x hx).1, (h0.slots t x hx).2.stable (fun _ => Nat.le_refl _) hP.cell (fun c hc => ⟨heapOld w _ c ?_, rfl⟩)⟩
    exact (h0.free c (by rw [(h0.ownS t x hx).2 c hc]; simp)).2.2
  · by_cases hbw : b = w.heap.size
    · subst hbw
      simp only [AMem.upd, ↓reduceIte, Option.some.injEq] at hb ⊢
      subst hb
      refine ⟨?_, hz, hF⟩
      exact MRep.cells (w := w.alloc (.cells cs e)) (lim := lim) (b := w.heap.size) cs e l (fun _ => []) (heapNew w _) hs
        (fun i hi => (hr i hi).stable (fun _ => Nat.le_refl _) hP.cell (by simp))
    · simp only [AMem.upd, if_neg hbw] at hb ⊢
      have hlt : b < w.heap.size := by
        rcases Nat.lt_or_ge b w.heap.size with hb' | hb'
        · exact hb'
        · have := (h0.fresh b hb').2.2; rw [hb] at this; cases this
      refine ⟨(h0.mem b o hb).1.stable (heapOld w _ b hlt) (fun _ => Nat.le_refl _) hP.cell (fun i c hc => ⟨heapOld w _ c ?_, rfl⟩), (h0.mem b o hb).2⟩
      exact (h0.free c (by rw [(h0.ownM b o hb i).2 c hc]; simp)).2.2
  · by_cases hbw : b = w.heap.size
    · simp [hbw]
    · simp only [AMem.upd, if_neg hbw] at hb ⊢
      exact h0.ownM b o hb
  · have := h0.free c hc
    refine ⟨this.1, ?_, by simp; omega⟩
    simp only [AMem.upd]
    rw [if_neg (by omega)]
    exact this.2.1
  · simp at hb
    have := h0.fresh b (by omega)
    refine ⟨this.1, this.2.1, ?_⟩
    simp only [AMem.upd]
    rw [if_neg (by omega)]
    exact this.2.2
end
end Go.Aw
end
section
namespace Go.Aw
open Go
def cval1 : Value → AV
  | .bool b => .bool b
  | .int k n => .int k n
  | .string s => .str s.data.toList
  | .pointer none => .nilptr
  | .slice none _ _ => .slice true []
  | .map none => .nilmap
  | .nilFunc => .nilfunc
  | .nilIface => .nilIface
  | _ => .junk
def cval : Value → AV
  | .agg cs => .agg (cs.toList.map cval1)
  | .iface t v => .iface t (cval1 v)
  | v => cval1 v
def cok1 : Value → Bool
  | .int k n => decide (k.min ≤ n) && decide (n ≤ k.max)
  | .string s => decide (s.size ≤ 140737488355328)
  | .slice none n c => n == 0 && c == 0
  | _ => true
def cok : Value → Bool
  | .agg cs => cs.toList.all cok1
  | .iface _ v => cok1 v
  | v => cok1 v
def opdOk : Operand → Bool
  | .const v => cok v
  | _ => true
section
variable {w : World} {lim : Nat → Nat}
theorem rep_cval1 {v : Value} (h : cok1 v = true) : Rep w lim v (cval1 v) [] := by
  cases v with
  | bool b => exact .bool b
  | int k n => simp [cok1] at h; exact .int k n h.1 h.2
  | string s => simp [cok1] at h; exact .str s h
  | pointer a => cases a with
    | none => exact .nilptr
    | some a => exact .junk _
  | slice a n c => cases a with
    | none => simp [cok1] at h; obtain ⟨rfl, rfl⟩ := h; exact .nils true
    | some a => exact .junk _
  | map r => cases r with
    | none => exact .nilmap
    | some r => exact .junk _
  | nilFunc => exact .nilfunc
  | nilIface => exact .nilIface
  | _ => exact .junk _
theorem rep_cval {v : Value} (h : cok v = true) : Rep w lim v (cval v) [] := by
  cases v with
  | agg cs =>
    simp only [cok, List.all_eq_true] at h
    have := Rep.agg (w := w) (lim := lim) cs (cs.toList.map cval1) (fun _ => []) (by simp) (fun i hi => by
      have hi' : i < cs.size := by simpa using hi
      have e1 : cs.getD i undef = cs[i] := by simp [Array.getD, hi']
      have e2 : (cs.toList.map cval1).getD i .junk = cval1 cs[i] := by simp [List.getD, hi']
      rw [e1, e2]
      exact rep_cval1 (h _ (by simp)))
    rw [flatMap_nil] at this
    exact this
  | iface t v => exact .iface t v _ (rep_cval1 h)
  | _ => exact rep_cval1 h
end
def ev (fr : Fr) : Operand → AV
  | .tmp t => ((fr.get t).getD .junk).plain
  | .const v => cval v
  | .global g => .ptr ⟨g, 0, none⟩
  | .func f => .func (.func f) [] []
section
variable {F : Nat → Prop} {lim : Nat → Nat} {w : World} {n : Nat} {fr : Fr} {m : AMem} {ca : Act} {fl : List Nat}
theorem ev_rep (h : St F lim w n fr m ca fl) {x : Operand} (hx : opdOk x = true) : ∃ os, Rep w lim (ca.eval x) (ev fr x) os ∧ os = [] := by
  obtain ⟨os, om, ow, h⟩ := h
  refine ⟨[], ?_, rfl⟩
  cases x with
  | tmp t =>
    simp only [ev, Act.eval]
    cases hg : fr.get t with
    | none => exact .junk _
    | some x => exact (h.slots t x hg).2.plain
  | const v => exact rep_cval hx
  | global g => exact .ptr _
  | func f => exact .func _ #[] #[] [] [] rfl rfl (by simp) (by simp)
end
def aggT (P : Program) (t : TypeId) : Bool :=
  match P.underlying t with
  | some (.struct _) | some (.array _ _) => true
  | _ => false
def isU (P : Program) (t : TypeId) : Bool := (P.underlying t).isSome
def aeq1 (P : Program) (t : TypeId) : AV → AV → Option (Prop × Bool)
  | .int k a, .int k' b => some (k = k' ∧ P.underlying t = some (.int k), a == b)
  | .str a, .str b => some (P.underlying t = some .string, a == b)
  | .bool a, .bool b => some (P.underlying t = some .bool, a == b)
  | _, _ => none
def aeqs (P : Program) (xs ys : List AV) : List Field → Option (Prop × Bool)
  | [] => some (True, true)
  | f :: fs =>
    match aeq1 P f.type (xs.getD f.offset .junk) (ys.getD f.offset .junk), aeqs P xs ys fs with
    | some (s, b), some (s', b') => some (s ∧ f.name ≠ "_" ∧ s', b && b')
    | _, _ => none
def abin (P : Program) (op : BinOp) (t : TypeId) (x y : AV) : Option (Prop × AV) :=
  match op, x, y with
  | .add, .int k a, .int k' b => if k = k' then some (True, .int k (k.wrap (a + b))) else none
  | .sub, .int k a, .int k' b => if k = k' then some (True, .int k (k.wrap (a - b))) else none
  | .mul, .int k a, .int k' b => if k = k' then some (True, .int k (k.wrap (a * b))) else none
  | .quo, .int k a, .int k' b => if k = k' then some (b ≠ 0, .int k (k.wrap (a.tdiv b))) else none
  | .rem, .int k a, .int k' b => if k = k' then some (b ≠ 0 ∧ k.min ≤ a.tmod b ∧ a.tmod b ≤ k.max, .int k (a.tmod b)) else none
  | .and, .int k a, .int k' b => if k = k' then some (True, .int k (k.wrap (BitVec.ofInt k.bits a &&& BitVec.ofInt k.bits b).toNat)) else none
  | .or, .int k a, .int k' b => if k = k' then some (True, .int k (k.wrap (BitVec.ofInt k.bits a ||| BitVec.ofInt k.bits b).toNat)) else none
  | .xor, .int k a, .int k' b => if k = k' then some (True, .int k (k.wrap (BitVec.ofInt k.bits a ^^^ BitVec.ofInt k.bits b).toNat)) else none
  | .shl, .int k a, .int _ b => some (0 ≤ b, .int k (k.wrap (a * 2 ^ (min b.toNat k.bits))))
  | .shr, .int k a, .int _ b => some (0 ≤ b ∧ k.min ≤ a.fdiv (2 ^ (min b.toNat k.bits)) ∧ a.fdiv (2 ^ (min b.toNat k.bits)) ≤ k.max, .int k (a.fdiv (2 ^ (min b.toNat k.bits))))
  | .eql, .int k a, .int k' b => if k = k' then some (True, .bool (a == b)) else none
  | .neq, .int k a, .int k' b => if k = k' then some (True, .bool (!(a == b))) else none
  | .lss, .int k a, .int k' b => if k = k' then some (True, .bool (decide (a < b))) else none
  | .leq, .int k a, .int k' b => if k = k' then some (True, .bool (decide (a ≤ b))) else none
  | .gtr, .int k a, .int k' b => if k = k' then some (True, .bool (decide (b < a))) else none
  | .geq, .int k a, .int k' b => if k = k' then some (True, .bool (decide (b ≤ a))) else none
  | .add, .str a, .str b => some (a.length + b.length ≤ 140737488355328, .str (a ++ b))
  | .eql, .str a, .str b => some (True, .bool (a == b))
  | .neq, .str a, .str b => some (True, .bool (!(a == b)))
  | .lss, .str a, .str b => some (True, .bool (Op.bytesLess a b))
  | .leq, .str a, .str b => some (True, .bool (Op.bytesLess a b || a == b))
  | .gtr, .str a, .str b => some (True, .bool (!(Op.bytesLess a b || a == b)))
  | .geq, .str a, .str b => some (True, .bool (!(Op.bytesLess a b)))
  | .eql, .bool a, .bool b => some (P.underlying t = some .bool, .bool (a == b))
  | .neq, .bool a, .bool b => some (P.underlying t = some .bool, .bool (!(a == b)))
  | .eql, .nilIface, .iface _ _ | .eql, .iface _ _, .nilIface => some ((match P.underlying t with | some (.interface _) => true | _ => false) = true, .bool false)
  | .neq, .nilIface, .iface _ _ | .neq, .iface _ _, .nilIface => some ((match P.underlying t with | some (.interface _) => true | _ => false) = true, .bool true)
  | .eql, .iface u (.int k a), .iface u' (.int k' b) => some ((match P.underlying t with | some (.interface _) => true | _ => false) = true ∧ k = k' ∧ P.underlying u = some (.int k) ∧ (P.info? u).map (·.comparable) = some true, .bool (u == u' && a == b))
  | .neq, .iface u (.int k a), .iface u' (.int k' b) => some ((match P.underlying t with | some (.interface _) => true | _ => false) = true ∧ k = k' ∧ P.underlying u = some (.int k) ∧ (P.info? u).map (·.comparable) = some true, .bool (!(u == u' && a == b)))
  | .eql, .ptr _, .nilptr | .eql, .nilptr, .ptr _ | .eql, .ref _, .nilptr | .eql, .nilptr, .ref _ => some ((match P.underlying t with | some (.pointer _) => true | _ => false) = true, .bool false)
  | .neq, .ptr _, .nilptr | .neq, .nilptr, .ptr _ | .neq, .ref _, .nilptr | .neq, .nilptr, .ref _ => some ((match P.underlying t with | some (.pointer _) => true | _ => false) = true, .bool true)
  | .eql, .nilptr, .nilptr => some ((match P.underlying t with | some (.pointer _) => true | _ => false) = true, .bool true)
  | .neq, .nilptr, .nilptr => some ((match P.underlying t with | some (.pointer _) => true | _ => false) = true, .bool false)
  | .eql, .agg xs, .agg ys =>
    match P.underlying t with
    | some (.struct fs) => (aeqs P xs ys fs.toList).map fun p => (P.stoodInHeld t = false ∧ P.eqGuardType P.depth t = false ∧ p.1, .bool p.2)
    | _ => none
  | .neq, .agg xs, .agg ys =>
    match P.underlying t with
    | some (.struct fs) => (aeqs P xs ys fs.toList).map fun p => (P.stoodInHeld t = false ∧ P.eqGuardType P.depth t = false ∧ p.1, .bool (!p.2))
    | _ => none
  | _, _, _ => none
def anil (P : Program) (op : BinOp) (t : TypeId) (x y : Operand) (a b : AV) : Option (Prop × AV) :=
  match op, a, b with
  | .eql, .nilIface, .nilIface => some ((match P.underlying t with | some (.interface _) => true | _ => false) = true ∧ ((x matches .const _) || (y matches .const _)) = true, .bool true)
  | .neq, .nilIface, .nilIface => some ((match P.underlying t with | some (.interface _) => true | _ => false) = true ∧ ((x matches .const _) || (y matches .const _)) = true, .bool false)
  | .eql, .err _ e, .nilIface => some ((match P.underlying t with | some (.interface _) => true | _ => false) = true ∧ ((x matches .const _) || (y matches .const _)) = true, .bool (e == 0))
  | .neq, .err _ e, .nilIface => some ((match P.underlying t with | some (.interface _) => true | _ => false) = true ∧ ((x matches .const _) || (y matches .const _)) = true, .bool (!(e == 0)))
  | .eql, .opt b, .nilIface => some ((match P.underlying t with | some (.interface _) => true | _ => false) = true ∧ ((x matches .const _) || (y matches .const _)) = true, .bool (!b))
  | .neq, .opt b, .nilIface => some ((match P.underlying t with | some (.interface _) => true | _ => false) = true ∧ ((x matches .const _) || (y matches .const _)) = true, .bool b)
  | .eql, .err t' e, .iface u (.int k c) => some ((match P.underlying t with | some (.interface _) => true | _ => false) = true ∧ .i64 = k ∧ P.underlying t' = some (.int .i64) ∧ (P.info? t').map (·.comparable) = some true ∧ t' = u ∧ c ≠ 0, .bool (e == c))
  | .neq, .err t' e, .iface u (.int k c) => some ((match P.underlying t with | some (.interface _) => true | _ => false) = true ∧ .i64 = k ∧ P.underlying t' = some (.int .i64) ∧ (P.info? t').map (·.comparable) = some true ∧ t' = u ∧ c ≠ 0, .bool (!(e == c)))
  | _, _, _ => abin P op t a b
def apart (P : Program) (t : TypeId) (l : List AV) (off : Nat) : AV :=
  if aggT P t then .agg ((l.drop off).take (P.cellsOf t)) else l.getD off .junk
def apartOk (P : Program) (t : TypeId) (l : List AV) (off : Nat) : Prop :=
  isU P t = true ∧ (if aggT P t then off + P.cellsOf t ≤ l.length else off < l.length)
def asn (low : Option AV) (d : Nat) : Option Int :=
  match low with
  | none => some d
  | some (.int _ n) => some n
  | _ => none
def byteOf : AV → UInt8
  | .int _ n => UInt8.ofNat n.toNat
  | _ => 0
def un : AV → AV
  | .lazy true x => x
  | x => x
def qv (P : Program) (m : AMem) (a : Operand → AV) : Op → Option (Prop × AV)
  | .move x | .assign x => some (True, a x)
  | .pick c x y =>
    match un (a c), a x, a y with
    | .bool b, .bool p, .bool q => some (True, .bool (if b then p else q))
    | .bool b, .lazy g (.bool p), .bool q => some (b = true → g = true, .bool (if b then p else q))
    | .bool b, .bool p, .lazy g (.bool q) => some (b = false → g = true, .bool (if b then p else q))
    | .bool b, .lazy g (.bool p), .lazy h (.bool q) => some ((b = true → g = true) ∧ (b = false → h = true), .bool (if b then p else q))
    | _, _, _ => none
  | .load t x =>
    match a x with
    | .ref l => some (apartOk P t l 0, apart P t l 0)
    | .ptr ⟨b, off, none⟩ =>
      match m b with
      | some (.cells l) => some (apartOk P t l off, (apart P t l off).plain)
      | _ => none
    | _ => none
  | .nilCheck x =>
    match a x with
    | .ref l => some (True, .ref l)
    | .ptr p => some (True, .ptr p)
    | .func (.func f) b c => some (True, .func (.func f) b c)
    | _ => none
  | .binOp op t x y _ => anil P op t x y (a x) (a y)
  | .unOp op _ x =>
    match op, a x with
    | .not, .bool b => some (True, .bool (!b))
    | .neg, .int k n => some (True, .int k (k.wrap (0 - n)))
    | _, _ => none
  | .convert s d x =>
    match P.underlying d, a x with
    | some (.int k), .int _ n => some (isU P s = true, .int k (k.wrap n))
    | some .string, .str l => some (isU P s = true, .str l)
    | some .string, .slice _ l => some (∃ e, P.underlying s = some (.slice e) ∧ P.underlying e = some (.int .u8) ∧ ∀ x ∈ l, ∃ k : Int, x = .int .u8 k, .str (l.map byteOf))
    | _, _ => none
  | .makeInterface t x =>
    match P.underlying t with
    | some (.interface _) => none
    | some _ => some (True, .iface t (a x))
    | none => none
  | .fieldAddr s x f =>
    match P.underlying s with
    | some (.struct fs) =>
      match fs[f]? with
      | some fd =>
        match a x with
        | .ref l => some (isU P fd.type = true ∧ P.cellsOf fd.type ≠ 0 ∧ fd.offset < l.length, .ref (l.drop fd.offset))
        | .ptr ⟨b, off, none⟩ => some (isU P fd.type = true ∧ P.cellsOf fd.type ≠ 0, .ptr ⟨b, off + fd.offset, none⟩)
        | _ => none
      | none => none
    | _ => none
  | .field t x f =>
    match P.underlying t with
    | some (.struct fs) =>
      match fs[f]?, a x with
      | some fd, .agg l => some (apartOk P fd.type l fd.offset, apart P fd.type l fd.offset)
      | _, _ => none
    | _ => none
  | .indexAddr t x i =>
    match P.underlying t with
    | some (.slice e) =>
      match a x, a i with
      | .slice _ l, .int _ k => some (isU P e = true ∧ P.cellsOf e ≠ 0 ∧ 0 ≤ k ∧ k < l.length ∧ (l.getD k.toNat .junk).cells.length = P.cellsOf e, .ref (l.getD k.toNat .junk).cells)
      | .ms ⟨b, off, none⟩ len _, .int _ k => some (isU P e = true ∧ 0 ≤ k ∧ k < len, .ptr ⟨b, off + k.toNat * P.cellsOf e, none⟩)
      | _, _ => none
    | _ => none
  | .index t x i =>
    match P.underlying t, a x, a i with
    | some .string, .str l, .int _ k => some (0 ≤ k ∧ k < l.length, .int .u8 (l.getD k.toNat 0).toNat)
    | _, _, _ => none
  | .extract x i =>
    match a x with
    | .tuple l => some (i < l.length, l.getD i .junk)
    | _ => none
  | .slice t x lo hi none =>
    match P.underlying t, a x with
    | some .string, .str l =>
      match asn (lo.map a) 0, asn (hi.map a) l.length with
      | some p, some q => some (0 ≤ p ∧ p ≤ q ∧ q ≤ l.length, .str ((l.drop p.toNat).take (q - p).toNat))
      | _, _ => none
    | some (.slice e), .slice _ l =>
      match asn (lo.map a) 0, asn (hi.map a) l.length with
      | some p, some q => some (isU P e = true ∧ 0 ≤ p ∧ p ≤ q ∧ q ≤ l.length ∧ ∀ x ∈ l, x.cells.length = P.cellsOf e, .slice false ((l.drop p.toNat).take (q - p).toNat))
      | _, _ => none
    | some (.slice e), .ms ⟨b, off, none⟩ len cap =>
      match asn (lo.map a) 0, asn (hi.map a) len with
      | some p, some q => some (isU P e = true ∧ 0 ≤ p ∧ p ≤ q ∧ q ≤ len, if p < cap then .ms ⟨b, off + p.toNat * P.cellsOf e, none⟩ (q - p).toNat (cap - p.toNat) else .nils)
      | _, _ => none
    | _, _ => none
  | .typeAssert x _ t true =>
    match P.underlying t, a x with
    | some (.interface _), _ => none
    | some _, .iface u v => if u = t then some (True, .tuple [v, .bool true]) else none
    | some _, .err u e => if u = t then some ((P.info? t).bind (·.zero) = some (.int .i64 0), .tuple [.int .i64 e, .bool (!(e == 0))]) else none
    | _, _ => none
  | .call ⟨.builtin .len, args, ts⟩ =>
    match args[0]?, ts[0]? with
    | some x, some t =>
      match P.underlying t, a x with
      | some .string, .str l => some (True, .int .i64 l.length)
      | some (.slice _), .slice _ l => some (True, .int .i64 l.length)
      | some (.slice _), .ms _ n _ => some (n ≤ 9223372036854775807, .int .i64 n)
      | some (.slice _), .nils => some (True, .int .i64 0)
      | some (.map _ _), .nilmap => some (True, .int .i64 0)
      | some (.map _ _), .map b =>
        match m b with
        | some (.map l) => some (True, .int .i64 l.length)
        | _ => none
      | _, _ => none
    | _, _ => none
  | .call ⟨.builtin .max, args, _⟩ =>
    match args.toList with
    | [x, y] =>
      match a x, a y with
      | .int k p, .int k' q => if k = k' then some (True, .int k (if q > p then q else p)) else none
      | _, _ => none
    | _ => none
  | .call ⟨.builtin .min, args, _⟩ =>
    match args.toList with
    | [x, y] =>
      match a x, a y with
      | .int k p, .int k' q => if k = k' then some (True, .int k (if q < p then q else p)) else none
      | _, _ => none
    | _ => none
  | _ => none
end Go.Aw
end
section
namespace Go.Aw
open Go
theorem wrap_min (k : IntKind) (n : Int) : k.min ≤ k.wrap n ∧ k.wrap n ≤ k.max := by
  cases k <;> simp [IntKind.min, IntKind.max, IntKind.wrap, IntKind.signed, IntKind.bits] <;> (repeat' split) <;> omega
theorem wrap_of_range (k : IntKind) (n : Int) (h1 : k.min ≤ n) (h2 : n ≤ k.max) : k.wrap n = n := by
  cases k <;> simp [IntKind.min, IntKind.max, IntKind.wrap, IntKind.signed, IntKind.bits] at * <;> (repeat' split) <;> omega
section
variable {P : Program} {w : World} {lim : Nat → Nat}
theorem run_und {t : TypeId} {d : TypeDesc} (h : P.underlying t = some d) : (underlying t).run P w = .ok d w := run_underlying h w
theorem run_size {t : TypeId} (h : isU P t = true) : (sizeOf t).run P w = .ok (P.cellsOf t) w := by
  cases hi : P.info? t with
  | none => simp [isU, Program.underlying, hi] at h
  | some i => simp [sizeOf, typeInfo, hi, Program.cellsOf]
theorem run_isAgg {t : TypeId} (h : isU P t = true) : (isAgg t).run P w = .ok (aggT P t) w := by
  cases hd : P.underlying t with
  | none => simp [isU, hd] at h
  | some d => simp [isAgg, run_und hd, aggT, hd]; cases d <;> simp
theorem run_iface_eq (d : Nat) {t u u' : TypeId} {k : IntKind} {a b : Int} (ht : (match P.underlying t with | some (.interface _) => true | _ => false) = true)
    (hu : P.underlying u = some (.int k)) (hc : (P.info? u).map (·.comparable) = some true) :
    (Op.equalIn (d + 2) t (.iface u (.int k a)) (.iface u' (.int k b))).run P w = .ok (u == u' && a == b) w := by
  cases hd : P.underlying t with
  | none => simp [hd] at ht
  | some e =>
    cases e <;> simp [hd] at ht
    rename_i ms
    cases hi : P.info? u with
    | none => simp [hi] at hc
    | some i =>
      have hcmp : i.comparable = true := by simpa [hi] using hc
      by_cases e : u = u'
      · subst e
        simp [Op.equalIn, run_und hd, typeInfo, hi, hcmp, run_und hu]
      · simp [Op.equalIn, run_und hd, e]
theorem run_eq_nilL0 (d : Nat) {t : TypeId} {u : TypeId} {v : Value} (ht : (match P.underlying t with | some (.interface _) => true | _ => false) = true) : (Op.equalIn (d + 1) t .nilIface (.iface u v)).run P w = .ok false w := by
  cases hd : P.underlying t with
  | none => simp [hd] at ht
  | some e => cases e <;> simp [hd] at ht; simp [Op.equalIn, run_und hd]
theorem run_eq_nilL {t : TypeId} {u : TypeId} {v : Value} (ht : (match P.underlying t with | some (.interface _) => true | _ => false) = true) : (Op.equal t .nilIface (.iface u v)).run P w = .ok false w := run_eq_nilL0 9999 ht
theorem run_eq_nilR0 (d : Nat) {t : TypeId} {u : TypeId} {v : Value} (ht : (match P.underlying t with | some (.interface _) => true | _ => false) = true) : (Op.equalIn (d + 1) t (.iface u v) .nilIface).run P w = .ok false w := by
  cases hd : P.underlying t with
  | none => simp [hd] at ht
  | some e => cases e <;> simp [hd] at ht; simp [Op.equalIn, run_und hd]
theorem run_eq_nilR {t : TypeId} {u : TypeId} {v : Value} (ht : (match P.underlying t with | some (.interface _) => true | _ => false) = true) : (Op.equal t (.iface u v) .nilIface).run P w = .ok false w := run_eq_nilR0 9999 ht
theorem run_eq_nilN0 (d : Nat) {t : TypeId} (ht : (match P.underlying t with | some (.interface _) => true | _ => false) = true) : (Op.equalIn (d + 1) t .nilIface .nilIface).run P w = .ok true w := by
  cases hd : P.underlying t with
  | none => simp [hd] at ht
  | some e => cases e <;> simp [hd] at ht; simp [Op.equalIn, run_und hd]
theorem run_eq_nilN {t : TypeId} (ht : (match P.underlying t with | some (.interface _) => true | _ => false) = true) : (Op.equal t .nilIface .nilIface).run P w = .ok true w := run_eq_nilN0 9999 ht
theorem run_eq_ptrL0 (d : Nat) {t : TypeId} {a : Addr} (ht : (match P.underlying t with | some (.pointer _) => true | _ => false) = true) : (Op.equalIn (d + 1) t (.pointer (some a)) (.pointer none)).run P w = .ok false w := by
  cases hd : P.underlying t with
  | none => simp [hd] at ht
  | some e => cases e <;> simp [hd] at ht; simp [Op.equalIn, run_und hd]
theorem run_eq_ptrL {t : TypeId} {a : Addr} (ht : (match P.underlying t with | some (.pointer _) => true | _ => false) = true) : (Op.equal t (.pointer (some a)) (.pointer none)).run P w = .ok false w := run_eq_ptrL0 9999 ht
theorem run_eq_ptrR0 (d : Nat) {t : TypeId} {a : Addr} (ht : (match P.underlying t with | some (.pointer _) => true | _ => false) = true) : (Op.equalIn (d + 1) t (.pointer none) (.pointer (some a))).run P w = .ok false w := by
  cases hd : P.underlying t with
  | none => simp [hd] at ht
  | some e => cases e <;> simp [hd] at ht; simp [Op.equalIn, run_und hd]
theorem run_eq_ptrR {t : TypeId} {a : Addr} (ht : (match P.underlying t with | some (.pointer _) => true | _ => false) = true) : (Op.equal t (.pointer none) (.pointer (some a))).run P w = .ok false w := run_eq_ptrR0 9999 ht
theorem run_eq_ptrN0 (d : Nat) {t : TypeId} (ht : (match P.underlying t with | some (.pointer _) => true | _ => false) = true) : (Op.equalIn (d + 1) t (.pointer none) (.pointer none)).run P w = .ok true w := by
  cases hd : P.underlying t with
  | none => simp [hd] at ht
  | some e => cases e <;> simp [hd] at ht; simp [Op.equalIn, run_und hd]
theorem run_eq_ptrN {t : TypeId} (ht : (match P.underlying t with | some (.pointer _) => true | _ => false) = true) : (Op.equal t (.pointer none) (.pointer none)).run P w = .ok true w := run_eq_ptrN0 9999 ht
theorem run_eq_bool0 (d : Nat) {t : TypeId} {a b : Bool} (ht : P.underlying t = some .bool) : (Op.equalIn (d + 1) t (.bool a) (.bool b)).run P w = .ok (a == b) w := by
  simp [Op.equalIn, run_und ht]
theorem run_eq_bool {t : TypeId} {a b : Bool} (ht : P.underlying t = some .bool) : (Op.equal t (.bool a) (.bool b)).run P w = .ok (a == b) w := run_eq_bool0 9999 ht
theorem run_iface_eq' {t u u' : TypeId} {k : IntKind} {a b : Int} (ht : (match P.underlying t with | some (.interface _) => true | _ => false) = true)
    (hu : P.underlying u = some (.int k)) (hc : (P.info? u).map (·.comparable) = some true) :
    (Op.equal t (.iface u (.int k a)) (.iface u' (.int k b))).run P w = .ok (u == u' && a == b) w := run_iface_eq 9998 ht hu hc
theorem aeq1_sound {t : TypeId} {vx vy : Value} {x y : AV} {side : Prop} {b : Bool} (d : Nat) (h : aeq1 P t x y = some (side, b)) (hs : side) {ox oy : List Nat} (hx : Rep w lim vx x ox) (hy : Rep w lim vy y oy) :
    (Op.equalIn (d + 1) t vx vy).run P w = .ok b w ∧ aggT P t = false := by
  unfold aeq1 at h
  split at h
  · simp only [Option.some.injEq, Prod.mk.injEq] at h
    obtain ⟨rfl, rfl⟩ := h
    obtain ⟨rfl, ht⟩ := hs
    cases hx
    cases hy
    exact ⟨run_equalIn_int w d t _ _ _ _ ht, by simp [aggT, ht]⟩
  · simp only [Option.some.injEq, Prod.mk.injEq] at h
    obtain ⟨rfl, rfl⟩ := h
    cases hx
    cases hy
    refine ⟨?_, by simp [aggT, hs]⟩
    rw [run_equalIn_string w d t _ _ hs, ByteArray.toList_eq, ByteArray.toList_eq]
  · simp only [Option.some.injEq, Prod.mk.injEq] at h
    obtain ⟨rfl, rfl⟩ := h
    cases hx
    cases hy
    exact ⟨run_equalIn_bool' w d t _ _ hs, by simp [aggT, hs]⟩
  · cases h
theorem aeq1_isU {t : TypeId} {x y : AV} {side : Prop} {b : Bool} (h : aeq1 P t x y = some (side, b)) (hs : side) : isU P t = true := by
  unfold aeq1 at h
  split at h
  · simp only [Option.some.injEq, Prod.mk.injEq] at h
    obtain ⟨rfl, rfl⟩ := h
    simp [isU, hs.2]
  · simp only [Option.some.injEq, Prod.mk.injEq] at h
    obtain ⟨rfl, rfl⟩ := h
    simp [isU, hs]
  · simp only [Option.some.injEq, Prod.mk.injEq] at h
    obtain ⟨rfl, rfl⟩ := h
    simp [isU, hs]
  · cases h
theorem aeq1_ne {t : TypeId} {x y : AV} {r : Prop × Bool} (h : aeq1 P t x y = some r) : x ≠ .junk ∧ y ≠ .junk := by
  unfold aeq1 at h
  split at h
  · exact ⟨(nomatch ·), (nomatch ·)⟩
  · exact ⟨(nomatch ·), (nomatch ·)⟩
  · exact ⟨(nomatch ·), (nomatch ·)⟩
  · cases h
theorem getD_ne_junk {l : List AV} {i : Nat} (h : l.getD i .junk ≠ .junk) : i < l.length := by
  by_cases hi : i < l.length
  · exact hi
  · exact (h (by simp [List.getD, List.getElem?_eq_none (Nat.not_lt.1 hi)])).elim
theorem run_part1 {t : TypeId} {cs : Array Value} {k : Nat} (hu : isU P t = true) (ha : aggT P t = false) (hk : k < cs.size) : (part t cs k).run P w = .ok (cs.getD k undef) w := by
  have this : cs[k]? = some (cs.getD k undef) := by simp [Array.getD, hk]
  unfold part
  simp only [Sem.run_bind, run_isAgg hu, ha, Result.andThen_ok, this]
  rfl
theorem aeqs_sound {cx cy : Array Value} {xs ys : List AV} (hx : cx.size = xs.length) (hy : cy.size = ys.length) {ox oy : Nat → List Nat} (rx : ∀ i, i < xs.length → Rep w lim (cx.getD i undef) (xs.getD i .junk) (ox i)) (ry : ∀ i, i < ys.length → Rep w lim (cy.getD i undef) (ys.getD i .junk) (oy i)) (d : Nat) :
    ∀ (fs : List Field) {side : Prop} {b : Bool}, aeqs P xs ys fs = some (side, b) → side → (Op.eqFields (d + 1) cx cy fs).run P w = .ok b w := by
  intro fs
  induction fs with
  | nil =>
    intro side b h hs
    simp only [aeqs, Option.some.injEq, Prod.mk.injEq] at h
    rw [← h.2]; rfl
  | cons f fs ih =>
    intro side b h hs
    unfold aeqs at h
    split at h
    · next s b1 s' b2 h1 h2 =>
      simp only [Option.some.injEq, Prod.mk.injEq] at h
      obtain ⟨rfl, rfl⟩ := h
      obtain ⟨hs1, hn, hs2⟩ := hs
      obtain ⟨n1, n2⟩ := aeq1_ne h1
      have l1 := getD_ne_junk n1
      have l2 := getD_ne_junk n2
      have hu := aeq1_isU h1 hs1
      obtain ⟨e1, e2⟩ := aeq1_sound d h1 hs1 (rx _ l1) (ry _ l2)
      have p1 := run_part1 (P := P) (w := w) hu e2 (show f.offset < cx.size by omega)
      have p2 := run_part1 (P := P) (w := w) hu e2 (show f.offset < cy.size by omega)
      simp only [Op.eqFields, if_pos hn, Sem.run_bind, p1, p2, e1, Result.andThen_ok, Sem.run_ite, Sem.run_pure]
      cases b1 with
      | true => simpa using ih h2 hs2
      | false => simp
    · cases h
theorem abin_struct {t : TypeId} {ox oy : Operand} {fs : Array Field} {vx vy : Value} {xs ys : List AV} {side : Prop} {b : Bool} (ht : P.underlying t = some (.struct fs)) (hst : P.stoodInHeld t = false) (hg : P.eqGuardType P.depth t = false)
    (h : aeqs P xs ys fs.toList = some (side, b)) (hs : side) {o o' : List Nat} (hx : Rep w lim vx (.agg xs) o) (hy : Rep w lim vy (.agg ys) o') :
    (do eqGuard .eql t ox oy vx vy; binOp .eql t vx vy : Sem Value).run P w = .ok (.bool b) w ∧ (do eqGuard .neq t ox oy vx vy; binOp .neq t vx vy : Sem Value).run P w = .ok (.bool (!b)) w := by
  cases hx with
  | agg cx _ os1 h1 r1 =>
    cases hy with
    | agg cy _ os2 h2 r2 =>
      have hf : P.fieldsOf t = fs := by simp [Program.fieldsOf, ht]
      have key := aeqs_sound h1 h2 r1 r2 9998 _ h hs
      have he : (Op.equalIn 10000 t (.agg cx) (.agg cy)).run P w = .ok b w := by
        rw [run_equalIn_struct w 9999 t cx cy (by rw [hf]; exact ht) hst, hf]; exact key
      constructor
      · simp only [Sem.run_bind, run_eqGuard_agg w _ t ox oy cx cy hg, Result.andThen_ok, run_eql_struct, he]
      · simp only [Sem.run_bind, run_eqGuard_agg w _ t ox oy cx cy hg, Result.andThen_ok, run_neq_struct, he]
set_option maxHeartbeats 4000000 in
theorem abin_sound {op : BinOp} {t : TypeId} {ox oy : Operand} {vx vy : Value} {x y r : AV} {side : Prop} (h : abin P op t x y = some (side, r)) (hs : side)
    (hx : Rep w lim vx x []) (hy : Rep w lim vy y []) : ∃ v, (do eqGuard op t ox oy vx vy; binOp op t vx vy : Sem Value).run P w = .ok v w ∧ Rep w lim v r [] := by
  unfold abin at h
  split at h
  case h_17 =>
    simp only [Option.some.injEq, Prod.mk.injEq] at h
    obtain ⟨rfl, rfl⟩ := h
    cases hx with | str s hs1 =>
    cases hy with | str s' hs2 =>
    have hsz : s.size + s'.size ≤ 140737488355328 := by simpa using hs
    refine ⟨.string (s ++ s'), ?_, ?_⟩
    · simp [eqGuard, binOp, run_string_add_sum w s s' (by omega)]
    · have := Rep.str (w := w) (lim := lim) (s ++ s') (by simpa using hsz)
      simpa using this
  case h_9 =>
    simp only [Option.some.injEq, Prod.mk.injEq] at h
    obtain ⟨rfl, rfl⟩ := h
    cases hx with | int k a lo hi =>
    cases hy with | int k' b lo' hi' =>
    have hb := Int.not_lt.2 hs
    refine ⟨_, ?_, .int _ _ (wrap_min _ _).1 (wrap_min _ _).2⟩
    simp [eqGuard, binOp, Op.shift, hb]
  case h_10 =>
    simp only [Option.some.injEq, Prod.mk.injEq] at h
    obtain ⟨rfl, rfl⟩ := h
    cases hx with | int k a lo hi =>
    cases hy with | int k' b lo' hi' =>
    obtain ⟨hb0, hlo, hhi⟩ := hs
    have hb := Int.not_lt.2 hb0
    refine ⟨_, ?_, .int _ _ hlo hhi⟩
    simp [eqGuard, binOp, Op.shift, hb]
  case h_42 =>
    split at h
    · next fs hfs =>
      obtain ⟨p, hp, h⟩ := Option.map_eq_some_iff.1 h
      obtain ⟨ps, pb⟩ := p
      simp only [Prod.mk.injEq] at h
      obtain ⟨rfl, rfl⟩ := h
      exact ⟨_, (abin_struct hfs hs.1 hs.2.1 hp hs.2.2 hx hy).1, .bool _⟩
    · cases h
  case h_43 =>
    split at h
    · next fs hfs =>
      obtain ⟨p, hp, h⟩ := Option.map_eq_some_iff.1 h
      obtain ⟨ps, pb⟩ := p
      simp only [Prod.mk.injEq] at h
      obtain ⟨rfl, rfl⟩ := h
      exact ⟨_, (abin_struct hfs hs.1 hs.2.1 hp hs.2.2 hx hy).2, .bool _⟩
    · cases h
  all_goals first
    | (simp only [Option.some.injEq, Prod.mk.injEq] at h
       obtain ⟨rfl, rfl⟩ := h
       cases hx with | str s hs1 =>
       cases hy with | str s' hs2 =>
       refine ⟨_, ?_, .bool _⟩
       simp [eqGuard, binOp, Op.stringOp, ByteArray.toList_eq]
       done)
    | (split at h
       · rename_i hk
         subst hk
         simp only [Option.some.injEq, Prod.mk.injEq] at h
         obtain ⟨rfl, rfl⟩ := h
         cases hx with | int k a lo hi =>
         cases hy with | int k' b lo' hi' =>
         first
         | (refine ⟨_, ?_, .int _ _ (wrap_min _ _).1 (wrap_min _ _).2⟩
            simp [eqGuard, binOp, Op.intArith, Op.intBits, Op.intDiv, hs]
            done)
         | (refine ⟨_, ?_, .bool _⟩
            simp [eqGuard, binOp, Op.intCmp, bne]
            done)
         | (refine ⟨_, ?_, .int _ _ hs.2.1 hs.2.2⟩
            simp [eqGuard, binOp, Op.intDiv, hs.1]
            done)
       · cases h)
    | (simp only [Option.some.injEq, Prod.mk.injEq] at h
       obtain ⟨rfl, rfl⟩ := h
       cases hx with | int k a lo hi =>
       cases hy with | int k' b lo' hi' =>
       first
       | (refine ⟨_, ?_, .int _ _ (wrap_min _ _).1 (wrap_min _ _).2⟩
          simp [eqGuard, binOp, Op.shift, show ¬ b < 0 from by omega]
          done)
       | (refine ⟨_, ?_, .int _ _ hs.2.1 hs.2.2⟩
          simp [eqGuard, binOp, Op.shift, show ¬ b < 0 from by omega]
          done))
    | (simp only [Option.some.injEq, Prod.mk.injEq] at h
       obtain ⟨rfl, rfl⟩ := h
       cases hx with | bool a =>
       cases hy with | bool b =>
       refine ⟨_, ?_, .bool _⟩
       simp [eqGuard, binOp, run_eq_bool hs]
       done)
    | (simp only [Option.some.injEq, Prod.mk.injEq] at h
       obtain ⟨rfl, rfl⟩ := h
       cases hx
       cases hy
       refine ⟨_, ?_, .bool _⟩
       simp [eqGuard, binOp, run_eq_nilL hs, run_eq_nilR hs]
       done)
    | (simp only [Option.some.injEq, Prod.mk.injEq] at h
       obtain ⟨rfl, rfl⟩ := h
       cases hx
       cases hy
       refine ⟨_, ?_, .bool _⟩
       simp [eqGuard, binOp, run_eq_ptrL hs, run_eq_ptrR hs, run_eq_ptrN hs]
       done)
    | (simp only [Option.some.injEq, Prod.mk.injEq] at h
       obtain ⟨rfl, rfl⟩ := h
       obtain ⟨h1, rfl, h3, h4⟩ := hs
       cases hx with | iface _ _ _ hx =>
       cases hy with | iface _ _ _ hy =>
       cases hx
       cases hy
       refine ⟨_, ?_, .bool _⟩
       simp [eqGuard, binOp, run_iface_eq' h1 h3 h4]
       done)
    | cases h
    | skip
theorem anil_sound {op : BinOp} {t : TypeId} {ox oy : Operand} {vx vy : Value} {x y r : AV} {side : Prop} (h : anil P op t ox oy x y = some (side, r)) (hs : side)
    (hx : Rep w lim vx x []) (hy : Rep w lim vy y []) : ∃ v, (do eqGuard op t ox oy vx vy; binOp op t vx vy : Sem Value).run P w = .ok v w ∧ Rep w lim v r [] := by
  unfold anil at h
  split at h
  · simp only [Option.some.injEq, Prod.mk.injEq] at h
    obtain ⟨rfl, rfl⟩ := h
    cases hx
    cases hy
    refine ⟨_, ?_, .bool _⟩
    have h2 := hs.2
    simp [eqGuard, binOp, run_eq_nilN hs.1]
    cases ox <;> cases oy <;> simp_all
  · simp only [Option.some.injEq, Prod.mk.injEq] at h
    obtain ⟨rfl, rfl⟩ := h
    cases hx
    cases hy
    refine ⟨_, ?_, .bool _⟩
    have h2 := hs.2
    simp [eqGuard, binOp, run_eq_nilN hs.1]
    cases ox <;> cases oy <;> simp_all
  · simp only [Option.some.injEq, Prod.mk.injEq] at h
    obtain ⟨rfl, rfl⟩ := h
    cases hy
    cases hx with
    | errN t' =>
      refine ⟨_, ?_, .bool _⟩
      have h2 := hs.2
      simp [eqGuard, binOp, run_eq_nilN hs.1]
      cases ox <;> cases oy <;> simp_all
    | errS t' e h0 lo hi =>
      refine ⟨_, ?_, .bool _⟩
      simp [eqGuard, binOp, run_eq_nilR hs.1, h0]
  · simp only [Option.some.injEq, Prod.mk.injEq] at h
    obtain ⟨rfl, rfl⟩ := h
    cases hy
    cases hx with
    | errN t' =>
      refine ⟨_, ?_, .bool _⟩
      have h2 := hs.2
      simp [eqGuard, binOp, run_eq_nilN hs.1]
      cases ox <;> cases oy <;> simp_all
    | errS t' e h0 lo hi =>
      refine ⟨_, ?_, .bool _⟩
      simp [eqGuard, binOp, run_eq_nilR hs.1, h0]
  · simp only [Option.some.injEq, Prod.mk.injEq] at h
    obtain ⟨rfl, rfl⟩ := h
    cases hy
    cases hx with
    | optN =>
      refine ⟨_, ?_, .bool _⟩
      have h2 := hs.2
      simp [eqGuard, binOp, run_eq_nilN hs.1]
      cases ox <;> cases oy <;> simp_all
    | optS t' v =>
      refine ⟨_, ?_, .bool _⟩
      simp [eqGuard, binOp, run_eq_nilR hs.1]
  · simp only [Option.some.injEq, Prod.mk.injEq] at h
    obtain ⟨rfl, rfl⟩ := h
    cases hy
    cases hx with
    | optN =>
      refine ⟨_, ?_, .bool _⟩
      have h2 := hs.2
      simp [eqGuard, binOp, run_eq_nilN hs.1]
      cases ox <;> cases oy <;> simp_all
    | optS t' v =>
      refine ⟨_, ?_, .bool _⟩
      simp [eqGuard, binOp, run_eq_nilR hs.1]
  · simp only [Option.some.injEq, Prod.mk.injEq] at h
    obtain ⟨rfl, rfl⟩ := h
    obtain ⟨h1, rfl, h3, h4, rfl, h5⟩ := hs
    cases hy with | iface _ _ _ hy =>
    cases hy
    cases hx with
    | errN t' =>
      refine ⟨_, ?_, .bool _⟩
      simp [eqGuard, binOp, run_eq_nilL h1, Ne.symm h5]
    | errS t' e h0 lo hi =>
      refine ⟨_, ?_, .bool _⟩
      simp [eqGuard, binOp, run_iface_eq' h1 h3 h4]
  · simp only [Option.some.injEq, Prod.mk.injEq] at h
    obtain ⟨rfl, rfl⟩ := h
    obtain ⟨h1, rfl, h3, h4, rfl, h5⟩ := hs
    cases hy with | iface _ _ _ hy =>
    cases hy
    cases hx with
    | errN t' =>
      refine ⟨_, ?_, .bool _⟩
      simp [eqGuard, binOp, run_eq_nilL h1, Ne.symm h5]
    | errS t' e h0 lo hi =>
      refine ⟨_, ?_, .bool _⟩
      simp [eqGuard, binOp, run_iface_eq' h1 h3 h4]
  · exact abin_sound h hs hx hy
end
end Go.Aw
end
section
namespace Go.Aw
open Go
section
variable {P : Program} {w : World} {lim : Nat → Nat}
theorem addr_add (b off i : Nat) : (⟨b, off, none⟩ : Addr).add i = ⟨b, off + i, none⟩ := by
  unfold Addr.add
  split
  · rename_i h; subst h; rfl
  · rfl
theorem run_loadCells_fn (b off n : Nat) (f : Nat → Value) (h : ∀ j, j < n → w.cell? ⟨b, off + j, none⟩ = some (f j)) :
    (loadCells ⟨b, off, none⟩ n).run P w = .ok ((List.range n).map f).toArray w := by
  have := run_loadCells_list (P := P) w ⟨b, off, none⟩ ((List.range n).map f) (fun j v hv => by
    rw [addr_add]
    by_cases hj : j < n
    · simp [hj] at hv
      rw [h j hj, hv]
    · simp [hj] at hv)
  simpa using this
theorem getD_range_map (n i : Nat) (f : Nat → Value) (hi : i < n) : ((List.range n).map f).toArray.getD i undef = f i := by
  simp [Array.getD, hi]
theorem rep_agg_of (n : Nat) (f : Nat → Value) (xs : List AV) (hn : xs.length = n) (h : ∀ i, i < n → Rep w lim (f i) (xs.getD i .junk) []) :
    Rep w lim (.agg ((List.range n).map f).toArray) (.agg xs) [] := by
  have := Rep.agg (w := w) (lim := lim) ((List.range n).map f).toArray xs (fun _ => []) (by simp [hn]) (fun i hi => by rw [getD_range_map n i f (by omega)]; exact h i (by omega))
  rw [flatMap_nil] at this
  exact this
theorem getD_drop_take (l : List AV) (off k i : Nat) (hi : i < k) : ((l.drop off).take k).getD i .junk = l.getD (off + i) .junk := by
  simp [List.getD_eq_getElem?_getD, List.getElem?_take, hi]
theorem load_sound {t : TypeId} {b off : Nat} {l : List AV} {f : Nat → Value} {k : Nat} (hok : apartOk P t l k)
    (hc : ∀ i, i < l.length → w.cell? ⟨b, off + i, none⟩ = some (f i)) (hr : ∀ i, i < l.length → Rep w lim (f i) (l.getD i .junk) []) :
    ∃ v, (loadVar t ⟨b, off + k, none⟩).run P w = .ok v w ∧ Rep w lim v (apart P t l k) [] := by
  obtain ⟨hu, hok⟩ := hok
  by_cases ha : aggT P t = true
  · simp only [ha, if_true] at hok
    have hl := run_loadCells_fn (P := P) (w := w) b (off + k) (P.cellsOf t) (fun j => f (k + j)) (fun j hj => by rw [Nat.add_assoc]; exact hc (k + j) (by omega))
    refine ⟨.agg ((List.range (P.cellsOf t)).map fun j => f (k + j)).toArray, ?_, ?_⟩
    · simp [loadVar, run_isAgg hu, ha, run_size hu, hl]
    · simp only [apart, ha, if_true]
      refine rep_agg_of _ _ _ (by simp; omega) (fun i hi => ?_)
      rw [getD_drop_take _ _ _ _ hi]
      exact hr (k + i) (by omega)
  · simp only [ha] at hok
    refine ⟨f k, ?_, ?_⟩
    · simp [loadVar, run_isAgg hu, ha, hc k hok]
    · simp only [apart, ha]
      exact hr k hok
theorem part_sound {t : TypeId} {cs : Array Value} {l : List AV} {k : Nat} (hok : apartOk P t l k) (hs : cs.size = l.length)
    (hr : ∀ i, i < l.length → Rep w lim (cs.getD i undef) (l.getD i .junk) []) : ∃ v, (part t cs k).run P w = .ok v w ∧ Rep w lim v (apart P t l k) [] := by
  obtain ⟨hu, hok⟩ := hok
  by_cases ha : aggT P t = true
  · simp only [ha, if_true] at hok
    refine ⟨.agg (cs.extract k (k + P.cellsOf t)), ?_, ?_⟩
    · simp [part, run_isAgg hu, ha, run_size hu]
    · simp only [apart, ha, if_true]
      have := Rep.agg (w := w) (lim := lim) (cs.extract k (k + P.cellsOf t)) ((l.drop k).take (P.cellsOf t)) (fun _ => []) (by simp [hs]; omega) (fun i hi => by
        have hi' : i < P.cellsOf t := by simp at hi; omega
        rw [getD_drop_take _ _ _ _ hi']
        have := hr (k + i) (by omega)
        have e : (cs.extract k (k + P.cellsOf t)).getD i undef = cs.getD (k + i) undef := by
          simp [Array.getD_eq_getD_getElem?, Array.getElem?_extract]
          rw [if_pos (by omega)]
        rw [e]; exact this)
      rw [flatMap_nil] at this
      exact this
  · simp only [ha] at hok
    refine ⟨cs.getD k undef, ?_, ?_⟩
    · have : k < cs.size := by rw [hs]; exact hok
      simp [part, run_isAgg hu, ha, this]
    · simp only [apart, ha]
      exact hr k hok
theorem flatMap_nil_iff {os : Nat → List Nat} {n : Nat} (h : (List.range n).flatMap os = []) : ∀ i, i < n → os i = [] := by
  intro i hi
  simp [List.flatMap_eq_nil_iff] at h
  exact h i hi
theorem rep_agg_inv' {v : Value} {xs : List AV} {o : List Nat} (h : Rep w lim v (.agg xs) o) (ho : o = []) : ∃ cs : Array Value, v = .agg cs ∧ cs.size = xs.length ∧ ∀ i, i < xs.length → Rep w lim (cs.getD i undef) (xs.getD i .junk) [] := by
  cases h with
  | agg cs _ os h hr => exact ⟨cs, rfl, h, fun i hi => by have := hr i hi; rwa [flatMap_nil_iff ho i hi] at this⟩
theorem rep_agg_inv {v : Value} {xs : List AV} (h : Rep w lim v (.agg xs) []) : ∃ cs : Array Value, v = .agg cs ∧ cs.size = xs.length ∧ ∀ i, i < xs.length → Rep w lim (cs.getD i undef) (xs.getD i .junk) [] := rep_agg_inv' h rfl
theorem rep_tuple_inv' {v : Value} {xs : List AV} {o : List Nat} (h : Rep w lim v (.tuple xs) o) (ho : o = []) : ∃ cs : Array Value, v = .tuple cs ∧ cs.size = xs.length ∧ ∀ i, i < xs.length → Rep w lim (cs.getD i undef) (xs.getD i .junk) [] := by
  cases h with
  | tuple cs _ os h hr => exact ⟨cs, rfl, h, fun i hi => by have := hr i hi; rwa [flatMap_nil_iff ho i hi] at this⟩
theorem rep_tuple_inv {v : Value} {xs : List AV} (h : Rep w lim v (.tuple xs) []) : ∃ cs : Array Value, v = .tuple cs ∧ cs.size = xs.length ∧ ∀ i, i < xs.length → Rep w lim (cs.getD i undef) (xs.getD i .junk) [] := rep_tuple_inv' h rfl
theorem mrep_cells_inv {b : Nat} {l : List AV} {os : Nat → List Nat} (h : MRep w lim b (.cells l) os) : ∃ (cs : Array Value) (e : TypeId) (oss : Nat → List Nat), w.heap[b]? = some (.cells cs e (0, 0)) ∧ cs.size = l.length ∧
    ∀ i, i < l.length → Rep w lim (cs.getD i undef) (l.getD i .junk) (oss i) := by
  cases h with
  | cells cs e l _ hb hs hr => exact ⟨cs, e, os, hb, hs, hr⟩
theorem rep_slice_inv {v : Value} {own : Bool} {l : List AV} {os : List Nat} (h : Rep w lim v (.slice own l) os) : Rep w lim v (.slice false l) [] := h.plain
theorem rep_slice_cases {v : Value} {l : List AV} (h : Rep w lim v (.slice false l) []) :
    (l = [] ∧ v = .slice none 0 0) ∨ (l = [] ∧ ∃ a cap, v = .slice (some a) 0 cap ∧ cap ≤ maxLen) ∨
    ∃ b off cap sz, ∃ cv : Nat → Nat → Value, v = .slice (some ⟨b, off, none⟩) l.length cap ∧ l.length ≤ cap ∧ cap ≤ maxLen ∧ l.length ≤ 140737488355328 ∧ (∀ i, i < l.length → (l.getD i .junk).cells.length = sz) ∧ off + l.length * sz ≤ lim b ∧
      (∀ i j, i < l.length → j < sz → w.cell? ⟨b, off + i * sz + j, none⟩ = some (cv i j)) ∧ (∀ i j, i < l.length → j < sz → Rep w lim (cv i j) ((l.getD i .junk).cells.getD j .junk) []) := by
  cases h with
  | nils own => exact .inl ⟨rfl, rfl⟩
  | empty a cap hm => exact .inr (.inl ⟨rfl, a, cap, rfl, hm⟩)
  | slice b off n cap sz l cv hn hcap hm hbig hsz hlim hc hr => subst hn; exact .inr (.inr ⟨b, off, cap, sz, cv, rfl, hcap, hm, hbig, hsz, hlim, hc, hr⟩)
theorem rep_slice_len {v : Value} {l : List AV} (h : Rep w lim v (.slice false l) []) : ∃ a cap, v = .slice a l.length cap ∧ l.length ≤ 140737488355328 := by
  rcases rep_slice_cases h with ⟨rfl, rfl⟩ | ⟨rfl, a, cap, rfl, _⟩ | ⟨b, off, cap, sz, cv, rfl, _, _, h, _⟩
  · exact ⟨none, 0, rfl, by simp⟩
  · exact ⟨some a, cap, rfl, by simp⟩
  · exact ⟨_, cap, rfl, h⟩
theorem some_inj {α β : Type} {a a' : α} {b b' : β} (h : some (a, b) = some (a', b')) : a = a' ∧ b = b' := by simpa using h
def QvOk (P : Program) (w : World) (lim : Nat → Nat) (ca : Act) (o : Oper) (x : AV) : Prop := ∃ v, (execOp ca.eval o).run P w = .ok (.value v) w ∧ Rep w lim v x []
theorem rep_bool_inv {v : Value} {b : Bool} {o : List Nat} (h : Rep w lim v (.bool b) o) : v = .bool b := by cases h; rfl
theorem rep_int_inv {v : Value} {k : IntKind} {n : Int} {o : List Nat} (h : Rep w lim v (.int k n) o) : v = .int k n ∧ k.min ≤ n ∧ n ≤ k.max := by cases h; exact ⟨rfl, ‹_›, ‹_›⟩
theorem rep_str_inv {v : Value} {l : List UInt8} {o : List Nat} (h : Rep w lim v (.str l) o) : ∃ s : ByteArray, v = .string s ∧ s.data.toList = l ∧ s.size ≤ 140737488355328 := by cases h; exact ⟨_, rfl, rfl, ‹_›⟩
theorem rep_ptr_inv {v : Value} {a : Addr} {o : List Nat} (h : Rep w lim v (.ptr a) o) : v = .pointer (some a) := by cases h; rfl
theorem rep_lazy_inv {v : Value} {x : AV} {o : List Nat} (h : Rep w lim v (.lazy true x) o) : Rep w lim v x o := by cases h; assumption
def AV.num : AV → Int
  | .int _ n => n
  | _ => 0
theorem rep_ite {vp vq : Value} {p q b : Bool} (hp : b = true → Rep w lim vp (.bool p) []) (hq : b = false → Rep w lim vq (.bool q) []) :
    Rep w lim (if b then vp else vq) (.bool (if b then p else q)) [] := by
  cases b
  · simpa using hq rfl
  · simpa using hp rfl
theorem un_rep {v : Value} {x : AV} {os : List Nat} (h : Rep w lim v x os) : Rep w lim v (un x) os := by
  unfold un
  split
  · exact rep_lazy_inv h
  · exact h
theorem qv_pick {m : AMem} {a : Operand → AV} {ca : Act} {o : Oper} {c p q : Operand} (ho : o.op = .pick c p q) {side : Prop} {x : AV} (h : qv P m a (.pick c p q) = some (side, x)) (hs : side)
    (hc : Rep w lim (ca.eval c) (a c) []) (hp : Rep w lim (ca.eval p) (a p) []) (hq : Rep w lim (ca.eval q) (a q) []) : QvOk P w lim ca o x := by
  simp only [qv] at h
  replace hc := un_rep hc
  have fin : ∀ b : Bool, ca.eval c = .bool b → ∀ r, Rep w lim (if b then ca.eval p else ca.eval q) r [] → QvOk P w lim ca o r := fun b hb r hr =>
    ⟨if b then ca.eval p else ca.eval q, by cases b <;> simp [execOp, ho, hb, asBool], hr⟩
  split at h
  · next b p' q' hac hap haq =>
    obtain ⟨rfl, rfl⟩ := some_inj h
    rw [hac] at hc; rw [hap] at hp; rw [haq] at hq
    exact fin b (rep_bool_inv hc) _ (rep_ite (fun _ => hp) (fun _ => hq))
  · next b g p' q' hac hap haq =>
    obtain ⟨rfl, rfl⟩ := some_inj h
    rw [hac] at hc; rw [hap] at hp; rw [haq] at hq
    exact fin b (rep_bool_inv hc) _ (rep_ite (fun hb => by rw [hs hb] at hp; exact rep_lazy_inv hp) (fun _ => hq))
  · next b p' g q' hac hap haq =>
    obtain ⟨rfl, rfl⟩ := some_inj h
    rw [hac] at hc; rw [hap] at hp; rw [haq] at hq
    exact fin b (rep_bool_inv hc) _ (rep_ite (fun _ => hp) (fun hb => by rw [hs hb] at hq; exact rep_lazy_inv hq))
  · next b g p' g' q' hac hap haq =>
    obtain ⟨rfl, rfl⟩ := some_inj h
    rw [hac] at hc; rw [hap] at hp; rw [haq] at hq
    exact fin b (rep_bool_inv hc) _ (rep_ite (fun hb => by rw [hs.1 hb] at hp; exact rep_lazy_inv hp) (fun hb => by rw [hs.2 hb] at hq; exact rep_lazy_inv hq))
  · cases h
theorem qv_load {m : AMem} {a : Operand → AV} {ca : Act} {o : Oper} {t : TypeId} {y : Operand} (ho : o.op = .load t y) {side : Prop} {x : AV} (h : qv P m a (.load t y) = some (side, x)) (hs : side)
    (hy : Rep w lim (ca.eval y) (a y) []) (hm : ∀ b ob, m b = some ob → ∃ os, MRep w lim b ob os) : QvOk P w lim ca o x := by
  simp only [qv] at h
  split at h
  · rename_i l hal
    obtain ⟨rfl, rfl⟩ := some_inj h
    rw [hal] at hy
    generalize he : ca.eval y = e at hy
    cases hy with
    | ref b off l cv hl hc hr =>
      obtain ⟨v, h1, h2⟩ := load_sound (P := P) hs hc hr
      simp only [Nat.add_zero] at h1
      exact ⟨v, by simp [execOp, ho, he, Instr.loadAt, Instr.sureAddr, h1], h2⟩
  · rename_i b off hal
    rw [hal] at hy
    split at h
    · rename_i l hb
      obtain ⟨rfl, rfl⟩ := some_inj h
      obtain ⟨os, hM⟩ := hm _ _ hb
      obtain ⟨cs, e, oss, hbl, hsz, hr⟩ := mrep_cells_inv hM
      generalize he : ca.eval y = e at hy
      cases hy with
      | ptr =>
        obtain ⟨v, h1, h2⟩ := load_sound (P := P) (w := w) (lim := lim) (t := t) (b := b) (off := 0) (l := AV.plainL l) (f := fun i => cs.getD i undef) (k := off) (by simpa [apartOk, AV.plainL_eq] using hs)
          (fun i hi => by
            have hi' : i < cs.size := by simpa [AV.plainL_eq, hsz] using hi
            simp [World.cell?, hbl, Array.getD, hi'])
          (fun i hi => by rw [getD_map_plain]; exact (hr i (by simpa [AV.plainL_eq] using hi)).plain)
        simp only [Nat.zero_add] at h1
        refine ⟨v, by simp [execOp, ho, he, Instr.loadAt, Instr.sureAddr, h1], ?_⟩
        have : apart P t (AV.plainL l) off = (apart P t l off).plain := by
          unfold apart
          split
          · simp [AV.plain, AV.plainL_eq, List.map_drop, List.map_take]
          · rw [getD_map_plain]
        rw [← this]; exact h2
    · cases h
  · cases h
set_option maxHeartbeats 1000000 in
theorem qv_conv {m : AMem} {a : Operand → AV} {ca : Act} {o : Oper} {s d : TypeId} {y : Operand} (ho : o.op = .convert s d y) {side : Prop} {x : AV} (h : qv P m a (.convert s d y) = some (side, x)) (hs : side)
    (hy : Rep w lim (ca.eval y) (a y) []) : QvOk P w lim ca o x := by
  simp only [qv] at h
  generalize he : ca.eval y = e at hy
  split at h
  · rename_i k k' n hd hal
    obtain ⟨rfl, rfl⟩ := some_inj h
    rw [hal] at hy
    cases hy with
    | int _ _ lo hi =>
      cases hu : P.underlying s with
      | none => simp [isU, hu] at hs
      | some u =>
        refine ⟨.int k (k.wrap n), ?_, .int _ _ (wrap_min _ _).1 (wrap_min _ _).2⟩
        simp [execOp, ho, he, convert, run_und hu, run_und hd, Conv.intToInt]
  · rename_i l hd hal
    obtain ⟨rfl, rfl⟩ := some_inj h
    rw [hal] at hy
    cases hy with
    | str b hb =>
      cases hu : P.underlying s with
      | none => simp [isU, hu] at hs
      | some u =>
        refine ⟨.string b, ?_, .str b hb⟩
        simp [execOp, ho, he, convert, run_und hu, run_und hd]
  · rename_i own l hd hal
    obtain ⟨rfl, rfl⟩ := some_inj h
    obtain ⟨e', hu, hu8, hall⟩ := hs
    rw [hal] at hy
    have hy' := rep_slice_inv hy
    have hcu : ∀ (aa : Option Addr) (n c : Nat), (convert s d (.slice aa n c)).run P w = (Conv.bytesToString (.slice aa n c)).run P w := fun aa n c => run_convert_bytes_string w s d e' aa n c hu hu8 hd
    have hstr : ∀ bs : List UInt8, bs.length ≤ 140737488355328 → Rep w lim (.string ⟨bs.toArray⟩) (.str bs) [] := fun bs hb => by
      have := Rep.str (w := w) (lim := lim) ⟨bs.toArray⟩ (by simpa [ByteArray.size] using hb)
      simpa using this
    rcases rep_slice_cases hy' with ⟨rfl, rfl⟩ | ⟨rfl, aa, cap, rfl, _⟩ | ⟨b, off, cap, sz, cv, rfl, hcap, hm, hbig, hsz, hlim, hc, hr⟩
    · exact ⟨.string ⟨#[]⟩, by simp [execOp, ho, he, hcu, Conv.bytesToString]; rfl, hstr [] (by simp)⟩
    · have h0 := run_bytesToString (P := P) w aa 0 cap [] (by simp [loadCells, loadCellsFrom])
      refine ⟨.string ⟨#[]⟩, by simp [execOp, ho, he, hcu, h0]; rfl, hstr [] (by simp)⟩
    · have hel : ∀ i, i < l.length → (l.getD i .junk).cells = [l.getD i .junk] ∧ ∃ k : Int, l.getD i .junk = .int .u8 k := fun i hi => by
        have hmem : l.getD i .junk ∈ l := by simp [List.getD_eq_getElem?_getD, hi]
        obtain ⟨k, hk⟩ := hall _ hmem
        rw [hk]; exact ⟨rfl, k, rfl⟩
      have hsz1 : 0 < l.length → sz = 1 := fun hl => by rw [← hsz 0 hl, (hel 0 hl).1]; rfl
      have hcell : ∀ i, i < l.length → ∃ k : Int, w.cell? ⟨b, off + i, none⟩ = some (.int .u8 k) ∧ l.getD i .junk = .int .u8 k := fun i hi => by
        have hz := hsz1 (by omega)
        subst hz
        have h1 := hc i 0 hi (by omega)
        have h2 := hr i 0 hi (by omega)
        obtain ⟨hcells, k, hk⟩ := hel i hi
        rw [hcells] at h2
        simp only [List.getD_cons_zero, hk] at h2
        refine ⟨k, ?_, hk⟩
        have h3 : cv i 0 = .int .u8 k := (rep_int_inv h2).1
        rw [← h3]; simpa using h1
      have hcell' : ∀ i, i < l.length → w.cell? ⟨b, off + i, none⟩ = some (Value.int .u8 (l.getD i .junk).num) := fun i hi => by
        obtain ⟨k, h1, h2⟩ := hcell i hi
        rw [h2]; exact h1
      have hl := run_loadCells_fn (P := P) (w := w) b off l.length (fun i => Value.int .u8 (l.getD i .junk).num) hcell'
      have hmap : ((List.range l.length).map fun i => Value.int .u8 (l.getD i .junk).num) = ((List.range l.length).map fun i => (l.getD i .junk).num).map (Value.int .u8) := by
        rw [List.map_map]; rfl
      rw [hmap] at hl
      have h0 := run_bytesToString (P := P) w ⟨b, off, none⟩ l.length cap _ hl
      have hb : (List.range l.length).map (fun i => UInt8.ofNat (l.getD i .junk).num.toNat) = l.map byteOf := by
        apply List.ext_getElem?
        intro i
        by_cases hi : i < l.length
        · obtain ⟨k, h1, h2⟩ := hcell i hi
          simp only [List.getD_eq_getElem?_getD, List.getElem?_eq_getElem hi, Option.getD_some] at h2
          simp [hi, h2, byteOf, AV.num]
        · simp [hi]
      refine ⟨_, by simp only [execOp, ho, he, Sem.run_bind, hcu, h0]; rfl, ?_⟩
      rw [foldl_push_bytes, List.map_map]
      have e2 : ((fun n : Int => UInt8.ofNat n.toNat) ∘ fun i => (l.getD i .junk).num) = fun i => UInt8.ofNat (l.getD i .junk).num.toNat := rfl
      rw [e2, hb]
      have := hstr (l.map byteOf) (by simpa using hbig)
      simpa using this
  · cases h
end
end Go.Aw
end
section
namespace Go.Aw
open Go
section
variable {P : Program} {w : World} {lim : Nat → Nat}
theorem run_fieldPlace {b off : Nat} {f : Field} (hu : isU P f.type = true) (hn : P.cellsOf f.type ≠ 0) : (fieldPlace ⟨b, off, none⟩ f).run P w = .ok ⟨b, off + f.offset, none⟩ w := by
  simp [fieldPlace, run_size hu, hn, addr_add]
theorem getD_drop (l : List AV) (off i : Nat) : (l.drop off).getD i .junk = l.getD (off + i) .junk := by
  simp [List.getD_eq_getElem?_getD]
theorem qv_fieldAddr {m : AMem} {a : Operand → AV} {ca : Act} {o : Oper} {s : TypeId} {y : Operand} {f : Nat} (ho : o.op = .fieldAddr s y f) {side : Prop} {x : AV} (h : qv P m a (.fieldAddr s y f) = some (side, x)) (hs : side)
    (hy : Rep w lim (ca.eval y) (a y) []) : QvOk P w lim ca o x := by
  simp only [qv] at h
  generalize he : ca.eval y = e at hy
  split at h
  · next fs hfs =>
    split at h
    · next fd hfd =>
      split at h
      · next l hal =>
        obtain ⟨rfl, rfl⟩ := some_inj h
        obtain ⟨h1, h2, h3⟩ := hs
        rw [hal] at hy
        cases hy with
        | ref b off l cv hl hc hr =>
          refine ⟨.pointer (some ⟨b, off + fd.offset, none⟩), by simp [execOp, ho, he, Instr.fieldAt, run_und hfs, hfd, Instr.sureAddr, run_fieldPlace h1 h2], ?_⟩
          exact .ref b (off + fd.offset) (l.drop fd.offset) (fun i => cv (fd.offset + i)) (by simp; omega) (fun i hi => by
            simp at hi; rw [Nat.add_assoc]; exact hc _ (by omega)) (fun i hi => by simp at hi; rw [getD_drop]; exact hr _ (by omega))
      · next b off hal =>
        obtain ⟨rfl, rfl⟩ := some_inj h
        rw [hal] at hy
        have := rep_ptr_inv hy
        subst this
        exact ⟨.pointer (some ⟨b, off + fd.offset, none⟩), by simp [execOp, ho, he, Instr.fieldAt, run_und hfs, hfd, Instr.sureAddr, run_fieldPlace hs.1 hs.2], .ptr _⟩
      · cases h
    · cases h
  · cases h
theorem qv_field {m : AMem} {a : Operand → AV} {ca : Act} {o : Oper} {s : TypeId} {y : Operand} {f : Nat} (ho : o.op = .field s y f) {side : Prop} {x : AV} (h : qv P m a (.field s y f) = some (side, x)) (hs : side)
    (hy : Rep w lim (ca.eval y) (a y) []) : QvOk P w lim ca o x := by
  simp only [qv] at h
  generalize he : ca.eval y = e at hy
  split at h
  · next fs hfs =>
    split at h
    · next fd l hfd hal =>
      obtain ⟨rfl, rfl⟩ := some_inj h
      rw [hal] at hy
      obtain ⟨cs, rfl, h1, h2⟩ := rep_agg_inv hy
      obtain ⟨v, h3, h4⟩ := part_sound (P := P) hs h1 h2
      exact ⟨v, by simp [execOp, ho, he, Instr.field, run_und hfs, hfd, asAgg, h3], h4⟩
    · cases h
  · cases h
theorem rep_ms_inv {v : Value} {a : Addr} {n c : Nat} {o : List Nat} (h : Rep w lim v (.ms a n c) o) : v = .slice (some a) n c ∧ n ≤ c ∧ c ≤ maxLen := by cases h; exact ⟨rfl, ‹_›, ‹_›⟩
theorem qv_indexAddr {m : AMem} {a : Operand → AV} {ca : Act} {o : Oper} {t : TypeId} {y i : Operand} (ho : o.op = .indexAddr t y i) {side : Prop} {x : AV} (h : qv P m a (.indexAddr t y i) = some (side, x)) (hs : side)
    (hy : Rep w lim (ca.eval y) (a y) []) (hi : Rep w lim (ca.eval i) (a i) []) : QvOk P w lim ca o x := by
  simp only [qv] at h
  generalize he : ca.eval y = e at hy
  generalize hei : ca.eval i = ei at hi
  split at h
  · next el hel =>
    split at h
    · next own l k n hay hai =>
      obtain ⟨rfl, rfl⟩ := some_inj h
      obtain ⟨h1, h2, h3, h4, h5⟩ := hs
      rw [hay] at hy; rw [hai] at hi
      obtain ⟨rfl, _, _⟩ := rep_int_inv hi
      have hlt : n.toNat < l.length := by omega
      rcases rep_slice_cases (rep_slice_inv hy) with ⟨rfl, _⟩ | ⟨rfl, _⟩ | ⟨b, off, cap, sz, cv, rfl, hcap, hm, hbig, hsz, hlim, hc, hr⟩
      · simp at hlt
      · simp at hlt
      · have hz : sz = P.cellsOf el := by rw [← hsz _ hlt, h5]
        refine ⟨.pointer (some ⟨b, off + n.toNat * P.cellsOf el, none⟩), ?_, ?_⟩
        · simp [execOp, ho, he, hei, Instr.indexAt, asIntOf, run_und hel, h3, h4, run_size h1, addr_add]
        · refine .ref b _ _ (cv n.toNat) ?_ (fun j hj => ?_) (fun j hj => ?_)
          · rw [h5, hz.symm]
            have : n.toNat * sz + sz ≤ l.length * sz := by rw [← Nat.succ_mul]; exact Nat.mul_le_mul_right _ hlt
            omega
          · rw [h5, ← hz] at hj; rw [← hz]; exact hc _ j hlt hj
          · rw [h5, ← hz] at hj; exact hr _ j hlt hj
    · next b off len cap k n hay hai =>
      obtain ⟨rfl, rfl⟩ := some_inj h
      obtain ⟨h1, h3, h4⟩ := hs
      rw [hay] at hy; rw [hai] at hi
      obtain ⟨rfl, _, _⟩ := rep_int_inv hi
      obtain ⟨rfl, _, _⟩ := rep_ms_inv hy
      refine ⟨.pointer (some ⟨b, off + n.toNat * P.cellsOf el, none⟩), ?_, .ptr _⟩
      simp [execOp, ho, he, hei, Instr.indexAt, asIntOf, run_und hel, h3, h4, run_size h1, addr_add]
    · cases h
  · cases h
theorem qv_index {m : AMem} {a : Operand → AV} {ca : Act} {o : Oper} {t : TypeId} {y i : Operand} (ho : o.op = .index t y i) {side : Prop} {x : AV} (h : qv P m a (.index t y i) = some (side, x)) (hs : side)
    (hy : Rep w lim (ca.eval y) (a y) []) (hi : Rep w lim (ca.eval i) (a i) []) : QvOk P w lim ca o x := by
  simp only [qv] at h
  generalize he : ca.eval y = e at hy
  generalize hei : ca.eval i = ei at hi
  split at h
  · next l k n hu hay hai =>
    obtain ⟨rfl, rfl⟩ := some_inj h
    obtain ⟨h3, h4⟩ := hs
    rw [hay] at hy; rw [hai] at hi
    obtain ⟨rfl, _, _⟩ := rep_int_inv hi
    obtain ⟨s, rfl, rfl, hsz⟩ := rep_str_inv hy
    have hlt : n.toNat < s.data.size := by simp only [Array.length_toList] at h4; omega
    refine ⟨.int .u8 (s.data[n.toNat]).toNat, ?_, ?_⟩
    · have hg : s[n.toNat]? = some (s.data[n.toNat]) := by
        rw [getElem?_pos s n.toNat hlt]; rfl
      simp [execOp, ho, he, hei, Instr.index, asIntOf, run_und hu, h3, hg]
    · have e1 : s.data.toList.getD n.toNat 0 = s.data[n.toNat] := by rw [List.getD_eq_getElem?_getD, Array.getElem?_toList, Array.getElem?_eq_getElem hlt, Option.getD_some]
      rw [e1]
      have := (s.data[n.toNat]).toNat_lt
      exact .int .u8 _ (by simp [IntKind.min, IntKind.signed]) (by simp [IntKind.max, IntKind.signed, IntKind.bits]; omega)
  · cases h
theorem qv_extract {m : AMem} {a : Operand → AV} {ca : Act} {o : Oper} {y : Operand} {i : Nat} (ho : o.op = .extract y i) {side : Prop} {x : AV} (h : qv P m a (.extract y i) = some (side, x)) (hs : side)
    (hy : Rep w lim (ca.eval y) (a y) []) : QvOk P w lim ca o x := by
  simp only [qv] at h
  generalize he : ca.eval y = e at hy
  split at h
  · next l hal =>
    obtain ⟨rfl, rfl⟩ := some_inj h
    rw [hal] at hy
    obtain ⟨cs, rfl, h1, h2⟩ := rep_tuple_inv hy
    have hi : i < cs.size := by rw [h1]; exact hs
    refine ⟨cs.getD i undef, ?_, h2 i hs⟩
    simp [execOp, ho, he, Instr.extract, hi]
  · cases h
theorem asn_run {a : Operand → AV} {ca : Act} {lo : Option Operand} {d : Nat} {p : Int} (h : asn (lo.map a) d = some p) (hr : ∀ y, lo = some y → Rep w lim (ca.eval y) (a y) []) :
    (lo = none ∧ p = d) ∨ (∃ y k, lo = some y ∧ ca.eval y = .int k p) := by
  cases lo with
  | none => simp [asn] at h; exact .inl ⟨rfl, h.symm⟩
  | some y =>
    have := hr y rfl
    simp only [Option.map_some, asn] at h
    split at h
    · next hno => cases hno
    · next k n hay =>
      simp at h; subst h
      simp at hay
      rw [hay] at this
      exact .inr ⟨y, k, rfl, (rep_int_inv this).1⟩
    · cases h
theorem run_bounds (isSl : Bool) (len cap : Nat) {a : Operand → AV} {ca : Act} {lo hi : Option Operand} {p q : Int} (hp : asn (lo.map a) 0 = some p) (hq : asn (hi.map a) len = some q)
    (hlo : ∀ y, lo = some y → Rep w lim (ca.eval y) (a y) []) (hhi : ∀ y, hi = some y → Rep w lim (ca.eval y) (a y) []) (h0 : 0 ≤ p) (h1 : p ≤ q) (h2 : q ≤ cap) :
    (Instr.sliceBounds isSl len cap (lo.map ca.eval) (hi.map ca.eval) none).run P w = .ok (p.toNat, q.toNat, cap) w := by
  have e1 : (p ≤ (q.toNat : Int)) := by omega
  rcases asn_run hp hlo with ⟨rfl, rfl⟩ | ⟨y, k, rfl, hy⟩ <;> rcases asn_run hq hhi with ⟨rfl, rfl⟩ | ⟨y', k', rfl, hy'⟩
  · simp [Instr.sliceBounds]
  · simp [Instr.sliceBounds, Instr.sliceBound, hy', asIntOf, show 0 ≤ q from by omega, h2]
  · simp [Instr.sliceBounds, Instr.sliceBound, hy, asIntOf, h0, h1]
  · have e2 : ((q.toNat : Nat) : Int) = q := by omega
    simp only [Instr.sliceBounds, Instr.sliceBound, Option.map_some, Sem.run_bind, Sem.run_pure, Result.andThen_ok, hy, hy', asIntOf, Sem.run_ite, e2, h0, h1, h2, show 0 ≤ q from by omega, and_self, if_true]
theorem qv_slice {m : AMem} {a : Operand → AV} {ca : Act} {o : Oper} {t : TypeId} {y : Operand} {lo hi : Option Operand} (ho : o.op = .slice t y lo hi none) {side : Prop} {x : AV} (h : qv P m a (.slice t y lo hi none) = some (side, x)) (hs : side)
    (hy : Rep w lim (ca.eval y) (a y) []) (hlo : ∀ y, lo = some y → Rep w lim (ca.eval y) (a y) []) (hhi : ∀ y, hi = some y → Rep w lim (ca.eval y) (a y) []) : QvOk P w lim ca o x := by
  simp only [qv] at h
  generalize he : ca.eval y = e at hy
  split at h
  · next l hu hay =>
    split at h
    · next p q hp hq =>
      obtain ⟨rfl, rfl⟩ := some_inj h
      obtain ⟨h0, h1, h2⟩ := hs
      rw [hay] at hy
      obtain ⟨s, rfl, rfl, hsz⟩ := rep_str_inv hy
      have hb := run_bounds (P := P) (w := w) false s.size s.size hp (by simpa using hq) hlo hhi h0 h1 (by simpa using h2)
      refine ⟨.string (s.extract p.toNat q.toNat), ?_, ?_⟩
      · simp [execOp, ho, he, Instr.sliceAt, Instr.slice, run_und hu, hb]
      · have := Rep.str (w := w) (lim := lim) (s.extract p.toNat q.toNat) (by simp; omega)
        have e2 : (s.extract p.toNat q.toNat).data.toList = (s.data.toList.drop p.toNat).take (q - p).toNat := by
          simp [show q.toNat - p.toNat = (q - p).toNat from by omega]
        rw [e2] at this; exact this
    · cases h
  · next el own l hu hay =>
    split at h
    · next p q hp hq =>
      obtain ⟨rfl, rfl⟩ := some_inj h
      obtain ⟨hU, h0, h1, h2, hall⟩ := hs
      rw [hay] at hy
      rcases rep_slice_cases (rep_slice_inv hy) with ⟨rfl, rfl⟩ | ⟨rfl, aa, cap, rfl, hm⟩ | ⟨b, off, cap, sz, cv, rfl, hcap, hm, hbig, hsz, hlim, hc, hr⟩
      · have hb := run_bounds (P := P) (w := w) true 0 0 hp (by simpa using hq) hlo hhi h0 h1 (by simpa using h2)
        have e1 : p.toNat = 0 := by simp at h2; omega
        have e2 : q.toNat = 0 := by simp at h2; omega
        refine ⟨.slice none 0 0, ?_, by simpa using Rep.nils false⟩
        simp [execOp, ho, he, Instr.sliceAt, Instr.slice, run_und hu, hb, run_size hU, e1, e2]
      · have hb := run_bounds (P := P) (w := w) true 0 cap hp (by simpa using hq) hlo hhi h0 h1 (by simp at h2; omega)
        have e1 : p.toNat = 0 := by simp at h2; omega
        have e2 : q.toNat = 0 := by simp at h2; omega
        refine ⟨_, by simp only [execOp, ho, he, Option.map_none, Instr.sliceAt, Instr.slice, run_und hu, Sem.run_bind, Result.andThen_ok, hb, run_size hU]; rfl, ?_⟩
        simp only [e1, e2, List.drop_nil, List.take_nil, Nat.sub_self]
        split
        · exact .empty _ _ (by omega)
        · simp; exact .empty _ _ (by omega)
      · have hb := run_bounds (P := P) (w := w) true l.length cap hp hq hlo hhi h0 h1 (by omega)
        have hn : q.toNat - p.toNat = (q - p).toNat := by omega
        have hlen : ((l.drop p.toNat).take (q - p).toNat).length = (q - p).toNat := by simp; omega
        have hgd : ∀ i, i < (q - p).toNat → ((l.drop p.toNat).take (q - p).toNat).getD i .junk = l.getD (p.toNat + i) .junk := fun i hi => getD_drop_take _ _ _ _ hi
        by_cases hpc : cap = p.toNat
        · subst hpc
          have hz : (q - p).toNat = 0 := by omega
          refine ⟨.slice (some ⟨b, off, none⟩) 0 0, ?_, ?_⟩
          · simp [execOp, ho, he, Instr.sliceAt, Instr.slice, run_und hu, hb, run_size hU, hn, hz]
          · rw [hz]; exact .empty _ _ (by omega)
        · refine ⟨.slice (some ⟨b, off + p.toNat * P.cellsOf el, none⟩) (q - p).toNat (cap - p.toNat), ?_, ?_⟩
          · simp [execOp, ho, he, Instr.sliceAt, Instr.slice, run_und hu, hb, run_size hU, hn, hpc, addr_add]
          · by_cases hz : (q - p).toNat = 0
            · rw [hz]; exact .empty _ _ (by omega)
            · have hszE : sz = P.cellsOf el := by
                have h0l : 0 < l.length := by omega
                rw [← hsz 0 h0l]
                exact hall _ (by simp [List.getD_eq_getElem?_getD, h0l])
              subst hszE
              have hmul : p.toNat * P.cellsOf el + (q - p).toNat * P.cellsOf el ≤ l.length * P.cellsOf el := by
                rw [← Nat.add_mul]; exact Nat.mul_le_mul_right _ (by omega)
              refine .slice b _ _ _ (P.cellsOf el) _ (fun i j => cv (p.toNat + i) j) hlen (by omega) (by omega) (by omega) (fun i hi => by rw [hgd i hi]; exact hsz _ (by omega)) (by omega)
                (fun i j hi hj => ?_) (fun i j hi hj => by rw [hgd i hi]; exact hr _ j (by omega) hj)
              have := hc (p.toNat + i) j (by omega) hj
              rw [Nat.add_mul, ← Nat.add_assoc] at this
              exact this
    · cases h
  · next el b off len cap hu hay =>
    split at h
    · next p q hp hq =>
      obtain ⟨rfl, rfl⟩ := some_inj h
      obtain ⟨hU, h0, h1, h2⟩ := hs
      rw [hay] at hy
      obtain ⟨rfl, hlc, hcm⟩ := rep_ms_inv hy
      have hb := run_bounds (P := P) (w := w) true len cap hp hq hlo hhi h0 h1 (by omega)
      have hn : q.toNat - p.toNat = (q - p).toNat := by omega
      by_cases h3 : ¬ p < cap
      · rw [if_neg h3]
        have hpc : cap = p.toNat := by omega
        have hz : (q - p).toNat = 0 := by omega
        refine ⟨.slice (some ⟨b, off, none⟩) 0 0, ?_, .nilS _⟩
        have hpt : (cap = p.toNat) = True := eq_true hpc
        have hc0 : cap - p.toNat = 0 := by omega
        simp only [execOp, ho, he, Instr.sliceAt, Instr.slice, Sem.run_bind, run_und hu, hb, run_size hU, hn, hz, hpt, hc0, Result.andThen_ok, Sem.run_pure, if_true]
        simp [hb, run_size hU, hn, hz, hpt, hc0]
      rw [if_pos (Decidable.not_not.1 h3)]
      have hpc : ¬ cap = p.toNat := by omega
      refine ⟨.slice (some ⟨b, off + p.toNat * P.cellsOf el, none⟩) (q - p).toNat (cap - p.toNat), ?_, .ms _ _ _ (by omega) (by omega)⟩
      simp [execOp, ho, he, Instr.sliceAt, Instr.slice, run_und hu, hb, run_size hU, hn, hpc, addr_add]
    · cases h
  · cases h
theorem mrep_map_inv {b : Nat} {l : List (AV × AV)} {os : Nat → List Nat} (h : MRep w lim b (.map l) os) : ∃ (es : Array MapEntry) (clock : Nat), w.heap[b]? = some (.map es clock) ∧ es.size = l.length ∧ l.length ≤ 140737488355328 ∧
    (∀ i, i < l.length → Rep w lim (es.getD i default).key (l.getD i (.junk, .junk)).1 []) ∧ (∀ i, i < l.length → Rep w lim (es.getD i default).val (l.getD i (.junk, .junk)).2 []) ∧
    (∀ i j, i < j → j < l.length → (es.getD i default).born < (es.getD j default).born) ∧ (∀ i, i < l.length → (es.getD i default).born < clock) := by
  cases h with
  | map es clock l hb hs hbig hk hv h1 h2 _ => exact ⟨es, clock, hb, hs, hbig, hk, hv, h1, h2⟩
theorem run_getObj_map {b : Nat} {es : Array MapEntry} {clock : Nat} (h : w.heap[b]? = some (.map es clock)) : (getObj b).run P w = .ok (.map es clock) w := by
  simp [getObj, Sem.run, h]
theorem qv_len {m : AMem} {a : Operand → AV} {ca : Act} {o : Oper} {args : Array Operand} {ts : Array TypeId} (ho : o.op = .call ⟨.builtin .len, args, ts⟩) {side : Prop} {x : AV}
    (h : qv P m a (.call ⟨.builtin .len, args, ts⟩) = some (side, x)) (hs : side)
    (hr : ∀ y ∈ args.toList, Rep w lim (ca.eval y) (a y) []) (hm : ∀ b ob, m b = some ob → ∃ os, MRep w lim b ob os) : QvOk P w lim ca o x := by
  simp only [qv] at h
  split at h
  · next y t hay hat =>
    have hy := hr y (by rw [Array.mem_toList_iff]; exact Array.mem_of_getElem? hay)
    generalize he : ca.eval y = e at hy
    have hargs : (args.map ca.eval)[0]? = some e := by simp [hay, he]
    have fin : ∀ v, (Builtin.len_ ts o.type (args.map ca.eval)).run P w = .ok v w → ∀ x, Rep w lim v x [] → QvOk P w lim ca o x := fun v h1 x h2 =>
      ⟨v, by simp [execOp, ho, resolve, invoke, builtin, h1], h2⟩
    have big : ∀ n : Nat, n ≤ 140737488355328 → Rep w lim (goInt n) (.int .i64 n) [] := fun n hn =>
      .int .i64 n (by simp [IntKind.min, IntKind.signed, IntKind.bits]) (by simp [IntKind.max, IntKind.signed, IntKind.bits]; omega)
    split at h
    · next l hu hal =>
      obtain ⟨rfl, rfl⟩ := some_inj h
      rw [hal] at hy
      obtain ⟨s, rfl, rfl, hsz⟩ := rep_str_inv hy
      refine fin (goInt s.size) (by simp [Builtin.len_, hat, hargs, run_und hu]) _ ?_
      have := big s.size hsz
      simpa using this
    · next el own l hu hal =>
      obtain ⟨rfl, rfl⟩ := some_inj h
      rw [hal] at hy
      obtain ⟨aa, cap, rfl, hl⟩ := rep_slice_len (rep_slice_inv hy)
      exact fin (goInt l.length) (by simp [Builtin.len_, hat, hargs, run_und hu]) _ (big _ hl)
    · next el p n c hu hal =>
      obtain ⟨rfl, rfl⟩ := some_inj h
      rw [hal] at hy
      obtain ⟨rfl, _, _⟩ := rep_ms_inv hy
      exact fin (goInt n) (by simp [Builtin.len_, hat, hargs, run_und hu]) _ (.int .i64 n (by simp [IntKind.min, IntKind.signed, IntKind.bits]) (by simp [IntKind.max, IntKind.signed, IntKind.bits]; omega))
    · next el hu hal =>
      obtain ⟨rfl, rfl⟩ := some_inj h
      rw [hal] at hy
      have : ∃ a0, e = .slice a0 0 0 := by cases hy; exact ⟨_, rfl⟩
      obtain ⟨a0, rfl⟩ := this
      exact fin (goInt 0) (by simp [Builtin.len_, hat, hargs, run_und hu]) _ (by simpa using big 0 (by omega))
    · next kt et hu hal =>
      obtain ⟨rfl, rfl⟩ := some_inj h
      rw [hal] at hy
      have : e = .map none := by cases hy; rfl
      subst this
      exact fin (goInt 0) (by simp [Builtin.len_, hat, hargs, run_und hu]) _ (by simpa using big 0 (by omega))
    · next kt et b hu hal =>
      split at h
      · next l hb =>
        obtain ⟨rfl, rfl⟩ := some_inj h
        rw [hal] at hy
        have : e = .map (some b) := by cases hy; rfl
        subst this
        obtain ⟨os, hM⟩ := hm _ _ hb
        obtain ⟨es, clock, h1, h2, h3, _⟩ := mrep_map_inv hM
        exact fin (goInt l.length) (by simp [Builtin.len_, hat, hargs, run_und hu, run_getObj_map h1, h2]) _ (big _ h3)
      · cases h
    · cases h
  · cases h
theorem run_zero {t : TypeId} {v : Value} (h : (P.info? t).bind (·.zero) = some v) : (zeroValue t).run P w = .ok v w := by
  cases hi : P.info? t with
  | none => simp [hi] at h
  | some i => simp [hi] at h; simp [zeroValue, typeInfo, hi, h]
theorem qv_sound {m : AMem} {a : Operand → AV} {ca : Act} {o : Oper} {side : Prop} {x : AV} (h : qv P m a o.op = some (side, x)) (hs : side)
    (hr : ∀ y ∈ o.op.operands.toList, Rep w lim (ca.eval y) (a y) []) (hm : ∀ b ob, m b = some ob → ∃ os, MRep w lim b ob os) : QvOk P w lim ca o x := by
  cases ho : o.op with
  | move y =>
    rw [ho] at h hr
    obtain ⟨rfl, rfl⟩ := some_inj h
    exact ⟨_, by simp [execOp, ho], hr y (by simp [Op.operands])⟩
  | assign y =>
    rw [ho] at h hr
    obtain ⟨rfl, rfl⟩ := some_inj h
    exact ⟨_, by simp [execOp, ho], hr y (by simp [Op.operands])⟩
  | pick c p q => rw [ho] at h hr; exact qv_pick ho h hs (hr c (by simp [Op.operands])) (hr p (by simp [Op.operands])) (hr q (by simp [Op.operands]))
  | load t y => rw [ho] at h hr; exact qv_load ho h hs (hr y (by simp [Op.operands])) hm
  | nilCheck y =>
    rw [ho] at h hr
    have hy := hr y (by simp [Op.operands])
    generalize he : ca.eval y = e at hy
    simp only [qv] at h
    split at h
    · next l hal =>
      obtain ⟨rfl, rfl⟩ := some_inj h
      rw [hal] at hy
      cases hy with
      | ref b off l cv hl hc hr => exact ⟨_, by simp only [execOp, ho, he, Sem.run_pure], .ref b off l cv hl hc hr⟩
    · next p hal =>
      obtain ⟨rfl, rfl⟩ := some_inj h
      rw [hal] at hy
      obtain rfl := rep_ptr_inv hy
      exact ⟨_, by simp only [execOp, ho, he, Sem.run_pure], .ptr p⟩
    · next f b c hal =>
      obtain ⟨rfl, rfl⟩ := some_inj h
      rw [hal] at hy
      cases hy with
      | func fn fa ca' fl cl h1 h2 h3 h4 => exact ⟨.func (.func f) fa ca', by simp only [execOp, ho, he, Sem.run_pure], .func _ fa ca' b c h1 ‹_› h3 h4⟩
    · cases h
  | binOp op t y z t2 =>
    rw [ho] at h hr
    obtain ⟨v, h1, h2⟩ := anil_sound (P := P) (w := w) (lim := lim) h hs (hr y (by simp [Op.operands])) (hr z (by simp [Op.operands]))
    exact ⟨v, by simp only [execOp, ho, Sem.run_bind, Result.andThen_ok] at h1 ⊢; rw [h1]; rfl, h2⟩
  | unOp op t y =>
    rw [ho] at h hr
    have hy := hr y (by simp [Op.operands])
    generalize he : ca.eval y = e at hy
    simp only [qv] at h
    split at h
    · next b hal =>
      obtain ⟨rfl, rfl⟩ := some_inj h
      rw [hal] at hy
      obtain rfl := rep_bool_inv hy
      exact ⟨_, by simp only [execOp, ho, he, Op.unary, Sem.run_bind, Sem.run_pure, Result.andThen_ok], .bool _⟩
    · next k n hal =>
      obtain ⟨rfl, rfl⟩ := some_inj h
      rw [hal] at hy
      obtain ⟨rfl, _, _⟩ := rep_int_inv hy
      exact ⟨_, by simp only [execOp, ho, he, Op.unary, Op.intArith, Sem.run_bind, Sem.run_pure, Result.andThen_ok], .int _ _ (wrap_min _ _).1 (wrap_min _ _).2⟩
    · cases h
  | convert s d y => rw [ho] at h hr; exact qv_conv ho h hs (hr y (by simp [Op.operands]))
  | makeInterface t y =>
    rw [ho] at h hr
    have hy := hr y (by simp [Op.operands])
    simp only [qv] at h
    split at h
    · cases h
    · next d hnd hu =>
      obtain ⟨rfl, rfl⟩ := some_inj h
      refine ⟨.iface t (ca.eval y), ?_, .iface _ _ _ hy⟩
      cases d <;> first | exact (hnd _ rfl).elim | simp [execOp, ho, Instr.makeInterface, run_und hu]
    · cases h
  | fieldAddr s y f => rw [ho] at h hr; exact qv_fieldAddr ho h hs (hr y (by simp [Op.operands]))
  | field s y f => rw [ho] at h hr; exact qv_field ho h hs (hr y (by simp [Op.operands]))
  | indexAddr t y i => rw [ho] at h hr; exact qv_indexAddr ho h hs (hr y (by simp [Op.operands])) (hr i (by simp [Op.operands]))
  | index t y i => rw [ho] at h hr; exact qv_index ho h hs (hr y (by simp [Op.operands])) (hr i (by simp [Op.operands]))
  | extract y i => rw [ho] at h hr; exact qv_extract ho h hs (hr y (by simp [Op.operands]))
  | slice t y lo hi mx =>
    cases mx with
    | some z => rw [ho] at h; simp [qv] at h
    | none =>
      rw [ho] at h hr
      exact qv_slice ho h hs (hr y (by simp [Op.operands])) (fun z hz => hr z (by simp [Op.operands, hz])) (fun z hz => hr z (by simp [Op.operands, hz]))
  | typeAssert y t u ok =>
    cases ok with
    | false => rw [ho] at h; simp [qv] at h
    | true =>
      rw [ho] at h hr
      have hy := hr y (by simp [Op.operands])
      generalize he : ca.eval y = e at hy
      simp only [qv] at h
      split at h
      · cases h
      · next d z u' v hnd hu hal =>
        split at h
        · next heq =>
          subst heq
          obtain ⟨rfl, rfl⟩ := some_inj h
          rw [hal] at hy
          cases hy with
          | iface _ vv _ hv =>
            refine ⟨.tuple #[vv, .bool true], ?_, ?_⟩
            · cases d <;> first | exact (hnd _ _ rfl).elim | exact (hnd _ rfl).elim | simp [execOp, ho, he, Instr.typeAssert, run_und hu]
            · have := Rep.tuple (w := w) (lim := lim) #[vv, .bool true] [v, .bool true] (fun _ => []) (by simp) (fun i hi => by
                have : i = 0 ∨ i = 1 := by simp at hi; omega
                rcases this with rfl | rfl
                · exact hv
                · exact .bool true)
              rw [flatMap_nil] at this
              exact this
        · cases h
      · next d z u' e hnd hu hal =>
        split at h
        · next heq =>
          subst heq
          obtain ⟨rfl, rfl⟩ := some_inj h
          rw [hal] at hy
          have tup : ∀ (n : Int) (b : Bool), IntKind.i64.min ≤ n → n ≤ IntKind.i64.max → Rep w lim (.tuple #[.int .i64 n, .bool b]) (.tuple [.int .i64 n, .bool b]) [] := fun n b lo hi => by
            have := Rep.tuple (w := w) (lim := lim) #[.int .i64 n, .bool b] [.int .i64 n, .bool b] (fun _ => []) (by simp) (fun i hi => by
              have : i = 0 ∨ i = 1 := by simp at hi; omega
              rcases this with rfl | rfl
              · exact .int _ _ lo ‹_›
              · exact .bool b)
            rw [flatMap_nil] at this
            exact this
          cases hy with
          | errN _ =>
            refine ⟨.tuple #[.int .i64 0, .bool false], ?_, tup 0 false (by decide) (by decide)⟩
            cases d <;> first | exact (hnd _ _ rfl).elim | exact (hnd _ rfl).elim | (simp only [execOp, ho, he, Instr.typeAssert, Sem.run_bind, run_und hu, Result.andThen_ok, if_true, run_zero hs]; rfl)
          | errS _ _ h0 lo hi =>
            refine ⟨.tuple #[.int .i64 e, .bool true], ?_, (show (!(e == 0)) = true from by simp [h0]) ▸ tup e true lo hi⟩
            cases d <;> first | exact (hnd _ _ rfl).elim | exact (hnd _ rfl).elim | simp [execOp, ho, he, Instr.typeAssert, run_und hu]
        · cases h
      · cases h
  | call c =>
    obtain ⟨cal, args, ts⟩ := c
    rw [ho] at h hr
    cases cal with
    | value f => simp [qv] at h
    | invoke r n => simp [qv] at h
    | builtin b =>
      have hr' : ∀ y ∈ args.toList, Rep w lim (ca.eval y) (a y) [] := fun y hy => hr y (by simpa [Op.operands, Call.operands] using hy)
      cases b with
      | len => exact qv_len ho h hs hr' hm
      | max =>
        simp only [qv] at h
        split at h
        · next y z hyz =>
          have hy := hr' y (by rw [hyz]; simp)
          have hz := hr' z (by rw [hyz]; simp)
          split at h
          · next k p k' q hay haz =>
            split at h
            · next hk =>
              subst hk
              obtain ⟨rfl, rfl⟩ := some_inj h
              rw [hay] at hy; rw [haz] at hz
              obtain ⟨e1, l1, u1⟩ := rep_int_inv hy
              obtain ⟨e2, l2, u2⟩ := rep_int_inv hz
              have hargs : (args.map ca.eval).toList = [.int k p, .int k q] := by simp [hyz, e1, e2]
              refine ⟨.int k (if q > p then q else p), ?_, ?_⟩
              · simp [execOp, ho, resolve, invoke, builtin, Builtin.max_, hyz, e1, e2, Builtin.max2]
              · by_cases hc : q > p
                · rw [if_pos hc]; exact .int k q l2 u2
                · rw [if_neg hc]; exact .int k p l1 u1
            · cases h
          · cases h
        · cases h
      | min =>
        simp only [qv] at h
        split at h
        · next y z hyz =>
          have hy := hr' y (by rw [hyz]; simp)
          have hz := hr' z (by rw [hyz]; simp)
          split at h
          · next k p k' q hay haz =>
            split at h
            · next hk =>
              subst hk
              obtain ⟨rfl, rfl⟩ := some_inj h
              rw [hay] at hy; rw [haz] at hz
              obtain ⟨e1, l1, u1⟩ := rep_int_inv hy
              obtain ⟨e2, l2, u2⟩ := rep_int_inv hz
              have hargs : (args.map ca.eval).toList = [.int k p, .int k q] := by simp [hyz, e1, e2]
              refine ⟨.int k (if q < p then q else p), ?_, ?_⟩
              · simp [execOp, ho, resolve, invoke, builtin, Builtin.min_, hyz, e1, e2, Builtin.min2]
              · by_cases hc : q < p
                · rw [if_pos hc]; exact .int k q l2 u2
                · rw [if_neg hc]; exact .int k p l1 u1
            · cases h
          · cases h
        · cases h
      | _ => simp [qv] at h
  | _ => rw [ho] at h; simp [qv] at h
end
end Go.Aw
end
section
namespace Go.Aw
open Go
def okOper (n : Nat) (o : Oper) : Bool := (match o.dst with | some d => decide (d < n) | none => true) && o.op.operands.toList.all opdOk
def AOps (P : Program) (n : Nat) (ops : Array Oper) (l : List Oper) (K : Fr → AMem → Prop) (fr : Fr) (m : AMem) : Prop :=
  ∀ F lim w ca Q, St F lim w n fr m ca [] → (∀ lim' w' fr' m' ca', K fr' m' → St F lim' w' n fr' m' ca' [] → Pres F w lim w' lim' → Q Exit.normal ca' w') → wpList P ops Q l ca w
def APost (F : Nat → Prop) (lim : Nat → Nat) (w : World) (n : Nat) (Q : Exit → Fr → AMem → Prop) : Exit → Act → World → Prop :=
  fun e ca' w' => ∃ lim' fr' m', Q e fr' m' ∧ St F lim' w' n fr' m' ca' [] ∧ Pres F w lim w' lim'
def AWP (P : Program) (n : Nat) (c : Code) (Q : Exit → Fr → AMem → Prop) (fr : Fr) (m : AMem) : Prop :=
  ∀ F lim w ca, St F lim w n fr m ca [] → c.wp P (APost F lim w n Q) ca w
def AThen (next : Fr → AMem → Prop) (Q : Exit → Fr → AMem → Prop) : Exit → Fr → AMem → Prop
  | .normal, fr, m => next fr m
  | e, fr, m => Q e fr m
def AInBlock (id : Nat) (Q : Exit → Fr → AMem → Prop) : Exit → Fr → AMem → Prop
  | .exit id', fr, m => if id' = id then Q .normal fr m else Q (.exit id') fr m
  | e, fr, m => Q e fr m
def noAct : Act := ⟨#[], []⟩
def ACalls (P : Program) (f : FuncId) (args : List AV) (m : AMem) (K : AV → AMem → Prop) : Prop :=
  (∃ fn, P.funcs[f]? = some fn ∧ fn.body.isSome = true ∧ (fn.name == "runtime.NumGoroutine") = false) ∧
  ∀ F lim w (cargs : Array Value), cargs.size = args.length → (∀ i, i < args.length → Rep w lim (cargs.getD i undef) (args.getD i .junk) []) → St F lim w 0 [] m noAct [] →
    Calls P f cargs w fun e w' => ∃ v x lim' m' os, e = .returned v ∧ K x m' ∧ Rep w' lim' v x os ∧ St F lim' w' 0 [] m' noAct os ∧ Pres F w lim w' lim'
theorem ACalls.mono {P : Program} {f : FuncId} {args : List AV} {m : AMem} {K K' : AV → AMem → Prop} (h : ACalls P f args m K) (hk : ∀ x m', K x m' → K' x m') : ACalls P f args m K' :=
  ⟨h.1, fun F lim w cargs h1 h2 h3 => (h.2 F lim w cargs h1 h2 h3).mono fun e w' ⟨v, x, lim', m', os, he, hK, r⟩ => ⟨v, x, lim', m', os, he, hk _ _ hK, r⟩⟩
section
variable {P : Program} {n : Nat} {Q : Exit → Fr → AMem → Prop} {fr : Fr} {m : AMem}
theorem AWP.mono {c : Code} {Q' : Exit → Fr → AMem → Prop} (h : AWP P n c Q fr m) (hq : ∀ e fr m, Q e fr m → Q' e fr m) : AWP P n c Q' fr m :=
  fun F lim w ca st => wp_mono (h F lim w ca st) fun e a w ⟨lim', fr', m', q, r⟩ => ⟨lim', fr', m', hq _ _ _ q, r⟩
theorem APost.from {F : Nat → Prop} {lim lim' : Nat → Nat} {w w' : World} (hp : Pres F w lim w' lim') {e : Exit} {a : Act} {w'' : World} (h : APost F lim' w' n Q e a w'') : APost F lim w n Q e a w'' := by
  obtain ⟨l, f, m, q, st, pr⟩ := h
  exact ⟨l, f, m, q, st, hp.trans pr⟩
theorem awp_skip (h : Q .normal fr m) : AWP P n .skip Q fr m := fun F lim w ca st => wp_skip ⟨lim, fr, m, h, st, .refl _ _ _⟩
theorem awp_ret (h : Q .ret fr m) : AWP P n .ret Q fr m := fun F lim w ca st => wp_ret ⟨lim, fr, m, h, st, .refl _ _ _⟩
theorem awp_exit {id : Nat} (h : Q (.exit id) fr m) : AWP P n (.exit id) Q fr m := fun F lim w ca st => wp_exit ⟨lim, fr, m, h, st, .refl _ _ _⟩
theorem awp_seq {x y : Code} (h : AWP P n x (AThen (AWP P n y Q) Q) fr m) : AWP P n (.seq x y) Q fr m := fun F lim w ca st =>
  wp_seq (wp_mono (h F lim w ca st) fun e a w' ⟨lim', fr', m', q, st', pr⟩ => by
    cases e with
    | normal => exact wp_mono (q F lim' w' a st') fun e a w'' h => h.from pr
    | _ => exact ⟨lim', fr', m', q, st', pr⟩)
theorem awp_seq_k {x y : Code} (h : ∀ K : Fr → AMem → Prop, (∀ fr m, AWP P n y Q fr m → K fr m) → AWP P n x (AThen K Q) fr m) : AWP P n (.seq x y) Q fr m :=
  awp_seq (h _ fun _ _ h => h)
theorem awp_block {id : Nat} {c : Code} (h : AWP P n c (AInBlock id Q) fr m) : AWP P n (.block id c) Q fr m := fun F lim w ca st =>
  wp_block (wp_mono (h F lim w ca st) fun e a w' ⟨lim', fr', m', q, st', pr⟩ => by
    cases e with
    | exit id' =>
      simp only [Exit.inBlock, AInBlock] at q ⊢
      split at q
      · rename_i h; rw [if_pos h]; exact ⟨lim', fr', m', q, st', pr⟩
      · rename_i h; rw [if_neg h]; exact ⟨lim', fr', m', q, st', pr⟩
    | _ => exact ⟨lim', fr', m', q, st', pr⟩)
theorem awp_cond {c : Operand} {x y : Code} {b : Bool} (hc : ev fr c = .bool b) (hk : opdOk c = true) (ht : b = true → AWP P n x Q fr m) (hf : b = false → AWP P n y Q fr m) : AWP P n (.cond c x y) Q fr m := fun F lim w ca st => by
  obtain ⟨_, hr, rfl⟩ := ev_rep st hk
  rw [hc] at hr
  exact wp_cond_split (rep_bool_inv hr) (fun h => ht h F lim w ca st) (fun h => hf h F lim w ca st)
theorem awp_region {id : Nat} {ops : Array Oper} (ks : List Nat) (hks : (ks.all fun t => decide (t < n)) = true) (h : AOps P n ops ops.toList (fun fr m => Q .normal (fr.keep ks) m) fr m) : AWP P n (.region id ops false) Q fr m := fun F lim w ca st =>
  wp_region_list (h F lim w ca _ st fun lim' w' fr' m' ca' q st' pr => ⟨lim', _, m', q, st'.keep (by simpa using hks), pr⟩)
theorem AOps.nil {ops : Array Oper} {K : Fr → AMem → Prop} (h : K fr m) : AOps P n ops [] K fr m := fun F lim w ca Q st hq => wpList_nil (hq lim w fr m ca h st (.refl _ _ _))
theorem AOps.from {ops : Array Oper} {l : List Oper} {K : Fr → AMem → Prop} {fr' : Fr} {m' : AMem} (h : AOps P n ops l K fr' m') {F : Nat → Prop} {lim lim' : Nat → Nat} {w w' : World} {ca' : Act} {Q : Exit → Act → World → Prop}
    (hq : ∀ lim' w' fr' m' ca', K fr' m' → St F lim' w' n fr' m' ca' [] → Pres F w lim w' lim' → Q Exit.normal ca' w') (st : St F lim' w' n fr' m' ca' []) (pr : Pres F w lim w' lim') : wpList P ops Q l ca' w' :=
  h F lim' w' ca' Q st fun lim'' w'' fr'' m'' ca'' hk st' pr' => hq lim'' w'' fr'' m'' ca'' hk st' (pr.trans pr')
theorem AOps.step {ops : Array Oper} {o : Oper} {l : List Oper} {K : Fr → AMem → Prop} (hg : o.guard = none)
    (h : ∀ F lim w ca, St F lim w n fr m ca [] → ∀ (next : Act → World → Prop) Q, (∀ lim' w' fr' m' ca', AOps P n ops l K fr' m' → St F lim' w' n fr' m' ca' [] → Pres F w lim w' lim' → next ca' w') → o.wp P ca w next Q) : AOps P n ops (o :: l) K fr m :=
  fun F lim w ca Q st hq => wpList_plain hg fun next hn => h F lim w ca st next Q fun _ _ _ _ _ hr st' pr => hn _ _ (hr.from hq st' pr)
theorem wp_of_value {o : Oper} {ca : Act} {w w' : World} {v : Value} {next : Act → World → Prop} {Q : Exit → Act → World → Prop} (h : (execOp ca.eval o).run P w = .ok (.value v) w') (hn : next (ca.put o.dst v) w') : o.wp P ca w next Q := by
  unfold Oper.wp; rw [h]; exact hn
theorem wp_of_skip {o : Oper} {ca : Act} {w w' : World} {next : Act → World → Prop} {Q : Exit → Act → World → Prop} (h : (execOp ca.eval o).run P w = .ok .skip w') (hn : next (ca.put o.dst undef) w') : o.wp P ca w next Q := by
  unfold Oper.wp; rw [h]; exact hn
theorem okOper_dst {o : Oper} {d : Nat} (h : okOper n o = true) (hd : o.dst = some d) : d < n := by
  simp [okOper, hd] at h; exact h.1
theorem okOper_opd {o : Oper} (h : okOper n o = true) : ∀ y ∈ o.op.operands.toList, opdOk y = true := by
  simp only [okOper, Bool.and_eq_true, List.all_eq_true] at h; exact h.2
theorem St.memRep {F : Nat → Prop} {lim : Nat → Nat} {w : World} {ca : Act} {fl : List Nat} (st : St F lim w n fr m ca fl) : ∀ b ob, m b = some ob → ∃ os, MRep w lim b ob os := by
  obtain ⟨os, om, ow, h⟩ := st
  exact fun b ob hb => ⟨om b, (h.mem b ob hb).1⟩
theorem AOps.quiet {ops : Array Oper} {o : Oper} {l : List Oper} {K : Fr → AMem → Prop} {d : Nat} {side : Prop} {x : AV} (hg : o.guard = none) (hd : o.dst = some d) (hk : okOper n o = true)
    (h : qv P m (ev fr) o.op = some (side, x)) (hs : side) (hr : AOps P n ops l K (fr.put d x) m) : AOps P n ops (o :: l) K fr m := by
  refine AOps.step hg fun F lim w ca st next Q hn => ?_
  obtain ⟨v, h1, h2⟩ := qv_sound (P := P) (w := w) (lim := lim) h hs (ca := ca) (fun y hy => by
    obtain ⟨_, hr, rfl⟩ := ev_rep st (okOper_opd hk y hy); exact hr) st.memRep
  exact wp_of_value h1 (hn lim w _ m _ hr (by rw [hd]; exact st.set (okOper_dst hk hd) h2) (.refl _ _ _))
end
end Go.Aw
end
section
namespace Go.Aw
open Go
def rawOf (fr : Fr) (t : Nat) : AV := (fr.get t).getD .junk
def evR (raw : Nat → AV) : Operand → AV
  | .tmp t => raw t
  | .const v => cval v
  | .global g => .ptr ⟨g, 0, none⟩
  | .func f => .func (.func f) [] []
def evP (raw : Nat → AV) : Operand → AV
  | .tmp t => (raw t).plain
  | .const v => cval v
  | .global g => .ptr ⟨g, 0, none⟩
  | .func f => .func (.func f) [] []
theorem evP_eq (fr : Fr) : evP (rawOf fr) = ev fr := by funext x; cases x <;> rfl
def Fr.strip (fr : Fr) : List Nat → Fr
  | [] => fr
  | s :: r => Fr.strip (fr.put s (rawOf fr s).plain) r
def slotOf : Operand → List Nat
  | .tmp t => [t]
  | _ => []
inductive ARes where
  | stuck
  | val (side : Prop) (ss : List Nat) (m : AMem) (x : AV)
  | eff (side : Prop) (ss : List Nat) (m : AMem)
  | new (side : Prop) (ss : List Nat) (mk : Nat → AV) (o : AObj)
  | call (f : FuncId) (args : List AV)
def fillA (place : Nat → Option (Nat × Nat)) (cells : List AV) : List (Nat × AV) → Option (List AV)
  | [] => some cells
  | (i, x) :: r =>
    match place i with
    | none => none
    | some (off, size) => if x.cells.length = size ∧ off + size ≤ cells.length then fillA place (cells.take off ++ x.cells ++ cells.drop (off + size)) r else none
def zeroA (P : Program) (t : TypeId) : Option AV :=
  match (P.info? t).bind (·.zero) with
  | some z => if cok z then some (cval z) else none
  | none => none
def zOk (P : Program) (t : TypeId) : Bool :=
  match zeroA P t with
  | some z => z.cells.length == P.cellsOf t
  | none => false
def AV.topOk : AV → Bool
  | .junk | .lazy _ _ | .tuple _ => false
  | _ => true
def AV.one : AV → Bool
  | .junk | .lazy _ _ | .tuple _ | .agg _ => false
  | _ => true
def ares (P : Program) (m : AMem) (raw : Nat → AV) (st : List Nat) (d : Option Nat) (op : Op) : ARes :=
  match op with
  | .assign (.tmp s) => .val True [s] m (raw s)
  | .move (.tmp s) => if (d.map st.contains).getD false then .val True [s] m (raw s) else .val True [] m (raw s).plain
  | .extract (.tmp s) i =>
    match raw s with
    | .tuple l => if (d.map st.contains).getD false then .val (i < l.length) [s] m (l.getD i .junk) else .val (i < l.length) [] m (l.getD i .junk).plain
    | _ => .stuck
  | .load t x =>
    if (d.map st.contains).getD false then
      match evP raw x with
      | .ptr ⟨b, off, none⟩ =>
        match m b with
        | some (.cells l) => .val (isU P t = true ∧ aggT P t = false ∧ off < l.length) [] (m.upd b (some (.cells (l.set off (l.getD off .junk).plain)))) (l.getD off .junk)
        | _ => .stuck
      | _ => .stuck
    else
      match qv P m (evP raw) (.load t x) with
      | some (side, v) => .val side [] m v
      | none => .stuck
  | .store t a x =>
    match evP raw a with
    | .ptr ⟨b, off, none⟩ =>
      match m b with
      | some (.cells l) => .eff ((evR raw x).topOk = true ∧ ((evR raw x).cells.all AV.one) = true ∧ (evR raw x).cells.length = P.cellsOf t ∧ isU P t = true ∧ off + P.cellsOf t ≤ l.length) (slotOf x) (m.upd b (some (.cells (l.take off ++ (evR raw x).cells ++ l.drop (off + P.cellsOf t)))))
      | _ => .stuck
    | _ => .stuck
  | .box _ x => .new ((evP raw x).topOk = true) [] (fun b => .ptr ⟨b, 0, none⟩) (.cells (evP raw x).cells)
  | .alloc t =>
    match zeroA P t with
    | some z => .new (z.topOk = true) [] (fun b => .ptr ⟨b, 0, none⟩) (.cells z.cells)
    | none => .stuck
  | .makeSlice t n c =>
    match P.underlying t, evP raw n, evP raw c with
    | some (.slice e), .int .i64 k, .int .i64 k' =>
      match zeroA P e with
      | some z => .new (z.topOk = true ∧ isU P e = true ∧ z.cells.length = P.cellsOf e ∧ 0 < P.cellsOf e ∧ k = k' ∧ 0 ≤ k ∧ k * P.bytesOf e ≤ 140737488355328 ∧ k ≤ 140737488355328) [] (fun b => .ms ⟨b, 0, none⟩ k.toNat k.toNat) (.cells (List.replicate k.toNat z.cells).flatten)
      | none => .stuck
    | _, _, _ => .stuck
  | .makeMap t r =>
    match P.underlying t, r.map (evP raw) with
    | some (.map _ _), none => .new True [] (fun b => .map b) (.map [])
    | some (.map _ _), some (.int _ _) => .new True [] (fun b => .map b) (.map [])
    | _, _ => .stuck
  | .build t parts =>
    if (d.map st.contains).getD false then .stuck else
    match P.underlying t, zeroA P t with
    | some (.struct fs), some z =>
      match fillA (fun i => (fs[i]?).map fun f => (f.offset, P.cellsOf f.type)) z.cells (parts.toList.map fun p => (p.1, evP raw p.2)) with
      | some cells => .val (z.topOk = true ∧ (∀ f ∈ fs.toList, isU P f.type = true) ∧ ∀ p ∈ parts.toList, (evP raw p.2).topOk = true) [] m (.agg cells)
      | none => .stuck
    | _, _ => .stuck
  | .buildSlice t len parts =>
    if (d.map st.contains).getD false then .stuck else
    match P.underlying t with
    | some (.slice e) =>
      .val (isU P e = true ∧ 0 < P.cellsOf e ∧ zOk P e = true ∧ len * P.cellsOf e ≤ 16777216 ∧ parts.toList.map (·.1) = List.range len ∧ ∀ p ∈ parts.toList, (evP raw p.2).topOk = true ∧ (evP raw p.2).cells.length = P.cellsOf e) [] m
        (.slice true (parts.toList.map fun p => evP raw p.2))
    | _ => .stuck
  | .call ⟨.builtin .append, args, ts⟩ =>
    match args.toList, ts.toList with
    | [.tmp s, y], [t, u] =>
      match P.underlying t, P.underlying u, raw s, evP raw y with
      | some (.slice e), some (.slice _), .slice true l, .slice _ l' =>
        .val (t = u ∧ isU P e = true ∧ 0 < P.cellsOf e ∧ zOk P e = true ∧ (l.length + l'.length) * P.bytesOf e ≤ 140737488355328 ∧ l.length + l'.length ≤ 140737488355328 ∧ (∀ x ∈ l, x.cells.length = P.cellsOf e) ∧ ∀ x ∈ l', x.cells.length = P.cellsOf e ∧ x.cells.all AV.one = true) [s] m
          (.slice true (l ++ l'))
      | _, _, _, _ => .stuck
    | [.const (.slice none 0 0), y], [t, u] =>
      match P.underlying t, P.underlying u, evP raw y with
      | some (.slice e), some (.slice _), .slice _ l' =>
        .val (t = u ∧ isU P e = true ∧ 0 < P.cellsOf e ∧ zOk P e = true ∧ l'.length * P.bytesOf e ≤ 140737488355328 ∧ ∀ x ∈ l', x.cells.length = P.cellsOf e ∧ x.cells.all AV.one = true) [] m
          (.slice true l')
      | _, _, _ => .stuck
    | _, _ => .stuck
  | .call ⟨.value (.func f), args, _⟩ => .call f (args.toList.map (evP raw))
  | .call ⟨.value (.tmp t), args, _⟩ =>
    match raw t with
    | .func (.func f) first caps => .call f (first ++ args.toList.map (evP raw) ++ caps)
    | _ => .stuck
  | op =>
    match qv P m (evP raw) op with
    | some (side, x) => .val side [] m x
    | none => .stuck
def PureCall (P : Program) (f : FuncId) (args : List AV) (m : AMem) (x : AV) : Prop := ∀ K : AV → AMem → Prop, K x m → ACalls P f args m K
def Kont (K : Fr → AMem → Prop) (d : Option Nat) (fr : Fr) : AV → AMem → Prop := fun x m =>
  match d with
  | some d => K (fr.put d x) m
  | none => K fr m
def putO (fr : Fr) (d : Option Nat) (x : AV) : Fr :=
  match d with
  | some d => fr.put d x
  | none => fr
def forceG (g : Bool) : AV → AV
  | .lazy h x => .lazy (!g || h) x
  | x => x
def isPick : Op → Bool
  | .pick _ _ _ => true
  | _ => false
def gev (raw : Nat → AV) (g : Bool) (op : Op) (y : Operand) : AV := if isPick op then forceG g (evP raw y) else un (forceG g (evP raw y))
def guardVal : AV → Bool → Option Bool
  | .bool c, true => some c
  | .bool c, false => some (!c)
  | .lazy h (.bool c), true => some (h && c)
  | .lazy h (.bool c), false => some (h && !c)
  | _, _ => none
def aop (P : Program) (ops : Array Oper) (st : List Nat) (o : Oper) (K : Fr → AMem → Prop) (fr : Fr) (m : AMem) : Prop :=
  match o.guard with
  | none =>
    match ares P m (rawOf fr) st o.dst o.op with
    | .val side ss m' x => side ∧ K (putO (fr.strip ss) o.dst x) m'
    | .eff side ss m' => side ∧ K (putO (fr.strip ss) o.dst .junk) m'
    | .new side ss mk ob => side ∧ ∀ b, m b = none → K (putO (fr.strip ss) o.dst (mk b)) (m.upd b (some ob))
    | .call f args => ACalls P f args m (Kont K o.dst fr)
    | .stuck => False
  | some (j, b) =>
    match (ops[j]?).bind (·.dst), o.dst with
    | some g, some d =>
      match guardVal (rawOf fr g) b with
      | some z =>
        match o.op with
        | .call ⟨.value (.func f), args, _⟩ =>
          ∃ x, (z = true → PureCall P f (args.toList.map (gev (rawOf fr) z o.op)) m x) ∧ K (fr.put d (.lazy z x.plain)) m
        | .call ⟨.value (.tmp t), args, _⟩ =>
          match gev (rawOf fr) z o.op (.tmp t) with
          | .func (.func f) first caps => ∃ x, (z = true → PureCall P f (first ++ args.toList.map (gev (rawOf fr) z o.op) ++ caps) m x) ∧ K (fr.put d (.lazy z x.plain)) m
          | _ => False
        | op =>
          match qv P m (gev (rawOf fr) z op) op with
          | some (side, x) => (z = true → side) ∧ K (fr.put d (.lazy z x)) m
          | none => False
      | none => False
    | _, _ => False
end Go.Aw
end
