/-
  The abstract layer, part 1: abstract values (trees), how a Go value in a world reads as one, and what keeps that reading. No program in sight.
-/
import Derived.WalkKit
namespace Go.Aw
open Go

/-- Abstract values. 'slice own l': a slice that reads as the list l; 'own': its spare places are nobody else's. 'ref l': a pointer to cells that nobody writes any more, which read as l. 'ptr': an address of memory that the abstract memory tells of. 'ms': a slice of such memory. 'lazy g x': it is x if g. 'err t e': no error if e is 0, else the number e of type t. 'opt b': an error, of which is told only whether there is one. -/
inductive AV where
  | bool (b : Bool)
  | int (k : IntKind) (n : Int)
  | str (s : List UInt8)
  | ptr (a : Addr)
  | nilptr
  | ref (l : List AV)
  | slice (own : Bool) (l : List AV)
  | ms (a : Addr) (len cap : Nat)
  | map (b : Nat)
  | nilmap
  | func (fn : Fn) (first captured : List AV)
  | nilfunc
  | iface (t : TypeId) (v : AV)
  | nilIface
  | err (t : TypeId) (e : Int)
  | opt (b : Bool)
  | agg (l : List AV)
  | tuple (l : List AV)
  | lazy (g : Bool) (v : AV)
  | junk

instance : Inhabited AV := ⟨.junk⟩

def AV.cells : AV → List AV
  | .agg l => l
  | x => [x]

/-- How many cells it takes. -/
def AV.width (x : AV) : Nat := x.cells.length

mutual
def AV.plain : AV → AV
  | .slice _ l => .slice false l
  | .agg l => .agg (AV.plainL l)
  | .tuple l => .tuple (AV.plainL l)
  | .lazy g x => .lazy g x.plain
  | .bool b => .bool b
  | .int k n => .int k n
  | .str s => .str s
  | .ptr a => .ptr a
  | .nilptr => .nilptr
  | .ref l => .ref l
  | .ms a n c => .ms a n c
  | .map b => .map b
  | .nilmap => .nilmap
  | .func f a b => .func f a b
  | .nilfunc => .nilfunc
  | .iface t v => .iface t v
  | .nilIface => .nilIface
  | .err t e => .err t e
  | .opt b => .opt b
  | .junk => .junk
def AV.plainL : List AV → List AV
  | [] => []
  | x :: r => x.plain :: AV.plainL r
end

theorem AV.plainL_eq (l : List AV) : AV.plainL l = l.map AV.plain := by
  induction l with
  | nil => rfl
  | cons x r ih => simp [AV.plainL, ih]

theorem getD_map_plain (l : List AV) (i : Nat) : (AV.plainL l).getD i .junk = (l.getD i .junk).plain := by
  rw [AV.plainL_eq]
  simp only [List.getD_eq_getElem?_getD, List.getElem?_map]
  cases l[i]? <;> simp [AV.plain]

theorem AV.plain_cells (x : AV) : x.plain.cells = AV.plainL x.cells := by
  cases x <;> simp [AV.plain, AV.cells, AV.plainL]

theorem AV.plain_width (x : AV) : x.plain.width = x.width := by
  rw [AV.width, AV.plain_cells, AV.plainL_eq, List.length_map]; rfl

/-- What a Go value in a world reads as; 'lim b': so many cells of block b are written no more; the list: the blocks whose spare places it owns. -/
inductive Rep (w : World) (lim : Nat → Nat) : Value → AV → List Nat → Prop
  | bool (b : Bool) : Rep w lim (.bool b) (.bool b) []
  | int (k : IntKind) (n : Int) (lo : k.min ≤ n) (hi : n ≤ k.max) : Rep w lim (.int k n) (.int k n) []
  | str (s : ByteArray) (h : s.size ≤ 140737488355328) : Rep w lim (.string s) (.str s.data.toList) []
  | ptr (a : Addr) : Rep w lim (.pointer (some a)) (.ptr a) []
  | nilptr : Rep w lim (.pointer none) .nilptr []
  | ref (b off : Nat) (l : List AV) (cv : Nat → Value) (hl : off + l.length ≤ lim b) (hc : ∀ i, i < l.length → w.cell? ⟨b, off + i, none⟩ = some (cv i))
      (hr : ∀ i, i < l.length → Rep w lim (cv i) (l.getD i .junk) []) : Rep w lim (.pointer (some ⟨b, off, none⟩)) (.ref l) []
  | nils (own : Bool) : Rep w lim (.slice none 0 0) (.slice own []) []
  | empty (a : Addr) (cap : Nat) (hm : cap ≤ maxLen) : Rep w lim (.slice (some a) 0 cap) (.slice false []) []
  | slice (b off n cap sz : Nat) (l : List AV) (cv : Nat → Nat → Value) (hn : l.length = n) (hcap : n ≤ cap) (hm : cap ≤ maxLen) (hbig : n ≤ 140737488355328)
      (hsz : ∀ i, i < n → (l.getD i .junk).cells.length = sz) (hlim : off + n * sz ≤ lim b)
      (hc : ∀ i j, i < n → j < sz → w.cell? ⟨b, off + i * sz + j, none⟩ = some (cv i j))
      (hr : ∀ i j, i < n → j < sz → Rep w lim (cv i j) ((l.getD i .junk).cells.getD j .junk) []) : Rep w lim (.slice (some ⟨b, off, none⟩) n cap) (.slice false l) []
  | own (b n cap sz : Nat) (l : List AV) (cv : Nat → Nat → Value) (cur : Array Value) (e : TypeId) (hn : l.length = n) (hcap : n ≤ cap) (hm : cap ≤ maxLen) (hbig : n ≤ 140737488355328)
      (h0 : 0 < n ∨ cap = 0) (hb : w.heap[b]? = some (.cells cur e (0, 0))) (hcur : cur.size = cap * sz)
      (hsz : ∀ i, i < n → (l.getD i .junk).cells.length = sz) (hlim : n * sz = lim b)
      (hc : ∀ i j, i < n → j < sz → w.cell? ⟨b, i * sz + j, none⟩ = some (cv i j))
      (hr : ∀ i j, i < n → j < sz → Rep w lim (cv i j) ((l.getD i .junk).cells.getD j .junk) []) : Rep w lim (.slice (some ⟨b, 0, none⟩) n cap) (.slice true l) [b]
  | ms (a : Addr) (len cap : Nat) (h : len ≤ cap) (hm : cap ≤ maxLen) : Rep w lim (.slice (some a) len cap) (.ms a len cap) []
  | map (b : Nat) : Rep w lim (.map (some b)) (.map b) []
  | nilmap : Rep w lim (.map none) .nilmap []
  | func (fn : Fn) (f c : Array Value) (fl cl : List AV) (hf : f.size = fl.length) (hc : c.size = cl.length) (hrf : ∀ i, i < fl.length → Rep w lim (f.getD i undef) (fl.getD i .junk) [])
      (hrc : ∀ i, i < cl.length → Rep w lim (c.getD i undef) (cl.getD i .junk) []) : Rep w lim (.func fn f c) (.func fn fl cl) []
  | nilfunc : Rep w lim .nilFunc .nilfunc []
  | iface (t : TypeId) (v : Value) (x : AV) (h : Rep w lim v x []) : Rep w lim (.iface t v) (.iface t x) []
  | nilIface : Rep w lim .nilIface .nilIface []
  | errN (t : TypeId) : Rep w lim .nilIface (.err t 0) []
  | errS (t : TypeId) (e : Int) (h : e ≠ 0) (lo : IntKind.i64.min ≤ e) (hi : e ≤ IntKind.i64.max) : Rep w lim (.iface t (.int .i64 e)) (.err t e) []
  | optN : Rep w lim .nilIface (.opt false) []
  | optS (t : TypeId) (v : Value) : Rep w lim (.iface t v) (.opt true) []
  | agg (cs : Array Value) (xs : List AV) (os : Nat → List Nat) (h : cs.size = xs.length) (hr : ∀ i, i < xs.length → Rep w lim (cs.getD i undef) (xs.getD i .junk) (os i)) :
      Rep w lim (.agg cs) (.agg xs) ((List.range xs.length).flatMap os)
  | tuple (cs : Array Value) (xs : List AV) (os : Nat → List Nat) (h : cs.size = xs.length) (hr : ∀ i, i < xs.length → Rep w lim (cs.getD i undef) (xs.getD i .junk) (os i)) :
      Rep w lim (.tuple cs) (.tuple xs) ((List.range xs.length).flatMap os)
  | lazyT (v : Value) (x : AV) (os : List Nat) (h : Rep w lim v x os) : Rep w lim v (.lazy true x) os
  | lazyF (x : AV) : Rep w lim undef (.lazy false x) []
  | junk (v : Value) : Rep w lim v .junk []

section
variable {w w' : World} {lim lim' : Nat → Nat} {v : Value} {x : AV} {os : List Nat}

/-- What keeps a reading: what was written no more reads as it did, and the blocks that it owns are as they were. -/
theorem Rep.stable (h : Rep w lim v x os) (hl : ∀ b, lim b ≤ lim' b) (hc : ∀ b o, o < lim b → w'.cell? ⟨b, o, none⟩ = w.cell? ⟨b, o, none⟩)
    (ho : ∀ c ∈ os, w'.heap[c]? = w.heap[c]? ∧ lim' c = lim c) : Rep w' lim' v x os := by
  induction h with
  | bool b => exact .bool b
  | int k n lo hi => exact .int k n lo hi
  | str s h => exact .str s h
  | ptr a => exact .ptr a
  | nilptr => exact .nilptr
  | ref b off l cv hl' hc' hr ih =>
    exact .ref b off l cv (Nat.le_trans hl' (hl b)) (fun i hi => by rw [hc b (off + i) (by omega)]; exact hc' i hi) (fun i hi => ih i hi (by simp))
  | nils own => exact .nils own
  | empty a cap hm => exact .empty a cap hm
  | slice b off n cap sz l cv hn hcap hm hbig hsz hlim hc' hr ih =>
    refine .slice b off n cap sz l cv hn hcap hm hbig hsz (Nat.le_trans hlim (hl b)) (fun i j hi hj => ?_) (fun i j hi hj => ih i j hi hj (by simp))
    rw [hc b _ ?_]
    · exact hc' i j hi hj
    · have : i * sz + sz ≤ n * sz := by rw [← Nat.succ_mul]; exact Nat.mul_le_mul_right _ hi
      omega
  | own b n cap sz l cv cur e hn hcap hm hbig h0 hb hcur hsz hlim hc' hr ih =>
    have hob := ho b (by simp)
    refine .own b n cap sz l cv cur e hn hcap hm hbig h0 (hob.1.trans hb) hcur hsz (hlim.trans hob.2.symm) (fun i j hi hj => ?_) (fun i j hi hj => ih i j hi hj (by simp))
    rw [hc b _ ?_]
    · exact hc' i j hi hj
    · have : i * sz + sz ≤ n * sz := by rw [← Nat.succ_mul]; exact Nat.mul_le_mul_right _ hi
      omega
  | ms a len cap h hm => exact .ms a len cap h hm
  | map b => exact .map b
  | nilmap => exact .nilmap
  | func fn f c fl cl hf hc' hrf hrc ihf ihc => exact .func fn f c fl cl hf hc' (fun i hi => ihf i hi (by simp)) (fun i hi => ihc i hi (by simp))
  | nilfunc => exact .nilfunc
  | iface t v x h ih => exact .iface t v x (ih (by simp))
  | nilIface => exact .nilIface
  | errN t => exact .errN t
  | errS t e h lo hi => exact .errS t e h lo hi
  | optN => exact .optN
  | optS t v => exact .optS t v
  | agg cs xs os h hr ih => exact .agg cs xs os h (fun i hi => ih i hi (fun c hc => ho c (List.mem_flatMap.2 ⟨i, by simpa using hi, hc⟩)))
  | tuple cs xs os h hr ih => exact .tuple cs xs os h (fun i hi => ih i hi (fun c hc => ho c (List.mem_flatMap.2 ⟨i, by simpa using hi, hc⟩)))
  | lazyT v x os h ih => exact .lazyT v x os (ih ho)
  | lazyF x => exact .lazyF x
  | junk v => exact .junk v

theorem flatMap_nil (n : Nat) : (List.range n).flatMap (fun _ => ([] : List Nat)) = [] := by
  induction n <;> simp_all

/-- Its own places given up. -/
theorem Rep.plain (h : Rep w lim v x os) : Rep w lim v x.plain [] := by
  induction h with
  | bool b => exact .bool b
  | int k n lo hi => exact .int k n lo hi
  | str s h => exact .str s h
  | ptr a => exact .ptr a
  | nilptr => exact .nilptr
  | ref b off l cv hl hc hr ih => exact .ref b off l cv hl hc hr
  | nils own => exact .nils false
  | empty a cap hm => exact .empty a cap hm
  | slice b off n cap sz l cv hn hcap hm hbig hsz hlim hc hr ih => exact .slice b off n cap sz l cv hn hcap hm hbig hsz hlim hc hr
  | own b n cap sz l cv cur e hn hcap hm hbig h0 hb hcur hsz hlim hc hr ih => exact .slice b 0 n cap sz l cv hn hcap hm hbig hsz (by omega) (fun i j hi hj => by simpa using hc i j hi hj) hr
  | ms a len cap h hm => exact .ms a len cap h hm
  | map b => exact .map b
  | nilmap => exact .nilmap
  | func fn f c fl cl hf hc hrf hrc ihf ihc => exact .func fn f c fl cl hf hc hrf hrc
  | nilfunc => exact .nilfunc
  | iface t v x h ih => exact .iface t v x h
  | nilIface => exact .nilIface
  | errN t => exact .errN t
  | errS t e h lo hi => exact .errS t e h lo hi
  | optN => exact .optN
  | optS t v => exact .optS t v
  | agg cs xs os h hr ih =>
    have := Rep.agg (w := w) (lim := lim) cs (AV.plainL xs) (fun _ => []) (by simp [AV.plainL_eq, h]) (fun i hi => by rw [getD_map_plain]; exact ih i (by simpa [AV.plainL_eq] using hi))
    rw [flatMap_nil] at this
    exact this
  | tuple cs xs os h hr ih =>
    have := Rep.tuple (w := w) (lim := lim) cs (AV.plainL xs) (fun _ => []) (by simp [AV.plainL_eq, h]) (fun i hi => by rw [getD_map_plain]; exact ih i (by simpa [AV.plainL_eq] using hi))
    rw [flatMap_nil] at this
    exact this
  | lazyT v x os h ih => exact .lazyT v _ _ ih
  | lazyF x => exact .lazyF _
  | junk v => exact .junk v

/-- The blocks that it owns are there. -/
theorem Rep.owned_lt (h : Rep w lim v x os) : ∀ c ∈ os, c < w.heap.size := by
  induction h with
  | own b n cap sz l cv cur e hn hcap hm hbig h0 hb hcur hsz hlim hc hr ih =>
    intro c hc
    simp only [List.mem_singleton] at hc
    subst hc
    exact (Array.getElem?_eq_some_iff.1 hb).1
  | agg cs xs os h hr ih =>
    intro c hc
    obtain ⟨i, hi, hc⟩ := List.mem_flatMap.1 hc
    exact ih i (by simpa using hi) c hc
  | tuple cs xs os h hr ih =>
    intro c hc
    obtain ⟨i, hi, hc⟩ := List.mem_flatMap.1 hc
    exact ih i (by simpa using hi) c hc
  | lazyT v x os h ih => exact ih
  | _ => intro c hc; cases hc

end
end Go.Aw
