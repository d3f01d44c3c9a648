/-
  The abstract layer, part 5: the operations that only read do what 'qv' says: all of them.
-/
import Derived.Test.YtoeghipbkmaccaaWwD
namespace Go.Aw
open Go

section
variable {P : Program} {w : World} {lim : Nat → Nat}

theorem addr_add (b off i : Nat) : (⟨b, off, none⟩ : Addr).add i = ⟨b, off + i, none⟩ := by
  unfold Addr.add
  split
  · rename_i h; subst h; rfl
  · rfl

/-- cells that read as a list -/
theorem run_loadCells_fn (b off n : Nat) (f : Nat → Value) (h : ∀ j, j < n → w.cell? ⟨b, off + j, none⟩ = some (f j)) :
    (loadCells ⟨b, off, none⟩ n).run P w = .ok ((List.range n).map f).toArray w := by
  have := run_loadCells_list (P := P) w ⟨b, off, none⟩ ((List.range n).map f) (fun j v hv => by
    rw [addr_add]
    by_cases hj : j < n
    · simp [hj] at hv
      rw [h j hj, hv]
    · simp [hj] at hv)
  simpa using this

theorem getD_range_map (n i : Nat) (f : Nat → Value) (hi : i < n) : ((List.range n).map f).toArray.getD i undef = f i := by
  simp [Array.getD, hi]

theorem rep_agg_of (n : Nat) (f : Nat → Value) (xs : List AV) (hn : xs.length = n) (h : ∀ i, i < n → Rep w lim (f i) (xs.getD i .junk) []) :
    Rep w lim (.agg ((List.range n).map f).toArray) (.agg xs) [] := by
  have := Rep.agg (w := w) (lim := lim) ((List.range n).map f).toArray xs (fun _ => []) (by simp [hn]) (fun i hi => by rw [getD_range_map n i f (by omega)]; exact h i (by omega))
  rw [flatMap_nil] at this
  exact this

theorem getD_drop_take (l : List AV) (off k i : Nat) (hi : i < k) : ((l.drop off).take k).getD i .junk = l.getD (off + i) .junk := by
  simp [List.getD_eq_getElem?_getD, List.getElem?_take, hi]

/-- a variable read out of cells -/
theorem load_sound {t : TypeId} {b off : Nat} {l : List AV} {f : Nat → Value} {k : Nat} (hok : apartOk P t l k)
    (hc : ∀ i, i < l.length → w.cell? ⟨b, off + i, none⟩ = some (f i)) (hr : ∀ i, i < l.length → Rep w lim (f i) (l.getD i .junk) []) :
    ∃ v, (loadVar t ⟨b, off + k, none⟩).run P w = .ok v w ∧ Rep w lim v (apart P t l k) [] := by
  obtain ⟨hu, hok⟩ := hok
  by_cases ha : aggT P t = true
  · simp only [ha, if_true] at hok
    have hl := run_loadCells_fn (P := P) (w := w) b (off + k) (P.cellsOf t) (fun j => f (k + j)) (fun j hj => by rw [Nat.add_assoc]; exact hc (k + j) (by omega))
    refine ⟨.agg ((List.range (P.cellsOf t)).map fun j => f (k + j)).toArray, ?_, ?_⟩
    · simp [loadVar, run_isAgg hu, ha, run_size hu, hl]
    · simp only [apart, ha, if_true]
      refine rep_agg_of _ _ _ (by simp; omega) (fun i hi => ?_)
      rw [getD_drop_take _ _ _ _ hi]
      exact hr (k + i) (by omega)
  · simp only [ha] at hok
    refine ⟨f k, ?_, ?_⟩
    · simp [loadVar, run_isAgg hu, ha, hc k hok]
    · simp only [apart, ha]
      exact hr k hok

theorem part_sound {t : TypeId} {cs : Array Value} {l : List AV} {k : Nat} (hok : apartOk P t l k) (hs : cs.size = l.length)
    (hr : ∀ i, i < l.length → Rep w lim (cs.getD i undef) (l.getD i .junk) []) : ∃ v, (part t cs k).run P w = .ok v w ∧ Rep w lim v (apart P t l k) [] := by
  obtain ⟨hu, hok⟩ := hok
  by_cases ha : aggT P t = true
  · simp only [ha, if_true] at hok
    refine ⟨.agg (cs.extract k (k + P.cellsOf t)), ?_, ?_⟩
    · simp [part, run_isAgg hu, ha, run_size hu]
    · simp only [apart, ha, if_true]
      have := Rep.agg (w := w) (lim := lim) (cs.extract k (k + P.cellsOf t)) ((l.drop k).take (P.cellsOf t)) (fun _ => []) (by simp [hs]; omega) (fun i hi => by
        have hi' : i < P.cellsOf t := by simp at hi; omega
        rw [getD_drop_take _ _ _ _ hi']
        have := hr (k + i) (by omega)
        have e : (cs.extract k (k + P.cellsOf t)).getD i undef = cs.getD (k + i) undef := by
          simp [Array.getD_eq_getD_getElem?, Array.getElem?_extract]
          rw [if_pos (by omega)]
        rw [e]; exact this)
      rw [flatMap_nil] at this
      exact this
  · simp only [ha] at hok
    refine ⟨cs.getD k undef, ?_, ?_⟩
    · have : k < cs.size := by rw [hs]; exact hok
      simp [part, run_isAgg hu, ha, this]
    · simp only [apart, ha]
      exact hr k hok

theorem flatMap_nil_iff {os : Nat → List Nat} {n : Nat} (h : (List.range n).flatMap os = []) : ∀ i, i < n → os i = [] := by
  intro i hi
  simp [List.flatMap_eq_nil_iff] at h
  exact h i hi

theorem rep_agg_inv' {v : Value} {xs : List AV} {o : List Nat} (h : Rep w lim v (.agg xs) o) (ho : o = []) : ∃ cs : Array Value, v = .agg cs ∧ cs.size = xs.length ∧ ∀ i, i < xs.length → Rep w lim (cs.getD i undef) (xs.getD i .junk) [] := by
  cases h with
  | agg cs _ os h hr => exact ⟨cs, rfl, h, fun i hi => by have := hr i hi; rwa [flatMap_nil_iff ho i hi] at this⟩

theorem rep_agg_inv {v : Value} {xs : List AV} (h : Rep w lim v (.agg xs) []) : ∃ cs : Array Value, v = .agg cs ∧ cs.size = xs.length ∧ ∀ i, i < xs.length → Rep w lim (cs.getD i undef) (xs.getD i .junk) [] := rep_agg_inv' h rfl

theorem rep_tuple_inv' {v : Value} {xs : List AV} {o : List Nat} (h : Rep w lim v (.tuple xs) o) (ho : o = []) : ∃ cs : Array Value, v = .tuple cs ∧ cs.size = xs.length ∧ ∀ i, i < xs.length → Rep w lim (cs.getD i undef) (xs.getD i .junk) [] := by
  cases h with
  | tuple cs _ os h hr => exact ⟨cs, rfl, h, fun i hi => by have := hr i hi; rwa [flatMap_nil_iff ho i hi] at this⟩

theorem rep_tuple_inv {v : Value} {xs : List AV} (h : Rep w lim v (.tuple xs) []) : ∃ cs : Array Value, v = .tuple cs ∧ cs.size = xs.length ∧ ∀ i, i < xs.length → Rep w lim (cs.getD i undef) (xs.getD i .junk) [] := rep_tuple_inv' h rfl

theorem mrep_cells_inv {b : Nat} {l : List AV} {os : Nat → List Nat} (h : MRep w lim b (.cells l) os) : ∃ (cs : Array Value) (e : TypeId) (oss : Nat → List Nat), w.heap[b]? = some (.cells cs e (0, 0)) ∧ cs.size = l.length ∧
    ∀ i, i < l.length → Rep w lim (cs.getD i undef) (l.getD i .junk) (oss i) := by
  cases h with
  | cells cs e l _ hb hs hr => exact ⟨cs, e, os, hb, hs, hr⟩

/-- the same of a slice that is some list, whichever its owner -/
theorem rep_slice_inv {v : Value} {own : Bool} {l : List AV} {os : List Nat} (h : Rep w lim v (.slice own l) os) : Rep w lim v (.slice false l) [] := h.plain

theorem rep_slice_cases {v : Value} {l : List AV} (h : Rep w lim v (.slice false l) []) :
    (l = [] ∧ v = .slice none 0 0) ∨ (l = [] ∧ ∃ a cap, v = .slice (some a) 0 cap ∧ cap ≤ maxLen) ∨
    ∃ b off cap sz, ∃ cv : Nat → Nat → Value, v = .slice (some ⟨b, off, none⟩) l.length cap ∧ l.length ≤ cap ∧ cap ≤ maxLen ∧ l.length ≤ 140737488355328 ∧ (∀ i, i < l.length → (l.getD i .junk).cells.length = sz) ∧ off + l.length * sz ≤ lim b ∧
      (∀ i j, i < l.length → j < sz → w.cell? ⟨b, off + i * sz + j, none⟩ = some (cv i j)) ∧ (∀ i j, i < l.length → j < sz → Rep w lim (cv i j) ((l.getD i .junk).cells.getD j .junk) []) := by
  cases h with
  | nils own => exact .inl ⟨rfl, rfl⟩
  | empty a cap hm => exact .inr (.inl ⟨rfl, a, cap, rfl, hm⟩)
  | slice b off n cap sz l cv hn hcap hm hbig hsz hlim hc hr => subst hn; exact .inr (.inr ⟨b, off, cap, sz, cv, rfl, hcap, hm, hbig, hsz, hlim, hc, hr⟩)

theorem rep_slice_len {v : Value} {l : List AV} (h : Rep w lim v (.slice false l) []) : ∃ a cap, v = .slice a l.length cap ∧ l.length ≤ 140737488355328 := by
  rcases rep_slice_cases h with ⟨rfl, rfl⟩ | ⟨rfl, a, cap, rfl, _⟩ | ⟨b, off, cap, sz, cv, rfl, _, _, h, _⟩
  · exact ⟨none, 0, rfl, by simp⟩
  · exact ⟨some a, cap, rfl, by simp⟩
  · exact ⟨_, cap, rfl, h⟩


theorem some_inj {α β : Type} {a a' : α} {b b' : β} (h : some (a, b) = some (a', b')) : a = a' ∧ b = b' := by simpa using h

def QvOk (P : Program) (w : World) (lim : Nat → Nat) (ca : Act) (o : Oper) (x : AV) : Prop := ∃ v, (execOp ca.eval o).run P w = .ok (.value v) w ∧ Rep w lim v x []

theorem rep_bool_inv {v : Value} {b : Bool} {o : List Nat} (h : Rep w lim v (.bool b) o) : v = .bool b := by cases h; rfl
theorem rep_int_inv {v : Value} {k : IntKind} {n : Int} {o : List Nat} (h : Rep w lim v (.int k n) o) : v = .int k n ∧ k.min ≤ n ∧ n ≤ k.max := by cases h; exact ⟨rfl, ‹_›, ‹_›⟩
theorem rep_str_inv {v : Value} {l : List UInt8} {o : List Nat} (h : Rep w lim v (.str l) o) : ∃ s : ByteArray, v = .string s ∧ s.data.toList = l ∧ s.size ≤ 140737488355328 := by cases h; exact ⟨_, rfl, rfl, ‹_›⟩
theorem rep_ptr_inv {v : Value} {a : Addr} {o : List Nat} (h : Rep w lim v (.ptr a) o) : v = .pointer (some a) := by cases h; rfl
theorem rep_lazy_inv {v : Value} {x : AV} {o : List Nat} (h : Rep w lim v (.lazy true x) o) : Rep w lim v x o := by cases h; assumption

/-- The number in it. -/
def AV.num : AV → Int
  | .int _ n => n
  | _ => 0

theorem rep_ite {vp vq : Value} {p q b : Bool} (hp : b = true → Rep w lim vp (.bool p) []) (hq : b = false → Rep w lim vq (.bool q) []) :
    Rep w lim (if b then vp else vq) (.bool (if b then p else q)) [] := by
  cases b
  · simpa using hq rfl
  · simpa using hp rfl

theorem un_rep {v : Value} {x : AV} {os : List Nat} (h : Rep w lim v x os) : Rep w lim v (un x) os := by
  unfold un
  split
  · exact rep_lazy_inv h
  · exact h

theorem qv_pick {m : AMem} {a : Operand → AV} {ca : Act} {o : Oper} {c p q : Operand} (ho : o.op = .pick c p q) {side : Prop} {x : AV} (h : qv P m a (.pick c p q) = some (side, x)) (hs : side)
    (hc : Rep w lim (ca.eval c) (a c) []) (hp : Rep w lim (ca.eval p) (a p) []) (hq : Rep w lim (ca.eval q) (a q) []) : QvOk P w lim ca o x := by
  simp only [qv] at h
  replace hc := un_rep hc
  have fin : ∀ b : Bool, ca.eval c = .bool b → ∀ r, Rep w lim (if b then ca.eval p else ca.eval q) r [] → QvOk P w lim ca o r := fun b hb r hr =>
    ⟨if b then ca.eval p else ca.eval q, by cases b <;> simp [execOp, ho, hb, asBool], hr⟩
  split at h
  · next b p' q' hac hap haq =>
    obtain ⟨rfl, rfl⟩ := some_inj h
    rw [hac] at hc; rw [hap] at hp; rw [haq] at hq
    exact fin b (rep_bool_inv hc) _ (rep_ite (fun _ => hp) (fun _ => hq))
  · next b g p' q' hac hap haq =>
    obtain ⟨rfl, rfl⟩ := some_inj h
    rw [hac] at hc; rw [hap] at hp; rw [haq] at hq
    exact fin b (rep_bool_inv hc) _ (rep_ite (fun hb => by rw [hs hb] at hp; exact rep_lazy_inv hp) (fun _ => hq))
  · next b p' g q' hac hap haq =>
    obtain ⟨rfl, rfl⟩ := some_inj h
    rw [hac] at hc; rw [hap] at hp; rw [haq] at hq
    exact fin b (rep_bool_inv hc) _ (rep_ite (fun _ => hp) (fun hb => by rw [hs hb] at hq; exact rep_lazy_inv hq))
  · next b g p' g' q' hac hap haq =>
    obtain ⟨rfl, rfl⟩ := some_inj h
    rw [hac] at hc; rw [hap] at hp; rw [haq] at hq
    exact fin b (rep_bool_inv hc) _ (rep_ite (fun hb => by rw [hs.1 hb] at hp; exact rep_lazy_inv hp) (fun hb => by rw [hs.2 hb] at hq; exact rep_lazy_inv hq))
  · cases h

theorem qv_load {m : AMem} {a : Operand → AV} {ca : Act} {o : Oper} {t : TypeId} {y : Operand} (ho : o.op = .load t y) {side : Prop} {x : AV} (h : qv P m a (.load t y) = some (side, x)) (hs : side)
    (hy : Rep w lim (ca.eval y) (a y) []) (hm : ∀ b ob, m b = some ob → ∃ os, MRep w lim b ob os) : QvOk P w lim ca o x := by
  simp only [qv] at h
  split at h
  · rename_i l hal
    obtain ⟨rfl, rfl⟩ := some_inj h
    rw [hal] at hy
    generalize he : ca.eval y = e at hy
    cases hy with
    | ref b off l cv hl hc hr =>
      obtain ⟨v, h1, h2⟩ := load_sound (P := P) hs hc hr
      simp only [Nat.add_zero] at h1
      exact ⟨v, by simp [execOp, ho, he, Instr.loadAt, Instr.sureAddr, h1], h2⟩
  · rename_i b off hal
    rw [hal] at hy
    split at h
    · rename_i l hb
      obtain ⟨rfl, rfl⟩ := some_inj h
      obtain ⟨os, hM⟩ := hm _ _ hb
      obtain ⟨cs, e, oss, hbl, hsz, hr⟩ := mrep_cells_inv hM
      generalize he : ca.eval y = e at hy
      cases hy with
      | ptr =>
        obtain ⟨v, h1, h2⟩ := load_sound (P := P) (w := w) (lim := lim) (t := t) (b := b) (off := 0) (l := AV.plainL l) (f := fun i => cs.getD i undef) (k := off) (by simpa [apartOk, AV.plainL_eq] using hs)
          (fun i hi => by
            have hi' : i < cs.size := by simpa [AV.plainL_eq, hsz] using hi
            simp [World.cell?, hbl, Array.getD, hi'])
          (fun i hi => by rw [getD_map_plain]; exact (hr i (by simpa [AV.plainL_eq] using hi)).plain)
        simp only [Nat.zero_add] at h1
        refine ⟨v, by simp [execOp, ho, he, Instr.loadAt, Instr.sureAddr, h1], ?_⟩
        have : apart P t (AV.plainL l) off = (apart P t l off).plain := by
          unfold apart
          split
          · simp [AV.plain, AV.plainL_eq, List.map_drop, List.map_take]
          · rw [getD_map_plain]
        rw [← this]; exact h2
    · cases h
  · cases h

set_option maxHeartbeats 1000000 in
theorem qv_conv {m : AMem} {a : Operand → AV} {ca : Act} {o : Oper} {s d : TypeId} {y : Operand} (ho : o.op = .convert s d y) {side : Prop} {x : AV} (h : qv P m a (.convert s d y) = some (side, x)) (hs : side)
    (hy : Rep w lim (ca.eval y) (a y) []) : QvOk P w lim ca o x := by
  simp only [qv] at h
  generalize he : ca.eval y = e at hy
  split at h
  · rename_i k k' n hd hal
    obtain ⟨rfl, rfl⟩ := some_inj h
    rw [hal] at hy
    cases hy with
    | int _ _ lo hi =>
      cases hu : P.underlying s with
      | none => simp [isU, hu] at hs
      | some u =>
        refine ⟨.int k (k.wrap n), ?_, .int _ _ (wrap_min _ _).1 (wrap_min _ _).2⟩
        simp [execOp, ho, he, convert, run_und hu, run_und hd, Conv.intToInt]
  · rename_i l hd hal
    obtain ⟨rfl, rfl⟩ := some_inj h
    rw [hal] at hy
    cases hy with
    | str b hb =>
      cases hu : P.underlying s with
      | none => simp [isU, hu] at hs
      | some u =>
        refine ⟨.string b, ?_, .str b hb⟩
        simp [execOp, ho, he, convert, run_und hu, run_und hd]
  · rename_i own l hd hal
    obtain ⟨rfl, rfl⟩ := some_inj h
    obtain ⟨e', hu, hu8, hall⟩ := hs
    rw [hal] at hy
    have hy' := rep_slice_inv hy
    have hcu : ∀ (aa : Option Addr) (n c : Nat), (convert s d (.slice aa n c)).run P w = (Conv.bytesToString (.slice aa n c)).run P w := fun aa n c => run_convert_bytes_string w s d e' aa n c hu hu8 hd
    have hstr : ∀ bs : List UInt8, bs.length ≤ 140737488355328 → Rep w lim (.string ⟨bs.toArray⟩) (.str bs) [] := fun bs hb => by
      have := Rep.str (w := w) (lim := lim) ⟨bs.toArray⟩ (by simpa [ByteArray.size] using hb)
      simpa using this
    rcases rep_slice_cases hy' with ⟨rfl, rfl⟩ | ⟨rfl, aa, cap, rfl, _⟩ | ⟨b, off, cap, sz, cv, rfl, hcap, hm, hbig, hsz, hlim, hc, hr⟩
    · exact ⟨.string ⟨#[]⟩, by simp [execOp, ho, he, hcu, Conv.bytesToString]; rfl, hstr [] (by simp)⟩
    · have h0 := run_bytesToString (P := P) w aa 0 cap [] (by simp [loadCells, loadCellsFrom])
      refine ⟨.string ⟨#[]⟩, by simp [execOp, ho, he, hcu, h0]; rfl, hstr [] (by simp)⟩
    · have hel : ∀ i, i < l.length → (l.getD i .junk).cells = [l.getD i .junk] ∧ ∃ k : Int, l.getD i .junk = .int .u8 k := fun i hi => by
        have hmem : l.getD i .junk ∈ l := by simp [List.getD_eq_getElem?_getD, hi]
        obtain ⟨k, hk⟩ := hall _ hmem
        rw [hk]; exact ⟨rfl, k, rfl⟩
      have hsz1 : 0 < l.length → sz = 1 := fun hl => by rw [← hsz 0 hl, (hel 0 hl).1]; rfl
      have hcell : ∀ i, i < l.length → ∃ k : Int, w.cell? ⟨b, off + i, none⟩ = some (.int .u8 k) ∧ l.getD i .junk = .int .u8 k := fun i hi => by
        have hz := hsz1 (by omega)
        subst hz
        have h1 := hc i 0 hi (by omega)
        have h2 := hr i 0 hi (by omega)
        obtain ⟨hcells, k, hk⟩ := hel i hi
        rw [hcells] at h2
        simp only [List.getD_cons_zero, hk] at h2
        refine ⟨k, ?_, hk⟩
        have h3 : cv i 0 = .int .u8 k := (rep_int_inv h2).1
        rw [← h3]; simpa using h1
      have hcell' : ∀ i, i < l.length → w.cell? ⟨b, off + i, none⟩ = some (Value.int .u8 (l.getD i .junk).num) := fun i hi => by
        obtain ⟨k, h1, h2⟩ := hcell i hi
        rw [h2]; exact h1
      have hl := run_loadCells_fn (P := P) (w := w) b off l.length (fun i => Value.int .u8 (l.getD i .junk).num) hcell'
      have hmap : ((List.range l.length).map fun i => Value.int .u8 (l.getD i .junk).num) = ((List.range l.length).map fun i => (l.getD i .junk).num).map (Value.int .u8) := by
        rw [List.map_map]; rfl
      rw [hmap] at hl
      have h0 := run_bytesToString (P := P) w ⟨b, off, none⟩ l.length cap _ hl
      have hb : (List.range l.length).map (fun i => UInt8.ofNat (l.getD i .junk).num.toNat) = l.map byteOf := by
        apply List.ext_getElem?
        intro i
        by_cases hi : i < l.length
        · obtain ⟨k, h1, h2⟩ := hcell i hi
          simp only [List.getD_eq_getElem?_getD, List.getElem?_eq_getElem hi, Option.getD_some] at h2
          simp [hi, h2, byteOf, AV.num]
        · simp [hi]
      refine ⟨_, by simp only [execOp, ho, he, Sem.run_bind, hcu, h0]; rfl, ?_⟩
      rw [foldl_push_bytes, List.map_map]
      have e2 : ((fun n : Int => UInt8.ofNat n.toNat) ∘ fun i => (l.getD i .junk).num) = fun i => UInt8.ofNat (l.getD i .junk).num.toNat := rfl
      rw [e2, hb]
      have := hstr (l.map byteOf) (by simpa using hbig)
      simpa using this
  · cases h

end
end Go.Aw
