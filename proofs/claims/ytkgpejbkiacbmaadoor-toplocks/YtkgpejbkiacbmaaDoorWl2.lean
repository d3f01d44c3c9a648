/-
  The abstract layer: slices.Sort and slices.Compact at a row of strings with room behind it; the row read as a list when nobody writes any more.
-/
import Derived.Test.YtkgpejbkiacbmaaDoorWzH
import Derived.Lib.RowBridge
import Derived.Test.YtkgpejbkiacbmaaDoorProg
import Derived.Test.YtkgpejbkiacbmaaDoorWxf
import Derived.Shelf.Small.Bits
import Derived.Shelf.Small.Wraps
import Derived.Shelf.LaysM
import Derived.Shelf.Strconv.Itoa3
import Derived.Shelf.LaysC
import Derived.Shelf.Strconv.AtoiAll
import Derived.Shelf.Sort.Plain
import Derived.Shelf.Strings.Prefix
import Derived.Shelf.Slices.Turned
import Derived.Shelf.Slices.Clone
import Derived.Shelf.Slices.CompactS
import Derived.Shelf.Slices.In.SortNone
import Derived.Test.YtkgpejbkiacbmaaDoorWyA
section
namespace Go.Aw
open Go RowKit Go.Sort
open Go.Proofs (encStr)
section
variable {P : Program} {F : Nat → Prop} {lim : Nat → Nat} {w w' : World} {n : Nat} {fr : Fr} {m : AMem} {ca : Act} {fl : List Nat}
theorem St.putStrsT (st : St F lim w n fr m ca []) {b : Nat} {zs ss : List (List UInt8)} {tl : List AV} (hm : m b = some (.cells (zs.map strAV ++ tl))) (hs : ss.length ≤ zs.length) (hb : ∀ s ∈ ss, s.length ≤ 140737488355328) (k : Nat) (os : Array Obj) :
    St F lim (Sort.grow (putRow encStr (Go.Sort.ahead w k) b 0 ss.toArray) os) n fr (m.upd b (some (.cells ((ss ++ zs.drop ss.length).map strAV ++ tl)))) ca [] ∧ Pres F w lim (Sort.grow (putRow encStr (Go.Sort.ahead w k) b 0 ss.toArray) os) lim := by
  have hex : ∃ cs e, w.heap[b]? = some (.cells cs e (0, 0)) ∧ cs.size = zs.length + tl.length := by
    obtain ⟨os, om, ow, h⟩ := st
    have hM := (h.mem b _ hm).1
    generalize hx : (zs.map strAV ++ tl) = X at hM
    cases hM with
    | cells cs e l _ hb hs hr => exact ⟨cs, e, hb, by rw [hs, ← hx]; simp⟩
  obtain ⟨cs, e, hbk, hcs⟩ := hex
  obtain ⟨s1, s2⟩ := st.storeMem (off := 0) (xs := ss.map strAV) (vs := ss.map encStr) (oss := fun _ => []) hm hbk (by simp; omega) (by simp) (fun i hi => by
    have hi' : i < ss.length := by simpa using hi
    have : Rep w lim (encStr ss[i]) (.str ss[i]) [] := rep_str_mk (hb _ (List.getElem_mem hi'))
    simpa [List.getD_eq_getElem?_getD, hi', strAV] using this) (by rw [flatMap_nil])
  have e1 : (cs.toList.take 0 ++ ss.map encStr ++ cs.toList.drop (0 + (ss.map encStr).length)).toArray = putCells encStr 0 ss.toArray cs := by
    apply Array.ext_getElem?
    intro i
    simp only [putCells, Array.getElem?_mapIdx, List.take_zero, List.nil_append, Nat.zero_add, List.length_map, List.getElem?_toArray, List.size_toArray, Nat.zero_le, true_and, Nat.sub_zero]
    by_cases hi : i < ss.length
    · rw [List.getElem?_append_left (by simpa using hi)]
      have : i < cs.size := by omega
      simp [hi, this]
    · rw [List.getElem?_append_right (by simpa using Nat.le_of_not_lt hi)]
      simp only [List.length_map, List.getElem?_drop, hi, if_false]
      rw [show ss.length + (i - ss.length) = i by omega]
      simp
  rw [e1] at s1 s2
  have e2 : (putRow encStr (Go.Sort.ahead w k) b 0 ss.toArray).heap = (w.setRow b (putCells encStr 0 ss.toArray cs)).heap := by
    show w.heap.modify b (onCells (putCells encStr 0 ss.toArray)) = (w.setRow b (putCells encStr 0 ss.toArray cs)).heap
    apply Array.ext_getElem?
    intro i
    by_cases hi : b = i
    · subst hi
      rw [setRow_heap w b cs _ e (0, 0) hbk]
      simp [Array.getElem?_modify, hbk, onCells]
    · rw [setRow_other w b i _ (Ne.symm hi)]
      simp [Array.getElem?_modify, hi]
  generalize hw1 : w.setRow b (putCells encStr 0 ss.toArray cs) = w1 at s1 s2 e2
  generalize hw2 : Sort.grow (putRow encStr (Go.Sort.ahead w k) b 0 ss.toArray) os = w2
  have hh : w2.heap = w1.heap ++ os := by rw [← hw2]; show (putRow encStr (Go.Sort.ahead w k) b 0 ss.toArray).heap ++ os = _; rw [e2]
  have hold : ∀ c, c < w1.heap.size → w2.heap[c]? = w1.heap[c]? := fun c hc => by rw [hh, Array.getElem?_append_left hc]
  have hcell : ∀ c o, o < lim c → w2.cell? ⟨c, o, none⟩ = w1.cell? ⟨c, o, none⟩ := fun c o ho => by
    simp [World.cell?, hold c (s1.lt_of_lim ho)]
  have hfr : ∀ c, w1.heap.size ≤ c → lim c = 0 := fun c hc => by
    obtain ⟨_, _, _, h⟩ := s1
    exact (h.fresh c hc).1
  rw [List.take_zero, List.nil_append, Nat.zero_add] at s1
  refine ⟨?_, s2.trans ?_⟩
  · have s3 := s1.world (w' := w2) (lim' := lim) (by rw [hh]; simp) (fun _ => Nat.le_refl _) hcell (fun c hc => .inr ⟨hold c hc, rfl⟩) (fun c hc => ⟨hold c (s1.lt_of_mem hc), rfl⟩) (fun c hc => hfr c (by rw [hh] at hc; simp at hc; omega))
    have e3 : ss.map strAV ++ (zs.map strAV ++ tl).drop (ss.map strAV).length = (ss ++ zs.drop ss.length).map strAV ++ tl := by
      rw [List.drop_append_of_le_length (by simpa using hs)]; simp
    rw [e3] at s3
    exact s3
  · refine ⟨?_, ?_, ?_, by rw [hh]; simp, fun c hc => ⟨hold c (s1.lt_of_F hc), rfl⟩, fun _ => Nat.le_refl _, hcell⟩ <;> (rw [← hw2, ← hw1]; rfl)
theorem sort_callsT {f : FuncId} (hex : ∃ fn, P.funcs[f]? = some fn ∧ fn.body.isSome = true ∧ (fn.name == "runtime.NumGoroutine") = false)
    (hC : ∀ (blk off cap : Nat) (ss : List (List UInt8)) (w : World), Holds encStr w blk off ss.toArray → blk < w.heap.size → ss.length < 4611686018427387904 →
      Calls P f #[.slice (some ⟨blk, off, none⟩) ss.length cap] w fun e w' => e = .returned (.tuple #[]) ∧ ∃ n os, w' = Sort.grow (putRow encStr (Sort.ahead w n) blk off (ss.mergeSort fun x y => decide (x ≤ y)).toArray) os)
    (b k cap : Nat) (zs : List (List UInt8)) (tl : List AV) (hk : k ≤ zs.length) (hkb : k ≤ 140737488355328) (m : AMem) (K : AV → AMem → Prop) (hK : K (.tuple []) (m.wth [(b, .cells ((sortL (zs.take k) ++ zs.drop k).map strAV ++ tl))])) : ACalls P f [.ms ⟨b, 0, none⟩ k cap] (m.wth [(b, .cells (zs.map strAV ++ tl))]) K := by
  refine ⟨hex, fun F lim w cargs hs hr st => ?_⟩
  have h0 := hr 0 (by simp)
  simp only [List.getD_cons_zero] at h0
  obtain ⟨e0, _, hcm⟩ := rep_ms_inv h0
  have ec : cargs = #[.slice (some ⟨b, 0, none⟩) k cap] := by
    apply Array.ext (by simp [hs])
    intro i hi hi'
    obtain rfl : i = 0 := by simp [hs] at hi; omega
    have : cargs.getD 0 undef = cargs[0] := by simp [Array.getD, hi]
    rw [← this, e0]; rfl
  have hm : (m.wth [(b, .cells (zs.map strAV ++ tl))]) b = some (.cells (zs.map strAV ++ tl)) := wth_get (L := [(b, .cells (zs.map strAV ++ tl))]) 0 (by simp) rfl
  have hcells : ∃ cs e, w.heap[b]? = some (.cells cs e (0, 0)) ∧ cs.size = zs.length + tl.length ∧ ∀ i, i < zs.length → cs.getD i undef = encStr (zs.getD i []) ∧ (zs.getD i []).length ≤ 140737488355328 := by
    obtain ⟨os, om, ow, h⟩ := st
    have hM := (h.mem b _ hm).1
    generalize hx : (zs.map strAV ++ tl) = X at hM
    cases hM with
    | cells cs e l _ hb hs hr =>
      refine ⟨cs, e, hb, by rw [hs, ← hx]; simp, fun i hi => ?_⟩
      have := hr i (by rw [← hx]; simp; omega)
      rw [← hx] at this
      have e2 : (zs.map strAV ++ tl).getD i .junk = .str (zs.getD i []) := by
        rw [List.getD_eq_getElem?_getD, List.getElem?_append_left (by simpa using hi)]; simp [List.getD_eq_getElem?_getD, hi, strAV]
      rw [e2] at this
      have := rep_str_all this
      exact ⟨this.1, this.2.1⟩
  obtain ⟨cs, e, hb, hsz, hcv⟩ := hcells
  have hlt : b < w.heap.size := (Array.getElem?_eq_some_iff.1 hb).1
  have htl : (zs.take k).length = k := by simp; omega
  have hH : Holds encStr w b 0 (zs.take k).toArray := fun j hj => by
    have hj' : j < k := by simpa [htl] using hj
    have hjz : j < zs.length := by omega
    refine ⟨?_, ?_⟩
    · have := (hcv j hjz).1
      have hjc : j < cs.size := by omega
      simp only [Array.getD, hjc, dite_true] at this
      simp only [World.cell?, hb, Nat.zero_add]
      simp only [Option.map_some, Array.getElem?_eq_getElem hjc]
      rw [show cs[j] = encStr (zs.getD j []) from this]
      simp [List.getD_eq_getElem?_getD, hjz, hj', getElem!_def]
    · simp [World.frozen?, hb]
  have hC0 := hC b 0 cap (zs.take k) w hH hlt (by rw [htl]; omega)
  rw [htl] at hC0
  rw [ec]
  refine hC0.mono fun e w' ⟨he, nn, os, hw⟩ => ?_
  have hsl : (sortL (zs.take k)).length = k := by rw [sortL_len, htl]
  obtain ⟨s1, s2⟩ := st.putStrsT hm (ss := sortL (zs.take k)) (by rw [hsl]; exact hk) (fun s hs => by
    have h1 := (sortL_perm (zs.take k)).mem_iff.1 hs
    obtain ⟨i, hi, rfl⟩ := List.getElem_of_mem (List.mem_of_mem_take h1)
    have := (hcv i hi).2
    simpa [List.getD_eq_getElem?_getD, hi] using this) nn os
  subst hw
  have eu : (m.wth [(b, .cells (zs.map strAV ++ tl))]).upd b (some (.cells ((sortL (zs.take k) ++ zs.drop (sortL (zs.take k)).length).map strAV ++ tl))) = m.wth [(b, .cells ((sortL (zs.take k) ++ zs.drop k).map strAV ++ tl))] := by
    rw [hsl]
    exact wth_set (L := [(b, .cells (zs.map strAV ++ tl))]) 0 (by simp) rfl
  rw [eu] at s1
  refine ⟨.tuple #[], .tuple [], lim, _, [], he, hK, ?_, s1, s2⟩
  have := Rep.tuple (w := Sort.grow (putRow encStr (Sort.ahead w nn) b 0 (sortL (zs.take k)).toArray) os) (lim := lim) #[] [] (fun _ => []) rfl (fun i hi => by simp at hi)
  rwa [flatMap_nil] at this
theorem compact_mem {x : List UInt8} {l : List (List UInt8)} (h : x ∈ Lib.compact l) : x ∈ l := by
  unfold Lib.compact Lib.compactUpTo at h
  obtain ⟨i, h1, rfl⟩ := List.mem_map.1 h
  have hi : i < l.length := List.mem_range.1 (List.mem_filter.1 h1).1
  simp [getElem!_def, hi]
theorem compact_callsT {f : FuncId} (hex : ∃ fn, P.funcs[f]? = some fn ∧ fn.body.isSome = true ∧ (fn.name == "runtime.NumGoroutine") = false)
    (hC : ∀ (blk off cap : Nat) (ss : List (List UInt8)) (w : World), Holds encStr w blk off ss.toArray → ss.length ≤ 9223372036854775807 → ss.length ≤ cap →
      Calls P f #[.slice (some ⟨blk, off, none⟩) ss.length cap] w fun e w' => e = .returned (.slice (some ⟨blk, off, none⟩) (Lib.compact ss).length cap) ∧ ∃ q, w' = putRow encStr (Sort.ahead w q) blk off (Lib.compact ss ++ List.replicate (ss.length - (Lib.compact ss).length) []).toArray)
    (b cap : Nat) (zs : List (List UInt8)) (tl : List AV) (hkb : zs.length ≤ 140737488355328) (m : AMem) (K : AV → AMem → Prop) (hK : K (.ms ⟨b, 0, none⟩ (Lib.compact zs).length cap) (m.wth [(b, .cells ((Lib.compact zs ++ List.replicate (zs.length - (Lib.compact zs).length) []).map strAV ++ tl))])) : ACalls P f [.ms ⟨b, 0, none⟩ zs.length cap] (m.wth [(b, .cells (zs.map strAV ++ tl))]) K := by
  refine ⟨hex, fun F lim w cargs hs hr st => ?_⟩
  have h0 := hr 0 (by simp)
  simp only [List.getD_cons_zero] at h0
  obtain ⟨e0, hkc, hcm⟩ := rep_ms_inv h0
  have ec : cargs = #[.slice (some ⟨b, 0, none⟩) zs.length cap] := by
    apply Array.ext (by simp [hs])
    intro i hi hi'
    obtain rfl : i = 0 := by simp [hs] at hi; omega
    have : cargs.getD 0 undef = cargs[0] := by simp [Array.getD, hi]
    rw [← this, e0]; rfl
  have hm : (m.wth [(b, .cells (zs.map strAV ++ tl))]) b = some (.cells (zs.map strAV ++ tl)) := wth_get (L := [(b, .cells (zs.map strAV ++ tl))]) 0 (by simp) rfl
  have hcells : ∃ cs e, w.heap[b]? = some (.cells cs e (0, 0)) ∧ cs.size = zs.length + tl.length ∧ ∀ i, i < zs.length → cs.getD i undef = encStr (zs.getD i []) ∧ (zs.getD i []).length ≤ 140737488355328 := by
    obtain ⟨os, om, ow, h⟩ := st
    have hM := (h.mem b _ hm).1
    generalize hx : (zs.map strAV ++ tl) = X at hM
    cases hM with
    | cells cs e l _ hb hs hr =>
      refine ⟨cs, e, hb, by rw [hs, ← hx]; simp, fun i hi => ?_⟩
      have := hr i (by rw [← hx]; simp; omega)
      rw [← hx] at this
      have e2 : (zs.map strAV ++ tl).getD i .junk = .str (zs.getD i []) := by
        rw [List.getD_eq_getElem?_getD, List.getElem?_append_left (by simpa using hi)]; simp [List.getD_eq_getElem?_getD, hi, strAV]
      rw [e2] at this
      have := rep_str_all this
      exact ⟨this.1, this.2.1⟩
  obtain ⟨cs, e, hb, hsz, hcv⟩ := hcells
  have hlt : b < w.heap.size := (Array.getElem?_eq_some_iff.1 hb).1
  have hH : Holds encStr w b 0 zs.toArray := fun j hj => by
    have hjz : j < zs.length := by simpa using hj
    refine ⟨?_, ?_⟩
    · have := (hcv j hjz).1
      have hjc : j < cs.size := by omega
      simp only [Array.getD, hjc, dite_true] at this
      simp only [World.cell?, hb, Nat.zero_add]
      simp only [Option.map_some, Array.getElem?_eq_getElem hjc]
      rw [show cs[j] = encStr (zs.getD j []) from this]
      simp [List.getD_eq_getElem?_getD, hjz, getElem!_def]
    · simp [World.frozen?, hb]
  rw [ec]
  refine (hC b 0 cap zs w hH (by omega) hkc).mono fun e w' ⟨he, nn, hw⟩ => ?_
  have hcl : (Lib.compact zs).length ≤ zs.length := Lib.compact_length_le zs
  have hsl : (Lib.compact zs ++ List.replicate (zs.length - (Lib.compact zs).length) ([] : List UInt8)).length = zs.length := by simp; omega
  obtain ⟨s1, s2⟩ := st.putStrsT hm (ss := Lib.compact zs ++ List.replicate (zs.length - (Lib.compact zs).length) []) (by rw [hsl]; exact Nat.le_refl _) (fun s hs => by
    rcases List.mem_append.1 hs with h1 | h1
    · obtain ⟨i, hi, rfl⟩ := List.getElem_of_mem (compact_mem h1)
      have := (hcv i hi).2
      simpa [List.getD_eq_getElem?_getD, hi] using this
    · rw [List.eq_of_mem_replicate h1]; simp) nn #[]
  rw [Sort.grow_empty] at s1 s2
  subst hw
  have eu : (m.wth [(b, .cells (zs.map strAV ++ tl))]).upd b (some (.cells ((Lib.compact zs ++ List.replicate (zs.length - (Lib.compact zs).length) [] ++ zs.drop (Lib.compact zs ++ List.replicate (zs.length - (Lib.compact zs).length) ([] : List UInt8)).length).map strAV ++ tl))) = m.wth [(b, .cells ((Lib.compact zs ++ List.replicate (zs.length - (Lib.compact zs).length) []).map strAV ++ tl))] := by
    rw [hsl, List.drop_length, List.append_nil]
    exact wth_set (L := [(b, .cells (zs.map strAV ++ tl))]) 0 (by simp) rfl
  rw [eu] at s1
  exact ⟨_, _, lim, _, [], he, hK, .ms _ _ _ (by omega) hcm, s1, s2⟩
theorem St.freezeT (st : St F lim w n fr m ca []) {b : Nat} {zs : List (List UInt8)} {tl : List AV} (hm : m b = some (.cells (zs.map strAV ++ tl))) :
    St F (fun c => if c = b then zs.length else lim c) w n fr (m.upd b none) ca [] ∧ Pres F w lim w (fun c => if c = b then zs.length else lim c) ∧
    ∀ k cap v, k ≤ zs.length → k ≤ 140737488355328 → Rep w lim v (.ms ⟨b, 0, none⟩ k cap) [] → Rep w (fun c => if c = b then zs.length else lim c) v (.slice false ((zs.take k).map strAV)) [] := by
  obtain ⟨os, om, ow, h⟩ := st
  obtain ⟨hM, hl, hF⟩ := h.mem b _ hm
  have hlim : ∀ c, lim c ≤ if c = b then zs.length else lim c := fun c => by split <;> simp_all
  have hown : ∀ c, ow c ≠ .none → c ≠ b := fun c hc e => by subst e; have := (h.free c hc).2.1; rw [hm] at this; cases this
  have hst : ∀ {v x os'}, Rep w lim v x os' → (∀ c ∈ os', ow c ≠ .none) → Rep w (fun c => if c = b then zs.length else lim c) v x os' := fun hR ho => hR.stable hlim (fun _ _ _ => rfl) (fun c hc => ⟨rfl, if_neg (hown c (ho c hc))⟩)
  have hblt : b < w.heap.size := by
    rcases Nat.lt_or_ge b w.heap.size with h3 | h3
    · exact h3
    · rw [(h.fresh b h3).2.2] at hm; cases hm
  refine ⟨⟨os, om, ow, h.size, h.defers, fun t x hx => ⟨(h.slots t x hx).1, hst (h.slots t x hx).2 (fun c hc => by rw [(h.ownS t x hx).2 c hc]; simp)⟩, fun c o hc => ?_, h.ownS, fun c o hc i => ?_, h.ownF, fun c hc => ⟨(h.free c hc).1, ?_, (h.free c hc).2.2⟩, fun c hc => ?_⟩, ⟨rfl, rfl, rfl, Nat.le_refl _, fun c hc => ⟨rfl, ?_⟩, hlim, fun _ _ _ => rfl⟩, fun k cap v hk hz hv => ?_⟩
  · have hcb : c ≠ b := fun e => by subst e; simp [AMem.upd] at hc
    simp only [AMem.upd, if_neg hcb] at hc
    have := h.mem c o hc
    refine ⟨this.1.stable rfl hlim (fun _ _ _ => rfl) (fun i q hq => ⟨rfl, if_neg (hown q (by rw [(h.ownM c o hc i).2 q hq]; simp))⟩), by rw [if_neg hcb]; exact this.2.1, this.2.2⟩
  · have hcb : c ≠ b := fun e => by subst e; simp [AMem.upd] at hc
    simp only [AMem.upd, if_neg hcb] at hc
    exact h.ownM c o hc i
  · have := (h.free c hc).2.1
    simp only [AMem.upd]; split
    · rfl
    · exact this
  · have := h.fresh c hc
    have hcb : c ≠ b := by omega
    refine ⟨by rw [if_neg hcb]; exact this.1, this.2.1, ?_⟩
    simp only [AMem.upd, if_neg hcb]; exact this.2.2
  · exact if_neg (fun e => hF (by rw [← e]; exact hc))
  · obtain ⟨rfl, hkc, hcm⟩ := rep_ms_inv hv
    rcases Nat.eq_zero_or_pos k with h0 | h0
    · subst h0
      exact .empty _ cap hcm
    generalize hX : zs.map strAV ++ tl = X at hM
    cases hM with
    | cells cs e l _ hb hs hr =>
      have hsz : cs.size = zs.length + tl.length := by rw [hs, ← hX]; simp
      refine Rep.slice b 0 k cap 1 _ (fun i _ => cs.getD i undef) (by simp; omega) hkc hcm (by omega) (fun i hi => ?_) (by simp; omega) (fun i j hi hj => ?_) (fun i j hi hj => ?_)
      · have hiz : i < zs.length := by omega
        simp [List.getD_eq_getElem?_getD, hi, hiz, strAV, AV.cells]
      · obtain rfl : j = 0 := by omega
        have hic : i < cs.size := by omega
        simp [World.cell?, hb, Array.getD, hic]
      · obtain rfl : j = 0 := by omega
        have hiz : i < zs.length := by omega
        have h1 := hr i (by rw [← hX]; simp; omega)
        rw [← hX] at h1
        have e2 : (zs.map strAV ++ tl).getD i .junk = .str zs[i] := by
          rw [List.getD_eq_getElem?_getD, List.getElem?_append_left (by simpa using hiz)]; simp [hiz, strAV]
        rw [e2] at h1
        have h2 := rep_str_all h1
        have e3 : (((zs.take k).map strAV).getD i .junk).cells.getD 0 .junk = .str zs[i] := by simp [List.getD_eq_getElem?_getD, hi, hiz, strAV, AV.cells]
        rw [e3, h2.1]
        exact rep_str_mk h2.2.1
end
end Go.Aw
end
section
namespace Go.Sx
open Go Go.Aw
section
variable {P : Program} {b0 : List Nat} {fr : SFr} {L : List SObj} {m : AMem}
theorem callN {f : FuncId} {vs : List SV} {Q : SV → List SObj → AMem → Prop} {σ : Type} (I : σ → Prop) (o : σ → SObj) (y : σ → SV) (hs : (scF L.length fr && scM L.length L) = true)
    (h : ∀ bs (mm : AMem), bs.length = L.length → (∀ b o, m b = some o → mm b = some o) → ∀ (K : AV → AMem → Prop), (∀ x b, I x → mm b = none → K (den (bs ++ [b]) (y x)) (mm.upd b (some (denO (bs ++ [b]) (o x))))) → ACalls P f (denL bs vs) mm K)
    (hQ : ∀ x, I x → Q (y x) (L ++ [o x]) m) : SCall P b0 f vs fr L m Q := by
  simp only [Bool.and_eq_true] at hs
  refine ⟨σ, I, y, fun x => L ++ [o x], fun _ => m, fun new g K hK => h (b0 ++ new) _ g.len (fun _ _ hb => mem_base g hb) K fun x b hx hb => ?_, fun x => ?_, hQ⟩
  · obtain ⟨g', e⟩ := mem_new g (by rw [g.len]; exact hs.2) hb (o x)
    have := hK x hx [b] g'
    rw [e] at this
    exact this
  · rw [hs.1]; cases Nat.beq (L ++ [o x]).length L.length <;> rfl
theorem getD_snoc {bs : List Nat} {b n : Nat} (h : bs.length = n) : (bs ++ [b]).getD n 0 = b := by
  subst h
  rw [List.getD_eq_getElem?_getD, List.getElem?_append_right (Nat.le_refl _)]; simp
theorem callClone {f : FuncId} {v : SV} {Q : SV → List SObj → AMem → Prop} (l : List (List UInt8)) (hv : ∀ bs, den bs v = .slice false (l.map strAV)) (hs : (scF L.length fr && scM L.length L) = true)
    (h : ∀ (m : AMem) (K : AV → AMem → Prop), (∀ b cap t, m b = none → l.length ≤ cap → K (.ms ⟨b, 0, none⟩ l.length cap) (m.upd b (some (rowJ l t)))) → ACalls P f [.slice false (l.map strAV)] m K)
    (hQ : ∀ cap t : Nat, l.length ≤ cap → Q (.ms L.length l.length cap) (L ++ [.obj (rowJ l t)]) m) : SCall P b0 f [v] fr L m Q :=
  callN (σ := Nat × Nat) (fun x => l.length ≤ x.1) (fun x => .obj (rowJ l x.2)) (fun x => .ms L.length l.length x.1) hs (fun bs mm hl _ K hK => by
    simp only [denL, hv]
    refine h mm K fun b cap t hb hc => ?_
    have := hK (cap, t) b hc hb
    simp only [den, denO, getD_snoc hl] at this
    exact this) fun x hx => hQ x.1 x.2 hx
end
section
variable {bs : List Nat} {L L' : List SObj} {m : AMem} {fr : SFr}
theorem cvT {c : Cfg} {A : SK} {R : Prop} (zs : List (List UInt8)) (t : Nat) (ys : List (List UInt8)) (s : Nat) {i k cap : Nat} (hL : nth L i = some (.obj (rowJ zs t))) (hi : (Nat.beq (i + 1) L.length && Nat.ble c.bs.length i) = true) (hs : sgK fr s fun v => v = .ms i k cap)
    (hk : k ≤ zs.length ∧ k ≤ 140737488355328) (hy : zs.take k = ys)
    (h : fgF i ((s, .av (.slice false (ys.map strAV))) :: fr) fun fr' => fgM i (L.take i) fun L' => A fr' L' m) : SOr (SCv c A fr L m) R := ⟨.inl ⟨fun new g n cd Q hQ F lim wd ca st => by
  simp only [Bool.and_eq_true] at hi
  have hi1 := Nat.eq_of_beq_eq_true hi.1
  have hi2 := Nat.le_of_ble_eq_true hi.2
  rw [nth_eq] at hL
  obtain ⟨fr', h1, hF⟩ := fgF_sound h
  obtain ⟨L', h2, hl2, hM⟩ := fgM_sound h1
  generalize hB : c.bs ++ new = B at g st
  have hBl := g.len
  have hL2 : L'.length = i := by rw [hl2, List.length_take]; omega
  have hm := mem_get g hL
  simp only [denO] at hm
  obtain ⟨s1, s2, s3⟩ := Aw.St.freezeT st (zs := zs) (tl := List.replicate t .junk) hm
  have hslot := sgK_get (bs := B) hs (by simp)
  simp only [den] at hslot
  have st2 := Aw.St.convSlot s1 (y := .slice false (ys.map strAV)) hslot (fun v os hr => by
    have e := ms_none hr
    subst e
    obtain ⟨e1, e2, e3⟩ := rep_ms_inv hr
    rw [← hy]
    exact s3 k cap v hk.1 hk.2 (by rw [e1]; exact .ms _ _ _ e2 e3))
  have g' : Good (B.take i) L' m := good_take g hi1 hL2
  have hpre : c.bs <+: B.take i := by
    rw [← hB, List.take_append, List.take_of_length_le hi2]
    exact List.prefix_append _ _
  have hmle : MLe (memD (B.take i) L' m) ((memD B L m).upd (B.getD i 0) none) := by
    intro b o' hb
    rcases memD_get g' hb with ⟨q, x, q1, q2, rfl⟩ | ⟨q1, q2⟩
    · obtain ⟨o, q3, q4⟩ := hM B 0 q x q2
      have hqi : q < i := by
        rcases Nat.lt_or_ge q i with h | h
        · exact h
        · rw [List.getElem?_eq_none (by omega)] at q2; cases q2
      rw [List.getElem?_take_of_lt hqi] at q1 q3
      rw [← denO_congr (take_getD (bs := B) (i := i) (by omega)) x] at q4
      have eb : B.getD q 0 = b := by rw [List.getD_eq_getElem?_getD, q1]; rfl
      have hqn : b ≠ B.getD i 0 := fun e => by
        have := getD_inj g.nd (by omega) (by omega) (eb.trans e)
        omega
      have hg := mem_get g q3
      rw [eb] at hg
      exact ⟨denO B o, by simp only [AMem.upd, if_neg hqn]; exact hg, q4⟩
    · have hbB : b ∉ B := fun hb2 => by rw [g.fresh b hb2] at q2; cases q2
      have h5 : b ≠ B.getD i 0 := fun e => hbB (by rw [e, List.getD_eq_getElem?_getD, List.getElem?_eq_getElem (by omega)]; exact List.getElem_mem _)
      refine ⟨o', ?_, .inl rfl⟩
      simp only [AMem.upd, if_neg h5, memD]
      rw [wth_other (by rw [denM_fst g.len]; exact hbB)]
      exact q2
  have hle : Le (denF (B.take i) fr') ((denF B fr).put s (.slice false (ys.map strAV))) := by
    rw [denF_congr (take_getD (bs := B) (i := i) (by omega))]
    have := hF B 0
    simp only [denF, den, AV.plain] at this
    exact this
  have hA := AWP.less hle (AWP.lessM hmle (hQ fr' L' m (B.take i) hpre g' h2))
  exact wp_mono (hA F _ wd ca st2) fun e a w' ⟨l, f, m', q, st', pr⟩ => ⟨l, f, m', q, st', s2.trans pr⟩⟩⟩
end
end Go.Sx
end
section
namespace Go.Sx
open Go Go.Aw
theorem get3 {bs : List Nat} {x y z n : Nat} (h : bs.length = n) : (bs ++ [x] ++ [y] ++ [z]).getD n 0 = x ∧ (bs ++ [x] ++ [y] ++ [z]).getD (n + 1) 0 = y ∧ (bs ++ [x] ++ [y] ++ [z]).getD (n + 2) 0 = z := by
  subst h
  simp only [List.getD_eq_getElem?_getD, List.append_assoc]
  refine ⟨?_, ?_, ?_⟩ <;> rw [List.getElem?_append_right (by omega)] <;> simp
section
variable {P : Program} {b0 : List Nat} {fr : SFr} {L : List SObj} {m : AMem}
theorem callN3 {f : FuncId} {vs : List SV} {Q : SV → List SObj → AMem → Prop} (oz oy ox : SObj) (X : Nat → Nat → Nat → AObj) (Y Z : AObj)
    (hs : (scF L.length fr && (scM L.length L && (scM (L.length + 1) (L ++ [oz]) && scM (L.length + 2) (L ++ [oz] ++ [oy])))) = true)
    (hZ : ∀ bs, denO bs oz = Z) (hY : ∀ bs, denO bs oy = Y) (hX : ∀ bs d nb kb, bs.length = L.length → denO (bs ++ [kb] ++ [nb] ++ [d]) ox = X d nb kb)
    (h : ∀ bs (mm : AMem), bs.length = L.length → (∀ b o, m b = some o → mm b = some o) → ∀ K : AV → AMem → Prop, (∀ d nb kb, [d, nb, kb].Nodup → mm d = none → mm nb = none → mm kb = none → K (.ptr ⟨d, 0, none⟩) (mm.wth [(d, X d nb kb), (nb, Y), (kb, Z)])) → ACalls P f (denL bs vs) mm K)
    (hQ : Q (.loc (L.length + 2) 0) (L ++ [oz] ++ [oy] ++ [ox]) m) : SCall P b0 f vs fr L m Q := by
  simp only [Bool.and_eq_true] at hs
  refine SCall.one (.loc (L.length + 2) 0) (L ++ [oz] ++ [oy] ++ [ox]) m (fun new g K hK => h (b0 ++ new) _ g.len (fun _ _ hb => mem_base g hb) K fun d nb kb hn hd hnb hkb => ?_) ?_ hQ
  · simp only [List.nodup_cons, List.mem_cons, List.not_mem_nil, or_false, not_or] at hn
    obtain ⟨g1, e1⟩ := mem_new g (by rw [g.len]; exact hs.2.1) hkb oz
    have hnb1 : memD (b0 ++ new ++ [kb]) (L ++ [oz]) m nb = none := by
      rw [e1]; simp only [AMem.upd]; rw [if_neg hn.2.1]; exact hnb
    obtain ⟨g2, e2⟩ := mem_new g1 (by rw [g1.len]; simpa using hs.2.2.1) hnb1 oy
    have hd1 : memD (b0 ++ new ++ [kb] ++ [nb]) (L ++ [oz] ++ [oy]) m d = none := by
      rw [e2]; simp only [AMem.upd]; rw [if_neg hn.1.1, e1]; simp only [AMem.upd]; rw [if_neg hn.1.2]; exact hd
    obtain ⟨g3, e3⟩ := mem_new g2 (by rw [g2.len]; simpa using hs.2.2.2) hd1 ox
    have e : b0 ++ new ++ [kb, nb, d] = b0 ++ new ++ [kb] ++ [nb] ++ [d] := by simp
    have h1 := hK [kb, nb, d]
    rw [e] at h1
    have h2 := h1 g3
    rw [e3, e2, e1, hZ, hY, hX _ d nb kb g.len] at h2
    simp only [den] at h2
    rw [(get3 g.len).2.2] at h2
    exact h2
  · rw [hs.1]
    cases Nat.beq (L ++ [oz] ++ [oy] ++ [ox]).length L.length <;> rfl
end
end Go.Sx
end
section
namespace Go.Proofs
open Go Go.Aw
theorem Tryd.mixed : Tryd.prog.follows .mixedOrders = true := by kernel_rfl
end Go.Proofs
end
section
namespace Go.Proofs
open Go.Shelf
def Tryd.lays103_ren : Go.Shelf.Ren := ⟨fun | 103 => 42 | 210 => 52 | 206 => 70 | n => n, fun | 9 => 9 | 4 => 4 | 24 => 78 | 3 => 3 | n => n, fun | n => n⟩
theorem Tryd.lays103 : Go.Proofs.Lays.n103 Tryd.prog Tryd.lays103_ren := {
  mixed := by kernel_rfl
  f103 := Tryd.func42.trans (congrArg some (by kernel_rfl))
  f206 := Tryd.func70.trans (congrArg some (by kernel_rfl))
  f210 := Tryd.func52.trans (congrArg some (by kernel_rfl))
  t3 := Tryd.underlying3
  a3 := Tryd.isAgg3
  z3 := Tryd.sizeOf3
  v3 := Tryd.zeroValue3
  t4 := Tryd.underlying4
  a4 := Tryd.isAgg4
  z4 := Tryd.sizeOf4
  v4 := Tryd.zeroValue4
  t9 := Tryd.underlying9
  a9 := Tryd.isAgg9
  z9 := Tryd.sizeOf9
  v9 := Tryd.zeroValue9
  t24 := Tryd.underlying78
  a24 := Tryd.isAgg78
  z24 := Tryd.sizeOf78
  v24 := Tryd.zeroValue78 }
open Go.RowKit in
theorem Tryd.strings_CutPrefix (s p : ByteArray) (w : World) :
    Calls Tryd.prog 42 #[.string s, .string p] w fun e w' => e = .returned (.tuple #[.string ⟨(Lib.trimPrefix s.data.toList p.data.toList).toArray⟩, .bool (Lib.hasPrefix s.data.toList p.data.toList)]) ∧ w' = w := Any.strings_CutPrefix Tryd.lays103 s p w
def Tryd.laysM171_ren : Go.Shelf.Ren := ⟨fun | 171 => 30 | 243 => 45 | 246 => 64 | 283 => 77 | 284 => 78 | 285 => 79 | 286 => 80 | 129 => 63 | 317 => 85 | 318 => 86 | 319 => 87 | 320 => 88 | 337 => 91 | 338 => 92 | n => n, fun | 3 => 3 | 9 => 9 | 2 => 2 | 4 => 4 | 171 => 115 | 0 => 0 | 53 => 101 | 37 => 87 | 5 => 5 | 173 => 117 | 212 => 128 | 51 => 99 | 20 => 20 | 213 => 129 | 46 => 85 | 232 => 135 | 233 => 136 | n => n, fun | 17 => 2 | 18 => 3 | 19 => 4 | n => n⟩
theorem Tryd.laysM171 : Go.Proofs.LaysM.n171 Tryd.prog Tryd.laysM171_ren := {
  mixed := by kernel_rfl
  f129 := Tryd.func63.trans (congrArg some (by kernel_rfl))
  f171 := Tryd.func30.trans (congrArg some (by kernel_rfl))
  f243 := Tryd.func45.trans (congrArg some (by kernel_rfl))
  f246 := Tryd.func64.trans (congrArg some (by kernel_rfl))
  f283 := Tryd.func77.trans (congrArg some (by kernel_rfl))
  f284 := Tryd.func78.trans (congrArg some (by kernel_rfl))
  f285 := Tryd.func79.trans (congrArg some (by kernel_rfl))
  f286 := Tryd.func80.trans (congrArg some (by kernel_rfl))
  f317 := Tryd.func85.trans (congrArg some (by kernel_rfl))
  f318 := Tryd.func86.trans (congrArg some (by kernel_rfl))
  f319 := Tryd.func87.trans (congrArg some (by kernel_rfl))
  f320 := Tryd.func88.trans (congrArg some (by kernel_rfl))
  f337 := Tryd.func91.trans (congrArg some (by kernel_rfl))
  f338 := Tryd.func92.trans (congrArg some (by kernel_rfl))
  t0 := Tryd.underlying0
  a0 := Tryd.isAgg0
  z0 := Tryd.sizeOf0
  v0 := Tryd.zeroValue0
  t2 := Tryd.underlying2
  a2 := Tryd.isAgg2
  z2 := Tryd.sizeOf2
  v2 := Tryd.zeroValue2
  t3 := Tryd.underlying3
  a3 := Tryd.isAgg3
  z3 := Tryd.sizeOf3
  v3 := Tryd.zeroValue3
  t4 := Tryd.underlying4
  a4 := Tryd.isAgg4
  z4 := Tryd.sizeOf4
  v4 := Tryd.zeroValue4
  t5 := Tryd.underlying5
  a5 := Tryd.isAgg5
  z5 := Tryd.sizeOf5
  v5 := Tryd.zeroValue5
  t9 := Tryd.underlying9
  a9 := Tryd.isAgg9
  z9 := Tryd.sizeOf9
  v9 := Tryd.zeroValue9
  t20 := Tryd.underlying20
  a20 := Tryd.isAgg20
  z20 := Tryd.sizeOf20
  v20 := Tryd.zeroValue20
  t37 := Tryd.underlying87
  a37 := Tryd.isAgg87
  z37 := Tryd.sizeOf87
  v37 := Tryd.zeroValue87
  t46 := Tryd.underlying85
  a46 := Tryd.isAgg85
  z46 := Tryd.sizeOf85
  v46 := Tryd.zeroValue85
  t51 := Tryd.underlying99
  a51 := Tryd.isAgg99
  z51 := Tryd.sizeOf99
  v51 := Tryd.zeroValue99
  t53 := Tryd.underlying101
  a53 := Tryd.isAgg101
  z53 := Tryd.sizeOf101
  v53 := Tryd.zeroValue101
  t171 := Tryd.underlying115
  a171 := Tryd.isAgg115
  z171 := Tryd.sizeOf115
  v171 := Tryd.zeroValue115
  t173 := Tryd.underlying117
  a173 := Tryd.isAgg117
  z173 := Tryd.sizeOf117
  v173 := Tryd.zeroValue117
  t212 := Tryd.underlying128
  a212 := Tryd.isAgg128
  z212 := Tryd.sizeOf128
  v212 := Tryd.zeroValue128
  t213 := Tryd.underlying129
  a213 := Tryd.isAgg129
  z213 := Tryd.sizeOf129
  t232 := Tryd.underlying135
  a232 := Tryd.isAgg135
  z232 := Tryd.sizeOf135
  v232 := Tryd.zeroValue135
  t233 := Tryd.underlying136
  a233 := Tryd.isAgg136
  z233 := Tryd.sizeOf136
  v233 := Tryd.zeroValue136
  g17 := by kernel_rfl
  g18 := by kernel_rfl
  g19 := by kernel_rfl
  i0 := by kernel_rfl
  i2 := by kernel_rfl
  i3 := by kernel_rfl
  i4 := by kernel_rfl
  i5 := by kernel_rfl
  i9 := by kernel_rfl
  i20 := by kernel_rfl
  i37 := by kernel_rfl
  i46 := by kernel_rfl
  i51 := by kernel_rfl
  i53 := by kernel_rfl
  i171 := by kernel_rfl
  i173 := by kernel_rfl
  i212 := by kernel_rfl
  i232 := by kernel_rfl
  i233 := by kernel_rfl
  m17 := by kernel_rfl
  m18 := by kernel_rfl
  m19 := by kernel_rfl }
open Go.RowKit Go.Sort Go.Lib in
theorem Tryd.strconv_Itoa (n : Int) (h0 : -9223372036854775808 ≤ n) (h1 : n ≤ 9223372036854775807) (w : World) (htab : Lib.TabIs Tryd.prog w "internal/strconv.uint64pow10" .u64 Lib.pow10Tab) :
    Calls Tryd.prog 30 #[.int .i64 n] w fun e w' => e = .returned (.string ⟨(Lib.itoa n).toArray⟩) ∧ ∃ k os, w' = grow (w.drewN k) os := Any.strconv_Itoa Tryd.laysM171 n h0 h1 w htab
def Tryd.laysC172_ren : Go.Shelf.Ren := ⟨fun | 172 => 40 | 244 => 50 | 245 => 51 | 247 => 65 | 279 => 66 | 280 => 67 | 281 => 68 | 282 => 69 | 287 => 81 | 316 => 82 | 171 => 30 | 205 => 83 | 321 => 89 | 322 => 90 | 243 => 45 | 246 => 64 | 283 => 77 | 284 => 78 | 285 => 79 | 286 => 80 | 129 => 63 | 317 => 85 | 318 => 86 | 319 => 87 | 320 => 88 | 337 => 91 | 338 => 92 | n => n, fun | 9 => 9 | 3 => 3 | 75 => 38 | 76 => 76 | 4 => 4 | 5 => 5 | 167 => 103 | 37 => 87 | 0 => 0 | 85 => 104 | 2 => 2 | 168 => 106 | 53 => 101 | 175 => 119 | 46 => 85 | 210 => 122 | 127 => 131 | 145 => 134 | 143 => 132 | 21 => 21 | 171 => 115 | 173 => 117 | 212 => 128 | 51 => 99 | 20 => 20 | 213 => 129 | 232 => 135 | 233 => 136 | 80 => 137 | n => n, fun | 15 => 0 | 16 => 1 | 17 => 2 | 18 => 3 | 19 => 4 | n => n⟩
theorem Tryd.laysC172 : Go.Proofs.LaysC.n172 Tryd.prog Tryd.laysC172_ren := {
  mixed := by kernel_rfl
  f129 := Tryd.func63.trans (congrArg some (by kernel_rfl))
  f171 := Tryd.func30.trans (congrArg some (by kernel_rfl))
  f172 := Tryd.func40.trans (congrArg some (by kernel_rfl))
  f205 := Tryd.func83.trans (congrArg some (by kernel_rfl))
  f243 := Tryd.func45.trans (congrArg some (by kernel_rfl))
  f244 := Tryd.func50.trans (congrArg some (by kernel_rfl))
  f245 := Tryd.func51.trans (congrArg some (by kernel_rfl))
  f246 := Tryd.func64.trans (congrArg some (by kernel_rfl))
  f247 := Tryd.func65.trans (congrArg some (by kernel_rfl))
  f279 := Tryd.func66.trans (congrArg some (by kernel_rfl))
  f280 := Tryd.func67.trans (congrArg some (by kernel_rfl))
  f281 := Tryd.func68.trans (congrArg some (by kernel_rfl))
  f282 := Tryd.func69.trans (congrArg some (by kernel_rfl))
  f283 := Tryd.func77.trans (congrArg some (by kernel_rfl))
  f284 := Tryd.func78.trans (congrArg some (by kernel_rfl))
  f285 := Tryd.func79.trans (congrArg some (by kernel_rfl))
  f286 := Tryd.func80.trans (congrArg some (by kernel_rfl))
  f287 := Tryd.func81.trans (congrArg some (by kernel_rfl))
  f316 := Tryd.func82.trans (congrArg some (by kernel_rfl))
  f317 := Tryd.func85.trans (congrArg some (by kernel_rfl))
  f318 := Tryd.func86.trans (congrArg some (by kernel_rfl))
  f319 := Tryd.func87.trans (congrArg some (by kernel_rfl))
  f320 := Tryd.func88.trans (congrArg some (by kernel_rfl))
  f321 := Tryd.func89.trans (congrArg some (by kernel_rfl))
  f322 := Tryd.func90.trans (congrArg some (by kernel_rfl))
  f337 := Tryd.func91.trans (congrArg some (by kernel_rfl))
  f338 := Tryd.func92.trans (congrArg some (by kernel_rfl))
  t0 := Tryd.underlying0
  a0 := Tryd.isAgg0
  z0 := Tryd.sizeOf0
  v0 := Tryd.zeroValue0
  t2 := Tryd.underlying2
  a2 := Tryd.isAgg2
  z2 := Tryd.sizeOf2
  v2 := Tryd.zeroValue2
  t3 := Tryd.underlying3
  a3 := Tryd.isAgg3
  z3 := Tryd.sizeOf3
  v3 := Tryd.zeroValue3
  t4 := Tryd.underlying4
  a4 := Tryd.isAgg4
  z4 := Tryd.sizeOf4
  v4 := Tryd.zeroValue4
  t5 := Tryd.underlying5
  a5 := Tryd.isAgg5
  z5 := Tryd.sizeOf5
  v5 := Tryd.zeroValue5
  t9 := Tryd.underlying9
  a9 := Tryd.isAgg9
  z9 := Tryd.sizeOf9
  v9 := Tryd.zeroValue9
  t20 := Tryd.underlying20
  a20 := Tryd.isAgg20
  z20 := Tryd.sizeOf20
  v20 := Tryd.zeroValue20
  t21 := Tryd.underlying21
  a21 := Tryd.isAgg21
  z21 := Tryd.sizeOf21
  v21 := Tryd.zeroValue21
  t37 := Tryd.underlying87
  a37 := Tryd.isAgg87
  z37 := Tryd.sizeOf87
  v37 := Tryd.zeroValue87
  t46 := Tryd.underlying85
  a46 := Tryd.isAgg85
  z46 := Tryd.sizeOf85
  v46 := Tryd.zeroValue85
  t51 := Tryd.underlying99
  a51 := Tryd.isAgg99
  z51 := Tryd.sizeOf99
  v51 := Tryd.zeroValue99
  t53 := Tryd.underlying101
  a53 := Tryd.isAgg101
  z53 := Tryd.sizeOf101
  v53 := Tryd.zeroValue101
  t75 := Tryd.underlying38
  a75 := Tryd.isAgg38
  z75 := Tryd.sizeOf38
  v75 := Tryd.zeroValue38
  t76 := Tryd.underlying76
  a76 := Tryd.isAgg76
  z76 := Tryd.sizeOf76
  v76 := Tryd.zeroValue76
  t85 := Tryd.underlying104
  a85 := Tryd.isAgg104
  z85 := Tryd.sizeOf104
  v85 := Tryd.zeroValue104
  t127 := Tryd.underlying131
  a127 := Tryd.isAgg131
  z127 := Tryd.sizeOf131
  v127 := Tryd.zeroValue131
  t143 := Tryd.underlying132
  a143 := Tryd.isAgg132
  z143 := Tryd.sizeOf132
  v143 := Tryd.zeroValue132
  t145 := Tryd.underlying134
  a145 := Tryd.isAgg134
  z145 := Tryd.sizeOf134
  v145 := Tryd.zeroValue134
  t167 := Tryd.underlying103
  a167 := Tryd.isAgg103
  z167 := Tryd.sizeOf103
  v167 := Tryd.zeroValue103
  t168 := Tryd.underlying106
  a168 := Tryd.isAgg106
  z168 := Tryd.sizeOf106
  v168 := Tryd.zeroValue106
  t171 := Tryd.underlying115
  a171 := Tryd.isAgg115
  z171 := Tryd.sizeOf115
  v171 := Tryd.zeroValue115
  t173 := Tryd.underlying117
  a173 := Tryd.isAgg117
  z173 := Tryd.sizeOf117
  v173 := Tryd.zeroValue117
  t175 := Tryd.underlying119
  a175 := Tryd.isAgg119
  z175 := Tryd.sizeOf119
  v175 := Tryd.zeroValue119
  t210 := Tryd.underlying122
  a210 := Tryd.isAgg122
  z210 := Tryd.sizeOf122
  v210 := Tryd.zeroValue122
  t212 := Tryd.underlying128
  a212 := Tryd.isAgg128
  z212 := Tryd.sizeOf128
  v212 := Tryd.zeroValue128
  t213 := Tryd.underlying129
  a213 := Tryd.isAgg129
  z213 := Tryd.sizeOf129
  t232 := Tryd.underlying135
  a232 := Tryd.isAgg135
  z232 := Tryd.sizeOf135
  v232 := Tryd.zeroValue135
  t233 := Tryd.underlying136
  a233 := Tryd.isAgg136
  z233 := Tryd.sizeOf136
  v233 := Tryd.zeroValue136
  g15 := by kernel_rfl
  g16 := by kernel_rfl
  g17 := by kernel_rfl
  g18 := by kernel_rfl
  g19 := by kernel_rfl
  t80 := Tryd.underlying137
  a80 := Tryd.isAgg137
  z80 := Tryd.sizeOf137
  v80 := Tryd.zeroValue137
  i0 := by kernel_rfl
  i2 := by kernel_rfl
  i3 := by kernel_rfl
  i4 := by kernel_rfl
  i5 := by kernel_rfl
  i9 := by kernel_rfl
  i20 := by kernel_rfl
  i21 := by kernel_rfl
  i37 := by kernel_rfl
  i46 := by kernel_rfl
  i51 := by kernel_rfl
  i53 := by kernel_rfl
  i75 := by kernel_rfl
  i76 := by kernel_rfl
  i80 := by kernel_rfl
  i85 := by kernel_rfl
  i127 := by kernel_rfl
  i143 := by kernel_rfl
  i145 := by kernel_rfl
  i167 := by kernel_rfl
  i168 := by kernel_rfl
  i171 := by kernel_rfl
  i173 := by kernel_rfl
  i175 := by kernel_rfl
  i210 := by kernel_rfl
  i212 := by kernel_rfl
  i232 := by kernel_rfl
  i233 := by kernel_rfl
  m15 := by kernel_rfl
  m16 := by kernel_rfl
  m17 := by kernel_rfl
  m18 := by kernel_rfl
  m19 := by kernel_rfl
  c0 := by kernel_rfl
  c2 := by kernel_rfl
  c3 := by kernel_rfl
  c4 := by kernel_rfl
  c5 := by kernel_rfl
  c9 := by kernel_rfl
  c20 := by kernel_rfl
  c21 := by kernel_rfl
  c37 := by kernel_rfl
  c46 := by kernel_rfl
  c51 := by kernel_rfl
  c53 := by kernel_rfl
  c75 := by kernel_rfl
  c76 := by kernel_rfl
  c80 := by kernel_rfl
  c85 := by kernel_rfl
  c127 := by kernel_rfl
  c143 := by kernel_rfl
  c145 := by kernel_rfl
  c167 := by kernel_rfl
  c168 := by kernel_rfl
  c171 := by kernel_rfl
  c173 := by kernel_rfl
  c175 := by kernel_rfl
  c210 := by kernel_rfl
  c212 := by kernel_rfl
  c213 := by kernel_rfl
  c232 := by kernel_rfl
  c233 := by kernel_rfl }
open Go.RowKit in
theorem Tryd.strconv_Atoi_ok (s : ByteArray) (hmax : s.size ≤ 9223372036854775806) (v : Int) (h : Lib.atoiAll s.data.toList = .ok v) (w : World) :
    Calls Tryd.prog 40 #[.string s] w fun e w' => e = .returned (.tuple #[.int .i64 v, .nilIface]) ∧ (w' = w ∨ ∃ t, w' = Lib.bytesWorld w 5 t) := Any.strconv_Atoi_ok Tryd.laysC172 s hmax v h w
open Go.RowKit in
theorem Tryd.strconv_Atoi_syntax (s : ByteArray) (hlim : s.size ≤ 281474976710656) (h : Lib.atoiAll s.data.toList = Lib.NumEnd.syntax) (ev : Value) (w : World) (hv : w.cell? ⟨0, 0, none⟩ = some ev) (hev : ev = .nilIface ∨ ∃ te pe, ev = .iface te pe) :
    Calls Tryd.prog 40 #[.string s] w fun e w' => ∃ N, e = .returned (.tuple #[.int .i64 (0), .iface 106 (.pointer (some ⟨N, 0, none⟩))]) ∧ w.heap.size ≤ N ∧ w'.heap[N]? = some (.cells #[.string ⟨#[65, 116, 111, 105]⟩, .string s, ev] 122 (0, 0)) ∧ Below w.heap.size w w' := Any.strconv_Atoi_syntax Tryd.laysC172 s hlim h ev w hv hev
open Go.RowKit in
theorem Tryd.strconv_Atoi_range (s : ByteArray) (hlim : s.size ≤ 281474976710656) (h : Lib.atoiAll s.data.toList = .range) (ev : Value) (w : World) (hv : w.cell? ⟨1, 0, none⟩ = some ev) (hev : ev = .nilIface ∨ ∃ te pe, ev = .iface te pe) :
    Calls Tryd.prog 40 #[.string s] w fun e w' => ∃ N, e = .returned (.tuple #[.int .i64 (Lib.atoiSat s.data.toList), .iface 106 (.pointer (some ⟨N, 0, none⟩))]) ∧ w.heap.size ≤ N ∧ w'.heap[N]? = some (.cells #[.string ⟨#[65, 116, 111, 105]⟩, .string s, ev] 122 (0, 0)) ∧ Below w.heap.size w w' := Any.strconv_Atoi_range Tryd.laysC172 s hlim h ev w hv hev
def Tryd.lays190_ren : Go.Shelf.Ren := ⟨fun | 190 => 27 | 125 => 44 | 258 => 43 | 128 => 62 | 129 => 63 | 302 => 53 | 303 => 54 | 304 => 55 | 305 => 56 | 306 => 57 | 307 => 58 | 308 => 59 | 309 => 60 | 310 => 61 | 333 => 71 | 329 => 72 | 330 => 73 | 334 => 74 | 335 => 75 | 336 => 76 | 344 => 84 | n => n, fun | 31 => 33 | 9 => 9 | 3 => 3 | 46 => 85 | 0 => 0 | 51 => 99 | 53 => 101 | 4 => 4 | 183 => 92 | 182 => 91 | 131 => 55 | 5 => 5 | 218 => 109 | 222 => 113 | 228 => 123 | 229 => 124 | n => n, fun | n => n⟩
theorem Tryd.lays190 : Go.Proofs.Lays.n190 Tryd.prog Tryd.lays190_ren := {
  mixed := by kernel_rfl
  f125 := Tryd.func44.trans (congrArg some (by kernel_rfl))
  f128 := Tryd.func62.trans (congrArg some (by kernel_rfl))
  f129 := Tryd.func63.trans (congrArg some (by kernel_rfl))
  f190 := Tryd.func27.trans (congrArg some (by kernel_rfl))
  f258 := Tryd.func43.trans (congrArg some (by kernel_rfl))
  f302 := Tryd.func53.trans (congrArg some (by kernel_rfl))
  f303 := Tryd.func54.trans (congrArg some (by kernel_rfl))
  f304 := Tryd.func55.trans (congrArg some (by kernel_rfl))
  f305 := Tryd.func56.trans (congrArg some (by kernel_rfl))
  f306 := Tryd.func57.trans (congrArg some (by kernel_rfl))
  f307 := Tryd.func58.trans (congrArg some (by kernel_rfl))
  f308 := Tryd.func59.trans (congrArg some (by kernel_rfl))
  f309 := Tryd.func60.trans (congrArg some (by kernel_rfl))
  f310 := Tryd.func61.trans (congrArg some (by kernel_rfl))
  f329 := Tryd.func72.trans (congrArg some (by kernel_rfl))
  f330 := Tryd.func73.trans (congrArg some (by kernel_rfl))
  f333 := Tryd.func71.trans (congrArg some (by kernel_rfl))
  f334 := Tryd.func74.trans (congrArg some (by kernel_rfl))
  f335 := Tryd.func75.trans (congrArg some (by kernel_rfl))
  f336 := Tryd.func76.trans (congrArg some (by kernel_rfl))
  f344 := Tryd.func84.trans (congrArg some (by kernel_rfl))
  t0 := Tryd.underlying0
  a0 := Tryd.isAgg0
  z0 := Tryd.sizeOf0
  v0 := Tryd.zeroValue0
  t3 := Tryd.underlying3
  a3 := Tryd.isAgg3
  z3 := Tryd.sizeOf3
  v3 := Tryd.zeroValue3
  t4 := Tryd.underlying4
  a4 := Tryd.isAgg4
  z4 := Tryd.sizeOf4
  v4 := Tryd.zeroValue4
  t5 := Tryd.underlying5
  a5 := Tryd.isAgg5
  z5 := Tryd.sizeOf5
  v5 := Tryd.zeroValue5
  t9 := Tryd.underlying9
  a9 := Tryd.isAgg9
  z9 := Tryd.sizeOf9
  v9 := Tryd.zeroValue9
  t31 := Tryd.underlying33
  a31 := Tryd.isAgg33
  z31 := Tryd.sizeOf33
  v31 := Tryd.zeroValue33
  t46 := Tryd.underlying85
  a46 := Tryd.isAgg85
  z46 := Tryd.sizeOf85
  v46 := Tryd.zeroValue85
  t51 := Tryd.underlying99
  a51 := Tryd.isAgg99
  z51 := Tryd.sizeOf99
  v51 := Tryd.zeroValue99
  t53 := Tryd.underlying101
  a53 := Tryd.isAgg101
  z53 := Tryd.sizeOf101
  v53 := Tryd.zeroValue101
  t131 := Tryd.underlying55
  a131 := Tryd.isAgg55
  z131 := Tryd.sizeOf55
  v131 := Tryd.zeroValue55
  t182 := Tryd.underlying91
  a182 := Tryd.isAgg91
  z182 := Tryd.sizeOf91
  v182 := Tryd.zeroValue91
  t183 := Tryd.underlying92
  a183 := Tryd.isAgg92
  z183 := Tryd.sizeOf92
  v183 := Tryd.zeroValue92
  t218 := Tryd.underlying109
  a218 := Tryd.isAgg109
  z218 := Tryd.sizeOf109
  v218 := Tryd.zeroValue109
  t222 := Tryd.underlying113
  a222 := Tryd.isAgg113
  z222 := Tryd.sizeOf113
  v222 := Tryd.zeroValue113
  t228 := Tryd.underlying123
  a228 := Tryd.isAgg123
  z228 := Tryd.sizeOf123
  v228 := Tryd.zeroValue123
  t229 := Tryd.underlying124
  a229 := Tryd.isAgg124
  z229 := Tryd.sizeOf124
  v229 := Tryd.zeroValue124 }
open Go.Sort Go.RowKit in
theorem Tryd.slices_Sort_string (blk off cap : Nat) (ss : List (List UInt8)) (w : World) (hH : Holds encStr w blk off ss.toArray) (hblk : blk < w.heap.size) (hsz : ss.length < 4611686018427387904) :
    Calls Tryd.prog 27 #[.slice (some ⟨blk, off, none⟩) ss.length cap] w fun e w' =>
      e = .returned (.tuple #[]) ∧ ∃ n os, w' = grow (putRow encStr (Sort.ahead w n) blk off (ss.mergeSort fun x y => decide (x ≤ y)).toArray) os := Any.slices_Sort_string Tryd.lays190 blk off cap ss w hH hblk hsz
def Tryd.lays110_ren : Go.Shelf.Ren := ⟨fun | 110 => 34 | 109 => 48 | n => n, fun | 31 => 33 | 9 => 9 | 4 => 4 | 3 => 3 | 0 => 0 | n => n, fun | n => n⟩
theorem Tryd.lays110 : Go.Proofs.Lays.n110 Tryd.prog Tryd.lays110_ren := {
  mixed := by kernel_rfl
  f109 := Tryd.func48.trans (congrArg some (by kernel_rfl))
  f110 := Tryd.func34.trans (congrArg some (by kernel_rfl))
  t0 := Tryd.underlying0
  a0 := Tryd.isAgg0
  z0 := Tryd.sizeOf0
  v0 := Tryd.zeroValue0
  t3 := Tryd.underlying3
  a3 := Tryd.isAgg3
  z3 := Tryd.sizeOf3
  v3 := Tryd.zeroValue3
  t4 := Tryd.underlying4
  a4 := Tryd.isAgg4
  z4 := Tryd.sizeOf4
  v4 := Tryd.zeroValue4
  t9 := Tryd.underlying9
  a9 := Tryd.isAgg9
  z9 := Tryd.sizeOf9
  v9 := Tryd.zeroValue9
  t31 := Tryd.underlying33
  a31 := Tryd.isAgg33
  z31 := Tryd.sizeOf33
  v31 := Tryd.zeroValue33 }
open Go.Lib in
theorem Tryd.slices_Contains_string (b off n c : Nat) (zs : List ByteArray) (x : ByteArray) (w : World) (hz : n ≤ zs.length) (hbig : n ≤ 9223372036854775807) (hc : ∀ j, j < zs.length → w.cell? ⟨b, off + j, none⟩ = some (.string (zs.getD j ByteArray.empty))) :
    Calls Tryd.prog 34 #[.slice (some ⟨b, off, none⟩) n c, .string x] w fun e w' => e = .returned (.bool (Lib.containsS (zs.take n) x)) ∧ w' = w := Any.slices_Contains_string Tryd.lays110 b off n c zs x w hz hbig hc
open Go.Lib in
theorem Tryd.slices_Contains_string_empty (a : Option Addr) (c : Nat) (x : ByteArray) (w : World) :
    Calls Tryd.prog 34 #[.slice a 0 c, .string x] w fun e w' => e = .returned (.bool false) ∧ w' = w := Any.slices_Contains_string_empty Tryd.lays110 a c x w
def Tryd.laysNm216_ren : Go.Shelf.Ren := ⟨fun | 16 => 26 | n => n, fun | 24 => 33 | 9 => 9 | 4 => 4 | n => n, fun | n => n⟩
theorem Tryd.laysNm216 : Go.Proofs.Lays2.n16 Tryd.prog Tryd.laysNm216_ren := {
  mixed := by kernel_rfl
  f16 := Tryd.func26.trans (congrArg some (by kernel_rfl))
  t4 := Tryd.underlying4
  a4 := Tryd.isAgg4
  z4 := Tryd.sizeOf4
  v4 := Tryd.zeroValue4
  t9 := Tryd.underlying9
  a9 := Tryd.isAgg9
  z9 := Tryd.sizeOf9
  v9 := Tryd.zeroValue9
  t24 := Tryd.underlying33
  a24 := Tryd.isAgg33
  z24 := Tryd.sizeOf33
  v24 := Tryd.zeroValue33
  i9 := by kernel_rfl }
open Go.RowKit Go.Lib in
theorem Tryd.slices_Clone_string (b off n c : Nat) (zs : List ByteArray) (w : World) (hz : n ≤ zs.length) (hbig : n * 16 ≤ 140737488355328) (hc : ∀ j, j < zs.length → w.cell? ⟨b, off + j, none⟩ = some (.string (zs.getD j ByteArray.empty))) :
    Calls Tryd.prog 26 #[.slice (some ⟨b, off, none⟩) n c] w fun e w' => ∃ v', e = .returned v' ∧ w'.ownsRow w.heap.size 9 1 v' n ((zs.take n).map (Value.string)) ∧ v' ≠ .slice none 0 0 ∧ Below w.heap.size w w' := Any.slices_Clone_string Tryd.laysNm216 b off n c zs w hz hbig hc
open Go.RowKit Go.Lib in
theorem Tryd.slices_Clone_string_nil (n c : Nat) (w : World) :
    Calls Tryd.prog 26 #[.slice none n c] w fun e w' => e = .returned (.slice none 0 0) ∧ w' = w := Any.slices_Clone_string_nil Tryd.laysNm216 n c w
open Go.RowKit Go.Lib in
theorem Tryd.slices_Clone_string_zero (a : Addr) (c : Nat) (w : World) :
    Calls Tryd.prog 26 #[.slice (some a) 0 c] w fun e w' => ∃ v', e = .returned v' ∧ w'.ownsRow w.heap.size 9 1 v' 0 [] ∧ v' ≠ .slice none 0 0 ∧ Below w.heap.size w w' := Any.slices_Clone_string_zero Tryd.laysNm216 a c w
def Tryd.lays194_ren : Go.Shelf.Ren := ⟨fun | 194 => 28 | n => n, fun | 31 => 33 | 9 => 9 | 3 => 3 | 4 => 4 | 0 => 0 | n => n, fun | n => n⟩
theorem Tryd.lays194 : Go.Proofs.Lays.n194 Tryd.prog Tryd.lays194_ren := {
  mixed := by kernel_rfl
  f194 := Tryd.func28.trans (congrArg some (by kernel_rfl))
  t0 := Tryd.underlying0
  a0 := Tryd.isAgg0
  z0 := Tryd.sizeOf0
  v0 := Tryd.zeroValue0
  t3 := Tryd.underlying3
  a3 := Tryd.isAgg3
  z3 := Tryd.sizeOf3
  v3 := Tryd.zeroValue3
  t4 := Tryd.underlying4
  a4 := Tryd.isAgg4
  z4 := Tryd.sizeOf4
  v4 := Tryd.zeroValue4
  t9 := Tryd.underlying9
  a9 := Tryd.isAgg9
  z9 := Tryd.sizeOf9
  v9 := Tryd.zeroValue9
  t31 := Tryd.underlying33
  a31 := Tryd.isAgg33
  z31 := Tryd.sizeOf33
  v31 := Tryd.zeroValue33 }
open Go.RowKit Go.Lib Go.Sort in
theorem Tryd.slices_Compact_string (blk off cap : Nat) (zs : List (List UInt8)) (w : World) (hH : Holds encStr w blk off zs.toArray) (hsz : zs.length ≤ 9223372036854775807) (hcap : zs.length ≤ cap) :
    Calls Tryd.prog 28 #[.slice (some ⟨blk, off, none⟩) zs.length cap] w fun e w' => e = .returned (.slice (some ⟨blk, off, none⟩) (Lib.compact zs).length cap) ∧ ∃ q, w' = putRow encStr (Sort.ahead w q) blk off (Lib.compact zs ++ List.replicate (zs.length - (Lib.compact zs).length) []).toArray := Any.slices_Compact_string Tryd.lays194 blk off cap zs w hH hsz hcap
open Go.RowKit Go.Lib Go.Sort in
theorem Tryd.slices_Compact_string_empty (a : Option Addr) (cap : Nat) (w : World) :
    Calls Tryd.prog 28 #[.slice a 0 cap] w fun e w' => e = .returned (.slice a 0 cap) ∧ w' = w := Any.slices_Compact_string_empty Tryd.lays194 a cap w
open Go.RowKit Go.Sort in
theorem Tryd.slices_Sort_string_none (p : Option Addr) (cap : Nat) (w : World) :
    Calls Tryd.prog 27 #[.slice p 0 cap] w fun e w' => e = .returned (.tuple #[]) ∧ w' = w := Any.slices_Sort_string_none Tryd.lays190 p cap w
end Go.Proofs
end
section
namespace Go.Proofs
open Go Go.Aw Go.Sx
def tb : Tab := [(3, ⟨.int .i64, 1, 8, [.i .i64]⟩),
  (9, ⟨.str, 1, 16, [.s]⟩),
  (33, ⟨.sl 9, 1, 24, [.l]⟩),
  (35, ⟨.st [(0, 9), (1, 9), (2, 9), (3, 3), (4, 3), (5, 32), (10, 33)], 11, 168, [.s, .s, .s, .i .i64, .i .i64, .i .i64, .i .i64, .s, .l, .l, .l]⟩),
  (38, ⟨.ifc, 1, 16, [.n]⟩),
  (27, ⟨.mp 9 9, 1, 8, [.m]⟩),
  (5, ⟨.int .u8, 1, 1, [.i .u8]⟩),
  (22, ⟨.sl 35, 1, 24, [.l]⟩),
  (32, ⟨.st [(0, 3), (1, 3), (2, 9), (3, 29), (4, 30)], 5, 80, [.i .i64, .i .i64, .s, .l, .l]⟩),
  (73, ⟨.st [(0, 9), (1, 9), (2, 9), (3, 3)], 4, 56, [.s, .s, .s, .i .i64]⟩),
  (54, ⟨.mp 9 3, 1, 8, [.m]⟩),
  (30, ⟨.sl 82, 1, 24, [.l]⟩),
  (60, ⟨.int .i64, 1, 8, [.i .i64]⟩),
  (87, ⟨.sl 5, 1, 24, [.l]⟩),
  (29, ⟨.sl 32, 1, 24, [.l]⟩),
  (25, ⟨.ptr, 1, 8, [.p]⟩),
  (59, ⟨.st [(0, 27), (1, 27), (2, 57), (3, 3), (4, 4), (5, 3)], 6, 64, [.m, .m, .l, .i .i64, .b, .i .i64]⟩),
  (82, ⟨.st [(0, 9), (1, 32)], 6, 96, [.s, .i .i64, .i .i64, .s, .l, .l]⟩),
  (4, ⟨.bool, 1, 1, [.b]⟩),
  (57, ⟨.sl 73, 1, 24, [.l]⟩)]
theorem tbOk : tabOk Tryd.prog tb = true := by decide +kernel
end Go.Proofs
end
section
namespace Go.Proofs
open Go Go.Aw Go.Sx
set_option maxRecDepth 100000
abbrev Str := List UInt8
noncomputable def cf (w st jr xs cv bs : List Nat) : Cfg := ⟨Tryd.prog, tb, 60, w, st, jr, xs, cv, bs⟩
theorem take_succ_gI {α : Type} [Inhabited α] {l : List α} {i : Int} (h0 : 0 ≤ i) (hi : i < l.length) : l.take (i + 1).toNat = l.take i.toNat ++ [gI l i] := by
  have e : (i + 1).toNat = i.toNat + 1 := by omega
  have hn : i.toNat < l.length := by omega
  rw [e, List.take_succ_eq_append_getElem hn]
  simp [gI, List.getD_eq_getElem?_getD, hn]
theorem gI_mem {α : Type} [Inhabited α] {l : List α} {i : Int} (h0 : 0 ≤ i) (hi : i < l.length) : gI l i ∈ l := by
  simp only [gI, List.getD_eq_getElem?_getD, List.getElem?_eq_getElem (show i.toNat < l.length by omega), Option.getD_some]
  exact List.getElem_mem _
theorem take_full {α : Type} {l : List α} {i : Int} (hi : l.length ≤ i) : l.take i.toNat = l := List.take_of_length_le (by omega)
inductive Val where
  | mk (kind n : Int) (s : Str) (l : List Val) (f : List (Str × Val))
instance : Inhabited Val := ⟨.mk 0 0 [] [] []⟩
def Val.kind : Val → Int | .mk k _ _ _ _ => k
def Val.n : Val → Int | .mk _ n _ _ _ => n
def Val.s : Val → Str | .mk _ _ s _ _ => s
def Val.l : Val → List Val | .mk _ _ _ l _ => l
def Val.f : Val → List (Str × Val) | .mk _ _ _ _ f => f
mutual
def valIn : Val → AV
  | .mk k n s l f => .agg [.int .i64 k, .int .i64 n, .str s, .slice false (valsIn l), .slice false (fldsIn f)]
def valsIn : List Val → List AV
  | [] => []
  | v :: r => valIn v :: valsIn r
def fldsIn : List (Str × Val) → List AV
  | [] => []
  | (s, .mk k n t l f) :: r => .agg [.str s, .int .i64 k, .int .i64 n, .str t, .slice false (valsIn l), .slice false (fldsIn f)] :: fldsIn r
end
def fldIn (p : Str × Val) : AV := .agg (.str p.1 :: (valIn p.2).cells)
theorem valsIn_eq (l : List Val) : valsIn l = l.map valIn := by
  induction l with
  | nil => rfl
  | cons v r ih => simp only [valsIn, List.map_cons, ih]
theorem fldsIn_eq (l : List (Str × Val)) : fldsIn l = l.map fldIn := by
  induction l with
  | nil => rfl
  | cons v r ih =>
    obtain ⟨s, v⟩ := v
    cases v with
    | mk k n t l f => simp only [fldsIn, List.map_cons, ih, fldIn, valIn, AV.cells]
def valTop (v : Val) : AV := .agg [.int .i64 v.kind, .int .i64 v.n, .str v.s, .slice false (v.l.map valIn), .slice false (v.f.map fldIn)]
def fldTop (p : Str × Val) : AV := .agg [.str p.1, .int .i64 p.2.kind, .int .i64 p.2.n, .str p.2.s, .slice false (p.2.l.map valIn), .slice false (p.2.f.map fldIn)]
theorem valIn_eq (v : Val) : valIn v = valTop v := by
  cases v with
  | mk k n s l f => simp only [valIn, valTop, valsIn_eq, fldsIn_eq, Val.kind, Val.n, Val.s, Val.l, Val.f]
theorem fldIn_eq (p : Str × Val) : fldIn p = fldTop p := by
  rw [fldIn, valIn_eq]; rfl
mutual
def weightV (most : Int) : Val → Int
  | .mk _ _ s l f => weightF most f (weightL most l (1 + s.length))
def weightL (most : Int) : List Val → Int → Int
  | [], n => n
  | v :: r, n => if n ≤ most then weightL most r (IntKind.i64.wrap (n + weightV most v)) else n
def weightF (most : Int) : List (Str × Val) → Int → Int
  | [], n => n
  | (s, .mk _ _ t l f) :: r, n => if n ≤ most then weightF most r (IntKind.i64.wrap (IntKind.i64.wrap (n + s.length) + weightF most f (weightL most l (1 + t.length)))) else n
end
theorem weightV_eq (most : Int) (v : Val) : weightV most v = weightF most v.f (weightL most v.l (1 + v.s.length)) := by
  cases v with
  | mk k n s l f => simp only [weightV, Val.f, Val.l, Val.s]
theorem weightF_cons (most : Int) (p : Str × Val) (r : List (Str × Val)) (n : Int) : weightF most (p :: r) n = if n ≤ most then weightF most r (IntKind.i64.wrap (IntKind.i64.wrap (n + p.1.length) + weightV most p.2)) else n := by
  obtain ⟨s, v⟩ := p
  cases v with
  | mk k n t l f => simp only [weightF, weightV]
theorem weightL_stop (most : Int) (l : List Val) (n : Int) (h : most < n) : weightL most l n = n := by
  cases l with
  | nil => simp only [weightL]
  | cons v r => simp only [weightL]; rw [if_neg (by omega)]
theorem weightF_stop (most : Int) (l : List (Str × Val)) (n : Int) (h : most < n) : weightF most l n = n := by
  cases l with
  | nil => simp only [weightF]
  | cons v r => rw [weightF_cons, if_neg (by omega)]
theorem drop_gI {α : Type} [Inhabited α] {l : List α} {i : Int} (h0 : 0 ≤ i) (hi : i < l.length) : l.drop i.toNat = gI l i :: l.drop (i + 1).toNat := by
  have h : i.toNat < l.length := by omega
  have e : (i + 1).toNat = i.toNat + 1 := by omega
  rw [List.drop_eq_getElem_cons h, e]
  simp [gI, List.getD_eq_getElem?_getD, h]
mutual
def depV : Val → Nat
  | .mk _ _ _ l f => depL l + depF f + 1
def depL : List Val → Nat
  | [] => 0
  | v :: r => depV v + depL r
def depF : List (Str × Val) → Nat
  | [] => 0
  | (_, .mk _ _ _ l f) :: r => depL l + depF f + 1 + depF r
end
theorem depL_mem {l : List Val} {v : Val} (h : v ∈ l) : depV v ≤ depL l := by
  induction l with
  | nil => cases h
  | cons a r ih =>
    simp only [depL]
    rcases List.mem_cons.1 h with rfl | h
    · omega
    · have := ih h; omega
theorem depF_mem {l : List (Str × Val)} {p : Str × Val} (h : p ∈ l) : depV p.2 ≤ depF l := by
  induction l with
  | nil => cases h
  | cons a r ih =>
    obtain ⟨s, v⟩ := a
    cases v with
    | mk k n t l f =>
      simp only [depF]
      rcases List.mem_cons.1 h with rfl | h
      · simp only [depV]; omega
      · have := ih h; omega
theorem depV_eq (v : Val) : depV v = depL v.l + depF v.f + 1 := by
  cases v with
  | mk k n s l f => simp only [depV, Val.l, Val.f]
set_option maxHeartbeats 4000000 in
theorem u_weight1 (v : Val) (most : Int) (ih : ∀ w : Val, depV w < depV v → ∀ (m : AMem) (K : AV → AMem → Prop), K (.int .i64 (weightV most w)) m → ACalls Tryd.prog 24 [valTop w, .int .i64 most] m K) (m : AMem)  (K : AV → AMem → Prop) (hK : K (.int .i64 (weightV most v)) m) : ACalls Tryd.prog 24 [valTop v, .int .i64 most] m K := by
 refine enter (c := cf [32, 53, 62] [0] [3, 7] [] [] []) (vs := [.av (valTop v), .av (.int .i64 most)]) (L := []) (m := m) false tbOk Tryd.mixed Tryd.func24 rfl (k := 2) (by show fnOk [] _ _ _ = true; decide +kernel) rfl (Good.nil m) ?_
 refine ⟨fun F0 => ?_⟩
 have hbd0_2 : v.s.length ≤ 140737488355328 := (F0 0 2 (Nat.le_of_ble_eq_true rfl))
 have hbd0_3 : v.l.length ≤ 140737488355328 := bd_map (F0 0 3 (Nat.le_of_ble_eq_true rfl))
 have hbd0_4 : v.f.length ≤ 140737488355328 := bd_map (F0 0 4 (Nat.le_of_ble_eq_true rfl))
 refine an (by omega) ?_
 refine sq ?_
 refine lp (σ := Int × Int) [] [1, 2, 5, 6] 1 (fun ⟨n_, i⟩ => ([(1, vI most), (2, .loc 0 0), (5, vI n_), (6, vI i)], [.cells [vI v.kind, vI v.n, vS v.s, vL (v.l.map valIn), vL (v.f.map fldIn)]], m)) (fun ⟨n_, i⟩ => 0 ≤ i ∧ i ≤ v.l.length ∧ weightL most v.l (1 + v.s.length) = weightL most (v.l.drop i.toNat) n_) (fun ⟨n_, i⟩ => v.l.length - i.toNat) (1 + (v.s.length : Int), 0) ⟨rfl, rfl⟩ ?_ ?_
 · try dsimp only
   exact ⟨by omega, by omega, rfl⟩
 rintro ⟨n_, i⟩ hI
 dsimp only at hI
 refine sq ?_
 refine mg [1, 2, 5, 6] 21 ((decide (i < (v.l.length : Int))) && (decide (n_ ≤ most))) ?_ ?_
 · repeat' first
    | exact ⟨⟨_, rfl, by grind [SB.val]⟩, rfl⟩
    | refine an (fun _ => ?_) (fun _ => ?_)
    | refine ln ?_
 refine an (fun h1 => ?_) (fun h1 => ?_)
 · replace h1 : (i < (v.l.length : Int)) ∧ (n_ ≤ most) := ⟨(of_decide_eq_true (bandL h1)), (of_decide_eq_true (bandR h1))⟩
   refine sq ?_
   refine ixg valTop valIn_eq (by omega) ?_
   refine call0 (fun _ => ih (gI v.l i) (by have := depV_eq v; first | (have := depL_mem (gI_mem (l := v.l) (i := i) hI.1 h1.1); omega) | (have := depF_mem (gI_mem (l := v.f) (i := k) hI2.1 h2.1); omega))) rfl ?_
   refine an (by omega) ?_
   refine ⟨(IntKind.i64.wrap (n_ + (weightV most (gI v.l i))), i + 1), ⟨rfl, rfl⟩, ?_, ?_⟩
   · try dsimp only
     refine ⟨by omega, by omega, ?_⟩
     rw [hI.2.2, drop_gI hI.1 h1.1]
     simp only [weightL]
     rw [if_pos h1.2]
   try dsimp only
   omega
 replace h1 : ((v.l.length : Int) ≤ i) ∨ (most < n_) := ((bandF h1).imp (fun q => (Int.not_lt.1 (of_decide_eq_false q))) (fun q => (Int.not_le.1 (of_decide_eq_false q))))
 refine sq ?_
 refine lp (σ := Int × Int) [] [1, 2, 5, 7] 1 (fun ⟨n2, k⟩ => ([(1, vI most), (2, .loc 0 0), (5, vI n2), (7, vI k)], [.cells [vI v.kind, vI v.n, vS v.s, vL (v.l.map valIn), vL (v.f.map fldIn)]], m)) (fun ⟨n2, k⟩ => 0 ≤ k ∧ k ≤ v.f.length ∧ weightV most v = weightF most (v.f.drop k.toNat) n2) (fun ⟨n2, k⟩ => v.f.length - k.toNat) (n_, 0) ⟨rfl, rfl⟩ ?_ ?_
 · try dsimp only
   refine ⟨by omega, by omega, ?_⟩
   have e : weightL most (v.l.drop i.toNat) n_ = n_ := by
     by_cases hn : most < n_
     · exact weightL_stop _ _ _ hn
     · have hi : (v.l.length : Int) ≤ i := by
         rcases h1 with h | h <;> omega
       rw [List.drop_eq_nil_of_le (by omega)]; simp only [weightL]
   rw [weightV_eq, hI.2.2, e]; rfl
 rintro ⟨n2, k⟩ hI2
 dsimp only at hI2
 refine sq ?_
 refine mg [1, 2, 5, 7] 42 ((decide (k < (v.f.length : Int))) && (decide (n2 ≤ most))) ?_ ?_
 · repeat' first
    | exact ⟨⟨_, rfl, by grind [SB.val]⟩, rfl⟩
    | refine an (fun _ => ?_) (fun _ => ?_)
    | refine ln ?_
 refine an (fun h2 => ?_) (fun h2 => ?_)
 · replace h2 : (k < (v.f.length : Int)) ∧ (n2 ≤ most) := ⟨(of_decide_eq_true (bandL h2)), (of_decide_eq_true (bandR h2))⟩
   refine sq ?_
   refine ixg fldTop fldIn_eq (by omega) ?_
   refine ixg fldTop fldIn_eq (by omega) ?_
   refine pure0 (fun _ => ih ((gI v.f k).2) (by have := depV_eq v; first | (have := depL_mem (gI_mem (l := v.l) (i := i) hI.1 h1.1); omega) | (have := depF_mem (gI_mem (l := v.f) (i := k) hI2.1 h2.1); omega))) ?_
   refine an (by omega) ?_
   refine ⟨(IntKind.i64.wrap ((IntKind.i64.wrap (n2 + (((gI v.f k).1).length : Int))) + (weightV most ((gI v.f k).2))), k + 1), ⟨rfl, rfl⟩, ?_, ?_⟩
   · try dsimp only
     exact ⟨by omega, by omega, by rw [hI2.2.2, drop_gI hI2.1 h2.1, weightF_cons, if_pos h2.2]⟩
   try dsimp only
   omega
 replace h2 : ((v.f.length : Int) ≤ k) ∨ (most < n2) := ((bandF h2).imp (fun q => (Int.not_lt.1 (of_decide_eq_false q))) (fun q => (Int.not_le.1 (of_decide_eq_false q))))
 refine rt0 rfl fun _ => ?_
 show K (.int .i64 n2) m
 have e : weightV most v = n2 := by
   rw [hI2.2.2]
   by_cases hn : most < n2
   · exact weightF_stop _ _ _ hn
   · have hi : (v.f.length : Int) ≤ k := by
       rcases h2 with h | h <;> omega
     rw [List.drop_eq_nil_of_le (by omega)]; simp only [weightF]
 rw [e] at hK; exact hK
theorem u_weight (most : Int) : ∀ (n : Nat) (v : Val), depV v < n → ∀ (m : AMem) (K : AV → AMem → Prop), K (.int .i64 (weightV most v)) m → ACalls Tryd.prog 24 [valTop v, .int .i64 most] m K
  | 0, _, h => absurd h (Nat.not_lt_zero _)
  | n + 1, v, h => fun m K hK => u_weight1 v most (fun w hw => u_weight most n w (by omega)) m K hK
structure ActT where
  kind : Str
  s : Str
  t : Str
  a : Int
  b : Int
  v : Val
  names : List Str
instance : Inhabited ActT := ⟨⟨[], [], [], 0, 0, default, []⟩⟩
def actAV (x : ActT) : AV := .agg [.str x.kind, .str x.s, .str x.t, .int .i64 x.a, .int .i64 x.b, .int .i64 x.v.kind, .int .i64 x.v.n, .str x.v.s, .slice false (x.v.l.map valIn), .slice false (x.v.f.map fldIn), .slice false (x.names.map strAV)]
def actW (most : Int) (n : Int) (x : ActT) : Int := IntKind.i64.wrap (IntKind.i64.wrap (IntKind.i64.wrap (n + x.s.length) + x.t.length) + weightV most x.v)
def namesW (n : Int) (l : List Str) : Int := l.foldl (fun n s => IntKind.i64.wrap (n + s.length)) n
def lightF (size : Int) : List ActT → Int → Bool
  | [], n => decide (n ≤ size)
  | x :: r, n => if size < actW size n x ∨ 12 < (x.names.length : Int) then false else lightF size r (namesW (actW size n x) x.names)
def lightA (l : List ActT) (most size : Int) : Bool := if most < (l.length : Int) then false else lightF size l 0
theorem lightA_len {l : List ActT} {most size : Int} (h : lightA l most size = true) : (l.length : Int) ≤ most := by
  unfold lightA at h; split at h
  · cases h
  · omega
set_option maxHeartbeats 4000000 in
theorem u_LightActs (l : List ActT) (most size : Int)  (m : AMem)  (K : AV → AMem → Prop) (hK : K (.bool (lightA l most size)) m) : ACalls Tryd.prog 6 [.slice false (l.map actAV), .int .i64 most, .int .i64 size] m K := by
 refine enter (c := cf [27, 34, 42, 75] [0] [8] [] [] []) (vs := [.av (.slice false (l.map actAV)), .av (.int .i64 most), .av (.int .i64 size)]) (L := []) (m := m) false tbOk Tryd.mixed Tryd.func6 rfl (k := 3) (by show fnOk [] _ _ _ = true; decide +kernel) rfl (Good.nil m) ?_
 refine ⟨fun F0 => ?_⟩
 have hbd0_0 : l.length ≤ 140737488355328 := bd_map (o := false) (F0 0).1
 refine sq ?_
 refine ln ?_
 refine an (fun h1 => ?_) (fun h1 => ?_)
 · refine rt0 rfl fun _ => K_eq hK ?_
   show AV.bool (lightA l most size) = AV.bool false
   refine congrArg AV.bool ?_
   rw [lightA, if_pos h1]
 refine sq ?_
 refine lp (σ := Int × Int) [] [0, 2, 7, 8] 0 (fun ⟨n_, i⟩ => ([(0, vL (l.map actAV)), (2, vI size), (7, vI n_), (8, vI i)], [], m)) (fun ⟨n_, i⟩ => 0 ≤ i ∧ i ≤ l.length ∧ lightA l most size = lightF size (l.drop i.toNat) n_) (fun ⟨n_, i⟩ => l.length - i.toNat) (0, 0) ⟨rfl, rfl⟩ ?_ ?_
 · try dsimp only
   exact ⟨by omega, by omega, by rw [lightA, if_neg (by omega)]; rfl⟩
 rintro ⟨n_, i⟩ hI
 dsimp only at hI
 refine sq ?_
 refine ln ?_
 refine an (fun h2 => ?_) (fun h2 => ?_)
 · refine sq ?_
   refine ix (by omega) ?_
   refine ix (by omega) ?_
   refine ix (by omega) ?_
   refine pure0 (fun _ => u_weight size (depV ((gI l i).v) + 1) ((gI l i).v) (Nat.lt_succ_self _)) ?_
   refine sq ?_
   refine mg [0, 2, 7, 8] 54 ((decide (size < IntKind.i64.wrap ((IntKind.i64.wrap ((IntKind.i64.wrap (n_ + (((gI l i).s).length : Int))) + (((gI l i).t).length : Int))) + (weightV size ((gI l i).v))))) || (decide (12 < (((gI l i).names).length : Int)))) ?_ ?_
   · repeat' first
      | exact ⟨⟨_, rfl, by grind [SB.val]⟩, rfl⟩
      | refine an (fun _ => ?_) (fun _ => ?_)
      | refine ix (by omega) ?_
      | refine ln ?_
   refine an (fun h3 => ?_) (fun h3 => ?_)
   · replace h3 : (size < IntKind.i64.wrap ((IntKind.i64.wrap ((IntKind.i64.wrap (n_ + (((gI l i).s).length : Int))) + (((gI l i).t).length : Int))) + (weightV size ((gI l i).v)))) ∨ (12 < (((gI l i).names).length : Int)) := ((borT h3).imp (fun q => (of_decide_eq_true q)) (fun q => (of_decide_eq_true q)))
     refine rt0 rfl fun _ => K_eq hK ?_
     show AV.bool (lightA l most size) = AV.bool false
     refine congrArg AV.bool ?_
     rw [hI.2.2, drop_gI hI.1 h2, lightF, if_pos (by first | exact h3 | simpa [actW] using h3)]
   replace h3 : (IntKind.i64.wrap ((IntKind.i64.wrap ((IntKind.i64.wrap (n_ + (((gI l i).s).length : Int))) + (((gI l i).t).length : Int))) + (weightV size ((gI l i).v))) ≤ size) ∧ ((((gI l i).names).length : Int) ≤ 12) := ⟨(Int.not_lt.1 (of_decide_eq_false (borL h3))), (Int.not_lt.1 (of_decide_eq_false (borR h3)))⟩
   refine lp (σ := Int × Int) [] [0, 2, 7, 8, 9] 0 (fun ⟨n2, k⟩ => ([(0, vL (l.map actAV)), (2, vI size), (7, vI n2), (8, vI i), (9, vI k)], [], m)) (fun ⟨n2, k⟩ => 0 ≤ k ∧ k ≤ (gI l i).names.length ∧ n2 = namesW (actW size n_ (gI l i)) ((gI l i).names.take k.toNat)) (fun ⟨n2, k⟩ => (gI l i).names.length - k.toNat) (IntKind.i64.wrap ((IntKind.i64.wrap ((IntKind.i64.wrap (n_ + (((gI l i).s).length : Int))) + (((gI l i).t).length : Int))) + (weightV size ((gI l i).v))), 0) ⟨rfl, rfl⟩ ?_ ?_
   · try dsimp only
     exact ⟨by omega, by omega, rfl⟩
   rintro ⟨n2, k⟩ hI2
   dsimp only at hI2
   refine sq ?_
   refine ix (by omega) ?_
   refine ln ?_
   refine an (fun h4 => ?_) (fun h4 => ?_)
   · refine sq ?_
     refine ix (by omega) ?_
     refine ix (by omega) ?_
     refine an (by omega) ?_
     refine ⟨(IntKind.i64.wrap (n2 + ((gI ((gI l i).names) k).length : Int)), k + 1), ⟨rfl, rfl⟩, ?_, ?_⟩
     · try dsimp only
       exact ⟨by omega, by omega, by rw [take_succ_gI hI2.1 h4, namesW, List.foldl_append, hI2.2.2]; rfl⟩
     try dsimp only
     omega
   refine an (by omega) ?_
   refine ⟨(n2, i + 1), ⟨rfl, rfl⟩, ?_, ?_⟩
   · try dsimp only
     refine ⟨by omega, by omega, ?_⟩
     rw [hI.2.2, drop_gI hI.1 h2, lightF, if_neg (by intro hh; rcases hh with hh | hh <;> first | omega | (unfold actW at hh; omega)), hI2.2.2, take_full h4]
   try dsimp only
   omega
 refine rt0 rfl fun _ => K_eq hK ?_
 show AV.bool (lightA l most size) = AV.bool (decide (n_ ≤ size))
 refine congrArg AV.bool ?_
 rw [hI.2.2, List.drop_eq_nil_of_le (by omega)]; rfl
end Go.Proofs
end
section
namespace Go.Proofs
open Go Go.Aw Go.Sx
set_option maxRecDepth 100000
def letC (c : UInt8) : Bool := decide (97 ≤ (c.toNat : Int)) && decide ((c.toNat : Int) ≤ 122)
def digC (c : UInt8) : Bool := decide (48 ≤ (c.toNat : Int)) && decide ((c.toNat : Int) ≤ 57)
def nmF : Str → Bool → Bool
  | [], _ => true
  | c :: r, first => (letC c || (!first && digC c)) && nmF r false
def nameV (s : Str) : Bool := nmF s true && !(s == []) && decide ((s.length : Int) ≤ 12)
theorem nmF_step {s : Str} {i : Int} (h0 : 0 ≤ i) (hi : i < s.length) : nmF (s.drop i.toNat) (i == 0) = ((letC (gI s i) || (!(i == 0) && digC (gI s i))) && nmF (s.drop (i + 1).toNat) (i + 1 == 0)) := by
  have e : (i + 1 == 0) = false := by simp; omega
  rw [drop_gI h0 hi, nmF, e]
set_option maxHeartbeats 2000000 in
theorem u_VName (s : Str) (hs : s.length ≤ 140737488355328) (m : AMem)  (K : AV → AMem → Prop) (hK : K (.bool (nameV s)) m) : ACalls Tryd.prog 38 [.str s] m K := by
 refine enter (c := cf [] [] [5, 8] [] [] []) (vs := [.av (.str s)]) (L := []) (m := m) false tbOk Tryd.mixed Tryd.func38 rfl (k := 1) (by show fnOk [] _ _ _ = true; decide +kernel) rfl (Good.nil m) ?_
 refine sq ?_
 refine lp (σ := Int) [] [0, 6, 7] 0 (fun i => ([(0, vS s), (6, vI (s.length : Int)), (7, vI i)], [], m)) (fun i => 0 ≤ i ∧ i ≤ s.length ∧ nmF s true = nmF (s.drop i.toNat) (i == 0)) (fun i => s.length - i.toNat) (0) ⟨rfl, rfl⟩ ?_ ?_
 · try dsimp only
   exact ⟨by omega, by omega, by simp⟩
 rintro i hI
 refine sq ?_
 refine an (fun h1 => ?_) (fun h1 => ?_)
 · refine sq ?_
   refine an (by omega) ?_
   refine mg [0, 6, 7] 30 (((decide (((gI s i).toNat : Int) < 97)) || (decide (122 < ((gI s i).toNat : Int)))) && (((i == 0) || (decide (((gI s i).toNat : Int) < 48))) || (decide (57 < ((gI s i).toNat : Int))))) ?_ ?_
   · repeat' first
      | exact ⟨⟨_, rfl, by grind [SB.val]⟩, rfl⟩
      | refine an (fun _ => ?_) (fun _ => ?_)
   refine an (fun h2 => ?_) (fun h2 => ?_)
   · replace h2 : ((((gI s i).toNat : Int) < 97) ∨ (122 < ((gI s i).toNat : Int))) ∧ (((i = 0) ∨ (((gI s i).toNat : Int) < 48)) ∨ (57 < ((gI s i).toNat : Int))) := ⟨((borT (bandL h2)).imp (fun q => (of_decide_eq_true q)) (fun q => (of_decide_eq_true q))), ((borT (bandR h2)).imp (fun q => ((borT q).imp (fun q => (eq_of_beq q)) (fun q => (of_decide_eq_true q)))) (fun q => (of_decide_eq_true q)))⟩
     refine rt0 rfl fun _ => K_eq hK ?_
     show AV.bool (nameV s) = AV.bool false
     refine congrArg AV.bool ?_
     have hb : (letC (gI s i) || (!(i == 0) && digC (gI s i))) = false := by
       rw [Bool.eq_false_iff]; intro hh; simp [letC, digC] at hh; omega
     rw [nameV, hI.2.2, nmF_step hI.1 h1, hb]; rfl
   replace h2 : ((97 ≤ ((gI s i).toNat : Int)) ∧ (((gI s i).toNat : Int) ≤ 122)) ∨ (((i ≠ 0) ∧ (48 ≤ ((gI s i).toNat : Int))) ∧ (((gI s i).toNat : Int) ≤ 57)) := ((bandF h2).imp (fun q => ⟨(Int.not_lt.1 (of_decide_eq_false (borL q))), (Int.not_lt.1 (of_decide_eq_false (borR q)))⟩) (fun q => ⟨⟨(ne_of_beq_false (borL (borL q))), (Int.not_lt.1 (of_decide_eq_false (borR (borL q))))⟩, (Int.not_lt.1 (of_decide_eq_false (borR q)))⟩))
   refine an (by omega) ?_
   refine ⟨(i + 1), ⟨rfl, rfl⟩, ?_, ?_⟩
   · try dsimp only
     have hb : (letC (gI s i) || (!(i == 0) && digC (gI s i))) = true := by simp [letC, digC]; omega
     exact ⟨by omega, by omega, by rw [hI.2.2, nmF_step hI.1 h1, hb]; rfl⟩
   try dsimp only
   omega
 refine mg [] 2 ((!(s == ([]))) && (decide ((s.length : Int) ≤ 12))) ?_ ?_
 · repeat' first
    | exact ⟨⟨_, rfl, by grind [SB.val]⟩, rfl⟩
    | refine an (fun _ => ?_) (fun _ => ?_)
 refine rt0 rfl fun _ => K_eq hK ?_
 show AV.bool (nameV s) = AV.bool ((!(s == ([]))) && (decide ((s.length : Int) ≤ 12)))
 refine congrArg AV.bool ?_
 have ha : nmF s true = true := by rw [hI.2.2, List.drop_eq_nil_of_le (by omega)]; rfl
 rw [nameV, ha]; cases s <;> simp
end Go.Proofs
end
section
namespace Go.Proofs
open Go Go.Aw Go.Sx
set_option maxRecDepth 100000
theorem Val.ext' {a b : Val} (h1 : a.kind = b.kind) (h2 : a.n = b.n) (h3 : a.s = b.s) (h4 : a.l = b.l) (h5 : a.f = b.f) : a = b := by
  cases a; cases b; simp only [Val.kind, Val.n, Val.s, Val.l, Val.f] at h1 h2 h3 h4 h5; subst h1 h2 h3 h4 h5; rfl
def cntL {α : Type} (g : α → Int → Bool × Int) : List α → Int → Bool × Int
  | [], n => (true, n)
  | x :: r, n => if (g x n).1 = true then cntL g r (g x n).2 else (false, (g x n).2)
def cntF : Nat → Int → Val → Int → Bool × Int
  | 0, _, _, n => (false, n)
  | k + 1, deep, v, n =>
    if 6 < deep ∨ n - 1 < 0 then (false, n - 1)
    else if (cntL (cntF k (deep + 1)) v.l (n - 1)).1 = false then (false, (cntL (cntF k (deep + 1)) v.l (n - 1)).2)
    else cntL (fun p => cntF k (deep + 1) p.2) v.f (cntL (cntF k (deep + 1)) v.l (n - 1)).2
def recOk : Option Str → List (Str × Val) → Bool
  | _, [] => true
  | p, f :: r => nameV f.1 && (match p with | none => true | some s => Op.bytesLess s f.1) && recOk (some f.1) r
def shpOk (v : Val) : Bool :=
  if v.kind = 0 then ((v.n == 0) && (v.s == [])) && ((v.l.length : Int) + (v.f.length : Int) == 0)
  else if v.kind = 1 then ((decide (-1000000000 ≤ v.n) && decide (v.n ≤ 1000000000)) && (v.s == [])) && ((v.l.length : Int) + (v.f.length : Int) == 0)
  else if v.kind = 2 then ((v.n == 0) && decide ((v.s.length : Int) ≤ 40)) && ((v.l.length : Int) + (v.f.length : Int) == 0)
  else if v.kind = 3 then (((v.n == 0) || (v.n == 1)) && (v.s == [])) && ((v.l.length : Int) + (v.f.length : Int) == 0)
  else if v.kind = 4 then ((v.n == 0) && (v.s == [])) && ((v.f.length : Int) == 0)
  else if v.kind = 5 then (((v.n == 0) && (v.s == [])) && ((v.l.length : Int) == 0)) && recOk none v.f
  else false
def shpF : Nat → Val → Bool
  | 0, _ => false
  | k + 1, v => shpOk v && v.l.all (shpF k) && v.f.all (fun p => shpF k p.2)
def shE (b : Bool) : Int := if b = true then 0 else 3
def chk (v : Val) : Int := if (cntF (depV v + 1) 1 v 60).1 = true then shE (shpF (depV v + 1) v) else 2
end Go.Proofs
end
section
namespace Go.Proofs
open Go Go.Aw Go.Sx
set_option maxRecDepth 100000
theorem tq (n : Int) : (0 ≤ n → Int.tdiv n 10 = n / 10 ∧ Int.tmod n 10 = n % 10) ∧ (n < 0 → Int.tdiv n 10 = -((-n) / 10) ∧ Int.tmod n 10 = -((-n) % 10)) := by
  refine ⟨fun h => ⟨Int.tdiv_eq_ediv_of_nonneg h, Int.tmod_eq_emod_of_nonneg h⟩, fun h => ⟨?_, ?_⟩⟩
  · rw [← Int.tdiv_eq_ediv_of_nonneg (by omega : 0 ≤ -n), Int.neg_tdiv, Int.neg_neg]
  · rw [← Int.tmod_eq_emod_of_nonneg (by omega : 0 ≤ -n), Int.neg_tmod, Int.neg_neg]
theorem decDigits_len : ∀ (k u : Nat), u < 10 ^ (k + 1) → (Lib.decDigits u).length ≤ k + 1
  | k, u, h => by
    rw [Lib.decDigits]
    split
    · simp
    · rename_i hu
      match k with
      | 0 => simp at h; omega
      | k + 1 =>
        have := decDigits_len k (u / 10) (by rw [Nat.pow_succ] at h; omega)
        simp; omega
theorem itoa_len {n : Int} (hlo : -9223372036854775808 ≤ n) (hhi : n ≤ 9223372036854775807) : (Lib.itoa n).length ≤ 20 := by
  rw [Lib.itoa]
  split
  · have := decDigits_len 18 n.natAbs (by have : (10:Nat) ^ 19 = 10000000000000000000 := by decide
                                          omega)
    simp; omega
  · have := decDigits_len 18 n.toNat (by have : (10:Nat) ^ 19 = 10000000000000000000 := by decide
                                         omega)
    omega
def Tabs (m : AMem) : Prop := ∃ e z e2 z2 tp p e3 z3 tp3 p3, m 2 = some (tabObj e z .u64 Lib.pow10Tab) ∧ m 0 = some (.tab e2 z2 #[.iface tp p]) ∧ m 1 = some (.tab e3 z3 #[.iface tp3 p3])
theorem Tabs.up {m mm : AMem} (ht : ∀ b o, m b = some o → mm b = some o) : Tabs m → Tabs mm := fun ⟨e, z, e2, z2, tp, p, e3, z3, tp3, p3, h, h2, h3⟩ => ⟨e, z, e2, z2, tp, p, e3, z3, tp3, p3, ht _ _ h, ht _ _ h2, ht _ _ h3⟩
theorem tabName : Tryd.prog.globalNamed "internal/strconv.uint64pow10" = some 2 := by kernel_rfl
theorem u_Itoa (n : Int) (h1 : -9223372036854775808 ≤ n) (h2 : n ≤ 9223372036854775807) (m : AMem) (hT : Tabs m) (K : AV → AMem → Prop) (hK : K (.str (Lib.itoa n)) m) : ACalls Tryd.prog 30 [.int .i64 n] m K :=
  have ⟨_, _, _, _, _, _, _, _, _, _, hT, _⟩ := hT
  itoa_calls ⟨_, Tryd.func30, rfl, by kernel_rfl⟩ tabName Tryd.strconv_Itoa hT (by have := itoa_len h1 h2; omega) hK
end Go.Proofs
end
section
namespace Go.Proofs
open Go Go.Aw
set_option maxRecDepth 100000
structure Chg where
  name : Str
  data : Str
  to : Str
  kind : Int
instance : Inhabited Chg := ⟨⟨[], [], [], 0⟩⟩
def chgAV (c : Chg) : AV := .agg [.str c.name, .str c.data, .str c.to, iT c.kind]
structure DSt where
  kept : List (Str × Str)
  now : List (Str × Str)
  wait : List Chg
  fuse : Int
  down : Bool
  steps : Int
def applyC (l : List (Str × Str)) (c : Chg) : List (Str × Str) :=
  if c.kind = 1 ∨ c.kind = 3 then mput l c.name c.data
  else if c.kind = 2 then mput l c.name ((mget l c.name).getD [] ++ c.data)
  else if c.kind = 4 then mdel (mput l c.to ((mget l c.name).getD [])) c.name
  else if c.kind = 5 then mdel l c.name
  else l
def stepF (s : DSt) : DSt × Int :=
  if s.down = true then (s, 10)
  else if s.fuse = 0 then ({ s with down := true, fuse := -1 }, 10)
  else ({ s with fuse := if 0 < s.fuse then s.fuse - 1 else s.fuse, steps := s.steps + 1 }, 0)
def doF (s : DSt) (c : Chg) : DSt × Int :=
  if (stepF s).2 ≠ 0 then stepF s
  else ({ (stepF s).1 with now := applyC s.now c, wait := s.wait ++ [c] }, 0)
theorem mget_le {l : List (Str × Str)} {k : Str} {B : Nat} (h : ∀ p ∈ l, p.2.length ≤ B) : ((mget l k).getD []).length ≤ B := by
  induction l with
  | nil => simp [mget]
  | cons p r ih =>
    obtain ⟨a, b⟩ := p
    simp only [mget]
    split
    · exact h (a, b) (by simp)
    · exact ih (fun p hp => h p (by simp [hp]))
theorem nodup_1 (d : Nat) : [d].Nodup := by simp
def dObj (kb nb : Nat) (s : DSt) : AObj := .cells [.map kb, .map nb, sT (s.wait.map chgAV), iT s.fuse, .bool s.down, iT s.steps]
def mObj (l : List (Str × Str)) : AObj := .map (l.map (mapAV strAV strAV))
set_option maxHeartbeats 2000000 in
theorem u_apply (b : Nat) (l : List (Str × Str)) (c : Chg) (hl : l.length ≤ 1099511627776) (hb : ∀ p ∈ l, p.2.length ≤ 1099511627776) (hc : c.data.length ≤ 1099511627776) (m : AMem)  (K : AV → AMem → Prop) (hK : K (.tuple []) (mW m [(b, mObj (applyC l c))])) : ACalls Tryd.prog 47 [.map b, chgAV c] (mW m [(b, mObj l)]) K := by
 have hg := mget_le (k := c.name) hb
 refine acalls_enter Tryd.func47 rfl (by decide) (nB rfl) ?_
 show AWP _ _ _ _ [(0, .map b), (1, chgAV c)] (mW m [(b, mObj l)])
 refine rS [] [0, 3] (by decide) ?_
 intro K1 hK1
 refine ar_box rfl (m := m) (L := [(b, mObj l)]) (v := chgAV c) (by rfl) rfl ?_
 intro b1 hb1
 have hFb1 : m b1 = none := wth_none hb1
 have hNb1 : ([b1, b] : List Nat).Nodup := wth_nodup hb1 (nodup_1 b)
 show K1 [(0, .map b), (3, pT b1)] (mW m [(b1, .cells [.str c.name, .str c.data, .str c.to, iT c.kind]), (b, mObj l)])
 refine hK1 _ _ ?_; clear hK1 K1
 refine rS [] [0, 3, 5] (by decide) ?_
 intro K1 hK1
 refine ⟨⟨rfl, by decide⟩, ?_⟩
 refine aL rfl (v := iT c.kind) rfl (wG 0 hNb1 rfl) rfl (aO rfl rfl (nB rfl)) rfl ?_
 show K1 [(0, .map b), (3, pT b1), (5, iT c.kind)] _
 refine hK1 _ _ ?_; clear hK1 K1
 refine awp_block ?_
 refine sK ?_; intro K2 hK2
 refine rS [] [0, 3, 5, 6] (by decide) ?_
 intro K1 hK1
 refine ⟨tv, tv, ?_⟩
 show K1 [(0, .map b), (3, pT b1), (5, iT c.kind), (6, .bool (c.kind == 1))] _
 refine hK1 _ _ ?_; clear hK1 K1
 refine cD rfl rfl (fun h1 => ?_) (fun h1 => ?_)
 ·
  replace h1 : c.kind = 1 := (eq_of_beq h1)
  refine awp_skip ?_
  refine hK2 _ _ ?_; clear hK2
  refine cD rfl rfl (fun h2 => ?_) (fun h2 => ?_)
  ·
   replace h2 : c.kind = 1 := (eq_of_beq h2)
   refine awp_reg2 [] [] (by decide) ?_
   intro K1 hK1
   refine ⟨tv, ⟨rfl, by decide⟩, ?_⟩
   refine aL rfl (v := .str c.name) rfl (wG 0 hNb1 rfl) rfl (aO rfl rfl (nB rfl)) rfl ?_
   refine ⟨⟨rfl, by decide⟩, ?_⟩
   refine aL rfl (v := .str c.data) rfl (wG 0 hNb1 rfl) rfl (aO rfl rfl (nB rfl)) rfl ?_
   refine ar_mapUpdate rfl (m := m) (L := [(b1, .cells [.str c.name, .str c.data, .str c.to, iT c.kind]), (b, mObj l)]) 1 strAV strAV strKey_ok l c.name c.data rfl rfl rfl rfl rfl rfl hNb1 (by refine Nat.le_trans (mput_len _ _ _) (by omega)) ?_
   show K1 [] (mW m [(b1, .cells [.str c.name, .str c.data, .str c.to, iT c.kind]), (b, mObj (mput l c.name c.data))])
   refine hK1 _ _ ?_; clear hK1 K1
   refine ⟨(mW m [(b, mObj (mput l c.name c.data))]), (wth_sub2 (m := m) [(b1, .cells [.str c.name, .str c.data, .str c.to, iT c.kind])] [(b, mObj (mput l c.name c.data))] hNb1 (by simp only [List.map_cons, List.map_nil, List.forall_mem_cons]; exact ⟨hFb1, nfA⟩)), ?_⟩
   show K (.tuple []) (AMem.wth m [(b, mObj (mput l c.name c.data))])
  
   have e0 : applyC l c = (mput l c.name c.data : List (Str × Str)) := by
    unfold applyC; simp_all
   rw [e0] at hK
   exact hK
  replace h2 : c.kind ≠ 1 := (ne_of_beq_false h2)
  refine rS [] [0, 3, 5, 14] (by decide) ?_
  intro K1 hK1
  refine ⟨tv, tv, ?_⟩
  show K1 [(0, .map b), (3, pT b1), (5, iT c.kind), (14, .bool (c.kind == 2))] (mW m [(b1, .cells [.str c.name, .str c.data, .str c.to, iT c.kind]), (b, mObj l)])
  refine hK1 _ _ ?_; clear hK1 K1
  refine cD rfl rfl (fun h3 => ?_) (fun h3 => ?_)
  ·
   replace h3 : c.kind = 2 := (eq_of_beq h3)
   refine awp_reg2 [] [] (by decide) ?_
   intro K1 hK1
   refine ⟨tv, ⟨rfl, by decide⟩, ?_⟩
   refine aL rfl (v := .str c.name) rfl (wG 0 hNb1 rfl) rfl (aO rfl rfl (nB rfl)) rfl ?_
   refine ar_lookup rfl (m := m) (L := [(b1, .cells [.str c.name, .str c.data, .str c.to, iT c.kind]), (b, mObj l)]) strAV strAV strKey_ok l c.name [] rfl rfl rfl rfl rfl (wG 1 hNb1 rfl) rfl ?_
   refine ⟨⟨rfl, by decide⟩, ?_⟩
   refine aL rfl (v := .str c.data) rfl (wG 0 hNb1 rfl) rfl (aO rfl rfl (nB rfl)) rfl ?_
   refine ⟨(by omega), ?_⟩
   refine ar_mapUpdate rfl (m := m) (L := [(b1, .cells [.str c.name, .str c.data, .str c.to, iT c.kind]), (b, mObj l)]) 1 strAV strAV strKey_ok l c.name (((mget l c.name).getD []) ++ c.data) rfl rfl rfl rfl rfl rfl hNb1 (by refine Nat.le_trans (mput_len _ _ _) (by omega)) ?_
   show K1 [] (mW m [(b1, .cells [.str c.name, .str c.data, .str c.to, iT c.kind]), (b, mObj (mput l c.name (((mget l c.name).getD []) ++ c.data)))])
   refine hK1 _ _ ?_; clear hK1 K1
   refine ⟨(mW m [(b, mObj (mput l c.name (((mget l c.name).getD []) ++ c.data)))]), (wth_sub2 (m := m) [(b1, .cells [.str c.name, .str c.data, .str c.to, iT c.kind])] [(b, mObj (mput l c.name (((mget l c.name).getD []) ++ c.data)))] hNb1 (by simp only [List.map_cons, List.map_nil, List.forall_mem_cons]; exact ⟨hFb1, nfA⟩)), ?_⟩
   show K (.tuple []) (AMem.wth m [(b, mObj (mput l c.name (((mget l c.name).getD []) ++ c.data)))])
  
   have e0 : applyC l c = (mput l c.name (((mget l c.name).getD []) ++ c.data) : List (Str × Str)) := by
    unfold applyC; simp_all
   rw [e0] at hK
   exact hK
  replace h3 : c.kind ≠ 2 := (ne_of_beq_false h3)
  refine rS [] [0, 3, 5, 23] (by decide) ?_
  intro K1 hK1
  refine ⟨tv, tv, ?_⟩
  show K1 [(0, .map b), (3, pT b1), (5, iT c.kind), (23, .bool (c.kind == 4))] (mW m [(b1, .cells [.str c.name, .str c.data, .str c.to, iT c.kind]), (b, mObj l)])
  refine hK1 _ _ ?_; clear hK1 K1
  refine cD rfl rfl (fun h4 => ?_) (fun h4 => ?_)
  ·
   replace h4 : c.kind = 4 := (eq_of_beq h4)
   refine rS [] [0, 3] (by decide) ?_
   intro K1 hK1
   refine ⟨tv, ⟨rfl, by decide⟩, ?_⟩
   refine aL rfl (v := .str c.to) rfl (wG 0 hNb1 rfl) rfl (aO rfl rfl (nB rfl)) rfl ?_
   refine ⟨tv, ⟨rfl, by decide⟩, ?_⟩
   refine aL rfl (v := .str c.name) rfl (wG 0 hNb1 rfl) rfl (aO rfl rfl (nB rfl)) rfl ?_
   refine ar_lookup rfl (m := m) (L := [(b1, .cells [.str c.name, .str c.data, .str c.to, iT c.kind]), (b, mObj l)]) strAV strAV strKey_ok l c.name [] rfl rfl rfl rfl rfl (wG 1 hNb1 rfl) rfl ?_
   refine ar_mapUpdate rfl (m := m) (L := [(b1, .cells [.str c.name, .str c.data, .str c.to, iT c.kind]), (b, mObj l)]) 1 strAV strAV strKey_ok l c.to ((mget l c.name).getD []) rfl rfl rfl rfl rfl rfl hNb1 (by refine Nat.le_trans (mput_len _ _ _) (by omega)) ?_
   show K1 [(0, .map b), (3, pT b1)] (mW m [(b1, .cells [.str c.name, .str c.data, .str c.to, iT c.kind]), (b, mObj (mput l c.to ((mget l c.name).getD [])))])
   refine hK1 _ _ ?_; clear hK1 K1
   refine awp_reg2 [] [] (by decide) ?_
   intro K1 hK1
   refine ⟨tv, ⟨rfl, by decide⟩, ?_⟩
   refine aL rfl (v := .str c.name) rfl (wG 0 hNb1 rfl) rfl (aO rfl rfl (nB rfl)) rfl ?_
   refine ar_delete rfl (m := m) (L := [(b1, .cells [.str c.name, .str c.data, .str c.to, iT c.kind]), (b, mObj (mput l c.to ((mget l c.name).getD [])))]) 1 strAV strAV strKey_ok (mput l c.to ((mget l c.name).getD [])) c.name rfl rfl rfl rfl rfl hNb1 ?_
   show K1 [] (mW m [(b1, .cells [.str c.name, .str c.data, .str c.to, iT c.kind]), (b, mObj (mdel (mput l c.to ((mget l c.name).getD [])) c.name))])
   refine hK1 _ _ ?_; clear hK1 K1
   refine ⟨(mW m [(b, mObj (mdel (mput l c.to ((mget l c.name).getD [])) c.name))]), (wth_sub2 (m := m) [(b1, .cells [.str c.name, .str c.data, .str c.to, iT c.kind])] [(b, mObj (mdel (mput l c.to ((mget l c.name).getD [])) c.name))] hNb1 (by simp only [List.map_cons, List.map_nil, List.forall_mem_cons]; exact ⟨hFb1, nfA⟩)), ?_⟩
   show K (.tuple []) (AMem.wth m [(b, mObj (mdel (mput l c.to ((mget l c.name).getD [])) c.name))])
  
   have e0 : applyC l c = (mdel (mput l c.to ((mget l c.name).getD [])) c.name : List (Str × Str)) := by
    unfold applyC; simp_all
   rw [e0] at hK
   exact hK
  replace h4 : c.kind ≠ 4 := (ne_of_beq_false h4)
  refine rS [] [0, 3, 35] (by decide) ?_
  intro K1 hK1
  refine ⟨tv, tv, ?_⟩
  show K1 [(0, .map b), (3, pT b1), (35, .bool (c.kind == 5))] (mW m [(b1, .cells [.str c.name, .str c.data, .str c.to, iT c.kind]), (b, mObj l)])
  refine hK1 _ _ ?_; clear hK1 K1
  refine cD rfl rfl (fun h5 => ?_) (fun h5 => ?_)
  ·
   replace h5 : c.kind = 5 := (eq_of_beq h5)
   refine awp_reg2 [] [] (by decide) ?_
   intro K1 hK1
   refine ⟨tv, ⟨rfl, by decide⟩, ?_⟩
   refine aL rfl (v := .str c.name) rfl (wG 0 hNb1 rfl) rfl (aO rfl rfl (nB rfl)) rfl ?_
   refine ar_delete rfl (m := m) (L := [(b1, .cells [.str c.name, .str c.data, .str c.to, iT c.kind]), (b, mObj l)]) 1 strAV strAV strKey_ok l c.name rfl rfl rfl rfl rfl hNb1 ?_
   show K1 [] (mW m [(b1, .cells [.str c.name, .str c.data, .str c.to, iT c.kind]), (b, mObj (mdel l c.name))])
   refine hK1 _ _ ?_; clear hK1 K1
   refine ⟨(mW m [(b, mObj (mdel l c.name))]), (wth_sub2 (m := m) [(b1, .cells [.str c.name, .str c.data, .str c.to, iT c.kind])] [(b, mObj (mdel l c.name))] hNb1 (by simp only [List.map_cons, List.map_nil, List.forall_mem_cons]; exact ⟨hFb1, nfA⟩)), ?_⟩
   show K (.tuple []) (AMem.wth m [(b, mObj (mdel l c.name))])
  
   have e0 : applyC l c = (mdel l c.name : List (Str × Str)) := by
    unfold applyC; simp_all
   rw [e0] at hK
   exact hK
  replace h5 : c.kind ≠ 5 := (ne_of_beq_false h5)
  refine awp_skip ?_
  refine ⟨(mW m [(b, mObj l)]), (wth_sub2 (m := m) [(b1, .cells [.str c.name, .str c.data, .str c.to, iT c.kind])] [(b, mObj l)] hNb1 (by simp only [List.map_cons, List.map_nil, List.forall_mem_cons]; exact ⟨hFb1, nfA⟩)), ?_⟩
  show K (.tuple []) (AMem.wth m [(b, mObj l)])
 
  have e0 : applyC l c = (l : List (Str × Str)) := by
   unfold applyC; simp_all
  rw [e0] at hK
  exact hK
 replace h1 : c.kind ≠ 1 := (ne_of_beq_false h1)
 refine awp_reg2 [] [0, 3, 5, 6] (by decide) ?_
 intro K1 hK1
 refine ⟨tv, tv, ?_⟩
 show K1 [(0, .map b), (3, pT b1), (5, iT c.kind), (6, .bool (c.kind == 3))] (mW m [(b1, .cells [.str c.name, .str c.data, .str c.to, iT c.kind]), (b, mObj l)])
 refine hK1 _ _ ?_; clear hK1 K1
 refine hK2 _ _ ?_; clear hK2
 refine cD rfl rfl (fun h6 => ?_) (fun h6 => ?_)
 ·
  replace h6 : c.kind = 3 := (eq_of_beq h6)
  refine awp_reg2 [] [] (by decide) ?_
  intro K1 hK1
  refine ⟨tv, ⟨rfl, by decide⟩, ?_⟩
  refine aL rfl (v := .str c.name) rfl (wG 0 hNb1 rfl) rfl (aO rfl rfl (nB rfl)) rfl ?_
  refine ⟨⟨rfl, by decide⟩, ?_⟩
  refine aL rfl (v := .str c.data) rfl (wG 0 hNb1 rfl) rfl (aO rfl rfl (nB rfl)) rfl ?_
  refine ar_mapUpdate rfl (m := m) (L := [(b1, .cells [.str c.name, .str c.data, .str c.to, iT c.kind]), (b, mObj l)]) 1 strAV strAV strKey_ok l c.name c.data rfl rfl rfl rfl rfl rfl hNb1 (by refine Nat.le_trans (mput_len _ _ _) (by omega)) ?_
  show K1 [] (mW m [(b1, .cells [.str c.name, .str c.data, .str c.to, iT c.kind]), (b, mObj (mput l c.name c.data))])
  refine hK1 _ _ ?_; clear hK1 K1
  refine ⟨(mW m [(b, mObj (mput l c.name c.data))]), (wth_sub2 (m := m) [(b1, .cells [.str c.name, .str c.data, .str c.to, iT c.kind])] [(b, mObj (mput l c.name c.data))] hNb1 (by simp only [List.map_cons, List.map_nil, List.forall_mem_cons]; exact ⟨hFb1, nfA⟩)), ?_⟩
  show K (.tuple []) (AMem.wth m [(b, mObj (mput l c.name c.data))])
 
  have e0 : applyC l c = (mput l c.name c.data : List (Str × Str)) := by
   unfold applyC; simp_all
  rw [e0] at hK
  exact hK
 replace h6 : c.kind ≠ 3 := (ne_of_beq_false h6)
 refine rS [] [0, 3, 5, 14] (by decide) ?_
 intro K1 hK1
 refine ⟨tv, tv, ?_⟩
 show K1 [(0, .map b), (3, pT b1), (5, iT c.kind), (14, .bool (c.kind == 2))] (mW m [(b1, .cells [.str c.name, .str c.data, .str c.to, iT c.kind]), (b, mObj l)])
 refine hK1 _ _ ?_; clear hK1 K1
 refine cD rfl rfl (fun h7 => ?_) (fun h7 => ?_)
 ·
  replace h7 : c.kind = 2 := (eq_of_beq h7)
  refine awp_reg2 [] [] (by decide) ?_
  intro K1 hK1
  refine ⟨tv, ⟨rfl, by decide⟩, ?_⟩
  refine aL rfl (v := .str c.name) rfl (wG 0 hNb1 rfl) rfl (aO rfl rfl (nB rfl)) rfl ?_
  refine ar_lookup rfl (m := m) (L := [(b1, .cells [.str c.name, .str c.data, .str c.to, iT c.kind]), (b, mObj l)]) strAV strAV strKey_ok l c.name [] rfl rfl rfl rfl rfl (wG 1 hNb1 rfl) rfl ?_
  refine ⟨⟨rfl, by decide⟩, ?_⟩
  refine aL rfl (v := .str c.data) rfl (wG 0 hNb1 rfl) rfl (aO rfl rfl (nB rfl)) rfl ?_
  refine ⟨(by omega), ?_⟩
  refine ar_mapUpdate rfl (m := m) (L := [(b1, .cells [.str c.name, .str c.data, .str c.to, iT c.kind]), (b, mObj l)]) 1 strAV strAV strKey_ok l c.name (((mget l c.name).getD []) ++ c.data) rfl rfl rfl rfl rfl rfl hNb1 (by refine Nat.le_trans (mput_len _ _ _) (by omega)) ?_
  show K1 [] (mW m [(b1, .cells [.str c.name, .str c.data, .str c.to, iT c.kind]), (b, mObj (mput l c.name (((mget l c.name).getD []) ++ c.data)))])
  refine hK1 _ _ ?_; clear hK1 K1
  refine ⟨(mW m [(b, mObj (mput l c.name (((mget l c.name).getD []) ++ c.data)))]), (wth_sub2 (m := m) [(b1, .cells [.str c.name, .str c.data, .str c.to, iT c.kind])] [(b, mObj (mput l c.name (((mget l c.name).getD []) ++ c.data)))] hNb1 (by simp only [List.map_cons, List.map_nil, List.forall_mem_cons]; exact ⟨hFb1, nfA⟩)), ?_⟩
  show K (.tuple []) (AMem.wth m [(b, mObj (mput l c.name (((mget l c.name).getD []) ++ c.data)))])
 
  have e0 : applyC l c = (mput l c.name (((mget l c.name).getD []) ++ c.data) : List (Str × Str)) := by
   unfold applyC; simp_all
  rw [e0] at hK
  exact hK
 replace h7 : c.kind ≠ 2 := (ne_of_beq_false h7)
 refine rS [] [0, 3, 5, 23] (by decide) ?_
 intro K1 hK1
 refine ⟨tv, tv, ?_⟩
 show K1 [(0, .map b), (3, pT b1), (5, iT c.kind), (23, .bool (c.kind == 4))] (mW m [(b1, .cells [.str c.name, .str c.data, .str c.to, iT c.kind]), (b, mObj l)])
 refine hK1 _ _ ?_; clear hK1 K1
 refine cD rfl rfl (fun h8 => ?_) (fun h8 => ?_)
 ·
  replace h8 : c.kind = 4 := (eq_of_beq h8)
  refine rS [] [0, 3] (by decide) ?_
  intro K1 hK1
  refine ⟨tv, ⟨rfl, by decide⟩, ?_⟩
  refine aL rfl (v := .str c.to) rfl (wG 0 hNb1 rfl) rfl (aO rfl rfl (nB rfl)) rfl ?_
  refine ⟨tv, ⟨rfl, by decide⟩, ?_⟩
  refine aL rfl (v := .str c.name) rfl (wG 0 hNb1 rfl) rfl (aO rfl rfl (nB rfl)) rfl ?_
  refine ar_lookup rfl (m := m) (L := [(b1, .cells [.str c.name, .str c.data, .str c.to, iT c.kind]), (b, mObj l)]) strAV strAV strKey_ok l c.name [] rfl rfl rfl rfl rfl (wG 1 hNb1 rfl) rfl ?_
  refine ar_mapUpdate rfl (m := m) (L := [(b1, .cells [.str c.name, .str c.data, .str c.to, iT c.kind]), (b, mObj l)]) 1 strAV strAV strKey_ok l c.to ((mget l c.name).getD []) rfl rfl rfl rfl rfl rfl hNb1 (by refine Nat.le_trans (mput_len _ _ _) (by omega)) ?_
  show K1 [(0, .map b), (3, pT b1)] (mW m [(b1, .cells [.str c.name, .str c.data, .str c.to, iT c.kind]), (b, mObj (mput l c.to ((mget l c.name).getD [])))])
  refine hK1 _ _ ?_; clear hK1 K1
  refine awp_reg2 [] [] (by decide) ?_
  intro K1 hK1
  refine ⟨tv, ⟨rfl, by decide⟩, ?_⟩
  refine aL rfl (v := .str c.name) rfl (wG 0 hNb1 rfl) rfl (aO rfl rfl (nB rfl)) rfl ?_
  refine ar_delete rfl (m := m) (L := [(b1, .cells [.str c.name, .str c.data, .str c.to, iT c.kind]), (b, mObj (mput l c.to ((mget l c.name).getD [])))]) 1 strAV strAV strKey_ok (mput l c.to ((mget l c.name).getD [])) c.name rfl rfl rfl rfl rfl hNb1 ?_
  show K1 [] (mW m [(b1, .cells [.str c.name, .str c.data, .str c.to, iT c.kind]), (b, mObj (mdel (mput l c.to ((mget l c.name).getD [])) c.name))])
  refine hK1 _ _ ?_; clear hK1 K1
  refine ⟨(mW m [(b, mObj (mdel (mput l c.to ((mget l c.name).getD [])) c.name))]), (wth_sub2 (m := m) [(b1, .cells [.str c.name, .str c.data, .str c.to, iT c.kind])] [(b, mObj (mdel (mput l c.to ((mget l c.name).getD [])) c.name))] hNb1 (by simp only [List.map_cons, List.map_nil, List.forall_mem_cons]; exact ⟨hFb1, nfA⟩)), ?_⟩
  show K (.tuple []) (AMem.wth m [(b, mObj (mdel (mput l c.to ((mget l c.name).getD [])) c.name))])
 
  have e0 : applyC l c = (mdel (mput l c.to ((mget l c.name).getD [])) c.name : List (Str × Str)) := by
   unfold applyC; simp_all
  rw [e0] at hK
  exact hK
 replace h8 : c.kind ≠ 4 := (ne_of_beq_false h8)
 refine rS [] [0, 3, 35] (by decide) ?_
 intro K1 hK1
 refine ⟨tv, tv, ?_⟩
 show K1 [(0, .map b), (3, pT b1), (35, .bool (c.kind == 5))] (mW m [(b1, .cells [.str c.name, .str c.data, .str c.to, iT c.kind]), (b, mObj l)])
 refine hK1 _ _ ?_; clear hK1 K1
 refine cD rfl rfl (fun h9 => ?_) (fun h9 => ?_)
 ·
  replace h9 : c.kind = 5 := (eq_of_beq h9)
  refine awp_reg2 [] [] (by decide) ?_
  intro K1 hK1
  refine ⟨tv, ⟨rfl, by decide⟩, ?_⟩
  refine aL rfl (v := .str c.name) rfl (wG 0 hNb1 rfl) rfl (aO rfl rfl (nB rfl)) rfl ?_
  refine ar_delete rfl (m := m) (L := [(b1, .cells [.str c.name, .str c.data, .str c.to, iT c.kind]), (b, mObj l)]) 1 strAV strAV strKey_ok l c.name rfl rfl rfl rfl rfl hNb1 ?_
  show K1 [] (mW m [(b1, .cells [.str c.name, .str c.data, .str c.to, iT c.kind]), (b, mObj (mdel l c.name))])
  refine hK1 _ _ ?_; clear hK1 K1
  refine ⟨(mW m [(b, mObj (mdel l c.name))]), (wth_sub2 (m := m) [(b1, .cells [.str c.name, .str c.data, .str c.to, iT c.kind])] [(b, mObj (mdel l c.name))] hNb1 (by simp only [List.map_cons, List.map_nil, List.forall_mem_cons]; exact ⟨hFb1, nfA⟩)), ?_⟩
  show K (.tuple []) (AMem.wth m [(b, mObj (mdel l c.name))])
 
  have e0 : applyC l c = (mdel l c.name : List (Str × Str)) := by
   unfold applyC; simp_all
  rw [e0] at hK
  exact hK
 replace h9 : c.kind ≠ 5 := (ne_of_beq_false h9)
 refine awp_skip ?_
 refine ⟨(mW m [(b, mObj l)]), (wth_sub2 (m := m) [(b1, .cells [.str c.name, .str c.data, .str c.to, iT c.kind])] [(b, mObj l)] hNb1 (by simp only [List.map_cons, List.map_nil, List.forall_mem_cons]; exact ⟨hFb1, nfA⟩)), ?_⟩
 show K (.tuple []) (AMem.wth m [(b, mObj l)])
 have e0 : applyC l c = (l : List (Str × Str)) := by
  unfold applyC; simp_all
 rw [e0] at hK
 exact hK
theorem stepF_keep (s : DSt) : (stepF s).1.kept = s.kept ∧ (stepF s).1.now = s.now ∧ (stepF s).1.wait = s.wait ∧ 0 ≤ (stepF s).2 := by
  unfold stepF; split
  · exact ⟨rfl, rfl, rfl, by simp⟩
  · split
    · exact ⟨rfl, rfl, rfl, by simp⟩
    · exact ⟨rfl, rfl, rfl, by simp⟩
theorem stepF_steps (s : DSt) : s.steps ≤ (stepF s).1.steps ∧ (stepF s).1.steps ≤ s.steps + 1 := by
  unfold stepF; split
  · exact ⟨by simp; try omega, by simp; try omega⟩
  · split
    · exact ⟨by simp; try omega, by simp; try omega⟩
    · exact ⟨by simp; try omega, by simp; try omega⟩
set_option maxHeartbeats 2000000 in
theorem u_Step (d kb nb : Nat) (s : DSt) (hst : 0 ≤ s.steps) (hst2 : s.steps ≤ 4611686018427387904) (hfu : -1 ≤ s.fuse) (hfu2 : s.fuse ≤ 9223372036854775807) (m : AMem)  (K : AV → AMem → Prop) (hK : K (.err 60 (stepF s).2) (mW m [(d, dObj kb nb (stepF s).1)])) : ACalls Tryd.prog 46 [pT d] (mW m [(d, dObj kb nb s)]) K := by
 refine acalls_enter Tryd.func46 rfl (by decide) (nB rfl) ?_
 show AWP _ _ _ _ [(0, pT d)] (mW m [(d, dObj kb nb s)])
 refine rS [] [0] (by decide) ?_
 intro K1 hK1
 refine ⟨tv, ?_⟩
 show K1 [(0, pT d)] _
 refine hK1 _ _ ?_; clear hK1 K1
 refine sK ?_; intro K2 hK2
 refine rS [] [0, 6] (by decide) ?_
 intro K1 hK1
 refine ⟨tv, tv, ⟨rfl, by decide⟩, ?_⟩
 refine aL rfl (v := .bool s.down) rfl (wG 0 (nodup_1 d) rfl) rfl (aO rfl rfl (nB rfl)) rfl ?_
 show K1 [(0, pT d), (6, .bool s.down)] _
 refine hK1 _ _ ?_; clear hK1 K1
 refine cD rfl rfl (fun h1 => ?_) (fun h1 => ?_)
 ·
  replace h1 : s.down = true := h1
  refine rS [] [2] (by decide) ?_
  intro K1 hK1
  refine ⟨tv, tv, ?_⟩
  show K1 [(2, .iface 60 (iT 10))] (mW m [(d, dObj kb nb s)])
  refine hK1 _ _ ?_; clear hK1 K1
  refine awp_toErr 60 [2] ?_
  show AWP _ _ _ _ [(2, .err 60 10)] _
  refine awp_ret ?_
  refine ⟨tv, (mW m [(d, dObj kb nb s)]), fun _ _ h => h, ?_⟩
  show K (.err 60 10) _
 
  have e0 : stepF s = ((s, 10) : DSt × Int) := by
   obtain ⟨kept, now, wait, fuse, down, steps⟩ := s
   simp_all [stepF] <;> omega
  rw [e0] at hK
  exact hK
 replace h1 : s.down = false := h1
 refine awp_skip ?_
 refine hK2 _ _ ?_; clear hK2
 refine sK ?_; intro K3 hK3
 refine rS [] [0, 12] (by decide) ?_
 intro K1 hK1
 refine ⟨tv, tv, ⟨rfl, by decide⟩, ?_⟩
 refine aL rfl (v := iT s.fuse) rfl (wG 0 (nodup_1 d) rfl) rfl (aO rfl rfl (nB rfl)) rfl ?_
 refine ⟨tv, ?_⟩
 show K1 [(0, pT d), (12, .bool (s.fuse == 0))] (mW m [(d, dObj kb nb s)])
 refine hK1 _ _ ?_; clear hK1 K1
 refine cD rfl rfl (fun h2 => ?_) (fun h2 => ?_)
 ·
  replace h2 : s.fuse = 0 := (eq_of_beq h2)
  refine rS [] [0] (by decide) ?_
  intro K1 hK1
  refine ⟨tv, tv, ⟨rfl, by decide⟩, ?_⟩
  refine aS rfl 0 (v := .bool true) (l' := [.map kb, .map nb, sT (s.wait.map chgAV), iT s.fuse, .bool true, iT s.steps]) rfl rfl (nodup_1 d) rfl rfl rfl rfl rfl (nB rfl) rfl ?_
  show K1 [(0, pT d)] (mW m [(d, .cells [.map kb, .map nb, sT (s.wait.map chgAV), iT s.fuse, .bool true, iT s.steps])])
  refine hK1 _ _ ?_; clear hK1 K1
  refine rS [] [] (by decide) ?_
  intro K1 hK1
  refine ⟨tv, tv, ⟨rfl, by decide⟩, ?_⟩
  refine aS rfl 0 (v := iT (-1)) (l' := [.map kb, .map nb, sT (s.wait.map chgAV), iT (-1), .bool true, iT s.steps]) rfl rfl (nodup_1 d) rfl rfl rfl rfl rfl (nB rfl) rfl ?_
  show K1 [] (mW m [(d, .cells [.map kb, .map nb, sT (s.wait.map chgAV), iT (-1), .bool true, iT s.steps])])
  refine hK1 _ _ ?_; clear hK1 K1
  refine rS [] [2] (by decide) ?_
  intro K1 hK1
  refine ⟨tv, tv, ?_⟩
  show K1 [(2, .iface 60 (iT 10))] _
  refine hK1 _ _ ?_; clear hK1 K1
  refine awp_toErr 60 [2] ?_
  show AWP _ _ _ _ [(2, .err 60 10)] _
  refine awp_ret ?_
  refine ⟨tv, (mW m [(d, .cells [.map kb, .map nb, sT (s.wait.map chgAV), iT (-1), .bool true, iT s.steps])]), fun _ _ h => h, ?_⟩
  show K (.err 60 10) _
 
  have e0 : stepF s = (((⟨s.kept, s.now, s.wait, -1, true, s.steps⟩ : DSt), 10) : DSt × Int) := by
   obtain ⟨kept, now, wait, fuse, down, steps⟩ := s
   simp_all [stepF] <;> omega
  rw [e0] at hK
  exact hK
 replace h2 : s.fuse ≠ 0 := (ne_of_beq_false h2)
 refine awp_skip ?_
 refine hK3 _ _ ?_; clear hK3
 refine sK ?_; intro K4 hK4
 refine rS [] [0, 24] (by decide) ?_
 intro K1 hK1
 refine ⟨tv, tv, ⟨rfl, by decide⟩, ?_⟩
 refine aL rfl (v := iT s.fuse) rfl (wG 0 (nodup_1 d) rfl) rfl (aO rfl rfl (nB rfl)) rfl ?_
 refine ⟨tv, ?_⟩
 show K1 [(0, pT d), (24, .bool (decide (0 < s.fuse)))] (mW m [(d, dObj kb nb s)])
 refine hK1 _ _ ?_; clear hK1 K1
 refine cD rfl rfl (fun h3 => ?_) (fun h3 => ?_)
 ·
  replace h3 : 0 < s.fuse := (of_decide_eq_true h3)
  refine awp_reg2 [] [0] (by decide) ?_
  intro K1 hK1
  refine ⟨tv, tv, ⟨rfl, by decide⟩, ?_⟩
  refine aL rfl (v := iT s.fuse) rfl (wG 0 (nodup_1 d) rfl) rfl (aO rfl rfl (nB rfl)) rfl ?_
  refine ar_sub rfl (a := s.fuse) (b := 1) rfl rfl (by omega) (by omega) ?_
  refine ⟨tv, ⟨rfl, by decide⟩, ?_⟩
  refine aS rfl 0 (v := iT (s.fuse - 1)) (l' := [.map kb, .map nb, sT (s.wait.map chgAV), iT (s.fuse - 1), .bool s.down, iT s.steps]) rfl rfl (nodup_1 d) rfl rfl rfl rfl rfl (nB rfl) rfl ?_
  show K1 [(0, pT d)] (mW m [(d, .cells [.map kb, .map nb, sT (s.wait.map chgAV), iT (s.fuse - 1), .bool s.down, iT s.steps])])
  refine hK1 _ _ ?_; clear hK1 K1
  refine hK4 _ _ ?_; clear hK4
  refine rS [] [] (by decide) ?_
  intro K1 hK1
  refine ⟨tv, tv, ⟨rfl, by decide⟩, ?_⟩
  refine aL rfl (v := iT s.steps) rfl (wG 0 (nodup_1 d) rfl) rfl (aO rfl rfl (nB rfl)) rfl ?_
  refine ar_add rfl (a := s.steps) (b := 1) rfl rfl (by omega) (by omega) ?_
  refine ⟨tv, ⟨rfl, by decide⟩, ?_⟩
  refine aS rfl 0 (v := iT (s.steps + 1)) (l' := [.map kb, .map nb, sT (s.wait.map chgAV), iT (s.fuse - 1), .bool s.down, iT (s.steps + 1)]) rfl rfl (nodup_1 d) rfl rfl rfl rfl rfl (nB rfl) rfl ?_
  show K1 [] (mW m [(d, .cells [.map kb, .map nb, sT (s.wait.map chgAV), iT (s.fuse - 1), .bool s.down, iT (s.steps + 1)])])
  refine hK1 _ _ ?_; clear hK1 K1
  refine rS [] [2] (by decide) ?_
  intro K1 hK1
  refine ⟨tv, ?_⟩
  show K1 [(2, .nilIface)] _
  refine hK1 _ _ ?_; clear hK1 K1
  refine awp_toErr 60 [2] ?_
  show AWP _ _ _ _ [(2, .err 60 0)] _
  refine awp_ret ?_
  refine ⟨tv, (mW m [(d, .cells [.map kb, .map nb, sT (s.wait.map chgAV), iT (s.fuse - 1), .bool s.down, iT (s.steps + 1)])]), fun _ _ h => h, ?_⟩
  show K (.err 60 0) _
 
  have e0 : stepF s = (((⟨s.kept, s.now, s.wait, s.fuse - 1, s.down, s.steps + 1⟩ : DSt), 0) : DSt × Int) := by
   obtain ⟨kept, now, wait, fuse, down, steps⟩ := s
   simp_all [stepF] <;> omega
  rw [e0] at hK
  exact hK
 replace h3 : s.fuse ≤ 0 := (Int.not_lt.1 (of_decide_eq_false h3))
 refine awp_skip ?_
 refine hK4 _ _ ?_; clear hK4
 refine rS [] [] (by decide) ?_
 intro K1 hK1
 refine ⟨tv, tv, ⟨rfl, by decide⟩, ?_⟩
 refine aL rfl (v := iT s.steps) rfl (wG 0 (nodup_1 d) rfl) rfl (aO rfl rfl (nB rfl)) rfl ?_
 refine ar_add rfl (a := s.steps) (b := 1) rfl rfl (by omega) (by omega) ?_
 refine ⟨tv, ⟨rfl, by decide⟩, ?_⟩
 refine aS rfl 0 (v := iT (s.steps + 1)) (l' := [.map kb, .map nb, sT (s.wait.map chgAV), iT s.fuse, .bool s.down, iT (s.steps + 1)]) rfl rfl (nodup_1 d) rfl rfl rfl rfl rfl (nB rfl) rfl ?_
 show K1 [] (mW m [(d, .cells [.map kb, .map nb, sT (s.wait.map chgAV), iT s.fuse, .bool s.down, iT (s.steps + 1)])])
 refine hK1 _ _ ?_; clear hK1 K1
 refine rS [] [2] (by decide) ?_
 intro K1 hK1
 refine ⟨tv, ?_⟩
 show K1 [(2, .nilIface)] _
 refine hK1 _ _ ?_; clear hK1 K1
 refine awp_toErr 60 [2] ?_
 show AWP _ _ _ _ [(2, .err 60 0)] _
 refine awp_ret ?_
 refine ⟨tv, (mW m [(d, .cells [.map kb, .map nb, sT (s.wait.map chgAV), iT s.fuse, .bool s.down, iT (s.steps + 1)])]), fun _ _ h => h, ?_⟩
 show K (.err 60 0) _
 have e0 : stepF s = (((⟨s.kept, s.now, s.wait, s.fuse, s.down, s.steps + 1⟩ : DSt), 0) : DSt × Int) := by
  obtain ⟨kept, now, wait, fuse, down, steps⟩ := s
  simp_all [stepF] <;> omega
 rw [e0] at hK
 exact hK
structure DInv (N : Nat) (s : DSt) : Prop where
  st0 : 0 ≤ s.steps
  st1 : s.steps ≤ N
  fu0 : -1 ≤ s.fuse
  fu1 : s.fuse ≤ 9223372036854775807
  kl : s.kept.length + s.wait.length ≤ N
  kb : ∀ p ∈ s.kept, p.2.length + 4000 * s.wait.length ≤ 4000 * N
  cd : ∀ c ∈ s.wait, c.data.length ≤ 4000
  nl : s.now.length ≤ N
  nb : ∀ p ∈ s.now, p.2.length ≤ 4000 * N
theorem mput_mem {l : List (Str × Str)} {k v : Str} {p : Str × Str} (h : p ∈ mput l k v) : p ∈ l ∨ p = (k, v) := by
  induction l with
  | nil => simp [mput] at h; exact .inr h
  | cons q r ih =>
    obtain ⟨a, b⟩ := q
    simp only [mput] at h
    split at h
    · rcases List.mem_cons.1 h with h | h
      · exact .inr h
      · exact .inl (by simp [h])
    · rcases List.mem_cons.1 h with h | h
      · exact .inl (by simp [h])
      · rcases ih h with h | h
        · exact .inl (by simp [h])
        · exact .inr h
theorem mdel_mem {l : List (Str × Str)} {k : Str} {p : Str × Str} (h : p ∈ mdel l k) : p ∈ l := by
  induction l with
  | nil => simp [mdel] at h
  | cons q r ih =>
    obtain ⟨a, b⟩ := q
    simp only [mdel] at h
    split at h
    · simp [h]
    · rcases List.mem_cons.1 h with h | h
      · simp [h]
      · simp [ih h]
theorem applyC_len (l : List (Str × Str)) (c : Chg) : (applyC l c).length ≤ l.length + 1 := by
  unfold applyC
  split
  · exact mput_len _ _ _
  · split
    · exact mput_len _ _ _
    · split
      · have h1 := mdel_len (mput l c.to ((mget l c.name).getD [])) c.name
        have h2 := mput_len l c.to ((mget l c.name).getD [])
        omega
      · split
        · have := mdel_len l c.name; omega
        · omega
theorem applyC_bnd {l : List (Str × Str)} {c : Chg} {B : Nat} (h : ∀ p ∈ l, p.2.length ≤ B) (hc : c.data.length ≤ 4000) : ∀ p ∈ applyC l c, p.2.length ≤ B + 4000 := by
  intro p hp
  have hg := mget_le (k := c.name) h
  unfold applyC at hp
  split at hp
  · rcases mput_mem hp with hp | rfl
    · have := h p hp; omega
    · simp; omega
  · split at hp
    · rcases mput_mem hp with hp | rfl
      · have := h p hp; omega
      · simp; omega
    · split at hp
      · rcases mput_mem (mdel_mem hp) with hp | rfl
        · have := h p hp; omega
        · simp; omega
      · split at hp
        · have := h p (mdel_mem hp); omega
        · have := h p hp; omega
def applyL (l : List (Str × Str)) (cs : List Chg) : List (Str × Str) := cs.foldl applyC l
theorem applyL_bnd {cs : List Chg} (hc : ∀ c ∈ cs, c.data.length ≤ 4000) : ∀ {l : List (Str × Str)} {B : Nat}, (∀ p ∈ l, p.2.length ≤ B) → (applyL l cs).length ≤ l.length + cs.length ∧ ∀ p ∈ applyL l cs, p.2.length ≤ B + 4000 * cs.length := by
  induction cs with
  | nil => intro l B h; exact ⟨by simp [applyL], fun p hp => by have := h p hp; simp; omega⟩
  | cons c cs ih =>
    intro l B h
    have h1 := applyC_len l c
    have h2 := ih (fun c hc' => hc c (by simp [hc'])) (applyC_bnd h (hc c (by simp)))
    have e : applyL l (c :: cs) = applyL (applyC l c) cs := rfl
    rw [e, List.length_cons]
    exact ⟨by omega, fun p hp => by have := h2.2 p hp; omega⟩
theorem DInv.step {N : Nat} {s : DSt} (h : DInv N s) : DInv (N + 1) (stepF s).1 := by
  have k := stepF_keep s
  have q := stepF_steps s
  have hf : -1 ≤ (stepF s).1.fuse ∧ (stepF s).1.fuse ≤ 9223372036854775807 := by
    have := h.fu0; have := h.fu1
    unfold stepF; split
    · exact ⟨by assumption, by assumption⟩
    · split
      · exact ⟨by simp, by simp⟩
      · simp only; split <;> omega
  have := h.st0; have := h.st1; have := h.kl
  refine ⟨by omega, by omega, hf.1, hf.2, by rw [k.1, k.2.2.1]; omega, fun p hp => ?_, fun c hc => ?_, ?_, fun p hp => ?_⟩
  · rw [k.1] at hp; rw [k.2.2.1]; have := h.kb p hp; omega
  · rw [k.2.2.1] at hc; exact h.cd c hc
  · rw [k.2.1]; have := h.nl; omega
  · rw [k.2.1] at hp; have := h.nb p hp; omega
theorem DInv.do {N : Nat} {s : DSt} {c : Chg} (h : DInv N s) (hc : c.data.length ≤ 4000) : DInv (N + 1) (doF s c).1 := by
  unfold doF
  split
  · exact h.step
  · have k := stepF_keep s
    have g := h.step
    have := h.kl; have := h.nl; have := applyC_len s.now c
    refine ⟨g.st0, g.st1, g.fu0, g.fu1, by rw [k.1]; simp; omega, fun p hp => ?_, fun c' hc' => ?_, by simp; omega, fun p hp => ?_⟩
    · rw [k.1] at hp; have := h.kb p hp; simp; omega
    · rcases List.mem_append.1 hc' with hc' | hc'
      · exact h.cd c' hc'
      · simp at hc'; subst hc'; exact hc
    · have := applyC_bnd h.nb hc p hp; omega
def syncF (s : DSt) : DSt × Int :=
  if (stepF s).2 ≠ 0 then stepF s else ({ (stepF s).1 with kept := applyL s.kept s.wait, wait := [] }, 0)
theorem DInv.sync {N : Nat} {s : DSt} (h : DInv N s) : DInv (N + 1) (syncF s).1 := by
  unfold syncF
  split
  · exact h.step
  · have k := stepF_keep s
    have g := h.step
    have := h.kl; have := h.nl
    have a := applyL_bnd h.cd (l := s.kept) (B := 4000 * N - 4000 * s.wait.length) (fun p hp => by have := h.kb p hp; omega)
    refine ⟨g.st0, g.st1, g.fu0, g.fu1, by simp; omega, fun p hp => ?_, by simp, by rw [k.2.1]; omega, fun p hp => ?_⟩
    · have := a.2 p hp; simp; omega
    · rw [k.2.1] at hp; have := h.nb p hp; omega
theorem DInv.mono {N M : Nat} {s : DSt} (h : DInv N s) (hm : N ≤ M) : DInv M s :=
  ⟨h.st0, by have := h.st1; omega, h.fu0, h.fu1, by have := h.kl; omega, fun p hp => by have := h.kb p hp; omega, h.cd, by have := h.nl; omega, fun p hp => by have := h.nb p hp; omega⟩
end Go.Proofs
end
