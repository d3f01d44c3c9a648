/-
  A string's bytes behind a row that may grow in place; the executor's rule.
-/
import Derived.Test.YtoeghipbkmaccaaDoorWyK
import Derived.Lib.AppendStr
import Derived.Lib.LaidTab
import Derived.Lib.ItoaNum
import Derived.Sort.Grow
import Derived.Test.YtoeghipbkmaccaaDoorWxn
import Derived.Test.YtoeghipbkmaccaaDoorWyD
import Derived.Test.YtoeghipbkmaccaaDoorProg
import Derived.Lib.Strings
import Derived.Lib.Slices
import Derived.Lib.Walk
import Derived.Lib.Builder
import Derived.Lib.UnsafeStr
import Derived.WalkKit
import Derived.Laws.Externs
import Derived.Laws.IdiomCopy
import Derived.ProofKit
import Derived.OwnWalk
import Derived.Shelf.Small.Bits
import Derived.Shelf.Strconv.Itoa0
import Derived.Shelf.Strconv.Itoa1
import Derived.Shelf.LaysM
import Derived.Shelf.Strconv.Itoa2
import Derived.Shelf.Strconv.Itoa3
section
namespace Go.Aw
open Go
section
variable {P : Program} {F : Nat → Prop} {lim : Nat → Nat} {w : World} {n : Nat} {fr : Fr} {m : AMem} {ca : Act} {fl : List Nat}
theorem byte_cells (c : UInt8) : (byteAV c).cells = [byteAV c] := rfl
theorem rep_byte (c : UInt8) : Rep w lim (.int .u8 c.toNat) (byteAV c) [] := .int _ _ (by show (0 : Int) ≤ _; omega) (by have := c.toNat_lt; show _ ≤ (255 : Int); omega)
def RowT (w : World) (eb : TypeId) (v : Value) (os : List Nat) (ne : Prop) : Prop := v = .slice none 0 0 ∨ ∃ g n c cur, v = .slice (some ⟨g, 0, none⟩) n c ∧ g ∈ os ∧ ne ∧ w.heap[g]? = some (.cells cur eb (0, 0))
set_option maxHeartbeats 1000000 in
theorem appendStr_sound (st : St F lim w n fr m ca fl) {t u e ty : TypeId} (ht : P.underlying t = some (.slice e)) (hu : P.underlying u = some .string) (hz : zOk P e = true) (hc1 : P.cellsOf e = 1) (hb1 : P.bytesOf e = 1) {vb : Value} {l : List UInt8} (s : ByteArray) (hb : Rep w lim vb (.slice true (l.map byteAV)) fl)
    (hbig : l.length + s.size ≤ 140737488355328) (hT : RowT w e vb fl (l.map byteAV ≠ [])) :
    ∃ v' w' lim' os', RowT w' e v' os' ((l ++ s.data.toList).map byteAV ≠ []) ∧ (Builtin.append_ #[t, u] ty #[vb, .string s]).run P w = .ok v' w' ∧ St F lim' w' n fr m ca os' ∧ Rep w' lim' v' (.slice true ((l ++ s.data.toList).map byteAV)) os' ∧ Pres F w lim w' lim' := by
  obtain ⟨i, z, hi, hiz, hck, hzA, hzc⟩ := info_of_zOk hz
  obtain ⟨hcs, hbs⟩ := cellsOf_info hi
  have hi1 : i.size = 1 := by rw [← hcs, hc1]
  have hi2 : i.bytes = 1 := by rw [← hbs, hb1]
  have hsz : s.data.toList.length = s.size := by rw [Array.length_toList]; rfl
  have hmx : ∀ k : Nat, k ≤ 140737488355328 → k ≤ maxLen := fun k hk => by simp only [maxLen]; omega
  by_cases hnil : s.size = 0
  · have he : s.data.toList = [] := List.eq_nil_of_length_eq_zero (by rw [hsz, hnil])
    refine ⟨vb, w, lim, fl, by simpa [he] using hT, ?_, st, by simpa [he] using hb, .refl _ _ _⟩
    have hf := Lib.run_firstCells_string (P := P) w i.size s
    rw [hnil, show Lib.strCells s = [] from by simp [Lib.strCells, he]] at hf
    generalize hll : l.map byteAV = ll at hb
    cases hb with
    | nils own => simp [Builtin.append_, run_underlying ht, run_underlying hu, sizeOf, typeInfo, hi, Builtin.lenOf, hnil, hf]
    | own b cnt cap sz l cv cur e' h1 h2 h3 h4 h5 h6 h7 h8 h9 h10 h11 => simp [Builtin.append_, run_underlying ht, run_underlying hu, sizeOf, typeInfo, hi, Builtin.lenOf, hnil, hf, h2, storeCells]
  have hpos : 0 < s.size := Nat.pos_of_ne_zero hnil
  have hne : (l ++ s.data.toList).map byteAV ≠ [] := fun hh => by
    have := congrArg List.length hh
    simp only [List.length_map, List.length_append, hsz, List.length_nil] at this
    omega
  have hsc : ∀ a, a < s.size → (Lib.strCells s)[a]? = some (.int .u8 (s.data.toList.getD a 0).toNat) := fun a ha => by
    rw [← hsz] at ha
    simp [Lib.strCells, List.getD_eq_getElem?_getD, List.getElem?_eq_getElem ha]
  have hgetL : ∀ a, a < l.length + s.size → ((l ++ s.data.toList).map byteAV).getD a .junk = byteAV ((l ++ s.data.toList).getD a 0) := fun a ha => by
    have : a < (l ++ s.data.toList).length := by rw [List.length_append, hsz]; exact ha
    rw [List.getD_eq_getElem?_getD, List.getD_eq_getElem?_getD, List.getElem?_map, List.getElem?_eq_getElem this]; rfl
  -- the new block of a row that was moved
  have moved : ∀ (olds : List Value) (cap' : Nat), olds.length = l.length → (∀ a, a < l.length → ∃ v, olds[a]? = some v ∧ Rep w lim v (byteAV (l.getD a 0)) []) → l.length + s.size ≤ cap' → cap' ≤ maxLen →
      ∃ lim' os', os' = [w.heap.size] ∧ St F lim' (w.drew.alloc (.cells (olds.toArray ++ (Lib.strCells s).toArray ++ Builtin.zeroCells z.cells (cap' - (l.length + s.size))) e)) n fr m ca os' ∧
        Rep (w.drew.alloc (.cells (olds.toArray ++ (Lib.strCells s).toArray ++ Builtin.zeroCells z.cells (cap' - (l.length + s.size))) e)) lim' (.slice (some ⟨w.heap.size, 0, none⟩) (l.length + s.size) cap') (.slice true ((l ++ s.data.toList).map byteAV)) os' ∧
        Pres F w lim (w.drew.alloc (.cells (olds.toArray ++ (Lib.strCells s).toArray ++ Builtin.zeroCells z.cells (cap' - (l.length + s.size))) e)) lim' := by
    intro olds cap' ho hra hcap hm
    have hP := Pres.allocUp (w' := w.drew) st rfl rfl rfl rfl (.cells (olds.toArray ++ (Lib.strCells s).toArray ++ Builtin.zeroCells z.cells (cap' - (l.length + s.size))) e) (l.length + s.size)
    refine ⟨_, _, rfl, st.allocFly (w' := w.drew) rfl _ (l.length + s.size), ?_, hP⟩
    refine rep_own_new (sz := 1) (cv := fun a _ => .int .u8 ((l ++ s.data.toList).getD a 0).toNat) (by simp [hsz]) hcap hm hbig (.inl (by omega)) (heapNew w.drew _) ?_ (fun a ha => ?_) (by rw [limUp_same, Nat.mul_one]) (fun a b ha hb => ?_) (fun a b ha hb => ?_)
    · simp only [Array.size_append, List.size_toArray, size_zeroCells, hzc, hi1, ho, Lib.strCells_length]; omega
    · rw [hgetL a ha]; rfl
    · obtain rfl : b = 0 := by omega
      rw [← Array.getElem?_toList]
      simp only [Array.toList_append, Nat.mul_one, Nat.add_zero]
      by_cases h : a < l.length
      · obtain ⟨v, hv, hr⟩ := hra a h
        rw [List.append_assoc, List.getElem?_append_left (by simpa [ho] using h), hv]
        have : (l ++ s.data.toList).getD a 0 = l.getD a 0 := by simp [List.getD_eq_getElem?_getD, List.getElem?_append_left h]
        rw [this]
        have hr' := hr
        unfold byteAV at hr'
        cases hr'
        rfl
      · rw [List.append_assoc, List.getElem?_append_right (by simp [ho]; omega), List.getElem?_append_left (by simp [ho, Lib.strCells_length]; omega)]
        rw [hsc _ (by simp [ho]; omega)]
        have : (l ++ s.data.toList).getD a 0 = s.data.toList.getD (a - l.length) 0 := by simp only [List.getD_eq_getElem?_getD]; rw [List.getElem?_append_right (by omega)]
        rw [this, ho]
    · obtain rfl : b = 0 := by omega
      rw [hgetL a ha]
      exact rep_byte _
  generalize hll : l.map byteAV = ll at hb
  cases hb with
  | nils own =>
    obtain rfl : l = [] := by simpa using hll
    have hrun := run_append_nil_string (P := P) w t u ty e i z ht hu hi hiz s hpos (by have : s.size ≤ 140737488355328 := by simpa using hbig
                                                                                       omega) (by rw [hi2]; have : s.size ≤ 140737488355328 := by simpa using hbig
                                                                                                  omega)
    have hcap := grownCap_ge w s.size 0 e
    have hcapm := grownCap_le_maxLen w s.size 0 e (hmx _ (by simpa using hbig))
    have e1 : (s.data.map fun b => Value.int .u8 b.toNat) = (Lib.strCells s).toArray := by
      apply Array.ext'
      simp [Lib.strCells]
    rw [e1] at hrun
    obtain ⟨lim', os', h0, h1, h2, h3⟩ := moved [] (grownCap w s.size 0 e) rfl (fun a ha => absurd ha (Nat.not_lt_zero _)) (by simpa using hcap) hcapm
    simp only [List.length_nil, Nat.zero_add, List.nil_append, Array.empty_append] at h1 h2 h3
    exact ⟨_, _, lim', os', .inr ⟨_, _, _, _, rfl, by rw [h0]; simp, hne, heapNew w.drew _⟩, hrun, h1, h2, h3⟩
  | own b cnt cap sz l' cv cur e' h1 h2 h3 h4 h5 h6 h7 h8 h9 h10 h11 =>
    subst hll
    have hcnt : l.length = cnt := by simpa using h1
    subst hcnt
    have hg0 : ∀ a, a < l.length → (l.map byteAV).getD a .junk = byteAV (l.getD a 0) := fun a ha => by simp [List.getD_eq_getElem?_getD, List.getElem?_eq_getElem ha]
    have hszE : l.length = 0 ∨ sz = 1 := by
      rcases Nat.eq_zero_or_pos l.length with h | h
      · exact .inl h
      · exact .inr (by rw [← h8 0 h, hg0 0 h]; rfl)
    have hc' : ∀ a, a < l.length → ∃ v, w.cell? ⟨b, a, none⟩ = some v ∧ Rep w lim v (byteAV (l.getD a 0)) [] := fun a ha => by
      rcases hszE with h | h
      · omega
      · subst h
        have q1 := h10 a 0 ha (by omega)
        have q2 := h11 a 0 ha (by omega)
        rw [hg0 a ha] at q2
        simp only [Nat.mul_one, Nat.add_zero] at q1
        exact ⟨_, q1, q2⟩
    by_cases hroom : l.length + s.size ≤ cap
    · have hsz1 : sz = 1 := by
        rcases hszE with h | h
        · rcases h5 with h5 | h5 <;> omega
        · exact h
      subst hsz1
      simp only [Nat.mul_one] at h7 h9
      obtain rfl : e' = e := by
        rcases hT with hT | ⟨g, _, _, _, hv, _, _, hg⟩
        · cases hT
        · cases hv
          rw [h6] at hg
          simp only [Option.some.injEq, Obj.cells.injEq] at hg
          exact hg.2.1
      have hrun : (Builtin.append_ #[t, u] ty #[.slice (some ⟨b, 0, none⟩) l.length cap, .string s]).run P w =
          .ok (.slice (some ⟨b, 0, none⟩) (l.length + s.size) cap) (w.setRow b (cur.toList.take l.length ++ Lib.strCells s ++ cur.toList.drop (l.length + s.size)).toArray) := by
        have hf := Lib.run_firstCells_string (P := P) w 1 s
        have hst := run_storeCells_at P b l.length e' (Lib.strCells s) 0 cur w h6 (by simpa [Lib.strCells_length] using (by omega : l.length + s.size ≤ cur.size)) (Lib.strCells_oneCell s)
        simp only [Nat.add_zero, Lib.strCells_length] at hst
        simp [Builtin.append_, run_underlying ht, run_underlying hu, sizeOf, typeInfo, hi, hi1, Builtin.lenOf, hroom, hf, Addr.add_lit, hst]
      generalize hA : (cur.toList.take l.length ++ Lib.strCells s ++ cur.toList.drop (l.length + s.size)).toArray = A at hrun
      have hself : (w.setRow b A).heap[b]? = some (.cells A e' (0, 0)) := setRow_heap w b cur A e' (0, 0) h6
      have hcur : ∀ k, k < l.length → A[k]? = cur[k]? := fun k hk => by
        rw [← hA]
        rw [List.getElem?_toArray, List.append_assoc, List.getElem?_append_left (by simp; omega), List.getElem?_take, if_pos hk, Array.getElem?_toList]
      obtain ⟨s1, s2⟩ := st.growFly (w' := w.setRow b A) (by simp) (fun c hc => setRow_other w b c A hc) (l.length + s.size) (by omega) (fun o ho => by
        rw [← h9] at ho
        simp [World.cell?, hself, h6, hcur o ho]) rfl rfl rfl
      refine ⟨_, _, _, [b], .inr ⟨_, _, _, _, rfl, by simp, hne, hself⟩, hrun, s1, ?_, s2⟩
      refine rep_own_new (sz := 1) (cv := fun a _ => .int .u8 ((l ++ s.data.toList).getD a 0).toNat) (by simp [hsz]) hroom h3 hbig (.inl (by omega)) hself (by rw [← hA]; simp [Lib.strCells_length]; omega) (fun a ha => ?_) (by rw [limUp_same, Nat.mul_one]) (fun a b' ha hb => ?_) (fun a b' ha hb => ?_)
      · rw [hgetL a ha]; rfl
      · obtain rfl : b' = 0 := by omega
        simp only [Nat.mul_one, Nat.add_zero]
        by_cases h : a < l.length
        · rw [hcur a h]
          obtain ⟨v, q1, q2⟩ := hc' a h
          simp only [World.cell?, h6] at q1
          have : (l ++ s.data.toList).getD a 0 = l.getD a 0 := by simp [List.getD_eq_getElem?_getD, List.getElem?_append_left h]
          rw [this]
          unfold byteAV at q2
          cases q2
          exact q1
        · rw [← hA, List.getElem?_toArray, List.append_assoc, List.getElem?_append_right (by simp; omega), List.getElem?_append_left (by simp [Lib.strCells_length]; omega)]
          have e2 : (cur.toList.take l.length).length = l.length := by simp; omega
          rw [e2, hsc _ (by omega)]
          have : (l ++ s.data.toList).getD a 0 = s.data.toList.getD (a - l.length) 0 := by simp only [List.getD_eq_getElem?_getD]; rw [List.getElem?_append_right (by omega)]
          rw [this]
      · obtain rfl : b' = 0 := by omega
        rw [hgetL a ha]
        exact rep_byte _
    · have holdsE : ∃ olds : List Value, olds.length = l.length ∧ (∀ a, a < l.length → ∃ v, olds[a]? = some v ∧ w.cell? ⟨b, a, none⟩ = some v ∧ Rep w lim v (byteAV (l.getD a 0)) []) := by
        refine ⟨(List.range l.length).map fun a => (w.cell? ⟨b, a, none⟩).getD undef, by simp, fun a ha => ?_⟩
        obtain ⟨v, q1, q2⟩ := hc' a ha
        exact ⟨v, by simp [ha, q1], q1, q2⟩
      obtain ⟨olds, ho, hold⟩ := holdsE
      have hfits := growslice_fits (need := l.length + s.size) (old := cap) (bytes := i.bytes) (by omega) (by rw [hi2]; omega)
      have hrun := Lib.run_append_grow_string (P := P) w t u ty e i z ht hu hi hiz ⟨b, 0, none⟩ l.length cap olds (by rw [hi1, ho, Nat.mul_one]) (fun j v hj => by
        have hlt : j < l.length := by
          rw [← ho]
          rcases Nat.lt_or_ge j olds.length with h | h
          · exact h
          · rw [List.getElem?_eq_none h] at hj; cases hj
        obtain ⟨v', q1, q2, _⟩ := hold j hlt
        rw [hj] at q1
        cases q1
        rw [addr_add, Nat.zero_add]
        exact q2) s (by omega) (by omega) hfits
      have hcap := grownCap_ge w (l.length + s.size) cap e
      have hcapm := grownCap_le_maxLen w (l.length + s.size) cap e (hmx _ hbig)
      obtain ⟨lim', os', h0, s1, s2, s3⟩ := moved olds (grownCap w (l.length + s.size) cap e) ho (fun a ha => by obtain ⟨v, q1, _, q3⟩ := hold a ha; exact ⟨v, q1, q3⟩) hcap hcapm
      exact ⟨_, _, lim', os', .inr ⟨_, _, _, _, rfl, by rw [h0]; simp, hne, heapNew w.drew _⟩, hrun, s1, s2, s3⟩
end
end Go.Aw
end
section
namespace Go.Aw
open Go
section
variable {P : Program} {F : Nat → Prop} {lim : Nat → Nat} {w : World} {n : Nat} {fr : Fr} {m : AMem} {ca : Act} {fl : List Nat}
theorem St.weakF {F' : Nat → Prop} (st : St F' lim w n fr m ca fl) (h : ∀ c, F c → F' c) : St F lim w n fr m ca fl := by
  obtain ⟨os, om, ow, s⟩ := st
  exact ⟨os, om, ow, s.size, s.defers, s.slots, fun b o hb => ⟨(s.mem b o hb).1, (s.mem b o hb).2.1, fun hF => (s.mem b o hb).2.2 (h b hF)⟩, s.ownS, s.ownM, s.ownF, fun c hc => ⟨fun hF => (s.free c hc).1 (h c hF), (s.free c hc).2⟩,
    fun b hb => ⟨(s.fresh b hb).1, fun hF => (s.fresh b hb).2.1 (h b hF), (s.fresh b hb).2.2⟩⟩
theorem St.takeBld (st : St F lim w n fr m ca []) {b : Nat} {e eb : TypeId} {l : List AV} (hm : m b = some (.bld e eb l)) :
    ∃ p v os, ¬ F b ∧ lim b = 0 ∧ w.heap[b]? = some (.cells #[p, v] e (0, 0)) ∧ (p = .pointer none ∨ p = .pointer (some ⟨b, 0, none⟩)) ∧ Rep w lim v (.slice true l) os ∧ RowT w eb v os (l ≠ []) ∧
      (∀ c ∈ os, ¬ F c ∧ m c = none ∧ c ≠ b) ∧ St (fun c => F c ∨ c = b) lim w n fr (m.upd b none) ca os ∧ St (fun c => F c ∨ c = b ∨ c ∈ os) lim w n fr (m.upd b none) ca [] := by
  obtain ⟨os, om, ow, s⟩ := st
  obtain ⟨hM, hl, hF⟩ := s.mem b _ hm
  have hown := s.ownM b _ hm 1
  generalize hg : om b = ob at hM hown
  have hlt : b < w.heap.size := by
    rcases Nat.lt_or_ge b w.heap.size with h | h
    · exact h
    · rw [(s.fresh b h).2.2] at hm; cases hm
  have hmem : ∀ (c : Nat) o, (m.upd b none) c = some o → c ≠ b ∧ m c = some o := fun c o h => by
    simp only [AMem.upd] at h
    by_cases e : c = b
    · rw [if_pos e] at h; cases h
    · rw [if_neg e] at h; exact ⟨e, h⟩
  have hnone : ∀ (c : Nat), m c = none → (m.upd b none) c = none := fun c h => by
    simp only [AMem.upd]; split
    · rfl
    · exact h
  cases hM with
  | bld p v _ _ _ _ hb hp hr hgT =>
    have hos : ∀ c ∈ ob 1, ¬ F c ∧ m c = none ∧ c < w.heap.size := fun c hc => s.free c (by rw [hown.2 c hc]; simp)
    have hne : ∀ c ∈ ob 1, c ≠ b := fun c hc e => by
      have := (hos c hc).2.1
      rw [e, hm] at this; cases this
    refine ⟨p, v, ob 1, hF, hl, hb, hp, hr, hgT, fun c hc => ⟨(hos c hc).1, (hos c hc).2.1, hne c hc⟩, ?_, ?_⟩
    · refine ⟨os, om, fun c => if ow c = .blk b 1 then .fly else ow c, s.size, s.defers, s.slots, fun c o h => ?_, fun t x hx => ⟨(s.ownS t x hx).1, fun c hc => ?_⟩, fun c o h i => ?_, ⟨hown.1, fun c hc => by rw [if_pos (hown.2 c hc)]⟩, fun c hc => ?_, fun c hc => ?_⟩
      · obtain ⟨e1, h1⟩ := hmem c o h
        have := s.mem c o h1
        exact ⟨this.1, this.2.1, fun hh => hh.elim this.2.2 e1⟩
      · rw [(s.ownS t x hx).2 c hc, if_neg (by simp)]
      · obtain ⟨e1, h1⟩ := hmem c o h
        refine ⟨(s.ownM c o h1 i).1, fun d hd => ?_⟩
        rw [(s.ownM c o h1 i).2 d hd, if_neg (by simp [e1])]
      · have hc' : ow c ≠ .none := fun h => hc (by rw [h, if_neg (by simp)])
        have := s.free c hc'
        refine ⟨fun hh => hh.elim this.1 fun e => ?_, hnone c this.2.1, this.2.2⟩
        have h2 := this.2.1
        rw [e, hm] at h2; cases h2
      · have := s.fresh c hc
        exact ⟨this.1, fun hh => hh.elim this.2.1 fun e => by omega, hnone c this.2.2⟩
    · refine ⟨os, om, fun c => if ow c = .blk b 1 then .none else ow c, s.size, s.defers, s.slots, fun c o h => ?_, fun t x hx => ⟨(s.ownS t x hx).1, fun c hc => ?_⟩, fun c o h i => ?_, ⟨List.nodup_nil, fun c hc => by cases hc⟩, fun c hc => ?_, fun c hc => ?_⟩
      · obtain ⟨e1, h1⟩ := hmem c o h
        have := s.mem c o h1
        refine ⟨this.1, this.2.1, fun hh => hh.elim this.2.2 fun hh => hh.elim e1 fun hc => ?_⟩
        rw [(hos c hc).2.1] at h1; cases h1
      · rw [(s.ownS t x hx).2 c hc, if_neg (by simp)]
      · obtain ⟨e1, h1⟩ := hmem c o h
        refine ⟨(s.ownM c o h1 i).1, fun d hd => ?_⟩
        rw [(s.ownM c o h1 i).2 d hd, if_neg (by simp [e1])]
      · have hnb : ow c ≠ .blk b 1 := fun h => hc (by rw [if_pos h])
        have hc' : ow c ≠ .none := fun h => hc (by rw [if_neg hnb, h])
        have := s.free c hc'
        refine ⟨fun hh => hh.elim this.1 fun hh => hh.elim (fun e => ?_) (fun hm2 => hnb (hown.2 c hm2)), hnone c this.2.1, this.2.2⟩
        have h2 := this.2.1
        rw [e, hm] at h2; cases h2
      · have := s.fresh c hc
        exact ⟨this.1, fun hh => hh.elim this.2.1 fun hh => hh.elim (fun e => by omega) (fun hm2 => by have := (hos c hm2).2.2; omega), hnone c this.2.2⟩
theorem St.putBld {b : Nat} {e eb : TypeId} {l : List AV} {p v : Value} {os0 : List Nat} (st : St (fun c => F c ∨ c = b) lim w n fr (m.upd b none) ca os0) (hF : ¬ F b) (hl : lim b = 0) (hb : w.heap[b]? = some (.cells #[p, v] e (0, 0)))
    (hp : p = .pointer none ∨ p = .pointer (some ⟨b, 0, none⟩)) (hr : Rep w lim v (.slice true l) os0) (hT : RowT w eb v os0 (l ≠ [])) : St F lim w n fr (m.upd b (some (.bld e eb l))) ca [] := by
  obtain ⟨os, om, ow, s⟩ := st
  have hlt : b < w.heap.size := by
    rcases Nat.lt_or_ge b w.heap.size with h | h
    · exact h
    · rw [Array.getElem?_eq_none h] at hb; cases hb
  have hfl : ∀ c ∈ os0, ow c = .fly := s.ownF.2
  have hup : ∀ (c : Nat) (x : Option AObj), c ≠ b → (m.upd b x) c = m c := fun c x h => by simp only [AMem.upd, if_neg h]
  refine ⟨os, fun c => if c = b then (fun i => if i = 1 then os0 else []) else om c, fun c => if c ∈ os0 then .blk b 1 else ow c, s.size, s.defers, s.slots, fun c o h => ?_, fun t x hx => ⟨(s.ownS t x hx).1, fun c hc => ?_⟩, fun c o h i => ?_, ⟨List.nodup_nil, fun c hc => by cases hc⟩, fun c hc => ?_, fun c hc => ?_⟩
  · by_cases e1 : c = b
    · subst e1
      simp only [AMem.upd, if_true] at h
      obtain rfl := Option.some.inj h
      refine ⟨?_, hl, hF⟩
      simp only [if_true]
      exact .bld p v _ _ _ _ hb hp (by simpa using hr) (by simpa [RowT] using hT)
    · rw [hup c _ e1] at h
      simp only [if_neg e1]
      have := s.mem c o (by rw [hup c _ e1]; exact h)
      exact ⟨this.1, this.2.1, fun hh => this.2.2 (.inl hh)⟩
  · have h1 := (s.ownS t x hx).2 c hc
    rw [if_neg (fun hm => by rw [hfl c hm] at h1; cases h1)]
    exact h1
  · by_cases e1 : c = b
    · subst e1
      simp only [if_true]
      by_cases hi : i = 1
      · subst hi
        simp only [if_true]
        exact ⟨s.ownF.1, fun d hd => by rw [if_pos hd]⟩
      · simp [if_neg hi]
    · rw [hup c _ e1] at h
      simp only [if_neg e1]
      have h2 := s.ownM c o (by rw [hup c _ e1]; exact h) i
      refine ⟨h2.1, fun d hd => ?_⟩
      have h1 := h2.2 d hd
      rw [if_neg (fun hm => by rw [hfl d hm] at h1; cases h1)]
      exact h1
  · have hc' : ow c ≠ .none := fun h => by
      by_cases hm : c ∈ os0
      · rw [hfl c hm] at h; cases h
      · exact hc (by rw [if_neg hm, h])
    have := s.free c hc'
    have e1 : c ≠ b := fun e => this.1 (.inr e)
    refine ⟨fun hh => this.1 (.inl hh), ?_, this.2.2⟩
    rw [hup c _ e1]
    have h2 := this.2.1
    rwa [hup c _ e1] at h2
  · have := s.fresh c hc
    refine ⟨this.1, fun hh => this.2.1 (.inl hh), ?_⟩
    have e1 : c ≠ b := by omega
    rw [hup c _ e1]
    have h2 := this.2.2
    rwa [hup c _ e1] at h2
theorem St.setRes {b i : Nat} {x : Value} (st : St F lim w n fr m ca fl) (hF : F b) (hl : lim b = 0) : St F lim (w.setCell ⟨b, i, none⟩ x) n fr m ca fl := by
  have hm : m b = none := by
    obtain ⟨os, om, ow, s⟩ := st
    cases h : m b with
    | none => rfl
    | some o => exact ((s.mem b o h).2.2 hF).elim
  have hf : ∀ c, w.heap.size ≤ c → lim c = 0 := fun c hc => by
    obtain ⟨os, om, ow, s⟩ := st
    exact (s.fresh c hc).1
  refine st.world (by simp) (fun _ => Nat.le_refl _) (fun c o ho => ?_) (fun c hc => ?_) (fun c hc => ?_) (fun c hc => hf c (by simpa using hc))
  · have : c ≠ b := fun e => by subst e; omega
    simp [World.cell?, heap_setCell_other w ⟨b, i, none⟩ c x this]
  · by_cases e : c = b
    · subst e; exact .inl fun h => h.1 hF
    · exact .inr ⟨heap_setCell_other w ⟨b, i, none⟩ c x e, rfl⟩
  · have : c ≠ b := fun e => hc (e ▸ hm)
    exact ⟨heap_setCell_other w ⟨b, i, none⟩ c x this, rfl⟩
theorem pres_setRes {b i : Nat} {x : Value} (hF : ¬ F b) (hl : lim b = 0) : Pres F w lim (w.setCell ⟨b, i, none⟩ x) lim := by
  refine ⟨rfl, rfl, rfl, by simp, fun c hc => ⟨heap_setCell_other w ⟨b, i, none⟩ c x (fun e => by have e2 : c = b := e; subst e2; exact hF hc), rfl⟩, fun _ => Nat.le_refl _, fun c o ho => ?_⟩
  have : c ≠ b := fun e => by subst e; omega
  simp [World.cell?, heap_setCell_other w ⟨b, i, none⟩ c x this]
theorem rep_setRes {b i : Nat} {x v : Value} {y : AV} {os : List Nat} (hr : Rep w lim v y os) (hl : lim b = 0) (hos : ∀ c ∈ os, c ≠ b) : Rep (w.setCell ⟨b, i, none⟩ x) lim v y os :=
  hr.stable (fun _ => Nat.le_refl _) (fun c o ho => by
    have : c ≠ b := fun e => by subst e; omega
    simp [World.cell?, heap_setCell_other w ⟨b, i, none⟩ c x this]) (fun c hc => ⟨heap_setCell_other w ⟨b, i, none⟩ c x (hos c hc), rfl⟩)
theorem row_setRes {b i : Nat} {x v : Value} {eb : TypeId} {os : List Nat} {ne : Prop} (h : RowT w eb v os ne) (hos : ∀ c ∈ os, c ≠ b) : RowT (w.setCell ⟨b, i, none⟩ x) eb v os ne := by
  rcases h with h | ⟨g, k, c, cur, h1, h2, h3, h4⟩
  · exact .inl h
  · exact .inr ⟨g, k, c, cur, h1, h2, h3, (heap_setCell_other w ⟨b, i, none⟩ g x (hos g h2)).trans h4⟩
theorem two_args {cargs : Array Value} (h : cargs.size = 2) : ∃ x y, cargs = #[x, y] := by
  match cargs, h with
  | ⟨[x, y]⟩, _ => exact ⟨x, y, rfl⟩
theorem one_arg {cargs : Array Value} (h : cargs.size = 1) : ∃ x, cargs = #[x] := by
  match cargs, h with
  | ⟨[x]⟩, _ => exact ⟨x, rfl⟩
set_option maxHeartbeats 1000000 in
theorem bld_write {f : FuncId} {e eb t u : TypeId} (hf : ∃ fn, P.funcs[f]? = some fn ∧ fn.body.isSome = true ∧ (fn.name == "runtime.NumGoroutine") = false)
    (ht : P.underlying t = some (.slice eb)) (hu : P.underlying u = some .string) (hz : zOk P eb = true) (hc1 : P.cellsOf eb = 1) (hb1 : P.bytesOf eb = 1)
    (hrun : ∀ (b : Nat) (s : ByteArray) (w w1 w2 : World) (p : Value) (a : Option Addr) (n c : Nat) (a' : Option Addr) (n' c' : Nat), w.heap[b]? = some (.cells #[p, .slice a n c] e (0, 0)) →
      ((p = .pointer none ∧ w1 = w.setCell ⟨b, 0, none⟩ (.pointer (some ⟨b, 0, none⟩))) ∨ (p = .pointer (some ⟨b, 0, none⟩) ∧ w1 = w)) →
      (Builtin.append_ #[t, u] t #[.slice a n c, .string s]).run P w1 = .ok (.slice a' n' c') w2 → w2.heap[b]? = some (.cells #[.pointer (some ⟨b, 0, none⟩), .slice a n c] e (0, 0)) →
      Calls P f #[.pointer (some ⟨b, 0, none⟩), .string s] w fun e w' => e = .returned (.tuple #[.int .i64 s.size, .nilIface]) ∧ w' = w2.setCell ⟨b, 1, none⟩ (.slice a' n' c'))
    {b : Nat} {l s : List UInt8} {K : AV → AMem → Prop} (hm : m b = some (.bld e eb (l.map byteAV))) (hlen : l.length + s.length ≤ 140737488355328)
    (hK : K (.tuple [.int .i64 s.length, .nilIface]) (m.upd b (some (.bld e eb ((l ++ s).map byteAV))))) : ACalls P f [.ptr ⟨b, 0, none⟩, .str s] m K := by
  refine ⟨hf, fun F lim w cargs hs hr st => ?_⟩
  obtain ⟨x, y, rfl⟩ := two_args hs
  have r0 : Rep w lim x (.ptr ⟨b, 0, none⟩) [] := hr 0 (by simp)
  have r1 : Rep w lim y (.str s) [] := hr 1 (by simp)
  cases r0
  obtain ⟨sb, rfl, rfl⟩ : ∃ sb : ByteArray, y = .string sb ∧ sb.data.toList = s := by
    cases r1 with
    | str sb h => exact ⟨sb, rfl, rfl⟩
  have hsz : sb.data.toList.length = sb.size := by rw [Array.length_toList]; rfl
  obtain ⟨p, v, os, hF, hl, hb, hp, hr0, hT, hos, st1, _⟩ := st.takeBld hm
  have hne : ∀ c ∈ os, c ≠ b := fun c hc => (hos c hc).2.2
  -- the first look
  obtain ⟨w1, hw1, st2, hr1, hT1, hb1', hP1⟩ : ∃ w1, ((p = .pointer none ∧ w1 = w.setCell ⟨b, 0, none⟩ (.pointer (some ⟨b, 0, none⟩))) ∨ (p = .pointer (some ⟨b, 0, none⟩) ∧ w1 = w)) ∧
      St (fun c => F c ∨ c = b) lim w1 0 [] (m.upd b none) noAct os ∧ Rep w1 lim v (.slice true (l.map byteAV)) os ∧ RowT w1 eb v os (l.map byteAV ≠ []) ∧ w1.heap[b]? = some (.cells #[.pointer (some ⟨b, 0, none⟩), v] e (0, 0)) ∧ Pres F w lim w1 lim := by
    rcases hp with rfl | rfl
    · exact ⟨_, .inl ⟨rfl, rfl⟩, st1.setRes (.inr rfl) hl, rep_setRes hr0 hl hne, row_setRes hT hne, by rw [heap_setCell_same _ b 0 _ e _ hb]; rfl, pres_setRes hF hl⟩
    · exact ⟨w, .inr ⟨rfl, rfl⟩, st1, hr0, hT, hb, .refl _ _ _⟩
  obtain ⟨v', w2, lim', os', hT2, hA, st3, hr2, hP2⟩ := appendStr_sound (ty := t) st2 ht hu hz hc1 hb1 sb hr1 (by rw [hsz] at hlen; exact hlen) hT1
  obtain ⟨a, k, c, rfl⟩ : ∃ a k c, v = .slice a k c := by
    rcases hT1 with h | ⟨g, k, c, _, h, _⟩
    · exact ⟨_, _, _, h⟩
    · exact ⟨_, _, _, h⟩
  obtain ⟨a', k', c', rfl⟩ : ∃ a k c, v' = .slice a k c := by
    rcases hT2 with h | ⟨g, k, c, _, h, _⟩
    · exact ⟨_, _, _, h⟩
    · exact ⟨_, _, _, h⟩
  obtain ⟨hb2, hl2⟩ := hP2.res b (.inr rfl)
  rw [hb1'] at hb2
  rw [hl] at hl2
  have hos' : ∀ c ∈ os', c ≠ b := fun c hc e1 => by
    obtain ⟨os, om, ow, s⟩ := st3
    have := (s.free c (by rw [s.ownF.2 c hc]; simp)).1
    exact this (.inr e1)
  refine (hrun b sb w w1 w2 p a k c a' k' c' hb hw1 hA hb2).mono fun e1 w3 ⟨he, hw3⟩ => ?_
  subst he; subst hw3
  have hb3 : (w2.setCell ⟨b, 1, none⟩ (.slice a' k' c')).heap[b]? = some (.cells #[.pointer (some ⟨b, 0, none⟩), .slice a' k' c'] e (0, 0)) := by rw [heap_setCell_same _ b 1 _ e _ hb2]; rfl
  refine ⟨_, _, lim', _, [], rfl, hK, ?_, (st3.setRes (.inr rfl) hl2).putBld hF hl2 hb3 (.inr rfl) (rep_setRes hr2 hl2 hos') (row_setRes hT2 hos'), (hP1.trans (hP2.weaken fun c hc => .inl hc)).trans (pres_setRes hF hl2)⟩
  have := Rep.tuple (w := w2.setCell ⟨b, 1, none⟩ (.slice a' k' c')) (lim := lim') #[.int .i64 sb.size, .nilIface] [.int .i64 (sb.data.toList.length : Int), .nilIface] (fun _ => []) rfl (fun i hi => by
    match i, hi with
    | 0, _ =>
      rw [hsz]
      exact .int _ _ (by show (-9223372036854775808 : Int) ≤ _; omega) (by show _ ≤ (9223372036854775807 : Int); omega)
    | 1, _ => exact .nilIface)
  exact this
end
end Go.Aw
end
section
namespace Go.Aw
open Go
section
variable {P : Program} {F : Nat → Prop} {lim : Nat → Nat} {w : World} {n : Nat} {fr : Fr} {m : AMem} {ca : Act} {fl : List Nat}
theorem heap_freeze_other (w : World) (a : Addr) (k c : Nat) (h : c ≠ a.block) : (w.freeze a k).heap[c]? = w.heap[c]? := by
  unfold World.freeze
  split
  · rfl
  · simp only [Array.getElem?_modify]
    rw [if_neg (fun e => h e.symm)]
theorem cell_freeze (w : World) (a : Addr) (k b o : Nat) : (w.freeze a k).cell? ⟨b, o, none⟩ = w.cell? ⟨b, o, none⟩ := by
  by_cases h : b = a.block
  · subst h
    unfold World.freeze
    split
    · rfl
    · simp only [World.cell?, Array.getElem?_modify, if_true]
      cases w.heap[a.block]? with
      | none => rfl
      | some ob => cases ob <;> rfl
  · simp [World.cell?, heap_freeze_other w a k b h]
theorem row_bytes {g k c : Nat} {l : List UInt8} {os : List Nat} (hr : Rep w lim (.slice (some ⟨g, 0, none⟩) k c) (.slice true (l.map byteAV)) os) (h0 : l ≠ []) :
    k = l.length ∧ c ≠ 0 ∧ (∃ cur e, w.heap[g]? = some (.cells cur e (0, 0)) ∧ l.length ≤ cur.size) ∧ (∀ j x, l[j]? = some x → w.cell? ⟨g, j, none⟩ = some (.int .u8 x.toNat)) ∧ l.length ≤ 140737488355328 := by
  have hpos : 0 < l.length := List.length_pos_iff.2 h0
  have hg0 : ∀ a, a < l.length → (l.map byteAV).getD a .junk = byteAV (l.getD a 0) := fun a ha => by simp [List.getD_eq_getElem?_getD, List.getElem?_eq_getElem ha]
  generalize hll : l.map byteAV = ll at hr
  cases hr with
  | own b cnt cap sz l' cv cur e' h1 h2 h3 h4 h5 h6 h7 h8 h9 h10 h11 =>
    subst hll
    obtain rfl : l.length = k := by simpa using h1
    have hsz : sz = 1 := by rw [← h8 0 hpos, hg0 0 hpos]; rfl
    subst hsz
    refine ⟨rfl, by omega, ⟨cur, e', h6, by omega⟩, fun j x hx => ?_, h4⟩
    have hj : j < l.length := by
      rcases Nat.lt_or_ge j l.length with h | h
      · exact h
      · rw [List.getElem?_eq_none h] at hx; cases hx
    have q1 := h10 j 0 hj (by omega)
    have q2 := h11 j 0 hj (by omega)
    rw [hg0 j hj, byte_cells] at q2
    simp only [Nat.mul_one, Nat.add_zero] at q1
    have hgx : l.getD j 0 = x := by simp [List.getD_eq_getElem?_getD, hx]
    rw [hgx] at q2
    have q3 : Rep w lim (cv j 0) (.int .u8 x.toNat) [] := q2
    generalize cv j 0 = vv at q1 q3
    cases q3
    exact q1
theorem St.putJunk {b : Nat} {e : TypeId} {p v : Value} (st : St (fun c => F c ∨ c = b) lim w n fr (m.upd b none) ca []) (hF : ¬ F b) (hl : lim b = 0) (hb : w.heap[b]? = some (.cells #[p, v] e (0, 0))) : St F lim w n fr (m.upd b (some (.cells [.junk, .junk]))) ca [] := by
  obtain ⟨os, om, ow, s⟩ := st
  have hlt : b < w.heap.size := by
    rcases Nat.lt_or_ge b w.heap.size with h | h
    · exact h
    · rw [Array.getElem?_eq_none h] at hb; cases hb
  have hup : ∀ (c : Nat) (x : Option AObj), c ≠ b → (m.upd b x) c = m c := fun c x h => by simp only [AMem.upd, if_neg h]
  refine ⟨os, fun c => if c = b then (fun _ => []) else om c, ow, s.size, s.defers, s.slots, fun c o h => ?_, s.ownS, fun c o h i => ?_, s.ownF, fun c hc => ?_, fun c hc => ?_⟩
  · by_cases e1 : c = b
    · subst e1
      simp only [AMem.upd, if_true] at h
      obtain rfl := Option.some.inj h
      refine ⟨?_, hl, hF⟩
      simp only [if_true]
      refine .cells _ e _ _ hb rfl fun i hi => ?_
      match i, hi with
      | 0, _ => exact .junk _
      | 1, _ => exact .junk _
    · rw [hup c _ e1] at h
      simp only [if_neg e1]
      have := s.mem c o (by rw [hup c _ e1]; exact h)
      exact ⟨this.1, this.2.1, fun hh => this.2.2 (.inl hh)⟩
  · by_cases e1 : c = b
    · simp [e1]
    · rw [hup c _ e1] at h
      simp only [if_neg e1]
      exact s.ownM c o (by rw [hup c _ e1]; exact h) i
  · have := s.free c hc
    have e1 : c ≠ b := fun e => this.1 (.inr e)
    refine ⟨fun hh => this.1 (.inl hh), ?_, this.2.2⟩
    rw [hup c _ e1]
    have h2 := this.2.1
    rwa [hup c _ e1] at h2
  · have := s.fresh c hc
    refine ⟨this.1, fun hh => this.2.1 (.inl hh), ?_⟩
    have e1 : c ≠ b := by omega
    rw [hup c _ e1]
    have h2 := this.2.2
    rwa [hup c _ e1] at h2
theorem St.drew (st : St F lim w n fr m ca fl) : St F lim w.drew n fr m ca fl := st.heap rfl
set_option maxHeartbeats 1000000 in
theorem bld_string {f : FuncId} {e eb : TypeId} (hf : ∃ fn, P.funcs[f]? = some fn ∧ fn.body.isSome = true ∧ (fn.name == "runtime.NumGoroutine") = false)
    (hrun : ∀ (b g c : Nat) (p : Value) (cur : Array Value) (l : List UInt8) (w : World), l ≠ [] → c ≠ 0 → l.length ≤ 9223372036854775807 → w.heap[b]? = some (.cells #[p, .slice (some ⟨g, 0, none⟩) l.length c] e (0, 0)) →
      w.heap[g]? = some (.cells cur eb (0, 0)) → l.length ≤ cur.size → (∀ j x, l[j]? = some x → w.cell? ⟨g, j, none⟩ = some (.int .u8 x.toNat)) →
      Calls P f #[.pointer (some ⟨b, 0, none⟩)] w fun e w' => e = .returned (.string ⟨l.toArray⟩) ∧ w' = w.drew.freeze ⟨g, 0, none⟩ l.length)
    (hnil : ∀ (b : Nat) (p : Value) (w : World), w.heap[b]? = some (.cells #[p, .slice none 0 0] e (0, 0)) → Calls P f #[.pointer (some ⟨b, 0, none⟩)] w fun e w' => e = .returned (.string ⟨#[]⟩) ∧ w' = w.drew)
    {b : Nat} {l : List UInt8} {K : AV → AMem → Prop} (hm : m b = some (.bld e eb (l.map byteAV))) (hK : K (.str l) (m.upd b (some (.cells [.junk, .junk])))) : ACalls P f [.ptr ⟨b, 0, none⟩] m K := by
  refine ⟨hf, fun F lim w cargs hs hr st => ?_⟩
  obtain ⟨x, rfl⟩ := one_arg hs
  have r0 : Rep w lim x (.ptr ⟨b, 0, none⟩) [] := hr 0 (by simp)
  cases r0
  obtain ⟨p, v, os, hF, hl, hb, hp, hr0, hT, hos, _, st1⟩ := st.takeBld hm
  rcases hT with rfl | ⟨g, k, c, cur, rfl, hg, hne, hgh⟩
  · have hl0 : l = [] := by
      generalize hll : l.map byteAV = ll at hr0
      cases hr0
      simpa using hll
    subst hl0
    refine (hnil b p w hb).mono fun e1 w3 ⟨he, hw3⟩ => ?_
    subst he; subst hw3
    exact ⟨_, _, lim, _, [], rfl, hK, .str ⟨#[]⟩ (Nat.zero_le _), ((st1.drew).weakF fun c hc => hc.elim .inl fun h => .inr (.inl h)).putJunk hF hl hb, .drew _ _ _⟩
  · have h0 : l ≠ [] := fun h => hne (by rw [h]; rfl)
    obtain ⟨rfl, hc0, ⟨cur', e', hg2, hle⟩, hcell, hlen⟩ := row_bytes hr0 h0
    have hcur : cur' = cur := by
      rw [hgh] at hg2
      simp only [Option.some.injEq, Obj.cells.injEq] at hg2
      exact hg2.1.symm
    subst hcur
    obtain ⟨hFg, hmg, hgb⟩ := hos g hg
    refine (hrun b g c p cur' l w h0 hc0 (by omega) hb hgh hle hcell).mono fun e1 w3 ⟨he, hw3⟩ => ?_
    subst he; subst hw3
    have hf : ∀ c, w.heap.size ≤ c → lim c = 0 := fun c hc => by
      obtain ⟨os, om, ow, s⟩ := st1
      exact (s.fresh c hc).1
    have hsz : (w.drew.freeze ⟨g, 0, none⟩ l.length).heap.size = w.heap.size := by
      unfold World.freeze
      split
      · rfl
      · simp [heap_drew]
    have hoth : ∀ c, c ≠ g → (w.drew.freeze ⟨g, 0, none⟩ l.length).heap[c]? = w.heap[c]? := fun c hc => by rw [heap_freeze_other _ _ _ _ hc, heap_drew]
    have hcl : ∀ b o, (w.drew.freeze ⟨g, 0, none⟩ l.length).cell? ⟨b, o, none⟩ = w.cell? ⟨b, o, none⟩ := fun b o => by rw [cell_freeze]; simp [World.cell?, heap_drew]
    have st3 : St (fun c => F c ∨ c = b ∨ c ∈ os) lim (w.drew.freeze ⟨g, 0, none⟩ l.length) 0 [] (m.upd b none) noAct [] := by
      refine st1.world (by rw [hsz]; exact Nat.le_refl _) (fun _ => Nat.le_refl _) (fun b o _ => hcl b o) (fun c hc => ?_) (fun c hc => ?_) (fun c hc => hf c (by rw [← hsz]; exact hc))
      · by_cases e1 : c = g
        · subst e1; exact .inl fun h => h.1 (.inr (.inr hg))
        · exact .inr ⟨hoth c e1, rfl⟩
      · have e1 : c ≠ g := fun e1 => by
          subst e1
          apply hc
          simp only [AMem.upd, if_neg hgb]
          exact hmg
        exact ⟨hoth c e1, rfl⟩
    refine ⟨_, _, lim, _, [], rfl, hK, ?_, (st3.weakF fun c hc => hc.elim .inl fun h => .inr (.inl h)).putJunk hF hl (by rw [hoth b (Ne.symm hgb)]; exact hb), ?_⟩
    · have := Rep.str (w := w.drew.freeze ⟨g, 0, none⟩ l.length) (lim := lim) ⟨l.toArray⟩ (by rw [show (⟨l.toArray⟩ : ByteArray).size = l.length from rfl]; exact hlen)
      exact this
    · refine ⟨?_, ?_, ?_, by rw [hsz]; exact Nat.le_refl _, fun c hc => ⟨hoth c (fun e1 => hFg (e1 ▸ hc)), rfl⟩, fun _ => Nat.le_refl _, fun b o _ => hcl b o⟩
      all_goals (unfold World.freeze; split <;> rfl)
theorem alloc_bld {ops : Array Oper} {l : List Oper} {K : Fr → AMem → Prop} {d : Nat} {t eb : TypeId} {ty : TypeId} {pos : String} {af : Array Edge} {i : TypeInfo} (hi : P.info? t = some i) (hz : i.zero = some (.agg #[.pointer none, .slice none 0 0]))
    (hk : okOper n ⟨some d, .alloc t, ty, pos, af, none⟩ = true) (h : ∀ b, m b = none → AOps P n ops l K (fr.put d (.ptr ⟨b, 0, none⟩)) (m.upd b (some (.bld t eb [])))) : AOps P n ops (⟨some d, .alloc t, ty, pos, af, none⟩ :: l) K fr m := by
  refine AOps.step rfl fun F lim w ca st next Q hn => ?_
  have hrun : (execOp ca.eval ⟨some d, .alloc t, ty, pos, af, none⟩).run P w = .ok (.value (.pointer (some ⟨w.heap.size, 0, none⟩))) (w.alloc (.cells #[.pointer none, .slice none 0 0] t)) := by
    simp [execOp, Instr.alloc, newVar, newRow, zeroValue, typeInfo, hi, hz, Value.cells]
  obtain ⟨h1, h2⟩ := st.allocMem #[.pointer none, .slice none 0 0] t [.nilptr, .slice true []] rfl (fun i hi => by
    match i, hi with
    | 0, _ => exact .nilptr
    | 1, _ => exact .nils true)
  have hnb : w.heap[w.heap.size]? = none := by simp
  have st2 : St F lim (w.alloc (.cells #[.pointer none, .slice none 0 0] t)) n fr (m.upd w.heap.size (some (.bld t eb []))) ca [] := by
    obtain ⟨os, om, ow, s⟩ := h2
    have hup : ∀ (c : Nat) (x : Option AObj), c ≠ w.heap.size → (m.upd w.heap.size x) c = m c := fun c x h => by simp only [AMem.upd, if_neg h]
    refine ⟨os, fun c => if c = w.heap.size then (fun _ => []) else om c, ow, s.size, s.defers, s.slots, fun c o h => ?_, s.ownS, fun c o h i => ?_, s.ownF, fun c hc => ?_, fun c hc => ?_⟩
    · by_cases e1 : c = w.heap.size
      · subst e1
        simp only [AMem.upd, if_true] at h
        obtain rfl := Option.some.inj h
        have := s.mem w.heap.size (.cells [.nilptr, .slice true []]) (by simp only [AMem.upd, if_true])
        refine ⟨?_, this.2⟩
        simp only [if_true]
        exact .bld _ _ _ _ _ _ (heapNew w _) (.inl rfl) (.nils true) (.inl rfl)
      · rw [hup c _ e1] at h
        simp only [if_neg e1]
        exact s.mem c o (by rw [hup c _ e1]; exact h)
    · by_cases e1 : c = w.heap.size
      · simp [e1]
      · rw [hup c _ e1] at h
        simp only [if_neg e1]
        exact s.ownM c o (by rw [hup c _ e1]; exact h) i
    · have := s.free c hc
      refine ⟨this.1, ?_, this.2.2⟩
      have e1 : c ≠ w.heap.size := fun e1 => by
        have h2 := this.2.1
        rw [e1] at h2
        simp [AMem.upd] at h2
      rw [hup c _ e1]
      have h2 := this.2.1
      rwa [hup c _ e1] at h2
    · have := s.fresh c hc
      refine ⟨this.1, this.2.1, ?_⟩
      have e1 : c ≠ w.heap.size := fun e1 => by
        have h2 := this.2.2
        rw [e1] at h2
        simp [AMem.upd] at h2
      rw [hup c _ e1]
      have h2 := this.2.2
      rwa [hup c _ e1] at h2
  have hP := pres_new st (.cells #[.pointer none, .slice none 0 0] t)
  exact wp_of_value hrun (hn lim _ _ _ _ (h _ h1) (st2.set (okOper_dst hk rfl) (.ptr _)) hP)
end
end Go.Aw
end
section
namespace Go.Sx
open Go Go.Aw
section
variable {c : Cfg} {L : List SObj} {fr : SFr} {m : AMem}
theorem nb {P : Program} {b0 : List Nat} {d : Nat} {t eb : TypeId} {i : TypeInfo} {k : SK} (hi : P.info? t = some i) (hz : i.zero = some (.agg #[.pointer none, .slice none 0 0])) (hs : (scF L.length fr && scM L.length L) = true)
    (h : k ((d, .loc L.length 0) :: fr) (L ++ [.obj (.bld t eb [])]) m) : SOp P b0 (some d) (.alloc t) fr L m k :=
  ⟨fun new g n ops ty pos af l K hk hn hK => alloc_bld (eb := eb) hi hz hk fun b hb => by
    simp only [Bool.and_eq_true] at hs
    have hn : newK fr L (.obj (.bld t eb [])) (fun b L' => k ((d, .loc b 0) :: fr) L' m) := chk_iff.2 ⟨hs.1, chk_iff.2 ⟨hs.2, h⟩⟩
    obtain ⟨h, g', e1, e2, e3, _⟩ := newK_sound g hn hb
    have := hK _ _ _ (b0 ++ new ++ [b]) (by rw [List.append_assoc]; exact List.prefix_append _ _) g' h
    rw [e1] at this
    simp only [denF, denO, den, e3] at this
    rw [e2] at this
    exact this⟩
theorem callT {b0 : List Nat} {P : Program} {f : FuncId} {vs : List SV} {Q : SV → List SObj → AMem → Prop} (is : List Nat) (os : List SObj) (y : SV) (hi : (isOk L.length is && Nat.beq is.length os.length) = true)
    (h : ∀ bs (mm : AMem), Gd (blks bs is) mm → (∀ b o, m b = some o → mm b = some o) → ∀ (K : AV → AMem → Prop), K (den bs y) (mm.wth (pk bs is os)) → ACalls P f (denL bs vs) (mm.wth (pk bs is (getL L is))) K) (hQ : Q y (setL L is os) m) : SCall P b0 f vs fr L m Q := by
  simp only [Bool.and_eq_true] at hi
  refine ⟨y, setL L is os, m, fun new g K hK => ?_, by rw [setL_len, Nat.beq_refl]; rfl, hQ⟩
  have hN := blks_nodup g.nd (by rw [g.len]; exact hi.1)
  have e1 := mem_pk g hi.1 (getL_len L is).symm
  rw [setL_get_self hi.1] at e1
  rw [e1]
  refine h (b0 ++ new) _ ⟨hN, fun b hb => by simp [restM, hb]⟩ (fun b o hb => ?_) K ?_
  · have h1 : b ∉ b0 ++ new := fun hm => by rw [g.fresh b hm] at hb; cases hb
    have h2 : b ∉ blks (b0 ++ new) is := fun hm => by
      obtain ⟨i, hi2, e⟩ := blks_mem hm
      have hlt := (isOk_lt hi.1).1 i hi2
      rw [← g.len] at hlt
      apply h1
      rw [e, List.getD_eq_getElem?_getD, List.getElem?_eq_getElem hlt]
      exact List.getElem_mem _
    simp only [restM, if_neg h2, memD]
    rw [wth_other (by rw [denM_fst g.len]; exact h1)]
    exact hb
  · have := hK [] (by rw [List.append_nil]; exact ⟨g.nd, by rw [setL_len]; exact g.len, g.fresh⟩)
    rw [List.append_nil, mem_pk g hi.1 (Nat.eq_of_beq_eq_true hi.2)] at this
    exact this
end
end Go.Sx
namespace Go.Aw
open Go
section
variable {P : Program} {F : Nat → Prop} {lim : Nat → Nat} {w : World} {n : Nat} {fr : Fr} {m : AMem} {ca : Act} {fl : List Nat}
theorem St.grow (st : St F lim w n fr m ca fl) (os : Array Obj) (k : Nat) : St F lim (Sort.grow (w.drewN k) os) n fr m ca fl := by
  have hh : (w.drewN k).heap = w.heap := by simp
  have hl : ∀ c, c < w.heap.size → (Sort.grow (w.drewN k) os).heap[c]? = w.heap[c]? := fun c hc => by
    simp only [Sort.grow, hh]
    rw [Array.getElem?_append_left hc]
  have hf : ∀ c, w.heap.size ≤ c → lim c = 0 := fun c hc => by
    obtain ⟨_, _, _, s⟩ := st
    exact (s.fresh c hc).1
  have hm : ∀ b, m b ≠ none → b < w.heap.size := fun b hb => st.lt_of_mem hb
  have hcell : ∀ b o, o < lim b → b < w.heap.size := fun b o ho => st.lt_of_lim ho
  refine st.world (by simp [Sort.grow]) (fun _ => Nat.le_refl _) (fun b o ho => by simp [World.cell?, hl b (hcell b o ho)]) (fun c hc => .inr ⟨hl c hc, rfl⟩) (fun b hb => ⟨hl b (hm b hb), rfl⟩) (fun c hc => hf c (by simp [Sort.grow] at hc; omega))
theorem pres_grow (st : St F lim w n fr m ca fl) (os : Array Obj) (k : Nat) : Pres F w lim (Sort.grow (w.drewN k) os) lim := by
  have hh : (w.drewN k).heap = w.heap := by simp
  have hl : ∀ c, c < w.heap.size → (Sort.grow (w.drewN k) os).heap[c]? = w.heap[c]? := fun c hc => by
    simp only [Sort.grow, hh]
    rw [Array.getElem?_append_left hc]
  refine ⟨rfl, rfl, rfl, by simp [Sort.grow], fun b hb => ⟨hl b (st.lt_of_F hb), rfl⟩, fun _ => Nat.le_refl _, fun b o ho => by simp [World.cell?, hl b (st.lt_of_lim ho)]⟩
def tabObj (e : TypeId) (z : Nat × Nat) (k : IntKind) (zs : List Int) : AObj := .tab e z (zs.map (Value.int k)).toArray
theorem tab_var {e : TypeId} {z : Nat × Nat} {k : IntKind} {zs : List Int} {b : Nat} {os : Nat → List Nat} {name : String} (h : MRep w lim b (tabObj e z k zs) os) (hg : P.globalNamed name = some b) : Lib.TabIs P w name k zs := by
  unfold tabObj at h
  cases h with
  | tab _ _ _ _ hb => simp only [Lib.TabIs, World.var?, hg, Option.bind_some, hb]
theorem itoa_calls {f : FuncId} {name : String} {bT : Nat} {e : TypeId} {z : Nat × Nat} (hf : ∃ fn, P.funcs[f]? = some fn ∧ fn.body.isSome = true ∧ (fn.name == "runtime.NumGoroutine") = false) (hg : P.globalNamed name = some bT)
    (hrun : ∀ (n : Int), -9223372036854775808 ≤ n → n ≤ 9223372036854775807 → ∀ w, Lib.TabIs P w name .u64 Lib.pow10Tab → Calls P f #[.int .i64 n] w fun e w' => e = .returned (.string ⟨(Lib.itoa n).toArray⟩) ∧ ∃ k os, w' = Sort.grow (w.drewN k) os)
    {n : Int} {K : AV → AMem → Prop} (hm : m bT = some (tabObj e z .u64 Lib.pow10Tab)) (hlen : (Lib.itoa n).length ≤ 140737488355328) (hK : K (.str (Lib.itoa n)) m) : ACalls P f [.int .i64 n] m K := by
  refine ⟨hf, fun F lim w cargs hs hr st => ?_⟩
  obtain ⟨x, rfl⟩ := one_arg hs
  have r0 : Rep w lim x (.int .i64 n) [] := hr 0 (by simp)
  obtain ⟨rfl, lo, hi⟩ : x = .int .i64 n ∧ -9223372036854775808 ≤ n ∧ n ≤ 9223372036854775807 := by
    cases r0 with
    | int _ _ lo hi => exact ⟨rfl, lo, hi⟩
  have htab : Lib.TabIs P w name .u64 Lib.pow10Tab := by
    obtain ⟨os, om, ow, s⟩ := st
    exact tab_var (s.mem bT _ hm).1 hg
  refine (hrun n lo hi w htab).mono fun e1 w3 ⟨he, k, os, hw3⟩ => ?_
  subst he; subst hw3
  exact ⟨_, _, lim, _, [], rfl, hK, .str ⟨(Lib.itoa n).toArray⟩ (by rw [show (⟨(Lib.itoa n).toArray⟩ : ByteArray).size = (Lib.itoa n).length from rfl]; exact hlen), st.grow os k, pres_grow st os k⟩
end
end Go.Aw
end
section
namespace Go.Aw
open Go
inductive OkT : AV → Prop
  | bool (b : Bool) : OkT (.bool b)
  | int (k : IntKind) (n : Int) (h : k ≠ .u64) : OkT (.int k n)
  | str (s : List UInt8) : OkT (.str s)
  | slice (l : List AV) (h1 : ∀ x ∈ l, x.cells ≠ []) (h : ∀ x ∈ l, ∀ y ∈ x.cells, OkT y) : OkT (.slice false l)
  | agg (l : List AV) (h : ∀ y ∈ l, OkT y) : OkT (.agg l)
theorem okT_u64 {w : World} {lim : Nat → Nat} {n : Int} {x : AV} {os : List Nat} (h : Rep w lim (.int .u64 n) x os) (hx : OkT x) : False := by
  cases hx with
  | bool b => cases h
  | int k m hk =>
    cases h with
    | int => exact hk rfl
  | str s => cases h
  | slice l hl1 hl => cases h
  | agg l hl => cases h
theorem rep_offT {w : World} {lim lim' : Nat → Nat} {bT : Nat} (hc : ∀ o v, w.cell? ⟨bT, o, none⟩ = some v → ∃ n, v = .int .u64 n) (hl : ∀ b, b ≠ bT → lim' b = lim b) {v : Value} {x : AV} {os : List Nat} (h : Rep w lim v x os) : OkT x → Rep w lim' v x os := by
  induction h with
  | bool b => exact fun _ => .bool b
  | int k n lo hi => exact fun _ => .int k n lo hi
  | str s h => exact fun _ => .str s h
  | nils own => exact fun _ => .nils own
  | empty a cap hm => exact fun _ => .empty a cap hm
  | slice b off n cap sz l cv hn hcap hm hbig hsz hlim hcc hr ih =>
    intro hx
    cases hx with
    | slice _ hl1 hl2 =>
      rcases Nat.eq_zero_or_pos n with h0 | h0
      · subst h0
        have : l = [] := List.eq_nil_of_length_eq_zero hn
        subst this
        exact .empty _ _ hm
      · have hmem : ∀ i, i < n → l.getD i .junk ∈ l := fun i hi => by simp [List.getD_eq_getElem?_getD, show i < l.length by omega]
        have gm : ∀ (L : List AV) (j : Nat), j < L.length → L.getD j .junk ∈ L := fun L j hj => by
          rw [List.getD_eq_getElem?_getD, List.getElem?_eq_getElem hj]; exact List.getElem_mem _
        have hok : ∀ i j, i < n → j < sz → OkT ((l.getD i .junk).cells.getD j .junk) := fun i j hi hj => hl2 _ (hmem i hi) _ (gm _ j (by rw [hsz i hi]; exact hj))
        have hs0 : 0 < sz := by
          rw [← hsz 0 h0]; exact List.length_pos_iff.2 (hl1 _ (hmem 0 h0))
        have hb : b ≠ bT := fun e => by
          subst e
          obtain ⟨k, hk⟩ := hc _ _ (hcc 0 0 h0 hs0)
          have := hr 0 0 h0 hs0
          rw [hk] at this
          exact okT_u64 this (hok 0 0 h0 hs0)
        exact .slice b off n cap sz l cv hn hcap hm hbig hsz (by rw [hl b hb]; exact hlim) hcc fun i j hi hj => ih i j hi hj (hok i j hi hj)
  | agg cs xs os h hr ih =>
    intro hx
    cases hx with
    | agg _ hl2 =>
      exact .agg cs xs os h fun i hi => ih i hi (hl2 _ (by
        rw [List.getD_eq_getElem?_getD, List.getElem?_eq_getElem hi]
        exact List.getElem_mem _))
  | _ => intro hx; cases hx
section
variable {P : Program}
theorem law_trueT {f : FuncId} {avs : List AV} {cargs : Array Value} {bT : Nat} {zs : List Int} {e : TypeId} {z : Nat × Nat} {W : World} (h : ACalls P f avs (AMem.upd (fun _ => none) bT (some (tabObj e z .u64 zs))) (fun x m' => x = .bool true ∧ m' bT = some (tabObj e z .u64 zs))) (hs : cargs.size = avs.length)
    (hT : W.heap[bT]? = some (.cells (zs.map (Value.int .u64)).toArray e z))
    (hr : ∀ i, i < avs.length → Rep W (limOf W) (cargs.getD i undef) (avs.getD i .junk) []) (ho : ∀ x ∈ avs, OkT x) :
    Calls P f cargs W fun e W' => e = .returned (.bool true) ∧ RowKit.Below W.heap.size W W' := by
  have hlt : bT < W.heap.size := by
    rcases Nat.lt_or_ge bT W.heap.size with h | h
    · exact h
    · rw [Array.getElem?_eq_none h] at hT; cases hT
  have hc : ∀ o v, W.cell? ⟨bT, o, none⟩ = some v → ∃ n, v = .int .u64 n := fun o v hv => by
    simp only [World.cell?, hT] at hv
    have := Array.mem_of_getElem? hv
    simp only [List.mem_toArray, List.mem_map] at this
    obtain ⟨z, _, rfl⟩ := this
    exact ⟨z, rfl⟩
  have st : St (fun b => b < W.heap.size ∧ b ≠ bT) (fun b => if b = bT then 0 else limOf W b) W 0 [] (AMem.upd (fun _ => none) bT (some (tabObj e z .u64 zs))) noAct [] := by
    refine ⟨fun _ => [], fun _ _ => [], fun _ => .none, rfl, rfl, fun t x hx => by simp [Fr.get] at hx, fun b o h => ?_, fun t x hx => by simp [Fr.get] at hx, fun b o h i => ⟨List.nodup_nil, fun c hc => by cases hc⟩, by simp, fun c h => absurd rfl h, fun b hb => ?_⟩
    · by_cases e1 : b = bT
      · subst e1
        simp only [AMem.upd, if_true] at h
        obtain rfl := Option.some.inj h
        exact ⟨.tab e _ _ _ hT, by simp, fun hh => hh.2 rfl⟩
      · simp only [AMem.upd, if_neg e1] at h; cases h
    · have e1 : b ≠ bT := by omega
      have : W.heap[b]? = none := by simpa using hb
      exact ⟨by simp [e1, limOf, this], fun hh => by omega, by simp [AMem.upd, e1]⟩
  refine (h.2 _ _ W cargs hs (fun i hi => rep_offT hc (fun b hb => by simp [hb]) (hr i hi) (ho _ (by rw [List.getD_eq_getElem?_getD, List.getElem?_eq_getElem hi]; exact List.getElem_mem _))) st).mono fun e W' ⟨v, x, lim', m', os, he, hK, hx, hst, hp⟩ => ?_
  obtain ⟨hK, hm⟩ := hK
  subst hK
  cases hx
  refine ⟨he, hp.os, hp.tape, hp.output, hp.size, fun k hk => ?_⟩
  by_cases hb : k = bT
  · subst hb
    obtain ⟨_, _, _, s⟩ := hst
    have := (s.mem k _ hm).1
    unfold tabObj at this
    cases this with
    | tab _ _ _ _ hb => rw [hb, hT]
  · exact (hp.res k ⟨hk, hb⟩).1
end
end Go.Aw
end
section
namespace Go.Sx
open Go Go.Aw
def MLe (m' m : AMem) : Prop := ∀ b o', m' b = some o' → ∃ o, m b = some o ∧ (o' = o ∨ ∃ l l', o = .cells l ∧ o' = .cells l' ∧ l'.length = l.length ∧ ∀ i, LeV (l'.getD i .junk) (l.getD i .junk))
section
variable {P : Program} {F : Nat → Prop} {lim : Nat → Nat} {w : World} {n : Nat} {fr : Fr} {m m' : AMem} {ca : Act} {fl : List Nat}
theorem St.lessM (st : Aw.St F lim w n fr m ca fl) (hs : MLe m' m) : Aw.St F lim w n fr m' ca fl := by
  classical
  obtain ⟨os, om, ow, h⟩ := st
  let p : Nat → Nat → Prop := fun b i => m' b = m b ∨ ∃ l l', m b = some (.cells l) ∧ m' b = some (.cells l') ∧ l'.getD i .junk = l.getD i .junk
  have hn : ∀ b, m b = none → m' b = none := fun b hb => by
    cases hb' : m' b with
    | none => rfl
    | some o => obtain ⟨o2, h2, _⟩ := hs b o hb'; rw [hb] at h2; cases h2
  refine ⟨os, fun b i => if p b i then om b i else [], ow, h.size, h.defers, h.slots, fun b o' hb => ?_, h.ownS, fun b o' hb i => ?_, h.ownF, fun c hc => ⟨(h.free c hc).1, hn c (h.free c hc).2.1, (h.free c hc).2.2⟩, fun b hb => ⟨(h.fresh b hb).1, (h.fresh b hb).2.1, hn b (h.fresh b hb).2.2⟩⟩
  · obtain ⟨o, ho, hr⟩ := hs b o' hb
    obtain ⟨hM, h2, h3⟩ := h.mem b o ho
    refine ⟨?_, h2, h3⟩
    rcases hr with rfl | ⟨l, l', rfl, rfl, hlen, hle⟩
    · have : (fun i => if p b i then om b i else []) = om b := by
        funext i
        exact if_pos (.inl (hb.trans ho.symm))
      rw [this]; exact hM
    · cases hM with
      | cells cs e _ _ hbk hsz hrr =>
        refine .cells cs e l' _ hbk (hsz.trans hlen.symm) fun i hi => ?_
        have hi' : i < l.length := hlen ▸ hi
        by_cases hp : p b i
        · rw [if_pos hp]
          have e : l'.getD i .junk = l.getD i .junk := by
            rcases hp with hp | ⟨a, a', h4, h5, h6⟩
            · rw [hb, ho] at hp
              simp only [Option.some.injEq, AObj.cells.injEq] at hp
              rw [hp]
            · rw [ho] at h4; rw [hb] at h5
              simp only [Option.some.injEq, AObj.cells.injEq] at h4 h5
              rw [h4, h5]; exact h6
          rw [e]; exact hrr i hi'
        · rw [if_neg hp]
          rcases hle i with e | e
          · exact absurd (.inr ⟨l, l', ho, hb, e⟩) hp
          · exact e _ _ _ _ (hrr i hi')
  · obtain ⟨o, ho, _⟩ := hs b o' hb
    show (if p b i then om b i else []).Nodup ∧ ∀ c ∈ (if p b i then om b i else []), _
    split
    · exact h.ownM b o ho i
    · exact ⟨List.nodup_nil, fun c hc => by cases hc⟩
end
section
variable {P : Program} {n : Nat} {fr : Fr} {m m' : AMem} {ops : Array Oper} {l : List Oper} {K : Fr → AMem → Prop}
theorem AOps.lessM (hs : MLe m' m) (h : AOps P n ops l K fr m') : AOps P n ops l K fr m := fun F lim w ca Q st hq => h F lim w ca Q (St.lessM st hs) hq
theorem AWP.lessM {c : Code} {Q : Exit → Fr → AMem → Prop} (hs : MLe m' m) (h : AWP P n c Q fr m') : AWP P n c Q fr m := fun F lim w ca st => h F lim w ca (St.lessM st hs)
end
theorem LeV.junk (x : AV) : LeV .junk x := .inr fun _ _ _ _ _ => .junk _
theorem LeV.nils : LeV .nils (.slice true []) := .inr fun w lim v os h => by
  generalize hx : AV.slice true [] = x at h
  cases h with
  | nils o => exact .nilS _
  | own b n cap sz l cv cur e hn hcap hm hbig h0 hb hcur hsz hlim hc hr =>
    cases hx
    simp only [List.length_nil] at hn
    subst hn
    rcases h0 with h0 | h0
    · omega
    · subst h0; exact .nilS _
  | _ => cases hx
mutual
def mn (i : Nat) : SV → Bool
  | .loc j _ | .ms j _ _ | .mp j | .elt j _ _ _ | .sl j _ _ _ => Nat.beq i j
  | .agg l | .tup l => mnL i l
  | .fn _ a c => bif mnL i a then true else mnL i c
  | _ => false
def mnL (i : Nat) : List SV → Bool
  | [] => false
  | v :: r => bif mn i v then true else mnL i r
end
def fgF (i : Nat) : SFr → (SFr → Prop) → Prop
  | [], k => k []
  | (t, v) :: r, k => bif mn i v then fgF i r fun r' => k ((t, .av .junk) :: r') else fgF i r fun r' => k ((t, v) :: r')
def fgC (i : Nat) : List SV → (List SV → Prop) → Prop
  | [], k => k []
  | v :: r, k => bif mn i v then fgC i r fun r' => k (.av .junk :: r') else fgC i r fun r' => k (v :: r')
def fgM (i : Nat) : List SObj → (List SObj → Prop) → Prop
  | [], k => k []
  | .cells l :: r, k => fgC i l fun l' => fgM i r fun r' => k (.cells l' :: r')
  | .obj o :: r, k => fgM i r fun r' => k (.obj o :: r')
theorem getD_set_ne {bs : List Nat} {i j b : Nat} (h : Nat.beq i j = false) : (bs.set i b).getD j 0 = bs.getD j 0 := by
  have : i ≠ j := fun e => by subst e; rw [Nat.beq_refl] at h; cases h
  simp [List.getD_eq_getElem?_getD, List.getElem?_set_ne this]
mutual
theorem mn_den {bs : List Nat} {i b : Nat} : ∀ {v : SV}, mn i v = false → den (bs.set i b) v = den bs v
  | .av _, _ => by simp only [den]
  | .own _, _ => by simp only [den]
  | .b _, _ => by simp only [den]
  | .loc j o, h => by simp only [mn] at h; simp only [den, getD_set_ne h]
  | .ms j o c, h => by simp only [mn] at h; simp only [den, getD_set_ne h]
  | .mp j, h => by simp only [mn] at h; simp only [den, getD_set_ne h]
  | .elt j k w q, h => by simp only [mn] at h; simp only [den, getD_set_ne h]
  | .sl j k w q, h => by simp only [mn] at h; simp only [den, getD_set_ne h]
  | .agg l, h => by simp only [mn] at h; simp only [den, mnL_den h]
  | .tup l, h => by simp only [mn] at h; simp only [den, mnL_den h]
  | .fn f a c, h => by
    simp only [mn] at h
    cases ha : mnL i a with
    | true => rw [ha] at h; cases h
    | false => rw [ha] at h; simp only [den, mnL_den ha, mnL_den (l := c) h]
  | .off, _ => by simp only [den]
theorem mnL_den {bs : List Nat} {i b : Nat} : ∀ {l : List SV}, mnL i l = false → denL (bs.set i b) l = denL bs l
  | [], _ => by simp only [denL]
  | v :: r, h => by
    simp only [mnL] at h
    cases hv : mn i v with
    | true => rw [hv] at h; cases h
    | false => rw [hv] at h; simp only [denL, mn_den hv, mnL_den (l := r) h]
end
theorem fgF_sound {i : Nat} : ∀ {fr : SFr} {k : SFr → Prop}, fgF i fr k → ∃ fr', k fr' ∧ ∀ bs b, Le (denF (bs.set i b) fr') (denF bs fr)
  | [], k, h => ⟨[], h, fun bs b => Le.refl _⟩
  | (t, v) :: r, k, h => by
    simp only [fgF] at h
    cases hv : mn i v with
    | true =>
      rw [hv] at h
      obtain ⟨r', h1, h2⟩ := fgF_sound (fr := r) h
      exact ⟨_, h1, fun bs b => (h2 bs b).cons t (by simp only [den, AV.plain]; exact LeV.junk _)⟩
    | false =>
      rw [hv] at h
      obtain ⟨r', h1, h2⟩ := fgF_sound (fr := r) h
      exact ⟨_, h1, fun bs b => (h2 bs b).cons t (.inl (mn_den hv))⟩
theorem fgC_sound {i : Nat} : ∀ {l : List SV} {k : List SV → Prop}, fgC i l k → ∃ l', k l' ∧ l'.length = l.length ∧ ∀ bs b q, LeV ((denL (bs.set i b) l').getD q .junk) ((denL bs l).getD q .junk)
  | [], k, h => ⟨[], h, rfl, fun bs b q => .inl rfl⟩
  | v :: r, k, h => by
    simp only [fgC] at h
    cases hv : mn i v with
    | true =>
      rw [hv] at h
      obtain ⟨r', h1, h2, h3⟩ := fgC_sound (l := r) h
      refine ⟨_, h1, by simp [h2], fun bs b q => ?_⟩
      cases q with
      | zero => simp only [denL, List.getD_cons_zero, den, AV.plain]; exact LeV.junk _
      | succ q => simp only [denL, List.getD_cons_succ]; exact h3 bs b q
    | false =>
      rw [hv] at h
      obtain ⟨r', h1, h2, h3⟩ := fgC_sound (l := r) h
      refine ⟨_, h1, by simp [h2], fun bs b q => ?_⟩
      cases q with
      | zero => simp only [denL, List.getD_cons_zero]; exact .inl (mn_den hv)
      | succ q => simp only [denL, List.getD_cons_succ]; exact h3 bs b q
def OLe (o' o : AObj) : Prop := o' = o ∨ ∃ l l', o = .cells l ∧ o' = .cells l' ∧ l'.length = l.length ∧ ∀ i, LeV (l'.getD i .junk) (l.getD i .junk)
theorem fgM_sound {i : Nat} : ∀ {L : List SObj} {k : List SObj → Prop}, fgM i L k → ∃ L', k L' ∧ L'.length = L.length ∧ ∀ bs b (q : Nat) o', L'[q]? = some o' → ∃ o, L[q]? = some o ∧ OLe (denO (bs.set i b) o') (denO bs o)
  | [], k, h => ⟨[], h, rfl, fun bs b q o' h => by simp at h⟩
  | .obj o :: r, k, h => by
    obtain ⟨r', h1, h2, h3⟩ := fgM_sound (L := r) h
    refine ⟨_, h1, by simp [h2], fun bs b q o' ho => ?_⟩
    cases q with
    | zero =>
      simp only [List.getElem?_cons_zero, Option.some.injEq] at ho
      subst ho
      exact ⟨_, rfl, .inl (by simp only [denO])⟩
    | succ q => exact h3 bs b q o' (by simpa using ho)
  | .cells l :: r, k, h => by
    simp only [fgM] at h
    obtain ⟨l', h0, e1, e2⟩ := fgC_sound h
    obtain ⟨r', h1, h2, h3⟩ := fgM_sound (L := r) h0
    refine ⟨_, h1, by simp [h2], fun bs b q o' ho => ?_⟩
    cases q with
    | zero =>
      simp only [List.getElem?_cons_zero, Option.some.injEq] at ho
      subst ho
      exact ⟨_, rfl, .inr ⟨_, _, rfl, rfl, by rw [denL_len, denL_len, e1], e2 bs b⟩⟩
    | succ q => exact h3 bs b q o' (by simpa using ho)
section
variable {bs : List Nat} {L L' : List SObj} {m : AMem}
theorem memD_get {b : Nat} (g : Good bs L m) {o : AObj} (h : memD bs L m b = some o) : (∃ (q : Nat) (x : SObj), bs[q]? = some b ∧ L[q]? = some x ∧ o = denO bs x) ∨ (b ∉ bs ∧ m b = some o) := by
  by_cases hb : b ∈ bs
  · left
    obtain ⟨q, hq⟩ := List.getElem?_of_mem hb
    have hlt : q < bs.length := by
      rcases Nat.lt_or_ge q bs.length with h | h
      · exact h
      · rw [List.getElem?_eq_none h] at hq; cases hq
    have hL : q < L.length := by rw [← g.len]; exact hlt
    have hx : L[q]? = some L[q] := List.getElem?_eq_getElem hL
    have := mem_get g hx
    have e : bs.getD q 0 = b := by rw [List.getD_eq_getElem?_getD, hq]; rfl
    rw [e, h] at this
    exact ⟨q, _, hq, hx, Option.some.inj this⟩
  · right
    rw [memD, wth_other (by rw [denM_fst g.len]; exact hb)] at h
    exact ⟨hb, h⟩
theorem nd_inj (h : bs.Nodup) {p q : Nat} {b : Nat} (hp : bs[p]? = some b) (hq : bs[q]? = some b) : p = q := by
  have l1 : p < bs.length := by
    rcases Nat.lt_or_ge p bs.length with h | h
    · exact h
    · rw [List.getElem?_eq_none h] at hp; cases hp
  have l2 : q < bs.length := by
    rcases Nat.lt_or_ge q bs.length with h | h
    · exact h
    · rw [List.getElem?_eq_none h] at hq; cases hq
  exact getD_inj h l1 l2 (by rw [List.getD_eq_getElem?_getD, List.getD_eq_getElem?_getD, hp, hq])
theorem good_set (g : Good bs L m) {i b' : Nat} (hm : m b' = none) (hb : ∀ q, q ≠ i → bs[q]? ≠ some b') (hl : L'.length = L.length) : Good (bs.set i b') L' m := by
  refine ⟨?_, by rw [List.length_set, g.len, hl], fun c hc => ?_⟩
  · rw [List.nodup_iff_pairwise_ne, List.pairwise_iff_getElem]
    intro p q hp hq hlt e'
    have e : (bs.set i b')[p]? = (bs.set i b')[q]? := by rw [List.getElem?_eq_getElem hp, List.getElem?_eq_getElem hq, e']
    clear e'
    rw [List.length_set] at hq hp
    rw [List.getElem?_set, List.getElem?_set] at e
    by_cases e1 : i = p
    · subst e1
      rw [if_pos rfl, if_pos (by omega), if_neg (by omega)] at e
      exact hb q (by omega) e.symm
    · rw [if_neg e1] at e
      by_cases e2 : i = q
      · subst e2
        rw [if_pos rfl, if_pos hq] at e
        exact hb p (by omega) e
      · rw [if_neg e2] at e
        have hp : p < bs.length := by omega
        have := nd_inj g.nd (List.getElem?_eq_getElem hp) (e ▸ List.getElem?_eq_getElem hp)
        omega
  · rcases List.mem_or_eq_of_mem_set hc with h | rfl
    · exact g.fresh c h
    · exact hm
theorem mle_set (g : Good bs L m) {i b' : Nat} {x : SObj} {o : AObj} (hi : L[i]? = some x) (hm : m b' = none) (hb : ∀ q, q ≠ i → bs[q]? ≠ some b') (hl : L'.length = L.length) (hx : ∀ bs, denO bs x = denO [] x)
    (hL : ∀ (q : Nat) o', L'[q]? = some o' → ∃ o, L[q]? = some o ∧ OLe (denO (bs.set i b') o') (denO bs o)) : MLe (memD (bs.set i b') (L'.set i (.obj o)) m) (m.wth ((b', o) :: (denM bs L).eraseIdx i)) := by
  intro b o' h
  have g' : Good (bs.set i b') (L'.set i (.obj o)) m := good_set g hm hb (by rw [List.length_set]; exact hl)
  have hD := denM_get g.len hi
  have hperm := eraseIdx_split hD
  have hW := wth_perm (m := m) g.nodup hperm
  rcases memD_get g' h with ⟨q, y, h1, h2, rfl⟩ | ⟨h1, h2⟩
  · by_cases e : i = q
    · subst e
      have hlt : i < bs.length := by
        rcases Nat.lt_or_ge i bs.length with h | h
        · exact h
        · rw [List.getElem?_eq_none (by simpa using h)] at h1; cases h1
      rw [List.getElem?_set_self hlt] at h1
      rw [List.getElem?_set_self (by rw [hl, ← g.len]; exact hlt)] at h2
      obtain rfl := Option.some.inj h1
      obtain rfl := Option.some.inj h2
      exact ⟨_, if_pos rfl, .inl rfl⟩
    · rw [List.getElem?_set_ne e] at h1 h2
      obtain ⟨z, hz, hle⟩ := hL q y h2
      have hne : b ≠ b' := fun e2 => hb q (Ne.symm e) (e2 ▸ h1)
      have hne2 : b ≠ bs.getD i 0 := fun e2 => by
        have hlt : i < bs.length := by
          rw [g.len]
          rcases Nat.lt_or_ge i L.length with h | h
          · exact h
          · rw [List.getElem?_eq_none h] at hi; cases hi
        exact e (nd_inj g.nd (by rw [e2, List.getD_eq_getElem?_getD, List.getElem?_eq_getElem hlt]; rfl) h1)
      have hg := mem_get g hz
      have e3 : bs.getD q 0 = b := by rw [List.getD_eq_getElem?_getD, h1]; rfl
      rw [e3, memD, hW] at hg
      have : m.wth ((denM bs L).eraseIdx i) b = some (denO bs z) := by
        have h4 : (if b = bs.getD i 0 then some (denO bs x) else m.wth ((denM bs L).eraseIdx i) b) = some (denO bs z) := hg
        rwa [if_neg hne2] at h4
      exact ⟨_, (if_neg hne).trans this, hle⟩
  · have hnb : b ≠ b' := fun e => by rw [e, hm] at h2; cases h2
    have hbs : b ∉ bs := fun hmem => by
      rw [g.fresh b hmem] at h2; cases h2
    refine ⟨o', (if_neg hnb).trans ?_, .inl rfl⟩
    rw [wth_other]
    · exact h2
    · intro hmem
      have hsub : ((denM bs L).eraseIdx i).map Prod.fst ⊆ (denM bs L).map Prod.fst := List.map_subset _ (List.eraseIdx_subset ..)
      have := hsub hmem
      rw [denM_fst g.len] at this
      exact hbs this
end
end Go.Sx
end
section
namespace Go.Sx
open Go Go.Aw
section
variable {P : Program} {T : Tab} {b0 : List Nat} {fr : SFr} {L : List SObj} {m : AMem} {K : SK}
theorem ldk {α : Type} [Inhabited α] (f : α → AV) (xs : List α) {st : Bool} {n w j : Nat} {k : Int} {Q : AV → Prop} (h : 0 ≤ k ∧ k < xs.length) (hf : ∀ a, (f a).cells.length = w) (hj : (bif st then Nat.ble (j + n) w else Nat.ble (j + 1) w) = true)
    (hQ : Q (bif st then .agg (((f (gI xs k)).cells.drop j).take n) else (f (gI xs k)).cells.getD j .junk)) : SElt (flatK f xs) st n (0 + k.toNat * w + j) Q := by
  have hk : k.toNat < xs.length := by omega
  have e : (flatK f xs).drop (k.toNat * w + j) = (f (gI xs k)).cells.drop j ++ flatK f (xs.drop (k.toNat + 1)) := by
    have := flatK_split f xs k.toNat hk
    rw [this, List.drop_append, List.drop_eq_nil_of_le (by rw [flatK_len hf, List.length_take]; rw [Nat.min_eq_left (by omega)]; omega), flatK_len hf, List.length_take, Nat.min_eq_left (by omega), List.nil_append, Nat.add_sub_cancel_left, List.drop_append]
    cases st with
    | true =>
      have hj' : j + n ≤ w := Nat.le_of_ble_eq_true hj
      rw [show j - (f (xs.getD k.toNat default)).cells.length = 0 by rw [hf]; omega, List.drop_zero]; rfl
    | false =>
      have hj' : j + 1 ≤ w := Nat.le_of_ble_eq_true hj
      rw [show j - (f (xs.getD k.toNat default)).cells.length = 0 by rw [hf]; omega, List.drop_zero]; rfl
  have hlen : k.toNat * w + w ≤ (flatK f xs).length := by
    rw [flatK_len hf, ← Nat.succ_mul]; exact Nat.mul_le_mul_right _ hk
  rw [Nat.zero_add]
  cases st with
  | true =>
    have hj' : j + n ≤ w := Nat.le_of_ble_eq_true hj
    refine ⟨by simp only [cond_true]; omega, ?_⟩
    simp only [cond_true] at hQ ⊢
    rw [e, List.take_append_of_le_length (by rw [List.length_drop, hf]; omega)]
    exact hQ
  | false =>
    have hj' : j + 1 ≤ w := Nat.le_of_ble_eq_true hj
    refine ⟨by simp only [cond_false]; omega, ?_⟩
    simp only [cond_false] at hQ ⊢
    have e2 : (flatK f xs).getD (k.toNat * w + j) .junk = (f (gI xs k)).cells.getD j .junk := by
      have h1 : (flatK f xs)[k.toNat * w + j]? = ((flatK f xs).drop (k.toNat * w + j))[0]? := by simp
      have h2 : (f (gI xs k)).cells[j]? = ((f (gI xs k)).cells.drop j)[0]? := by simp
      rw [List.getD_eq_getElem?_getD, List.getD_eq_getElem?_getD, h1, h2, e, List.getElem?_append_left (by rw [List.length_drop, hf]; omega)]
    rw [e2]; exact hQ
theorem sgK_get {bs : List Nat} {s : Nat} {v : SV} (h : sgK fr s fun u => u = v) (hv : v ≠ .av .junk) : (denF bs fr).get s = some (den bs v) := by
  rw [sgK_eq] at h
  cases hg : (denF bs fr).get s with
  | none => exact absurd (h.symm.trans (sg_none hg)) hv
  | some x =>
    have := rawOf_denF bs fr s
    rw [rawOf, hg] at this
    rw [← h, ← this]; rfl
theorem sgK_raw {bs : List Nat} {s : Nat} {v : SV} (h : sgK fr s fun u => u = v) : rawOf (denF bs fr) s = den bs v := by
  rw [sgK_eq] at h
  rw [rawOf_denF, h]
structure ElOk (T : Tab) (t e w y : Nat) (zc : List AV) : Prop where
  t : tgK T t fun i => slK i fun e' => e' = e
  e : tgK T e fun j => j.n = w ∧ j.y = y ∧ (match j.z with | [] => False | _ => True) ∧ AV.plainL (denL [] (zCells j.z)) = zc
theorem ElOk.get (hT : tabOk P T = true) {t e w y : Nat} {zc : List AV} (h : ElOk T t e w y zc) : P.underlying t = some (.slice e) ∧ isU P e = true ∧ 0 < w ∧ zOk P e = true ∧ P.cellsOf e = w ∧ P.bytesOf e = y ∧ ∃ z, zeroA P e = some z ∧ z.cells.map AV.plain = zc ∧ z.topOk = true := by
  obtain ⟨i, ti, h1⟩ := tg hT h.t
  unfold slK at h1
  split at h1
  · rename_i e2 hs
    subst h1
    obtain ⟨u1, u2, u3, u4⟩ := ti.sl hs
    obtain ⟨j, tj, h2, h3, h4, h5⟩ := tg hT h.e
    have hz : j.z ≠ [] := fun e => by rw [e] at h4; exact h4
    obtain ⟨z, z1, z2, z3, _⟩ := tj.zeroA (bs := []) hz
    refine ⟨u1, u2, by rw [← h2, ← tj.cells]; exact u3, u4, by rw [tj.cells, h2], by rw [tj.bytes, h3], z, z1, ?_, z3⟩
    rw [z2, ← AV.plainL_eq]; exact h5
  · exact h1.elim
theorem er_map {α β : Type} (f : α → β) : ∀ (l : List α) (i : Nat), (l.eraseIdx i).map f = (l.map f).eraseIdx i
  | [], _ => rfl
  | _ :: _, 0 => rfl
  | _ :: r, i + 1 => by simp only [List.eraseIdx_cons_succ, List.map_cons, er_map f r i]
theorem apm (hT : tabOk P T = true) {α : Type} (f : α → AV) (zs ys : List α) (z0 : α) {d s i k t e w by_ : Nat} {y : Operand} {l' : List AV} (hx : sgK fr s fun v => v = .ms i k zs.length) (hy : opK fr y fun v => v = .av (.slice false l')) (hl' : l' = ys.map f) (hE : ElOk T t e w by_ (f z0).cells)
    (hi : nth L i = some (.obj (.cells (flatK f zs)))) (hb0 : Nat.ble b0.length i = true) (hf : ∀ a, (f a).cells.length = w) (hf1 : ∀ a, (f a).cells.all AV.one = true) (hp : ∀ a, (f a).plain = f a) (hk : k ≤ zs.length)
    (hb : (k + ys.length) * by_ ≤ 140737488355328 ∧ k + ys.length ≤ 140737488355328)
    (h : ∀ zs' : List α, zs'.take (k + ys.length) = zs.take k ++ ys → k + ys.length ≤ zs'.length → fgF i fr fun fr' => fgM i L fun L' => flK (L'.set i (.obj (.cells (flatK f zs')))) fun L'' => K ((d, .ms i (k + ys.length) zs'.length) :: fr') L'' m) :
    SOp P b0 (some d) (.call ⟨.builtin .append, #[.tmp s, y], #[t, t]⟩) fr L m K := ⟨fun new g n ops ty pos af l KK hok hn hK => by
  obtain ⟨u1, u2, u3, u4, u5, u6, z, z1, z2, z3⟩ := hE.get hT
  obtain ⟨v, hv, ev⟩ := opK_sound (b0 ++ new) hy
  subst hv
  rw [nth_eq] at hi
  have hD := denM_get g.len hi
  have hlt : i < (b0 ++ new).length := by
    rw [g.len]
    rcases Nat.lt_or_ge i L.length with h | h
    · exact h
    · rw [List.getElem?_eq_none h] at hi; cases hi
  have hge : b0.length ≤ i := Nat.le_of_ble_eq_true hb0
  refine aopR_sound (stl := []) hok hn ?_
  refine ar_appendMsK (P := P) (ops := ops) (stl := []) (r := []) (K := AOps P n ops l KK) (L := denM (b0 ++ new) L) rfl i f w zs ys z0 k u1 (sgK_raw hx) ev.symm (by simpa only [den, AV.plain] using hl') u4 z1 z2 u5 u3 hD g.nodup
    (g.fresh _ (by rw [List.getD_eq_getElem?_getD, List.getElem?_eq_getElem hlt]; exact List.getElem_mem _)) hf hf1 hp z3 hk (by rw [u6]; exact hb.1) hb.2 fun b' zs' hm hnd ht hl => ?_
  have hne : ∀ q, q ≠ i → (b0 ++ new)[q]? ≠ some b' := fun q hq e => by
    have e1 : ((denM (b0 ++ new) L).eraseIdx i).map Prod.fst = (b0 ++ new).eraseIdx i := by rw [er_map, denM_fst g.len]
    refine (List.nodup_cons.1 hnd).1 ?_
    rw [e1, List.mem_eraseIdx_iff_getElem?]
    exact ⟨q, hq, e⟩
  obtain ⟨fr', h1, hF⟩ := fgF_sound (h zs' ht hl)
  obtain ⟨L', h2, hl2, hM⟩ := fgM_sound h1
  rw [flK_eq] at h2
  have gs : Good ((b0 ++ new).set i b') (L'.set i (.obj (.cells (flatK f zs')))) m := good_set g hm hne (by rw [List.length_set, hl2])
  refine AOps.less (fr' := denF ((b0 ++ new).set i b') ((d, .ms i (k + ys.length) zs'.length) :: fr')) ?_ (AOps.lessM (mle_set g hi hm hne hl2 (fun _ => rfl) (hM _ _)) (hK _ _ _ _ ?_ gs h2))
  · refine (hF (b0 ++ new) b').cons d (.inl ?_)
    simp only [den]
    rw [List.getD_eq_getElem?_getD, List.getElem?_set_self hlt]; rfl
  · rw [List.set_append_right _ _ hge]
    exact List.prefix_append _ _⟩
theorem apm0 (hT : tabOk P T = true) {R : Prop} {α : Type} (f : α → AV) (ys : List α) (z0 : α) {d s t e w by_ : Nat} {y : Operand} {l' : List AV} (hx : sgK fr s fun v => v = .own []) (hy : opK fr y fun v => v = .av (.slice false l')) (hl' : l' = ys.map f) (hE : ElOk T t e w by_ (f z0).cells)
    (hf : ∀ a, (f a).cells.length = w) (hf1 : ∀ a, (f a).cells.all AV.one = true) (hp : ∀ a, (f a).plain = f a) (hnil : ys ≠ [])
    (hb : ys.length * by_ ≤ 140737488355328 ∧ ys.length ≤ 140737488355328) (hs : (scF L.length fr && scM L.length L) = true)
    (h : ∀ zs' : List α, zs'.take ys.length = ys → ys.length ≤ zs'.length → flK (L ++ [.obj (.cells (flatK f zs'))]) fun L' => K ((d, .ms L.length ys.length zs'.length) :: (s, .av .nils) :: fr) L' m) :
    SOr R (SOp P b0 (some d) (.call ⟨.builtin .append, #[.tmp s, y], #[t, t]⟩) fr L m K) := ⟨.inr ⟨fun new g n ops ty pos af l KK hok hn hK => by
  obtain ⟨u1, u2, u3, u4, u5, u6, z, z1, z2, z3⟩ := hE.get hT
  have hle : Le (denF (b0 ++ new) ((s, .av .nils) :: fr)) (denF (b0 ++ new) fr) := fun q x hq => by
    simp only [denF, Fr.get] at hq
    by_cases e : s = q
    · subst e
      rw [if_pos rfl] at hq
      refine ⟨_, sgK_get (bs := b0 ++ new) hx (by simp), ?_⟩
      obtain rfl := Option.some.inj hq
      simp only [den, AV.plain]
      exact LeV.nils
    · rw [if_neg e] at hq
      exact ⟨x, hq, .inl rfl⟩
  refine AOps.less hle ?_
  obtain ⟨v, hv, ev⟩ := opK_sound (b0 ++ new) hy
  subst hv
  have hyv : evP (rawOf (denF (b0 ++ new) ((s, .av .nils) :: fr))) y = .slice false l' := by
    have e2 : evP (rawOf (denF (b0 ++ new) fr)) y = .slice false l' := by rw [← ev]; simp only [den, AV.plain]
    cases y with
    | tmp q =>
      simp only [evP, rawOf, denF, Fr.get] at e2 ⊢
      by_cases e : s = q
      · subst e
        have := sgK_get (bs := b0 ++ new) hx (by simp)
        rw [this] at e2
        simp only [Option.getD_some, den, AV.plain, AV.slice.injEq, true_and] at e2
        exfalso
        rw [hl'] at e2
        exact hnil (List.map_eq_nil_iff.1 e2.symm)
      · rw [if_neg e]; exact e2
    | _ => exact e2
  refine aopR_sound (stl := []) hok hn ?_
  refine ar_append0MsK (P := P) (ops := ops) (stl := []) (r := []) (K := AOps P n ops l KK) (L := denM (b0 ++ new) L) rfl f w ys z0 u1 (by simp only [denF, rawOf, Fr.get, if_true, Option.getD_some, den, AV.plain]) hyv hl' u4 z1 z2 u5 u3 g.nodup hf hf1 hp z3 hnil (by rw [u6]; exact hb.1) hb.2 fun b' zs' hm hnd ht hl => ?_
  have h0 := h zs' ht hl
  rw [flK_eq] at h0
  simp only [Bool.and_eq_true] at hs
  have hbm : memD (b0 ++ new) L m b' = none := by
    rw [memD, wth_other (by exact (List.nodup_cons.1 hnd).1)]; exact hm
  obtain ⟨g', e2⟩ := mem_new g (by rw [g.len]; exact hs.2) hbm (.obj (.cells (flatK f zs')))
  have := hK _ _ _ ((b0 ++ new) ++ [b']) (by rw [List.append_assoc]; exact List.prefix_append _ _) g' h0
  rw [e2] at this
  have e3 : denF ((b0 ++ new) ++ [b']) fr = denF (b0 ++ new) fr := scF_den (by rw [g.len]; exact hs.1)
  simp only [denF, den, e3] at this ⊢
  rw [show ((b0 ++ new) ++ [b']).getD L.length 0 = b' by rw [← g.len, List.getD_eq_getElem?_getD, List.getElem?_concat_length]; rfl] at this
  exact this⟩⟩
def lft (x : Operand) (v : SV) (fr : SFr) : SFr :=
  match x with
  | .tmp s => (s, v) :: fr
  | _ => fr
def lftK (x : Operand) (v : SV) (fr : SFr) (k : SFr → Prop) : Prop :=
  match x with
  | .tmp s => k ((s, v) :: fr)
  | _ => k fr
theorem lftK_eq (x : Operand) (v : SV) (fr : SFr) (k : SFr → Prop) : lftK x v fr k = k (lft x v fr) := by cases x <;> rfl
theorem lft_sound {bs : List Nat} {x : Operand} {v : SV} (e : den bs v = evP (rawOf (denF bs fr)) x) (hj : den bs v ≠ .junk) : Le (denF bs (lft x v fr)) (denF bs fr) ∧ evR (rawOf (denF bs (lft x v fr))) x = den bs v ∧ (∀ a, evP (rawOf (denF bs (lft x v fr))) a = evP (rawOf (denF bs fr)) a) ∧ (denF bs (lft x v fr)).strip (slotOf x) = (match x with | .tmp s => (denF bs (lft x v fr)).put s (den bs v) | _ => denF bs (lft x v fr)) := by
  cases x with
  | tmp s =>
    simp only [evP] at e
    have hpl : (den bs v).plain = den bs v := by rw [e, plain2]
    refine ⟨fun q x hq => ?_, by simp only [lft, evR, rawOf, denF, Fr.get, if_true, Option.getD_some], fun a => ?_, by simp only [lft, slotOf, Fr.strip, rawOf, denF, Fr.get, if_true, Option.getD_some, hpl]⟩
    · simp only [lft, denF, Fr.get] at hq
      by_cases h : s = q
      · subst h
        rw [if_pos rfl] at hq
        obtain rfl := Option.some.inj hq
        cases hg : (denF bs fr).get s with
        | none =>
          simp only [rawOf, hg, Option.getD_none, AV.plain] at e
          exact absurd e hj
        | some y =>
          refine ⟨y, rfl, .pl ?_⟩
          rw [e, rawOf, hg]; rfl
      · rw [if_neg h] at hq; exact ⟨x, hq, .inl rfl⟩
    · cases a with
      | tmp q =>
        simp only [lft, evP, rawOf, denF, Fr.get]
        by_cases h : s = q
        · subst h
          rw [if_pos rfl, Option.getD_some, hpl, e, rawOf]
        · rw [if_neg h]
      | _ => rfl
  | const c => exact ⟨Le.refl _, by simp only [evP] at e; simp only [evR, e], fun a => rfl, rfl⟩
  | global c => exact ⟨Le.refl _, by simp only [evP] at e; simp only [evR, e], fun a => rfl, rfl⟩
  | func c => exact ⟨Le.refl _, by simp only [evP] at e; simp only [evR, e], fun a => rfl, rfl⟩
theorem stk (hT : tabOk P T = true) {α : Type} [Inhabited α] (f : α → AV) (xs : List α) (y : α) {i j w n t : Nat} {kk : Int} {a x : Operand} {v : SV} {cs : List SV} (hp : opK fr a fun p => p = .elt i kk w j) (hi : nth L i = some (.obj (.cells (flatK f xs)))) (hv : opK fr x fun u => u = v) (hc : wrK v fun cs' => cs' = cs)
    (ht : tgK T t fun ti => ti.n = n) (hf : ∀ a, (f a).cells.length = w) (hj : (Nat.ble (j + n) w && Nat.beq cs.length n) = true) (hy : ∀ bs, (f (gI xs kk)).cells.take j ++ denL bs cs ++ (f (gI xs kk)).cells.drop (j + n) = (f y).cells) (h0 : 0 ≤ kk ∧ kk < xs.length)
    (h : lftK x v fr fun fr' => flK (L.set i (.obj (.cells (flatK f (xs.set kk.toNat y))))) fun L' => K fr' L' m) : SOp P b0 none (.store t a x) fr L m K := ⟨fun new g n' ops ty pos af l KK hok hn hK => by
  simp only [Bool.and_eq_true] at hj
  have hj1 := Nat.le_of_ble_eq_true hj.1
  have hj2 := Nat.eq_of_beq_eq_true hj.2
  obtain ⟨ti, tt, hti⟩ := tg hT ht
  obtain ⟨v1, rfl, e1⟩ := opK_sound (b0 ++ new) hp
  obtain ⟨v2, rfl, e2⟩ := opK_sound (b0 ++ new) hv
  obtain ⟨cs2, rfl, e3, e4, e5⟩ := wrK_sound (bs := b0 ++ new) hc
  rw [nth_eq] at hi
  have hD := denM_get g.len hi
  simp only [den] at e1
  rw [lftK_eq, flK_eq] at h
  have hj0 : den (b0 ++ new) v2 ≠ .junk := fun e => by rw [e] at e4; cases e4
  obtain ⟨q1, q2, q3, q4⟩ := lft_sound e2 hj0
  refine AOps.less q1 ?_
  refine aopR_sound (stl := []) hok hn ?_
  refine ar_storek (P := P) (ops := ops) (stl := []) (r := []) (K := AOps P n' ops l KK) (L := denM (b0 ++ new) L) rfl i f xs y kk j (sz := w) (by rw [q3, ← e1]) (by omega) q2 g.nodup hD hf e4 e5 (by rw [← e3, denL_len, hj2, tt.cells, hti]) tt.is (by rw [tt.cells, hti]; exact hj1) (by rw [← e3, tt.cells, hti]; exact hy _) h0.1 h0.2 ?_
  rw [q4]
  have hset : (denM (b0 ++ new) L).set i ((b0 ++ new).getD i 0, AObj.cells (flatK f (xs.set kk.toNat y))) = denM (b0 ++ new) (L.set i (.obj (.cells (flatK f (xs.set kk.toNat y))))) := by
    rcases denM_set (bs := b0 ++ new) (L := L) (i := i) (o := .obj (.cells (flatK f (xs.set kk.toNat y)))) with h | h
    · exact h
    · exfalso
      have : i < L.length := by
        rcases Nat.lt_or_ge i L.length with h | h
        · exact h
        · rw [List.getElem?_eq_none h] at hi; cases hi
      rw [g.len] at h; omega
  rw [hset]
  have := hK _ _ _ (b0 ++ new) (List.prefix_append _ _) (g.set i _) h
  refine AOps.less ?_ this
  cases x with
  | tmp s =>
    intro q z hq
    simp only [lft, Fr.put, denF, Fr.get] at hq ⊢
    by_cases e : s = q
    · subst e
      rw [if_pos rfl] at hq ⊢
      exact ⟨_, rfl, .inl (Option.some.inj hq).symm⟩
    · rw [if_neg e] at hq
      rw [if_neg e, if_neg e]
      exact ⟨z, hq, .inl rfl⟩
  | _ => exact Le.refl _⟩
def copyL {α : Type} (xs : List α) (p q n : Nat) : List α := xs.take p ++ ((xs.drop q).take n ++ xs.drop (p + n))
theorem copy_sound {F : Nat → Prop} {lim : Nat → Nat} {w : World} {n : Nat} {fr : Fr} {m : AMem} {ca : Act} (st : Aw.St F lim w n fr m ca []) {α : Type} (f : α → AV) (xs : List α) {b p q c1 c2 n1 n2 sz t e ty : Nat} (ht : P.underlying t = some (.slice e)) (hU : isU P e = true) (hz : P.cellsOf e = sz)
    (hm : m b = some (.cells (flatK f xs))) (hf : ∀ a, (f a).cells.length = sz) (hf1 : ∀ a, (f a).cells.all AV.one = true) (hp : ∀ a, (f a).plain = f a) (h1 : p + n1 ≤ xs.length) (h2 : q + n2 ≤ xs.length) :
    ∃ w', (Builtin.copy_ #[t, t] ty #[.slice (some ⟨b, p * sz, none⟩) n1 c1, .slice (some ⟨b, q * sz, none⟩) n2 c2]).run P w = .ok (goInt (min n2 n1)) w' ∧ Aw.St F lim w' n fr (m.upd b (some (.cells (flatK f (copyL xs p q (min n2 n1)))))) ca [] ∧ Pres F w lim w' lim := by
  generalize hk : min n2 n1 = k
  have hex : ∃ cs e', w.heap[b]? = some (.cells cs e' (0, 0)) ∧ cs.size = (flatK f xs).length ∧ ∀ i, i < (flatK f xs).length → Rep w lim (cs.getD i undef) ((flatK f xs).getD i .junk) [] := by
    obtain ⟨os, om, ow, h⟩ := st
    cases (h.mem b _ hm).1 with
    | cells cs e' l _ hb hs hr =>
      refine ⟨cs, e', hb, hs, fun i hi => ?_⟩
      have := (hr i hi).plain
      rwa [flatK_mem_plain hp xs ((flatK f xs).getD i .junk) (by simp [List.getD_eq_getElem?_getD, hi])] at this
  obtain ⟨cs, e', hb, hs, hr⟩ := hex
  rw [flatK_len hf] at hs hr
  have m1 : p * sz + k * sz ≤ xs.length * sz := by rw [← Nat.add_mul]; exact Nat.mul_le_mul_right _ (by omega)
  have m2 : q * sz + k * sz ≤ xs.length * sz := by rw [← Nat.add_mul]; exact Nat.mul_le_mul_right _ (by omega)
  generalize hvs : (cs.toList.drop (q * sz)).take (k * sz) = vs
  have hlen : vs.length = k * sz := by rw [← hvs, List.length_take, List.length_drop, Array.length_toList]; omega
  have hget : ∀ j, j < k * sz → vs[j]? = cs[q * sz + j]? := fun j hj => by
    rw [← hvs, List.getElem?_take_of_lt hj, List.getElem?_drop, Array.getElem?_toList]
  have hsrc : ∀ j v, vs[j]? = some v → w.cell? ((⟨b, q * sz, none⟩ : Addr).add j) = some v := fun j v hv => by
    have hj : j < k * sz := by
      rcases Nat.lt_or_ge j (k * sz) with h | h
      · exact h
      · rw [List.getElem?_eq_none (by omega)] at hv; cases hv
    rw [addr_add]
    simp only [World.cell?, hb]
    rw [← hget j hj]; exact hv
  have hall : ∀ i, i < xs.length * sz → ((flatK f xs).getD i .junk).one = true := fun i hi => by
    have hmem : (flatK f xs).getD i .junk ∈ flatK f xs := by
      rw [List.getD_eq_getElem?_getD, List.getElem?_eq_getElem (by rw [flatK_len hf]; exact hi)]
      exact List.getElem_mem _
    simp only [flatK, List.mem_flatMap, List.mem_map] at hmem
    obtain ⟨y, ⟨a, _, rfl⟩, hy⟩ := hmem
    exact List.all_eq_true.1 (hf1 a) _ hy
  have hvr : ∀ i, i < k * sz → Rep w lim (vs.getD i undef) ((flatK f xs).getD (q * sz + i) .junk) [] := fun i hi => by
    have := hr (q * sz + i) (by omega)
    rw [List.getD_eq_getElem?_getD, hget i hi]
    rwa [Array.getD_eq_getD_getElem?] at this
  have hone : ∀ v ∈ vs, v.oneCell' = true := fun v hv => by
    obtain ⟨j, hj, rfl⟩ := List.getElem_of_mem hv
    have := hvr j (by omega)
    rw [List.getD_eq_getElem?_getD, List.getElem?_eq_getElem hj] at this
    exact rep_one this (hall _ (by omega))
  have hl := run_loadCells_list (P := P) w ⟨b, q * sz, none⟩ vs hsrc
  have hst := run_storeCells_at P b (p * sz) e' vs 0 cs w hb (by omega) hone
  simp only [Nat.add_zero] at hst
  have ex : ((flatK f xs).drop (q * sz)).take (k * sz) = flatK f ((xs.drop q).take k) := by rw [flatK_drop hf, flatK_take hf]
  have exl : (flatK f ((xs.drop q).take k)).length = k * sz := by
    rw [flatK_len hf, List.length_take, List.length_drop, Nat.min_eq_left (by omega)]
  obtain ⟨s1, s2⟩ := st.storeMem (off := p * sz) (xs := flatK f ((xs.drop q).take k)) (vs := vs) (oss := fun _ => []) hm hb (by rw [exl, flatK_len hf]; exact m1) (by rw [hlen, exl]) (fun i hi => by
    rw [exl] at hi
    have := hvr i hi
    rw [← ex]
    simpa [List.getD_eq_getElem?_getD, List.getElem?_take_of_lt hi] using this) (by rw [flatMap_nil])
  refine ⟨_, ?_, ?_, s2⟩
  · have hsize := run_size (P := P) (w := w) hU
    rw [hz] at hsize
    have hl' : (loadCells ⟨b, q * sz, none⟩ (k * sz)).run P w = .ok vs.toArray w := by rw [← hlen]; exact hl
    have hmin : Nat.min n2 n1 = k := hk
    simp [Builtin.copy_, run_und ht, Builtin.lenOf, Builtin.firstCells, hsize, hmin, hl', hst]
    congr 1
    omega
  · have e3 : (flatK f xs).take (p * sz) ++ flatK f ((xs.drop q).take k) ++ (flatK f xs).drop (p * sz + (flatK f ((xs.drop q).take k)).length) = flatK f (copyL xs p q k) := by
      rw [exl, ← Nat.add_mul, flatK_take hf, flatK_drop hf, copyL, flatK_append, flatK_append, List.append_assoc]
    rw [e3] at s1
    exact s1
theorem cpm (hT : tabOk P T = true) {α : Type} (f : α → AV) (xs : List α) {i p q c1 c2 n1 n2 w t e by_ : Nat} {d : Nat} {x y : Operand} {zc : List AV} (hx : opK fr x fun v => v = .sl i (0 + p * w) n1 c1) (hy : opK fr y fun v => v = .sl i (0 + q * w) n2 c2) (hE : ElOk T t e w by_ zc) (hi : nth L i = some (.obj (.cells (flatK f xs))))
    (hf : ∀ a, (f a).cells.length = w) (hf1 : ∀ a, (f a).cells.all AV.one = true) (hp : ∀ a, (f a).plain = f a) (h1 : p + n1 ≤ xs.length) (h2 : q + n2 ≤ xs.length) (hn2 : min n2 n1 ≤ 9223372036854775807)
    (h : flK (L.set i (.obj (.cells (flatK f (copyL xs p q (min n2 n1)))))) fun L' => K ((d, .av (.int .i64 (min n2 n1 : Nat))) :: fr) L' m) : SOp P b0 (some d) (.call ⟨.builtin .copy, #[x, y], #[t, t]⟩) fr L m K := ⟨fun new g n ops ty pos af l KK hok hn hK => by
  obtain ⟨u1, u2, u3, u4, u5, u6, z, z1, z2, z3⟩ := hE.get hT
  obtain ⟨v1, rfl, e1⟩ := opK_sound (b0 ++ new) hx
  obtain ⟨v2, rfl, e2⟩ := opK_sound (b0 ++ new) hy
  simp only [den, Nat.zero_add] at e1 e2
  rw [nth_eq] at hi
  have hg := mem_get g hi
  simp only [denO] at hg
  rw [flK_eq] at h
  refine aopR_sound (stl := []) hok hn ?_
  simp only [aopR, gOn, ares]
  intro n' hk' hn' F lim w' ca st
  have r1 := evP_rep st (okOper_opd hk' x (by simp [Op.operands, Call.operands]))
  have r2 := evP_rep st (okOper_opd hk' y (by simp [Op.operands, Call.operands]))
  rw [← e1] at r1
  rw [← e2] at r2
  obtain ⟨v1, _, _⟩ := rep_ms_inv r1
  obtain ⟨v2, _, _⟩ := rep_ms_inv r2
  obtain ⟨w2, s1, s2, s3⟩ := copy_sound (P := P) (ty := ty) (c1 := c1) (c2 := c2) st f xs u1 u2 u5 hg hf hf1 hp h1 h2
  have em := mem_set g hi (o' := .obj (.cells (flatK f (copyL xs p q (min n2 n1)))))
  simp only [denO] at em
  rw [em] at s2
  refine ⟨.value (goInt (min n2 n1)), _, w2, lim, _, _, ?_, .inl rfl, St.putO (d := some d) s2 (fun t ht => okOper_dst hk' ht) (x := .int .i64 (min n2 n1 : Nat)) ?_, s3, hK _ _ _ (b0 ++ new) (List.prefix_append _ _) (g.set i _) h⟩
  · have e3 : (#[x, y] : Array Operand).map ca.eval = #[.slice (some ⟨(b0 ++ new).getD i 0, p * w, none⟩) n1 c1, .slice (some ⟨(b0 ++ new).getD i 0, q * w, none⟩) n2 c2] := by apply Array.ext'; simp [v1, v2]
    simp only [execOp, resolve, invoke, builtin, Sem.run_bind, Sem.run_pure, Result.andThen_ok, e3]
    rw [s1]; rfl
  · have hgo : goInt (min (n2 : Int) (n1 : Int)) = .int .i64 ((min n2 n1 : Nat) : Int) := by
      have : min (n2 : Int) (n1 : Int) = ((min n2 n1 : Nat) : Int) := by omega
      rw [this]; rfl
    rw [hgo]
    refine .int .i64 _ ?_ ?_
    · have : IntKind.i64.min = -9223372036854775808 := rfl
      omega
    · have : IntKind.i64.max = 9223372036854775807 := rfl
      omega⟩
theorem cpn (hT : tabOk P T = true) {i o c2 n2 w t e by_ : Nat} {d : Nat} {x y : Operand} {zc : List AV} (hx : opK fr x fun v => v = .av .nils) (hy : opK fr y fun v => v = .sl i o n2 c2) (hE : ElOk T t e w by_ zc)
    (h : K ((d, .av (.int .i64 0)) :: fr) L m) : SOp P b0 (some d) (.call ⟨.builtin .copy, #[x, y], #[t, t]⟩) fr L m K := ⟨fun new g n ops ty pos af l KK hok hn hK => by
  obtain ⟨u1, u2, u3, u4, u5, u6, z, z1, z2, z3⟩ := hE.get hT
  obtain ⟨v1, rfl, e1⟩ := opK_sound (b0 ++ new) hx
  obtain ⟨v2, rfl, e2⟩ := opK_sound (b0 ++ new) hy
  simp only [den, AV.plain] at e1 e2
  refine aopR_sound (stl := []) hok hn ?_
  simp only [aopR, gOn, ares]
  intro n' hk' hn' F lim w' ca st
  have r1 := evP_rep st (okOper_opd hk' x (by simp [Op.operands, Call.operands]))
  have r2 := evP_rep st (okOper_opd hk' y (by simp [Op.operands, Call.operands]))
  rw [← e1] at r1
  rw [← e2] at r2
  obtain ⟨a0, v1⟩ := nils_inv r1
  obtain ⟨v2, _, _⟩ := rep_ms_inv r2
  have hsize := run_size (P := P) (w := w') u2
  refine ⟨.value (goInt 0), _, w', lim, _, _, ?_, .inl rfl, St.putO (d := some d) st (fun t ht => okOper_dst hk' ht) (x := .int .i64 0) (.int _ _ (by decide) (by decide)), Pres.refl _ _ _, hK _ _ _ (b0 ++ new) (List.prefix_append _ _) g h⟩
  have e3 : (#[x, y] : Array Operand).map ca.eval = #[.slice a0 0 0, .slice (some ⟨(b0 ++ new).getD i 0, o, none⟩) n2 c2] := by apply Array.ext'; simp [v1, v2]
  have hl : ∀ (x : Addr), (loadCells x 0).run P w' = .ok #[] w' := fun x => by simpa using run_loadCells_list (P := P) w' x [] (by simp)
  have hrun : (Builtin.copy_ #[t, t] ty #[.slice a0 0 0, .slice (some ⟨(b0 ++ new).getD i 0, o, none⟩) n2 c2]).run P w' = .ok (goInt 0) w' := by
    cases a0 <;> simp [Builtin.copy_, run_und u1, Builtin.lenOf, Builtin.firstCells, hsize, hl, storeCells]
  simp only [execOp, resolve, invoke, builtin, Sem.run_bind, Sem.run_pure, Result.andThen_ok, e3]
  rw [hrun]; rfl⟩
end
end Go.Sx
end
section
namespace Go.Aw
open Go
section
variable {P : Program} {F : Nat → Prop} {lim : Nat → Nat} {w : World} {n : Nat} {fr : Fr} {m : AMem} {ca : Act} {fl : List Nat}
theorem St.convMemW (st : St F lim w n fr m ca fl) {b : Nat} {L : List AV} (hm : m b = some (.cells L)) (j : Nat) (y : AV) (hj : j < L.length) (hc : ∀ v os, Rep w lim v (L.getD j .junk) os → Rep w lim v y []) : St F lim w n fr (m.upd b (some (.cells (L.set j y)))) ca fl := by
  obtain ⟨os, om, ow, h⟩ := st
  refine ⟨os, fun c => if c = b then (fun i => if i = j then [] else om b i) else om c, ow, h.size, h.defers, h.slots, fun c o hc' => ?_, h.ownS, fun c o hc' i => ?_, h.ownF, fun c hc' => ?_, fun c hc' => ?_⟩
  · by_cases e : c = b
    · subst e
      simp only [AMem.upd, if_true] at hc'
      obtain rfl := Option.some.inj hc'
      obtain ⟨hM, hl, hF⟩ := h.mem c _ hm
      refine ⟨?_, hl, hF⟩
      cases hM with
      | cells cs e l os hb hs hr =>
        refine .cells cs e _ _ hb (by simpa using hs) fun i hi => ?_
        have hi' : i < L.length := by simpa using hi
        simp only [if_true]
        by_cases hij : i = j
        · subst hij
          rw [if_pos rfl]
          have := hc _ _ (hr i hi')
          simpa [List.getD_eq_getElem?_getD, hi'] using this
        · rw [if_neg hij]
          have := hr i hi'
          simpa [List.getD_eq_getElem?_getD, List.getElem?_set_ne (Ne.symm hij)] using this
    · simp only [AMem.upd, if_neg e] at hc'
      simp only [if_neg e]
      exact h.mem c o hc'
  · by_cases e : c = b
    · subst e
      simp only [if_true]
      by_cases hij : i = j
      · simp [hij]
      · simp only [if_neg hij]
        exact h.ownM c _ hm i
    · simp only [AMem.upd, if_neg e] at hc'
      simp only [if_neg e]
      exact h.ownM c o hc' i
  · have := h.free c hc'
    refine ⟨this.1, ?_, this.2.2⟩
    simp only [AMem.upd]
    by_cases e : c = b
    · subst e; rw [hm] at this; cases this.2.1
    · rw [if_neg e]; exact this.2.1
  · have := h.fresh c hc'
    refine ⟨this.1, this.2.1, ?_⟩
    simp only [AMem.upd]
    by_cases e : c = b
    · subst e; rw [hm] at this; cases this.2.2
    · rw [if_neg e]; exact this.2.2
end
end Go.Aw
namespace Go.Sx
open Go Go.Aw
mutual
theorem den_congr {bs bs' : List Nat} (h : ∀ j, bs.getD j 0 = bs'.getD j 0) : ∀ (v : SV), den bs v = den bs' v
  | .av _ | .own _ | .b _ | .off => by simp only [den]
  | .loc j o | .ms j o c | .mp j | .elt j k w q | .sl j k w q => by simp only [den, h]
  | .agg l => by simp only [den, denL_congr h l]
  | .tup l => by simp only [den, denL_congr h l]
  | .fn f a c => by simp only [den, denL_congr h a, denL_congr h c]
theorem denL_congr {bs bs' : List Nat} (h : ∀ j, bs.getD j 0 = bs'.getD j 0) : ∀ (l : List SV), denL bs l = denL bs' l
  | [] => by simp only [denL]
  | v :: r => by simp only [denL, den_congr h v, denL_congr h r]
end
theorem denF_congr {bs bs' : List Nat} (h : ∀ j, bs.getD j 0 = bs'.getD j 0) : ∀ (fr : SFr), denF bs fr = denF bs' fr
  | [] => rfl
  | (t, v) :: r => by simp only [denF, den_congr h v, denF_congr h r]
theorem denO_congr {bs bs' : List Nat} (h : ∀ j, bs.getD j 0 = bs'.getD j 0) (o : SObj) : denO bs o = denO bs' o := by
  cases o with
  | cells l => simp only [denO, denL_congr h l]
  | obj o => rfl
section
variable {bs : List Nat} {L L' : List SObj} {m : AMem} {fr : SFr}
theorem good_take {i : Nat} (g : Good bs L m) (hi : i + 1 = L.length) (hl : L'.length = i) : Good (bs.take i) L' m := by
  have := g.len
  exact ⟨g.nd.sublist (List.take_sublist _ _), by rw [List.length_take, hl]; omega, fun b hb => g.fresh b (List.mem_of_mem_take hb)⟩
theorem take_getD {i : Nat} (hi : bs.length = i + 1) : ∀ j, (bs.take i).getD j 0 = (bs.set i 0).getD j 0 := fun j => by
  simp only [List.getD_eq_getElem?_getD, List.getElem?_take, List.getElem?_set]
  by_cases h : j < i
  · rw [if_pos h, if_neg (by omega)]
  · rw [if_neg h]
    by_cases e : i = j
    · subst e; rw [if_pos rfl, if_pos (by omega)]; rfl
    · rw [if_neg e, List.getElem?_eq_none (by omega)]
theorem denL_setC (bs : List Nat) (v : SV) : ∀ (l : List SV) (j : Nat), denL bs (l.set j v) = (denL bs l).set j (den bs v)
  | [], j => by simp only [List.set_nil, denL]
  | x :: r, 0 => by simp only [List.set_cons_zero, denL]
  | x :: r, j + 1 => by simp only [List.set_cons_succ, denL, denL_setC bs v r j]
theorem cvfM {c : Cfg} {A : SK} {R : Prop} {α : Type} (f : α → AV) (zs : List α) (ys : List AV) {i a j k cap w : Nat} {cl : List SV} (hL : nth L i = some (.obj (.cells (flatK f zs)))) (hi : (Nat.beq (i + 1) L.length && Nat.ble c.bs.length i) = true) (ha : nth L a = some (.cells cl)) (hj : nth cl j = some (.ms i k cap))
    (hf : ∀ a, (f a).cells.length = w) (hpos : 0 < w) (hp : ∀ a, (f a).plain = f a) (hk : k ≤ zs.length ∧ k ≤ 140737488355328) (hy : (zs.take k).map f = ys)
    (h : fgF i fr fun fr' => fgM i ((L.set a (.cells (cl.set j (.av (.slice false ys))))).take i) fun L' => A fr' L' m) : SOr (SCv c A fr L m) R := ⟨.inl ⟨fun new g n cd Q hQ F lim wd ca st => by
  simp only [Bool.and_eq_true] at hi
  have hi1 := Nat.eq_of_beq_eq_true hi.1
  have hi2 := Nat.le_of_ble_eq_true hi.2
  rw [nth_eq] at hL ha hj
  obtain ⟨fr', h1, hF⟩ := fgF_sound h
  obtain ⟨L', h2, hl2, hM⟩ := fgM_sound h1
  generalize hB : c.bs ++ new = B at g st
  have hBl := g.len
  have hL2 : L'.length = i := by rw [hl2, List.length_take, List.length_set]; omega
  have hm := mem_get g hL
  simp only [denO] at hm
  obtain ⟨s1, s2, s3⟩ := Aw.St.freezeK st hf hpos hp hm
  have hma := mem_get g ha
  simp only [denO] at hma
  have hla : a < B.length := by
    rw [hBl]
    rcases Nat.lt_or_ge a L.length with h | h
    · exact h
    · rw [List.getElem?_eq_none h] at ha; cases ha
  have hlj : j < cl.length := by
    rcases Nat.lt_or_ge j cl.length with h | h
    · exact h
    · rw [List.getElem?_eq_none h] at hj; cases hj
  have hai : a ≠ i := fun e => by rw [e, hL] at ha; cases ha
  have hne : B.getD a 0 ≠ B.getD i 0 := fun e => hai (getD_inj g.nd hla (by omega) e)
  have hma2 : (memD B L m).upd (B.getD i 0) none (B.getD a 0) = some (.cells (denL B cl)) := by
    simp only [AMem.upd, if_neg hne]; exact hma
  have hcell : (denL B cl).getD j .junk = .ms ⟨B.getD i 0, 0, none⟩ k cap := by
    have := (denL_getD (bs := B) (n := j) (l := cl) (v := .ms i k cap) (by rw [nth_eq]; exact hj)).1
    rw [this]; simp only [den]
  have st2 := Aw.St.convMemW s1 hma2 j (.slice false ys) (by rw [denL_len]; exact hlj) (fun v os hr => by
    rw [hcell] at hr
    have e := ms_none hr
    subst e
    obtain ⟨e1, e2, e3⟩ := rep_ms_inv hr
    rw [← hy]
    exact s3 k cap v hk.1 hk.2 (by rw [e1]; exact .ms _ _ _ e2 e3))
  have g' : Good (B.take i) L' m := good_take g hi1 hL2
  have hpre : c.bs <+: B.take i := by
    rw [← hB, List.take_append, List.take_of_length_le hi2]
    exact List.prefix_append _ _
  have hmle : MLe (memD (B.take i) L' m) (((memD B L m).upd (B.getD i 0) none).upd (B.getD a 0) (some (.cells ((denL B cl).set j (.slice false ys))))) := by
    intro b o' hb
    rcases memD_get g' hb with ⟨q, x, q1, q2, rfl⟩ | ⟨q1, q2⟩
    · obtain ⟨o, q3, q4⟩ := hM B 0 q x q2
      have hqi : q < i := by
        rcases Nat.lt_or_ge q i with h | h
        · exact h
        · rw [List.getElem?_eq_none (by omega)] at q2; cases q2
      rw [List.getElem?_take_of_lt hqi] at q1 q3
      rw [← denO_congr (take_getD (bs := B) (i := i) (by omega)) x] at q4
      have eb : B.getD q 0 = b := by rw [List.getD_eq_getElem?_getD, q1]; rfl
      have hqn : b ≠ B.getD i 0 := fun e => by
        have := getD_inj g.nd (by omega) (by omega) (eb.trans e)
        omega
      by_cases e : a = q
      · subst e
        rw [List.getElem?_set_self (by omega)] at q3
        obtain rfl := Option.some.inj q3
        simp only [denO, denL_setC] at q4
        refine ⟨.cells ((denL B cl).set j (.slice false ys)), by simp only [AMem.upd, ← eb, if_true], ?_⟩
        have ed : den B (.av (.slice false ys)) = .slice false ys := by simp only [den, AV.plain]
        rw [ed] at q4
        exact q4
      · rw [List.getElem?_set_ne e] at q3
        have hqa : b ≠ B.getD a 0 := fun e2 => e (getD_inj g.nd (by omega) hla (eb.trans e2)).symm
        have hg := mem_get g q3
        rw [eb] at hg
        exact ⟨denO B o, by simp only [AMem.upd, if_neg hqa, if_neg hqn]; exact hg, q4⟩
    · have hbB : b ∉ B := fun hb2 => by rw [g.fresh b hb2] at q2; cases q2
      have h5 : b ≠ B.getD i 0 := fun e => hbB (by rw [e, List.getD_eq_getElem?_getD, List.getElem?_eq_getElem (by omega)]; exact List.getElem_mem _)
      have h6 : b ≠ B.getD a 0 := fun e => hbB (by rw [e, List.getD_eq_getElem?_getD, List.getElem?_eq_getElem (by omega)]; exact List.getElem_mem _)
      refine ⟨o', ?_, .inl rfl⟩
      simp only [AMem.upd, if_neg h5, if_neg h6, memD]
      rw [wth_other (by rw [denM_fst g.len]; exact hbB)]
      exact q2
  have hle : Le (denF (B.take i) fr') (denF B fr) := by
    rw [denF_congr (take_getD (bs := B) (i := i) (by omega))]
    exact hF B 0
  have hA := AWP.less hle (AWP.lessM hmle (hQ fr' L' m (B.take i) hpre g' h2))
  exact wp_mono (hA F _ wd ca st2) fun e a w' ⟨l, f, m', q, st', pr⟩ => ⟨l, f, m', q, st', s2.trans pr⟩⟩⟩
theorem cv0 {c : Cfg} {A : SK} {R : Prop} (h : A fr L m) : SOr (SCv c A fr L m) R := ⟨.inl ⟨fun new g n cd Q hQ => hQ fr L m (c.bs ++ new) (List.prefix_append _ _) g h⟩⟩
end
end Go.Sx
end
section
namespace Go.Proofs
open Go Go.Aw
theorem Tryd.mixed : Tryd.prog.follows .mixedOrders = true := by kernel_rfl
end Go.Proofs
end
section
namespace Go.Proofs
open Go Go.RowKit
theorem wpList_append_run {P : Program} {ops : Array Oper} {rest : List Oper} {o : Oper} {a : Act} {w : World} {Q : Exit → Act → World → Prop} (hgd : o.guard = none) (sl x : Operand) (t u : TypeId)
    (ho : o.op = .call { callee := .builtin .append, args := #[sl, x], argTypes := #[t, u] }) (v y : Value) (hs : a.eval sl = v) (hx : a.eval x = y) (v' : Value) (w' : World) (hr : (Builtin.append_ #[t, u] o.type #[v, y]).run P w = .ok v' w')
    (h : wpList P ops Q rest (a.put o.dst v') w') : wpList P ops Q (o :: rest) a w := by
  refine wpList_plain hgd fun K hK => ?_
  unfold Oper.wp execOp
  simp only [ho, resolve, invoke, builtin, Sem.run_bind, Sem.run_pure, Result.andThen_ok, List.map_toArray, List.map_cons, List.map_nil, hs, hx, hr]
  exact hK _ _ h
set_option maxHeartbeats 1000000 in
set_option maxRecDepth 100000 in
theorem Tryd.copyCheck_used (b : Nat) (w : World) (h0 : w.cell? ⟨b, 0, none⟩ = some (.pointer (some ⟨b, 0, none⟩))) :
    Calls Tryd.prog 83 #[.pointer (some ⟨b, 0, none⟩)] w fun e w' => e = .returned (.tuple #[]) ∧ w' = w := by
  obtain ⟨j, hj, hjs⟩ : ∃ j, Tryd.prog.info? 89 = some j ∧ j.size = 2 := ⟨_, rfl, rfl⟩
  go_enter Tryd.func83, Tryd.ntmps83
  go_wp2
  rw [Lib.run_neq_ptr_same (tp := 86) (te := 89) w _ Tryd.underlying86 hj]
  go_wp2
  go_end0
  exact ⟨rfl, rfl⟩
set_option maxHeartbeats 1000000 in
set_option maxRecDepth 100000 in
theorem Tryd.copyCheck_fresh (b : Nat) (w : World) (h0 : w.cell? ⟨b, 0, none⟩ = some (.pointer none)) (hsh : w.shape? b = some (89, 2)) (hfz : w.frozen? ⟨b, 0, none⟩ = false) :
    Calls Tryd.prog 83 #[.pointer (some ⟨b, 0, none⟩)] w fun e w' => e = .returned (.tuple #[]) ∧ w' = w.setCell ⟨b, 0, none⟩ (.pointer (some ⟨b, 0, none⟩)) := by
  obtain ⟨j, hj, hjs⟩ : ∃ j, Tryd.prog.info? 89 = some j ∧ j.size = 2 := ⟨_, rfl, rfl⟩
  have hu : Tryd.prog.underlying 142 = some .unsafePointer := by kernel_rfl
  go_enter Tryd.func83, Tryd.ntmps83
  go_wp2
  rw [Lib.run_to_unsafe w ⟨b, 0, none⟩ Tryd.underlying86 hu hj (by rw [hjs]; decide) hsh (Nat.zero_lt_succ 1)]
  simp only [Result.andThen]
  rw [Oper.upon_value]
  go_wp2
  rw [run_callFunc_extern Tryd.func106 (by kernel_rfl) (by kernel_rfl) (by kernel_rfl) (e := Extern.AbiNoEscape.same) (by kernel_rfl)]
  rw [Lib.run_noEscape]
  simp only [Result.andThen]
  rw [Oper.upon_value]
  go_wp2
  rw [Lib.run_from_unsafe w ⟨b, 0, none⟩ hu Tryd.underlying86 hj hsh (by kernel_rfl)]
  simp only [Result.andThen]
  rw [Oper.upon_value]
  go_wp2
  go_end0
  exact ⟨rfl, rfl⟩
set_option maxHeartbeats 2000000 in
set_option maxRecDepth 100000 in
theorem Tryd.WriteString_run (b : Nat) (s : ByteArray) (w w1 w2 : World) (p : Value) (a : Option Addr) (n c : Nat) (a' : Option Addr) (n' c' : Nat) (hb : w.heap[b]? = some (.cells #[p, .slice a n c] 89 (0, 0)))
    (hp : (p = .pointer none ∧ w1 = w.setCell ⟨b, 0, none⟩ (.pointer (some ⟨b, 0, none⟩))) ∨ (p = .pointer (some ⟨b, 0, none⟩) ∧ w1 = w))
    (hA : (Builtin.append_ #[87, 9] 87 #[.slice a n c, .string s]).run Tryd.prog w1 = .ok (.slice a' n' c') w2) (h2 : w2.heap[b]? = some (.cells #[.pointer (some ⟨b, 0, none⟩), .slice a n c] 89 (0, 0))) :
    Calls Tryd.prog 71 #[.pointer (some ⟨b, 0, none⟩), .string s] w fun e w' => e = .returned (.tuple #[.int .i64 s.size, .nilIface]) ∧ w' = w2.setCell ⟨b, 1, none⟩ (.slice a' n' c') := by
  have hcc : Calls Tryd.prog 83 #[.pointer (some ⟨b, 0, none⟩)] w fun e w' => e = .returned (.tuple #[]) ∧ w' = w1 := by
    rcases hp with ⟨rfl, rfl⟩ | ⟨rfl, rfl⟩
    · exact Tryd.copyCheck_fresh b w (by rw [Lib.cell_of_heap hb]; rfl) (by simp [World.shape?, hb]) (Lib.frozen_of_heap hb 0)
    · exact Tryd.copyCheck_used b w1 (by rw [Lib.cell_of_heap hb]; rfl)
  have hb1 : w1.heap[b]? = some (.cells #[.pointer (some ⟨b, 0, none⟩), .slice a n c] 89 (0, 0)) := by
    rcases hp with ⟨rfl, rfl⟩ | ⟨rfl, rfl⟩
    · rw [heap_setCell_same _ b 0 _ 89 _ hb]; rfl
    · exact hb
  go_enter Tryd.func71, Tryd.ntmps71
  go_wp2_with (go_at_call 83; refine hcc.mono ?_)
  rintro e W ⟨rfl, rfl⟩
  have c1 : W.cell? ⟨b, 1, none⟩ = some (.slice a n c) := by rw [Lib.cell_of_heap hb1]; rfl
  have d1 : w2.cell? ⟨b, 1, none⟩ = some (.slice a n c) := by rw [Lib.cell_of_heap h2]; rfl
  have f1 : w2.frozen? ⟨b, 1, none⟩ = false := Lib.frozen_of_heap h2 1
  go_wp2_with (at_builtin; refine wpList_append_run rfl _ _ 87 9 rfl _ _ rfl rfl _ _ hA ?_)
  go_wp2
  go_ret2
  exact ⟨rfl, rfl⟩
set_option maxHeartbeats 2000000 in
set_option maxRecDepth 100000 in
theorem Tryd.String_run (b g c : Nat) (p : Value) (cur : Array Value) (l : List UInt8) (w : World) (h0 : l ≠ []) (hc0 : c ≠ 0) (h63 : l.length ≤ 9223372036854775807) (hb : w.heap[b]? = some (.cells #[p, .slice (some ⟨g, 0, none⟩) l.length c] 89 (0, 0)))
    (hg : w.heap[g]? = some (.cells cur 5 (0, 0))) (hn : l.length ≤ cur.size) (hc : ∀ j x, l[j]? = some x → w.cell? ⟨g, j, none⟩ = some (.int .u8 x.toNat)) :
    Calls Tryd.prog 50 #[.pointer (some ⟨b, 0, none⟩)] w fun e w' => e = .returned (.string ⟨l.toArray⟩) ∧ w' = w.drew.freeze ⟨g, 0, none⟩ l.length := by
  have c1 : w.drew.cell? ⟨b, 1, none⟩ = some (.slice (some ⟨g, 0, none⟩) l.length c) := by
    have : w.drew.heap[b]? = some (.cells #[p, .slice (some ⟨g, 0, none⟩) l.length c] 89 (0, 0)) := hb
    rw [Lib.cell_of_heap this]; rfl
  have hSD : (Builtin.unsafeSliceData_ #[87] 114 #[.slice (some ⟨g, 0, none⟩) l.length c]).run Tryd.prog w.drew = .ok (.pointer (some ⟨g, 0, none⟩)) w.drew :=
    Lib.run_unsafeSliceData_row _ _ _ _ _ _ hc0
  have hUS : (Builtin.unsafeString_ #[114, 3] 9 #[.pointer (some ⟨g, 0, none⟩), .int .i64 l.length]).run Tryd.prog w.drew = .ok (.string ⟨l.toArray⟩) (w.drew.freeze ⟨g, 0, none⟩ l.length) := by
    refine Lib.run_unsafeString_row w.drew 114 3 9 5 Tryd.underlying114 (by kernel_rfl) g cur.size (by have hg' : w.drew.heap[g]? = some (.cells cur 5 (0, 0)) := hg; simp [World.shape?, hg']) l h0 hn h63 ?_
    intro j x hx
    rw [Addr.add_lit, Nat.zero_add]
    exact hc j x hx
  go_enter Tryd.func50, Tryd.ntmps50
  go_wp2
  go_region
  all_goals (go_wp2; go_ret; exact ⟨rfl, rfl⟩)
set_option maxHeartbeats 2000000 in
set_option maxRecDepth 100000 in
theorem Tryd.String_nil (b : Nat) (p : Value) (w : World) (hb : w.heap[b]? = some (.cells #[p, .slice none 0 0] 89 (0, 0))) :
    Calls Tryd.prog 50 #[.pointer (some ⟨b, 0, none⟩)] w fun e w' => e = .returned (.string ⟨#[]⟩) ∧ w' = w.drew := by
  have c1 : w.drew.cell? ⟨b, 1, none⟩ = some (.slice none 0 0) := by
    have : w.drew.heap[b]? = some (.cells #[p, .slice none 0 0] 89 (0, 0)) := hb
    rw [Lib.cell_of_heap this]; rfl
  have hSD : (Builtin.unsafeSliceData_ #[87] 114 #[.slice none 0 0]).run Tryd.prog w.drew = .ok (.pointer none) w.drew := Lib.run_unsafeSliceData_nil _ _ _ _ _
  have hUS : (Builtin.unsafeString_ #[114, 3] 9 #[.pointer none, .int .i64 0]).run Tryd.prog w.drew = .ok (.string .empty) w.drew := Lib.run_unsafeString_none w.drew _ _ _ none
  go_enter Tryd.func50, Tryd.ntmps50
  go_wp2
  go_region
  all_goals (go_wp2; go_ret; exact ⟨rfl, rfl⟩)
end Go.Proofs
end
section
namespace Go.Proofs
open Go.Shelf
def Tryd.laysM171_ren : Go.Shelf.Ren := ⟨fun | 171 => 45 | 243 => 70 | 246 => 82 | 283 => 102 | 284 => 103 | 285 => 104 | 286 => 105 | 129 => 95 | 317 => 116 | 318 => 117 | 319 => 118 | 320 => 119 | 337 => 123 | 338 => 124 | n => n, fun | 3 => 3 | 9 => 9 | 2 => 2 | 4 => 4 | 171 => 138 | 0 => 0 | 53 => 48 | 37 => 87 | 5 => 5 | 173 => 140 | 212 => 155 | 51 => 130 | 20 => 20 | 213 => 156 | 46 => 93 | 232 => 163 | 233 => 164 | n => n, fun | 17 => 2 | 18 => 3 | 19 => 4 | n => n⟩
theorem Tryd.laysM171 : Go.Proofs.LaysM.n171 Tryd.prog Tryd.laysM171_ren := {
  mixed := by kernel_rfl
  f129 := Tryd.func95.trans (congrArg some (by kernel_rfl))
  f171 := Tryd.func45.trans (congrArg some (by kernel_rfl))
  f243 := Tryd.func70.trans (congrArg some (by kernel_rfl))
  f246 := Tryd.func82.trans (congrArg some (by kernel_rfl))
  f283 := Tryd.func102.trans (congrArg some (by kernel_rfl))
  f284 := Tryd.func103.trans (congrArg some (by kernel_rfl))
  f285 := Tryd.func104.trans (congrArg some (by kernel_rfl))
  f286 := Tryd.func105.trans (congrArg some (by kernel_rfl))
  f317 := Tryd.func116.trans (congrArg some (by kernel_rfl))
  f318 := Tryd.func117.trans (congrArg some (by kernel_rfl))
  f319 := Tryd.func118.trans (congrArg some (by kernel_rfl))
  f320 := Tryd.func119.trans (congrArg some (by kernel_rfl))
  f337 := Tryd.func123.trans (congrArg some (by kernel_rfl))
  f338 := Tryd.func124.trans (congrArg some (by kernel_rfl))
  t0 := Tryd.underlying0
  a0 := Tryd.isAgg0
  z0 := Tryd.sizeOf0
  v0 := Tryd.zeroValue0
  t2 := Tryd.underlying2
  a2 := Tryd.isAgg2
  z2 := Tryd.sizeOf2
  v2 := Tryd.zeroValue2
  t3 := Tryd.underlying3
  a3 := Tryd.isAgg3
  z3 := Tryd.sizeOf3
  v3 := Tryd.zeroValue3
  t4 := Tryd.underlying4
  a4 := Tryd.isAgg4
  z4 := Tryd.sizeOf4
  v4 := Tryd.zeroValue4
  t5 := Tryd.underlying5
  a5 := Tryd.isAgg5
  z5 := Tryd.sizeOf5
  v5 := Tryd.zeroValue5
  t9 := Tryd.underlying9
  a9 := Tryd.isAgg9
  z9 := Tryd.sizeOf9
  v9 := Tryd.zeroValue9
  t20 := Tryd.underlying20
  a20 := Tryd.isAgg20
  z20 := Tryd.sizeOf20
  v20 := Tryd.zeroValue20
  t37 := Tryd.underlying87
  a37 := Tryd.isAgg87
  z37 := Tryd.sizeOf87
  v37 := Tryd.zeroValue87
  t46 := Tryd.underlying93
  a46 := Tryd.isAgg93
  z46 := Tryd.sizeOf93
  v46 := Tryd.zeroValue93
  t51 := Tryd.underlying130
  a51 := Tryd.isAgg130
  z51 := Tryd.sizeOf130
  v51 := Tryd.zeroValue130
  t53 := Tryd.underlying48
  a53 := Tryd.isAgg48
  z53 := Tryd.sizeOf48
  v53 := Tryd.zeroValue48
  t171 := Tryd.underlying138
  a171 := Tryd.isAgg138
  z171 := Tryd.sizeOf138
  v171 := Tryd.zeroValue138
  t173 := Tryd.underlying140
  a173 := Tryd.isAgg140
  z173 := Tryd.sizeOf140
  v173 := Tryd.zeroValue140
  t212 := Tryd.underlying155
  a212 := Tryd.isAgg155
  z212 := Tryd.sizeOf155
  v212 := Tryd.zeroValue155
  t213 := Tryd.underlying156
  a213 := Tryd.isAgg156
  z213 := Tryd.sizeOf156
  t232 := Tryd.underlying163
  a232 := Tryd.isAgg163
  z232 := Tryd.sizeOf163
  v232 := Tryd.zeroValue163
  t233 := Tryd.underlying164
  a233 := Tryd.isAgg164
  z233 := Tryd.sizeOf164
  v233 := Tryd.zeroValue164
  g17 := by kernel_rfl
  g18 := by kernel_rfl
  g19 := by kernel_rfl
  i0 := by kernel_rfl
  i2 := by kernel_rfl
  i3 := by kernel_rfl
  i4 := by kernel_rfl
  i5 := by kernel_rfl
  i9 := by kernel_rfl
  i20 := by kernel_rfl
  i37 := by kernel_rfl
  i46 := by kernel_rfl
  i51 := by kernel_rfl
  i53 := by kernel_rfl
  i171 := by kernel_rfl
  i173 := by kernel_rfl
  i212 := by kernel_rfl
  i232 := by kernel_rfl
  i233 := by kernel_rfl
  m17 := by kernel_rfl
  m18 := by kernel_rfl
  m19 := by kernel_rfl }
open Go.RowKit Go.Sort Go.Lib in
theorem Tryd.strconv_Itoa (n : Int) (h0 : -9223372036854775808 ≤ n) (h1 : n ≤ 9223372036854775807) (w : World) (htab : Lib.TabIs Tryd.prog w "internal/strconv.uint64pow10" .u64 Lib.pow10Tab) :
    Calls Tryd.prog 45 #[.int .i64 n] w fun e w' => e = .returned (.string ⟨(Lib.itoa n).toArray⟩) ∧ ∃ k os, w' = grow (w.drewN k) os := Any.strconv_Itoa Tryd.laysM171 n h0 h1 w htab
end Go.Proofs
end
section
namespace Go.Proofs
open Go Go.Aw Go.Sx
def tb : Tab := [(3, ⟨.int .i64, 1, 8, [.i .i64]⟩),
  (34, ⟨.st [(0, 3), (1, 3), (2, 9), (3, 31), (4, 32)], 5, 80, [.i .i64, .i .i64, .s, .l, .l]⟩),
  (9, ⟨.str, 1, 16, [.s]⟩),
  (32, ⟨.sl 37, 1, 24, [.l]⟩),
  (62, ⟨.sl 9, 1, 24, [.l]⟩),
  (37, ⟨.st [(0, 9), (1, 34)], 6, 96, [.s, .i .i64, .i .i64, .s, .l, .l]⟩),
  (31, ⟨.sl 34, 1, 24, [.l]⟩),
  (64, ⟨.st [(0, 9), (1, 9), (2, 9), (3, 3), (4, 3), (5, 34), (10, 62)], 11, 168, [.s, .s, .s, .i .i64, .i .i64, .i .i64, .i .i64, .s, .l, .l, .l]⟩),
  (87, ⟨.sl 5, 1, 24, [.l]⟩),
  (5, ⟨.int .u8, 1, 1, [.i .u8]⟩),
  (23, ⟨.int .i64, 1, 8, [.i .i64]⟩),
  (27, ⟨.ifc, 1, 16, [.n]⟩),
  (60, ⟨.mp 9 9, 1, 8, [.m]⟩),
  (22, ⟨.sl 3, 1, 24, [.l]⟩),
  (56, ⟨.sl 64, 1, 24, [.l]⟩),
  (106, ⟨.st [(0, 9), (1, 9), (2, 9), (3, 3)], 4, 56, [.s, .s, .s, .i .i64]⟩),
  (79, ⟨.mp 9 3, 1, 8, [.m]⟩),
  (89, ⟨.st [(0, 86), (1, 87)], 2, 32, []⟩),
  (48, ⟨.int .u64, 1, 8, [.i .u64]⟩),
  (86, ⟨.ptr, 1, 8, [.p]⟩),
  (4, ⟨.bool, 1, 1, [.b]⟩),
  (24, ⟨.sl 27, 1, 24, [.l]⟩),
  (58, ⟨.ptr, 1, 8, [.p]⟩),
  (96, ⟨.st [(0, 60), (1, 60), (2, 94), (3, 3), (4, 4), (5, 3)], 6, 64, [.m, .m, .l, .i .i64, .b, .i .i64]⟩),
  (114, ⟨.ptr, 1, 8, [.p]⟩),
  (94, ⟨.sl 106, 1, 24, [.l]⟩)]
theorem tbOk : tabOk Tryd.prog tb = true := by decide +kernel
end Go.Proofs
end
section
namespace Go.Proofs
open Go Go.Aw Go.Sx
set_option maxRecDepth 100000
abbrev Str := List UInt8
noncomputable def cf (w st jr xs cv bs : List Nat) : Cfg := ⟨Tryd.prog, tb, 23, w, st, jr, xs, cv, bs⟩
theorem take_succ_gI {α : Type} [Inhabited α] {l : List α} {i : Int} (h0 : 0 ≤ i) (hi : i < l.length) : l.take (i + 1).toNat = l.take i.toNat ++ [gI l i] := by
  have e : (i + 1).toNat = i.toNat + 1 := by omega
  have hn : i.toNat < l.length := by omega
  rw [e, List.take_succ_eq_append_getElem hn]
  simp [gI, List.getD_eq_getElem?_getD, hn]
theorem gI_mem {α : Type} [Inhabited α] {l : List α} {i : Int} (h0 : 0 ≤ i) (hi : i < l.length) : gI l i ∈ l := by
  simp only [gI, List.getD_eq_getElem?_getD, List.getElem?_eq_getElem (show i.toNat < l.length by omega), Option.getD_some]
  exact List.getElem_mem _
theorem take_full {α : Type} {l : List α} {i : Int} (hi : l.length ≤ i) : l.take i.toNat = l := List.take_of_length_le (by omega)
inductive Val where
  | mk (kind n : Int) (s : Str) (l : List Val) (f : List (Str × Val))
instance : Inhabited Val := ⟨.mk 0 0 [] [] []⟩
def Val.kind : Val → Int | .mk k _ _ _ _ => k
def Val.n : Val → Int | .mk _ n _ _ _ => n
def Val.s : Val → Str | .mk _ _ s _ _ => s
def Val.l : Val → List Val | .mk _ _ _ l _ => l
def Val.f : Val → List (Str × Val) | .mk _ _ _ _ f => f
mutual
def valIn : Val → AV
  | .mk k n s l f => .agg [.int .i64 k, .int .i64 n, .str s, .slice false (valsIn l), .slice false (fldsIn f)]
def valsIn : List Val → List AV
  | [] => []
  | v :: r => valIn v :: valsIn r
def fldsIn : List (Str × Val) → List AV
  | [] => []
  | (s, .mk k n t l f) :: r => .agg [.str s, .int .i64 k, .int .i64 n, .str t, .slice false (valsIn l), .slice false (fldsIn f)] :: fldsIn r
end
def fldIn (p : Str × Val) : AV := .agg (.str p.1 :: (valIn p.2).cells)
theorem valsIn_eq (l : List Val) : valsIn l = l.map valIn := by
  induction l with
  | nil => rfl
  | cons v r ih => simp only [valsIn, List.map_cons, ih]
theorem fldsIn_eq (l : List (Str × Val)) : fldsIn l = l.map fldIn := by
  induction l with
  | nil => rfl
  | cons v r ih =>
    obtain ⟨s, v⟩ := v
    cases v with
    | mk k n t l f => simp only [fldsIn, List.map_cons, ih, fldIn, valIn, AV.cells]
def valTop (v : Val) : AV := .agg [.int .i64 v.kind, .int .i64 v.n, .str v.s, .slice false (v.l.map valIn), .slice false (v.f.map fldIn)]
def fldTop (p : Str × Val) : AV := .agg [.str p.1, .int .i64 p.2.kind, .int .i64 p.2.n, .str p.2.s, .slice false (p.2.l.map valIn), .slice false (p.2.f.map fldIn)]
theorem valIn_eq (v : Val) : valIn v = valTop v := by
  cases v with
  | mk k n s l f => simp only [valIn, valTop, valsIn_eq, fldsIn_eq, Val.kind, Val.n, Val.s, Val.l, Val.f]
theorem fldIn_eq (p : Str × Val) : fldIn p = fldTop p := by
  rw [fldIn, valIn_eq]; rfl
theorem valMap (l : List Val) : l.map valIn = l.map valTop := List.map_congr_left fun v _ => valIn_eq v
theorem fldMap (l : List (Str × Val)) : l.map fldIn = l.map fldTop := List.map_congr_left fun v _ => fldIn_eq v
mutual
def weightV (most : Int) : Val → Int
  | .mk _ _ s l f => weightF most f (weightL most l (1 + s.length))
def weightL (most : Int) : List Val → Int → Int
  | [], n => n
  | v :: r, n => if n ≤ most then weightL most r (IntKind.i64.wrap (n + weightV most v)) else n
def weightF (most : Int) : List (Str × Val) → Int → Int
  | [], n => n
  | (s, .mk _ _ t l f) :: r, n => if n ≤ most then weightF most r (IntKind.i64.wrap (IntKind.i64.wrap (n + s.length) + weightF most f (weightL most l (1 + t.length)))) else n
end
theorem weightV_eq (most : Int) (v : Val) : weightV most v = weightF most v.f (weightL most v.l (1 + v.s.length)) := by
  cases v with
  | mk k n s l f => simp only [weightV, Val.f, Val.l, Val.s]
theorem weightF_cons (most : Int) (p : Str × Val) (r : List (Str × Val)) (n : Int) : weightF most (p :: r) n = if n ≤ most then weightF most r (IntKind.i64.wrap (IntKind.i64.wrap (n + p.1.length) + weightV most p.2)) else n := by
  obtain ⟨s, v⟩ := p
  cases v with
  | mk k n t l f => simp only [weightF, weightV]
theorem weightL_stop (most : Int) (l : List Val) (n : Int) (h : most < n) : weightL most l n = n := by
  cases l with
  | nil => simp only [weightL]
  | cons v r => simp only [weightL]; rw [if_neg (by omega)]
theorem weightF_stop (most : Int) (l : List (Str × Val)) (n : Int) (h : most < n) : weightF most l n = n := by
  cases l with
  | nil => simp only [weightF]
  | cons v r => rw [weightF_cons, if_neg (by omega)]
theorem drop_gI {α : Type} [Inhabited α] {l : List α} {i : Int} (h0 : 0 ≤ i) (hi : i < l.length) : l.drop i.toNat = gI l i :: l.drop (i + 1).toNat := by
  have h : i.toNat < l.length := by omega
  have e : (i + 1).toNat = i.toNat + 1 := by omega
  rw [List.drop_eq_getElem_cons h, e]
  simp [gI, List.getD_eq_getElem?_getD, h]
mutual
def depV : Val → Nat
  | .mk _ _ _ l f => depL l + depF f + 1
def depL : List Val → Nat
  | [] => 0
  | v :: r => depV v + depL r
def depF : List (Str × Val) → Nat
  | [] => 0
  | (_, .mk _ _ _ l f) :: r => depL l + depF f + 1 + depF r
end
theorem depL_mem {l : List Val} {v : Val} (h : v ∈ l) : depV v ≤ depL l := by
  induction l with
  | nil => cases h
  | cons a r ih =>
    simp only [depL]
    rcases List.mem_cons.1 h with rfl | h
    · omega
    · have := ih h; omega
theorem depF_mem {l : List (Str × Val)} {p : Str × Val} (h : p ∈ l) : depV p.2 ≤ depF l := by
  induction l with
  | nil => cases h
  | cons a r ih =>
    obtain ⟨s, v⟩ := a
    cases v with
    | mk k n t l f =>
      simp only [depF]
      rcases List.mem_cons.1 h with rfl | h
      · simp only [depV]; omega
      · have := ih h; omega
theorem depV_eq (v : Val) : depV v = depL v.l + depF v.f + 1 := by
  cases v with
  | mk k n s l f => simp only [depV, Val.l, Val.f]
set_option maxHeartbeats 4000000 in
theorem u_weight1 (v : Val) (most : Int) (ih : ∀ w : Val, depV w < depV v → ∀ (m : AMem) (K : AV → AMem → Prop), K (.int .i64 (weightV most w)) m → ACalls Tryd.prog 46 [valTop w, .int .i64 most] m K) (m : AMem)  (K : AV → AMem → Prop) (hK : K (.int .i64 (weightV most v)) m) : ACalls Tryd.prog 46 [valTop v, .int .i64 most] m K := by
 refine enter (c := cf [32, 53, 62] [0] [3, 7] [] [] []) (vs := [.av (valTop v), .av (.int .i64 most)]) (L := []) (m := m) false tbOk Tryd.mixed Tryd.func46 rfl (k := 2) (by show fnOk [] _ _ _ = true; decide +kernel) rfl (Good.nil m) ?_
 refine ⟨fun F0 => ?_⟩
 have hbd0_2 : v.s.length ≤ 140737488355328 := (F0 0 2 (Nat.le_of_ble_eq_true rfl))
 have hbd0_3 : v.l.length ≤ 140737488355328 := bd_map (F0 0 3 (Nat.le_of_ble_eq_true rfl))
 have hbd0_4 : v.f.length ≤ 140737488355328 := bd_map (F0 0 4 (Nat.le_of_ble_eq_true rfl))
 refine an (by omega) ?_
 refine sq ?_
 refine lp (σ := Int × Int) [] [1, 2, 5, 6] 1 (fun ⟨n_, i⟩ => ([(1, vI most), (2, .loc 0 0), (5, vI n_), (6, vI i)], [.cells [vI v.kind, vI v.n, vS v.s, vL (v.l.map valIn), vL (v.f.map fldIn)]], m)) (fun ⟨n_, i⟩ => 0 ≤ i ∧ i ≤ v.l.length ∧ weightL most v.l (1 + v.s.length) = weightL most (v.l.drop i.toNat) n_) (fun ⟨n_, i⟩ => v.l.length - i.toNat) (1 + (v.s.length : Int), 0) ⟨rfl, rfl⟩ ?_ ?_
 · try dsimp only
   exact ⟨by omega, by omega, rfl⟩
 rintro ⟨n_, i⟩ hI
 dsimp only at hI
 refine sq ?_
 refine mg [1, 2, 5, 6] 21 ((decide (i < (v.l.length : Int))) && (decide (n_ ≤ most))) ?_ ?_
 · repeat' first
    | exact ⟨⟨_, rfl, by grind [SB.val]⟩, rfl⟩
    | refine an (fun _ => ?_) (fun _ => ?_)
    | refine ln ?_
 refine an (fun h1 => ?_) (fun h1 => ?_)
 · replace h1 : (i < (v.l.length : Int)) ∧ (n_ ≤ most) := ⟨(of_decide_eq_true (bandL h1)), (of_decide_eq_true (bandR h1))⟩
   refine sq ?_
   refine ixg valTop valIn_eq (by omega) ?_
   refine call0 (fun _ => ih (gI v.l i) (by have := depV_eq v; first | (have := depL_mem (gI_mem (l := v.l) (i := i) hI.1 h1.1); omega) | (have := depF_mem (gI_mem (l := v.f) (i := k) hI2.1 h2.1); omega))) rfl ?_
   refine an (by omega) ?_
   refine ⟨(IntKind.i64.wrap (n_ + (weightV most (gI v.l i))), i + 1), ⟨rfl, rfl⟩, ?_, ?_⟩
   · try dsimp only
     refine ⟨by omega, by omega, ?_⟩
     rw [hI.2.2, drop_gI hI.1 h1.1]
     simp only [weightL]
     rw [if_pos h1.2]
   try dsimp only
   omega
 replace h1 : ((v.l.length : Int) ≤ i) ∨ (most < n_) := ((bandF h1).imp (fun q => (Int.not_lt.1 (of_decide_eq_false q))) (fun q => (Int.not_le.1 (of_decide_eq_false q))))
 refine sq ?_
 refine lp (σ := Int × Int) [] [1, 2, 5, 7] 1 (fun ⟨n2, k⟩ => ([(1, vI most), (2, .loc 0 0), (5, vI n2), (7, vI k)], [.cells [vI v.kind, vI v.n, vS v.s, vL (v.l.map valIn), vL (v.f.map fldIn)]], m)) (fun ⟨n2, k⟩ => 0 ≤ k ∧ k ≤ v.f.length ∧ weightV most v = weightF most (v.f.drop k.toNat) n2) (fun ⟨n2, k⟩ => v.f.length - k.toNat) (n_, 0) ⟨rfl, rfl⟩ ?_ ?_
 · try dsimp only
   refine ⟨by omega, by omega, ?_⟩
   have e : weightL most (v.l.drop i.toNat) n_ = n_ := by
     by_cases hn : most < n_
     · exact weightL_stop _ _ _ hn
     · have hi : (v.l.length : Int) ≤ i := by
         rcases h1 with h | h <;> omega
       rw [List.drop_eq_nil_of_le (by omega)]; simp only [weightL]
   rw [weightV_eq, hI.2.2, e]; rfl
 rintro ⟨n2, k⟩ hI2
 dsimp only at hI2
 refine sq ?_
 refine mg [1, 2, 5, 7] 42 ((decide (k < (v.f.length : Int))) && (decide (n2 ≤ most))) ?_ ?_
 · repeat' first
    | exact ⟨⟨_, rfl, by grind [SB.val]⟩, rfl⟩
    | refine an (fun _ => ?_) (fun _ => ?_)
    | refine ln ?_
 refine an (fun h2 => ?_) (fun h2 => ?_)
 · replace h2 : (k < (v.f.length : Int)) ∧ (n2 ≤ most) := ⟨(of_decide_eq_true (bandL h2)), (of_decide_eq_true (bandR h2))⟩
   refine sq ?_
   refine ixg fldTop fldIn_eq (by omega) ?_
   refine ixg fldTop fldIn_eq (by omega) ?_
   refine pure0 (fun _ => ih ((gI v.f k).2) (by have := depV_eq v; first | (have := depL_mem (gI_mem (l := v.l) (i := i) hI.1 h1.1); omega) | (have := depF_mem (gI_mem (l := v.f) (i := k) hI2.1 h2.1); omega))) ?_
   refine an (by omega) ?_
   refine ⟨(IntKind.i64.wrap ((IntKind.i64.wrap (n2 + (((gI v.f k).1).length : Int))) + (weightV most ((gI v.f k).2))), k + 1), ⟨rfl, rfl⟩, ?_, ?_⟩
   · try dsimp only
     exact ⟨by omega, by omega, by rw [hI2.2.2, drop_gI hI2.1 h2.1, weightF_cons, if_pos h2.2]⟩
   try dsimp only
   omega
 replace h2 : ((v.f.length : Int) ≤ k) ∨ (most < n2) := ((bandF h2).imp (fun q => (Int.not_lt.1 (of_decide_eq_false q))) (fun q => (Int.not_le.1 (of_decide_eq_false q))))
 refine rt0 rfl fun _ => ?_
 show K (.int .i64 n2) m
 have e : weightV most v = n2 := by
   rw [hI2.2.2]
   by_cases hn : most < n2
   · exact weightF_stop _ _ _ hn
   · have hi : (v.f.length : Int) ≤ k := by
       rcases h2 with h | h <;> omega
     rw [List.drop_eq_nil_of_le (by omega)]; simp only [weightF]
 rw [e] at hK; exact hK
theorem u_weight (most : Int) : ∀ (n : Nat) (v : Val), depV v < n → ∀ (m : AMem) (K : AV → AMem → Prop), K (.int .i64 (weightV most v)) m → ACalls Tryd.prog 46 [valTop v, .int .i64 most] m K
  | 0, _, h => absurd h (Nat.not_lt_zero _)
  | n + 1, v, h => fun m K hK => u_weight1 v most (fun w hw => u_weight most n w (by omega)) m K hK
structure ActT where
  kind : Str
  s : Str
  t : Str
  a : Int
  b : Int
  v : Val
  names : List Str
instance : Inhabited ActT := ⟨⟨[], [], [], 0, 0, default, []⟩⟩
end Go.Proofs
end
section
namespace Go.Proofs
open Go Go.Aw Go.Sx
set_option maxRecDepth 100000
theorem depL_len (l : List Val) : l.length ≤ depL l := by
  induction l with
  | nil => exact Nat.le_refl _
  | cons v r ih => have := depV_eq v; simp only [depL, List.length_cons]; omega
theorem depF_len (l : List (Str × Val)) : l.length ≤ depF l := by
  induction l with
  | nil => exact Nat.le_refl _
  | cons p r ih =>
    obtain ⟨s, v⟩ := p
    cases v with
    | mk k n t l f => simp only [depF, List.length_cons]; omega
def letC (c : UInt8) : Bool := decide (97 ≤ (c.toNat : Int)) && decide ((c.toNat : Int) ≤ 122)
def digC (c : UInt8) : Bool := decide (48 ≤ (c.toNat : Int)) && decide ((c.toNat : Int) ≤ 57)
def nmF : Str → Bool → Bool
  | [], _ => true
  | c :: r, first => (letC c || (!first && digC c)) && nmF r false
def nameV (s : Str) : Bool := nmF s true && !(s == []) && decide ((s.length : Int) ≤ 12)
theorem nmF_step {s : Str} {i : Int} (h0 : 0 ≤ i) (hi : i < s.length) : nmF (s.drop i.toNat) (i == 0) = ((letC (gI s i) || (!(i == 0) && digC (gI s i))) && nmF (s.drop (i + 1).toNat) (i + 1 == 0)) := by
  have e : (i + 1 == 0) = false := by simp; omega
  rw [drop_gI h0 hi, nmF, e]
set_option maxHeartbeats 2000000 in
theorem u_VName (s : Str) (hs : s.length ≤ 140737488355328) (m : AMem)  (K : AV → AMem → Prop) (hK : K (.bool (nameV s)) m) : ACalls Tryd.prog 21 [.str s] m K := by
 refine enter (c := cf [] [] [5, 8] [] [] []) (vs := [.av (.str s)]) (L := []) (m := m) false tbOk Tryd.mixed Tryd.func21 rfl (k := 1) (by show fnOk [] _ _ _ = true; decide +kernel) rfl (Good.nil m) ?_
 refine sq ?_
 refine lp (σ := Int) [] [0, 6, 7] 0 (fun i => ([(0, vS s), (6, vI (s.length : Int)), (7, vI i)], [], m)) (fun i => 0 ≤ i ∧ i ≤ s.length ∧ nmF s true = nmF (s.drop i.toNat) (i == 0)) (fun i => s.length - i.toNat) (0) ⟨rfl, rfl⟩ ?_ ?_
 · try dsimp only
   exact ⟨by omega, by omega, by simp⟩
 rintro i hI
 refine sq ?_
 refine an (fun h1 => ?_) (fun h1 => ?_)
 · refine sq ?_
   refine an (by omega) ?_
   refine mg [0, 6, 7] 30 (((decide (((gI s i).toNat : Int) < 97)) || (decide (122 < ((gI s i).toNat : Int)))) && (((i == 0) || (decide (((gI s i).toNat : Int) < 48))) || (decide (57 < ((gI s i).toNat : Int))))) ?_ ?_
   · repeat' first
      | exact ⟨⟨_, rfl, by grind [SB.val]⟩, rfl⟩
      | refine an (fun _ => ?_) (fun _ => ?_)
   refine an (fun h2 => ?_) (fun h2 => ?_)
   · replace h2 : ((((gI s i).toNat : Int) < 97) ∨ (122 < ((gI s i).toNat : Int))) ∧ (((i = 0) ∨ (((gI s i).toNat : Int) < 48)) ∨ (57 < ((gI s i).toNat : Int))) := ⟨((borT (bandL h2)).imp (fun q => (of_decide_eq_true q)) (fun q => (of_decide_eq_true q))), ((borT (bandR h2)).imp (fun q => ((borT q).imp (fun q => (eq_of_beq q)) (fun q => (of_decide_eq_true q)))) (fun q => (of_decide_eq_true q)))⟩
     refine rt0 rfl fun _ => K_eq hK ?_
     show AV.bool (nameV s) = AV.bool false
     refine congrArg AV.bool ?_
     have hb : (letC (gI s i) || (!(i == 0) && digC (gI s i))) = false := by
       rw [Bool.eq_false_iff]; intro hh; simp [letC, digC] at hh; omega
     rw [nameV, hI.2.2, nmF_step hI.1 h1, hb]; rfl
   replace h2 : ((97 ≤ ((gI s i).toNat : Int)) ∧ (((gI s i).toNat : Int) ≤ 122)) ∨ (((i ≠ 0) ∧ (48 ≤ ((gI s i).toNat : Int))) ∧ (((gI s i).toNat : Int) ≤ 57)) := ((bandF h2).imp (fun q => ⟨(Int.not_lt.1 (of_decide_eq_false (borL q))), (Int.not_lt.1 (of_decide_eq_false (borR q)))⟩) (fun q => ⟨⟨(ne_of_beq_false (borL (borL q))), (Int.not_lt.1 (of_decide_eq_false (borR (borL q))))⟩, (Int.not_lt.1 (of_decide_eq_false (borR q)))⟩))
   refine an (by omega) ?_
   refine ⟨(i + 1), ⟨rfl, rfl⟩, ?_, ?_⟩
   · try dsimp only
     have hb : (letC (gI s i) || (!(i == 0) && digC (gI s i))) = true := by simp [letC, digC]; omega
     exact ⟨by omega, by omega, by rw [hI.2.2, nmF_step hI.1 h1, hb]; rfl⟩
   try dsimp only
   omega
 refine mg [] 2 ((!(s == ([]))) && (decide ((s.length : Int) ≤ 12))) ?_ ?_
 · repeat' first
    | exact ⟨⟨_, rfl, by grind [SB.val]⟩, rfl⟩
    | refine an (fun _ => ?_) (fun _ => ?_)
 refine rt0 rfl fun _ => K_eq hK ?_
 show AV.bool (nameV s) = AV.bool ((!(s == ([]))) && (decide ((s.length : Int) ≤ 12)))
 refine congrArg AV.bool ?_
 have ha : nmF s true = true := by rw [hI.2.2, List.drop_eq_nil_of_le (by omega)]; rfl
 rw [nameV, ha]; cases s <;> simp
mutual
def okV : Val → Prop
  | .mk _ _ _ l f => (l.length ≤ 1759218604441 ∧ f.length ≤ 1466015503701) ∧ okVL l ∧ okVF f
def okVL : List Val → Prop
  | [] => True
  | v :: r => okV v ∧ okVL r
def okVF : List (Str × Val) → Prop
  | [] => True
  | (_, .mk _ _ _ l f) :: r => ((l.length ≤ 1759218604441 ∧ f.length ≤ 1466015503701) ∧ okVL l ∧ okVF f) ∧ okVF r
end
theorem okV_eq (v : Val) : okV v ↔ (v.l.length ≤ 1759218604441 ∧ v.f.length ≤ 1466015503701) ∧ okVL v.l ∧ okVF v.f := by
  cases v with
  | mk k n s l f => simp only [okV, Val.l, Val.f]
theorem okVL_iff (l : List Val) : okVL l ↔ ∀ v ∈ l, okV v := by
  induction l with
  | nil => simp [okVL]
  | cons v r ih => simp [okVL, ih]
theorem okVF_iff (l : List (Str × Val)) : okVF l ↔ ∀ p ∈ l, okV p.2 := by
  induction l with
  | nil => simp [okVF]
  | cons p r ih =>
    obtain ⟨s, v⟩ := p
    cases v with
    | mk k n t l f => simp [okVF, okV, ih]
theorem okV_iff (v : Val) : okV v ↔ (v.l.length ≤ 1759218604441 ∧ v.f.length ≤ 1466015503701) ∧ (∀ w ∈ v.l, okV w) ∧ ∀ p ∈ v.f, okV p.2 := by
  rw [okV_eq, okVL_iff, okVF_iff]
theorem okV_small : ∀ (n : Nat) (v : Val), depV v < n → depV v ≤ 1000000000 → okV v
  | 0, _, h, _ => absurd h (Nat.not_lt_zero _)
  | n + 1, v, h, hz => by
    have e := depV_eq v
    have h1 := depL_len v.l
    have h2 := depF_len v.f
    rw [okV_iff]
    exact ⟨⟨by omega, by omega⟩, fun w hw => okV_small n w (by have := depL_mem hw; omega) (by have := depL_mem hw; omega), fun p hp => okV_small n p.2 (by have := depF_mem hp; omega) (by have := depF_mem hp; omega)⟩
end Go.Proofs
end
