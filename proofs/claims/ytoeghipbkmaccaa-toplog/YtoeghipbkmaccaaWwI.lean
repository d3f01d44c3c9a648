/-
  The abstract layer, part 9: what keeps frames and memory where a step takes, makes and writes.
-/
import Derived.Test.YtoeghipbkmaccaaWwH
namespace Go.Aw
open Go

section
variable {P : Program} {F : Nat → Prop} {lim lim' : Nat → Nat} {w w' : World} {n : Nat} {fr : Fr} {m : AMem} {ca : Act} {fl : List Nat}

theorem St.flSub (h : St F lim w n fr m ca fl) {fl' : List Nat} (hn : fl'.Nodup) (hs : ∀ c ∈ fl', c ∈ fl) : St F lim w n fr m ca fl' := by
  obtain ⟨os, om, ow, h⟩ := h
  exact ⟨os, om, ow, h.size, h.defers, h.slots, h.mem, h.ownS, h.ownM, ⟨hn, fun c hc => h.ownF.2 c (hs c hc)⟩, h.free, h.fresh⟩

theorem St.flNodup (h : St F lim w n fr m ca fl) : fl.Nodup := by
  obtain ⟨os, om, ow, h⟩ := h
  exact h.ownF.1

theorem St.flKeep (h : St F lim w n fr m ca fl) : ∀ c ∈ fl, ¬ F c ∧ m c = none ∧ c < w.heap.size := by
  obtain ⟨os, om, ow, h⟩ := h
  exact fun c hc => h.free c (by rw [h.ownF.2 c hc]; simp)

/-- What a part of a value owns. -/
theorem nodup_flatMap_range {os : Nat → List Nat} {n : Nat} (h : ((List.range n).flatMap os).Nodup) : (∀ i, i < n → (os i).Nodup) ∧ ∀ i j c, i < n → j < n → c ∈ os i → c ∈ os j → i = j := by
  induction n with
  | zero => exact ⟨fun i hi => absurd hi (Nat.not_lt_zero _), fun i j c hi => absurd hi (Nat.not_lt_zero _)⟩
  | succ n ih =>
    rw [List.range_succ, List.flatMap_append, List.nodup_append] at h
    obtain ⟨h1, h2, h3⟩ := h
    obtain ⟨i1, i2⟩ := ih h1
    simp only [List.flatMap_cons, List.flatMap_nil, List.append_nil] at h2 h3
    have hx : ∀ i c, i < n → c ∈ os i → c ∈ os n → False := fun i c hi hc hn => h3 c (List.mem_flatMap.2 ⟨i, by simpa using hi, hc⟩) c hn rfl
    refine ⟨fun i hi => ?_, fun i j c hi hj hci hcj => ?_⟩
    · by_cases e : i = n
      · subst e; exact h2
      · exact i1 i (by omega)
    · by_cases e : i = n <;> by_cases e' : j = n
      · omega
      · subst e; exact (hx j c (by omega) hcj hci).elim
      · subst e'; exact (hx i c (by omega) hci hcj).elim
      · exact i2 i j c (by omega) (by omega) hci hcj

/-- .. and put together. -/
theorem nodup_flatMap_mk {os : Nat → List Nat} {n : Nat} (h1 : ∀ i, i < n → (os i).Nodup) (h2 : ∀ i j c, i < n → j < n → c ∈ os i → c ∈ os j → i = j) : ((List.range n).flatMap os).Nodup := by
  induction n with
  | zero => simp
  | succ n ih =>
    rw [List.range_succ, List.flatMap_append, List.nodup_append]
    refine ⟨ih (fun i hi => h1 i (by omega)) (fun i j c hi hj => h2 i j c (by omega) (by omega)), by simpa using h1 n (by omega), fun c hc c' hc' e => ?_⟩
    subst e
    obtain ⟨i, hi, hci⟩ := List.mem_flatMap.1 hc
    simp at hc' hi
    have := h2 i n c (by omega) (by omega) hci hc'
    omega

theorem mem_flatMap_range {os : Nat → List Nat} {n c : Nat} : c ∈ (List.range n).flatMap os ↔ ∃ i, i < n ∧ c ∈ os i := by
  simp [List.mem_flatMap]

/-- The cells of a value, one by one. -/
theorem rep_cells {v : Value} {x : AV} {os : List Nat} (h : Rep w lim v x os) (hx : x.topOk = true) : ∃ oss : Nat → List Nat, v.cells.size = x.cells.length ∧ (∀ i, i < x.cells.length → Rep w lim (v.cells.getD i undef) (x.cells.getD i .junk) (oss i)) ∧
    os = (List.range x.cells.length).flatMap oss := by
  have single : ∀ (v : Value) (x : AV) (os : List Nat), Rep w lim v x os → v.cells = #[v] → x.cells = [x] → ∃ oss : Nat → List Nat, v.cells.size = x.cells.length ∧ (∀ i, i < x.cells.length → Rep w lim (v.cells.getD i undef) (x.cells.getD i .junk) (oss i)) ∧
      os = (List.range x.cells.length).flatMap oss := fun v x os h hv hc => by
    refine ⟨fun _ => os, by simp [hv, hc], fun i hi => ?_, by simp [hc, List.range_succ]⟩
    have : i = 0 := by simp [hc] at hi; exact hi
    subst this
    simpa [hv, hc] using h
  cases h with
  | agg cs xs oss hs hr => exact ⟨oss, hs, hr, rfl⟩
  | tuple cs xs oss hs hr => simp [AV.topOk] at hx
  | lazyT v x os h => simp [AV.topOk] at hx
  | lazyF x => simp [AV.topOk] at hx
  | junk v => simp [AV.topOk] at hx
  | bool b => exact single _ _ _ (.bool b) rfl rfl
  | int k n lo hi => exact single _ _ _ (.int k n lo hi) rfl rfl
  | str s h => exact single _ _ _ (.str s h) rfl rfl
  | ptr a => exact single _ _ _ (.ptr a) rfl rfl
  | nilptr => exact single _ _ _ .nilptr rfl rfl
  | ref b off l cv h1 h2 h3 => exact single _ _ _ (.ref b off l cv h1 h2 h3) rfl rfl
  | nils own => exact single _ _ _ (.nils own) rfl rfl
  | empty a cap hm => exact single _ _ _ (.empty a cap hm) rfl rfl
  | slice b off n cap sz l cv h1 h2 h3 h4 h5 h6 h7 h8 => exact single _ _ _ (.slice b off n cap sz l cv h1 h2 h3 h4 h5 h6 h7 h8) rfl rfl
  | own b n cap sz l cv cur e h1 h2 h3 h4 h5 h6 h7 h8 h9 h10 h11 => exact single _ _ _ (.own b n cap sz l cv cur e h1 h2 h3 h4 h5 h6 h7 h8 h9 h10 h11) rfl rfl
  | ms a len cap h1 h2 => exact single _ _ _ (.ms a len cap h1 h2) rfl rfl
  | map b => exact single _ _ _ (.map b) rfl rfl
  | nilmap => exact single _ _ _ .nilmap rfl rfl
  | func fn f c fl cl h1 h2 h3 h4 => exact single _ _ _ (.func fn f c fl cl h1 h2 h3 h4) rfl rfl
  | nilfunc => exact single _ _ _ .nilfunc rfl rfl
  | iface t v x h => exact single _ _ _ (.iface t v x h) rfl rfl
  | nilIface => exact single _ _ _ .nilIface rfl rfl
  | errN t => exact single _ _ _ (.errN t) rfl rfl
  | errS t e h lo hi => exact single _ _ _ (.errS t e h lo hi) rfl rfl
  | optN => exact single _ _ _ .optN rfl rfl
  | optS t v => exact single _ _ _ (.optS t v) rfl rfl

theorem rep_one {v : Value} {x : AV} {os : List Nat} (h : Rep w lim v x os) (hx : x.one = true) : v.oneCell' = true := by
  cases h <;> first | rfl | simp [AV.one] at hx

/-- The blocks on their way are laid into cells of a block that memory tells of. -/
theorem St.storeMem (h : St F lim w n fr m ca fl) {b off : Nat} {l xs : List AV} {vs : List Value} {cs : Array Value} {e : TypeId} {oss : Nat → List Nat} (hm : m b = some (.cells l)) (hb : w.heap[b]? = some (.cells cs e (0, 0)))
    (hl : off + xs.length ≤ l.length) (hv : vs.length = xs.length) (hr : ∀ i, i < xs.length → Rep w lim (vs.getD i undef) (xs.getD i .junk) (oss i)) (hfl : fl = (List.range xs.length).flatMap oss) :
    St F lim (w.setRow b (cs.toList.take off ++ vs ++ cs.toList.drop (off + vs.length)).toArray) n fr (m.upd b (some (.cells (l.take off ++ xs ++ l.drop (off + xs.length))))) ca [] ∧
    Pres F w lim (w.setRow b (cs.toList.take off ++ vs ++ cs.toList.drop (off + vs.length)).toArray) lim := by
  obtain ⟨os, om, ow, h⟩ := h
  have hM := h.mem b _ hm
  obtain ⟨hMr, hlim, hF⟩ := hM
  have hcl : cs.size = l.length := by
    cases hMr with
    | cells cs' e' l' _ hb' hs hr' => rw [hb] at hb'; cases hb'; exact hs
  have hrl : ∀ i, i < l.length → Rep w lim (cs.getD i undef) (l.getD i .junk) (om b i) := by
    cases hMr with
    | cells cs' e' l' _ hb' hs hr' => rw [hb] at hb'; cases hb'; exact hr'
  have hnd : fl.Nodup := h.ownF.1
  rw [hfl] at hnd
  obtain ⟨hnd1, hnd2⟩ := nodup_flatMap_range hnd
  have hflm : ∀ c, c ∈ fl ↔ ∃ i, i < xs.length ∧ c ∈ oss i := fun c => by rw [hfl]; exact mem_flatMap_range
  generalize hw : w.setRow b (cs.toList.take off ++ vs ++ cs.toList.drop (off + vs.length)).toArray = w1
  have hother : ∀ k, k ≠ b → w1.heap[k]? = w.heap[k]? := fun k hk => by rw [← hw]; exact setRow_other w b k _ hk
  have hself : w1.heap[b]? = some (.cells (cs.toList.take off ++ vs ++ cs.toList.drop (off + vs.length)).toArray e (0, 0)) := by rw [← hw]; exact setRow_heap w b cs _ e (0, 0) hb
  have hsize : w1.heap.size = w.heap.size := by rw [← hw]; simp
  have hcell : ∀ k o, o < lim k → w1.cell? ⟨k, o, none⟩ = w.cell? ⟨k, o, none⟩ := fun k o ho => by
    have : k ≠ b := fun e => by subst e; omega
    simp [World.cell?, hother k this]
  have hpres : Pres F w lim w1 lim := ⟨by rw [← hw]; rfl, by rw [← hw]; rfl, by rw [← hw]; rfl, by rw [hsize]; exact Nat.le_refl _, fun k hk => ⟨hother k (fun e => by subst e; exact hF hk), rfl⟩, fun _ => Nat.le_refl _, hcell⟩
  refine ⟨?_, hpres⟩
  have hmb : ∀ c, m c = none → c ≠ b := fun c hc e => by subst e; rw [hm] at hc; cases hc
  have hst : ∀ {v x os'}, Rep w lim v x os' → (∀ c ∈ os', ow c ≠ .none) → Rep w1 lim v x os' := fun hR ho => hR.stable (fun _ => Nat.le_refl _) hcell (fun c hc => ⟨hother c (hmb c (h.free c (ho c hc)).2.1), rfl⟩)
  classical
  refine ⟨os, fun k i => if k = b then (if off ≤ i ∧ i < off + xs.length then oss (i - off) else om b i) else om k i,
    fun c => if c ∈ fl then (if hc : ∃ i, i < xs.length ∧ c ∈ oss i then .blk b (off + Classical.choose hc) else .none) else
      match ow c with
      | .fly => .none
      | .blk k i => if k = b ∧ off ≤ i ∧ i < off + xs.length then .none else .blk k i
      | p => p, h.size, h.defers, fun t x hx => ⟨(h.slots t x hx).1, hst (h.slots t x hx).2 (fun c hc => by rw [(h.ownS t x hx).2 c hc]; simp)⟩, fun k o hk => ?_, fun t x hx => ⟨(h.ownS t x hx).1, fun c hc => ?_⟩, fun k o hk i => ?_, ⟨by simp, by simp⟩, fun c hc => ?_, fun k hk => ?_⟩
  · by_cases hkb : k = b
    · subst hkb
      simp only [AMem.upd, ↓reduceIte, Option.some.injEq] at hk ⊢
      subst hk
      refine ⟨?_, hlim, hF⟩
      refine .cells _ e _ _ hself (by simp [hv]; omega) (fun i hi => ?_)
      have hlen : (l.take off ++ xs ++ l.drop (off + xs.length)).length = l.length := by simp; omega
      rw [hlen] at hi
      have hget : ∀ {α : Type} (A B : List α) (dflt : α), off + B.length ≤ A.length → (A.take off ++ B ++ A.drop (off + B.length)).getD i dflt = if off ≤ i ∧ i < off + B.length then B.getD (i - off) dflt else A.getD i dflt := by
        intro α A B dflt hAB
        simp only [List.getD_eq_getElem?_getD]
        by_cases h1 : i < off
        · rw [if_neg (by omega), List.append_assoc, List.getElem?_append_left (by simp; omega), List.getElem?_take, if_pos h1]
        · by_cases h2 : i < off + B.length
          · rw [if_pos ⟨by omega, h2⟩, List.append_assoc, List.getElem?_append_right (by simp; omega), List.getElem?_append_left (by simp; omega)]
            simp [show min off A.length = off from by omega]
          · rw [if_neg (by omega), List.getElem?_append_right (by simp; omega), List.getElem?_drop]
            congr 2
            simp; omega
      have e1 : (cs.toList.take off ++ vs ++ cs.toList.drop (off + vs.length)).toArray.getD i undef = if off ≤ i ∧ i < off + xs.length then vs.getD (i - off) undef else cs.getD i undef := by
        have := hget cs.toList vs undef (by simp [hcl]; omega)
        rw [hv] at this ⊢
        simp only [Array.getD_eq_getD_getElem?, List.getElem?_toArray, List.getD_eq_getElem?_getD, Array.getElem?_toList] at this ⊢
        exact this
      rw [e1, hget l xs .junk hl]
      by_cases hin : off ≤ i ∧ i < off + xs.length
      · rw [if_pos hin, if_pos hin, if_pos hin]
        exact hst (hr _ (by omega)) (fun c hc => by rw [h.ownF.2 c ((hflm c).2 ⟨i - off, by omega, hc⟩)]; simp)
      · rw [if_neg hin, if_neg hin, if_neg hin]
        exact hst (hrl i hi) (fun c hc => by rw [(h.ownM k _ hm i).2 c hc]; simp)
    · simp only [AMem.upd, if_neg hkb] at hk ⊢
      exact ⟨(h.mem k o hk).1.stable (hother k hkb) (fun _ => Nat.le_refl _) hcell (fun i c hc => ⟨hother c (hmb c (h.free c (by rw [(h.ownM k o hk i).2 c hc]; simp)).2.1), rfl⟩), (h.mem k o hk).2⟩
  · have h1 := (h.ownS t x hx).2 c hc
    have h2 : c ∉ fl := fun hf => by rw [h.ownF.2 c hf] at h1; cases h1
    simp [h1, h2]
  · by_cases hkb : k = b
    · subst hkb
      simp only [↓reduceIte]
      by_cases hin : off ≤ i ∧ i < off + xs.length
      · simp only [if_pos hin]
        refine ⟨hnd1 _ (by omega), fun c hc => ?_⟩
        have hcf : c ∈ fl := (hflm c).2 ⟨i - off, by omega, hc⟩
        have hex : ∃ j, j < xs.length ∧ c ∈ oss j := ⟨i - off, by omega, hc⟩
        have hch := Classical.choose_spec hex
        have : Classical.choose hex = i - off := hnd2 _ _ c hch.1 (by omega) hch.2 hc
        simp only [if_pos hcf, dif_pos hex, this]
        congr 1; omega
      · simp only [if_neg hin]
        refine ⟨(h.ownM k _ hm i).1, fun c hc => ?_⟩
        have h1 := (h.ownM k _ hm i).2 c hc
        have h2 : c ∉ fl := fun hf => by rw [h.ownF.2 c hf] at h1; cases h1
        simp [h1, h2, hin]
    · simp only [AMem.upd, if_neg hkb] at hk ⊢
      refine ⟨(h.ownM k o hk i).1, fun c hc => ?_⟩
      have h1 := (h.ownM k o hk i).2 c hc
      have h2 : c ∉ fl := fun hf => by rw [h.ownF.2 c hf] at h1; cases h1
      simp [h1, h2, hkb]
  · have hne : ow c ≠ .none := by
      by_cases h2 : c ∈ fl
      · rw [h.ownF.2 c h2]; simp
      · intro h1; simp [h1, h2] at hc
    have := h.free c hne
    refine ⟨this.1, ?_, by rw [hsize]; exact this.2.2⟩
    simp only [AMem.upd, if_neg (hmb c this.2.1)]
    exact this.2.1
  · rw [hsize] at hk
    have := h.fresh k hk
    refine ⟨this.1, this.2.1, ?_⟩
    simp only [AMem.upd, if_neg (hmb k this.2.2)]
    exact this.2.2

end
end Go.Aw
