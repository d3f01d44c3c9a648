/-
  The abstract layer, part 9: what keeps frames and memory where a step takes, makes and writes.
-/
import Derived.Test.YtaeknjhnpmhcmaaWwH
import Derived.Great.BuildSlice
section
namespace Go.Aw
open Go
section
variable {P : Program} {F : Nat → Prop} {lim lim' : Nat → Nat} {w w' : World} {n : Nat} {fr : Fr} {m : AMem} {ca : Act} {fl : List Nat}
theorem St.flSub (h : St F lim w n fr m ca fl) {fl' : List Nat} (hn : fl'.Nodup) (hs : ∀ c ∈ fl', c ∈ fl) : St F lim w n fr m ca fl' := by
  obtain ⟨os, om, ow, h⟩ := h
  exact ⟨os, om, ow, h.size, h.defers, h.slots, h.mem, h.ownS, h.ownM, ⟨hn, fun c hc => h.ownF.2 c (hs c hc)⟩, h.free, h.fresh⟩
theorem St.flNodup (h : St F lim w n fr m ca fl) : fl.Nodup := by
  obtain ⟨os, om, ow, h⟩ := h
  exact h.ownF.1
theorem St.flKeep (h : St F lim w n fr m ca fl) : ∀ c ∈ fl, ¬ F c ∧ m c = none ∧ c < w.heap.size := by
  obtain ⟨os, om, ow, h⟩ := h
  exact fun c hc => h.free c (by rw [h.ownF.2 c hc]; simp)
theorem nodup_flatMap_range {os : Nat → List Nat} {n : Nat} (h : ((List.range n).flatMap os).Nodup) : (∀ i, i < n → (os i).Nodup) ∧ ∀ i j c, i < n → j < n → c ∈ os i → c ∈ os j → i = j := by
  induction n with
  | zero => exact ⟨fun i hi => absurd hi (Nat.not_lt_zero _), fun i j c hi => absurd hi (Nat.not_lt_zero _)⟩
  | succ n ih =>
    rw [List.range_succ, List.flatMap_append, List.nodup_append] at h
    obtain ⟨h1, h2, h3⟩ := h
    obtain ⟨i1, i2⟩ := ih h1
    simp only [List.flatMap_cons, List.flatMap_nil, List.append_nil] at h2 h3
    have hx : ∀ i c, i < n → c ∈ os i → c ∈ os n → False := fun i c hi hc hn => h3 c (List.mem_flatMap.2 ⟨i, by simpa using hi, hc⟩) c hn rfl
    refine ⟨fun i hi => ?_, fun i j c hi hj hci hcj => ?_⟩
    · by_cases e : i = n
      · subst e; exact h2
      · exact i1 i (by omega)
    · by_cases e : i = n <;> by_cases e' : j = n
      · omega
      · subst e; exact (hx j c (by omega) hcj hci).elim
      · subst e'; exact (hx i c (by omega) hci hcj).elim
      · exact i2 i j c (by omega) (by omega) hci hcj
theorem mem_flatMap_range {os : Nat → List Nat} {n c : Nat} : c ∈ (List.range n).flatMap os ↔ ∃ i, i < n ∧ c ∈ os i := by
  simp [List.mem_flatMap]
theorem rep_cells {v : Value} {x : AV} {os : List Nat} (h : Rep w lim v x os) (hx : x.topOk = true) : ∃ oss : Nat → List Nat, v.cells.size = x.cells.length ∧ (∀ i, i < x.cells.length → Rep w lim (v.cells.getD i undef) (x.cells.getD i .junk) (oss i)) ∧
    os = (List.range x.cells.length).flatMap oss := by
  have single : ∀ (v : Value) (x : AV) (os : List Nat), Rep w lim v x os → v.cells = #[v] → x.cells = [x] → ∃ oss : Nat → List Nat, v.cells.size = x.cells.length ∧ (∀ i, i < x.cells.length → Rep w lim (v.cells.getD i undef) (x.cells.getD i .junk) (oss i)) ∧
      os = (List.range x.cells.length).flatMap oss := fun v x os h hv hc => by
    refine ⟨fun _ => os, by simp [hv, hc], fun i hi => ?_, by simp [hc, List.range_succ]⟩
    have : i = 0 := by simp [hc] at hi; exact hi
    subst this
    simpa [hv, hc] using h
  cases h with
  | agg cs xs oss hs hr => exact ⟨oss, hs, hr, rfl⟩
  | tuple cs xs oss hs hr => simp [AV.topOk] at hx
  | lazyT v x os h => simp [AV.topOk] at hx
  | lazyF x => simp [AV.topOk] at hx
  | junk v => simp [AV.topOk] at hx
  | bool b => exact single _ _ _ (.bool b) rfl rfl
  | int k n lo hi => exact single _ _ _ (.int k n lo hi) rfl rfl
  | str s h => exact single _ _ _ (.str s h) rfl rfl
  | ptr a => exact single _ _ _ (.ptr a) rfl rfl
  | nilptr => exact single _ _ _ .nilptr rfl rfl
  | ref b off l cv h1 h2 h3 => exact single _ _ _ (.ref b off l cv h1 h2 h3) rfl rfl
  | nils own => exact single _ _ _ (.nils own) rfl rfl
  | empty a cap hm => exact single _ _ _ (.empty a cap hm) rfl rfl
  | slice b off n cap sz l cv h1 h2 h3 h4 h5 h6 h7 h8 => exact single _ _ _ (.slice b off n cap sz l cv h1 h2 h3 h4 h5 h6 h7 h8) rfl rfl
  | own b n cap sz l cv cur e h1 h2 h3 h4 h5 h6 h7 h8 h9 h10 h11 => exact single _ _ _ (.own b n cap sz l cv cur e h1 h2 h3 h4 h5 h6 h7 h8 h9 h10 h11) rfl rfl
  | ms a len cap h1 h2 => exact single _ _ _ (.ms a len cap h1 h2) rfl rfl
  | map b => exact single _ _ _ (.map b) rfl rfl
  | nilmap => exact single _ _ _ .nilmap rfl rfl
  | func fn f c fl cl h1 h2 h3 h4 => exact single _ _ _ (.func fn f c fl cl h1 h2 h3 h4) rfl rfl
  | nilfunc => exact single _ _ _ .nilfunc rfl rfl
  | nilS a => exact single _ _ _ (.nilS a) rfl rfl
  | iface t v x h => exact single _ _ _ (.iface t v x h) rfl rfl
  | nilIface => exact single _ _ _ .nilIface rfl rfl
  | errN t => exact single _ _ _ (.errN t) rfl rfl
  | errS t e h lo hi => exact single _ _ _ (.errS t e h lo hi) rfl rfl
  | optN => exact single _ _ _ .optN rfl rfl
  | optS t v => exact single _ _ _ (.optS t v) rfl rfl
theorem rep_one {v : Value} {x : AV} {os : List Nat} (h : Rep w lim v x os) (hx : x.one = true) : v.oneCell' = true := by
  cases h <;> first | rfl | simp [AV.one] at hx
theorem St.storeMem (h : St F lim w n fr m ca fl) {b off : Nat} {l xs : List AV} {vs : List Value} {cs : Array Value} {e : TypeId} {oss : Nat → List Nat} (hm : m b = some (.cells l)) (hb : w.heap[b]? = some (.cells cs e (0, 0)))
    (hl : off + xs.length ≤ l.length) (hv : vs.length = xs.length) (hr : ∀ i, i < xs.length → Rep w lim (vs.getD i undef) (xs.getD i .junk) (oss i)) (hfl : fl = (List.range xs.length).flatMap oss) :
    St F lim (w.setRow b (cs.toList.take off ++ vs ++ cs.toList.drop (off + vs.length)).toArray) n fr (m.upd b (some (.cells (l.take off ++ xs ++ l.drop (off + xs.length))))) ca [] ∧
    Pres F w lim (w.setRow b (cs.toList.take off ++ vs ++ cs.toList.drop (off + vs.length)).toArray) lim := by
  obtain ⟨os, om, ow, h⟩ := h
  have hM := h.mem b _ hm
  obtain ⟨hMr, hlim, hF⟩ := hM
  have hcl : cs.size = l.length := by
    cases hMr with
    | cells cs' e' l' _ hb' hs hr' => rw [hb] at hb'; cases hb'; exact hs
  have hrl : ∀ i, i < l.length → Rep w lim (cs.getD i undef) (l.getD i .junk) (om b i) := by
    cases hMr with
    | cells cs' e' l' _ hb' hs hr' => rw [hb] at hb'; cases hb'; exact hr'
  have hnd : fl.Nodup := h.ownF.1
  rw [hfl] at hnd
  obtain ⟨hnd1, hnd2⟩ := nodup_flatMap_range hnd
  have hflm : ∀ c, c ∈ fl ↔ ∃ i, i < xs.length ∧ c ∈ oss i := fun c => by rw [hfl]; exact mem_flatMap_range
  generalize hw : w.setRow b (cs.toList.take off ++ vs ++ cs.toList.drop (off + vs.length)).toArray = w1
  have hother : ∀ k, k ≠ b → w1.heap[k]? = w.heap[k]? := fun k hk => by rw [← hw]; exact setRow_other w b k _ hk
  have hself : w1.heap[b]? = some (.cells (cs.toList.take off ++ vs ++ cs.toList.drop (off + vs.length)).toArray e (0, 0)) := by rw [← hw]; exact setRow_heap w b cs _ e (0, 0) hb
  have hsize : w1.heap.size = w.heap.size := by rw [← hw]; simp
  have hcell : ∀ k o, o < lim k → w1.cell? ⟨k, o, none⟩ = w.cell? ⟨k, o, none⟩ := fun k o ho => by
    have : k ≠ b := fun e => by subst e; omega
    simp [World.cell?, hother k this]
  have hpres : Pres F w lim w1 lim := ⟨by rw [← hw]; rfl, by rw [← hw]; rfl, by rw [← hw]; rfl, by rw [hsize]; exact Nat.le_refl _, fun k hk => ⟨hother k (fun e => by subst e; exact hF hk), rfl⟩, fun _ => Nat.le_refl _, hcell⟩
  refine ⟨?_, hpres⟩
  have hmb : ∀ c, m c = none → c ≠ b := fun c hc e => by subst e; rw [hm] at hc; cases hc
  have hst : ∀ {v x os'}, Rep w lim v x os' → (∀ c ∈ os', ow c ≠ .none) → Rep w1 lim v x os' := fun hR ho => hR.stable (fun _ => Nat.le_refl _) hcell (fun c hc => ⟨hother c (hmb c (h.free c (ho c hc)).2.1), rfl⟩)
  classical
  refine ⟨os, fun k i => if k = b then (if off ≤ i ∧ i < off + xs.length then oss (i - off) else om b i) else om k i,
    fun c => if c ∈ fl then (if hc : ∃ i, i < xs.length ∧ c ∈ oss i then .blk b (off + Classical.choose hc) else .none) else
      match ow c with
      | .fly => .none
      | .blk k i => if k = b ∧ off ≤ i ∧ i < off + xs.length then .none else .blk k i
      | p => p, h.size, h.defers, fun t x hx => ⟨(h.slots t x hx).1, hst (h.slots t x hx).2 (fun c hc => by rw [(h.ownS t x hx).2 c hc]; simp)⟩, fun k o hk => ?_, fun t x hx => ⟨(h.ownS t x hx).1, fun c hc => ?_⟩, fun k o hk i => ?_, ⟨by simp, by simp⟩, fun c hc => ?_, fun k hk => ?_⟩
  · by_cases hkb : k = b
    · subst hkb
      simp only [AMem.upd, ↓reduceIte, Option.some.injEq] at hk ⊢
      subst hk
      refine ⟨?_, hlim, hF⟩
      refine .cells _ e _ _ hself (by simp [hv]; omega) (fun i hi => ?_)
      have hlen : (l.take off ++ xs ++ l.drop (off + xs.length)).length = l.length := by simp; omega
      rw [hlen] at hi
      have hget : ∀ {α : Type} (A B : List α) (dflt : α), off + B.length ≤ A.length → (A.take off ++ B ++ A.drop (off + B.length)).getD i dflt = if off ≤ i ∧ i < off + B.length then B.getD (i - off) dflt else A.getD i dflt := by
        intro α A B dflt hAB
        simp only [List.getD_eq_getElem?_getD]
        by_cases h1 : i < off
        · rw [if_neg (by omega), List.append_assoc, List.getElem?_append_left (by simp; omega), List.getElem?_take, if_pos h1]
        · by_cases h2 : i < off + B.length
          · rw [if_pos ⟨by omega, h2⟩, List.append_assoc, List.getElem?_append_right (by simp; omega), List.getElem?_append_left (by simp; omega)]
            simp [show min off A.length = off from by omega]
          · rw [if_neg (by omega), List.getElem?_append_right (by simp; omega), List.getElem?_drop]
            congr 2
            simp; omega
      have e1 : (cs.toList.take off ++ vs ++ cs.toList.drop (off + vs.length)).toArray.getD i undef = if off ≤ i ∧ i < off + xs.length then vs.getD (i - off) undef else cs.getD i undef := by
        have := hget cs.toList vs undef (by simp [hcl]; omega)
        rw [hv] at this ⊢
        simp only [Array.getD_eq_getD_getElem?, List.getElem?_toArray, List.getD_eq_getElem?_getD, Array.getElem?_toList] at this ⊢
        exact this
      rw [e1, hget l xs .junk hl]
      by_cases hin : off ≤ i ∧ i < off + xs.length
      · rw [if_pos hin, if_pos hin, if_pos hin]
        exact hst (hr _ (by omega)) (fun c hc => by rw [h.ownF.2 c ((hflm c).2 ⟨i - off, by omega, hc⟩)]; simp)
      · rw [if_neg hin, if_neg hin, if_neg hin]
        exact hst (hrl i hi) (fun c hc => by rw [(h.ownM k _ hm i).2 c hc]; simp)
    · simp only [AMem.upd, if_neg hkb] at hk ⊢
      exact ⟨(h.mem k o hk).1.stable (hother k hkb) (fun _ => Nat.le_refl _) hcell (fun i c hc => ⟨hother c (hmb c (h.free c (by rw [(h.ownM k o hk i).2 c hc]; simp)).2.1), rfl⟩), (h.mem k o hk).2⟩
  · have h1 := (h.ownS t x hx).2 c hc
    have h2 : c ∉ fl := fun hf => by rw [h.ownF.2 c hf] at h1; cases h1
    simp [h1, h2]
  · by_cases hkb : k = b
    · subst hkb
      simp only [↓reduceIte]
      by_cases hin : off ≤ i ∧ i < off + xs.length
      · simp only [if_pos hin]
        refine ⟨hnd1 _ (by omega), fun c hc => ?_⟩
        have hcf : c ∈ fl := (hflm c).2 ⟨i - off, by omega, hc⟩
        have hex : ∃ j, j < xs.length ∧ c ∈ oss j := ⟨i - off, by omega, hc⟩
        have hch := Classical.choose_spec hex
        have : Classical.choose hex = i - off := hnd2 _ _ c hch.1 (by omega) hch.2 hc
        simp only [if_pos hcf, dif_pos hex, this]
        congr 1; omega
      · simp only [if_neg hin]
        refine ⟨(h.ownM k _ hm i).1, fun c hc => ?_⟩
        have h1 := (h.ownM k _ hm i).2 c hc
        have h2 : c ∉ fl := fun hf => by rw [h.ownF.2 c hf] at h1; cases h1
        simp [h1, h2, hin]
    · simp only [AMem.upd, if_neg hkb] at hk ⊢
      refine ⟨(h.ownM k o hk i).1, fun c hc => ?_⟩
      have h1 := (h.ownM k o hk i).2 c hc
      have h2 : c ∉ fl := fun hf => by rw [h.ownF.2 c hf] at h1; cases h1
      simp [h1, h2, hkb]
  · have hne : ow c ≠ .none := by
      by_cases h2 : c ∈ fl
      · rw [h.ownF.2 c h2]; simp
      · intro h1; simp [h1, h2] at hc
    have := h.free c hne
    refine ⟨this.1, ?_, by rw [hsize]; exact this.2.2⟩
    simp only [AMem.upd, if_neg (hmb c this.2.1)]
    exact this.2.1
  · rw [hsize] at hk
    have := h.fresh k hk
    refine ⟨this.1, this.2.1, ?_⟩
    simp only [AMem.upd, if_neg (hmb k this.2.2)]
    exact this.2.2
end
end Go.Aw
end
section
namespace Go.Aw
open Go
def limUp (lim : Nat → Nat) (b k : Nat) : Nat → Nat := fun c => if c = b then k else lim c
section
variable {P : Program} {F : Nat → Prop} {lim lim' : Nat → Nat} {w w' : World} {n : Nat} {fr : Fr} {m : AMem} {ca : Act} {fl : List Nat} {os : Nat → List Nat} {om : Nat → Nat → List Nat} {ow : Nat → Place}
theorem StX.world (h : StX F lim w n fr m ca fl os om ow) (hsz : w.heap.size ≤ w'.heap.size) (hl : ∀ b, lim b ≤ lim' b) (hc : ∀ b o, o < lim b → w'.cell? ⟨b, o, none⟩ = w.cell? ⟨b, o, none⟩)
    (hown : ∀ c, ow c ≠ .none → w'.heap[c]? = w.heap[c]? ∧ lim' c = lim c) (hm : ∀ b, m b ≠ none → w'.heap[b]? = w.heap[b]? ∧ lim' b = lim b)
    (hfresh : ∀ b, w'.heap.size ≤ b → lim' b = 0) : StX F lim' w' n fr m ca fl os om ow := by
  refine ⟨h.size, h.defers, fun t x hx => ⟨(h.slots t x hx).1, (h.slots t x hx).2.stable hl hc (fun c hcm => hown c (by rw [(h.ownS t x hx).2 c hcm]; simp))⟩, fun b o hb => ?_, h.ownS, h.ownM, h.ownF,
    fun c hcn => ⟨(h.free c hcn).1, (h.free c hcn).2.1, Nat.lt_of_lt_of_le (h.free c hcn).2.2 hsz⟩, fun b hb => ⟨hfresh b hb, (h.fresh b (Nat.le_trans hsz hb)).2⟩⟩
  have hmb := hm b (by rw [hb]; simp)
  exact ⟨(h.mem b o hb).1.stable hmb.1 hl hc (fun i c hcm => hown c (by rw [(h.ownM b o hb i).2 c hcm]; simp)), hmb.2.trans (h.mem b o hb).2.1, (h.mem b o hb).2.2⟩
theorem StX.dropFly (h : StX F lim w n fr m ca fl os om ow) : StX F lim w n fr m ca [] os om (fun c => if ow c = .fly then .none else ow c) := by
  refine ⟨h.size, h.defers, h.slots, h.mem, fun t x hx => ⟨(h.ownS t x hx).1, fun c hc => by simp [(h.ownS t x hx).2 c hc]⟩, fun b o hb i => ⟨(h.ownM b o hb i).1, fun c hc => by simp [(h.ownM b o hb i).2 c hc]⟩, ⟨by simp, by simp⟩, fun c hc => ?_, h.fresh⟩
  by_cases h1 : ow c = .fly
  · simp [h1] at hc
  · exact h.free c (by simpa [h1] using hc)
theorem StX.flyOne (h : StX F lim w n fr m ca [] os om ow) {c : Nat} (hc : ow c = .none) (hF : ¬ F c) (hm : m c = none) (hlt : c < w.heap.size) : St F lim w n fr m ca [c] := by
  refine ⟨os, om, fun d => if d = c then .fly else ow d, h.size, h.defers, h.slots, h.mem, fun t x hx => ⟨(h.ownS t x hx).1, fun d hd => ?_⟩, fun b o hb i => ⟨(h.ownM b o hb i).1, fun d hd => ?_⟩, by simp, fun d hd => ?_, h.fresh⟩
  · have := (h.ownS t x hx).2 d hd
    have hne : d ≠ c := fun e => by subst e; rw [hc] at this; cases this
    simpa [hne] using this
  · have := (h.ownM b o hb i).2 d hd
    have hne : d ≠ c := fun e => by subst e; rw [hc] at this; cases this
    simpa [hne] using this
  · by_cases hne : d = c
    · subst hne; exact ⟨hF, hm, hlt⟩
    · exact h.free d (by simpa [hne] using hd)
theorem limUp_same (lim : Nat → Nat) (b k : Nat) : limUp lim b k b = k := by simp [limUp]
theorem limUp_other (lim : Nat → Nat) {b c : Nat} (k : Nat) (h : c ≠ b) : limUp lim b k c = lim c := by simp [limUp, h]
theorem St.allocFly (h : St F lim w n fr m ca fl) (hw : w'.heap = w.heap) (o : Obj) (k : Nat) : St F (limUp lim w.heap.size k) (w'.alloc o) n fr m ca [w.heap.size] := by
  have hlt := fun {b o} (hb : o < lim b) => h.lt_of_lim hb
  have hltm := fun {b} (hb : m b ≠ none) => h.lt_of_mem hb
  obtain ⟨os, om, ow, h⟩ := h
  have hsz : (w'.alloc o).heap.size = w.heap.size + 1 := by simp [hw]
  have hold : ∀ c, c < w.heap.size → (w'.alloc o).heap[c]? = w.heap[c]? := fun c hc => by rw [heapOld w' o c (by rw [hw]; exact hc), hw]
  have hfr := h.fresh _ (Nat.le_refl _)
  have h2 := (h.dropFly).world (w' := w'.alloc o) (lim' := limUp lim w.heap.size k) (by omega) (fun b => ?_) (fun b i hi => ?_) (fun c hc => ?_) (fun b hb => ?_) (fun b hb => ?_)
  · refine h2.flyOne (c := w.heap.size) ?_ hfr.2.1 hfr.2.2 (by omega)
    have : ow w.heap.size = .none := by
      cases e : ow w.heap.size with
      | none => rfl
      | _ => exact absurd (h.free w.heap.size (by rw [e]; simp)).2.2 (Nat.lt_irrefl _)
    simp [this]
  · by_cases hb : b = w.heap.size
    · subst hb; rw [hfr.1]; exact Nat.zero_le _
    · rw [limUp_other _ _ hb]; exact Nat.le_refl _
  · simp [World.cell?, hold b (hlt hi)]
  · have hcl : c < w.heap.size := (h.free c (by by_cases e : ow c = .fly <;> simp_all)).2.2
    exact ⟨hold c hcl, limUp_other _ _ (by omega)⟩
  · exact ⟨hold b (hltm hb), limUp_other _ _ (by have := hltm hb; omega)⟩
  · rw [hsz] at hb
    rw [limUp_other _ _ (by omega)]
    exact (h.fresh b (by omega)).1
theorem Pres.allocUp (h : St F lim w n fr m ca fl) (hw : w'.heap = w.heap) (ho : w'.os = w.os) (ht : w'.tape = w.tape) (hou : w'.output = w.output) (o : Obj) (k : Nat) : Pres F w lim (w'.alloc o) (limUp lim w.heap.size k) := by
  have hold : ∀ c, c < w.heap.size → (w'.alloc o).heap[c]? = w.heap[c]? := fun c hc => by rw [heapOld w' o c (by rw [hw]; exact hc), hw]
  refine ⟨ho, ht, hou, by simp [hw], fun b hb => ⟨hold b (h.lt_of_F hb), limUp_other _ _ (by have := h.lt_of_F hb; omega)⟩, fun b => ?_, fun b i hi => by simp [World.cell?, hold b (h.lt_of_lim hi)]⟩
  by_cases hb : b = w.heap.size
  · subst hb; rw [h.lim_new]; exact Nat.zero_le _
  · rw [limUp_other _ _ hb]; exact Nat.le_refl _
theorem St.growFly {b : Nat} (h : St F lim w n fr m ca [b]) (hsz : w'.heap.size = w.heap.size) (hother : ∀ c, c ≠ b → w'.heap[c]? = w.heap[c]?) (k : Nat) (hk : lim b ≤ k) (hcell : ∀ o, o < lim b → w'.cell? ⟨b, o, none⟩ = w.cell? ⟨b, o, none⟩)
    (ho : w'.os = w.os) (ht : w'.tape = w.tape) (hou : w'.output = w.output) : St F (limUp lim b k) w' n fr m ca [b] ∧ Pres F w lim w' (limUp lim b k) := by
  have hb := h.flKeep b (by simp)
  have hl : ∀ c, lim c ≤ limUp lim b k c := fun c => by
    by_cases e : c = b
    · subst e; rw [limUp_same]; exact hk
    · rw [limUp_other _ _ e]; exact Nat.le_refl _
  have hc : ∀ c o, o < lim c → w'.cell? ⟨c, o, none⟩ = w.cell? ⟨c, o, none⟩ := fun c o hlt => by
    by_cases e : c = b
    · subst e; exact hcell o hlt
    · simp [World.cell?, hother c e]
  refine ⟨?_, ⟨ho, ht, hou, by omega, fun c hc => ⟨hother c (fun e => by subst e; exact hb.1 hc), limUp_other _ _ (fun e => by subst e; exact hb.1 hc)⟩, hl, hc⟩⟩
  obtain ⟨os, om, ow, h⟩ := h
  have hfly : ow b = .fly := h.ownF.2 b (by simp)
  have h2 := (h.dropFly).world (w' := w') (lim' := limUp lim b k) (by omega) hl hc (fun c hc => ?_) (fun c hc => ?_) (fun c hc => ?_)
  · exact h2.flyOne (c := b) (by simp [hfly]) hb.1 hb.2.1 (by omega)
  · have e : c ≠ b := fun e => by subst e; simp [hfly] at hc
    exact ⟨hother c e, limUp_other _ _ e⟩
  · have e : c ≠ b := fun e => by subst e; exact hc hb.2.1
    exact ⟨hother c e, limUp_other _ _ e⟩
  · rw [limUp_other _ _ (by omega)]
    exact (h.fresh c (by omega)).1
def flatVals (cv : Nat → Nat → Value) (n sz : Nat) : List Value := (List.range (n * sz)).map fun i => cv (i / sz) (i % sz)
theorem flatVals_get {cv : Nat → Nat → Value} {n sz i j : Nat} (hi : i < n) (hj : j < sz) : (flatVals cv n sz)[i * sz + j]? = some (cv i j) := by
  have hlt : i * sz + j < n * sz := by
    have : i * sz + sz ≤ n * sz := by rw [← Nat.succ_mul]; exact Nat.mul_le_mul_right _ hi
    omega
  have h1 : (i * sz + j) / sz = i := by rw [Nat.mul_comm, Nat.mul_add_div (by omega), Nat.div_eq_of_lt hj, Nat.add_zero]
  have h2 : (i * sz + j) % sz = j := by rw [Nat.mul_comm, Nat.mul_add_mod, Nat.mod_eq_of_lt hj]
  simp [flatVals, hlt, h1, h2]
theorem flatVals_cells {cv : Nat → Nat → Value} {n sz b off : Nat} (hsz : 0 < sz) (hc : ∀ i j, i < n → j < sz → w.cell? ⟨b, off + i * sz + j, none⟩ = some (cv i j)) :
    ∀ k u, (flatVals cv n sz)[k]? = some u → w.cell? ((⟨b, off, none⟩ : Addr).add k) = some u := by
  intro k u hu
  rw [addr_add]
  have hk : k < n * sz := by
    rcases Nat.lt_or_ge k (n * sz) with h | h
    · exact h
    · simp [flatVals, h] at hu
  simp [flatVals, hk] at hu
  have hi : k / sz < n := Nat.div_lt_of_lt_mul (by rw [Nat.mul_comm]; exact hk)
  have := hc (k / sz) (k % sz) hi (Nat.mod_lt _ hsz)
  rw [show off + k / sz * sz + k % sz = off + k from by rw [Nat.add_assoc, Nat.mul_comm, Nat.div_add_mod]] at this
  rw [this, hu]
theorem rep_own_new {b cnt cap sz : Nat} {l : List AV} {cv : Nat → Nat → Value} {cur : Array Value} {e : TypeId} (hl : l.length = cnt) (hcap : cnt ≤ cap) (hm : cap ≤ maxLen) (hbig : cnt ≤ 140737488355328) (h0 : 0 < cnt ∨ cap = 0)
    (hb : w.heap[b]? = some (.cells cur e (0, 0))) (hcur : cur.size = cap * sz) (hsz : ∀ i, i < cnt → (l.getD i .junk).cells.length = sz) (hlim : cnt * sz = lim b)
    (hget : ∀ i j, i < cnt → j < sz → cur[i * sz + j]? = some (cv i j)) (hr : ∀ i j, i < cnt → j < sz → Rep w lim (cv i j) ((l.getD i .junk).cells.getD j .junk) []) :
    Rep w lim (.slice (some ⟨b, 0, none⟩) cnt cap) (.slice true l) [b] :=
  .own b cnt cap sz l cv cur e hl hcap hm hbig h0 hb hcur hsz hlim (fun i j hi hj => by simp [World.cell?, hb, hget i j hi hj]) hr
theorem cellsOf_info {e : TypeId} {i : TypeInfo} (h : P.info? e = some i) : P.cellsOf e = i.size ∧ P.bytesOf e = i.bytes := by simp [Program.cellsOf, Program.bytesOf, h]
theorem info_of_zero {e : TypeId} (h : (zeroA P e).isSome = true) : ∃ i z, P.info? e = some i ∧ i.zero = some z ∧ cok z = true ∧ zeroA P e = some (cval z) := by
  unfold zeroA at h ⊢
  cases hi : P.info? e with
  | none => simp [hi] at h
  | some i =>
    cases hz : i.zero with
    | none => simp [hi, hz] at h
    | some z =>
      simp only [hi, hz, Option.bind_some] at h ⊢
      by_cases hc : cok z = true
      · exact ⟨i, z, rfl, hz, hc, by simp [hc]⟩
      · simp [hc] at h
theorem cval_cells (v : Value) : (cval v).cells.length = v.cells.size := by
  cases v with
  | agg cs => simp [cval, AV.cells, Value.cells]
  | iface t v => rfl
  | pointer a => cases a <;> rfl
  | slice a n c => cases a <;> rfl
  | map r => cases r <;> rfl
  | _ => rfl
theorem info_of_zOk {e : TypeId} (h : zOk P e = true) : ∃ i z, P.info? e = some i ∧ i.zero = some z ∧ cok z = true ∧ zeroA P e = some (cval z) ∧ z.cells.size = i.size := by
  have hs : (zeroA P e).isSome = true := by
    unfold zOk at h
    cases hz : zeroA P e with
    | none => simp [hz] at h
    | some z => rfl
  obtain ⟨i, z, hi, hz, hc, hA⟩ := info_of_zero hs
  refine ⟨i, z, hi, hz, hc, hA, ?_⟩
  simp only [zOk, hA, beq_iff_eq, cval_cells] at h
  rw [h, (cellsOf_info hi).1]
theorem run_append_zero (t e ty : TypeId) (i : TypeInfo) (ht : P.underlying t = some (.slice e)) (hi : P.info? e = some i) (base : Option Addr) (sl cap : Nat) (hsc : sl ≤ cap) (a : Option Addr) (c : Nat) :
    (Builtin.append_ #[t, t] ty #[.slice base sl cap, .slice a 0 c]).run P w = .ok (.slice base sl cap) w := by
  cases a with
  | none => cases base <;> simp [Builtin.append_, run_underlying ht, sizeOf, typeInfo, hi, Builtin.lenOf, Builtin.firstCells, hsc, storeCells]
  | some a => cases base <;> simp [Builtin.append_, run_underlying ht, sizeOf, typeInfo, hi, Builtin.lenOf, Builtin.firstCells, hsc, storeCells, loadCells, loadCellsFrom]
theorem run_append_room' (t e ty : TypeId) (i : TypeInfo) (ht : P.underlying t = some (.slice e)) (hi : P.info? e = some i) (g sLen sCap : Nat) (cur : Array Value) (e' : TypeId) (hg : w.heap[g]? = some (.cells cur e' (0, 0)))
    (a : Addr) (k c : Nat) (news : List Value) (hl : news.length = k * i.size) (hnews : ∀ j u, news[j]? = some u → w.cell? (a.add j) = some u) (h1 : ∀ u ∈ news, u.oneCell' = true)
    (hroom : sLen + k ≤ sCap) (hfit : sLen * i.size + news.length ≤ cur.size) :
    (Builtin.append_ #[t, t] ty #[.slice (some ⟨g, 0, none⟩) sLen sCap, .slice (some a) k c]).run P w =
      .ok (.slice (some ⟨g, 0, none⟩) (sLen + k) sCap) (w.setRow g (cur.toList.take (sLen * i.size) ++ news ++ cur.toList.drop (sLen * i.size + news.length)).toArray) := by
  have hf := run_firstCells_some (P := P) w i.size k a k c news hl hnews
  have hst := run_storeCells_at P g (sLen * i.size) e' news 0 cur w hg (by simpa using hfit) h1
  simp only [Nat.add_zero] at hst
  simp [Builtin.append_, run_underlying ht, sizeOf, typeInfo, hi, Builtin.lenOf, hroom, hf, Addr.add_lit, hst]
end
end Go.Aw
end
section
namespace Go.Aw
open Go
section
variable {P : Program} {F : Nat → Prop} {lim : Nat → Nat} {w : World} {n : Nat} {fr : Fr} {m : AMem} {ca : Act} {fl : List Nat}
theorem one_cell_of {v : Value} {x : AV} {os : List Nat} {k : Nat} (hx : (x.cells.all AV.one) = true) (hk : k < x.cells.length) (h : Rep w lim v (x.cells.getD k .junk) os) : v.oneCell' = true := by
  refine rep_one h ?_
  rw [List.all_eq_true] at hx
  exact hx _ (by simp [List.getD_eq_getElem?_getD, hk])
theorem getD_append_lt {l l' : List AV} {i : Nat} (h : i < l.length) : (l ++ l').getD i .junk = l.getD i .junk := by
  simp [List.getD_eq_getElem?_getD, List.getElem?_append_left h]
theorem getD_append_ge {l l' : List AV} {i : Nat} (h : l.length ≤ i) : (l ++ l').getD i .junk = l'.getD (i - l.length) .junk := by
  simp [List.getD_eq_getElem?_getD, List.getElem?_append_right h]
theorem mul_lt_of (i j k s : Nat) (hi : i < k) (hj : j < s) : i * s + j < k * s := by
  have : i * s + s ≤ k * s := by rw [← Nat.succ_mul]; exact Nat.mul_le_mul_right _ hi
  omega
theorem grown_list {a b : Nat} {sz : Nat} {A B C : List Value} {fa fb : Nat → Nat → Value} (hA : A.length = a * sz) (hB : B.length = b * sz) (hfa : ∀ i j, i < a → j < sz → A[i * sz + j]? = some (fa i j)) (hfb : ∀ i j, i < b → j < sz → B[i * sz + j]? = some (fb i j)) :
    ∀ i j, i < a + b → j < sz → (A ++ B ++ C)[i * sz + j]? = some (if i < a then fa i j else fb (i - a) j) := by
  intro i j hi hj
  by_cases h : i < a
  · rw [if_pos h, List.append_assoc, List.getElem?_append_left (by rw [hA]; exact mul_lt_of _ _ _ _ h hj)]
    exact hfa i j h hj
  · have hge : a * sz ≤ i * sz := Nat.mul_le_mul_right _ (by omega)
    have hsub : i * sz + j - a * sz = (i - a) * sz + j := by rw [Nat.sub_mul]; omega
    have hlt : (i - a) * sz + j < b * sz := mul_lt_of _ _ _ _ (by omega) hj
    rw [if_neg h, List.getElem?_append_left (by simp [hA, hB]; omega), List.getElem?_append_right (by omega), hA, hsub]
    exact hfb (i - a) j (by omega) hj
set_option maxHeartbeats 1000000 in
theorem append_sound (st : St F lim w n fr m ca fl) {t e ty : TypeId} (ht : P.underlying t = some (.slice e)) (hz : zOk P e = true) (hpos : 0 < P.cellsOf e) {vb vy : Value} {l l' : List AV} (hb : Rep w lim vb (.slice true l) fl) (hy : Rep w lim vy (.slice false l') [])
    (hbytes : (l.length + l'.length) * P.bytesOf e ≤ 140737488355328) (hbig : l.length + l'.length ≤ 140737488355328) (hl : ∀ x ∈ l, x.cells.length = P.cellsOf e) (hl' : ∀ x ∈ l', x.cells.length = P.cellsOf e ∧ x.cells.all AV.one = true) :
    ∃ v' w' lim' os', (Builtin.append_ #[t, t] ty #[vb, vy]).run P w = .ok v' w' ∧ St F lim' w' n fr m ca os' ∧ Rep w' lim' v' (.slice true (l ++ l')) os' ∧ Pres F w lim w' lim' := by
  obtain ⟨i, z, hi, hiz, hck, hzA, hzc⟩ := info_of_zOk hz
  obtain ⟨hcs, hbs⟩ := cellsOf_info hi
  have hmx : ∀ k : Nat, k ≤ 140737488355328 → k ≤ maxLen := fun k hk => by simp only [maxLen]; omega
  have hgl : ∀ (l : List AV) i, i < l.length → l.getD i .junk ∈ l := fun l i hi => by simp [List.getD_eq_getElem?_getD, hi]
  -- nothing comes
  by_cases hnil : l' = []
  · subst hnil
    have hvy : ∃ a c, vy = .slice a 0 c := by
      obtain ⟨a, c, rfl, _⟩ := rep_slice_len hy
      exact ⟨a, c, rfl⟩
    obtain ⟨a, c, rfl⟩ := hvy
    refine ⟨vb, w, lim, fl, ?_, st, by simpa using hb, .refl _ _ _⟩
    cases hb with
    | nils own => exact run_append_zero t e ty i ht hi none 0 0 (Nat.le_refl _) a c
    | own b cnt cap sz l cv cur e' h1 h2 h3 h4 h5 h6 h7 h8 h9 h10 h11 => exact run_append_zero t e ty i ht hi _ cnt cap h2 a c
  have hpos' : 0 < l'.length := List.length_pos_iff.2 hnil
  rcases rep_slice_cases hy with ⟨rfl, _⟩ | ⟨rfl, _⟩ | ⟨yb, yoff, ycap, ysz, ycv, rfl, hycap, hym, hybig, hysz, hylim, hyc, hyr⟩
  · exact (hnil rfl).elim
  · exact (hnil rfl).elim
  have hys : ysz = i.size := by rw [← hysz 0 hpos', (hl' _ (hgl l' 0 hpos')).1, hcs]
  subst hys
  rw [hcs] at hpos
  have hnews := flatVals_cells (w := w) hpos hyc
  have hnl : (flatVals ycv l'.length i.size).length = l'.length * i.size := by simp [flatVals]
  have hget' : ∀ a b, a < l'.length → b < i.size → (flatVals ycv l'.length i.size)[a * i.size + b]? = some (ycv a b) := fun a b ha hb => flatVals_get ha hb
  have hone : ∀ u ∈ flatVals ycv l'.length i.size, u.oneCell' = true := fun u hu => by
    obtain ⟨k, hk, rfl⟩ := List.mem_map.1 hu
    have hk' : k < l'.length * i.size := by simpa using hk
    have hia : k / i.size < l'.length := Nat.div_lt_of_lt_mul (by rw [Nat.mul_comm]; exact hk')
    have hja := Nat.mod_lt k hpos
    exact one_cell_of (hl' _ (hgl l' _ hia)).2 (by rw [hysz _ hia]; exact hja) (hyr _ _ hia hja)
  rw [hbs] at hbytes
  -- the new block of a slice that was moved
  have moved : ∀ (olds : List Value) (k cap' : Nat) (fa : Nat → Nat → Value), olds.length = k * i.size → k = l.length → l.length + l'.length ≤ cap' → cap' ≤ maxLen →
      (∀ a b, a < k → b < i.size → olds[a * i.size + b]? = some (fa a b)) → (∀ a b, a < k → b < i.size → Rep w lim (fa a b) ((l.getD a .junk).cells.getD b .junk) []) →
      (olds.toArray ++ (flatVals ycv l'.length i.size).toArray ++ Builtin.zeroCells z.cells (cap' - (l.length + l'.length))).size = cap' * i.size →
      ∃ lim' os', St F lim' (w.drew.alloc (.cells (olds.toArray ++ (flatVals ycv l'.length i.size).toArray ++ Builtin.zeroCells z.cells (cap' - (l.length + l'.length))) e)) n fr m ca os' ∧
        Rep (w.drew.alloc (.cells (olds.toArray ++ (flatVals ycv l'.length i.size).toArray ++ Builtin.zeroCells z.cells (cap' - (l.length + l'.length))) e)) lim' (.slice (some ⟨w.heap.size, 0, none⟩) (l.length + l'.length) cap') (.slice true (l ++ l')) os' ∧
        Pres F w lim (w.drew.alloc (.cells (olds.toArray ++ (flatVals ycv l'.length i.size).toArray ++ Builtin.zeroCells z.cells (cap' - (l.length + l'.length))) e)) lim' := by
    intro olds k cap' fa ho hk hcap hm hfa hra hsize
    subst hk
    have hP := Pres.allocUp (w' := w.drew) st rfl rfl rfl rfl (.cells (olds.toArray ++ (flatVals ycv l'.length i.size).toArray ++ Builtin.zeroCells z.cells (cap' - (l.length + l'.length))) e) ((l.length + l'.length) * i.size)
    refine ⟨_, _, st.allocFly (w' := w.drew) rfl _ ((l.length + l'.length) * i.size), ?_, hP⟩
    have hG := grown_list (C := (Builtin.zeroCells z.cells (cap' - (l.length + l'.length))).toList) ho hnl hfa hget'
    refine rep_own_new (sz := i.size) (cv := fun a b => if a < l.length then fa a b else ycv (a - l.length) b) (by simp) hcap hm hbig (.inl (by omega)) (heapNew w.drew _) hsize (fun a ha => ?_) (by rw [limUp_same]) (fun a b ha hb => ?_) (fun a b ha hb => ?_)
    · by_cases h : a < l.length
      · rw [getD_append_lt h, hl _ (hgl l a h), hcs]
      · rw [getD_append_ge (by omega), hysz _ (by omega)]
    · rw [← Array.getElem?_toList]
      simp only [Array.toList_append]
      exact hG a b ha hb
    · by_cases h : a < l.length
      · simp only [if_pos h]
        rw [getD_append_lt h]
        exact (hra a b h hb).stable hP.mono hP.cell (by simp)
      · simp only [if_neg h]
        rw [getD_append_ge (by omega)]
        exact (hyr _ b (by omega) hb).stable hP.mono hP.cell (by simp)
  have hzsz : ∀ cap', l.length + l'.length ≤ cap' → ∀ olds : List Value, olds.length = l.length * i.size → (olds.toArray ++ (flatVals ycv l'.length i.size).toArray ++ Builtin.zeroCells z.cells (cap' - (l.length + l'.length))).size = cap' * i.size := fun cap' hc olds ho => by
    simp only [Array.size_append, List.size_toArray, size_zeroCells, hzc, ho, hnl, ← Nat.add_mul]
    congr 1; omega
  have hh63 : ((l.length + l'.length : Nat) : Int) ≤ 9223372036854775807 := by omega
  cases hb with
  | nils own =>
    simp only [List.length_nil, Nat.zero_add] at *
    have hrun := run_append_nil (P := P) w t ty e i z ht hi hiz ⟨yb, yoff, none⟩ l'.length ycap _ hnl hnews hpos' hh63 (by omega)
    have hcap := grownCap_ge w l'.length 0 e
    have hcapm := grownCap_le_maxLen w l'.length 0 e (hmx _ hbig)
    obtain ⟨lim', os', h1, h2, h3⟩ := moved [] 0 (grownCap w l'.length 0 e) (fun _ _ => undef) (by simp) rfl hcap hcapm (fun a b ha => absurd ha (Nat.not_lt_zero _)) (fun a b ha => absurd ha (Nat.not_lt_zero _)) (hzsz _ hcap [] (by simp))
    simp only [List.nil_append] at h1 h2 h3
    exact ⟨_, _, lim', os', hrun, by simpa using h1, by simpa using h2, by simpa using h3⟩
  | own b cnt cap sz l cv cur e' h1 h2 h3 h4 h5 h6 h7 h8 h9 h10 h11 =>
    subst h1
    have hszE : l.length = 0 ∨ sz = i.size := by
      rcases Nat.eq_zero_or_pos l.length with h | h
      · exact .inl h
      · exact .inr (by rw [← h8 0 h, hl _ (hgl l 0 h), hcs])
    have hc' : ∀ a b', a < l.length → b' < i.size → w.cell? ⟨b, a * i.size + b', none⟩ = some (cv a b') := fun a b' ha hb => by
      rcases hszE with h | h
      · omega
      · subst h; exact h10 a b' ha hb
    have hr' : ∀ a b', a < l.length → b' < i.size → Rep w lim (cv a b') ((l.getD a .junk).cells.getD b' .junk) [] := fun a b' ha hb => by
      rcases hszE with h | h
      · omega
      · subst h; exact h11 a b' ha hb
    by_cases hroom : l.length + l'.length ≤ cap
    · have hsz : sz = i.size := by
        rcases hszE with h | h
        · rcases h5 with h5 | h5 <;> omega
        · exact h
      subst hsz
      have hfit : l.length * i.size + (flatVals ycv l'.length i.size).length ≤ cur.size := by
        rw [hnl, h7, ← Nat.add_mul]; exact Nat.mul_le_mul_right _ hroom
      have hrun := run_append_room' (P := P) (w := w) t e ty i ht hi b l.length cap cur e' h6 ⟨yb, yoff, none⟩ l'.length ycap _ hnl hnews hone hroom hfit
      generalize hA : (cur.toList.take (l.length * i.size) ++ flatVals ycv l'.length i.size ++ cur.toList.drop (l.length * i.size + (flatVals ycv l'.length i.size).length)).toArray = A at hrun
      have hself : (w.setRow b A).heap[b]? = some (.cells A e' (0, 0)) := setRow_heap w b cur A e' (0, 0) h6
      have hcur : ∀ k, k < l.length * i.size → A[k]? = cur[k]? := fun k hk => by
        rw [← hA]
        have hle : l.length * i.size ≤ cur.size := by omega
        rw [List.getElem?_toArray, List.append_assoc, List.getElem?_append_left (by simp; omega), List.getElem?_take, if_pos hk, Array.getElem?_toList]
      obtain ⟨s1, s2⟩ := st.growFly (w' := w.setRow b A) (by simp) (fun c hc => setRow_other w b c A hc) ((l.length + l'.length) * i.size) (by rw [← h9, Nat.add_mul]; omega) (fun o ho => by
        rw [← h9] at ho
        simp [World.cell?, hself, h6, hcur o ho]) rfl rfl rfl
      refine ⟨_, _, _, [b], hrun, s1, ?_, s2⟩
      refine rep_own_new (sz := i.size) (cv := fun a b => if a < l.length then cv a b else ycv (a - l.length) b) (by simp) hroom h3 hbig (.inl (by omega)) hself (by rw [← hA]; simp; omega) (fun a ha => ?_) (by rw [limUp_same]) (fun a b' ha hb => ?_) (fun a b' ha hb => ?_)
      · by_cases h : a < l.length
        · rw [getD_append_lt h]; exact h8 a h
        · rw [getD_append_ge (by omega), hysz _ (by omega)]
      · rw [← hA, List.getElem?_toArray]
        refine grown_list (by simp; omega) hnl (fun a b' ha hb => ?_) hget' a b' ha hb
        have := hc' a b' ha hb
        simp only [World.cell?, h6] at this
        rw [List.getElem?_take, if_pos (mul_lt_of _ _ _ _ ha hb), Array.getElem?_toList]
        exact this
      · by_cases h : a < l.length
        · simp only [if_pos h]
          rw [getD_append_lt h]
          exact (hr' a b' h hb).stable s2.mono s2.cell (by simp)
        · simp only [if_neg h]
          rw [getD_append_ge (by omega)]
          exact (hyr _ b' (by omega) hb).stable s2.mono s2.cell (by simp)
    · have holds := flatVals_cells (w := w) (cv := cv) (n := l.length) (sz := i.size) (b := b) (off := 0) hpos (fun a b' ha hb => by rw [Nat.zero_add]; exact hc' a b' ha hb)
      have hol : (flatVals cv l.length i.size).length = l.length * i.size := by simp [flatVals]
      have hfits := growslice_fits (need := l.length + l'.length) (old := cap) (bytes := i.bytes) (by omega) hbytes
      have hrun := run_append_grow (P := P) w t ty e i z ht hi hiz ⟨b, 0, none⟩ l.length cap _ hol holds ⟨yb, yoff, none⟩ l'.length ycap _ hnl hnews (by omega) hh63 hfits
      have hcap := grownCap_ge w (l.length + l'.length) cap e
      have hcapm := grownCap_le_maxLen w (l.length + l'.length) cap e (hmx _ hbig)
      obtain ⟨lim', os', s1, s2, s3⟩ := moved (flatVals cv l.length i.size) l.length (grownCap w (l.length + l'.length) cap e) cv hol rfl hcap hcapm (fun a b' ha hb => flatVals_get ha hb) hr' (hzsz _ hcap _ hol)
      exact ⟨_, _, lim', os', hrun, s1, s2, s3⟩
end
end Go.Aw
end
section
namespace Go.Aw
open Go
section
variable {P : Program} {F : Nat → Prop} {lim : Nat → Nat} {w : World} {n : Nat} {fr : Fr} {m : AMem} {ca : Act} {fl : List Nat}
def CellsR (w : World) (lim : Nat → Nat) (cs : Array Value) (xs : List AV) : Prop := cs.size = xs.length ∧ ∀ i, i < xs.length → Rep w lim (cs.getD i undef) (xs.getD i .junk) []
theorem flat_nil {oss : Nat → List Nat} {k : Nat} (h : [] = (List.range k).flatMap oss) : ∀ i, i < k → oss i = [] := fun i hi => flatMap_nil_iff h.symm i hi
theorem rep_cellsR {v : Value} {x : AV} (h : Rep w lim v x []) (hx : x.topOk = true) : CellsR w lim v.cells x.cells := by
  obtain ⟨oss, h1, h2, h3⟩ := rep_cells h hx
  exact ⟨h1, fun i hi => by have := h2 i hi; rwa [flat_nil h3 i hi] at this⟩
theorem splice_getD {α : Type} (A B : List α) (dflt : α) (off i : Nat) (hAB : off + B.length ≤ A.length) : (A.take off ++ B ++ A.drop (off + B.length)).getD i dflt = if off ≤ i ∧ i < off + B.length then B.getD (i - off) dflt else A.getD i dflt := by
  simp only [List.getD_eq_getElem?_getD]
  by_cases h1 : i < off
  · rw [if_neg (by omega), List.append_assoc, List.getElem?_append_left (by simp; omega), List.getElem?_take, if_pos h1]
  · by_cases h2 : i < off + B.length
    · rw [if_pos ⟨by omega, h2⟩, List.append_assoc, List.getElem?_append_right (by simp; omega), List.getElem?_append_left (by simp; omega)]
      simp [show min off A.length = off from by omega]
    · rw [if_neg (by omega), List.getElem?_append_right (by simp; omega), List.getElem?_drop]
      congr 2
      simp; omega
theorem fill_sound (place : Nat → Option (Nat × Nat)) : ∀ (ps : List (Nat × AV)) (vps : List (Nat × Value)) (cs : Array Value) (xs ys : List AV), fillA place xs ps = some ys → CellsR w lim cs xs → vps.map (·.1) = ps.map (·.1) →
    (∀ i (hi : i < ps.length), CellsR w lim (vps.getD i (0, undef)).2.cells (ps[i]).2.cells) → ∃ ds, Instr.fill place cs vps = some ds ∧ CellsR w lim ds ys := by
  intro ps
  induction ps with
  | nil =>
    intro vps cs xs ys h hc hm hp
    have : vps = [] := by simpa using hm
    subst this
    simp only [fillA, Option.some.injEq] at h
    subst h
    exact ⟨cs, rfl, hc⟩
  | cons p ps ih =>
    intro vps cs xs ys h hc hm hp
    cases vps with
    | nil => simp at hm
    | cons q vps =>
      obtain ⟨i, x⟩ := p
      obtain ⟨j, v⟩ := q
      simp only [List.map_cons, List.cons.injEq] at hm
      obtain ⟨rfl, hm⟩ := hm
      have hx := hp 0 (by simp)
      simp only [List.getD_cons_zero, List.getElem_cons_zero] at hx
      simp only [fillA] at h
      cases hpl : place j with
      | none => simp [hpl] at h
      | some os =>
        obtain ⟨off, size⟩ := os
        simp only [hpl] at h
        split at h
        · next hcond =>
          obtain ⟨hs, hle⟩ := hcond
          have hvs : v.cells.size = size := hx.1.trans hs
          simp only [Instr.fill, hpl]
          rw [if_neg (by simp [hvs, hc.1]; omega)]
          refine ih vps _ _ ys h ?_ hm (fun k hk => by have := hp (k + 1) (by simp; omega); simpa using this)
          obtain ⟨f1, f2⟩ := Great.foldl_set off v.cells.toList 0 cs
          have hfold : (v.cells.zipIdx.foldl (fun cs (c, j) => cs.setIfInBounds (off + j) c) cs) = ((v.cells.toList.zipIdx 0).foldl (fun cs (x : Value × Nat) => cs.setIfInBounds (off + x.2) x.1) cs) := by
            rw [← Array.foldl_toList]; simp
          rw [hfold]
          refine ⟨by rw [f1, hc.1]; simp; omega, fun k hk => ?_⟩
          have hlen : (xs.take off ++ x.cells ++ xs.drop (off + size)).length = xs.length := by simp; omega
          rw [hlen] at hk
          rw [← hs, splice_getD xs x.cells .junk off k (by omega)]
          have e1 : ((v.cells.toList.zipIdx 0).foldl (fun cs (x : Value × Nat) => cs.setIfInBounds (off + x.2) x.1) cs).getD k undef = if off ≤ k ∧ k < off + x.cells.length then v.cells.getD (k - off) undef else cs.getD k undef := by
            rw [Array.getD_eq_getD_getElem?, f2 k]
            by_cases hin : off ≤ k ∧ k < off + x.cells.length
            · rw [if_pos (by simp [hvs, hc.1]; omega), if_pos hin]
              simp [Array.getD_eq_getD_getElem?]
            · rw [if_neg (by simp [hvs]; omega), if_neg hin, Array.getD_eq_getD_getElem?]
          rw [e1]
          by_cases hin : off ≤ k ∧ k < off + x.cells.length
          · rw [if_pos hin, if_pos hin]; exact hx.2 _ (by omega)
          · rw [if_neg hin, if_neg hin]; exact hc.2 k hk
        · cases h
theorem zero_run {t : TypeId} {z : AV} (h : zeroA P t = some z) : ∃ v, (zeroValue t).run P w = .ok v w ∧ cok v = true ∧ z = cval v ∧ Rep w lim v z [] := by
  obtain ⟨i, v, h1, h2, h3, h4⟩ := info_of_zero (P := P) (e := t) (by rw [h]; rfl)
  rw [h] at h4
  have hz : z = cval v := by simpa using h4
  exact ⟨v, by simp [zeroValue, typeInfo, h1, h2], h3, hz, by rw [hz]; exact rep_cval h3⟩
theorem run_places (fs : List Field) (h : ∀ f ∈ fs, isU P f.type = true) : (fs.mapM fun f => do pure (f.offset, ← sizeOf f.type) : Sem (List (Nat × Nat))).run P w = .ok (fs.map fun f => (f.offset, P.cellsOf f.type)) w := by
  induction fs with
  | nil => rfl
  | cons f fs ih =>
    rw [List.mapM_cons]
    have hrest := ih (fun g hg => h g (by simp [hg]))
    simp only [Sem.run_bind, run_size (h f (by simp)), Result.andThen_ok, Sem.run_pure, hrest, List.map_cons]
theorem build_sound {t : TypeId} {fs : Array Field} {z : AV} {cells : List AV} (hu : P.underlying t = some (.struct fs)) (hz : zeroA P t = some z) (hzt : z.topOk = true) (hfs : ∀ f ∈ fs.toList, isU P f.type = true)
    {parts : Array (Nat × Operand)} {a : Operand → AV} (hf : fillA (fun i => (fs[i]?).map fun f => (f.offset, P.cellsOf f.type)) z.cells (parts.toList.map fun p => (p.1, a p.2)) = some cells)
    (hr : ∀ p ∈ parts.toList, Rep w lim (ca.eval p.2) (a p.2) []) (ht : ∀ p ∈ parts.toList, (a p.2).topOk = true) :
    ∃ v, (Instr.build t (parts.map fun (i, x) => (i, ca.eval x))).run P w = .ok v w ∧ Rep w lim v (.agg cells) [] := by
  obtain ⟨vz, hz1, hz2, rfl, hz3⟩ := zero_run (w := w) (lim := lim) hz
  have hplace : ((fs.mapM fun f => do pure (f.offset, ← sizeOf f.type) : Sem (Array (Nat × Nat)))).run P w = .ok (fs.map fun f => (f.offset, P.cellsOf f.type)) w := by
    have := run_places (P := P) (w := w) fs.toList hfs
    rw [← Array.toList_mapM] at this
    simp only [Sem.run_map] at this
    cases hh : (fs.mapM fun f => do pure (f.offset, ← sizeOf f.type) : Sem (Array (Nat × Nat))).run P w with
    | ok a w' =>
      rw [hh] at this
      simp only [Result.andThen_ok, Result.ok.injEq] at this
      obtain ⟨h1, rfl⟩ := this
      congr 1
      apply Array.ext'
      simpa using h1
    | halt e w' => rw [hh] at this; simp at this
  obtain ⟨ds, h1, h2⟩ := fill_sound (w := w) (lim := lim) _ _ (parts.toList.map fun p => (p.1, ca.eval p.2)) vz.cells _ _ hf (rep_cellsR hz3 hzt) (by simp) (fun i hi => by
    simp only [List.length_map] at hi
    have hmem : parts.toList[i] ∈ parts.toList := List.getElem_mem hi
    have := rep_cellsR (hr _ hmem) (ht _ hmem)
    have e1 : (parts.toList.map fun p => (p.1, ca.eval p.2)).getD i (0, undef) = (parts.toList[i].1, ca.eval parts.toList[i].2) := by
      rw [List.getD_eq_getElem?_getD, List.getElem?_map, List.getElem?_eq_getElem hi]; rfl
    have e2 : (parts.toList.map fun p => (p.1, a p.2))[i] = (parts.toList[i].1, a parts.toList[i].2) := by rw [List.getElem_map]
    rw [e1, e2]; exact this)
  refine ⟨.agg ds, ?_, ?_⟩
  · have hpl : (fun (i : Nat) => (fs.map fun (f : Field) => (f.offset, P.cellsOf f.type))[i]?) = fun (i : Nat) => (fs[i]?).map fun (f : Field) => (f.offset, P.cellsOf f.type) := by funext i; simp
    have hparts : (parts.map fun (i, x) => (i, ca.eval x)).toList = parts.toList.map fun p => (p.1, ca.eval p.2) := by simp
    simp only [Instr.build, Sem.run_bind, hz1, Result.andThen_ok, run_und hu, hplace, hpl, hparts, h1]
    rfl
  · have := Rep.agg (w := w) (lim := lim) ds cells (fun _ => []) h2.1 h2.2
    rw [flatMap_nil] at this
    exact this
theorem zipIdx_of_range {β : Type} (l : List (Nat × β)) (h : l.map (·.1) = List.range l.length) : l = ((l.map (·.2)).zipIdx 0).map fun x => (x.2, x.1) := by
  apply List.ext_getElem?
  intro i
  have hi := congrArg (·[i]?) h
  simp only [List.getElem?_map] at hi
  by_cases hlt : i < l.length
  · simp [hlt] at hi ⊢
    exact Prod.ext hi rfl
  · simp [hlt]
set_option maxHeartbeats 1000000 in
theorem buildSlice_sound (st : St F lim w n fr m ca fl) {t e : TypeId} {len : Nat} {parts : Array (Nat × Operand)} {a : Operand → AV} (hu : P.underlying t = some (.slice e)) (hpos : 0 < P.cellsOf e) (hz : zOk P e = true) (hsmall : len * P.cellsOf e ≤ 16777216)
    (hidx : parts.toList.map (·.1) = List.range len) (hr : ∀ p ∈ parts.toList, Rep w lim (ca.eval p.2) (a p.2) []) (ht : ∀ p ∈ parts.toList, (a p.2).topOk = true ∧ (a p.2).cells.length = P.cellsOf e) :
    ∃ v w' lim' os, (Instr.buildSlice t len (parts.map fun (i, x) => (i, ca.eval x))).run P w = .ok v w' ∧ St F lim' w' n fr m ca os ∧ Rep w' lim' v (.slice true (parts.toList.map fun p => a p.2)) os ∧ Pres F w lim w' lim' := by
  obtain ⟨i, z, hi, hiz, hck, hzA, hzc⟩ := info_of_zOk hz
  obtain ⟨hcs, hbs⟩ := cellsOf_info hi
  rw [hcs] at hpos hsmall ht
  have hlen : parts.toList.length = len := by have := congrArg List.length hidx; simpa using this
  have hsz : ∀ p ∈ parts.toList, (ca.eval p.2).cells.size = i.size := fun p hp => by rw [(rep_cellsR (hr p hp) (ht p hp).1).1]; exact (ht p hp).2
  by_cases h0 : len = 0
  · subst h0
    have hp0 : parts = #[] := by simpa using hlen
    subst hp0
    have hP := Pres.allocUp (w' := w) st rfl rfl rfl rfl (.cells #[] e) 0
    refine ⟨.slice (some ⟨w.heap.size, 0, none⟩) 0 0, w.alloc (.cells #[] e), _, _, by
      have hr0 : Array.range 0 = #[] := by apply Array.ext' ; simp
      simp [Instr.buildSlice, run_und hu, sizeOf, typeInfo, hi, Instr.fill, newRow, hr0], st.allocFly (w' := w) rfl _ 0, ?_, hP⟩
    exact rep_own_new (sz := i.size) (cv := fun _ _ => undef) (by simp) (Nat.le_refl _) (by simp [maxLen]) (by omega) (.inr rfl) (heapNew w _) (by simp) (fun _ h => by omega) (by rw [limUp_same]; simp) (fun _ _ h => by omega) (fun _ _ h => by omega)
  · have hparts : (parts.map fun (i, x) => (i, ca.eval x)).toList = (((parts.toList.map fun p => ca.eval p.2)).zipIdx 0).map fun x => (x.2, x.1) := by
      have h1 : (parts.toList.map fun p => (p.1, ca.eval p.2)).map (·.1) = List.range (parts.toList.map fun p => (p.1, ca.eval p.2)).length := by
        simp only [List.map_map, List.length_map, hlen]
        exact hidx
      have h2 := zipIdx_of_range _ h1
      simp only [List.map_map] at h2
      have e : (parts.map fun (i, x) => (i, ca.eval x)).toList = parts.toList.map fun p => (p.1, ca.eval p.2) := by simp
      rw [e]; exact h2
    have hfill := Great.fill_whole (s := i.size) hpos (parts.toList.map fun p => ca.eval p.2) ((Array.range (len * i.size)).map (z.cells[· % z.cells.size]!)) (fun v hv => by
      obtain ⟨p, hp, rfl⟩ := List.mem_map.1 hv; exact hsz p hp) (by simp [hlen])
    rw [← hparts] at hfill
    have hne : ¬ len * i.size = 0 := by
      have := Nat.mul_pos (Nat.pos_of_ne_zero h0) hpos; omega
    have hrun := run_buildSlice (P := P) w t e len (parts.map fun (i, x) => (i, ca.eval x)) _ i z hu hi hiz (by omega) hne hfill
    have hP := Pres.allocUp (w' := w) st rfl rfl rfl rfl (.cells ((parts.toList.map fun p => ca.eval p.2).flatMap fun v => v.cells.toList).toArray e) (len * i.size)
    refine ⟨_, _, _, _, hrun, st.allocFly (w' := w) rfl _ (len * i.size), ?_, hP⟩
    have hel : ∀ k, k < len → (parts.toList.map fun p => a p.2).getD k .junk = a (parts.toList.getD k (0, .tmp 0)).2 ∧ (parts.toList.map fun p => ca.eval p.2)[k]? = some (ca.eval (parts.toList.getD k (0, .tmp 0)).2) ∧ parts.toList.getD k (0, .tmp 0) ∈ parts.toList := fun k hk => by
      have hk' : k < parts.toList.length := by omega
      have hk2 : k < parts.size := by simpa using hk'
      simp [List.getD_eq_getElem?_getD, hk2]
    have hlenle : len ≤ len * i.size := Nat.le_mul_of_pos_right _ hpos
    refine rep_own_new (sz := i.size) (cv := fun k j => (ca.eval (parts.toList.getD k (0, .tmp 0)).2).cells.getD j undef) (by simp only [List.length_map]; exact hlen) (Nat.le_refl _) (by simp only [maxLen]; omega) (by omega) (.inl (by omega)) (heapNew w _) ?_ (fun k hk => ?_) (by rw [limUp_same]) (fun k j hk hj => ?_) (fun k j hk hj => ?_)
    · have : ∀ (l : List Value), (∀ v ∈ l, v.cells.size = i.size) → (l.flatMap fun v => v.cells.toList).length = l.length * i.size := fun l hl => by
        induction l with
        | nil => simp
        | cons v l ih => rw [List.flatMap_cons, List.length_append, ih (fun u hu => hl u (by simp [hu]))]; simp [hl v (by simp), Nat.add_mul, Nat.add_comm]
      rw [List.size_toArray, this _ (fun v hv => by obtain ⟨p, hp, rfl⟩ := List.mem_map.1 hv; exact hsz p hp), List.length_map, hlen]
    · obtain ⟨h1, h2, h3⟩ := hel k hk
      rw [h1]; exact (ht _ h3).2
    · obtain ⟨h1, h2, h3⟩ := hel k hk
      rw [List.getElem?_toArray, Great.flat_get hpos _ (fun v hv => by obtain ⟨p, hp, rfl⟩ := List.mem_map.1 hv; exact hsz p hp)]
      have e1 : (k * i.size + j) / i.size = k := by rw [Nat.mul_comm, Nat.mul_add_div hpos, Nat.div_eq_of_lt hj, Nat.add_zero]
      have e2 : (k * i.size + j) % i.size = j := by rw [Nat.mul_comm, Nat.mul_add_mod, Nat.mod_eq_of_lt hj]
      rw [e1, e2, h2, Option.bind_some]
      have : j < (ca.eval (parts.toList.getD k (0, .tmp 0)).2).cells.size := by rw [hsz _ h3]; exact hj
      simp only [Array.getD_eq_getD_getElem?, Array.getElem?_eq_getElem this, Option.getD_some]
    · obtain ⟨h1, h2, h3⟩ := hel k hk
      rw [h1]
      exact ((rep_cellsR (hr _ h3) (ht _ h3).1).2 j (by rw [(ht _ h3).2]; exact hj)).stable hP.mono hP.cell (by simp)
theorem St.takeMem (h : St F lim w n fr m ca []) {b off : Nat} {l : List AV} (hm : m b = some (.cells l)) (ho : off < l.length) :
    ∃ v os, w.cell? ⟨b, off, none⟩ = some v ∧ St F lim w n fr (m.upd b (some (.cells (l.set off (l.getD off .junk).plain)))) ca os ∧ Rep w lim v (l.getD off .junk) os := by
  obtain ⟨os, om, ow, h⟩ := h
  have hM := h.mem b _ hm
  obtain ⟨hMr, hlim, hF⟩ := hM
  cases hMr with
  | cells cs e _ _ hb hs hr =>
    have hoc : off < cs.size := by omega
    refine ⟨cs.getD off undef, om b off, by simp [World.cell?, hb, Array.getD, hoc], ⟨os, fun k i => if k = b ∧ i = off then [] else om k i, fun c => if ow c = .blk b off then .fly else if ow c = .fly then .none else ow c, h.size, h.defers, h.slots, fun k o hk => ?_, fun t x hx => ⟨(h.ownS t x hx).1, fun c hc => ?_⟩, fun k o hk i => ?_, ?_, fun c hc => ?_, fun k hk => ?_⟩, hr off ho⟩
    · by_cases hkb : k = b
      · subst hkb
        simp only [AMem.upd, ↓reduceIte, Option.some.injEq] at hk ⊢
        subst hk
        refine ⟨.cells cs e _ _ hb (by simp [hs]) (fun i hi => ?_), hlim, hF⟩
        simp only [List.length_set] at hi
        by_cases hio : i = off
        · subst hio
          simp only [List.getD_eq_getElem?_getD, List.getElem?_set, ho, if_true, Option.getD_some, and_self]
          have := (hr i hi).plain
          simpa [List.getD_eq_getElem?_getD] using this
        · have : ¬ off = i := fun e => hio e.symm
          simp only [List.getD_eq_getElem?_getD, List.getElem?_set, this, if_false, hio, and_false]
          have := hr i hi
          simpa [List.getD_eq_getElem?_getD] using this
      · simp only [AMem.upd, if_neg hkb] at hk ⊢
        simpa [hkb] using h.mem k o hk
    · have := (h.ownS t x hx).2 c hc
      simp [this]
    · by_cases hkb : k = b
      · subst hkb
        by_cases hio : i = off
        · simp [hio]
        · refine ⟨by simpa [hio] using (h.ownM k _ hm i).1, fun c hc => ?_⟩
          have := (h.ownM k _ hm i).2 c (by simpa [hio] using hc)
          simp [this, hio]
      · simp only [AMem.upd, if_neg hkb] at hk
        refine ⟨by simpa [hkb] using (h.ownM k o hk i).1, fun c hc => ?_⟩
        have := (h.ownM k o hk i).2 c (by simpa [hkb] using hc)
        simp [this, hkb]
    · exact ⟨(h.ownM b _ hm off).1, fun c hc => by simp [(h.ownM b _ hm off).2 c hc]⟩
    · have hne : ow c ≠ .none := by
        intro e; simp [e] at hc
      have := h.free c hne
      refine ⟨this.1, ?_, this.2.2⟩
      have hcb : c ≠ b := fun e => by subst e; rw [hm] at this; cases this.2.1
      simp only [AMem.upd, if_neg hcb]
      exact this.2.1
    · have := h.fresh k hk
      refine ⟨this.1, this.2.1, ?_⟩
      have hcb : k ≠ b := fun e => by subst e; rw [hm] at this; cases this.2.2
      simp only [AMem.upd, if_neg hcb]
      exact this.2.2
end
end Go.Aw
end
section
namespace Go.Aw
open Go
section
variable {P : Program} {F : Nat → Prop} {lim : Nat → Nat} {w : World} {n : Nat} {fr : Fr} {m : AMem} {ca : Act} {fl : List Nat}
theorem strip_one (s : Nat) : fr.strip [s] = fr.put s (rawOf fr s).plain := rfl
theorem St.takeRaw (h : St F lim w n fr m ca []) (s : Nat) (hs : s < n) : ∃ os, St F lim w n (fr.strip [s]) m ca os ∧ Rep w lim (ca.tmps.getD s undef) (rawOf fr s) os := by
  cases hg : fr.get s with
  | some x =>
    obtain ⟨os, h1, h2⟩ := h.take hg
    refine ⟨os, ?_, ?_⟩
    · rw [strip_one]; simpa [rawOf, hg] using h1
    · simpa [rawOf, hg] using h2
  | none =>
    refine ⟨[], ?_, by simp [rawOf, hg]; exact .junk _⟩
    rw [strip_one]
    refine h.sub fun t x hx => ?_
    rw [Fr.get_put] at hx
    by_cases e : s = t
    · subst e
      simp [rawOf, hg, AV.plain] at hx
      exact .inr ⟨hx.symm, hs⟩
    · rw [if_neg e] at hx; exact .inl hx
theorem St.takeOpd (h : St F lim w n fr m ca []) (y : Operand) (hy : opdOk y = true) (hs : ∀ t, y = .tmp t → t < n) : ∃ os, St F lim w n (fr.strip (slotOf y)) m ca os ∧ Rep w lim (ca.eval y) (evR (rawOf fr) y) os := by
  cases y with
  | tmp t => exact h.takeRaw t (hs t rfl)
  | const v => exact ⟨[], h, rep_cval hy⟩
  | global g => exact ⟨[], h, .ptr _⟩
  | func f => exact ⟨[], h, .func _ #[] #[] [] [] rfl rfl (by simp) (by simp)⟩
theorem evP_rep (h : St F lim w n fr m ca fl) {x : Operand} (hx : opdOk x = true) : Rep w lim (ca.eval x) (evP (rawOf fr) x) [] := by
  rw [evP_eq]
  obtain ⟨_, hr, rfl⟩ := ev_rep h hx
  exact hr
def ValOk (P : Program) (F : Nat → Prop) (lim : Nat → Nat) (w : World) (n : Nat) (ca : Act) (o : Oper) (fr' : Fr) (m' : AMem) (x : AV) : Prop :=
  ∃ v w' lim' os, (execOp ca.eval o).run P w = .ok (.value v) w' ∧ St F lim' w' n fr' m' ca os ∧ Rep w' lim' v x os ∧ Pres F w lim w' lim'
theorem ares_qv {o : Oper} {side : Prop} {x : AV} (h : qv P m (evP (rawOf fr)) o.op = some (side, x)) (hs : side) (st : St F lim w n fr m ca []) (hk : okOper n o = true) : ValOk P F lim w n ca o fr m x := by
  obtain ⟨v, h1, h2⟩ := qv_sound (P := P) (w := w) (lim := lim) h hs (ca := ca) (fun y hy => evP_rep st (okOper_opd hk y hy)) st.memRep
  exact ⟨v, w, lim, [], h1, st, h2, .refl _ _ _⟩
theorem ares_default {stl : List Nat} {o : Oper} {side : Prop} {ss : List Nat} {m' : AMem} {x : AV} (h : (match qv P m (evP (rawOf fr)) o.op with | some (side, x) => ARes.val side [] m x | none => .stuck) = .val side ss m' x) (hs : side)
    (st : St F lim w n fr m ca []) (hk : okOper n o = true) : ValOk P F lim w n ca o (fr.strip ss) m' x := by
  cases hq : qv P m (evP (rawOf fr)) o.op with
  | none => simp [hq] at h
  | some p =>
    obtain ⟨sd, y⟩ := p
    simp only [hq, ARes.val.injEq] at h
    obtain ⟨rfl, rfl, rfl, rfl⟩ := h
    exact ares_qv hq hs st hk
theorem tuple_part {v : Value} {l : List AV} {os : List Nat} (h : Rep w lim v (.tuple l) os) {i : Nat} (hi : i < l.length) : ∃ cs : Array Value, ∃ osi : List Nat, v = .tuple cs ∧ i < cs.size ∧ Rep w lim (cs.getD i undef) (l.getD i .junk) osi ∧ (∀ c ∈ osi, c ∈ os) ∧ (os.Nodup → osi.Nodup) := by
  cases h with
  | tuple cs _ oss h hr => exact ⟨cs, oss i, rfl, by omega, hr i hi, fun c hc => mem_flatMap_range.2 ⟨i, hi, hc⟩, fun hn => (nodup_flatMap_range hn).1 i hi⟩
theorem okOper_tmp {o : Oper} {t : Nat} (hk : okOper n o = true) (hn : (o.op.operands.toList.all fun y => match y with | .tmp t => decide (t < n) | _ => true) = true) (ht : Operand.tmp t ∈ o.op.operands.toList) : t < n := by
  rw [List.all_eq_true] at hn
  simpa using hn _ ht
set_option maxHeartbeats 2000000 in
theorem ares_val {stl : List Nat} {o : Oper} {side : Prop} {ss : List Nat} {m' : AMem} {x : AV} (h : ares P m (rawOf fr) stl o.dst o.op = .val side ss m' x) (hs : side) (st : St F lim w n fr m ca []) (hk : okOper n o = true)
    (hn : (o.op.operands.toList.all fun y => match y with | .tmp t => decide (t < n) | _ => true) = true) : ValOk P F lim w n ca o (fr.strip ss) m' x := by
  have ht : ∀ t, Operand.tmp t ∈ o.op.operands.toList → t < n := fun t => okOper_tmp hk hn
  have hopd := okOper_opd hk
  have taken : ∀ s, s < n → (∀ a : Act, execOp a.eval o = pure (.value (a.eval (.tmp s)))) → ValOk P F lim w n ca o (fr.strip [s]) m (rawOf fr s) := fun s hsn he => by
    obtain ⟨os, h1, h2⟩ := st.takeRaw s hsn
    exact ⟨ca.eval (.tmp s), w, lim, os, by rw [he ca]; rfl, h1, h2, .refl _ _ _⟩
  unfold ares at h
  split at h
  · next s hop =>
    simp only [ARes.val.injEq] at h
    obtain ⟨rfl, rfl, rfl, rfl⟩ := h
    exact taken s (ht s (by rw [hop]; simp [Op.operands])) (fun a => by simp [execOp, hop])
  · next s hop =>
    split at h
    · simp only [ARes.val.injEq] at h
      obtain ⟨rfl, rfl, rfl, rfl⟩ := h
      exact taken s (ht s (by rw [hop]; simp [Op.operands])) (fun a => by simp [execOp, hop])
    · simp only [ARes.val.injEq] at h
      obtain ⟨rfl, rfl, rfl, rfl⟩ := h
      exact ares_qv (by rw [hop]; rfl) trivial st hk
  · next s i hop =>
    split at h
    · next l hl =>
      split at h
      · simp only [ARes.val.injEq] at h
        obtain ⟨rfl, rfl, rfl, rfl⟩ := h
        obtain ⟨os, h1, h2⟩ := st.takeRaw s (ht s (by rw [hop]; simp [Op.operands]))
        rw [hl] at h2
        obtain ⟨cs, osi, he, hics, hr, hsub, hnd⟩ := tuple_part h2 hs
        refine ⟨cs.getD i undef, w, lim, osi, ?_, h1.flSub (hnd h1.flNodup) hsub, hr, .refl _ _ _⟩
        simp [execOp, hop, Act.eval, he, Instr.extract, hics]
      · simp only [ARes.val.injEq] at h
        obtain ⟨rfl, rfl, rfl, rfl⟩ := h
        show ValOk P F lim w n ca o fr m _
        refine ares_qv (fr := fr) (side := i < (AV.plainL l).length) ?_ (by simpa [AV.plainL_eq] using hs) st hk
        rw [hop]
        have hg := getD_map_plain l i
        simp only [qv, evP, hl, AV.plain, hg]
    · cases h
  · next t y hop =>
    split at h
    · split at h
      · next b off hev =>
        split at h
        · next l hm =>
          simp only [ARes.val.injEq] at h
          obtain ⟨rfl, rfl, rfl, rfl⟩ := h
          obtain ⟨hu, hag, hoff⟩ := hs
          have hy := evP_rep st (hopd y (by rw [hop]; simp [Op.operands]))
          rw [hev] at hy
          obtain ⟨v, os, h1, h2, h3⟩ := st.takeMem hm hoff
          refine ⟨v, w, lim, os, ?_, h2, h3, .refl _ _ _⟩
          simp [execOp, hop, rep_ptr_inv hy, Instr.loadAt, Instr.sureAddr, loadVar, run_isAgg hu, hag, h1]
        · cases h
      · cases h
    · exact ares_default (stl := stl) (by rw [hop]; exact h) hs st hk
  · split at h
    · split at h <;> cases h
    · cases h
  · cases h
  · split at h <;> cases h
  · split at h
    · split at h <;> cases h
    · cases h
  · split at h <;> cases h
  · next t parts hop =>
    split at h
    · cases h
    · split at h
      · next fs z hu hz =>
        split at h
        · next cells hf =>
          simp only [ARes.val.injEq] at h
          obtain ⟨rfl, rfl, rfl, rfl⟩ := h
          obtain ⟨h1, h2, h3⟩ := hs
          obtain ⟨v, h4, h5⟩ := build_sound (P := P) (w := w) (lim := lim) (ca := ca) hu hz h1 h2 hf (fun p hp => evP_rep st (hopd p.2 (by rw [hop]; simp [Op.operands]; exact ⟨p.1, by simpa using hp⟩))) h3
          exact ⟨v, w, lim, [], by simp [execOp, hop, h4], st, h5, .refl _ _ _⟩
        · cases h
      · cases h
  · next t len parts hop =>
    split at h
    · cases h
    · split at h
      · next e hu =>
        simp only [ARes.val.injEq] at h
        obtain ⟨rfl, rfl, rfl, rfl⟩ := h
        obtain ⟨h1, h2, h3, h4, h5, h6⟩ := hs
        obtain ⟨v, w', lim', os, r1, r2, r3, r4⟩ := buildSlice_sound (P := P) st hu h2 h3 h4 h5 (a := evP (rawOf fr)) (fun p hp => evP_rep st (hopd p.2 (by rw [hop]; simp [Op.operands]; exact ⟨p.1, by simpa using hp⟩))) h6
        exact ⟨v, w', lim', os, by simp [execOp, hop, r1], r2, r3, r4⟩
      · cases h
  · next args ts hop =>
    split at h
    · next s y t u hargs hts =>
      split at h
      · next e e' l own l' hu hu' hraw hev =>
        simp only [ARes.val.injEq] at h
        obtain ⟨rfl, rfl, rfl, rfl⟩ := h
        obtain ⟨rfl, h1, h2, h3, h4, h5, h6, h7⟩ := hs
        have hmem : ∀ z ∈ args.toList, z ∈ o.op.operands.toList := fun z hz => by rw [hop]; simpa [Op.operands, Call.operands] using hz
        obtain ⟨os, s1, s2⟩ := st.takeRaw s (ht s (hmem _ (by rw [hargs]; simp)))
        rw [hraw] at s2
        have hy := evP_rep st (hopd y (hmem _ (by rw [hargs]; simp)))
        rw [hev] at hy
        have hy' : Rep w lim (ca.eval y) (.slice false l') [] := by simpa [AV.plain] using hy.plain
        obtain ⟨v, w', lim', os', r1, r2, r3, r4⟩ := append_sound (P := P) (ty := o.type) s1 hu h3 h2 s2 hy' h4 h5 h6 h7
        refine ⟨v, w', lim', os', ?_, r2, r3, r4⟩
        have e1 : args.map ca.eval = #[ca.eval (.tmp s), ca.eval y] := by apply Array.ext'; simp [hargs]
        have e2 : ts = #[t, t] := by apply Array.ext'; simp [hts]
        simp only [execOp, hop, resolve, invoke, builtin, Sem.run_bind, Sem.run_pure, Result.andThen_ok, e1, e2]
        simp only [Act.eval] at r1 ⊢
        rw [r1]; rfl
      · cases h
    · next y t u hargs hts =>
      split at h
      · next e e' own l' hu hu' hev =>
        simp only [ARes.val.injEq] at h
        obtain ⟨rfl, rfl, rfl, rfl⟩ := h
        obtain ⟨rfl, h1, h2, h3, h4, h5⟩ := hs
        have hmem : ∀ z ∈ args.toList, z ∈ o.op.operands.toList := fun z hz => by rw [hop]; simpa [Op.operands, Call.operands] using hz
        have hy := evP_rep st (hopd y (hmem _ (by rw [hargs]; simp)))
        rw [hev] at hy
        have hy' : Rep w lim (ca.eval y) (.slice false l') [] := by simpa [AV.plain] using hy.plain
        obtain ⟨aa, cc, _, hbig⟩ := rep_slice_len hy'
        obtain ⟨v, w', lim', os', r1, r2, r3, r4⟩ := append_sound (P := P) (ty := o.type) st hu h3 h2 (.nils true) hy' (by simpa using h4) (by simpa using hbig) (by simp) h5
        refine ⟨v, w', lim', os', ?_, r2, by simpa using r3, r4⟩
        have e1 : args.map ca.eval = #[.slice none 0 0, ca.eval y] := by apply Array.ext'; simp [hargs, Act.eval]
        have e2 : ts = #[t, t] := by apply Array.ext'; simp [hts]
        simp only [execOp, hop, resolve, invoke, builtin, Sem.run_bind, Sem.run_pure, Result.andThen_ok, e1, e2]
        rw [r1]; rfl
      · cases h
    · cases h
  · cases h
  · split at h <;> cases h
  · exact ares_default (stl := stl) h hs st hk
end
end Go.Aw
end
section
namespace Go.Aw
open Go
section
variable {P : Program} {F : Nat → Prop} {lim : Nat → Nat} {w : World} {n : Nat} {fr : Fr} {m : AMem} {ca : Act} {fl : List Nat}
def tmpsOk (n : Nat) (o : Oper) : Bool := o.op.operands.toList.all fun y => match y with | .tmp t => decide (t < n) | _ => true
theorem tmpsOk_lt {o : Oper} (hn : tmpsOk n o = true) {y : Operand} (hy : y ∈ o.op.operands.toList) : ∀ t, y = .tmp t → t < n := by
  intro t ht
  subst ht
  simp only [tmpsOk, List.all_eq_true] at hn
  simpa using hn _ hy
set_option maxHeartbeats 2000000 in
theorem ares_eff {stl : List Nat} {o : Oper} {side : Prop} {ss : List Nat} {m' : AMem} (h : ares P m (rawOf fr) stl o.dst o.op = .eff side ss m') (hs : side) (st : St F lim w n fr m ca []) (hk : okOper n o = true) (hn : tmpsOk n o = true) :
    ∃ w' lim', (execOp ca.eval o).run P w = .ok .skip w' ∧ St F lim' w' n (fr.strip ss) m' ca [] ∧ Pres F w lim w' lim' := by
  have hopd := okOper_opd hk
  unfold ares at h
  split at h
  case h_5 t a x hop =>
    split at h
    · next b off hev =>
      split at h
      · next l hm =>
        simp only [ARes.eff.injEq] at h
        obtain ⟨rfl, rfl, rfl⟩ := h
        obtain ⟨h1, h2, h3, h4, h5⟩ := hs
        have ha := evP_rep st (hopd a (by rw [hop]; simp [Op.operands]))
        rw [hev] at ha
        obtain ⟨os, s1, s2⟩ := st.takeOpd x (hopd x (by rw [hop]; simp [Op.operands])) (tmpsOk_lt hn (by rw [hop]; simp [Op.operands]))
        obtain ⟨oss, c1, c2, c3⟩ := rep_cells s2 h1
        obtain ⟨os', hM⟩ := st.memRep b _ hm
        obtain ⟨cs, e, _, hbl, hsz, _⟩ := mrep_cells_inv hM
        rw [← h3] at h5
        have hvl : (ca.eval x).cells.toList.length = (evR (rawOf fr) x).cells.length := by simpa using c1
        obtain ⟨r1, r2⟩ := s1.storeMem (vs := (ca.eval x).cells.toList) hm hbl h5 hvl (fun i hi => by
          have := c2 i hi
          simpa [Array.getD_eq_getD_getElem?, List.getD_eq_getElem?_getD] using this) c3
        have hone : ∀ v ∈ (ca.eval x).cells.toList, v.oneCell' = true := fun v hv => by
          obtain ⟨k, hk1, rfl⟩ := List.mem_iff_getElem.1 hv
          have hk2 : k < (evR (rawOf fr) x).cells.length := by omega
          have := c2 k hk2
          have hg : (ca.eval x).cells.getD k undef = (ca.eval x).cells.toList[k] := by
            simp [Array.getD_eq_getD_getElem?, show k < (ca.eval x).cells.size from by simpa using hk1]
          rw [hg] at this
          exact one_cell_of h2 hk2 this
        have hst := run_storeCells_at P b off e (ca.eval x).cells.toList 0 cs w hbl (by simp [hsz]; omega) hone
        simp only [Nat.add_zero] at hst
        rw [← h3]
        refine ⟨_, lim, ?_, r1, r2⟩
        simp only [execOp, hop, rep_ptr_inv ha, Instr.storeAt, Instr.sureAddr, storeVar, Sem.run_bind, Sem.run_pure, Result.andThen_ok, run_size h4]
        have hne : ¬ (ca.eval x).cells.size ≠ P.cellsOf t := by rw [c1, h3]; simp
        simp only [hne, if_false, Sem.run_bind, Sem.run_pure, Result.andThen_ok, hst]
      · cases h
    · cases h
  all_goals first
    | cases h
    | (split at h <;> cases h)
    | (split at h <;> (first | cases h | (split at h <;> first | cases h | (split at h <;> cases h))))
theorem flatten_getD (k s : Nat) (z : List AV) (hz : z.length = s) (hs : 0 < s) : ∀ i, i < k * s → (List.replicate k z).flatten.getD i .junk = z.getD (i % s) .junk := by
  induction k with
  | zero => intro i hi; omega
  | succ k ih =>
    intro i hi
    rw [List.replicate_succ, List.flatten_cons]
    by_cases h : i < s
    · rw [getD_append_lt (by omega), Nat.mod_eq_of_lt h]
    · rw [getD_append_ge (by omega), hz, ih (i - s) (by rw [Nat.add_mul] at hi; omega)]
      rw [← Nat.mod_eq_sub_mod (by omega : s ≤ i)]
def NewOk (P : Program) (F : Nat → Prop) (lim : Nat → Nat) (w : World) (n : Nat) (ca : Act) (o : Oper) (fr' : Fr) (m : AMem) (mk : Nat → AV) (ob : AObj) : Prop :=
  ∃ v w' b, (execOp ca.eval o).run P w = .ok (.value v) w' ∧ m b = none ∧ St F lim w' n fr' (m.upd b (some ob)) ca [] ∧ Rep w' lim v (mk b) [] ∧ Pres F w lim w' lim
theorem pres_new (st : St F lim w n fr m ca fl) (o : Obj) : Pres F w lim (w.alloc o) lim := by
  have hP := Pres.alloc st o 0
  have hz := st.lim_new
  have hlim : (fun b => if b = w.heap.size then 0 else lim b) = lim := by funext b; by_cases hb : b = w.heap.size <;> simp [hb, hz]
  rwa [hlim] at hP
theorem st_newMap (st : St F lim w n fr m ca []) : m w.heap.size = none ∧ St F lim (w.alloc (.map #[] 0)) n fr (m.upd w.heap.size (some (.map []))) ca [] := by
  have hP := pres_new st (.map #[] 0)
  have hz := st.lim_new
  have hF : ¬ F w.heap.size := fun hf => absurd (st.lt_of_F hf) (Nat.lt_irrefl _)
  have hm : m w.heap.size = none := by
    cases hb : m w.heap.size with
    | none => rfl
    | some o => exact absurd (st.lt_of_mem (b := w.heap.size) (by rw [hb]; simp)) (Nat.lt_irrefl _)
  have hA := st.alloc (.map #[] 0) 0
  have hlim : (fun b => if b = w.heap.size then 0 else lim b) = lim := by funext b; by_cases hb : b = w.heap.size <;> simp [hb, hz]
  rw [hlim] at hA
  refine ⟨hm, ?_⟩
  obtain ⟨os, om, ow, h⟩ := st
  have hlt : ∀ c, ow c ≠ .none → c < w.heap.size := fun c hc => (h.free c hc).2.2
  refine ⟨os, fun b i => if b = w.heap.size then [] else om b i, ow, h.size, h.defers, fun t x hx => ⟨(h.slots t x hx).1, (h.slots t x hx).2.stable hP.mono hP.cell (fun c hc => ⟨heapOld w _ c (hlt c (by rw [(h.ownS t x hx).2 c hc]; simp)), rfl⟩)⟩, fun b o hb => ?_, h.ownS, fun b o hb i => ?_, h.ownF, fun c hc => ?_, fun b hb => ?_⟩
  · by_cases hbw : b = w.heap.size
    · subst hbw
      simp only [AMem.upd, ↓reduceIte, Option.some.injEq] at hb ⊢
      subst hb
      exact ⟨.map #[] 0 [] (heapNew w _) rfl (by simp) (fun i hi => by simp at hi) (fun i hi => by simp at hi) (fun i j _ hj => by simp at hj) (fun i hi => by simp at hi) _, hz, hF⟩
    · simp only [AMem.upd, if_neg hbw] at hb ⊢
      have hlt' : b < w.heap.size := by
        rcases Nat.lt_or_ge b w.heap.size with hb' | hb'
        · exact hb'
        · have := (h.fresh b hb').2.2; rw [hb] at this; cases this
      have hbn : ¬ b = w.heap.size := hbw
      exact ⟨(h.mem b o hb).1.stable (heapOld w _ b hlt') hP.mono hP.cell (fun i c hc => ⟨heapOld w _ c (hlt c (by rw [(h.ownM b o hb i).2 c hc]; simp)), rfl⟩), (h.mem b o hb).2⟩
  · by_cases hbw : b = w.heap.size
    · subst hbw
      simp
    · simp only [AMem.upd, if_neg hbw] at hb ⊢
      exact h.ownM b o hb i
  · have := h.free c hc
    refine ⟨this.1, ?_, by simp; omega⟩
    simp only [AMem.upd]
    rw [if_neg (by omega)]
    exact this.2.1
  · simp at hb
    have := h.fresh b (by omega)
    refine ⟨this.1, this.2.1, ?_⟩
    simp only [AMem.upd]
    rw [if_neg (by omega)]
    exact this.2.2
set_option maxHeartbeats 2000000 in
theorem ares_new {stl : List Nat} {o : Oper} {side : Prop} {ss : List Nat} {mk : Nat → AV} {ob : AObj} (h : ares P m (rawOf fr) stl o.dst o.op = .new side ss mk ob) (hs : side) (st : St F lim w n fr m ca []) (hk : okOper n o = true) :
    NewOk P F lim w n ca o (fr.strip ss) m mk ob := by
  have hopd := okOper_opd hk
  have mkCells : ∀ (cs : Array Value) (e : TypeId) (l : List AV), CellsR w lim cs l → ∀ v, (execOp ca.eval o).run P w = .ok (.value v) (w.alloc (.cells cs e)) → Rep (w.alloc (.cells cs e)) lim v (mk w.heap.size) [] → ob = .cells l → NewOk P F lim w n ca o fr m mk ob := fun cs e l hc v hr hv ho => by
    obtain ⟨h1, h2⟩ := st.allocMem cs e l hc.1 hc.2
    subst ho
    exact ⟨v, _, w.heap.size, hr, h1, h2, hv, pres_new st _⟩
  unfold ares at h
  split at h
  case h_6 t x hop =>
    simp only [ARes.new.injEq] at h
    obtain ⟨rfl, rfl, rfl, rfl⟩ := h
    have hx := evP_rep st (hopd x (by rw [hop]; simp [Op.operands]))
    exact mkCells _ t _ (rep_cellsR hx hs) (.pointer (some ⟨w.heap.size, 0, none⟩)) (by simp [execOp, hop, Instr.box, newVar, newRow]) (.ptr _) rfl
  case h_7 t hop =>
    split at h
    · next z hz =>
      simp only [ARes.new.injEq] at h
      obtain ⟨rfl, rfl, rfl, rfl⟩ := h
      obtain ⟨v, h1, h2, rfl, h4⟩ := zero_run (w := w) (lim := lim) hz
      exact mkCells _ t _ (rep_cellsR h4 hs) (.pointer (some ⟨w.heap.size, 0, none⟩)) (by simp [execOp, hop, Instr.alloc, newVar, newRow, h1]) (.ptr _) rfl
    · cases h
  case h_8 t x y hop =>
    split at h
    · next e k k' hu hx hy =>
      split at h
      · next z hz =>
        simp only [ARes.new.injEq] at h
        obtain ⟨rfl, rfl, rfl, rfl⟩ := h
        obtain ⟨h1, h2, h3, h4, rfl, h6, h7, h8⟩ := hs
        obtain ⟨v, g1, g2, rfl, g4⟩ := zero_run (w := w) (lim := lim) hz
        have hxr := evP_rep st (hopd x (by rw [hop]; simp [Op.operands]))
        have hyr := evP_rep st (hopd y (by rw [hop]; simp [Op.operands]))
        rw [hx] at hxr; rw [hy] at hyr
        obtain ⟨ex, lx, ux⟩ := rep_int_inv hxr
        obtain ⟨ey, _, _⟩ := rep_int_inv hyr
        have hw := wrap_of_range .i64 k lx ux
        cases hi : P.info? e with
        | none => simp [isU, Program.underlying, hi] at h2
        | some i =>
          obtain ⟨hcs, hbs⟩ := cellsOf_info hi
          rw [hcs] at h3 h4; rw [hbs] at h7
          have hvs : v.cells.size = i.size := by rw [← cval_cells]; exact h3
          obtain ⟨i', v', q1, q2, _, q4⟩ := info_of_zero (P := P) (e := e) (by rw [hz]; rfl)
          rw [hi] at q1
          obtain rfl : i = i' := by simpa using q1
          have hvv : v' = v := by
            have := g1
            simp [zeroValue, typeInfo, hi, q2] at this
            exact this
          subst hvv
          have hmul : (i.bytes : Int) * k = k * i.bytes := Int.mul_comm _ _
          have hrun := run_make (P := P) w t e i v' hu hi q2 .i64 .i64 k k h6 (Int.le_refl _) (by omega) (by omega)
          refine mkCells (madeCells v'.cells (k.toNat * i.size)) e _ ?_ (.slice (some ⟨w.heap.size, 0, none⟩) k.toNat k.toNat) ?_ (.ms _ _ _ (Nat.le_refl _) (by simp only [maxLen]; omega)) rfl
          · refine ⟨by simp [cval_cells, hvs, size_madeCells], fun j hj => ?_⟩
            have hj' : j < k.toNat * i.size := by simpa [cval_cells, hvs] using hj
            have hmod := Nat.mod_lt j h4
            rw [flatten_getD _ i.size _ h3 h4 j hj']
            have e1 : (madeCells v'.cells (k.toNat * i.size)).getD j undef = v'.cells.getD (j % i.size) undef := by
              unfold madeCells
              rw [Array.getD_eq_getD_getElem?, Array.getElem?_map, Array.getElem?_range, if_pos hj']
              simp [getElem!_pos, hvs, hmod, Array.getD]
            rw [e1]
            exact (rep_cellsR g4 h1).2 _ (by rw [h3]; exact hmod)
          · simp only [execOp, hop, ex, ey, Sem.run_bind, hrun, Result.andThen_ok]; rfl
      · cases h
    · cases h
  case h_9 t r hop =>
    split at h
    · next k e hu hr =>
      simp only [ARes.new.injEq] at h
      obtain ⟨rfl, rfl, rfl, rfl⟩ := h
      obtain ⟨h1, h2⟩ := st_newMap st
      refine ⟨.map (some w.heap.size), _, w.heap.size, ?_, h1, h2, .map _, pres_new st _⟩
      cases r with
      | none => simp [execOp, hop, Instr.makeMap, run_und hu]
      | some y => simp at hr
    · next k e kk nn hu hr =>
      simp only [ARes.new.injEq] at h
      obtain ⟨rfl, rfl, rfl, rfl⟩ := h
      obtain ⟨h1, h2⟩ := st_newMap st
      refine ⟨.map (some w.heap.size), _, w.heap.size, ?_, h1, h2, .map _, pres_new st _⟩
      cases r with
      | none => simp at hr
      | some y =>
        simp at hr
        have hy := evP_rep st (hopd y (by rw [hop]; simp [Op.operands]))
        rw [hr] at hy
        obtain ⟨ey, _, _⟩ := rep_int_inv hy
        simp [execOp, hop, Instr.makeMap, run_und hu, ey, asInt, asIntOf]
    · cases h
  all_goals first
    | cases h
    | (split at h <;> cases h)
    | (split at h <;> (first | cases h | (split at h <;> first | cases h | (split at h <;> cases h))))
end
end Go.Aw
end
section
namespace Go.Aw
open Go
section
variable {P : Program} {F : Nat → Prop} {lim : Nat → Nat} {w : World} {n : Nat} {fr : Fr} {m : AMem} {ca : Act} {fl : List Nat}
def Place.isSlot : Place → Bool
  | .slot _ => true
  | _ => false
theorem St.split (h : St F lim w n fr m ca []) : ∃ F' : Nat → Prop, (∀ b, F b → F' b) ∧ St F' lim w 0 [] m noAct [] ∧
    ∀ lim' w' m' os, St F' lim' w' 0 [] m' noAct os → Pres F' w lim w' lim' → St F lim' w' n fr m' ca os := by
  obtain ⟨os, om, ow, h⟩ := h
  refine ⟨fun b => F b ∨ (ow b).isSlot = true, fun b hb => .inl hb, ⟨os, om, fun c => if (ow c).isSlot then .none else ow c, rfl, rfl, fun t x hx => by simp [Fr.get] at hx, fun b o hb => ?_, fun t x hx => by simp [Fr.get] at hx, fun b o hb i => ⟨(h.ownM b o hb i).1, fun c hc => by simp [(h.ownM b o hb i).2 c hc, Place.isSlot]⟩, ⟨by simp, by simp⟩, fun c hc => ?_, fun b hb => ?_⟩, ?_⟩
  · refine ⟨(h.mem b o hb).1, (h.mem b o hb).2.1, fun hf => ?_⟩
    rcases hf with hf | hf
    · exact (h.mem b o hb).2.2 hf
    · have := (h.free b (by intro e; rw [e] at hf; simp [Place.isSlot] at hf)).2.1
      rw [hb] at this; cases this
  · by_cases hs : (ow c).isSlot = true
    · simp [hs] at hc
    · simp only [hs] at hc
      have := h.free c (by simpa using hc)
      exact ⟨fun hf => hf.elim this.1 hs, this.2⟩
  · have := h.fresh b hb
    refine ⟨this.1, fun hf => hf.elim this.2.1 (fun hs => ?_), this.2.2⟩
    have := (h.free b (by intro e; rw [e] at hs; simp [Place.isSlot] at hs)).2.2
    omega
  · intro lim' w' m' fl ⟨os2, om2, ow2, k⟩ pr
    have hsl : ∀ c, ow2 c ≠ .none → ¬ (ow c).isSlot = true := fun c hc hs => (k.free c hc).1 (.inr hs)
    refine ⟨os, om2, fun c => if (ow c).isSlot then ow c else ow2 c, h.size, h.defers, fun t x hx => ⟨(h.slots t x hx).1, (h.slots t x hx).2.stable pr.mono pr.cell (fun c hc => pr.res c (.inr ?_))⟩, fun b o hb => ?_, fun t x hx => ⟨(h.ownS t x hx).1, fun c hc => ?_⟩, fun b o hb i => ⟨(k.ownM b o hb i).1, fun c hc => ?_⟩, ⟨k.ownF.1, fun c hc => ?_⟩, fun c hc => ?_, fun b hb => ?_⟩
    · rw [(h.ownS t x hx).2 c hc]; rfl
    · exact ⟨(k.mem b o hb).1, (k.mem b o hb).2.1, fun hf => (k.mem b o hb).2.2 (.inl hf)⟩
    · have := (h.ownS t x hx).2 c hc
      simp [this, Place.isSlot]
    · have h1 := (k.ownM b o hb i).2 c hc
      have := hsl c (by rw [h1]; simp)
      simp [this, h1]
    · have h1 := k.ownF.2 c hc
      have := hsl c (by rw [h1]; simp)
      simp [this, h1]
    · by_cases hs : (ow c).isSlot = true
      · have h1 := h.free c (by intro e; rw [e] at hs; simp [Place.isSlot] at hs)
        refine ⟨h1.1, ?_, Nat.lt_of_lt_of_le h1.2.2 pr.size⟩
        cases hm : m' c with
        | none => rfl
        | some o => exact ((k.mem c o hm).2.2 (.inr hs)).elim
      · have h1 := k.free c (by simpa [hs] using hc)
        exact ⟨fun hf => h1.1 (.inl hf), h1.2⟩
    · have := k.fresh b hb
      exact ⟨this.1, fun hf => this.2.1 (.inl hf), this.2.2⟩
theorem call_wp {f : FuncId} {args : List AV} {K : AV → AMem → Prop} (hc : ACalls P f args m K) (st : St F lim w n fr m ca []) {cargs : Array Value} (hs : cargs.size = args.length) (hr : ∀ i, i < args.length → Rep w lim (cargs.getD i undef) (args.getD i .junk) [])
    {o : Oper} {next : Act → World → Prop} {Q : Exit → Act → World → Prop} (he : ∀ fn, P.funcs[f]? = some fn → fn.body.isSome = true → (fn.name == "runtime.NumGoroutine") = false → (execOp ca.eval o).run P w = .ok (.enter f cargs) w)
    (hn : ∀ v x lim' w' m' os, K x m' → Rep w' lim' v x os → St F lim' w' n fr m' ca os → Pres F w lim w' lim' → next (ca.put o.dst v) w') : o.wp P ca w next Q := by
  obtain ⟨⟨fn, h1, h2, h3⟩, hcall⟩ := hc
  obtain ⟨F', hF, s1, s2⟩ := st.split
  unfold Oper.wp
  rw [he fn h1 h2 h3, Oper.upon_enter]
  refine (hcall F' lim w cargs hs hr s1).mono fun e w' ⟨v, x, lim', m', os, he, hK, hR, hS, hP⟩ => ?_
  subst he
  exact hn v x lim' w' m' os hK hR (s2 lim' w' m' os hS hP) (hP.weaken hF)
theorem run_callFunc {f : FuncId} {fn : Func} (args : Array Value) (h1 : P.funcs[f]? = some fn) (h2 : fn.body.isSome = true) (h3 : (fn.name == "runtime.NumGoroutine") = false) : (callFunc f args).run P w = .ok (.enter f args) w := by
  have h2' : fn.body.isNone = false := by cases h : fn.body <;> simp_all
  have h3' : ¬ fn.name = "runtime.NumGoroutine" := by simpa using h3
  have h2'' : ¬ fn.body = none := by intro e; rw [e] at h2; cases h2
  simp [callFunc, h1, h3', h2'']
theorem aop_mono {ops : Array Oper} {stl : List Nat} {o : Oper} {K K' : Fr → AMem → Prop} (hK : ∀ fr m, K fr m → K' fr m) (h : aop P ops stl o K fr m) : aop P ops stl o K' fr m := by
  unfold aop at h ⊢
  split at h
  · split at h
    · exact ⟨h.1, hK _ _ h.2⟩
    · exact ⟨h.1, hK _ _ h.2⟩
    · exact ⟨h.1, fun b hb => hK _ _ (h.2 b hb)⟩
    · refine h.mono fun x m' hx => ?_
      unfold Kont at hx ⊢
      split at hx <;> exact hK _ _ hx
    · exact h
  · split at h
    · split at h
      · split at h
        · obtain ⟨x, h1, h2⟩ := h
          exact ⟨x, h1, hK _ _ h2⟩
        · split at h
          · obtain ⟨x, h1, h2⟩ := h
            exact ⟨x, h1, hK _ _ h2⟩
          · exact h
        · split at h
          · exact ⟨h.1, hK _ _ h.2⟩
          · exact h
      · exact h
    · exact h
theorem St.putO {d : Option Nat} (h : St F lim w n fr m ca fl) (hd : ∀ t, d = some t → t < n) {v : Value} {x : AV} (hx : Rep w lim v x fl) : St F lim w n (Aw.putO fr d x) m (ca.put d v) [] := by
  cases d with
  | none => exact h.drop
  | some d => exact h.setOwn (hd d rfl) hx
theorem forceG_rep {v : Value} {x : AV} {os : List Nat} (h : Rep w lim v x os) : Rep w lim v (forceG true x) os := by
  unfold forceG
  split
  · simpa using h
  · exact h
theorem gev_rep {op : Op} (st : St F lim w n fr m ca fl) {y : Operand} (hy : opdOk y = true) : Rep w lim (ca.eval y) (gev (rawOf fr) true op y) [] := by
  unfold gev
  split
  · exact forceG_rep (evP_rep st hy)
  · exact un_rep (forceG_rep (evP_rep st hy))
theorem args_rep {args : Array Operand} {a : Operand → AV} (h : ∀ y ∈ args.toList, Rep w lim (ca.eval y) (a y) []) : (args.map ca.eval).size = (args.toList.map a).length ∧ ∀ i, i < (args.toList.map a).length → Rep w lim ((args.map ca.eval).getD i undef) ((args.toList.map a).getD i .junk) [] := by
  refine ⟨by simp, fun i hi => ?_⟩
  simp only [List.length_map] at hi
  have hi' : i < args.size := by simpa using hi
  have e1 : (args.map ca.eval).getD i undef = ca.eval args[i] := by simp [Array.getD, hi']
  have e2 : (args.toList.map a).getD i .junk = a args[i] := by simp [List.getD_eq_getElem?_getD, hi']
  rw [e1, e2]
  exact h _ (by simp)
theorem func_args {e : Value} {f : FuncId} {first caps args : List AV} {cs : Array Value} (hf : Rep w lim e (.func (.func f) first caps) []) (hA : cs.size = args.length ∧ ∀ i, i < args.length → Rep w lim (cs.getD i undef) (args.getD i .junk) []) :
    ∃ fa cc : Array Value, e = .func (.func f) fa cc ∧ (fa ++ cs ++ cc).size = (first ++ args ++ caps).length ∧ ∀ i, i < (first ++ args ++ caps).length → Rep w lim ((fa ++ cs ++ cc).getD i undef) ((first ++ args ++ caps).getD i .junk) [] := by
  cases hf with
  | func _ fa cc _ _ h1 h2 h3 h4 =>
    refine ⟨fa, cc, rfl, by simp [h1, h2, hA.1], fun i hi => ?_⟩
    simp only [List.length_append] at hi
    by_cases i1 : i < first.length
    · have e1 : (fa ++ cs ++ cc).getD i undef = fa.getD i undef := by
        simp [Array.getD_eq_getD_getElem?, Array.getElem?_append, h1, i1, show i < first.length + cs.size from by omega]
      rw [e1, getD_append_lt (by simp; omega), getD_append_lt i1]; exact h3 i i1
    · by_cases i2 : i < first.length + cs.size
      · have e1 : (fa ++ cs ++ cc).getD i undef = cs.getD (i - first.length) undef := by
          simp [Array.getD_eq_getD_getElem?, Array.getElem?_append, h1, i1, i2, show i - first.length < cs.size from by omega]
        rw [e1, getD_append_lt (by simp; omega), getD_append_ge (by omega)]; exact hA.2 _ (by omega)
      · have e1 : (fa ++ cs ++ cc).getD i undef = cc.getD (i - (first.length + cs.size)) undef := by
          simp [Array.getD_eq_getD_getElem?, Array.getElem?_append, h1, i1, i2, show ¬ i - first.length < cs.size from by omega, Nat.sub_sub]
        have hlen : (first ++ args).length = first.length + cs.size := by simp [hA.1]
        rw [e1, getD_append_ge (by omega), hlen]; exact h4 _ (by omega)
theorem ares_call {stl : List Nat} {o : Oper} {f : FuncId} {args : List AV} (h : ares P m (rawOf fr) stl o.dst o.op = .call f args) (st : St F lim w n fr m ca []) (hk : okOper n o = true) :
    ∃ cargs : Array Value, cargs.size = args.length ∧ (∀ i, i < args.length → Rep w lim (cargs.getD i undef) (args.getD i .junk) []) ∧
      ∀ fn, P.funcs[f]? = some fn → fn.body.isSome = true → (fn.name == "runtime.NumGoroutine") = false → (execOp ca.eval o).run P w = .ok (.enter f cargs) w := by
  have hopd := okOper_opd hk
  unfold ares at h
  split at h
  case h_13 g ar ts hop =>
    simp only [ARes.call.injEq] at h
    obtain ⟨rfl, rfl⟩ := h
    have hA := args_rep (ca := ca) (a := evP (rawOf fr)) (args := ar) (fun y hy => evP_rep st (hopd y (by rw [hop]; simp [Op.operands, Call.operands]; exact .inr (by simpa using hy))))
    refine ⟨ar.map ca.eval, hA.1, hA.2, fun fn h1 h2 h3 => ?_⟩
    simp [execOp, hop, resolve, Deferred.ofValue, Act.eval, invoke, run_callFunc _ h1 h2 h3]
  case h_14 t ar ts hop =>
    split at h
    · next g first caps hraw =>
      simp only [ARes.call.injEq] at h
      obtain ⟨rfl, rfl⟩ := h
      have hA := args_rep (ca := ca) (a := evP (rawOf fr)) (args := ar) (fun y hy => evP_rep st (hopd y (by rw [hop]; simp [Op.operands, Call.operands]; exact .inr (by simpa using hy))))
      have hf := evP_rep st (x := .tmp t) rfl
      simp only [evP, hraw, AV.plain] at hf
      generalize he : ca.eval (.tmp t) = e at hf
      cases hf with
      | func _ fa cc _ _ h1 h2 h3 h4 =>
        refine ⟨fa ++ ar.map ca.eval ++ cc, by simp [h1, h2], fun i hi => ?_, fun fn g1 g2 g3 => ?_⟩
        · simp only [List.length_append, List.length_map, Array.length_toList] at hi
          by_cases i1 : i < first.length
          · have e1 : (fa ++ ar.map ca.eval ++ cc).getD i undef = fa.getD i undef := by
              simp [Array.getD_eq_getD_getElem?, Array.getElem?_append, h1, i1, show i < first.length + ar.size from by omega]
            rw [e1, getD_append_lt (by simp; omega), getD_append_lt i1]; exact h3 i i1
          · by_cases i2 : i < first.length + ar.size
            · have e1 : (fa ++ ar.map ca.eval ++ cc).getD i undef = (ar.map ca.eval).getD (i - first.length) undef := by
                simp [Array.getD_eq_getD_getElem?, Array.getElem?_append, h1, i1, i2, show i - first.length < ar.size from by omega]
              rw [e1, getD_append_lt (by simp; omega), getD_append_ge (by omega)]; exact hA.2 _ (by simp; omega)
            · have e1 : (fa ++ ar.map ca.eval ++ cc).getD i undef = cc.getD (i - (first.length + ar.size)) undef := by
                simp [Array.getD_eq_getD_getElem?, Array.getElem?_append, h1, i1, i2, show ¬ i - first.length < ar.size from by omega, Nat.sub_sub]
              have hlen : (first ++ ar.toList.map (evP (rawOf fr))).length = first.length + ar.size := by simp
              rw [e1, getD_append_ge (by omega), hlen]; exact h4 _ (by omega)
        · simp [execOp, hop, resolve, he, Deferred.ofValue, invoke, run_callFunc _ g1 g2 g3]
    · cases h
  all_goals first
    | cases h
    | (split at h <;> cases h)
    | (split at h <;> (first | cases h | (split at h <;> first | cases h | (split at h <;> cases h))))
def boolIn : Value → Option Bool
  | .bool b => some b
  | _ => none
theorem guardVal_rep {v : Value} {x : AV} {b z : Bool} {os : List Nat} (hz : guardVal x b = some z) (hr : Rep w lim v x os) : (boolIn v == some b) = z := by
  unfold guardVal at hz
  split at hz
  · obtain rfl := Option.some.inj hz
    cases hr
    rename_i c
    cases c <;> rfl
  · obtain rfl := Option.some.inj hz
    cases hr
    rename_i c
    cases c <;> rfl
  · obtain rfl := Option.some.inj hz
    cases hr with
    | lazyT _ _ _ hr =>
      cases hr
      rename_i c
      cases c <;> rfl
    | lazyF => rfl
  · obtain rfl := Option.some.inj hz
    cases hr with
    | lazyT _ _ _ hr =>
      cases hr
      rename_i c
      cases c <;> rfl
    | lazyF => rfl
  · cases hz
theorem wanted_eq {ops : Array Oper} {o : Oper} {j g : Nat} {b z : Bool} (hg : o.guard = some (j, b)) (hj : (ops[j]?).bind (·.dst) = some g) (st : St F lim w n fr m ca fl) (hz : guardVal (rawOf fr g) b = some z) :
    Region.wanted o (yielded ops ca.tmps) = z := by
  obtain ⟨os, om, ow, h⟩ := st
  cases hh : fr.get g with
  | none => simp [rawOf, hh, guardVal] at hz
  | some x =>
    simp only [rawOf, hh, Option.getD_some] at hz
    obtain ⟨hlt, hr⟩ := h.slots g _ hh
    have hlt' : g < ca.tmps.size := by rw [h.size]; exact hlt
    have hv' : ca.tmps[g]? = some (ca.tmps.getD g undef) := by
      rw [Array.getElem?_eq_getElem hlt']
      simp [Array.getD, hlt']
    have := guardVal_rep hz hr
    simp only [Region.wanted, hg, yielded, hj, Option.bind_some, hv']
    rw [← this]
    generalize ca.tmps.getD g undef = v
    cases v <;> rfl
theorem step_guarded {ops : Array Oper} {o : Oper} {l : List Oper} {K : Fr → AMem → Prop} {j g d : Nat} {b z : Bool} {x : AV} (hg : o.guard = some (j, b)) (hj : (ops[j]?).bind (·.dst) = some g) (hd : o.dst = some d) (hdn : d < n) (hc : guardVal (rawOf fr g) b = some z)
    (hrun : z = true → ∀ F lim w ca, St F lim w n fr m ca [] → ∀ (next : Act → World → Prop) Q, (∀ v lim' w', St F lim' w' n fr m ca [] → Rep w' lim' v x [] → Pres F w lim w' lim' → next (ca.put o.dst v) w') → o.wp P ca w next Q)
    (hK : AOps P n ops l K (fr.put d (.lazy z x)) m) : AOps P n ops (o :: l) K fr m := by
  intro F lim w ca Q st hq
  have hw := wanted_eq (ops := ops) hg hj st hc
  unfold wpList
  by_cases hcb : z = true
  · rw [if_pos (by rw [hw]; exact hcb)]
    refine .inl (hrun hcb F lim w ca st _ _ fun v lim' w' s1 s2 s3 => ?_)
    refine hK.from hq ?_ s3
    rw [hd, hcb]
    exact s1.set hdn (.lazyT _ _ _ s2)
  · have hf : z = false := by simpa using hcb
    rw [if_neg (by rw [hw, hf]; simp)]
    refine hK.from hq ?_ (.refl _ _ _)
    rw [hd, hf]
    exact st.set hdn (.lazyF _)
theorem aop_sound {ops : Array Oper} {stl : List Nat} {o : Oper} {l : List Oper} {K : Fr → AMem → Prop} (hk : okOper n o = true) (hn : tmpsOk n o = true) (h : aop P ops stl o (AOps P n ops l K) fr m) : AOps P n ops (o :: l) K fr m := by
  unfold aop at h
  split at h
  · next hg =>
    refine AOps.step hg fun F lim w ca st next Q hn' => ?_
    split at h
    · next side ss m' x ha =>
      obtain ⟨v, w', lim', os, h1, h2, h3, h4⟩ := ares_val (P := P) ha h.1 st hk hn
      exact wp_of_value h1 (hn' lim' w' _ _ _ h.2 (h2.putO (fun t ht => okOper_dst hk ht) h3) h4)
    · next side ss m' ha =>
      obtain ⟨w', lim', h1, h2, h3⟩ := ares_eff (P := P) ha h.1 st hk hn
      exact wp_of_skip h1 (hn' lim' w' _ _ _ h.2 (h2.putO (fun t ht => okOper_dst hk ht) (.junk _)) h3)
    · next side ss mk ob ha =>
      obtain ⟨v, w', b, h1, h2, h3, h4, h5⟩ := ares_new (P := P) ha h.1 st hk
      exact wp_of_value h1 (hn' lim w' _ _ _ (h.2 b h2) (h3.putO (fun t ht => okOper_dst hk ht) h4) h5)
    · next f args ha =>
      obtain ⟨cargs, h1, h2, h3⟩ := ares_call (P := P) ha st hk
      refine call_wp h st h1 h2 h3 fun v x lim' w' m' os hK hR hS hP => hn' lim' w' (putO fr o.dst x) m' _ ?_ (hS.putO (fun t ht => okOper_dst hk ht) hR) hP
      unfold Kont at hK
      cases hd : o.dst <;> simpa [hd, putO] using hK
    · exact h.elim
  · next j b hg =>
    split at h
    · next g d hj hd =>
      split at h
      · next c hc =>
        have hdn := okOper_dst hk hd
        split at h
        · next f args ts hop =>
          obtain ⟨x, h1, h2⟩ := h
          refine step_guarded hg hj hd hdn hc (fun hcb F lim w ca st next Q hn' => ?_) h2
          rw [hcb] at h1
          have hcall := h1 rfl (fun x' m' => x' = x ∧ m' = m) ⟨rfl, rfl⟩
          have hA := args_rep (ca := ca) (a := gev (rawOf fr) true o.op) (args := args) (fun y hy => gev_rep st (okOper_opd hk y (by rw [hop]; simp [Op.operands, Call.operands]; exact .inr (by simpa using hy))))
          refine call_wp hcall st hA.1 hA.2 (fun fn g1 g2 g3 => by simp [execOp, hop, resolve, Deferred.ofValue, Act.eval, invoke, run_callFunc _ g1 g2 g3]) fun v x' lim' w' m' os hK hR hS hP => ?_
          obtain ⟨rfl, rfl⟩ := hK
          exact hn' v lim' w' hS.drop hR.plain hP
        · next t args ts hop =>
          split at h
          · next f first caps hfv =>
            obtain ⟨x, h1, h2⟩ := h
            refine step_guarded hg hj hd hdn hc (fun hcb F lim w ca st next Q hn' => ?_) h2
            rw [hcb] at h1 hfv
            have hcall := h1 rfl (fun x' m' => x' = x ∧ m' = m) ⟨rfl, rfl⟩
            have hA := args_rep (ca := ca) (a := gev (rawOf fr) true o.op) (args := args) (fun y hy => gev_rep st (okOper_opd hk y (by rw [hop]; simp [Op.operands, Call.operands]; exact .inr (by simpa using hy))))
            have hF := gev_rep (op := o.op) st (y := .tmp t) rfl
            rw [hfv] at hF
            obtain ⟨fa, cc, he, b1, b2⟩ := func_args hF hA
            refine call_wp hcall st b1 b2 (fun fn g1 g2 g3 => by simp [execOp, hop, resolve, he, Deferred.ofValue, invoke, run_callFunc _ g1 g2 g3]) fun v x' lim' w' m' os hK hR hS hP => ?_
            obtain ⟨rfl, rfl⟩ := hK
            exact hn' v lim' w' hS.drop hR.plain hP
          · exact h.elim
        · split at h
          · next side x hq =>
            refine step_guarded hg hj hd hdn hc (fun hcb F lim w ca st next Q hn' => ?_) h.2
            rw [hcb] at hq h
            obtain ⟨v, h1, h2⟩ := qv_sound (P := P) (w := w) (lim := lim) hq (h.1 rfl) (ca := ca) (fun y hy => gev_rep st (okOper_opd hk y hy)) st.memRep
            exact wp_of_value h1 (hn' v lim w st h2 (.refl _ _ _))
          · exact h.elim
      · exact h.elim
    · exact h.elim
def okAll (n : Nat) (ops : Array Oper) (ks : List Nat) : Bool := (ops.toList.all fun o => okOper n o && tmpsOk n o) && ks.all fun t => decide (t < n)
def Fr.init : Nat → List AV → Fr
  | _, [] => []
  | i, x :: r => (i, x) :: Fr.init (i + 1) r
theorem Fr.get_init : ∀ (l : List AV) (k t : Nat) (x : AV), (Fr.init k l).get t = some x → k ≤ t ∧ t - k < l.length ∧ l.getD (t - k) .junk = x := by
  intro l
  induction l with
  | nil => intro k t x h; simp [Fr.init, Fr.get] at h
  | cons y l ih =>
    intro k t x h
    simp only [Fr.init, Fr.get] at h
    by_cases e : k = t
    · subst e
      simp at h
      subst h
      simp
    · rw [if_neg e] at h
      obtain ⟨h1, h2, h3⟩ := ih (k + 1) t x h
      refine ⟨by omega, by simp; omega, ?_⟩
      rw [show t - k = (t - (k + 1)) + 1 from by omega, List.getD_cons_succ]
      exact h3
def resOf (P : Program) (fr : Fr) (m : AMem) : ResultVar → Option (Prop × AV)
  | .tmp t => some (True, rawOf fr t)
  | .cell a t =>
    match rawOf fr a with
    | .ptr ⟨b, off, none⟩ =>
      match m b with
      | some (.cells l) => some (apartOk P t l off, (apart P t l off).plain)
      | _ => none
    | _ => none
def resK (P : Program) (fn : Func) (fr : Fr) (m : AMem) (K : AV → AMem → Prop) : Prop :=
  match fn.results.toList with
  | [r] =>
    match resOf P fr m r with
    | some (side, x) => side ∧ ∃ m', (∀ b o, m' b = some o → m b = some o) ∧ K x m'
    | none => False
  | [r, s] =>
    match resOf P fr m r, resOf P fr m s with
    | some (side, x), some (side', y) => side ∧ side' ∧ ∃ m', (∀ b o, m' b = some o → m b = some o) ∧ K (.tuple [x, y.plain]) m'
    | _, _ => False
  | [r, s, t] =>
    match resOf P fr m r, resOf P fr m s, resOf P fr m t with
    | some (side, x), some (side', y), some (side'', z) => side ∧ side' ∧ side'' ∧ ∃ m', (∀ b o, m' b = some o → m b = some o) ∧ K (.tuple [x, y.plain, z.plain]) m'
    | _, _, _ => False
  | [] => ∃ m', (∀ b o, m' b = some o → m b = some o) ∧ K (.tuple []) m'
  | [r, s, t, u] =>
    match resOf P fr m r, resOf P fr m s, resOf P fr m t, resOf P fr m u with
    | some (side, x), some (side', y), some (side'', z), some (side3, a) => side ∧ side' ∧ side'' ∧ side3 ∧ ∃ m', (∀ b o, m' b = some o → m b = some o) ∧ K (.tuple [x.plain, y.plain, z.plain, a.plain]) m'
    | _, _, _, _ => False
  | _ => False
def RetPost (P : Program) (fn : Func) (K : AV → AMem → Prop) : Exit → Fr → AMem → Prop
  | .ret, fr, m | .normal, fr, m => resK P fn fr m K
  | _, _, _ => False
end
end Go.Aw
end
section
namespace Go.Aw
open Go
section
variable {P : Program} {F : Nat → Prop} {lim : Nat → Nat} {w : World} {n : Nat} {fr : Fr} {m : AMem} {ca : Act} {fl : List Nat}
theorem St.toMem (h : St F lim w n fr m ca fl) : St F lim w 0 [] m noAct fl := by
  obtain ⟨os, om, ow, h⟩ := h
  exact ⟨os, om, ow, rfl, rfl, fun t x hx => by simp [Fr.get] at hx, h.mem, fun t x hx => by simp [Fr.get] at hx, h.ownM, h.ownF, h.free, h.fresh⟩
theorem St.defers (h : St F lim w n fr m ca fl) : ca.defers = [] := by
  obtain ⟨os, om, ow, h⟩ := h
  exact h.defers
theorem St.takeAny (h : St F lim w n fr m ca []) (s : Nat) : ∃ os, St F lim w 0 [] m noAct os ∧ Rep w lim (ca.tmps.getD s undef) (rawOf fr s) os := by
  cases hg : fr.get s with
  | none => exact ⟨[], h.toMem, by simp [rawOf, hg]; exact .junk _⟩
  | some x =>
    obtain ⟨os, h1, h2⟩ := h.take hg
    exact ⟨os, h1.toMem, by simpa [rawOf, hg] using h2⟩
def resRun (P : Program) (tmps : Array Value) (w : World) (v : Value) : ResultVar → Prop
  | .tmp t => v = tmps.getD t undef
  | .cell a t => ∃ p, tmps.getD a undef = .pointer (some p) ∧ (loadVar t p).run P w = .ok v w
theorem resOf_sound {r : ResultVar} {side : Prop} {x : AV} (h : resOf P fr m r = some (side, x)) (hs : side) (st : St F lim w n fr m ca []) : ∃ v os, resRun P ca.tmps w v r ∧ St F lim w 0 [] m noAct os ∧ Rep w lim v x os := by
  cases r with
  | tmp t =>
    obtain ⟨rfl, rfl⟩ := some_inj h
    obtain ⟨os, h1, h2⟩ := st.takeAny t
    exact ⟨_, os, rfl, h1, h2⟩
  | cell a t =>
    simp only [resOf] at h
    split at h
    · next b off hraw =>
      split at h
      · next l hm =>
        obtain ⟨rfl, rfl⟩ := some_inj h
        obtain ⟨os, hM⟩ := st.memRep b _ hm
        obtain ⟨cs, e, oss, hbl, hsz, hr⟩ := mrep_cells_inv hM
        have hp : ca.tmps.getD a undef = .pointer (some ⟨b, off, none⟩) := by
          obtain ⟨os', _, h2⟩ := st.takeAny a
          rw [hraw] at h2
          exact rep_ptr_inv h2
        obtain ⟨v, h1, h2⟩ := load_sound (P := P) (w := w) (lim := lim) (t := t) (b := b) (off := 0) (l := AV.plainL l) (f := fun i => cs.getD i undef) (k := off) (by simpa [apartOk, AV.plainL_eq] using hs)
          (fun i hi => by
            have hi' : i < cs.size := by simpa [AV.plainL_eq, hsz] using hi
            simp [World.cell?, hbl, Array.getD, hi'])
          (fun i hi => by rw [getD_map_plain]; exact (hr i (by simpa [AV.plainL_eq] using hi)).plain)
        simp only [Nat.zero_add] at h1
        have : apart P t (AV.plainL l) off = (apart P t l off).plain := by
          unfold apart
          split
          · simp [AV.plain, AV.plainL_eq, List.map_drop, List.map_take]
          · rw [getD_map_plain]
        exact ⟨v, [], ⟨_, hp, h1⟩, st.toMem, by rw [← this]; exact h2⟩
      · cases h
    · cases h
def resSem (tmps : Array Value) : ResultVar → Sem Value
  | .tmp t => pure (tmps.getD t undef)
  | .cell a t => do loadVar t (← asAddr (tmps.getD a undef))
theorem results_eq (fn : Func) (tmps : Array Value) : results fn tmps = (do let vs ← fn.results.mapM (resSem tmps); pure (if h : vs.size = 1 then vs[0] else .tuple vs) : Sem Value) := by
  unfold results
  congr 1
theorem resRun_run {tmps : Array Value} {v : Value} {r : ResultVar} (h : resRun P tmps w v r) : (resSem tmps r).run P w = .ok v w := by
  cases r with
  | tmp t => simp only [resRun] at h; subst h; rfl
  | cell a t =>
    obtain ⟨p, h1, h2⟩ := h
    simp [resSem, h1, asAddr, h2]
theorem results_run1 {fn : Func} {tmps : Array Value} {r : ResultVar} {v : Value} (hf : fn.results.toList = [r]) (h : resRun P tmps w v r) : (results fn tmps).run P w = .ok v w := by
  have e : fn.results = #[r] := by apply Array.ext'; simpa using hf
  rw [results_eq, e]
  simp [resRun_run h]
theorem results_run2 {fn : Func} {tmps : Array Value} {r s : ResultVar} {v u : Value} (hf : fn.results.toList = [r, s]) (h : resRun P tmps w v r) (k : resRun P tmps w u s) : (results fn tmps).run P w = .ok (.tuple #[v, u]) w := by
  have e : fn.results = #[r, s] := by apply Array.ext'; simpa using hf
  rw [results_eq, e]
  simp [resRun_run h, resRun_run k]
theorem results_run3 {fn : Func} {tmps : Array Value} {r s t : ResultVar} {v u x : Value} (hf : fn.results.toList = [r, s, t]) (h : resRun P tmps w v r) (k : resRun P tmps w u s) (j : resRun P tmps w x t) : (results fn tmps).run P w = .ok (.tuple #[v, u, x]) w := by
  have e : fn.results = #[r, s, t] := by apply Array.ext'; simpa using hf
  rw [results_eq, e]
  simp [resRun_run h, resRun_run k, resRun_run j]
theorem results_run4 {fn : Func} {tmps : Array Value} {r s t q : ResultVar} {v u x y : Value} (hf : fn.results.toList = [r, s, t, q]) (h : resRun P tmps w v r) (k : resRun P tmps w u s) (j : resRun P tmps w x t) (i : resRun P tmps w y q) : (results fn tmps).run P w = .ok (.tuple #[v, u, x, y]) w := by
  have e : fn.results = #[r, s, t, q] := by apply Array.ext'; simpa using hf
  rw [results_eq, e]
  simp [resRun_run h, resRun_run k, resRun_run j, resRun_run i]
theorem rep_tuple4 {v u s t : Value} {x y z a : AV} (h : Rep w lim v x []) (k : Rep w lim u y []) (j : Rep w lim s z []) (l : Rep w lim t a []) : Rep w lim (.tuple #[v, u, s, t]) (.tuple [x, y, z, a]) [] := by
  have := Rep.tuple (w := w) (lim := lim) #[v, u, s, t] [x, y, z, a] (fun _ => []) (by simp) (fun i hi => by
    have : i = 0 ∨ i = 1 ∨ i = 2 ∨ i = 3 := by simp at hi; omega
    rcases this with rfl | rfl | rfl | rfl
    · exact h
    · exact k
    · exact j
    · exact l)
  rw [flatMap_nil] at this
  exact this
theorem rep_tuple2o {v u : Value} {x y : AV} {os : List Nat} (h : Rep w lim v x os) (k : Rep w lim u y []) : Rep w lim (.tuple #[v, u]) (.tuple [x, y]) os := by
  have := Rep.tuple (w := w) (lim := lim) #[v, u] [x, y] (fun i => if i = 0 then os else []) (by simp) (fun i hi => by
    have : i = 0 ∨ i = 1 := by simp at hi; omega
    rcases this with rfl | rfl
    · exact h
    · exact k)
  simpa [List.range_succ] using this
theorem rep_tuple3o {v u s : Value} {x y z : AV} {os : List Nat} (h : Rep w lim v x os) (k : Rep w lim u y []) (j : Rep w lim s z []) : Rep w lim (.tuple #[v, u, s]) (.tuple [x, y, z]) os := by
  have := Rep.tuple (w := w) (lim := lim) #[v, u, s] [x, y, z] (fun i => if i = 0 then os else []) (by simp) (fun i hi => by
    have : i = 0 ∨ i = 1 ∨ i = 2 := by simp at hi; omega
    rcases this with rfl | rfl | rfl
    · exact h
    · exact k
    · exact j)
  simpa [List.range_succ] using this
theorem resK_sound {fn : Func} {K : AV → AMem → Prop} (h : resK P fn fr m K) (st : St F lim w n fr m ca []) :
    ∃ v x m' os, (results fn ca.tmps).run P w = .ok v w ∧ K x m' ∧ Rep w lim v x os ∧ St F lim w 0 [] m' noAct os := by
  unfold resK at h
  split at h
  · next r hr =>
    split at h
    · next side x he =>
      obtain ⟨hs, m', hm, hK⟩ := h
      obtain ⟨v, os, h1, h2, h3⟩ := resOf_sound (P := P) he hs st
      exact ⟨v, x, m', os, results_run1 hr h1, hK, h3, h2.memSub hm⟩
    · exact h.elim
  · next r s hr =>
    split at h
    · next side x side' y he he' =>
      obtain ⟨hs, hs', m', hm, hK⟩ := h
      obtain ⟨v, os, h1, h2, h3⟩ := resOf_sound (P := P) he hs st
      obtain ⟨u, os', k1, k2, k3⟩ := resOf_sound (P := P) he' hs' st
      exact ⟨_, _, m', os, results_run2 hr h1 k1, hK, rep_tuple2o h3 k3.plain, h2.memSub hm⟩
    · exact h.elim
  · next r s t hr =>
    split at h
    · next side x side' y side'' z he he' he'' =>
      obtain ⟨hs, hs', hs'', m', hm, hK⟩ := h
      obtain ⟨v, os, h1, h2, h3⟩ := resOf_sound (P := P) he hs st
      obtain ⟨u, os', k1, k2, k3⟩ := resOf_sound (P := P) he' hs' st
      obtain ⟨s, os'', j1, j2, j3⟩ := resOf_sound (P := P) he'' hs'' st
      exact ⟨_, _, m', os, results_run3 hr h1 k1 j1, hK, rep_tuple3o h3 k3.plain j3.plain, h2.memSub hm⟩
    · exact h.elim
  · next hr =>
    obtain ⟨m', hm, hK⟩ := h
    have e : fn.results = #[] := by apply Array.ext'; simpa using hr
    refine ⟨.tuple #[], _, m', [], ?_, hK, ?_, st.toMem.memSub hm⟩
    · simp [results, e]
    · have := Rep.tuple (w := w) (lim := lim) #[] [] (fun _ => []) rfl (fun i hi => by simp at hi)
      simpa using this
  · next r s t q hr =>
    split at h
    · next side x side' y side'' z side3 a he he' he'' he3 =>
      obtain ⟨hs, hs', hs'', hs3, m', hm, hK⟩ := h
      obtain ⟨v, os, h1, h2, h3⟩ := resOf_sound (P := P) he hs st
      obtain ⟨u, os', k1, k2, k3⟩ := resOf_sound (P := P) he' hs' st
      obtain ⟨s, os'', j1, j2, j3⟩ := resOf_sound (P := P) he'' hs'' st
      obtain ⟨t, os3, i1, i2, i3⟩ := resOf_sound (P := P) he3 hs3 st
      exact ⟨_, _, m', [], results_run4 hr h1 k1 j1 i1, hK, rep_tuple4 h3.plain k3.plain j3.plain i3.plain, st.toMem.memSub hm⟩
    · exact h.elim
  · exact h.elim
theorem acalls_enter {f : FuncId} {fn : Func} {c : Code} {args : List AV} {K : AV → AMem → Prop} (hf : P.funcs[f]? = some fn) (hb : fn.body = some c) (hname : (fn.name == "runtime.NumGoroutine") = false) (hargs : args.length ≤ fn.ntmps)
    (h : AWP P fn.ntmps c (RetPost P fn K) (Fr.init 0 args) m) : ACalls P f args m K := by
  refine ⟨⟨fn, hf, by rw [hb]; rfl, hname⟩, fun F lim w cargs hs hr st => calls_of_wp hf hb ?_⟩
  have st' : St F lim w fn.ntmps (Fr.init 0 args) m { tmps := cargs ++ Array.replicate (fn.ntmps - cargs.size) undef, defers := [] } [] := by
    obtain ⟨os, om, ow, k⟩ := st
    refine ⟨fun _ => [], om, ow, by simp; omega, rfl, fun t x hx => ?_, k.mem, fun t x hx => by simp, k.ownM, k.ownF, k.free, k.fresh⟩
    obtain ⟨_, h1, h2⟩ := Fr.get_init args 0 t x hx
    simp only [Nat.sub_zero] at h1 h2
    refine ⟨by omega, ?_⟩
    have e : (cargs ++ Array.replicate (fn.ntmps - cargs.size) undef).getD t undef = cargs.getD t undef := by
      simp [Array.getD_eq_getD_getElem?, Array.getElem?_append, show t < cargs.size from by omega]
    rw [e, ← h2]
    exact hr t h1
  refine wp_mono (h F lim w _ st') fun e a w' ⟨lim', fr', m', q, s1, pr⟩ => ?_
  have hret : resK P fn fr' m' K → a.defers = [] ∧ ∃ v, (results fn a.tmps).run P w' = .ok v w' ∧ ∃ v' x lim' m' os, Ending.returned v = .returned v' ∧ K x m' ∧ Rep w' lim' v' x os ∧ St F lim' w' 0 [] m' noAct os ∧ Pres F w lim w' lim' := fun q => by
    obtain ⟨v, x, m'', os, h1, h2, h3, h4⟩ := resK_sound q s1
    exact ⟨s1.defers, v, h1, v, x, lim', m'', os, rfl, h2, h3, h4, pr⟩
  cases e with
  | ret => exact hret q
  | normal => exact hret q
  | _ => exact q.elim
end
end Go.Aw
end
section
namespace Go.Aw
open Go
section
variable {P : Program}
theorem qv_congr {m : AMem} {a a' : Operand → AV} : ∀ (op : Op), (∀ y ∈ op.operands.toList, a y = a' y) → qv P m a op = qv P m a' op := by
  intro op h
  cases op with
  | call c =>
    obtain ⟨cal, args, ts⟩ := c
    cases cal with
    | builtin b =>
      have h' : ∀ y ∈ args.toList, a y = a' y := fun y hy => h y (by simpa [Op.operands, Call.operands] using hy)
      cases b with
      | len =>
        simp only [qv]
        cases hx : args[0]? with
        | none => rfl
        | some x =>
          have := h' x (by rw [Array.mem_toList_iff]; exact Array.mem_of_getElem? hx)
          cases ts[0]? <;> simp only [this]
      | max =>
        simp only [qv]
        split
        · next x y hxy => rw [h' x (by rw [hxy]; simp), h' y (by rw [hxy]; simp)]
        · rfl
      | min =>
        simp only [qv]
        split
        · next x y hxy => rw [h' x (by rw [hxy]; simp), h' y (by rw [hxy]; simp)]
        · rfl
      | _ => rfl
    | _ => rfl
  | slice t x lo hi mx =>
    cases mx with
    | some z => rfl
    | none =>
      have e1 : lo.map a = lo.map a' := by cases lo with
        | none => rfl
        | some y => simp [h y (by simp [Op.operands])]
      have e2 : hi.map a = hi.map a' := by cases hi with
        | none => rfl
        | some y => simp [h y (by simp [Op.operands])]
      simp only [qv, e1, e2, h x (by simp [Op.operands])]
  | typeAssert x t u ok => cases ok <;> simp [qv, h x (by simp [Op.operands])]
  | pick c x y => simp only [qv, h c (by simp [Op.operands]), h x (by simp [Op.operands]), h y (by simp [Op.operands])]
  | binOp op t x y t2 => simp only [qv, h x (by simp [Op.operands]), h y (by simp [Op.operands])]
  | indexAddr t x y => simp only [qv, h x (by simp [Op.operands]), h y (by simp [Op.operands])]
  | index t x y => simp only [qv, h x (by simp [Op.operands]), h y (by simp [Op.operands])]
  | move x => simp only [qv, h x (by simp [Op.operands])]
  | assign x => simp only [qv, h x (by simp [Op.operands])]
  | load t x => simp only [qv, h x (by simp [Op.operands])]
  | nilCheck x => simp only [qv, h x (by simp [Op.operands])]
  | unOp op t x => simp only [qv, h x (by simp [Op.operands])]
  | convert s d x => simp only [qv, h x (by simp [Op.operands])]
  | makeInterface t x => simp only [qv, h x (by simp [Op.operands])]
  | fieldAddr t x f => simp only [qv, h x (by simp [Op.operands])]
  | field t x f => simp only [qv, h x (by simp [Op.operands])]
  | extract x i => simp only [qv, h x (by simp [Op.operands])]
  | _ => rfl
def tmpsOf (op : Op) : List Nat := op.operands.toList.flatMap slotOf
def slotsOf (ops : Array Oper) (o : Oper) : List Nat :=
  (match o.guard with
  | some (j, _) => (match (ops[j]?).bind (·.dst) with | some g => [g] | none => [])
  | none => []) ++ tmpsOf o.op
theorem evP_congr {raw raw' : Nat → AV} {op : Op} (h : ∀ t ∈ tmpsOf op, raw t = raw' t) : ∀ y ∈ op.operands.toList, evP raw y = evP raw' y := by
  intro y hy
  cases y with
  | tmp t => simp only [evP, h t (List.mem_flatMap.2 ⟨_, hy, by simp [slotOf]⟩)]
  | _ => rfl
def gLit : AV → Bool → Option Bool
  | .bool c, true => some c
  | .bool c, false => some (!c)
  | .lazy false _, _ => some false
  | _, _ => none
def gOn (ops : Array Oper) (fr : Fr) : Option (Nat × Bool) → Option Bool
  | none => some true
  | some (j, b) =>
    match (ops[j]?).bind (·.dst) with
    | some g => gLit (rawOf fr g) b
    | none => none
def pv0 (P : Program) (m : AMem) (c : AV) (raw : Nat → AV) (o : Oper) : Option (Prop × AV) :=
  match o.op with
  | .call ⟨.value (.func f), args, _⟩ => some (PureCall P f (args.toList.map (evP raw)) m c, c.plain)
  | .buildSlice t len parts =>
    match ares P m raw [] o.dst (.buildSlice t len parts) with
    | .val side [] _ x => some (side, x.plain)
    | _ => none
  | .build t parts =>
    match ares P m raw [] o.dst (.build t parts) with
    | .val side [] _ x => some (side, x.plain)
    | _ => none
  | .pick b x y =>
    match evP raw b with
    | .bool true => some (True, evP raw x)
    | .bool false => some (True, evP raw y)
    | _ => none
  | op => qv P m (evP raw) op
def pv (P : Program) (ops : Array Oper) (m : AMem) (c : AV) (raw : Nat → AV) (o : Oper) : Option (Prop × AV) :=
  match o.guard with
  | none => pv0 P m c raw o
  | some (j, b) =>
    match (ops[j]?).bind (·.dst) with
    | some g =>
      match gLit (raw g) b with
      | some true => pv0 P m c raw o
      | some false => some (True, .lazy false .junk)
      | none => none
    | none => none
theorem pv0_congr {m : AMem} {c : AV} {raw raw' : Nat → AV} {o : Oper} (ht : ∀ t ∈ tmpsOf o.op, raw t = raw' t) : pv0 P m c raw o = pv0 P m c raw' o := by
  unfold pv0
  split
  · next f args ts hop =>
    have : args.toList.map (evP raw) = args.toList.map (evP raw') := List.map_congr_left fun y hy => evP_congr ht y (by rw [hop]; simp [Op.operands, Call.operands]; exact .inr (by simpa using hy))
    rw [this]
  · next t len parts hop =>
    have hp : ∀ q ∈ parts.toList, evP raw q.2 = evP raw' q.2 := fun q hq => evP_congr ht q.2 (by rw [hop]; simp [Op.operands]; exact ⟨q.1, by simpa using hq⟩)
    have : ares P m raw [] o.dst (.buildSlice t len parts) = ares P m raw' [] o.dst (.buildSlice t len parts) := by
      simp only [ares]
      split
      · rfl
      split
      · have e1 : (parts.toList.map fun p => evP raw p.2) = parts.toList.map fun p => evP raw' p.2 := List.map_congr_left hp
        have e2 : (∀ q ∈ parts.toList, (evP raw q.2).topOk = true ∧ (evP raw q.2).cells.length = P.cellsOf ‹TypeId›) = (∀ q ∈ parts.toList, (evP raw' q.2).topOk = true ∧ (evP raw' q.2).cells.length = P.cellsOf ‹TypeId›) := by
          apply propext
          constructor
          · intro h q hq; rw [← hp q hq]; exact h q hq
          · intro h q hq; rw [hp q hq]; exact h q hq
        rw [e1, e2]
      · rfl
    rw [this]
  · next t parts hop =>
    have hp : ∀ q ∈ parts.toList, evP raw q.2 = evP raw' q.2 := fun q hq => evP_congr ht q.2 (by rw [hop]; simp [Op.operands]; exact ⟨q.1, by simpa using hq⟩)
    have : ares P m raw [] o.dst (.build t parts) = ares P m raw' [] o.dst (.build t parts) := by
      simp only [ares]
      split
      · rfl
      split
      · have e1 : (parts.toList.map fun p => (p.1, evP raw p.2)) = parts.toList.map fun p => (p.1, evP raw' p.2) := List.map_congr_left fun q hq => by rw [hp q hq]
        have e2 : (∀ q ∈ parts.toList, (evP raw q.2).topOk = true) = (∀ q ∈ parts.toList, (evP raw' q.2).topOk = true) := by
          apply propext
          constructor
          · intro h q hq; rw [← hp q hq]; exact h q hq
          · intro h q hq; rw [hp q hq]; exact h q hq
        rw [e1, e2]
      · rfl
    rw [this]
  · next b x y hop =>
    have e : ∀ q ∈ [b, x, y], evP raw q = evP raw' q := fun q hq => evP_congr ht q (by rw [hop]; simpa [Op.operands] using hq)
    rw [e b (by simp), e x (by simp), e y (by simp)]
  · exact qv_congr _ (evP_congr ht)
theorem pv_congr {ops : Array Oper} {m : AMem} {c : AV} {raw raw' : Nat → AV} {o : Oper} (h : ∀ t ∈ slotsOf ops o, raw t = raw' t) : pv P ops m c raw o = pv P ops m c raw' o := by
  have ht : ∀ t ∈ tmpsOf o.op, raw t = raw' t := fun t ht => h t (List.mem_append.2 (.inr ht))
  unfold pv
  cases hg : o.guard with
  | none => exact pv0_congr ht
  | some jb =>
    obtain ⟨j, b⟩ := jb
    simp only
    cases hj : (ops[j]?).bind (·.dst) with
    | none => rfl
    | some g =>
      have hgr : raw g = raw' g := h g (by simp [slotsOf, hg, hj])
      simp only [hgr, pv0_congr ht]
def pseq (P : Program) (ops : Array Oper) (m : AMem) : List AV → List Oper → Fr → (Fr → Prop) → Prop
  | _, [], fr, K => K fr
  | cs, o :: r, fr, K =>
    match pv P ops m (cs.headD .junk) (rawOf fr) o with
    | some (side, x) => side ∧ pseq P ops m (match o.op with | .call ⟨.value (.func _), _, _⟩ => cs.tail | _ => cs) r (putO fr o.dst x) K
    | none => False
theorem pseq_trace {ops : Array Oper} {m : AMem} : ∀ (l : List Oper) (cs : List AV) (fr : Fr) (K : Fr → Prop), pseq P ops m cs l fr K → ∃ (T : Nat → Fr) (c : Nat → AV) (val : Nat → AV), T 0 = fr ∧ K (T l.length) ∧
    ∀ i o, l[i]? = some o → (∃ side, pv P ops m (c i) (rawOf (T i)) o = some (side, val i) ∧ side) ∧ T (i + 1) = putO (T i) o.dst (val i) := by
  intro l
  induction l with
  | nil => intro cs fr K h; exact ⟨fun _ => fr, fun _ => .junk, fun _ => .junk, rfl, h, fun i o hi => by simp at hi⟩
  | cons o l ih =>
    intro cs fr K h
    simp only [pseq] at h
    split at h
    · next side x hp =>
      obtain ⟨hs, h⟩ := h
      obtain ⟨T, c, val, h1, h2, h3⟩ := ih _ _ K h
      refine ⟨fun i => match i with | 0 => fr | i + 1 => T i, fun i => match i with | 0 => cs.headD .junk | i + 1 => c i, fun i => match i with | 0 => x | i + 1 => val i, rfl, h2, fun i o' hi => ?_⟩
      cases i with
      | zero => simp at hi; subst hi; exact ⟨⟨side, hp, hs⟩, h1⟩
      | succ i => exact h3 i o' (by simpa using hi)
    · exact h.elim
def edgeTo (o : Oper) (j : Nat) : Bool := o.after.toList.any fun e => e.on == j && Region.binds .any e
def drawOk (ops : Array Oper) : Bool :=
  (ops.toList.all fun o => o.dst.isSome) &&
  (List.range ops.size).all fun i =>
    match ops[i]? with
    | some o =>
      (o.after.toList.all fun e => !Region.binds .any e || decide (e.on < i)) &&
      (List.range ops.size).all fun j =>
        match ops[j]? with
        | some p =>
          (decide (i = j) || !(o.dst == p.dst)) &&
          (match p.dst with
          | some d => !((slotsOf ops o).contains d) || (if j < i then edgeTo o j else if i < j then edgeTo p i else true)
          | none => true)
        | none => true
    | none => true
variable {F : Nat → Prop} {lim : Nat → Nat} {w : World} {n : Nat} {fr : Fr} {m : AMem} {ca : Act} {fl : List Nat}
theorem pureCall_wp {f : FuncId} {args : List AV} {x : AV} (hc : PureCall P f args m x) (st : St F lim w n fr m ca []) {cargs : Array Value} (hs : cargs.size = args.length) (hr : ∀ i, i < args.length → Rep w lim (cargs.getD i undef) (args.getD i .junk) [])
    {o : Oper} {next : Act → World → Prop} {Q : Exit → Act → World → Prop} (he : ∀ fn, P.funcs[f]? = some fn → fn.body.isSome = true → (fn.name == "runtime.NumGoroutine") = false → (execOp ca.eval o).run P w = .ok (.enter f cargs) w)
    (hn : ∀ v lim' w', St F lim' w' n fr m ca [] → Rep w' lim' v x.plain [] → Pres F w lim w' lim' → next (ca.put o.dst v) w') : o.wp P ca w next Q :=
  call_wp (hc (fun x' m' => x' = x ∧ m' = m) ⟨rfl, rfl⟩) st hs hr he fun v x' lim' w' m' os hK hR hS hP => by
    obtain ⟨rfl, rfl⟩ := hK
    exact hn v lim' w' hS.drop hR.plain hP
theorem gLit_rep {v : Value} {x : AV} {b z : Bool} {os : List Nat} (hz : gLit x b = some z) (hr : Rep w lim v x os) : (boolIn v == some b) = z := by
  unfold gLit at hz
  split at hz
  · obtain rfl := Option.some.inj hz
    cases hr
    rename_i c
    cases c <;> rfl
  · obtain rfl := Option.some.inj hz
    cases hr
    rename_i c
    cases c <;> rfl
  · obtain rfl := Option.some.inj hz
    cases hr with
    | lazyF => rfl
  · cases hz
theorem wanted_lit {ops : Array Oper} {o : Oper} {j g : Nat} {b z : Bool} (hg : o.guard = some (j, b)) (hj : (ops[j]?).bind (·.dst) = some g) (st : St F lim w n fr m ca fl) (hz : gLit (rawOf fr g) b = some z) :
    Region.wanted o (yielded ops ca.tmps) = z := by
  obtain ⟨os, om, ow, h⟩ := st
  cases hh : fr.get g with
  | none => simp [rawOf, hh, gLit] at hz
  | some x =>
    simp only [rawOf, hh, Option.getD_some] at hz
    obtain ⟨hlt, hr⟩ := h.slots g _ hh
    have hlt' : g < ca.tmps.size := by rw [h.size]; exact hlt
    have hv' : ca.tmps[g]? = some (ca.tmps.getD g undef) := by
      rw [Array.getElem?_eq_getElem hlt']
      simp [Array.getD, hlt']
    have := gLit_rep hz hr
    simp only [Region.wanted, hg, yielded, hj, Option.bind_some, hv']
    rw [← this]
    generalize ca.tmps.getD g undef = v
    cases v <;> rfl
theorem pv0_step {o : Oper} {c : AV} {side : Prop} {x : AV} (hk : okOper n o = true) (hn : tmpsOk n o = true) (h : pv0 P m c (rawOf fr) o = some (side, x)) (hs : side) (st : St F lim w n fr m ca [])
    {next : Act → World → Prop} {Q : Exit → Act → World → Prop} (hq' : ∀ v lim' w', St F lim' w' n fr m ca [] → Rep w' lim' v x [] → Pres F w lim w' lim' → (∀ s, o.op = .move (.tmp s) → v = ca.tmps.getD s undef) → next (ca.put o.dst v) w') : o.wp P ca w next Q := by
  have hopd := okOper_opd hk
  unfold pv0 at h
  split at h
  · next f args ts hop =>
    replace hq' : ∀ v lim' w', St F lim' w' n fr m ca [] → Rep w' lim' v x [] → Pres F w lim w' lim' → next (ca.put o.dst v) w' := fun v lim' w' h1 h2 h3 => hq' v lim' w' h1 h2 h3 fun s hs => by rw [hop] at hs; cases hs
    obtain ⟨rfl, rfl⟩ := some_inj h
    have hA := args_rep (ca := ca) (a := evP (rawOf fr)) (args := args) (fun y hy => evP_rep st (hopd y (by rw [hop]; simp [Op.operands, Call.operands]; exact .inr (by simpa using hy))))
    exact pureCall_wp hs st hA.1 hA.2 (fun fn g1 g2 g3 => by simp [execOp, hop, resolve, Deferred.ofValue, Act.eval, invoke, run_callFunc _ g1 g2 g3]) hq'
  · next t len parts hop =>
    split at h
    · next side' m' x' ha =>
      obtain ⟨rfl, rfl⟩ := some_inj h
      rw [← hop] at ha
      have hm' : m' = m := by
        rw [hop] at ha
        simp only [ares] at ha
        split at ha
        · cases ha
        split at ha
        · injection ha with _ _ e; exact e.symm
        · cases ha
      subst hm'
      obtain ⟨v, w', lim', os, h1, h2, h3, h4⟩ := ares_val (P := P) ha hs st hk hn
      exact wp_of_value h1 (hq' v lim' w' h2.drop h3.plain h4 fun s hs => by rw [hop] at hs; cases hs)
    · cases h
  · next t parts hop =>
    split at h
    · next side' m' x' ha =>
      obtain ⟨rfl, rfl⟩ := some_inj h
      rw [← hop] at ha
      have hm' : m' = m := by
        rw [hop] at ha
        simp only [ares] at ha
        split at ha
        · cases ha
        split at ha
        · split at ha
          · injection ha with _ _ e; exact e.symm
          · cases ha
        · cases ha
      subst hm'
      obtain ⟨v, w', lim', os, h1, h2, h3, h4⟩ := ares_val (P := P) ha hs st hk hn
      exact wp_of_value h1 (hq' v lim' w' h2.drop h3.plain h4 fun s hs => by rw [hop] at hs; cases hs)
    · cases h
  · next b' x' y' hop =>
    have pickCase : ∀ (bb : Bool), evP (rawOf fr) b' = .bool bb → x = evP (rawOf fr) (if bb then x' else y') → o.wp P ca w next Q := by
      intro bb hb hx
      have hbr := evP_rep st (hopd b' (by rw [hop]; simp [Op.operands]))
      rw [hb] at hbr
      have hbv : ca.eval b' = .bool bb := by
        generalize ca.eval b' = v at hbr
        cases hbr
        rfl
      have hpr := evP_rep st (hopd (if bb then x' else y') (by rw [hop]; cases bb <;> simp [Op.operands]))
      rw [← hx] at hpr
      refine wp_of_value (v := ca.eval (if bb then x' else y')) ?_ (hq' _ lim w st hpr (.refl _ _ _) fun s hs => by rw [hop] at hs; cases hs)
      cases bb <;> simp [execOp, hop, hbv, asBool]
    split at h
    · next hb => obtain ⟨rfl, rfl⟩ := some_inj h; exact pickCase true hb rfl
    · next hb => obtain ⟨rfl, rfl⟩ := some_inj h; exact pickCase false hb rfl
    · cases h
  · obtain ⟨v, h1, h2⟩ := qv_sound (P := P) (w := w) (lim := lim) h hs (ca := ca) (fun y hy => evP_rep st (hopd y hy)) st.memRep
    exact wp_of_value h1 (hq' v lim w st h2 (.refl _ _ _) fun s hs => by
      rw [execOp, hs] at h1
      simp only [Sem.run_pure, Result.ok.injEq] at h1
      have := h1.1
      injection this with this
      rw [← this]; rfl)
theorem pv_step {ops : Array Oper} {o : Oper} {c : AV} {side : Prop} {x : AV} {d : Nat} (hk : okOper n o = true) (hn : tmpsOk n o = true) (h : pv P ops m c (rawOf fr) o = some (side, x)) (hs : side) (hd : o.dst = some d) (st : St F lim w n fr m ca [])
    {next : Act → World → Prop} {Q : Exit → Act → World → Prop} (hq : ∀ lim' w' v, St F lim' w' n (fr.put d x) m (ca.put o.dst v) [] → Pres F w lim w' lim' → (∀ s, o.op = .move (.tmp s) → o.guard = none → v = ca.tmps.getD s undef) → next (ca.put o.dst v) w') :
    if Region.wanted o (yielded ops ca.tmps) then o.wp P ca w next Q ∨ (o.asks P ca w ∧ LetsOut Q) else next (ca.put o.dst undef) w := by
  have hdn := okOper_dst hk hd
  have run : pv0 P m c (rawOf fr) o = some (side, x) → o.wp P ca w next Q := fun h => pv0_step hk hn h hs st fun v lim' w' h1 h2 h3 h4 => hq lim' w' _ (by rw [hd]; exact h1.set hdn h2) h3 fun s hs _ => h4 s hs
  unfold pv at h
  split at h
  · next hg =>
    rw [if_pos (by simp [Region.wanted, hg])]
    exact .inl (run h)
  · next j b hg =>
    split at h
    · next g hj =>
      split at h
      · next hz =>
        rw [if_pos (wanted_lit hg hj st hz)]
        exact .inl (run h)
      · next hz =>
        rw [wanted_lit hg hj st hz, if_neg (by simp)]
        obtain ⟨rfl, rfl⟩ := some_inj h
        refine hq lim w _ ?_ (.refl _ _ _) fun s _ hg' => by rw [hg] at hg'; cases hg'
        rw [hd]; exact st.set hdn (.lazyF _)
      · cases h
    · cases h
end
end Go.Aw
end
