/-
  The abstract layer, part 18: the region whose order is open: every order comes to the same.
-/
import Derived.Test.YtaeknjhnpmhcmaaWwQ
import Derived.ProofKit
import Derived.Below
import Derived.ChangeSame
import Derived.Carry
import Derived.SizedLaws
import Derived.MapKept
import Derived.WideMake
import Derived.Maps.RangeRun
import Derived.Shelf.Sort.Plain
section
namespace Go.Aw
open Go
theorem filter_lt {α : Type} (p p' : α → Bool) (hpp : ∀ x, p' x = true → p x = true) : ∀ (l : List α) (i : α), i ∈ l → p i = true → p' i = false → (l.filter p').length < (l.filter p).length := by
  have hle : ∀ l : List α, (l.filter p').length ≤ (l.filter p).length := fun l => by
    induction l with
    | nil => simp
    | cons x l ih =>
      simp only [List.filter_cons]
      cases h1 : p' x with
      | true => simp [hpp x h1]; exact ih
      | false => cases h2 : p x <;> simp <;> omega
  intro l
  induction l with
  | nil => intro i hi; cases hi
  | cons x l ih =>
    intro i hi h1 h2
    simp only [List.filter_cons]
    rcases List.mem_cons.1 hi with rfl | hi
    · simp [h1, h2]
      have := hle l; omega
    · have := ih i hi h1 h2
      cases h3 : p' x with
      | true => simp [hpp x h3]; exact this
      | false => cases h4 : p x <;> simp <;> omega
section
variable {P : Program} {n : Nat} {fr : Fr} {m : AMem}
structure DrawFacts (ops : Array Oper) : Prop where
  dst : ∀ (i : Nat) (o : Oper), ops[i]? = some o → ∃ d, o.dst = some d
  back : ∀ (i : Nat) (o : Oper) (e : Edge), ops[i]? = some o → e ∈ o.after → Region.binds .any e = true → e.on < i
  apart : ∀ (i j : Nat) (o p : Oper), ops[i]? = some o → ops[j]? = some p → o.dst = p.dst → i = j
  looks : ∀ (i j : Nat) (o p : Oper) (d : Nat), ops[i]? = some o → ops[j]? = some p → p.dst = some d → d ∈ slotsOf ops o → (j < i → ∃ e ∈ o.after, e.on = j ∧ Region.binds .any e = true) ∧ (i < j → ∃ e ∈ p.after, e.on = i ∧ Region.binds .any e = true)
theorem edgeTo_iff {o : Oper} {j : Nat} (h : edgeTo o j = true) : ∃ e ∈ o.after, e.on = j ∧ Region.binds .any e = true := by
  simp only [edgeTo, List.any_eq_true] at h
  obtain ⟨e, h1, h2⟩ := h
  simp only [Bool.and_eq_true, beq_iff_eq] at h2
  exact ⟨e, by simpa using h1, h2.1, h2.2⟩
theorem drawFacts {ops : Array Oper} (h : drawOk ops = true) : DrawFacts ops := by
  simp only [drawOk, Bool.and_eq_true, List.all_eq_true, List.mem_range] at h
  obtain ⟨h1, h2⟩ := h
  have hlt : ∀ {i : Nat} {o : Oper}, ops[i]? = some o → i < ops.size := fun hi => (Array.getElem?_eq_some_iff.1 hi).1
  refine ⟨fun i o hi => ?_, fun i o e hi he hb => ?_, fun i j o p hi hj hd => ?_, fun i j o p d hi hj hp hd => ?_⟩
  · have := h1 o (by rw [Array.mem_toList_iff]; exact Array.mem_of_getElem? hi)
    exact Option.isSome_iff_exists.1 this
  · have := h2 i (hlt hi)
    simp only [hi, Bool.and_eq_true, List.all_eq_true] at this
    have := this.1 e (by simpa using he)
    simpa [hb] using this
  · have := h2 i (hlt hi)
    simp only [hi, Bool.and_eq_true, List.all_eq_true, List.mem_range] at this
    have := this.2 j (hlt hj)
    simp only [hj, Bool.and_eq_true, Bool.or_eq_true, decide_eq_true_eq] at this
    rcases this.1 with h | h
    · exact h
    · rw [hd] at h; simp at h
  · have := h2 i (hlt hi)
    simp only [hi, Bool.and_eq_true, List.all_eq_true, List.mem_range] at this
    have := this.2 j (hlt hj)
    simp only [hj, hp, Bool.and_eq_true, Bool.or_eq_true] at this
    have := this.2
    have hc : (slotsOf ops o).contains d = true := by simpa using hd
    rw [hc] at this
    simp only [Bool.not_true, Bool.false_eq_true, false_or] at this
    refine ⟨fun hji => ?_, fun hij => ?_⟩
    · rw [if_pos hji] at this; exact edgeTo_iff this
    · rw [if_neg (by omega), if_pos hij] at this; exact edgeTo_iff this
theorem rawOf_put (fr : Fr) (d t : Nat) (x : AV) : rawOf (fr.put d x) t = if d = t then x else rawOf fr t := by
  simp only [rawOf, Fr.get_put]
  split <;> rfl
theorem text_frames {ops : Array Oper} (D : DrawFacts ops) {T : Nat → Fr} {val : Nat → AV} (h0 : T 0 = fr) (hs : ∀ (i : Nat) (o : Oper), ops[i]? = some o → T (i + 1) = putO (T i) o.dst (val i)) :
    ∀ i, i ≤ ops.size → ∀ t, (∀ (j : Nat) (o : Oper), j < i → ops[j]? = some o → o.dst = some t → rawOf (T i) t = val j) ∧ ((∀ (j : Nat) (o : Oper), j < i → ops[j]? = some o → o.dst ≠ some t) → rawOf (T i) t = rawOf fr t) := by
  intro i
  induction i with
  | zero => intro _ t; exact ⟨fun j o hj => absurd hj (Nat.not_lt_zero _), fun _ => by rw [h0]⟩
  | succ i ih =>
    intro hi t
    have hlt : i < ops.size := hi
    obtain ⟨ih1, ih2⟩ := ih (by omega) t
    have ho : ops[i]? = some ops[i] := Array.getElem?_eq_getElem hlt
    obtain ⟨d, hd⟩ := D.dst i _ ho
    have hT := hs i _ ho
    rw [hd] at hT
    simp only [putO] at hT
    rw [hT, rawOf_put]
    refine ⟨fun j o hj hjo hdt => ?_, fun hno => ?_⟩
    · by_cases e : d = t
      · subst e
        have : j = i := D.apart j i o _ hjo ho (by rw [hdt, hd])
        subst this
        simp
      · rw [if_neg e]
        refine ih1 j o ?_ hjo hdt
        rcases Nat.lt_succ_iff_lt_or_eq.1 hj with h | h
        · exact h
        · subst h
          rw [ho] at hjo
          cases hjo
          rw [hd] at hdt
          exact (e (by simpa using hdt)).elim
    · have e : ¬ d = t := fun e => hno i _ (Nat.lt_succ_self i) ho (by rw [hd, e])
      rw [if_neg e]
      exact ih2 fun j o hj hjo => hno j o (by omega) hjo
set_option maxHeartbeats 1000000 in
theorem awp_draw {id : Nat} {ops : Array Oper} {Q : Exit → Fr → AMem → Prop} (hm : P.follows .mixedOrders = true) (cs : List AV) (ks : List Nat) (hk : okAll n ops ks = true) (hd : drawOk ops = true)
    (h : pseq P ops m cs ops.toList fr (fun fr' => Q .normal (fr'.keep ks) m)) : AWP P n (.region id ops true) Q fr m := by
  intro F lim w ca st
  have D := drawFacts hd
  simp only [okAll, Bool.and_eq_true, List.all_eq_true] at hk
  obtain ⟨T, c, val, hT0, hTK, hTs⟩ := pseq_trace _ _ _ _ h
  simp only [Array.getElem?_toList, Array.length_toList] at hTs hTK
  have hTf := text_frames D hT0 (fun i o ho => (hTs i o ho).2)
  have hlt : ∀ {i : Nat} {o : Oper}, ops[i]? = some o → i < ops.size := fun hi => (Array.getElem?_eq_some_iff.1 hi).1
  refine wp_region_any hm ?_
  have key : ∀ fuel (listed : Array Bool) fr' lim' w' ca', listed.size = ops.size →
      (∀ t, (∀ (j : Nat) (o : Oper), ops[j]? = some o → listed.getD j false = true → o.dst = some t → rawOf fr' t = val j) ∧ ((∀ (j : Nat) (o : Oper), ops[j]? = some o → listed.getD j false = true → o.dst ≠ some t) → rawOf fr' t = rawOf fr t)) →
      (∀ (j : Nat) (o : Oper) (e : Edge), ops[j]? = some o → listed.getD j false = true → e ∈ o.after → Region.binds .any e = true → listed.getD e.on false = true) →
      ((List.range ops.size).filter fun j => !listed.getD j false).length ≤ fuel →
      St F lim' w' n fr' m ca' [] → Pres F w lim w' lim' → wpAny P .any ops (APost F lim w n Q) fuel listed ca' w' := by
    intro fuel
    have fin : ∀ (listed : Array Bool) fr' lim' w' ca', (∀ t, (∀ (j : Nat) (o : Oper), ops[j]? = some o → listed.getD j false = true → o.dst = some t → rawOf fr' t = val j) ∧ ((∀ (j : Nat) (o : Oper), ops[j]? = some o → listed.getD j false = true → o.dst ≠ some t) → rawOf fr' t = rawOf fr t)) →
        (∀ j, j < ops.size → listed.getD j false = true) → St F lim' w' n fr' m ca' [] → Pres F w lim w' lim' → APost F lim w n Q .normal ca' w' := fun listed fr' lim' w' ca' hM hall s1 pr => by
      have hraw : ∀ t, rawOf fr' t = rawOf (T ops.size) t := fun t => by
        obtain ⟨a1, a2⟩ := hM t
        obtain ⟨b1, b2⟩ := hTf ops.size (Nat.le_refl _) t
        by_cases hex : ∃ (j : Nat) (o : Oper), ops[j]? = some o ∧ o.dst = some t
        · obtain ⟨j, o, hj, ho⟩ := hex
          rw [a1 j o hj (hall j (hlt hj)) ho, b1 j o (hlt hj) hj ho]
        · rw [a2 fun j o hj _ ho => hex ⟨j, o, hj, ho⟩, b2 fun j o _ hj ho => hex ⟨j, o, hj, ho⟩]
      have hkeep : Fr.keep ks (T ops.size) = Fr.keep ks fr' := by
        unfold Fr.keep
        exact List.map_congr_left fun t _ => by have := hraw t; simp only [rawOf] at this; rw [this]
      rw [hkeep] at hTK
      exact ⟨lim', _, m, hTK, s1.keep (fun t ht => by simpa using hk.2 t ht), pr⟩
    have done : ∀ (listed : Array Bool), listed.size = ops.size → Region.ready .any ops listed = [] → ∀ j, j < ops.size → listed.getD j false = true := fun listed hls hr j => by
      induction j using Nat.strongRecOn with
      | _ j ih =>
        intro hj
        cases hl : listed.getD j false with
        | true => rfl
        | false =>
          have ho : ops[j]? = some ops[j] := Array.getElem?_eq_getElem hj
          have : j ∈ Region.ready .any ops listed := by
            rw [mem_ready]
            refine ⟨?_, _, ho, fun e he hb => ih e.on (D.back j _ e ho he hb) (Nat.lt_trans (D.back j _ e ho he hb) hj)⟩
            simp only [Array.getD_eq_getD_getElem?, Array.getElem?_eq_getElem (show j < listed.size by omega), Option.getD_some] at hl ⊢
            exact hl
          rw [hr] at this; cases this
    induction fuel with
    | zero =>
      intro listed fr' lim' w' ca' hls hM hC hcnt s1 pr
      have hall : ∀ j, j < ops.size → listed.getD j false = true := fun j hj => by
        cases hl : listed.getD j false with
        | true => rfl
        | false =>
          have : j ∈ (List.range ops.size).filter fun j => !listed.getD j false := List.mem_filter.2 ⟨List.mem_range.2 hj, by rw [hl]; rfl⟩
          have := List.length_pos_of_mem this
          omega
      refine ⟨?_, fin listed fr' lim' w' ca' hM hall s1 pr⟩
      cases hr : Region.ready .any ops listed with
      | nil => rfl
      | cons j rs =>
        have hj : j ∈ Region.ready .any ops listed := by rw [hr]; simp
        rw [mem_ready] at hj
        obtain ⟨h1, o, ho, _⟩ := hj
        have := hall j (hlt ho)
        simp only [Array.getD_eq_getD_getElem?, Array.getElem?_eq_getElem (show j < listed.size by have := hlt ho; omega), Option.getD_some] at h1 this
        rw [h1] at this; cases this
    | succ fuel ih =>
      intro listed fr' lim' w' ca' hls hM hC hcnt s1 pr
      refine ⟨fun hr => fin listed fr' lim' w' ca' hM (done listed hls hr) s1 pr, fun i hi => ?_⟩
      rw [mem_ready] at hi
      obtain ⟨hnl, o, ho, hedge⟩ := hi
      have hio := hlt ho
      have hnl' : listed.getD i false = false := by
        simp only [Array.getD_eq_getD_getElem?, Array.getElem?_eq_getElem (show i < listed.size by omega), Option.getD_some] at hnl ⊢
        exact hnl
      obtain ⟨⟨side, hpv, hside⟩, _⟩ := hTs i o ho
      obtain ⟨d, hod⟩ := D.dst i o ho
      have hraw : ∀ t ∈ slotsOf ops o, rawOf (T i) t = rawOf fr' t := fun t ht => by
        obtain ⟨a1, a2⟩ := hM t
        obtain ⟨b1, b2⟩ := hTf i (Nat.le_of_lt hio) t
        by_cases hex : ∃ (j : Nat) (p : Oper), ops[j]? = some p ∧ p.dst = some t
        · obtain ⟨j, p, hj, hp⟩ := hex
          obtain ⟨l1, l2⟩ := D.looks i j o p t ho hj hp ht
          have huniq : ∀ (j' : Nat) (p' : Oper), ops[j']? = some p' → p'.dst = some t → j' = j := fun j' p' hj' hp' => D.apart j' j p' p hj' hj (by rw [hp', hp])
          by_cases hji : j < i
          · obtain ⟨e, he, heon, heb⟩ := l1 hji
            have hlj : listed.getD j false = true := by rw [← heon]; exact hedge e he heb
            rw [a1 j p hj hlj hp, b1 j p hji hj hp]
          · have hnlj : listed.getD j false = false := by
              by_cases hij : i < j
              · obtain ⟨e, he, heon, heb⟩ := l2 hij
                cases hlj : listed.getD j false with
                | false => rfl
                | true =>
                  have := hC j p e hj hlj he heb
                  rw [heon, hnl'] at this; cases this
              · have : i = j := by omega
                subst this; exact hnl'
            have q1 := a2 (fun j' p' hj' hl' hp' => by
              rw [huniq j' p' hj' hp', hnlj] at hl'
              cases hl')
            have q2 := b2 (fun j' p' hj' hjo hp' => by
              have := huniq j' p' hjo hp'
              omega)
            rw [q1, q2]
        · rw [a2 fun j p hj _ hp => hex ⟨j, p, hj, hp⟩, b2 fun j p _ hj hp => hex ⟨j, p, hj, hp⟩]
      rw [pv_congr hraw] at hpv
      show wpOp P ops _ i _ ca' w'
      unfold wpOp
      rw [ho]
      show if Region.wanted o (yielded ops ca'.tmps) then _ else _
      have hok := hk.1 o (by rw [Array.mem_toList_iff]; exact Array.mem_of_getElem? ho)
      refine pv_step hok.1 hok.2 hpv hside hod s1 fun lim'' w'' v'' s2 pr2 _ => ?_
      refine ih (listed.setIfInBounds i true) (fr'.put d (val i)) lim'' w'' _ (by simp [hls]) (fun t => ?_) (fun j p e hj hl he hb => ?_) ?_ s2 (pr.trans pr2)
      · obtain ⟨a1, a2⟩ := hM t
        rw [rawOf_put]
        refine ⟨fun j p hj hl hp => ?_, fun hno => ?_⟩
        · by_cases e : d = t
          · subst e
            have : j = i := D.apart j i p o hj ho (by rw [hp, hod])
            subst this; simp
          · rw [if_neg e]
            have hji : i ≠ j := by
              intro e'
              subst e'
              rw [ho] at hj
              have hop : o = p := by simpa using hj
              rw [← hop, hod] at hp
              exact e (by simpa using hp)
            rw [getD_set_ne false hji] at hl
            exact a1 j p hj hl hp
        · have e : ¬ d = t := fun e => hno i o ho (by simp [show i < listed.size by omega]) (by rw [hod, e])
          rw [if_neg e]
          exact a2 fun j p hj hl => hno j p hj (getD_set_true hl)
      · by_cases hji : i = j
        · subst hji
          rw [ho] at hj; cases hj
          exact getD_set_true (hedge e he hb)
        · rw [getD_set_ne false hji] at hl
          exact getD_set_true (hC j p e hj hl he hb)
      · have hmono : ∀ x, (!(listed.setIfInBounds i true).getD x false) = true → (!listed.getD x false) = true := by
          intro x hx
          cases hl : listed.getD x false with
          | false => rfl
          | true => rw [getD_set_true hl] at hx; simp at hx
        have := filter_lt (fun j => !listed.getD j false) (fun j => !(listed.setIfInBounds i true).getD j false) hmono (List.range ops.size) i (by simpa using hio) (by rw [hnl']; rfl) (by simp [show i < listed.size by omega])
        omega
  refine key ops.size (Array.replicate ops.size false) fr lim _ ca (by simp) (fun t => ⟨fun j o hj hl => ?_, fun _ => rfl⟩) (fun j o e hj hl => ?_) ?_ (st.heap (w' := { w with drawn := w.drawn + 1 }) rfl) (Pres.drew F w lim)
  · have := hlt hj
    simp [Array.getD_eq_getD_getElem?, this] at hl
  · have := hlt hj
    simp [Array.getD_eq_getD_getElem?, this] at hl
  · refine Nat.le_trans (List.length_filter_le _ _) (by simp)
theorem awp_draw_seq {id : Nat} {ops : Array Oper} {c : Code} {Q : Exit → Fr → AMem → Prop} (hm : P.follows .mixedOrders = true) (cs : List AV) (ks : List Nat) (hk : okAll n ops ks = true) (hd : drawOk ops = true)
    (h : ∀ K : Fr → AMem → Prop, (∀ fr m, AWP P n c Q fr m → K fr m) → pseq P ops m cs ops.toList fr (fun fr' => K (fr'.keep ks) m)) : AWP P n (.seq (.region id ops true) c) Q fr m :=
  awp_seq_k fun K hK => awp_draw hm cs ks hk hd (h K hK)
def Fr.repl (t : Nat) (x : AV) : Fr → Fr
  | [] => []
  | (s, y) :: r => if s = t then (s, x) :: r else (s, y) :: Fr.repl t x r
def Fr.over (fr : Fr) : List (Nat × AV) → Fr
  | [] => fr
  | (t, x) :: r => Fr.over (Fr.repl t x fr) r
end
end Go.Aw
end
section
namespace Go.Aw
open Go Go.RowKit Go.WideShapes Go.ChangeShapes
def limOf (W : World) (b : Nat) : Nat := match W.heap[b]? with
  | some (.cells cs _ _) => cs.size
  | _ => 0
section
variable {P : Program}
theorem limOf_cell {W : World} {b o : Nat} {v : Value} (h : W.cell? ⟨b, o, none⟩ = some v) : o < limOf W b := by
  unfold World.cell? at h
  unfold limOf
  split at h
  · next cs e fz hb =>
    rw [hb]
    simp only at h ⊢
    exact (Array.getElem?_eq_some_iff.1 h).1
  · cases h
theorem law_calls {f : FuncId} {avs : List AV} {cargs : Array Value} {K : AV → AMem → Prop} (h : ACalls P f avs (fun _ => none) K) {W : World} (hs : cargs.size = avs.length)
    (hr : ∀ i, i < avs.length → Rep W (limOf W) (cargs.getD i undef) (avs.getD i .junk) []) :
    Calls P f cargs W fun e W' => ∃ v x m' lim' os, e = .returned v ∧ K x m' ∧ Rep W' lim' v x os ∧ Below W.heap.size W W' := by
  have st : St (fun b => b < W.heap.size) (limOf W) W 0 [] (fun _ => none) noAct [] := by
    refine ⟨fun _ => [], fun _ _ => [], fun _ => .none, rfl, rfl, fun t x hx => by simp [Fr.get] at hx, fun b o h => by simp at h, fun t x hx => by simp [Fr.get] at hx, fun b o h => by simp at h, by simp, fun c h => absurd rfl h, fun b hb => ?_⟩
    refine ⟨?_, by simpa using hb, rfl⟩
    have : W.heap[b]? = none := by simpa using hb
    simp [limOf, this]
  refine (h.2 _ _ W cargs hs hr st).mono fun e W' ⟨v, x, lim', m', os, he, hK, hx, _, hp⟩ => ?_
  exact ⟨v, x, m', lim', os, he, hK, hx, hp.os, hp.tape, hp.output, hp.size, fun k hk => (hp.res k hk).1⟩
theorem law_true {f : FuncId} {avs : List AV} {cargs : Array Value} (h : ACalls P f avs (fun _ => none) (fun x _ => x = .bool true)) {W : World} (hs : cargs.size = avs.length)
    (hr : ∀ i, i < avs.length → Rep W (limOf W) (cargs.getD i undef) (avs.getD i .junk) []) :
    Calls P f cargs W fun e W' => e = .returned (.bool true) ∧ Below W.heap.size W W' := by
  refine (law_calls h hs hr).mono fun e W' ⟨v, x, m', lim', os, he, hK, hx, hb⟩ => ?_
  subst hK
  cases hx
  exact ⟨he, hb⟩
end
section
variable {H : Type} {enc : TypeId × Value → H} {P : Program}
theorem post_of_below {f : Func} {s : ChangeSpec} {apart fresh handsOn again : Bool} {W W' : World} {args : Array Value} {v : Value} {ds gs : List (DataW H)} {before pa pv : List MemPlace}
    (hW : DataW.Whole enc P f.params.toList s.vars apart W args.toList ds gs before)
    (hres : ∀ (b : Nat) (sp : Nat → Bool) (hd : Bool), DataW.TrodAll enc P W' b sp hd f.resultTypes.toList (v.resultList f.resultTypes.size) (s.fn H (ds ++ gs)).results [])
    (hargs : ∀ sp : Nat → Bool, (∀ p ∈ before, sp p.block = true) → DataW.TrodAll enc P W' 0 sp true f.params.toList args.toList (s.fn H (ds ++ gs)).args pa)
    (hvars : ∀ sp : Nat → Bool, (∀ p ∈ before, sp p.block = true) → DataW.TrodVars enc P W' sp s.vars (s.fn H (ds ++ gs)).vars pv)
    (hps : before = pa ++ pv) (hb : Below W.heap.size W W')
    (hok : ∀ (j : Nat) (t : TypeId) (r : Value), f.resultTypes[j]? = some t → (v.resultList f.resultTypes.size)[j]? = some r → Value.okWide P W' .any 0 t r) :
    s.post enc P f apart fresh handsOn again W args v W' := by
  have hlt : ∀ p ∈ before, p.block < W.heap.size := fun p hp => hW.lt p hp
  have hold : ∀ p ∈ before, (fun b => decide (b < W.heap.size)) p.block = true := fun p hp => by simpa using hlt p hp
  refine ⟨ds, gs, before, [], pa, pv, hW, hres _ _ _, hargs _ hold, hvars _ hold, World.keptBut_mono (fun p hp => ⟨hp, ?_⟩) (hb.frame (· ∈ before)), fun _ => ?_⟩
  · rw [hps, List.mem_append] at hp
    exact Or.inr hp
  · obtain ⟨_, _, _, _, _, hz, hn⟩ := hW
    refine ⟨hok, _, _, ([] ++ pa) ++ pv, ⟨[] ++ pa, pv, trodAll_append (hargs _ (fun _ _ => rfl)) (hres _ _ _), hvars _ (fun _ _ => rfl), rfl, ?_, ?_⟩, ?_⟩
    · intro b off hp
      have hin : MemPlace.cell b off ∈ before := by rw [hps]; simpa using hp
      rw [hb.frozen (hlt _ hin)]
      exact hz b off hin
    · intro ha
      have := hn ha
      rw [hps] at this
      simpa using this
    · intro p hp _
      rw [hps]
      simpa using hp
def paramsRead (P : Program) (ts : List TypeId) : Bool := ts.all fun t => P.readableRec t && decide (t < P.types.size)
theorem trodAll_stays (hl : laidOutB P = true) {W W' : World} (hb : Below W.heap.size W W') {sp : Nat → Bool} : ∀ {ts : List TypeId} {vs : List Value} {ds : List (DataW H)} {ps : List MemPlace}, paramsRead P ts = true →
    DataW.TrodAll enc P W 0 (fun _ => true) true ts vs ds ps → (∀ p ∈ ps, p.block < W.heap.size) → (∀ p ∈ ps, sp p.block = true) → DataW.TrodAll enc P W' 0 sp true ts vs ds ps
  | [], [], [], _, _, h, _, _ => h
  | t :: ts, v :: vs, d :: ds, ps, hp, h, hlt, hsp => by
    obtain ⟨p, q, h1, h2, rfl⟩ := h
    simp only [paramsRead, List.all_cons, Bool.and_eq_true, decide_eq_true_eq] at hp
    exact ⟨p, q, WideElems.Trod_stays hl hp.1.1 hp.1.2 h1 (fun x hx => hb.same (hlt x (by simp [hx]))) (fun x hx => hsp x (by simp [hx])),
      trodAll_stays hl hb (by simpa [paramsRead] using hp.2) h2 (fun x hx => hlt x (by simp [hx])) (fun x hx => hsp x (by simp [hx])), rfl⟩
  | [], _ :: _, _, _, _, h, _, _ => h.elim
  | [], [], _ :: _, _, _, h, _, _ => h.elim
  | _ :: _, [], _, _, _, h, _, _ => h.elim
  | _ :: _, _ :: _, [], _, _, h, _, _ => h.elim
theorem law_post {f : Func} {s : ChangeSpec} {tb : TypeId} {apart fresh handsOn again : Bool} (hvars : s.vars = []) (hres : f.resultTypes = #[tb]) (htb : P.underlying tb = some .bool) (hl : laidOutB P = true)
    (hrec : paramsRead P f.params.toList = true) {W W' : World} {args : Array Value} {ds gs : List (DataW H)} {before : List MemPlace}
    (hW : DataW.Whole enc P f.params.toList s.vars apart W args.toList ds gs before) (hfn : s.fn H (ds ++ gs) = { results := [.lit (.bool true)], args := ds }) (hb : Below W.heap.size W W') :
    s.post enc P f apart fresh handsOn again W args (.bool true) W' := by
  have hlt : ∀ p ∈ before, p.block < W.heap.size := fun p hp => hW.lt p hp
  have hW' := hW
  obtain ⟨p, q, hA, hV, rfl, hfz, hnd⟩ := hW'
  rw [hvars] at hV
  have hgs : gs = [] ∧ q = [] := by
    cases gs with
    | nil => exact ⟨rfl, hV⟩
    | cons g gs => exact hV.elim
  obtain ⟨rfl, rfl⟩ := hgs
  refine post_of_below (pa := p) (pv := []) hW (fun b sp hd => ?_) (fun sp hsp => ?_) (fun sp hsp => ?_) rfl hb (ok_one hres rfl (okWide_bool_mk htb true))
  · rw [hfn, hres]
    exact trodAll_mk1 (shut_bool htb true)
  · rw [hfn]
    exact trodAll_stays hl hb hrec hA (fun x hx => hlt x (by simp [hx])) (fun x hx => hsp x (by simp [hx]))
  · rw [hfn, hvars]
    rfl
end
end Go.Aw
end
section
namespace Go.Aw
open Go
section
variable {P : Program} {n : Nat} {fr : Fr} {m : AMem}
def edges (ops : Array Oper) (i : Nat) : List Nat :=
  match ops[i]? with
  | some o => (o.after.toList.filter (Region.binds .any)).map (·.on)
  | none => []
def closure (ops : Array Oper) : Nat → List Nat → List Nat
  | 0, S => S
  | j + 1, S => closure ops j (if S.contains j then edges ops j ++ S else S)
theorem closure_listed {ops : Array Oper} {p : Nat → Prop} (hp : ∀ j, p j → ∀ e ∈ edges ops j, p e) : ∀ (k : Nat) (S : List Nat), (∀ j ∈ S, p j) → ∀ j ∈ closure ops k S, p j := by
  intro k
  induction k with
  | zero => intro S h; exact h
  | succ k ih =>
    intro S h
    simp only [closure]
    refine ih _ ?_
    split
    · next hc =>
      intro j hj
      rcases List.mem_append.1 hj with hj | hj
      · exact hp k (h k (by simpa using hc)) j hj
      · exact h j hj
    · exact h
theorem edges_mem {ops : Array Oper} {i j : Nat} {o : Oper} (ho : ops[i]? = some o) : j ∈ edges ops i ↔ ∃ e ∈ o.after, Region.binds .any e = true ∧ e.on = j := by
  simp [edges, ho, and_assoc]
def drawTail (ops : Array Oper) (p : Nat) (al : List (Nat × Nat)) : Bool :=
  decide (p ≤ ops.size) &&
  ((List.range ops.size).all fun i => (edges ops i).all fun e => decide (e < i)) &&
  ((List.range ops.size).all fun i => decide (i < p) || (List.range i).all fun j => (closure ops i (edges ops i)).contains j) &&
  ((List.range p).all fun i =>
    match ops[i]? with
    | some o =>
      o.dst.isSome &&
      (List.range p).all fun j =>
        match ops[j]? with
        | some q =>
          (decide (i = j) || !(o.dst == q.dst)) &&
          (match q.dst with
          | some d => !((slotsOf ops o).contains d) || (if j < i then edgeTo o j else if i < j then edgeTo q i else true)
          | none => true)
        | none => true
    | none => true) &&
  al.all fun (d, s) =>
    (List.range p).any (fun j => match ops[j]? with | some o => o.dst == some d && o.guard.isNone && (match o.op with | .move (.tmp t) => t == s | _ => false) | none => false) &&
    (List.range p).all fun j => match ops[j]? with | some o => !(o.dst == some s) | none => true
structure TailFacts (ops : Array Oper) (p : Nat) : Prop where
  le : p ≤ ops.size
  back : ∀ (i : Nat) (o : Oper) (e : Edge), ops[i]? = some o → e ∈ o.after → Region.binds .any e = true → e.on < i
  tail : ∀ (i : Nat), p ≤ i → i < ops.size → ∀ j, j < i → j ∈ closure ops i (edges ops i)
  dst : ∀ (i : Nat) (o : Oper), i < p → ops[i]? = some o → ∃ d, o.dst = some d
  apart : ∀ (i j : Nat) (o q : Oper), i < p → j < p → ops[i]? = some o → ops[j]? = some q → o.dst = q.dst → i = j
  looks : ∀ (i j : Nat) (o q : Oper) (d : Nat), i < p → j < p → ops[i]? = some o → ops[j]? = some q → q.dst = some d → d ∈ slotsOf ops o → (j < i → ∃ e ∈ o.after, e.on = j ∧ Region.binds .any e = true) ∧ (i < j → ∃ e ∈ q.after, e.on = i ∧ Region.binds .any e = true)
theorem tailFacts {ops : Array Oper} {p : Nat} {al : List (Nat × Nat)} (h : drawTail ops p al = true) : TailFacts ops p := by
  unfold drawTail at h
  rw [Bool.and_eq_true, Bool.and_eq_true, Bool.and_eq_true, Bool.and_eq_true] at h
  obtain ⟨⟨⟨⟨h1, h2⟩, h3⟩, h4⟩, _⟩ := h
  have hlt : ∀ {i : Nat} {o : Oper}, ops[i]? = some o → i < ops.size := fun hi => (Array.getElem?_eq_some_iff.1 hi).1
  simp only [List.all_eq_true, List.mem_range, decide_eq_true_eq, Bool.or_eq_true] at h1 h2 h3 h4
  refine ⟨h1, fun i o e hi he hb => ?_, fun i hp hi j hj => ?_, fun i o hp hi => ?_, fun i j o q hip hjp hi hj hd => ?_, fun i j o q d hip hjp hi hj hq hd => ?_⟩
  · exact h2 i (hlt hi) e.on ((edges_mem hi).2 ⟨e, he, hb, rfl⟩)
  · rcases h3 i hi with h | h
    · omega
    · have := h j hj
      simpa using this
  · have := h4 i hp
    simp only [hi, Bool.and_eq_true] at this
    exact Option.isSome_iff_exists.1 this.1
  · have := h4 i hip
    simp only [hi, Bool.and_eq_true, List.all_eq_true, List.mem_range] at this
    have := this.2 j hjp
    simp only [hj, Bool.and_eq_true, Bool.or_eq_true, decide_eq_true_eq] at this
    rcases this.1 with h | h
    · exact h
    · rw [hd] at h; simp at h
  · have := h4 i hip
    simp only [hi, Bool.and_eq_true, List.all_eq_true, List.mem_range] at this
    have := this.2 j hjp
    simp only [hj, hq, Bool.and_eq_true, Bool.or_eq_true] at this
    have := this.2
    have hc : (slotsOf ops o).contains d = true := by simpa using hd
    rw [hc] at this
    simp only [Bool.not_true, Bool.false_eq_true, false_or] at this
    refine ⟨fun hji => ?_, fun hij => ?_⟩
    · rw [if_pos hji] at this; exact edgeTo_iff this
    · rw [if_neg (by omega), if_pos hij] at this; exact edgeTo_iff this
theorem text_frames' {ops : Array Oper} {p : Nat} (D : TailFacts ops p) {T : Nat → Fr} {val : Nat → AV} (h0 : T 0 = fr) (hs : ∀ (i : Nat) (o : Oper), i < p → ops[i]? = some o → T (i + 1) = putO (T i) o.dst (val i)) :
    ∀ i, i ≤ p → ∀ t, (∀ (j : Nat) (o : Oper), j < i → ops[j]? = some o → o.dst = some t → rawOf (T i) t = val j) ∧ ((∀ (j : Nat) (o : Oper), j < i → ops[j]? = some o → o.dst ≠ some t) → rawOf (T i) t = rawOf fr t) := by
  intro i
  induction i with
  | zero => intro _ t; exact ⟨fun j o hj => absurd hj (Nat.not_lt_zero _), fun _ => by rw [h0]⟩
  | succ i ih =>
    intro hi t
    have hip : i < p := hi
    have hlt : i < ops.size := Nat.lt_of_lt_of_le hip D.le
    obtain ⟨ih1, ih2⟩ := ih (by omega) t
    have ho : ops[i]? = some ops[i] := Array.getElem?_eq_getElem hlt
    obtain ⟨d, hd⟩ := D.dst i _ hip ho
    have hT := hs i _ hip ho
    rw [hd] at hT
    simp only [putO] at hT
    rw [hT, rawOf_put]
    refine ⟨fun j o hj hjo hdt => ?_, fun hno => ?_⟩
    · by_cases e : d = t
      · subst e
        have : j = i := D.apart j i o _ (by omega) hip hjo ho (by rw [hdt, hd])
        subst this
        simp
      · rw [if_neg e]
        refine ih1 j o ?_ hjo hdt
        rcases Nat.lt_succ_iff_lt_or_eq.1 hj with h | h
        · exact h
        · subst h
          rw [ho] at hjo
          cases hjo
          rw [hd] at hdt
          exact (e (by simpa using hdt)).elim
    · have e : ¬ d = t := fun e => hno i _ (Nat.lt_succ_self i) ho (by rw [hd, e])
      rw [if_neg e]
      exact ih2 fun j o hj hjo => hno j o (by omega) hjo
theorem tail_wp {ops : Array Oper} {p : Nat} (D : TailFacts ops p) {Q : Exit → Act → World → Prop} : ∀ (fuel k : Nat) (listed : Array Bool) (ca : Act) (w : World), p ≤ k → k ≤ ops.size → ops.size - k ≤ fuel → listed.size = ops.size →
    (∀ j, j < ops.size → (listed.getD j false = true ↔ j < k)) → wpList P ops Q (ops.toList.drop k) ca w → wpAny P .any ops Q fuel listed ca w := by
  intro fuel
  have rdy : ∀ (k : Nat) (listed : Array Bool), k < ops.size → listed.size = ops.size → (∀ j, j < ops.size → (listed.getD j false = true ↔ j < k)) → k ∈ Region.ready .any ops listed := fun k listed hk hls hl => by
    rw [mem_ready]
    have ho : ops[k]? = some ops[k] := Array.getElem?_eq_getElem hk
    refine ⟨?_, _, ho, fun e he hb => ?_⟩
    · have : listed.getD k false ≠ true := fun h => absurd ((hl k hk).1 h) (Nat.lt_irrefl _)
      simp only [Array.getD_eq_getD_getElem?, Array.getElem?_eq_getElem (show k < listed.size by omega), Option.getD_some] at this ⊢
      simpa using this
    · have := D.back k _ e ho he hb
      exact (hl e.on (by omega)).2 this
  have nil : ∀ (k : Nat) (listed : Array Bool) (ca : Act) (w : World), k ≤ ops.size → listed.size = ops.size → (∀ j, j < ops.size → (listed.getD j false = true ↔ j < k)) → wpList P ops Q (ops.toList.drop k) ca w → Region.ready .any ops listed = [] → Q .normal ca w := fun k listed ca w hk hls hl h hr => by
    by_cases e : k = ops.size
    · subst e
      rw [List.drop_of_length_le (by simp)] at h
      exact h
    · have := rdy k listed (by omega) hls hl
      rw [hr] at this; cases this
  induction fuel with
  | zero =>
    intro k listed ca w hpk hk hf hls hl h
    have e : k = ops.size := by omega
    have hr : Region.ready .any ops listed = [] := by
      cases hr : Region.ready .any ops listed with
      | nil => rfl
      | cons j rs =>
        have hj : j ∈ Region.ready .any ops listed := by rw [hr]; simp
        rw [mem_ready] at hj
        obtain ⟨h1, o, ho, _⟩ := hj
        have hjs : j < ops.size := (Array.getElem?_eq_some_iff.1 ho).1
        have := (hl j hjs).2 (by omega)
        simp only [Array.getD_eq_getD_getElem?, Array.getElem?_eq_getElem (show j < listed.size by omega), Option.getD_some] at h1 this
        rw [h1] at this; cases this
    exact ⟨hr, nil k listed ca w hk hls hl h hr⟩
  | succ fuel ih =>
    intro k listed ca w hpk hk hf hls hl h
    refine ⟨nil k listed ca w hk hls hl h, fun i hi => ?_⟩
    have hi' := hi
    rw [mem_ready] at hi'
    obtain ⟨hnl, o, ho, hedge⟩ := hi'
    have hio : i < ops.size := (Array.getElem?_eq_some_iff.1 ho).1
    have hki : k ≤ i := by
      rcases Nat.lt_or_ge i k with hlt | hge
      · have := (hl i hio).2 hlt
        simp only [Array.getD_eq_getD_getElem?, Array.getElem?_eq_getElem (show i < listed.size by omega), Option.getD_some] at hnl this
        rw [hnl] at this; cases this
      · exact hge
    have hik : i = k := by
      rcases Nat.lt_or_ge k i with hlt | hge
      · have hall := closure_listed (ops := ops) (p := fun j => j < k) (fun j hj e he => by
          have hjs : j < ops.size := by omega
          have hjo : ops[j]? = some ops[j] := Array.getElem?_eq_getElem hjs
          obtain ⟨ed, h1, h2, rfl⟩ := (edges_mem hjo).1 he
          have := D.back j _ ed hjo h1 h2
          omega) i (edges ops i) (fun j hj => by
          obtain ⟨ed, h1, h2, rfl⟩ := (edges_mem ho).1 hj
          have h3 := hedge ed h1 h2
          have := D.back i _ ed ho h1 h2
          exact (hl ed.on (by omega)).1 h3)
        have := hall k (D.tail i (by omega) hio k hlt)
        omega
      · omega
    subst hik
    have hdrop : ops.toList.drop i = o :: ops.toList.drop (i + 1) := by
      have : i < ops.toList.length := by simpa using hio
      rw [List.drop_eq_getElem_cons this]
      congr 1
      rw [Array.getElem?_eq_getElem hio] at ho
      simpa using ho
    rw [hdrop] at h
    have key : ∀ a w, wpList P ops Q (ops.toList.drop (i + 1)) a w → wpAny P .any ops Q fuel (listed.setIfInBounds i true) a w := fun a w h => ih (i + 1) _ a w (by omega) (by omega) (by omega) (by simp [hls]) (fun j hj => by
      by_cases e : i = j
      · subst e; simp [hls, hj]
      · rw [getD_set_ne false e, hl j hj]; omega) h
    show wpOp P ops _ i _ ca w
    unfold wpOp
    rw [ho]
    unfold wpList at h
    show if Region.wanted o (yielded ops ca.tmps) then _ else _
    split at h
    · next hw =>
      rw [if_pos hw]
      rcases h with h | h
      · exact .inl (Oper.wp_mono key h)
      · exact .inr h
    · next hw =>
      rw [if_neg hw]
      exact key _ _ h
def Fr.alias (fr : Fr) : List (Nat × Nat) → Fr
  | [] => fr
  | (d, s) :: r => Fr.alias ((fr.put s (rawOf fr s).plain).put d (rawOf fr s)) r
theorem St.alias {F : Nat → Prop} {lim : Nat → Nat} {w : World} {ca : Act} : ∀ (al : List (Nat × Nat)) {fr : Fr}, St F lim w n fr m ca [] → (∀ x ∈ al, x.1 < n ∧ x.2 < n ∧ ca.tmps.getD x.1 undef = ca.tmps.getD x.2 undef) → St F lim w n (fr.alias al) m ca [] := by
  intro al
  induction al with
  | nil => intro fr h _; exact h
  | cons a al ih =>
    obtain ⟨d, s⟩ := a
    intro fr h hal
    obtain ⟨h1, h2, h3⟩ := hal (d, s) (by simp)
    simp only at h1 h2 h3
    refine ih ?_ fun x hx => hal x (by simp [hx])
    obtain ⟨os, k1, k2⟩ := h.takeRaw s h2
    have k3 := k1.setOwn h1 k2
    have hsz : ca.tmps.size = n := by obtain ⟨_, _, _, h⟩ := h; exact h.size
    have e : ca.put (some d) (ca.tmps.getD s undef) = ca := by
      rw [← h3]
      obtain ⟨tmps, defers⟩ := ca
      have e' : tmps.setIfInBounds d (tmps.getD d undef) = tmps := by
        apply Array.ext (by simp)
        intro i hi hi'
        by_cases e : d = i
        · subst e; simp [Array.getD, hi']
        · rw [Array.getElem_setIfInBounds_ne hi' e]
      simp only [Act.put, e']
    rw [e, strip_one] at k3
    exact k3
end
end Go.Aw
end
section
namespace Go.Aw
open Go
section
variable {P : Program} {n : Nat} {fr : Fr} {m : AMem}
theorem alias_facts {ops : Array Oper} {p : Nat} {al : List (Nat × Nat)} (h : drawTail ops p al = true) : ∀ x ∈ al, (∃ j o, j < p ∧ ops[j]? = some o ∧ o.dst = some x.1 ∧ o.guard = none ∧ o.op = .move (.tmp x.2)) ∧ ∀ j o, j < p → ops[j]? = some o → o.dst ≠ some x.2 := by
  unfold drawTail at h
  rw [Bool.and_eq_true] at h
  obtain ⟨_, h⟩ := h
  intro ⟨d, s⟩ hx
  have := List.all_eq_true.1 h _ hx
  simp only [Bool.and_eq_true, List.any_eq_true, List.all_eq_true, List.mem_range] at this
  obtain ⟨⟨j, hj, h1⟩, h2⟩ := this
  refine ⟨?_, fun j o hj ho => ?_⟩
  · split at h1
    · next o ho =>
      simp only [Bool.and_eq_true, beq_iff_eq, Option.isNone_iff_eq_none] at h1
      obtain ⟨⟨h3, h4⟩, h5⟩ := h1
      split at h5
      · next t hop =>
        simp only [beq_iff_eq] at h5
        subst h5
        exact ⟨j, o, hj, ho, h3, h4, hop⟩
      · cases h5
    · cases h1
  · have := h2 j hj
    simp only [ho] at this
    simpa using this
theorem getD_put (ca : Act) (d t : Nat) (v : Value) (hd : d < ca.tmps.size) : (ca.put (some d) v).tmps.getD t undef = if d = t then v else ca.tmps.getD t undef := by
  simp only [Act.put, Array.getD_eq_getD_getElem?, Array.getElem?_setIfInBounds]
  split
  · next e => subst e; simp [hd]
  · rfl
set_option maxHeartbeats 1000000 in
theorem awp_draw_tail0 {id : Nat} {ops : Array Oper} {Q : Exit → Fr → AMem → Prop} (hm : P.follows .mixedOrders = true) (p : Nat) (al : List (Nat × Nat)) (cs : List AV) (ks : List Nat) (hk : okAll n ops ks = true) (hd : drawTail ops p al = true)
    (h : pseq P ops m cs (ops.toList.take p) fr (fun fr' => AOps P n ops (ops.toList.drop p) (fun fr m => Q .normal (fr.keep ks) m) (fr'.alias al) m)) : AWP P n (.region id ops true) Q fr m := by
  intro F lim w ca st
  have D := tailFacts hd
  have A := alias_facts hd
  simp only [okAll, Bool.and_eq_true, List.all_eq_true] at hk
  obtain ⟨T, c, val, hT0, hTK, hTs⟩ := pseq_trace _ _ _ _ h
  have hlen : (ops.toList.take p).length = p := by simp [D.le]
  rw [hlen] at hTK
  replace hTs : ∀ i o, i < p → ops[i]? = some o → (∃ side, pv P ops m (c i) (rawOf (T i)) o = some (side, val i) ∧ side) ∧ T (i + 1) = putO (T i) o.dst (val i) := fun i o hi ho => hTs i o (by rw [List.getElem?_take_of_lt hi]; simpa using ho)
  have hTf := text_frames' D hT0 (fun i o hi ho => (hTs i o hi ho).2)
  have hlt : ∀ {i : Nat} {o : Oper}, ops[i]? = some o → i < ops.size := fun hi => (Array.getElem?_eq_some_iff.1 hi).1
  have hok : ∀ {i : Nat} {o : Oper}, ops[i]? = some o → okOper n o = true ∧ tmpsOk n o = true := fun ho => hk.1 _ (by rw [Array.mem_toList_iff]; exact Array.mem_of_getElem? ho)
  have hTn : ∀ i, i ≤ p → ∀ t x, (T i).get t = some x → t < n := by
    intro i
    induction i with
    | zero =>
      intro _ t x hx
      rw [hT0] at hx
      obtain ⟨_, _, _, st⟩ := st
      exact (st.slots t x hx).1
    | succ i ih =>
      intro hi t x hx
      have his : i < ops.size := Nat.lt_of_lt_of_le hi D.le
      have ho : ops[i]? = some ops[i] := Array.getElem?_eq_getElem his
      obtain ⟨d, hod⟩ := D.dst i _ hi ho
      rw [(hTs i _ hi ho).2, hod] at hx
      simp only [putO, Fr.get_put] at hx
      split at hx
      · next e => subst e; exact okOper_dst (hok ho).1 hod
      · exact ih (by omega) t x hx
  refine wp_region_any hm ?_
  have key : ∀ fuel (listed : Array Bool) fr' lim' w' ca', listed.size = ops.size → (∀ j, listed.getD j false = true → j < p) →
      (∀ t, (∀ (j : Nat) (o : Oper), ops[j]? = some o → listed.getD j false = true → o.dst = some t → rawOf fr' t = val j) ∧ ((∀ (j : Nat) (o : Oper), ops[j]? = some o → listed.getD j false = true → o.dst ≠ some t) → rawOf fr' t = rawOf fr t)) →
      (∀ (j : Nat) (o : Oper) (e : Edge), ops[j]? = some o → listed.getD j false = true → e ∈ o.after → Region.binds .any e = true → listed.getD e.on false = true) →
      (∀ t, (∀ j o, j < p → ops[j]? = some o → o.dst ≠ some t) → ca'.tmps.getD t undef = ca.tmps.getD t undef) →
      (∀ j o d s, ops[j]? = some o → listed.getD j false = true → o.dst = some d → o.guard = none → o.op = .move (.tmp s) → (∀ j o, j < p → ops[j]? = some o → o.dst ≠ some s) → ca'.tmps.getD d undef = ca.tmps.getD s undef) →
      ((List.range p).filter fun j => !listed.getD j false).length + (ops.size - p) ≤ fuel →
      St F lim' w' n fr' m ca' [] → Pres F w lim w' lim' → wpAny P .any ops (APost F lim w n Q) fuel listed ca' w' := by
    intro fuel
    have fin : ∀ fuel (listed : Array Bool) fr' lim' w' ca', listed.size = ops.size → (∀ j, listed.getD j false = true → j < p) →
        (∀ t, (∀ (j : Nat) (o : Oper), ops[j]? = some o → listed.getD j false = true → o.dst = some t → rawOf fr' t = val j) ∧ ((∀ (j : Nat) (o : Oper), ops[j]? = some o → listed.getD j false = true → o.dst ≠ some t) → rawOf fr' t = rawOf fr t)) →
        (∀ t, (∀ j o, j < p → ops[j]? = some o → o.dst ≠ some t) → ca'.tmps.getD t undef = ca.tmps.getD t undef) →
        (∀ j o d s, ops[j]? = some o → listed.getD j false = true → o.dst = some d → o.guard = none → o.op = .move (.tmp s) → (∀ j o, j < p → ops[j]? = some o → o.dst ≠ some s) → ca'.tmps.getD d undef = ca.tmps.getD s undef) →
        (∀ j, j < p → listed.getD j false = true) → ops.size - p ≤ fuel → St F lim' w' n fr' m ca' [] → Pres F w lim w' lim' → wpAny P .any ops (APost F lim w n Q) fuel listed ca' w' := by
      intro fuel listed fr' lim' w' ca' hls hlp hM hS hV hall hf s1 pr
      have hraw : ∀ t, rawOf fr' t = rawOf (T p) t := fun t => by
        obtain ⟨a1, a2⟩ := hM t
        obtain ⟨b1, b2⟩ := hTf p (Nat.le_refl _) t
        by_cases hex : ∃ (j : Nat) (o : Oper), j < p ∧ ops[j]? = some o ∧ o.dst = some t
        · obtain ⟨j, o, hjp, hj, ho⟩ := hex
          rw [a1 j o hj (hall j hjp) ho, b1 j o hjp hj ho]
        · rw [a2 fun j o hj hl ho => hex ⟨j, o, hlp j hl, hj, ho⟩, b2 fun j o hjp hj ho => hex ⟨j, o, hjp, hj, ho⟩]
      have s2 : St F lim' w' n (T p) m ca' [] := s1.sub fun t x hx => by
        have hr := hraw t
        have hxr : rawOf (T p) t = x := by simp [rawOf, hx]
        rw [hxr] at hr
        cases hg : fr'.get t with
        | some y =>
          simp only [rawOf, hg, Option.getD_some] at hr
          subst hr; exact .inl rfl
        | none =>
          simp only [rawOf, hg, Option.getD_none] at hr
          exact .inr ⟨hr.symm, hTn p (Nat.le_refl _) t x hx⟩
      have s3 := St.alias al s2 fun x hx => by
        obtain ⟨⟨j, o, hjp, hj, h1, h2, h3⟩, h4⟩ := A x hx
        refine ⟨okOper_dst (hok hj).1 h1, ?_, ?_⟩
        · exact tmpsOk_lt (hok hj).2 (y := .tmp x.2) (by rw [h3]; simp [Op.operands]) _ rfl
        · rw [hV j o x.1 x.2 hj (hall j hjp) h1 h2 h3 h4, hS x.2 h4]
      have hops : ∀ o ∈ ops.toList.drop p, okOper n o = true ∧ tmpsOk n o = true := fun o ho => hk.1 o (List.mem_of_mem_drop ho)
      have hT := hTK F lim' w' ca' (APost F lim w n Q) s3 fun lim'' w'' fr'' m'' ca'' hK hSt hP =>
        ⟨lim'', _, m'', hK, hSt.keep (fun t ht => by simpa using hk.2 t ht), pr.trans hP⟩
      exact tail_wp D fuel p listed ca' w' (Nat.le_refl _) D.le hf hls (fun j hj => ⟨fun h => hlp j h, fun h => hall j h⟩) hT
    have least : ∀ (listed : Array Bool), listed.size = ops.size → (¬ ∀ j, j < p → listed.getD j false = true) → Region.ready .any ops listed ≠ [] := fun listed hls hn hr => hn fun j => by
      induction j using Nat.strongRecOn with
      | _ j ih =>
        intro hj
        cases hl : listed.getD j false with
        | true => rfl
        | false =>
          have hjs : j < ops.size := Nat.lt_of_lt_of_le hj D.le
          have ho : ops[j]? = some ops[j] := Array.getElem?_eq_getElem hjs
          have : j ∈ Region.ready .any ops listed := by
            rw [mem_ready]
            refine ⟨?_, _, ho, fun e he hb => ih e.on (D.back j _ e ho he hb) (Nat.lt_trans (D.back j _ e ho he hb) hj)⟩
            simp only [Array.getD_eq_getD_getElem?, Array.getElem?_eq_getElem (show j < listed.size by omega), Option.getD_some] at hl ⊢
            exact hl
          rw [hr] at this; cases this
    induction fuel with
    | zero =>
      intro listed fr' lim' w' ca' hls hlp hM hC hS hV hcnt s1 pr
      refine fin 0 listed fr' lim' w' ca' hls hlp hM hS hV (fun j hj => ?_) (by omega) s1 pr
      cases hl : listed.getD j false with
      | true => rfl
      | false =>
        have : j ∈ (List.range p).filter fun j => !listed.getD j false := List.mem_filter.2 ⟨List.mem_range.2 hj, by rw [hl]; rfl⟩
        have := List.length_pos_of_mem this
        omega
    | succ fuel ih =>
      intro listed fr' lim' w' ca' hls hlp hM hC hS hV hcnt s1 pr
      by_cases hall : ∀ j, j < p → listed.getD j false = true
      · exact fin (fuel + 1) listed fr' lim' w' ca' hls hlp hM hS hV hall (by omega) s1 pr
      refine ⟨fun hr => (least listed hls hall hr).elim, fun i hi => ?_⟩
      rw [mem_ready] at hi
      obtain ⟨hnl, o, ho, hedge⟩ := hi
      have hio := hlt ho
      have hip : i < p := by
        rcases Nat.lt_or_ge i p with h | h
        · exact h
        · exfalso
          apply hall
          intro j hj
          have := closure_listed (ops := ops) (p := fun j => listed.getD j false = true) (fun j hj e he => by
            have hjs : j < ops.size := Nat.lt_of_lt_of_le (hlp j hj) D.le
            have hjo : ops[j]? = some ops[j] := Array.getElem?_eq_getElem hjs
            obtain ⟨ed, h1, h2, rfl⟩ := (edges_mem hjo).1 he
            exact hC j _ ed hjo hj h1 h2) i (edges ops i) (fun j hj => by
            obtain ⟨ed, h1, h2, rfl⟩ := (edges_mem ho).1 hj
            exact hedge ed h1 h2)
          exact this j (D.tail i h hio j (by omega))
      have hnl' : listed.getD i false = false := by
        simp only [Array.getD_eq_getD_getElem?, Array.getElem?_eq_getElem (show i < listed.size by omega), Option.getD_some] at hnl ⊢
        exact hnl
      obtain ⟨⟨side, hpv, hside⟩, _⟩ := hTs i o hip ho
      obtain ⟨d, hod⟩ := D.dst i o hip ho
      have hraw : ∀ t ∈ slotsOf ops o, rawOf (T i) t = rawOf fr' t := fun t ht => by
        obtain ⟨a1, a2⟩ := hM t
        obtain ⟨b1, b2⟩ := hTf i (Nat.le_of_lt hip) t
        by_cases hex : ∃ (j : Nat) (q : Oper), j < p ∧ ops[j]? = some q ∧ q.dst = some t
        · obtain ⟨j, q, hjp, hj, hq⟩ := hex
          obtain ⟨l1, l2⟩ := D.looks i j o q t hip hjp ho hj hq ht
          have huniq : ∀ (j' : Nat) (q' : Oper), j' < p → ops[j']? = some q' → q'.dst = some t → j' = j := fun j' q' hjp' hj' hq' => D.apart j' j q' q hjp' hjp hj' hj (by rw [hq', hq])
          by_cases hji : j < i
          · obtain ⟨e, he, heon, heb⟩ := l1 hji
            have hlj : listed.getD j false = true := by rw [← heon]; exact hedge e he heb
            rw [a1 j q hj hlj hq, b1 j q hji hj hq]
          · have hnlj : listed.getD j false = false := by
              by_cases hij : i < j
              · obtain ⟨e, he, heon, heb⟩ := l2 hij
                cases hlj : listed.getD j false with
                | false => rfl
                | true =>
                  have := hC j q e hj hlj he heb
                  rw [heon, hnl'] at this; cases this
              · have : i = j := by omega
                subst this; exact hnl'
            have q1 := a2 (fun j' q' hj' hl' hq' => by
              rw [huniq j' q' (hlp j' hl') hj' hq', hnlj] at hl'
              cases hl')
            have q2 := b2 (fun j' q' hj' hjo hq' => by
              have := huniq j' q' (by omega) hjo hq'
              omega)
            rw [q1, q2]
        · rw [a2 fun j q hj hl hq => hex ⟨j, q, hlp j hl, hj, hq⟩, b2 fun j q hji hj hq => hex ⟨j, q, by omega, hj, hq⟩]
      rw [pv_congr hraw] at hpv
      have hdn : d < ca'.tmps.size := by
        have := okOper_dst (hok ho).1 hod
        obtain ⟨_, _, _, s1⟩ := s1
        rw [s1.size]; exact this
      show wpOp P ops _ i _ ca' w'
      unfold wpOp
      rw [ho]
      show if Region.wanted o (yielded ops ca'.tmps) then _ else _
      refine pv_step (hok ho).1 (hok ho).2 hpv hside hod s1 fun lim'' w'' v s2 pr2 hmv => ?_
      rw [hod] at s2 ⊢
      have hnew : ∀ j, (listed.setIfInBounds i true).getD j false = true → j = i ∨ listed.getD j false = true := fun j hl => by
        by_cases e : i = j
        · exact .inl e.symm
        · rw [getD_set_ne false e] at hl; exact .inr hl
      refine ih (listed.setIfInBounds i true) (fr'.put d (val i)) lim'' w'' _ (by simp [hls]) (fun j hl => ?_) (fun t => ?_) (fun j q e hj hl he hb => ?_) (fun t ht => ?_) (fun j q d' s hj hl h1 h2 h3 h4 => ?_) ?_ s2 (pr.trans pr2)
      · rcases hnew j hl with rfl | hl
        · exact hip
        · exact hlp j hl
      · obtain ⟨a1, a2⟩ := hM t
        rw [rawOf_put]
        refine ⟨fun j q hj hl hq => ?_, fun hno => ?_⟩
        · by_cases e : d = t
          · subst e
            have hjp : j < p := by
              rcases hnew j hl with rfl | hl
              · exact hip
              · exact hlp j hl
            have : j = i := D.apart j i q o hjp hip hj ho (by rw [hq, hod])
            subst this; simp
          · rw [if_neg e]
            have hji : i ≠ j := by
              intro e'
              subst e'
              rw [ho] at hj
              have hoq : o = q := by simpa using hj
              rw [← hoq, hod] at hq
              exact e (by simpa using hq)
            rw [getD_set_ne false hji] at hl
            exact a1 j q hj hl hq
        · have e : ¬ d = t := fun e => hno i o ho (by simp [show i < listed.size by omega]) (by rw [hod, e])
          rw [if_neg e]
          exact a2 fun j q hj hl => hno j q hj (getD_set_true hl)
      · rcases hnew j hl with rfl | hl
        · rw [ho] at hj; cases hj
          exact getD_set_true (hedge e he hb)
        · exact getD_set_true (hC j q e hj hl he hb)
      · rw [getD_put _ _ _ _ hdn, if_neg (fun e => ht i o hip ho (by rw [hod, e]))]
        exact hS t ht
      · rw [getD_put _ _ _ _ hdn]
        by_cases e : d = d'
        · rw [if_pos e]
          have hjp : j < p := by
            rcases hnew j hl with rfl | hl
            · exact hip
            · exact hlp j hl
          have : j = i := D.apart j i q o hjp hip hj ho (by rw [h1, hod, e])
          subst this
          rw [ho] at hj; cases hj
          rw [hmv s h3 h2]
          exact hS s h4
        · rw [if_neg e]
          rcases hnew j hl with rfl | hl
          · rw [ho] at hj; cases hj
            rw [hod] at h1
            exact (e (by simpa using h1)).elim
          · exact hV j q d' s hj hl h1 h2 h3 h4
      · have hmono : ∀ x, (!(listed.setIfInBounds i true).getD x false) = true → (!listed.getD x false) = true := by
          intro x hx
          cases hl : listed.getD x false with
          | false => rfl
          | true => rw [getD_set_true hl] at hx; simp at hx
        have := filter_lt (fun j => !listed.getD j false) (fun j => !(listed.setIfInBounds i true).getD j false) hmono (List.range p) i (by simpa using hip) (by rw [hnl']; rfl) (by simp [show i < listed.size by omega])
        omega
  refine key ops.size (Array.replicate ops.size false) fr lim _ ca (by simp) (fun j hl => ?_) (fun t => ⟨fun j o hj hl => ?_, fun _ => rfl⟩) (fun j o e hj hl => ?_) (fun _ _ => rfl) (fun j o d s hj hl => ?_) ?_ (st.heap (w' := { w with drawn := w.drawn + 1 }) rfl) (Pres.drew F w lim)
  · exfalso
    by_cases hj : j < ops.size
    · simp [Array.getD_eq_getD_getElem?, hj] at hl
    · simp [Array.getD_eq_getD_getElem?, hj] at hl
  · have := hlt hj
    simp [Array.getD_eq_getD_getElem?, this] at hl
  · have := hlt hj
    simp [Array.getD_eq_getD_getElem?, this] at hl
  · have := hlt hj
    simp [Array.getD_eq_getD_getElem?, this] at hl
  · have := List.length_filter_le (fun j => !(Array.replicate ops.size false).getD j false) (List.range p)
    rw [List.length_range] at this
    have := D.le
    omega
theorem pseq_mono {ops : Array Oper} : ∀ (l : List Oper) {cs : List AV} {fr : Fr} {K K' : Fr → Prop}, (∀ fr, K fr → K' fr) → pseq P ops m cs l fr K → pseq P ops m cs l fr K' := by
  intro l
  induction l with
  | nil => intro cs fr K K' hK h; exact hK _ h
  | cons o l ih =>
    intro cs fr K K' hK h
    simp only [pseq] at h ⊢
    split at h
    · exact ⟨h.1, ih hK h.2⟩
    · exact h
end
end Go.Aw
end
section
namespace Go.Aw
open Go
def gI {α : Type} [Inhabited α] (xs : List α) (k : Int) : α := xs.getD k.toNat default
theorem wrap64 (n : Int) (h1 : -9223372036854775808 ≤ n) (h2 : n ≤ 9223372036854775807) : IntKind.i64.wrap n = n :=
  wrap_of_range .i64 n (by simp [IntKind.min, IntKind.signed, IntKind.bits]; omega) (by simp [IntKind.max, IntKind.signed, IntKind.bits]; omega)
theorem idx_eq {α : Type} [Inhabited α] (f : α → AV) (xs : List α) (k : Int) (h0 : 0 ≤ k) (h1 : k < xs.length) : (xs.map f).getD k.toNat .junk = f (gI xs k) := by
  have : k.toNat < xs.length := by omega
  simp [gI, List.getD_eq_getElem?_getD, this]
section
variable {P : Program} {n : Nat} {ops : Array Oper} {stl : List Nat} {r : List Oper} {K : Fr → AMem → Prop} {fr : Fr} {m : AMem} {d : Nat} {ty : TypeId} {pos : String} {af : Array Edge}
theorem awp_keep {c : Code} {Q : Exit → Fr → AMem → Prop} (ks : List Nat) (hks : (ks.all fun t => decide (t < n)) = true) (h : AWP P n c Q (fr.keep ks) m) : AWP P n c Q fr m :=
  fun F lim w ca st => h F lim w ca (st.keep (by simpa using hks))
theorem apartOk_one {t : TypeId} {l : List AV} {off : Nat} (h1 : isU P t = true) (h2 : aggT P t = false) (h3 : off < l.length) : apartOk P t l off := ⟨h1, by simp [h2, h3]⟩
theorem apartOk_agg {t : TypeId} {l : List AV} {off : Nat} (h1 : isU P t = true) (h2 : aggT P t = true) (h3 : off + P.cellsOf t ≤ l.length) : apartOk P t l off := ⟨h1, by simp [h2, h3]⟩
end
end Go.Aw
end
section
namespace Go.Aw
open Go
theorem bnT {b : Bool} (h : (!b) = true) : b = false := by simpa using h
theorem bnF {b : Bool} (h : (!b) = false) : b = true := by simpa using h
theorem bandL {a b : Bool} (h : (a && b) = true) : a = true := by cases a <;> simp_all
theorem bandR {a b : Bool} (h : (a && b) = true) : b = true := by cases a <;> simp_all
theorem bandF {a b : Bool} (h : (a && b) = false) : a = false ∨ b = false := by cases a <;> simp_all
theorem borL {a b : Bool} (h : (a || b) = false) : a = false := by cases a <;> simp_all
theorem borR {a b : Bool} (h : (a || b) = false) : b = false := by cases a <;> simp_all
theorem borT {a b : Bool} (h : (a || b) = true) : a = true ∨ b = true := by cases a <;> simp_all
theorem K_eq {K : AV → AMem → Prop} {x y : AV} {m : AMem} (hK : K x m) (h : x = y) : K y m := h ▸ hK
def intAV (n : Int) : AV := .int .i64 n
def strAV (s : List UInt8) : AV := .str s
def lstAV {α : Type} (f : α → AV) (l : List α) : AV := .slice false (l.map f)
def sub {α : Type} (l : List α) (p q : Int) : List α := (l.drop p.toNat).take (q - p).toNat
section
variable {P : Program} {n : Nat} {fr : Fr} {m : AMem}
theorem awp_loop_st {c : Code} {Q : Exit → Fr → AMem → Prop} {σ : Type} (fro : σ → Fr) (mo : σ → AMem) (I : σ → Prop) (μ : σ → Nat) (s0 : σ) (h0 : fr = fro s0) (hm0 : m = mo s0) (hI : I s0)
    (h : ∀ s, I s → AWP P n c (AThen (fun fr' m' => ∃ s', fr' = fro s' ∧ m' = mo s' ∧ I s' ∧ μ s' < μ s) Q) (fro s) (mo s)) : AWP P n (.loop c) Q fr m := by
  have conv : ∀ {F : Nat → Prop} {lim : Nat → Nat} {w : World} {lim'' : Nat → Nat} {w'' : World}, Pres F w lim w'' lim'' → ∀ K a w3, Code.rounds P c (APost F lim'' w'' n Q) K a w3 → Code.rounds P c (APost F lim w n Q) K a w3 := by
    intro F lim w lim'' w'' pr K
    induction K with
    | zero => intro a w3 h; exact h.elim
    | succ K ihK =>
      intro a w3 h
      refine wp_mono h fun e a w4 q => ?_
      cases e with
      | normal => exact ihK _ _ q
      | _ => exact APost.from pr q
  have key : ∀ N s, I s → μ s < N → ∀ F lim w ca, St F lim w n (fro s) (mo s) ca [] → Code.rounds P c (APost F lim w n Q) N ca w := by
    intro N
    induction N with
    | zero => intro s _ hlt; omega
    | succ N ih =>
      intro s hs hlt F lim w ca st
      refine wp_mono (h s hs F lim w ca st) fun e a w'' ⟨lim'', fr'', m'', q, st'', pr'⟩ => ?_
      cases e with
      | normal =>
        obtain ⟨s', rfl, rfl, hI', hlt'⟩ := q
        exact conv pr' _ _ _ (ih s' hI' (by omega) F lim'' w'' a st'')
      | _ => exact ⟨lim'', fr'', m'', q, st'', pr'⟩
  intro F lim w ca st
  subst h0 hm0
  exact wp_loop_rounds (μ s0 + 1) (key _ s0 hI (Nat.lt_succ_self _) F lim w ca st)
variable {ops : Array Oper} {stl : List Nat} {r : List Oper} {K : Fr → AMem → Prop} {d : Nat} {ty : TypeId} {pos : String} {af : Array Edge}
variable {cs : List AV} {KK : Fr → Prop} {gd : Option (Nat × Bool)}
def readOp : Op → Bool
  | .call ⟨.value (.func _), _, _⟩ => false
  | .call ⟨.value (.tmp _), _, _⟩ => false
  | .buildSlice _ _ _ => false
  | .build _ _ => false
  | .pick _ _ _ => false
  | _ => true
theorem pv_on {c : AV} {o : Oper} (hg : gOn ops fr o.guard = some true) : pv P ops m c (rawOf fr) o = pv0 P m c (rawOf fr) o := by
  unfold pv
  unfold gOn at hg
  split
  · rfl
  · next j b hgd =>
    rw [hgd] at hg
    simp only at hg
    split
    · next g hj =>
      rw [hj] at hg
      simp only at hg
      rw [hg]
    · next hj => rw [hj] at hg; cases hg
theorem pv_off {c : AV} {o : Oper} (hg : gOn ops fr o.guard = some false) : pv P ops m c (rawOf fr) o = some (True, .lazy false .junk) := by
  unfold pv
  unfold gOn at hg
  split
  · next hgd => rw [hgd] at hg; cases hg
  · next j b hgd =>
    rw [hgd] at hg
    simp only at hg
    split
    · next g hj =>
      rw [hj] at hg
      simp only at hg
      rw [hg]
    · next hj => rw [hj] at hg; cases hg
theorem pq_qv (hg : gOn ops fr gd = some true) {op : Op} {side : Prop} {x x' : AV} (hop : readOp op = true) (hq : qv P m (evP (rawOf fr)) op = some (side, x)) (hs : side) (hx : x = x') (h : pseq P ops m cs r (fr.put d x') KK) :
    pseq P ops m cs (⟨some d, op, ty, pos, af, gd⟩ :: r) fr KK := by
  subst hx
  have e0 : pv0 P m (cs.headD .junk) (rawOf fr) ⟨some d, op, ty, pos, af, gd⟩ = some (side, x) := by
    unfold pv0
    split
    · next h => simp only at h; subst h; simp [readOp] at hop
    · next h => simp only at h; subst h; simp [readOp] at hop
    · next h => simp only at h; subst h; simp [readOp] at hop
    · next h => simp only at h; subst h; simp [readOp] at hop
    · exact hq
  have e1 : pv P ops m (cs.headD .junk) (rawOf fr) ⟨some d, op, ty, pos, af, gd⟩ = some (side, x) := by
    rw [pv_on hg, e0]
  have e2 : ∀ op', readOp op' = true → (match op' with | .call ⟨.value (.func _), _, _⟩ => cs.tail | _ => cs) = cs := by
    intro op' h'
    cases op' with
    | call c =>
      obtain ⟨callee, args, ts⟩ := c
      cases callee with
      | value o => cases o <;> first | rfl | simp [readOp] at h'
      | _ => rfl
    | _ => rfl
  simp only [pseq, e1]
  refine ⟨hs, ?_⟩
  exact Eq.mpr (congrArg (fun z => pseq P ops m z r (putO fr (some d) x) KK) (e2 op hop)) h
theorem pq_index (hg : gOn ops fr gd = some true) {α : Type} [Inhabited α] (f : α → AV) (xs : List α) (k : Int) {own : Bool} {kd : IntKind} {t e : TypeId} {x i : Operand} {l : List AV} (ht : P.underlying t = some (.slice e)) (hx : evP (rawOf fr) x = .slice own l) (hl : l = xs.map f) (hi : evP (rawOf fr) i = .int kd k)
    (hU : isU P e = true) (hc : P.cellsOf e ≠ 0) (hf : ∀ a, (f a).cells.length = P.cellsOf e) (h0 : 0 ≤ k) (h1 : k < xs.length) (h : pseq P ops m cs r (fr.put d (.ref (f (gI xs k)).cells)) KK) :
    pseq P ops m cs (⟨some d, .indexAddr t x i, ty, pos, af, gd⟩ :: r) fr KK := by
  subst hl
  refine pq_qv hg (side := isU P e = true ∧ P.cellsOf e ≠ 0 ∧ 0 ≤ k ∧ k < (xs.map f).length ∧ ((xs.map f).getD k.toNat .junk).cells.length = P.cellsOf e) (x := .ref ((xs.map f).getD k.toNat .junk).cells) rfl ?_ ⟨hU, hc, h0, by simpa using h1, by rw [idx_eq f xs k h0 h1]; exact hf _⟩ (by rw [idx_eq f xs k h0 h1]) h
  simp only [qv, ht, hx, hi]
end
end Go.Aw
end
section
namespace Go.Aw
open Go
def SemOp (P : Program) (o : Oper) (K : Fr → AMem → Prop) (fr : Fr) (m : AMem) : Prop :=
  ∀ n, okOper n o = true → tmpsOk n o = true → ∀ F lim w ca, St F lim w n fr m ca [] →
    ∃ res v w' lim' fr' m', (execOp ca.eval o).run P w = .ok res w' ∧ ((res = .value v) ∨ (res = .skip ∧ v = undef)) ∧ St F lim' w' n fr' m' (ca.put o.dst v) [] ∧ Pres F w lim w' lim' ∧ K fr' m'
def aopR (P : Program) (ops : Array Oper) (stl : List Nat) (o : Oper) (K : Fr → AMem → Prop) (fr : Fr) (m : AMem) : Prop :=
  match o with
  | ⟨dst, op, _, _, _, gd⟩ =>
  match gOn ops fr gd with
  | some true =>
    match op with
    | .pick c x y =>
      match evP (rawOf fr) c with
      | .bool true => K (putO fr dst (evP (rawOf fr) x)) m
      | .bool false => K (putO fr dst (evP (rawOf fr) y)) m
      | _ => False
    | .box _ x => (evR (rawOf fr) x).topOk = true ∧ ∀ b, m b = none → K (putO (fr.strip (slotOf x)) dst (.ptr ⟨b, 0, none⟩)) (m.upd b (some (.cells (evR (rawOf fr) x).cells)))
    | _ =>
      match ares P m (rawOf fr) stl dst op with
      | .val side ss m' x => side ∧ K (putO (fr.strip ss) dst x) m'
      | .eff side ss m' => side ∧ K (putO (fr.strip ss) dst .junk) m'
      | .new side ss mk ob => side ∧ ∀ b, m b = none → K (putO (fr.strip ss) dst (mk b)) (m.upd b (some ob))
      | .call f args => ACalls P f args m (Kont K dst fr)
      | .stuck => SemOp P o K fr m
  | some false =>
    match dst with
    | some d => K (fr.put d (.lazy false .junk)) m
    | none => K fr m
  | none => False
def aopsR (P : Program) (ops : Array Oper) (stl : List Nat) : List Oper → (Fr → AMem → Prop) → Fr → AMem → Prop
  | [], K => K
  | o :: r, K => aopR P ops stl o (aopsR P ops stl r K)
section
variable {P : Program} {F : Nat → Prop} {lim : Nat → Nat} {w : World} {n : Nat} {fr : Fr} {m : AMem} {ca : Act} {fl : List Nat}
theorem wanted_gOn {ops : Array Oper} {o : Oper} {z : Bool} (st : St F lim w n fr m ca fl) (hz : gOn ops fr o.guard = some z) : Region.wanted o (yielded ops ca.tmps) = z := by
  unfold gOn at hz
  split at hz
  · next hg => obtain rfl := Option.some.inj hz; simp [Region.wanted, hg]
  · next j b hg =>
    split at hz
    · next g hj =>
      obtain ⟨os, om, ow, h⟩ := st
      cases hh : fr.get g with
      | none => simp [rawOf, hh, gLit] at hz
      | some x =>
        simp only [rawOf, hh, Option.getD_some] at hz
        obtain ⟨hlt, hr⟩ := h.slots g _ hh
        have hlt' : g < ca.tmps.size := by rw [h.size]; exact hlt
        have hv' : ca.tmps[g]? = some (ca.tmps.getD g undef) := by
          rw [Array.getElem?_eq_getElem hlt']
          simp [Array.getD, hlt']
        have := gLit_rep hz hr
        simp only [Region.wanted, hg, yielded, hj, Option.bind_some, hv']
        rw [← this]
        generalize ca.tmps.getD g undef = v
        cases v <;> rfl
    · cases hz
theorem setRow_same {b : Nat} {cs : Array Value} {e : TypeId} {fz : Nat × Nat} (hb : w.heap[b]? = some (.cells cs e fz)) : w.setRow b cs = w := by
  have hlt : b < w.heap.size := (Array.getElem?_eq_some_iff.1 hb).1
  have : (w.heap.modify b fun | .cells _ elem frozen => .cells cs elem frozen | o => o) = w.heap := by
    apply Array.ext (by simp)
    intro i hi hi'
    rw [Array.getElem_modify]
    split
    · next e => subst e; rw [Array.getElem?_eq_getElem hlt] at hb; simp at hb; rw [hb]
    · rfl
  exact congrArg (fun h => ({ w with heap := h } : World)) this
theorem St.boxOwn {t : TypeId} {x : Operand} (st : St F lim w n fr m ca []) (hx : opdOk x = true) (hs : ∀ t, x = .tmp t → t < n) (ht : (evR (rawOf fr) x).topOk = true) :
    ∃ lim', m w.heap.size = none ∧ St F lim' (w.alloc (.cells (ca.eval x).cells t)) n (fr.strip (slotOf x)) (m.upd w.heap.size (some (.cells (evR (rawOf fr) x).cells))) ca [] ∧ Pres F w lim (w.alloc (.cells (ca.eval x).cells t)) lim' := by
  obtain ⟨os, s1, s2⟩ := st.takeOpd x hx hs
  obtain ⟨oss, c1, c2, c3⟩ := rep_cells s2 ht
  obtain ⟨a1, a2⟩ := s1.allocMem (ca.eval x).cells t (AV.plainL (evR (rawOf fr) x).cells) (by rw [AV.plainL_eq, List.length_map]; exact c1) (fun i hi => by
    rw [getD_map_plain]
    exact (c2 i (by simpa [AV.plainL_eq] using hi)).plain)
  have hlo := s1.lim_new
  have hP := pres_new st (.cells (ca.eval x).cells t)
  have hst : ∀ c, c ∈ os → c < w.heap.size := fun c hc => s2.owned_lt c hc
  have hr : ∀ i, i < (evR (rawOf fr) x).cells.length → Rep (w.alloc (.cells (ca.eval x).cells t)) lim ((ca.eval x).cells.toList.getD i undef) ((evR (rawOf fr) x).cells.getD i .junk) (oss i) := fun i hi => by
    have hc := c2 i hi
    have e : (ca.eval x).cells.toList.getD i undef = (ca.eval x).cells.getD i undef := by simp [List.getD_eq_getElem?_getD, Array.getD_eq_getD_getElem?]
    rw [e]
    refine hc.stable (fun _ => Nat.le_refl _) hP.cell fun c hcm => ⟨heapOld w _ c ?_, rfl⟩
    exact hc.owned_lt c hcm
  have hnew := heapNew w (.cells (ca.eval x).cells t)
  obtain ⟨b1, b2⟩ := a2.storeMem (b := w.heap.size) (off := 0) (l := AV.plainL (evR (rawOf fr) x).cells) (xs := (evR (rawOf fr) x).cells) (vs := (ca.eval x).cells.toList) (oss := oss) (by simp [AMem.upd]) hnew
    (by simp [AV.plainL_eq]) (by simpa using c1) hr c3
  have hl : (AV.plainL (evR (rawOf fr) x).cells).length = (evR (rawOf fr) x).cells.length := by simp [AV.plainL_eq]
  have e1 : ((ca.eval x).cells.toList.take 0 ++ (ca.eval x).cells.toList ++ (ca.eval x).cells.toList.drop (0 + (ca.eval x).cells.toList.length)).toArray = (ca.eval x).cells := by
    rw [List.take_zero, List.nil_append, List.drop_of_length_le (by omega), List.append_nil]
  have e2 : (AV.plainL (evR (rawOf fr) x).cells).take 0 ++ (evR (rawOf fr) x).cells ++ (AV.plainL (evR (rawOf fr) x).cells).drop (0 + (evR (rawOf fr) x).cells.length) = (evR (rawOf fr) x).cells := by
    rw [List.take_zero, List.nil_append, List.drop_of_length_le (by rw [hl]; omega), List.append_nil]
  rw [e1, e2, setRow_same hnew] at b1
  refine ⟨lim, a1, ?_, hP⟩
  have e3 : (m.upd w.heap.size (some (.cells (AV.plainL (evR (rawOf fr) x).cells)))).upd w.heap.size (some (.cells (evR (rawOf fr) x).cells)) = m.upd w.heap.size (some (.cells (evR (rawOf fr) x).cells)) := by
    funext c; simp only [AMem.upd]; split <;> rfl
  rw [e3] at b1
  exact b1
theorem aopR_plain {ops : Array Oper} {stl : List Nat} {K : Fr → AMem → Prop} {dst : Option Nat} {op : Op} {ty : TypeId} {pos : String} {af : Array Edge} {gd : Option (Nat × Bool)} (hg : gOn ops fr gd = some true) (h : aopR P ops stl ⟨dst, op, ty, pos, af, gd⟩ K fr m) :
    (∃ c x y b, op = .pick c x y ∧ evP (rawOf fr) c = .bool b ∧ K (putO fr dst (evP (rawOf fr) (if b then x else y))) m) ∨
    (∃ t x, op = .box t x ∧ (evR (rawOf fr) x).topOk = true ∧ ∀ b, m b = none → K (putO (fr.strip (slotOf x)) dst (.ptr ⟨b, 0, none⟩)) (m.upd b (some (.cells (evR (rawOf fr) x).cells)))) ∨ aop P ops stl ⟨dst, op, ty, pos, af, none⟩ K fr m ∨ SemOp P ⟨dst, op, ty, pos, af, gd⟩ K fr m := by
  simp only [aopR, hg] at h
  split at h
  · next c x y =>
    split at h
    · next hc => exact .inl ⟨c, x, y, true, rfl, hc, h⟩
    · next hc => exact .inl ⟨c, x, y, false, rfl, hc, h⟩
    · exact h.elim
  · next t x => exact .inr (.inl ⟨t, x, rfl, h⟩)
  · refine .inr (.inr ?_)
    simp only [aop]
    cases ha : ares P m (rawOf fr) stl dst op with
    | val side ss m' x => rw [ha] at h; exact .inl h
    | eff side ss m' => rw [ha] at h; exact .inl h
    | new side ss mk ob => rw [ha] at h; exact .inl h
    | call f args => rw [ha] at h; exact .inl h
    | stuck => rw [ha] at h; exact .inr h
theorem SemOp.mono {o : Oper} {K K' : Fr → AMem → Prop} (hK : ∀ fr m, K fr m → K' fr m) (h : SemOp P o K fr m) : SemOp P o K' fr m := fun n h1 h2 F lim w ca st => by
  obtain ⟨res, v, w', lim', fr', m', a, b, c, d, e⟩ := h n h1 h2 F lim w ca st
  exact ⟨res, v, w', lim', fr', m', a, b, c, d, hK _ _ e⟩
theorem aopR_mono {ops : Array Oper} {stl : List Nat} {o : Oper} {K K' : Fr → AMem → Prop} (hK : ∀ fr m, K fr m → K' fr m) (h : aopR P ops stl o K fr m) : aopR P ops stl o K' fr m := by
  obtain ⟨dst, op, ty, pos, af, gd⟩ := o
  unfold aopR at h ⊢
  simp only at h ⊢
  split at h
  · split at h
    · split at h
      · exact hK _ _ h
      · exact hK _ _ h
      · exact h
    · exact ⟨h.1, fun b hb => hK _ _ (h.2 b hb)⟩
    · have ha := fun h => aop_mono (P := P) (stl := stl) (fr := fr) (m := m) (ops := ops) (o := ⟨dst, op, ty, pos, af, none⟩) (K := K) hK h
      simp only [aop] at ha
      cases hr : ares P m (rawOf fr) stl dst op with
      | val side ss m' x => rw [hr] at h ha; exact ha h
      | eff side ss m' => rw [hr] at h ha; exact ha h
      | new side ss mk ob => rw [hr] at h ha; exact ha h
      | call f args => rw [hr] at h ha; exact ha h
      | stuck => rw [hr] at h; exact SemOp.mono hK h
  · split at h <;> exact hK _ _ h
  · exact h
theorem aopR_sound {ops : Array Oper} {stl : List Nat} {o : Oper} {l : List Oper} {K : Fr → AMem → Prop} (hk : okOper n o = true) (hn : tmpsOk n o = true) (h : aopR P ops stl o (AOps P n ops l K) fr m) : AOps P n ops (o :: l) K fr m := by
  obtain ⟨dst, op, ty, pos, af, gd⟩ := o
  cases hz : gOn ops fr gd with
  | none => simp [aopR, hz] at h
  | some z =>
    cases z with
    | true =>
      rcases aopR_plain hz h with ⟨c, x, y, b, rfl, hc, h⟩ | ⟨t, x, rfl, ht, h⟩ | h | h
      · intro F lim w ca Q st hq
        unfold wpList
        rw [if_pos (wanted_gOn st hz)]
        refine .inl ?_
        have hm : (if b then x else y) ∈ (Op.pick c x y).operands.toList := by cases b <;> simp [Op.operands]
        obtain ⟨_, hcr, rfl⟩ := ev_rep st (okOper_opd hk c (by simp [Op.operands]))
        rw [← evP_eq, hc] at hcr
        have hcv : ca.eval c = .bool b := by
          generalize ca.eval c = v at hcr
          cases hcr
          rfl
        obtain ⟨_, hpr, rfl⟩ := ev_rep st (okOper_opd hk (if b then x else y) hm)
        rw [← evP_eq] at hpr
        refine wp_of_value (v := ca.eval (if b then x else y)) ?_ (h.from hq (st.putO (fun t ht => okOper_dst hk ht) hpr) (.refl _ _ _))
        cases b <;> simp [execOp, hcv, asBool]
      · intro F lim w ca Q st hq
        unfold wpList
        rw [if_pos (wanted_gOn st hz)]
        refine .inl ?_
        obtain ⟨lim', h1, h2, h3⟩ := st.boxOwn (t := t) (x := x) (okOper_opd hk x (by simp [Op.operands])) (tmpsOk_lt hn (by simp [Op.operands])) ht
        refine wp_of_value (v := .pointer (some ⟨w.heap.size, 0, none⟩)) (w' := w.alloc (.cells (ca.eval x).cells t)) (by simp [execOp, Instr.box, newVar, newRow]) ?_
        exact (h _ h1).from hq (h2.putO (fun t ht => okOper_dst hk ht) (.ptr _)) h3
      · have h' := aop_sound (o := ⟨dst, op, ty, pos, af, none⟩) hk hn h
        intro F lim w ca Q st hq
        have := h' F lim w ca Q st hq
        unfold wpList at this ⊢
        rw [if_pos (by simp [Region.wanted])] at this
        rw [if_pos (wanted_gOn st hz)]
        exact this
      · intro F lim w ca Q st hq
        unfold wpList
        rw [if_pos (wanted_gOn st hz)]
        refine .inl ?_
        obtain ⟨res, v, w', lim', fr', m', h1, h2, h3, h4, h5⟩ := h n hk hn F lim w ca st
        rcases h2 with rfl | ⟨rfl, rfl⟩
        · exact wp_of_value h1 (h5.from hq h3 h4)
        · exact wp_of_skip h1 (h5.from hq h3 h4)
    | false =>
      simp only [aopR, hz] at h
      intro F lim w ca Q st hq
      unfold wpList
      rw [if_neg (by rw [wanted_gOn (o := ⟨dst, op, ty, pos, af, gd⟩) st hz]; simp)]
      split at h
      · next d =>
        refine AOps.from h hq ?_ (.refl _ _ _)
        exact st.set (okOper_dst hk rfl) (.lazyF _)
      · refine AOps.from h hq ?_ (.refl _ _ _)
        exact st
theorem aopsR_sound {ops : Array Oper} {stl : List Nat} : ∀ (l : List Oper) {K : Fr → AMem → Prop} {fr : Fr} {m : AMem}, (∀ o ∈ l, okOper n o = true ∧ tmpsOk n o = true) → aopsR P ops stl l K fr m → AOps P n ops l K fr m := by
  intro l
  induction l with
  | nil => intro K fr m _ h; exact AOps.nil h
  | cons o l ih =>
    intro K fr m hk h
    have ho := hk o (by simp)
    exact aopR_sound ho.1 ho.2 (aopR_mono (fun fr m hr => ih (fun o' ho' => hk o' (by simp [ho'])) hr) h)
theorem awp_reg2 {id : Nat} {ops : Array Oper} {Q : Exit → Fr → AMem → Prop} (stl ks : List Nat) (hk : okAll n ops ks = true) (h : ∀ K : Fr → AMem → Prop, (∀ fr m, Q .normal fr m → K fr m) → aopsR P ops stl ops.toList (fun fr m => K (fr.keep ks) m) fr m) : AWP P n (.region id ops false) Q fr m := by
  simp only [okAll, Bool.and_eq_true, List.all_eq_true] at hk
  exact awp_region ks (by simpa [List.all_eq_true] using hk.2) (aopsR_sound _ (fun o ho => by simpa using hk.1 o ho) (h _ fun _ _ h => h))
theorem awp_reg2_seq {id : Nat} {ops : Array Oper} {c : Code} {Q : Exit → Fr → AMem → Prop} (stl ks : List Nat) (hk : okAll n ops ks = true) (h : ∀ K : Fr → AMem → Prop, (∀ fr m, AWP P n c Q fr m → K fr m) → aopsR P ops stl ops.toList (fun fr m => K (fr.keep ks) m) fr m) : AWP P n (.seq (.region id ops false) c) Q fr m :=
  awp_seq_k fun K hK => awp_reg2 stl ks hk fun K' hK' => h K' fun fr m h => hK' _ _ (hK _ _ h)
variable {ops : Array Oper} {stl : List Nat} {r : List Oper} {K : Fr → AMem → Prop} {d : Nat} {ty : TypeId} {pos : String} {af : Array Edge} {gd : Option (Nat × Bool)}
def notPick : Op → Bool
  | .pick _ _ _ => false
  | .box _ _ => false
  | _ => true
theorem ar_off {op : Op} (hg : gOn ops fr gd = some false) (h : aopsR P ops stl r K (fr.put d (.lazy false .junk)) m) : aopsR P ops stl (⟨some d, op, ty, pos, af, gd⟩ :: r) K fr m := by
  simp only [aopsR, aopR, hg]
  exact h
theorem ar_qv {op : Op} {side : Prop} {x x' : AV} (hg : gOn ops fr gd = some true) (hp : notPick op = true) (hop : ares P m (rawOf fr) stl (some d) op = (match qv P m (evP (rawOf fr)) op with | some (side, x) => .val side [] m x | none => .stuck))
    (hq : qv P m (evP (rawOf fr)) op = some (side, x)) (hs : side) (hx : x = x') (h : aopsR P ops stl r K (fr.put d x') m) : aopsR P ops stl (⟨some d, op, ty, pos, af, gd⟩ :: r) K fr m := by
  subst hx
  simp only [aopsR, aopR, hg]
  split
  · simp [notPick] at hp
  · simp [notPick] at hp
  · simp only [hop, hq]
    exact ⟨hs, h⟩
theorem ar_add {T T2 : TypeId} {x y : Operand} {a b : Int} (hg : gOn ops fr gd = some true) (hx : evP (rawOf fr) x = .int .i64 a) (hy : evP (rawOf fr) y = .int .i64 b) (lo : -9223372036854775808 ≤ a + b) (hi : a + b ≤ 9223372036854775807)
    (h : aopsR P ops stl r K (fr.put d (.int .i64 (a + b))) m) : aopsR P ops stl (⟨some d, .binOp .add T x y T2, ty, pos, af, gd⟩ :: r) K fr m :=
  ar_qv (side := True) (x := .int .i64 (IntKind.i64.wrap (a + b))) hg rfl rfl (by simp only [qv, hx, hy, anil, abin, if_true]) trivial (by rw [wrap64 _ lo hi]) h
theorem ar_sub {T T2 : TypeId} {x y : Operand} {a b : Int} (hg : gOn ops fr gd = some true) (hx : evP (rawOf fr) x = .int .i64 a) (hy : evP (rawOf fr) y = .int .i64 b) (lo : -9223372036854775808 ≤ a - b) (hi : a - b ≤ 9223372036854775807)
    (h : aopsR P ops stl r K (fr.put d (.int .i64 (a - b))) m) : aopsR P ops stl (⟨some d, .binOp .sub T x y T2, ty, pos, af, gd⟩ :: r) K fr m :=
  ar_qv (side := True) (x := .int .i64 (IntKind.i64.wrap (a - b))) hg rfl rfl (by simp only [qv, hx, hy, anil, abin, if_true]) trivial (by rw [wrap64 _ lo hi]) h
theorem ar_index (hg : gOn ops fr gd = some true) {α : Type} [Inhabited α] (f : α → AV) (xs : List α) (k : Int) {own : Bool} {kd : IntKind} {t e : TypeId} {x i : Operand} {l : List AV} (ht : P.underlying t = some (.slice e)) (hx : evP (rawOf fr) x = .slice own l) (hl : l = xs.map f) (hi : evP (rawOf fr) i = .int kd k)
    (hU : isU P e = true) (hc : P.cellsOf e ≠ 0) (hf : ∀ a, (f a).cells.length = P.cellsOf e) (h0 : 0 ≤ k) (h1 : k < xs.length) (h : aopsR P ops stl r K (fr.put d (.ref (f (gI xs k)).cells)) m) :
    aopsR P ops stl (⟨some d, .indexAddr t x i, ty, pos, af, gd⟩ :: r) K fr m := by
  subst hl
  refine ar_qv (side := isU P e = true ∧ P.cellsOf e ≠ 0 ∧ 0 ≤ k ∧ k < (xs.map f).length ∧ ((xs.map f).getD k.toNat .junk).cells.length = P.cellsOf e) (x := .ref ((xs.map f).getD k.toNat .junk).cells) hg rfl rfl ?_ ⟨hU, hc, h0, by simpa using h1, by rw [idx_eq f xs k h0 h1]; exact hf _⟩ (by rw [idx_eq f xs k h0 h1]) h
  simp only [qv, ht, hx, hi]
theorem ar_len (hg : gOn ops fr gd = some true) {α : Type} (f : α → AV) (xs : List α) {own : Bool} {t e : TypeId} {x : Operand} {l : List AV} (ht : P.underlying t = some (.slice e)) (hx : evP (rawOf fr) x = .slice own l) (hl : l = xs.map f)
    (h : aopsR P ops stl r K (fr.put d (.int .i64 xs.length)) m) : aopsR P ops stl (⟨some d, .call ⟨.builtin .len, #[x], #[t]⟩, ty, pos, af, gd⟩ :: r) K fr m := by
  subst hl
  exact ar_qv (side := True) (x := .int .i64 (xs.map f).length) hg rfl rfl (by simp [qv, ht, hx]) trivial (by simp) h
theorem ar_append (hg : gOn ops fr gd = some true) {α : Type} (f : α → AV) (xs ys : List α) {own : Bool} {t e : TypeId} {s : Nat} {y : Operand} {l l' : List AV} (ht : P.underlying t = some (.slice e)) (hx : rawOf fr s = .slice true l) (hl : l = xs.map f) (hy : evP (rawOf fr) y = .slice own l') (hl' : l' = ys.map f)
    (hU : isU P e = true) (hc : 0 < P.cellsOf e) (hz : zOk P e = true) (hb : (xs.length + ys.length) * P.bytesOf e ≤ 140737488355328) (hb1 : xs.length + ys.length ≤ 140737488355328) (hf : ∀ a, (f a).cells.length = P.cellsOf e ∧ (f a).cells.all AV.one = true)
    (h : aopsR P ops stl r K ((fr.put s (.slice false (xs.map f))).put d (.slice true ((xs ++ ys).map f))) m) : aopsR P ops stl (⟨some d, .call ⟨.builtin .append, #[.tmp s, y], #[t, t]⟩, ty, pos, af, gd⟩ :: r) K fr m := by
  subst hl hl'
  simp only [aopsR, aopR, hg, ares, ht, hx, hy]
  refine ⟨⟨trivial, hU, hc, hz, by simpa using hb, by simpa using hb1, fun x hx => ?_, fun x hx => ?_⟩, ?_⟩
  · obtain ⟨a, _, rfl⟩ := List.mem_map.1 hx
    exact (hf a).1
  · obtain ⟨a, _, rfl⟩ := List.mem_map.1 hx
    exact hf a
  · simp only [Fr.strip, hx, AV.plain, putO, ← List.map_append]
    exact h
theorem ar_append0 (hg : gOn ops fr gd = some true) {α : Type} (f : α → AV) (ys : List α) {own : Bool} {t e : TypeId} {y : Operand} {l' : List AV} (ht : P.underlying t = some (.slice e)) (hy : evP (rawOf fr) y = .slice own l') (hl' : l' = ys.map f)
    (hU : isU P e = true) (hc : 0 < P.cellsOf e) (hz : zOk P e = true) (hb : ys.length * P.bytesOf e ≤ 140737488355328) (hf : ∀ a, (f a).cells.length = P.cellsOf e ∧ (f a).cells.all AV.one = true)
    (h : aopsR P ops stl r K (fr.put d (.slice true (ys.map f))) m) : aopsR P ops stl (⟨some d, .call ⟨.builtin .append, #[.const (.slice none 0 0), y], #[t, t]⟩, ty, pos, af, gd⟩ :: r) K fr m := by
  subst hl'
  simp only [aopsR, aopR, hg, ares, ht, hy]
  refine ⟨⟨trivial, hU, hc, hz, by simpa using hb, fun x hx => ?_⟩, h⟩
  obtain ⟨a, _, rfl⟩ := List.mem_map.1 hx
  exact hf a
theorem St.conv {fr' : Fr} (h : St F lim w n fr m ca fl) (hc : ∀ t x', fr'.get t = some x' → ∃ x, fr.get t = some x ∧ ∀ v os, Rep w lim v x os → Rep w lim v x' os) : St F lim w n fr' m ca fl := by
  obtain ⟨os, om, ow, h⟩ := h
  refine ⟨os, om, ow, h.size, h.defers, fun t x hx => ?_, h.mem, fun t x hx => ?_, h.ownM, h.ownF, h.free, h.fresh⟩
  · obtain ⟨y, hy, hr⟩ := hc t x hx
    exact ⟨(h.slots t y hy).1, hr _ _ (h.slots t y hy).2⟩
  · obtain ⟨y, hy, hr⟩ := hc t x hx
    exact h.ownS t y hy
def AV.toErr (T : TypeId) : AV → AV
  | .nilIface => .err T 0
  | .iface u (.int .i64 c) => if u = T ∧ c ≠ 0 then .err T c else .iface u (.int .i64 c)
  | x => x
theorem toErr_rep (T : TypeId) {v : Value} {x : AV} {os : List Nat} (h : Rep w lim v x os) : Rep w lim v (x.toErr T) os := by
  cases h with
  | nilIface => exact .errN T
  | iface t v x h =>
    unfold AV.toErr
    split
    · next he => cases he
    · next u c he =>
      cases he
      split
      · next hc =>
        obtain ⟨rfl, h0⟩ := hc
        cases h with
        | int _ _ lo hi => exact .errS _ _ h0 lo hi
      · exact .iface _ _ _ h
    · exact .iface _ _ _ h
  | bool b => exact .bool b
  | int k n lo hi => exact .int k n lo hi
  | str s h => exact .str s h
  | ptr a => exact .ptr a
  | nilptr => exact .nilptr
  | ref b off l cv h1 h2 h3 => exact .ref b off l cv h1 h2 h3
  | nils own => exact .nils own
  | empty a cap hm => exact .empty a cap hm
  | slice b off n cap sz l cv hn hcap hm hbig hsz hlim hc hr => exact .slice b off n cap sz l cv hn hcap hm hbig hsz hlim hc hr
  | own b n cap sz l cv cur e hn hcap hm hbig h0 hb hcur hsz hlim hc hr => exact .own b n cap sz l cv cur e hn hcap hm hbig h0 hb hcur hsz hlim hc hr
  | ms a len cap h hm => exact .ms a len cap h hm
  | map b => exact .map b
  | nilmap => exact .nilmap
  | func fn f c fl cl hf hc hrf hrc => exact .func fn f c fl cl hf hc hrf hrc
  | nilfunc => exact .nilfunc
  | nilS a => exact .nilS a
  | errN t => exact .errN t
  | errS t e h lo hi => exact .errS t e h lo hi
  | optN => exact .optN
  | optS t v => exact .optS t v
  | agg cs xs os h hr => exact .agg cs xs os h hr
  | tuple cs xs os h hr => exact .tuple cs xs os h hr
  | lazyT v x os h => exact .lazyT v x os h
  | lazyF x => exact .lazyF x
  | junk v => exact .junk v
def Fr.toErr (T : TypeId) (ts : List Nat) (fr : Fr) : Fr := fr.map fun p => if ts.contains p.1 then (p.1, p.2.toErr T) else p
theorem Fr.get_toErr (T : TypeId) (ts : List Nat) (t : Nat) : ∀ fr : Fr, (Fr.toErr T ts fr).get t = if ts.contains t then (fr.get t).map (AV.toErr T) else fr.get t := by
  intro fr
  induction fr with
  | nil => simp [Fr.toErr, Fr.get]
  | cons p fr ih =>
    obtain ⟨s, x⟩ := p
    unfold Fr.toErr at ih ⊢
    rw [List.map_cons]
    by_cases hc : ts.contains s
    · rw [if_pos hc]
      simp only [Fr.get]
      by_cases hs : s = t
      · subst hs; rw [if_pos rfl, if_pos hc, if_pos rfl]; rfl
      · rw [if_neg hs, if_neg hs, ih]
    · rw [if_neg hc]
      simp only [Fr.get]
      by_cases hs : s = t
      · subst hs; rw [if_pos rfl, if_neg hc, if_pos rfl]
      · rw [if_neg hs, if_neg hs, ih]
theorem awp_toErr {c : Code} {Q : Exit → Fr → AMem → Prop} (T : TypeId) (ts : List Nat) (h : AWP P n c Q (fr.toErr T ts) m) : AWP P n c Q fr m :=
  fun F lim w ca st => h F lim w ca (st.conv fun t x' hx => by
    rw [Fr.get_toErr] at hx
    split at hx
    · cases hg : fr.get t with
      | none => rw [hg] at hx; cases hx
      | some x =>
        rw [hg] at hx
        cases hx
        exact ⟨x, rfl, fun v os hr => toErr_rep T hr⟩
    · exact ⟨x', hx, fun v os hr => hr⟩)
def u8w (a : Int) : UInt8 := UInt8.ofNat (IntKind.u8.wrap a).toNat
theorem u8w_toNat (a : Int) : ((u8w a).toNat : Int) = IntKind.u8.wrap a := by
  have h1 := (wrap_min .u8 a).1
  have h2 := (wrap_min .u8 a).2
  simp [IntKind.min, IntKind.max, IntKind.signed, IntKind.bits] at h1 h2
  simp [u8w]
  omega
variable {cs : List AV} {KK : Fr → Prop}
end
end Go.Aw
end
section
namespace Go.Aw
open Go
def AMem.wth (m : AMem) : List (Nat × AObj) → AMem
  | [] => m
  | (b, o) :: r => (AMem.wth m r).upd b (some o)
theorem wth_other {m : AMem} {b : Nat} : ∀ {L : List (Nat × AObj)}, b ∉ L.map Prod.fst → m.wth L b = m b := by
  intro L
  induction L with
  | nil => intro _; rfl
  | cons p L ih =>
    obtain ⟨c, o⟩ := p
    intro h
    simp only [List.map_cons, List.mem_cons, not_or] at h
    show (if b = c then some o else m.wth L b) = m b
    rw [if_neg h.1, ih h.2]
theorem wth_get {m : AMem} {b : Nat} {o : AObj} : ∀ {L : List (Nat × AObj)} (i : Nat), (L.map Prod.fst).Nodup → L[i]? = some (b, o) → m.wth L b = some o := by
  intro L
  induction L with
  | nil => intro i _ h; simp at h
  | cons p L ih =>
    obtain ⟨c, o'⟩ := p
    intro i hN h
    simp only [List.map_cons, List.nodup_cons] at hN
    cases i with
    | zero =>
      simp at h
      obtain ⟨rfl, rfl⟩ := h
      show (if c = c then some o' else _) = _
      rw [if_pos rfl]
    | succ i =>
      simp at h
      have hb : b ∈ L.map Prod.fst := List.mem_map.2 ⟨(b, o), List.mem_of_getElem? h, rfl⟩
      show (if b = c then some o' else m.wth L b) = _
      rw [if_neg (fun (e : b = c) => hN.1 (e ▸ hb)), ih i hN.2 h]
theorem wth_set {m : AMem} {b : Nat} {o o' : AObj} : ∀ {L : List (Nat × AObj)} (i : Nat), (L.map Prod.fst).Nodup → L[i]? = some (b, o) → (m.wth L).upd b (some o') = m.wth (L.set i (b, o')) := by
  intro L
  induction L with
  | nil => intro i _ h; simp at h
  | cons p L ih =>
    obtain ⟨c, o''⟩ := p
    intro i hN h
    simp only [List.map_cons, List.nodup_cons] at hN
    cases i with
    | zero =>
      simp at h
      obtain ⟨rfl, rfl⟩ := h
      funext x
      show (if x = c then some o' else if x = c then some o'' else m.wth L x) = (if x = c then some o' else m.wth L x)
      by_cases hx : x = c <;> simp [hx]
    | succ i =>
      simp at h
      have hb : b ∈ L.map Prod.fst := List.mem_map.2 ⟨(b, o), List.mem_of_getElem? h, rfl⟩
      have hbc : b ≠ c := fun (e : b = c) => hN.1 (e ▸ hb)
      funext x
      have := congrFun (ih i hN.2 h) x
      show (if x = b then some o' else if x = c then some o'' else m.wth L x) = (if x = c then some o'' else m.wth (L.set i (b, o')) x)
      rw [← this]
      show _ = (if x = c then some o'' else if x = b then some o' else m.wth L x)
      by_cases hx : x = b
      · subst hx; simp [hbc]
      · simp [hx]
theorem wth_fresh {m : AMem} {b : Nat} : ∀ {L : List (Nat × AObj)}, m.wth L b = none → b ∉ L.map Prod.fst ∧ m b = none := by
  intro L
  induction L with
  | nil => intro h; exact ⟨by simp, h⟩
  | cons p L ih =>
    obtain ⟨c, o⟩ := p
    intro h
    have h' : (if b = c then some o else m.wth L b) = none := h
    by_cases hb : b = c
    · rw [if_pos hb] at h'; cases h'
    · rw [if_neg hb] at h'
      have := ih h'
      exact ⟨by simp [hb]; simpa using this.1, this.2⟩
theorem wth_nodup {m : AMem} {b : Nat} {L : List (Nat × AObj)} (h : m.wth L b = none) (hN : (L.map Prod.fst).Nodup) : (b :: L.map Prod.fst).Nodup :=
  List.nodup_cons.2 ⟨(wth_fresh h).1, hN⟩
theorem wth_none {m : AMem} {b : Nat} {L : List (Nat × AObj)} (h : m.wth L b = none) : m b = none := (wth_fresh h).2
theorem wth_old {m : AMem} {b : Nat} {o : AObj} {L : List (Nat × AObj)} (hb : m b = some o) (hF : ∀ c ∈ L.map Prod.fst, m c = none) : m.wth L b = some o := by
  rw [wth_other (fun h => by rw [hF b h] at hb; cases hb), hb]
theorem wth_sub2 {m : AMem} (L1 L2 : List (Nat × AObj)) (hN : ((L1 ++ L2).map Prod.fst).Nodup) (hF : ∀ c ∈ L1.map Prod.fst, m c = none) : ∀ b o, m.wth L2 b = some o → m.wth (L1 ++ L2) b = some o := by
  induction L1 with
  | nil => exact fun _ _ h => h
  | cons p L1 ih =>
    obtain ⟨c, o'⟩ := p
    intro b o hb
    simp only [List.cons_append, List.map_cons, List.nodup_cons] at hN
    have h := ih hN.2 (fun x hx => hF x (by simp [hx])) b o hb
    have hbc : b ≠ c := by
      rintro rfl
      have h1 : b ∉ L2.map Prod.fst := fun hx => hN.1 (by simp only [List.map_append, List.mem_append]; exact .inr hx)
      rw [wth_other h1, hF b (by simp)] at hb
      cases hb
    show (if b = c then some o' else m.wth (L1 ++ L2) b) = some o
    rw [if_neg hbc, h]
theorem wth_append (m : AMem) (L L' : List (Nat × AObj)) : m.wth (L ++ L') = (m.wth L').wth L := by
  induction L with
  | nil => rfl
  | cons p L ih => obtain ⟨c, o⟩ := p; show (AMem.wth m (L ++ L')).upd c (some o) = ((m.wth L').wth L).upd c (some o); rw [ih]
theorem wth_perm {m : AMem} {L L' : List (Nat × AObj)} (hN : (L.map Prod.fst).Nodup) (hp : L.Perm L') : m.wth L = m.wth L' := by
  have hN' : (L'.map Prod.fst).Nodup := (hp.map Prod.fst).nodup_iff.1 hN
  funext x
  by_cases hx : x ∈ L.map Prod.fst
  · obtain ⟨⟨c, o⟩, hm, rfl⟩ := List.mem_map.1 hx
    obtain ⟨i, hi⟩ := List.mem_iff_getElem?.1 hm
    obtain ⟨j, hj⟩ := List.mem_iff_getElem?.1 (hp.mem_iff.1 hm)
    rw [wth_get i hN hi, wth_get j hN' hj]
  · have hx' : x ∉ L'.map Prod.fst := fun h => hx ((hp.map Prod.fst).mem_iff.2 h)
    rw [wth_other hx, wth_other hx']
theorem wth_split {m : AMem} {L L1 L2 : List (Nat × AObj)} (hN : (L.map Prod.fst).Nodup) (hp : L.Perm (L1 ++ L2)) : m.wth L = (m.wth L2).wth L1 := by
  rw [wth_perm hN hp, wth_append]
section
variable {P : Program} {n : Nat} {fr : Fr} {m : AMem} {ops : Array Oper} {stl : List Nat} {r : List Oper} {K : Fr → AMem → Prop} {d : Nat} {ty : TypeId} {pos : String} {af : Array Edge} {gd : Option (Nat × Bool)} {L : List (Nat × AObj)}
theorem ar_box (hg : gOn ops fr gd = some true) {t : TypeId} {x : Operand} {v : AV} (hx : evR (rawOf fr) x = v) (ht : v.topOk = true) (h : ∀ b, m.wth L b = none → aopsR P ops stl r K ((fr.strip (slotOf x)).put d (.ptr ⟨b, 0, none⟩)) (m.wth ((b, .cells v.cells) :: L))) :
    aopsR P ops stl (⟨some d, .box t x, ty, pos, af, gd⟩ :: r) K fr (m.wth L) := by
  subst hx
  simp only [aopsR, aopR, hg]
  exact ⟨ht, h⟩
theorem flatten_one {α : Type} (f : α → AV) (z : α) (hf : (f z).cells = [f z]) (k : Nat) : (List.replicate k (f z).cells).flatten = (List.replicate k z).map f := by
  rw [hf]
  induction k with
  | zero => rfl
  | succ k ih => simp [List.replicate_succ, ih]
theorem ar_makeSlice (hg : gOn ops fr gd = some true) {α : Type} (f : α → AV) (z : α) (k : Int) {t e : TypeId} {x y : Operand} (ht : P.underlying t = some (.slice e)) (hx : evP (rawOf fr) x = .int .i64 k) (hy : evP (rawOf fr) y = .int .i64 k) (hz : zeroA P e = some (f z)) (hf : (f z).cells = [f z])
    (htop : (f z).topOk = true) (hU : isU P e = true) (hc : P.cellsOf e = 1) (h0 : 0 ≤ k) (hb : k * P.bytesOf e ≤ 140737488355328) (hk : k ≤ 140737488355328)
    (h : ∀ b, m.wth L b = none → aopsR P ops stl r K (fr.put d (.ms ⟨b, 0, none⟩ k.toNat k.toNat)) (m.wth ((b, .cells ((List.replicate k.toNat z).map f)) :: L))) :
    aopsR P ops stl (⟨some d, .makeSlice t x y, ty, pos, af, gd⟩ :: r) K fr (m.wth L) := by
  simp only [aopsR, aopR, hg, ares, ht, hx, hy, hz]
  refine ⟨⟨htop, hU, by rw [hf, hc]; rfl, by rw [hc]; exact Nat.one_pos, by trivial, h0, hb, hk⟩, fun b hb' => ?_⟩
  have := h b hb'
  rw [flatten_one f z hf]
  exact this
theorem ar_loadp (hg : gOn ops fr gd = some true) {t : TypeId} {x : Operand} {b off : Nat} {l : List AV} {v : AV} (hx : evP (rawOf fr) x = .ptr ⟨b, off, none⟩) (hm : m.wth L b = some (.cells l)) (hst : stl.contains d = false) (hok : apartOk P t l off) (hv : (apart P t l off).plain = v)
    (h : aopsR P ops stl r K (fr.put d v) (m.wth L)) : aopsR P ops stl (⟨some d, .load t x, ty, pos, af, gd⟩ :: r) K fr (m.wth L) := by
  subst hv
  simp only [aopsR, aopR, hg, ares, Option.map_some, Option.getD_some, hst, qv, hx, hm]
  exact ⟨hok, h⟩
theorem ar_loads (hg : gOn ops fr gd = some true) {t : TypeId} {x : Operand} {b off i : Nat} {l : List AV} (hx : evP (rawOf fr) x = .ptr ⟨b, off, none⟩) (hN : (L.map Prod.fst).Nodup) (hi : L[i]? = some (b, .cells l)) (hst : stl.contains d = true) (hU : isU P t = true) (ha : aggT P t = false) (ho : off < l.length)
    (h : aopsR P ops stl r K (fr.put d (l.getD off .junk)) (m.wth (L.set i (b, .cells (l.set off (l.getD off .junk).plain))))) : aopsR P ops stl (⟨some d, .load t x, ty, pos, af, gd⟩ :: r) K fr (m.wth L) := by
  have hm := wth_get (m := m) i hN hi
  simp only [aopsR, aopR, hg, ares, Option.map_some, Option.getD_some, hst, hx, hm, if_true]
  refine ⟨⟨hU, ha, ho⟩, ?_⟩
  rw [wth_set i hN hi]
  exact h
theorem ar_storep (hg : gOn ops fr gd = some true) (i : Nat) {t : TypeId} {a x : Operand} {b off : Nat} {l l' : List AV} {v : AV} (ha : evP (rawOf fr) a = .ptr ⟨b, off, none⟩) (hx : evR (rawOf fr) x = v) (hN : (L.map Prod.fst).Nodup) (hi : L[i]? = some (b, .cells l))
    (h1 : v.topOk = true) (h2 : v.cells.all AV.one = true) (h3 : v.cells.length = P.cellsOf t) (hU : isU P t = true) (ho : off + P.cellsOf t ≤ l.length) (hl : l.take off ++ v.cells ++ l.drop (off + P.cellsOf t) = l')
    (h : aopsR P ops stl r K (fr.strip (slotOf x)) (m.wth (L.set i (b, .cells l')))) : aopsR P ops stl (⟨none, .store t a x, ty, pos, af, gd⟩ :: r) K fr (m.wth L) := by
  subst hl
  have hm := wth_get (m := m) i hN hi
  simp only [aopsR, aopR, hg, ares, ha, hm]
  refine ⟨⟨by rw [hx]; exact h1, by rw [hx]; exact h2, by rw [hx]; exact h3, hU, ho⟩, ?_⟩
  rw [wth_set i hN hi, hx]
  exact h
theorem ar_loadm (hg : gOn ops fr gd = some true) {α : Type} [Inhabited α] (f : α → AV) (xs : List α) (k : Int) {t : TypeId} {x : Operand} {b : Nat} {c : Nat} (hx : evP (rawOf fr) x = .ptr ⟨b, 0 + k.toNat * c, none⟩) (hc : c = 1) (hm : m.wth L b = some (.cells (xs.map f))) (hst : stl.contains d = false) (hU : isU P t = true) (hA : aggT P t = false)
    (hp : ∀ a, (f a).plain = f a) (h0 : 0 ≤ k) (h1 : k < xs.length) (h : aopsR P ops stl r K (fr.put d (f (gI xs k))) (m.wth L)) : aopsR P ops stl (⟨some d, .load t x, ty, pos, af, gd⟩ :: r) K fr (m.wth L) := by
  subst hc
  have e : 0 + k.toNat * 1 = k.toNat := by omega
  rw [e] at hx
  refine ar_loadp hg hx hm hst (apartOk_one hU hA (by simp; omega)) ?_ h
  simp only [apart, hA]
  rw [show (if false = true then AV.agg (List.take (P.cellsOf t) (List.drop k.toNat (List.map f xs))) else (List.map f xs).getD k.toNat AV.junk) = (List.map f xs).getD k.toNat AV.junk from if_neg (by simp), idx_eq f xs k h0 h1, hp]
theorem ar_storem (hg : gOn ops fr gd = some true) (i : Nat) {α : Type} (f : α → AV) (xs : List α) (y : α) (k : Int) {t : TypeId} {a x : Operand} {b c : Nat} (ha : evP (rawOf fr) a = .ptr ⟨b, 0 + k.toNat * c, none⟩) (hc : c = 1) (hx : evR (rawOf fr) x = f y) (hN : (L.map Prod.fst).Nodup) (hi : L[i]? = some (b, .cells (xs.map f)))
    (h1 : (f y).topOk = true) (h2 : (f y).cells = [f y]) (h2' : (f y).one = true) (h3 : P.cellsOf t = 1) (hU : isU P t = true) (h0 : 0 ≤ k) (hk : k < xs.length)
    (h : aopsR P ops stl r K (fr.strip (slotOf x)) (m.wth (L.set i (b, .cells ((xs.set k.toNat y).map f))))) : aopsR P ops stl (⟨none, .store t a x, ty, pos, af, gd⟩ :: r) K fr (m.wth L) := by
  subst hc
  have e : 0 + k.toNat * 1 = k.toNat := by omega
  rw [e] at ha
  refine ar_storep hg i ha hx hN hi h1 (by rw [h2]; simp [h2']) (by rw [h2, h3]; rfl) hU (by rw [h3]; simp; omega) ?_ h
  rw [h2, h3, List.map_set, ← List.map_take, ← List.map_drop]
  have hlt : k.toNat < (xs.map f).length := by simp; omega
  rw [List.set_eq_take_append_cons_drop, if_pos hlt]
  simp
end
end Go.Aw
end
section
namespace Go.Aw
open Go
def AAny (P : Program) (n : Nat) (ops : Array Oper) (fuel : Nat) (listed : Array Bool) (K : Fr → AMem → Prop) (fr : Fr) (m : AMem) : Prop :=
  ∀ F lim w ca Q, St F lim w n fr m ca [] → (∀ lim' w' fr' m' ca', K fr' m' → St F lim' w' n fr' m' ca' [] → Pres F w lim w' lim' → Q Exit.normal ca' w') → wpAny P .any ops Q fuel listed ca w
def allOf (p : Nat → Prop) : List Nat → Prop
  | [] => True
  | i :: r => p i ∧ allOf p r
theorem allOf_mem {p : Nat → Prop} : ∀ {l : List Nat}, allOf p l → ∀ i ∈ l, p i := by
  intro l
  induction l with
  | nil => intro _ i hi; cases hi
  | cons j l ih =>
    intro h i hi
    rcases List.mem_cons.1 hi with rfl | hi
    · exact h.1
    · exact ih h.2 i hi
section
variable {P : Program} {n : Nat} {fr : Fr} {m : AMem} {ops : Array Oper} {fuel : Nat} {listed : Array Bool} {K : Fr → AMem → Prop}
theorem AAny.done (hr : Region.ready .any ops listed = []) (h : K fr m) : AAny P n ops fuel listed K fr m := by
  intro F lim w ca Q st hq
  have := hq lim w fr m ca h st (.refl _ _ _)
  cases fuel with
  | zero => exact ⟨hr, this⟩
  | succ fuel => exact ⟨fun _ => this, fun i hi => by rw [hr] at hi; cases hi⟩
theorem AAny.keep (ks : List Nat) (hks : (ks.all fun t => decide (t < n)) = true) (h : AAny P n ops fuel listed K (fr.keep ks) m) : AAny P n ops fuel listed K fr m :=
  fun F lim w ca Q st hq => h F lim w ca Q (st.keep (by simpa using hks)) hq
theorem AAny.step (stl : List Nat) (rs : List Nat) (hr : Region.ready .any ops listed = rs) (hne : rs ≠ []) (hk : (ops.toList.all fun o => okOper n o && tmpsOk n o) = true)
    (h : allOf (fun i => match ops[i]? with | some o => aopsR P ops stl [o] (AAny P n ops fuel (listed.setIfInBounds i true) K) fr m | none => False) rs) : AAny P n ops (fuel + 1) listed K fr m := by
  intro F lim w ca Q st hq
  refine ⟨fun h0 => absurd (hr.symm.trans h0) hne, fun i hi => ?_⟩
  rw [hr] at hi
  have hs := allOf_mem h i hi
  unfold wpOp
  cases ho : ops[i]? with
  | none => rw [ho] at hs; exact hs.elim
  | some o =>
    rw [ho] at hs
    simp only at hs ⊢
    have hok : okOper n o = true ∧ tmpsOk n o = true := by
      have := List.all_eq_true.1 hk o (by rw [Array.mem_toList_iff]; exact Array.mem_of_getElem? ho)
      simpa using this
    have key : AOps P n ops [o] (AAny P n ops fuel (listed.setIfInBounds i true) K) fr m := aopsR_sound [o] (by simpa using hok) hs
    let Q' : Exit → Act → World → Prop := fun e a w' => match e with
      | .normal => wpAny P .any ops Q fuel (listed.setIfInBounds i true) a w'
      | e => Q e a w'
    have hw := key F lim w ca Q' st (fun lim' w' fr' m' ca' hA st' pr => hA F lim' w' ca' Q st' fun lim'' w'' fr'' m'' ca'' hK st'' pr' => hq lim'' w'' fr'' m'' ca'' hK st'' (pr.trans pr'))
    have conv : ∀ {C : Act → World → Prop}, o.wp P ca w C Q' → o.wp P ca w C Q := by
      intro C hC
      unfold Oper.wp at hC ⊢
      generalize (execOp ca.eval o).run P w = res at hC ⊢
      cases res with
      | ok s w' =>
        cases s with
        | enter f args =>
          refine hC.mono fun e w'' hh => ?_
          cases e <;> exact hh
        | _ => exact hC
      | _ => exact hC
    unfold wpList at hw
    split
    · next hwt =>
      rw [if_pos hwt] at hw
      rcases hw with hw | ⟨h1, h2⟩
      · exact .inl (conv hw)
      · refine .inr ⟨h1, ?_⟩
        exact h2
    · next hwt =>
      rw [if_neg hwt] at hw
      exact hw
theorem awp_any {id : Nat} {Q : Exit → Fr → AMem → Prop} (hm : P.follows .mixedOrders = true) (ks : List Nat) (hk : okAll n ops ks = true)
    (h : ∀ K : Fr → AMem → Prop, (∀ fr m, Q .normal fr m → K fr m) → AAny P n ops ops.size (Array.replicate ops.size false) (fun fr m => K (fr.keep ks) m) fr m) : AWP P n (.region id ops true) Q fr m := by
  intro F lim w ca st
  simp only [okAll, Bool.and_eq_true, List.all_eq_true] at hk
  refine wp_region_any hm ?_
  refine h _ (fun _ _ h => h) F lim _ ca _ (st.heap (w' := { w with drawn := w.drawn + 1 }) rfl) fun lim' w' fr' m' ca' hK st' pr => ?_
  exact ⟨lim', _, m', hK, st'.keep (fun t ht => by simpa using hk.2 t ht), (Pres.drew F w lim).trans pr⟩
theorem awp_anyA {id : Nat} {Q : Exit → Fr → AMem → Prop} (hm : P.follows .mixedOrders = true) (ks : List Nat) (hk : okAll n ops ks = true)
    (h : ∀ K : Fr → AMem → Prop, (∀ fr m, Q .normal fr m → K fr m) → ∀ A, A = AAny P n ops → A ops.size (Array.replicate ops.size false) (fun fr m => K (fr.keep ks) m) fr m) : AWP P n (.region id ops true) Q fr m :=
  awp_any hm ks hk fun K hK => h K hK _ rfl
end
end Go.Aw
end
section
namespace Go.Aw
open Go
section
variable {P : Program} {F : Nat → Prop} {lim : Nat → Nat} {w w' : World} {n : Nat} {fr : Fr} {m : AMem} {ca : Act} {fl : List Nat}
theorem rep_args {args : Array Operand} (st : St F lim w n fr m ca fl) (hk : ∀ y ∈ args.toList, opdOk y = true) : ∀ i, i < (args.toList.map (evP (rawOf fr))).length → Rep w lim ((args.map ca.eval).getD i undef) ((args.toList.map (evP (rawOf fr))).getD i .junk) [] := by
  intro i hi
  have hi' : i < args.size := by simpa using hi
  have := evP_rep st (hk args[i] (by simp))
  simpa [List.getD_eq_getElem?_getD, Array.getD_eq_getD_getElem?, hi'] using this
theorem ar_makeFunc {ops : Array Oper} {stl : List Nat} {r : List Oper} {K : Fr → AMem → Prop} {d : Nat} {ty : TypeId} {pos : String} {af : Array Edge} {gd : Option (Nat × Bool)} (hg : gOn ops fr gd = some true) {fn : Fn} {first caps : Array Operand} {fl cl : List AV}
    (hf : first.toList.map (evP (rawOf fr)) = fl) (hc : caps.toList.map (evP (rawOf fr)) = cl) (h : aopsR P ops stl r K (fr.put d (.func fn fl cl)) m) :
    aopsR P ops stl (⟨some d, .makeFunc fn first caps, ty, pos, af, gd⟩ :: r) K fr m := by
  subst hf hc
  simp only [aopsR, aopR, hg, ares, qv]
  intro n hk hn F lim w ca st
  have hopd := okOper_opd hk
  refine ⟨_, _, w, lim, _, _, rfl, .inl rfl, st.putO (d := some d) (fun t ht => okOper_dst hk ht) (.func fn _ _ _ _ (by simp) (by simp) (rep_args st fun y hy => hopd y (by simp [Op.operands]; exact .inl (by simpa using hy))) (rep_args st fun y hy => hopd y (by simp [Op.operands]; exact .inr (by simpa using hy)))), .refl _ _ _, h⟩
theorem ACalls.conv {f : FuncId} {args args' : List AV} {K : AV → AMem → Prop} (hl : args'.length = args.length) (hr : ∀ w lim i v, Rep w lim v (args.getD i .junk) [] → Rep w lim v (args'.getD i .junk) []) (h : ACalls P f args' m K) : ACalls P f args m K :=
  ⟨h.1, fun F lim w cargs h1 h2 h3 => h.2 F lim w cargs (by rw [h1, hl]) (fun i hi => hr w lim i _ (h2 i (by omega))) h3⟩
end
end Go.Aw
end
section
namespace Go.Aw
open Go Go.RowKit Go.WideShapes Go.ChangeShapes
def Rd (P : Program) (fuel : Nat) (t : TypeId) {α : Type} (f : α → AV) : Prop :=
  ∀ (H : Type) (enc : TypeId × Value → H) (W : World) (sp : Nat → Bool) (cs : List Value) (d : DataW H) (ps : List MemPlace), DataW.trod enc P W 0 sp true fuel t cs = some (d, ps) → (∀ n ∈ d.weights P t, n ≤ reachBytes) →
    ∃ x : α, (f x).cells.length = cs.length ∧ ∀ i, i < cs.length → Rep W (limOf W) (cs.getD i undef) ((f x).cells.getD i .junk) []
section
variable {P : Program} {fuel : Nat} {t e : TypeId}
theorem rd_int (ht : P.underlying t = some (.int .i64)) : Rd P fuel t intAV := by
  intro H enc W sp cs d ps h _
  obtain ⟨n, rfl, _, hw⟩ := DataW.trod_int ht h
  simp only [Lit.wf, IntKind.has, Bool.and_eq_true, decide_eq_true_eq] at hw
  refine ⟨n, rfl, fun i hi => ?_⟩
  obtain rfl : i = 0 := by simpa using hi
  exact .int .i64 n hw.1 hw.2
theorem rd_string (ht : P.underlying t = some .string) : Rd P fuel t strAV := by
  intro H enc W sp cs d ps h hw
  obtain ⟨s, rfl, hx, hs⟩ := DataW.trod_string ht h
  simp only [Prod.mk.injEq] at hx
  obtain ⟨rfl, rfl⟩ := hx
  have h1 := hw s.data.toList.length (by simp [DataW.weights])
  refine ⟨s.data.toList, rfl, fun i hi => ?_⟩
  obtain rfl : i = 0 := by simpa using hi
  exact .str s (by unfold reachBytes at h1; simp at h1; omega)
theorem weightsAll_mem {H : Type} {e : TypeId} : ∀ {ds : List (DataW H)} {d : DataW H}, d ∈ ds → ∀ n ∈ d.weights P e, n ∈ DataW.weightsAll P e ds
  | a :: ds, d, hd, n, hn => by
    simp only [DataW.weightsAll, List.mem_append]
    rcases List.mem_cons.1 hd with rfl | hd
    · exact .inl hn
    · exact .inr (weightsAll_mem hd n hn)
theorem rd_slice {α : Type} [Inhabited α] {f : α → AV} {sz : Nat} (ht : P.underlying t = some (.slice e)) (hsz : P.cellsOf e = sz) (hpos : 0 < sz) (hby : 0 < P.bytesOf e) (hf : ∀ x, (f x).cells.length = sz) (hr : ∀ n, n < fuel → Rd P n e f) : Rd P fuel t (lstAV f) := by
  intro H enc W sp cs d ps h hw
  rcases DataW.trod_slice ht h with ⟨rfl, _⟩ | ⟨a, len, cap, elems, rest, n, rfl, rfl, hx, hb, hl, hm, hlen, hel, hsp, hns⟩
  · refine ⟨[], rfl, fun i hi => ?_⟩
    obtain rfl : i = 0 := by simpa using hi
    exact .nils false
  simp only [Prod.mk.injEq] at hx
  obtain ⟨rfl, rfl⟩ := hx
  simp only [DataW.weights, ht] at hw
  have hw0 := hw _ (List.mem_cons_self ..)
  simp only [List.length_map] at hw0
  have hlen2 : len ≤ 140737488355328 := by
    have h1 : len * 1 ≤ (elems.length + rest.length) * P.bytesOf e := Nat.mul_le_mul (by omega) hby
    unfold reachBytes at hw0; omega
  rcases Nat.eq_zero_or_pos len with h0 | h0
  · subst h0
    refine ⟨[], rfl, fun i hi => ?_⟩
    obtain rfl : i = 0 := by simpa using hi
    exact .empty a cap hm
  have each : ∀ i, i < len → ∃ (x : α) (cs' : List Value), W.cells? 0 (a.add (i * sz)) sz = some cs' ∧ (∀ j, j < sz → Rep W (limOf W) (cs'.getD j undef) ((f x).cells.getD j .junk) []) := fun i hi => by
    have h1 := hel i hi
    rw [hsz, List.getElem?_eq_getElem (show i < elems.length by omega), Option.bind_eq_some_iff] at h1
    obtain ⟨cs', h2, h3⟩ := h1
    have h3' : DataW.trod enc P W 0 sp true n e cs' = some ((elems[i]'(by omega)).1, (elems[i]'(by omega)).2) := h3
    obtain ⟨x, hx1, hx2⟩ := hr n (Nat.lt_succ_self n) H enc W sp cs' _ _ h3' (fun k hk => hw k (List.mem_cons_of_mem _ (List.mem_append_left _ (weightsAll_mem (List.mem_map.2 ⟨_, List.getElem_mem (show i < elems.length by omega), rfl⟩) k hk))))
    have hl2 : cs'.length = sz := by rw [← hx1, hf]
    exact ⟨x, cs', h2, fun j hj => hx2 j (by omega)⟩
  have hsp : a.spot = none := by
    obtain ⟨x, cs', h1, _⟩ := each 0 h0
    have := (World.cells?_some h1).2.2 0 hpos
    obtain ⟨b, off, spot⟩ := a
    cases spot with
    | none => rfl
    | some s =>
      have hl2 := (World.cells?_some h1).2.1
      rw [List.getElem?_eq_getElem (by omega)] at this
      unfold World.cell? at this
      simp [Addr.add] at this
      split at this <;> simp_all
  obtain ⟨b, off, spot⟩ := a
  simp only at hsp
  subst hsp
  have hg : ∀ i : Nat, ∃ x : α × List Value, i < len → W.cells? 0 ((⟨b, off, none⟩ : Addr).add (i * sz)) sz = some x.2 ∧ (∀ j, j < sz → Rep W (limOf W) (x.2.getD j undef) ((f x.1).cells.getD j .junk) []) := fun i => by
    by_cases hi : i < len
    · obtain ⟨x, cs', h1, h2⟩ := each i hi
      exact ⟨(x, cs'), fun _ => ⟨h1, h2⟩⟩
    · exact ⟨(default, []), fun h => absurd h hi⟩
  obtain ⟨g, hg⟩ := Classical.axiomOfChoice hg
  have hcell : ∀ i j, i < len → j < sz → W.cell? ⟨b, off + i * sz + j, none⟩ = some ((g i).2.getD j undef) := fun i j hi hj => by
    have h1 := (hg i hi).1
    have h2 := (World.cells?_some h1).2.2 j hj
    have h3 := (World.cells?_some h1).2.1
    rw [Addr.add_lit, Addr.add_lit] at h2
    rw [h2, List.getD_eq_getElem?_getD, List.getElem?_eq_getElem (by omega)]; rfl
  refine ⟨(List.range len).map fun i => (g i).1, rfl, fun i hi => ?_⟩
  obtain rfl : i = 0 := by simpa using hi
  have hgd : ∀ i, i < len → (((List.range len).map fun i => (g i).1).map f).getD i .junk = f (g i).1 := fun i hi => by
    simp [List.getD_eq_getElem?_getD, hi]
  refine Rep.slice b off len cap sz _ (fun i j => (g i).2.getD j undef) (by simp) hl hm hlen2 (fun i hi => by rw [hgd i hi]; exact hf _) ?_ hcell (fun i j hi hj => by rw [hgd i hi]; exact (hg i hi).2 j hj)
  have h1 := limOf_cell (hcell (len - 1) (sz - 1) (by omega) (by omega))
  have h2 : len * sz = (len - 1) * sz + sz := by rw [← Nat.succ_mul]; congr 1; omega
  omega
theorem Rd.arg {α : Type} {f : α → AV} {H : Type} {enc : TypeId × Value → H} {W : World} {sp : Nat → Bool} {v : Value} {d : DataW H} {ps : List MemPlace} (hr : ∀ n, Rd P n t f) (hf : ∀ x, (f x).cells = [f x]) (hv : v.cells.toList = [v]) (hd : DataW.Trod enc P W 0 sp true t v d ps) (hw : ∀ n ∈ d.weights P t, n ≤ reachBytes) :
    ∃ x : α, Rep W (limOf W) v (f x) [] := by
  obtain ⟨n, hn⟩ := hd
  obtain ⟨x, h1, h2⟩ := hr n H enc W sp _ d ps hn hw
  refine ⟨x, ?_⟩
  rw [hv] at h2
  have := h2 0 (by simp)
  rw [hf] at this
  exact this
theorem sized_arg {H : Type} {ts : List TypeId} {ds : List (DataW H)} (h : (DataW.weightsEach P ts ds).all (· ≤ reachBytes) = true) {j : Nat} {d : DataW H} (ht : ts[j]? = some t) (hd : ds[j]? = some d) : ∀ n ∈ d.weights P t, n ≤ reachBytes := fun n hn => by
  simpa using List.all_eq_true.1 h _ (DataW.weights_mem_each ht hd n hn)
end
end Go.Aw
end
section
namespace Go.Aw
open Go Go.MapKept
section
variable {κ ν : Type} [DecidableEq κ]
def mapAV {κ ν : Type} (kf : κ → AV) (vf : ν → AV) (p : κ × ν) : AV × AV := (kf p.1, vf p.2)
end
section
variable {P : Program} {F : Nat → Prop} {lim : Nat → Nat} {w w' : World} {n : Nat} {fr : Fr} {m : AMem} {ca : Act} {fl : List Nat}
variable {ops : Array Oper} {stl : List Nat} {r : List Oper} {K : Fr → AMem → Prop} {d : Nat} {ty : TypeId} {pos : String} {af : Array Edge} {gd : Option (Nat × Bool)} {L : List (Nat × AObj)}
def bd1 : AV → Prop
  | .str s => s.length ≤ 140737488355328
  | .slice _ l => l.length ≤ 140737488355328
  | _ => True
def bdA : AV → Prop
  | .agg l => ∀ i, i < l.length → bd1 (l.getD i .junk)
  | x => bd1 x
theorem rep_bd1 {v : Value} {x : AV} {os : List Nat} (h : Rep w lim v x os) : bd1 x := by
  cases h with
  | str s h => show s.data.toList.length ≤ _; simp; exact h
  | nils own => simp [bd1]
  | empty a cap hm => simp [bd1]
  | slice b off n cap sz l cv hn hcap hm hbig => show l.length ≤ _; omega
  | own b n cap sz l cv cur e hn hcap hm hbig => show l.length ≤ _; omega
  | _ => trivial
theorem rep_bdA {v : Value} {x : AV} {os : List Nat} (h : Rep w lim v x os) : bdA x := by
  cases h with
  | agg cs xs os h hr => exact fun i hi => rep_bd1 (hr i hi)
  | str s h => show s.data.toList.length ≤ _; simp; exact h
  | nils own => simp [bdA, bd1]
  | empty a cap hm => simp [bdA, bd1]
  | slice b off n cap sz l cv hn hcap hm hbig => show l.length ≤ _; omega
  | own b n cap sz l cv cur e hn hcap hm hbig => show l.length ≤ _; omega
  | _ => trivial
theorem bd_map {α : Type} {f : α → AV} {o : Bool} {l : List α} (h : bd1 (.slice o (l.map f))) : l.length ≤ 140737488355328 := by
  have : (l.map f).length ≤ 140737488355328 := h
  simpa using this
theorem awp_strip {c : Code} {Q : Exit → Fr → AMem → Prop} (s : Nat) (hs : decide (s < n) = true) (h : AWP P n c Q (fr.strip [s]) m) : AWP P n c Q fr m := fun F lim w ca st => by
  obtain ⟨os, h1, _⟩ := st.takeRaw s (of_decide_eq_true hs)
  exact h F lim w ca h1.drop
end
end Go.Aw
end
section
namespace Go.Aw
open Go
section
variable {P : Program} {F : Nat → Prop} {lim : Nat → Nat} {w w' : World} {n : Nat} {fr : Fr} {m : AMem} {ca : Act} {fl : List Nat}
def pick {α : Type} : List α → List Nat → List α × List α
  | L, [] => ([], L)
  | L, i :: is => match L[i]? with
    | some a => (a :: (pick (L.eraseIdx i) is).1, (pick (L.eraseIdx i) is).2)
    | none => pick L is
end
end Go.Aw
end
section
namespace Go.Aw
open Go Go.RowKit Go.WideShapes Go.ChangeShapes
section
variable {P : Program} {fuel : Nat} {t e : TypeId}
theorem weightsEach_mem {H : Type} : ∀ {ts : List TypeId} {ds : List (DataW H)} {i : Nat} {t : TypeId} {d : DataW H}, ts[i]? = some t → ds[i]? = some d → ∀ n ∈ d.weights P t, n ∈ DataW.weightsEach P ts ds
  | a :: ts, b :: ds, 0, t, d, ht, hd, n, hn => by
    simp only [List.getElem?_cons_zero, Option.some.injEq] at ht hd
    subst ht; subst hd
    exact List.mem_append_left _ hn
  | a :: ts, b :: ds, i + 1, t, d, ht, hd, n, hn => by
    simp only [List.getElem?_cons_succ] at ht hd
    exact List.mem_append_right _ (weightsEach_mem ht hd n hn)
  | [], _, i, t, d, ht, _, _, _ => by simp at ht
  | _ :: _, [], i, t, d, _, hd, _, _ => by simp at hd
theorem rd_fields {fs : Array Field} (ht : P.underlying t = some (.struct fs)) {H : Type} {enc : TypeId × Value → H} {W : World} {sp : Nat → Bool} {cs : List Value} {d : DataW H} {ps : List MemPlace} (h : DataW.trod enc P W 0 sp true fuel t cs = some (d, ps)) (hw : ∀ n ∈ d.weights P t, n ≤ reachBytes) :
    cs.length = P.cellsOf t ∧ ∀ (i : Nat) (f : Field) {α : Type} (g : α → AV), fs[i]? = some f → (∀ n, n < fuel → Rd P n f.type g) → f.offset + P.cellsOf f.type ≤ P.cellsOf t →
      ∃ x : α, (g x).cells.length = P.cellsOf f.type ∧ ∀ j, j < P.cellsOf f.type → Rep W (limOf W) (cs.getD (f.offset + j) undef) ((g x).cells.getD j .junk) [] := by
  obtain ⟨xs, n, rfl, hx, hl, hxl, hf⟩ := DataW.trod_struct ht h
  simp only [Prod.mk.injEq] at hx
  obtain ⟨rfl, rfl⟩ := hx
  refine ⟨hl, fun i f α g hi hr ho => ?_⟩
  have h1 := hf i f hi
  have hi2 : i < xs.length := by
    rw [hxl]; exact (Array.getElem?_eq_some_iff.1 hi).1
  rw [List.getElem?_eq_getElem hi2] at h1
  have h1' : DataW.trod enc P W 0 sp true n f.type ((cs.drop f.offset).take (P.cellsOf f.type)) = some ((xs[i]).1, (xs[i]).2) := h1
  simp only [DataW.weights, ht] at hw
  obtain ⟨x, hx1, hx2⟩ := hr n (Nat.lt_succ_self n) H enc W sp _ _ _ h1' (fun k hk => hw k (weightsEach_mem (i := i) (t := f.type) (by simp [hi]) (by simp [hi2]) k hk))
  have hlen : ((cs.drop f.offset).take (P.cellsOf f.type)).length = P.cellsOf f.type := by
    rw [List.length_take, List.length_drop]; omega
  refine ⟨x, by rw [hx1, hlen], fun j hj => ?_⟩
  have h2 := hx2 j (by omega)
  have e : ((cs.drop f.offset).take (P.cellsOf f.type)).getD j undef = cs.getD (f.offset + j) undef := by
    simp [List.getD_eq_getElem?_getD, hj]
  rwa [e] at h2
end
end Go.Aw
end
section
namespace Go.Aw
open Go Go.MapKept
open Go.ChangeMaps (setBlock)
section
variable {P : Program} {F : Nat → Prop} {lim : Nat → Nat} {w w' : World} {n : Nat} {fr : Fr} {m : AMem} {ca : Act} {fl : List Nat}
theorem mrep_map_all {b : Nat} {l : List (AV × AV)} {os : Nat → List Nat} (h : MRep w lim b (.map l) os) : ∃ (es : Array MapEntry) (clock : Nat), w.heap[b]? = some (.map es clock) ∧ es.size = l.length ∧ l.length ≤ 140737488355328 ∧
    (∀ i, i < l.length → Rep w lim (es.getD i default).key (l.getD i (.junk, .junk)).1 []) ∧ (∀ i, i < l.length → Rep w lim (es.getD i default).val (l.getD i (.junk, .junk)).2 []) ∧ (∀ i j, i < j → j < l.length → (es.getD i default).born < (es.getD j default).born) ∧ (∀ i, i < l.length → (es.getD i default).born < clock) := by
  cases h with
  | map es clock l hb hs hbig hk hv h1 h2 os => exact ⟨es, clock, hb, hs, hbig, hk, hv, h1, h2⟩
theorem St.range (st : St F lim w n fr m ca fl) {b : Nat} {l : List (AV × AV)} (hm : m b = some (.map l)) :
    ∃ es clock, w.heap[b]? = some (.map es clock) ∧ m w.heap.size = none ∧ St F lim (w.alloc (.mapIter (some b) clock #[] clock)) n fr (m.upd b (some (.iter w.heap.size l []))) ca fl ∧ Pres F w lim (w.alloc (.mapIter (some b) clock #[] clock)) lim := by
  have hz := st.lim_new
  have hmn : m w.heap.size = none := by
    cases hb : m w.heap.size with
    | none => rfl
    | some o => exact absurd (st.lt_of_mem (b := w.heap.size) (by rw [hb]; simp)) (Nat.lt_irrefl _)
  have hFn : ¬ F w.heap.size := fun hf => absurd (st.lt_of_F hf) (Nat.lt_irrefl _)
  have hblt : b < w.heap.size := st.lt_of_mem (by rw [hm]; simp)
  have hP := fun clock => Pres.alloc st (.mapIter (some b) clock #[] clock) 0
  have hlim : (fun b => if b = w.heap.size then 0 else lim b) = lim := by funext b; by_cases hb : b = w.heap.size <;> simp [hb, hz]
  rw [hlim] at hP
  obtain ⟨os, om, ow, h⟩ := st
  obtain ⟨hM, hl, hF⟩ := h.mem b _ hm
  obtain ⟨es, clock, hb, hs, hbig, hk, hv, h1, h2⟩ := mrep_map_all hM
  refine ⟨es, clock, hb, hmn, ?_, hP clock⟩
  have hsz1 : (w.alloc (.mapIter (some b) clock #[] clock)).heap.size = w.heap.size + 1 := Array.size_push _
  have hst : ∀ {v x os'}, Rep w lim v x os' → (∀ c ∈ os', ow c ≠ .none) → Rep (w.alloc (.mapIter (some b) clock #[] clock)) lim v x os' := fun hR ho =>
    hR.stable (fun _ => Nat.le_refl _) (hP clock).cell (fun c hc => ⟨heapOld w _ c (h.free c (ho c hc)).2.2, rfl⟩)
  have how : ∀ c, ow c ≠ .none → c ≠ w.heap.size := fun c hc e => by have := (h.free c hc).2.2; omega
  refine ⟨os, fun k i => if k = b then (if i = 0 then [w.heap.size] else []) else om k i, fun c => if c = w.heap.size then .blk b 0 else ow c, h.size, h.defers, fun t x hx => ⟨(h.slots t x hx).1, hst (h.slots t x hx).2 (fun c hc => by rw [(h.ownS t x hx).2 c hc]; simp)⟩, fun k o hk' => ?_, fun t x hx => ⟨(h.ownS t x hx).1, fun c hc => ?_⟩, fun k o hk' i => ?_, ⟨h.ownF.1, fun c hc => ?_⟩, fun c hc => ?_, fun k hk' => ?_⟩
  · by_cases hkb : k = b
    · subst hkb
      simp only [AMem.upd, ↓reduceIte, Option.some.injEq] at hk'
      subst hk'
      refine ⟨.iter es clock w.heap.size l [] ((heapOld w _ k hblt).trans hb) hs hbig (fun i hi => hst (hk i hi) (by simp)) (fun i hi => hst (hv i hi) (by simp)) h1 h2 (heapNew w _) (by simp) _ (by simp), hl, hF⟩
    · simp only [AMem.upd, if_neg hkb] at hk'
      have hM' := h.mem k o hk'
      simp only [if_neg hkb]
      have hklt : k < w.heap.size := by
        rcases Nat.lt_or_ge k w.heap.size with h3 | h3
        · exact h3
        · rw [(h.fresh k h3).2.2] at hk'; cases hk'
      refine ⟨hM'.1.stable (heapOld w _ k hklt) (fun _ => Nat.le_refl _) (hP clock).cell (fun i c hc => ⟨heapOld w _ c (h.free c ?_).2.2, rfl⟩), hM'.2⟩
      rw [(h.ownM k o hk' i).2 c hc]; simp
  · have e1 := (h.ownS t x hx).2 c hc
    have e2 : c ≠ w.heap.size := how c (by rw [e1]; simp)
    simp only [if_neg e2, e1]
  · by_cases hkb : k = b
    · subst hkb
      simp only [if_true]
      by_cases hi : i = 0
      · subst hi; simp
      · simp [hi]
    · simp only [AMem.upd, if_neg hkb] at hk'
      simp only [if_neg hkb]
      refine ⟨(h.ownM k o hk' i).1, fun c hc => ?_⟩
      have e1 := (h.ownM k o hk' i).2 c hc
      have e2 : c ≠ w.heap.size := how c (by rw [e1]; simp)
      simp only [if_neg e2, e1]
  · have e1 := h.ownF.2 c hc
    have e2 : c ≠ w.heap.size := how c (by rw [e1]; simp)
    simp only [if_neg e2, e1]
  · by_cases e2 : c = w.heap.size
    · subst e2
      refine ⟨hFn, ?_, by rw [hsz1]; omega⟩
      simp only [AMem.upd]
      rw [if_neg (by omega)]; exact hmn
    · simp only [if_neg e2] at hc
      have := h.free c hc
      refine ⟨this.1, ?_, by have := this.2.2; rw [hsz1]; omega⟩
      simp only [AMem.upd]
      rw [if_neg (by intro e; subst e; rw [hm] at this; exact absurd this.2.1 (by simp))]; exact this.2.1
  · have hsz : w.heap.size + 1 ≤ k := by rw [hsz1] at hk'; exact hk'
    have := h.fresh k (by omega)
    refine ⟨this.1, this.2.1, ?_⟩
    simp only [AMem.upd]
    rw [if_neg (by omega)]; exact this.2.2
variable {ops : Array Oper} {stl : List Nat} {r : List Oper} {K : Fr → AMem → Prop} {d : Nat} {ty : TypeId} {pos : String} {af : Array Edge} {gd : Option (Nat × Bool)} {L : List (Nat × AObj)}
section
variable {κ ν : Type} {kf : κ → AV} {vf : ν → AV}
end
end
end Go.Aw
end
section
namespace Go.Aw
open Go Go.Sort
open Go.Proofs (encStr)
section
variable {P : Program} {F : Nat → Prop} {lim : Nat → Nat} {w w' : World} {n : Nat} {fr : Fr} {m : AMem} {ca : Act} {fl : List Nat}
theorem ms_none {v : Value} {a : Addr} {k c : Nat} {os : List Nat} (h : Rep w lim v (.ms a k c) os) : os = [] := by
  cases h; rfl
end
end Go.Aw
end
section
namespace Go.Aw
open Go
section
variable {P : Program} {w : World} {lim : Nat → Nat} {v : Value} {x : AV} {os : List Nat} {n : Nat} {fr : Fr} {m : AMem}
def bd2 : AV → Prop
  | .str s => s.length ≤ 140737488355328
  | .slice _ l => l.length ≤ 140737488355328
  | .int k i => k.min ≤ i ∧ i ≤ k.max
  | _ => True
theorem rep_bd2 (h : Rep w lim v x os) : bd2 x := by
  cases h with
  | int k i lo hi => exact ⟨lo, hi⟩
  | str s h => show s.data.toList.length ≤ _; simp; exact h
  | nils own => simp [bd2]
  | empty a cap hm => simp [bd2]
  | slice b off n cap sz l cv hn hcap hm hbig => show l.length ≤ _; omega
  | own b n cap sz l cv cur e hn hcap hm hbig => show l.length ≤ _; omega
  | _ => trivial
def bdL (l : List AV) : Prop := ∀ i j, i < l.length → j < (l.getD i .junk).cells.length → bd2 ((l.getD i .junk).cells.getD j .junk)
theorem rep_bdL {o : Bool} {l : List AV} (h : Rep w lim v (.slice o l) os) : bdL l := by
  intro i j hi hj
  cases h with
  | nils own => simp at hi
  | empty a cap hm => simp at hi
  | slice b off n cap sz l cv hn hcap hm hbig hsz hlim hc hr => exact rep_bd2 (hr i j (by omega) (by rw [← hsz i (by omega)]; exact hj))
  | own b n cap sz l cv cur e hn hcap hm hbig h0 hb hcur hsz hlim hc hr => exact rep_bd2 (hr i j (by omega) (by rw [← hsz i (by omega)]; exact hj))
theorem bdL_map {α : Type} {f : α → AV} {l : List α} {a : α} (h : bdL (l.map f)) (ha : a ∈ l) (j : Nat) (hj : j < (f a).cells.length) : bd2 ((f a).cells.getD j .junk) := by
  obtain ⟨i, hi, e⟩ := List.getElem_of_mem ha
  have e2 : (l.map f).getD i .junk = f a := by simp [List.getD_eq_getElem?_getD, hi, e]
  have := h i j (by simpa using hi) (by rw [e2]; exact hj)
  rwa [e2] at this
end
end Go.Aw
end
section
namespace Go.Aw
open Go Go.RowKit Go.WideShapes Go.ChangeShapes
def RdP (P : Program) (fuel : Nat) (t : TypeId) {α : Type} (f : α → AV) (ok : α → Prop) : Prop :=
  ∀ (H : Type) (enc : TypeId × Value → H) (W : World) (sp : Nat → Bool) (cs : List Value) (d : DataW H) (ps : List MemPlace), DataW.trod enc P W 0 sp true fuel t cs = some (d, ps) → (∀ n ∈ d.weights P t, n ≤ reachBytes) →
    ∃ x : α, ok x ∧ (f x).cells.length = cs.length ∧ ∀ i, i < cs.length → Rep W (limOf W) (cs.getD i undef) ((f x).cells.getD i .junk) []
section
variable {P : Program} {fuel : Nat} {t e : TypeId}
theorem RdP.mono {α : Type} {f : α → AV} {ok ok' : α → Prop} (h : RdP P fuel t f ok) (hk : ∀ x, ok x → ok' x) : RdP P fuel t f ok' := fun H enc W sp cs d ps h1 h2 => by
  obtain ⟨x, h3, hx⟩ := h H enc W sp cs d ps h1 h2
  exact ⟨x, hk x h3, hx⟩
theorem RdP.arg {α : Type} {f : α → AV} {ok : α → Prop} {H : Type} {enc : TypeId × Value → H} {W : World} {sp : Nat → Bool} {cs : List Value} {v : Value} {d : DataW H} {ps : List MemPlace} (hr : ∀ n, RdP P n t f ok) (hv : v.cells.toList = cs) (hd : DataW.Trod enc P W 0 sp true t v d ps) (hw : ∀ n ∈ d.weights P t, n ≤ reachBytes) :
    ∃ x : α, ok x ∧ (f x).cells.length = cs.length ∧ ∀ i, i < cs.length → Rep W (limOf W) (cs.getD i undef) ((f x).cells.getD i .junk) [] := by
  obtain ⟨n, hn⟩ := hd
  rw [hv] at hn
  exact hr n H enc W sp _ d ps hn hw
end
end Go.Aw
end
section
namespace Go.Aw
open Go Go.Sort
def flatK {α : Type} (f : α → AV) (l : List α) : List AV := (l.map f).flatMap AV.cells
section
variable {α : Type} {f : α → AV} {sz : Nat}
theorem flatK_cons (a : α) (l : List α) : flatK f (a :: l) = (f a).cells ++ flatK f l := rfl
theorem flatK_len (hf : ∀ a, (f a).cells.length = sz) (l : List α) : (flatK f l).length = l.length * sz := by
  induction l with
  | nil => simp [flatK]
  | cons a l ih => rw [flatK_cons, List.length_append, ih, hf, List.length_cons, Nat.add_mul, Nat.one_mul, Nat.add_comm]
theorem flatK_get (hf : ∀ a, (f a).cells.length = sz) (hpos : 0 < sz) (l : List α) : ∀ q, q < l.length * sz → (flatK f l).getD q .junk = ((l.map f).getD (q / sz) .junk).cells.getD (q % sz) .junk := by
  induction l with
  | nil => intro q hq; simp at hq
  | cons a l ih =>
    intro q hq
    rw [flatK_cons]
    by_cases hqs : q < sz
    · rw [getD_append_lt (by rw [hf]; omega), Nat.div_eq_of_lt hqs, Nat.mod_eq_of_lt hqs]; rfl
    · obtain ⟨r, rfl⟩ := Nat.exists_eq_add_of_le (Nat.le_of_not_lt hqs)
      have e1 : (sz + r) / sz = r / sz + 1 := by rw [Nat.add_comm, Nat.add_div_right _ hpos]
      rw [getD_append_ge (by rw [hf]; omega), hf, Nat.add_sub_cancel_left, ih r (by simp [Nat.succ_mul] at hq; omega), e1, Nat.add_mod_left]
      simp [List.getD_eq_getElem?_getD]
theorem flatK_plain (hp : ∀ a, (f a).plain = f a) (l : List α) : (flatK f l).map AV.plain = flatK f l := by
  induction l with
  | nil => rfl
  | cons a l ih => rw [flatK_cons, List.map_append, ih, ← AV.plainL_eq, ← AV.plain_cells, hp]
theorem flatK_mem_plain (hp : ∀ a, (f a).plain = f a) (l : List α) : ∀ x ∈ flatK f l, x.plain = x := by
  intro x hx
  have h := flatK_plain hp l
  obtain ⟨i, hi, rfl⟩ := List.getElem_of_mem hx
  have h1 : ((flatK f l).map AV.plain)[i]'(by simpa using hi) = (flatK f l)[i] := by simp only [h]
  simpa using h1
end
section
variable {P : Program} {F : Nat → Prop} {lim : Nat → Nat} {w w' : World} {n : Nat} {fr : Fr} {m : AMem} {ca : Act} {fl : List Nat}
theorem St.freezeK {α : Type} {f : α → AV} {sz : Nat} (st : St F lim w n fr m ca []) {b : Nat} {zs : List α} (hf : ∀ a, (f a).cells.length = sz) (hpos : 0 < sz) (hp : ∀ a, (f a).plain = f a) (hm : m b = some (.cells (flatK f zs))) :
    St F (fun c => if c = b then zs.length * sz else lim c) w n fr (m.upd b none) ca [] ∧ Pres F w lim w (fun c => if c = b then zs.length * sz else lim c) ∧
    ∀ k cap v, k ≤ zs.length → k ≤ 140737488355328 → Rep w lim v (.ms ⟨b, 0, none⟩ k cap) [] → Rep w (fun c => if c = b then zs.length * sz else lim c) v (.slice false ((zs.take k).map f)) [] := by
  obtain ⟨os, om, ow, h⟩ := st
  obtain ⟨hM, hl, hF⟩ := h.mem b _ hm
  have hlim : ∀ c, lim c ≤ if c = b then zs.length * sz else lim c := fun c => by split <;> simp_all
  have hown : ∀ c, ow c ≠ .none → c ≠ b := fun c hc e => by subst e; have := (h.free c hc).2.1; rw [hm] at this; cases this
  have hst : ∀ {v x os'}, Rep w lim v x os' → (∀ c ∈ os', ow c ≠ .none) → Rep w (fun c => if c = b then zs.length * sz else lim c) v x os' := fun hR ho => hR.stable hlim (fun _ _ _ => rfl) (fun c hc => ⟨rfl, if_neg (hown c (ho c hc))⟩)
  have hblt : b < w.heap.size := by
    rcases Nat.lt_or_ge b w.heap.size with h3 | h3
    · exact h3
    · rw [(h.fresh b h3).2.2] at hm; cases hm
  refine ⟨⟨os, om, ow, h.size, h.defers, fun t x hx => ⟨(h.slots t x hx).1, hst (h.slots t x hx).2 (fun c hc => by rw [(h.ownS t x hx).2 c hc]; simp)⟩, fun c o hc => ?_, h.ownS, fun c o hc i => ?_, h.ownF, fun c hc => ⟨(h.free c hc).1, ?_, (h.free c hc).2.2⟩, fun c hc => ?_⟩, ⟨rfl, rfl, rfl, Nat.le_refl _, fun c hc => ⟨rfl, ?_⟩, hlim, fun _ _ _ => rfl⟩, fun k cap v hk hz hv => ?_⟩
  · have hcb : c ≠ b := fun e => by subst e; simp [AMem.upd] at hc
    simp only [AMem.upd, if_neg hcb] at hc
    have := h.mem c o hc
    refine ⟨this.1.stable rfl hlim (fun _ _ _ => rfl) (fun i q hq => ⟨rfl, if_neg (hown q (by rw [(h.ownM c o hc i).2 q hq]; simp))⟩), by rw [if_neg hcb]; exact this.2.1, this.2.2⟩
  · have hcb : c ≠ b := fun e => by subst e; simp [AMem.upd] at hc
    simp only [AMem.upd, if_neg hcb] at hc
    exact h.ownM c o hc i
  · have := (h.free c hc).2.1
    simp only [AMem.upd]; split
    · rfl
    · exact this
  · have := h.fresh c hc
    have hcb : c ≠ b := by omega
    refine ⟨by rw [if_neg hcb]; exact this.1, this.2.1, ?_⟩
    simp only [AMem.upd, if_neg hcb]; exact this.2.2
  · exact if_neg (fun e => hF (by rw [← e]; exact hc))
  · obtain ⟨rfl, hkc, hcm⟩ := rep_ms_inv hv
    rcases Nat.eq_zero_or_pos k with h0 | h0
    · subst h0
      exact .empty _ cap hcm
    cases hM with
    | cells cs e l _ hb hs hr =>
      have hsz : cs.size = zs.length * sz := by rw [hs, flatK_len hf]
      have hq : ∀ i j, i < k → j < sz → i * sz + j < zs.length * sz ∧ (i * sz + j) / sz = i ∧ (i * sz + j) % sz = j := fun i j hi hj => by
        have h3 : i * sz + sz ≤ zs.length * sz := by rw [← Nat.succ_mul]; exact Nat.mul_le_mul_right _ (by omega)
        refine ⟨by omega, ?_, ?_⟩
        · rw [Nat.mul_comm, Nat.mul_add_div (by omega), Nat.div_eq_of_lt hj, Nat.add_zero]
        · rw [Nat.mul_comm, Nat.mul_add_mod, Nat.mod_eq_of_lt hj]
      refine Rep.slice b 0 k cap sz _ (fun i j => cs.getD (i * sz + j) undef) (by simp; omega) hkc hcm hz (fun i hi => ?_) (by simp; exact Nat.mul_le_mul_right _ hk) (fun i j hi hj => ?_) (fun i j hi hj => ?_)
      · have hiz : i < zs.length := by omega
        simp [List.getD_eq_getElem?_getD, hi, hiz, hf]
      · have hic : i * sz + j < cs.size := by rw [hsz]; exact (hq i j hi hj).1
        simp [World.cell?, hb, Array.getD, hic]
      · have hiz : i < zs.length := by omega
        obtain ⟨q1, q2, q3⟩ := hq i j hi hj
        have h1 := (hr (i * sz + j) (by rw [flatK_len hf]; exact q1)).plain
        have h2 := flatK_mem_plain hp zs ((flatK f zs).getD (i * sz + j) .junk) (by
          have : i * sz + j < (flatK f zs).length := by rw [flatK_len hf]; exact q1
          simp [List.getD_eq_getElem?_getD, this])
        rw [h2, flatK_get hf hpos zs _ q1, q2, q3] at h1
        have e3 : ((zs.take k).map f).getD i .junk = (zs.map f).getD i .junk := by simp [List.getD_eq_getElem?_getD, hi, hiz]
        rw [e3]
        exact h1.stable hlim (fun _ _ _ => rfl) (by simp)
end
end Go.Aw
end
section
namespace Go.Aw
open Go
section
variable {P : Program} {n : Nat} {fr : Fr} {m : AMem} {ops : Array Oper} {fuel : Nat} {listed : Array Bool} {K : Fr → AMem → Prop}
theorem wpAny_monoQ {Q Q' : Exit → Act → World → Prop} (h : ∀ e a w, Q e a w → Q' e a w) (hl : LetsOut Q → LetsOut Q') {md : Region.Mode} : ∀ (fuel : Nat) (listed : Array Bool) (a : Act) (w : World), wpAny P md ops Q fuel listed a w → wpAny P md ops Q' fuel listed a w
  | 0, _, _, _, hh => ⟨hh.1, h _ _ _ hh.2⟩
  | fuel + 1, listed, a, w, hh => by
    refine ⟨fun h0 => h _ _ _ (hh.1 h0), fun i hi => ?_⟩
    have h1 := wpOp_mono (fun a' w' h' => wpAny_monoQ h hl fuel _ a' w' h') (hh.2 i hi)
    unfold wpOp at h1 ⊢
    cases ho : ops[i]? with
    | none => rw [ho] at h1; exact h1
    | some o =>
      rw [ho] at h1
      simp only at h1 ⊢
      split
      · next hw =>
        rw [if_pos hw] at h1
        refine h1.imp (fun h2 => ?_) fun h2 => ⟨h2.1, hl h2.2⟩
        unfold Oper.wp at h2 ⊢
        generalize (execOp a.eval o).run P w = r at h2 ⊢
        cases r with
        | ok nx w' =>
          cases nx <;> simp only [Oper.upon] at h2 ⊢ <;>
            first
              | exact h2
              | exact Calls.mono h2 (fun e w'' he => by cases e <;> first | exact he | exact h _ _ _ he | exact hl he)
        | halt x w' => cases x <;> simp only [Oper.upon] at h2 ⊢ <;> first | exact h2 | exact h _ _ _ h2 | exact hl h2
      · next hw =>
        rw [if_neg hw] at h1
        exact h1
def firstB (ops : Array Oper) (listed : Array Bool) (i : Nat) (o : Oper) : Bool :=
  o.guard.isNone && (Region.ready .any ops listed).contains i &&
  (ops.toList.all fun q => match q.op with | .select _ _ => false | _ => true) &&
  (List.range ops.size).all fun j => match ops[j]? with
    | some q => j == i || listed.getD j true || q.after.toList.any (fun e => Region.binds .any e && e.on == i) || o.apart ops q
    | none => true
theorem AAny.first1 {i : Nat} {o : Oper} {d : Nat} {x : AV} (hi : ops[i]? = some o) (hdst : o.dst = some d) (hdn : d < n) (hb : firstB ops listed i o = true)
    (hv : ∀ F lim w ca, St F lim w n fr m ca [] → ∃ v, (∀ w', (execOp ca.eval o).run P w' = .ok (.value v) w') ∧ Rep w lim v x [])
    (h : AAny P n ops fuel (listed.setIfInBounds i true) K (fr.put d x) m) : AAny P n ops (fuel + 1) listed K fr m := by
  intro F lim w ca Q st hq
  obtain ⟨v, hv1, hv2⟩ := hv F lim w ca st
  simp only [firstB, Bool.and_eq_true, List.all_eq_true, List.contains_iff_mem] at hb
  obtain ⟨⟨⟨hg, hr⟩, hs⟩, ha⟩ := hb
  let Q' : Exit → Act → World → Prop := fun e a w => match e with
    | .normal => Q .normal a w
    | e => ∀ b w', Q e b w'
  have h1 : wpAny P .any ops Q' fuel (listed.setIfInBounds i true) (ca.put (some d) v) w := h F lim w (ca.put (some d) v) Q' (show St F lim w n (Aw.putO fr (some d) x) m (ca.put (some d) v) [] from st.putO (fun t ht => by cases ht; exact hdn) hv2) hq
  have h2 : wpAny P .any ops Q' (fuel + 1) listed ca w := by
    refine wpAny_first (v := v) hi (fun j q cs b hj hc => ?_) (fun c a w hh => hh) fuel listed ca w (fun j q hj hji hlj hne => ?_) hr (.inl ⟨?_, hv1⟩) (by rw [hdst]; exact h1)
    · have := hs q (by rw [Array.mem_toList_iff]; exact Array.mem_of_getElem? hj)
      rw [hc] at this; cases this
    · have hj2 : j < ops.size := (Array.getElem?_eq_some_iff.1 hj).1
      have := ha j (List.mem_range.2 hj2)
      rw [hj] at this
      simp only [Bool.or_eq_true, beq_iff_eq, List.any_eq_true, Bool.and_eq_true] at this
      rcases this with ((h3 | h3) | ⟨e, he, h3, h4⟩) | h3
      · exact absurd h3 hji
      · rw [hlj] at h3; cases h3
      · exact absurd h4 (hne e (by simpa using he) h3)
      · exact h3
    · unfold Region.wanted
      cases hgd : o.guard with
      | none => rfl
      | some g => rw [hgd] at hg; cases hg
  have hm : ∀ e a w, Q' e a w → Q e a w := fun e a w hh => by cases e <;> first | exact hh | exact hh a w
  exact wpAny_monoQ hm (fun ⟨a, w, hh⟩ => ⟨a, w, hm _ _ _ hh⟩) _ _ _ _ h2
theorem AAny.fMove {i : Nat} {o : Oper} {y : Operand} {d : Nat} {x : AV} (hi : ops[i]? = some o) (ho : o.op = .move y) (hdst : o.dst = some d) (hdn : d < n) (hy : opdOk y = true) (hb : firstB ops listed i o = true) (hx : evP (rawOf fr) y = x)
    (h : AAny P n ops fuel (listed.setIfInBounds i true) K (fr.put d x) m) : AAny P n ops (fuel + 1) listed K fr m := by
  refine AAny.first1 hi hdst hdn hb (fun F lim w ca st => ?_) h
  subst hx
  exact ⟨ca.eval y, fun w' => by simp [execOp, ho], evP_rep st hy⟩
theorem AAny.fNil {i : Nat} {o : Oper} {y : Operand} {d : Nat} {a : Addr} (hi : ops[i]? = some o) (ho : o.op = .nilCheck y) (hdst : o.dst = some d) (hdn : d < n) (hy : opdOk y = true) (hb : firstB ops listed i o = true) (hx : evP (rawOf fr) y = .ptr a)
    (h : AAny P n ops fuel (listed.setIfInBounds i true) K (fr.put d (.ptr a)) m) : AAny P n ops (fuel + 1) listed K fr m := by
  refine AAny.first1 hi hdst hdn hb (fun F lim w ca st => ?_) h
  have hr := evP_rep st hy
  rw [hx] at hr
  have he := rep_ptr_inv hr
  exact ⟨.pointer (some a), fun w' => by simp [execOp, ho, he], .ptr a⟩
theorem AAny.fField {i : Nat} {o : Oper} {s : TypeId} {y : Operand} {f d : Nat} {a a' : Addr} {side : Prop} (hi : ops[i]? = some o) (ho : o.op = .fieldAddr s y f) (hdst : o.dst = some d) (hdn : d < n) (hy : opdOk y = true) (hb : firstB ops listed i o = true) (hx : evP (rawOf fr) y = .ptr a)
    (hq : qv P m (evP (rawOf fr)) (.fieldAddr s y f) = some (side, .ptr a')) (hs : side)
    (h : AAny P n ops fuel (listed.setIfInBounds i true) K (fr.put d (.ptr a')) m) : AAny P n ops (fuel + 1) listed K fr m := by
  refine AAny.first1 hi hdst hdn hb (fun F lim w ca st => ?_) h
  have hr := evP_rep st hy
  rw [hx] at hr
  have he := rep_ptr_inv hr
  refine ⟨.pointer (some a'), fun w' => ?_, .ptr a'⟩
  obtain ⟨v, h1, h2⟩ := qv_fieldAddr (w := w') (lim := lim) (ca := ca) ho hq hs (by rw [hx, he]; exact .ptr a)
  rw [rep_ptr_inv h2] at h1
  exact h1
end
abbrev pT (b : Nat) : AV := .ptr ⟨b, 0, none⟩
abbrev iT (n : Int) : AV := .int .i64 n
abbrev sF (l : List AV) : AV := .slice false l
abbrev sT (l : List AV) : AV := .slice true l
abbrev mW (m : AMem) (L : List (Nat × AObj)) : AMem := AMem.wth m L
theorem tv : True := trivial
abbrev rS := @awp_reg2_seq
abbrev aO := @apartOk_one
abbrev aL := @ar_loadp
abbrev aS := @ar_storep
abbrev wG := @wth_get
abbrev sK := @awp_seq_k
abbrev cD := @awp_cond
abbrev wS := @wth_split
abbrev cgA := @congrArg
theorem nfA {α : Type} {p : α → Prop} : ∀ x ∈ ([] : List α), p x := fun _ h => by cases h
theorem nB {a b : Nat} (h : Nat.ble a b = true) : a ≤ b := Nat.le_of_ble_eq_true h
end Go.Aw
end
