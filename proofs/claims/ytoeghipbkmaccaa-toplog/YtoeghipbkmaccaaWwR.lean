/-
  The abstract layer, part 18: the region whose order is open: every order comes to the same.
-/
import Derived.Test.YtoeghipbkmaccaaWwQ
namespace Go.Aw
open Go

theorem filter_lt {α : Type} (p p' : α → Bool) (hpp : ∀ x, p' x = true → p x = true) : ∀ (l : List α) (i : α), i ∈ l → p i = true → p' i = false → (l.filter p').length < (l.filter p).length := by
  have hle : ∀ l : List α, (l.filter p').length ≤ (l.filter p).length := fun l => by
    induction l with
    | nil => simp
    | cons x l ih =>
      simp only [List.filter_cons]
      cases h1 : p' x with
      | true => simp [hpp x h1]; exact ih
      | false => cases h2 : p x <;> simp <;> omega
  intro l
  induction l with
  | nil => intro i hi; cases hi
  | cons x l ih =>
    intro i hi h1 h2
    simp only [List.filter_cons]
    rcases List.mem_cons.1 hi with rfl | hi
    · simp [h1, h2]
      have := hle l; omega
    · have := ih i hi h1 h2
      cases h3 : p' x with
      | true => simp [hpp x h3]; exact this
      | false => cases h4 : p x <;> simp <;> omega

theorem range1 : List.range 1 = [0] := rfl
theorem range2 : List.range 2 = [0, 1] := rfl
theorem range3 : List.range 3 = [0, 1, 2] := rfl
theorem range4 : List.range 4 = [0, 1, 2, 3] := rfl
theorem guard_force (h c : Bool) : (!(h && c) || h) = true := by cases h <;> cases c <;> rfl
theorem guard_force2 (h c d : Bool) : (!((h && c) && d) || h) = true := by cases h <;> cases c <;> cases d <;> rfl

section
variable {P : Program} {n : Nat} {fr : Fr} {m : AMem}

structure DrawFacts (ops : Array Oper) : Prop where
  dst : ∀ (i : Nat) (o : Oper), ops[i]? = some o → ∃ d, o.dst = some d
  back : ∀ (i : Nat) (o : Oper) (e : Edge), ops[i]? = some o → e ∈ o.after → Region.binds .any e = true → e.on < i
  apart : ∀ (i j : Nat) (o p : Oper), ops[i]? = some o → ops[j]? = some p → o.dst = p.dst → i = j
  looks : ∀ (i j : Nat) (o p : Oper) (d : Nat), ops[i]? = some o → ops[j]? = some p → p.dst = some d → d ∈ slotsOf ops o → (j < i → ∃ e ∈ o.after, e.on = j ∧ Region.binds .any e = true) ∧ (i < j → ∃ e ∈ p.after, e.on = i ∧ Region.binds .any e = true)

theorem edgeTo_iff {o : Oper} {j : Nat} (h : edgeTo o j = true) : ∃ e ∈ o.after, e.on = j ∧ Region.binds .any e = true := by
  simp only [edgeTo, List.any_eq_true] at h
  obtain ⟨e, h1, h2⟩ := h
  simp only [Bool.and_eq_true, beq_iff_eq] at h2
  exact ⟨e, by simpa using h1, h2.1, h2.2⟩

theorem drawFacts {ops : Array Oper} (h : drawOk ops = true) : DrawFacts ops := by
  simp only [drawOk, Bool.and_eq_true, List.all_eq_true, List.mem_range] at h
  obtain ⟨h1, h2⟩ := h
  have hlt : ∀ {i : Nat} {o : Oper}, ops[i]? = some o → i < ops.size := fun hi => (Array.getElem?_eq_some_iff.1 hi).1
  refine ⟨fun i o hi => ?_, fun i o e hi he hb => ?_, fun i j o p hi hj hd => ?_, fun i j o p d hi hj hp hd => ?_⟩
  · have := h1 o (by rw [Array.mem_toList_iff]; exact Array.mem_of_getElem? hi)
    exact Option.isSome_iff_exists.1 this
  · have := h2 i (hlt hi)
    simp only [hi, Bool.and_eq_true, List.all_eq_true] at this
    have := this.1 e (by simpa using he)
    simpa [hb] using this
  · have := h2 i (hlt hi)
    simp only [hi, Bool.and_eq_true, List.all_eq_true, List.mem_range] at this
    have := this.2 j (hlt hj)
    simp only [hj, Bool.and_eq_true, Bool.or_eq_true, decide_eq_true_eq] at this
    rcases this.1 with h | h
    · exact h
    · rw [hd] at h; simp at h
  · have := h2 i (hlt hi)
    simp only [hi, Bool.and_eq_true, List.all_eq_true, List.mem_range] at this
    have := this.2 j (hlt hj)
    simp only [hj, hp, Bool.and_eq_true, Bool.or_eq_true] at this
    have := this.2
    have hc : (slotsOf ops o).contains d = true := by simpa using hd
    rw [hc] at this
    simp only [Bool.not_true, Bool.false_eq_true, false_or] at this
    refine ⟨fun hji => ?_, fun hij => ?_⟩
    · rw [if_pos hji] at this; exact edgeTo_iff this
    · rw [if_neg (by omega), if_pos hij] at this; exact edgeTo_iff this

theorem rawOf_put (fr : Fr) (d t : Nat) (x : AV) : rawOf (fr.put d x) t = if d = t then x else rawOf fr t := by
  simp only [rawOf, Fr.get_put]
  split <;> rfl

theorem text_frames {ops : Array Oper} (D : DrawFacts ops) {T : Nat → Fr} {val : Nat → AV} (h0 : T 0 = fr) (hs : ∀ (i : Nat) (o : Oper), ops[i]? = some o → T (i + 1) = putO (T i) o.dst (val i)) :
    ∀ i, i ≤ ops.size → ∀ t, (∀ (j : Nat) (o : Oper), j < i → ops[j]? = some o → o.dst = some t → rawOf (T i) t = val j) ∧ ((∀ (j : Nat) (o : Oper), j < i → ops[j]? = some o → o.dst ≠ some t) → rawOf (T i) t = rawOf fr t) := by
  intro i
  induction i with
  | zero => intro _ t; exact ⟨fun j o hj => absurd hj (Nat.not_lt_zero _), fun _ => by rw [h0]⟩
  | succ i ih =>
    intro hi t
    have hlt : i < ops.size := hi
    obtain ⟨ih1, ih2⟩ := ih (by omega) t
    have ho : ops[i]? = some ops[i] := Array.getElem?_eq_getElem hlt
    obtain ⟨d, hd⟩ := D.dst i _ ho
    have hT := hs i _ ho
    rw [hd] at hT
    simp only [putO] at hT
    rw [hT, rawOf_put]
    refine ⟨fun j o hj hjo hdt => ?_, fun hno => ?_⟩
    · by_cases e : d = t
      · subst e
        have : j = i := D.apart j i o _ hjo ho (by rw [hdt, hd])
        subst this
        simp
      · rw [if_neg e]
        refine ih1 j o ?_ hjo hdt
        rcases Nat.lt_succ_iff_lt_or_eq.1 hj with h | h
        · exact h
        · subst h
          rw [ho] at hjo
          cases hjo
          rw [hd] at hdt
          exact (e (by simpa using hdt)).elim
    · have e : ¬ d = t := fun e => hno i _ (Nat.lt_succ_self i) ho (by rw [hd, e])
      rw [if_neg e]
      exact ih2 fun j o hj hjo => hno j o (by omega) hjo

set_option maxHeartbeats 1000000 in
theorem awp_draw {id : Nat} {ops : Array Oper} {Q : Exit → Fr → AMem → Prop} (hm : P.follows .mixedOrders = true) (cs : List AV) (ks : List Nat) (hk : okAll n ops ks = true) (hd : drawOk ops = true)
    (h : pseq P ops m cs ops.toList fr (fun fr' => Q .normal (fr'.keep ks) m)) : AWP P n (.region id ops true) Q fr m := by
  intro F lim w ca st
  have D := drawFacts hd
  simp only [okAll, Bool.and_eq_true, List.all_eq_true] at hk
  obtain ⟨T, c, val, hT0, hTK, hTs⟩ := pseq_trace _ _ _ _ h
  simp only [Array.getElem?_toList, Array.length_toList] at hTs hTK
  have hTf := text_frames D hT0 (fun i o ho => (hTs i o ho).2)
  have hlt : ∀ {i : Nat} {o : Oper}, ops[i]? = some o → i < ops.size := fun hi => (Array.getElem?_eq_some_iff.1 hi).1
  refine wp_region_any hm ?_
  have key : ∀ fuel (listed : Array Bool) fr' lim' w' ca', listed.size = ops.size →
      (∀ t, (∀ (j : Nat) (o : Oper), ops[j]? = some o → listed.getD j false = true → o.dst = some t → rawOf fr' t = val j) ∧ ((∀ (j : Nat) (o : Oper), ops[j]? = some o → listed.getD j false = true → o.dst ≠ some t) → rawOf fr' t = rawOf fr t)) →
      (∀ (j : Nat) (o : Oper) (e : Edge), ops[j]? = some o → listed.getD j false = true → e ∈ o.after → Region.binds .any e = true → listed.getD e.on false = true) →
      ((List.range ops.size).filter fun j => !listed.getD j false).length ≤ fuel →
      St F lim' w' n fr' m ca' [] → Pres F w lim w' lim' → wpAny P .any ops (APost F lim w n Q) fuel listed ca' w' := by
    intro fuel
    have fin : ∀ (listed : Array Bool) fr' lim' w' ca', (∀ t, (∀ (j : Nat) (o : Oper), ops[j]? = some o → listed.getD j false = true → o.dst = some t → rawOf fr' t = val j) ∧ ((∀ (j : Nat) (o : Oper), ops[j]? = some o → listed.getD j false = true → o.dst ≠ some t) → rawOf fr' t = rawOf fr t)) →
        (∀ j, j < ops.size → listed.getD j false = true) → St F lim' w' n fr' m ca' [] → Pres F w lim w' lim' → APost F lim w n Q .normal ca' w' := fun listed fr' lim' w' ca' hM hall s1 pr => by
      have hraw : ∀ t, rawOf fr' t = rawOf (T ops.size) t := fun t => by
        obtain ⟨a1, a2⟩ := hM t
        obtain ⟨b1, b2⟩ := hTf ops.size (Nat.le_refl _) t
        by_cases hex : ∃ (j : Nat) (o : Oper), ops[j]? = some o ∧ o.dst = some t
        · obtain ⟨j, o, hj, ho⟩ := hex
          rw [a1 j o hj (hall j (hlt hj)) ho, b1 j o (hlt hj) hj ho]
        · rw [a2 fun j o hj _ ho => hex ⟨j, o, hj, ho⟩, b2 fun j o _ hj ho => hex ⟨j, o, hj, ho⟩]
      have hkeep : Fr.keep ks (T ops.size) = Fr.keep ks fr' := by
        unfold Fr.keep
        exact List.map_congr_left fun t _ => by have := hraw t; simp only [rawOf] at this; rw [this]
      rw [hkeep] at hTK
      exact ⟨lim', _, m, hTK, s1.keep (fun t ht => by simpa using hk.2 t ht), pr⟩
    have done : ∀ (listed : Array Bool), listed.size = ops.size → Region.ready .any ops listed = [] → ∀ j, j < ops.size → listed.getD j false = true := fun listed hls hr j => by
      induction j using Nat.strongRecOn with
      | _ j ih =>
        intro hj
        cases hl : listed.getD j false with
        | true => rfl
        | false =>
          have ho : ops[j]? = some ops[j] := Array.getElem?_eq_getElem hj
          have : j ∈ Region.ready .any ops listed := by
            rw [mem_ready]
            refine ⟨?_, _, ho, fun e he hb => ih e.on (D.back j _ e ho he hb) (Nat.lt_trans (D.back j _ e ho he hb) hj)⟩
            simp only [Array.getD_eq_getD_getElem?, Array.getElem?_eq_getElem (show j < listed.size by omega), Option.getD_some] at hl ⊢
            exact hl
          rw [hr] at this; cases this
    induction fuel with
    | zero =>
      intro listed fr' lim' w' ca' hls hM hC hcnt s1 pr
      have hall : ∀ j, j < ops.size → listed.getD j false = true := fun j hj => by
        cases hl : listed.getD j false with
        | true => rfl
        | false =>
          have : j ∈ (List.range ops.size).filter fun j => !listed.getD j false := List.mem_filter.2 ⟨List.mem_range.2 hj, by rw [hl]; rfl⟩
          have := List.length_pos_of_mem this
          omega
      refine ⟨?_, fin listed fr' lim' w' ca' hM hall s1 pr⟩
      cases hr : Region.ready .any ops listed with
      | nil => rfl
      | cons j rs =>
        have hj : j ∈ Region.ready .any ops listed := by rw [hr]; simp
        rw [mem_ready] at hj
        obtain ⟨h1, o, ho, _⟩ := hj
        have := hall j (hlt ho)
        simp only [Array.getD_eq_getD_getElem?, Array.getElem?_eq_getElem (show j < listed.size by have := hlt ho; omega), Option.getD_some] at h1 this
        rw [h1] at this; cases this
    | succ fuel ih =>
      intro listed fr' lim' w' ca' hls hM hC hcnt s1 pr
      refine ⟨fun hr => fin listed fr' lim' w' ca' hM (done listed hls hr) s1 pr, fun i hi => ?_⟩
      rw [mem_ready] at hi
      obtain ⟨hnl, o, ho, hedge⟩ := hi
      have hio := hlt ho
      have hnl' : listed.getD i false = false := by
        simp only [Array.getD_eq_getD_getElem?, Array.getElem?_eq_getElem (show i < listed.size by omega), Option.getD_some] at hnl ⊢
        exact hnl
      obtain ⟨⟨side, hpv, hside⟩, _⟩ := hTs i o ho
      obtain ⟨d, hod⟩ := D.dst i o ho
      have hraw : ∀ t ∈ slotsOf ops o, rawOf (T i) t = rawOf fr' t := fun t ht => by
        obtain ⟨a1, a2⟩ := hM t
        obtain ⟨b1, b2⟩ := hTf i (Nat.le_of_lt hio) t
        by_cases hex : ∃ (j : Nat) (p : Oper), ops[j]? = some p ∧ p.dst = some t
        · obtain ⟨j, p, hj, hp⟩ := hex
          obtain ⟨l1, l2⟩ := D.looks i j o p t ho hj hp ht
          have huniq : ∀ (j' : Nat) (p' : Oper), ops[j']? = some p' → p'.dst = some t → j' = j := fun j' p' hj' hp' => D.apart j' j p' p hj' hj (by rw [hp', hp])
          by_cases hji : j < i
          · obtain ⟨e, he, heon, heb⟩ := l1 hji
            have hlj : listed.getD j false = true := by rw [← heon]; exact hedge e he heb
            rw [a1 j p hj hlj hp, b1 j p hji hj hp]
          · have hnlj : listed.getD j false = false := by
              by_cases hij : i < j
              · obtain ⟨e, he, heon, heb⟩ := l2 hij
                cases hlj : listed.getD j false with
                | false => rfl
                | true =>
                  have := hC j p e hj hlj he heb
                  rw [heon, hnl'] at this; cases this
              · have : i = j := by omega
                subst this; exact hnl'
            have q1 := a2 (fun j' p' hj' hl' hp' => by
              rw [huniq j' p' hj' hp', hnlj] at hl'
              cases hl')
            have q2 := b2 (fun j' p' hj' hjo hp' => by
              have := huniq j' p' hjo hp'
              omega)
            rw [q1, q2]
        · rw [a2 fun j p hj _ hp => hex ⟨j, p, hj, hp⟩, b2 fun j p _ hj hp => hex ⟨j, p, hj, hp⟩]
      rw [pv_congr hraw] at hpv
      show wpOp P ops _ i _ ca' w'
      unfold wpOp
      rw [ho]
      show if Region.wanted o (yielded ops ca'.tmps) then _ else _
      have hok := hk.1 o (by rw [Array.mem_toList_iff]; exact Array.mem_of_getElem? ho)
      refine pv_step hok.1 hok.2 hpv hside hod s1 fun lim'' w'' v'' s2 pr2 _ => ?_
      refine ih (listed.setIfInBounds i true) (fr'.put d (val i)) lim'' w'' _ (by simp [hls]) (fun t => ?_) (fun j p e hj hl he hb => ?_) ?_ s2 (pr.trans pr2)
      · obtain ⟨a1, a2⟩ := hM t
        rw [rawOf_put]
        refine ⟨fun j p hj hl hp => ?_, fun hno => ?_⟩
        · by_cases e : d = t
          · subst e
            have : j = i := D.apart j i p o hj ho (by rw [hp, hod])
            subst this; simp
          · rw [if_neg e]
            have hji : i ≠ j := by
              intro e'
              subst e'
              rw [ho] at hj
              have hop : o = p := by simpa using hj
              rw [← hop, hod] at hp
              exact e (by simpa using hp)
            rw [getD_set_ne false hji] at hl
            exact a1 j p hj hl hp
        · have e : ¬ d = t := fun e => hno i o ho (by simp [show i < listed.size by omega]) (by rw [hod, e])
          rw [if_neg e]
          exact a2 fun j p hj hl => hno j p hj (getD_set_true hl)
      · by_cases hji : i = j
        · subst hji
          rw [ho] at hj; cases hj
          exact getD_set_true (hedge e he hb)
        · rw [getD_set_ne false hji] at hl
          exact getD_set_true (hC j p e hj hl he hb)
      · have hmono : ∀ x, (!(listed.setIfInBounds i true).getD x false) = true → (!listed.getD x false) = true := by
          intro x hx
          cases hl : listed.getD x false with
          | false => rfl
          | true => rw [getD_set_true hl] at hx; simp at hx
        have := filter_lt (fun j => !listed.getD j false) (fun j => !(listed.setIfInBounds i true).getD j false) hmono (List.range ops.size) i (by simpa using hio) (by rw [hnl']; rfl) (by simp [show i < listed.size by omega])
        omega
  refine key ops.size (Array.replicate ops.size false) fr lim _ ca (by simp) (fun t => ⟨fun j o hj hl => ?_, fun _ => rfl⟩) (fun j o e hj hl => ?_) ?_ (st.heap (w' := { w with drawn := w.drawn + 1 }) rfl) (Pres.drew F w lim)
  · have := hlt hj
    simp [Array.getD_eq_getD_getElem?, this] at hl
  · have := hlt hj
    simp [Array.getD_eq_getD_getElem?, this] at hl
  · refine Nat.le_trans (List.length_filter_le _ _) (by simp)

/-- A region, what stands behind it out of sight. -/
theorem awp_reg_k {id : Nat} {ops : Array Oper} {Q : Exit → Fr → AMem → Prop} (stl ks : List Nat) (hk : okAll n ops ks = true) (h : ∀ K : Fr → AMem → Prop, (∀ fr m, Q .normal fr m → K fr m) → aops P ops stl ops.toList (fun fr m => K (fr.keep ks) m) fr m) : AWP P n (.region id ops false) Q fr m :=
  awp_reg stl ks hk (h _ fun _ _ h => h)

/-- .. and the text behind it. -/
theorem awp_draw_seq {id : Nat} {ops : Array Oper} {c : Code} {Q : Exit → Fr → AMem → Prop} (hm : P.follows .mixedOrders = true) (cs : List AV) (ks : List Nat) (hk : okAll n ops ks = true) (hd : drawOk ops = true)
    (h : ∀ K : Fr → AMem → Prop, (∀ fr m, AWP P n c Q fr m → K fr m) → pseq P ops m cs ops.toList fr (fun fr' => K (fr'.keep ks) m)) : AWP P n (.seq (.region id ops true) c) Q fr m :=
  awp_seq_k fun K hK => awp_draw hm cs ks hk hd (h K hK)

def Fr.repl (t : Nat) (x : AV) : Fr → Fr
  | [] => []
  | (s, y) :: r => if s = t then (s, x) :: r else (s, y) :: Fr.repl t x r

/-- A frame with some slots turned. -/
def Fr.over (fr : Fr) : List (Nat × AV) → Fr
  | [] => fr
  | (t, x) :: r => Fr.over (Fr.repl t x fr) r

/-- A loop: the relation speaks of the slots that it turns. -/
theorem awp_loop_over {c : Code} {Q : Exit → Fr → AMem → Prop} (I : List (Nat × AV) → AMem → Prop) (μ : List (Nat × AV) → AMem → Nat) (h0 : ∃ l, fr = fr.over l ∧ I l m)
    (h : ∀ l m, I l m → AWP P n c (AThen (fun fr' m' => ∃ l', fr' = fr.over l' ∧ I l' m' ∧ μ l' m' < μ l m) Q) (fr.over l) m) : AWP P n (.loop c) Q fr m := by
  classical
  have key : ∀ N l m, I l m → μ l m < N → ∀ F lim w ca, St F lim w n (fr.over l) m ca [] → Code.rounds P c (APost F lim w n Q) N ca w := by
    intro N
    induction N with
    | zero => intro l m _ hlt; omega
    | succ N ih =>
      intro l m hI hlt F lim w ca st
      refine wp_mono (h l m hI F lim w ca st) fun e a w'' ⟨lim'', fr'', m'', q, st'', pr'⟩ => ?_
      have conv : ∀ {K : Nat} {a w''}, Code.rounds P c (APost F lim'' w'' n Q) K a w'' → Pres F w lim w'' lim'' → Code.rounds P c (APost F lim w n Q) K a w'' := by
        intro K a w'' hr pr
        have mono : ∀ K a w3, Code.rounds P c (APost F lim'' w'' n Q) K a w3 → Code.rounds P c (APost F lim w n Q) K a w3 := by
          intro K
          induction K with
          | zero => intro a w3 h; exact h.elim
          | succ K ihK =>
            intro a w3 h
            refine wp_mono h fun e a w4 q => ?_
            cases e with
            | normal => exact ihK _ _ q
            | _ => exact APost.from pr q
        exact mono K a w'' hr
      cases e with
      | normal =>
        obtain ⟨l', rfl, hI', hlt'⟩ := q
        exact conv (ih l' m'' hI' (by omega) F lim'' w'' a st'') pr'
      | _ => exact ⟨lim'', fr'', m'', q, st'', pr'⟩
  intro F lim w ca st
  obtain ⟨l, he, hI⟩ := h0
  refine wp_loop_rounds (μ l m + 1) (key _ l m hI (Nat.lt_succ_self _) F lim w ca ?_)
  rw [← he]; exact st

end
end Go.Aw
