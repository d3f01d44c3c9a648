/-
  The abstract layer, part 21: a region whose order is open but for its end, over abstract frames.
-/
import Derived.Test.YtoeghipbkmaccaaWwT
namespace Go.Aw
open Go

section
variable {P : Program} {n : Nat} {fr : Fr} {m : AMem}

theorem alias_facts {ops : Array Oper} {p : Nat} {al : List (Nat × Nat)} (h : drawTail ops p al = true) : ∀ x ∈ al, (∃ j o, j < p ∧ ops[j]? = some o ∧ o.dst = some x.1 ∧ o.guard = none ∧ o.op = .move (.tmp x.2)) ∧ ∀ j o, j < p → ops[j]? = some o → o.dst ≠ some x.2 := by
  unfold drawTail at h
  rw [Bool.and_eq_true] at h
  obtain ⟨_, h⟩ := h
  intro ⟨d, s⟩ hx
  have := List.all_eq_true.1 h _ hx
  simp only [Bool.and_eq_true, List.any_eq_true, List.all_eq_true, List.mem_range] at this
  obtain ⟨⟨j, hj, h1⟩, h2⟩ := this
  refine ⟨?_, fun j o hj ho => ?_⟩
  · split at h1
    · next o ho =>
      simp only [Bool.and_eq_true, beq_iff_eq, Option.isNone_iff_eq_none] at h1
      obtain ⟨⟨h3, h4⟩, h5⟩ := h1
      split at h5
      · next t hop =>
        simp only [beq_iff_eq] at h5
        subst h5
        exact ⟨j, o, hj, ho, h3, h4, hop⟩
      · cases h5
    · cases h1
  · have := h2 j hj
    simp only [ho] at this
    simpa using this

theorem getD_put (ca : Act) (d t : Nat) (v : Value) (hd : d < ca.tmps.size) : (ca.put (some d) v).tmps.getD t undef = if d = t then v else ca.tmps.getD t undef := by
  simp only [Act.put, Array.getD_eq_getD_getElem?, Array.getElem?_setIfInBounds]
  split
  · next e => subst e; simp [hd]
  · rfl

set_option maxHeartbeats 1000000 in
theorem awp_draw_tail0 {id : Nat} {ops : Array Oper} {Q : Exit → Fr → AMem → Prop} (hm : P.follows .mixedOrders = true) (p : Nat) (al : List (Nat × Nat)) (cs : List AV) (ks : List Nat) (hk : okAll n ops ks = true) (hd : drawTail ops p al = true)
    (h : pseq P ops m cs (ops.toList.take p) fr (fun fr' => AOps P n ops (ops.toList.drop p) (fun fr m => Q .normal (fr.keep ks) m) (fr'.alias al) m)) : AWP P n (.region id ops true) Q fr m := by
  intro F lim w ca st
  have D := tailFacts hd
  have A := alias_facts hd
  simp only [okAll, Bool.and_eq_true, List.all_eq_true] at hk
  obtain ⟨T, c, val, hT0, hTK, hTs⟩ := pseq_trace _ _ _ _ h
  have hlen : (ops.toList.take p).length = p := by simp [D.le]
  rw [hlen] at hTK
  replace hTs : ∀ i o, i < p → ops[i]? = some o → (∃ side, pv P ops m (c i) (rawOf (T i)) o = some (side, val i) ∧ side) ∧ T (i + 1) = putO (T i) o.dst (val i) := fun i o hi ho => hTs i o (by rw [List.getElem?_take_of_lt hi]; simpa using ho)
  have hTf := text_frames' D hT0 (fun i o hi ho => (hTs i o hi ho).2)
  have hlt : ∀ {i : Nat} {o : Oper}, ops[i]? = some o → i < ops.size := fun hi => (Array.getElem?_eq_some_iff.1 hi).1
  have hok : ∀ {i : Nat} {o : Oper}, ops[i]? = some o → okOper n o = true ∧ tmpsOk n o = true := fun ho => hk.1 _ (by rw [Array.mem_toList_iff]; exact Array.mem_of_getElem? ho)
  have hTn : ∀ i, i ≤ p → ∀ t x, (T i).get t = some x → t < n := by
    intro i
    induction i with
    | zero =>
      intro _ t x hx
      rw [hT0] at hx
      obtain ⟨_, _, _, st⟩ := st
      exact (st.slots t x hx).1
    | succ i ih =>
      intro hi t x hx
      have his : i < ops.size := Nat.lt_of_lt_of_le hi D.le
      have ho : ops[i]? = some ops[i] := Array.getElem?_eq_getElem his
      obtain ⟨d, hod⟩ := D.dst i _ hi ho
      rw [(hTs i _ hi ho).2, hod] at hx
      simp only [putO, Fr.get_put] at hx
      split at hx
      · next e => subst e; exact okOper_dst (hok ho).1 hod
      · exact ih (by omega) t x hx
  refine wp_region_any hm ?_
  have key : ∀ fuel (listed : Array Bool) fr' lim' w' ca', listed.size = ops.size → (∀ j, listed.getD j false = true → j < p) →
      (∀ t, (∀ (j : Nat) (o : Oper), ops[j]? = some o → listed.getD j false = true → o.dst = some t → rawOf fr' t = val j) ∧ ((∀ (j : Nat) (o : Oper), ops[j]? = some o → listed.getD j false = true → o.dst ≠ some t) → rawOf fr' t = rawOf fr t)) →
      (∀ (j : Nat) (o : Oper) (e : Edge), ops[j]? = some o → listed.getD j false = true → e ∈ o.after → Region.binds .any e = true → listed.getD e.on false = true) →
      (∀ t, (∀ j o, j < p → ops[j]? = some o → o.dst ≠ some t) → ca'.tmps.getD t undef = ca.tmps.getD t undef) →
      (∀ j o d s, ops[j]? = some o → listed.getD j false = true → o.dst = some d → o.guard = none → o.op = .move (.tmp s) → (∀ j o, j < p → ops[j]? = some o → o.dst ≠ some s) → ca'.tmps.getD d undef = ca.tmps.getD s undef) →
      ((List.range p).filter fun j => !listed.getD j false).length + (ops.size - p) ≤ fuel →
      St F lim' w' n fr' m ca' [] → Pres F w lim w' lim' → wpAny P .any ops (APost F lim w n Q) fuel listed ca' w' := by
    intro fuel
    have fin : ∀ fuel (listed : Array Bool) fr' lim' w' ca', listed.size = ops.size → (∀ j, listed.getD j false = true → j < p) →
        (∀ t, (∀ (j : Nat) (o : Oper), ops[j]? = some o → listed.getD j false = true → o.dst = some t → rawOf fr' t = val j) ∧ ((∀ (j : Nat) (o : Oper), ops[j]? = some o → listed.getD j false = true → o.dst ≠ some t) → rawOf fr' t = rawOf fr t)) →
        (∀ t, (∀ j o, j < p → ops[j]? = some o → o.dst ≠ some t) → ca'.tmps.getD t undef = ca.tmps.getD t undef) →
        (∀ j o d s, ops[j]? = some o → listed.getD j false = true → o.dst = some d → o.guard = none → o.op = .move (.tmp s) → (∀ j o, j < p → ops[j]? = some o → o.dst ≠ some s) → ca'.tmps.getD d undef = ca.tmps.getD s undef) →
        (∀ j, j < p → listed.getD j false = true) → ops.size - p ≤ fuel → St F lim' w' n fr' m ca' [] → Pres F w lim w' lim' → wpAny P .any ops (APost F lim w n Q) fuel listed ca' w' := by
      intro fuel listed fr' lim' w' ca' hls hlp hM hS hV hall hf s1 pr
      have hraw : ∀ t, rawOf fr' t = rawOf (T p) t := fun t => by
        obtain ⟨a1, a2⟩ := hM t
        obtain ⟨b1, b2⟩ := hTf p (Nat.le_refl _) t
        by_cases hex : ∃ (j : Nat) (o : Oper), j < p ∧ ops[j]? = some o ∧ o.dst = some t
        · obtain ⟨j, o, hjp, hj, ho⟩ := hex
          rw [a1 j o hj (hall j hjp) ho, b1 j o hjp hj ho]
        · rw [a2 fun j o hj hl ho => hex ⟨j, o, hlp j hl, hj, ho⟩, b2 fun j o hjp hj ho => hex ⟨j, o, hjp, hj, ho⟩]
      have s2 : St F lim' w' n (T p) m ca' [] := s1.sub fun t x hx => by
        have hr := hraw t
        have hxr : rawOf (T p) t = x := by simp [rawOf, hx]
        rw [hxr] at hr
        cases hg : fr'.get t with
        | some y =>
          simp only [rawOf, hg, Option.getD_some] at hr
          subst hr; exact .inl rfl
        | none =>
          simp only [rawOf, hg, Option.getD_none] at hr
          exact .inr ⟨hr.symm, hTn p (Nat.le_refl _) t x hx⟩
      have s3 := St.alias al s2 fun x hx => by
        obtain ⟨⟨j, o, hjp, hj, h1, h2, h3⟩, h4⟩ := A x hx
        refine ⟨okOper_dst (hok hj).1 h1, ?_, ?_⟩
        · exact tmpsOk_lt (hok hj).2 (y := .tmp x.2) (by rw [h3]; simp [Op.operands]) _ rfl
        · rw [hV j o x.1 x.2 hj (hall j hjp) h1 h2 h3 h4, hS x.2 h4]
      have hops : ∀ o ∈ ops.toList.drop p, okOper n o = true ∧ tmpsOk n o = true := fun o ho => hk.1 o (List.mem_of_mem_drop ho)
      have hT := hTK F lim' w' ca' (APost F lim w n Q) s3 fun lim'' w'' fr'' m'' ca'' hK hSt hP =>
        ⟨lim'', _, m'', hK, hSt.keep (fun t ht => by simpa using hk.2 t ht), pr.trans hP⟩
      exact tail_wp D fuel p listed ca' w' (Nat.le_refl _) D.le hf hls (fun j hj => ⟨fun h => hlp j h, fun h => hall j h⟩) hT
    have least : ∀ (listed : Array Bool), listed.size = ops.size → (¬ ∀ j, j < p → listed.getD j false = true) → Region.ready .any ops listed ≠ [] := fun listed hls hn hr => hn fun j => by
      induction j using Nat.strongRecOn with
      | _ j ih =>
        intro hj
        cases hl : listed.getD j false with
        | true => rfl
        | false =>
          have hjs : j < ops.size := Nat.lt_of_lt_of_le hj D.le
          have ho : ops[j]? = some ops[j] := Array.getElem?_eq_getElem hjs
          have : j ∈ Region.ready .any ops listed := by
            rw [mem_ready]
            refine ⟨?_, _, ho, fun e he hb => ih e.on (D.back j _ e ho he hb) (Nat.lt_trans (D.back j _ e ho he hb) hj)⟩
            simp only [Array.getD_eq_getD_getElem?, Array.getElem?_eq_getElem (show j < listed.size by omega), Option.getD_some] at hl ⊢
            exact hl
          rw [hr] at this; cases this
    induction fuel with
    | zero =>
      intro listed fr' lim' w' ca' hls hlp hM hC hS hV hcnt s1 pr
      refine fin 0 listed fr' lim' w' ca' hls hlp hM hS hV (fun j hj => ?_) (by omega) s1 pr
      cases hl : listed.getD j false with
      | true => rfl
      | false =>
        have : j ∈ (List.range p).filter fun j => !listed.getD j false := List.mem_filter.2 ⟨List.mem_range.2 hj, by rw [hl]; rfl⟩
        have := List.length_pos_of_mem this
        omega
    | succ fuel ih =>
      intro listed fr' lim' w' ca' hls hlp hM hC hS hV hcnt s1 pr
      by_cases hall : ∀ j, j < p → listed.getD j false = true
      · exact fin (fuel + 1) listed fr' lim' w' ca' hls hlp hM hS hV hall (by omega) s1 pr
      refine ⟨fun hr => (least listed hls hall hr).elim, fun i hi => ?_⟩
      rw [mem_ready] at hi
      obtain ⟨hnl, o, ho, hedge⟩ := hi
      have hio := hlt ho
      have hip : i < p := by
        rcases Nat.lt_or_ge i p with h | h
        · exact h
        · exfalso
          apply hall
          intro j hj
          have := closure_listed (ops := ops) (p := fun j => listed.getD j false = true) (fun j hj e he => by
            have hjs : j < ops.size := Nat.lt_of_lt_of_le (hlp j hj) D.le
            have hjo : ops[j]? = some ops[j] := Array.getElem?_eq_getElem hjs
            obtain ⟨ed, h1, h2, rfl⟩ := (edges_mem hjo).1 he
            exact hC j _ ed hjo hj h1 h2) i (edges ops i) (fun j hj => by
            obtain ⟨ed, h1, h2, rfl⟩ := (edges_mem ho).1 hj
            exact hedge ed h1 h2)
          exact this j (D.tail i h hio j (by omega))
      have hnl' : listed.getD i false = false := by
        simp only [Array.getD_eq_getD_getElem?, Array.getElem?_eq_getElem (show i < listed.size by omega), Option.getD_some] at hnl ⊢
        exact hnl
      obtain ⟨⟨side, hpv, hside⟩, _⟩ := hTs i o hip ho
      obtain ⟨d, hod⟩ := D.dst i o hip ho
      have hraw : ∀ t ∈ slotsOf ops o, rawOf (T i) t = rawOf fr' t := fun t ht => by
        obtain ⟨a1, a2⟩ := hM t
        obtain ⟨b1, b2⟩ := hTf i (Nat.le_of_lt hip) t
        by_cases hex : ∃ (j : Nat) (q : Oper), j < p ∧ ops[j]? = some q ∧ q.dst = some t
        · obtain ⟨j, q, hjp, hj, hq⟩ := hex
          obtain ⟨l1, l2⟩ := D.looks i j o q t hip hjp ho hj hq ht
          have huniq : ∀ (j' : Nat) (q' : Oper), j' < p → ops[j']? = some q' → q'.dst = some t → j' = j := fun j' q' hjp' hj' hq' => D.apart j' j q' q hjp' hjp hj' hj (by rw [hq', hq])
          by_cases hji : j < i
          · obtain ⟨e, he, heon, heb⟩ := l1 hji
            have hlj : listed.getD j false = true := by rw [← heon]; exact hedge e he heb
            rw [a1 j q hj hlj hq, b1 j q hji hj hq]
          · have hnlj : listed.getD j false = false := by
              by_cases hij : i < j
              · obtain ⟨e, he, heon, heb⟩ := l2 hij
                cases hlj : listed.getD j false with
                | false => rfl
                | true =>
                  have := hC j q e hj hlj he heb
                  rw [heon, hnl'] at this; cases this
              · have : i = j := by omega
                subst this; exact hnl'
            have q1 := a2 (fun j' q' hj' hl' hq' => by
              rw [huniq j' q' (hlp j' hl') hj' hq', hnlj] at hl'
              cases hl')
            have q2 := b2 (fun j' q' hj' hjo hq' => by
              have := huniq j' q' (by omega) hjo hq'
              omega)
            rw [q1, q2]
        · rw [a2 fun j q hj hl hq => hex ⟨j, q, hlp j hl, hj, hq⟩, b2 fun j q hji hj hq => hex ⟨j, q, by omega, hj, hq⟩]
      rw [pv_congr hraw] at hpv
      have hdn : d < ca'.tmps.size := by
        have := okOper_dst (hok ho).1 hod
        obtain ⟨_, _, _, s1⟩ := s1
        rw [s1.size]; exact this
      show wpOp P ops _ i _ ca' w'
      unfold wpOp
      rw [ho]
      show if Region.wanted o (yielded ops ca'.tmps) then _ else _
      refine pv_step (hok ho).1 (hok ho).2 hpv hside hod s1 fun lim'' w'' v s2 pr2 hmv => ?_
      rw [hod] at s2 ⊢
      have hnew : ∀ j, (listed.setIfInBounds i true).getD j false = true → j = i ∨ listed.getD j false = true := fun j hl => by
        by_cases e : i = j
        · exact .inl e.symm
        · rw [getD_set_ne false e] at hl; exact .inr hl
      refine ih (listed.setIfInBounds i true) (fr'.put d (val i)) lim'' w'' _ (by simp [hls]) (fun j hl => ?_) (fun t => ?_) (fun j q e hj hl he hb => ?_) (fun t ht => ?_) (fun j q d' s hj hl h1 h2 h3 h4 => ?_) ?_ s2 (pr.trans pr2)
      · rcases hnew j hl with rfl | hl
        · exact hip
        · exact hlp j hl
      · obtain ⟨a1, a2⟩ := hM t
        rw [rawOf_put]
        refine ⟨fun j q hj hl hq => ?_, fun hno => ?_⟩
        · by_cases e : d = t
          · subst e
            have hjp : j < p := by
              rcases hnew j hl with rfl | hl
              · exact hip
              · exact hlp j hl
            have : j = i := D.apart j i q o hjp hip hj ho (by rw [hq, hod])
            subst this; simp
          · rw [if_neg e]
            have hji : i ≠ j := by
              intro e'
              subst e'
              rw [ho] at hj
              have hoq : o = q := by simpa using hj
              rw [← hoq, hod] at hq
              exact e (by simpa using hq)
            rw [getD_set_ne false hji] at hl
            exact a1 j q hj hl hq
        · have e : ¬ d = t := fun e => hno i o ho (by simp [show i < listed.size by omega]) (by rw [hod, e])
          rw [if_neg e]
          exact a2 fun j q hj hl => hno j q hj (getD_set_true hl)
      · rcases hnew j hl with rfl | hl
        · rw [ho] at hj; cases hj
          exact getD_set_true (hedge e he hb)
        · exact getD_set_true (hC j q e hj hl he hb)
      · rw [getD_put _ _ _ _ hdn, if_neg (fun e => ht i o hip ho (by rw [hod, e]))]
        exact hS t ht
      · rw [getD_put _ _ _ _ hdn]
        by_cases e : d = d'
        · rw [if_pos e]
          have hjp : j < p := by
            rcases hnew j hl with rfl | hl
            · exact hip
            · exact hlp j hl
          have : j = i := D.apart j i q o hjp hip hj ho (by rw [h1, hod, e])
          subst this
          rw [ho] at hj; cases hj
          rw [hmv s h3 h2]
          exact hS s h4
        · rw [if_neg e]
          rcases hnew j hl with rfl | hl
          · rw [ho] at hj; cases hj
            rw [hod] at h1
            exact (e (by simpa using h1)).elim
          · exact hV j q d' s hj hl h1 h2 h3 h4
      · have hmono : ∀ x, (!(listed.setIfInBounds i true).getD x false) = true → (!listed.getD x false) = true := by
          intro x hx
          cases hl : listed.getD x false with
          | false => rfl
          | true => rw [getD_set_true hl] at hx; simp at hx
        have := filter_lt (fun j => !listed.getD j false) (fun j => !(listed.setIfInBounds i true).getD j false) hmono (List.range p) i (by simpa using hip) (by rw [hnl']; rfl) (by simp [show i < listed.size by omega])
        omega
  refine key ops.size (Array.replicate ops.size false) fr lim _ ca (by simp) (fun j hl => ?_) (fun t => ⟨fun j o hj hl => ?_, fun _ => rfl⟩) (fun j o e hj hl => ?_) (fun _ _ => rfl) (fun j o d s hj hl => ?_) ?_ (st.heap (w' := { w with drawn := w.drawn + 1 }) rfl) (Pres.drew F w lim)
  · exfalso
    by_cases hj : j < ops.size
    · simp [Array.getD_eq_getD_getElem?, hj] at hl
    · simp [Array.getD_eq_getD_getElem?, hj] at hl
  · have := hlt hj
    simp [Array.getD_eq_getD_getElem?, this] at hl
  · have := hlt hj
    simp [Array.getD_eq_getD_getElem?, this] at hl
  · have := hlt hj
    simp [Array.getD_eq_getD_getElem?, this] at hl
  · have := List.length_filter_le (fun j => !(Array.replicate ops.size false).getD j false) (List.range p)
    rw [List.length_range] at this
    have := D.le
    omega

theorem pseq_mono {ops : Array Oper} : ∀ (l : List Oper) {cs : List AV} {fr : Fr} {K K' : Fr → Prop}, (∀ fr, K fr → K' fr) → pseq P ops m cs l fr K → pseq P ops m cs l fr K' := by
  intro l
  induction l with
  | nil => intro cs fr K K' hK h; exact hK _ h
  | cons o l ih =>
    intro cs fr K K' hK h
    simp only [pseq] at h ⊢
    split at h
    · exact ⟨h.1, ih hK h.2⟩
    · exact h

theorem okAll_drop {ops : Array Oper} {ks : List Nat} (p : Nat) (hk : okAll n ops ks = true) : ∀ o ∈ ops.toList.drop p, okOper n o = true ∧ tmpsOk n o = true := by
  simp only [okAll, Bool.and_eq_true, List.all_eq_true] at hk
  exact fun o ho => by simpa using hk.1 o (List.mem_of_mem_drop ho)

theorem awp_draw_tail {id : Nat} {ops : Array Oper} {Q : Exit → Fr → AMem → Prop} (hm : P.follows .mixedOrders = true) (p : Nat) (al : List (Nat × Nat)) (cs : List AV) (stl ks : List Nat) (hk : okAll n ops ks = true) (hd : drawTail ops p al = true)
    (h : pseq P ops m cs (ops.toList.take p) fr (fun fr' => aops P ops stl (ops.toList.drop p) (fun fr m => Q .normal (fr.keep ks) m) (fr'.alias al) m)) : AWP P n (.region id ops true) Q fr m :=
  awp_draw_tail0 hm p al cs ks hk hd (pseq_mono _ (fun fr h => aops_sound _ (okAll_drop p hk) h) h)

theorem awp_draw_tail_seq {id : Nat} {ops : Array Oper} {c : Code} {Q : Exit → Fr → AMem → Prop} (hm : P.follows .mixedOrders = true) (p : Nat) (al : List (Nat × Nat)) (cs : List AV) (stl ks : List Nat) (hk : okAll n ops ks = true) (hd : drawTail ops p al = true)
    (h : ∀ K : Fr → AMem → Prop, (∀ fr m, AWP P n c Q fr m → K fr m) → pseq P ops m cs (ops.toList.take p) fr (fun fr' => aops P ops stl (ops.toList.drop p) (fun fr m => K (fr.keep ks) m) (fr'.alias al) m)) : AWP P n (.seq (.region id ops true) c) Q fr m :=
  awp_seq_k fun K hK => awp_draw_tail hm p al cs stl ks hk hd (h K hK)

end
end Go.Aw
