/-
  The abstract layer, part 15: calls, guards, a whole region, a whole function.
-/
import Derived.Test.YtoeghipbkmaccaaWwN
namespace Go.Aw
open Go

section
variable {P : Program} {F : Nat → Prop} {lim : Nat → Nat} {w : World} {n : Nat} {fr : Fr} {m : AMem} {ca : Act} {fl : List Nat}

def Place.isSlot : Place → Bool
  | .slot _ => true
  | _ => false

/-- A call's part of the memory, and what is put back behind it. -/
theorem St.split (h : St F lim w n fr m ca []) : ∃ F' : Nat → Prop, (∀ b, F b → F' b) ∧ St F' lim w 0 [] m noAct [] ∧
    ∀ lim' w' m' os, St F' lim' w' 0 [] m' noAct os → Pres F' w lim w' lim' → St F lim' w' n fr m' ca os := by
  obtain ⟨os, om, ow, h⟩ := h
  refine ⟨fun b => F b ∨ (ow b).isSlot = true, fun b hb => .inl hb, ⟨os, om, fun c => if (ow c).isSlot then .none else ow c, rfl, rfl, fun t x hx => by simp [Fr.get] at hx, fun b o hb => ?_, fun t x hx => by simp [Fr.get] at hx, fun b o hb i => ⟨(h.ownM b o hb i).1, fun c hc => by simp [(h.ownM b o hb i).2 c hc, Place.isSlot]⟩, ⟨by simp, by simp⟩, fun c hc => ?_, fun b hb => ?_⟩, ?_⟩
  · refine ⟨(h.mem b o hb).1, (h.mem b o hb).2.1, fun hf => ?_⟩
    rcases hf with hf | hf
    · exact (h.mem b o hb).2.2 hf
    · have := (h.free b (by intro e; rw [e] at hf; simp [Place.isSlot] at hf)).2.1
      rw [hb] at this; cases this
  · by_cases hs : (ow c).isSlot = true
    · simp [hs] at hc
    · simp only [hs] at hc
      have := h.free c (by simpa using hc)
      exact ⟨fun hf => hf.elim this.1 hs, this.2⟩
  · have := h.fresh b hb
    refine ⟨this.1, fun hf => hf.elim this.2.1 (fun hs => ?_), this.2.2⟩
    have := (h.free b (by intro e; rw [e] at hs; simp [Place.isSlot] at hs)).2.2
    omega
  · intro lim' w' m' fl ⟨os2, om2, ow2, k⟩ pr
    have hsl : ∀ c, ow2 c ≠ .none → ¬ (ow c).isSlot = true := fun c hc hs => (k.free c hc).1 (.inr hs)
    refine ⟨os, om2, fun c => if (ow c).isSlot then ow c else ow2 c, h.size, h.defers, fun t x hx => ⟨(h.slots t x hx).1, (h.slots t x hx).2.stable pr.mono pr.cell (fun c hc => pr.res c (.inr ?_))⟩, fun b o hb => ?_, fun t x hx => ⟨(h.ownS t x hx).1, fun c hc => ?_⟩, fun b o hb i => ⟨(k.ownM b o hb i).1, fun c hc => ?_⟩, ⟨k.ownF.1, fun c hc => ?_⟩, fun c hc => ?_, fun b hb => ?_⟩
    · rw [(h.ownS t x hx).2 c hc]; rfl
    · exact ⟨(k.mem b o hb).1, (k.mem b o hb).2.1, fun hf => (k.mem b o hb).2.2 (.inl hf)⟩
    · have := (h.ownS t x hx).2 c hc
      simp [this, Place.isSlot]
    · have h1 := (k.ownM b o hb i).2 c hc
      have := hsl c (by rw [h1]; simp)
      simp [this, h1]
    · have h1 := k.ownF.2 c hc
      have := hsl c (by rw [h1]; simp)
      simp [this, h1]
    · by_cases hs : (ow c).isSlot = true
      · have h1 := h.free c (by intro e; rw [e] at hs; simp [Place.isSlot] at hs)
        refine ⟨h1.1, ?_, Nat.lt_of_lt_of_le h1.2.2 pr.size⟩
        cases hm : m' c with
        | none => rfl
        | some o => exact ((k.mem c o hm).2.2 (.inr hs)).elim
      · have h1 := k.free c (by simpa [hs] using hc)
        exact ⟨fun hf => h1.1 (.inl hf), h1.2⟩
    · have := k.fresh b hb
      exact ⟨this.1, fun hf => this.2.1 (.inl hf), this.2.2⟩

/-- A call, offered. -/
theorem call_wp {f : FuncId} {args : List AV} {K : AV → AMem → Prop} (hc : ACalls P f args m K) (st : St F lim w n fr m ca []) {cargs : Array Value} (hs : cargs.size = args.length) (hr : ∀ i, i < args.length → Rep w lim (cargs.getD i undef) (args.getD i .junk) [])
    {o : Oper} {next : Act → World → Prop} {Q : Exit → Act → World → Prop} (he : ∀ fn, P.funcs[f]? = some fn → fn.body.isSome = true → (fn.name == "runtime.NumGoroutine") = false → (execOp ca.eval o).run P w = .ok (.enter f cargs) w)
    (hn : ∀ v x lim' w' m' os, K x m' → Rep w' lim' v x os → St F lim' w' n fr m' ca os → Pres F w lim w' lim' → next (ca.put o.dst v) w') : o.wp P ca w next Q := by
  obtain ⟨⟨fn, h1, h2, h3⟩, hcall⟩ := hc
  obtain ⟨F', hF, s1, s2⟩ := st.split
  unfold Oper.wp
  rw [he fn h1 h2 h3, Oper.upon_enter]
  refine (hcall F' lim w cargs hs hr s1).mono fun e w' ⟨v, x, lim', m', os, he, hK, hR, hS, hP⟩ => ?_
  subst he
  exact hn v x lim' w' m' os hK hR (s2 lim' w' m' os hS hP) (hP.weaken hF)

theorem run_callFunc {f : FuncId} {fn : Func} (args : Array Value) (h1 : P.funcs[f]? = some fn) (h2 : fn.body.isSome = true) (h3 : (fn.name == "runtime.NumGoroutine") = false) : (callFunc f args).run P w = .ok (.enter f args) w := by
  have h2' : fn.body.isNone = false := by cases h : fn.body <;> simp_all
  have h3' : ¬ fn.name = "runtime.NumGoroutine" := by simpa using h3
  have h2'' : ¬ fn.body = none := by intro e; rw [e] at h2; cases h2
  simp [callFunc, h1, h3', h2'']

theorem aop_mono {ops : Array Oper} {stl : List Nat} {o : Oper} {K K' : Fr → AMem → Prop} (hK : ∀ fr m, K fr m → K' fr m) (h : aop P ops stl o K fr m) : aop P ops stl o K' fr m := by
  unfold aop at h ⊢
  split at h
  · split at h
    · exact ⟨h.1, hK _ _ h.2⟩
    · exact ⟨h.1, hK _ _ h.2⟩
    · exact ⟨h.1, fun b hb => hK _ _ (h.2 b hb)⟩
    · refine h.mono fun x m' hx => ?_
      unfold Kont at hx ⊢
      split at hx <;> exact hK _ _ hx
    · exact h
  · split at h
    · split at h
      · split at h
        · obtain ⟨x, h1, h2⟩ := h
          exact ⟨x, h1, hK _ _ h2⟩
        · split at h
          · obtain ⟨x, h1, h2⟩ := h
            exact ⟨x, h1, hK _ _ h2⟩
          · exact h
        · split at h
          · exact ⟨h.1, hK _ _ h.2⟩
          · exact h
      · exact h
    · exact h

theorem St.putO {d : Option Nat} (h : St F lim w n fr m ca fl) (hd : ∀ t, d = some t → t < n) {v : Value} {x : AV} (hx : Rep w lim v x fl) : St F lim w n (Aw.putO fr d x) m (ca.put d v) [] := by
  cases d with
  | none => exact h.drop
  | some d => exact h.setOwn (hd d rfl) hx

theorem forceG_rep {v : Value} {x : AV} {os : List Nat} (h : Rep w lim v x os) : Rep w lim v (forceG true x) os := by
  unfold forceG
  split
  · simpa using h
  · exact h

theorem gev_rep {op : Op} (st : St F lim w n fr m ca fl) {y : Operand} (hy : opdOk y = true) : Rep w lim (ca.eval y) (gev (rawOf fr) true op y) [] := by
  unfold gev
  split
  · exact forceG_rep (evP_rep st hy)
  · exact un_rep (forceG_rep (evP_rep st hy))

theorem args_rep {args : Array Operand} {a : Operand → AV} (h : ∀ y ∈ args.toList, Rep w lim (ca.eval y) (a y) []) : (args.map ca.eval).size = (args.toList.map a).length ∧ ∀ i, i < (args.toList.map a).length → Rep w lim ((args.map ca.eval).getD i undef) ((args.toList.map a).getD i .junk) [] := by
  refine ⟨by simp, fun i hi => ?_⟩
  simp only [List.length_map] at hi
  have hi' : i < args.size := by simpa using hi
  have e1 : (args.map ca.eval).getD i undef = ca.eval args[i] := by simp [Array.getD, hi']
  have e2 : (args.toList.map a).getD i .junk = a args[i] := by simp [List.getD_eq_getElem?_getD, hi']
  rw [e1, e2]
  exact h _ (by simp)

theorem func_args {e : Value} {f : FuncId} {first caps args : List AV} {cs : Array Value} (hf : Rep w lim e (.func (.func f) first caps) []) (hA : cs.size = args.length ∧ ∀ i, i < args.length → Rep w lim (cs.getD i undef) (args.getD i .junk) []) :
    ∃ fa cc : Array Value, e = .func (.func f) fa cc ∧ (fa ++ cs ++ cc).size = (first ++ args ++ caps).length ∧ ∀ i, i < (first ++ args ++ caps).length → Rep w lim ((fa ++ cs ++ cc).getD i undef) ((first ++ args ++ caps).getD i .junk) [] := by
  cases hf with
  | func _ fa cc _ _ h1 h2 h3 h4 =>
    refine ⟨fa, cc, rfl, by simp [h1, h2, hA.1], fun i hi => ?_⟩
    simp only [List.length_append] at hi
    by_cases i1 : i < first.length
    · have e1 : (fa ++ cs ++ cc).getD i undef = fa.getD i undef := by
        simp [Array.getD_eq_getD_getElem?, Array.getElem?_append, h1, i1, show i < first.length + cs.size from by omega]
      rw [e1, getD_append_lt (by simp; omega), getD_append_lt i1]; exact h3 i i1
    · by_cases i2 : i < first.length + cs.size
      · have e1 : (fa ++ cs ++ cc).getD i undef = cs.getD (i - first.length) undef := by
          simp [Array.getD_eq_getD_getElem?, Array.getElem?_append, h1, i1, i2, show i - first.length < cs.size from by omega]
        rw [e1, getD_append_lt (by simp; omega), getD_append_ge (by omega)]; exact hA.2 _ (by omega)
      · have e1 : (fa ++ cs ++ cc).getD i undef = cc.getD (i - (first.length + cs.size)) undef := by
          simp [Array.getD_eq_getD_getElem?, Array.getElem?_append, h1, i1, i2, show ¬ i - first.length < cs.size from by omega, Nat.sub_sub]
        have hlen : (first ++ args).length = first.length + cs.size := by simp [hA.1]
        rw [e1, getD_append_ge (by omega), hlen]; exact h4 _ (by omega)

theorem ares_call {stl : List Nat} {o : Oper} {f : FuncId} {args : List AV} (h : ares P m (rawOf fr) stl o.dst o.op = .call f args) (st : St F lim w n fr m ca []) (hk : okOper n o = true) :
    ∃ cargs : Array Value, cargs.size = args.length ∧ (∀ i, i < args.length → Rep w lim (cargs.getD i undef) (args.getD i .junk) []) ∧
      ∀ fn, P.funcs[f]? = some fn → fn.body.isSome = true → (fn.name == "runtime.NumGoroutine") = false → (execOp ca.eval o).run P w = .ok (.enter f cargs) w := by
  have hopd := okOper_opd hk
  unfold ares at h
  split at h
  case h_13 g ar ts hop =>
    simp only [ARes.call.injEq] at h
    obtain ⟨rfl, rfl⟩ := h
    have hA := args_rep (ca := ca) (a := evP (rawOf fr)) (args := ar) (fun y hy => evP_rep st (hopd y (by rw [hop]; simp [Op.operands, Call.operands]; exact .inr (by simpa using hy))))
    refine ⟨ar.map ca.eval, hA.1, hA.2, fun fn h1 h2 h3 => ?_⟩
    simp [execOp, hop, resolve, Deferred.ofValue, Act.eval, invoke, run_callFunc _ h1 h2 h3]
  case h_14 t ar ts hop =>
    split at h
    · next g first caps hraw =>
      simp only [ARes.call.injEq] at h
      obtain ⟨rfl, rfl⟩ := h
      have hA := args_rep (ca := ca) (a := evP (rawOf fr)) (args := ar) (fun y hy => evP_rep st (hopd y (by rw [hop]; simp [Op.operands, Call.operands]; exact .inr (by simpa using hy))))
      have hf := evP_rep st (x := .tmp t) rfl
      simp only [evP, hraw, AV.plain] at hf
      generalize he : ca.eval (.tmp t) = e at hf
      cases hf with
      | func _ fa cc _ _ h1 h2 h3 h4 =>
        refine ⟨fa ++ ar.map ca.eval ++ cc, by simp [h1, h2], fun i hi => ?_, fun fn g1 g2 g3 => ?_⟩
        · simp only [List.length_append, List.length_map, Array.length_toList] at hi
          by_cases i1 : i < first.length
          · have e1 : (fa ++ ar.map ca.eval ++ cc).getD i undef = fa.getD i undef := by
              simp [Array.getD_eq_getD_getElem?, Array.getElem?_append, h1, i1, show i < first.length + ar.size from by omega]
            rw [e1, getD_append_lt (by simp; omega), getD_append_lt i1]; exact h3 i i1
          · by_cases i2 : i < first.length + ar.size
            · have e1 : (fa ++ ar.map ca.eval ++ cc).getD i undef = (ar.map ca.eval).getD (i - first.length) undef := by
                simp [Array.getD_eq_getD_getElem?, Array.getElem?_append, h1, i1, i2, show i - first.length < ar.size from by omega]
              rw [e1, getD_append_lt (by simp; omega), getD_append_ge (by omega)]; exact hA.2 _ (by simp; omega)
            · have e1 : (fa ++ ar.map ca.eval ++ cc).getD i undef = cc.getD (i - (first.length + ar.size)) undef := by
                simp [Array.getD_eq_getD_getElem?, Array.getElem?_append, h1, i1, i2, show ¬ i - first.length < ar.size from by omega, Nat.sub_sub]
              have hlen : (first ++ ar.toList.map (evP (rawOf fr))).length = first.length + ar.size := by simp
              rw [e1, getD_append_ge (by omega), hlen]; exact h4 _ (by omega)
        · simp [execOp, hop, resolve, he, Deferred.ofValue, invoke, run_callFunc _ g1 g2 g3]
    · cases h
  all_goals first
    | cases h
    | (split at h <;> cases h)
    | (split at h <;> (first | cases h | (split at h <;> first | cases h | (split at h <;> cases h))))


def boolIn : Value → Option Bool
  | .bool b => some b
  | _ => none

theorem guardVal_rep {v : Value} {x : AV} {b z : Bool} {os : List Nat} (hz : guardVal x b = some z) (hr : Rep w lim v x os) : (boolIn v == some b) = z := by
  unfold guardVal at hz
  split at hz
  · obtain rfl := Option.some.inj hz
    cases hr
    rename_i c
    cases c <;> rfl
  · obtain rfl := Option.some.inj hz
    cases hr
    rename_i c
    cases c <;> rfl
  · obtain rfl := Option.some.inj hz
    cases hr with
    | lazyT _ _ _ hr =>
      cases hr
      rename_i c
      cases c <;> rfl
    | lazyF => rfl
  · obtain rfl := Option.some.inj hz
    cases hr with
    | lazyT _ _ _ hr =>
      cases hr
      rename_i c
      cases c <;> rfl
    | lazyF => rfl
  · cases hz

theorem wanted_eq {ops : Array Oper} {o : Oper} {j g : Nat} {b z : Bool} (hg : o.guard = some (j, b)) (hj : (ops[j]?).bind (·.dst) = some g) (st : St F lim w n fr m ca fl) (hz : guardVal (rawOf fr g) b = some z) :
    Region.wanted o (yielded ops ca.tmps) = z := by
  obtain ⟨os, om, ow, h⟩ := st
  cases hh : fr.get g with
  | none => simp [rawOf, hh, guardVal] at hz
  | some x =>
    simp only [rawOf, hh, Option.getD_some] at hz
    obtain ⟨hlt, hr⟩ := h.slots g _ hh
    have hlt' : g < ca.tmps.size := by rw [h.size]; exact hlt
    have hv' : ca.tmps[g]? = some (ca.tmps.getD g undef) := by
      rw [Array.getElem?_eq_getElem hlt']
      simp [Array.getD, hlt']
    have := guardVal_rep hz hr
    simp only [Region.wanted, hg, yielded, hj, Option.bind_some, hv']
    rw [← this]
    generalize ca.tmps.getD g undef = v
    cases v <;> rfl

theorem gb_eq (b c : Bool) : (if b then c else !c) = (c == b) := by cases b <;> cases c <;> rfl

theorem step_guarded {ops : Array Oper} {o : Oper} {l : List Oper} {K : Fr → AMem → Prop} {j g d : Nat} {b z : Bool} {x : AV} (hg : o.guard = some (j, b)) (hj : (ops[j]?).bind (·.dst) = some g) (hd : o.dst = some d) (hdn : d < n) (hc : guardVal (rawOf fr g) b = some z)
    (hrun : z = true → ∀ F lim w ca, St F lim w n fr m ca [] → ∀ (next : Act → World → Prop) Q, (∀ v lim' w', St F lim' w' n fr m ca [] → Rep w' lim' v x [] → Pres F w lim w' lim' → next (ca.put o.dst v) w') → o.wp P ca w next Q)
    (hK : AOps P n ops l K (fr.put d (.lazy z x)) m) : AOps P n ops (o :: l) K fr m := by
  intro F lim w ca Q st hq
  have hw := wanted_eq (ops := ops) hg hj st hc
  unfold wpList
  by_cases hcb : z = true
  · rw [if_pos (by rw [hw]; exact hcb)]
    refine .inl (hrun hcb F lim w ca st _ _ fun v lim' w' s1 s2 s3 => ?_)
    refine hK.from hq ?_ s3
    rw [hd, hcb]
    exact s1.set hdn (.lazyT _ _ _ s2)
  · have hf : z = false := by simpa using hcb
    rw [if_neg (by rw [hw, hf]; simp)]
    refine hK.from hq ?_ (.refl _ _ _)
    rw [hd, hf]
    exact st.set hdn (.lazyF _)

theorem aop_sound {ops : Array Oper} {stl : List Nat} {o : Oper} {l : List Oper} {K : Fr → AMem → Prop} (hk : okOper n o = true) (hn : tmpsOk n o = true) (h : aop P ops stl o (AOps P n ops l K) fr m) : AOps P n ops (o :: l) K fr m := by
  unfold aop at h
  split at h
  · next hg =>
    refine AOps.step hg fun F lim w ca st next Q hn' => ?_
    split at h
    · next side ss m' x ha =>
      obtain ⟨v, w', lim', os, h1, h2, h3, h4⟩ := ares_val (P := P) ha h.1 st hk hn
      exact wp_of_value h1 (hn' lim' w' _ _ _ h.2 (h2.putO (fun t ht => okOper_dst hk ht) h3) h4)
    · next side ss m' ha =>
      obtain ⟨w', lim', h1, h2, h3⟩ := ares_eff (P := P) ha h.1 st hk hn
      exact wp_of_skip h1 (hn' lim' w' _ _ _ h.2 (h2.putO (fun t ht => okOper_dst hk ht) (.junk _)) h3)
    · next side ss mk ob ha =>
      obtain ⟨v, w', b, h1, h2, h3, h4, h5⟩ := ares_new (P := P) ha h.1 st hk
      exact wp_of_value h1 (hn' lim w' _ _ _ (h.2 b h2) (h3.putO (fun t ht => okOper_dst hk ht) h4) h5)
    · next f args ha =>
      obtain ⟨cargs, h1, h2, h3⟩ := ares_call (P := P) ha st hk
      refine call_wp h st h1 h2 h3 fun v x lim' w' m' os hK hR hS hP => hn' lim' w' (putO fr o.dst x) m' _ ?_ (hS.putO (fun t ht => okOper_dst hk ht) hR) hP
      unfold Kont at hK
      cases hd : o.dst <;> simpa [hd, putO] using hK
    · exact h.elim
  · next j b hg =>
    split at h
    · next g d hj hd =>
      split at h
      · next c hc =>
        have hdn := okOper_dst hk hd
        split at h
        · next f args ts hop =>
          obtain ⟨x, h1, h2⟩ := h
          refine step_guarded hg hj hd hdn hc (fun hcb F lim w ca st next Q hn' => ?_) h2
          rw [hcb] at h1
          have hcall := h1 rfl (fun x' m' => x' = x ∧ m' = m) ⟨rfl, rfl⟩
          have hA := args_rep (ca := ca) (a := gev (rawOf fr) true o.op) (args := args) (fun y hy => gev_rep st (okOper_opd hk y (by rw [hop]; simp [Op.operands, Call.operands]; exact .inr (by simpa using hy))))
          refine call_wp hcall st hA.1 hA.2 (fun fn g1 g2 g3 => by simp [execOp, hop, resolve, Deferred.ofValue, Act.eval, invoke, run_callFunc _ g1 g2 g3]) fun v x' lim' w' m' os hK hR hS hP => ?_
          obtain ⟨rfl, rfl⟩ := hK
          exact hn' v lim' w' hS.drop hR.plain hP
        · next t args ts hop =>
          split at h
          · next f first caps hfv =>
            obtain ⟨x, h1, h2⟩ := h
            refine step_guarded hg hj hd hdn hc (fun hcb F lim w ca st next Q hn' => ?_) h2
            rw [hcb] at h1 hfv
            have hcall := h1 rfl (fun x' m' => x' = x ∧ m' = m) ⟨rfl, rfl⟩
            have hA := args_rep (ca := ca) (a := gev (rawOf fr) true o.op) (args := args) (fun y hy => gev_rep st (okOper_opd hk y (by rw [hop]; simp [Op.operands, Call.operands]; exact .inr (by simpa using hy))))
            have hF := gev_rep (op := o.op) st (y := .tmp t) rfl
            rw [hfv] at hF
            obtain ⟨fa, cc, he, b1, b2⟩ := func_args hF hA
            refine call_wp hcall st b1 b2 (fun fn g1 g2 g3 => by simp [execOp, hop, resolve, he, Deferred.ofValue, invoke, run_callFunc _ g1 g2 g3]) fun v x' lim' w' m' os hK hR hS hP => ?_
            obtain ⟨rfl, rfl⟩ := hK
            exact hn' v lim' w' hS.drop hR.plain hP
          · exact h.elim
        · split at h
          · next side x hq =>
            refine step_guarded hg hj hd hdn hc (fun hcb F lim w ca st next Q hn' => ?_) h.2
            rw [hcb] at hq h
            obtain ⟨v, h1, h2⟩ := qv_sound (P := P) (w := w) (lim := lim) hq (h.1 rfl) (ca := ca) (fun y hy => gev_rep st (okOper_opd hk y hy)) st.memRep
            exact wp_of_value h1 (hn' v lim w st h2 (.refl _ _ _))
          · exact h.elim
      · exact h.elim
    · exact h.elim


theorem aops_sound {ops : Array Oper} {stl : List Nat} : ∀ (l : List Oper) {K : Fr → AMem → Prop} {fr : Fr} {m : AMem}, (∀ o ∈ l, okOper n o = true ∧ tmpsOk n o = true) → aops P ops stl l K fr m → AOps P n ops l K fr m := by
  intro l
  induction l with
  | nil => intro K fr m _ h; exact AOps.nil h
  | cons o l ih =>
    intro K fr m hk h
    have ho := hk o (by simp)
    exact aop_sound ho.1 ho.2 (aop_mono (fun fr m hr => ih (fun o' ho' => hk o' (by simp [ho'])) hr) h)

def okAll (n : Nat) (ops : Array Oper) (ks : List Nat) : Bool := (ops.toList.all fun o => okOper n o && tmpsOk n o) && ks.all fun t => decide (t < n)

theorem awp_reg {id : Nat} {ops : Array Oper} {Q : Exit → Fr → AMem → Prop} (stl ks : List Nat) (hk : okAll n ops ks = true) (h : aops P ops stl ops.toList (fun fr m => Q .normal (fr.keep ks) m) fr m) : AWP P n (.region id ops false) Q fr m := by
  simp only [okAll, Bool.and_eq_true, List.all_eq_true] at hk
  refine awp_region ks (by rw [List.all_eq_true]; exact hk.2) (aops_sound _ (fun o ho => ?_) h)
  simpa using hk.1 o ho

/-- .. and the text behind it. -/
theorem awp_reg_seq {id : Nat} {ops : Array Oper} {c : Code} {Q : Exit → Fr → AMem → Prop} (stl ks : List Nat) (hk : okAll n ops ks = true) (h : ∀ K : Fr → AMem → Prop, (∀ fr m, AWP P n c Q fr m → K fr m) → aops P ops stl ops.toList (fun fr m => K (fr.keep ks) m) fr m) : AWP P n (.seq (.region id ops false) c) Q fr m :=
  awp_seq_k fun K hK => awp_reg stl ks hk (h K hK)

/-! ### A function -/

def Fr.init : Nat → List AV → Fr
  | _, [] => []
  | i, x :: r => (i, x) :: Fr.init (i + 1) r

theorem Fr.get_init : ∀ (l : List AV) (k t : Nat) (x : AV), (Fr.init k l).get t = some x → k ≤ t ∧ t - k < l.length ∧ l.getD (t - k) .junk = x := by
  intro l
  induction l with
  | nil => intro k t x h; simp [Fr.init, Fr.get] at h
  | cons y l ih =>
    intro k t x h
    simp only [Fr.init, Fr.get] at h
    by_cases e : k = t
    · subst e
      simp at h
      subst h
      simp
    · rw [if_neg e] at h
      obtain ⟨h1, h2, h3⟩ := ih (k + 1) t x h
      refine ⟨by omega, by simp; omega, ?_⟩
      rw [show t - k = (t - (k + 1)) + 1 from by omega, List.getD_cons_succ]
      exact h3

/-- What a result's place holds. -/
def resOf (P : Program) (fr : Fr) (m : AMem) : ResultVar → Option (Prop × AV)
  | .tmp t => some (True, rawOf fr t)
  | .cell a t =>
    match rawOf fr a with
    | .ptr ⟨b, off, none⟩ =>
      match m b with
      | some (.cells l) => some (apartOk P t l off, (apart P t l off).plain)
      | _ => none
    | _ => none

/-- What a function hands back. -/
def resK (P : Program) (fn : Func) (fr : Fr) (m : AMem) (K : AV → AMem → Prop) : Prop :=
  match fn.results.toList with
  | [r] =>
    match resOf P fr m r with
    | some (side, x) => side ∧ ∃ m', (∀ b o, m' b = some o → m b = some o) ∧ K x m'
    | none => False
  | [r, s] =>
    match resOf P fr m r, resOf P fr m s with
    | some (side, x), some (side', y) => side ∧ side' ∧ ∃ m', (∀ b o, m' b = some o → m b = some o) ∧ K (.tuple [x, y.plain]) m'
    | _, _ => False
  | [r, s, t] =>
    match resOf P fr m r, resOf P fr m s, resOf P fr m t with
    | some (side, x), some (side', y), some (side'', z) => side ∧ side' ∧ side'' ∧ ∃ m', (∀ b o, m' b = some o → m b = some o) ∧ K (.tuple [x, y.plain, z.plain]) m'
    | _, _, _ => False
  | [] => ∃ m', (∀ b o, m' b = some o → m b = some o) ∧ K (.tuple []) m'
  | [r, s, t, u] =>
    match resOf P fr m r, resOf P fr m s, resOf P fr m t, resOf P fr m u with
    | some (side, x), some (side', y), some (side'', z), some (side3, a) => side ∧ side' ∧ side'' ∧ side3 ∧ ∃ m', (∀ b o, m' b = some o → m b = some o) ∧ K (.tuple [x.plain, y.plain, z.plain, a.plain]) m'
    | _, _, _, _ => False
  | _ => False

def RetPost (P : Program) (fn : Func) (K : AV → AMem → Prop) : Exit → Fr → AMem → Prop
  | .ret, fr, m | .normal, fr, m => resK P fn fr m K
  | _, _, _ => False

end
end Go.Aw
