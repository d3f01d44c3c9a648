/-
  The abstract layer, part 17: a region whose order Go leaves open, where all that is in it only reads (calls that change nothing among it).
-/
import Derived.Test.YtoeghipbkmaccaaWwP
namespace Go.Aw
open Go

section
variable {P : Program}

theorem qv_congr {m : AMem} {a a' : Operand → AV} : ∀ (op : Op), (∀ y ∈ op.operands.toList, a y = a' y) → qv P m a op = qv P m a' op := by
  intro op h
  cases op with
  | call c =>
    obtain ⟨cal, args, ts⟩ := c
    cases cal with
    | builtin b =>
      have h' : ∀ y ∈ args.toList, a y = a' y := fun y hy => h y (by simpa [Op.operands, Call.operands] using hy)
      cases b with
      | len =>
        simp only [qv]
        cases hx : args[0]? with
        | none => rfl
        | some x =>
          have := h' x (by rw [Array.mem_toList_iff]; exact Array.mem_of_getElem? hx)
          cases ts[0]? <;> simp only [this]
      | max =>
        simp only [qv]
        split
        · next x y hxy => rw [h' x (by rw [hxy]; simp), h' y (by rw [hxy]; simp)]
        · rfl
      | min =>
        simp only [qv]
        split
        · next x y hxy => rw [h' x (by rw [hxy]; simp), h' y (by rw [hxy]; simp)]
        · rfl
      | _ => rfl
    | _ => rfl
  | slice t x lo hi mx =>
    cases mx with
    | some z => rfl
    | none =>
      have e1 : lo.map a = lo.map a' := by cases lo with
        | none => rfl
        | some y => simp [h y (by simp [Op.operands])]
      have e2 : hi.map a = hi.map a' := by cases hi with
        | none => rfl
        | some y => simp [h y (by simp [Op.operands])]
      simp only [qv, e1, e2, h x (by simp [Op.operands])]
  | typeAssert x t u ok => cases ok <;> simp [qv, h x (by simp [Op.operands])]
  | pick c x y => simp only [qv, h c (by simp [Op.operands]), h x (by simp [Op.operands]), h y (by simp [Op.operands])]
  | binOp op t x y t2 => simp only [qv, h x (by simp [Op.operands]), h y (by simp [Op.operands])]
  | indexAddr t x y => simp only [qv, h x (by simp [Op.operands]), h y (by simp [Op.operands])]
  | index t x y => simp only [qv, h x (by simp [Op.operands]), h y (by simp [Op.operands])]
  | move x => simp only [qv, h x (by simp [Op.operands])]
  | assign x => simp only [qv, h x (by simp [Op.operands])]
  | load t x => simp only [qv, h x (by simp [Op.operands])]
  | nilCheck x => simp only [qv, h x (by simp [Op.operands])]
  | unOp op t x => simp only [qv, h x (by simp [Op.operands])]
  | convert s d x => simp only [qv, h x (by simp [Op.operands])]
  | makeInterface t x => simp only [qv, h x (by simp [Op.operands])]
  | fieldAddr t x f => simp only [qv, h x (by simp [Op.operands])]
  | field t x f => simp only [qv, h x (by simp [Op.operands])]
  | extract x i => simp only [qv, h x (by simp [Op.operands])]
  | _ => rfl

/-- The slots that an operation looks at. -/
def tmpsOf (op : Op) : List Nat := op.operands.toList.flatMap slotOf

def slotsOf (ops : Array Oper) (o : Oper) : List Nat :=
  (match o.guard with
  | some (j, _) => (match (ops[j]?).bind (·.dst) with | some g => [g] | none => [])
  | none => []) ++ tmpsOf o.op

theorem evP_congr {raw raw' : Nat → AV} {op : Op} (h : ∀ t ∈ tmpsOf op, raw t = raw' t) : ∀ y ∈ op.operands.toList, evP raw y = evP raw' y := by
  intro y hy
  cases y with
  | tmp t => simp only [evP, h t (List.mem_flatMap.2 ⟨_, hy, by simp [slotOf]⟩)]
  | _ => rfl

theorem gev_congr {raw raw' : Nat → AV} {g : Bool} {op : Op} (h : ∀ t ∈ tmpsOf op, raw t = raw' t) : ∀ y ∈ op.operands.toList, gev raw g op y = gev raw' g op y := by
  intro y hy
  simp only [gev, evP_congr h y hy]

/-- A guard that is decided. -/
def gLit : AV → Bool → Option Bool
  | .bool c, true => some c
  | .bool c, false => some (!c)
  | .lazy false _, _ => some false
  | _, _ => none

def gOn (ops : Array Oper) (fr : Fr) : Option (Nat × Bool) → Option Bool
  | none => some true
  | some (j, b) =>
    match (ops[j]?).bind (·.dst) with
    | some g => gLit (rawOf fr g) b
    | none => none

/-- What an operation that only reads comes to, its guard left aside; 'c': what a call gives. -/
def pv0 (P : Program) (m : AMem) (c : AV) (raw : Nat → AV) (o : Oper) : Option (Prop × AV) :=
  match o.op with
  | .call ⟨.value (.func f), args, _⟩ => some (PureCall P f (args.toList.map (evP raw)) m c, c.plain)
  | .buildSlice t len parts =>
    match ares P m raw [] o.dst (.buildSlice t len parts) with
    | .val side [] _ x => some (side, x.plain)
    | _ => none
  | .build t parts =>
    match ares P m raw [] o.dst (.build t parts) with
    | .val side [] _ x => some (side, x.plain)
    | _ => none
  | .pick b x y =>
    match evP raw b with
    | .bool true => some (True, evP raw x)
    | .bool false => some (True, evP raw y)
    | _ => none
  | op => qv P m (evP raw) op

/-- .. its guard decided. -/
def pv (P : Program) (ops : Array Oper) (m : AMem) (c : AV) (raw : Nat → AV) (o : Oper) : Option (Prop × AV) :=
  match o.guard with
  | none => pv0 P m c raw o
  | some (j, b) =>
    match (ops[j]?).bind (·.dst) with
    | some g =>
      match gLit (raw g) b with
      | some true => pv0 P m c raw o
      | some false => some (True, .lazy false .junk)
      | none => none
    | none => none

theorem pv0_congr {m : AMem} {c : AV} {raw raw' : Nat → AV} {o : Oper} (ht : ∀ t ∈ tmpsOf o.op, raw t = raw' t) : pv0 P m c raw o = pv0 P m c raw' o := by
  unfold pv0
  split
  · next f args ts hop =>
    have : args.toList.map (evP raw) = args.toList.map (evP raw') := List.map_congr_left fun y hy => evP_congr ht y (by rw [hop]; simp [Op.operands, Call.operands]; exact .inr (by simpa using hy))
    rw [this]
  · next t len parts hop =>
    have hp : ∀ q ∈ parts.toList, evP raw q.2 = evP raw' q.2 := fun q hq => evP_congr ht q.2 (by rw [hop]; simp [Op.operands]; exact ⟨q.1, by simpa using hq⟩)
    have : ares P m raw [] o.dst (.buildSlice t len parts) = ares P m raw' [] o.dst (.buildSlice t len parts) := by
      simp only [ares]
      split
      · rfl
      split
      · have e1 : (parts.toList.map fun p => evP raw p.2) = parts.toList.map fun p => evP raw' p.2 := List.map_congr_left hp
        have e2 : (∀ q ∈ parts.toList, (evP raw q.2).topOk = true ∧ (evP raw q.2).cells.length = P.cellsOf ‹TypeId›) = (∀ q ∈ parts.toList, (evP raw' q.2).topOk = true ∧ (evP raw' q.2).cells.length = P.cellsOf ‹TypeId›) := by
          apply propext
          constructor
          · intro h q hq; rw [← hp q hq]; exact h q hq
          · intro h q hq; rw [hp q hq]; exact h q hq
        rw [e1, e2]
      · rfl
    rw [this]
  · next t parts hop =>
    have hp : ∀ q ∈ parts.toList, evP raw q.2 = evP raw' q.2 := fun q hq => evP_congr ht q.2 (by rw [hop]; simp [Op.operands]; exact ⟨q.1, by simpa using hq⟩)
    have : ares P m raw [] o.dst (.build t parts) = ares P m raw' [] o.dst (.build t parts) := by
      simp only [ares]
      split
      · rfl
      split
      · have e1 : (parts.toList.map fun p => (p.1, evP raw p.2)) = parts.toList.map fun p => (p.1, evP raw' p.2) := List.map_congr_left fun q hq => by rw [hp q hq]
        have e2 : (∀ q ∈ parts.toList, (evP raw q.2).topOk = true) = (∀ q ∈ parts.toList, (evP raw' q.2).topOk = true) := by
          apply propext
          constructor
          · intro h q hq; rw [← hp q hq]; exact h q hq
          · intro h q hq; rw [hp q hq]; exact h q hq
        rw [e1, e2]
      · rfl
    rw [this]
  · next b x y hop =>
    have e : ∀ q ∈ [b, x, y], evP raw q = evP raw' q := fun q hq => evP_congr ht q (by rw [hop]; simpa [Op.operands] using hq)
    rw [e b (by simp), e x (by simp), e y (by simp)]
  · exact qv_congr _ (evP_congr ht)

theorem pv_congr {ops : Array Oper} {m : AMem} {c : AV} {raw raw' : Nat → AV} {o : Oper} (h : ∀ t ∈ slotsOf ops o, raw t = raw' t) : pv P ops m c raw o = pv P ops m c raw' o := by
  have ht : ∀ t ∈ tmpsOf o.op, raw t = raw' t := fun t ht => h t (List.mem_append.2 (.inr ht))
  unfold pv
  cases hg : o.guard with
  | none => exact pv0_congr ht
  | some jb =>
    obtain ⟨j, b⟩ := jb
    simp only
    cases hj : (ops[j]?).bind (·.dst) with
    | none => rfl
    | some g =>
      have hgr : raw g = raw' g := h g (by simp [slotsOf, hg, hj])
      simp only [hgr, pv0_congr ht]

/-- The region in its text's order. -/
def pseq (P : Program) (ops : Array Oper) (m : AMem) : List AV → List Oper → Fr → (Fr → Prop) → Prop
  | _, [], fr, K => K fr
  | cs, o :: r, fr, K =>
    match pv P ops m (cs.headD .junk) (rawOf fr) o with
    | some (side, x) => side ∧ pseq P ops m (match o.op with | .call ⟨.value (.func _), _, _⟩ => cs.tail | _ => cs) r (putO fr o.dst x) K
    | none => False

/-- What the text's order has come to at each place. -/
theorem pseq_trace {ops : Array Oper} {m : AMem} : ∀ (l : List Oper) (cs : List AV) (fr : Fr) (K : Fr → Prop), pseq P ops m cs l fr K → ∃ (T : Nat → Fr) (c : Nat → AV) (val : Nat → AV), T 0 = fr ∧ K (T l.length) ∧
    ∀ i o, l[i]? = some o → (∃ side, pv P ops m (c i) (rawOf (T i)) o = some (side, val i) ∧ side) ∧ T (i + 1) = putO (T i) o.dst (val i) := by
  intro l
  induction l with
  | nil => intro cs fr K h; exact ⟨fun _ => fr, fun _ => .junk, fun _ => .junk, rfl, h, fun i o hi => by simp at hi⟩
  | cons o l ih =>
    intro cs fr K h
    simp only [pseq] at h
    split at h
    · next side x hp =>
      obtain ⟨hs, h⟩ := h
      obtain ⟨T, c, val, h1, h2, h3⟩ := ih _ _ K h
      refine ⟨fun i => match i with | 0 => fr | i + 1 => T i, fun i => match i with | 0 => cs.headD .junk | i + 1 => c i, fun i => match i with | 0 => x | i + 1 => val i, rfl, h2, fun i o' hi => ?_⟩
      cases i with
      | zero => simp at hi; subst hi; exact ⟨⟨side, hp, hs⟩, h1⟩
      | succ i => exact h3 i o' (by simpa using hi)
    · exact h.elim

def edgeTo (o : Oper) (j : Nat) : Bool := o.after.toList.any fun e => e.on == j && Region.binds .any e

/-- Whatever order the region is run in, each operation finds in its slots what it finds in the text's order. -/
def drawOk (ops : Array Oper) : Bool :=
  (ops.toList.all fun o => o.dst.isSome) &&
  (List.range ops.size).all fun i =>
    match ops[i]? with
    | some o =>
      (o.after.toList.all fun e => !Region.binds .any e || decide (e.on < i)) &&
      (List.range ops.size).all fun j =>
        match ops[j]? with
        | some p =>
          (decide (i = j) || !(o.dst == p.dst)) &&
          (match p.dst with
          | some d => !((slotsOf ops o).contains d) || (if j < i then edgeTo o j else if i < j then edgeTo p i else true)
          | none => true)
        | none => true
    | none => true


variable {F : Nat → Prop} {lim : Nat → Nat} {w : World} {n : Nat} {fr : Fr} {m : AMem} {ca : Act} {fl : List Nat}

theorem pureCall_wp {f : FuncId} {args : List AV} {x : AV} (hc : PureCall P f args m x) (st : St F lim w n fr m ca []) {cargs : Array Value} (hs : cargs.size = args.length) (hr : ∀ i, i < args.length → Rep w lim (cargs.getD i undef) (args.getD i .junk) [])
    {o : Oper} {next : Act → World → Prop} {Q : Exit → Act → World → Prop} (he : ∀ fn, P.funcs[f]? = some fn → fn.body.isSome = true → (fn.name == "runtime.NumGoroutine") = false → (execOp ca.eval o).run P w = .ok (.enter f cargs) w)
    (hn : ∀ v lim' w', St F lim' w' n fr m ca [] → Rep w' lim' v x.plain [] → Pres F w lim w' lim' → next (ca.put o.dst v) w') : o.wp P ca w next Q :=
  call_wp (hc (fun x' m' => x' = x ∧ m' = m) ⟨rfl, rfl⟩) st hs hr he fun v x' lim' w' m' os hK hR hS hP => by
    obtain ⟨rfl, rfl⟩ := hK
    exact hn v lim' w' hS.drop hR.plain hP

theorem gLit_rep {v : Value} {x : AV} {b z : Bool} {os : List Nat} (hz : gLit x b = some z) (hr : Rep w lim v x os) : (boolIn v == some b) = z := by
  unfold gLit at hz
  split at hz
  · obtain rfl := Option.some.inj hz
    cases hr
    rename_i c
    cases c <;> rfl
  · obtain rfl := Option.some.inj hz
    cases hr
    rename_i c
    cases c <;> rfl
  · obtain rfl := Option.some.inj hz
    cases hr with
    | lazyF => rfl
  · cases hz

theorem wanted_lit {ops : Array Oper} {o : Oper} {j g : Nat} {b z : Bool} (hg : o.guard = some (j, b)) (hj : (ops[j]?).bind (·.dst) = some g) (st : St F lim w n fr m ca fl) (hz : gLit (rawOf fr g) b = some z) :
    Region.wanted o (yielded ops ca.tmps) = z := by
  obtain ⟨os, om, ow, h⟩ := st
  cases hh : fr.get g with
  | none => simp [rawOf, hh, gLit] at hz
  | some x =>
    simp only [rawOf, hh, Option.getD_some] at hz
    obtain ⟨hlt, hr⟩ := h.slots g _ hh
    have hlt' : g < ca.tmps.size := by rw [h.size]; exact hlt
    have hv' : ca.tmps[g]? = some (ca.tmps.getD g undef) := by
      rw [Array.getElem?_eq_getElem hlt']
      simp [Array.getD, hlt']
    have := gLit_rep hz hr
    simp only [Region.wanted, hg, yielded, hj, Option.bind_some, hv']
    rw [← this]
    generalize ca.tmps.getD g undef = v
    cases v <;> rfl

theorem pv0_step {o : Oper} {c : AV} {side : Prop} {x : AV} (hk : okOper n o = true) (hn : tmpsOk n o = true) (h : pv0 P m c (rawOf fr) o = some (side, x)) (hs : side) (st : St F lim w n fr m ca [])
    {next : Act → World → Prop} {Q : Exit → Act → World → Prop} (hq' : ∀ v lim' w', St F lim' w' n fr m ca [] → Rep w' lim' v x [] → Pres F w lim w' lim' → (∀ s, o.op = .move (.tmp s) → v = ca.tmps.getD s undef) → next (ca.put o.dst v) w') : o.wp P ca w next Q := by
  have hopd := okOper_opd hk
  unfold pv0 at h
  split at h
  · next f args ts hop =>
    replace hq' : ∀ v lim' w', St F lim' w' n fr m ca [] → Rep w' lim' v x [] → Pres F w lim w' lim' → next (ca.put o.dst v) w' := fun v lim' w' h1 h2 h3 => hq' v lim' w' h1 h2 h3 fun s hs => by rw [hop] at hs; cases hs
    obtain ⟨rfl, rfl⟩ := some_inj h
    have hA := args_rep (ca := ca) (a := evP (rawOf fr)) (args := args) (fun y hy => evP_rep st (hopd y (by rw [hop]; simp [Op.operands, Call.operands]; exact .inr (by simpa using hy))))
    exact pureCall_wp hs st hA.1 hA.2 (fun fn g1 g2 g3 => by simp [execOp, hop, resolve, Deferred.ofValue, Act.eval, invoke, run_callFunc _ g1 g2 g3]) hq'
  · next t len parts hop =>
    split at h
    · next side' m' x' ha =>
      obtain ⟨rfl, rfl⟩ := some_inj h
      rw [← hop] at ha
      have hm' : m' = m := by
        rw [hop] at ha
        simp only [ares] at ha
        split at ha
        · cases ha
        split at ha
        · injection ha with _ _ e; exact e.symm
        · cases ha
      subst hm'
      obtain ⟨v, w', lim', os, h1, h2, h3, h4⟩ := ares_val (P := P) ha hs st hk hn
      exact wp_of_value h1 (hq' v lim' w' h2.drop h3.plain h4 fun s hs => by rw [hop] at hs; cases hs)
    · cases h
  · next t parts hop =>
    split at h
    · next side' m' x' ha =>
      obtain ⟨rfl, rfl⟩ := some_inj h
      rw [← hop] at ha
      have hm' : m' = m := by
        rw [hop] at ha
        simp only [ares] at ha
        split at ha
        · cases ha
        split at ha
        · split at ha
          · injection ha with _ _ e; exact e.symm
          · cases ha
        · cases ha
      subst hm'
      obtain ⟨v, w', lim', os, h1, h2, h3, h4⟩ := ares_val (P := P) ha hs st hk hn
      exact wp_of_value h1 (hq' v lim' w' h2.drop h3.plain h4 fun s hs => by rw [hop] at hs; cases hs)
    · cases h
  · next b' x' y' hop =>
    have pickCase : ∀ (bb : Bool), evP (rawOf fr) b' = .bool bb → x = evP (rawOf fr) (if bb then x' else y') → o.wp P ca w next Q := by
      intro bb hb hx
      have hbr := evP_rep st (hopd b' (by rw [hop]; simp [Op.operands]))
      rw [hb] at hbr
      have hbv : ca.eval b' = .bool bb := by
        generalize ca.eval b' = v at hbr
        cases hbr
        rfl
      have hpr := evP_rep st (hopd (if bb then x' else y') (by rw [hop]; cases bb <;> simp [Op.operands]))
      rw [← hx] at hpr
      refine wp_of_value (v := ca.eval (if bb then x' else y')) ?_ (hq' _ lim w st hpr (.refl _ _ _) fun s hs => by rw [hop] at hs; cases hs)
      cases bb <;> simp [execOp, hop, hbv, asBool]
    split at h
    · next hb => obtain ⟨rfl, rfl⟩ := some_inj h; exact pickCase true hb rfl
    · next hb => obtain ⟨rfl, rfl⟩ := some_inj h; exact pickCase false hb rfl
    · cases h
  · obtain ⟨v, h1, h2⟩ := qv_sound (P := P) (w := w) (lim := lim) h hs (ca := ca) (fun y hy => evP_rep st (hopd y hy)) st.memRep
    exact wp_of_value h1 (hq' v lim w st h2 (.refl _ _ _) fun s hs => by
      rw [execOp, hs] at h1
      simp only [Sem.run_pure, Result.ok.injEq] at h1
      have := h1.1
      injection this with this
      rw [← this]; rfl)

theorem pv_step {ops : Array Oper} {o : Oper} {c : AV} {side : Prop} {x : AV} {d : Nat} (hk : okOper n o = true) (hn : tmpsOk n o = true) (h : pv P ops m c (rawOf fr) o = some (side, x)) (hs : side) (hd : o.dst = some d) (st : St F lim w n fr m ca [])
    {next : Act → World → Prop} {Q : Exit → Act → World → Prop} (hq : ∀ lim' w' v, St F lim' w' n (fr.put d x) m (ca.put o.dst v) [] → Pres F w lim w' lim' → (∀ s, o.op = .move (.tmp s) → o.guard = none → v = ca.tmps.getD s undef) → next (ca.put o.dst v) w') :
    if Region.wanted o (yielded ops ca.tmps) then o.wp P ca w next Q ∨ (o.asks P ca w ∧ LetsOut Q) else next (ca.put o.dst undef) w := by
  have hdn := okOper_dst hk hd
  have run : pv0 P m c (rawOf fr) o = some (side, x) → o.wp P ca w next Q := fun h => pv0_step hk hn h hs st fun v lim' w' h1 h2 h3 h4 => hq lim' w' _ (by rw [hd]; exact h1.set hdn h2) h3 fun s hs _ => h4 s hs
  unfold pv at h
  split at h
  · next hg =>
    rw [if_pos (by simp [Region.wanted, hg])]
    exact .inl (run h)
  · next j b hg =>
    split at h
    · next g hj =>
      split at h
      · next hz =>
        rw [if_pos (wanted_lit hg hj st hz)]
        exact .inl (run h)
      · next hz =>
        rw [wanted_lit hg hj st hz, if_neg (by simp)]
        obtain ⟨rfl, rfl⟩ := some_inj h
        refine hq lim w _ ?_ (.refl _ _ _) fun s _ hg' => by rw [hg] at hg'; cases hg'
        rw [hd]; exact st.set hdn (.lazyF _)
      · cases h
    · cases h

end
end Go.Aw
