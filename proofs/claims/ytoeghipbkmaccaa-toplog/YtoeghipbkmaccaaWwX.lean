/-
  The abstract layer, part 24: regions whose guards are decided: an operation under a guard that is met runs as one without; under one that is not it leaves nothing.
-/
import Derived.Test.YtoeghipbkmaccaaWwW
namespace Go.Aw
open Go

/-- An operation of which is known what it does, however the world looks that reads so. -/
def SemOp (P : Program) (o : Oper) (K : Fr → AMem → Prop) (fr : Fr) (m : AMem) : Prop :=
  ∀ n, okOper n o = true → tmpsOk n o = true → ∀ F lim w ca, St F lim w n fr m ca [] →
    ∃ res v w' lim' fr' m', (execOp ca.eval o).run P w = .ok res w' ∧ ((res = .value v) ∨ (res = .skip ∧ v = undef)) ∧ St F lim' w' n fr' m' (ca.put o.dst v) [] ∧ Pres F w lim w' lim' ∧ K fr' m'

/-- Operations of the newer kind: what they come to. -/
def aopR (P : Program) (ops : Array Oper) (stl : List Nat) (o : Oper) (K : Fr → AMem → Prop) (fr : Fr) (m : AMem) : Prop :=
  match o with
  | ⟨dst, op, _, _, _, gd⟩ =>
  match gOn ops fr gd with
  | some true =>
    match op with
    | .pick c x y =>
      match evP (rawOf fr) c with
      | .bool true => K (putO fr dst (evP (rawOf fr) x)) m
      | .bool false => K (putO fr dst (evP (rawOf fr) y)) m
      | _ => False
    | .box _ x => (evR (rawOf fr) x).topOk = true ∧ ∀ b, m b = none → K (putO (fr.strip (slotOf x)) dst (.ptr ⟨b, 0, none⟩)) (m.upd b (some (.cells (evR (rawOf fr) x).cells)))
    | _ =>
      match ares P m (rawOf fr) stl dst op with
      | .val side ss m' x => side ∧ K (putO (fr.strip ss) dst x) m'
      | .eff side ss m' => side ∧ K (putO (fr.strip ss) dst .junk) m'
      | .new side ss mk ob => side ∧ ∀ b, m b = none → K (putO (fr.strip ss) dst (mk b)) (m.upd b (some ob))
      | .call f args => ACalls P f args m (Kont K dst fr)
      | .stuck => SemOp P o K fr m
  | some false =>
    match dst with
    | some d => K (fr.put d (.lazy false .junk)) m
    | none => K fr m
  | none => False

def aopsR (P : Program) (ops : Array Oper) (stl : List Nat) : List Oper → (Fr → AMem → Prop) → Fr → AMem → Prop
  | [], K => K
  | o :: r, K => aopR P ops stl o (aopsR P ops stl r K)

section
variable {P : Program} {F : Nat → Prop} {lim : Nat → Nat} {w : World} {n : Nat} {fr : Fr} {m : AMem} {ca : Act} {fl : List Nat}

theorem wanted_gOn {ops : Array Oper} {o : Oper} {z : Bool} (st : St F lim w n fr m ca fl) (hz : gOn ops fr o.guard = some z) : Region.wanted o (yielded ops ca.tmps) = z := by
  unfold gOn at hz
  split at hz
  · next hg => obtain rfl := Option.some.inj hz; simp [Region.wanted, hg]
  · next j b hg =>
    split at hz
    · next g hj =>
      obtain ⟨os, om, ow, h⟩ := st
      cases hh : fr.get g with
      | none => simp [rawOf, hh, gLit] at hz
      | some x =>
        simp only [rawOf, hh, Option.getD_some] at hz
        obtain ⟨hlt, hr⟩ := h.slots g _ hh
        have hlt' : g < ca.tmps.size := by rw [h.size]; exact hlt
        have hv' : ca.tmps[g]? = some (ca.tmps.getD g undef) := by
          rw [Array.getElem?_eq_getElem hlt']
          simp [Array.getD, hlt']
        have := gLit_rep hz hr
        simp only [Region.wanted, hg, yielded, hj, Option.bind_some, hv']
        rw [← this]
        generalize ca.tmps.getD g undef = v
        cases v <;> rfl
    · cases hz

theorem setRow_same {b : Nat} {cs : Array Value} {e : TypeId} {fz : Nat × Nat} (hb : w.heap[b]? = some (.cells cs e fz)) : w.setRow b cs = w := by
  have hlt : b < w.heap.size := (Array.getElem?_eq_some_iff.1 hb).1
  have : (w.heap.modify b fun | .cells _ elem frozen => .cells cs elem frozen | o => o) = w.heap := by
    apply Array.ext (by simp)
    intro i hi hi'
    rw [Array.getElem_modify]
    split
    · next e => subst e; rw [Array.getElem?_eq_getElem hlt] at hb; simp at hb; rw [hb]
    · rfl
  exact congrArg (fun h => ({ w with heap := h } : World)) this

/-- A new block that takes over what its contents own. -/
theorem St.boxOwn {t : TypeId} {x : Operand} (st : St F lim w n fr m ca []) (hx : opdOk x = true) (hs : ∀ t, x = .tmp t → t < n) (ht : (evR (rawOf fr) x).topOk = true) :
    ∃ lim', m w.heap.size = none ∧ St F lim' (w.alloc (.cells (ca.eval x).cells t)) n (fr.strip (slotOf x)) (m.upd w.heap.size (some (.cells (evR (rawOf fr) x).cells))) ca [] ∧ Pres F w lim (w.alloc (.cells (ca.eval x).cells t)) lim' := by
  obtain ⟨os, s1, s2⟩ := st.takeOpd x hx hs
  obtain ⟨oss, c1, c2, c3⟩ := rep_cells s2 ht
  obtain ⟨a1, a2⟩ := s1.allocMem (ca.eval x).cells t (AV.plainL (evR (rawOf fr) x).cells) (by rw [AV.plainL_eq, List.length_map]; exact c1) (fun i hi => by
    rw [getD_map_plain]
    exact (c2 i (by simpa [AV.plainL_eq] using hi)).plain)
  have hlo := s1.lim_new
  have hP := pres_new st (.cells (ca.eval x).cells t)
  have hst : ∀ c, c ∈ os → c < w.heap.size := fun c hc => s2.owned_lt c hc
  have hr : ∀ i, i < (evR (rawOf fr) x).cells.length → Rep (w.alloc (.cells (ca.eval x).cells t)) lim ((ca.eval x).cells.toList.getD i undef) ((evR (rawOf fr) x).cells.getD i .junk) (oss i) := fun i hi => by
    have hc := c2 i hi
    have e : (ca.eval x).cells.toList.getD i undef = (ca.eval x).cells.getD i undef := by simp [List.getD_eq_getElem?_getD, Array.getD_eq_getD_getElem?]
    rw [e]
    refine hc.stable (fun _ => Nat.le_refl _) hP.cell fun c hcm => ⟨heapOld w _ c ?_, rfl⟩
    exact hc.owned_lt c hcm
  have hnew := heapNew w (.cells (ca.eval x).cells t)
  obtain ⟨b1, b2⟩ := a2.storeMem (b := w.heap.size) (off := 0) (l := AV.plainL (evR (rawOf fr) x).cells) (xs := (evR (rawOf fr) x).cells) (vs := (ca.eval x).cells.toList) (oss := oss) (by simp [AMem.upd]) hnew
    (by simp [AV.plainL_eq]) (by simpa using c1) hr c3
  have hl : (AV.plainL (evR (rawOf fr) x).cells).length = (evR (rawOf fr) x).cells.length := by simp [AV.plainL_eq]
  have e1 : ((ca.eval x).cells.toList.take 0 ++ (ca.eval x).cells.toList ++ (ca.eval x).cells.toList.drop (0 + (ca.eval x).cells.toList.length)).toArray = (ca.eval x).cells := by
    rw [List.take_zero, List.nil_append, List.drop_of_length_le (by omega), List.append_nil]
  have e2 : (AV.plainL (evR (rawOf fr) x).cells).take 0 ++ (evR (rawOf fr) x).cells ++ (AV.plainL (evR (rawOf fr) x).cells).drop (0 + (evR (rawOf fr) x).cells.length) = (evR (rawOf fr) x).cells := by
    rw [List.take_zero, List.nil_append, List.drop_of_length_le (by rw [hl]; omega), List.append_nil]
  rw [e1, e2, setRow_same hnew] at b1
  refine ⟨lim, a1, ?_, hP⟩
  have e3 : (m.upd w.heap.size (some (.cells (AV.plainL (evR (rawOf fr) x).cells)))).upd w.heap.size (some (.cells (evR (rawOf fr) x).cells)) = m.upd w.heap.size (some (.cells (evR (rawOf fr) x).cells)) := by
    funext c; simp only [AMem.upd]; split <;> rfl
  rw [e3] at b1
  exact b1

theorem aopR_plain {ops : Array Oper} {stl : List Nat} {K : Fr → AMem → Prop} {dst : Option Nat} {op : Op} {ty : TypeId} {pos : String} {af : Array Edge} {gd : Option (Nat × Bool)} (hg : gOn ops fr gd = some true) (h : aopR P ops stl ⟨dst, op, ty, pos, af, gd⟩ K fr m) :
    (∃ c x y b, op = .pick c x y ∧ evP (rawOf fr) c = .bool b ∧ K (putO fr dst (evP (rawOf fr) (if b then x else y))) m) ∨
    (∃ t x, op = .box t x ∧ (evR (rawOf fr) x).topOk = true ∧ ∀ b, m b = none → K (putO (fr.strip (slotOf x)) dst (.ptr ⟨b, 0, none⟩)) (m.upd b (some (.cells (evR (rawOf fr) x).cells)))) ∨ aop P ops stl ⟨dst, op, ty, pos, af, none⟩ K fr m ∨ SemOp P ⟨dst, op, ty, pos, af, gd⟩ K fr m := by
  simp only [aopR, hg] at h
  split at h
  · next c x y =>
    split at h
    · next hc => exact .inl ⟨c, x, y, true, rfl, hc, h⟩
    · next hc => exact .inl ⟨c, x, y, false, rfl, hc, h⟩
    · exact h.elim
  · next t x => exact .inr (.inl ⟨t, x, rfl, h⟩)
  · refine .inr (.inr ?_)
    simp only [aop]
    cases ha : ares P m (rawOf fr) stl dst op with
    | val side ss m' x => rw [ha] at h; exact .inl h
    | eff side ss m' => rw [ha] at h; exact .inl h
    | new side ss mk ob => rw [ha] at h; exact .inl h
    | call f args => rw [ha] at h; exact .inl h
    | stuck => rw [ha] at h; exact .inr h

theorem SemOp.mono {o : Oper} {K K' : Fr → AMem → Prop} (hK : ∀ fr m, K fr m → K' fr m) (h : SemOp P o K fr m) : SemOp P o K' fr m := fun n h1 h2 F lim w ca st => by
  obtain ⟨res, v, w', lim', fr', m', a, b, c, d, e⟩ := h n h1 h2 F lim w ca st
  exact ⟨res, v, w', lim', fr', m', a, b, c, d, hK _ _ e⟩

theorem aopR_mono {ops : Array Oper} {stl : List Nat} {o : Oper} {K K' : Fr → AMem → Prop} (hK : ∀ fr m, K fr m → K' fr m) (h : aopR P ops stl o K fr m) : aopR P ops stl o K' fr m := by
  obtain ⟨dst, op, ty, pos, af, gd⟩ := o
  unfold aopR at h ⊢
  simp only at h ⊢
  split at h
  · split at h
    · split at h
      · exact hK _ _ h
      · exact hK _ _ h
      · exact h
    · exact ⟨h.1, fun b hb => hK _ _ (h.2 b hb)⟩
    · have ha := fun h => aop_mono (P := P) (stl := stl) (fr := fr) (m := m) (ops := ops) (o := ⟨dst, op, ty, pos, af, none⟩) (K := K) hK h
      simp only [aop] at ha
      cases hr : ares P m (rawOf fr) stl dst op with
      | val side ss m' x => rw [hr] at h ha; exact ha h
      | eff side ss m' => rw [hr] at h ha; exact ha h
      | new side ss mk ob => rw [hr] at h ha; exact ha h
      | call f args => rw [hr] at h ha; exact ha h
      | stuck => rw [hr] at h; exact SemOp.mono hK h
  · split at h <;> exact hK _ _ h
  · exact h

theorem aopR_sound {ops : Array Oper} {stl : List Nat} {o : Oper} {l : List Oper} {K : Fr → AMem → Prop} (hk : okOper n o = true) (hn : tmpsOk n o = true) (h : aopR P ops stl o (AOps P n ops l K) fr m) : AOps P n ops (o :: l) K fr m := by
  obtain ⟨dst, op, ty, pos, af, gd⟩ := o
  cases hz : gOn ops fr gd with
  | none => simp [aopR, hz] at h
  | some z =>
    cases z with
    | true =>
      rcases aopR_plain hz h with ⟨c, x, y, b, rfl, hc, h⟩ | ⟨t, x, rfl, ht, h⟩ | h | h
      · intro F lim w ca Q st hq
        unfold wpList
        rw [if_pos (wanted_gOn st hz)]
        refine .inl ?_
        have hm : (if b then x else y) ∈ (Op.pick c x y).operands.toList := by cases b <;> simp [Op.operands]
        obtain ⟨_, hcr, rfl⟩ := ev_rep st (okOper_opd hk c (by simp [Op.operands]))
        rw [← evP_eq, hc] at hcr
        have hcv : ca.eval c = .bool b := by
          generalize ca.eval c = v at hcr
          cases hcr
          rfl
        obtain ⟨_, hpr, rfl⟩ := ev_rep st (okOper_opd hk (if b then x else y) hm)
        rw [← evP_eq] at hpr
        refine wp_of_value (v := ca.eval (if b then x else y)) ?_ (h.from hq (st.putO (fun t ht => okOper_dst hk ht) hpr) (.refl _ _ _))
        cases b <;> simp [execOp, hcv, asBool]
      · intro F lim w ca Q st hq
        unfold wpList
        rw [if_pos (wanted_gOn st hz)]
        refine .inl ?_
        obtain ⟨lim', h1, h2, h3⟩ := st.boxOwn (t := t) (x := x) (okOper_opd hk x (by simp [Op.operands])) (tmpsOk_lt hn (by simp [Op.operands])) ht
        refine wp_of_value (v := .pointer (some ⟨w.heap.size, 0, none⟩)) (w' := w.alloc (.cells (ca.eval x).cells t)) (by simp [execOp, Instr.box, newVar, newRow]) ?_
        exact (h _ h1).from hq (h2.putO (fun t ht => okOper_dst hk ht) (.ptr _)) h3
      · have h' := aop_sound (o := ⟨dst, op, ty, pos, af, none⟩) hk hn h
        intro F lim w ca Q st hq
        have := h' F lim w ca Q st hq
        unfold wpList at this ⊢
        rw [if_pos (by simp [Region.wanted])] at this
        rw [if_pos (wanted_gOn st hz)]
        exact this
      · intro F lim w ca Q st hq
        unfold wpList
        rw [if_pos (wanted_gOn st hz)]
        refine .inl ?_
        obtain ⟨res, v, w', lim', fr', m', h1, h2, h3, h4, h5⟩ := h n hk hn F lim w ca st
        rcases h2 with rfl | ⟨rfl, rfl⟩
        · exact wp_of_value h1 (h5.from hq h3 h4)
        · exact wp_of_skip h1 (h5.from hq h3 h4)
    | false =>
      simp only [aopR, hz] at h
      intro F lim w ca Q st hq
      unfold wpList
      rw [if_neg (by rw [wanted_gOn (o := ⟨dst, op, ty, pos, af, gd⟩) st hz]; simp)]
      split at h
      · next d =>
        refine AOps.from h hq ?_ (.refl _ _ _)
        exact st.set (okOper_dst hk rfl) (.lazyF _)
      · refine AOps.from h hq ?_ (.refl _ _ _)
        exact st

theorem aopsR_sound {ops : Array Oper} {stl : List Nat} : ∀ (l : List Oper) {K : Fr → AMem → Prop} {fr : Fr} {m : AMem}, (∀ o ∈ l, okOper n o = true ∧ tmpsOk n o = true) → aopsR P ops stl l K fr m → AOps P n ops l K fr m := by
  intro l
  induction l with
  | nil => intro K fr m _ h; exact AOps.nil h
  | cons o l ih =>
    intro K fr m hk h
    have ho := hk o (by simp)
    exact aopR_sound ho.1 ho.2 (aopR_mono (fun fr m hr => ih (fun o' ho' => hk o' (by simp [ho'])) hr) h)

theorem awp_reg2 {id : Nat} {ops : Array Oper} {Q : Exit → Fr → AMem → Prop} (stl ks : List Nat) (hk : okAll n ops ks = true) (h : ∀ K : Fr → AMem → Prop, (∀ fr m, Q .normal fr m → K fr m) → aopsR P ops stl ops.toList (fun fr m => K (fr.keep ks) m) fr m) : AWP P n (.region id ops false) Q fr m := by
  simp only [okAll, Bool.and_eq_true, List.all_eq_true] at hk
  exact awp_region ks (by simpa [List.all_eq_true] using hk.2) (aopsR_sound _ (fun o ho => by simpa using hk.1 o ho) (h _ fun _ _ h => h))

theorem awp_reg2_seq {id : Nat} {ops : Array Oper} {c : Code} {Q : Exit → Fr → AMem → Prop} (stl ks : List Nat) (hk : okAll n ops ks = true) (h : ∀ K : Fr → AMem → Prop, (∀ fr m, AWP P n c Q fr m → K fr m) → aopsR P ops stl ops.toList (fun fr m => K (fr.keep ks) m) fr m) : AWP P n (.seq (.region id ops false) c) Q fr m :=
  awp_seq_k fun K hK => awp_reg2 stl ks hk fun K' hK' => h K' fun fr m h => hK' _ _ (hK _ _ h)

variable {ops : Array Oper} {stl : List Nat} {r : List Oper} {K : Fr → AMem → Prop} {d : Nat} {ty : TypeId} {pos : String} {af : Array Edge} {gd : Option (Nat × Bool)}

def notPick : Op → Bool
  | .pick _ _ _ => false
  | .box _ _ => false
  | _ => true


/-- Under a guard that is not met. -/
theorem ar_off {op : Op} (hg : gOn ops fr gd = some false) (h : aopsR P ops stl r K (fr.put d (.lazy false .junk)) m) : aopsR P ops stl (⟨some d, op, ty, pos, af, gd⟩ :: r) K fr m := by
  simp only [aopsR, aopR, hg]
  exact h

/-- An operation that only reads, its yield spelled anew. -/
theorem ar_qv {op : Op} {side : Prop} {x x' : AV} (hg : gOn ops fr gd = some true) (hp : notPick op = true) (hop : ares P m (rawOf fr) stl (some d) op = (match qv P m (evP (rawOf fr)) op with | some (side, x) => .val side [] m x | none => .stuck))
    (hq : qv P m (evP (rawOf fr)) op = some (side, x)) (hs : side) (hx : x = x') (h : aopsR P ops stl r K (fr.put d x') m) : aopsR P ops stl (⟨some d, op, ty, pos, af, gd⟩ :: r) K fr m := by
  subst hx
  simp only [aopsR, aopR, hg]
  split
  · simp [notPick] at hp
  · simp [notPick] at hp
  · simp only [hop, hq]
    exact ⟨hs, h⟩

theorem ar_add {T T2 : TypeId} {x y : Operand} {a b : Int} (hg : gOn ops fr gd = some true) (hx : evP (rawOf fr) x = .int .i64 a) (hy : evP (rawOf fr) y = .int .i64 b) (lo : -9223372036854775808 ≤ a + b) (hi : a + b ≤ 9223372036854775807)
    (h : aopsR P ops stl r K (fr.put d (.int .i64 (a + b))) m) : aopsR P ops stl (⟨some d, .binOp .add T x y T2, ty, pos, af, gd⟩ :: r) K fr m :=
  ar_qv (side := True) (x := .int .i64 (IntKind.i64.wrap (a + b))) hg rfl rfl (by simp only [qv, hx, hy, anil, abin, if_true]) trivial (by rw [wrap64 _ lo hi]) h

theorem ar_sub {T T2 : TypeId} {x y : Operand} {a b : Int} (hg : gOn ops fr gd = some true) (hx : evP (rawOf fr) x = .int .i64 a) (hy : evP (rawOf fr) y = .int .i64 b) (lo : -9223372036854775808 ≤ a - b) (hi : a - b ≤ 9223372036854775807)
    (h : aopsR P ops stl r K (fr.put d (.int .i64 (a - b))) m) : aopsR P ops stl (⟨some d, .binOp .sub T x y T2, ty, pos, af, gd⟩ :: r) K fr m :=
  ar_qv (side := True) (x := .int .i64 (IntKind.i64.wrap (a - b))) hg rfl rfl (by simp only [qv, hx, hy, anil, abin, if_true]) trivial (by rw [wrap64 _ lo hi]) h

theorem ar_mul {T T2 : TypeId} {x y : Operand} {a b : Int} (hg : gOn ops fr gd = some true) (hx : evP (rawOf fr) x = .int .i64 a) (hy : evP (rawOf fr) y = .int .i64 b) (lo : -9223372036854775808 ≤ a * b) (hi : a * b ≤ 9223372036854775807)
    (h : aopsR P ops stl r K (fr.put d (.int .i64 (a * b))) m) : aopsR P ops stl (⟨some d, .binOp .mul T x y T2, ty, pos, af, gd⟩ :: r) K fr m :=
  ar_qv (side := True) (x := .int .i64 (IntKind.i64.wrap (a * b))) hg rfl rfl (by simp only [qv, hx, hy, anil, abin, if_true]) trivial (by rw [wrap64 _ lo hi]) h

theorem ar_neg {T : TypeId} {x : Operand} {a : Int} (hg : gOn ops fr gd = some true) (hx : evP (rawOf fr) x = .int .i64 a) (lo : -9223372036854775808 ≤ -a) (hi : -a ≤ 9223372036854775807)
    (h : aopsR P ops stl r K (fr.put d (.int .i64 (-a))) m) : aopsR P ops stl (⟨some d, .unOp .neg T x, ty, pos, af, gd⟩ :: r) K fr m :=
  ar_qv (side := True) (x := .int .i64 (IntKind.i64.wrap (0 - a))) hg rfl rfl (by simp only [qv, hx]) trivial (by rw [Int.zero_sub, wrap64 _ lo hi]) h

theorem ar_toInt {s t : TypeId} {x : Operand} {k : IntKind} {a : Int} (hg : gOn ops fr gd = some true) (h1 : P.underlying t = some (.int .i64)) (hx : evP (rawOf fr) x = .int k a) (hU : isU P s = true) (lo : -9223372036854775808 ≤ a) (hi : a ≤ 9223372036854775807)
    (h : aopsR P ops stl r K (fr.put d (.int .i64 a)) m) : aopsR P ops stl (⟨some d, .convert s t x, ty, pos, af, gd⟩ :: r) K fr m :=
  ar_qv (side := isU P s = true) (x := .int .i64 (IntKind.i64.wrap a)) hg rfl rfl (by simp only [qv, h1, hx]) hU (by rw [wrap64 _ lo hi]) h

theorem ar_toStr (hg : gOn ops fr gd = some true) (xs : List UInt8) {s t e : TypeId} {x : Operand} {own : Bool} {l : List AV} (h1 : P.underlying t = some .string) (hx : evP (rawOf fr) x = .slice own l) (hl : l = xs.map byteAV) (h2 : P.underlying s = some (.slice e)) (h3 : P.underlying e = some (.int .u8))
    (h : aopsR P ops stl r K (fr.put d (.str xs)) m) : aopsR P ops stl (⟨some d, .convert s t x, ty, pos, af, gd⟩ :: r) K fr m := by
  subst hl
  refine ar_qv (side := ∃ e, P.underlying s = some (.slice e) ∧ P.underlying e = some (.int .u8) ∧ ∀ x ∈ xs.map byteAV, ∃ k : Int, x = .int .u8 k) (x := .str ((xs.map byteAV).map byteOf)) hg rfl rfl ?_ ⟨e, h2, h3, fun x hx => ?_⟩ (by rw [map_byteOf]) h
  · simp only [qv, h1, hx]
  · obtain ⟨c, _, rfl⟩ := List.mem_map.1 hx
    exact ⟨_, rfl⟩

/-- A place of a list whose parts are told. -/
theorem ar_index (hg : gOn ops fr gd = some true) {α : Type} [Inhabited α] (f : α → AV) (xs : List α) (k : Int) {own : Bool} {kd : IntKind} {t e : TypeId} {x i : Operand} {l : List AV} (ht : P.underlying t = some (.slice e)) (hx : evP (rawOf fr) x = .slice own l) (hl : l = xs.map f) (hi : evP (rawOf fr) i = .int kd k)
    (hU : isU P e = true) (hc : P.cellsOf e ≠ 0) (hf : ∀ a, (f a).cells.length = P.cellsOf e) (h0 : 0 ≤ k) (h1 : k < xs.length) (h : aopsR P ops stl r K (fr.put d (.ref (f (gI xs k)).cells)) m) :
    aopsR P ops stl (⟨some d, .indexAddr t x i, ty, pos, af, gd⟩ :: r) K fr m := by
  subst hl
  refine ar_qv (side := isU P e = true ∧ P.cellsOf e ≠ 0 ∧ 0 ≤ k ∧ k < (xs.map f).length ∧ ((xs.map f).getD k.toNat .junk).cells.length = P.cellsOf e) (x := .ref ((xs.map f).getD k.toNat .junk).cells) hg rfl rfl ?_ ⟨hU, hc, h0, by simpa using h1, by rw [idx_eq f xs k h0 h1]; exact hf _⟩ (by rw [idx_eq f xs k h0 h1]) h
  simp only [qv, ht, hx, hi]

/-- How long a list is, whose parts are told. -/
theorem ar_len (hg : gOn ops fr gd = some true) {α : Type} (f : α → AV) (xs : List α) {own : Bool} {t e : TypeId} {x : Operand} {l : List AV} (ht : P.underlying t = some (.slice e)) (hx : evP (rawOf fr) x = .slice own l) (hl : l = xs.map f)
    (h : aopsR P ops stl r K (fr.put d (.int .i64 xs.length)) m) : aopsR P ops stl (⟨some d, .call ⟨.builtin .len, #[x], #[t]⟩, ty, pos, af, gd⟩ :: r) K fr m := by
  subst hl
  exact ar_qv (side := True) (x := .int .i64 (xs.map f).length) hg rfl rfl (by simp [qv, ht, hx]) trivial (by simp) h

/-- A part of a list whose parts are told. -/
theorem ar_slice (hg : gOn ops fr gd = some true) {α : Type} (f : α → AV) (xs : List α) (p q : Int) {own : Bool} {t e : TypeId} {x : Operand} {lo hi : Option Operand} {l : List AV} (ht : P.underlying t = some (.slice e)) (hx : evP (rawOf fr) x = .slice own l) (hl : l = xs.map f)
    (hp : asn (lo.map (evP (rawOf fr))) 0 = some p) (hq : asn (hi.map (evP (rawOf fr))) l.length = some q) (hU : isU P e = true) (hf : ∀ a, (f a).cells.length = P.cellsOf e) (h0 : 0 ≤ p) (h1 : p ≤ q) (h2 : q ≤ xs.length)
    (h : aopsR P ops stl r K (fr.put d (.slice false ((sub xs p q).map f))) m) : aopsR P ops stl (⟨some d, .slice t x lo hi none, ty, pos, af, gd⟩ :: r) K fr m := by
  subst hl
  refine ar_qv (side := isU P e = true ∧ 0 ≤ p ∧ p ≤ q ∧ q ≤ (xs.map f).length ∧ ∀ x ∈ xs.map f, x.cells.length = P.cellsOf e) (x := .slice false (((xs.map f).drop p.toNat).take (q - p).toNat)) hg rfl rfl ?_ ⟨hU, h0, h1, by simpa using h2, fun x hx => ?_⟩ (by rw [sub, ← List.map_drop, ← List.map_take]) h
  · simp only [qv, ht, hx, hp, hq]
  · obtain ⟨a, _, rfl⟩ := List.mem_map.1 hx
    exact hf a

/-- More parts behind a list. -/
theorem ar_append (hg : gOn ops fr gd = some true) {α : Type} (f : α → AV) (xs ys : List α) {own : Bool} {t e : TypeId} {s : Nat} {y : Operand} {l l' : List AV} (ht : P.underlying t = some (.slice e)) (hx : rawOf fr s = .slice true l) (hl : l = xs.map f) (hy : evP (rawOf fr) y = .slice own l') (hl' : l' = ys.map f)
    (hU : isU P e = true) (hc : 0 < P.cellsOf e) (hz : zOk P e = true) (hb : (xs.length + ys.length) * P.bytesOf e ≤ 140737488355328) (hb1 : xs.length + ys.length ≤ 140737488355328) (hf : ∀ a, (f a).cells.length = P.cellsOf e ∧ (f a).cells.all AV.one = true)
    (h : aopsR P ops stl r K ((fr.put s (.slice false (xs.map f))).put d (.slice true ((xs ++ ys).map f))) m) : aopsR P ops stl (⟨some d, .call ⟨.builtin .append, #[.tmp s, y], #[t, t]⟩, ty, pos, af, gd⟩ :: r) K fr m := by
  subst hl hl'
  simp only [aopsR, aopR, hg, ares, ht, hx, hy]
  refine ⟨⟨trivial, hU, hc, hz, by simpa using hb, by simpa using hb1, fun x hx => ?_, fun x hx => ?_⟩, ?_⟩
  · obtain ⟨a, _, rfl⟩ := List.mem_map.1 hx
    exact (hf a).1
  · obtain ⟨a, _, rfl⟩ := List.mem_map.1 hx
    exact hf a
  · simp only [Fr.strip, hx, AV.plain, putO, ← List.map_append]
    exact h

/-- .. behind nothing. -/
theorem ar_append0 (hg : gOn ops fr gd = some true) {α : Type} (f : α → AV) (ys : List α) {own : Bool} {t e : TypeId} {y : Operand} {l' : List AV} (ht : P.underlying t = some (.slice e)) (hy : evP (rawOf fr) y = .slice own l') (hl' : l' = ys.map f)
    (hU : isU P e = true) (hc : 0 < P.cellsOf e) (hz : zOk P e = true) (hb : ys.length * P.bytesOf e ≤ 140737488355328) (hf : ∀ a, (f a).cells.length = P.cellsOf e ∧ (f a).cells.all AV.one = true)
    (h : aopsR P ops stl r K (fr.put d (.slice true (ys.map f))) m) : aopsR P ops stl (⟨some d, .call ⟨.builtin .append, #[.const (.slice none 0 0), y], #[t, t]⟩, ty, pos, af, gd⟩ :: r) K fr m := by
  subst hl'
  simp only [aopsR, aopR, hg, ares, ht, hy]
  refine ⟨⟨trivial, hU, hc, hz, by simpa using hb, fun x hx => ?_⟩, h⟩
  obtain ⟨a, _, rfl⟩ := List.mem_map.1 hx
  exact hf a

/-- An error against none. -/
theorem ar_eqNil {T T2 Te : TypeId} {x : Operand} {e : Int} (hg : gOn ops fr gd = some true) (hT : (match P.underlying T with | some (.interface _) => true | _ => false) = true) (hx : evP (rawOf fr) x = oneOf Te e) (h : aopsR P ops stl r K (fr.put d (.bool (e == 0))) m) :
    aopsR P ops stl (⟨some d, .binOp .eql T x (.const .nilIface) T2, ty, pos, af, gd⟩ :: r) K fr m := by
  obtain ⟨⟨side, h1, h2⟩, _⟩ := qv_eqNil (P := P) (m := m) (T2 := T2) hx rfl (e == 0) (oneOf_cases Te e) hT
  exact ar_qv hg rfl rfl h1 h2 rfl h

theorem ar_neNil {T T2 Te : TypeId} {x : Operand} {e : Int} (hg : gOn ops fr gd = some true) (hT : (match P.underlying T with | some (.interface _) => true | _ => false) = true) (hx : evP (rawOf fr) x = oneOf Te e) (h : aopsR P ops stl r K (fr.put d (.bool (!(e == 0)))) m) :
    aopsR P ops stl (⟨some d, .binOp .neq T x (.const .nilIface) T2, ty, pos, af, gd⟩ :: r) K fr m := by
  obtain ⟨_, side, h1, h2⟩ := qv_eqNil (P := P) (m := m) (T2 := T2) hx rfl (e == 0) (oneOf_cases Te e) hT
  exact ar_qv hg rfl rfl h1 h2 rfl h

/-- A frame that reads otherwise what it reads. -/
theorem St.conv {fr' : Fr} (h : St F lim w n fr m ca fl) (hc : ∀ t x', fr'.get t = some x' → ∃ x, fr.get t = some x ∧ ∀ v os, Rep w lim v x os → Rep w lim v x' os) : St F lim w n fr' m ca fl := by
  obtain ⟨os, om, ow, h⟩ := h
  refine ⟨os, om, ow, h.size, h.defers, fun t x hx => ?_, h.mem, fun t x hx => ?_, h.ownM, h.ownF, h.free, h.fresh⟩
  · obtain ⟨y, hy, hr⟩ := hc t x hx
    exact ⟨(h.slots t y hy).1, hr _ _ (h.slots t y hy).2⟩
  · obtain ⟨y, hy, hr⟩ := hc t x hx
    exact h.ownS t y hy

def AV.toErr (T : TypeId) : AV → AV
  | .nilIface => .err T 0
  | .iface u (.int .i64 c) => if u = T ∧ c ≠ 0 then .err T c else .iface u (.int .i64 c)
  | x => x

theorem toErr_rep (T : TypeId) {v : Value} {x : AV} {os : List Nat} (h : Rep w lim v x os) : Rep w lim v (x.toErr T) os := by
  cases h with
  | nilIface => exact .errN T
  | iface t v x h =>
    unfold AV.toErr
    split
    · next he => cases he
    · next u c he =>
      cases he
      split
      · next hc =>
        obtain ⟨rfl, h0⟩ := hc
        cases h with
        | int _ _ lo hi => exact .errS _ _ h0 lo hi
      · exact .iface _ _ _ h
    · exact .iface _ _ _ h
  | bool b => exact .bool b
  | int k n lo hi => exact .int k n lo hi
  | str s h => exact .str s h
  | ptr a => exact .ptr a
  | nilptr => exact .nilptr
  | ref b off l cv h1 h2 h3 => exact .ref b off l cv h1 h2 h3
  | nils own => exact .nils own
  | empty a cap hm => exact .empty a cap hm
  | slice b off n cap sz l cv hn hcap hm hbig hsz hlim hc hr => exact .slice b off n cap sz l cv hn hcap hm hbig hsz hlim hc hr
  | own b n cap sz l cv cur e hn hcap hm hbig h0 hb hcur hsz hlim hc hr => exact .own b n cap sz l cv cur e hn hcap hm hbig h0 hb hcur hsz hlim hc hr
  | ms a len cap h hm => exact .ms a len cap h hm
  | map b => exact .map b
  | nilmap => exact .nilmap
  | func fn f c fl cl hf hc hrf hrc => exact .func fn f c fl cl hf hc hrf hrc
  | nilfunc => exact .nilfunc
  | errN t => exact .errN t
  | errS t e h lo hi => exact .errS t e h lo hi
  | optN => exact .optN
  | optS t v => exact .optS t v
  | agg cs xs os h hr => exact .agg cs xs os h hr
  | tuple cs xs os h hr => exact .tuple cs xs os h hr
  | lazyT v x os h => exact .lazyT v x os h
  | lazyF x => exact .lazyF x
  | junk v => exact .junk v

def Fr.toErr (T : TypeId) (ts : List Nat) (fr : Fr) : Fr := fr.map fun p => if ts.contains p.1 then (p.1, p.2.toErr T) else p

theorem Fr.get_toErr (T : TypeId) (ts : List Nat) (t : Nat) : ∀ fr : Fr, (Fr.toErr T ts fr).get t = if ts.contains t then (fr.get t).map (AV.toErr T) else fr.get t := by
  intro fr
  induction fr with
  | nil => simp [Fr.toErr, Fr.get]
  | cons p fr ih =>
    obtain ⟨s, x⟩ := p
    unfold Fr.toErr at ih ⊢
    rw [List.map_cons]
    by_cases hc : ts.contains s
    · rw [if_pos hc]
      simp only [Fr.get]
      by_cases hs : s = t
      · subst hs; rw [if_pos rfl, if_pos hc, if_pos rfl]; rfl
      · rw [if_neg hs, if_neg hs, ih]
    · rw [if_neg hc]
      simp only [Fr.get]
      by_cases hs : s = t
      · subst hs; rw [if_pos rfl, if_neg hc, if_pos rfl]
      · rw [if_neg hs, if_neg hs, ih]

theorem awp_toErr {c : Code} {Q : Exit → Fr → AMem → Prop} (T : TypeId) (ts : List Nat) (h : AWP P n c Q (fr.toErr T ts) m) : AWP P n c Q fr m :=
  fun F lim w ca st => h F lim w ca (st.conv fun t x' hx => by
    rw [Fr.get_toErr] at hx
    split at hx
    · cases hg : fr.get t with
      | none => rw [hg] at hx; cases hx
      | some x =>
        rw [hg] at hx
        cases hx
        exact ⟨x, rfl, fun v os hr => toErr_rep T hr⟩
    · exact ⟨x', hx, fun v os hr => hr⟩)

/-- A draw whose end stands behind all that it reads. -/
theorem awp_draw_tail2 {id : Nat} {ops : Array Oper} {Q : Exit → Fr → AMem → Prop} (hm : P.follows .mixedOrders = true) (p : Nat) (al : List (Nat × Nat)) (cs : List AV) (stl ks : List Nat) (hk : okAll n ops ks = true) (hd : drawTail ops p al = true)
    (h : ∀ K : Fr → AMem → Prop, (∀ fr m, Q .normal fr m → K fr m) → pseq P ops m cs (ops.toList.take p) fr (fun fr' => aopsR P ops stl (ops.toList.drop p) (fun fr m => K (fr.keep ks) m) (fr'.alias al) m)) : AWP P n (.region id ops true) Q fr m :=
  awp_draw_tail0 hm p al cs ks hk hd (pseq_mono _ (fun fr h => aopsR_sound _ (okAll_drop p hk) h) (h _ fun _ _ h => h))

theorem awp_draw_tail2_seq {id : Nat} {ops : Array Oper} {c : Code} {Q : Exit → Fr → AMem → Prop} (hm : P.follows .mixedOrders = true) (p : Nat) (al : List (Nat × Nat)) (cs : List AV) (stl ks : List Nat) (hk : okAll n ops ks = true) (hd : drawTail ops p al = true)
    (h : ∀ K : Fr → AMem → Prop, (∀ fr m, AWP P n c Q fr m → K fr m) → pseq P ops m cs (ops.toList.take p) fr (fun fr' => aopsR P ops stl (ops.toList.drop p) (fun fr m => K (fr.keep ks) m) (fr'.alias al) m)) : AWP P n (.seq (.region id ops true) c) Q fr m :=
  awp_seq_k fun K hK => awp_draw_tail2 hm p al cs stl ks hk hd fun K' hK' => h K' fun fr m h => hK' _ _ (hK _ _ h)

/-- A number cut to a byte. -/
def u8w (a : Int) : UInt8 := UInt8.ofNat (IntKind.u8.wrap a).toNat

theorem u8w_toNat (a : Int) : ((u8w a).toNat : Int) = IntKind.u8.wrap a := by
  have h1 := (wrap_min .u8 a).1
  have h2 := (wrap_min .u8 a).2
  simp [IntKind.min, IntKind.max, IntKind.signed, IntKind.bits] at h1 h2
  simp [u8w]
  omega

theorem ar_toU8 (hg : gOn ops fr gd = some true) {s t : TypeId} {x : Operand} {k : IntKind} {a : Int} (h1 : P.underlying t = some (.int .u8)) (hx : evP (rawOf fr) x = .int k a) (hU : isU P s = true)
    (h : aopsR P ops stl r K (fr.put d (.int .u8 (u8w a).toNat)) m) : aopsR P ops stl (⟨some d, .convert s t x, ty, pos, af, gd⟩ :: r) K fr m :=
  ar_qv (side := isU P s = true) (x := .int .u8 (IntKind.u8.wrap a)) hg rfl rfl (by simp only [qv, h1, hx]) hU (by rw [u8w_toNat]) h

variable {cs : List AV} {KK : Fr → Prop}

theorem pq_toU8 (hg : gOn ops fr gd = some true) {s t : TypeId} {x : Operand} {k : IntKind} {a : Int} (h1 : P.underlying t = some (.int .u8)) (hx : evP (rawOf fr) x = .int k a) (hU : isU P s = true)
    (h : pseq P ops m cs r (fr.put d (.int .u8 (u8w a).toNat)) KK) : pseq P ops m cs (⟨some d, .convert s t x, ty, pos, af, gd⟩ :: r) fr KK :=
  pq_qv hg (side := isU P s = true) (x := .int .u8 (IntKind.u8.wrap a)) rfl (by simp only [qv, h1, hx]) hU (by rw [u8w_toNat]) h

theorem pq_toInt (hg : gOn ops fr gd = some true) {s t : TypeId} {x : Operand} {k : IntKind} {a : Int} (h1 : P.underlying t = some (.int .i64)) (hx : evP (rawOf fr) x = .int k a) (hU : isU P s = true) (lo : -9223372036854775808 ≤ a) (hi : a ≤ 9223372036854775807)
    (h : pseq P ops m cs r (fr.put d (.int .i64 a)) KK) : pseq P ops m cs (⟨some d, .convert s t x, ty, pos, af, gd⟩ :: r) fr KK :=
  pq_qv hg (side := isU P s = true) (x := .int .i64 (IntKind.i64.wrap a)) rfl (by simp only [qv, h1, hx]) hU (by rw [wrap64 _ lo hi]) h

theorem pq_toStr (hg : gOn ops fr gd = some true) (xs : List UInt8) {s t e : TypeId} {x : Operand} {own : Bool} {l : List AV} (h1 : P.underlying t = some .string) (hx : evP (rawOf fr) x = .slice own l) (hl : l = xs.map byteAV) (h2 : P.underlying s = some (.slice e)) (h3 : P.underlying e = some (.int .u8))
    (h : pseq P ops m cs r (fr.put d (.str xs)) KK) : pseq P ops m cs (⟨some d, .convert s t x, ty, pos, af, gd⟩ :: r) fr KK := by
  subst hl
  refine pq_qv hg (side := ∃ e, P.underlying s = some (.slice e) ∧ P.underlying e = some (.int .u8) ∧ ∀ x ∈ xs.map byteAV, ∃ k : Int, x = .int .u8 k) (x := .str ((xs.map byteAV).map byteOf)) rfl ?_ ⟨e, h2, h3, fun x hx => ?_⟩ (by rw [map_byteOf]) h
  · simp only [qv, h1, hx]
  · obtain ⟨c, _, rfl⟩ := List.mem_map.1 hx
    exact ⟨_, rfl⟩

theorem pq_mul (hg : gOn ops fr gd = some true) {T T2 : TypeId} {x y : Operand} {a b : Int} (hx : evP (rawOf fr) x = .int .i64 a) (hy : evP (rawOf fr) y = .int .i64 b) (lo : -9223372036854775808 ≤ a * b) (hi : a * b ≤ 9223372036854775807)
    (h : pseq P ops m cs r (fr.put d (.int .i64 (a * b))) KK) : pseq P ops m cs (⟨some d, .binOp .mul T x y T2, ty, pos, af, gd⟩ :: r) fr KK :=
  pq_qv hg (side := True) (x := .int .i64 (IntKind.i64.wrap (a * b))) rfl (by simp only [qv, hx, hy, anil, abin, if_true]) trivial (by rw [wrap64 _ lo hi]) h

theorem pq_neg (hg : gOn ops fr gd = some true) {T : TypeId} {x : Operand} {a : Int} (hx : evP (rawOf fr) x = .int .i64 a) (lo : -9223372036854775808 ≤ -a) (hi : -a ≤ 9223372036854775807)
    (h : pseq P ops m cs r (fr.put d (.int .i64 (-a))) KK) : pseq P ops m cs (⟨some d, .unOp .neg T x, ty, pos, af, gd⟩ :: r) fr KK :=
  pq_qv hg (side := True) (x := .int .i64 (IntKind.i64.wrap (0 - a))) rfl (by simp only [qv, hx]) trivial (by rw [Int.zero_sub, wrap64 _ lo hi]) h

end
end Go.Aw
