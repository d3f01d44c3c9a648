/-
  The abstract layer, part 4: the operations that only read do what 'qv' says.
-/
import Derived.Test.YtoeghipbkmaccaaWwC
namespace Go.Aw
open Go

theorem wrap_min (k : IntKind) (n : Int) : k.min ≤ k.wrap n ∧ k.wrap n ≤ k.max := by
  cases k <;> simp [IntKind.min, IntKind.max, IntKind.wrap, IntKind.signed, IntKind.bits] <;> (repeat' split) <;> omega

theorem wrap_of_range (k : IntKind) (n : Int) (h1 : k.min ≤ n) (h2 : n ≤ k.max) : k.wrap n = n := by
  cases k <;> simp [IntKind.min, IntKind.max, IntKind.wrap, IntKind.signed, IntKind.bits] at * <;> (repeat' split) <;> omega

section
variable {P : Program} {w : World} {lim : Nat → Nat}

theorem run_und {t : TypeId} {d : TypeDesc} (h : P.underlying t = some d) : (underlying t).run P w = .ok d w := run_underlying h w

theorem run_size {t : TypeId} (h : isU P t = true) : (sizeOf t).run P w = .ok (P.cellsOf t) w := by
  cases hi : P.info? t with
  | none => simp [isU, Program.underlying, hi] at h
  | some i => simp [sizeOf, typeInfo, hi, Program.cellsOf]

theorem run_isAgg {t : TypeId} (h : isU P t = true) : (isAgg t).run P w = .ok (aggT P t) w := by
  cases hd : P.underlying t with
  | none => simp [isU, hd] at h
  | some d => simp [isAgg, run_und hd, aggT, hd]; cases d <;> simp

theorem run_iface_eq (d : Nat) {t u u' : TypeId} {k : IntKind} {a b : Int} (ht : (match P.underlying t with | some (.interface _) => true | _ => false) = true)
    (hu : P.underlying u = some (.int k)) (hc : (P.info? u).map (·.comparable) = some true) :
    (Op.equalIn (d + 2) t (.iface u (.int k a)) (.iface u' (.int k b))).run P w = .ok (u == u' && a == b) w := by
  cases hd : P.underlying t with
  | none => simp [hd] at ht
  | some e =>
    cases e <;> simp [hd] at ht
    rename_i ms
    cases hi : P.info? u with
    | none => simp [hi] at hc
    | some i =>
      have hcmp : i.comparable = true := by simpa [hi] using hc
      by_cases e : u = u'
      · subst e
        simp [Op.equalIn, run_und hd, typeInfo, hi, hcmp, run_und hu]
      · simp [Op.equalIn, run_und hd, e]

theorem str_inj {s : ByteArray} {l : List UInt8} (h : s.data.toList = l) : s.toList = l := (ByteArray.toList_eq s).trans h

theorem equal_succ (t : TypeId) (x y : Value) : Op.equal t x y = Op.equalIn (9999 + 1) t x y := rfl

theorem run_eq_nilL0 (d : Nat) {t : TypeId} {u : TypeId} {v : Value} (ht : (match P.underlying t with | some (.interface _) => true | _ => false) = true) : (Op.equalIn (d + 1) t .nilIface (.iface u v)).run P w = .ok false w := by
  cases hd : P.underlying t with
  | none => simp [hd] at ht
  | some e => cases e <;> simp [hd] at ht; simp [Op.equalIn, run_und hd]

theorem run_eq_nilL {t : TypeId} {u : TypeId} {v : Value} (ht : (match P.underlying t with | some (.interface _) => true | _ => false) = true) : (Op.equal t .nilIface (.iface u v)).run P w = .ok false w := run_eq_nilL0 9999 ht

theorem run_eq_nilR0 (d : Nat) {t : TypeId} {u : TypeId} {v : Value} (ht : (match P.underlying t with | some (.interface _) => true | _ => false) = true) : (Op.equalIn (d + 1) t (.iface u v) .nilIface).run P w = .ok false w := by
  cases hd : P.underlying t with
  | none => simp [hd] at ht
  | some e => cases e <;> simp [hd] at ht; simp [Op.equalIn, run_und hd]

theorem run_eq_nilR {t : TypeId} {u : TypeId} {v : Value} (ht : (match P.underlying t with | some (.interface _) => true | _ => false) = true) : (Op.equal t (.iface u v) .nilIface).run P w = .ok false w := run_eq_nilR0 9999 ht

theorem run_eq_nilN0 (d : Nat) {t : TypeId} (ht : (match P.underlying t with | some (.interface _) => true | _ => false) = true) : (Op.equalIn (d + 1) t .nilIface .nilIface).run P w = .ok true w := by
  cases hd : P.underlying t with
  | none => simp [hd] at ht
  | some e => cases e <;> simp [hd] at ht; simp [Op.equalIn, run_und hd]

theorem run_eq_nilN {t : TypeId} (ht : (match P.underlying t with | some (.interface _) => true | _ => false) = true) : (Op.equal t .nilIface .nilIface).run P w = .ok true w := run_eq_nilN0 9999 ht

theorem run_eq_ptrL0 (d : Nat) {t : TypeId} {a : Addr} (ht : (match P.underlying t with | some (.pointer _) => true | _ => false) = true) : (Op.equalIn (d + 1) t (.pointer (some a)) (.pointer none)).run P w = .ok false w := by
  cases hd : P.underlying t with
  | none => simp [hd] at ht
  | some e => cases e <;> simp [hd] at ht; simp [Op.equalIn, run_und hd]

theorem run_eq_ptrL {t : TypeId} {a : Addr} (ht : (match P.underlying t with | some (.pointer _) => true | _ => false) = true) : (Op.equal t (.pointer (some a)) (.pointer none)).run P w = .ok false w := run_eq_ptrL0 9999 ht

theorem run_eq_ptrR0 (d : Nat) {t : TypeId} {a : Addr} (ht : (match P.underlying t with | some (.pointer _) => true | _ => false) = true) : (Op.equalIn (d + 1) t (.pointer none) (.pointer (some a))).run P w = .ok false w := by
  cases hd : P.underlying t with
  | none => simp [hd] at ht
  | some e => cases e <;> simp [hd] at ht; simp [Op.equalIn, run_und hd]

theorem run_eq_ptrR {t : TypeId} {a : Addr} (ht : (match P.underlying t with | some (.pointer _) => true | _ => false) = true) : (Op.equal t (.pointer none) (.pointer (some a))).run P w = .ok false w := run_eq_ptrR0 9999 ht

theorem run_eq_ptrN0 (d : Nat) {t : TypeId} (ht : (match P.underlying t with | some (.pointer _) => true | _ => false) = true) : (Op.equalIn (d + 1) t (.pointer none) (.pointer none)).run P w = .ok true w := by
  cases hd : P.underlying t with
  | none => simp [hd] at ht
  | some e => cases e <;> simp [hd] at ht; simp [Op.equalIn, run_und hd]

theorem run_eq_ptrN {t : TypeId} (ht : (match P.underlying t with | some (.pointer _) => true | _ => false) = true) : (Op.equal t (.pointer none) (.pointer none)).run P w = .ok true w := run_eq_ptrN0 9999 ht

theorem run_eq_bool0 (d : Nat) {t : TypeId} {a b : Bool} (ht : P.underlying t = some .bool) : (Op.equalIn (d + 1) t (.bool a) (.bool b)).run P w = .ok (a == b) w := by
  simp [Op.equalIn, run_und ht]

theorem run_eq_bool {t : TypeId} {a b : Bool} (ht : P.underlying t = some .bool) : (Op.equal t (.bool a) (.bool b)).run P w = .ok (a == b) w := run_eq_bool0 9999 ht

theorem run_iface_eq' {t u u' : TypeId} {k : IntKind} {a b : Int} (ht : (match P.underlying t with | some (.interface _) => true | _ => false) = true)
    (hu : P.underlying u = some (.int k)) (hc : (P.info? u).map (·.comparable) = some true) :
    (Op.equal t (.iface u (.int k a)) (.iface u' (.int k b))).run P w = .ok (u == u' && a == b) w := run_iface_eq 9998 ht hu hc

theorem aeq1_sound {t : TypeId} {vx vy : Value} {x y : AV} {side : Prop} {b : Bool} (d : Nat) (h : aeq1 P t x y = some (side, b)) (hs : side) {ox oy : List Nat} (hx : Rep w lim vx x ox) (hy : Rep w lim vy y oy) :
    (Op.equalIn (d + 1) t vx vy).run P w = .ok b w ∧ aggT P t = false := by
  unfold aeq1 at h
  split at h
  · simp only [Option.some.injEq, Prod.mk.injEq] at h
    obtain ⟨rfl, rfl⟩ := h
    obtain ⟨rfl, ht⟩ := hs
    cases hx
    cases hy
    exact ⟨run_equalIn_int w d t _ _ _ _ ht, by simp [aggT, ht]⟩
  · simp only [Option.some.injEq, Prod.mk.injEq] at h
    obtain ⟨rfl, rfl⟩ := h
    cases hx
    cases hy
    refine ⟨?_, by simp [aggT, hs]⟩
    rw [run_equalIn_string w d t _ _ hs, ByteArray.toList_eq, ByteArray.toList_eq]
  · simp only [Option.some.injEq, Prod.mk.injEq] at h
    obtain ⟨rfl, rfl⟩ := h
    cases hx
    cases hy
    exact ⟨run_equalIn_bool' w d t _ _ hs, by simp [aggT, hs]⟩
  · cases h

theorem aeq1_isU {t : TypeId} {x y : AV} {side : Prop} {b : Bool} (h : aeq1 P t x y = some (side, b)) (hs : side) : isU P t = true := by
  unfold aeq1 at h
  split at h
  · simp only [Option.some.injEq, Prod.mk.injEq] at h
    obtain ⟨rfl, rfl⟩ := h
    simp [isU, hs.2]
  · simp only [Option.some.injEq, Prod.mk.injEq] at h
    obtain ⟨rfl, rfl⟩ := h
    simp [isU, hs]
  · simp only [Option.some.injEq, Prod.mk.injEq] at h
    obtain ⟨rfl, rfl⟩ := h
    simp [isU, hs]
  · cases h

theorem aeq1_ne {t : TypeId} {x y : AV} {r : Prop × Bool} (h : aeq1 P t x y = some r) : x ≠ .junk ∧ y ≠ .junk := by
  unfold aeq1 at h
  split at h
  · exact ⟨(nomatch ·), (nomatch ·)⟩
  · exact ⟨(nomatch ·), (nomatch ·)⟩
  · exact ⟨(nomatch ·), (nomatch ·)⟩
  · cases h

theorem getD_ne_junk {l : List AV} {i : Nat} (h : l.getD i .junk ≠ .junk) : i < l.length := by
  by_cases hi : i < l.length
  · exact hi
  · exact (h (by simp [List.getD, List.getElem?_eq_none (Nat.not_lt.1 hi)])).elim

theorem run_part1 {t : TypeId} {cs : Array Value} {k : Nat} (hu : isU P t = true) (ha : aggT P t = false) (hk : k < cs.size) : (part t cs k).run P w = .ok (cs.getD k undef) w := by
  have this : cs[k]? = some (cs.getD k undef) := by simp [Array.getD, hk]
  unfold part
  simp only [Sem.run_bind, run_isAgg hu, ha, Result.andThen_ok, this]
  rfl

theorem aeqs_sound {cx cy : Array Value} {xs ys : List AV} (hx : cx.size = xs.length) (hy : cy.size = ys.length) {ox oy : Nat → List Nat} (rx : ∀ i, i < xs.length → Rep w lim (cx.getD i undef) (xs.getD i .junk) (ox i)) (ry : ∀ i, i < ys.length → Rep w lim (cy.getD i undef) (ys.getD i .junk) (oy i)) (d : Nat) :
    ∀ (fs : List Field) {side : Prop} {b : Bool}, aeqs P xs ys fs = some (side, b) → side → (Op.eqFields (d + 1) cx cy fs).run P w = .ok b w := by
  intro fs
  induction fs with
  | nil =>
    intro side b h hs
    simp only [aeqs, Option.some.injEq, Prod.mk.injEq] at h
    rw [← h.2]; rfl
  | cons f fs ih =>
    intro side b h hs
    unfold aeqs at h
    split at h
    · next s b1 s' b2 h1 h2 =>
      simp only [Option.some.injEq, Prod.mk.injEq] at h
      obtain ⟨rfl, rfl⟩ := h
      obtain ⟨hs1, hn, hs2⟩ := hs
      obtain ⟨n1, n2⟩ := aeq1_ne h1
      have l1 := getD_ne_junk n1
      have l2 := getD_ne_junk n2
      have hu := aeq1_isU h1 hs1
      obtain ⟨e1, e2⟩ := aeq1_sound d h1 hs1 (rx _ l1) (ry _ l2)
      have p1 := run_part1 (P := P) (w := w) hu e2 (show f.offset < cx.size by omega)
      have p2 := run_part1 (P := P) (w := w) hu e2 (show f.offset < cy.size by omega)
      simp only [Op.eqFields, if_pos hn, Sem.run_bind, p1, p2, e1, Result.andThen_ok, Sem.run_ite, Sem.run_pure]
      cases b1 with
      | true => simpa using ih h2 hs2
      | false => simp
    · cases h

theorem abin_struct {t : TypeId} {ox oy : Operand} {fs : Array Field} {vx vy : Value} {xs ys : List AV} {side : Prop} {b : Bool} (ht : P.underlying t = some (.struct fs)) (hst : P.stoodInHeld t = false) (hg : P.eqGuardType P.depth t = false)
    (h : aeqs P xs ys fs.toList = some (side, b)) (hs : side) {o o' : List Nat} (hx : Rep w lim vx (.agg xs) o) (hy : Rep w lim vy (.agg ys) o') :
    (do eqGuard .eql t ox oy vx vy; binOp .eql t vx vy : Sem Value).run P w = .ok (.bool b) w ∧ (do eqGuard .neq t ox oy vx vy; binOp .neq t vx vy : Sem Value).run P w = .ok (.bool (!b)) w := by
  cases hx with
  | agg cx _ os1 h1 r1 =>
    cases hy with
    | agg cy _ os2 h2 r2 =>
      have hf : P.fieldsOf t = fs := by simp [Program.fieldsOf, ht]
      have key := aeqs_sound h1 h2 r1 r2 9998 _ h hs
      have he : (Op.equalIn 10000 t (.agg cx) (.agg cy)).run P w = .ok b w := by
        rw [run_equalIn_struct w 9999 t cx cy (by rw [hf]; exact ht) hst, hf]; exact key
      constructor
      · simp only [Sem.run_bind, run_eqGuard_agg w _ t ox oy cx cy hg, Result.andThen_ok, run_eql_struct, he]
      · simp only [Sem.run_bind, run_eqGuard_agg w _ t ox oy cx cy hg, Result.andThen_ok, run_neq_struct, he]

set_option maxHeartbeats 4000000 in
theorem abin_sound {op : BinOp} {t : TypeId} {ox oy : Operand} {vx vy : Value} {x y r : AV} {side : Prop} (h : abin P op t x y = some (side, r)) (hs : side)
    (hx : Rep w lim vx x []) (hy : Rep w lim vy y []) : ∃ v, (do eqGuard op t ox oy vx vy; binOp op t vx vy : Sem Value).run P w = .ok v w ∧ Rep w lim v r [] := by
  unfold abin at h
  split at h
  case h_17 =>
    simp only [Option.some.injEq, Prod.mk.injEq] at h
    obtain ⟨rfl, rfl⟩ := h
    cases hx with | str s hs1 =>
    cases hy with | str s' hs2 =>
    have hsz : s.size + s'.size ≤ 140737488355328 := by simpa using hs
    refine ⟨.string (s ++ s'), ?_, ?_⟩
    · simp [eqGuard, binOp, run_string_add_sum w s s' (by omega)]
    · have := Rep.str (w := w) (lim := lim) (s ++ s') (by simpa using hsz)
      simpa using this
  case h_9 =>
    simp only [Option.some.injEq, Prod.mk.injEq] at h
    obtain ⟨rfl, rfl⟩ := h
    cases hx with | int k a lo hi =>
    cases hy with | int k' b lo' hi' =>
    have hb := Int.not_lt.2 hs
    refine ⟨_, ?_, .int _ _ (wrap_min _ _).1 (wrap_min _ _).2⟩
    simp [eqGuard, binOp, Op.shift, hb]
  case h_10 =>
    simp only [Option.some.injEq, Prod.mk.injEq] at h
    obtain ⟨rfl, rfl⟩ := h
    cases hx with | int k a lo hi =>
    cases hy with | int k' b lo' hi' =>
    obtain ⟨hb0, hlo, hhi⟩ := hs
    have hb := Int.not_lt.2 hb0
    refine ⟨_, ?_, .int _ _ hlo hhi⟩
    simp [eqGuard, binOp, Op.shift, hb]
  case h_42 =>
    split at h
    · next fs hfs =>
      obtain ⟨p, hp, h⟩ := Option.map_eq_some_iff.1 h
      obtain ⟨ps, pb⟩ := p
      simp only [Prod.mk.injEq] at h
      obtain ⟨rfl, rfl⟩ := h
      exact ⟨_, (abin_struct hfs hs.1 hs.2.1 hp hs.2.2 hx hy).1, .bool _⟩
    · cases h
  case h_43 =>
    split at h
    · next fs hfs =>
      obtain ⟨p, hp, h⟩ := Option.map_eq_some_iff.1 h
      obtain ⟨ps, pb⟩ := p
      simp only [Prod.mk.injEq] at h
      obtain ⟨rfl, rfl⟩ := h
      exact ⟨_, (abin_struct hfs hs.1 hs.2.1 hp hs.2.2 hx hy).2, .bool _⟩
    · cases h
  all_goals first
    | (simp only [Option.some.injEq, Prod.mk.injEq] at h
       obtain ⟨rfl, rfl⟩ := h
       cases hx with | str s hs1 =>
       cases hy with | str s' hs2 =>
       refine ⟨_, ?_, .bool _⟩
       simp [eqGuard, binOp, Op.stringOp, ByteArray.toList_eq]
       done)
    | (split at h
       · rename_i hk
         subst hk
         simp only [Option.some.injEq, Prod.mk.injEq] at h
         obtain ⟨rfl, rfl⟩ := h
         cases hx with | int k a lo hi =>
         cases hy with | int k' b lo' hi' =>
         first
         | (refine ⟨_, ?_, .int _ _ (wrap_min _ _).1 (wrap_min _ _).2⟩
            simp [eqGuard, binOp, Op.intArith, Op.intBits, Op.intDiv, hs]
            done)
         | (refine ⟨_, ?_, .bool _⟩
            simp [eqGuard, binOp, Op.intCmp, bne]
            done)
         | (refine ⟨_, ?_, .int _ _ hs.2.1 hs.2.2⟩
            simp [eqGuard, binOp, Op.intDiv, hs.1]
            done)
       · cases h)
    | (simp only [Option.some.injEq, Prod.mk.injEq] at h
       obtain ⟨rfl, rfl⟩ := h
       cases hx with | int k a lo hi =>
       cases hy with | int k' b lo' hi' =>
       first
       | (refine ⟨_, ?_, .int _ _ (wrap_min _ _).1 (wrap_min _ _).2⟩
          simp [eqGuard, binOp, Op.shift, show ¬ b < 0 from by omega]
          done)
       | (refine ⟨_, ?_, .int _ _ hs.2.1 hs.2.2⟩
          simp [eqGuard, binOp, Op.shift, show ¬ b < 0 from by omega]
          done))
    | (simp only [Option.some.injEq, Prod.mk.injEq] at h
       obtain ⟨rfl, rfl⟩ := h
       cases hx with | bool a =>
       cases hy with | bool b =>
       refine ⟨_, ?_, .bool _⟩
       simp [eqGuard, binOp, run_eq_bool hs]
       done)
    | (simp only [Option.some.injEq, Prod.mk.injEq] at h
       obtain ⟨rfl, rfl⟩ := h
       cases hx
       cases hy
       refine ⟨_, ?_, .bool _⟩
       simp [eqGuard, binOp, run_eq_nilL hs, run_eq_nilR hs]
       done)
    | (simp only [Option.some.injEq, Prod.mk.injEq] at h
       obtain ⟨rfl, rfl⟩ := h
       cases hx
       cases hy
       refine ⟨_, ?_, .bool _⟩
       simp [eqGuard, binOp, run_eq_ptrL hs, run_eq_ptrR hs, run_eq_ptrN hs]
       done)
    | (simp only [Option.some.injEq, Prod.mk.injEq] at h
       obtain ⟨rfl, rfl⟩ := h
       obtain ⟨h1, rfl, h3, h4⟩ := hs
       cases hx with | iface _ _ _ hx =>
       cases hy with | iface _ _ _ hy =>
       cases hx
       cases hy
       refine ⟨_, ?_, .bool _⟩
       simp [eqGuard, binOp, run_iface_eq' h1 h3 h4]
       done)
    | cases h
    | skip

theorem anil_sound {op : BinOp} {t : TypeId} {ox oy : Operand} {vx vy : Value} {x y r : AV} {side : Prop} (h : anil P op t ox oy x y = some (side, r)) (hs : side)
    (hx : Rep w lim vx x []) (hy : Rep w lim vy y []) : ∃ v, (do eqGuard op t ox oy vx vy; binOp op t vx vy : Sem Value).run P w = .ok v w ∧ Rep w lim v r [] := by
  unfold anil at h
  split at h
  · simp only [Option.some.injEq, Prod.mk.injEq] at h
    obtain ⟨rfl, rfl⟩ := h
    cases hx
    cases hy
    refine ⟨_, ?_, .bool _⟩
    have h2 := hs.2
    simp [eqGuard, binOp, run_eq_nilN hs.1]
    cases ox <;> cases oy <;> simp_all
  · simp only [Option.some.injEq, Prod.mk.injEq] at h
    obtain ⟨rfl, rfl⟩ := h
    cases hx
    cases hy
    refine ⟨_, ?_, .bool _⟩
    have h2 := hs.2
    simp [eqGuard, binOp, run_eq_nilN hs.1]
    cases ox <;> cases oy <;> simp_all
  · simp only [Option.some.injEq, Prod.mk.injEq] at h
    obtain ⟨rfl, rfl⟩ := h
    cases hy
    cases hx with
    | errN t' =>
      refine ⟨_, ?_, .bool _⟩
      have h2 := hs.2
      simp [eqGuard, binOp, run_eq_nilN hs.1]
      cases ox <;> cases oy <;> simp_all
    | errS t' e h0 lo hi =>
      refine ⟨_, ?_, .bool _⟩
      simp [eqGuard, binOp, run_eq_nilR hs.1, h0]
  · simp only [Option.some.injEq, Prod.mk.injEq] at h
    obtain ⟨rfl, rfl⟩ := h
    cases hy
    cases hx with
    | errN t' =>
      refine ⟨_, ?_, .bool _⟩
      have h2 := hs.2
      simp [eqGuard, binOp, run_eq_nilN hs.1]
      cases ox <;> cases oy <;> simp_all
    | errS t' e h0 lo hi =>
      refine ⟨_, ?_, .bool _⟩
      simp [eqGuard, binOp, run_eq_nilR hs.1, h0]
  · simp only [Option.some.injEq, Prod.mk.injEq] at h
    obtain ⟨rfl, rfl⟩ := h
    cases hy
    cases hx with
    | optN =>
      refine ⟨_, ?_, .bool _⟩
      have h2 := hs.2
      simp [eqGuard, binOp, run_eq_nilN hs.1]
      cases ox <;> cases oy <;> simp_all
    | optS t' v =>
      refine ⟨_, ?_, .bool _⟩
      simp [eqGuard, binOp, run_eq_nilR hs.1]
  · simp only [Option.some.injEq, Prod.mk.injEq] at h
    obtain ⟨rfl, rfl⟩ := h
    cases hy
    cases hx with
    | optN =>
      refine ⟨_, ?_, .bool _⟩
      have h2 := hs.2
      simp [eqGuard, binOp, run_eq_nilN hs.1]
      cases ox <;> cases oy <;> simp_all
    | optS t' v =>
      refine ⟨_, ?_, .bool _⟩
      simp [eqGuard, binOp, run_eq_nilR hs.1]
  · simp only [Option.some.injEq, Prod.mk.injEq] at h
    obtain ⟨rfl, rfl⟩ := h
    obtain ⟨h1, rfl, h3, h4, rfl, h5⟩ := hs
    cases hy with | iface _ _ _ hy =>
    cases hy
    cases hx with
    | errN t' =>
      refine ⟨_, ?_, .bool _⟩
      simp [eqGuard, binOp, run_eq_nilL h1, Ne.symm h5]
    | errS t' e h0 lo hi =>
      refine ⟨_, ?_, .bool _⟩
      simp [eqGuard, binOp, run_iface_eq' h1 h3 h4]
  · simp only [Option.some.injEq, Prod.mk.injEq] at h
    obtain ⟨rfl, rfl⟩ := h
    obtain ⟨h1, rfl, h3, h4, rfl, h5⟩ := hs
    cases hy with | iface _ _ _ hy =>
    cases hy
    cases hx with
    | errN t' =>
      refine ⟨_, ?_, .bool _⟩
      simp [eqGuard, binOp, run_eq_nilL h1, Ne.symm h5]
    | errS t' e h0 lo hi =>
      refine ⟨_, ?_, .bool _⟩
      simp [eqGuard, binOp, run_iface_eq' h1 h3 h4]
  · exact abin_sound h hs hx hy

end
end Go.Aw
