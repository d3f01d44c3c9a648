/-
  The abstract layer, part 6: the operations that only read: the rest of them, and all in one.
-/
import Derived.Test.YtoeghipbkmaccaaWwE
namespace Go.Aw
open Go

section
variable {P : Program} {w : World} {lim : Nat → Nat}

theorem run_fieldPlace {b off : Nat} {f : Field} (hu : isU P f.type = true) (hn : P.cellsOf f.type ≠ 0) : (fieldPlace ⟨b, off, none⟩ f).run P w = .ok ⟨b, off + f.offset, none⟩ w := by
  simp [fieldPlace, run_size hu, hn, addr_add]

theorem getD_drop (l : List AV) (off i : Nat) : (l.drop off).getD i .junk = l.getD (off + i) .junk := by
  simp [List.getD_eq_getElem?_getD]

theorem qv_fieldAddr {m : AMem} {a : Operand → AV} {ca : Act} {o : Oper} {s : TypeId} {y : Operand} {f : Nat} (ho : o.op = .fieldAddr s y f) {side : Prop} {x : AV} (h : qv P m a (.fieldAddr s y f) = some (side, x)) (hs : side)
    (hy : Rep w lim (ca.eval y) (a y) []) : QvOk P w lim ca o x := by
  simp only [qv] at h
  generalize he : ca.eval y = e at hy
  split at h
  · next fs hfs =>
    split at h
    · next fd hfd =>
      split at h
      · next l hal =>
        obtain ⟨rfl, rfl⟩ := some_inj h
        obtain ⟨h1, h2, h3⟩ := hs
        rw [hal] at hy
        cases hy with
        | ref b off l cv hl hc hr =>
          refine ⟨.pointer (some ⟨b, off + fd.offset, none⟩), by simp [execOp, ho, he, Instr.fieldAt, run_und hfs, hfd, Instr.sureAddr, run_fieldPlace h1 h2], ?_⟩
          exact .ref b (off + fd.offset) (l.drop fd.offset) (fun i => cv (fd.offset + i)) (by simp; omega) (fun i hi => by
            simp at hi; rw [Nat.add_assoc]; exact hc _ (by omega)) (fun i hi => by simp at hi; rw [getD_drop]; exact hr _ (by omega))
      · next b off hal =>
        obtain ⟨rfl, rfl⟩ := some_inj h
        rw [hal] at hy
        have := rep_ptr_inv hy
        subst this
        exact ⟨.pointer (some ⟨b, off + fd.offset, none⟩), by simp [execOp, ho, he, Instr.fieldAt, run_und hfs, hfd, Instr.sureAddr, run_fieldPlace hs.1 hs.2], .ptr _⟩
      · cases h
    · cases h
  · cases h

theorem qv_field {m : AMem} {a : Operand → AV} {ca : Act} {o : Oper} {s : TypeId} {y : Operand} {f : Nat} (ho : o.op = .field s y f) {side : Prop} {x : AV} (h : qv P m a (.field s y f) = some (side, x)) (hs : side)
    (hy : Rep w lim (ca.eval y) (a y) []) : QvOk P w lim ca o x := by
  simp only [qv] at h
  generalize he : ca.eval y = e at hy
  split at h
  · next fs hfs =>
    split at h
    · next fd l hfd hal =>
      obtain ⟨rfl, rfl⟩ := some_inj h
      rw [hal] at hy
      obtain ⟨cs, rfl, h1, h2⟩ := rep_agg_inv hy
      obtain ⟨v, h3, h4⟩ := part_sound (P := P) hs h1 h2
      exact ⟨v, by simp [execOp, ho, he, Instr.field, run_und hfs, hfd, asAgg, h3], h4⟩
    · cases h
  · cases h

theorem rep_ms_inv {v : Value} {a : Addr} {n c : Nat} {o : List Nat} (h : Rep w lim v (.ms a n c) o) : v = .slice (some a) n c ∧ n ≤ c ∧ c ≤ maxLen := by cases h; exact ⟨rfl, ‹_›, ‹_›⟩

theorem qv_indexAddr {m : AMem} {a : Operand → AV} {ca : Act} {o : Oper} {t : TypeId} {y i : Operand} (ho : o.op = .indexAddr t y i) {side : Prop} {x : AV} (h : qv P m a (.indexAddr t y i) = some (side, x)) (hs : side)
    (hy : Rep w lim (ca.eval y) (a y) []) (hi : Rep w lim (ca.eval i) (a i) []) : QvOk P w lim ca o x := by
  simp only [qv] at h
  generalize he : ca.eval y = e at hy
  generalize hei : ca.eval i = ei at hi
  split at h
  · next el hel =>
    split at h
    · next own l k n hay hai =>
      obtain ⟨rfl, rfl⟩ := some_inj h
      obtain ⟨h1, h2, h3, h4, h5⟩ := hs
      rw [hay] at hy; rw [hai] at hi
      obtain ⟨rfl, _, _⟩ := rep_int_inv hi
      have hlt : n.toNat < l.length := by omega
      rcases rep_slice_cases (rep_slice_inv hy) with ⟨rfl, _⟩ | ⟨rfl, _⟩ | ⟨b, off, cap, sz, cv, rfl, hcap, hm, hbig, hsz, hlim, hc, hr⟩
      · simp at hlt
      · simp at hlt
      · have hz : sz = P.cellsOf el := by rw [← hsz _ hlt, h5]
        refine ⟨.pointer (some ⟨b, off + n.toNat * P.cellsOf el, none⟩), ?_, ?_⟩
        · simp [execOp, ho, he, hei, Instr.indexAt, asIntOf, run_und hel, h3, h4, run_size h1, addr_add]
        · refine .ref b _ _ (cv n.toNat) ?_ (fun j hj => ?_) (fun j hj => ?_)
          · rw [h5, hz.symm]
            have : n.toNat * sz + sz ≤ l.length * sz := by rw [← Nat.succ_mul]; exact Nat.mul_le_mul_right _ hlt
            omega
          · rw [h5, ← hz] at hj; rw [← hz]; exact hc _ j hlt hj
          · rw [h5, ← hz] at hj; exact hr _ j hlt hj
    · next b off len cap k n hay hai =>
      obtain ⟨rfl, rfl⟩ := some_inj h
      obtain ⟨h1, h3, h4⟩ := hs
      rw [hay] at hy; rw [hai] at hi
      obtain ⟨rfl, _, _⟩ := rep_int_inv hi
      obtain ⟨rfl, _, _⟩ := rep_ms_inv hy
      refine ⟨.pointer (some ⟨b, off + n.toNat * P.cellsOf el, none⟩), ?_, .ptr _⟩
      simp [execOp, ho, he, hei, Instr.indexAt, asIntOf, run_und hel, h3, h4, run_size h1, addr_add]
    · cases h
  · cases h

theorem qv_index {m : AMem} {a : Operand → AV} {ca : Act} {o : Oper} {t : TypeId} {y i : Operand} (ho : o.op = .index t y i) {side : Prop} {x : AV} (h : qv P m a (.index t y i) = some (side, x)) (hs : side)
    (hy : Rep w lim (ca.eval y) (a y) []) (hi : Rep w lim (ca.eval i) (a i) []) : QvOk P w lim ca o x := by
  simp only [qv] at h
  generalize he : ca.eval y = e at hy
  generalize hei : ca.eval i = ei at hi
  split at h
  · next l k n hu hay hai =>
    obtain ⟨rfl, rfl⟩ := some_inj h
    obtain ⟨h3, h4⟩ := hs
    rw [hay] at hy; rw [hai] at hi
    obtain ⟨rfl, _, _⟩ := rep_int_inv hi
    obtain ⟨s, rfl, rfl, hsz⟩ := rep_str_inv hy
    have hlt : n.toNat < s.data.size := by simp only [Array.length_toList] at h4; omega
    refine ⟨.int .u8 (s.data[n.toNat]).toNat, ?_, ?_⟩
    · have hg : s[n.toNat]? = some (s.data[n.toNat]) := by
        rw [getElem?_pos s n.toNat hlt]; rfl
      simp [execOp, ho, he, hei, Instr.index, asIntOf, run_und hu, h3, hg]
    · have e1 : s.data.toList.getD n.toNat 0 = s.data[n.toNat] := by rw [List.getD_eq_getElem?_getD, Array.getElem?_toList, Array.getElem?_eq_getElem hlt, Option.getD_some]
      rw [e1]
      have := (s.data[n.toNat]).toNat_lt
      exact .int .u8 _ (by simp [IntKind.min, IntKind.signed]) (by simp [IntKind.max, IntKind.signed, IntKind.bits]; omega)
  · cases h

theorem qv_extract {m : AMem} {a : Operand → AV} {ca : Act} {o : Oper} {y : Operand} {i : Nat} (ho : o.op = .extract y i) {side : Prop} {x : AV} (h : qv P m a (.extract y i) = some (side, x)) (hs : side)
    (hy : Rep w lim (ca.eval y) (a y) []) : QvOk P w lim ca o x := by
  simp only [qv] at h
  generalize he : ca.eval y = e at hy
  split at h
  · next l hal =>
    obtain ⟨rfl, rfl⟩ := some_inj h
    rw [hal] at hy
    obtain ⟨cs, rfl, h1, h2⟩ := rep_tuple_inv hy
    have hi : i < cs.size := by rw [h1]; exact hs
    refine ⟨cs.getD i undef, ?_, h2 i hs⟩
    simp [execOp, ho, he, Instr.extract, hi]
  · cases h

theorem asn_run {a : Operand → AV} {ca : Act} {lo : Option Operand} {d : Nat} {p : Int} (h : asn (lo.map a) d = some p) (hr : ∀ y, lo = some y → Rep w lim (ca.eval y) (a y) []) :
    (lo = none ∧ p = d) ∨ (∃ y k, lo = some y ∧ ca.eval y = .int k p) := by
  cases lo with
  | none => simp [asn] at h; exact .inl ⟨rfl, h.symm⟩
  | some y =>
    have := hr y rfl
    simp only [Option.map_some, asn] at h
    split at h
    · next hno => cases hno
    · next k n hay =>
      simp at h; subst h
      simp at hay
      rw [hay] at this
      exact .inr ⟨y, k, rfl, (rep_int_inv this).1⟩
    · cases h

theorem run_bounds (isSl : Bool) (len cap : Nat) {a : Operand → AV} {ca : Act} {lo hi : Option Operand} {p q : Int} (hp : asn (lo.map a) 0 = some p) (hq : asn (hi.map a) len = some q)
    (hlo : ∀ y, lo = some y → Rep w lim (ca.eval y) (a y) []) (hhi : ∀ y, hi = some y → Rep w lim (ca.eval y) (a y) []) (h0 : 0 ≤ p) (h1 : p ≤ q) (h2 : q ≤ cap) :
    (Instr.sliceBounds isSl len cap (lo.map ca.eval) (hi.map ca.eval) none).run P w = .ok (p.toNat, q.toNat, cap) w := by
  have e1 : (p ≤ (q.toNat : Int)) := by omega
  rcases asn_run hp hlo with ⟨rfl, rfl⟩ | ⟨y, k, rfl, hy⟩ <;> rcases asn_run hq hhi with ⟨rfl, rfl⟩ | ⟨y', k', rfl, hy'⟩
  · simp [Instr.sliceBounds]
  · simp [Instr.sliceBounds, Instr.sliceBound, hy', asIntOf, show 0 ≤ q from by omega, h2]
  · simp [Instr.sliceBounds, Instr.sliceBound, hy, asIntOf, h0, h1]
  · have e2 : ((q.toNat : Nat) : Int) = q := by omega
    simp only [Instr.sliceBounds, Instr.sliceBound, Option.map_some, Sem.run_bind, Sem.run_pure, Result.andThen_ok, hy, hy', asIntOf, Sem.run_ite, e2, h0, h1, h2, show 0 ≤ q from by omega, and_self, if_true]

theorem qv_slice {m : AMem} {a : Operand → AV} {ca : Act} {o : Oper} {t : TypeId} {y : Operand} {lo hi : Option Operand} (ho : o.op = .slice t y lo hi none) {side : Prop} {x : AV} (h : qv P m a (.slice t y lo hi none) = some (side, x)) (hs : side)
    (hy : Rep w lim (ca.eval y) (a y) []) (hlo : ∀ y, lo = some y → Rep w lim (ca.eval y) (a y) []) (hhi : ∀ y, hi = some y → Rep w lim (ca.eval y) (a y) []) : QvOk P w lim ca o x := by
  simp only [qv] at h
  generalize he : ca.eval y = e at hy
  split at h
  · next l hu hay =>
    split at h
    · next p q hp hq =>
      obtain ⟨rfl, rfl⟩ := some_inj h
      obtain ⟨h0, h1, h2⟩ := hs
      rw [hay] at hy
      obtain ⟨s, rfl, rfl, hsz⟩ := rep_str_inv hy
      have hb := run_bounds (P := P) (w := w) false s.size s.size hp (by simpa using hq) hlo hhi h0 h1 (by simpa using h2)
      refine ⟨.string (s.extract p.toNat q.toNat), ?_, ?_⟩
      · simp [execOp, ho, he, Instr.sliceAt, Instr.slice, run_und hu, hb]
      · have := Rep.str (w := w) (lim := lim) (s.extract p.toNat q.toNat) (by simp; omega)
        have e2 : (s.extract p.toNat q.toNat).data.toList = (s.data.toList.drop p.toNat).take (q - p).toNat := by
          simp [show q.toNat - p.toNat = (q - p).toNat from by omega]
        rw [e2] at this; exact this
    · cases h
  · next el own l hu hay =>
    split at h
    · next p q hp hq =>
      obtain ⟨rfl, rfl⟩ := some_inj h
      obtain ⟨hU, h0, h1, h2, hall⟩ := hs
      rw [hay] at hy
      rcases rep_slice_cases (rep_slice_inv hy) with ⟨rfl, rfl⟩ | ⟨rfl, aa, cap, rfl, hm⟩ | ⟨b, off, cap, sz, cv, rfl, hcap, hm, hbig, hsz, hlim, hc, hr⟩
      · have hb := run_bounds (P := P) (w := w) true 0 0 hp (by simpa using hq) hlo hhi h0 h1 (by simpa using h2)
        have e1 : p.toNat = 0 := by simp at h2; omega
        have e2 : q.toNat = 0 := by simp at h2; omega
        refine ⟨.slice none 0 0, ?_, by simpa using Rep.nils false⟩
        simp [execOp, ho, he, Instr.sliceAt, Instr.slice, run_und hu, hb, run_size hU, e1, e2]
      · have hb := run_bounds (P := P) (w := w) true 0 cap hp (by simpa using hq) hlo hhi h0 h1 (by simp at h2; omega)
        have e1 : p.toNat = 0 := by simp at h2; omega
        have e2 : q.toNat = 0 := by simp at h2; omega
        refine ⟨_, by simp only [execOp, ho, he, Option.map_none, Instr.sliceAt, Instr.slice, run_und hu, Sem.run_bind, Result.andThen_ok, hb, run_size hU]; rfl, ?_⟩
        simp only [e1, e2, List.drop_nil, List.take_nil, Nat.sub_self]
        split
        · exact .empty _ _ (by omega)
        · simp; exact .empty _ _ (by omega)
      · have hb := run_bounds (P := P) (w := w) true l.length cap hp hq hlo hhi h0 h1 (by omega)
        have hn : q.toNat - p.toNat = (q - p).toNat := by omega
        have hlen : ((l.drop p.toNat).take (q - p).toNat).length = (q - p).toNat := by simp; omega
        have hgd : ∀ i, i < (q - p).toNat → ((l.drop p.toNat).take (q - p).toNat).getD i .junk = l.getD (p.toNat + i) .junk := fun i hi => getD_drop_take _ _ _ _ hi
        by_cases hpc : cap = p.toNat
        · subst hpc
          have hz : (q - p).toNat = 0 := by omega
          refine ⟨.slice (some ⟨b, off, none⟩) 0 0, ?_, ?_⟩
          · simp [execOp, ho, he, Instr.sliceAt, Instr.slice, run_und hu, hb, run_size hU, hn, hz]
          · rw [hz]; exact .empty _ _ (by omega)
        · refine ⟨.slice (some ⟨b, off + p.toNat * P.cellsOf el, none⟩) (q - p).toNat (cap - p.toNat), ?_, ?_⟩
          · simp [execOp, ho, he, Instr.sliceAt, Instr.slice, run_und hu, hb, run_size hU, hn, hpc, addr_add]
          · by_cases hz : (q - p).toNat = 0
            · rw [hz]; exact .empty _ _ (by omega)
            · have hszE : sz = P.cellsOf el := by
                have h0l : 0 < l.length := by omega
                rw [← hsz 0 h0l]
                exact hall _ (by simp [List.getD_eq_getElem?_getD, h0l])
              subst hszE
              have hmul : p.toNat * P.cellsOf el + (q - p).toNat * P.cellsOf el ≤ l.length * P.cellsOf el := by
                rw [← Nat.add_mul]; exact Nat.mul_le_mul_right _ (by omega)
              refine .slice b _ _ _ (P.cellsOf el) _ (fun i j => cv (p.toNat + i) j) hlen (by omega) (by omega) (by omega) (fun i hi => by rw [hgd i hi]; exact hsz _ (by omega)) (by omega)
                (fun i j hi hj => ?_) (fun i j hi hj => by rw [hgd i hi]; exact hr _ j (by omega) hj)
              have := hc (p.toNat + i) j (by omega) hj
              rw [Nat.add_mul, ← Nat.add_assoc] at this
              exact this
    · cases h
  · next el b off len cap hu hay =>
    split at h
    · next p q hp hq =>
      obtain ⟨rfl, rfl⟩ := some_inj h
      obtain ⟨hU, h0, h1, h2, h3⟩ := hs
      rw [hay] at hy
      obtain ⟨rfl, hlc, hcm⟩ := rep_ms_inv hy
      have hb := run_bounds (P := P) (w := w) true len cap hp hq hlo hhi h0 h1 (by omega)
      have hn : q.toNat - p.toNat = (q - p).toNat := by omega
      have hpc : ¬ cap = p.toNat := by omega
      refine ⟨.slice (some ⟨b, off + p.toNat * P.cellsOf el, none⟩) (q - p).toNat (cap - p.toNat), ?_, .ms _ _ _ (by omega) (by omega)⟩
      simp [execOp, ho, he, Instr.sliceAt, Instr.slice, run_und hu, hb, run_size hU, hn, hpc, addr_add]
    · cases h
  · cases h


theorem mrep_map_inv {b : Nat} {l : List (AV × AV)} {os : Nat → List Nat} (h : MRep w lim b (.map l) os) : ∃ (es : Array MapEntry) (clock : Nat), w.heap[b]? = some (.map es clock) ∧ es.size = l.length ∧ l.length ≤ 140737488355328 ∧
    (∀ i, i < l.length → Rep w lim (es.getD i default).key (l.getD i (.junk, .junk)).1 []) ∧ (∀ i, i < l.length → Rep w lim (es.getD i default).val (l.getD i (.junk, .junk)).2 []) ∧
    (∀ i j, i < j → j < l.length → (es.getD i default).born < (es.getD j default).born) ∧ (∀ i, i < l.length → (es.getD i default).born < clock) := by
  cases h with
  | map es clock l hb hs hbig hk hv h1 h2 _ => exact ⟨es, clock, hb, hs, hbig, hk, hv, h1, h2⟩

theorem run_getObj_map {b : Nat} {es : Array MapEntry} {clock : Nat} (h : w.heap[b]? = some (.map es clock)) : (getObj b).run P w = .ok (.map es clock) w := by
  simp [getObj, Sem.run, h]

theorem qv_len {m : AMem} {a : Operand → AV} {ca : Act} {o : Oper} {args : Array Operand} {ts : Array TypeId} (ho : o.op = .call ⟨.builtin .len, args, ts⟩) {side : Prop} {x : AV}
    (h : qv P m a (.call ⟨.builtin .len, args, ts⟩) = some (side, x)) (hs : side)
    (hr : ∀ y ∈ args.toList, Rep w lim (ca.eval y) (a y) []) (hm : ∀ b ob, m b = some ob → ∃ os, MRep w lim b ob os) : QvOk P w lim ca o x := by
  simp only [qv] at h
  split at h
  · next y t hay hat =>
    have hy := hr y (by rw [Array.mem_toList_iff]; exact Array.mem_of_getElem? hay)
    generalize he : ca.eval y = e at hy
    have hargs : (args.map ca.eval)[0]? = some e := by simp [hay, he]
    have fin : ∀ v, (Builtin.len_ ts o.type (args.map ca.eval)).run P w = .ok v w → ∀ x, Rep w lim v x [] → QvOk P w lim ca o x := fun v h1 x h2 =>
      ⟨v, by simp [execOp, ho, resolve, invoke, builtin, h1], h2⟩
    have big : ∀ n : Nat, n ≤ 140737488355328 → Rep w lim (goInt n) (.int .i64 n) [] := fun n hn =>
      .int .i64 n (by simp [IntKind.min, IntKind.signed, IntKind.bits]) (by simp [IntKind.max, IntKind.signed, IntKind.bits]; omega)
    split at h
    · next l hu hal =>
      obtain ⟨rfl, rfl⟩ := some_inj h
      rw [hal] at hy
      obtain ⟨s, rfl, rfl, hsz⟩ := rep_str_inv hy
      refine fin (goInt s.size) (by simp [Builtin.len_, hat, hargs, run_und hu]) _ ?_
      have := big s.size hsz
      simpa using this
    · next el own l hu hal =>
      obtain ⟨rfl, rfl⟩ := some_inj h
      rw [hal] at hy
      obtain ⟨aa, cap, rfl, hl⟩ := rep_slice_len (rep_slice_inv hy)
      exact fin (goInt l.length) (by simp [Builtin.len_, hat, hargs, run_und hu]) _ (big _ hl)
    · next el p n c hu hal =>
      obtain ⟨rfl, rfl⟩ := some_inj h
      rw [hal] at hy
      obtain ⟨rfl, _, _⟩ := rep_ms_inv hy
      exact fin (goInt n) (by simp [Builtin.len_, hat, hargs, run_und hu]) _ (.int .i64 n (by simp [IntKind.min, IntKind.signed, IntKind.bits]) (by simp [IntKind.max, IntKind.signed, IntKind.bits]; omega))
    · next kt et hu hal =>
      obtain ⟨rfl, rfl⟩ := some_inj h
      rw [hal] at hy
      have : e = .map none := by cases hy; rfl
      subst this
      exact fin (goInt 0) (by simp [Builtin.len_, hat, hargs, run_und hu]) _ (by simpa using big 0 (by omega))
    · next kt et b hu hal =>
      split at h
      · next l hb =>
        obtain ⟨rfl, rfl⟩ := some_inj h
        rw [hal] at hy
        have : e = .map (some b) := by cases hy; rfl
        subst this
        obtain ⟨os, hM⟩ := hm _ _ hb
        obtain ⟨es, clock, h1, h2, h3, _⟩ := mrep_map_inv hM
        exact fin (goInt l.length) (by simp [Builtin.len_, hat, hargs, run_und hu, run_getObj_map h1, h2]) _ (big _ h3)
      · cases h
    · cases h
  · cases h

theorem run_zero {t : TypeId} {v : Value} (h : (P.info? t).bind (·.zero) = some v) : (zeroValue t).run P w = .ok v w := by
  cases hi : P.info? t with
  | none => simp [hi] at h
  | some i => simp [hi] at h; simp [zeroValue, typeInfo, hi, h]

theorem qv_sound {m : AMem} {a : Operand → AV} {ca : Act} {o : Oper} {side : Prop} {x : AV} (h : qv P m a o.op = some (side, x)) (hs : side)
    (hr : ∀ y ∈ o.op.operands.toList, Rep w lim (ca.eval y) (a y) []) (hm : ∀ b ob, m b = some ob → ∃ os, MRep w lim b ob os) : QvOk P w lim ca o x := by
  cases ho : o.op with
  | move y =>
    rw [ho] at h hr
    obtain ⟨rfl, rfl⟩ := some_inj h
    exact ⟨_, by simp [execOp, ho], hr y (by simp [Op.operands])⟩
  | assign y =>
    rw [ho] at h hr
    obtain ⟨rfl, rfl⟩ := some_inj h
    exact ⟨_, by simp [execOp, ho], hr y (by simp [Op.operands])⟩
  | pick c p q => rw [ho] at h hr; exact qv_pick ho h hs (hr c (by simp [Op.operands])) (hr p (by simp [Op.operands])) (hr q (by simp [Op.operands]))
  | load t y => rw [ho] at h hr; exact qv_load ho h hs (hr y (by simp [Op.operands])) hm
  | nilCheck y =>
    rw [ho] at h hr
    have hy := hr y (by simp [Op.operands])
    generalize he : ca.eval y = e at hy
    simp only [qv] at h
    split at h
    · next l hal =>
      obtain ⟨rfl, rfl⟩ := some_inj h
      rw [hal] at hy
      cases hy with
      | ref b off l cv hl hc hr => exact ⟨_, by simp only [execOp, ho, he, Sem.run_pure], .ref b off l cv hl hc hr⟩
    · next p hal =>
      obtain ⟨rfl, rfl⟩ := some_inj h
      rw [hal] at hy
      obtain rfl := rep_ptr_inv hy
      exact ⟨_, by simp only [execOp, ho, he, Sem.run_pure], .ptr p⟩
    · next f b c hal =>
      obtain ⟨rfl, rfl⟩ := some_inj h
      rw [hal] at hy
      cases hy with
      | func fn fa ca' fl cl h1 h2 h3 h4 => exact ⟨.func (.func f) fa ca', by simp only [execOp, ho, he, Sem.run_pure], .func _ fa ca' b c h1 ‹_› h3 h4⟩
    · cases h
  | binOp op t y z t2 =>
    rw [ho] at h hr
    obtain ⟨v, h1, h2⟩ := anil_sound (P := P) (w := w) (lim := lim) h hs (hr y (by simp [Op.operands])) (hr z (by simp [Op.operands]))
    exact ⟨v, by simp only [execOp, ho, Sem.run_bind, Result.andThen_ok] at h1 ⊢; rw [h1]; rfl, h2⟩
  | unOp op t y =>
    rw [ho] at h hr
    have hy := hr y (by simp [Op.operands])
    generalize he : ca.eval y = e at hy
    simp only [qv] at h
    split at h
    · next b hal =>
      obtain ⟨rfl, rfl⟩ := some_inj h
      rw [hal] at hy
      obtain rfl := rep_bool_inv hy
      exact ⟨_, by simp only [execOp, ho, he, Op.unary, Sem.run_bind, Sem.run_pure, Result.andThen_ok], .bool _⟩
    · next k n hal =>
      obtain ⟨rfl, rfl⟩ := some_inj h
      rw [hal] at hy
      obtain ⟨rfl, _, _⟩ := rep_int_inv hy
      exact ⟨_, by simp only [execOp, ho, he, Op.unary, Op.intArith, Sem.run_bind, Sem.run_pure, Result.andThen_ok], .int _ _ (wrap_min _ _).1 (wrap_min _ _).2⟩
    · cases h
  | convert s d y => rw [ho] at h hr; exact qv_conv ho h hs (hr y (by simp [Op.operands]))
  | makeInterface t y =>
    rw [ho] at h hr
    have hy := hr y (by simp [Op.operands])
    simp only [qv] at h
    split at h
    · cases h
    · next d hnd hu =>
      obtain ⟨rfl, rfl⟩ := some_inj h
      refine ⟨.iface t (ca.eval y), ?_, .iface _ _ _ hy⟩
      cases d <;> first | exact (hnd _ rfl).elim | simp [execOp, ho, Instr.makeInterface, run_und hu]
    · cases h
  | fieldAddr s y f => rw [ho] at h hr; exact qv_fieldAddr ho h hs (hr y (by simp [Op.operands]))
  | field s y f => rw [ho] at h hr; exact qv_field ho h hs (hr y (by simp [Op.operands]))
  | indexAddr t y i => rw [ho] at h hr; exact qv_indexAddr ho h hs (hr y (by simp [Op.operands])) (hr i (by simp [Op.operands]))
  | index t y i => rw [ho] at h hr; exact qv_index ho h hs (hr y (by simp [Op.operands])) (hr i (by simp [Op.operands]))
  | extract y i => rw [ho] at h hr; exact qv_extract ho h hs (hr y (by simp [Op.operands]))
  | slice t y lo hi mx =>
    cases mx with
    | some z => rw [ho] at h; simp [qv] at h
    | none =>
      rw [ho] at h hr
      exact qv_slice ho h hs (hr y (by simp [Op.operands])) (fun z hz => hr z (by simp [Op.operands, hz])) (fun z hz => hr z (by simp [Op.operands, hz]))
  | typeAssert y t u ok =>
    cases ok with
    | false => rw [ho] at h; simp [qv] at h
    | true =>
      rw [ho] at h hr
      have hy := hr y (by simp [Op.operands])
      generalize he : ca.eval y = e at hy
      simp only [qv] at h
      split at h
      · cases h
      · next d z u' v hnd hu hal =>
        split at h
        · next heq =>
          subst heq
          obtain ⟨rfl, rfl⟩ := some_inj h
          rw [hal] at hy
          cases hy with
          | iface _ vv _ hv =>
            refine ⟨.tuple #[vv, .bool true], ?_, ?_⟩
            · cases d <;> first | exact (hnd _ _ rfl).elim | exact (hnd _ rfl).elim | simp [execOp, ho, he, Instr.typeAssert, run_und hu]
            · have := Rep.tuple (w := w) (lim := lim) #[vv, .bool true] [v, .bool true] (fun _ => []) (by simp) (fun i hi => by
                have : i = 0 ∨ i = 1 := by simp at hi; omega
                rcases this with rfl | rfl
                · exact hv
                · exact .bool true)
              rw [flatMap_nil] at this
              exact this
        · cases h
      · next d z u' e hnd hu hal =>
        split at h
        · next heq =>
          subst heq
          obtain ⟨rfl, rfl⟩ := some_inj h
          rw [hal] at hy
          have tup : ∀ (n : Int) (b : Bool), IntKind.i64.min ≤ n → n ≤ IntKind.i64.max → Rep w lim (.tuple #[.int .i64 n, .bool b]) (.tuple [.int .i64 n, .bool b]) [] := fun n b lo hi => by
            have := Rep.tuple (w := w) (lim := lim) #[.int .i64 n, .bool b] [.int .i64 n, .bool b] (fun _ => []) (by simp) (fun i hi => by
              have : i = 0 ∨ i = 1 := by simp at hi; omega
              rcases this with rfl | rfl
              · exact .int _ _ lo ‹_›
              · exact .bool b)
            rw [flatMap_nil] at this
            exact this
          cases hy with
          | errN _ =>
            refine ⟨.tuple #[.int .i64 0, .bool false], ?_, tup 0 false (by decide) (by decide)⟩
            cases d <;> first | exact (hnd _ _ rfl).elim | exact (hnd _ rfl).elim | (simp only [execOp, ho, he, Instr.typeAssert, Sem.run_bind, run_und hu, Result.andThen_ok, if_true, run_zero hs]; rfl)
          | errS _ _ h0 lo hi =>
            refine ⟨.tuple #[.int .i64 e, .bool true], ?_, (show (!(e == 0)) = true from by simp [h0]) ▸ tup e true lo hi⟩
            cases d <;> first | exact (hnd _ _ rfl).elim | exact (hnd _ rfl).elim | simp [execOp, ho, he, Instr.typeAssert, run_und hu]
        · cases h
      · cases h
  | call c =>
    obtain ⟨cal, args, ts⟩ := c
    rw [ho] at h hr
    cases cal with
    | value f => simp [qv] at h
    | invoke r n => simp [qv] at h
    | builtin b =>
      have hr' : ∀ y ∈ args.toList, Rep w lim (ca.eval y) (a y) [] := fun y hy => hr y (by simpa [Op.operands, Call.operands] using hy)
      cases b with
      | len => exact qv_len ho h hs hr' hm
      | max =>
        simp only [qv] at h
        split at h
        · next y z hyz =>
          have hy := hr' y (by rw [hyz]; simp)
          have hz := hr' z (by rw [hyz]; simp)
          split at h
          · next k p k' q hay haz =>
            split at h
            · next hk =>
              subst hk
              obtain ⟨rfl, rfl⟩ := some_inj h
              rw [hay] at hy; rw [haz] at hz
              obtain ⟨e1, l1, u1⟩ := rep_int_inv hy
              obtain ⟨e2, l2, u2⟩ := rep_int_inv hz
              have hargs : (args.map ca.eval).toList = [.int k p, .int k q] := by simp [hyz, e1, e2]
              refine ⟨.int k (if q > p then q else p), ?_, ?_⟩
              · simp [execOp, ho, resolve, invoke, builtin, Builtin.max_, hyz, e1, e2, Builtin.max2]
              · by_cases hc : q > p
                · rw [if_pos hc]; exact .int k q l2 u2
                · rw [if_neg hc]; exact .int k p l1 u1
            · cases h
          · cases h
        · cases h
      | min =>
        simp only [qv] at h
        split at h
        · next y z hyz =>
          have hy := hr' y (by rw [hyz]; simp)
          have hz := hr' z (by rw [hyz]; simp)
          split at h
          · next k p k' q hay haz =>
            split at h
            · next hk =>
              subst hk
              obtain ⟨rfl, rfl⟩ := some_inj h
              rw [hay] at hy; rw [haz] at hz
              obtain ⟨e1, l1, u1⟩ := rep_int_inv hy
              obtain ⟨e2, l2, u2⟩ := rep_int_inv hz
              have hargs : (args.map ca.eval).toList = [.int k p, .int k q] := by simp [hyz, e1, e2]
              refine ⟨.int k (if q < p then q else p), ?_, ?_⟩
              · simp [execOp, ho, resolve, invoke, builtin, Builtin.min_, hyz, e1, e2, Builtin.min2]
              · by_cases hc : q < p
                · rw [if_pos hc]; exact .int k q l2 u2
                · rw [if_neg hc]; exact .int k p l1 u1
            · cases h
          · cases h
        · cases h
      | _ => simp [qv] at h
  | _ => rw [ho] at h; simp [qv] at h

end
end Go.Aw
