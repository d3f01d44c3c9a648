/-
  The abstract layer, part 51: what a law is handed reads as typed data that is no greater than its bulk.
-/
import Derived.Test.YtoeghipbkmaccaaWxx
import Derived.Test.YtoeghipbkmaccaaWxc
import Derived.Test.YtoeghipbkmaccaaProg
section
namespace Go.Aw
open Go Go.RowKit Go.WideShapes Go.ChangeShapes
structure BulkOk (bk : {H : Type} → DataW H → Nat) (bkA : {H : Type} → List (DataW H) → Nat) : Prop where
  cons : ∀ {H : Type} (d : DataW H) (l : List (DataW H)), bkA (d :: l) = bk d + bkA l
  slice : ∀ {H : Type} (e s : List (DataW H)), bkA e + 1 ≤ bk (.slice e s)
  agg : ∀ {H : Type} (p : List (DataW H)), bkA p + 1 ≤ bk (.agg p)
def RdB (bk : {H : Type} → DataW H → Nat) (P : Program) (fuel : Nat) (t : TypeId) {α : Type} (f : α → AV) (sz : α → Nat) : Prop :=
  ∀ (H : Type) (enc : TypeId × Value → H) (W : World) (sp : Nat → Bool) (cs : List Value) (d : DataW H) (ps : List MemPlace), DataW.trod enc P W 0 sp true fuel t cs = some (d, ps) → (∀ n ∈ d.weights P t, n ≤ reachBytes) →
    ∃ x : α, sz x ≤ bk d ∧ (f x).cells.length = cs.length ∧ ∀ i, i < cs.length → Rep W (limOf W) (cs.getD i undef) ((f x).cells.getD i .junk) []
section
variable {bk : {H : Type} → DataW H → Nat} {bkA : {H : Type} → List (DataW H) → Nat} {P : Program} {fuel : Nat} {t e : TypeId}
theorem Rd.toB {α : Type} {f : α → AV} (h : Rd P fuel t f) : RdB bk P fuel t f (fun _ => 0) := by
  intro H enc W sp cs d ps h1 h2
  obtain ⟨x, h3, h4⟩ := h H enc W sp cs d ps h1 h2
  exact ⟨x, Nat.zero_le _, h3, h4⟩
theorem BulkOk.at (hB : BulkOk bk bkA) {H : Type} : ∀ {p : List (DataW H)} {i : Nat} {d : DataW H}, p[i]? = some d → bk d ≤ bkA p
  | a :: p, 0, d, h => by
    simp only [List.getElem?_cons_zero, Option.some.injEq] at h
    subst h; rw [hB.cons]; omega
  | a :: p, i + 1, d, h => by
    simp only [List.getElem?_cons_succ] at h
    have := hB.at h
    rw [hB.cons]; omega
  | [], i, d, h => by simp at h
theorem BulkOk.two (hB : BulkOk bk bkA) {H : Type} : ∀ {p : List (DataW H)} {i j : Nat} {d d' : DataW H}, i < j → p[i]? = some d → p[j]? = some d' → bk d + bk d' ≤ bkA p
  | a :: p, 0, j + 1, d, d', _, h, h' => by
    simp only [List.getElem?_cons_zero, Option.some.injEq, List.getElem?_cons_succ] at h h'
    subst h
    have := hB.at h'
    rw [hB.cons]; omega
  | a :: p, i + 1, j + 1, d, d', hij, h, h' => by
    simp only [List.getElem?_cons_succ] at h h'
    have := hB.two (by omega) h h'
    rw [hB.cons]; omega
  | a :: p, i, 0, d, d', hij, h, h' => by omega
  | [], i, j, d, d', _, h, _ => by simp at h
theorem bulk_sum (hB : BulkOk bk bkA) {H : Type} : ∀ (ds : List (DataW H)) (g : Nat → Nat) (n : Nat), n ≤ ds.length → (∀ i d, i < n → ds[i]? = some d → g i ≤ bk d) → ((List.range n).map g).sum ≤ bkA ds
  | ds, g, 0, _, _ => by simp
  | [], g, n + 1, h, _ => by simp at h
  | d :: ds, g, n + 1, h, hg => by
    have h0 := hg 0 d (by omega) rfl
    have ih := bulk_sum hB ds (fun i => g (i + 1)) n (by simp at h; omega) (fun i d' hi hd => hg (i + 1) d' (by omega) (by simpa using hd))
    have e : (List.range (n + 1)).map g = g 0 :: (List.range n).map (fun i => g (i + 1)) := by
      rw [List.range_succ_eq_map, List.map_cons, List.map_map]; rfl
    rw [e, List.sum_cons, hB.cons]; omega
theorem rdB_slice (hB : BulkOk bk bkA) {α : Type} [Inhabited α] {f : α → AV} {z : α → Nat} {sz : Nat} (ht : P.underlying t = some (.slice e)) (hsz : P.cellsOf e = sz) (hpos : 0 < sz) (hby : 0 < P.bytesOf e) (hf : ∀ x, (f x).cells.length = sz) (hr : ∀ n, n < fuel → RdB bk P n e f z) : RdB bk P fuel t (lstAV f) (fun l => (l.map z).sum) := by
  intro H enc W sp cs d ps h hw
  rcases DataW.trod_slice ht h with ⟨rfl, _⟩ | ⟨a, len, cap, elems, rest, n, rfl, rfl, hx, hb, hl, hm, hlen, hel, hsp, hns⟩
  · refine ⟨[], by simp, rfl, fun i hi => ?_⟩
    obtain rfl : i = 0 := by simpa using hi
    exact .nils false
  simp only [Prod.mk.injEq] at hx
  obtain ⟨rfl, rfl⟩ := hx
  simp only [DataW.weights, ht] at hw
  have hw0 := hw _ (List.mem_cons_self ..)
  simp only [List.length_map] at hw0
  have hlen2 : len ≤ 140737488355328 := by
    have h1 : len * 1 ≤ (elems.length + rest.length) * P.bytesOf e := Nat.mul_le_mul (by omega) hby
    unfold reachBytes at hw0; omega
  rcases Nat.eq_zero_or_pos len with h0 | h0
  · subst h0
    refine ⟨[], by simp, rfl, fun i hi => ?_⟩
    obtain rfl : i = 0 := by simpa using hi
    exact .empty a cap hm
  have each : ∀ i (hi : i < len), ∃ (x : α) (cs' : List Value), z x ≤ bk (elems[i]'(by omega)).1 ∧ W.cells? 0 (a.add (i * sz)) sz = some cs' ∧ (∀ j, j < sz → Rep W (limOf W) (cs'.getD j undef) ((f x).cells.getD j .junk) []) := fun i hi => by
    have h1 := hel i hi
    rw [hsz, List.getElem?_eq_getElem (show i < elems.length by omega), Option.bind_eq_some_iff] at h1
    obtain ⟨cs', h2, h3⟩ := h1
    have h3' : DataW.trod enc P W 0 sp true n e cs' = some ((elems[i]'(by omega)).1, (elems[i]'(by omega)).2) := h3
    obtain ⟨x, hx0, hx1, hx2⟩ := hr n (Nat.lt_succ_self n) H enc W sp cs' _ _ h3' (fun k hk => hw k (List.mem_cons_of_mem _ (List.mem_append_left _ (weightsAll_mem (List.mem_map.2 ⟨_, List.getElem_mem (show i < elems.length by omega), rfl⟩) k hk))))
    have hl2 : cs'.length = sz := by rw [← hx1, hf]
    exact ⟨x, cs', hx0, h2, fun j hj => hx2 j (by omega)⟩
  have hsp : a.spot = none := by
    obtain ⟨x, cs', _, h1, _⟩ := each 0 h0
    have := (World.cells?_some h1).2.2 0 hpos
    obtain ⟨b, off, spot⟩ := a
    cases spot with
    | none => rfl
    | some s =>
      have hl2 := (World.cells?_some h1).2.1
      rw [List.getElem?_eq_getElem (by omega)] at this
      unfold World.cell? at this
      simp [Addr.add] at this
      split at this <;> simp_all
  obtain ⟨b, off, spot⟩ := a
  simp only at hsp
  subst hsp
  have hg : ∀ i : Nat, ∃ x : α × List Value, ∀ (hi : i < len), z x.1 ≤ bk (elems[i]'(by omega)).1 ∧ W.cells? 0 ((⟨b, off, none⟩ : Addr).add (i * sz)) sz = some x.2 ∧ (∀ j, j < sz → Rep W (limOf W) (x.2.getD j undef) ((f x.1).cells.getD j .junk) []) := fun i => by
    by_cases hi : i < len
    · obtain ⟨x, cs', h0, h1, h2⟩ := each i hi
      exact ⟨(x, cs'), fun _ => ⟨h0, h1, h2⟩⟩
    · exact ⟨(default, []), fun h => absurd h hi⟩
  obtain ⟨g, hg⟩ := Classical.axiomOfChoice hg
  have hcell : ∀ i j, i < len → j < sz → W.cell? ⟨b, off + i * sz + j, none⟩ = some ((g i).2.getD j undef) := fun i j hi hj => by
    have h1 := (hg i hi).2.1
    have h2 := (World.cells?_some h1).2.2 j hj
    have h3 := (World.cells?_some h1).2.1
    rw [Addr.add_lit, Addr.add_lit] at h2
    rw [h2, List.getD_eq_getElem?_getD, List.getElem?_eq_getElem (by omega)]; rfl
  refine ⟨(List.range len).map fun i => (g i).1, ?_, rfl, fun i hi => ?_⟩
  · have h1 := bulk_sum hB (elems.map Prod.fst) (fun i => z (g i).1) len (by rw [List.length_map]; omega) (fun i d hi hd => by
      have hi2 : i < elems.length := by omega
      rw [List.getElem?_map, List.getElem?_eq_getElem hi2] at hd
      simp only [Option.map_some, Option.some.injEq] at hd
      subst hd
      exact (hg i hi).1)
    have h2 := hB.slice (elems.map Prod.fst) (rest.map Prod.fst)
    simp only [List.map_map]
    have e : ((List.range len).map (z ∘ fun i => (g i).1)).sum = ((List.range len).map fun i => z (g i).1).sum := rfl
    show ((List.range len).map (z ∘ fun i => (g i).1)).sum ≤ _
    rw [e]
    have h3 : ∀ s : List (DataW H), bkA (elems.map Prod.fst) + 1 ≤ bk (DataW.slice (elems.map Prod.fst) s) := fun s => hB.slice _ s
    exact Nat.le_trans h1 (Nat.le_trans (Nat.le_succ _) (h3 _))
  obtain rfl : i = 0 := by simpa using hi
  have hgd : ∀ i, i < len → (((List.range len).map fun i => (g i).1).map f).getD i .junk = f (g i).1 := fun i hi => by
    simp [List.getD_eq_getElem?_getD, hi]
  refine Rep.slice b off len cap sz _ (fun i j => (g i).2.getD j undef) (by simp) hl hm hlen2 (fun i hi => by rw [hgd i hi]; exact hf _) ?_ hcell (fun i j hi hj => by rw [hgd i hi]; exact (hg i hi).2.2 j hj)
  have h1 := limOf_cell (hcell (len - 1) (sz - 1) (by omega) (by omega))
  have h2 : len * sz = (len - 1) * sz + sz := by rw [← Nat.succ_mul]; congr 1; omega
  omega
theorem rdB_fields (hB : BulkOk bk bkA) {fs : Array Field} (ht : P.underlying t = some (.struct fs)) {H : Type} {enc : TypeId × Value → H} {W : World} {sp : Nat → Bool} {cs : List Value} {d : DataW H} {ps : List MemPlace} (h : DataW.trod enc P W 0 sp true fuel t cs = some (d, ps)) (hw : ∀ n ∈ d.weights P t, n ≤ reachBytes) :
    cs.length = P.cellsOf t ∧ ∃ p : List (DataW H), bkA p + 1 ≤ bk d ∧ ∀ (i : Nat) (f : Field) {α : Type} (g : α → AV) (z : α → Nat), fs[i]? = some f → (∀ n, n < fuel → RdB bk P n f.type g z) → f.offset + P.cellsOf f.type ≤ P.cellsOf t →
      ∃ (x : α) (di : DataW H), p[i]? = some di ∧ z x ≤ bk di ∧ (g x).cells.length = P.cellsOf f.type ∧ ∀ j, j < P.cellsOf f.type → Rep W (limOf W) (cs.getD (f.offset + j) undef) ((g x).cells.getD j .junk) [] := by
  obtain ⟨xs, n, rfl, hx, hl, hxl, hf⟩ := DataW.trod_struct ht h
  simp only [Prod.mk.injEq] at hx
  obtain ⟨rfl, rfl⟩ := hx
  refine ⟨hl, _, hB.agg _, fun i f α g z hi hr ho => ?_⟩
  have h1 := hf i f hi
  have hi2 : i < xs.length := by
    rw [hxl]; exact (Array.getElem?_eq_some_iff.1 hi).1
  rw [List.getElem?_eq_getElem hi2] at h1
  have h1' : DataW.trod enc P W 0 sp true n f.type ((cs.drop f.offset).take (P.cellsOf f.type)) = some ((xs[i]).1, (xs[i]).2) := h1
  simp only [DataW.weights, ht] at hw
  obtain ⟨x, hx0, hx1, hx2⟩ := hr n (Nat.lt_succ_self n) H enc W sp _ _ _ h1' (fun k hk => hw k (weightsEach_mem (i := i) (t := f.type) (by simp [hi]) (by simp [hi2]) k hk))
  have hlen : ((cs.drop f.offset).take (P.cellsOf f.type)).length = P.cellsOf f.type := by
    rw [List.length_take, List.length_drop]; omega
  refine ⟨x, xs[i].1, by simp [hi2], hx0, by rw [hx1, hlen], fun j hj => ?_⟩
  have h2 := hx2 j (by omega)
  have e : ((cs.drop f.offset).take (P.cellsOf f.type)).getD j undef = cs.getD (f.offset + j) undef := by
    simp [List.getD_eq_getElem?_getD, hj]
  rwa [e] at h2
theorem RdB.arg {α : Type} {f : α → AV} {z : α → Nat} {H : Type} {enc : TypeId × Value → H} {W : World} {sp : Nat → Bool} {v : Value} {d : DataW H} {ps : List MemPlace} (hr : ∀ n, RdB bk P n t f z) (hf : ∀ x, (f x).cells = [f x]) (hv : v.cells.toList = [v]) (hd : DataW.Trod enc P W 0 sp true t v d ps) (hw : ∀ n ∈ d.weights P t, n ≤ reachBytes) :
    ∃ x : α, z x ≤ bk d ∧ Rep W (limOf W) v (f x) [] := by
  obtain ⟨n, hn⟩ := hd
  obtain ⟨x, h0, h1, h2⟩ := hr n H enc W sp _ d ps hn hw
  refine ⟨x, h0, ?_⟩
  rw [hv] at h2
  have := h2 0 (by simp)
  rw [hf] at this
  exact this
end
end Go.Aw
end
section
namespace Go.Aw
open Go
section
variable {P : Program} {n : Nat} {fr : Fr} {m : AMem} {ops : Array Oper} {fuel : Nat} {listed : Array Bool} {K : Fr → AMem → Prop}
theorem wpAny_monoQ {Q Q' : Exit → Act → World → Prop} (h : ∀ e a w, Q e a w → Q' e a w) (hl : LetsOut Q → LetsOut Q') {md : Region.Mode} : ∀ (fuel : Nat) (listed : Array Bool) (a : Act) (w : World), wpAny P md ops Q fuel listed a w → wpAny P md ops Q' fuel listed a w
  | 0, _, _, _, hh => ⟨hh.1, h _ _ _ hh.2⟩
  | fuel + 1, listed, a, w, hh => by
    refine ⟨fun h0 => h _ _ _ (hh.1 h0), fun i hi => ?_⟩
    have h1 := wpOp_mono (fun a' w' h' => wpAny_monoQ h hl fuel _ a' w' h') (hh.2 i hi)
    unfold wpOp at h1 ⊢
    cases ho : ops[i]? with
    | none => rw [ho] at h1; exact h1
    | some o =>
      rw [ho] at h1
      simp only at h1 ⊢
      split
      · next hw =>
        rw [if_pos hw] at h1
        refine h1.imp (fun h2 => ?_) fun h2 => ⟨h2.1, hl h2.2⟩
        unfold Oper.wp at h2 ⊢
        generalize (execOp a.eval o).run P w = r at h2 ⊢
        cases r with
        | ok nx w' =>
          cases nx <;> simp only [Oper.upon] at h2 ⊢ <;>
            first
              | exact h2
              | exact Calls.mono h2 (fun e w'' he => by cases e <;> first | exact he | exact h _ _ _ he | exact hl he)
        | halt x w' => cases x <;> simp only [Oper.upon] at h2 ⊢ <;> first | exact h2 | exact h _ _ _ h2 | exact hl h2
      · next hw =>
        rw [if_neg hw] at h1
        exact h1
def firstB (ops : Array Oper) (listed : Array Bool) (i : Nat) (o : Oper) : Bool :=
  o.guard.isNone && (Region.ready .any ops listed).contains i &&
  (ops.toList.all fun q => match q.op with | .select _ _ => false | _ => true) &&
  (List.range ops.size).all fun j => match ops[j]? with
    | some q => j == i || listed.getD j true || q.after.toList.any (fun e => Region.binds .any e && e.on == i) || o.apart ops q
    | none => true
theorem AAny.first1 {i : Nat} {o : Oper} {d : Nat} {x : AV} (hi : ops[i]? = some o) (hdst : o.dst = some d) (hdn : d < n) (hb : firstB ops listed i o = true)
    (hv : ∀ F lim w ca, St F lim w n fr m ca [] → ∃ v, (∀ w', (execOp ca.eval o).run P w' = .ok (.value v) w') ∧ Rep w lim v x [])
    (h : AAny P n ops fuel (listed.setIfInBounds i true) K (fr.put d x) m) : AAny P n ops (fuel + 1) listed K fr m := by
  intro F lim w ca Q st hq
  obtain ⟨v, hv1, hv2⟩ := hv F lim w ca st
  simp only [firstB, Bool.and_eq_true, List.all_eq_true, List.contains_iff_mem] at hb
  obtain ⟨⟨⟨hg, hr⟩, hs⟩, ha⟩ := hb
  let Q' : Exit → Act → World → Prop := fun e a w => match e with
    | .normal => Q .normal a w
    | e => ∀ b w', Q e b w'
  have h1 : wpAny P .any ops Q' fuel (listed.setIfInBounds i true) (ca.put (some d) v) w := h F lim w (ca.put (some d) v) Q' (show St F lim w n (Aw.putO fr (some d) x) m (ca.put (some d) v) [] from st.putO (fun t ht => by cases ht; exact hdn) hv2) hq
  have h2 : wpAny P .any ops Q' (fuel + 1) listed ca w := by
    refine wpAny_first (v := v) hi (fun j q cs b hj hc => ?_) (fun c a w hh => hh) fuel listed ca w (fun j q hj hji hlj hne => ?_) hr (.inl ⟨?_, hv1⟩) (by rw [hdst]; exact h1)
    · have := hs q (by rw [Array.mem_toList_iff]; exact Array.mem_of_getElem? hj)
      rw [hc] at this; cases this
    · have hj2 : j < ops.size := (Array.getElem?_eq_some_iff.1 hj).1
      have := ha j (List.mem_range.2 hj2)
      rw [hj] at this
      simp only [Bool.or_eq_true, beq_iff_eq, List.any_eq_true, Bool.and_eq_true] at this
      rcases this with ((h3 | h3) | ⟨e, he, h3, h4⟩) | h3
      · exact absurd h3 hji
      · rw [hlj] at h3; cases h3
      · exact absurd h4 (hne e (by simpa using he) h3)
      · exact h3
    · unfold Region.wanted
      cases hgd : o.guard with
      | none => rfl
      | some g => rw [hgd] at hg; cases hg
  have hm : ∀ e a w, Q' e a w → Q e a w := fun e a w hh => by cases e <;> first | exact hh | exact hh a w
  exact wpAny_monoQ hm (fun ⟨a, w, hh⟩ => ⟨a, w, hm _ _ _ hh⟩) _ _ _ _ h2
theorem AAny.fMove {i : Nat} {o : Oper} {y : Operand} {d : Nat} {x : AV} (hi : ops[i]? = some o) (ho : o.op = .move y) (hdst : o.dst = some d) (hdn : d < n) (hy : opdOk y = true) (hb : firstB ops listed i o = true) (hx : evP (rawOf fr) y = x)
    (h : AAny P n ops fuel (listed.setIfInBounds i true) K (fr.put d x) m) : AAny P n ops (fuel + 1) listed K fr m := by
  refine AAny.first1 hi hdst hdn hb (fun F lim w ca st => ?_) h
  subst hx
  exact ⟨ca.eval y, fun w' => by simp [execOp, ho], evP_rep st hy⟩
theorem AAny.fNil {i : Nat} {o : Oper} {y : Operand} {d : Nat} {a : Addr} (hi : ops[i]? = some o) (ho : o.op = .nilCheck y) (hdst : o.dst = some d) (hdn : d < n) (hy : opdOk y = true) (hb : firstB ops listed i o = true) (hx : evP (rawOf fr) y = .ptr a)
    (h : AAny P n ops fuel (listed.setIfInBounds i true) K (fr.put d (.ptr a)) m) : AAny P n ops (fuel + 1) listed K fr m := by
  refine AAny.first1 hi hdst hdn hb (fun F lim w ca st => ?_) h
  have hr := evP_rep st hy
  rw [hx] at hr
  have he := rep_ptr_inv hr
  exact ⟨.pointer (some a), fun w' => by simp [execOp, ho, he], .ptr a⟩
theorem AAny.fField {i : Nat} {o : Oper} {s : TypeId} {y : Operand} {f d : Nat} {a a' : Addr} {side : Prop} (hi : ops[i]? = some o) (ho : o.op = .fieldAddr s y f) (hdst : o.dst = some d) (hdn : d < n) (hy : opdOk y = true) (hb : firstB ops listed i o = true) (hx : evP (rawOf fr) y = .ptr a)
    (hq : qv P m (evP (rawOf fr)) (.fieldAddr s y f) = some (side, .ptr a')) (hs : side)
    (h : AAny P n ops fuel (listed.setIfInBounds i true) K (fr.put d (.ptr a')) m) : AAny P n ops (fuel + 1) listed K fr m := by
  refine AAny.first1 hi hdst hdn hb (fun F lim w ca st => ?_) h
  have hr := evP_rep st hy
  rw [hx] at hr
  have he := rep_ptr_inv hr
  refine ⟨.pointer (some a'), fun w' => ?_, .ptr a'⟩
  obtain ⟨v, h1, h2⟩ := qv_fieldAddr (w := w') (lim := lim) (ca := ca) ho hq hs (by rw [hx, he]; exact .ptr a)
  rw [rep_ptr_inv h2] at h1
  exact h1
end
abbrev pT (b : Nat) : AV := .ptr ⟨b, 0, none⟩
abbrev iT (n : Int) : AV := .int .i64 n
abbrev sF (l : List AV) : AV := .slice false l
abbrev sT (l : List AV) : AV := .slice true l
abbrev mW (m : AMem) (L : List (Nat × AObj)) : AMem := AMem.wth m L
theorem tv : True := trivial
abbrev rS := @awp_reg2_seq
abbrev aO := @apartOk_one
abbrev aL := @ar_loadp
abbrev aS := @ar_storep
abbrev wG := @wth_get
abbrev sK := @awp_seq_k
abbrev cD := @awp_cond
abbrev wS := @wth_split
abbrev cgA := @congrArg
theorem nfA {α : Type} {p : α → Prop} : ∀ x ∈ ([] : List α), p x := fun _ h => by cases h
theorem nB {a b : Nat} (h : Nat.ble a b = true) : a ≤ b := Nat.le_of_ble_eq_true h
end Go.Aw
end
section
namespace Go.Proofs
open Go Go.Aw
theorem Try.mixed : Try.prog.follows .mixedOrders = true := by kernel_rfl
end Go.Proofs
end
section
namespace Go.Proofs
open Go Go.Aw
set_option maxRecDepth 100000
theorem take_succ_gI {α : Type} [Inhabited α] {l : List α} {i : Int} (h0 : 0 ≤ i) (hi : i < l.length) : l.take (i + 1).toNat = l.take i.toNat ++ [gI l i] := by
  have e : (i + 1).toNat = i.toNat + 1 := by omega
  have hn : i.toNat < l.length := by omega
  rw [e, List.take_succ_eq_append_getElem hn]
  simp [gI, List.getD_eq_getElem?_getD, hn]
theorem gI_mem {α : Type} [Inhabited α] {l : List α} {i : Int} (h0 : 0 ≤ i) (hi : i < l.length) : gI l i ∈ l := by
  simp only [gI, List.getD_eq_getElem?_getD, List.getElem?_eq_getElem (show i.toNat < l.length by omega), Option.getD_some]
  exact List.getElem_mem _
theorem take_full {α : Type} {l : List α} {i : Int} (hi : l.length ≤ i) : l.take i.toNat = l := List.take_of_length_le (by omega)
def fnv (h : Int) (c : UInt8) : Int := IntKind.u64.wrap (IntKind.u64.wrap ((BitVec.ofInt IntKind.u64.bits h ^^^ BitVec.ofInt IntKind.u64.bits (IntKind.u64.wrap c.toNat)).toNat) * 1099511628211)
def sumI (s : List UInt8) : Int := s.foldl fnv 14695981039346656037
def u8n (n : Nat) : UInt8 := UInt8.ofNat n
def framedL (s : List UInt8) : List UInt8 := [u8n s.length, u8n (s.length / 256), u8n (sumI s).toNat, u8n ((sumI s).toNat / 256), u8n ((sumI s).toNat / 65536), u8n ((sumI s).toNat / 16777216)] ++ s
theorem framedL_len (s : List UInt8) : (framedL s).length = s.length + 6 := by simp [framedL]
end Go.Proofs
end
section
namespace Go.Proofs
open Go Go.Aw
set_option maxRecDepth 100000
abbrev Str := List UInt8
structure Chg where
  name : Str
  data : Str
  to : Str
  kind : Int
instance : Inhabited Chg := ⟨⟨[], [], [], 0⟩⟩
def chgAV (c : Chg) : AV := .agg [.str c.name, .str c.data, .str c.to, iT c.kind]
structure DSt where
  kept : List (Str × Str)
  now : List (Str × Str)
  wait : List Chg
  fuse : Int
  down : Bool
  steps : Int
def applyC (l : List (Str × Str)) (c : Chg) : List (Str × Str) :=
  if c.kind = 1 ∨ c.kind = 3 then mput l c.name c.data
  else if c.kind = 2 then mput l c.name ((mget l c.name).getD [] ++ c.data)
  else if c.kind = 4 then mdel (mput l c.to ((mget l c.name).getD [])) c.name
  else if c.kind = 5 then mdel l c.name
  else l
def stepF (s : DSt) : DSt × Int :=
  if s.down = true then (s, 10)
  else if s.fuse = 0 then ({ s with down := true, fuse := -1 }, 10)
  else ({ s with fuse := if 0 < s.fuse then s.fuse - 1 else s.fuse, steps := s.steps + 1 }, 0)
def doF (s : DSt) (c : Chg) : DSt × Int :=
  if (stepF s).2 ≠ 0 then stepF s
  else ({ (stepF s).1 with now := applyC s.now c, wait := s.wait ++ [c] }, 0)
theorem mget_le {l : List (Str × Str)} {k : Str} {B : Nat} (h : ∀ p ∈ l, p.2.length ≤ B) : ((mget l k).getD []).length ≤ B := by
  induction l with
  | nil => simp [mget]
  | cons p r ih =>
    obtain ⟨a, b⟩ := p
    simp only [mget]
    split
    · exact h (a, b) (by simp)
    · exact ih (fun p hp => h p (by simp [hp]))
theorem nodup_1 (d : Nat) : [d].Nodup := by simp
def dObj (kb nb : Nat) (s : DSt) : AObj := .cells [.map kb, .map nb, sT (s.wait.map chgAV), iT s.fuse, .bool s.down, iT s.steps]
def mObj (l : List (Str × Str)) : AObj := .map (l.map (mapAV strAV strAV))
theorem stepF_keep (s : DSt) : (stepF s).1.kept = s.kept ∧ (stepF s).1.now = s.now ∧ (stepF s).1.wait = s.wait ∧ 0 ≤ (stepF s).2 := by
  unfold stepF; split
  · exact ⟨rfl, rfl, rfl, by simp⟩
  · split
    · exact ⟨rfl, rfl, rfl, by simp⟩
    · exact ⟨rfl, rfl, rfl, by simp⟩
theorem stepF_steps (s : DSt) : s.steps ≤ (stepF s).1.steps ∧ (stepF s).1.steps ≤ s.steps + 1 := by
  unfold stepF; split
  · exact ⟨by simp; try omega, by simp; try omega⟩
  · split
    · exact ⟨by simp; try omega, by simp; try omega⟩
    · exact ⟨by simp; try omega, by simp; try omega⟩
set_option maxHeartbeats 2000000 in
theorem u_Step (d kb nb : Nat) (s : DSt) (hst : 0 ≤ s.steps) (hst2 : s.steps ≤ 4611686018427387904) (hfu : -1 ≤ s.fuse) (hfu2 : s.fuse ≤ 9223372036854775807) (m : AMem)  (K : AV → AMem → Prop) (hK : K (.err 108 (stepF s).2) (mW m [(d, dObj kb nb (stepF s).1)])) : ACalls Try.prog 35 [pT d] (mW m [(d, dObj kb nb s)]) K := by
 refine acalls_enter Try.func35 rfl (by decide) (nB rfl) ?_
 show AWP _ _ _ _ [(0, pT d)] (mW m [(d, dObj kb nb s)])
 refine rS [] [0] (by decide) ?_
 intro K1 hK1
 refine ⟨tv, ?_⟩
 show K1 [(0, pT d)] _
 refine hK1 _ _ ?_; clear hK1 K1
 refine sK ?_; intro K2 hK2
 refine rS [] [0, 6] (by decide) ?_
 intro K1 hK1
 refine ⟨tv, tv, ⟨rfl, by decide⟩, ?_⟩
 refine aL rfl (v := .bool s.down) rfl (wG 0 (nodup_1 d) rfl) rfl (aO rfl rfl (nB rfl)) rfl ?_
 show K1 [(0, pT d), (6, .bool s.down)] _
 refine hK1 _ _ ?_; clear hK1 K1
 refine cD rfl rfl (fun h1 => ?_) (fun h1 => ?_)
 ·
  replace h1 : s.down = true := h1
  refine rS [] [2] (by decide) ?_
  intro K1 hK1
  refine ⟨tv, tv, ?_⟩
  show K1 [(2, .iface 108 (iT 10))] (mW m [(d, dObj kb nb s)])
  refine hK1 _ _ ?_; clear hK1 K1
  refine awp_toErr 108 [2] ?_
  show AWP _ _ _ _ [(2, .err 108 10)] _
  refine awp_ret ?_
  refine ⟨tv, (mW m [(d, dObj kb nb s)]), fun _ _ h => h, ?_⟩
  show K (.err 108 10) _
 
  have e0 : stepF s = ((s, 10) : DSt × Int) := by
   obtain ⟨kept, now, wait, fuse, down, steps⟩ := s
   simp_all [stepF] <;> omega
  rw [e0] at hK
  exact hK
 replace h1 : s.down = false := h1
 refine awp_skip ?_
 refine hK2 _ _ ?_; clear hK2
 refine sK ?_; intro K3 hK3
 refine rS [] [0, 12] (by decide) ?_
 intro K1 hK1
 refine ⟨tv, tv, ⟨rfl, by decide⟩, ?_⟩
 refine aL rfl (v := iT s.fuse) rfl (wG 0 (nodup_1 d) rfl) rfl (aO rfl rfl (nB rfl)) rfl ?_
 refine ⟨tv, ?_⟩
 show K1 [(0, pT d), (12, .bool (s.fuse == 0))] (mW m [(d, dObj kb nb s)])
 refine hK1 _ _ ?_; clear hK1 K1
 refine cD rfl rfl (fun h2 => ?_) (fun h2 => ?_)
 ·
  replace h2 : s.fuse = 0 := (eq_of_beq h2)
  refine rS [] [0] (by decide) ?_
  intro K1 hK1
  refine ⟨tv, tv, ⟨rfl, by decide⟩, ?_⟩
  refine aS rfl 0 (v := .bool true) (l' := [.map kb, .map nb, sT (s.wait.map chgAV), iT s.fuse, .bool true, iT s.steps]) rfl rfl (nodup_1 d) rfl rfl rfl rfl rfl (nB rfl) rfl ?_
  show K1 [(0, pT d)] (mW m [(d, .cells [.map kb, .map nb, sT (s.wait.map chgAV), iT s.fuse, .bool true, iT s.steps])])
  refine hK1 _ _ ?_; clear hK1 K1
  refine rS [] [] (by decide) ?_
  intro K1 hK1
  refine ⟨tv, tv, ⟨rfl, by decide⟩, ?_⟩
  refine aS rfl 0 (v := iT (-1)) (l' := [.map kb, .map nb, sT (s.wait.map chgAV), iT (-1), .bool true, iT s.steps]) rfl rfl (nodup_1 d) rfl rfl rfl rfl rfl (nB rfl) rfl ?_
  show K1 [] (mW m [(d, .cells [.map kb, .map nb, sT (s.wait.map chgAV), iT (-1), .bool true, iT s.steps])])
  refine hK1 _ _ ?_; clear hK1 K1
  refine rS [] [2] (by decide) ?_
  intro K1 hK1
  refine ⟨tv, tv, ?_⟩
  show K1 [(2, .iface 108 (iT 10))] _
  refine hK1 _ _ ?_; clear hK1 K1
  refine awp_toErr 108 [2] ?_
  show AWP _ _ _ _ [(2, .err 108 10)] _
  refine awp_ret ?_
  refine ⟨tv, (mW m [(d, .cells [.map kb, .map nb, sT (s.wait.map chgAV), iT (-1), .bool true, iT s.steps])]), fun _ _ h => h, ?_⟩
  show K (.err 108 10) _
 
  have e0 : stepF s = (((⟨s.kept, s.now, s.wait, -1, true, s.steps⟩ : DSt), 10) : DSt × Int) := by
   obtain ⟨kept, now, wait, fuse, down, steps⟩ := s
   simp_all [stepF] <;> omega
  rw [e0] at hK
  exact hK
 replace h2 : s.fuse ≠ 0 := (ne_of_beq_false h2)
 refine awp_skip ?_
 refine hK3 _ _ ?_; clear hK3
 refine sK ?_; intro K4 hK4
 refine rS [] [0, 24] (by decide) ?_
 intro K1 hK1
 refine ⟨tv, tv, ⟨rfl, by decide⟩, ?_⟩
 refine aL rfl (v := iT s.fuse) rfl (wG 0 (nodup_1 d) rfl) rfl (aO rfl rfl (nB rfl)) rfl ?_
 refine ⟨tv, ?_⟩
 show K1 [(0, pT d), (24, .bool (decide (0 < s.fuse)))] (mW m [(d, dObj kb nb s)])
 refine hK1 _ _ ?_; clear hK1 K1
 refine cD rfl rfl (fun h3 => ?_) (fun h3 => ?_)
 ·
  replace h3 : 0 < s.fuse := (of_decide_eq_true h3)
  refine awp_reg2 [] [0] (by decide) ?_
  intro K1 hK1
  refine ⟨tv, tv, ⟨rfl, by decide⟩, ?_⟩
  refine aL rfl (v := iT s.fuse) rfl (wG 0 (nodup_1 d) rfl) rfl (aO rfl rfl (nB rfl)) rfl ?_
  refine ar_sub rfl (a := s.fuse) (b := 1) rfl rfl (by omega) (by omega) ?_
  refine ⟨tv, ⟨rfl, by decide⟩, ?_⟩
  refine aS rfl 0 (v := iT (s.fuse - 1)) (l' := [.map kb, .map nb, sT (s.wait.map chgAV), iT (s.fuse - 1), .bool s.down, iT s.steps]) rfl rfl (nodup_1 d) rfl rfl rfl rfl rfl (nB rfl) rfl ?_
  show K1 [(0, pT d)] (mW m [(d, .cells [.map kb, .map nb, sT (s.wait.map chgAV), iT (s.fuse - 1), .bool s.down, iT s.steps])])
  refine hK1 _ _ ?_; clear hK1 K1
  refine hK4 _ _ ?_; clear hK4
  refine rS [] [] (by decide) ?_
  intro K1 hK1
  refine ⟨tv, tv, ⟨rfl, by decide⟩, ?_⟩
  refine aL rfl (v := iT s.steps) rfl (wG 0 (nodup_1 d) rfl) rfl (aO rfl rfl (nB rfl)) rfl ?_
  refine ar_add rfl (a := s.steps) (b := 1) rfl rfl (by omega) (by omega) ?_
  refine ⟨tv, ⟨rfl, by decide⟩, ?_⟩
  refine aS rfl 0 (v := iT (s.steps + 1)) (l' := [.map kb, .map nb, sT (s.wait.map chgAV), iT (s.fuse - 1), .bool s.down, iT (s.steps + 1)]) rfl rfl (nodup_1 d) rfl rfl rfl rfl rfl (nB rfl) rfl ?_
  show K1 [] (mW m [(d, .cells [.map kb, .map nb, sT (s.wait.map chgAV), iT (s.fuse - 1), .bool s.down, iT (s.steps + 1)])])
  refine hK1 _ _ ?_; clear hK1 K1
  refine rS [] [2] (by decide) ?_
  intro K1 hK1
  refine ⟨tv, ?_⟩
  show K1 [(2, .nilIface)] _
  refine hK1 _ _ ?_; clear hK1 K1
  refine awp_toErr 108 [2] ?_
  show AWP _ _ _ _ [(2, .err 108 0)] _
  refine awp_ret ?_
  refine ⟨tv, (mW m [(d, .cells [.map kb, .map nb, sT (s.wait.map chgAV), iT (s.fuse - 1), .bool s.down, iT (s.steps + 1)])]), fun _ _ h => h, ?_⟩
  show K (.err 108 0) _
 
  have e0 : stepF s = (((⟨s.kept, s.now, s.wait, s.fuse - 1, s.down, s.steps + 1⟩ : DSt), 0) : DSt × Int) := by
   obtain ⟨kept, now, wait, fuse, down, steps⟩ := s
   simp_all [stepF] <;> omega
  rw [e0] at hK
  exact hK
 replace h3 : s.fuse ≤ 0 := (Int.not_lt.1 (of_decide_eq_false h3))
 refine awp_skip ?_
 refine hK4 _ _ ?_; clear hK4
 refine rS [] [] (by decide) ?_
 intro K1 hK1
 refine ⟨tv, tv, ⟨rfl, by decide⟩, ?_⟩
 refine aL rfl (v := iT s.steps) rfl (wG 0 (nodup_1 d) rfl) rfl (aO rfl rfl (nB rfl)) rfl ?_
 refine ar_add rfl (a := s.steps) (b := 1) rfl rfl (by omega) (by omega) ?_
 refine ⟨tv, ⟨rfl, by decide⟩, ?_⟩
 refine aS rfl 0 (v := iT (s.steps + 1)) (l' := [.map kb, .map nb, sT (s.wait.map chgAV), iT s.fuse, .bool s.down, iT (s.steps + 1)]) rfl rfl (nodup_1 d) rfl rfl rfl rfl rfl (nB rfl) rfl ?_
 show K1 [] (mW m [(d, .cells [.map kb, .map nb, sT (s.wait.map chgAV), iT s.fuse, .bool s.down, iT (s.steps + 1)])])
 refine hK1 _ _ ?_; clear hK1 K1
 refine rS [] [2] (by decide) ?_
 intro K1 hK1
 refine ⟨tv, ?_⟩
 show K1 [(2, .nilIface)] _
 refine hK1 _ _ ?_; clear hK1 K1
 refine awp_toErr 108 [2] ?_
 show AWP _ _ _ _ [(2, .err 108 0)] _
 refine awp_ret ?_
 refine ⟨tv, (mW m [(d, .cells [.map kb, .map nb, sT (s.wait.map chgAV), iT s.fuse, .bool s.down, iT (s.steps + 1)])]), fun _ _ h => h, ?_⟩
 show K (.err 108 0) _
 have e0 : stepF s = (((⟨s.kept, s.now, s.wait, s.fuse, s.down, s.steps + 1⟩ : DSt), 0) : DSt × Int) := by
  obtain ⟨kept, now, wait, fuse, down, steps⟩ := s
  simp_all [stepF] <;> omega
 rw [e0] at hK
 exact hK
structure DInv (N : Nat) (s : DSt) : Prop where
  st0 : 0 ≤ s.steps
  st1 : s.steps ≤ N
  fu0 : -1 ≤ s.fuse
  fu1 : s.fuse ≤ 9223372036854775807
  kl : s.kept.length + s.wait.length ≤ N
  kb : ∀ p ∈ s.kept, p.2.length + 4000 * s.wait.length ≤ 4000 * N
  cd : ∀ c ∈ s.wait, c.data.length ≤ 4000
  nl : s.now.length ≤ N
  nb : ∀ p ∈ s.now, p.2.length ≤ 4000 * N
theorem mput_mem {l : List (Str × Str)} {k v : Str} {p : Str × Str} (h : p ∈ mput l k v) : p ∈ l ∨ p = (k, v) := by
  induction l with
  | nil => simp [mput] at h; exact .inr h
  | cons q r ih =>
    obtain ⟨a, b⟩ := q
    simp only [mput] at h
    split at h
    · rcases List.mem_cons.1 h with h | h
      · exact .inr h
      · exact .inl (by simp [h])
    · rcases List.mem_cons.1 h with h | h
      · exact .inl (by simp [h])
      · rcases ih h with h | h
        · exact .inl (by simp [h])
        · exact .inr h
theorem mdel_mem {l : List (Str × Str)} {k : Str} {p : Str × Str} (h : p ∈ mdel l k) : p ∈ l := by
  induction l with
  | nil => simp [mdel] at h
  | cons q r ih =>
    obtain ⟨a, b⟩ := q
    simp only [mdel] at h
    split at h
    · simp [h]
    · rcases List.mem_cons.1 h with h | h
      · simp [h]
      · simp [ih h]
theorem applyC_len (l : List (Str × Str)) (c : Chg) : (applyC l c).length ≤ l.length + 1 := by
  unfold applyC
  split
  · exact mput_len _ _ _
  · split
    · exact mput_len _ _ _
    · split
      · have h1 := mdel_len (mput l c.to ((mget l c.name).getD [])) c.name
        have h2 := mput_len l c.to ((mget l c.name).getD [])
        omega
      · split
        · have := mdel_len l c.name; omega
        · omega
theorem applyC_bnd {l : List (Str × Str)} {c : Chg} {B : Nat} (h : ∀ p ∈ l, p.2.length ≤ B) (hc : c.data.length ≤ 4000) : ∀ p ∈ applyC l c, p.2.length ≤ B + 4000 := by
  intro p hp
  have hg := mget_le (k := c.name) h
  unfold applyC at hp
  split at hp
  · rcases mput_mem hp with hp | rfl
    · have := h p hp; omega
    · simp; omega
  · split at hp
    · rcases mput_mem hp with hp | rfl
      · have := h p hp; omega
      · simp; omega
    · split at hp
      · rcases mput_mem (mdel_mem hp) with hp | rfl
        · have := h p hp; omega
        · simp; omega
      · split at hp
        · have := h p (mdel_mem hp); omega
        · have := h p hp; omega
theorem DInv.step {N : Nat} {s : DSt} (h : DInv N s) : DInv (N + 1) (stepF s).1 := by
  have k := stepF_keep s
  have q := stepF_steps s
  have hf : -1 ≤ (stepF s).1.fuse ∧ (stepF s).1.fuse ≤ 9223372036854775807 := by
    have := h.fu0; have := h.fu1
    unfold stepF; split
    · exact ⟨by assumption, by assumption⟩
    · split
      · exact ⟨by simp, by simp⟩
      · simp only; split <;> omega
  have := h.st0; have := h.st1; have := h.kl
  refine ⟨by omega, by omega, hf.1, hf.2, by rw [k.1, k.2.2.1]; omega, fun p hp => ?_, fun c hc => ?_, ?_, fun p hp => ?_⟩
  · rw [k.1] at hp; rw [k.2.2.1]; have := h.kb p hp; omega
  · rw [k.2.2.1] at hc; exact h.cd c hc
  · rw [k.2.1]; have := h.nl; omega
  · rw [k.2.1] at hp; have := h.nb p hp; omega
theorem DInv.do {N : Nat} {s : DSt} {c : Chg} (h : DInv N s) (hc : c.data.length ≤ 4000) : DInv (N + 1) (doF s c).1 := by
  unfold doF
  split
  · exact h.step
  · have k := stepF_keep s
    have g := h.step
    have := h.kl; have := h.nl; have := applyC_len s.now c
    refine ⟨g.st0, g.st1, g.fu0, g.fu1, by rw [k.1]; simp; omega, fun p hp => ?_, fun c' hc' => ?_, by simp; omega, fun p hp => ?_⟩
    · rw [k.1] at hp; have := h.kb p hp; simp; omega
    · rcases List.mem_append.1 hc' with hc' | hc'
      · exact h.cd c' hc'
      · simp at hc'; subst hc'; exact hc
    · have := applyC_bnd h.nb hc p hp; omega
theorem DInv.mono {N M : Nat} {s : DSt} (h : DInv N s) (hm : N ≤ M) : DInv M s :=
  ⟨h.st0, by have := h.st1; omega, h.fu0, h.fu1, by have := h.kl; omega, fun p hp => by have := h.kb p hp; omega, h.cd, by have := h.nl; omega, fun p hp => by have := h.nb p hp; omega⟩
end Go.Proofs
end
section
namespace Go.Proofs
open Go Go.Aw
set_option maxRecDepth 100000
theorem u_New   (m : AMem)  (K : AV → AMem → Prop) (hK : ∀ d nb kb, ([d, nb, kb] : List Nat).Nodup → m d = none → m nb = none → m kb = none → K (.ptr ⟨d, 0, none⟩) (AMem.wth m [(d, dObj kb nb ⟨[], [], [], -1, false, 0⟩), (nb, mObj []), (kb, mObj [])])) : ACalls Try.prog 11 [] m K := by
 refine acalls_enter Try.func11 rfl (by decide) (Nat.le_of_ble_eq_true rfl) ?_
 show AWP _ _ _ _ [] m
 refine awp_reg2_seq [] [] (by decide) ?_
 intro K1 hK1
 refine ⟨trivial, ?_⟩
 show K1 [] m
 refine hK1 _ _ ?_; clear hK1 K1
 refine awp_reg2_seq [] [0] (by decide) ?_
 intro K1 hK1
 refine ar_makeMap rfl (m := m) (L := []) rfl ?_
 intro b1 hb1
 have hFb1 : m b1 = none := wth_none (m := m) (L := []) hb1
 have hNb1 : ([b1] : List Nat).Nodup := wth_nodup (m := m) (L := []) hb1 List.nodup_nil
 refine ar_makeMap rfl (m := m) (L := [(b1, mObj ([] : List ((List UInt8) × (List UInt8))))]) rfl ?_
 intro b2 hb2
 have hFb2 : m b2 = none := wth_none hb2
 have hNb2 : ([b2, b1] : List Nat).Nodup := wth_nodup hb2 hNb1
 refine ⟨⟨rfl, by simp only [List.forall_mem_cons]; exact ⟨rfl, rfl, rfl, rfl, rfl, rfl, fun _ h => by cases h⟩, by simp only [List.forall_mem_cons]; exact ⟨rfl, rfl, rfl, fun _ h => by cases h⟩⟩, ?_⟩
 refine ar_box rfl (m := m) (L := [(b2, mObj ([] : List ((List UInt8) × (List UInt8)))), (b1, mObj ([] : List ((List UInt8) × (List UInt8))))]) (v := .agg [.map b1, .map b2, .slice true [], .int .i64 (-1), .bool false, .int .i64 0]) rfl rfl ?_
 intro b3 hb3
 have hFb3 : m b3 = none := wth_none hb3
 have hNb3 : ([b3, b2, b1] : List Nat).Nodup := wth_nodup hb3 hNb2
 refine ⟨trivial, ?_⟩
 show K1 [(0, .ptr ⟨b3, 0, none⟩)] (AMem.wth m [(b3, .cells [.map b1, .map b2, .slice true [], .int .i64 (-1), .bool false, .int .i64 0]), (b2, mObj ([] : List ((List UInt8) × (List UInt8)))), (b1, mObj ([] : List ((List UInt8) × (List UInt8))))])
 refine hK1 _ _ ?_; clear hK1 K1
 refine awp_ret ?_
 refine ⟨trivial, (AMem.wth m [(b3, .cells [.map b1, .map b2, .slice true [], .int .i64 (-1), .bool false, .int .i64 0]), (b2, mObj ([] : List ((List UInt8) × (List UInt8)))), (b1, mObj ([] : List ((List UInt8) × (List UInt8))))]), fun _ _ h => h, ?_⟩
 show K (.ptr ⟨b3, 0, none⟩) _
 exact hK b3 b2 b1 hNb3 hFb3 hFb2 hFb1
end Go.Proofs
end
section
namespace Go.Proofs
open Go Go.Aw
set_option maxRecDepth 100000
inductive Val where
  | mk (kind n : Int) (s : Str) (l : List Val) (f : List (Str × Val))
instance : Inhabited Val := ⟨.mk 0 0 [] [] []⟩
def Val.kind : Val → Int | .mk k _ _ _ _ => k
def Val.n : Val → Int | .mk _ n _ _ _ => n
def Val.s : Val → Str | .mk _ _ s _ _ => s
def Val.l : Val → List Val | .mk _ _ _ l _ => l
def Val.f : Val → List (Str × Val) | .mk _ _ _ _ f => f
mutual
def valIn : Val → AV
  | .mk k n s l f => .agg [iT k, iT n, .str s, sF (valsIn l), sF (fldsIn f)]
def valsIn : List Val → List AV
  | [] => []
  | v :: r => valIn v :: valsIn r
def fldsIn : List (Str × Val) → List AV
  | [] => []
  | (s, .mk k n t l f) :: r => .agg [.str s, iT k, iT n, .str t, sF (valsIn l), sF (fldsIn f)] :: fldsIn r
end
def fldIn (p : Str × Val) : AV := .agg (.str p.1 :: (valIn p.2).cells)
theorem valsIn_eq (l : List Val) : valsIn l = l.map valIn := by
  induction l with
  | nil => rfl
  | cons v r ih => simp only [valsIn, List.map_cons, ih]
theorem fldsIn_eq (l : List (Str × Val)) : fldsIn l = l.map fldIn := by
  induction l with
  | nil => rfl
  | cons v r ih =>
    obtain ⟨s, v⟩ := v
    cases v with
    | mk k n t l f => simp only [fldsIn, List.map_cons, ih, fldIn, valIn, AV.cells]
def valTop (v : Val) : AV := .agg [iT v.kind, iT v.n, .str v.s, sF (v.l.map valIn), sF (v.f.map fldIn)]
def fldTop (p : Str × Val) : AV := .agg [.str p.1, iT p.2.kind, iT p.2.n, .str p.2.s, sF (p.2.l.map valIn), sF (p.2.f.map fldIn)]
theorem valIn_eq (v : Val) : valIn v = valTop v := by
  cases v with
  | mk k n s l f => simp only [valIn, valTop, valsIn_eq, fldsIn_eq, Val.kind, Val.n, Val.s, Val.l, Val.f]
theorem fldIn_eq (p : Str × Val) : fldIn p = fldTop p := by
  rw [fldIn, valIn_eq]; rfl
theorem valMap (l : List Val) : l.map valIn = l.map valTop := List.map_congr_left fun v _ => valIn_eq v
theorem fldMap (l : List (Str × Val)) : l.map fldIn = l.map fldTop := List.map_congr_left fun v _ => fldIn_eq v
mutual
def weightV (most : Int) : Val → Int
  | .mk _ _ s l f => weightF most f (weightL most l (1 + s.length))
def weightL (most : Int) : List Val → Int → Int
  | [], n => n
  | v :: r, n => if n ≤ most then weightL most r (IntKind.i64.wrap (n + weightV most v)) else n
def weightF (most : Int) : List (Str × Val) → Int → Int
  | [], n => n
  | (s, .mk _ _ t l f) :: r, n => if n ≤ most then weightF most r (IntKind.i64.wrap (IntKind.i64.wrap (n + s.length) + weightF most f (weightL most l (1 + t.length)))) else n
end
theorem weightV_eq (most : Int) (v : Val) : weightV most v = weightF most v.f (weightL most v.l (1 + v.s.length)) := by
  cases v with
  | mk k n s l f => simp only [weightV, Val.f, Val.l, Val.s]
theorem weightF_cons (most : Int) (p : Str × Val) (r : List (Str × Val)) (n : Int) : weightF most (p :: r) n = if n ≤ most then weightF most r (IntKind.i64.wrap (IntKind.i64.wrap (n + p.1.length) + weightV most p.2)) else n := by
  obtain ⟨s, v⟩ := p
  cases v with
  | mk k n t l f => simp only [weightF, weightV]
theorem weightL_stop (most : Int) (l : List Val) (n : Int) (h : most < n) : weightL most l n = n := by
  cases l with
  | nil => simp only [weightL]
  | cons v r => simp only [weightL]; rw [if_neg (by omega)]
theorem weightF_stop (most : Int) (l : List (Str × Val)) (n : Int) (h : most < n) : weightF most l n = n := by
  cases l with
  | nil => simp only [weightF]
  | cons v r => rw [weightF_cons, if_neg (by omega)]
theorem drop_gI {α : Type} [Inhabited α] {l : List α} {i : Int} (h0 : 0 ≤ i) (hi : i < l.length) : l.drop i.toNat = gI l i :: l.drop (i + 1).toNat := by
  have h : i.toNat < l.length := by omega
  have e : (i + 1).toNat = i.toNat + 1 := by omega
  rw [List.drop_eq_getElem_cons h, e]
  simp [gI, List.getD_eq_getElem?_getD, h]
mutual
def depV : Val → Nat
  | .mk _ _ _ l f => depL l + depF f + 1
def depL : List Val → Nat
  | [] => 0
  | v :: r => depV v + depL r
def depF : List (Str × Val) → Nat
  | [] => 0
  | (_, .mk _ _ _ l f) :: r => depL l + depF f + 1 + depF r
end
theorem depL_mem {l : List Val} {v : Val} (h : v ∈ l) : depV v ≤ depL l := by
  induction l with
  | nil => cases h
  | cons a r ih =>
    simp only [depL]
    rcases List.mem_cons.1 h with rfl | h
    · omega
    · have := ih h; omega
theorem depF_mem {l : List (Str × Val)} {p : Str × Val} (h : p ∈ l) : depV p.2 ≤ depF l := by
  induction l with
  | nil => cases h
  | cons a r ih =>
    obtain ⟨s, v⟩ := a
    cases v with
    | mk k n t l f =>
      simp only [depF]
      rcases List.mem_cons.1 h with rfl | h
      · simp only [depV]; omega
      · have := ih h; omega
theorem depV_eq (v : Val) : depV v = depL v.l + depF v.f + 1 := by
  cases v with
  | mk k n s l f => simp only [depV, Val.l, Val.f]
set_option maxHeartbeats 4000000 in
theorem u_weight1 (v : Val) (most : Int) (ih : ∀ w : Val, depV w < depV v → ∀ (m : AMem) (K : AV → AMem → Prop), K (iT (weightV most w)) m → ACalls Try.prog 67 [valTop w, iT most] m K) (m : AMem)  (K : AV → AMem → Prop) (hK : K (iT (weightV most v)) m) : ACalls Try.prog 67 [valTop v, iT most] m K := by
 refine acalls_enter Try.func67 rfl (by decide) (nB rfl) ?_
 refine awp_bd 0 (x := valTop v) rfl (fun hbd0 => ?_)
 have hbd0_2 : v.s.length ≤ 140737488355328 := (hbd0 2 (nB rfl))
 have hbd0_3 : v.l.length ≤ 140737488355328 := bd_map (hbd0 3 (nB rfl))
 have hbd0_4 : v.f.length ≤ 140737488355328 := bd_map (hbd0 4 (nB rfl))
 show AWP _ _ _ _ [(0, valTop v), (1, iT most)] m
 refine rS [] [1, 2] (by decide) ?_
 intro K1 hK1
 refine ar_box rfl (m := m) (L := []) (v := valTop v) (by rfl) rfl ?_
 intro b1 hb1
 have hFb1 : m b1 = none := wth_none (m := m) (L := []) hb1
 have hNb1 : ([b1] : List Nat).Nodup := wth_nodup (m := m) (L := []) hb1 List.nodup_nil
 refine ⟨tv, ?_⟩
 show K1 [(1, iT most), (2, pT b1)] (mW m [(b1, .cells [iT v.kind, iT v.n, .str v.s, sF (v.l.map valIn), sF (v.f.map fldIn)])])
 refine hK1 _ _ ?_; clear hK1 K1
 refine rS [] [1, 2, 5] (by decide) ?_
 intro K1 hK1
 refine ⟨⟨rfl, by decide⟩, ?_⟩
 refine aL rfl (v := .str v.s) rfl (wG 0 hNb1 rfl) rfl (aO rfl rfl (nB rfl)) rfl ?_
 refine ⟨tv, ?_⟩
 refine ar_add rfl (a := 1) (b := (v.s.length : Int)) rfl rfl (by omega) (by omega) ?_
 refine ⟨tv, ?_⟩
 show K1 [(1, iT most), (2, pT b1), (5, iT (1 + (v.s.length : Int)))] _
 refine hK1 _ _ ?_; clear hK1 K1
 refine sK ?_; intro K2 hK2
 refine rS [] [1, 2, 5, 6] (by decide) ?_
 intro K1 hK1
 refine ⟨tv, ?_⟩
 show K1 [(1, iT most), (2, pT b1), (5, iT (1 + (v.s.length : Int))), (6, iT 0)] _
 refine hK1 _ _ ?_; clear hK1 K1
 refine awp_block ?_
 refine awp_keep [1, 2, 5, 6] (by decide) ?_
 refine awp_loop_st (σ := Int × Int) (fun ⟨n_, i⟩ => [(1, iT most), (2, pT b1), (5, iT n_), (6, iT i)]) (fun _ => (mW m [(b1, .cells [iT v.kind, iT v.n, .str v.s, sF (v.l.map valIn), sF (v.f.map fldIn)])])) (fun ⟨n_, i⟩ => 0 ≤ i ∧ i ≤ v.l.length ∧ weightL most v.l (1 + v.s.length) = weightL most (v.l.drop i.toNat) n_) (fun ⟨n_, i⟩ => v.l.length - i.toNat) (1 + (v.s.length : Int), 0) rfl rfl ?_ ?_
 ·
  show 0 ≤ ((0 : Int)) ∧ ((0 : Int)) ≤ v.l.length ∧ weightL most v.l (1 + v.s.length) = weightL most (v.l.drop ((0 : Int)).toNat) ((1 + (v.s.length : Int) : Int))
  exact ⟨by omega, by omega, rfl⟩
 rintro ⟨n_, i⟩ hI
 replace hI : 0 ≤ i ∧ i ≤ v.l.length ∧ weightL most v.l (1 + v.s.length) = weightL most (v.l.drop i.toNat) n_ := hI
 show AWP _ _ _ _ [(1, iT most), (2, pT b1), (5, iT n_), (6, iT i)] (mW m [(b1, .cells [iT v.kind, iT v.n, .str v.s, sF (v.l.map valIn), sF (v.f.map fldIn)])])
 refine sK ?_; intro K3 hK3
 refine rS [] [1, 2, 5, 6, 21] (by decide) ?_
 intro K1 hK1
 suffices key : K1 [(1, iT most), (2, pT b1), (5, iT n_), (6, iT i), (21, .bool ((decide (i < (v.l.length : Int))) && (decide (n_ ≤ most))))] (mW m [(b1, .cells [iT v.kind, iT v.n, .str v.s, sF (v.l.map valIn), sF (v.f.map fldIn)])]) by
  refine ⟨tv, ⟨rfl, by decide⟩, ?_⟩
  refine aL rfl (v := sF (v.l.map valIn)) rfl (wG 0 hNb1 rfl) rfl (aO rfl rfl (nB rfl)) rfl ?_
  refine ar_len rfl valIn v.l rfl rfl rfl ?_
  refine ⟨tv, tv, ?_⟩
  show aopsR _ _ _ _ _ [(17, .bool (decide (i < (v.l.length : Int)))), (16, .bool (decide (i < (v.l.length : Int)))), (15, iT (v.l.length : Int)), (14, sF (v.l.map valIn)), (13, .ptr ⟨b1, 3, none⟩), (12, iT i), (1, iT most), (2, pT b1), (5, iT n_), (6, iT i)] _
  revert key
  cases h1 : (decide (i < (v.l.length : Int)))
  ·
   replace h1 : (v.l.length : Int) ≤ i := (Int.not_lt.1 (of_decide_eq_false h1))
   intro key
   refine ar_off rfl (ar_off rfl (ar_off rfl ?_))
   exact key
  ·
   replace h1 : i < (v.l.length : Int) := (of_decide_eq_true h1)
   intro key
   refine ⟨tv, tv, tv, ?_⟩
   exact key
 refine hK1 _ _ ?_; clear hK1 K1
 refine cD rfl rfl (fun h2 => ?_) (fun h2 => ?_)
 ·
  replace h2 : (i < (v.l.length : Int)) ∧ (n_ ≤ most) := ⟨(of_decide_eq_true (bandL h2)), (of_decide_eq_true (bandR h2))⟩
  refine awp_skip ?_
  refine hK3 _ _ ?_; clear hK3
  refine sK ?_; intro K4 hK4
  refine awp_block ?_
  refine awp_reg2 [] [1, 2, 5, 6] (by decide) ?_
  intro K1 hK1
  refine ⟨tv, ⟨rfl, by decide⟩, ?_⟩
  refine aL rfl (v := sF (v.l.map valIn)) rfl (wG 0 hNb1 rfl) rfl (aO rfl rfl (nB rfl)) rfl ?_
  refine ⟨tv, ?_⟩
  refine ar_index rfl valTop v.l i rfl rfl (valMap v.l) rfl rfl (by decide) (fun _ => rfl) (by omega) (by omega) ?_
  refine ⟨(apartOk_agg rfl rfl (nB rfl)), tv, ?_⟩
  refine ih (gI v.l i) (by have := depV_eq v; first | (have := depL_mem (gI_mem (l := v.l) (i := i) hI.1 h2.1); omega) | (have := depF_mem (gI_mem (l := v.f) (i := k) hI2.1 h4.1); omega)) _ _ ?_
  refine ⟨tv, tv, ?_⟩
  show K1 [(1, iT most), (2, pT b1), (5, iT (IntKind.i64.wrap (n_ + (weightV most (gI v.l i))))), (6, iT i)] (mW m [(b1, .cells [iT v.kind, iT v.n, .str v.s, sF (v.l.map valIn), sF (v.f.map fldIn)])])
  refine hK1 _ _ ?_; clear hK1 K1
  refine hK4 _ _ ?_; clear hK4
  refine awp_reg2 [] [1, 2, 5, 6] (by decide) ?_
  intro K1 hK1
  refine ⟨tv, ?_⟩
  refine ar_add rfl (a := i) (b := 1) rfl rfl (by omega) (by omega) ?_
  refine ⟨tv, ?_⟩
  show K1 [(1, iT most), (2, pT b1), (5, iT (IntKind.i64.wrap (n_ + (weightV most (gI v.l i))))), (6, iT (i + 1))] _
  refine hK1 _ _ ?_; clear hK1 K1
  refine ⟨(IntKind.i64.wrap (n_ + (weightV most (gI v.l i))), i + 1), rfl, rfl, ?_, ?_⟩
  ·
   show 0 ≤ ((i + 1 : Int)) ∧ ((i + 1 : Int)) ≤ v.l.length ∧ weightL most v.l (1 + v.s.length) = weightL most (v.l.drop ((i + 1 : Int)).toNat) ((IntKind.i64.wrap (n_ + (weightV most (gI v.l i))) : Int))
   refine ⟨by omega, by omega, ?_⟩
   rw [hI.2.2, drop_gI hI.1 h2.1]
   simp only [weightL]
   rw [if_pos h2.2]
  ·
   show v.l.length - ((i + 1 : Int)).toNat < v.l.length - i.toNat
   omega
 replace h2 : ((v.l.length : Int) ≤ i) ∨ (most < n_) := ((bandF h2).imp (fun q => (Int.not_lt.1 (of_decide_eq_false q))) (fun q => (Int.not_le.1 (of_decide_eq_false q))))
 refine awp_exit ?_
 refine hK2 _ _ ?_; clear hK2
 refine sK ?_; intro K5 hK5
 refine rS [] [1, 2, 5, 7] (by decide) ?_
 intro K1 hK1
 refine ⟨tv, ?_⟩
 show K1 [(1, iT most), (2, pT b1), (5, iT n_), (7, iT 0)] (mW m [(b1, .cells [iT v.kind, iT v.n, .str v.s, sF (v.l.map valIn), sF (v.f.map fldIn)])])
 refine hK1 _ _ ?_; clear hK1 K1
 refine awp_block ?_
 refine awp_keep [1, 2, 5, 7] (by decide) ?_
 refine awp_loop_st (σ := Int × Int) (fun ⟨n2, k⟩ => [(1, iT most), (2, pT b1), (5, iT n2), (7, iT k)]) (fun _ => (mW m [(b1, .cells [iT v.kind, iT v.n, .str v.s, sF (v.l.map valIn), sF (v.f.map fldIn)])])) (fun ⟨n2, k⟩ => 0 ≤ k ∧ k ≤ v.f.length ∧ weightV most v = weightF most (v.f.drop k.toNat) n2) (fun ⟨n2, k⟩ => v.f.length - k.toNat) (n_, 0) rfl rfl ?_ ?_
 ·
  show 0 ≤ ((0 : Int)) ∧ ((0 : Int)) ≤ v.f.length ∧ weightV most v = weightF most (v.f.drop ((0 : Int)).toNat) ((n_ : Int))
  refine ⟨by omega, by omega, ?_⟩
  have e : weightL most (v.l.drop i.toNat) n_ = n_ := by
   by_cases hn : most < n_
   ·
    exact weightL_stop _ _ _ hn
   ·
    have hi : (v.l.length : Int) ≤ i := by
     rcases h2 with h | h <;> omega
    rw [List.drop_eq_nil_of_le (by omega)]; simp only [weightL]
  rw [weightV_eq, hI.2.2, e]; rfl
 rintro ⟨n2, k⟩ hI2
 replace hI2 : 0 ≤ k ∧ k ≤ v.f.length ∧ weightV most v = weightF most (v.f.drop k.toNat) n2 := hI2
 show AWP _ _ _ _ [(1, iT most), (2, pT b1), (5, iT n2), (7, iT k)] (mW m [(b1, .cells [iT v.kind, iT v.n, .str v.s, sF (v.l.map valIn), sF (v.f.map fldIn)])])
 refine sK ?_; intro K6 hK6
 refine rS [] [1, 2, 5, 7, 42] (by decide) ?_
 intro K1 hK1
 suffices key : K1 [(1, iT most), (2, pT b1), (5, iT n2), (7, iT k), (42, .bool ((decide (k < (v.f.length : Int))) && (decide (n2 ≤ most))))] (mW m [(b1, .cells [iT v.kind, iT v.n, .str v.s, sF (v.l.map valIn), sF (v.f.map fldIn)])]) by
  refine ⟨tv, ⟨rfl, by decide⟩, ?_⟩
  refine aL rfl (v := sF (v.f.map fldIn)) rfl (wG 0 hNb1 rfl) rfl (aO rfl rfl (nB rfl)) rfl ?_
  refine ar_len rfl fldIn v.f rfl rfl rfl ?_
  refine ⟨tv, tv, ?_⟩
  show aopsR _ _ _ _ _ [(38, .bool (decide (k < (v.f.length : Int)))), (37, .bool (decide (k < (v.f.length : Int)))), (36, iT (v.f.length : Int)), (35, sF (v.f.map fldIn)), (34, .ptr ⟨b1, 4, none⟩), (33, iT k), (1, iT most), (2, pT b1), (5, iT n2), (7, iT k)] _
  revert key
  cases h3 : (decide (k < (v.f.length : Int)))
  ·
   replace h3 : (v.f.length : Int) ≤ k := (Int.not_lt.1 (of_decide_eq_false h3))
   intro key
   refine ar_off rfl (ar_off rfl (ar_off rfl ?_))
   exact key
  ·
   replace h3 : k < (v.f.length : Int) := (of_decide_eq_true h3)
   intro key
   refine ⟨tv, tv, tv, ?_⟩
   exact key
 refine hK1 _ _ ?_; clear hK1 K1
 refine cD rfl rfl (fun h4 => ?_) (fun h4 => ?_)
 ·
  replace h4 : (k < (v.f.length : Int)) ∧ (n2 ≤ most) := ⟨(of_decide_eq_true (bandL h4)), (of_decide_eq_true (bandR h4))⟩
  refine awp_skip ?_
  refine hK6 _ _ ?_; clear hK6
  refine sK ?_; intro K7 hK7
  refine awp_block ?_
  refine awp_draw_k Try.mixed [(iT (weightV most ((gI v.f k).2)))] [1, 2, 5, 7] (by decide) (by decide) ?_
  intro K1 hK1
  refine ⟨tv, ⟨rfl, by decide⟩, ?_⟩
  refine pq_loadp rfl (v := sF (v.f.map fldIn)) rfl (wG 0 hNb1 rfl) (aO rfl rfl (nB rfl)) rfl ?_
  refine ⟨tv, ?_⟩
  refine pq_index rfl fldTop v.f k rfl rfl (fldMap v.f) rfl rfl (by decide) (fun _ => rfl) (by omega) (by omega) ?_
  refine ⟨⟨rfl, by decide, (nB rfl)⟩, (aO rfl rfl (nB rfl)), tv, tv, ⟨rfl, by decide⟩, ?_⟩
  refine pq_loadp rfl (v := sF (v.f.map fldIn)) rfl (wG 0 hNb1 rfl) (aO rfl rfl (nB rfl)) rfl ?_
  refine ⟨tv, ?_⟩
  refine pq_index rfl fldTop v.f k rfl rfl (fldMap v.f) rfl rfl (by decide) (fun _ => rfl) (by omega) (by omega) ?_
  refine ⟨⟨rfl, by decide, (nB rfl)⟩, (apartOk_agg rfl rfl (nB rfl)), tv, (fun Kc hKc => ih ((gI v.f k).2) (by have := depV_eq v; first | (have := depL_mem (gI_mem (l := v.l) (i := i) hI.1 h2.1); omega) | (have := depF_mem (gI_mem (l := v.f) (i := k) hI2.1 h4.1); omega)) _ Kc hKc), tv, tv, ?_⟩
  show K1 [(1, iT most), (2, pT b1), (5, iT (IntKind.i64.wrap ((IntKind.i64.wrap (n2 + (((gI v.f k).1).length : Int))) + (weightV most ((gI v.f k).2))))), (7, iT k)] (mW m [(b1, .cells [iT v.kind, iT v.n, .str v.s, sF (v.l.map valIn), sF (v.f.map fldIn)])])
  refine hK1 _ _ ?_; clear hK1 K1
  refine hK7 _ _ ?_; clear hK7
  refine awp_reg2 [] [1, 2, 5, 7] (by decide) ?_
  intro K1 hK1
  refine ⟨tv, ?_⟩
  refine ar_add rfl (a := k) (b := 1) rfl rfl (by omega) (by omega) ?_
  refine ⟨tv, ?_⟩
  show K1 [(1, iT most), (2, pT b1), (5, iT (IntKind.i64.wrap ((IntKind.i64.wrap (n2 + (((gI v.f k).1).length : Int))) + (weightV most ((gI v.f k).2))))), (7, iT (k + 1))] _
  refine hK1 _ _ ?_; clear hK1 K1
  refine ⟨(IntKind.i64.wrap ((IntKind.i64.wrap (n2 + (((gI v.f k).1).length : Int))) + (weightV most ((gI v.f k).2))), k + 1), rfl, rfl, ?_, ?_⟩
  ·
   show 0 ≤ ((k + 1 : Int)) ∧ ((k + 1 : Int)) ≤ v.f.length ∧ weightV most v = weightF most (v.f.drop ((k + 1 : Int)).toNat) ((IntKind.i64.wrap ((IntKind.i64.wrap (n2 + (((gI v.f k).1).length : Int))) + (weightV most ((gI v.f k).2))) : Int))
   exact ⟨by omega, by omega, by rw [hI2.2.2, drop_gI hI2.1 h4.1, weightF_cons, if_pos h4.2]⟩
  ·
   show v.f.length - ((k + 1 : Int)).toNat < v.f.length - k.toNat
   omega
 replace h4 : ((v.f.length : Int) ≤ k) ∨ (most < n2) := ((bandF h4).imp (fun q => (Int.not_lt.1 (of_decide_eq_false q))) (fun q => (Int.not_le.1 (of_decide_eq_false q))))
 refine awp_exit ?_
 refine hK5 _ _ ?_; clear hK5
 refine rS [] [4] (by decide) ?_
 intro K1 hK1
 refine ⟨tv, tv, ?_⟩
 show K1 [(4, iT n2)] (mW m [(b1, .cells [iT v.kind, iT v.n, .str v.s, sF (v.l.map valIn), sF (v.f.map fldIn)])])
 refine hK1 _ _ ?_; clear hK1 K1
 refine awp_ret ?_
 refine ⟨tv, m, (wth_sub2 (m := m) [(b1, .cells [iT v.kind, iT v.n, .str v.s, sF (v.l.map valIn), sF (v.f.map fldIn)])] [] hNb1 (by simp only [List.map_cons, List.map_nil, List.forall_mem_cons]; exact ⟨hFb1, nfA⟩)), ?_⟩
 show K (iT n2) m
 have e : weightV most v = n2 := by
  rw [hI2.2.2]
  by_cases hn : most < n2
  ·
   exact weightF_stop _ _ _ hn
  ·
   have hi : (v.f.length : Int) ≤ k := by
    rcases h4 with h | h <;> omega
   rw [List.drop_eq_nil_of_le (by omega)]; simp only [weightF]
 rw [e] at hK; exact hK
theorem u_weight (most : Int) : ∀ (n : Nat) (v : Val), depV v < n → ∀ (m : AMem) (K : AV → AMem → Prop), K (iT (weightV most v)) m → ACalls Try.prog 67 [valTop v, iT most] m K
  | 0, _, h => absurd h (Nat.not_lt_zero _)
  | n + 1, v, h => fun m K hK => u_weight1 v most (fun w hw => u_weight most n w (by omega)) m K hK
structure ActT where
  kind : Str
  s : Str
  t : Str
  a : Int
  b : Int
  v : Val
  names : List Str
instance : Inhabited ActT := ⟨⟨[], [], [], 0, 0, default, []⟩⟩
def actAV (x : ActT) : AV := .agg [.str x.kind, .str x.s, .str x.t, iT x.a, iT x.b, iT x.v.kind, iT x.v.n, .str x.v.s, sF (x.v.l.map valIn), sF (x.v.f.map fldIn), sF (x.names.map strAV)]
def actW (most : Int) (n : Int) (x : ActT) : Int := IntKind.i64.wrap (IntKind.i64.wrap (IntKind.i64.wrap (n + x.s.length) + x.t.length) + weightV most x.v)
def namesW (n : Int) (l : List Str) : Int := l.foldl (fun n s => IntKind.i64.wrap (n + s.length)) n
def lightF (size : Int) : List ActT → Int → Bool
  | [], n => decide (n ≤ size)
  | x :: r, n => if size < actW size n x ∨ 12 < (x.names.length : Int) then false else lightF size r (namesW (actW size n x) x.names)
def lightA (l : List ActT) (most size : Int) : Bool := if most < (l.length : Int) then false else lightF size l 0
theorem lightA_len {l : List ActT} {most size : Int} (h : lightA l most size = true) : (l.length : Int) ≤ most := by
  unfold lightA at h; split at h
  · cases h
  · omega
set_option maxHeartbeats 4000000 in
theorem u_LightActs (l : List ActT) (most size : Int)  (m : AMem)  (K : AV → AMem → Prop) (hK : K (.bool (lightA l most size)) m) : ACalls Try.prog 10 [sF (l.map actAV), iT most, iT size] m K := by
 refine acalls_enter Try.func10 rfl (by decide) (nB rfl) ?_
 refine awp_bd 0 (x := sF (l.map actAV)) rfl (fun hbd0 => ?_)
 have hbd0_0 : l.length ≤ 140737488355328 := bd_map (o := false) hbd0
 show AWP _ _ _ _ [(0, sF (l.map actAV)), (1, iT most), (2, iT size)] m
 refine rS [] [0, 1, 2] (by decide) ?_
 intro K1 hK1
 refine ⟨tv, ?_⟩
 show K1 [(0, sF (l.map actAV)), (1, iT most), (2, iT size)] m
 refine hK1 _ _ ?_; clear hK1 K1
 refine sK ?_; intro K2 hK2
 refine rS [] [0, 2, 13] (by decide) ?_
 intro K1 hK1
 refine ⟨tv, ?_⟩
 refine ar_len rfl actAV l rfl rfl rfl ?_
 refine ⟨tv, tv, ?_⟩
 show K1 [(0, sF (l.map actAV)), (2, iT size), (13, .bool (decide (most < (l.length : Int))))] m
 refine hK1 _ _ ?_; clear hK1 K1
 refine cD rfl rfl (fun h1 => ?_) (fun h1 => ?_)
 ·
  replace h1 : most < (l.length : Int) := (of_decide_eq_true h1)
  refine rS [] [6] (by decide) ?_
  intro K1 hK1
  refine ⟨tv, ?_⟩
  show K1 [(6, .bool false)] m
  refine hK1 _ _ ?_; clear hK1 K1
  refine awp_ret ?_
  refine ⟨tv, m, fun _ _ h => h, ?_⟩
  show K (.bool false) m
 
  refine K_eq hK (cgA AV.bool ?_)
  rw [lightA, if_pos h1]
 replace h1 : (l.length : Int) ≤ most := (Int.not_lt.1 (of_decide_eq_false h1))
 refine awp_skip ?_
 refine hK2 _ _ ?_; clear hK2
 refine rS [] [0, 2, 7] (by decide) ?_
 intro K1 hK1
 refine ⟨tv, ?_⟩
 show K1 [(0, sF (l.map actAV)), (2, iT size), (7, iT 0)] m
 refine hK1 _ _ ?_; clear hK1 K1
 refine sK ?_; intro K3 hK3
 refine rS [] [0, 2, 7, 8] (by decide) ?_
 intro K1 hK1
 refine ⟨tv, ?_⟩
 show K1 [(0, sF (l.map actAV)), (2, iT size), (7, iT 0), (8, iT 0)] m
 refine hK1 _ _ ?_; clear hK1 K1
 refine awp_block ?_
 refine awp_keep [0, 2, 7, 8] (by decide) ?_
 refine awp_loop_st (σ := Int × Int) (fun ⟨n_, i⟩ => [(0, sF (l.map actAV)), (2, iT size), (7, iT n_), (8, iT i)]) (fun _ => m) (fun ⟨n_, i⟩ => 0 ≤ i ∧ i ≤ l.length ∧ lightA l most size = lightF size (l.drop i.toNat) n_) (fun ⟨n_, i⟩ => l.length - i.toNat) (0, 0) rfl rfl ?_ ?_
 ·
  show 0 ≤ ((0 : Int)) ∧ ((0 : Int)) ≤ l.length ∧ lightA l most size = lightF size (l.drop ((0 : Int)).toNat) ((0 : Int))
  exact ⟨by omega, by omega, by rw [lightA, if_neg (by omega)]; rfl⟩
 rintro ⟨n_, i⟩ hI
 replace hI : 0 ≤ i ∧ i ≤ l.length ∧ lightA l most size = lightF size (l.drop i.toNat) n_ := hI
 show AWP _ _ _ _ [(0, sF (l.map actAV)), (2, iT size), (7, iT n_), (8, iT i)] m
 refine sK ?_; intro K4 hK4
 refine rS [] [0, 2, 7, 8, 17] (by decide) ?_
 intro K1 hK1
 refine ⟨tv, tv, ?_⟩
 refine ar_len rfl actAV l rfl rfl rfl ?_
 refine ⟨tv, ?_⟩
 show K1 [(0, sF (l.map actAV)), (2, iT size), (7, iT n_), (8, iT i), (17, .bool (decide (i < (l.length : Int))))] m
 refine hK1 _ _ ?_; clear hK1 K1
 refine cD rfl rfl (fun h2 => ?_) (fun h2 => ?_)
 ·
  replace h2 : i < (l.length : Int) := (of_decide_eq_true h2)
  refine awp_skip ?_
  refine hK4 _ _ ?_; clear hK4
  refine sK ?_; intro K5 hK5
  refine awp_block ?_
  refine awp_draw_seq Try.mixed [(iT (weightV size ((gI l i).v)))] [0, 2, 7, 8] (by decide) (by decide) ?_
  intro K1 hK1
  refine ⟨tv, tv, tv, ?_⟩
  refine pq_index rfl actAV l i rfl rfl rfl rfl rfl (by decide) (fun _ => rfl) (by omega) (by omega) ?_
  refine ⟨⟨rfl, by decide, (nB rfl)⟩, (aO rfl rfl (nB rfl)), tv, tv, tv, tv, ?_⟩
  refine pq_index rfl actAV l i rfl rfl rfl rfl rfl (by decide) (fun _ => rfl) (by omega) (by omega) ?_
  refine ⟨⟨rfl, by decide, (nB rfl)⟩, (aO rfl rfl (nB rfl)), tv, tv, tv, tv, ?_⟩
  refine pq_index rfl actAV l i rfl rfl rfl rfl rfl (by decide) (fun _ => rfl) (by omega) (by omega) ?_
  refine ⟨⟨rfl, by decide, (nB rfl)⟩, (apartOk_agg rfl rfl (nB rfl)), tv, (fun Kc hKc => u_weight size (depV ((gI l i).v) + 1) ((gI l i).v) (Nat.lt_succ_self _) _ Kc hKc), tv, tv, ?_⟩
  show K1 [(0, sF (l.map actAV)), (2, iT size), (7, iT (IntKind.i64.wrap ((IntKind.i64.wrap ((IntKind.i64.wrap (n_ + (((gI l i).s).length : Int))) + (((gI l i).t).length : Int))) + (weightV size ((gI l i).v))))), (8, iT i)] m
  refine hK1 _ _ ?_; clear hK1 K1
  refine sK ?_; intro K6 hK6
  refine rS [] [0, 2, 7, 8, 54] (by decide) ?_
  intro K1 hK1
  suffices key : K1 [(0, sF (l.map actAV)), (2, iT size), (7, iT (IntKind.i64.wrap ((IntKind.i64.wrap ((IntKind.i64.wrap (n_ + (((gI l i).s).length : Int))) + (((gI l i).t).length : Int))) + (weightV size ((gI l i).v))))), (8, iT i), (54, .bool ((decide (size < IntKind.i64.wrap ((IntKind.i64.wrap ((IntKind.i64.wrap (n_ + (((gI l i).s).length : Int))) + (((gI l i).t).length : Int))) + (weightV size ((gI l i).v))))) || (decide (12 < (((gI l i).names).length : Int)))))] m by
   refine ⟨tv, tv, tv, tv, ?_⟩
   show aopsR _ _ _ _ _ [(46, .bool (decide (size < IntKind.i64.wrap ((IntKind.i64.wrap ((IntKind.i64.wrap (n_ + (((gI l i).s).length : Int))) + (((gI l i).t).length : Int))) + (weightV size ((gI l i).v)))))), (45, .bool (decide (size < IntKind.i64.wrap ((IntKind.i64.wrap ((IntKind.i64.wrap (n_ + (((gI l i).s).length : Int))) + (((gI l i).t).length : Int))) + (weightV size ((gI l i).v)))))), (44, iT size), (43, iT (IntKind.i64.wrap ((IntKind.i64.wrap ((IntKind.i64.wrap (n_ + (((gI l i).s).length : Int))) + (((gI l i).t).length : Int))) + (weightV size ((gI l i).v))))), (0, sF (l.map actAV)), (2, iT size), (7, iT (IntKind.i64.wrap ((IntKind.i64.wrap ((IntKind.i64.wrap (n_ + (((gI l i).s).length : Int))) + (((gI l i).t).length : Int))) + (weightV size ((gI l i).v))))), (8, iT i)] _
   revert key
   cases h3 : (decide (size < IntKind.i64.wrap ((IntKind.i64.wrap ((IntKind.i64.wrap (n_ + (((gI l i).s).length : Int))) + (((gI l i).t).length : Int))) + (weightV size ((gI l i).v)))))
   ·
    replace h3 : IntKind.i64.wrap ((IntKind.i64.wrap ((IntKind.i64.wrap (n_ + (((gI l i).s).length : Int))) + (((gI l i).t).length : Int))) + (weightV size ((gI l i).v))) ≤ size := (Int.not_lt.1 (of_decide_eq_false h3))
    intro key
    refine ⟨tv, tv, ?_⟩
    refine ar_index rfl actAV l i rfl rfl rfl rfl rfl (by decide) (fun _ => rfl) (by omega) (by omega) ?_
    refine ⟨⟨rfl, by decide, (nB rfl)⟩, (aO rfl rfl (nB rfl)), ?_⟩
    refine ar_len rfl strAV ((gI l i).names) rfl rfl rfl ?_
    refine ⟨tv, ?_⟩
    exact key
   ·
    replace h3 : size < IntKind.i64.wrap ((IntKind.i64.wrap ((IntKind.i64.wrap (n_ + (((gI l i).s).length : Int))) + (((gI l i).t).length : Int))) + (weightV size ((gI l i).v))) := (of_decide_eq_true h3)
    intro key
    refine ar_off rfl (ar_off rfl (ar_off rfl (ar_off rfl (ar_off rfl (ar_off rfl (ar_off rfl ?_))))))
    exact key
  refine hK1 _ _ ?_; clear hK1 K1
  refine cD rfl rfl (fun h4 => ?_) (fun h4 => ?_)
  ·
   replace h4 : (size < IntKind.i64.wrap ((IntKind.i64.wrap ((IntKind.i64.wrap (n_ + (((gI l i).s).length : Int))) + (((gI l i).t).length : Int))) + (weightV size ((gI l i).v)))) ∨ (12 < (((gI l i).names).length : Int)) := ((borT h4).imp (fun q => (of_decide_eq_true q)) (fun q => (of_decide_eq_true q)))
   refine rS [] [6] (by decide) ?_
   intro K1 hK1
   refine ⟨tv, ?_⟩
   show K1 [(6, .bool false)] m
   refine hK1 _ _ ?_; clear hK1 K1
   refine awp_ret ?_
   refine ⟨tv, m, fun _ _ h => h, ?_⟩
   show K (.bool false) m
  
   refine K_eq hK (cgA AV.bool ?_)
   rw [hI.2.2, drop_gI hI.1 h2, lightF, if_pos (by first | exact h4 | simpa [actW] using h4)]
  replace h4 : (IntKind.i64.wrap ((IntKind.i64.wrap ((IntKind.i64.wrap (n_ + (((gI l i).s).length : Int))) + (((gI l i).t).length : Int))) + (weightV size ((gI l i).v))) ≤ size) ∧ ((((gI l i).names).length : Int) ≤ 12) := ⟨(Int.not_lt.1 (of_decide_eq_false (borL h4))), (Int.not_lt.1 (of_decide_eq_false (borR h4)))⟩
  refine awp_skip ?_
  refine hK6 _ _ ?_; clear hK6
  refine rS [] [0, 2, 7, 8, 9] (by decide) ?_
  intro K1 hK1
  refine ⟨tv, ?_⟩
  show K1 [(0, sF (l.map actAV)), (2, iT size), (7, iT (IntKind.i64.wrap ((IntKind.i64.wrap ((IntKind.i64.wrap (n_ + (((gI l i).s).length : Int))) + (((gI l i).t).length : Int))) + (weightV size ((gI l i).v))))), (8, iT i), (9, iT 0)] m
  refine hK1 _ _ ?_; clear hK1 K1
  refine awp_block ?_
  refine awp_keep [0, 2, 7, 8, 9] (by decide) ?_
  refine awp_loop_st (σ := Int × Int) (fun ⟨n2, k⟩ => [(0, sF (l.map actAV)), (2, iT size), (7, iT n2), (8, iT i), (9, iT k)]) (fun _ => m) (fun ⟨n2, k⟩ => 0 ≤ k ∧ k ≤ (gI l i).names.length ∧ n2 = namesW (actW size n_ (gI l i)) ((gI l i).names.take k.toNat)) (fun ⟨n2, k⟩ => (gI l i).names.length - k.toNat) (IntKind.i64.wrap ((IntKind.i64.wrap ((IntKind.i64.wrap (n_ + (((gI l i).s).length : Int))) + (((gI l i).t).length : Int))) + (weightV size ((gI l i).v))), 0) rfl rfl ?_ ?_
  ·
   show 0 ≤ ((0 : Int)) ∧ ((0 : Int)) ≤ (gI l i).names.length ∧ ((IntKind.i64.wrap ((IntKind.i64.wrap ((IntKind.i64.wrap (n_ + (((gI l i).s).length : Int))) + (((gI l i).t).length : Int))) + (weightV size ((gI l i).v))) : Int)) = namesW (actW size n_ (gI l i)) ((gI l i).names.take ((0 : Int)).toNat)
   exact ⟨by omega, by omega, rfl⟩
  rintro ⟨n2, k⟩ hI2
  replace hI2 : 0 ≤ k ∧ k ≤ (gI l i).names.length ∧ n2 = namesW (actW size n_ (gI l i)) ((gI l i).names.take k.toNat) := hI2
  show AWP _ _ _ _ [(0, sF (l.map actAV)), (2, iT size), (7, iT n2), (8, iT i), (9, iT k)] m
  refine sK ?_; intro K7 hK7
  refine rS [] [0, 2, 7, 8, 9, 62] (by decide) ?_
  intro K1 hK1
  refine ⟨tv, tv, tv, ?_⟩
  refine ar_index rfl actAV l i rfl rfl rfl rfl rfl (by decide) (fun _ => rfl) (by omega) (by omega) ?_
  refine ⟨⟨rfl, by decide, (nB rfl)⟩, (aO rfl rfl (nB rfl)), ?_⟩
  refine ar_len rfl strAV ((gI l i).names) rfl rfl rfl ?_
  refine ⟨tv, ?_⟩
  show K1 [(0, sF (l.map actAV)), (2, iT size), (7, iT n2), (8, iT i), (9, iT k), (62, .bool (decide (k < (((gI l i).names).length : Int))))] m
  refine hK1 _ _ ?_; clear hK1 K1
  refine cD rfl rfl (fun h5 => ?_) (fun h5 => ?_)
  ·
   replace h5 : k < (((gI l i).names).length : Int) := (of_decide_eq_true h5)
   refine awp_skip ?_
   refine hK7 _ _ ?_; clear hK7
   refine sK ?_; intro K8 hK8
   refine awp_block ?_
   refine awp_reg2 [] [0, 2, 7, 8, 9] (by decide) ?_
   intro K1 hK1
   refine ⟨tv, tv, tv, ?_⟩
   refine ar_index rfl actAV l i rfl rfl rfl rfl rfl (by decide) (fun _ => rfl) (by omega) (by omega) ?_
   refine ⟨⟨rfl, by decide, (nB rfl)⟩, (aO rfl rfl (nB rfl)), tv, ?_⟩
   refine ar_index rfl strAV ((gI l i).names) k rfl rfl rfl rfl rfl (by decide) (fun _ => rfl) (by omega) (by omega) ?_
   refine ⟨(aO rfl rfl (nB rfl)), tv, tv, tv, ?_⟩
   show K1 [(0, sF (l.map actAV)), (2, iT size), (7, iT (IntKind.i64.wrap (n2 + ((gI ((gI l i).names) k).length : Int)))), (8, iT i), (9, iT k)] m
   refine hK1 _ _ ?_; clear hK1 K1
   refine hK8 _ _ ?_; clear hK8
   refine awp_reg2 [] [0, 2, 7, 8, 9] (by decide) ?_
   intro K1 hK1
   refine ⟨tv, ?_⟩
   refine ar_add rfl (a := k) (b := 1) rfl rfl (by omega) (by omega) ?_
   refine ⟨tv, ?_⟩
   show K1 [(0, sF (l.map actAV)), (2, iT size), (7, iT (IntKind.i64.wrap (n2 + ((gI ((gI l i).names) k).length : Int)))), (8, iT i), (9, iT (k + 1))] m
   refine hK1 _ _ ?_; clear hK1 K1
   refine ⟨(IntKind.i64.wrap (n2 + ((gI ((gI l i).names) k).length : Int)), k + 1), rfl, rfl, ?_, ?_⟩
   ·
    show 0 ≤ ((k + 1 : Int)) ∧ ((k + 1 : Int)) ≤ (gI l i).names.length ∧ ((IntKind.i64.wrap (n2 + ((gI ((gI l i).names) k).length : Int)) : Int)) = namesW (actW size n_ (gI l i)) ((gI l i).names.take ((k + 1 : Int)).toNat)
    exact ⟨by omega, by omega, by rw [take_succ_gI hI2.1 h5, namesW, List.foldl_append, hI2.2.2]; rfl⟩
   ·
    show (gI l i).names.length - ((k + 1 : Int)).toNat < (gI l i).names.length - k.toNat
    omega
  replace h5 : (((gI l i).names).length : Int) ≤ k := (Int.not_lt.1 (of_decide_eq_false h5))
  refine awp_exit ?_
  refine hK5 _ _ ?_; clear hK5
  refine awp_reg2 [] [0, 2, 7, 8] (by decide) ?_
  intro K1 hK1
  refine ⟨tv, ?_⟩
  refine ar_add rfl (a := i) (b := 1) rfl rfl (by omega) (by omega) ?_
  refine ⟨tv, ?_⟩
  show K1 [(0, sF (l.map actAV)), (2, iT size), (7, iT n2), (8, iT (i + 1))] m
  refine hK1 _ _ ?_; clear hK1 K1
  refine ⟨(n2, i + 1), rfl, rfl, ?_, ?_⟩
  ·
   show 0 ≤ ((i + 1 : Int)) ∧ ((i + 1 : Int)) ≤ l.length ∧ lightA l most size = lightF size (l.drop ((i + 1 : Int)).toNat) ((n2 : Int))
   refine ⟨by omega, by omega, ?_⟩
   rw [hI.2.2, drop_gI hI.1 h2, lightF, if_neg (by intro hh; rcases hh with hh | hh <;> first | omega | (unfold actW at hh; omega)), hI2.2.2, take_full h5]
  ·
   show l.length - ((i + 1 : Int)).toNat < l.length - i.toNat
   omega
 replace h2 : (l.length : Int) ≤ i := (Int.not_lt.1 (of_decide_eq_false h2))
 refine awp_exit ?_
 refine hK3 _ _ ?_; clear hK3
 refine rS [] [6] (by decide) ?_
 intro K1 hK1
 refine ⟨tv, tv, tv, tv, ?_⟩
 show K1 [(6, .bool (decide (n_ ≤ size)))] m
 refine hK1 _ _ ?_; clear hK1 K1
 refine awp_ret ?_
 refine ⟨tv, m, fun _ _ h => h, ?_⟩
 show K (.bool (decide (n_ ≤ size))) m
 refine K_eq hK (cgA AV.bool ?_)
 rw [hI.2.2, List.drop_eq_nil_of_le (by omega)]; rfl
end Go.Proofs
end
section
namespace Go.Proofs
open Go Go.Aw
set_option maxRecDepth 100000
theorem u_same (e f : Int) (he : 0 ≤ e) (m : AMem)  (K : AV → AMem → Prop) (hK : K (.bool (e == f)) m) : ACalls Try.prog 14 [.err 108 e, .int .i64 f] m K := by
 refine acalls_enter Try.func14 rfl (by decide) (Nat.le_of_ble_eq_true rfl) ?_
 show AWP _ _ _ _ [(0, .err 108 e), (1, .int .i64 f)] m
 refine awp_reg2_seq [] [0, 1] (by decide) ?_
 intro K1 hK1
 refine ⟨trivial, ?_⟩
 show K1 [(0, .err 108 e), (1, .int .i64 f)] m
 refine hK1 _ _ ?_; clear hK1 K1
 refine awp_seq_k ?_; intro K2 hK2
 refine awp_reg2_seq [] [0, 1, 8] (by decide) ?_
 intro K1 hK1
 refine ⟨trivial, ⟨rfl, rfl⟩, ?_⟩
 show K1 [(0, .err 108 e), (1, .int .i64 f), (8, .bool (e == 0))] m
 refine hK1 _ _ ?_; clear hK1 K1
 refine awp_cond rfl rfl (fun h1 => ?_) (fun h1 => ?_)
 ·
  replace h1 : e = 0 := (eq_of_beq h1)
  refine awp_reg2_seq [] [4] (by decide) ?_
  intro K1 hK1
  refine ⟨trivial, trivial, trivial, ?_⟩
  show K1 [(4, .bool (f == 0))] m
  refine hK1 _ _ ?_; clear hK1 K1
  refine awp_ret ?_
  refine ⟨trivial, m, fun _ _ h => h, ?_⟩
  show K (.bool (f == 0)) m
 
  refine K_eq hK (congrArg AV.bool ?_)
  rw [Bool.eq_iff_iff]; simp; omega
 replace h1 : e ≠ 0 := (ne_of_beq_false h1)
 refine awp_skip ?_
 refine hK2 _ _ ?_; clear hK2
 refine awp_reg2_seq [] [1, 5, 6] (by decide) ?_
 intro K1 hK1
 refine ⟨trivial, rfl, trivial, (Nat.le_of_ble_eq_true rfl), (Nat.le_of_ble_eq_true rfl), trivial, trivial, ?_⟩
 show K1 [(1, .int .i64 f), (5, .int .i64 e), (6, .bool (!(e == 0)))] m
 refine hK1 _ _ ?_; clear hK1 K1
 refine awp_reg2_seq [] [4] (by decide) ?_
 intro K1 hK1
 suffices key : K1 [(4, .bool (((!(e == 0)) && (decide (0 < f))) && (e == f)))] m by
  refine ⟨trivial, trivial, ?_⟩
  show aopsR _ _ _ _ _ [(17, .bool (!(e == 0))), (16, .bool (!(e == 0))), (1, .int .i64 f), (5, .int .i64 e), (6, .bool (!(e == 0)))] _
  revert key
  cases h2 : (e == 0)
  ·
   replace h2 : e ≠ 0 := (ne_of_beq_false h2)
   intro key
   refine ⟨trivial, trivial, ?_⟩
   refine ⟨trivial, ?_⟩
   show aopsR _ _ _ _ _ [(21, .bool (decide (0 < f))), (20, .bool (decide (0 < f))), (19, .bool (decide (0 < f))), (18, .int .i64 f), (17, .bool true), (16, .bool true), (1, .int .i64 f), (5, .int .i64 e), (6, .bool true)] _
   revert key
   cases h3 : (decide (0 < f))
   ·
    replace h3 : f ≤ 0 := (Int.not_lt.1 (of_decide_eq_false h3))
    intro key
    refine ar_off rfl (ar_off rfl (ar_off rfl ?_))
    refine ⟨trivial, ?_⟩
    exact key
   ·
    replace h3 : 0 < f := (of_decide_eq_true h3)
    intro key
    refine ⟨trivial, trivial, trivial, ?_⟩
    refine ⟨trivial, ?_⟩
    exact key
  ·
   replace h2 : e = 0 := (eq_of_beq h2)
   intro key
   refine ar_off rfl (ar_off rfl ?_)
   refine ⟨trivial, ?_⟩
   refine ar_off rfl (ar_off rfl (ar_off rfl ?_))
   refine ⟨trivial, ?_⟩
   exact key
 refine hK1 _ _ ?_; clear hK1 K1
 refine awp_ret ?_
 refine ⟨trivial, m, fun _ _ h => h, ?_⟩
 show K (.bool (((!(e == 0)) && (decide (0 < f))) && (e == f))) m
 refine K_eq hK (congrArg AV.bool ?_)
 rw [Bool.eq_iff_iff]; simp; omega
end Go.Proofs
end
section
namespace Go.Proofs
open Go Go.Aw
set_option maxRecDepth 100000
def Okd (s : DSt) : Prop := s.down = false ∧ s.fuse = -1
theorem stepF_ok {s : DSt} (h : Okd s) : (stepF s).2 = 0 ∧ Okd (stepF s).1 := by
  unfold stepF
  rw [if_neg (by simp [h.1]), if_neg (by rw [h.2]; decide)]
  refine ⟨rfl, h.1, ?_⟩
  show (if 0 < s.fuse then s.fuse - 1 else s.fuse) = -1
  rw [h.2]; rfl
def allF (l : List Str) : Str := l.flatMap framedL
structure LogI (s : DSt) (n : Str) (l : List Str) (z : Int) : Prop where
  ok : Okd s
  txt : mget s.now n = some (allF l)
  siz : z = (allF l).length
  sml : z ≤ 4000
  rcs : ∀ r ∈ l, r.length ≤ 400
theorem LogI.len {s : DSt} {n : Str} {l : List Str} {z : Int} (h : LogI s n l z) : l.length ≤ 4000 := by
  have h1 := h.siz
  have h2 := h.sml
  have : ∀ l : List Str, l.length ≤ (allF l).length := fun l => by
    induction l with
    | nil => simp
    | cons t l ih =>
      have e : allF (t :: l) = framedL t ++ allF l := by simp [allF]
      rw [e, List.length_append, framedL_len, List.length_cons]; omega
  have := this l
  omega
theorem DInv.start : DInv 0 ⟨[], [], [], -1, false, 0⟩ := ⟨by simp, by simp, by simp, by simp, by simp, by simp, by simp, by simp, by simp⟩
end Go.Proofs
end
section
namespace Go.Proofs
open Go Go.Aw
set_option maxRecDepth 100000
def s0 : DSt := ⟨[], [], [], -1, false, 0⟩
theorem u_New0 (m : AMem) (K : AV → AMem → Prop) (hK : ∀ d nb kb, ([d, nb, kb] : List Nat).Nodup → m d = none → m nb = none → m kb = none → K (.ptr ⟨d, 0, none⟩) (AMem.wth m [(d, dObj kb nb s0), (nb, mObj s0.now), (kb, mObj s0.kept)])) : ACalls Try.prog 11 [] m K := u_New m K hK
theorem u_same_eq (e : Int) (he : 0 ≤ e) (m : AMem) (K : AV → AMem → Prop) (hK : K (.bool true) m) : ACalls Try.prog 14 [.err 108 e, .int .i64 e] m K := u_same e e he m K (by rw [show (e == e) = true from by simp]; exact hK)
end Go.Proofs
end
section
namespace Go.Proofs
open Go Go.Aw
set_option maxRecDepth 100000
theorem depL_len (l : List Val) : l.length ≤ depL l := by
  induction l with
  | nil => exact Nat.le_refl _
  | cons v r ih => have := depV_eq v; simp only [depL, List.length_cons]; omega
theorem depF_len (l : List (Str × Val)) : l.length ≤ depF l := by
  induction l with
  | nil => exact Nat.le_refl _
  | cons p r ih =>
    obtain ⟨s, v⟩ := p
    cases v with
    | mk k n t l f => simp only [depF, List.length_cons]; omega
def letC (c : UInt8) : Bool := decide (97 ≤ (c.toNat : Int)) && decide ((c.toNat : Int) ≤ 122)
def digC (c : UInt8) : Bool := decide (48 ≤ (c.toNat : Int)) && decide ((c.toNat : Int) ≤ 57)
def nmF : Str → Bool → Bool
  | [], _ => true
  | c :: r, first => (letC c || (!first && digC c)) && nmF r false
def nameV (s : Str) : Bool := nmF s true && !(s == []) && decide ((s.length : Int) ≤ 12)
theorem nmF_step {s : Str} {i : Int} (h0 : 0 ≤ i) (hi : i < s.length) : nmF (s.drop i.toNat) (i == 0) = ((letC (gI s i) || (!(i == 0) && digC (gI s i))) && nmF (s.drop (i + 1).toNat) (i + 1 == 0)) := by
  have e : (i + 1 == 0) = false := by simp; omega
  rw [drop_gI h0 hi, nmF, e]
set_option maxHeartbeats 2000000 in
theorem u_VName (s : Str) (hs : s.length ≤ 140737488355328) (m : AMem)  (K : AV → AMem → Prop) (hK : K (.bool (nameV s)) m) : ACalls Try.prog 80 [.str s] m K := by
 refine acalls_enter Try.func80 rfl (by decide) (nB rfl) ?_
 show AWP _ _ _ _ [(0, .str s)] m
 refine rS [] [0] (by decide) ?_
 intro K1 hK1
 refine ⟨tv, ?_⟩
 show K1 [(0, .str s)] m
 refine hK1 _ _ ?_; clear hK1 K1
 refine sK ?_; intro K2 hK2
 refine rS [] [0, 6, 7] (by decide) ?_
 intro K1 hK1
 refine ⟨tv, tv, tv, ?_⟩
 show K1 [(0, .str s), (6, iT (s.length : Int)), (7, iT 0)] m
 refine hK1 _ _ ?_; clear hK1 K1
 refine awp_block ?_
 refine awp_keep [0, 6, 7] (by decide) ?_
 refine awp_loop_st (σ := Int) (fun i => [(0, .str s), (6, iT (s.length : Int)), (7, iT i)]) (fun _ => m) (fun i => 0 ≤ i ∧ i ≤ s.length ∧ nmF s true = nmF (s.drop i.toNat) (i == 0)) (fun i => s.length - i.toNat) (0) rfl rfl ?_ ?_
 ·
  show 0 ≤ ((0 : Int)) ∧ ((0 : Int)) ≤ s.length ∧ nmF s true = nmF (s.drop ((0 : Int)).toNat) (((0 : Int)) == 0)
  exact ⟨by omega, by omega, by simp⟩
 rintro i hI
 replace hI : 0 ≤ i ∧ i ≤ s.length ∧ nmF s true = nmF (s.drop i.toNat) (i == 0) := hI
 show AWP _ _ _ _ [(0, .str s), (6, iT (s.length : Int)), (7, iT i)] m
 refine rS [] [0, 6, 7, 8] (by decide) ?_
 intro K1 hK1
 refine ⟨tv, ?_⟩
 show K1 [(0, .str s), (6, iT (s.length : Int)), (7, iT i), (8, .bool (decide (i < (s.length : Int))))] m
 refine hK1 _ _ ?_; clear hK1 K1
 refine sK ?_; intro K3 hK3
 refine cD rfl rfl (fun h1 => ?_) (fun h1 => ?_)
 ·
  replace h1 : i < (s.length : Int) := (of_decide_eq_true h1)
  refine awp_skip ?_
  refine hK3 _ _ ?_; clear hK3
  refine sK ?_; intro K4 hK4
  refine awp_block ?_
  refine rS [] [0, 3, 6, 7] (by decide) ?_
  intro K1 hK1
  refine ⟨tv, tv, ?_⟩
  show K1 [(0, .str s), (3, iT i), (6, iT (s.length : Int)), (7, iT i)] m
  refine hK1 _ _ ?_; clear hK1 K1
  refine rS [] [0, 3, 4, 6, 7] (by decide) ?_
  intro K1 hK1
  refine ⟨tv, tv, ⟨(by omega), (by omega)⟩, tv, ?_⟩
  show K1 [(0, .str s), (3, iT i), (4, .int .u8 ((gI s i).toNat)), (6, iT (s.length : Int)), (7, iT i)] m
  refine hK1 _ _ ?_; clear hK1 K1
  refine rS [] [0, 6, 7, 30] (by decide) ?_
  intro K1 hK1
  suffices key : K1 [(0, .str s), (6, iT (s.length : Int)), (7, iT i), (30, .bool (((decide (((gI s i).toNat : Int) < 97)) || (decide (122 < ((gI s i).toNat : Int)))) && (((i == 0) || (decide (((gI s i).toNat : Int) < 48))) || (decide (57 < ((gI s i).toNat : Int))))))] m by
   refine ⟨tv, tv, tv, ?_⟩
   show aopsR _ _ _ _ _ [(15, .bool (decide (((gI s i).toNat : Int) < 97))), (14, .bool (decide (((gI s i).toNat : Int) < 97))), (13, .int .u8 ((gI s i).toNat)), (0, .str s), (3, iT i), (4, .int .u8 ((gI s i).toNat)), (6, iT (s.length : Int)), (7, iT i)] _
   revert key
   cases h2 : (decide (((gI s i).toNat : Int) < 97))
   ·
    replace h2 : 97 ≤ ((gI s i).toNat : Int) := (Int.not_lt.1 (of_decide_eq_false h2))
    intro key
    refine ⟨tv, tv, ?_⟩
    refine ⟨tv, ?_⟩
    show aopsR _ _ _ _ _ [(19, .bool (decide (122 < ((gI s i).toNat : Int)))), (18, .bool (decide (122 < ((gI s i).toNat : Int)))), (17, .bool (decide (122 < ((gI s i).toNat : Int)))), (16, .int .u8 ((gI s i).toNat)), (15, .bool false), (14, .bool false), (13, .int .u8 ((gI s i).toNat)), (0, .str s), (3, iT i), (4, .int .u8 ((gI s i).toNat)), (6, iT (s.length : Int)), (7, iT i)] _
    revert key
    cases h3 : (decide (122 < ((gI s i).toNat : Int)))
    ·
     replace h3 : ((gI s i).toNat : Int) ≤ 122 := (Int.not_lt.1 (of_decide_eq_false h3))
     intro key
     refine ar_off rfl (ar_off rfl (ar_off rfl (ar_off rfl (ar_off rfl (ar_off rfl (ar_off rfl (ar_off rfl (ar_off rfl (ar_off rfl ?_)))))))))
     exact key
    ·
     replace h3 : 122 < ((gI s i).toNat : Int) := (of_decide_eq_true h3)
     intro key
     refine ⟨tv, tv, tv, ?_⟩
     show aopsR _ _ _ _ _ [(22, .bool (i == 0)), (21, .bool (i == 0)), (20, iT i), (19, .bool true), (18, .bool true), (17, .bool true), (16, .int .u8 ((gI s i).toNat)), (15, .bool false), (14, .bool false), (13, .int .u8 ((gI s i).toNat)), (0, .str s), (3, iT i), (4, .int .u8 ((gI s i).toNat)), (6, iT (s.length : Int)), (7, iT i)] _
     revert key
     cases h4 : (i == 0)
     ·
      replace h4 : i ≠ 0 := (ne_of_beq_false h4)
      intro key
      refine ⟨tv, tv, ?_⟩
      refine ⟨tv, ?_⟩
      show aopsR _ _ _ _ _ [(26, .bool (decide (((gI s i).toNat : Int) < 48))), (25, .bool (decide (((gI s i).toNat : Int) < 48))), (24, .bool (decide (((gI s i).toNat : Int) < 48))), (23, .int .u8 ((gI s i).toNat)), (22, .bool false), (21, .bool false), (20, iT i), (19, .bool true), (18, .bool true), (17, .bool true), (16, .int .u8 ((gI s i).toNat)), (15, .bool false), (14, .bool false), (13, .int .u8 ((gI s i).toNat)), (0, .str s), (3, iT i), (4, .int .u8 ((gI s i).toNat)), (6, iT (s.length : Int)), (7, iT i)] _
      revert key
      cases h5 : (decide (((gI s i).toNat : Int) < 48))
      ·
       replace h5 : 48 ≤ ((gI s i).toNat : Int) := (Int.not_lt.1 (of_decide_eq_false h5))
       intro key
       refine ⟨tv, tv, ?_⟩
       exact key
      ·
       replace h5 : ((gI s i).toNat : Int) < 48 := (of_decide_eq_true h5)
       intro key
       refine ar_off rfl (ar_off rfl ?_)
       exact key
     ·
      replace h4 : i = 0 := (eq_of_beq h4)
      intro key
      refine ar_off rfl (ar_off rfl ?_)
      refine ⟨tv, ?_⟩
      refine ar_off rfl (ar_off rfl ?_)
      exact key
   ·
    replace h2 : ((gI s i).toNat : Int) < 97 := (of_decide_eq_true h2)
    intro key
    refine ar_off rfl (ar_off rfl ?_)
    refine ⟨tv, tv, tv, tv, ?_⟩
    show aopsR _ _ _ _ _ [(22, .bool (i == 0)), (21, .bool (i == 0)), (20, iT i), (19, .bool true), (18, .bool true), (17, .lazy false (.junk)), (16, .lazy false (.junk)), (15, .bool true), (14, .bool true), (13, .int .u8 ((gI s i).toNat)), (0, .str s), (3, iT i), (4, .int .u8 ((gI s i).toNat)), (6, iT (s.length : Int)), (7, iT i)] _
    revert key
    cases h6 : (i == 0)
    ·
     replace h6 : i ≠ 0 := (ne_of_beq_false h6)
     intro key
     refine ⟨tv, tv, ?_⟩
     refine ⟨tv, ?_⟩
     show aopsR _ _ _ _ _ [(26, .bool (decide (((gI s i).toNat : Int) < 48))), (25, .bool (decide (((gI s i).toNat : Int) < 48))), (24, .bool (decide (((gI s i).toNat : Int) < 48))), (23, .int .u8 ((gI s i).toNat)), (22, .bool false), (21, .bool false), (20, iT i), (19, .bool true), (18, .bool true), (17, .lazy false (.junk)), (16, .lazy false (.junk)), (15, .bool true), (14, .bool true), (13, .int .u8 ((gI s i).toNat)), (0, .str s), (3, iT i), (4, .int .u8 ((gI s i).toNat)), (6, iT (s.length : Int)), (7, iT i)] _
     revert key
     cases h7 : (decide (((gI s i).toNat : Int) < 48))
     ·
      replace h7 : 48 ≤ ((gI s i).toNat : Int) := (Int.not_lt.1 (of_decide_eq_false h7))
      intro key
      refine ⟨tv, tv, ?_⟩
      exact key
     ·
      replace h7 : ((gI s i).toNat : Int) < 48 := (of_decide_eq_true h7)
      intro key
      refine ar_off rfl (ar_off rfl ?_)
      exact key
    ·
     replace h6 : i = 0 := (eq_of_beq h6)
     intro key
     refine ar_off rfl (ar_off rfl ?_)
     refine ⟨tv, ?_⟩
     refine ar_off rfl (ar_off rfl ?_)
     exact key
  refine hK1 _ _ ?_; clear hK1 K1
  refine cD rfl rfl (fun h8 => ?_) (fun h8 => ?_)
  ·
   replace h8 : ((((gI s i).toNat : Int) < 97) ∨ (122 < ((gI s i).toNat : Int))) ∧ (((i = 0) ∨ (((gI s i).toNat : Int) < 48)) ∨ (57 < ((gI s i).toNat : Int))) := ⟨((borT (bandL h8)).imp (fun q => (of_decide_eq_true q)) (fun q => (of_decide_eq_true q))), ((borT (bandR h8)).imp (fun q => ((borT q).imp (fun q => (eq_of_beq q)) (fun q => (of_decide_eq_true q)))) (fun q => (of_decide_eq_true q)))⟩
   refine rS [] [2] (by decide) ?_
   intro K1 hK1
   refine ⟨tv, ?_⟩
   show K1 [(2, .bool false)] m
   refine hK1 _ _ ?_; clear hK1 K1
   refine awp_ret ?_
   refine ⟨tv, m, fun _ _ h => h, ?_⟩
   show K (.bool false) m
  
   refine K_eq hK (cgA AV.bool ?_)
   have hb : (letC (gI s i) || (!(i == 0) && digC (gI s i))) = false := by
    rw [Bool.eq_false_iff]; intro hh; simp [letC, digC] at hh; omega
   rw [nameV, hI.2.2, nmF_step hI.1 h1, hb]; rfl
  replace h8 : ((97 ≤ ((gI s i).toNat : Int)) ∧ (((gI s i).toNat : Int) ≤ 122)) ∨ (((i ≠ 0) ∧ (48 ≤ ((gI s i).toNat : Int))) ∧ (((gI s i).toNat : Int) ≤ 57)) := ((bandF h8).imp (fun q => ⟨(Int.not_lt.1 (of_decide_eq_false (borL q))), (Int.not_lt.1 (of_decide_eq_false (borR q)))⟩) (fun q => ⟨⟨(ne_of_beq_false (borL (borL q))), (Int.not_lt.1 (of_decide_eq_false (borR (borL q))))⟩, (Int.not_lt.1 (of_decide_eq_false (borR q)))⟩))
  refine awp_skip ?_
  refine hK4 _ _ ?_; clear hK4
  refine awp_reg2 [] [0, 6, 7] (by decide) ?_
  intro K1 hK1
  refine ar_add rfl (a := i) (b := 1) rfl rfl (by omega) (by omega) ?_
  refine ⟨tv, ?_⟩
  show K1 [(0, .str s), (6, iT (s.length : Int)), (7, iT (i + 1))] m
  refine hK1 _ _ ?_; clear hK1 K1
  refine ⟨(i + 1), rfl, rfl, ?_, ?_⟩
  ·
   show 0 ≤ ((i + 1 : Int)) ∧ ((i + 1 : Int)) ≤ s.length ∧ nmF s true = nmF (s.drop ((i + 1 : Int)).toNat) (((i + 1 : Int)) == 0)
   have hb : (letC (gI s i) || (!(i == 0) && digC (gI s i))) = true := by simp [letC, digC]; omega
   exact ⟨by omega, by omega, by rw [hI.2.2, nmF_step hI.1 h1, hb]; rfl⟩
  ·
   show s.length - ((i + 1 : Int)).toNat < s.length - i.toNat
   omega
 replace h1 : (s.length : Int) ≤ i := (Int.not_lt.1 (of_decide_eq_false h1))
 refine awp_exit ?_
 refine hK2 _ _ ?_; clear hK2
 refine rS [] [2] (by decide) ?_
 intro K1 hK1
 suffices key : K1 [(2, .bool ((!(s == ([]))) && (decide ((s.length : Int) ≤ 12))))] m by
  refine ⟨tv, tv, tv, ?_⟩
  show aopsR _ _ _ _ _ [(34, .bool (!(s == ([])))), (33, .bool (!(s == ([])))), (32, .str s), (0, .str s), (6, iT (s.length : Int)), (7, iT i), (8, .bool (decide (i < (s.length : Int))))] _
  revert key
  cases h9 : (s == ([]))
  ·
   replace h9 : s ≠ [] := (ne_of_beq_false h9)
   intro key
   refine ⟨tv, tv, tv, ?_⟩
   refine ⟨tv, ?_⟩
   exact key
  ·
   replace h9 : s = [] := (eq_of_beq h9)
   intro key
   refine ar_off rfl (ar_off rfl (ar_off rfl ?_))
   refine ⟨tv, ?_⟩
   exact key
 refine hK1 _ _ ?_; clear hK1 K1
 refine awp_ret ?_
 refine ⟨tv, m, fun _ _ h => h, ?_⟩
 show K (.bool ((!(s == ([]))) && (decide ((s.length : Int) ≤ 12)))) m
 refine K_eq hK (cgA AV.bool ?_)
 have ha : nmF s true = true := by rw [hI.2.2, List.drop_eq_nil_of_le (by omega)]; rfl
 rw [nameV, ha]; cases s <;> simp
mutual
def okV : Val → Prop
  | .mk _ _ _ l f => (l.length ≤ 1759218604441 ∧ f.length ≤ 1466015503701) ∧ okVL l ∧ okVF f
def okVL : List Val → Prop
  | [] => True
  | v :: r => okV v ∧ okVL r
def okVF : List (Str × Val) → Prop
  | [] => True
  | (_, .mk _ _ _ l f) :: r => ((l.length ≤ 1759218604441 ∧ f.length ≤ 1466015503701) ∧ okVL l ∧ okVF f) ∧ okVF r
end
theorem okV_eq (v : Val) : okV v ↔ (v.l.length ≤ 1759218604441 ∧ v.f.length ≤ 1466015503701) ∧ okVL v.l ∧ okVF v.f := by
  cases v with
  | mk k n s l f => simp only [okV, Val.l, Val.f]
theorem okVL_iff (l : List Val) : okVL l ↔ ∀ v ∈ l, okV v := by
  induction l with
  | nil => simp [okVL]
  | cons v r ih => simp [okVL, ih]
theorem okVF_iff (l : List (Str × Val)) : okVF l ↔ ∀ p ∈ l, okV p.2 := by
  induction l with
  | nil => simp [okVF]
  | cons p r ih =>
    obtain ⟨s, v⟩ := p
    cases v with
    | mk k n t l f => simp [okVF, okV, ih]
theorem okV_iff (v : Val) : okV v ↔ (v.l.length ≤ 1759218604441 ∧ v.f.length ≤ 1466015503701) ∧ (∀ w ∈ v.l, okV w) ∧ ∀ p ∈ v.f, okV p.2 := by
  rw [okV_eq, okVL_iff, okVF_iff]
theorem okV_small : ∀ (n : Nat) (v : Val), depV v < n → depV v ≤ 1000000000 → okV v
  | 0, _, h, _ => absurd h (Nat.not_lt_zero _)
  | n + 1, v, h, hz => by
    have e := depV_eq v
    have h1 := depL_len v.l
    have h2 := depF_len v.f
    rw [okV_iff]
    exact ⟨⟨by omega, by omega⟩, fun w hw => okV_small n w (by have := depL_mem hw; omega) (by have := depL_mem hw; omega), fun p hp => okV_small n p.2 (by have := depF_mem hp; omega) (by have := depF_mem hp; omega)⟩
set_option maxHeartbeats 4000000 in
theorem u_Copy1 (v : Val) (hz : okV v) (ih : ∀ w : Val, depV w < depV v → okV w → ∀ (m : AMem) (K : AV → AMem → Prop), K (valTop w) m → ACalls Try.prog 82 [valTop w] m K) (m : AMem)  (K : AV → AMem → Prop) (hK : K (valTop v) m) : ACalls Try.prog 82 [valTop v] m K := by
 have hok := (okV_iff v).1 hz
 have hl1 := hok.1.1
 have hf1 := hok.1.2
 refine acalls_enter Try.func82 rfl (by decide) (nB rfl) ?_
 show AWP _ _ _ _ [(0, valTop v)] m
 refine rS [] [1, 2] (by decide) ?_
 intro K1 hK1
 refine ar_box rfl (m := m) (L := []) (v := valTop v) (by rfl) rfl ?_
 intro b1 hb1
 have hFb1 : m b1 = none := wth_none (m := m) (L := []) hb1
 have hNb1 : ([b1] : List Nat).Nodup := wth_nodup (m := m) (L := []) hb1 List.nodup_nil
 refine ar_alloc rfl (z := .agg [iT 0, iT 0, .str ([]), .slice true [], .slice true []]) rfl rfl ?_
 intro b2 hb2
 have hFb2 : m b2 = none := wth_none hb2
 have hNb2 : ([b2, b1] : List Nat).Nodup := wth_nodup hb2 hNb1
 show K1 [(1, pT b1), (2, pT b2)] (mW m [(b2, .cells [iT 0, iT 0, .str ([]), .slice true [], .slice true []]), (b1, .cells [iT v.kind, iT v.n, .str v.s, sF (v.l.map valIn), sF (v.f.map fldIn)])])
 refine hK1 _ _ ?_; clear hK1 K1
 refine awp_draw_seq Try.mixed [] [1, 2, 3, 4] (by decide) (by decide) ?_
 intro K1 hK1
 refine ⟨⟨rfl, by decide⟩, ?_⟩
 refine pq_loadp rfl (v := sF (v.l.map valIn)) rfl (wG 1 hNb2 rfl) (aO rfl rfl (nB rfl)) rfl ?_
 refine ⟨⟨rfl, by decide⟩, ?_⟩
 refine pq_loadp rfl (v := sF (v.f.map fldIn)) rfl (wG 1 hNb2 rfl) (aO rfl rfl (nB rfl)) rfl ?_
 refine ⟨tv, tv, ?_⟩
 show K1 [(1, pT b1), (2, pT b2), (3, sF (v.l.map valIn)), (4, sF (v.f.map fldIn))] _
 refine hK1 _ _ ?_; clear hK1 K1
 refine rS [] [1, 2, 3, 4] (by decide) ?_
 intro K1 hK1
 refine ⟨⟨rfl, by decide⟩, ?_⟩
 refine aS rfl 1 (v := .slice true []) (l' := [iT v.kind, iT v.n, .str v.s, .slice true [], sF (v.f.map fldIn)]) rfl rfl hNb2 rfl rfl rfl rfl rfl (nB rfl) rfl ?_
 refine ⟨⟨rfl, by decide⟩, ?_⟩
 refine aS rfl 1 (v := .slice true []) (l' := [iT v.kind, iT v.n, .str v.s, .slice true [], .slice true []]) rfl rfl hNb2 rfl rfl rfl rfl rfl (nB rfl) rfl ?_
 show K1 [(1, pT b1), (2, pT b2), (3, sF (v.l.map valIn)), (4, sF (v.f.map fldIn))] (mW m [(b2, .cells [iT 0, iT 0, .str ([]), .slice true [], .slice true []]), (b1, .cells [iT v.kind, iT v.n, .str v.s, .slice true [], .slice true []])])
 refine hK1 _ _ ?_; clear hK1 K1
 refine sK ?_; intro K2 hK2
 refine rS [] [1, 2, 4, 15, 16, 17] (by decide) ?_
 intro K1 hK1
 refine ⟨tv, ?_⟩
 refine ar_len rfl valIn v.l rfl rfl rfl ?_
 refine ⟨tv, ?_⟩
 show K1 [(1, pT b1), (2, pT b2), (4, sF (v.f.map fldIn)), (15, sF (v.l.map valIn)), (16, iT (v.l.length : Int)), (17, iT 0)] _
 refine hK1 _ _ ?_; clear hK1 K1
 refine awp_block ?_
 refine awp_keep [1, 2, 4, 15, 16, 17] (by decide) ?_
 refine awp_loop_st (σ := Int × (List Val)) (fun ⟨i, ol⟩ => [(1, pT b1), (2, pT b2), (4, sF (v.f.map fldIn)), (15, sF (v.l.map valIn)), (16, iT (v.l.length : Int)), (17, iT i)]) (fun ⟨i, ol⟩ => (mW m [(b2, .cells [iT 0, iT 0, .str ([]), .slice true [], .slice true []]), (b1, .cells [iT v.kind, iT v.n, .str v.s, sT (ol.map valIn), .slice true []])])) (fun ⟨i, ol⟩ => 0 ≤ i ∧ i ≤ v.l.length ∧ ol = v.l.take i.toNat) (fun ⟨i, ol⟩ => v.l.length - i.toNat) (0, []) rfl rfl ?_ ?_
 ·
  show 0 ≤ ((0 : Int)) ∧ ((0 : Int)) ≤ v.l.length ∧ (([] : (List Val))) = v.l.take ((0 : Int)).toNat
  exact ⟨by omega, by omega, rfl⟩
 rintro ⟨i, ol⟩ hI
 replace hI : 0 ≤ i ∧ i ≤ v.l.length ∧ ol = v.l.take i.toNat := hI
 have hol : ol.length ≤ v.l.length := by rw [hI.2.2, List.length_take]; omega
 have hol2 : (ol.length : Int) ≤ i := by rw [hI.2.2, List.length_take]; omega
 show AWP _ _ _ _ [(1, pT b1), (2, pT b2), (4, sF (v.f.map fldIn)), (15, sF (v.l.map valIn)), (16, iT (v.l.length : Int)), (17, iT i)] (mW m [(b2, .cells [iT 0, iT 0, .str ([]), .slice true [], .slice true []]), (b1, .cells [iT v.kind, iT v.n, .str v.s, sT (ol.map valIn), .slice true []])])
 refine rS [] [1, 2, 4, 15, 16, 17, 18] (by decide) ?_
 intro K1 hK1
 refine ⟨tv, ?_⟩
 show K1 [(1, pT b1), (2, pT b2), (4, sF (v.f.map fldIn)), (15, sF (v.l.map valIn)), (16, iT (v.l.length : Int)), (17, iT i), (18, .bool (decide (i < (v.l.length : Int))))] _
 refine hK1 _ _ ?_; clear hK1 K1
 refine sK ?_; intro K3 hK3
 refine cD rfl rfl (fun h1 => ?_) (fun h1 => ?_)
 ·
  replace h1 : i < (v.l.length : Int) := (of_decide_eq_true h1)
  refine awp_skip ?_
  refine hK3 _ _ ?_; clear hK3
  refine sK ?_; intro K4 hK4
  refine awp_block ?_
  refine rS [] [1, 2, 4, 6, 15, 16, 17] (by decide) ?_
  intro K1 hK1
  refine ar_index rfl valTop v.l i rfl rfl (valMap v.l) rfl rfl (by decide) (fun _ => rfl) (by omega) (by omega) ?_
  refine ⟨(apartOk_agg rfl rfl (nB rfl)), ?_⟩
  refine ar_alloc rfl (z := .agg [iT 0, iT 0, .str ([]), .slice true [], .slice true []]) rfl rfl ?_
  intro b3 hb3
  have hFb3 : m b3 = none := wth_none hb3
  have hNb3 : ([b3, b2, b1] : List Nat).Nodup := wth_nodup hb3 hNb2
  refine aS rfl 0 (v := valTop (gI v.l i)) (l' := [iT ((gI v.l i).kind), iT ((gI v.l i).n), .str ((gI v.l i).s), sF (((gI v.l i).l).map valIn), sF (((gI v.l i).f).map fldIn)]) rfl (by rfl) hNb3 rfl rfl rfl rfl rfl (nB rfl) rfl ?_
  show K1 [(1, pT b1), (2, pT b2), (4, sF (v.f.map fldIn)), (6, pT b3), (15, sF (v.l.map valIn)), (16, iT (v.l.length : Int)), (17, iT i)] (mW m [(b3, .cells [iT ((gI v.l i).kind), iT ((gI v.l i).n), .str ((gI v.l i).s), sF (((gI v.l i).l).map valIn), sF (((gI v.l i).f).map fldIn)]), (b2, .cells [iT 0, iT 0, .str ([]), .slice true [], .slice true []]), (b1, .cells [iT v.kind, iT v.n, .str v.s, sT (ol.map valIn), .slice true []])])
  refine hK1 _ _ ?_; clear hK1 K1
  refine awp_anyA Try.mixed [1, 2, 4, 15, 16, 17] (by decide) ?_
  intro K1 hK1
  intro A hA
  suffices key : ∀ (_ : True), K1 [(1, pT b1), (2, pT b2), (4, sF (v.f.map fldIn)), (15, sF (v.l.map valIn)), (16, iT (v.l.length : Int)), (17, iT i)] (mW m [(b3, .cells [iT ((gI v.l i).kind), iT ((gI v.l i).n), .str ((gI v.l i).s), sF (((gI v.l i).l).map valIn), sF (((gI v.l i).f).map fldIn)]), (b2, .cells [iT 0, iT 0, .str ([]), .slice true [], .slice true []]), (b1, .cells [iT v.kind, iT v.n, .str v.s, sT ((ol ++ ([(gI v.l i)] : List Val)).map valIn), .slice true []])]) by
   let KK1 : Fr → AMem → Prop := (fun fr m => K1 (fr.keep [1, 2, 4, 15, 16, 17]) m)
   let f1_0 : Nat × AV := (1, pT b1)
   let f1_1 : Nat × AV := (2, pT b2)
   let f1_2 : Nat × AV := (4, sF (v.f.map fldIn))
   let f1_3 : Nat × AV := (15, sF (v.l.map valIn))
   let f1_4 : Nat × AV := (16, iT (v.l.length : Int))
   let f1_5 : Nat × AV := (17, iT i)
   let M1_6 : AMem := (mW m [(b3, .cells [iT ((gI v.l i).kind), iT ((gI v.l i).n), .str ((gI v.l i).s), sF (((gI v.l i).l).map valIn), sF (((gI v.l i).f).map fldIn)]), (b2, .cells [iT 0, iT 0, .str ([]), .slice true [], .slice true []]), (b1, .cells [iT v.kind, iT v.n, .str v.s, sT ((ol ++ ([(gI v.l i)] : List Val)).map valIn), .slice true []])])
   let f1_7 : Nat × AV := (26, sT ((ol ++ ([(gI v.l i)] : List Val)).map valIn))
   let f1_8 : Nat × AV := (27, .ptr ⟨b1, 3, none⟩)
   let M1_9 : AMem := (mW m [(b3, .cells [iT ((gI v.l i).kind), iT ((gI v.l i).n), .str ((gI v.l i).s), sF (((gI v.l i).l).map valIn), sF (((gI v.l i).f).map fldIn)]), (b2, .cells [iT 0, iT 0, .str ([]), .slice true [], .slice true []]), (b1, .cells [iT v.kind, iT v.n, .str v.s, sF (ol.map valIn), .slice true []])])
   let f1_10 : Nat × AV := (22, sT (ol.map valIn))
   let f1_11 : Nat × AV := (25, .slice true [valTop (gI v.l i)])
   let f1_12 : Nat × AV := (24, valTop (gI v.l i))
   let f1_13 : Nat × AV := (21, .ptr ⟨b1, 3, none⟩)
   let M1_14 : AMem := (mW m [(b3, .cells [iT ((gI v.l i).kind), iT ((gI v.l i).n), .str ((gI v.l i).s), sF (((gI v.l i).l).map valIn), sF (((gI v.l i).f).map fldIn)]), (b2, .cells [iT 0, iT 0, .str ([]), .slice true [], .slice true []]), (b1, .cells [iT v.kind, iT v.n, .str v.s, sT (ol.map valIn), .slice true []])])
   let f1_15 : Nat × AV := (23, .agg [iT ((gI v.l i).kind), iT ((gI v.l i).n), .str ((gI v.l i).s), sF (((gI v.l i).l).map valIn), sF (((gI v.l i).f).map fldIn)])
   let f1_16 : Nat × AV := (6, pT b3)
   have s0 : ∀ (_ : True), A 0 #[true, true, true, true, true, true, true, true] KK1 [f1_0, f1_1, f1_2, f1_3, f1_4, f1_5] M1_6 := by
    intro _
    subst hA
    exact AAny.done (by decide +kernel) (key tv)
   have s1 : ∀ (_ : True), A 1 #[true, true, true, true, true, true, true, false] KK1 [f1_0, f1_1, f1_2, f1_3, f1_4, f1_5, f1_7, f1_8] M1_9 := by
    intro _
    subst hA
    refine AAny.step [22] [7] (by decide +kernel) (by simp) (by decide) ⟨?_, tv⟩
    ·
     show aopsR _ _ _ [_] _ _ _
     refine aS rfl 2 (v := sT ((ol ++ ([(gI v.l i)] : List Val)).map valIn)) (l' := [iT v.kind, iT v.n, .str v.s, sT ((ol ++ ([(gI v.l i)] : List Val)).map valIn), .slice true []]) rfl rfl hNb3 rfl rfl rfl rfl rfl (nB rfl) rfl ?_
     refine AAny.keep [1, 2, 4, 15, 16, 17] (by decide) ?_
     exact s0 trivial
   clear s0
   have s2 : ∀ (_ : True), A 3 #[true, true, true, true, true, false, false, false] KK1 [f1_0, f1_1, f1_2, f1_3, f1_4, f1_5, f1_10, f1_11] M1_9 := by
    intro _
    subst hA
    refine AAny.step [22] [5] (by decide +kernel) (by simp) (by decide) ⟨?_, tv⟩
    ·
     show aopsR _ _ _ [_] _ _ _
     refine ar_append rfl valIn ol ([(gI v.l i)] : List Val) rfl rfl rfl rfl (by simp only [List.map_cons, List.map_nil, valIn_eq]; try rfl) rfl (nB rfl) rfl (by (simp only [show Try.prog.bytesOf 46 = 80 from rfl, List.length_append, List.length_cons, List.length_nil]; omega)) (by (first | omega | (simp only [List.length_append, List.length_cons, List.length_nil]; omega))) (fun a => by rw [valIn_eq]; exact ⟨rfl, rfl⟩) ?_
     refine AAny.fField (i := 6) rfl rfl rfl (by decide) rfl (by decide +kernel) rfl rfl ⟨rfl, by decide⟩ ?_
     refine AAny.keep [1, 2, 4, 15, 16, 17, 26, 27] (by decide) ?_
     exact s1 trivial
   clear s1
   have s3 : ∀ (_ : True), A 4 #[true, true, true, true, false, false, false, false] KK1 [f1_0, f1_1, f1_2, f1_3, f1_4, f1_5, f1_10, f1_12] M1_9 := by
    intro _
    subst hA
    refine AAny.step [22] [4] (by decide +kernel) (by simp) (by decide) ⟨?_, tv⟩
    ·
     show aopsR _ _ _ [_] _ _ _
     refine ⟨⟨rfl, nB rfl, rfl, nB rfl, rfl, by simp only [List.forall_mem_cons]; exact ⟨⟨rfl, rfl⟩, nfA⟩⟩, ?_⟩
     refine AAny.keep [1, 2, 4, 15, 16, 17, 22, 25] (by decide) ?_
     exact s2 trivial
   have s4 : ∀ (_ : True), A 4 #[true, false, true, true, true, false, false, false] KK1 [f1_0, f1_1, f1_2, f1_3, f1_4, f1_5, f1_13, f1_11] M1_14 := by
    intro _
    subst hA
    refine AAny.step [22] [1] (by decide +kernel) (by simp) (by decide) ⟨?_, tv⟩
    ·
     show aopsR _ _ _ [_] _ _ _
     refine ar_loads rfl (i := 2) rfl hNb3 rfl rfl rfl rfl (nB rfl) ?_
     refine AAny.keep [1, 2, 4, 15, 16, 17, 22, 25] (by decide) ?_
     exact s2 trivial
   clear s2
   have s5 : ∀ (_ : True), A 5 #[true, true, true, false, false, false, false, false] KK1 [f1_0, f1_1, f1_2, f1_3, f1_4, f1_5, f1_10, f1_15] M1_9 := by
    intro _
    subst hA
    refine AAny.step [22] [3] (by decide +kernel) (by simp) (by decide) ⟨?_, tv⟩
    ·
     show aopsR _ _ _ [_] _ _ _
     refine ih (gI v.l i) (by have := depV_eq v; first | (have := depL_mem (gI_mem (l := v.l) (i := i) hI.1 (by assumption)); omega) | (have := depF_mem (gI_mem (l := v.f) (i := k) hI2.1 (by assumption)); omega)) (by first | exact hok.2.1 _ (gI_mem (l := v.l) (i := i) hI.1 (by assumption)) | exact hok.2.2 _ (gI_mem (l := v.f) (i := k) hI2.1 (by assumption))) _ _ ?_
     refine AAny.keep [1, 2, 4, 15, 16, 17, 22, 24] (by decide) ?_
     exact s3 trivial
   have s6 : ∀ (_ : True), A 5 #[true, false, true, true, false, false, false, false] KK1 [f1_0, f1_1, f1_2, f1_3, f1_4, f1_5, f1_13, f1_12] M1_14 := by
    intro _
    subst hA
    refine AAny.step [22] [1, 4] (by decide +kernel) (by simp) (by decide) ⟨?_, ?_, tv⟩
    ·
     show aopsR _ _ _ [_] _ _ _
     refine ar_loads rfl (i := 2) rfl hNb3 rfl rfl rfl rfl (nB rfl) ?_
     refine AAny.keep [1, 2, 4, 15, 16, 17, 22, 24] (by decide) ?_
     exact s3 trivial
    ·
     show aopsR _ _ _ [_] _ _ _
     refine ⟨⟨rfl, nB rfl, rfl, nB rfl, rfl, by simp only [List.forall_mem_cons]; exact ⟨⟨rfl, rfl⟩, nfA⟩⟩, ?_⟩
     refine AAny.keep [1, 2, 4, 15, 16, 17, 21, 25] (by decide) ?_
     exact s4 trivial
   clear s3 s4
   have s7 : ∀ (_ : True), A 6 #[true, true, false, false, false, false, false, false] KK1 [f1_0, f1_1, f1_2, f1_16, f1_3, f1_4, f1_5, f1_10] M1_9 := by
    intro _
    subst hA
    refine AAny.step [22] [2] (by decide +kernel) (by simp) (by decide) ⟨?_, tv⟩
    ·
     show aopsR _ _ _ [_] _ _ _
     refine aL rfl (v := .agg [iT ((gI v.l i).kind), iT ((gI v.l i).n), .str ((gI v.l i).s), sF (((gI v.l i).l).map valIn), sF (((gI v.l i).f).map fldIn)]) rfl (wG 0 hNb3 rfl) rfl (apartOk_agg rfl rfl (nB rfl)) rfl ?_
     refine AAny.keep [1, 2, 4, 15, 16, 17, 22, 23] (by decide) ?_
     exact s5 trivial
   have s8 : ∀ (_ : True), A 6 #[true, false, true, false, false, false, false, false] KK1 [f1_0, f1_1, f1_2, f1_3, f1_4, f1_5, f1_13, f1_15] M1_14 := by
    intro _
    subst hA
    refine AAny.step [22] [1, 3] (by decide +kernel) (by simp) (by decide) ⟨?_, ?_, tv⟩
    ·
     show aopsR _ _ _ [_] _ _ _
     refine ar_loads rfl (i := 2) rfl hNb3 rfl rfl rfl rfl (nB rfl) ?_
     refine AAny.keep [1, 2, 4, 15, 16, 17, 22, 23] (by decide) ?_
     exact s5 trivial
    ·
     show aopsR _ _ _ [_] _ _ _
     refine ih (gI v.l i) (by have := depV_eq v; first | (have := depL_mem (gI_mem (l := v.l) (i := i) hI.1 (by assumption)); omega) | (have := depF_mem (gI_mem (l := v.f) (i := k) hI2.1 (by assumption)); omega)) (by first | exact hok.2.1 _ (gI_mem (l := v.l) (i := i) hI.1 (by assumption)) | exact hok.2.2 _ (gI_mem (l := v.f) (i := k) hI2.1 (by assumption))) _ _ ?_
     refine AAny.keep [1, 2, 4, 15, 16, 17, 21, 24] (by decide) ?_
     exact s6 trivial
   clear s5 s6
   have s9 : ∀ (_ : True), A 7 #[true, false, false, false, false, false, false, false] KK1 [f1_0, f1_1, f1_2, f1_16, f1_3, f1_4, f1_5, f1_13] M1_14 := by
    intro _
    subst hA
    refine AAny.step [22] [1, 2] (by decide +kernel) (by simp) (by decide) ⟨?_, ?_, tv⟩
    ·
     show aopsR _ _ _ [_] _ _ _
     refine ar_loads rfl (i := 2) rfl hNb3 rfl rfl rfl rfl (nB rfl) ?_
     refine AAny.keep [1, 2, 4, 6, 15, 16, 17, 22] (by decide) ?_
     exact s7 trivial
    ·
     show aopsR _ _ _ [_] _ _ _
     refine aL rfl (v := .agg [iT ((gI v.l i).kind), iT ((gI v.l i).n), .str ((gI v.l i).s), sF (((gI v.l i).l).map valIn), sF (((gI v.l i).f).map fldIn)]) rfl (wG 0 hNb3 rfl) rfl (apartOk_agg rfl rfl (nB rfl)) rfl ?_
     refine AAny.keep [1, 2, 4, 15, 16, 17, 21, 23] (by decide) ?_
     exact s8 trivial
   clear s7 s8
   subst hA
   refine AAny.fField (i := 0) rfl rfl rfl (by decide) rfl (by decide +kernel) rfl rfl ⟨rfl, by decide⟩ ?_
   refine AAny.keep [1, 2, 4, 6, 15, 16, 17, 21] (by decide) ?_
   exact s9 trivial
  intro _
  refine hK1 _ _ ?_; clear hK1 K1
  refine hK4 _ _ ?_; clear hK4
  have hNd1 : ([b2, b1] : List Nat).Nodup := drop_nodup (L := [(b3, .cells [iT ((gI v.l i).kind), iT ((gI v.l i).n), .str ((gI v.l i).s), sF (((gI v.l i).l).map valIn), sF (((gI v.l i).f).map fldIn)]), (b2, .cells [iT 0, iT 0, .str ([]), .slice true [], .slice true []]), (b1, .cells [iT v.kind, iT v.n, .str v.s, sT ((ol ++ ([(gI v.l i)] : List Val)).map valIn), .slice true []])]) hNb3 (pick_perm [0] _)
  refine awp_dropP [(b3, .cells [iT ((gI v.l i).kind), iT ((gI v.l i).n), .str ((gI v.l i).s), sF (((gI v.l i).l).map valIn), sF (((gI v.l i).f).map fldIn)])] [(b2, .cells [iT 0, iT 0, .str ([]), .slice true [], .slice true []]), (b1, .cells [iT v.kind, iT v.n, .str v.s, sT ((ol ++ ([(gI v.l i)] : List Val)).map valIn), .slice true []])] hNb3 (pick_perm [0] _) (by simp only [List.map_cons, List.map_nil, List.forall_mem_cons]; exact ⟨hFb3, nfA⟩) ?_
  refine awp_reg2 [] [1, 2, 4, 15, 16, 17] (by decide) ?_
  intro K1 hK1
  refine ar_add rfl (a := i) (b := 1) rfl rfl (by omega) (by omega) ?_
  refine ⟨tv, ?_⟩
  show K1 [(1, pT b1), (2, pT b2), (4, sF (v.f.map fldIn)), (15, sF (v.l.map valIn)), (16, iT (v.l.length : Int)), (17, iT (i + 1))] (mW m [(b2, .cells [iT 0, iT 0, .str ([]), .slice true [], .slice true []]), (b1, .cells [iT v.kind, iT v.n, .str v.s, sT ((ol ++ ([(gI v.l i)] : List Val)).map valIn), .slice true []])])
  refine hK1 _ _ ?_; clear hK1 K1
  refine ⟨(i + 1, ol ++ ([(gI v.l i)] : List Val)), rfl, rfl, ?_, ?_⟩
  ·
   show 0 ≤ ((i + 1 : Int)) ∧ ((i + 1 : Int)) ≤ v.l.length ∧ ((ol ++ ([(gI v.l i)] : List Val) : (List Val))) = v.l.take ((i + 1 : Int)).toNat
   exact ⟨by omega, by omega, by rw [take_succ_gI hI.1 (by assumption), ← hI.2.2]⟩
  ·
   show v.l.length - ((i + 1 : Int)).toNat < v.l.length - i.toNat
   omega
 replace h1 : (v.l.length : Int) ≤ i := (Int.not_lt.1 (of_decide_eq_false h1))
 refine awp_exit ?_
 refine hK2 _ _ ?_; clear hK2
 refine sK ?_; intro K5 hK5
 refine rS [] [1, 2, 29, 30, 31] (by decide) ?_
 intro K1 hK1
 refine ⟨tv, ?_⟩
 refine ar_len rfl fldIn v.f rfl rfl rfl ?_
 refine ⟨tv, ?_⟩
 show K1 [(1, pT b1), (2, pT b2), (29, sF (v.f.map fldIn)), (30, iT (v.f.length : Int)), (31, iT 0)] (mW m [(b2, .cells [iT 0, iT 0, .str ([]), .slice true [], .slice true []]), (b1, .cells [iT v.kind, iT v.n, .str v.s, sT (ol.map valIn), .slice true []])])
 refine hK1 _ _ ?_; clear hK1 K1
 refine awp_block ?_
 refine awp_keep [1, 2, 29, 30, 31] (by decide) ?_
 refine awp_loop_st (σ := Int × (List (Str × Val))) (fun ⟨k, of⟩ => [(1, pT b1), (2, pT b2), (29, sF (v.f.map fldIn)), (30, iT (v.f.length : Int)), (31, iT k)]) (fun ⟨k, of⟩ => (mW m [(b2, .cells [iT 0, iT 0, .str ([]), .slice true [], .slice true []]), (b1, .cells [iT v.kind, iT v.n, .str v.s, sT (ol.map valIn), sT (of.map fldIn)])])) (fun ⟨k, of⟩ => 0 ≤ k ∧ k ≤ v.f.length ∧ of = v.f.take k.toNat) (fun ⟨k, of⟩ => v.f.length - k.toNat) (0, []) rfl rfl ?_ ?_
 ·
  show 0 ≤ ((0 : Int)) ∧ ((0 : Int)) ≤ v.f.length ∧ (([] : (List (Str × Val)))) = v.f.take ((0 : Int)).toNat
  exact ⟨by omega, by omega, rfl⟩
 rintro ⟨k, of⟩ hI2
 replace hI2 : 0 ≤ k ∧ k ≤ v.f.length ∧ of = v.f.take k.toNat := hI2
 have hof : of.length ≤ v.f.length := by rw [hI2.2.2, List.length_take]; omega
 have hof2 : (of.length : Int) ≤ k := by rw [hI2.2.2, List.length_take]; omega
 show AWP _ _ _ _ [(1, pT b1), (2, pT b2), (29, sF (v.f.map fldIn)), (30, iT (v.f.length : Int)), (31, iT k)] (mW m [(b2, .cells [iT 0, iT 0, .str ([]), .slice true [], .slice true []]), (b1, .cells [iT v.kind, iT v.n, .str v.s, sT (ol.map valIn), sT (of.map fldIn)])])
 refine rS [] [1, 2, 29, 30, 31, 32] (by decide) ?_
 intro K1 hK1
 refine ⟨tv, ?_⟩
 show K1 [(1, pT b1), (2, pT b2), (29, sF (v.f.map fldIn)), (30, iT (v.f.length : Int)), (31, iT k), (32, .bool (decide (k < (v.f.length : Int))))] _
 refine hK1 _ _ ?_; clear hK1 K1
 refine sK ?_; intro K6 hK6
 refine cD rfl rfl (fun h2 => ?_) (fun h2 => ?_)
 ·
  replace h2 : k < (v.f.length : Int) := (of_decide_eq_true h2)
  refine awp_skip ?_
  refine hK6 _ _ ?_; clear hK6
  refine sK ?_; intro K7 hK7
  refine awp_block ?_
  refine rS [] [1, 2, 8, 29, 30, 31] (by decide) ?_
  intro K1 hK1
  refine ar_index rfl fldTop v.f k rfl rfl (fldMap v.f) rfl rfl (by decide) (fun _ => rfl) (by omega) (by omega) ?_
  refine ⟨(apartOk_agg rfl rfl (nB rfl)), ?_⟩
  refine ar_alloc rfl (z := .agg [.str ([]), iT 0, iT 0, .str ([]), .slice true [], .slice true []]) rfl rfl ?_
  intro b4 hb4
  have hFb4 : m b4 = none := wth_none hb4
  have hNb4 : ([b4, b2, b1] : List Nat).Nodup := wth_nodup hb4 hNb2
  refine aS rfl 0 (v := fldTop (gI v.f k)) (l' := [.str ((gI v.f k).1), iT (((gI v.f k).2).kind), iT (((gI v.f k).2).n), .str (((gI v.f k).2).s), sF ((((gI v.f k).2).l).map valIn), sF ((((gI v.f k).2).f).map fldIn)]) rfl (by rfl) hNb4 rfl rfl rfl rfl rfl (nB rfl) rfl ?_
  show K1 [(1, pT b1), (2, pT b2), (8, pT b4), (29, sF (v.f.map fldIn)), (30, iT (v.f.length : Int)), (31, iT k)] (mW m [(b4, .cells [.str ((gI v.f k).1), iT (((gI v.f k).2).kind), iT (((gI v.f k).2).n), .str (((gI v.f k).2).s), sF ((((gI v.f k).2).l).map valIn), sF ((((gI v.f k).2).f).map fldIn)]), (b2, .cells [iT 0, iT 0, .str ([]), .slice true [], .slice true []]), (b1, .cells [iT v.kind, iT v.n, .str v.s, sT (ol.map valIn), sT (of.map fldIn)])])
  refine hK1 _ _ ?_; clear hK1 K1
  refine awp_anyA Try.mixed [1, 2, 29, 30, 31] (by decide) ?_
  intro K1 hK1
  intro A hA
  suffices key : ∀ (_ : True), K1 [(1, pT b1), (2, pT b2), (29, sF (v.f.map fldIn)), (30, iT (v.f.length : Int)), (31, iT k)] (mW m [(b4, .cells [.str ((gI v.f k).1), iT (((gI v.f k).2).kind), iT (((gI v.f k).2).n), .str (((gI v.f k).2).s), sF ((((gI v.f k).2).l).map valIn), sF ((((gI v.f k).2).f).map fldIn)]), (b2, .cells [iT 0, iT 0, .str ([]), .slice true [], .slice true []]), (b1, .cells [iT v.kind, iT v.n, .str v.s, sT (ol.map valIn), sT ((of ++ ([(gI v.f k)] : List (Str × Val))).map fldIn)])]) by
   let KK2 : Fr → AMem → Prop := (fun fr m => K1 (fr.keep [1, 2, 29, 30, 31]) m)
   let f2_0 : Nat × AV := (1, pT b1)
   let f2_1 : Nat × AV := (2, pT b2)
   let f2_2 : Nat × AV := (29, sF (v.f.map fldIn))
   let f2_3 : Nat × AV := (30, iT (v.f.length : Int))
   let f2_4 : Nat × AV := (31, iT k)
   let M2_5 : AMem := (mW m [(b4, .cells [.str ((gI v.f k).1), iT (((gI v.f k).2).kind), iT (((gI v.f k).2).n), .str (((gI v.f k).2).s), sF ((((gI v.f k).2).l).map valIn), sF ((((gI v.f k).2).f).map fldIn)]), (b2, .cells [iT 0, iT 0, .str ([]), .slice true [], .slice true []]), (b1, .cells [iT v.kind, iT v.n, .str v.s, sT (ol.map valIn), sT ((of ++ ([(gI v.f k)] : List (Str × Val))).map fldIn)])])
   let f2_6 : Nat × AV := (44, sT ((of ++ ([(gI v.f k)] : List (Str × Val))).map fldIn))
   let f2_7 : Nat × AV := (45, .ptr ⟨b1, 4, none⟩)
   let M2_8 : AMem := (mW m [(b4, .cells [.str ((gI v.f k).1), iT (((gI v.f k).2).kind), iT (((gI v.f k).2).n), .str (((gI v.f k).2).s), sF ((((gI v.f k).2).l).map valIn), sF ((((gI v.f k).2).f).map fldIn)]), (b2, .cells [iT 0, iT 0, .str ([]), .slice true [], .slice true []]), (b1, .cells [iT v.kind, iT v.n, .str v.s, sT (ol.map valIn), sF (of.map fldIn)])])
   let f2_9 : Nat × AV := (36, sT (of.map fldIn))
   let f2_10 : Nat × AV := (43, .slice true [.agg [.str ((gI v.f k).1), iT (((gI v.f k).2).kind), iT (((gI v.f k).2).n), .str (((gI v.f k).2).s), sF ((((gI v.f k).2).l).map valIn), sF ((((gI v.f k).2).f).map fldIn)]])
   let f2_11 : Nat × AV := (42, .agg [.str ((gI v.f k).1), iT (((gI v.f k).2).kind), iT (((gI v.f k).2).n), .str (((gI v.f k).2).s), sF ((((gI v.f k).2).l).map valIn), sF ((((gI v.f k).2).f).map fldIn)])
   let f2_12 : Nat × AV := (35, .ptr ⟨b1, 4, none⟩)
   let M2_13 : AMem := (mW m [(b4, .cells [.str ((gI v.f k).1), iT (((gI v.f k).2).kind), iT (((gI v.f k).2).n), .str (((gI v.f k).2).s), sF ((((gI v.f k).2).l).map valIn), sF ((((gI v.f k).2).f).map fldIn)]), (b2, .cells [iT 0, iT 0, .str ([]), .slice true [], .slice true []]), (b1, .cells [iT v.kind, iT v.n, .str v.s, sT (ol.map valIn), sT (of.map fldIn)])])
   let f2_14 : Nat × AV := (38, .str ((gI v.f k).1))
   let f2_15 : Nat × AV := (41, valTop ((gI v.f k).2))
   let f2_16 : Nat × AV := (40, .agg [iT (((gI v.f k).2).kind), iT (((gI v.f k).2).n), .str (((gI v.f k).2).s), sF ((((gI v.f k).2).l).map valIn), sF ((((gI v.f k).2).f).map fldIn)])
   let f2_17 : Nat × AV := (37, pT b4)
   let f2_18 : Nat × AV := (39, .ptr ⟨b4, 1, none⟩)
   have s0 : ∀ (_ : True), A 0 #[true, true, true, true, true, true, true, true, true, true, true, true] KK2 [f2_0, f2_1, f2_2, f2_3, f2_4] M2_5 := by
    intro _
    subst hA
    exact AAny.done (by decide +kernel) (key tv)
   have s1 : ∀ (_ : True), A 1 #[true, true, true, true, true, true, true, true, true, true, true, false] KK2 [f2_0, f2_1, f2_2, f2_3, f2_4, f2_6, f2_7] M2_8 := by
    intro _
    subst hA
    refine AAny.step [36] [11] (by decide +kernel) (by simp) (by decide) ⟨?_, tv⟩
    ·
     show aopsR _ _ _ [_] _ _ _
     refine aS rfl 2 (v := sT ((of ++ ([(gI v.f k)] : List (Str × Val))).map fldIn)) (l' := [iT v.kind, iT v.n, .str v.s, sT (ol.map valIn), sT ((of ++ ([(gI v.f k)] : List (Str × Val))).map fldIn)]) rfl rfl hNb4 rfl rfl rfl rfl rfl (nB rfl) rfl ?_
     refine AAny.keep [1, 2, 29, 30, 31] (by decide) ?_
     exact s0 trivial
   clear s0
   have s2 : ∀ (_ : True), A 3 #[true, true, true, true, true, true, true, true, true, false, false, false] KK2 [f2_0, f2_1, f2_2, f2_3, f2_4, f2_9, f2_10] M2_8 := by
    intro _
    subst hA
    refine AAny.step [36] [9] (by decide +kernel) (by simp) (by decide) ⟨?_, tv⟩
    ·
     show aopsR _ _ _ [_] _ _ _
     refine ar_append rfl fldIn of ([(gI v.f k)] : List (Str × Val)) rfl rfl rfl rfl (by simp only [List.map_cons, List.map_nil, fldIn_eq]; try rfl) rfl (nB rfl) rfl (by (simp only [show Try.prog.bytesOf 147 = 96 from rfl, List.length_append, List.length_cons, List.length_nil]; omega)) (by (first | omega | (simp only [List.length_append, List.length_cons, List.length_nil]; omega))) (fun a => by rw [fldIn_eq]; exact ⟨rfl, rfl⟩) ?_
     refine AAny.fField (i := 10) rfl rfl rfl (by decide) rfl (by decide +kernel) rfl rfl ⟨rfl, by decide⟩ ?_
     refine AAny.keep [1, 2, 29, 30, 31, 44, 45] (by decide) ?_
     exact s1 trivial
   clear s1
   have s3 : ∀ (_ : True), A 4 #[true, true, true, true, true, true, true, true, false, false, false, false] KK2 [f2_0, f2_1, f2_2, f2_3, f2_4, f2_9, f2_11] M2_8 := by
    intro _
    subst hA
    refine AAny.step [36] [8] (by decide +kernel) (by simp) (by decide) ⟨?_, tv⟩
    ·
     show aopsR _ _ _ [_] _ _ _
     refine ⟨⟨rfl, nB rfl, rfl, nB rfl, rfl, by simp only [List.forall_mem_cons]; exact ⟨⟨rfl, rfl⟩, nfA⟩⟩, ?_⟩
     refine AAny.keep [1, 2, 29, 30, 31, 36, 43] (by decide) ?_
     exact s2 trivial
   have s4 : ∀ (_ : True), A 4 #[true, false, true, true, true, true, true, true, true, false, false, false] KK2 [f2_0, f2_1, f2_2, f2_3, f2_4, f2_12, f2_10] M2_13 := by
    intro _
    subst hA
    refine AAny.step [36] [1] (by decide +kernel) (by simp) (by decide) ⟨?_, tv⟩
    ·
     show aopsR _ _ _ [_] _ _ _
     refine ar_loads rfl (i := 2) rfl hNb4 rfl rfl rfl rfl (nB rfl) ?_
     refine AAny.keep [1, 2, 29, 30, 31, 36, 43] (by decide) ?_
     exact s2 trivial
   clear s2
   have s5 : ∀ (_ : True), A 5 #[true, true, true, true, true, true, true, false, false, false, false, false] KK2 [f2_0, f2_1, f2_2, f2_3, f2_4, f2_9, f2_14, f2_15] M2_8 := by
    intro _
    subst hA
    refine AAny.step [36] [7] (by decide +kernel) (by simp) (by decide) ⟨?_, tv⟩
    ·
     show aopsR _ _ _ [_] _ _ _
     refine ⟨⟨rfl, by simp only [List.forall_mem_cons]; exact ⟨rfl, rfl, nfA⟩, by simp only [List.forall_mem_cons]; exact ⟨rfl, rfl, nfA⟩⟩, ?_⟩
     refine AAny.keep [1, 2, 29, 30, 31, 36, 42] (by decide) ?_
     exact s3 trivial
   have s6 : ∀ (_ : True), A 5 #[true, false, true, true, true, true, true, true, false, false, false, false] KK2 [f2_0, f2_1, f2_2, f2_3, f2_4, f2_12, f2_11] M2_13 := by
    intro _
    subst hA
    refine AAny.step [36] [1, 8] (by decide +kernel) (by simp) (by decide) ⟨?_, ?_, tv⟩
    ·
     show aopsR _ _ _ [_] _ _ _
     refine ar_loads rfl (i := 2) rfl hNb4 rfl rfl rfl rfl (nB rfl) ?_
     refine AAny.keep [1, 2, 29, 30, 31, 36, 42] (by decide) ?_
     exact s3 trivial
    ·
     show aopsR _ _ _ [_] _ _ _
     refine ⟨⟨rfl, nB rfl, rfl, nB rfl, rfl, by simp only [List.forall_mem_cons]; exact ⟨⟨rfl, rfl⟩, nfA⟩⟩, ?_⟩
     refine AAny.keep [1, 2, 29, 30, 31, 35, 43] (by decide) ?_
     exact s4 trivial
   clear s3 s4
   have s7 : ∀ (_ : True), A 6 #[true, true, true, true, true, true, false, false, false, false, false, false] KK2 [f2_0, f2_1, f2_2, f2_3, f2_4, f2_9, f2_14, f2_16] M2_8 := by
    intro _
    subst hA
    refine AAny.step [36] [6] (by decide +kernel) (by simp) (by decide) ⟨?_, tv⟩
    ·
     show aopsR _ _ _ [_] _ _ _
     refine ih ((gI v.f k).2) (by have := depV_eq v; first | (have := depL_mem (gI_mem (l := v.l) (i := i) hI.1 (by assumption)); omega) | (have := depF_mem (gI_mem (l := v.f) (i := k) hI2.1 (by assumption)); omega)) (by first | exact hok.2.1 _ (gI_mem (l := v.l) (i := i) hI.1 (by assumption)) | exact hok.2.2 _ (gI_mem (l := v.f) (i := k) hI2.1 (by assumption))) _ _ ?_
     refine AAny.keep [1, 2, 29, 30, 31, 36, 38, 41] (by decide) ?_
     exact s5 trivial
   have s8 : ∀ (_ : True), A 6 #[true, true, true, false, true, true, true, false, false, false, false, false] KK2 [f2_0, f2_1, f2_2, f2_3, f2_4, f2_9, f2_17, f2_15] M2_8 := by
    intro _
    subst hA
    refine AAny.step [36] [3] (by decide +kernel) (by simp) (by decide) ⟨?_, tv⟩
    ·
     show aopsR _ _ _ [_] _ _ _
     refine aL rfl (v := .str ((gI v.f k).1)) rfl (wG 0 hNb4 rfl) rfl (aO rfl rfl (nB rfl)) rfl ?_
     refine AAny.keep [1, 2, 29, 30, 31, 36, 38, 41] (by decide) ?_
     exact s5 trivial
   have s9 : ∀ (_ : True), A 6 #[true, false, true, true, true, true, true, false, false, false, false, false] KK2 [f2_0, f2_1, f2_2, f2_3, f2_4, f2_12, f2_14, f2_15] M2_13 := by
    intro _
    subst hA
    refine AAny.step [36] [1, 7] (by decide +kernel) (by simp) (by decide) ⟨?_, ?_, tv⟩
    ·
     show aopsR _ _ _ [_] _ _ _
     refine ar_loads rfl (i := 2) rfl hNb4 rfl rfl rfl rfl (nB rfl) ?_
     refine AAny.keep [1, 2, 29, 30, 31, 36, 38, 41] (by decide) ?_
     exact s5 trivial
    ·
     show aopsR _ _ _ [_] _ _ _
     refine ⟨⟨rfl, by simp only [List.forall_mem_cons]; exact ⟨rfl, rfl, nfA⟩, by simp only [List.forall_mem_cons]; exact ⟨rfl, rfl, nfA⟩⟩, ?_⟩
     refine AAny.keep [1, 2, 29, 30, 31, 35, 42] (by decide) ?_
     exact s6 trivial
   clear s5 s6
   have s10 : ∀ (_ : True), A 7 #[true, true, true, true, true, false, false, false, false, false, false, false] KK2 [f2_0, f2_1, f2_2, f2_3, f2_4, f2_9, f2_14, f2_18] M2_8 := by
    intro _
    subst hA
    refine AAny.step [36] [5] (by decide +kernel) (by simp) (by decide) ⟨?_, tv⟩
    ·
     show aopsR _ _ _ [_] _ _ _
     refine aL rfl (v := .agg [iT (((gI v.f k).2).kind), iT (((gI v.f k).2).n), .str (((gI v.f k).2).s), sF ((((gI v.f k).2).l).map valIn), sF ((((gI v.f k).2).f).map fldIn)]) rfl (wG 0 hNb4 rfl) rfl (apartOk_agg rfl rfl (nB rfl)) rfl ?_
     refine AAny.keep [1, 2, 29, 30, 31, 36, 38, 40] (by decide) ?_
     exact s7 trivial
   have s11 : ∀ (_ : True), A 7 #[true, true, true, false, true, true, false, false, false, false, false, false] KK2 [f2_0, f2_1, f2_2, f2_3, f2_4, f2_9, f2_17, f2_16] M2_8 := by
    intro _
    subst hA
    refine AAny.step [36] [3, 6] (by decide +kernel) (by simp) (by decide) ⟨?_, ?_, tv⟩
    ·
     show aopsR _ _ _ [_] _ _ _
     refine aL rfl (v := .str ((gI v.f k).1)) rfl (wG 0 hNb4 rfl) rfl (aO rfl rfl (nB rfl)) rfl ?_
     refine AAny.keep [1, 2, 29, 30, 31, 36, 38, 40] (by decide) ?_
     exact s7 trivial
    ·
     show aopsR _ _ _ [_] _ _ _
     refine ih ((gI v.f k).2) (by have := depV_eq v; first | (have := depL_mem (gI_mem (l := v.l) (i := i) hI.1 (by assumption)); omega) | (have := depF_mem (gI_mem (l := v.f) (i := k) hI2.1 (by assumption)); omega)) (by first | exact hok.2.1 _ (gI_mem (l := v.l) (i := i) hI.1 (by assumption)) | exact hok.2.2 _ (gI_mem (l := v.f) (i := k) hI2.1 (by assumption))) _ _ ?_
     refine AAny.keep [1, 2, 29, 30, 31, 36, 37, 41] (by decide) ?_
     exact s8 trivial
   have s12 : ∀ (_ : True), A 7 #[true, false, true, true, true, true, false, false, false, false, false, false] KK2 [f2_0, f2_1, f2_2, f2_3, f2_4, f2_12, f2_14, f2_16] M2_13 := by
    intro _
    subst hA
    refine AAny.step [36] [1, 6] (by decide +kernel) (by simp) (by decide) ⟨?_, ?_, tv⟩
    ·
     show aopsR _ _ _ [_] _ _ _
     refine ar_loads rfl (i := 2) rfl hNb4 rfl rfl rfl rfl (nB rfl) ?_
     refine AAny.keep [1, 2, 29, 30, 31, 36, 38, 40] (by decide) ?_
     exact s7 trivial
    ·
     show aopsR _ _ _ [_] _ _ _
     refine ih ((gI v.f k).2) (by have := depV_eq v; first | (have := depL_mem (gI_mem (l := v.l) (i := i) hI.1 (by assumption)); omega) | (have := depF_mem (gI_mem (l := v.f) (i := k) hI2.1 (by assumption)); omega)) (by first | exact hok.2.1 _ (gI_mem (l := v.l) (i := i) hI.1 (by assumption)) | exact hok.2.2 _ (gI_mem (l := v.f) (i := k) hI2.1 (by assumption))) _ _ ?_
     refine AAny.keep [1, 2, 29, 30, 31, 35, 38, 41] (by decide) ?_
     exact s9 trivial
   clear s7
   have s13 : ∀ (_ : True), A 7 #[true, false, true, false, true, true, true, false, false, false, false, false] KK2 [f2_0, f2_1, f2_2, f2_3, f2_4, f2_12, f2_17, f2_15] M2_13 := by
    intro _
    subst hA
    refine AAny.step [36] [1, 3] (by decide +kernel) (by simp) (by decide) ⟨?_, ?_, tv⟩
    ·
     show aopsR _ _ _ [_] _ _ _
     refine ar_loads rfl (i := 2) rfl hNb4 rfl rfl rfl rfl (nB rfl) ?_
     refine AAny.keep [1, 2, 29, 30, 31, 36, 37, 41] (by decide) ?_
     exact s8 trivial
    ·
     show aopsR _ _ _ [_] _ _ _
     refine aL rfl (v := .str ((gI v.f k).1)) rfl (wG 0 hNb4 rfl) rfl (aO rfl rfl (nB rfl)) rfl ?_
     refine AAny.keep [1, 2, 29, 30, 31, 35, 38, 41] (by decide) ?_
     exact s9 trivial
   clear s8 s9
   have s14 : ∀ (_ : True), A 8 #[true, true, true, false, true, false, false, false, false, false, false, false] KK2 [f2_0, f2_1, f2_2, f2_3, f2_4, f2_9, f2_17, f2_18] M2_8 := by
    intro _
    subst hA
    refine AAny.step [36] [3, 5] (by decide +kernel) (by simp) (by decide) ⟨?_, ?_, tv⟩
    ·
     show aopsR _ _ _ [_] _ _ _
     refine aL rfl (v := .str ((gI v.f k).1)) rfl (wG 0 hNb4 rfl) rfl (aO rfl rfl (nB rfl)) rfl ?_
     refine AAny.keep [1, 2, 29, 30, 31, 36, 38, 39] (by decide) ?_
     exact s10 trivial
    ·
     show aopsR _ _ _ [_] _ _ _
     refine aL rfl (v := .agg [iT (((gI v.f k).2).kind), iT (((gI v.f k).2).n), .str (((gI v.f k).2).s), sF ((((gI v.f k).2).l).map valIn), sF ((((gI v.f k).2).f).map fldIn)]) rfl (wG 0 hNb4 rfl) rfl (apartOk_agg rfl rfl (nB rfl)) rfl ?_
     refine AAny.keep [1, 2, 29, 30, 31, 36, 37, 40] (by decide) ?_
     exact s11 trivial
   have s15 : ∀ (_ : True), A 8 #[true, false, true, true, true, false, false, false, false, false, false, false] KK2 [f2_0, f2_1, f2_2, f2_3, f2_4, f2_12, f2_14, f2_18] M2_13 := by
    intro _
    subst hA
    refine AAny.step [36] [1, 5] (by decide +kernel) (by simp) (by decide) ⟨?_, ?_, tv⟩
    ·
     show aopsR _ _ _ [_] _ _ _
     refine ar_loads rfl (i := 2) rfl hNb4 rfl rfl rfl rfl (nB rfl) ?_
     refine AAny.keep [1, 2, 29, 30, 31, 36, 38, 39] (by decide) ?_
     exact s10 trivial
    ·
     show aopsR _ _ _ [_] _ _ _
     refine aL rfl (v := .agg [iT (((gI v.f k).2).kind), iT (((gI v.f k).2).n), .str (((gI v.f k).2).s), sF ((((gI v.f k).2).l).map valIn), sF ((((gI v.f k).2).f).map fldIn)]) rfl (wG 0 hNb4 rfl) rfl (apartOk_agg rfl rfl (nB rfl)) rfl ?_
     refine AAny.keep [1, 2, 29, 30, 31, 35, 38, 40] (by decide) ?_
     exact s12 trivial
   clear s10
   have s16 : ∀ (_ : True), A 8 #[true, false, true, false, true, true, false, false, false, false, false, false] KK2 [f2_0, f2_1, f2_2, f2_3, f2_4, f2_12, f2_17, f2_16] M2_13 := by
    intro _
    subst hA
    refine AAny.step [36] [1, 3, 6] (by decide +kernel) (by simp) (by decide) ⟨?_, ?_, ?_, tv⟩
    ·
     show aopsR _ _ _ [_] _ _ _
     refine ar_loads rfl (i := 2) rfl hNb4 rfl rfl rfl rfl (nB rfl) ?_
     refine AAny.keep [1, 2, 29, 30, 31, 36, 37, 40] (by decide) ?_
     exact s11 trivial
    ·
     show aopsR _ _ _ [_] _ _ _
     refine aL rfl (v := .str ((gI v.f k).1)) rfl (wG 0 hNb4 rfl) rfl (aO rfl rfl (nB rfl)) rfl ?_
     refine AAny.keep [1, 2, 29, 30, 31, 35, 38, 40] (by decide) ?_
     exact s12 trivial
    ·
     show aopsR _ _ _ [_] _ _ _
     refine ih ((gI v.f k).2) (by have := depV_eq v; first | (have := depL_mem (gI_mem (l := v.l) (i := i) hI.1 (by assumption)); omega) | (have := depF_mem (gI_mem (l := v.f) (i := k) hI2.1 (by assumption)); omega)) (by first | exact hok.2.1 _ (gI_mem (l := v.l) (i := i) hI.1 (by assumption)) | exact hok.2.2 _ (gI_mem (l := v.f) (i := k) hI2.1 (by assumption))) _ _ ?_
     refine AAny.keep [1, 2, 29, 30, 31, 35, 37, 41] (by decide) ?_
     exact s13 trivial
   clear s11 s12 s13
   have s17 : ∀ (_ : True), A 9 #[true, false, true, false, true, false, false, false, false, false, false, false] KK2 [f2_0, f2_1, f2_2, f2_3, f2_4, f2_12, f2_17, f2_18] M2_13 := by
    intro _
    subst hA
    refine AAny.step [36] [1, 3, 5] (by decide +kernel) (by simp) (by decide) ⟨?_, ?_, ?_, tv⟩
    ·
     show aopsR _ _ _ [_] _ _ _
     refine ar_loads rfl (i := 2) rfl hNb4 rfl rfl rfl rfl (nB rfl) ?_
     refine AAny.keep [1, 2, 29, 30, 31, 36, 37, 39] (by decide) ?_
     exact s14 trivial
    ·
     show aopsR _ _ _ [_] _ _ _
     refine aL rfl (v := .str ((gI v.f k).1)) rfl (wG 0 hNb4 rfl) rfl (aO rfl rfl (nB rfl)) rfl ?_
     refine AAny.keep [1, 2, 29, 30, 31, 35, 38, 39] (by decide) ?_
     exact s15 trivial
    ·
     show aopsR _ _ _ [_] _ _ _
     refine aL rfl (v := .agg [iT (((gI v.f k).2).kind), iT (((gI v.f k).2).n), .str (((gI v.f k).2).s), sF ((((gI v.f k).2).l).map valIn), sF ((((gI v.f k).2).f).map fldIn)]) rfl (wG 0 hNb4 rfl) rfl (apartOk_agg rfl rfl (nB rfl)) rfl ?_
     refine AAny.keep [1, 2, 29, 30, 31, 35, 37, 40] (by decide) ?_
     exact s16 trivial
   clear s14 s15 s16
   subst hA
   refine AAny.fField (i := 0) rfl rfl rfl (by decide) rfl (by decide +kernel) rfl rfl ⟨rfl, by decide⟩ ?_
   refine AAny.fField (i := 2) rfl rfl rfl (by decide) rfl (by decide +kernel) rfl rfl ⟨rfl, by decide⟩ ?_
   refine AAny.fField (i := 4) rfl rfl rfl (by decide) rfl (by decide +kernel) rfl rfl ⟨rfl, by decide⟩ ?_
   refine AAny.keep [1, 2, 29, 30, 31, 35, 37, 39] (by decide) ?_
   exact s17 trivial
  intro _
  refine hK1 _ _ ?_; clear hK1 K1
  refine hK7 _ _ ?_; clear hK7
  have hNd2 : ([b2, b1] : List Nat).Nodup := drop_nodup (L := [(b4, .cells [.str ((gI v.f k).1), iT (((gI v.f k).2).kind), iT (((gI v.f k).2).n), .str (((gI v.f k).2).s), sF ((((gI v.f k).2).l).map valIn), sF ((((gI v.f k).2).f).map fldIn)]), (b2, .cells [iT 0, iT 0, .str ([]), .slice true [], .slice true []]), (b1, .cells [iT v.kind, iT v.n, .str v.s, sT (ol.map valIn), sT ((of ++ ([(gI v.f k)] : List (Str × Val))).map fldIn)])]) hNb4 (pick_perm [0] _)
  refine awp_dropP [(b4, .cells [.str ((gI v.f k).1), iT (((gI v.f k).2).kind), iT (((gI v.f k).2).n), .str (((gI v.f k).2).s), sF ((((gI v.f k).2).l).map valIn), sF ((((gI v.f k).2).f).map fldIn)])] [(b2, .cells [iT 0, iT 0, .str ([]), .slice true [], .slice true []]), (b1, .cells [iT v.kind, iT v.n, .str v.s, sT (ol.map valIn), sT ((of ++ ([(gI v.f k)] : List (Str × Val))).map fldIn)])] hNb4 (pick_perm [0] _) (by simp only [List.map_cons, List.map_nil, List.forall_mem_cons]; exact ⟨hFb4, nfA⟩) ?_
  refine awp_reg2 [] [1, 2, 29, 30, 31] (by decide) ?_
  intro K1 hK1
  refine ar_add rfl (a := k) (b := 1) rfl rfl (by omega) (by omega) ?_
  refine ⟨tv, ?_⟩
  show K1 [(1, pT b1), (2, pT b2), (29, sF (v.f.map fldIn)), (30, iT (v.f.length : Int)), (31, iT (k + 1))] (mW m [(b2, .cells [iT 0, iT 0, .str ([]), .slice true [], .slice true []]), (b1, .cells [iT v.kind, iT v.n, .str v.s, sT (ol.map valIn), sT ((of ++ ([(gI v.f k)] : List (Str × Val))).map fldIn)])])
  refine hK1 _ _ ?_; clear hK1 K1
  refine ⟨(k + 1, of ++ ([(gI v.f k)] : List (Str × Val))), rfl, rfl, ?_, ?_⟩
  ·
   show 0 ≤ ((k + 1 : Int)) ∧ ((k + 1 : Int)) ≤ v.f.length ∧ ((of ++ ([(gI v.f k)] : List (Str × Val)) : (List (Str × Val)))) = v.f.take ((k + 1 : Int)).toNat
   exact ⟨by omega, by omega, by rw [take_succ_gI hI2.1 (by assumption), ← hI2.2.2]⟩
  ·
   show v.f.length - ((k + 1 : Int)).toNat < v.f.length - k.toNat
   omega
 replace h2 : (v.f.length : Int) ≤ k := (Int.not_lt.1 (of_decide_eq_false h2))
 refine awp_exit ?_
 refine hK5 _ _ ?_; clear hK5
 refine rS [] [2] (by decide) ?_
 intro K1 hK1
 refine aL rfl (v := .agg [iT v.kind, iT v.n, .str v.s, sF (ol.map valIn), sF (of.map fldIn)]) rfl (wG 1 hNb2 rfl) rfl (apartOk_agg rfl rfl (nB rfl)) rfl ?_
 refine aS rfl 0 (v := .agg [iT v.kind, iT v.n, .str v.s, sF (ol.map valIn), sF (of.map fldIn)]) (l' := [iT v.kind, iT v.n, .str v.s, sF (ol.map valIn), sF (of.map fldIn)]) rfl rfl hNb2 rfl rfl rfl rfl rfl (nB rfl) rfl ?_
 show K1 [(2, pT b2)] (mW m [(b2, .cells [iT v.kind, iT v.n, .str v.s, sF (ol.map valIn), sF (of.map fldIn)]), (b1, .cells [iT v.kind, iT v.n, .str v.s, sT (ol.map valIn), sT (of.map fldIn)])])
 refine hK1 _ _ ?_; clear hK1 K1
 refine awp_ret ?_
 refine resK_cell1 (fn := Try.f82) (a := 2) (t := 46) (b := b2) (off := 0) rfl rfl (wG  (m := m) (L := [(b2, .cells [iT v.kind, iT v.n, .str v.s, sF (ol.map valIn), sF (of.map fldIn)]), (b1, .cells [iT v.kind, iT v.n, .str v.s, sT (ol.map valIn), sT (of.map fldIn)])]) 0 hNb2 rfl) (apartOk_agg rfl rfl (nB rfl)) (.agg [iT v.kind, iT v.n, .str v.s, sF (ol.map valIn), sF (of.map fldIn)]) rfl m ((wth_sub2 (m := m) [(b2, .cells [iT v.kind, iT v.n, .str v.s, sF (ol.map valIn), sF (of.map fldIn)]), (b1, .cells [iT v.kind, iT v.n, .str v.s, sT (ol.map valIn), sT (of.map fldIn)])] [] hNb2 (by simp only [List.map_cons, List.map_nil, List.forall_mem_cons]; exact ⟨hFb2, hFb1, nfA⟩))) ?_
 show K (.agg [iT v.kind, iT v.n, .str v.s, sF (ol.map valIn), sF (of.map fldIn)]) m
 have q1 : ol = v.l := by have := hI.2.2; rwa [take_full (by omega)] at this
 have q2 : of = v.f := by have := hI2.2.2; rwa [take_full (by omega)] at this
 rw [q1, q2]
 exact hK
theorem u_Copy2 : ∀ (n : Nat) (v : Val), depV v < n → okV v → ∀ (m : AMem) (K : AV → AMem → Prop), K (valTop v) m → ACalls Try.prog 82 [valTop v] m K
  | 0, _, h, _ => absurd h (Nat.not_lt_zero _)
  | n + 1, v, h, hz => fun m K hK => u_Copy1 v hz (fun w hw hw2 => u_Copy2 n w (by omega) hw2) m K hK
theorem u_Copy (v : Val) (hz : okV v) (m : AMem) (K : AV → AMem → Prop) (hK : K (valTop v) m) : ACalls Try.prog 82 [valTop v] m K := u_Copy2 (depV v + 1) v (Nat.lt_succ_self _) hz m K hK
end Go.Proofs
end
