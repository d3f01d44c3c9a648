/-
  The abstract layer, part 23: loops over a told state; small facts on Bools; encodings.
-/
import Derived.Test.YtoeghipbkmaccaaWwV
namespace Go.Aw
open Go

theorem bnT {b : Bool} (h : (!b) = true) : b = false := by simpa using h
theorem bnF {b : Bool} (h : (!b) = false) : b = true := by simpa using h
theorem bandL {a b : Bool} (h : (a && b) = true) : a = true := by cases a <;> simp_all
theorem bandR {a b : Bool} (h : (a && b) = true) : b = true := by cases a <;> simp_all
theorem bandF {a b : Bool} (h : (a && b) = false) : a = false ∨ b = false := by cases a <;> simp_all
theorem borL {a b : Bool} (h : (a || b) = false) : a = false := by cases a <;> simp_all
theorem borR {a b : Bool} (h : (a || b) = false) : b = false := by cases a <;> simp_all
theorem borT {a b : Bool} (h : (a || b) = true) : a = true ∨ b = true := by cases a <;> simp_all

theorem K_eq {K : AV → AMem → Prop} {x y : AV} {m : AMem} (hK : K x m) (h : x = y) : K y m := h ▸ hK

def intAV (n : Int) : AV := .int .i64 n
def boolAV (b : Bool) : AV := .bool b
def strAV (s : List UInt8) : AV := .str s
def lstAV {α : Type} (f : α → AV) (l : List α) : AV := .slice false (l.map f)
def sub {α : Type} (l : List α) (p q : Int) : List α := (l.drop p.toNat).take (q - p).toNat

section
variable {P : Program} {n : Nat} {fr : Fr} {m : AMem}

/-- A loop whose slots and memory are told by a state. -/
theorem awp_loop_st {c : Code} {Q : Exit → Fr → AMem → Prop} {σ : Type} (fro : σ → Fr) (mo : σ → AMem) (I : σ → Prop) (μ : σ → Nat) (s0 : σ) (h0 : fr = fro s0) (hm0 : m = mo s0) (hI : I s0)
    (h : ∀ s, I s → AWP P n c (AThen (fun fr' m' => ∃ s', fr' = fro s' ∧ m' = mo s' ∧ I s' ∧ μ s' < μ s) Q) (fro s) (mo s)) : AWP P n (.loop c) Q fr m := by
  have conv : ∀ {F : Nat → Prop} {lim : Nat → Nat} {w : World} {lim'' : Nat → Nat} {w'' : World}, Pres F w lim w'' lim'' → ∀ K a w3, Code.rounds P c (APost F lim'' w'' n Q) K a w3 → Code.rounds P c (APost F lim w n Q) K a w3 := by
    intro F lim w lim'' w'' pr K
    induction K with
    | zero => intro a w3 h; exact h.elim
    | succ K ihK =>
      intro a w3 h
      refine wp_mono h fun e a w4 q => ?_
      cases e with
      | normal => exact ihK _ _ q
      | _ => exact APost.from pr q
  have key : ∀ N s, I s → μ s < N → ∀ F lim w ca, St F lim w n (fro s) (mo s) ca [] → Code.rounds P c (APost F lim w n Q) N ca w := by
    intro N
    induction N with
    | zero => intro s _ hlt; omega
    | succ N ih =>
      intro s hs hlt F lim w ca st
      refine wp_mono (h s hs F lim w ca st) fun e a w'' ⟨lim'', fr'', m'', q, st'', pr'⟩ => ?_
      cases e with
      | normal =>
        obtain ⟨s', rfl, rfl, hI', hlt'⟩ := q
        exact conv pr' _ _ _ (ih s' hI' (by omega) F lim'' w'' a st'')
      | _ => exact ⟨lim'', fr'', m'', q, st'', pr'⟩
  intro F lim w ca st
  subst h0 hm0
  exact wp_loop_rounds (μ s0 + 1) (key _ s0 hI (Nat.lt_succ_self _) F lim w ca st)

theorem awp_draw_k {id : Nat} {ops : Array Oper} {Q : Exit → Fr → AMem → Prop} (hm : P.follows .mixedOrders = true) (cs : List AV) (ks : List Nat) (hk : okAll n ops ks = true) (hd : drawOk ops = true)
    (h : ∀ K : Fr → AMem → Prop, (∀ fr m, Q .normal fr m → K fr m) → pseq P ops m cs ops.toList fr (fun fr' => K (fr'.keep ks) m)) : AWP P n (.region id ops true) Q fr m :=
  awp_draw hm cs ks hk hd (h _ fun _ _ h => h)

variable {ops : Array Oper} {stl : List Nat} {r : List Oper} {K : Fr → AMem → Prop} {d : Nat} {ty : TypeId} {pos : String} {af : Array Edge}

/-- Bytes as a text. -/
theorem ao_toStr (xs : List UInt8) {s t e : TypeId} {x : Operand} {own : Bool} {l : List AV} (h1 : P.underlying t = some .string) (hx : evP (rawOf fr) x = .slice own l) (hl : l = xs.map byteAV) (h2 : P.underlying s = some (.slice e)) (h3 : P.underlying e = some (.int .u8))
    (h : aops P ops stl r K (fr.put d (.str xs)) m) : aops P ops stl (⟨some d, .convert s t x, ty, pos, af, none⟩ :: r) K fr m := by
  subst hl
  refine ao_qv (side := ∃ e, P.underlying s = some (.slice e) ∧ P.underlying e = some (.int .u8) ∧ ∀ x ∈ xs.map byteAV, ∃ k : Int, x = .int .u8 k) (x := .str ((xs.map byteAV).map byteOf)) rfl ?_ ⟨e, h2, h3, fun x hx => ?_⟩ (by rw [map_byteOf]) h
  · simp only [qv, h1, hx]
  · obtain ⟨c, _, rfl⟩ := List.mem_map.1 hx
    exact ⟨_, rfl⟩

theorem ao_toInt {s t : TypeId} {x : Operand} {k : IntKind} {a : Int} (h1 : P.underlying t = some (.int .i64)) (hx : evP (rawOf fr) x = .int k a) (hU : isU P s = true) (lo : -9223372036854775808 ≤ a) (hi : a ≤ 9223372036854775807)
    (h : aops P ops stl r K (fr.put d (.int .i64 a)) m) : aops P ops stl (⟨some d, .convert s t x, ty, pos, af, none⟩ :: r) K fr m :=
  ao_qv (side := isU P s = true) (x := .int .i64 (IntKind.i64.wrap a)) rfl (by simp only [qv, h1, hx]) hU (by rw [wrap64 _ lo hi]) h

theorem ao_neg {T : TypeId} {x : Operand} {a : Int} (hx : evP (rawOf fr) x = .int .i64 a) (lo : -9223372036854775808 ≤ -a) (hi : -a ≤ 9223372036854775807)
    (h : aops P ops stl r K (fr.put d (.int .i64 (-a))) m) : aops P ops stl (⟨some d, .unOp .neg T x, ty, pos, af, none⟩ :: r) K fr m :=
  ao_qv (side := True) (x := .int .i64 (IntKind.i64.wrap (0 - a))) rfl (by simp only [qv, hx]) trivial (by rw [Int.zero_sub, wrap64 _ lo hi]) h

variable {cs : List AV} {KK : Fr → Prop} {gd : Option (Nat × Bool)}

/-- No call of a function, nothing built. -/
def readOp : Op → Bool
  | .call ⟨.value (.func _), _, _⟩ => false
  | .call ⟨.value (.tmp _), _, _⟩ => false
  | .buildSlice _ _ _ => false
  | .build _ _ => false
  | .pick _ _ _ => false
  | _ => true

theorem pv_on {c : AV} {o : Oper} (hg : gOn ops fr o.guard = some true) : pv P ops m c (rawOf fr) o = pv0 P m c (rawOf fr) o := by
  unfold pv
  unfold gOn at hg
  split
  · rfl
  · next j b hgd =>
    rw [hgd] at hg
    simp only at hg
    split
    · next g hj =>
      rw [hj] at hg
      simp only at hg
      rw [hg]
    · next hj => rw [hj] at hg; cases hg

theorem pv_off {c : AV} {o : Oper} (hg : gOn ops fr o.guard = some false) : pv P ops m c (rawOf fr) o = some (True, .lazy false .junk) := by
  unfold pv
  unfold gOn at hg
  split
  · next hgd => rw [hgd] at hg; cases hg
  · next j b hgd =>
    rw [hgd] at hg
    simp only at hg
    split
    · next g hj =>
      rw [hj] at hg
      simp only at hg
      rw [hg]
    · next hj => rw [hj] at hg; cases hg

/-- Under a guard that is not met. -/
theorem pq_off {op : Op} (hg : gOn ops fr gd = some false) (hp : plainOp op = true) (h : pseq P ops m cs r (fr.put d (.lazy false .junk)) KK) : pseq P ops m cs (⟨some d, op, ty, pos, af, gd⟩ :: r) fr KK := by
  have e1 := pv_off (P := P) (m := m) (c := cs.headD .junk) (o := ⟨some d, op, ty, pos, af, gd⟩) hg
  have e2 : ∀ op', plainOp op' = true → (match op' with | .call ⟨.value (.func _), _, _⟩ => cs.tail | _ => cs) = cs := by
    intro op' h'
    cases op' with
    | call c =>
      obtain ⟨callee, args, ts⟩ := c
      cases callee with
      | value o => cases o <;> first | rfl | simp [plainOp] at h'
      | _ => rfl
    | _ => rfl
  simp only [pseq, e1]
  refine ⟨trivial, ?_⟩
  exact Eq.mpr (congrArg (fun z => pseq P ops m z r (putO fr (some d) (.lazy false .junk)) KK) (e2 op hp)) h

theorem pq_offc {f : FuncId} {args : Array Operand} {ts : Array TypeId} (hg : gOn ops fr gd = some false) (h : pseq P ops m cs.tail r (fr.put d (.lazy false .junk)) KK) : pseq P ops m cs (⟨some d, .call ⟨.value (.func f), args, ts⟩, ty, pos, af, gd⟩ :: r) fr KK := by
  have e1 := pv_off (P := P) (m := m) (c := cs.headD .junk) (o := ⟨some d, .call ⟨.value (.func f), args, ts⟩, ty, pos, af, gd⟩) hg
  simp only [pseq, e1]
  exact ⟨trivial, h⟩

theorem pq_qv (hg : gOn ops fr gd = some true) {op : Op} {side : Prop} {x x' : AV} (hop : readOp op = true) (hq : qv P m (evP (rawOf fr)) op = some (side, x)) (hs : side) (hx : x = x') (h : pseq P ops m cs r (fr.put d x') KK) :
    pseq P ops m cs (⟨some d, op, ty, pos, af, gd⟩ :: r) fr KK := by
  subst hx
  have e0 : pv0 P m (cs.headD .junk) (rawOf fr) ⟨some d, op, ty, pos, af, gd⟩ = some (side, x) := by
    unfold pv0
    split
    · next h => simp only at h; subst h; simp [readOp] at hop
    · next h => simp only at h; subst h; simp [readOp] at hop
    · next h => simp only at h; subst h; simp [readOp] at hop
    · next h => simp only at h; subst h; simp [readOp] at hop
    · exact hq
  have e1 : pv P ops m (cs.headD .junk) (rawOf fr) ⟨some d, op, ty, pos, af, gd⟩ = some (side, x) := by
    rw [pv_on hg, e0]
  have e2 : ∀ op', readOp op' = true → (match op' with | .call ⟨.value (.func _), _, _⟩ => cs.tail | _ => cs) = cs := by
    intro op' h'
    cases op' with
    | call c =>
      obtain ⟨callee, args, ts⟩ := c
      cases callee with
      | value o => cases o <;> first | rfl | simp [readOp] at h'
      | _ => rfl
    | _ => rfl
  simp only [pseq, e1]
  refine ⟨hs, ?_⟩
  exact Eq.mpr (congrArg (fun z => pseq P ops m z r (putO fr (some d) x) KK) (e2 op hop)) h

theorem pq_index (hg : gOn ops fr gd = some true) {α : Type} [Inhabited α] (f : α → AV) (xs : List α) (k : Int) {own : Bool} {kd : IntKind} {t e : TypeId} {x i : Operand} {l : List AV} (ht : P.underlying t = some (.slice e)) (hx : evP (rawOf fr) x = .slice own l) (hl : l = xs.map f) (hi : evP (rawOf fr) i = .int kd k)
    (hU : isU P e = true) (hc : P.cellsOf e ≠ 0) (hf : ∀ a, (f a).cells.length = P.cellsOf e) (h0 : 0 ≤ k) (h1 : k < xs.length) (h : pseq P ops m cs r (fr.put d (.ref (f (gI xs k)).cells)) KK) :
    pseq P ops m cs (⟨some d, .indexAddr t x i, ty, pos, af, gd⟩ :: r) fr KK := by
  subst hl
  refine pq_qv hg (side := isU P e = true ∧ P.cellsOf e ≠ 0 ∧ 0 ≤ k ∧ k < (xs.map f).length ∧ ((xs.map f).getD k.toNat .junk).cells.length = P.cellsOf e) (x := .ref ((xs.map f).getD k.toNat .junk).cells) rfl ?_ ⟨hU, hc, h0, by simpa using h1, by rw [idx_eq f xs k h0 h1]; exact hf _⟩ (by rw [idx_eq f xs k h0 h1]) h
  simp only [qv, ht, hx, hi]

theorem pq_len (hg : gOn ops fr gd = some true) {α : Type} (f : α → AV) (xs : List α) {own : Bool} {t e : TypeId} {x : Operand} {l : List AV} (ht : P.underlying t = some (.slice e)) (hx : evP (rawOf fr) x = .slice own l) (hl : l = xs.map f)
    (h : pseq P ops m cs r (fr.put d (.int .i64 xs.length)) KK) : pseq P ops m cs (⟨some d, .call ⟨.builtin .len, #[x], #[t]⟩, ty, pos, af, gd⟩ :: r) fr KK := by
  subst hl
  exact pq_qv hg (side := True) (x := .int .i64 (xs.map f).length) rfl (by simp [qv, ht, hx]) trivial (by simp) h

theorem pq_add (hg : gOn ops fr gd = some true) {T T2 : TypeId} {x y : Operand} {a b : Int} (hx : evP (rawOf fr) x = .int .i64 a) (hy : evP (rawOf fr) y = .int .i64 b) (lo : -9223372036854775808 ≤ a + b) (hi : a + b ≤ 9223372036854775807)
    (h : pseq P ops m cs r (fr.put d (.int .i64 (a + b))) KK) : pseq P ops m cs (⟨some d, .binOp .add T x y T2, ty, pos, af, gd⟩ :: r) fr KK :=
  pq_qv hg (side := True) (x := .int .i64 (IntKind.i64.wrap (a + b))) rfl (by simp only [qv, hx, hy, anil, abin, if_true]) trivial (by rw [wrap64 _ lo hi]) h

theorem pq_sub (hg : gOn ops fr gd = some true) {T T2 : TypeId} {x y : Operand} {a b : Int} (hx : evP (rawOf fr) x = .int .i64 a) (hy : evP (rawOf fr) y = .int .i64 b) (lo : -9223372036854775808 ≤ a - b) (hi : a - b ≤ 9223372036854775807)
    (h : pseq P ops m cs r (fr.put d (.int .i64 (a - b))) KK) : pseq P ops m cs (⟨some d, .binOp .sub T x y T2, ty, pos, af, gd⟩ :: r) fr KK :=
  pq_qv hg (side := True) (x := .int .i64 (IntKind.i64.wrap (a - b))) rfl (by simp only [qv, hx, hy, anil, abin, if_true]) trivial (by rw [wrap64 _ lo hi]) h

theorem pq_slice (hg : gOn ops fr gd = some true) {α : Type} (f : α → AV) (xs : List α) (p q : Int) {own : Bool} {t e : TypeId} {x : Operand} {lo hi : Option Operand} {l : List AV} (ht : P.underlying t = some (.slice e)) (hx : evP (rawOf fr) x = .slice own l) (hl : l = xs.map f)
    (hp : asn (lo.map (evP (rawOf fr))) 0 = some p) (hq : asn (hi.map (evP (rawOf fr))) l.length = some q) (hU : isU P e = true) (hf : ∀ a, (f a).cells.length = P.cellsOf e) (h0 : 0 ≤ p) (h1 : p ≤ q) (h2 : q ≤ xs.length)
    (h : pseq P ops m cs r (fr.put d (.slice false ((sub xs p q).map f))) KK) : pseq P ops m cs (⟨some d, .slice t x lo hi none, ty, pos, af, gd⟩ :: r) fr KK := by
  subst hl
  refine pq_qv hg (side := isU P e = true ∧ 0 ≤ p ∧ p ≤ q ∧ q ≤ (xs.map f).length ∧ ∀ x ∈ xs.map f, x.cells.length = P.cellsOf e) (x := .slice false (((xs.map f).drop p.toNat).take (q - p).toNat)) rfl ?_ ⟨hU, h0, h1, by simpa using h2, fun x hx => ?_⟩ (by rw [sub, ← List.map_drop, ← List.map_take]) h
  · simp only [qv, ht, hx, hp, hq]
  · obtain ⟨a, _, rfl⟩ := List.mem_map.1 hx
    exact hf a

end
end Go.Aw
