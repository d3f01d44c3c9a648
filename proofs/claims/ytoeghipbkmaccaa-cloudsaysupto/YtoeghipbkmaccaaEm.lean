import Derived.Test.YtoeghipbkmaccaaProg
import Derived.Test.YtoeghipbkmaccaaVa1
import Derived.Test.YtoeghipbkmaccaaWxx
import Derived.Test.YtoeghipbkmaccaaCl5
section
namespace Go.Proofs
open Go Go.Aw
set_option maxRecDepth 100000
structure TK (c : ClSt) (s : DSt) (n : Nat) : Prop where
  okd : Okd s
  st0 : 0 ≤ s.steps
  st1 : s.steps ≤ n
  fl : c.fails = []
  nx0 : 1 ≤ c.next
  nx1 : c.next ≤ n + 1
  ca0 : 0 ≤ c.calls
  ca1 : c.calls ≤ n
  tl : c.things.length ≤ n
  ol : c.tokens.length ≤ n
  nd : (c.things.map Prod.fst).Nodup
  ids : ∀ p ∈ c.things, p.2.id = p.1 ∧ (1 ≤ p.1 ∧ p.1 < c.next) ∧ chk p.2.v = 0
theorem TK.mono {c : ClSt} {s : DSt} {n m : Nat} (h : TK c s n) (hm : n ≤ m) : TK c s m :=
  ⟨h.okd, h.st0, by have := h.st1; omega, h.fl, h.nx0, by have := h.nx1; omega, h.ca0, by have := h.ca1; omega, by have := h.tl; omega, by have := h.ol; omega, h.nd, h.ids⟩
def tokX (c : ClSt) (t : Str) (op : Int) : Dn × Bool × Int :=
  if (mget c.tokens t).isSome = false then (zD, false, 0) else if ((mget c.tokens t).getD zD).op = op then ((mget c.tokens t).getD zD, true, 0) else (zD, false, 15)
theorem TK.call {c : ClSt} {s : DSt} {n : Nat} (h : TK c s n) (t : Str) (op : Int) : callR c s t op = (({ c with calls := c.calls + 1 }, (stepF s).1), tokX c t op) := by
  have k := stepF_ok h.okd
  have e : (mget c.fails c.calls).getD false = false := by rw [h.fl]; rfl
  unfold tokX
  cases q : mget c.tokens t with
  | none => rw [callR_4 k.1 e (.inl (by rw [q]; rfl)), q]; rfl
  | some d =>
    by_cases hd : d.op = op
    · rw [callR_4 k.1 e (.inr (by rw [q]; exact hd)), q]
      rw [if_neg (by simp), if_pos (show ((some d).getD zD).op = op from hd)]; rfl
    · rw [callR_3 k.1 e (by rw [q]; exact ⟨rfl, hd⟩)]
      rw [if_neg (by simp), if_neg (show ¬ ((some d).getD zD).op = op from hd)]
theorem TK.callsE {c : ClSt} {s : DSt} {n : Nat} (h : TK c s n) (t : Str) (op : Int) : ccalls c s t op = c.calls + 1 := by rw [ccalls, h.call]
theorem TK.callT {c : ClSt} {s : DSt} {n : Nat} (h : TK c s n) (t : Str) (op : Int) : Go.Proofs.callT c s t op = tokX c t op := by rw [Go.Proofs.callT, h.call]
theorem TK.step {c : ClSt} {s : DSt} {n : Nat} (h : TK c s n) : TK { c with calls := c.calls + 1 } (stepF s).1 (n + 1) := by
  have k := stepF_ok h.okd
  have q := stepF_steps s
  exact ⟨k.2, by have := h.st0; omega, by have := h.st1; omega, h.fl, h.nx0, by show c.next ≤ _; have := h.nx1; omega, by show 0 ≤ c.calls + 1; have := h.ca0; omega, by show c.calls + 1 ≤ _; have := h.ca1; omega, by show c.things.length ≤ _; have := h.tl; omega, by show c.tokens.length ≤ _; have := h.ol; omega, h.nd, h.ids⟩
structure Twice (c : ClSt) (s : DSt) (r1 r2 : (ClSt × DSt) × Int) (n : Nat) : Prop where
  k1 : TK r1.1.1 r1.1.2 (n + 1)
  k2 : TK r2.1.1 r2.1.2 (n + 2)
  er : r2.2 = r1.2
  th : r1.2 = 0 → r2.1.1.things = r1.1.1.things
  m1 : c.next ≤ r1.1.1.next
  m2 : r1.1.1.next ≤ r2.1.1.next
structure Twice2 (c : ClSt) (s : DSt) (r1 r2 : (ClSt × DSt) × (Int × Int)) (n : Nat) : Prop where
  k1 : TK r1.1.1 r1.1.2 (n + 1)
  k2 : TK r2.1.1 r2.1.2 (n + 2)
  er : r2.2.2 = r1.2.2
  th : r1.2.2 = 0 → r2.1.1.things = r1.1.1.things
  m1 : c.next ≤ r1.1.1.next
  m2 : r1.1.1.next ≤ r2.1.1.next
  id : r1.2.2 = 0 → r2.2.1 = r1.2.1
  nw : r1.2.2 = 0 → c.things.length < r1.1.1.things.length → r1.2.1 = c.next ∧ r1.1.1.next = c.next + 1
theorem tokX_put {c c' : ClSt} {t : Str} {op id : Int} (h : c'.tokens = mput c.tokens t ⟨op, id⟩) : tokX c' t op = (⟨op, id⟩, true, 0) := by
  unfold tokX
  rw [h, mget_mputG, if_pos rfl]
  rw [if_neg (by simp), if_pos (by rfl)]; rfl
theorem tokX_eq {c c' : ClSt} {t : Str} {op : Int} (h : c'.tokens = c.tokens) : tokX c' t op = tokX c t op := by unfold tokX; rw [h]
section
variable {c : ClSt} {s : DSt} {n : Nat} {token kind : Str} {v : Val} {id : Int}
theorem TK.create_1 (h : TK c s n) (ha : attrE v = 0) (hk : nameV kind = true) (hx : (tokX c token 1).2.2 ≠ 0 ∨ (tokX c token 1).2.1 = true) : createR c s token kind v = (({ c with calls := c.calls + 1 }, (stepF s).1), ((tokX c token 1).1.id, (tokX c token 1).2.2)) := by
  rw [createR_3 ha hk (by rw [h.callT]; exact hx), h.callT, h.callsE]
theorem TK.create_2 (h : TK c s n) (ha : attrE v = 0) (hk : nameV kind = true) (hx : (tokX c token 1).2.2 = 0 ∧ (tokX c token 1).2.1 = false) (hq : c.quota ≤ c.things.length) : createR c s token kind v = (({ c with calls := c.calls + 1 }, (stepF s).1), (0, 13)) := by
  rw [createR_4 ha hk (by rw [h.callT]; exact hx) hq, h.callsE]
theorem TK.create_3 (h : TK c s n) (ha : attrE v = 0) (hk : nameV kind = true) (hx : (tokX c token 1).2.2 = 0 ∧ (tokX c token 1).2.1 = false) (hq : (c.things.length : Int) < c.quota) : createR c s token kind v = (({ c with calls := c.calls + 1, next := c.next + 1, things := mput c.things c.next ⟨c.next, kind, v⟩, tokens := mput c.tokens token ⟨1, c.next⟩ }, (stepF s).1), (c.next, 0)) := by
  rw [createR_5 ha hk (by rw [h.callT]; exact hx) hq, h.callsE]
theorem TK.twiceSame2 (h : TK c s n) {e : Int} (he : e ≠ 0) : Twice2 c s ((c, s), (0, e)) ((c, s), (0, e)) n :=
  ⟨h.mono (by omega), h.mono (by omega), rfl, fun _ => rfl, Int.le_refl _, Int.le_refl _, fun _ => rfl, fun k => absurd k he⟩
theorem TK.put (h : TK c s n) {t : Thg} {op : Int} (ht : t.id = id) (h1 : 1 ≤ id) (h2 : id < c.next) (hv : chk t.v = 0) (hl : (mget c.things id).isSome = true) : TK { c with calls := c.calls + 1, things := mput c.things id t, tokens := mput c.tokens token ⟨op, id⟩ } (stepF s).1 (n + 1) := by
  have k := h.step
  refine ⟨k.okd, k.st0, k.st1, k.fl, k.nx0, k.nx1, k.ca0, k.ca1, ?_, ?_, mput_ndG h.nd, ?_⟩
  · show (mput c.things id t).length ≤ _
    rw [mput_len_some hl]; have := h.tl; omega
  · show (mput c.tokens token _).length ≤ _
    have := mput_len c.tokens token ⟨op, id⟩; have := h.ol; omega
  · intro p hp
    rcases mput_memG hp with rfl | hp
    · exact ⟨ht, ⟨h1, h2⟩, hv⟩
    · exact h.ids p hp
theorem TK.new (h : TK c s n) (hv : chk v = 0) : TK { c with calls := c.calls + 1, next := c.next + 1, things := mput c.things c.next ⟨c.next, kind, v⟩, tokens := mput c.tokens token ⟨1, c.next⟩ } (stepF s).1 (n + 1) := by
  have k := h.step
  refine ⟨k.okd, k.st0, k.st1, k.fl, ?_, ?_, k.ca0, k.ca1, ?_, ?_, mput_ndG h.nd, ?_⟩
  · show 1 ≤ c.next + 1; have := h.nx0; omega
  · show c.next + 1 ≤ _; have := h.nx1; omega
  · show (mput c.things c.next _).length ≤ _
    have := mput_len c.things c.next ⟨c.next, kind, v⟩; have := h.tl; omega
  · show (mput c.tokens token _).length ≤ _
    have := mput_len c.tokens token ⟨1, c.next⟩; have := h.ol; omega
  · intro p hp
    have hnx := h.nx0
    rcases mput_memG hp with rfl | hp
    · exact ⟨rfl, ⟨hnx, by show c.next < c.next + 1; omega⟩, hv⟩
    · have := h.ids p hp
      exact ⟨this.1, ⟨this.2.1.1, by show p.1 < c.next + 1; omega⟩, this.2.2⟩
theorem TK.del (h : TK c s n) {op : Int} : TK { c with calls := c.calls + 1, things := mdel c.things id, tokens := mput c.tokens token ⟨op, id⟩ } (stepF s).1 (n + 1) := by
  have k := h.step
  refine ⟨k.okd, k.st0, k.st1, k.fl, k.nx0, k.nx1, k.ca0, k.ca1, ?_, ?_, mdel_ndG h.nd, ?_⟩
  · show (mdel c.things id).length ≤ _
    have := mdel_len c.things id; have := h.tl; omega
  · show (mput c.tokens token _).length ≤ _
    have := mput_len c.tokens token ⟨op, id⟩; have := h.ol; omega
  · intro p hp
    exact h.ids p ((mdel_subG _ _).subset hp)
theorem TK.create2 (h : TK c s n) : Twice2 c s (createR c s token kind v) (createR (createR c s token kind v).1.1 (createR c s token kind v).1.2 token kind v) n := by
  by_cases ha : attrE v = 0
  · cases hk : nameV kind
    · rw [createR_2 ha hk, createR_2 ha hk]; exact h.twiceSame2 (by decide)
    · by_cases hx : (tokX c token 1).2.2 ≠ 0 ∨ (tokX c token 1).2.1 = true
      · rw [h.create_1 ha hk hx, h.step.create_1 ha hk (by rw [tokX_eq rfl]; exact hx), tokX_eq rfl]
        exact ⟨h.step, h.step.step, rfl, fun _ => rfl, Int.le_refl _, Int.le_refl _, fun _ => rfl, fun _ k => absurd k (Nat.lt_irrefl _)⟩
      · have hx : (tokX c token 1).2.2 = 0 ∧ (tokX c token 1).2.1 = false := by simpa [not_or] using hx
        by_cases hq : c.quota ≤ c.things.length
        · rw [h.create_2 ha hk hx hq, h.step.create_2 ha hk (by rw [tokX_eq rfl]; exact hx) hq]
          exact ⟨h.step, h.step.step, rfl, fun _ => rfl, Int.le_refl _, Int.le_refl _, fun _ => rfl, fun k => absurd k (show ¬ (13 : Int) = 0 by decide)⟩
        · have k1 := h.new (token := token) (kind := kind) (attrE_0 ha)
          rw [h.create_3 ha hk hx (by omega), k1.create_1 ha hk (by rw [tokX_put rfl]; exact .inr rfl), tokX_put rfl]
          exact ⟨k1, k1.step, rfl, fun _ => rfl, by show c.next ≤ c.next + 1; omega, Int.le_refl _, fun _ => rfl, fun _ _ => ⟨rfl, rfl⟩⟩
  · rw [createR_1 ha, createR_1 ha]; exact h.twiceSame2 ha
end
end Go.Proofs
end
section
namespace Go.Proofs
open Go Go.Aw
set_option maxRecDepth 100000
def cZ : ClSt := ⟨[], [], 1, 20, 0, []⟩
def vZ : Val := ⟨5, 0, [], [], []⟩
def rZ : (ClSt × DSt) × (Int × Int) := createR cZ s0 ([102, 105, 114, 115, 116] : List UInt8) ([118, 109] : List UInt8) vZ
def c1 : ClSt := rZ.1.1
def s1 : DSt := rZ.1.2
theorem TK.start : TK cZ s0 0 := ⟨⟨rfl, rfl⟩, Int.le_refl _, Int.le_refl _, rfl, by decide, by decide, Int.le_refl _, Int.le_refl _, Nat.le_refl _, Nat.le_refl _, List.nodup_nil, fun p hp => by cases hp⟩
theorem rZ_eq : rZ = (({ cZ with calls := 1, next := 2, things := [(1, ⟨1, ([118, 109] : List UInt8), vZ⟩)], tokens := [(([102, 105, 114, 115, 116] : List UInt8), ⟨1, 1⟩)] }, (stepF s0).1), (1, 0)) := by
  unfold rZ
  rw [TK.start.create_3 (by rfl) (by decide) ⟨rfl, rfl⟩ (by decide)]
  rfl
theorem TK.one : TK c1 s1 1 ∧ c1.next = 2 := ⟨(TK.start.create2 (token := ([102, 105, 114, 115, 116] : List UInt8)) (kind := ([118, 109] : List UInt8)) (v := vZ)).k1, by show rZ.1.1.next = 2; rw [rZ_eq]⟩
theorem acts_bdC {l : List ActT} (h : bdL (l.map actAV)) : ∀ a ∈ l, a.s.length ≤ 140737488355328 ∧ a.t.length ≤ 140737488355328 ∧ a.a ≤ 9223372036854775807 := fun a ha =>
  ⟨bdL_map (f := actAV) h ha 1 (by simp [actAV, AV.cells]), bdL_map (f := actAV) h ha 2 (by simp [actAV, AV.cells]), (bdL_map (f := actAV) h ha 3 (by simp [actAV, AV.cells])).2⟩
theorem allT_len (c : ClSt) : (allT c).length = c.things.length := by unfold allT; rw [sortT_len, List.length_map]
theorem u_CreateK (x d tb ob fb kb nb : Nat) (c : ClSt) (s : DSt) (token kind : Str) (v : Val) (n : Nat) (r : (ClSt × DSt) × (Int × Int)) (hr : createR c s token kind v = r) (hN : [x, d, tb, ob, fb].Nodup) (h : TK c s n) (hn : n ≤ 1000) (hkd : kind.length ≤ 140737488355328) (m : AMem) (K : AV → AMem → Prop)
    (hK : K (.tuple [.int .i64 r.2.1, .err 108 r.2.2]) (AMem.wth m [(x, cObj d tb ob fb r.1.1), (d, dObj kb nb r.1.2), (tb, tObj r.1.1.things), (ob, oObj r.1.1.tokens), (fb, fObj r.1.1.fails)])) :
    ACalls Try.prog 48 [.ptr ⟨x, 0, none⟩, .str token, .str kind, valTop v] (AMem.wth m [(x, cObj d tb ob fb c), (d, dObj kb nb s), (tb, tObj c.things), (ob, oObj c.tokens), (fb, fObj c.fails)]) K := by
  subst hr
  have h1 := h.st1; have h2 := h.ca1; have h3 := h.nx1; have h4 := h.tl; have h5 := h.ol; have h6 := h.okd.2; have h7 := h.nx0
  exact u_Create x d tb ob fb kb nb c s token kind v hN hkd h.st0 (by omega) (by omega) (by omega) h.ca0 (by omega) (by omega) (by omega) (by omega) (by omega) m K hK
theorem u_AllK (x d tb ob fb : Nat) (c : ClSt) (s : DSt) (n : Nat) (l : List Thg) (hl : allT c = l) (hN : [x, tb].Nodup) (h : TK c s n) (hn : n ≤ 1000) (m : AMem) (K : AV → AMem → Prop) (hK : K (.slice false (l.map thgAV)) (AMem.wth m [(x, cObj d tb ob fb c), (tb, tObj c.things)])) :
    ACalls Try.prog 62 [.ptr ⟨x, 0, none⟩] (AMem.wth m [(x, cObj d tb ob fb c), (tb, tObj c.things)]) K := by
  subst hl
  have h4 := h.tl; have h3 := h.nx1
  exact u_All x d tb ob fb c hN (by omega) h.nd (fun p hp => by have q := h.ids p hp; exact ⟨q.1, ⟨q.2.1.1, by omega⟩, q.2.2⟩) m K hK
theorem Twice.back {c : ClSt} {s : DSt} {r1 r2 : (ClSt × DSt) × Int} {n N : Nat} {last : Int} (h : Twice c s r1 r2 n) (hl : 1 ≤ last ∧ last < c.next) (hm : n + 2 ≤ N) : TK r2.1.1 r2.1.2 N ∧ 1 ≤ last ∧ last < r2.1.1.next :=
  ⟨h.k2.mono hm, hl.1, by have := h.m1; have := h.m2; omega⟩
theorem Twice2.back {c : ClSt} {s : DSt} {r1 r2 : (ClSt × DSt) × (Int × Int)} {n N : Nat} {last : Int} (h : Twice2 c s r1 r2 n) (hl : 1 ≤ last ∧ last < c.next) (hm : n + 2 ≤ N) : TK r2.1.1 r2.1.2 N ∧ 1 ≤ last ∧ last < r2.1.1.next :=
  ⟨h.k2.mono hm, hl.1, by have := h.m1; have := h.m2; omega⟩
theorem Twice2.new {c : ClSt} {s : DSt} {r1 r2 : (ClSt × DSt) × (Int × Int)} {n : Nat} (h : Twice2 c s r1 r2 n) (hc : (r1.2.2 == 0) = true) (hl : ((allT c).length : Int) < (allT r1.1.1).length) : r1.2.1 = c.next ∧ r1.1.1.next = c.next + 1 := by
  rw [allT_len, allT_len] at hl
  exact h.nw (eq_of_beq hc) (by omega)
theorem casesB {p : Prop} (b : Bool) (h1 : b = true → p) (h2 : b = false → p) : p := by
  cases q : b
  · exact h2 q
  · exact h1 q
def actObj (x : ActT) : AObj := .cells [.str x.kind, .str x.s, .str x.t, .int .i64 x.a, .int .i64 x.b, .int .i64 x.v.kind, .int .i64 x.v.n, .str x.v.s, .slice false (x.v.l.map valIn), .slice false (x.v.f.map fldIn), .slice false (x.names.map strAV)]
end Go.Proofs
end
section
namespace Go.Proofs
open Go Go.Aw
set_option maxRecDepth 100000
def mxF {α : Type} (g : α → Int) (l : List α) (d : Int) : Int := l.foldl (fun d x => if g x > d then g x else d) d
def hgtF : Nat → Val → Int
  | 0, _ => 0
  | k + 1, v => mxF (fun p => hgtF k p.2) v.f (mxF (hgtF k) v.l 0) + 1
theorem mxF_step {α : Type} [Inhabited α] (g : α → Int) {l : List α} {i : Int} (d : Int) (h0 : 0 ≤ i) (hi : i < l.length) : mxF g (l.take (i + 1).toNat) d = if g (gI l i) > mxF g (l.take i.toNat) d then g (gI l i) else mxF g (l.take i.toNat) d := by
  rw [take_succ_gI h0 hi]; unfold mxF; rw [List.foldl_append]; rfl
theorem mxF_le {α : Type} (g : α → Int) (B : Int) : ∀ (l : List α) (d : Int), (mxF g l d ≤ B ↔ d ≤ B ∧ ∀ x ∈ l, g x ≤ B)
  | [], d => by simp [mxF]
  | x :: r, d => by
    rw [show mxF g (x :: r) d = mxF g r (if g x > d then g x else d) from rfl, mxF_le g B r]
    simp only [List.mem_cons, forall_eq_or_imp]
    split <;> constructor <;> (intro h; refine ⟨?_, ?_⟩) <;> first | omega | exact h.2 | (refine ⟨?_, ?_⟩ <;> first | omega | exact h.2) | exact h.2.2
theorem mxF_nn {α : Type} (g : α → Int) : ∀ (l : List α) (d : Int), d ≤ mxF g l d
  | [], d => Int.le_refl _
  | x :: r, d => by
    rw [show mxF g (x :: r) d = mxF g r (if g x > d then g x else d) from rfl]
    refine Int.le_trans ?_ (mxF_nn g r (if g x > d then g x else d))
    split <;> omega
theorem sumN_take {α : Type} [Inhabited α] (g : α → Nat) {l : List α} {i : Int} (h0 : 0 ≤ i) (hi : i < l.length) : sumN g (l.take (i + 1).toNat) = sumN g (l.take i.toNat) + g (gI l i) := by
  have e : ∀ (a b : List α), sumN g (a ++ b) = sumN g a + sumN g b := fun a b => by
    induction a with
    | nil => simp [sumN]
    | cons x r ih => simp only [List.cons_append, sumN, ih]; omega
  rw [take_succ_gI h0 hi, e]; simp [sumN]
theorem sumN_take_le {α : Type} (g : α → Nat) (l : List α) (k : Nat) : sumN g (l.take k) ≤ sumN g l := by
  induction l generalizing k with
  | nil => simp
  | cons x r ih =>
    cases k with
    | zero => simp [sumN]
    | succ k => rw [List.take_succ_cons, sumN, sumN]; have := ih k; omega
theorem hgtF_le : ∀ (k : Nat) (v : Val), depV v < k → 1 ≤ hgtF k v ∧ hgtF k v ≤ depV v
  | 0, _, h => absurd h (Nat.not_lt_zero _)
  | k + 1, v, h => by
    have e := depV_eq v
    rw [hgtF]
    have h1 := mxF_nn (hgtF k) v.l 0
    have h2 := mxF_nn (fun p : Str × Val => hgtF k p.2) v.f (mxF (hgtF k) v.l 0)
    refine ⟨by omega, ?_⟩
    have a : mxF (hgtF k) v.l 0 ≤ (depV v : Int) - 1 := (mxF_le _ _ _ _).2 ⟨by omega, fun x hx => by
      have q := depL_mem hx; have := (hgtF_le k x (by omega)).2; omega⟩
    have b : mxF (fun p : Str × Val => hgtF k p.2) v.f (mxF (hgtF k) v.l 0) ≤ (depV v : Int) - 1 := (mxF_le _ _ _ _).2 ⟨a, fun x hx => by
      have q := depF_mem hx; have := (hgtF_le k x.2 (by omega)).2; omega⟩
    omega
theorem cntL_iff {α : Type} {g : α → Int → Bool × Int} {d : α → Nat} {h : α → Prop} : ∀ (l : List α) (n : Int), 0 ≤ n → (∀ x ∈ l, ∀ n, 0 ≤ n → ((g x n).1 = true ↔ (d x : Int) ≤ n ∧ h x)) → (∀ x n, 0 ≤ n → (g x n).1 = true → 0 ≤ (g x n).2 ∧ (g x n).2 + d x = n) → ((cntL g l n).1 = true ↔ (sumN d l : Int) ≤ n ∧ ∀ x ∈ l, h x)
  | [], n, h0, _, _ => by simp [cntL, sumN, h0]
  | x :: r, n, h0, hg, hk => by
    rw [cntL, sumN]
    have hx := hg x (List.mem_cons_self ..) n h0
    by_cases c : (g x n).1 = true
    · have q := hk x n h0 c
      rw [if_pos c, cntL_iff r _ q.1 (fun y hy => hg y (List.mem_cons_of_mem _ hy)) hk]
      have := hx.1 c
      simp only [List.mem_cons, forall_eq_or_imp]
      constructor
      · intro z; exact ⟨by push_cast; omega, this.2, z.2⟩
      · intro z; exact ⟨by have := z.1; push_cast at this; omega, z.2.2⟩
    · rw [if_neg c]
      simp only [Bool.false_eq_true, false_iff]
      intro z
      exact c (hx.2 ⟨by have := z.1; push_cast at this; omega, z.2 x (List.mem_cons_self ..)⟩)
theorem cntF_iff : ∀ (k : Nat) (deep : Int) (v : Val) (n : Int), depV v < k → 0 ≤ n → 1 ≤ deep → ((cntF k deep v n).1 = true ↔ (depV v : Int) ≤ n ∧ deep + hgtF k v ≤ 7)
  | 0, _, _, _, h, _, _ => absurd h (Nat.not_lt_zero _)
  | k + 1, deep, v, n, h, h0, h1 => by
    have e := depV_eq v
    have hh := hgtF_le (k + 1) v h
    have gl : ∀ x ∈ v.l, ∀ n, 0 ≤ n → ((cntF k (deep + 1) x n).1 = true ↔ (depV x : Int) ≤ n ∧ (hgtF k x ≤ 6 - deep)) := fun x hx n hn => by
      have q := depL_mem hx
      rw [cntF_iff k (deep + 1) x n (by omega) hn (by omega)]
      constructor <;> (intro z; exact ⟨z.1, by omega⟩)
    have gf : ∀ x ∈ v.f, ∀ n, 0 ≤ n → ((cntF k (deep + 1) x.2 n).1 = true ↔ (depV x.2 : Int) ≤ n ∧ (hgtF k x.2 ≤ 6 - deep)) := fun x hx n hn => by
      have q := depF_mem hx
      rw [cntF_iff k (deep + 1) x.2 n (by omega) hn (by omega)]
      constructor <;> (intro z; exact ⟨z.1, by omega⟩)
    have hgt : deep + hgtF (k + 1) v ≤ 7 ↔ deep ≤ 6 ∧ (∀ x ∈ v.l, hgtF k x ≤ 6 - deep) ∧ ∀ x ∈ v.f, hgtF k x.2 ≤ 6 - deep := by
      rw [hgtF]
      have a := mxF_le (hgtF k) (6 - deep) v.l 0
      have b := mxF_le (fun p : Str × Val => hgtF k p.2) (6 - deep) v.f (mxF (hgtF k) v.l 0)
      constructor
      · intro z
        have b1 := b.1 (by omega)
        have a1 := a.1 b1.1
        exact ⟨by omega, a1.2, b1.2⟩
      · intro z
        have a1 := a.2 ⟨by omega, z.2.1⟩
        have b1 := b.2 ⟨a1, z.2.2⟩
        omega
    rw [hgt, cntF]
    have sl := sumN_l v.l
    have sf := sumN_f v.f
    by_cases c : 6 < deep ∨ n - 1 < 0
    · rw [if_pos c]
      simp only [Bool.false_eq_true, false_iff]
      intro z
      rcases c with c | c <;> omega
    · rw [if_neg c]
      have il := cntL_iff (d := depV) (h := fun x => hgtF k x ≤ 6 - deep) v.l (n - 1) (by omega) gl (fun x n hn hx => cntF_ok k (deep + 1) x n hn hx)
      by_cases c2 : (cntL (cntF k (deep + 1)) v.l (n - 1)).1 = false
      · rw [if_pos c2]
        simp only [Bool.false_eq_true, false_iff]
        intro z
        have : (cntL (cntF k (deep + 1)) v.l (n - 1)).1 = true := il.2 ⟨by omega, z.2.2.1⟩
        rw [c2] at this; cases this
      · have c3 : (cntL (cntF k (deep + 1)) v.l (n - 1)).1 = true := by simpa using c2
        rw [if_neg c2]
        have a := cntL_ok (d := depV) (g := cntF k (deep + 1)) (fun x n hn hx => cntF_ok k (deep + 1) x n hn hx) v.l (n - 1) (by omega) c3
        have i2 := cntL_iff (g := fun p : Str × Val => cntF k (deep + 1) p.2) (d := fun p : Str × Val => depV p.2) (h := fun x => hgtF k x.2 ≤ 6 - deep) v.f _ a.1 gf (fun x n hn hx => cntF_ok k (deep + 1) x.2 n hn hx)
        rw [i2]
        have q := il.1 c3
        constructor
        · intro z; exact ⟨by omega, by omega, q.2, z.2⟩
        · intro z; exact ⟨by omega, z.2.2.2⟩
theorem chk_R {v : Val} : chk v = if (60 < (depV v : Int) ∨ 6 < hgtF (depV v + 1) v) then 2 else if shpF (depV v + 1) v = true then 0 else 3 := by
  have q := cntF_iff (depV v + 1) 1 v 60 (Nat.lt_succ_self _) (by omega) (by omega)
  unfold chk
  by_cases c : (cntF (depV v + 1) 1 v 60).1 = true
  · have := q.1 c
    rw [if_pos c, if_neg (by omega)]; rfl
  · rw [if_neg c, if_pos (by
      refine Classical.byContradiction fun z => c (q.2 ⟨by omega, by omega⟩))]
set_option maxHeartbeats 4000000 in
theorem u_parts1 (k : Nat) (v : Val) (hB : depV v ≤ 1000000000000) (ih : ∀ w : Val, depV w < depV v → ∀ (m : AMem) (K : AV → AMem → Prop), K (.tuple [iT (depV w : Int), iT (hgtF k w)]) m → ACalls Try.prog 101 [valTop w] m K) (hd : depV v < k + 1) (m : AMem)  (K : AV → AMem → Prop) (hK : K (.tuple [iT (depV v : Int), iT (hgtF (k + 1) v)]) m) : ACalls Try.prog 101 [valTop v] m K := by
 have hdv := depV_eq v
 have hsl := sumN_l v.l
 have hsf := sumN_f v.f
 refine acalls_enter Try.func101 rfl (by decide) (nB rfl) ?_
 refine awp_bd 0 (x := valTop v) rfl (fun hbd0 => ?_)
 have hbd0_2 : v.s.length ≤ 140737488355328 := (hbd0 2 (nB rfl))
 have hbd0_3 : v.l.length ≤ 140737488355328 := bd_map (hbd0 3 (nB rfl))
 have hbd0_4 : v.f.length ≤ 140737488355328 := bd_map (hbd0 4 (nB rfl))
 show AWP _ _ _ _ [(0, valTop v)] m
 refine rS [] [1] (by decide) ?_
 intro K1 hK1
 refine ar_box rfl (m := m) (L := []) (v := valTop v) (by rfl) rfl ?_
 intro b1 hb1
 have hFb1 : m b1 = none := wth_none (m := m) (L := []) hb1
 have hNb1 : ([b1] : List Nat).Nodup := wth_nodup (m := m) (L := []) hb1 List.nodup_nil
 refine ⟨tv, tv, ?_⟩
 show K1 [(1, pT b1)] (mW m [(b1, .cells [iT v.kind, iT v.n, .str v.s, sF (v.l.map valIn), sF (v.f.map fldIn)])])
 refine hK1 _ _ ?_; clear hK1 K1
 refine rS [] [1, 4] (by decide) ?_
 intro K1 hK1
 refine ⟨tv, ?_⟩
 show K1 [(1, pT b1), (4, iT 1)] _
 refine hK1 _ _ ?_; clear hK1 K1
 refine rS [] [1, 4, 5] (by decide) ?_
 intro K1 hK1
 refine ⟨tv, ?_⟩
 show K1 [(1, pT b1), (4, iT 1), (5, iT 0)] _
 refine hK1 _ _ ?_; clear hK1 K1
 refine sK ?_; intro K2 hK2
 refine rS [] [1, 4, 5, 6] (by decide) ?_
 intro K1 hK1
 refine ⟨tv, ?_⟩
 show K1 [(1, pT b1), (4, iT 1), (5, iT 0), (6, iT 0)] _
 refine hK1 _ _ ?_; clear hK1 K1
 refine awp_block ?_
 refine awp_keep [1, 4, 5, 6] (by decide) ?_
 refine awp_loop_st (σ := Int × Int × Int) (fun ⟨n1, d1, i⟩ => [(1, pT b1), (4, iT n1), (5, iT d1), (6, iT i)]) (fun _ => (mW m [(b1, .cells [iT v.kind, iT v.n, .str v.s, sF (v.l.map valIn), sF (v.f.map fldIn)])])) (fun ⟨n1, d1, i⟩ => 0 ≤ i ∧ i ≤ v.l.length ∧ n1 = 1 + sumN depV (v.l.take i.toNat) ∧ d1 = mxF (hgtF k) (v.l.take i.toNat) 0 ∧ 0 ≤ d1 ∧ d1 ≤ depV v) (fun ⟨n1, d1, i⟩ => v.l.length - i.toNat) (1, 0, 0) rfl rfl ?_ ?_
 ·
  show 0 ≤ ((0 : Int)) ∧ ((0 : Int)) ≤ v.l.length ∧ ((1 : Int)) = 1 + sumN depV (v.l.take ((0 : Int)).toNat) ∧ ((0 : Int)) = mxF (hgtF k) (v.l.take ((0 : Int)).toNat) 0 ∧ 0 ≤ ((0 : Int)) ∧ ((0 : Int)) ≤ depV v
  exact ⟨by omega, by omega, by simp [sumN], by simp [mxF], by omega, by omega⟩
 rintro ⟨n1, d1, i⟩ hI
 replace hI : 0 ≤ i ∧ i ≤ v.l.length ∧ n1 = 1 + sumN depV (v.l.take i.toNat) ∧ d1 = mxF (hgtF k) (v.l.take i.toNat) 0 ∧ 0 ≤ d1 ∧ d1 ≤ depV v := hI
 have htk := sumN_take_le depV v.l i.toNat
 show AWP _ _ _ _ [(1, pT b1), (4, iT n1), (5, iT d1), (6, iT i)] (mW m [(b1, .cells [iT v.kind, iT v.n, .str v.s, sF (v.l.map valIn), sF (v.f.map fldIn)])])
 refine sK ?_; intro K3 hK3
 refine rS [] [1, 4, 5, 6, 16] (by decide) ?_
 intro K1 hK1
 refine ⟨tv, ⟨rfl, by decide⟩, ?_⟩
 refine aL rfl (v := sF (v.l.map valIn)) rfl (wG 0 hNb1 rfl) rfl (aO rfl rfl (nB rfl)) rfl ?_
 refine ar_len rfl valIn v.l rfl rfl rfl ?_
 refine ⟨tv, ?_⟩
 show K1 [(1, pT b1), (4, iT n1), (5, iT d1), (6, iT i), (16, .bool (decide (i < (v.l.length : Int))))] _
 refine hK1 _ _ ?_; clear hK1 K1
 refine cD rfl rfl (fun h1 => ?_) (fun h1 => ?_)
 ·
  replace h1 : i < (v.l.length : Int) := (of_decide_eq_true h1)
  have hdm := depL_mem (gI_mem (l := v.l) (i := i) hI.1 h1)
  have hst := sumN_take depV (l := v.l) hI.1 h1
  have hgl := hgtF_le k (gI v.l i) (by omega)
  have htk2 := sumN_take_le depV v.l (i + 1).toNat
  refine awp_skip ?_
  refine hK3 _ _ ?_; clear hK3
  refine sK ?_; intro K4 hK4
  refine awp_block ?_
  refine rS [] [1, 4, 5, 6, 7, 8] (by decide) ?_
  intro K1 hK1
  refine ⟨⟨rfl, by decide⟩, ?_⟩
  refine aL rfl (v := sF (v.l.map valIn)) rfl (wG 0 hNb1 rfl) rfl (aO rfl rfl (nB rfl)) rfl ?_
  refine ⟨tv, ?_⟩
  refine ar_index rfl valTop v.l i rfl rfl (valMap v.l) rfl rfl (by decide) (fun _ => rfl) (by omega) (by omega) ?_
  refine ⟨(apartOk_agg rfl rfl (nB rfl)), ?_⟩
  refine ih (gI v.l i) (by have := depV_eq v; first | (have := depL_mem (gI_mem (l := v.l) (i := i) hI.1 (by assumption)); omega) | (have := depF_mem (gI_mem (l := v.f) (i := i2) hI2.1 (by assumption)); omega)) _ _ ?_
  refine ⟨tv, (nB rfl), (nB rfl), tv, tv, ?_⟩
  show K1 [(1, pT b1), (4, iT n1), (5, iT d1), (6, iT i), (7, iT (depV (gI v.l i) : Int)), (8, iT (hgtF k (gI v.l i)))] (mW m [(b1, .cells [iT v.kind, iT v.n, .str v.s, sF (v.l.map valIn), sF (v.f.map fldIn)])])
  refine hK1 _ _ ?_; clear hK1 K1
  refine rS [] [1, 4, 5, 6, 8] (by decide) ?_
  intro K1 hK1
  refine ⟨tv, tv, ?_⟩
  refine ar_add rfl (a := n1) (b := (depV (gI v.l i) : Int)) rfl rfl (by omega) (by omega) ?_
  refine ⟨tv, ?_⟩
  show K1 [(1, pT b1), (4, iT (n1 + (depV (gI v.l i) : Int))), (5, iT d1), (6, iT i), (8, iT (hgtF k (gI v.l i)))] _
  refine hK1 _ _ ?_; clear hK1 K1
  refine awp_reg2 [] [1, 4, 5, 6] (by decide) ?_
  intro K1 hK1
  refine ⟨tv, tv, tv, tv, ?_⟩
  show K1 [(1, pT b1), (4, iT (n1 + (depV (gI v.l i) : Int))), (5, iT (if hgtF k (gI v.l i) > d1 then hgtF k (gI v.l i) else d1)), (6, iT i)] _
  refine hK1 _ _ ?_; clear hK1 K1
  refine hK4 _ _ ?_; clear hK4
  refine awp_reg2 [] [1, 4, 5, 6] (by decide) ?_
  intro K1 hK1
  refine ⟨tv, ?_⟩
  refine ar_add rfl (a := i) (b := 1) rfl rfl (by omega) (by omega) ?_
  refine ⟨tv, ?_⟩
  show K1 [(1, pT b1), (4, iT (n1 + (depV (gI v.l i) : Int))), (5, iT (if hgtF k (gI v.l i) > d1 then hgtF k (gI v.l i) else d1)), (6, iT (i + 1))] _
  refine hK1 _ _ ?_; clear hK1 K1
  refine ⟨(n1 + (depV (gI v.l i) : Int), if hgtF k (gI v.l i) > d1 then hgtF k (gI v.l i) else d1, i + 1), rfl, rfl, ?_, ?_⟩
  ·
   show 0 ≤ ((i + 1 : Int)) ∧ ((i + 1 : Int)) ≤ v.l.length ∧ ((n1 + (depV (gI v.l i) : Int) : Int)) = 1 + sumN depV (v.l.take ((i + 1 : Int)).toNat) ∧ ((if hgtF k (gI v.l i) > d1 then hgtF k (gI v.l i) else d1 : Int)) = mxF (hgtF k) (v.l.take ((i + 1 : Int)).toNat) 0 ∧ 0 ≤ ((if hgtF k (gI v.l i) > d1 then hgtF k (gI v.l i) else d1 : Int)) ∧ ((if hgtF k (gI v.l i) > d1 then hgtF k (gI v.l i) else d1 : Int)) ≤ depV v
   refine ⟨by omega, by omega, by omega, ?_, ?_, ?_⟩
   ·
    rw [mxF_step _ _ hI.1 h1, ← hI.2.2.2.1]
   ·
    split <;> omega
   ·
    split <;> omega
  ·
   show v.l.length - ((i + 1 : Int)).toNat < v.l.length - i.toNat
   omega
 replace h1 : (v.l.length : Int) ≤ i := (Int.not_lt.1 (of_decide_eq_false h1))
 have hfull : v.l.take i.toNat = v.l := take_full h1
 refine awp_exit ?_
 refine hK2 _ _ ?_; clear hK2
 refine sK ?_; intro K5 hK5
 refine rS [] [1, 4, 5, 9] (by decide) ?_
 intro K1 hK1
 refine ⟨tv, ?_⟩
 show K1 [(1, pT b1), (4, iT n1), (5, iT d1), (9, iT 0)] (mW m [(b1, .cells [iT v.kind, iT v.n, .str v.s, sF (v.l.map valIn), sF (v.f.map fldIn)])])
 refine hK1 _ _ ?_; clear hK1 K1
 refine awp_block ?_
 refine awp_keep [1, 4, 5, 9] (by decide) ?_
 refine awp_loop_st (σ := Int × Int × Int) (fun ⟨n2, d2, i2⟩ => [(1, pT b1), (4, iT n2), (5, iT d2), (9, iT i2)]) (fun _ => (mW m [(b1, .cells [iT v.kind, iT v.n, .str v.s, sF (v.l.map valIn), sF (v.f.map fldIn)])])) (fun ⟨n2, d2, i2⟩ => 0 ≤ i2 ∧ i2 ≤ v.f.length ∧ n2 = 1 + depL v.l + sumN (fun p : Str × Val => depV p.2) (v.f.take i2.toNat) ∧ d2 = mxF (fun p : Str × Val => hgtF k p.2) (v.f.take i2.toNat) (mxF (hgtF k) v.l 0) ∧ 0 ≤ d2 ∧ d2 ≤ depV v) (fun ⟨n2, d2, i2⟩ => v.f.length - i2.toNat) (n1, d1, 0) rfl rfl ?_ ?_
 ·
  show 0 ≤ ((0 : Int)) ∧ ((0 : Int)) ≤ v.f.length ∧ ((n1 : Int)) = 1 + depL v.l + sumN (fun p : Str × Val => depV p.2) (v.f.take ((0 : Int)).toNat) ∧ ((d1 : Int)) = mxF (fun p : Str × Val => hgtF k p.2) (v.f.take ((0 : Int)).toNat) (mxF (hgtF k) v.l 0) ∧ 0 ≤ ((d1 : Int)) ∧ ((d1 : Int)) ≤ depV v
  rw [hfull] at hI
  exact ⟨by omega, by omega, by simp [sumN]; omega, by simp [mxF]; exact hI.2.2.2.1, by omega, by omega⟩
 rintro ⟨n2, d2, i2⟩ hI2
 replace hI2 : 0 ≤ i2 ∧ i2 ≤ v.f.length ∧ n2 = 1 + depL v.l + sumN (fun p : Str × Val => depV p.2) (v.f.take i2.toNat) ∧ d2 = mxF (fun p : Str × Val => hgtF k p.2) (v.f.take i2.toNat) (mxF (hgtF k) v.l 0) ∧ 0 ≤ d2 ∧ d2 ≤ depV v := hI2
 have htf := sumN_take_le (fun p : Str × Val => depV p.2) v.f i2.toNat
 show AWP _ _ _ _ [(1, pT b1), (4, iT n2), (5, iT d2), (9, iT i2)] (mW m [(b1, .cells [iT v.kind, iT v.n, .str v.s, sF (v.l.map valIn), sF (v.f.map fldIn)])])
 refine sK ?_; intro K6 hK6
 refine rS [] [1, 4, 5, 9, 38] (by decide) ?_
 intro K1 hK1
 refine ⟨tv, ⟨rfl, by decide⟩, ?_⟩
 refine aL rfl (v := sF (v.f.map fldIn)) rfl (wG 0 hNb1 rfl) rfl (aO rfl rfl (nB rfl)) rfl ?_
 refine ar_len rfl fldIn v.f rfl rfl rfl ?_
 refine ⟨tv, ?_⟩
 show K1 [(1, pT b1), (4, iT n2), (5, iT d2), (9, iT i2), (38, .bool (decide (i2 < (v.f.length : Int))))] _
 refine hK1 _ _ ?_; clear hK1 K1
 refine cD rfl rfl (fun h2 => ?_) (fun h2 => ?_)
 ·
  replace h2 : i2 < (v.f.length : Int) := (of_decide_eq_true h2)
  have hdm := depF_mem (gI_mem (l := v.f) (i := i2) hI2.1 h2)
  have hst := sumN_take (fun p : Str × Val => depV p.2) (l := v.f) hI2.1 h2
  have hgl := hgtF_le k (gI v.f i2).2 (by omega)
  have htf2 := sumN_take_le (fun p : Str × Val => depV p.2) v.f (i2 + 1).toNat
  refine awp_skip ?_
  refine hK6 _ _ ?_; clear hK6
  refine sK ?_; intro K7 hK7
  refine awp_block ?_
  refine rS [] [1, 4, 5, 9, 10, 11] (by decide) ?_
  intro K1 hK1
  refine ⟨⟨rfl, by decide⟩, ?_⟩
  refine aL rfl (v := sF (v.f.map fldIn)) rfl (wG 0 hNb1 rfl) rfl (aO rfl rfl (nB rfl)) rfl ?_
  refine ⟨tv, ?_⟩
  refine ar_index rfl fldTop v.f i2 rfl rfl (fldMap v.f) rfl rfl (by decide) (fun _ => rfl) (by omega) (by omega) ?_
  refine ⟨⟨rfl, by decide, (nB rfl)⟩, (apartOk_agg rfl rfl (nB rfl)), ?_⟩
  refine ih ((gI v.f i2).2) (by have := depV_eq v; first | (have := depL_mem (gI_mem (l := v.l) (i := i) hI.1 (by assumption)); omega) | (have := depF_mem (gI_mem (l := v.f) (i := i2) hI2.1 (by assumption)); omega)) _ _ ?_
  refine ⟨tv, (nB rfl), (nB rfl), tv, tv, ?_⟩
  show K1 [(1, pT b1), (4, iT n2), (5, iT d2), (9, iT i2), (10, iT (depV ((gI v.f i2).2) : Int)), (11, iT (hgtF k ((gI v.f i2).2)))] (mW m [(b1, .cells [iT v.kind, iT v.n, .str v.s, sF (v.l.map valIn), sF (v.f.map fldIn)])])
  refine hK1 _ _ ?_; clear hK1 K1
  refine rS [] [1, 4, 5, 9, 11] (by decide) ?_
  intro K1 hK1
  refine ⟨tv, tv, ?_⟩
  refine ar_add rfl (a := n2) (b := (depV ((gI v.f i2).2) : Int)) rfl rfl (by omega) (by omega) ?_
  refine ⟨tv, ?_⟩
  show K1 [(1, pT b1), (4, iT (n2 + (depV ((gI v.f i2).2) : Int))), (5, iT d2), (9, iT i2), (11, iT (hgtF k ((gI v.f i2).2)))] _
  refine hK1 _ _ ?_; clear hK1 K1
  refine awp_reg2 [] [1, 4, 5, 9] (by decide) ?_
  intro K1 hK1
  refine ⟨tv, tv, tv, tv, ?_⟩
  show K1 [(1, pT b1), (4, iT (n2 + (depV ((gI v.f i2).2) : Int))), (5, iT (if hgtF k ((gI v.f i2).2) > d2 then hgtF k ((gI v.f i2).2) else d2)), (9, iT i2)] _
  refine hK1 _ _ ?_; clear hK1 K1
  refine hK7 _ _ ?_; clear hK7
  refine awp_reg2 [] [1, 4, 5, 9] (by decide) ?_
  intro K1 hK1
  refine ⟨tv, ?_⟩
  refine ar_add rfl (a := i2) (b := 1) rfl rfl (by omega) (by omega) ?_
  refine ⟨tv, ?_⟩
  show K1 [(1, pT b1), (4, iT (n2 + (depV ((gI v.f i2).2) : Int))), (5, iT (if hgtF k ((gI v.f i2).2) > d2 then hgtF k ((gI v.f i2).2) else d2)), (9, iT (i2 + 1))] _
  refine hK1 _ _ ?_; clear hK1 K1
  refine ⟨(n2 + (depV ((gI v.f i2).2) : Int), if hgtF k ((gI v.f i2).2) > d2 then hgtF k ((gI v.f i2).2) else d2, i2 + 1), rfl, rfl, ?_, ?_⟩
  ·
   show 0 ≤ ((i2 + 1 : Int)) ∧ ((i2 + 1 : Int)) ≤ v.f.length ∧ ((n2 + (depV ((gI v.f i2).2) : Int) : Int)) = 1 + depL v.l + sumN (fun p : Str × Val => depV p.2) (v.f.take ((i2 + 1 : Int)).toNat) ∧ ((if hgtF k ((gI v.f i2).2) > d2 then hgtF k ((gI v.f i2).2) else d2 : Int)) = mxF (fun p : Str × Val => hgtF k p.2) (v.f.take ((i2 + 1 : Int)).toNat) (mxF (hgtF k) v.l 0) ∧ 0 ≤ ((if hgtF k ((gI v.f i2).2) > d2 then hgtF k ((gI v.f i2).2) else d2 : Int)) ∧ ((if hgtF k ((gI v.f i2).2) > d2 then hgtF k ((gI v.f i2).2) else d2 : Int)) ≤ depV v
   refine ⟨by omega, by omega, by omega, ?_, ?_, ?_⟩
   ·
    rw [mxF_step (fun p : Str × Val => hgtF k p.2) _ hI2.1 h2, ← hI2.2.2.2.1]
   ·
    split <;> omega
   ·
    split <;> omega
  ·
   show v.f.length - ((i2 + 1 : Int)).toNat < v.f.length - i2.toNat
   omega
 replace h2 : (v.f.length : Int) ≤ i2 := (Int.not_lt.1 (of_decide_eq_false h2))
 refine awp_exit ?_
 refine hK5 _ _ ?_; clear hK5
 refine rS [] [2, 3] (by decide) ?_
 intro K1 hK1
 refine ⟨tv, tv, ?_⟩
 refine ar_add rfl (a := d2) (b := 1) rfl rfl (by omega) (by omega) ?_
 refine ⟨tv, tv, ?_⟩
 show K1 [(2, iT n2), (3, iT (d2 + 1))] (mW m [(b1, .cells [iT v.kind, iT v.n, .str v.s, sF (v.l.map valIn), sF (v.f.map fldIn)])])
 refine hK1 _ _ ?_; clear hK1 K1
 refine awp_ret ?_
 refine ⟨tv, tv, m, (wth_sub2 (m := m) [(b1, .cells [iT v.kind, iT v.n, .str v.s, sF (v.l.map valIn), sF (v.f.map fldIn)])] [] hNb1 (by simp only [List.map_cons, List.map_nil, List.forall_mem_cons]; exact ⟨hFb1, nfA⟩)), ?_⟩
 show K (.tuple [iT n2, iT (d2 + 1)]) m
 have hfull2 : v.f.take i2.toNat = v.f := take_full h2
 rw [hfull2] at hI2
 have e1 : n2 = (depV v : Int) := by omega
 have e2 : d2 + 1 = hgtF (k + 1) v := by rw [hgtF, ← hI2.2.2.2.1]
 rw [e1, e2]; exact hK
theorem u_parts : ∀ (k : Nat) (v : Val), depV v < k → depV v ≤ 1000000000000 → ∀ (m : AMem) (K : AV → AMem → Prop), K (.tuple [iT (depV v : Int), iT (hgtF k v)]) m → ACalls Try.prog 101 [valTop v] m K
  | 0, _, h => absurd h (Nat.not_lt_zero _)
  | k + 1, v, h => fun hB m K hK => u_parts1 k v hB (fun w hw => u_parts k w (by omega) (by omega)) h m K hK
set_option maxHeartbeats 2000000 in
theorem u_NameMay (s : Str)  (m : AMem)  (K : AV → AMem → Prop) (hK : K (.bool (nameV s)) m) : ACalls Try.prog 84 [.str s] m K := by
 refine acalls_enter Try.func84 rfl (by decide) (nB rfl) ?_
 refine awp_bd 0 (x := .str s) rfl (fun hbd0 => ?_)
 have hbd0_0 : s.length ≤ 140737488355328 := hbd0
 show AWP _ _ _ _ [(0, .str s)] m
 refine rS [] [0] (by decide) ?_
 intro K1 hK1
 refine ⟨tv, ?_⟩
 show K1 [(0, .str s)] m
 refine hK1 _ _ ?_; clear hK1 K1
 refine sK ?_; intro K2 hK2
 refine rS [] [0, 13] (by decide) ?_
 intro K1 hK1
 suffices key : K1 [(0, .str s), (13, .bool ((decide ((s.length : Int) < 1)) || (decide (12 < (s.length : Int)))))] m by
  refine ⟨tv, tv, tv, tv, ?_⟩
  show aopsR _ _ _ _ _ [(9, .bool (decide ((s.length : Int) < 1))), (8, .bool (decide ((s.length : Int) < 1))), (7, iT (s.length : Int)), (6, .str s), (0, .str s)] _
  revert key
  cases h1 : (decide ((s.length : Int) < 1))
  ·
   replace h1 : 1 ≤ (s.length : Int) := (Int.not_lt.1 (of_decide_eq_false h1))
   intro key
   refine ⟨tv, tv, tv, ?_⟩
   exact key
  ·
   replace h1 : (s.length : Int) < 1 := (of_decide_eq_true h1)
   intro key
   refine ar_off rfl (ar_off rfl (ar_off rfl ?_))
   exact key
 refine hK1 _ _ ?_; clear hK1 K1
 refine cD rfl rfl (fun h2 => ?_) (fun h2 => ?_)
 ·
  replace h2 : ((s.length : Int) < 1) ∨ (12 < (s.length : Int)) := ((borT h2).imp (fun q => (of_decide_eq_true q)) (fun q => (of_decide_eq_true q)))
  refine rS [] [2] (by decide) ?_
  intro K1 hK1
  refine ⟨tv, ?_⟩
  show K1 [(2, .bool false)] m
  refine hK1 _ _ ?_; clear hK1 K1
  refine awp_ret ?_
  refine ⟨tv, m, fun _ _ h => h, ?_⟩
  show K (.bool false) m
 
  refine K_eq hK (cgA AV.bool ?_)
  rw [nameV]; cases s <;> simp_all <;> omega
 replace h2 : (1 ≤ (s.length : Int)) ∧ ((s.length : Int) ≤ 12) := ⟨(Int.not_lt.1 (of_decide_eq_false (borL h2))), (Int.not_lt.1 (of_decide_eq_false (borR h2)))⟩
 refine awp_skip ?_
 refine hK2 _ _ ?_; clear hK2
 refine sK ?_; intro K3 hK3
 refine rS [] [0, 3] (by decide) ?_
 intro K1 hK1
 refine ⟨tv, ?_⟩
 show K1 [(0, .str s), (3, iT 0)] m
 refine hK1 _ _ ?_; clear hK1 K1
 refine awp_block ?_
 refine awp_keep [0, 3] (by decide) ?_
 refine awp_loop_st (σ := Int) (fun i => [(0, .str s), (3, iT i)]) (fun _ => m) (fun i => 0 ≤ i ∧ i ≤ s.length ∧ nmF s true = nmF (s.drop i.toNat) (i == 0)) (fun i => s.length - i.toNat) (0) rfl rfl ?_ ?_
 ·
  show 0 ≤ ((0 : Int)) ∧ ((0 : Int)) ≤ s.length ∧ nmF s true = nmF (s.drop ((0 : Int)).toNat) (((0 : Int)) == 0)
  exact ⟨by omega, by omega, by simp⟩
 rintro i hI
 replace hI : 0 ≤ i ∧ i ≤ s.length ∧ nmF s true = nmF (s.drop i.toNat) (i == 0) := hI
 show AWP _ _ _ _ [(0, .str s), (3, iT i)] m
 refine sK ?_; intro K4 hK4
 refine rS [] [0, 3, 17] (by decide) ?_
 intro K1 hK1
 refine ⟨tv, tv, tv, tv, ?_⟩
 show K1 [(0, .str s), (3, iT i), (17, .bool (decide (i < (s.length : Int))))] m
 refine hK1 _ _ ?_; clear hK1 K1
 refine cD rfl rfl (fun h3 => ?_) (fun h3 => ?_)
 ·
  replace h3 : i < (s.length : Int) := (of_decide_eq_true h3)
  refine awp_skip ?_
  refine hK4 _ _ ?_; clear hK4
  refine sK ?_; intro K5 hK5
  refine awp_block ?_
  refine rS [] [0, 3, 4] (by decide) ?_
  intro K1 hK1
  suffices key : K1 [(0, .str s), (3, iT i), (4, .bool ((decide (97 ≤ ((gI s i).toNat : Int))) && (decide (((gI s i).toNat : Int) ≤ 122))))] m by
   refine ⟨tv, tv, ⟨(by omega), (by omega)⟩, tv, tv, ?_⟩
   show aopsR _ _ _ _ _ [(24, .bool (decide (97 ≤ ((gI s i).toNat : Int)))), (23, .bool (decide (97 ≤ ((gI s i).toNat : Int)))), (22, .int .u8 ((gI s i).toNat)), (21, iT i), (20, .str s), (0, .str s), (3, iT i), (17, .bool (decide (i < (s.length : Int))))] _
   revert key
   cases h4 : (decide (97 ≤ ((gI s i).toNat : Int)))
   ·
    replace h4 : ((gI s i).toNat : Int) < 97 := (Int.not_le.1 (of_decide_eq_false h4))
    intro key
    refine ar_off rfl (ar_off rfl (ar_off rfl (ar_off rfl ?_)))
    refine ⟨tv, ?_⟩
    exact key
   ·
    replace h4 : 97 ≤ ((gI s i).toNat : Int) := (of_decide_eq_true h4)
    intro key
    refine ⟨tv, tv, ⟨(by omega), (by omega)⟩, tv, ?_⟩
    refine ⟨tv, ?_⟩
    exact key
  refine hK1 _ _ ?_; clear hK1 K1
  refine rS [] [0, 3, 4, 5] (by decide) ?_
  intro K1 hK1
  suffices key : K1 [(0, .str s), (3, iT i), (4, .bool ((decide (97 ≤ ((gI s i).toNat : Int))) && (decide (((gI s i).toNat : Int) ≤ 122)))), (5, .bool ((decide (48 ≤ ((gI s i).toNat : Int))) && (decide (((gI s i).toNat : Int) ≤ 57))))] m by
   refine ⟨tv, tv, ⟨(by omega), (by omega)⟩, tv, tv, ?_⟩
   show aopsR _ _ _ _ _ [(34, .bool (decide (48 ≤ ((gI s i).toNat : Int)))), (33, .bool (decide (48 ≤ ((gI s i).toNat : Int)))), (32, .int .u8 ((gI s i).toNat)), (31, iT i), (30, .str s), (0, .str s), (3, iT i), (4, .bool ((decide (97 ≤ ((gI s i).toNat : Int))) && (decide (((gI s i).toNat : Int) ≤ 122))))] _
   revert key
   cases h5 : (decide (48 ≤ ((gI s i).toNat : Int)))
   ·
    replace h5 : ((gI s i).toNat : Int) < 48 := (Int.not_le.1 (of_decide_eq_false h5))
    intro key
    refine ar_off rfl (ar_off rfl (ar_off rfl (ar_off rfl ?_)))
    refine ⟨tv, ?_⟩
    exact key
   ·
    replace h5 : 48 ≤ ((gI s i).toNat : Int) := (of_decide_eq_true h5)
    intro key
    refine ⟨tv, tv, ⟨(by omega), (by omega)⟩, tv, ?_⟩
    refine ⟨tv, ?_⟩
    exact key
  refine hK1 _ _ ?_; clear hK1 K1
  refine rS [] [0, 3, 49] (by decide) ?_
  intro K1 hK1
  suffices key : K1 [(0, .str s), (3, iT i), (49, .bool ((!((decide (97 ≤ ((gI s i).toNat : Int))) && (decide (((gI s i).toNat : Int) ≤ 122)))) && ((!((decide (48 ≤ ((gI s i).toNat : Int))) && (decide (((gI s i).toNat : Int) ≤ 57)))) || (i == 0))))] m by
   refine ⟨tv, tv, tv, ?_⟩
   show aopsR _ _ _ _ _ [(42, .bool (!((decide (97 ≤ ((gI s i).toNat : Int))) && (decide (((gI s i).toNat : Int) ≤ 122))))), (41, .bool (!((decide (97 ≤ ((gI s i).toNat : Int))) && (decide (((gI s i).toNat : Int) ≤ 122))))), (40, .bool ((decide (97 ≤ ((gI s i).toNat : Int))) && (decide (((gI s i).toNat : Int) ≤ 122)))), (0, .str s), (3, iT i), (4, .bool ((decide (97 ≤ ((gI s i).toNat : Int))) && (decide (((gI s i).toNat : Int) ≤ 122)))), (5, .bool ((decide (48 ≤ ((gI s i).toNat : Int))) && (decide (((gI s i).toNat : Int) ≤ 57))))] _
   revert key
   cases h6 : ((decide (97 ≤ ((gI s i).toNat : Int))) && (decide (((gI s i).toNat : Int) ≤ 122)))
   ·
    replace h6 : (((gI s i).toNat : Int) < 97) ∨ (122 < ((gI s i).toNat : Int)) := ((bandF h6).imp (fun q => (Int.not_le.1 (of_decide_eq_false q))) (fun q => (Int.not_le.1 (of_decide_eq_false q))))
    intro key
    refine ⟨tv, tv, tv, ?_⟩
    show aopsR _ _ _ _ _ [(45, .bool (!((decide (48 ≤ ((gI s i).toNat : Int))) && (decide (((gI s i).toNat : Int) ≤ 57))))), (44, .bool (!((decide (48 ≤ ((gI s i).toNat : Int))) && (decide (((gI s i).toNat : Int) ≤ 57))))), (43, .bool ((decide (48 ≤ ((gI s i).toNat : Int))) && (decide (((gI s i).toNat : Int) ≤ 57)))), (42, .bool true), (41, .bool true), (40, .bool false), (0, .str s), (3, iT i), (4, .bool false), (5, .bool ((decide (48 ≤ ((gI s i).toNat : Int))) && (decide (((gI s i).toNat : Int) ≤ 57))))] _
    revert key
    cases h7 : ((decide (48 ≤ ((gI s i).toNat : Int))) && (decide (((gI s i).toNat : Int) ≤ 57)))
    ·
     replace h7 : (((gI s i).toNat : Int) < 48) ∨ (57 < ((gI s i).toNat : Int)) := ((bandF h7).imp (fun q => (Int.not_le.1 (of_decide_eq_false q))) (fun q => (Int.not_le.1 (of_decide_eq_false q))))
     intro key
     refine ar_off rfl (ar_off rfl ?_)
     exact key
    ·
     replace h7 : (48 ≤ ((gI s i).toNat : Int)) ∧ (((gI s i).toNat : Int) ≤ 57) := ⟨(of_decide_eq_true (bandL h7)), (of_decide_eq_true (bandR h7))⟩
     intro key
     refine ⟨tv, tv, ?_⟩
     exact key
   ·
    replace h6 : (97 ≤ ((gI s i).toNat : Int)) ∧ (((gI s i).toNat : Int) ≤ 122) := ⟨(of_decide_eq_true (bandL h6)), (of_decide_eq_true (bandR h6))⟩
    intro key
    refine ar_off rfl (ar_off rfl (ar_off rfl (ar_off rfl (ar_off rfl (ar_off rfl ?_)))))
    exact key
  refine hK1 _ _ ?_; clear hK1 K1
  refine cD rfl rfl (fun h8 => ?_) (fun h8 => ?_)
  ·
   replace h8 : ((((gI s i).toNat : Int) < 97) ∨ (122 < ((gI s i).toNat : Int))) ∧ (((((gI s i).toNat : Int) < 48) ∨ (57 < ((gI s i).toNat : Int))) ∨ (i = 0)) := ⟨((bandF (bnT (bandL h8))).imp (fun q => (Int.not_le.1 (of_decide_eq_false q))) (fun q => (Int.not_le.1 (of_decide_eq_false q)))), ((borT (bandR h8)).imp (fun q => ((bandF (bnT q)).imp (fun q => (Int.not_le.1 (of_decide_eq_false q))) (fun q => (Int.not_le.1 (of_decide_eq_false q))))) (fun q => (eq_of_beq q)))⟩
   refine rS [] [2] (by decide) ?_
   intro K1 hK1
   refine ⟨tv, ?_⟩
   show K1 [(2, .bool false)] m
   refine hK1 _ _ ?_; clear hK1 K1
   refine awp_ret ?_
   refine ⟨tv, m, fun _ _ h => h, ?_⟩
   show K (.bool false) m
  
   refine K_eq hK (cgA AV.bool ?_)
   have hb : (letC (gI s i) || (!(i == 0) && digC (gI s i))) = false := by
    rw [Bool.eq_false_iff]; intro hh; simp [letC, digC] at hh; omega
   rw [nameV, hI.2.2, nmF_step hI.1 h3, hb]; rfl
  replace h8 : ((97 ≤ ((gI s i).toNat : Int)) ∧ (((gI s i).toNat : Int) ≤ 122)) ∨ (((48 ≤ ((gI s i).toNat : Int)) ∧ (((gI s i).toNat : Int) ≤ 57)) ∧ (i ≠ 0)) := ((bandF h8).imp (fun q => ⟨(of_decide_eq_true (bandL (bnF q))), (of_decide_eq_true (bandR (bnF q)))⟩) (fun q => ⟨⟨(of_decide_eq_true (bandL (bnF (borL q)))), (of_decide_eq_true (bandR (bnF (borL q))))⟩, (ne_of_beq_false (borR q))⟩))
  refine awp_skip ?_
  refine hK5 _ _ ?_; clear hK5
  refine awp_reg2 [] [0, 3] (by decide) ?_
  intro K1 hK1
  refine ⟨tv, ?_⟩
  refine ar_add rfl (a := i) (b := 1) rfl rfl (by omega) (by omega) ?_
  refine ⟨tv, ?_⟩
  show K1 [(0, .str s), (3, iT (i + 1))] m
  refine hK1 _ _ ?_; clear hK1 K1
  refine ⟨(i + 1), rfl, rfl, ?_, ?_⟩
  ·
   show 0 ≤ ((i + 1 : Int)) ∧ ((i + 1 : Int)) ≤ s.length ∧ nmF s true = nmF (s.drop ((i + 1 : Int)).toNat) (((i + 1 : Int)) == 0)
   have hb : (letC (gI s i) || (!(i == 0) && digC (gI s i))) = true := by simp [letC, digC]; omega
   exact ⟨by omega, by omega, by rw [hI.2.2, nmF_step hI.1 h3, hb]; rfl⟩
  ·
   show s.length - ((i + 1 : Int)).toNat < s.length - i.toNat
   omega
 replace h3 : (s.length : Int) ≤ i := (Int.not_lt.1 (of_decide_eq_false h3))
 refine awp_exit ?_
 refine hK3 _ _ ?_; clear hK3
 refine rS [] [2] (by decide) ?_
 intro K1 hK1
 refine ⟨tv, ?_⟩
 show K1 [(2, .bool true)] m
 refine hK1 _ _ ?_; clear hK1 K1
 refine awp_ret ?_
 refine ⟨tv, m, fun _ _ h => h, ?_⟩
 show K (.bool true) m
 refine K_eq hK (cgA AV.bool ?_)
 have ha : nmF s true = true := by rw [hI.2.2, List.drop_eq_nil_of_le (by omega)]; rfl
 rw [nameV, ha]; cases s <;> simp at * <;> omega
theorem len0 (a b : Nat) : ((a : Int) + (b : Int) == 0) = (((a : Int) == 0) && ((b : Int) == 0)) := by
  rw [Bool.eq_iff_iff]; simp; omega
theorem recOk_nil (p : Option Str) : recOk p [] = true := by cases p <;> rfl
theorem shp_1 {k : Nat} {v : Val} (h : v.l.all (shpF k) = false) : shpF (k + 1) v = false := by rw [shpF, h]; simp
theorem shp_2 {k : Nat} {v : Val} (h : v.f.all (fun p => shpF k p.2) = false) : shpF (k + 1) v = false := by rw [shpF, h]; simp
theorem shpOk_rec {v : Val} (h : recOk none v.f = false) : shpOk v = false := by
  have hf : v.f ≠ [] := by intro c; rw [c, recOk_nil] at h; cases h
  have hl : 0 < v.f.length := List.length_pos_iff.2 hf
  unfold shpOk
  repeat' split
  all_goals first | rfl | (rw [h]; simp; done) | (rw [Bool.eq_false_iff]; intro c; simp at c; first | omega | (simp_all; done))
theorem shp_3 {k : Nat} {v : Val} (h : recOk none v.f = false) : shpF (k + 1) v = false := by rw [shpF, shpOk_rec h]; rfl
theorem shp_4 {k : Nat} {v : Val} (h1 : v.l.all (shpF k) = true) (h2 : v.f.all (fun p => shpF k p.2) = true) : shpF (k + 1) v = shpOk v := by rw [shpF, h1, h2]; simp
set_option maxHeartbeats 8000000 in
theorem u_shaped1 (k : Nat) (v : Val) (ih : ∀ w : Val, depV w < depV v → ∀ (m : AMem) (K : AV → AMem → Prop), K (.bool (shpF k w)) m → ACalls Try.prog 102 [valTop w] m K) (m : AMem)  (K : AV → AMem → Prop) (hK : K (.bool (shpF (k + 1) v)) m) : ACalls Try.prog 102 [valTop v] m K := by
 refine acalls_enter Try.func102 rfl (by decide) (nB rfl) ?_
 refine awp_bd 0 (x := valTop v) rfl (fun hbd0 => ?_)
 have hbd0_2 : v.s.length ≤ 140737488355328 := (hbd0 2 (nB rfl))
 have hbd0_3 : v.l.length ≤ 140737488355328 := bd_map (hbd0 3 (nB rfl))
 have hbd0_4 : v.f.length ≤ 140737488355328 := bd_map (hbd0 4 (nB rfl))
 show AWP _ _ _ _ [(0, valTop v)] m
 refine rS [] [1] (by decide) ?_
 intro K1 hK1
 refine ar_box rfl (m := m) (L := []) (v := valTop v) (by rfl) rfl ?_
 intro b1 hb1
 have hFb1 : m b1 = none := wth_none (m := m) (L := []) hb1
 have hNb1 : ([b1] : List Nat).Nodup := wth_nodup (m := m) (L := []) hb1 List.nodup_nil
 refine ⟨tv, ?_⟩
 show K1 [(1, pT b1)] (mW m [(b1, .cells [iT v.kind, iT v.n, .str v.s, sF (v.l.map valIn), sF (v.f.map fldIn)])])
 refine hK1 _ _ ?_; clear hK1 K1
 refine sK ?_; intro K2 hK2
 refine rS [] [1, 3] (by decide) ?_
 intro K1 hK1
 refine ⟨tv, ?_⟩
 show K1 [(1, pT b1), (3, iT 0)] _
 refine hK1 _ _ ?_; clear hK1 K1
 refine awp_block ?_
 refine awp_keep [1, 3] (by decide) ?_
 refine awp_loop_st (σ := Int) (fun i => [(1, pT b1), (3, iT i)]) (fun _ => (mW m [(b1, .cells [iT v.kind, iT v.n, .str v.s, sF (v.l.map valIn), sF (v.f.map fldIn)])])) (fun i => 0 ≤ i ∧ i ≤ v.l.length ∧ v.l.all (shpF k) = (v.l.drop i.toNat).all (shpF k)) (fun i => v.l.length - i.toNat) (0) rfl rfl ?_ ?_
 ·
  show 0 ≤ ((0 : Int)) ∧ ((0 : Int)) ≤ v.l.length ∧ v.l.all (shpF k) = (v.l.drop ((0 : Int)).toNat).all (shpF k)
  exact ⟨by omega, by omega, rfl⟩
 rintro i hI
 replace hI : 0 ≤ i ∧ i ≤ v.l.length ∧ v.l.all (shpF k) = (v.l.drop i.toNat).all (shpF k) := hI
 show AWP _ _ _ _ [(1, pT b1), (3, iT i)] (mW m [(b1, .cells [iT v.kind, iT v.n, .str v.s, sF (v.l.map valIn), sF (v.f.map fldIn)])])
 refine sK ?_; intro K3 hK3
 refine rS [] [1, 3, 16] (by decide) ?_
 intro K1 hK1
 refine ⟨tv, ⟨rfl, by decide⟩, ?_⟩
 refine aL rfl (v := sF (v.l.map valIn)) rfl (wG 0 hNb1 rfl) rfl (aO rfl rfl (nB rfl)) rfl ?_
 refine ar_len rfl valIn v.l rfl rfl rfl ?_
 refine ⟨tv, ?_⟩
 show K1 [(1, pT b1), (3, iT i), (16, .bool (decide (i < (v.l.length : Int))))] _
 refine hK1 _ _ ?_; clear hK1 K1
 refine cD rfl rfl (fun h1 => ?_) (fun h1 => ?_)
 ·
  replace h1 : i < (v.l.length : Int) := (of_decide_eq_true h1)
  refine awp_skip ?_
  refine hK3 _ _ ?_; clear hK3
  refine sK ?_; intro K4 hK4
  refine awp_block ?_
  refine rS [] [1, 3, 4] (by decide) ?_
  intro K1 hK1
  refine ⟨⟨rfl, by decide⟩, ?_⟩
  refine aL rfl (v := sF (v.l.map valIn)) rfl (wG 0 hNb1 rfl) rfl (aO rfl rfl (nB rfl)) rfl ?_
  refine ⟨tv, ?_⟩
  refine ar_index rfl valTop v.l i rfl rfl (valMap v.l) rfl rfl (by decide) (fun _ => rfl) (by omega) (by omega) ?_
  refine ⟨(apartOk_agg rfl rfl (nB rfl)), ?_⟩
  refine ih (gI v.l i) (by have := depV_eq v; first | (have := depL_mem (gI_mem (l := v.l) (i := i) hI.1 (by assumption)); omega) | (have := depF_mem (gI_mem (l := v.f) (i := i2) hI2.1 (by assumption)); omega)) _ _ ?_
  refine ⟨tv, ?_⟩
  show K1 [(1, pT b1), (3, iT i), (4, .bool (shpF k (gI v.l i)))] (mW m [(b1, .cells [iT v.kind, iT v.n, .str v.s, sF (v.l.map valIn), sF (v.f.map fldIn)])])
  refine hK1 _ _ ?_; clear hK1 K1
  refine rS [] [1, 3, 26] (by decide) ?_
  intro K1 hK1
  refine ⟨tv, tv, ?_⟩
  show K1 [(1, pT b1), (3, iT i), (26, .bool (!(shpF k (gI v.l i))))] _
  refine hK1 _ _ ?_; clear hK1 K1
  refine cD rfl rfl (fun h2 => ?_) (fun h2 => ?_)
  ·
   replace h2 : shpF k (gI v.l i) = false := (bnT h2)
   refine rS [] [2] (by decide) ?_
   intro K1 hK1
   refine ⟨tv, ?_⟩
   show K1 [(2, .bool false)] (mW m [(b1, .cells [iT v.kind, iT v.n, .str v.s, sF (v.l.map valIn), sF (v.f.map fldIn)])])
   refine hK1 _ _ ?_; clear hK1 K1
   refine awp_ret ?_
   refine ⟨tv, m, (wth_sub2 (m := m) [(b1, .cells [iT v.kind, iT v.n, .str v.s, sF (v.l.map valIn), sF (v.f.map fldIn)])] [] hNb1 (by simp only [List.map_cons, List.map_nil, List.forall_mem_cons]; exact ⟨hFb1, nfA⟩)), ?_⟩
   show K (.bool false) m
  
   rw [shp_1 (by rw [hI.2.2, all_drop hI.1 h1, h2, Bool.false_and])] at hK; exact hK
  replace h2 : shpF k (gI v.l i) = true := (bnF h2)
  refine awp_skip ?_
  refine hK4 _ _ ?_; clear hK4
  refine awp_reg2 [] [1, 3] (by decide) ?_
  intro K1 hK1
  refine ⟨tv, ?_⟩
  refine ar_add rfl (a := i) (b := 1) rfl rfl (by omega) (by omega) ?_
  refine ⟨tv, ?_⟩
  show K1 [(1, pT b1), (3, iT (i + 1))] (mW m [(b1, .cells [iT v.kind, iT v.n, .str v.s, sF (v.l.map valIn), sF (v.f.map fldIn)])])
  refine hK1 _ _ ?_; clear hK1 K1
  refine ⟨(i + 1), rfl, rfl, ?_, ?_⟩
  ·
   show 0 ≤ ((i + 1 : Int)) ∧ ((i + 1 : Int)) ≤ v.l.length ∧ v.l.all (shpF k) = (v.l.drop ((i + 1 : Int)).toNat).all (shpF k)
   exact ⟨by omega, by omega, by rw [hI.2.2, all_drop hI.1 h1, h2, Bool.true_and]⟩
  ·
   show v.l.length - ((i + 1 : Int)).toNat < v.l.length - i.toNat
   omega
 replace h1 : (v.l.length : Int) ≤ i := (Int.not_lt.1 (of_decide_eq_false h1))
 have hL : v.l.all (shpF k) = true := by rw [hI.2.2, List.drop_eq_nil_of_le (by omega)]; rfl
 refine awp_exit ?_
 refine hK2 _ _ ?_; clear hK2
 refine sK ?_; intro K5 hK5
 refine rS [] [1, 5] (by decide) ?_
 intro K1 hK1
 refine ⟨tv, ?_⟩
 show K1 [(1, pT b1), (5, iT 0)] (mW m [(b1, .cells [iT v.kind, iT v.n, .str v.s, sF (v.l.map valIn), sF (v.f.map fldIn)])])
 refine hK1 _ _ ?_; clear hK1 K1
 refine awp_block ?_
 refine awp_keep [1, 5] (by decide) ?_
 refine awp_loop_st (σ := Int) (fun i2 => [(1, pT b1), (5, iT i2)]) (fun _ => (mW m [(b1, .cells [iT v.kind, iT v.n, .str v.s, sF (v.l.map valIn), sF (v.f.map fldIn)])])) (fun i2 => 0 ≤ i2 ∧ i2 ≤ v.f.length ∧ v.f.all (fun p => shpF k p.2) = (v.f.drop i2.toNat).all (fun p => shpF k p.2) ∧ recOk none v.f = recOk (prevN v.f i2) (v.f.drop i2.toNat)) (fun i2 => v.f.length - i2.toNat) (0) rfl rfl ?_ ?_
 ·
  show 0 ≤ ((0 : Int)) ∧ ((0 : Int)) ≤ v.f.length ∧ v.f.all (fun p => shpF k p.2) = (v.f.drop ((0 : Int)).toNat).all (fun p => shpF k p.2) ∧ recOk none v.f = recOk (prevN v.f ((0 : Int))) (v.f.drop ((0 : Int)).toNat)
  exact ⟨by omega, by omega, rfl, rfl⟩
 rintro i2 hI2
 replace hI2 : 0 ≤ i2 ∧ i2 ≤ v.f.length ∧ v.f.all (fun p => shpF k p.2) = (v.f.drop i2.toNat).all (fun p => shpF k p.2) ∧ recOk none v.f = recOk (prevN v.f i2) (v.f.drop i2.toNat) := hI2
 show AWP _ _ _ _ [(1, pT b1), (5, iT i2)] (mW m [(b1, .cells [iT v.kind, iT v.n, .str v.s, sF (v.l.map valIn), sF (v.f.map fldIn)])])
 refine sK ?_; intro K6 hK6
 refine rS [] [1, 5, 31] (by decide) ?_
 intro K1 hK1
 refine ⟨tv, ⟨rfl, by decide⟩, ?_⟩
 refine aL rfl (v := sF (v.f.map fldIn)) rfl (wG 0 hNb1 rfl) rfl (aO rfl rfl (nB rfl)) rfl ?_
 refine ar_len rfl fldIn v.f rfl rfl rfl ?_
 refine ⟨tv, ?_⟩
 show K1 [(1, pT b1), (5, iT i2), (31, .bool (decide (i2 < (v.f.length : Int))))] _
 refine hK1 _ _ ?_; clear hK1 K1
 refine cD rfl rfl (fun h3 => ?_) (fun h3 => ?_)
 ·
  replace h3 : i2 < (v.f.length : Int) := (of_decide_eq_true h3)
  refine awp_skip ?_
  refine hK6 _ _ ?_; clear hK6
  refine sK ?_; intro K7 hK7
  refine awp_block ?_
  refine rS [] [1, 5, 6] (by decide) ?_
  intro K1 hK1
  refine ⟨⟨rfl, by decide⟩, ?_⟩
  refine aL rfl (v := sF (v.f.map fldIn)) rfl (wG 0 hNb1 rfl) rfl (aO rfl rfl (nB rfl)) rfl ?_
  refine ⟨tv, ?_⟩
  refine ar_index rfl fldTop v.f i2 rfl rfl (fldMap v.f) rfl rfl (by decide) (fun _ => rfl) (by omega) (by omega) ?_
  refine ⟨⟨rfl, by decide, (nB rfl)⟩, (apartOk_agg rfl rfl (nB rfl)), ?_⟩
  refine ih ((gI v.f i2).2) (by have := depV_eq v; first | (have := depL_mem (gI_mem (l := v.l) (i := i) hI.1 (by assumption)); omega) | (have := depF_mem (gI_mem (l := v.f) (i := i2) hI2.1 (by assumption)); omega)) _ _ ?_
  refine ⟨tv, ?_⟩
  show K1 [(1, pT b1), (5, iT i2), (6, .bool (shpF k ((gI v.f i2).2)))] (mW m [(b1, .cells [iT v.kind, iT v.n, .str v.s, sF (v.l.map valIn), sF (v.f.map fldIn)])])
  refine hK1 _ _ ?_; clear hK1 K1
  refine rS [] [1, 5, 6, 7] (by decide) ?_
  intro K1 hK1
  refine ⟨⟨rfl, by decide⟩, ?_⟩
  refine aL rfl (v := sF (v.f.map fldIn)) rfl (wG 0 hNb1 rfl) rfl (aO rfl rfl (nB rfl)) rfl ?_
  refine ⟨tv, ?_⟩
  refine ar_index rfl fldTop v.f i2 rfl rfl (fldMap v.f) rfl rfl (by decide) (fun _ => rfl) (by omega) (by omega) ?_
  refine ⟨⟨rfl, by decide, (nB rfl)⟩, (aO rfl rfl (nB rfl)), ?_⟩
  refine u_NameMay ((gI v.f i2).1) _ _ ?_
  refine ⟨tv, ?_⟩
  show K1 [(1, pT b1), (5, iT i2), (6, .bool (shpF k ((gI v.f i2).2))), (7, .bool (nameV ((gI v.f i2).1)))] _
  refine hK1 _ _ ?_; clear hK1 K1
  refine awp_draw_seq Try.mixed [] [1, 5, 73] (by decide) (by decide) ?_
  intro K1 hK1
  suffices key : K1 [(1, pT b1), (5, iT i2), (73, .bool (((!(shpF k ((gI v.f i2).2))) || (!(nameV ((gI v.f i2).1)))) || ((decide (0 < i2)) && (!(Op.bytesLess ((gI v.f (i2 - 1)).1) ((gI v.f i2).1))))))] (mW m [(b1, .cells [iT v.kind, iT v.n, .str v.s, sF (v.l.map valIn), sF (v.f.map fldIn)])]) by
   refine ⟨tv, tv, tv, ?_⟩
   show pseq _ _ _ _ _ [(50, .bool (!(shpF k ((gI v.f i2).2)))), (49, .bool (!(shpF k ((gI v.f i2).2)))), (48, .bool (shpF k ((gI v.f i2).2))), (1, pT b1), (5, iT i2), (6, .bool (shpF k ((gI v.f i2).2))), (7, .bool (nameV ((gI v.f i2).1)))] _
   revert key
   cases h4 : (shpF k ((gI v.f i2).2))
   ·
    replace h4 : shpF k ((gI v.f i2).2) = false := h4
    intro key
    refine pq_off rfl rfl ?_
    refine pq_off rfl rfl ?_
    refine ⟨tv, ?_⟩
    refine ⟨tv, ?_⟩
    refine pq_off rfl rfl ?_
    refine pq_off rfl rfl ?_
    refine pq_off rfl rfl ?_
    refine pq_off rfl rfl ?_
    refine pq_off rfl rfl ?_
    refine pq_off rfl rfl ?_
    refine pq_off rfl rfl ?_
    refine pq_off rfl rfl ?_
    refine pq_off rfl rfl ?_
    refine pq_off rfl rfl ?_
    refine pq_off rfl rfl ?_
    refine pq_off rfl rfl ?_
    refine pq_off rfl rfl ?_
    refine pq_off rfl rfl ?_
    refine pq_off rfl rfl ?_
    refine pq_off rfl rfl ?_
    refine pq_off rfl rfl ?_
    refine pq_off rfl rfl ?_
    refine ⟨tv, ?_⟩
    exact key
   ·
    replace h4 : shpF k ((gI v.f i2).2) = true := h4
    intro key
    refine ⟨tv, tv, tv, ?_⟩
    refine ⟨tv, ?_⟩
    show pseq _ _ _ _ _ [(54, .bool (!(nameV ((gI v.f i2).1)))), (53, .bool (!(nameV ((gI v.f i2).1)))), (52, .bool (!(nameV ((gI v.f i2).1)))), (51, .bool (nameV ((gI v.f i2).1))), (50, .bool false), (49, .bool false), (48, .bool true), (1, pT b1), (5, iT i2), (6, .bool true), (7, .bool (nameV ((gI v.f i2).1)))] _
    revert key
    cases h5 : (nameV ((gI v.f i2).1))
    ·
     replace h5 : nameV ((gI v.f i2).1) = false := h5
     intro key
     refine pq_off rfl rfl ?_
     refine pq_off rfl rfl ?_
     refine pq_off rfl rfl ?_
     refine pq_off rfl rfl ?_
     refine pq_off rfl rfl ?_
     refine pq_off rfl rfl ?_
     refine pq_off rfl rfl ?_
     refine pq_off rfl rfl ?_
     refine pq_off rfl rfl ?_
     refine pq_off rfl rfl ?_
     refine pq_off rfl rfl ?_
     refine pq_off rfl rfl ?_
     refine pq_off rfl rfl ?_
     refine pq_off rfl rfl ?_
     refine pq_off rfl rfl ?_
     refine pq_off rfl rfl ?_
     refine pq_off rfl rfl ?_
     refine pq_off rfl rfl ?_
     refine ⟨tv, ?_⟩
     exact key
    ·
     replace h5 : nameV ((gI v.f i2).1) = true := h5
     intro key
     refine ⟨tv, tv, tv, ?_⟩
     show pseq _ _ _ _ _ [(57, .bool (decide (0 < i2))), (56, .bool (decide (0 < i2))), (55, iT i2), (54, .bool false), (53, .bool false), (52, .bool false), (51, .bool true), (50, .bool false), (49, .bool false), (48, .bool true), (1, pT b1), (5, iT i2), (6, .bool true), (7, .bool true)] _
     revert key
     cases h6 : (decide (0 < i2))
     ·
      replace h6 : i2 ≤ 0 := (Int.not_lt.1 (of_decide_eq_false h6))
      intro key
      refine pq_off rfl rfl ?_
      refine pq_off rfl rfl ?_
      refine pq_off rfl rfl ?_
      refine pq_off rfl rfl ?_
      refine pq_off rfl rfl ?_
      refine pq_off rfl rfl ?_
      refine pq_off rfl rfl ?_
      refine pq_off rfl rfl ?_
      refine pq_off rfl rfl ?_
      refine pq_off rfl rfl ?_
      refine pq_off rfl rfl ?_
      refine pq_off rfl rfl ?_
      refine pq_off rfl rfl ?_
      refine pq_off rfl rfl ?_
      refine ⟨tv, ?_⟩
      refine ⟨tv, ?_⟩
      exact key
     ·
      replace h6 : 0 < i2 := (of_decide_eq_true h6)
      intro key
      refine ⟨⟨rfl, by decide⟩, ?_⟩
      refine pq_loadp rfl (v := sF (v.f.map fldIn)) rfl (wG 0 hNb1 rfl) (aO rfl rfl (nB rfl)) rfl ?_
      refine ⟨tv, ?_⟩
      refine pq_sub rfl (a := i2) (b := 1) rfl rfl (by omega) (by omega) ?_
      refine pq_index rfl fldTop v.f (i2 - 1) rfl rfl (fldMap v.f) rfl rfl (by decide) (fun _ => rfl) (by omega) (by omega) ?_
      refine ⟨⟨rfl, by decide, (nB rfl)⟩, (aO rfl rfl (nB rfl)), ⟨rfl, by decide⟩, ?_⟩
      refine pq_loadp rfl (v := sF (v.f.map fldIn)) rfl (wG 0 hNb1 rfl) (aO rfl rfl (nB rfl)) rfl ?_
      refine ⟨tv, ?_⟩
      refine pq_index rfl fldTop v.f i2 rfl rfl (fldMap v.f) rfl rfl (by decide) (fun _ => rfl) (by omega) (by omega) ?_
      refine ⟨⟨rfl, by decide, (nB rfl)⟩, (aO rfl rfl (nB rfl)), tv, tv, ?_⟩
      refine ⟨tv, ?_⟩
      exact key
  refine hK1 _ _ ?_; clear hK1 K1
  refine cD rfl rfl (fun h7 => ?_) (fun h7 => ?_)
  ·
   replace h7 : ((shpF k ((gI v.f i2).2) = false) ∨ (nameV ((gI v.f i2).1) = false)) ∨ ((0 < i2) ∧ (Op.bytesLess ((gI v.f (i2 - 1)).1) ((gI v.f i2).1) = false)) := ((borT h7).imp (fun q => ((borT q).imp (fun q => (bnT q)) (fun q => (bnT q)))) (fun q => ⟨(of_decide_eq_true (bandL q)), (bnT (bandR q))⟩))
   refine rS [] [2] (by decide) ?_
   intro K1 hK1
   refine ⟨tv, ?_⟩
   show K1 [(2, .bool false)] (mW m [(b1, .cells [iT v.kind, iT v.n, .str v.s, sF (v.l.map valIn), sF (v.f.map fldIn)])])
   refine hK1 _ _ ?_; clear hK1 K1
   refine awp_ret ?_
   refine ⟨tv, m, (wth_sub2 (m := m) [(b1, .cells [iT v.kind, iT v.n, .str v.s, sF (v.l.map valIn), sF (v.f.map fldIn)])] [] hNb1 (by simp only [List.map_cons, List.map_nil, List.forall_mem_cons]; exact ⟨hFb1, nfA⟩)), ?_⟩
   show K (.bool false) m
  
   have hz : shpF (k + 1) v = false := by
    rcases h7 with (q | q) | q
    ·
     exact shp_2 (by rw [hI2.2.2.1, all_drop (g := fun p : Str × Val => shpF k p.2) hI2.1 h3, q, Bool.false_and])
    ·
     exact shp_3 (by rw [hI2.2.2.2, recOk_step hI2.1 h3, q]; rfl)
    ·
     exact shp_3 (by rw [hI2.2.2.2, recOk_step hI2.1 h3, q.2, show (i2 == 0) = false from by simp; omega]; simp)
   rw [hz] at hK; exact hK
  replace h7 : ((shpF k ((gI v.f i2).2) = true) ∧ (nameV ((gI v.f i2).1) = true)) ∧ ((i2 ≤ 0) ∨ (Op.bytesLess ((gI v.f (i2 - 1)).1) ((gI v.f i2).1) = true)) := ⟨⟨(bnF (borL (borL h7))), (bnF (borR (borL h7)))⟩, ((bandF (borR h7)).imp (fun q => (Int.not_lt.1 (of_decide_eq_false q))) (fun q => (bnF q)))⟩
  refine awp_skip ?_
  refine hK7 _ _ ?_; clear hK7
  refine awp_reg2 [] [1, 5] (by decide) ?_
  intro K1 hK1
  refine ⟨tv, ?_⟩
  refine ar_add rfl (a := i2) (b := 1) rfl rfl (by omega) (by omega) ?_
  refine ⟨tv, ?_⟩
  show K1 [(1, pT b1), (5, iT (i2 + 1))] (mW m [(b1, .cells [iT v.kind, iT v.n, .str v.s, sF (v.l.map valIn), sF (v.f.map fldIn)])])
  refine hK1 _ _ ?_; clear hK1 K1
  refine ⟨(i2 + 1), rfl, rfl, ?_, ?_⟩
  ·
   show 0 ≤ ((i2 + 1 : Int)) ∧ ((i2 + 1 : Int)) ≤ v.f.length ∧ v.f.all (fun p => shpF k p.2) = (v.f.drop ((i2 + 1 : Int)).toNat).all (fun p => shpF k p.2) ∧ recOk none v.f = recOk (prevN v.f ((i2 + 1 : Int))) (v.f.drop ((i2 + 1 : Int)).toNat)
   have hb : ((i2 == 0) || Op.bytesLess (gI v.f (i2 - 1)).1 (gI v.f i2).1) = true := by
    rcases h7.2 with q | q
    ·
     have : i2 = 0 := by omega
     simp [this]
    ·
     simp [q]
   exact ⟨by omega, by omega, by rw [hI2.2.2.1, all_drop (g := fun p : Str × Val => shpF k p.2) hI2.1 h3, h7.1.1, Bool.true_and], by rw [hI2.2.2.2, recOk_step hI2.1 h3, h7.1.2, hb]; rfl⟩
  ·
   show v.f.length - ((i2 + 1 : Int)).toNat < v.f.length - i2.toNat
   omega
 replace h3 : (v.f.length : Int) ≤ i2 := (Int.not_lt.1 (of_decide_eq_false h3))
 have hF : v.f.all (fun p => shpF k p.2) = true := by rw [hI2.2.2.1, List.drop_eq_nil_of_le (by omega)]; rfl
 have hR : recOk none v.f = true := by rw [hI2.2.2.2, List.drop_eq_nil_of_le (by omega), recOk_nil]
 refine awp_exit ?_
 refine hK5 _ _ ?_; clear hK5
 refine rS [] [1, 8] (by decide) ?_
 intro K1 hK1
 refine ⟨⟨rfl, by decide⟩, ?_⟩
 refine aL rfl (v := iT v.n) rfl (wG 0 hNb1 rfl) rfl (aO rfl rfl (nB rfl)) rfl ?_
 refine ⟨tv, tv, ?_⟩
 show K1 [(1, pT b1), (8, .bool (v.n == 0))] (mW m [(b1, .cells [iT v.kind, iT v.n, .str v.s, sF (v.l.map valIn), sF (v.f.map fldIn)])])
 refine hK1 _ _ ?_; clear hK1 K1
 refine rS [] [1, 8, 9] (by decide) ?_
 intro K1 hK1
 refine ⟨⟨rfl, by decide⟩, ?_⟩
 refine aL rfl (v := .str v.s) rfl (wG 0 hNb1 rfl) rfl (aO rfl rfl (nB rfl)) rfl ?_
 refine ⟨tv, tv, ?_⟩
 show K1 [(1, pT b1), (8, .bool (v.n == 0)), (9, .bool (v.s == ([])))] _
 refine hK1 _ _ ?_; clear hK1 K1
 refine rS [] [1, 8, 9, 10] (by decide) ?_
 intro K1 hK1
 refine ⟨⟨rfl, by decide⟩, ?_⟩
 refine aL rfl (v := sF (v.l.map valIn)) rfl (wG 0 hNb1 rfl) rfl (aO rfl rfl (nB rfl)) rfl ?_
 refine ar_len rfl valIn v.l rfl rfl rfl ?_
 refine ⟨tv, tv, ?_⟩
 show K1 [(1, pT b1), (8, .bool (v.n == 0)), (9, .bool (v.s == ([]))), (10, .bool ((v.l.length : Int) == 0))] _
 refine hK1 _ _ ?_; clear hK1 K1
 refine rS [] [1, 8, 9, 10, 11] (by decide) ?_
 intro K1 hK1
 refine ⟨⟨rfl, by decide⟩, ?_⟩
 refine aL rfl (v := sF (v.f.map fldIn)) rfl (wG 0 hNb1 rfl) rfl (aO rfl rfl (nB rfl)) rfl ?_
 refine ar_len rfl fldIn v.f rfl rfl rfl ?_
 refine ⟨tv, tv, ?_⟩
 show K1 [(1, pT b1), (8, .bool (v.n == 0)), (9, .bool (v.s == ([]))), (10, .bool ((v.l.length : Int) == 0)), (11, .bool ((v.f.length : Int) == 0))] _
 refine hK1 _ _ ?_; clear hK1 K1
 refine sK ?_; intro K8 hK8
 refine rS [] [1, 8, 9, 10, 11, 89] (by decide) ?_
 intro K1 hK1
 refine ⟨⟨rfl, by decide⟩, ?_⟩
 refine aL rfl (v := iT v.kind) rfl (wG 0 hNb1 rfl) rfl (aO rfl rfl (nB rfl)) rfl ?_
 show K1 [(1, pT b1), (8, .bool (v.n == 0)), (9, .bool (v.s == ([]))), (10, .bool ((v.l.length : Int) == 0)), (11, .bool ((v.f.length : Int) == 0)), (89, iT v.kind)] _
 refine hK1 _ _ ?_; clear hK1 K1
 refine awp_block ?_
 refine rS [] [1, 8, 9, 10, 11, 89, 90] (by decide) ?_
 intro K1 hK1
 refine ⟨tv, tv, ?_⟩
 show K1 [(1, pT b1), (8, .bool (v.n == 0)), (9, .bool (v.s == ([]))), (10, .bool ((v.l.length : Int) == 0)), (11, .bool ((v.f.length : Int) == 0)), (89, iT v.kind), (90, .bool (v.kind == 0))] _
 refine hK1 _ _ ?_; clear hK1 K1
 refine cD rfl rfl (fun h8 => ?_) (fun h8 => ?_)
 ·
  replace h8 : v.kind = 0 := (eq_of_beq h8)
  refine rS [] [2] (by decide) ?_
  intro K1 hK1
  suffices key : K1 [(2, .bool ((((v.n == 0) && (v.s == ([]))) && ((v.l.length : Int) == 0)) && ((v.f.length : Int) == 0)))] (mW m [(b1, .cells [iT v.kind, iT v.n, .str v.s, sF (v.l.map valIn), sF (v.f.map fldIn)])]) by
   refine ⟨tv, tv, ?_⟩
   show aopsR _ _ _ _ _ [(93, .bool (v.n == 0)), (92, .bool (v.n == 0)), (1, pT b1), (8, .bool (v.n == 0)), (9, .bool (v.s == ([]))), (10, .bool ((v.l.length : Int) == 0)), (11, .bool ((v.f.length : Int) == 0)), (89, iT v.kind), (90, .bool (v.kind == 0))] _
   revert key
   cases h9 : (v.n == 0)
   ·
    replace h9 : v.n ≠ 0 := (ne_of_beq_false h9)
    intro key
    refine ar_off rfl ?_
    refine ⟨tv, ?_⟩
    refine ar_off rfl ?_
    refine ⟨tv, ?_⟩
    refine ar_off rfl ?_
    refine ⟨tv, ?_⟩
    exact key
   ·
    replace h9 : v.n = 0 := (eq_of_beq h9)
    intro key
    refine ⟨tv, ?_⟩
    refine ⟨tv, ?_⟩
    show aopsR _ _ _ _ _ [(96, .bool (v.s == ([]))), (95, .bool (v.s == ([]))), (94, .bool (v.s == ([]))), (93, .bool true), (92, .bool true), (1, pT b1), (8, .bool true), (9, .bool (v.s == ([]))), (10, .bool ((v.l.length : Int) == 0)), (11, .bool ((v.f.length : Int) == 0)), (89, iT v.kind), (90, .bool (v.kind == 0))] _
    revert key
    cases h10 : (v.s == ([]))
    ·
     replace h10 : v.s ≠ [] := (ne_of_beq_false h10)
     intro key
     refine ar_off rfl ?_
     refine ⟨tv, ?_⟩
     refine ar_off rfl ?_
     refine ⟨tv, ?_⟩
     exact key
    ·
     replace h10 : v.s = [] := (eq_of_beq h10)
     intro key
     refine ⟨tv, ?_⟩
     refine ⟨tv, ?_⟩
     show aopsR _ _ _ _ _ [(99, .bool ((v.l.length : Int) == 0)), (98, .bool ((v.l.length : Int) == 0)), (97, .bool ((v.l.length : Int) == 0)), (96, .bool true), (95, .bool true), (94, .bool true), (93, .bool true), (92, .bool true), (1, pT b1), (8, .bool true), (9, .bool true), (10, .bool ((v.l.length : Int) == 0)), (11, .bool ((v.f.length : Int) == 0)), (89, iT v.kind), (90, .bool (v.kind == 0))] _
     revert key
     cases h11 : ((v.l.length : Int) == 0)
     ·
      replace h11 : (v.l.length : Int) ≠ 0 := (ne_of_beq_false h11)
      intro key
      refine ar_off rfl ?_
      refine ⟨tv, ?_⟩
      exact key
     ·
      replace h11 : (v.l.length : Int) = 0 := (eq_of_beq h11)
      intro key
      refine ⟨tv, ?_⟩
      refine ⟨tv, ?_⟩
      exact key
  refine hK1 _ _ ?_; clear hK1 K1
  refine awp_ret ?_
  refine ⟨tv, m, (wth_sub2 (m := m) [(b1, .cells [iT v.kind, iT v.n, .str v.s, sF (v.l.map valIn), sF (v.f.map fldIn)])] [] hNb1 (by simp only [List.map_cons, List.map_nil, List.forall_mem_cons]; exact ⟨hFb1, nfA⟩)), ?_⟩
  show K (.bool ((((v.n == 0) && (v.s == ([]))) && ((v.l.length : Int) == 0)) && ((v.f.length : Int) == 0))) m
 
  have e0 : shpF (k + 1) v = shpOk v := shp_4 hL hF
  rw [e0] at hK
  have er : ∀ e : Bool, shpOk v = e → K (.bool e) m := fun e q => q ▸ hK
  refine er _ ?_
  unfold shpOk
  repeat rw [if_neg (by assumption)]
  all_goals first | rfl | (rw [if_pos (by assumption)]; done) | (rw [if_pos (by assumption)]; first | rfl | (simp only [hR, len0, Bool.and_true, Bool.and_assoc]; done) | (simp only [hR, len0, Bool.and_true]; ac_rfl))
 replace h8 : v.kind ≠ 0 := (ne_of_beq_false h8)
 refine rS [] [1, 8, 9, 10, 11, 89, 102] (by decide) ?_
 intro K1 hK1
 refine ⟨tv, tv, ?_⟩
 show K1 [(1, pT b1), (8, .bool (v.n == 0)), (9, .bool (v.s == ([]))), (10, .bool ((v.l.length : Int) == 0)), (11, .bool ((v.f.length : Int) == 0)), (89, iT v.kind), (102, .bool (v.kind == 1))] (mW m [(b1, .cells [iT v.kind, iT v.n, .str v.s, sF (v.l.map valIn), sF (v.f.map fldIn)])])
 refine hK1 _ _ ?_; clear hK1 K1
 refine cD rfl rfl (fun h12 => ?_) (fun h12 => ?_)
 ·
  replace h12 : v.kind = 1 := (eq_of_beq h12)
  refine rS [] [2] (by decide) ?_
  intro K1 hK1
  suffices key : K1 [(2, .bool (((((decide (-1000000000 ≤ v.n)) && (decide (v.n ≤ 1000000000))) && (v.s == ([]))) && ((v.l.length : Int) == 0)) && ((v.f.length : Int) == 0)))] (mW m [(b1, .cells [iT v.kind, iT v.n, .str v.s, sF (v.l.map valIn), sF (v.f.map fldIn)])]) by
   refine ⟨⟨rfl, by decide⟩, ?_⟩
   refine aL rfl (v := iT v.n) rfl (wG 0 hNb1 rfl) rfl (aO rfl rfl (nB rfl)) rfl ?_
   refine ⟨tv, tv, ?_⟩
   show aopsR _ _ _ _ _ [(107, .bool (decide (-1000000000 ≤ v.n))), (106, .bool (decide (-1000000000 ≤ v.n))), (105, iT v.n), (104, .ptr ⟨b1, 1, none⟩), (1, pT b1), (8, .bool (v.n == 0)), (9, .bool (v.s == ([]))), (10, .bool ((v.l.length : Int) == 0)), (11, .bool ((v.f.length : Int) == 0)), (89, iT v.kind), (102, .bool (v.kind == 1))] _
   revert key
   cases h13 : (decide (-1000000000 ≤ v.n))
   ·
    replace h13 : v.n < -1000000000 := (Int.not_le.1 (of_decide_eq_false h13))
    intro key
    refine ar_off rfl (ar_off rfl (ar_off rfl ?_))
    refine ⟨tv, ?_⟩
    refine ar_off rfl ?_
    refine ⟨tv, ?_⟩
    refine ar_off rfl ?_
    refine ⟨tv, ?_⟩
    refine ar_off rfl ?_
    refine ⟨tv, ?_⟩
    exact key
   ·
    replace h13 : -1000000000 ≤ v.n := (of_decide_eq_true h13)
    intro key
    refine ⟨⟨rfl, by decide⟩, ?_⟩
    refine aL rfl (v := iT v.n) rfl (wG 0 hNb1 rfl) rfl (aO rfl rfl (nB rfl)) rfl ?_
    refine ⟨tv, ?_⟩
    refine ⟨tv, ?_⟩
    show aopsR _ _ _ _ _ [(112, .bool (decide (v.n ≤ 1000000000))), (111, .bool (decide (v.n ≤ 1000000000))), (110, .bool (decide (v.n ≤ 1000000000))), (109, iT v.n), (108, .ptr ⟨b1, 1, none⟩), (107, .bool true), (106, .bool true), (105, iT v.n), (104, .ptr ⟨b1, 1, none⟩), (1, pT b1), (8, .bool (v.n == 0)), (9, .bool (v.s == ([]))), (10, .bool ((v.l.length : Int) == 0)), (11, .bool ((v.f.length : Int) == 0)), (89, iT v.kind), (102, .bool (v.kind == 1))] _
    revert key
    cases h14 : (decide (v.n ≤ 1000000000))
    ·
     replace h14 : 1000000000 < v.n := (Int.not_le.1 (of_decide_eq_false h14))
     intro key
     refine ar_off rfl ?_
     refine ⟨tv, ?_⟩
     refine ar_off rfl ?_
     refine ⟨tv, ?_⟩
     refine ar_off rfl ?_
     refine ⟨tv, ?_⟩
     exact key
    ·
     replace h14 : v.n ≤ 1000000000 := (of_decide_eq_true h14)
     intro key
     refine ⟨tv, ?_⟩
     refine ⟨tv, ?_⟩
     show aopsR _ _ _ _ _ [(115, .bool (v.s == ([]))), (114, .bool (v.s == ([]))), (113, .bool (v.s == ([]))), (112, .bool true), (111, .bool true), (110, .bool true), (109, iT v.n), (108, .ptr ⟨b1, 1, none⟩), (107, .bool true), (106, .bool true), (105, iT v.n), (104, .ptr ⟨b1, 1, none⟩), (1, pT b1), (8, .bool (v.n == 0)), (9, .bool (v.s == ([]))), (10, .bool ((v.l.length : Int) == 0)), (11, .bool ((v.f.length : Int) == 0)), (89, iT v.kind), (102, .bool (v.kind == 1))] _
     revert key
     cases h15 : (v.s == ([]))
     ·
      replace h15 : v.s ≠ [] := (ne_of_beq_false h15)
      intro key
      refine ar_off rfl ?_
      refine ⟨tv, ?_⟩
      refine ar_off rfl ?_
      refine ⟨tv, ?_⟩
      exact key
     ·
      replace h15 : v.s = [] := (eq_of_beq h15)
      intro key
      refine ⟨tv, ?_⟩
      refine ⟨tv, ?_⟩
      show aopsR _ _ _ _ _ [(118, .bool ((v.l.length : Int) == 0)), (117, .bool ((v.l.length : Int) == 0)), (116, .bool ((v.l.length : Int) == 0)), (115, .bool true), (114, .bool true), (113, .bool true), (112, .bool true), (111, .bool true), (110, .bool true), (109, iT v.n), (108, .ptr ⟨b1, 1, none⟩), (107, .bool true), (106, .bool true), (105, iT v.n), (104, .ptr ⟨b1, 1, none⟩), (1, pT b1), (8, .bool (v.n == 0)), (9, .bool true), (10, .bool ((v.l.length : Int) == 0)), (11, .bool ((v.f.length : Int) == 0)), (89, iT v.kind), (102, .bool (v.kind == 1))] _
      revert key
      cases h16 : ((v.l.length : Int) == 0)
      ·
       replace h16 : (v.l.length : Int) ≠ 0 := (ne_of_beq_false h16)
       intro key
       refine ar_off rfl ?_
       refine ⟨tv, ?_⟩
       exact key
      ·
       replace h16 : (v.l.length : Int) = 0 := (eq_of_beq h16)
       intro key
       refine ⟨tv, ?_⟩
       refine ⟨tv, ?_⟩
       exact key
  refine hK1 _ _ ?_; clear hK1 K1
  refine awp_ret ?_
  refine ⟨tv, m, (wth_sub2 (m := m) [(b1, .cells [iT v.kind, iT v.n, .str v.s, sF (v.l.map valIn), sF (v.f.map fldIn)])] [] hNb1 (by simp only [List.map_cons, List.map_nil, List.forall_mem_cons]; exact ⟨hFb1, nfA⟩)), ?_⟩
  show K (.bool (((((decide (-1000000000 ≤ v.n)) && (decide (v.n ≤ 1000000000))) && (v.s == ([]))) && ((v.l.length : Int) == 0)) && ((v.f.length : Int) == 0))) m
 
  have e0 : shpF (k + 1) v = shpOk v := shp_4 hL hF
  rw [e0] at hK
  have er : ∀ e : Bool, shpOk v = e → K (.bool e) m := fun e q => q ▸ hK
  refine er _ ?_
  unfold shpOk
  repeat rw [if_neg (by assumption)]
  all_goals first | rfl | (rw [if_pos (by assumption)]; done) | (rw [if_pos (by assumption)]; first | rfl | (simp only [hR, len0, Bool.and_true, Bool.and_assoc]; done) | (simp only [hR, len0, Bool.and_true]; ac_rfl))
 replace h12 : v.kind ≠ 1 := (ne_of_beq_false h12)
 refine rS [] [1, 8, 9, 10, 11, 89, 121] (by decide) ?_
 intro K1 hK1
 refine ⟨tv, tv, ?_⟩
 show K1 [(1, pT b1), (8, .bool (v.n == 0)), (9, .bool (v.s == ([]))), (10, .bool ((v.l.length : Int) == 0)), (11, .bool ((v.f.length : Int) == 0)), (89, iT v.kind), (121, .bool (v.kind == 2))] (mW m [(b1, .cells [iT v.kind, iT v.n, .str v.s, sF (v.l.map valIn), sF (v.f.map fldIn)])])
 refine hK1 _ _ ?_; clear hK1 K1
 refine cD rfl rfl (fun h17 => ?_) (fun h17 => ?_)
 ·
  replace h17 : v.kind = 2 := (eq_of_beq h17)
  refine rS [] [2] (by decide) ?_
  intro K1 hK1
  suffices key : K1 [(2, .bool ((((v.n == 0) && (decide ((v.s.length : Int) ≤ 40))) && ((v.l.length : Int) == 0)) && ((v.f.length : Int) == 0)))] (mW m [(b1, .cells [iT v.kind, iT v.n, .str v.s, sF (v.l.map valIn), sF (v.f.map fldIn)])]) by
   refine ⟨tv, tv, ?_⟩
   show aopsR _ _ _ _ _ [(124, .bool (v.n == 0)), (123, .bool (v.n == 0)), (1, pT b1), (8, .bool (v.n == 0)), (9, .bool (v.s == ([]))), (10, .bool ((v.l.length : Int) == 0)), (11, .bool ((v.f.length : Int) == 0)), (89, iT v.kind), (121, .bool (v.kind == 2))] _
   revert key
   cases h18 : (v.n == 0)
   ·
    replace h18 : v.n ≠ 0 := (ne_of_beq_false h18)
    intro key
    refine ar_off rfl (ar_off rfl (ar_off rfl (ar_off rfl ?_)))
    refine ⟨tv, ?_⟩
    refine ar_off rfl ?_
    refine ⟨tv, ?_⟩
    refine ar_off rfl ?_
    refine ⟨tv, ?_⟩
    exact key
   ·
    replace h18 : v.n = 0 := (eq_of_beq h18)
    intro key
    refine ⟨⟨rfl, by decide⟩, ?_⟩
    refine aL rfl (v := .str v.s) rfl (wG 0 hNb1 rfl) rfl (aO rfl rfl (nB rfl)) rfl ?_
    refine ⟨tv, tv, ?_⟩
    refine ⟨tv, ?_⟩
    show aopsR _ _ _ _ _ [(130, .bool (decide ((v.s.length : Int) ≤ 40))), (129, .bool (decide ((v.s.length : Int) ≤ 40))), (128, .bool (decide ((v.s.length : Int) ≤ 40))), (127, iT (v.s.length : Int)), (126, .str v.s), (125, .ptr ⟨b1, 2, none⟩), (124, .bool true), (123, .bool true), (1, pT b1), (8, .bool true), (9, .bool (v.s == ([]))), (10, .bool ((v.l.length : Int) == 0)), (11, .bool ((v.f.length : Int) == 0)), (89, iT v.kind), (121, .bool (v.kind == 2))] _
    revert key
    cases h19 : (decide ((v.s.length : Int) ≤ 40))
    ·
     replace h19 : 40 < (v.s.length : Int) := (Int.not_le.1 (of_decide_eq_false h19))
     intro key
     refine ar_off rfl ?_
     refine ⟨tv, ?_⟩
     refine ar_off rfl ?_
     refine ⟨tv, ?_⟩
     exact key
    ·
     replace h19 : (v.s.length : Int) ≤ 40 := (of_decide_eq_true h19)
     intro key
     refine ⟨tv, ?_⟩
     refine ⟨tv, ?_⟩
     show aopsR _ _ _ _ _ [(133, .bool ((v.l.length : Int) == 0)), (132, .bool ((v.l.length : Int) == 0)), (131, .bool ((v.l.length : Int) == 0)), (130, .bool true), (129, .bool true), (128, .bool true), (127, iT (v.s.length : Int)), (126, .str v.s), (125, .ptr ⟨b1, 2, none⟩), (124, .bool true), (123, .bool true), (1, pT b1), (8, .bool true), (9, .bool (v.s == ([]))), (10, .bool ((v.l.length : Int) == 0)), (11, .bool ((v.f.length : Int) == 0)), (89, iT v.kind), (121, .bool (v.kind == 2))] _
     revert key
     cases h20 : ((v.l.length : Int) == 0)
     ·
      replace h20 : (v.l.length : Int) ≠ 0 := (ne_of_beq_false h20)
      intro key
      refine ar_off rfl ?_
      refine ⟨tv, ?_⟩
      exact key
     ·
      replace h20 : (v.l.length : Int) = 0 := (eq_of_beq h20)
      intro key
      refine ⟨tv, ?_⟩
      refine ⟨tv, ?_⟩
      exact key
  refine hK1 _ _ ?_; clear hK1 K1
  refine awp_ret ?_
  refine ⟨tv, m, (wth_sub2 (m := m) [(b1, .cells [iT v.kind, iT v.n, .str v.s, sF (v.l.map valIn), sF (v.f.map fldIn)])] [] hNb1 (by simp only [List.map_cons, List.map_nil, List.forall_mem_cons]; exact ⟨hFb1, nfA⟩)), ?_⟩
  show K (.bool ((((v.n == 0) && (decide ((v.s.length : Int) ≤ 40))) && ((v.l.length : Int) == 0)) && ((v.f.length : Int) == 0))) m
 
  have e0 : shpF (k + 1) v = shpOk v := shp_4 hL hF
  rw [e0] at hK
  have er : ∀ e : Bool, shpOk v = e → K (.bool e) m := fun e q => q ▸ hK
  refine er _ ?_
  unfold shpOk
  repeat rw [if_neg (by assumption)]
  all_goals first | rfl | (rw [if_pos (by assumption)]; done) | (rw [if_pos (by assumption)]; first | rfl | (simp only [hR, len0, Bool.and_true, Bool.and_assoc]; done) | (simp only [hR, len0, Bool.and_true]; ac_rfl))
 replace h17 : v.kind ≠ 2 := (ne_of_beq_false h17)
 refine rS [] [1, 8, 9, 10, 11, 89, 136] (by decide) ?_
 intro K1 hK1
 refine ⟨tv, tv, ?_⟩
 show K1 [(1, pT b1), (8, .bool (v.n == 0)), (9, .bool (v.s == ([]))), (10, .bool ((v.l.length : Int) == 0)), (11, .bool ((v.f.length : Int) == 0)), (89, iT v.kind), (136, .bool (v.kind == 3))] (mW m [(b1, .cells [iT v.kind, iT v.n, .str v.s, sF (v.l.map valIn), sF (v.f.map fldIn)])])
 refine hK1 _ _ ?_; clear hK1 K1
 refine cD rfl rfl (fun h21 => ?_) (fun h21 => ?_)
 ·
  replace h21 : v.kind = 3 := (eq_of_beq h21)
  refine rS [] [2] (by decide) ?_
  intro K1 hK1
  suffices key : K1 [(2, .bool (((((v.n == 0) || (v.n == 1)) && (v.s == ([]))) && ((v.l.length : Int) == 0)) && ((v.f.length : Int) == 0)))] (mW m [(b1, .cells [iT v.kind, iT v.n, .str v.s, sF (v.l.map valIn), sF (v.f.map fldIn)])]) by
   refine ⟨tv, tv, ?_⟩
   show aopsR _ _ _ _ _ [(139, .bool (v.n == 0)), (138, .bool (v.n == 0)), (1, pT b1), (8, .bool (v.n == 0)), (9, .bool (v.s == ([]))), (10, .bool ((v.l.length : Int) == 0)), (11, .bool ((v.f.length : Int) == 0)), (89, iT v.kind), (136, .bool (v.kind == 3))] _
   revert key
   cases h22 : (v.n == 0)
   ·
    replace h22 : v.n ≠ 0 := (ne_of_beq_false h22)
    intro key
    refine ⟨⟨rfl, by decide⟩, ?_⟩
    refine aL rfl (v := iT v.n) rfl (wG 0 hNb1 rfl) rfl (aO rfl rfl (nB rfl)) rfl ?_
    refine ⟨tv, ?_⟩
    refine ⟨tv, ?_⟩
    show aopsR _ _ _ _ _ [(144, .bool (v.n == 1)), (143, .bool (v.n == 1)), (142, .bool (v.n == 1)), (141, iT v.n), (140, .ptr ⟨b1, 1, none⟩), (139, .bool false), (138, .bool false), (1, pT b1), (8, .bool false), (9, .bool (v.s == ([]))), (10, .bool ((v.l.length : Int) == 0)), (11, .bool ((v.f.length : Int) == 0)), (89, iT v.kind), (136, .bool (v.kind == 3))] _
    revert key
    cases h23 : (v.n == 1)
    ·
     replace h23 : v.n ≠ 1 := (ne_of_beq_false h23)
     intro key
     refine ar_off rfl ?_
     refine ⟨tv, ?_⟩
     refine ar_off rfl ?_
     refine ⟨tv, ?_⟩
     refine ar_off rfl ?_
     refine ⟨tv, ?_⟩
     exact key
    ·
     replace h23 : v.n = 1 := (eq_of_beq h23)
     intro key
     refine ⟨tv, ?_⟩
     refine ⟨tv, ?_⟩
     show aopsR _ _ _ _ _ [(147, .bool (v.s == ([]))), (146, .bool (v.s == ([]))), (145, .bool (v.s == ([]))), (144, .bool true), (143, .bool true), (142, .bool true), (141, iT v.n), (140, .ptr ⟨b1, 1, none⟩), (139, .bool false), (138, .bool false), (1, pT b1), (8, .bool false), (9, .bool (v.s == ([]))), (10, .bool ((v.l.length : Int) == 0)), (11, .bool ((v.f.length : Int) == 0)), (89, iT v.kind), (136, .bool (v.kind == 3))] _
     revert key
     cases h24 : (v.s == ([]))
     ·
      replace h24 : v.s ≠ [] := (ne_of_beq_false h24)
      intro key
      refine ar_off rfl ?_
      refine ⟨tv, ?_⟩
      refine ar_off rfl ?_
      refine ⟨tv, ?_⟩
      exact key
     ·
      replace h24 : v.s = [] := (eq_of_beq h24)
      intro key
      refine ⟨tv, ?_⟩
      refine ⟨tv, ?_⟩
      show aopsR _ _ _ _ _ [(150, .bool ((v.l.length : Int) == 0)), (149, .bool ((v.l.length : Int) == 0)), (148, .bool ((v.l.length : Int) == 0)), (147, .bool true), (146, .bool true), (145, .bool true), (144, .bool true), (143, .bool true), (142, .bool true), (141, iT v.n), (140, .ptr ⟨b1, 1, none⟩), (139, .bool false), (138, .bool false), (1, pT b1), (8, .bool false), (9, .bool true), (10, .bool ((v.l.length : Int) == 0)), (11, .bool ((v.f.length : Int) == 0)), (89, iT v.kind), (136, .bool (v.kind == 3))] _
      revert key
      cases h25 : ((v.l.length : Int) == 0)
      ·
       replace h25 : (v.l.length : Int) ≠ 0 := (ne_of_beq_false h25)
       intro key
       refine ar_off rfl ?_
       refine ⟨tv, ?_⟩
       exact key
      ·
       replace h25 : (v.l.length : Int) = 0 := (eq_of_beq h25)
       intro key
       refine ⟨tv, ?_⟩
       refine ⟨tv, ?_⟩
       exact key
   ·
    replace h22 : v.n = 0 := (eq_of_beq h22)
    intro key
    refine ar_off rfl (ar_off rfl (ar_off rfl ?_))
    refine ⟨tv, tv, ?_⟩
    refine ⟨tv, ?_⟩
    show aopsR _ _ _ _ _ [(147, .bool (v.s == ([]))), (146, .bool (v.s == ([]))), (145, .bool (v.s == ([]))), (144, .bool true), (143, .bool true), (142, .lazy false (.junk)), (141, .lazy false (.junk)), (140, .lazy false (.junk)), (139, .bool true), (138, .bool true), (1, pT b1), (8, .bool true), (9, .bool (v.s == ([]))), (10, .bool ((v.l.length : Int) == 0)), (11, .bool ((v.f.length : Int) == 0)), (89, iT v.kind), (136, .bool (v.kind == 3))] _
    revert key
    cases h26 : (v.s == ([]))
    ·
     replace h26 : v.s ≠ [] := (ne_of_beq_false h26)
     intro key
     refine ar_off rfl ?_
     refine ⟨tv, ?_⟩
     refine ar_off rfl ?_
     refine ⟨tv, ?_⟩
     exact key
    ·
     replace h26 : v.s = [] := (eq_of_beq h26)
     intro key
     refine ⟨tv, ?_⟩
     refine ⟨tv, ?_⟩
     show aopsR _ _ _ _ _ [(150, .bool ((v.l.length : Int) == 0)), (149, .bool ((v.l.length : Int) == 0)), (148, .bool ((v.l.length : Int) == 0)), (147, .bool true), (146, .bool true), (145, .bool true), (144, .bool true), (143, .bool true), (142, .lazy false (.junk)), (141, .lazy false (.junk)), (140, .lazy false (.junk)), (139, .bool true), (138, .bool true), (1, pT b1), (8, .bool true), (9, .bool true), (10, .bool ((v.l.length : Int) == 0)), (11, .bool ((v.f.length : Int) == 0)), (89, iT v.kind), (136, .bool (v.kind == 3))] _
     revert key
     cases h27 : ((v.l.length : Int) == 0)
     ·
      replace h27 : (v.l.length : Int) ≠ 0 := (ne_of_beq_false h27)
      intro key
      refine ar_off rfl ?_
      refine ⟨tv, ?_⟩
      exact key
     ·
      replace h27 : (v.l.length : Int) = 0 := (eq_of_beq h27)
      intro key
      refine ⟨tv, ?_⟩
      refine ⟨tv, ?_⟩
      exact key
  refine hK1 _ _ ?_; clear hK1 K1
  refine awp_ret ?_
  refine ⟨tv, m, (wth_sub2 (m := m) [(b1, .cells [iT v.kind, iT v.n, .str v.s, sF (v.l.map valIn), sF (v.f.map fldIn)])] [] hNb1 (by simp only [List.map_cons, List.map_nil, List.forall_mem_cons]; exact ⟨hFb1, nfA⟩)), ?_⟩
  show K (.bool (((((v.n == 0) || (v.n == 1)) && (v.s == ([]))) && ((v.l.length : Int) == 0)) && ((v.f.length : Int) == 0))) m
 
  have e0 : shpF (k + 1) v = shpOk v := shp_4 hL hF
  rw [e0] at hK
  have er : ∀ e : Bool, shpOk v = e → K (.bool e) m := fun e q => q ▸ hK
  refine er _ ?_
  unfold shpOk
  repeat rw [if_neg (by assumption)]
  all_goals first | rfl | (rw [if_pos (by assumption)]; done) | (rw [if_pos (by assumption)]; first | rfl | (simp only [hR, len0, Bool.and_true, Bool.and_assoc]; done) | (simp only [hR, len0, Bool.and_true]; ac_rfl))
 replace h21 : v.kind ≠ 3 := (ne_of_beq_false h21)
 refine rS [] [8, 9, 10, 11, 89, 153] (by decide) ?_
 intro K1 hK1
 refine ⟨tv, tv, ?_⟩
 show K1 [(8, .bool (v.n == 0)), (9, .bool (v.s == ([]))), (10, .bool ((v.l.length : Int) == 0)), (11, .bool ((v.f.length : Int) == 0)), (89, iT v.kind), (153, .bool (v.kind == 4))] (mW m [(b1, .cells [iT v.kind, iT v.n, .str v.s, sF (v.l.map valIn), sF (v.f.map fldIn)])])
 refine hK1 _ _ ?_; clear hK1 K1
 refine cD rfl rfl (fun h28 => ?_) (fun h28 => ?_)
 ·
  replace h28 : v.kind = 4 := (eq_of_beq h28)
  refine rS [] [2] (by decide) ?_
  intro K1 hK1
  suffices key : K1 [(2, .bool (((v.n == 0) && (v.s == ([]))) && ((v.f.length : Int) == 0)))] (mW m [(b1, .cells [iT v.kind, iT v.n, .str v.s, sF (v.l.map valIn), sF (v.f.map fldIn)])]) by
   refine ⟨tv, tv, ?_⟩
   show aopsR _ _ _ _ _ [(156, .bool (v.n == 0)), (155, .bool (v.n == 0)), (8, .bool (v.n == 0)), (9, .bool (v.s == ([]))), (10, .bool ((v.l.length : Int) == 0)), (11, .bool ((v.f.length : Int) == 0)), (89, iT v.kind), (153, .bool (v.kind == 4))] _
   revert key
   cases h29 : (v.n == 0)
   ·
    replace h29 : v.n ≠ 0 := (ne_of_beq_false h29)
    intro key
    refine ar_off rfl ?_
    refine ⟨tv, ?_⟩
    refine ar_off rfl ?_
    refine ⟨tv, ?_⟩
    exact key
   ·
    replace h29 : v.n = 0 := (eq_of_beq h29)
    intro key
    refine ⟨tv, ?_⟩
    refine ⟨tv, ?_⟩
    show aopsR _ _ _ _ _ [(159, .bool (v.s == ([]))), (158, .bool (v.s == ([]))), (157, .bool (v.s == ([]))), (156, .bool true), (155, .bool true), (8, .bool true), (9, .bool (v.s == ([]))), (10, .bool ((v.l.length : Int) == 0)), (11, .bool ((v.f.length : Int) == 0)), (89, iT v.kind), (153, .bool (v.kind == 4))] _
    revert key
    cases h30 : (v.s == ([]))
    ·
     replace h30 : v.s ≠ [] := (ne_of_beq_false h30)
     intro key
     refine ar_off rfl ?_
     refine ⟨tv, ?_⟩
     exact key
    ·
     replace h30 : v.s = [] := (eq_of_beq h30)
     intro key
     refine ⟨tv, ?_⟩
     refine ⟨tv, ?_⟩
     exact key
  refine hK1 _ _ ?_; clear hK1 K1
  refine awp_ret ?_
  refine ⟨tv, m, (wth_sub2 (m := m) [(b1, .cells [iT v.kind, iT v.n, .str v.s, sF (v.l.map valIn), sF (v.f.map fldIn)])] [] hNb1 (by simp only [List.map_cons, List.map_nil, List.forall_mem_cons]; exact ⟨hFb1, nfA⟩)), ?_⟩
  show K (.bool (((v.n == 0) && (v.s == ([]))) && ((v.f.length : Int) == 0))) m
 
  have e0 : shpF (k + 1) v = shpOk v := shp_4 hL hF
  rw [e0] at hK
  have er : ∀ e : Bool, shpOk v = e → K (.bool e) m := fun e q => q ▸ hK
  refine er _ ?_
  unfold shpOk
  repeat rw [if_neg (by assumption)]
  all_goals first | rfl | (rw [if_pos (by assumption)]; done) | (rw [if_pos (by assumption)]; first | rfl | (simp only [hR, len0, Bool.and_true, Bool.and_assoc]; done) | (simp only [hR, len0, Bool.and_true]; ac_rfl))
 replace h28 : v.kind ≠ 4 := (ne_of_beq_false h28)
 refine rS [] [8, 9, 10, 162] (by decide) ?_
 intro K1 hK1
 refine ⟨tv, tv, ?_⟩
 show K1 [(8, .bool (v.n == 0)), (9, .bool (v.s == ([]))), (10, .bool ((v.l.length : Int) == 0)), (162, .bool (v.kind == 5))] (mW m [(b1, .cells [iT v.kind, iT v.n, .str v.s, sF (v.l.map valIn), sF (v.f.map fldIn)])])
 refine hK1 _ _ ?_; clear hK1 K1
 refine cD rfl rfl (fun h31 => ?_) (fun h31 => ?_)
 ·
  replace h31 : v.kind = 5 := (eq_of_beq h31)
  refine rS [] [2] (by decide) ?_
  intro K1 hK1
  suffices key : K1 [(2, .bool (((v.n == 0) && (v.s == ([]))) && ((v.l.length : Int) == 0)))] (mW m [(b1, .cells [iT v.kind, iT v.n, .str v.s, sF (v.l.map valIn), sF (v.f.map fldIn)])]) by
   refine ⟨tv, tv, ?_⟩
   show aopsR _ _ _ _ _ [(165, .bool (v.n == 0)), (164, .bool (v.n == 0)), (8, .bool (v.n == 0)), (9, .bool (v.s == ([]))), (10, .bool ((v.l.length : Int) == 0)), (162, .bool (v.kind == 5))] _
   revert key
   cases h32 : (v.n == 0)
   ·
    replace h32 : v.n ≠ 0 := (ne_of_beq_false h32)
    intro key
    refine ar_off rfl ?_
    refine ⟨tv, ?_⟩
    refine ar_off rfl ?_
    refine ⟨tv, ?_⟩
    exact key
   ·
    replace h32 : v.n = 0 := (eq_of_beq h32)
    intro key
    refine ⟨tv, ?_⟩
    refine ⟨tv, ?_⟩
    show aopsR _ _ _ _ _ [(168, .bool (v.s == ([]))), (167, .bool (v.s == ([]))), (166, .bool (v.s == ([]))), (165, .bool true), (164, .bool true), (8, .bool true), (9, .bool (v.s == ([]))), (10, .bool ((v.l.length : Int) == 0)), (162, .bool (v.kind == 5))] _
    revert key
    cases h33 : (v.s == ([]))
    ·
     replace h33 : v.s ≠ [] := (ne_of_beq_false h33)
     intro key
     refine ar_off rfl ?_
     refine ⟨tv, ?_⟩
     exact key
    ·
     replace h33 : v.s = [] := (eq_of_beq h33)
     intro key
     refine ⟨tv, ?_⟩
     refine ⟨tv, ?_⟩
     exact key
  refine hK1 _ _ ?_; clear hK1 K1
  refine awp_ret ?_
  refine ⟨tv, m, (wth_sub2 (m := m) [(b1, .cells [iT v.kind, iT v.n, .str v.s, sF (v.l.map valIn), sF (v.f.map fldIn)])] [] hNb1 (by simp only [List.map_cons, List.map_nil, List.forall_mem_cons]; exact ⟨hFb1, nfA⟩)), ?_⟩
  show K (.bool (((v.n == 0) && (v.s == ([]))) && ((v.l.length : Int) == 0))) m
 
  have e0 : shpF (k + 1) v = shpOk v := shp_4 hL hF
  rw [e0] at hK
  have er : ∀ e : Bool, shpOk v = e → K (.bool e) m := fun e q => q ▸ hK
  refine er _ ?_
  unfold shpOk
  repeat rw [if_neg (by assumption)]
  all_goals first | rfl | (rw [if_pos (by assumption)]; done) | (rw [if_pos (by assumption)]; first | rfl | (simp only [hR, len0, Bool.and_true, Bool.and_assoc]; done) | (simp only [hR, len0, Bool.and_true]; ac_rfl))
 replace h31 : v.kind ≠ 5 := (ne_of_beq_false h31)
 refine awp_skip ?_
 refine hK8 _ _ ?_; clear hK8
 refine rS [] [2] (by decide) ?_
 intro K1 hK1
 refine ⟨tv, ?_⟩
 show K1 [(2, .bool false)] (mW m [(b1, .cells [iT v.kind, iT v.n, .str v.s, sF (v.l.map valIn), sF (v.f.map fldIn)])])
 refine hK1 _ _ ?_; clear hK1 K1
 refine awp_ret ?_
 refine ⟨tv, m, (wth_sub2 (m := m) [(b1, .cells [iT v.kind, iT v.n, .str v.s, sF (v.l.map valIn), sF (v.f.map fldIn)])] [] hNb1 (by simp only [List.map_cons, List.map_nil, List.forall_mem_cons]; exact ⟨hFb1, nfA⟩)), ?_⟩
 show K (.bool false) m
 have e0 : shpF (k + 1) v = shpOk v := shp_4 hL hF
 rw [e0] at hK
 have er : ∀ e : Bool, shpOk v = e → K (.bool e) m := fun e q => q ▸ hK
 refine er _ ?_
 unfold shpOk
 repeat rw [if_neg (by assumption)]
 all_goals first | rfl | (rw [if_pos (by assumption)]; done) | (rw [if_pos (by assumption)]; first | rfl | (simp only [hR, len0, Bool.and_true, Bool.and_assoc]; done) | (simp only [hR, len0, Bool.and_true]; ac_rfl))
end Go.Proofs
end
section
namespace Go.Proofs
open Go Go.Aw
set_option maxRecDepth 100000
def fileAV (p : Str × Str) : AV := .agg [.str p.1, .str p.2]
structure Trn where
  kind : Int
  name : Str
  data : Str
  to : Str
instance : Inhabited Trn := ⟨⟨0, [], [], []⟩⟩
def trnAV (t : Trn) : AV := .agg [iT t.kind, .str t.name, .str t.data, .str t.to]
def zS (f : Int) (b : Bool) (t : Int) : DSt := ⟨[], [], [], f, b, t⟩
def zQ (f : Int) (b : Bool) (t : Int) : AObj := .cells [sT (([] : List (Str × Str)).map fileAV), sT (([] : List (Str × Str)).map fileAV), sT (([] : List Trn).map trnAV), iT f, .bool b, iT t]
def zR (s : DSt) : AObj := zQ s.fuse s.down s.steps
structure Em (s : DSt) (N : Nat) : Prop where
  ke : s.kept = []
  ne : s.now = []
  we : s.wait = []
  st0 : 0 ≤ s.steps
  st1 : s.steps ≤ N
  fu0 : -1 ≤ s.fuse
  fu1 : s.fuse ≤ 9223372036854775807
theorem Em.eq {s : DSt} {N : Nat} (h : Em s N) : s = zS s.fuse s.down s.steps := by
  obtain ⟨k, n, w, f, d, t⟩ := s
  have h1 : k = [] := h.ke
  have h2 : n = [] := h.ne
  have h3 : w = [] := h.we
  subst h1; subst h2; subst h3; rfl
theorem Em.mono {s : DSt} {N M : Nat} (h : Em s N) (hm : N ≤ M) : Em s M := ⟨h.ke, h.ne, h.we, h.st0, by have := h.st1; omega, h.fu0, h.fu1⟩
theorem Em.of_step {s : DSt} {N : Nat} (h : Em s N) : Em (stepF s).1 (N + 1) := by
  have k := stepF_keep s
  have q := stepF_steps s
  refine ⟨by rw [k.1]; exact h.ke, by rw [k.2.1]; exact h.ne, by rw [k.2.2.1]; exact h.we, by have := h.st0; omega, by have := h.st1; omega, ?_, ?_⟩
  · have := h.fu0
    unfold stepF; split
    · exact this
    · split
      · show (-1 : Int) ≤ -1; omega
      · show -1 ≤ if 0 < s.fuse then s.fuse - 1 else s.fuse
        split <;> omega
  · have := h.fu1
    unfold stepF; split
    · exact this
    · split
      · show (-1 : Int) ≤ _; omega
      · show (if 0 < s.fuse then s.fuse - 1 else s.fuse) ≤ _
        split <;> omega
def armD (s : DSt) (f : Int) : DSt := { s with fuse := if -1 > f then -1 else f }
theorem Em.arm {s : DSt} {N : Nat} (h : Em s N) (f : Int) (hf : f ≤ 9223372036854775807) : Em (armD s f) (N + 1) :=
  ⟨h.ke, h.ne, h.we, h.st0, by show s.steps ≤ _; have := h.st1; omega, by show -1 ≤ if -1 > f then -1 else f; split <;> omega, by show (if -1 > f then -1 else f) ≤ _; split <;> omega⟩
theorem Em.rest {s : DSt} {N : Nat} (h : Em s N) : Em (zS (-1) false s.steps) (N + 1) := ⟨rfl, rfl, rfl, h.st0, by show s.steps ≤ _; have := h.st1; omega, by show (-1 : Int) ≤ -1; omega, by show (-1 : Int) ≤ _; omega⟩
abbrev RSt := Unit
def rT (_ : RSt) (s : DSt) : DSt := s
def rObj (s : DSt) : AObj := zR s
abbrev Two (s : DSt) (_ : RSt) (N : Nat) : Prop := Em s N
theorem Em.inv {s : DSt} {N : Nat} (h : Em s N) : Em s N := h
theorem Em.start0 : Em s0 0 := ⟨rfl, rfl, rfl, Int.le_refl _, Int.le_refl _, by decide, by decide⟩
theorem u_Down (d kb nb : Nat) (s : DSt)  (m : AMem)  (K : AV → AMem → Prop) (hK : K (.bool s.down) (mW m [(d, dObj kb nb s)])) : ACalls Try.prog 42 [pT d] (mW m [(d, .cells [.map kb, .map nb, sT (s.wait.map chgAV), iT s.fuse, .bool s.down, iT s.steps])]) K := by
 refine acalls_enter Try.func42 rfl (by decide) (nB rfl) ?_
 show AWP _ _ _ _ [(0, pT d)] (mW m [(d, .cells [.map kb, .map nb, sT (s.wait.map chgAV), iT s.fuse, .bool s.down, iT s.steps])])
 refine rS [] [0] (by decide) ?_
 intro K1 hK1
 refine ⟨tv, ?_⟩
 show K1 [(0, pT d)] _
 refine hK1 _ _ ?_; clear hK1 K1
 refine rS [] [2] (by decide) ?_
 intro K1 hK1
 refine ⟨tv, tv, ⟨rfl, by decide⟩, ?_⟩
 refine aL rfl (v := .bool s.down) rfl (wG 0 (nodup_1 d) rfl) rfl (aO rfl rfl (nB rfl)) rfl ?_
 refine ⟨tv, ?_⟩
 show K1 [(2, .bool s.down)] _
 refine hK1 _ _ ?_; clear hK1 K1
 refine awp_ret ?_
 refine ⟨tv, (mW m [(d, .cells [.map kb, .map nb, sT (s.wait.map chgAV), iT s.fuse, .bool s.down, iT s.steps])]), fun _ _ h => h, ?_⟩
 show K (.bool s.down) _
 exact hK
theorem u_Arm (d kb nb : Nat) (s : DSt) (n : Int)  (m : AMem)  (K : AV → AMem → Prop) (hK : K (.tuple []) (mW m [(d, dObj kb nb (armD s n))])) : ACalls Try.prog 37 [pT d, iT n] (mW m [(d, .cells [.map kb, .map nb, sT (s.wait.map chgAV), iT s.fuse, .bool s.down, iT s.steps])]) K := by
 refine acalls_enter Try.func37 rfl (by decide) (nB rfl) ?_
 show AWP _ _ _ _ [(0, pT d), (1, iT n)] (mW m [(d, .cells [.map kb, .map nb, sT (s.wait.map chgAV), iT s.fuse, .bool s.down, iT s.steps])])
 refine awp_reg2 [] [] (by decide) ?_
 intro K1 hK1
 refine ⟨tv, tv, tv, tv, ⟨rfl, by decide⟩, ?_⟩
 refine aS rfl 0 (v := iT (if -1 > n then -1 else n)) (l' := [.map kb, .map nb, sT (s.wait.map chgAV), iT (if -1 > n then -1 else n), .bool s.down, iT s.steps]) rfl rfl (nodup_1 d) rfl rfl rfl rfl rfl (nB rfl) rfl ?_
 show K1 [] (mW m [(d, .cells [.map kb, .map nb, sT (s.wait.map chgAV), iT (if -1 > n then -1 else n), .bool s.down, iT s.steps])])
 refine hK1 _ _ ?_; clear hK1 K1
 refine ⟨(mW m [(d, .cells [.map kb, .map nb, sT (s.wait.map chgAV), iT (if -1 > n then -1 else n), .bool s.down, iT s.steps])]), fun _ _ h => h, ?_⟩
 show K (.tuple []) _
 exact hK
set_option maxHeartbeats 4000000 in
theorem u_RestartZ (d kb nb : Nat) (f t keep torn : Int) (b : Bool) (hN : [d, kb].Nodup) (m : AMem)  (K : AV → AMem → Prop) (hK : ∀ q, ([q, d, kb] : List Nat).Nodup → m q = none → K (.tuple []) (mW m [(q, mObj []), (d, dObj kb q (zS (-1) false t)), (kb, mObj [])])) : ACalls Try.prog 38 [pT d, iT keep, iT torn] (mW m [(d, .cells [.map kb, .map nb, sT (([] : List Chg).map chgAV), iT f, .bool b, iT t]), (kb, .map (List.map (mapAV strAV strAV) ([] : List (Str × Str))))]) K := by
 refine acalls_enter Try.func38 rfl (by decide) (nB rfl) ?_
 show AWP _ _ _ _ [(0, pT d), (1, iT keep), (2, iT torn)] (mW m [(d, .cells [.map kb, .map nb, sT (([] : List Chg).map chgAV), iT f, .bool b, iT t]), (kb, .map (List.map (mapAV strAV strAV) ([] : List (Str × Str))))])
 refine rS [] [0, 1, 2] (by decide) ?_
 intro K1 hK1
 refine ⟨tv, tv, tv, tv, ⟨rfl, by decide⟩, ?_⟩
 refine aL rfl (v := sF (([] : List Chg).map chgAV)) rfl (wG 0 hN rfl) rfl (aO rfl rfl (nB rfl)) rfl ?_
 refine ar_len rfl chgAV ([] : List Chg) rfl rfl rfl ?_
 refine ⟨tv, tv, ?_⟩
 show K1 [(0, pT d), (1, iT (if (([] : List Chg).length : Int) < if 0 > keep then 0 else keep then (([] : List Chg).length : Int) else if 0 > keep then 0 else keep)), (2, iT torn)] _
 refine hK1 _ _ ?_; clear hK1 K1
 have hkk : (if (([] : List Chg).length : Int) < if 0 > keep then 0 else keep then (([] : List Chg).length : Int) else if 0 > keep then 0 else keep : Int) = 0 := by
  have hz0 : (([] : List Chg).length : Int) = 0 := rfl
  (repeat' split) <;> omega
 rw [hkk]
 show AWP _ _ _ _ [(0, pT d), (1, iT 0), (2, iT torn)] (mW m [(d, .cells [.map kb, .map nb, sT (([] : List Chg).map chgAV), iT f, .bool b, iT t]), (kb, .map (List.map (mapAV strAV strAV) ([] : List (Str × Str))))])
 refine sK ?_; intro K2 hK2
 refine rS [] [0, 1, 2, 24, 25, 26] (by decide) ?_
 intro K1 hK1
 refine ⟨tv, tv, ⟨rfl, by decide⟩, ?_⟩
 refine aL rfl (v := sF (([] : List Chg).map chgAV)) rfl (wG 0 hN rfl) rfl (aO rfl rfl (nB rfl)) rfl ?_
 refine ⟨tv, ?_⟩
 refine ar_slice rfl chgAV ([] : List Chg) 0 0 rfl rfl rfl rfl rfl rfl (fun _ => rfl) (by omega) (by omega) (by omega) ?_
 refine ar_len rfl chgAV (sub ([] : List Chg) 0 0) rfl rfl rfl ?_
 refine ⟨tv, ?_⟩
 show K1 [(0, pT d), (1, iT 0), (2, iT torn), (24, sF ((sub ([] : List Chg) 0 0).map chgAV)), (25, iT ((sub ([] : List Chg) 0 0).length : Int)), (26, iT 0)] _
 refine hK1 _ _ ?_; clear hK1 K1
 refine awp_block ?_
 refine awp_keep [0, 1, 2, 24, 25, 26] (by decide) ?_
 refine awp_loop_st (σ := Int) (fun i => [(0, pT d), (1, iT 0), (2, iT torn), (24, sF ((sub ([] : List Chg) 0 0).map chgAV)), (25, iT ((sub ([] : List Chg) 0 0).length : Int)), (26, iT i)]) (fun _ => (mW m [(d, .cells [.map kb, .map nb, sT (([] : List Chg).map chgAV), iT f, .bool b, iT t]), (kb, .map (List.map (mapAV strAV strAV) ([] : List (Str × Str))))])) (fun i => i = 0) (fun i => 1) (0) rfl rfl ?_ ?_
 ·
  show ((0 : Int)) = 0
  rfl
 rintro i hI
 replace hI : i = 0 := hI
 show AWP _ _ _ _ [(0, pT d), (1, iT 0), (2, iT torn), (24, sF ((sub ([] : List Chg) 0 0).map chgAV)), (25, iT ((sub ([] : List Chg) 0 0).length : Int)), (26, iT i)] (mW m [(d, .cells [.map kb, .map nb, sT (([] : List Chg).map chgAV), iT f, .bool b, iT t]), (kb, .map (List.map (mapAV strAV strAV) ([] : List (Str × Str))))])
 refine rS [] [0, 1, 2, 24, 25, 26, 27] (by decide) ?_
 intro K1 hK1
 refine ⟨tv, ?_⟩
 show K1 [(0, pT d), (1, iT 0), (2, iT torn), (24, sF ((sub ([] : List Chg) 0 0).map chgAV)), (25, iT ((sub ([] : List Chg) 0 0).length : Int)), (26, iT i), (27, .bool (decide (i < ((sub ([] : List Chg) 0 0).length : Int))))] _
 refine hK1 _ _ ?_; clear hK1 K1
 refine sK ?_; intro K3 hK3
 refine cD rfl rfl (fun h1 => ?_) (fun h1 => ?_)
 ·
  replace h1 : i < ((sub ([] : List Chg) 0 0).length : Int) := (of_decide_eq_true h1)
  have hs0 : (sub ([] : List Chg) 0 0).length = 0 := rfl
  omega
 replace h1 : ((sub ([] : List Chg) 0 0).length : Int) ≤ i := (Int.not_lt.1 (of_decide_eq_false h1))
 refine awp_exit ?_
 refine hK2 _ _ ?_; clear hK2
 refine sK ?_; intro K4 hK4
 refine rS [] [0, 1, 2, 54] (by decide) ?_
 intro K1 hK1
 suffices key : K1 [(0, pT d), (1, iT 0), (2, iT torn), (54, .bool ((decide (0 < (([] : List Chg).length : Int))) && (decide ((gI ([] : List Chg) 0).kind ≤ 3))))] (mW m [(d, .cells [.map kb, .map nb, sT (([] : List Chg).map chgAV), iT f, .bool b, iT t]), (kb, .map (List.map (mapAV strAV strAV) ([] : List (Str × Str))))]) by
  refine ⟨tv, tv, tv, ⟨rfl, by decide⟩, ?_⟩
  refine aL rfl (v := sF (([] : List Chg).map chgAV)) rfl (wG 0 hN rfl) rfl (aO rfl rfl (nB rfl)) rfl ?_
  refine ar_len rfl chgAV ([] : List Chg) rfl rfl rfl ?_
  refine ⟨tv, tv, ?_⟩
  show aopsR _ _ _ _ _ [(44, .bool (decide (0 < (([] : List Chg).length : Int)))), (43, .bool (decide (0 < (([] : List Chg).length : Int)))), (42, iT (([] : List Chg).length : Int)), (41, sF (([] : List Chg).map chgAV)), (40, .ptr ⟨d, 2, none⟩), (39, pT d), (38, pT d), (37, iT 0), (0, pT d), (1, iT 0), (2, iT torn), (24, sF ((sub ([] : List Chg) 0 0).map chgAV)), (25, iT ((sub ([] : List Chg) 0 0).length : Int)), (26, iT i), (27, .bool (decide (i < ((sub ([] : List Chg) 0 0).length : Int))))] _
  revert key
  cases h2 : (decide (0 < (([] : List Chg).length : Int)))
  ·
   replace h2 : (([] : List Chg).length : Int) ≤ 0 := (Int.not_lt.1 (of_decide_eq_false h2))
   intro key
   refine ar_off rfl (ar_off rfl (ar_off rfl (ar_off rfl (ar_off rfl (ar_off rfl (ar_off rfl (ar_off rfl (ar_off rfl ?_))))))))
   exact key
  ·
   replace h2 : 0 < (([] : List Chg).length : Int) := (of_decide_eq_true h2)
   intro key
   refine ⟨tv, tv, ⟨rfl, by decide⟩, ?_⟩
   refine aL rfl (v := sF (([] : List Chg).map chgAV)) rfl (wG 0 hN rfl) rfl (aO rfl rfl (nB rfl)) rfl ?_
   refine ⟨tv, ?_⟩
   refine ar_index rfl chgAV ([] : List Chg) 0 rfl rfl rfl rfl rfl (by decide) (fun _ => rfl) (by omega) (by omega) ?_
   refine ⟨⟨rfl, by decide, (nB rfl)⟩, (aO rfl rfl (nB rfl)), tv, ?_⟩
   exact key
 refine hK1 _ _ ?_; clear hK1 K1
 refine cD rfl rfl (fun h3 => ?_) (fun h3 => ?_)
 ·
  replace h3 : (0 < (([] : List Chg).length : Int)) ∧ ((gI ([] : List Chg) 0).kind ≤ 3) := ⟨(of_decide_eq_true (bandL h3)), (of_decide_eq_true (bandR h3))⟩
  simp at h3
 replace h3 : ((([] : List Chg).length : Int) ≤ 0) ∨ (3 < (gI ([] : List Chg) 0).kind) := ((bandF h3).imp (fun q => (Int.not_lt.1 (of_decide_eq_false q))) (fun q => (Int.not_le.1 (of_decide_eq_false q))))
 refine awp_skip ?_
 refine hK4 _ _ ?_; clear hK4
 refine rS [] [0] (by decide) ?_
 intro K1 hK1
 refine ⟨tv, tv, tv, tv, ⟨rfl, by decide⟩, ?_⟩
 refine aS rfl 0 (v := .slice true []) (l' := [.map kb, .map nb, .slice true [], iT f, .bool b, iT t]) rfl rfl hN rfl rfl rfl rfl rfl (nB rfl) rfl ?_
 refine ⟨tv, ⟨rfl, by decide⟩, ?_⟩
 refine aS rfl 0 (v := .bool false) (l' := [.map kb, .map nb, .slice true [], iT f, .bool false, iT t]) rfl rfl hN rfl rfl rfl rfl rfl (nB rfl) rfl ?_
 refine ⟨tv, ⟨rfl, by decide⟩, ?_⟩
 refine aS rfl 0 (v := iT (-1)) (l' := [.map kb, .map nb, .slice true [], iT (-1), .bool false, iT t]) rfl rfl hN rfl rfl rfl rfl rfl (nB rfl) rfl ?_
 show K1 [(0, pT d)] (mW m [(d, .cells [.map kb, .map nb, .slice true [], iT (-1), .bool false, iT t]), (kb, .map (List.map (mapAV strAV strAV) ([] : List (Str × Str))))])
 refine hK1 _ _ ?_; clear hK1 K1
 refine rS [] [0] (by decide) ?_
 intro K1 hK1
 refine ⟨tv, ?_⟩
 refine ar_makeMap rfl (m := m) (L := [(d, .cells [.map kb, .map nb, .slice true [], iT (-1), .bool false, iT t]), (kb, .map (List.map (mapAV strAV strAV) ([] : List (Str × Str))))]) rfl ?_
 intro b1 hb1
 have hFb1 : m b1 = none := wth_none hb1
 have hNb1 : ([b1, d, kb] : List Nat).Nodup := wth_nodup hb1 hN
 refine ⟨tv, ⟨rfl, by decide⟩, ?_⟩
 refine aS rfl 1 (v := .map b1) (l' := [.map kb, .map b1, .slice true [], iT (-1), .bool false, iT t]) rfl rfl hNb1 rfl rfl rfl rfl rfl (nB rfl) rfl ?_
 show K1 [(0, pT d)] (mW m [(b1, .map (List.map (mapAV strAV strAV) ([] : List ((List UInt8) × (List UInt8))))), (d, .cells [.map kb, .map b1, .slice true [], iT (-1), .bool false, iT t]), (kb, .map (List.map (mapAV strAV strAV) ([] : List (Str × Str))))])
 refine hK1 _ _ ?_; clear hK1 K1
 refine rS [] [0, 98] (by decide) ?_
 intro K1 hK1
 refine ⟨tv, tv, ⟨rfl, by decide⟩, ?_⟩
 refine aL rfl (v := .map kb) rfl (wG 1 hNb1 rfl) rfl (aO rfl rfl (nB rfl)) rfl ?_
 refine ar_range rfl (m := m) (L := [(b1, .map (List.map (mapAV strAV strAV) ([] : List ((List UInt8) × (List UInt8))))), (d, .cells [.map kb, .map b1, .slice true [], iT (-1), .bool false, iT t]), (kb, .map (List.map (mapAV strAV strAV) ([] : List (Str × Str))))]) 2 rfl rfl rfl hNb1 ?_
 intro q1 _
 show K1 [(0, pT d), (98, pT q1)] (mW m [(b1, .map (List.map (mapAV strAV strAV) ([] : List ((List UInt8) × (List UInt8))))), (d, .cells [.map kb, .map b1, .slice true [], iT (-1), .bool false, iT t]), (kb, AObj.iter q1 (List.map (mapAV strAV strAV) ([] : List (Str × Str))) [])])
 refine hK1 _ _ ?_; clear hK1 K1
 refine awp_block ?_
 refine awp_keep [0, 98] (by decide) ?_
 refine awp_loop_st (σ := (List (Str × Str)) × (List Nat)) (fun ⟨nw, seen⟩ => [(0, pT d), (98, pT q1)]) (fun ⟨nw, seen⟩ => (mW m [(b1, .map (List.map (mapAV strAV strAV) nw)), (d, .cells [.map kb, .map b1, .slice true [], iT (-1), .bool false, iT t]), (kb, AObj.iter q1 (List.map (mapAV strAV strAV) ([] : List (Str × Str))) seen)])) (fun ⟨nw, seen⟩ => seen = [] ∧ nw = []) (fun ⟨nw, seen⟩ => 0) (([] : List ((List UInt8) × (List UInt8))), []) rfl rfl ?_ ?_
 ·
  show (([] : (List Nat))) = [] ∧ ((([] : List ((List UInt8) × (List UInt8))) : (List (Str × Str)))) = []
  exact ⟨rfl, rfl⟩
 rintro ⟨nw, seen⟩ hI2
 replace hI2 : seen = [] ∧ nw = [] := hI2
 show AWP _ _ _ _ [(0, pT d), (98, pT q1)] (mW m [(b1, .map (List.map (mapAV strAV strAV) nw)), (d, .cells [.map kb, .map b1, .slice true [], iT (-1), .bool false, iT t]), (kb, AObj.iter q1 (List.map (mapAV strAV strAV) ([] : List (Str × Str))) seen)])
 refine rS [] [0, 98, 100] (by decide) ?_
 intro K1 hK1
 refine ar_nextT rfl (m := m) (L := [(b1, .map (List.map (mapAV strAV strAV) nw)), (d, .cells [.map kb, .map b1, .slice true [], iT (-1), .bool false, iT t]), (kb, AObj.iter q1 (List.map (mapAV strAV strAV) ([] : List (Str × Str))) seen)]) 2 strAV strAV ([] : List (Str × Str)) seen rfl rfl hNb1 ?_ ?_
 ·
  intro hE1
  refine ⟨(nB rfl), ?_⟩
  show K1 [(0, pT d), (98, pT q1), (100, .bool false)] (mW m [(b1, .map (List.map (mapAV strAV strAV) nw)), (d, .cells [.map kb, .map b1, .slice true [], iT (-1), .bool false, iT t]), (kb, AObj.iter q1 (List.map (mapAV strAV strAV) ([] : List (Str × Str))) seen)])
  refine hK1 _ _ ?_; clear hK1 K1
  refine awp_unrange (m := m) (L := [(b1, .map (List.map (mapAV strAV strAV) nw)), (d, .cells [.map kb, .map b1, .slice true [], iT (-1), .bool false, iT t]), (kb, AObj.iter q1 (List.map (mapAV strAV strAV) ([] : List (Str × Str))) seen)]) 2 hNb1 rfl ?_
  show AWP _ _ _ _ [(0, pT d), (98, pT q1), (100, .bool false)] (mW m [(b1, .map (List.map (mapAV strAV strAV) nw)), (d, .cells [.map kb, .map b1, .slice true [], iT (-1), .bool false, iT t]), (kb, .map (List.map (mapAV strAV strAV) ([] : List (Str × Str))))])
  refine sK ?_; intro K5 hK5
  refine cD rfl rfl (fun hcz => ?_) (fun hcz => ?_)
  ·
   cases hcz
  clear hcz
  refine awp_exit ?_
  refine ⟨(mW m [(b1, .map (List.map (mapAV strAV strAV) nw)), (d, .cells [.map kb, .map b1, .slice true [], iT (-1), .bool false, iT t]), (kb, .map (List.map (mapAV strAV strAV) ([] : List (Str × Str))))]), fun _ _ h => h, ?_⟩
  show K (.tuple []) (AMem.wth m [(b1, .map (List.map (mapAV strAV strAV) nw)), (d, .cells [.map kb, .map b1, .slice true [], iT (-1), .bool false, iT t]), (kb, .map (List.map (mapAV strAV strAV) ([] : List (Str × Str))))])
 
  have hz2 := hI2.2
  subst hz2
  exact hK b1 hNb1 hFb1
 ·
  rintro k1 ⟨ek1, ev1⟩ hp1 hn1
  refine ⟨(nB rfl), ?_⟩
  show K1 [(0, pT d), (98, pT q1), (100, .bool true)] (mW m [(b1, .map (List.map (mapAV strAV strAV) nw)), (d, .cells [.map kb, .map b1, .slice true [], iT (-1), .bool false, iT t]), (kb, AObj.iter q1 (List.map (mapAV strAV strAV) ([] : List (Str × Str))) (seen ++ [k1]))])
  refine hK1 _ _ ?_; clear hK1 K1
  refine sK ?_; intro K6 hK6
  refine cD rfl rfl (fun hcz => ?_) (fun hcz => ?_)
  rotate_left; · cases hcz
  clear hcz
  refine awp_skip ?_
  refine hK6 _ _ ?_; clear hK6
  refine awp_block ?_
  refine rS [] [0, 9, 10, 98] (by decide) ?_
  intro K1 hK1
  refine ar_entryT rfl (m := m) (L := [(b1, .map (List.map (mapAV strAV strAV) nw)), (d, .cells [.map kb, .map b1, .slice true [], iT (-1), .bool false, iT t]), (kb, AObj.iter q1 (List.map (mapAV strAV strAV) ([] : List (Str × Str))) (seen ++ [k1]))]) 2 strAV strAV ([] : List (Str × Str)) seen hp1 rfl rfl hNb1 ?_
  refine ⟨(nB rfl), (nB rfl), tv, tv, ?_⟩
  show K1 [(0, pT d), (9, .str ek1), (10, .str ev1), (98, pT q1)] _
  refine hK1 _ _ ?_; clear hK1 K1
  refine awp_reg2 [] [0, 98] (by decide) ?_
  intro K1 hK1
  refine ⟨tv, tv, ⟨rfl, by decide⟩, ?_⟩
  refine aL rfl (v := .map b1) rfl (wG 1 hNb1 rfl) rfl (aO rfl rfl (nB rfl)) rfl ?_
  refine ⟨tv, tv, ?_⟩
  refine ar_mapUpdate rfl (m := m) (L := [(b1, .map (List.map (mapAV strAV strAV) nw)), (d, .cells [.map kb, .map b1, .slice true [], iT (-1), .bool false, iT t]), (kb, AObj.iter q1 (List.map (mapAV strAV strAV) ([] : List (Str × Str))) (seen ++ [k1]))]) 0 strAV strAV strKey_ok nw ek1 ev1 rfl rfl rfl rfl rfl rfl hNb1 (by rw [hI2.2]; refine Nat.le_trans (mput_len _ _ _) (by simp)) ?_
  show K1 [(0, pT d), (98, pT q1)] (mW m [(b1, .map (List.map (mapAV strAV strAV) (mput nw ek1 ev1))), (d, .cells [.map kb, .map b1, .slice true [], iT (-1), .bool false, iT t]), (kb, AObj.iter q1 (List.map (mapAV strAV strAV) ([] : List (Str × Str))) (seen ++ [k1]))])
  refine hK1 _ _ ?_; clear hK1 K1
  refine ⟨(mput nw ek1 ev1, seen ++ [k1]), rfl, rfl, ?_, ?_⟩
  ·
   show ((seen ++ [k1] : (List Nat))) = [] ∧ ((mput nw ek1 ev1 : (List (Str × Str)))) = []
   exact absurd hp1 (by simp)
  ·
   show 0 < 0
   exact absurd hp1 (by simp)
set_option maxHeartbeats 2000000 in
theorem u_QStepZ (r : Nat) (s : DSt) (h0 : -1 ≤ s.fuse) (h1 : s.fuse ≤ 9223372036854775807) (h2 : 0 ≤ s.steps) (h3 : s.steps ≤ 1000000) (m : AMem)  (K : AV → AMem → Prop) (hK : K (iT (stepF s).2) (mW m [(r, zR (stepF s).1)])) : ACalls Try.prog 36 [pT r] (mW m [(r, zR s)]) K := by
 refine acalls_enter Try.func36 rfl (by decide) (nB rfl) ?_
 show AWP _ _ _ _ [(0, pT r)] (mW m [(r, zR s)])
 refine rS [] [0] (by decide) ?_
 intro K1 hK1
 refine ⟨tv, ?_⟩
 show K1 [(0, pT r)] _
 refine hK1 _ _ ?_; clear hK1 K1
 refine sK ?_; intro K2 hK2
 refine rS [] [0, 6] (by decide) ?_
 intro K1 hK1
 refine ⟨tv, tv, ⟨rfl, by decide⟩, ?_⟩
 refine aL rfl (v := .bool s.down) rfl (wG 0 (nodup_1 r) rfl) rfl (aO rfl rfl (nB rfl)) rfl ?_
 show K1 [(0, pT r), (6, .bool s.down)] _
 refine hK1 _ _ ?_; clear hK1 K1
 refine cD rfl rfl (fun h1 => ?_) (fun h1 => ?_)
 ·
  replace h1 : s.down = true := h1
  refine rS [] [2] (by decide) ?_
  intro K1 hK1
  refine ⟨tv, ?_⟩
  show K1 [(2, iT 10)] (mW m [(r, zR s)])
  refine hK1 _ _ ?_; clear hK1 K1
  refine awp_ret ?_
  refine ⟨tv, (mW m [(r, zR s)]), fun _ _ h => h, ?_⟩
  show K (iT 10) _
 
  have e0 : stepF s = (((⟨s.kept, s.now, s.wait, s.fuse, s.down, s.steps⟩ : DSt), 10) : DSt × Int) := by
   obtain ⟨kept, now, wait, fuse, down, steps⟩ := s
   simp_all [stepF] <;> omega
  rw [e0] at hK
  exact hK
 replace h1 : s.down = false := h1
 refine awp_skip ?_
 refine hK2 _ _ ?_; clear hK2
 refine sK ?_; intro K3 hK3
 refine rS [] [0, 11] (by decide) ?_
 intro K1 hK1
 refine ⟨tv, tv, ⟨rfl, by decide⟩, ?_⟩
 refine aL rfl (v := iT s.fuse) rfl (wG 0 (nodup_1 r) rfl) rfl (aO rfl rfl (nB rfl)) rfl ?_
 refine ⟨tv, ?_⟩
 show K1 [(0, pT r), (11, .bool (s.fuse == 0))] (mW m [(r, zR s)])
 refine hK1 _ _ ?_; clear hK1 K1
 refine cD rfl rfl (fun h2 => ?_) (fun h2 => ?_)
 ·
  replace h2 : s.fuse = 0 := (eq_of_beq h2)
  refine rS [] [0] (by decide) ?_
  intro K1 hK1
  refine ⟨tv, tv, ⟨rfl, by decide⟩, ?_⟩
  refine aS rfl 0 (v := .bool true) (l' := [sT (([] : List (Str × Str)).map fileAV), sT (([] : List (Str × Str)).map fileAV), sT (([] : List Trn).map trnAV), iT s.fuse, .bool true, iT s.steps]) rfl rfl (nodup_1 r) rfl rfl rfl rfl rfl (nB rfl) rfl ?_
  show K1 [(0, pT r)] (mW m [(r, zQ s.fuse true s.steps)])
  refine hK1 _ _ ?_; clear hK1 K1
  refine rS [] [] (by decide) ?_
  intro K1 hK1
  refine ⟨tv, tv, ⟨rfl, by decide⟩, ?_⟩
  refine aS rfl 0 (v := iT (-1)) (l' := [sT (([] : List (Str × Str)).map fileAV), sT (([] : List (Str × Str)).map fileAV), sT (([] : List Trn).map trnAV), iT (-1), .bool true, iT s.steps]) rfl rfl (nodup_1 r) rfl rfl rfl rfl rfl (nB rfl) rfl ?_
  show K1 [] (mW m [(r, zQ (-1) true s.steps)])
  refine hK1 _ _ ?_; clear hK1 K1
  refine rS [] [2] (by decide) ?_
  intro K1 hK1
  refine ⟨tv, ?_⟩
  show K1 [(2, iT 10)] _
  refine hK1 _ _ ?_; clear hK1 K1
  refine awp_ret ?_
  refine ⟨tv, (mW m [(r, zQ (-1) true s.steps)]), fun _ _ h => h, ?_⟩
  show K (iT 10) _
 
  have e0 : stepF s = (((⟨s.kept, s.now, s.wait, -1, true, s.steps⟩ : DSt), 10) : DSt × Int) := by
   obtain ⟨kept, now, wait, fuse, down, steps⟩ := s
   simp_all [stepF] <;> omega
  rw [e0] at hK
  exact hK
 replace h2 : s.fuse ≠ 0 := (ne_of_beq_false h2)
 refine awp_skip ?_
 refine hK3 _ _ ?_; clear hK3
 refine sK ?_; intro K4 hK4
 refine rS [] [0, 22] (by decide) ?_
 intro K1 hK1
 refine ⟨tv, tv, ⟨rfl, by decide⟩, ?_⟩
 refine aL rfl (v := iT s.fuse) rfl (wG 0 (nodup_1 r) rfl) rfl (aO rfl rfl (nB rfl)) rfl ?_
 refine ⟨tv, ?_⟩
 show K1 [(0, pT r), (22, .bool (decide (0 < s.fuse)))] (mW m [(r, zR s)])
 refine hK1 _ _ ?_; clear hK1 K1
 refine cD rfl rfl (fun h3 => ?_) (fun h3 => ?_)
 ·
  replace h3 : 0 < s.fuse := (of_decide_eq_true h3)
  refine awp_reg2 [] [0] (by decide) ?_
  intro K1 hK1
  refine ⟨tv, tv, ⟨rfl, by decide⟩, ?_⟩
  refine aL rfl (v := iT s.fuse) rfl (wG 0 (nodup_1 r) rfl) rfl (aO rfl rfl (nB rfl)) rfl ?_
  refine ar_sub rfl (a := s.fuse) (b := 1) rfl rfl (by omega) (by omega) ?_
  refine ⟨tv, ⟨rfl, by decide⟩, ?_⟩
  refine aS rfl 0 (v := iT (s.fuse - 1)) (l' := [sT (([] : List (Str × Str)).map fileAV), sT (([] : List (Str × Str)).map fileAV), sT (([] : List Trn).map trnAV), iT (s.fuse - 1), .bool s.down, iT s.steps]) rfl rfl (nodup_1 r) rfl rfl rfl rfl rfl (nB rfl) rfl ?_
  show K1 [(0, pT r)] (mW m [(r, zQ (s.fuse - 1) s.down s.steps)])
  refine hK1 _ _ ?_; clear hK1 K1
  refine hK4 _ _ ?_; clear hK4
  refine rS [] [] (by decide) ?_
  intro K1 hK1
  refine ⟨tv, tv, ⟨rfl, by decide⟩, ?_⟩
  refine aL rfl (v := iT s.steps) rfl (wG 0 (nodup_1 r) rfl) rfl (aO rfl rfl (nB rfl)) rfl ?_
  refine ar_add rfl (a := s.steps) (b := 1) rfl rfl (by omega) (by omega) ?_
  refine ⟨tv, ⟨rfl, by decide⟩, ?_⟩
  refine aS rfl 0 (v := iT (s.steps + 1)) (l' := [sT (([] : List (Str × Str)).map fileAV), sT (([] : List (Str × Str)).map fileAV), sT (([] : List Trn).map trnAV), iT (s.fuse - 1), .bool s.down, iT (s.steps + 1)]) rfl rfl (nodup_1 r) rfl rfl rfl rfl rfl (nB rfl) rfl ?_
  show K1 [] (mW m [(r, zQ (s.fuse - 1) s.down (s.steps + 1))])
  refine hK1 _ _ ?_; clear hK1 K1
  refine rS [] [2] (by decide) ?_
  intro K1 hK1
  refine ⟨tv, ?_⟩
  show K1 [(2, iT 0)] _
  refine hK1 _ _ ?_; clear hK1 K1
  refine awp_ret ?_
  refine ⟨tv, (mW m [(r, zQ (s.fuse - 1) s.down (s.steps + 1))]), fun _ _ h => h, ?_⟩
  show K (iT 0) _
 
  have e0 : stepF s = (((⟨s.kept, s.now, s.wait, s.fuse - 1, s.down, s.steps + 1⟩ : DSt), 0) : DSt × Int) := by
   obtain ⟨kept, now, wait, fuse, down, steps⟩ := s
   simp_all [stepF] <;> omega
  rw [e0] at hK
  exact hK
 replace h3 : s.fuse ≤ 0 := (Int.not_lt.1 (of_decide_eq_false h3))
 refine awp_skip ?_
 refine hK4 _ _ ?_; clear hK4
 refine rS [] [] (by decide) ?_
 intro K1 hK1
 refine ⟨tv, tv, ⟨rfl, by decide⟩, ?_⟩
 refine aL rfl (v := iT s.steps) rfl (wG 0 (nodup_1 r) rfl) rfl (aO rfl rfl (nB rfl)) rfl ?_
 refine ar_add rfl (a := s.steps) (b := 1) rfl rfl (by omega) (by omega) ?_
 refine ⟨tv, ⟨rfl, by decide⟩, ?_⟩
 refine aS rfl 0 (v := iT (s.steps + 1)) (l' := [sT (([] : List (Str × Str)).map fileAV), sT (([] : List (Str × Str)).map fileAV), sT (([] : List Trn).map trnAV), iT s.fuse, .bool s.down, iT (s.steps + 1)]) rfl rfl (nodup_1 r) rfl rfl rfl rfl rfl (nB rfl) rfl ?_
 show K1 [] (mW m [(r, zQ s.fuse s.down (s.steps + 1))])
 refine hK1 _ _ ?_; clear hK1 K1
 refine rS [] [2] (by decide) ?_
 intro K1 hK1
 refine ⟨tv, ?_⟩
 show K1 [(2, iT 0)] _
 refine hK1 _ _ ?_; clear hK1 K1
 refine awp_ret ?_
 refine ⟨tv, (mW m [(r, zQ s.fuse s.down (s.steps + 1))]), fun _ _ h => h, ?_⟩
 show K (iT 0) _
 have e0 : stepF s = (((⟨s.kept, s.now, s.wait, s.fuse, s.down, s.steps + 1⟩ : DSt), 0) : DSt × Int) := by
  obtain ⟨kept, now, wait, fuse, down, steps⟩ := s
  simp_all [stepF] <;> omega
 rw [e0] at hK
 exact hK
theorem u_QNewZ   (m : AMem)  (K : AV → AMem → Prop) (hK : ∀ r, m r = none → K (pT r) (mW m [(r, zR s0)])) : ACalls Try.prog 24 [] m K := by
 refine acalls_enter Try.func24 rfl (by decide) (nB rfl) ?_
 show AWP _ _ _ _ [] m
 refine rS [] [] (by decide) ?_
 intro K1 hK1
 refine ⟨tv, ?_⟩
 show K1 [] m
 refine hK1 _ _ ?_; clear hK1 K1
 refine rS [] [0] (by decide) ?_
 intro K1 hK1
 refine ⟨⟨rfl, by simp only [List.forall_mem_cons]; exact ⟨rfl, rfl, rfl, rfl, rfl, rfl, nfA⟩, by simp only [List.forall_mem_cons]; exact ⟨rfl, nfA⟩⟩, ?_⟩
 refine ar_box rfl (m := m) (L := []) (v := .agg [.slice true [], .slice true [], .slice true [], iT (-1), .bool false, iT 0]) rfl rfl ?_
 intro b1 hb1
 have hFb1 : m b1 = none := wth_none (m := m) (L := []) hb1
 have hNb1 : ([b1] : List Nat).Nodup := wth_nodup (m := m) (L := []) hb1 List.nodup_nil
 refine ⟨tv, ?_⟩
 show K1 [(0, pT b1)] (mW m [(b1, .cells [.slice true [], .slice true [], .slice true [], iT (-1), .bool false, iT 0])])
 refine hK1 _ _ ?_; clear hK1 K1
 refine awp_ret ?_
 refine ⟨tv, (mW m [(b1, .cells [.slice true [], .slice true [], .slice true [], iT (-1), .bool false, iT 0])]), fun _ _ h => h, ?_⟩
 show K (pT b1) _
 exact hK _ hFb1
set_option maxHeartbeats 4000000 in
theorem u_QRestartZ (r : Nat) (f t keep torn : Int) (b : Bool)  (m : AMem)  (K : AV → AMem → Prop) (hK : K (.tuple []) (mW m [(r, zQ (-1) false t)])) : ACalls Try.prog 39 [pT r, iT keep, iT torn] (mW m [(r, zQ f b t)]) K := by
 refine acalls_enter Try.func39 rfl (by decide) (nB rfl) ?_
 show AWP _ _ _ _ [(0, pT r), (1, iT keep), (2, iT torn)] (mW m [(r, zQ f b t)])
 refine sK ?_; intro K2 hK2
 refine rS [] [0, 1, 2, 6] (by decide) ?_
 intro K1 hK1
 refine ⟨tv, ?_⟩
 show K1 [(0, pT r), (1, iT keep), (2, iT torn), (6, iT 0)] _
 refine hK1 _ _ ?_; clear hK1 K1
 refine awp_block ?_
 refine awp_keep [0, 1, 2, 6] (by decide) ?_
 refine awp_loop_st (σ := Int) (fun i => [(0, pT r), (1, iT keep), (2, iT torn), (6, iT i)]) (fun _ => (mW m [(r, zQ f b t)])) (fun i => i = 0) (fun i => 1) (0) rfl rfl ?_ ?_
 ·
  show ((0 : Int)) = 0
  rfl
 rintro i hI
 replace hI : i = 0 := hI
 show AWP _ _ _ _ [(0, pT r), (1, iT keep), (2, iT torn), (6, iT i)] (mW m [(r, zQ f b t)])
 refine sK ?_; intro K3 hK3
 refine rS [] [0, 1, 2, 6, 21] (by decide) ?_
 intro K1 hK1
 suffices key : K1 [(0, pT r), (1, iT keep), (2, iT torn), (6, iT i), (21, .bool ((decide (i < (([] : List Trn).length : Int))) && (decide (i < keep))))] (mW m [(r, zQ f b t)]) by
  refine ⟨tv, tv, tv, ⟨rfl, by decide⟩, ?_⟩
  refine aL rfl (v := sF (([] : List Trn).map trnAV)) rfl (wG 0 (nodup_1 r) rfl) rfl (aO rfl rfl (nB rfl)) rfl ?_
  refine ar_len rfl trnAV ([] : List Trn) rfl rfl rfl ?_
  refine ⟨tv, tv, ?_⟩
  show aopsR _ _ _ _ _ [(17, .bool (decide (i < (([] : List Trn).length : Int)))), (16, .bool (decide (i < (([] : List Trn).length : Int)))), (15, iT (([] : List Trn).length : Int)), (14, sF (([] : List Trn).map trnAV)), (13, .ptr ⟨r, 2, none⟩), (12, pT r), (11, pT r), (10, iT i), (0, pT r), (1, iT keep), (2, iT torn), (6, iT i)] _
  revert key
  cases h1 : (decide (i < (([] : List Trn).length : Int)))
  ·
   replace h1 : (([] : List Trn).length : Int) ≤ i := (Int.not_lt.1 (of_decide_eq_false h1))
   intro key
   refine ar_off rfl (ar_off rfl (ar_off rfl ?_))
   exact key
  ·
   replace h1 : i < (([] : List Trn).length : Int) := (of_decide_eq_true h1)
   intro key
   refine ⟨tv, tv, tv, ?_⟩
   exact key
 refine hK1 _ _ ?_; clear hK1 K1
 refine cD rfl rfl (fun h2 => ?_) (fun h2 => ?_)
 ·
  replace h2 : (i < (([] : List Trn).length : Int)) ∧ (i < keep) := ⟨(of_decide_eq_true (bandL h2)), (of_decide_eq_true (bandR h2))⟩
  simp at h2
  omega
 replace h2 : ((([] : List Trn).length : Int) ≤ i) ∨ (keep ≤ i) := ((bandF h2).imp (fun q => (Int.not_lt.1 (of_decide_eq_false q))) (fun q => (Int.not_lt.1 (of_decide_eq_false q))))
 refine awp_exit ?_
 refine hK2 _ _ ?_; clear hK2
 refine rS [] [0, 2, 7] (by decide) ?_
 intro K1 hK1
 refine ⟨tv, tv, tv, ?_⟩
 show K1 [(0, pT r), (2, iT torn), (7, iT (if 0 > keep then 0 else keep))] (mW m [(r, zQ f b t)])
 refine hK1 _ _ ?_; clear hK1 K1
 obtain ⟨kx, hkx⟩ : ∃ kx : Int, kx = (if 0 > keep then 0 else keep) := ⟨_, rfl⟩
 rw [← hkx]
 have hkx0 : 0 ≤ kx := by rw [hkx]; split <;> omega
 show AWP _ _ _ _ [(0, pT r), (2, iT torn), (7, iT kx)] _
 refine sK ?_; intro K4 hK4
 refine rS [] [0, 2, 7, 58] (by decide) ?_
 intro K1 hK1
 suffices key : K1 [(0, pT r), (2, iT torn), (7, iT kx), (58, .bool ((decide (kx < (([] : List Trn).length : Int))) && (decide ((gI ([] : List Trn) kx).kind < 4))))] (mW m [(r, zQ f b t)]) by
  refine ⟨tv, tv, tv, ⟨rfl, by decide⟩, ?_⟩
  refine aL rfl (v := sF (([] : List Trn).map trnAV)) rfl (wG 0 (nodup_1 r) rfl) rfl (aO rfl rfl (nB rfl)) rfl ?_
  refine ar_len rfl trnAV ([] : List Trn) rfl rfl rfl ?_
  refine ⟨tv, tv, ?_⟩
  show aopsR _ _ _ _ _ [(48, .bool (decide (kx < (([] : List Trn).length : Int)))), (47, .bool (decide (kx < (([] : List Trn).length : Int)))), (46, iT (([] : List Trn).length : Int)), (45, sF (([] : List Trn).map trnAV)), (44, .ptr ⟨r, 2, none⟩), (43, pT r), (42, pT r), (41, iT kx), (0, pT r), (2, iT torn), (7, iT kx)] _
  revert key
  cases h3 : (decide (kx < (([] : List Trn).length : Int)))
  ·
   replace h3 : (([] : List Trn).length : Int) ≤ kx := (Int.not_lt.1 (of_decide_eq_false h3))
   intro key
   refine ar_off rfl (ar_off rfl (ar_off rfl (ar_off rfl (ar_off rfl (ar_off rfl (ar_off rfl (ar_off rfl (ar_off rfl ?_))))))))
   exact key
  ·
   replace h3 : kx < (([] : List Trn).length : Int) := (of_decide_eq_true h3)
   intro key
   refine ⟨tv, tv, ⟨rfl, by decide⟩, ?_⟩
   refine aL rfl (v := sF (([] : List Trn).map trnAV)) rfl (wG 0 (nodup_1 r) rfl) rfl (aO rfl rfl (nB rfl)) rfl ?_
   refine ⟨tv, ?_⟩
   refine ar_index rfl trnAV ([] : List Trn) kx rfl rfl rfl rfl rfl (by decide) (fun _ => rfl) (by omega) (by omega) ?_
   refine ⟨⟨rfl, by decide, (nB rfl)⟩, (aO rfl rfl (nB rfl)), tv, ?_⟩
   exact key
 refine hK1 _ _ ?_; clear hK1 K1
 refine cD rfl rfl (fun h4 => ?_) (fun h4 => ?_)
 ·
  replace h4 : (kx < (([] : List Trn).length : Int)) ∧ ((gI ([] : List Trn) kx).kind < 4) := ⟨(of_decide_eq_true (bandL h4)), (of_decide_eq_true (bandR h4))⟩
  simp at h4
  omega
 replace h4 : ((([] : List Trn).length : Int) ≤ kx) ∨ (4 ≤ (gI ([] : List Trn) kx).kind) := ((bandF h4).imp (fun q => (Int.not_lt.1 (of_decide_eq_false q))) (fun q => (Int.not_lt.1 (of_decide_eq_false q))))
 refine awp_skip ?_
 refine hK4 _ _ ?_; clear hK4
 refine rS [] [0] (by decide) ?_
 intro K1 hK1
 refine ⟨tv, tv, tv, ⟨rfl, by decide⟩, ?_⟩
 refine aL rfl (v := sF (([] : List (Str × Str)).map fileAV)) rfl (wG 0 (nodup_1 r) rfl) rfl (aO rfl rfl (nB rfl)) rfl ?_
 refine ar_append0 rfl fileAV ([] : List (Str × Str)) rfl rfl rfl rfl (nB rfl) rfl (by (simp only [show Try.prog.bytesOf 118 = 32 from rfl, List.length_append, List.length_cons, List.length_nil]; omega)) (fun _ => ⟨rfl, rfl⟩) ?_
 refine ⟨tv, ⟨rfl, by decide⟩, ?_⟩
 refine aS rfl 0 (v := sT (([] : List (Str × Str)).map fileAV)) (l' := [sT (([] : List (Str × Str)).map fileAV), sT (([] : List (Str × Str)).map fileAV), sT (([] : List Trn).map trnAV), iT f, .bool b, iT t]) rfl rfl (nodup_1 r) rfl rfl rfl rfl rfl (nB rfl) rfl ?_
 show K1 [(0, pT r)] (mW m [(r, zQ f b t)])
 refine hK1 _ _ ?_; clear hK1 K1
 refine rS [] [0] (by decide) ?_
 intro K1 hK1
 refine ⟨tv, tv, ⟨rfl, by decide⟩, ?_⟩
 refine aS rfl 0 (v := .slice true []) (l' := [sT (([] : List (Str × Str)).map fileAV), sT (([] : List (Str × Str)).map fileAV), .slice true [], iT f, .bool b, iT t]) rfl rfl (nodup_1 r) rfl rfl rfl rfl rfl (nB rfl) rfl ?_
 show K1 [(0, pT r)] (mW m [(r, .cells [sT (([] : List (Str × Str)).map fileAV), sT (([] : List (Str × Str)).map fileAV), .slice true [], iT f, .bool b, iT t])])
 refine hK1 _ _ ?_; clear hK1 K1
 refine rS [] [0] (by decide) ?_
 intro K1 hK1
 refine ⟨tv, tv, ⟨rfl, by decide⟩, ?_⟩
 refine aS rfl 0 (v := .bool false) (l' := [sT (([] : List (Str × Str)).map fileAV), sT (([] : List (Str × Str)).map fileAV), .slice true [], iT f, .bool false, iT t]) rfl rfl (nodup_1 r) rfl rfl rfl rfl rfl (nB rfl) rfl ?_
 show K1 [(0, pT r)] (mW m [(r, .cells [sT (([] : List (Str × Str)).map fileAV), sT (([] : List (Str × Str)).map fileAV), .slice true [], iT f, .bool false, iT t])])
 refine hK1 _ _ ?_; clear hK1 K1
 refine awp_reg2 [] [] (by decide) ?_
 intro K1 hK1
 refine ⟨tv, tv, ⟨rfl, by decide⟩, ?_⟩
 refine aS rfl 0 (v := iT (-1)) (l' := [sT (([] : List (Str × Str)).map fileAV), sT (([] : List (Str × Str)).map fileAV), .slice true [], iT (-1), .bool false, iT t]) rfl rfl (nodup_1 r) rfl rfl rfl rfl rfl (nB rfl) rfl ?_
 show K1 [] (mW m [(r, .cells [sT (([] : List (Str × Str)).map fileAV), sT (([] : List (Str × Str)).map fileAV), .slice true [], iT (-1), .bool false, iT t])])
 refine hK1 _ _ ?_; clear hK1 K1
 refine ⟨(mW m [(r, .cells [sT (([] : List (Str × Str)).map fileAV), sT (([] : List (Str × Str)).map fileAV), .slice true [], iT (-1), .bool false, iT t])]), fun _ _ h => h, ?_⟩
 show K (.tuple []) _
 exact hK
theorem u_RestartE (d kb nb : Nat) (s : DSt) (keep torn : Int) (N : Nat) (h : Em s N) (hN : [d, kb].Nodup) (m : AMem) (K : AV → AMem → Prop)
    (hK : ∀ q, ([q, d, kb] : List Nat).Nodup → m q = none → ∀ _u : Unit, K (.tuple []) (mW m [(q, mObj (zS (-1) false s.steps).now), (d, dObj kb q (zS (-1) false s.steps)), (kb, mObj (zS (-1) false s.steps).kept)])) :
    ACalls Try.prog 38 [pT d, iT keep, iT torn] (mW m [(d, dObj kb nb s), (kb, mObj s.kept)]) K := by
  have e2 : dObj kb nb s = dObj kb nb (zS s.fuse s.down s.steps) := by rw [← h.eq]
  rw [h.ke, e2]
  exact u_RestartZ d kb nb s.fuse s.steps keep torn s.down hN m K (fun q a b => hK q a b ())
theorem u_QRestartE (r : Nat) (s : DSt) (keep torn : Int) (m : AMem) (K : AV → AMem → Prop) (hK : K (.tuple []) (mW m [(r, zR (zS (-1) false s.steps))])) :
    ACalls Try.prog 39 [pT r, iT keep, iT torn] (mW m [(r, zR s)]) K :=
  u_QRestartZ r s.fuse s.steps keep torn s.down m K hK
end Go.Proofs
end
