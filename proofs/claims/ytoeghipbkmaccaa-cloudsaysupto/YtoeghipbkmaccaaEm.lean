import Derived.Test.YtoeghipbkmaccaaProg
import Derived.Test.YtoeghipbkmaccaaWl8
import Derived.Test.YtoeghipbkmaccaaWxw
import Derived.Test.YtoeghipbkmaccaaCl7
section
namespace Go.Proofs
open Go Go.Aw
set_option maxRecDepth 100000


/-- How deep a value is. -/
def mxF {α : Type} (g : α → Int) (l : List α) (d : Int) : Int := l.foldl (fun d x => if g x > d then g x else d) d
def hgtF : Nat → Val → Int
  | 0, _ => 0
  | k + 1, v => mxF (fun p => hgtF k p.2) v.f (mxF (hgtF k) v.l 0) + 1
theorem mxF_step {α : Type} [Inhabited α] (g : α → Int) {l : List α} {i : Int} (d : Int) (h0 : 0 ≤ i) (hi : i < l.length) : mxF g (l.take (i + 1).toNat) d = if g (gI l i) > mxF g (l.take i.toNat) d then g (gI l i) else mxF g (l.take i.toNat) d := by
  rw [take_succ_gI h0 hi]; unfold mxF; rw [List.foldl_append]; rfl
theorem mxF_le {α : Type} (g : α → Int) (B : Int) : ∀ (l : List α) (d : Int), (mxF g l d ≤ B ↔ d ≤ B ∧ ∀ x ∈ l, g x ≤ B)
  | [], d => by simp [mxF]
  | x :: r, d => by
    rw [show mxF g (x :: r) d = mxF g r (if g x > d then g x else d) from rfl, mxF_le g B r]
    simp only [List.mem_cons, forall_eq_or_imp]
    split <;> constructor <;> (intro h; refine ⟨?_, ?_⟩) <;> first | omega | exact h.2 | (refine ⟨?_, ?_⟩ <;> first | omega | exact h.2) | exact h.2.2
theorem mxF_nn {α : Type} (g : α → Int) : ∀ (l : List α) (d : Int), d ≤ mxF g l d
  | [], d => Int.le_refl _
  | x :: r, d => by
    rw [show mxF g (x :: r) d = mxF g r (if g x > d then g x else d) from rfl]
    refine Int.le_trans ?_ (mxF_nn g r (if g x > d then g x else d))
    split <;> omega
theorem sumN_take {α : Type} [Inhabited α] (g : α → Nat) {l : List α} {i : Int} (h0 : 0 ≤ i) (hi : i < l.length) : sumN g (l.take (i + 1).toNat) = sumN g (l.take i.toNat) + g (gI l i) := by
  have e : ∀ (a b : List α), sumN g (a ++ b) = sumN g a + sumN g b := fun a b => by
    induction a with
    | nil => simp [sumN]
    | cons x r ih => simp only [List.cons_append, sumN, ih]; omega
  rw [take_succ_gI h0 hi, e]; simp [sumN]
theorem sumN_take_le {α : Type} (g : α → Nat) (l : List α) (k : Nat) : sumN g (l.take k) ≤ sumN g l := by
  induction l generalizing k with
  | nil => simp
  | cons x r ih =>
    cases k with
    | zero => simp [sumN]
    | succ k => rw [List.take_succ_cons, sumN, sumN]; have := ih k; omega
theorem hgtF_le : ∀ (k : Nat) (v : Val), depV v < k → 1 ≤ hgtF k v ∧ hgtF k v ≤ depV v
  | 0, _, h => absurd h (Nat.not_lt_zero _)
  | k + 1, v, h => by
    have e := depV_eq v
    rw [hgtF]
    have h1 := mxF_nn (hgtF k) v.l 0
    have h2 := mxF_nn (fun p : Str × Val => hgtF k p.2) v.f (mxF (hgtF k) v.l 0)
    refine ⟨by omega, ?_⟩
    have a : mxF (hgtF k) v.l 0 ≤ (depV v : Int) - 1 := (mxF_le _ _ _ _).2 ⟨by omega, fun x hx => by
      have q := depL_mem hx; have := (hgtF_le k x (by omega)).2; omega⟩
    have b : mxF (fun p : Str × Val => hgtF k p.2) v.f (mxF (hgtF k) v.l 0) ≤ (depV v : Int) - 1 := (mxF_le _ _ _ _).2 ⟨a, fun x hx => by
      have q := depF_mem hx; have := (hgtF_le k x.2 (by omega)).2; omega⟩
    omega
theorem cntL_iff {α : Type} {g : α → Int → Bool × Int} {d : α → Nat} {h : α → Prop} : ∀ (l : List α) (n : Int), 0 ≤ n → (∀ x ∈ l, ∀ n, 0 ≤ n → ((g x n).1 = true ↔ (d x : Int) ≤ n ∧ h x)) → (∀ x n, 0 ≤ n → (g x n).1 = true → 0 ≤ (g x n).2 ∧ (g x n).2 + d x = n) → ((cntL g l n).1 = true ↔ (sumN d l : Int) ≤ n ∧ ∀ x ∈ l, h x)
  | [], n, h0, _, _ => by simp [cntL, sumN, h0]
  | x :: r, n, h0, hg, hk => by
    rw [cntL, sumN]
    have hx := hg x (List.mem_cons_self ..) n h0
    by_cases c : (g x n).1 = true
    · have q := hk x n h0 c
      rw [if_pos c, cntL_iff r _ q.1 (fun y hy => hg y (List.mem_cons_of_mem _ hy)) hk]
      have := hx.1 c
      simp only [List.mem_cons, forall_eq_or_imp]
      constructor
      · intro z; exact ⟨by push_cast; omega, this.2, z.2⟩
      · intro z; exact ⟨by have := z.1; push_cast at this; omega, z.2.2⟩
    · rw [if_neg c]
      simp only [Bool.false_eq_true, false_iff]
      intro z
      exact c (hx.2 ⟨by have := z.1; push_cast at this; omega, z.2 x (List.mem_cons_self ..)⟩)
theorem cntF_iff : ∀ (k : Nat) (deep : Int) (v : Val) (n : Int), depV v < k → 0 ≤ n → 1 ≤ deep → ((cntF k deep v n).1 = true ↔ (depV v : Int) ≤ n ∧ deep + hgtF k v ≤ 7)
  | 0, _, _, _, h, _, _ => absurd h (Nat.not_lt_zero _)
  | k + 1, deep, v, n, h, h0, h1 => by
    have e := depV_eq v
    have hh := hgtF_le (k + 1) v h
    have gl : ∀ x ∈ v.l, ∀ n, 0 ≤ n → ((cntF k (deep + 1) x n).1 = true ↔ (depV x : Int) ≤ n ∧ (hgtF k x ≤ 6 - deep)) := fun x hx n hn => by
      have q := depL_mem hx
      rw [cntF_iff k (deep + 1) x n (by omega) hn (by omega)]
      constructor <;> (intro z; exact ⟨z.1, by omega⟩)
    have gf : ∀ x ∈ v.f, ∀ n, 0 ≤ n → ((cntF k (deep + 1) x.2 n).1 = true ↔ (depV x.2 : Int) ≤ n ∧ (hgtF k x.2 ≤ 6 - deep)) := fun x hx n hn => by
      have q := depF_mem hx
      rw [cntF_iff k (deep + 1) x.2 n (by omega) hn (by omega)]
      constructor <;> (intro z; exact ⟨z.1, by omega⟩)
    have hgt : deep + hgtF (k + 1) v ≤ 7 ↔ deep ≤ 6 ∧ (∀ x ∈ v.l, hgtF k x ≤ 6 - deep) ∧ ∀ x ∈ v.f, hgtF k x.2 ≤ 6 - deep := by
      rw [hgtF]
      have a := mxF_le (hgtF k) (6 - deep) v.l 0
      have b := mxF_le (fun p : Str × Val => hgtF k p.2) (6 - deep) v.f (mxF (hgtF k) v.l 0)
      constructor
      · intro z
        have b1 := b.1 (by omega)
        have a1 := a.1 b1.1
        exact ⟨by omega, a1.2, b1.2⟩
      · intro z
        have a1 := a.2 ⟨by omega, z.2.1⟩
        have b1 := b.2 ⟨a1, z.2.2⟩
        omega
    rw [hgt, cntF]
    have sl := sumN_l v.l
    have sf := sumN_f v.f
    by_cases c : 6 < deep ∨ n - 1 < 0
    · rw [if_pos c]
      simp only [Bool.false_eq_true, false_iff]
      intro z
      rcases c with c | c <;> omega
    · rw [if_neg c]
      have il := cntL_iff (d := depV) (h := fun x => hgtF k x ≤ 6 - deep) v.l (n - 1) (by omega) gl (fun x n hn hx => cntF_ok k (deep + 1) x n hn hx)
      by_cases c2 : (cntL (cntF k (deep + 1)) v.l (n - 1)).1 = false
      · rw [if_pos c2]
        simp only [Bool.false_eq_true, false_iff]
        intro z
        have : (cntL (cntF k (deep + 1)) v.l (n - 1)).1 = true := il.2 ⟨by omega, z.2.2.1⟩
        rw [c2] at this; cases this
      · have c3 : (cntL (cntF k (deep + 1)) v.l (n - 1)).1 = true := by simpa using c2
        rw [if_neg c2]
        have a := cntL_ok (d := depV) (g := cntF k (deep + 1)) (fun x n hn hx => cntF_ok k (deep + 1) x n hn hx) v.l (n - 1) (by omega) c3
        have i2 := cntL_iff (g := fun p : Str × Val => cntF k (deep + 1) p.2) (d := fun p : Str × Val => depV p.2) (h := fun x => hgtF k x.2 ≤ 6 - deep) v.f _ a.1 gf (fun x n hn hx => cntF_ok k (deep + 1) x.2 n hn hx)
        rw [i2]
        have q := il.1 c3
        constructor
        · intro z; exact ⟨by omega, by omega, q.2, z.2⟩
        · intro z; exact ⟨by omega, z.2.2.2⟩
/-- What the document finds wrong with a value. -/
theorem chk_R {v : Val} : chk v = if (60 < (depV v : Int) ∨ 6 < hgtF (depV v + 1) v) then 2 else if shpF (depV v + 1) v = true then 0 else 3 := by
  have q := cntF_iff (depV v + 1) 1 v 60 (Nat.lt_succ_self _) (by omega) (by omega)
  unfold chk
  by_cases c : (cntF (depV v + 1) 1 v 60).1 = true
  · have := q.1 c
    rw [if_pos c, if_neg (by omega)]; rfl
  · rw [if_neg c, if_pos (by
      refine Classical.byContradiction fun z => c (q.2 ⟨by omega, by omega⟩))]

set_option maxHeartbeats 4000000 in
theorem u_parts1 (k : Nat) (v : Val) (hB : depV v ≤ 1000000000000) (ih : ∀ w : Val, depV w < depV v → ∀ (m : AMem) (K : AV → AMem → Prop), K (.tuple [.int .i64 (depV w : Int), .int .i64 (hgtF k w)]) m → ACalls Try.prog 101 [valTop w] m K) (hd : depV v < k + 1) (m : AMem)  (K : AV → AMem → Prop) (hK : K (.tuple [.int .i64 (depV v : Int), .int .i64 (hgtF (k + 1) v)]) m) : ACalls Try.prog 101 [valTop v] m K := by
 have hdv := depV_eq v
 have hsl := sumN_l v.l
 have hsf := sumN_f v.f
 refine acalls_enter Try.func101 rfl (by decide) (Nat.le_of_ble_eq_true rfl) ?_
 refine awp_bd 0 (x := valTop v) rfl (fun hbd0 => ?_)
 have hbd0_2 : v.s.length ≤ 140737488355328 := (hbd0 2 (Nat.le_of_ble_eq_true rfl))
 have hbd0_3 : v.l.length ≤ 140737488355328 := bd_map (hbd0 3 (Nat.le_of_ble_eq_true rfl))
 have hbd0_4 : v.f.length ≤ 140737488355328 := bd_map (hbd0 4 (Nat.le_of_ble_eq_true rfl))
 show AWP _ _ _ _ [(0, valTop v)] m
 refine awp_reg2_seq [] [1] (by decide) ?_
 intro K1 hK1
 refine ar_box rfl (m := m) (L := []) (v := valTop v) (by rfl) rfl ?_
 intro b1 hb1
 have hFb1 : m b1 = none := wth_none (m := m) (L := []) hb1
 have hNb1 : ([b1] : List Nat).Nodup := wth_nodup (m := m) (L := []) hb1 List.nodup_nil
 refine ⟨trivial, trivial, ?_⟩
 show K1 [(1, .ptr ⟨b1, 0, none⟩)] (AMem.wth m [(b1, .cells [.int .i64 v.kind, .int .i64 v.n, .str v.s, .slice false (v.l.map valIn), .slice false (v.f.map fldIn)])])
 refine hK1 _ _ ?_; clear hK1 K1
 refine awp_reg2_seq [] [1, 4] (by decide) ?_
 intro K1 hK1
 refine ⟨trivial, ?_⟩
 show K1 [(1, .ptr ⟨b1, 0, none⟩), (4, .int .i64 1)] _
 refine hK1 _ _ ?_; clear hK1 K1
 refine awp_reg2_seq [] [1, 4, 5] (by decide) ?_
 intro K1 hK1
 refine ⟨trivial, ?_⟩
 show K1 [(1, .ptr ⟨b1, 0, none⟩), (4, .int .i64 1), (5, .int .i64 0)] _
 refine hK1 _ _ ?_; clear hK1 K1
 refine awp_seq_k ?_; intro K2 hK2
 refine awp_reg2_seq [] [1, 4, 5, 6] (by decide) ?_
 intro K1 hK1
 refine ⟨trivial, ?_⟩
 show K1 [(1, .ptr ⟨b1, 0, none⟩), (4, .int .i64 1), (5, .int .i64 0), (6, .int .i64 0)] _
 refine hK1 _ _ ?_; clear hK1 K1
 refine awp_block ?_
 refine awp_keep [1, 4, 5, 6] (by decide) ?_
 refine awp_loop_st (σ := Int × Int × Int) (fun ⟨n1, d1, i⟩ => [(1, .ptr ⟨b1, 0, none⟩), (4, .int .i64 n1), (5, .int .i64 d1), (6, .int .i64 i)]) (fun _ => (AMem.wth m [(b1, .cells [.int .i64 v.kind, .int .i64 v.n, .str v.s, .slice false (v.l.map valIn), .slice false (v.f.map fldIn)])])) (fun ⟨n1, d1, i⟩ => 0 ≤ i ∧ i ≤ v.l.length ∧ n1 = 1 + sumN depV (v.l.take i.toNat) ∧ d1 = mxF (hgtF k) (v.l.take i.toNat) 0 ∧ 0 ≤ d1 ∧ d1 ≤ depV v) (fun ⟨n1, d1, i⟩ => v.l.length - i.toNat) (1, 0, 0) rfl rfl ?_ ?_
 ·
  show 0 ≤ ((0 : Int)) ∧ ((0 : Int)) ≤ v.l.length ∧ ((1 : Int)) = 1 + sumN depV (v.l.take ((0 : Int)).toNat) ∧ ((0 : Int)) = mxF (hgtF k) (v.l.take ((0 : Int)).toNat) 0 ∧ 0 ≤ ((0 : Int)) ∧ ((0 : Int)) ≤ depV v
  exact ⟨by omega, by omega, by simp [sumN], by simp [mxF], by omega, by omega⟩
 rintro ⟨n1, d1, i⟩ hI
 replace hI : 0 ≤ i ∧ i ≤ v.l.length ∧ n1 = 1 + sumN depV (v.l.take i.toNat) ∧ d1 = mxF (hgtF k) (v.l.take i.toNat) 0 ∧ 0 ≤ d1 ∧ d1 ≤ depV v := hI
 have htk := sumN_take_le depV v.l i.toNat
 show AWP _ _ _ _ [(1, .ptr ⟨b1, 0, none⟩), (4, .int .i64 n1), (5, .int .i64 d1), (6, .int .i64 i)] (AMem.wth m [(b1, .cells [.int .i64 v.kind, .int .i64 v.n, .str v.s, .slice false (v.l.map valIn), .slice false (v.f.map fldIn)])])
 refine awp_seq_k ?_; intro K3 hK3
 refine awp_reg2_seq [] [1, 4, 5, 6, 16] (by decide) ?_
 intro K1 hK1
 refine ⟨trivial, ⟨rfl, by decide⟩, ?_⟩
 refine ar_loadp rfl (v := .slice false (v.l.map valIn)) rfl (wth_get 0 hNb1 rfl) rfl (apartOk_one rfl rfl (Nat.le_of_ble_eq_true rfl)) rfl ?_
 refine ar_len rfl valIn v.l rfl rfl rfl ?_
 refine ⟨trivial, ?_⟩
 show K1 [(1, .ptr ⟨b1, 0, none⟩), (4, .int .i64 n1), (5, .int .i64 d1), (6, .int .i64 i), (16, .bool (decide (i < (v.l.length : Int))))] _
 refine hK1 _ _ ?_; clear hK1 K1
 refine awp_cond rfl rfl (fun h1 => ?_) (fun h1 => ?_)
 ·
  replace h1 : i < (v.l.length : Int) := (of_decide_eq_true h1)
  have hdm := depL_mem (gI_mem (l := v.l) (i := i) hI.1 h1)
  have hst := sumN_take depV (l := v.l) hI.1 h1
  have hgl := hgtF_le k (gI v.l i) (by omega)
  have htk2 := sumN_take_le depV v.l (i + 1).toNat
  refine awp_skip ?_
  refine hK3 _ _ ?_; clear hK3
  refine awp_seq_k ?_; intro K4 hK4
  refine awp_block ?_
  refine awp_reg2_seq [] [1, 4, 5, 6, 7, 8] (by decide) ?_
  intro K1 hK1
  refine ⟨⟨rfl, by decide⟩, ?_⟩
  refine ar_loadp rfl (v := .slice false (v.l.map valIn)) rfl (wth_get 0 hNb1 rfl) rfl (apartOk_one rfl rfl (Nat.le_of_ble_eq_true rfl)) rfl ?_
  refine ⟨trivial, ?_⟩
  refine ar_index rfl valTop v.l i rfl rfl (valMap v.l) rfl rfl (by decide) (fun _ => rfl) (by omega) (by omega) ?_
  refine ⟨(apartOk_agg rfl rfl (Nat.le_of_ble_eq_true rfl)), ?_⟩
  refine ih (gI v.l i) (by have := depV_eq v; first | (have := depL_mem (gI_mem (l := v.l) (i := i) hI.1 (by assumption)); omega) | (have := depF_mem (gI_mem (l := v.f) (i := i2) hI2.1 (by assumption)); omega)) _ _ ?_
  refine ⟨trivial, (Nat.le_of_ble_eq_true rfl), (Nat.le_of_ble_eq_true rfl), trivial, trivial, ?_⟩
  show K1 [(1, .ptr ⟨b1, 0, none⟩), (4, .int .i64 n1), (5, .int .i64 d1), (6, .int .i64 i), (7, .int .i64 (depV (gI v.l i) : Int)), (8, .int .i64 (hgtF k (gI v.l i)))] (AMem.wth m [(b1, .cells [.int .i64 v.kind, .int .i64 v.n, .str v.s, .slice false (v.l.map valIn), .slice false (v.f.map fldIn)])])
  refine hK1 _ _ ?_; clear hK1 K1
  refine awp_reg2_seq [] [1, 4, 5, 6, 8] (by decide) ?_
  intro K1 hK1
  refine ⟨trivial, trivial, ?_⟩
  refine ar_add rfl (a := n1) (b := (depV (gI v.l i) : Int)) rfl rfl (by omega) (by omega) ?_
  refine ⟨trivial, ?_⟩
  show K1 [(1, .ptr ⟨b1, 0, none⟩), (4, .int .i64 (n1 + (depV (gI v.l i) : Int))), (5, .int .i64 d1), (6, .int .i64 i), (8, .int .i64 (hgtF k (gI v.l i)))] _
  refine hK1 _ _ ?_; clear hK1 K1
  refine awp_reg2 [] [1, 4, 5, 6] (by decide) ?_
  intro K1 hK1
  refine ⟨trivial, trivial, trivial, trivial, ?_⟩
  show K1 [(1, .ptr ⟨b1, 0, none⟩), (4, .int .i64 (n1 + (depV (gI v.l i) : Int))), (5, .int .i64 (if hgtF k (gI v.l i) > d1 then hgtF k (gI v.l i) else d1)), (6, .int .i64 i)] _
  refine hK1 _ _ ?_; clear hK1 K1
  refine hK4 _ _ ?_; clear hK4
  refine awp_reg2 [] [1, 4, 5, 6] (by decide) ?_
  intro K1 hK1
  refine ⟨trivial, ?_⟩
  refine ar_add rfl (a := i) (b := 1) rfl rfl (by omega) (by omega) ?_
  refine ⟨trivial, ?_⟩
  show K1 [(1, .ptr ⟨b1, 0, none⟩), (4, .int .i64 (n1 + (depV (gI v.l i) : Int))), (5, .int .i64 (if hgtF k (gI v.l i) > d1 then hgtF k (gI v.l i) else d1)), (6, .int .i64 (i + 1))] _
  refine hK1 _ _ ?_; clear hK1 K1
  refine ⟨(n1 + (depV (gI v.l i) : Int), if hgtF k (gI v.l i) > d1 then hgtF k (gI v.l i) else d1, i + 1), rfl, rfl, ?_, ?_⟩
  ·
   show 0 ≤ ((i + 1 : Int)) ∧ ((i + 1 : Int)) ≤ v.l.length ∧ ((n1 + (depV (gI v.l i) : Int) : Int)) = 1 + sumN depV (v.l.take ((i + 1 : Int)).toNat) ∧ ((if hgtF k (gI v.l i) > d1 then hgtF k (gI v.l i) else d1 : Int)) = mxF (hgtF k) (v.l.take ((i + 1 : Int)).toNat) 0 ∧ 0 ≤ ((if hgtF k (gI v.l i) > d1 then hgtF k (gI v.l i) else d1 : Int)) ∧ ((if hgtF k (gI v.l i) > d1 then hgtF k (gI v.l i) else d1 : Int)) ≤ depV v
   refine ⟨by omega, by omega, by omega, ?_, ?_, ?_⟩
   ·
    rw [mxF_step _ _ hI.1 h1, ← hI.2.2.2.1]
   ·
    split <;> omega
   ·
    split <;> omega
  ·
   show v.l.length - ((i + 1 : Int)).toNat < v.l.length - i.toNat
   omega
 replace h1 : (v.l.length : Int) ≤ i := (Int.not_lt.1 (of_decide_eq_false h1))
 have hfull : v.l.take i.toNat = v.l := take_full h1
 refine awp_exit ?_
 refine hK2 _ _ ?_; clear hK2
 refine awp_seq_k ?_; intro K5 hK5
 refine awp_reg2_seq [] [1, 4, 5, 9] (by decide) ?_
 intro K1 hK1
 refine ⟨trivial, ?_⟩
 show K1 [(1, .ptr ⟨b1, 0, none⟩), (4, .int .i64 n1), (5, .int .i64 d1), (9, .int .i64 0)] (AMem.wth m [(b1, .cells [.int .i64 v.kind, .int .i64 v.n, .str v.s, .slice false (v.l.map valIn), .slice false (v.f.map fldIn)])])
 refine hK1 _ _ ?_; clear hK1 K1
 refine awp_block ?_
 refine awp_keep [1, 4, 5, 9] (by decide) ?_
 refine awp_loop_st (σ := Int × Int × Int) (fun ⟨n2, d2, i2⟩ => [(1, .ptr ⟨b1, 0, none⟩), (4, .int .i64 n2), (5, .int .i64 d2), (9, .int .i64 i2)]) (fun _ => (AMem.wth m [(b1, .cells [.int .i64 v.kind, .int .i64 v.n, .str v.s, .slice false (v.l.map valIn), .slice false (v.f.map fldIn)])])) (fun ⟨n2, d2, i2⟩ => 0 ≤ i2 ∧ i2 ≤ v.f.length ∧ n2 = 1 + depL v.l + sumN (fun p : Str × Val => depV p.2) (v.f.take i2.toNat) ∧ d2 = mxF (fun p : Str × Val => hgtF k p.2) (v.f.take i2.toNat) (mxF (hgtF k) v.l 0) ∧ 0 ≤ d2 ∧ d2 ≤ depV v) (fun ⟨n2, d2, i2⟩ => v.f.length - i2.toNat) (n1, d1, 0) rfl rfl ?_ ?_
 ·
  show 0 ≤ ((0 : Int)) ∧ ((0 : Int)) ≤ v.f.length ∧ ((n1 : Int)) = 1 + depL v.l + sumN (fun p : Str × Val => depV p.2) (v.f.take ((0 : Int)).toNat) ∧ ((d1 : Int)) = mxF (fun p : Str × Val => hgtF k p.2) (v.f.take ((0 : Int)).toNat) (mxF (hgtF k) v.l 0) ∧ 0 ≤ ((d1 : Int)) ∧ ((d1 : Int)) ≤ depV v
  rw [hfull] at hI
  exact ⟨by omega, by omega, by simp [sumN]; omega, by simp [mxF]; exact hI.2.2.2.1, by omega, by omega⟩
 rintro ⟨n2, d2, i2⟩ hI2
 replace hI2 : 0 ≤ i2 ∧ i2 ≤ v.f.length ∧ n2 = 1 + depL v.l + sumN (fun p : Str × Val => depV p.2) (v.f.take i2.toNat) ∧ d2 = mxF (fun p : Str × Val => hgtF k p.2) (v.f.take i2.toNat) (mxF (hgtF k) v.l 0) ∧ 0 ≤ d2 ∧ d2 ≤ depV v := hI2
 have htf := sumN_take_le (fun p : Str × Val => depV p.2) v.f i2.toNat
 show AWP _ _ _ _ [(1, .ptr ⟨b1, 0, none⟩), (4, .int .i64 n2), (5, .int .i64 d2), (9, .int .i64 i2)] (AMem.wth m [(b1, .cells [.int .i64 v.kind, .int .i64 v.n, .str v.s, .slice false (v.l.map valIn), .slice false (v.f.map fldIn)])])
 refine awp_seq_k ?_; intro K6 hK6
 refine awp_reg2_seq [] [1, 4, 5, 9, 38] (by decide) ?_
 intro K1 hK1
 refine ⟨trivial, ⟨rfl, by decide⟩, ?_⟩
 refine ar_loadp rfl (v := .slice false (v.f.map fldIn)) rfl (wth_get 0 hNb1 rfl) rfl (apartOk_one rfl rfl (Nat.le_of_ble_eq_true rfl)) rfl ?_
 refine ar_len rfl fldIn v.f rfl rfl rfl ?_
 refine ⟨trivial, ?_⟩
 show K1 [(1, .ptr ⟨b1, 0, none⟩), (4, .int .i64 n2), (5, .int .i64 d2), (9, .int .i64 i2), (38, .bool (decide (i2 < (v.f.length : Int))))] _
 refine hK1 _ _ ?_; clear hK1 K1
 refine awp_cond rfl rfl (fun h2 => ?_) (fun h2 => ?_)
 ·
  replace h2 : i2 < (v.f.length : Int) := (of_decide_eq_true h2)
  have hdm := depF_mem (gI_mem (l := v.f) (i := i2) hI2.1 h2)
  have hst := sumN_take (fun p : Str × Val => depV p.2) (l := v.f) hI2.1 h2
  have hgl := hgtF_le k (gI v.f i2).2 (by omega)
  have htf2 := sumN_take_le (fun p : Str × Val => depV p.2) v.f (i2 + 1).toNat
  refine awp_skip ?_
  refine hK6 _ _ ?_; clear hK6
  refine awp_seq_k ?_; intro K7 hK7
  refine awp_block ?_
  refine awp_reg2_seq [] [1, 4, 5, 9, 10, 11] (by decide) ?_
  intro K1 hK1
  refine ⟨⟨rfl, by decide⟩, ?_⟩
  refine ar_loadp rfl (v := .slice false (v.f.map fldIn)) rfl (wth_get 0 hNb1 rfl) rfl (apartOk_one rfl rfl (Nat.le_of_ble_eq_true rfl)) rfl ?_
  refine ⟨trivial, ?_⟩
  refine ar_index rfl fldTop v.f i2 rfl rfl (fldMap v.f) rfl rfl (by decide) (fun _ => rfl) (by omega) (by omega) ?_
  refine ⟨⟨rfl, by decide, (Nat.le_of_ble_eq_true rfl)⟩, (apartOk_agg rfl rfl (Nat.le_of_ble_eq_true rfl)), ?_⟩
  refine ih ((gI v.f i2).2) (by have := depV_eq v; first | (have := depL_mem (gI_mem (l := v.l) (i := i) hI.1 (by assumption)); omega) | (have := depF_mem (gI_mem (l := v.f) (i := i2) hI2.1 (by assumption)); omega)) _ _ ?_
  refine ⟨trivial, (Nat.le_of_ble_eq_true rfl), (Nat.le_of_ble_eq_true rfl), trivial, trivial, ?_⟩
  show K1 [(1, .ptr ⟨b1, 0, none⟩), (4, .int .i64 n2), (5, .int .i64 d2), (9, .int .i64 i2), (10, .int .i64 (depV ((gI v.f i2).2) : Int)), (11, .int .i64 (hgtF k ((gI v.f i2).2)))] (AMem.wth m [(b1, .cells [.int .i64 v.kind, .int .i64 v.n, .str v.s, .slice false (v.l.map valIn), .slice false (v.f.map fldIn)])])
  refine hK1 _ _ ?_; clear hK1 K1
  refine awp_reg2_seq [] [1, 4, 5, 9, 11] (by decide) ?_
  intro K1 hK1
  refine ⟨trivial, trivial, ?_⟩
  refine ar_add rfl (a := n2) (b := (depV ((gI v.f i2).2) : Int)) rfl rfl (by omega) (by omega) ?_
  refine ⟨trivial, ?_⟩
  show K1 [(1, .ptr ⟨b1, 0, none⟩), (4, .int .i64 (n2 + (depV ((gI v.f i2).2) : Int))), (5, .int .i64 d2), (9, .int .i64 i2), (11, .int .i64 (hgtF k ((gI v.f i2).2)))] _
  refine hK1 _ _ ?_; clear hK1 K1
  refine awp_reg2 [] [1, 4, 5, 9] (by decide) ?_
  intro K1 hK1
  refine ⟨trivial, trivial, trivial, trivial, ?_⟩
  show K1 [(1, .ptr ⟨b1, 0, none⟩), (4, .int .i64 (n2 + (depV ((gI v.f i2).2) : Int))), (5, .int .i64 (if hgtF k ((gI v.f i2).2) > d2 then hgtF k ((gI v.f i2).2) else d2)), (9, .int .i64 i2)] _
  refine hK1 _ _ ?_; clear hK1 K1
  refine hK7 _ _ ?_; clear hK7
  refine awp_reg2 [] [1, 4, 5, 9] (by decide) ?_
  intro K1 hK1
  refine ⟨trivial, ?_⟩
  refine ar_add rfl (a := i2) (b := 1) rfl rfl (by omega) (by omega) ?_
  refine ⟨trivial, ?_⟩
  show K1 [(1, .ptr ⟨b1, 0, none⟩), (4, .int .i64 (n2 + (depV ((gI v.f i2).2) : Int))), (5, .int .i64 (if hgtF k ((gI v.f i2).2) > d2 then hgtF k ((gI v.f i2).2) else d2)), (9, .int .i64 (i2 + 1))] _
  refine hK1 _ _ ?_; clear hK1 K1
  refine ⟨(n2 + (depV ((gI v.f i2).2) : Int), if hgtF k ((gI v.f i2).2) > d2 then hgtF k ((gI v.f i2).2) else d2, i2 + 1), rfl, rfl, ?_, ?_⟩
  ·
   show 0 ≤ ((i2 + 1 : Int)) ∧ ((i2 + 1 : Int)) ≤ v.f.length ∧ ((n2 + (depV ((gI v.f i2).2) : Int) : Int)) = 1 + depL v.l + sumN (fun p : Str × Val => depV p.2) (v.f.take ((i2 + 1 : Int)).toNat) ∧ ((if hgtF k ((gI v.f i2).2) > d2 then hgtF k ((gI v.f i2).2) else d2 : Int)) = mxF (fun p : Str × Val => hgtF k p.2) (v.f.take ((i2 + 1 : Int)).toNat) (mxF (hgtF k) v.l 0) ∧ 0 ≤ ((if hgtF k ((gI v.f i2).2) > d2 then hgtF k ((gI v.f i2).2) else d2 : Int)) ∧ ((if hgtF k ((gI v.f i2).2) > d2 then hgtF k ((gI v.f i2).2) else d2 : Int)) ≤ depV v
   refine ⟨by omega, by omega, by omega, ?_, ?_, ?_⟩
   ·
    rw [mxF_step (fun p : Str × Val => hgtF k p.2) _ hI2.1 h2, ← hI2.2.2.2.1]
   ·
    split <;> omega
   ·
    split <;> omega
  ·
   show v.f.length - ((i2 + 1 : Int)).toNat < v.f.length - i2.toNat
   omega
 replace h2 : (v.f.length : Int) ≤ i2 := (Int.not_lt.1 (of_decide_eq_false h2))
 refine awp_exit ?_
 refine hK5 _ _ ?_; clear hK5
 refine awp_reg2_seq [] [2, 3] (by decide) ?_
 intro K1 hK1
 refine ⟨trivial, trivial, ?_⟩
 refine ar_add rfl (a := d2) (b := 1) rfl rfl (by omega) (by omega) ?_
 refine ⟨trivial, trivial, ?_⟩
 show K1 [(2, .int .i64 n2), (3, .int .i64 (d2 + 1))] (AMem.wth m [(b1, .cells [.int .i64 v.kind, .int .i64 v.n, .str v.s, .slice false (v.l.map valIn), .slice false (v.f.map fldIn)])])
 refine hK1 _ _ ?_; clear hK1 K1
 refine awp_ret ?_
 refine ⟨trivial, trivial, m, (wth_sub2 (m := m) [(b1, .cells [.int .i64 v.kind, .int .i64 v.n, .str v.s, .slice false (v.l.map valIn), .slice false (v.f.map fldIn)])] [] hNb1 (by simp only [List.map_cons, List.map_nil, List.forall_mem_cons]; exact ⟨hFb1, fun _ h => by cases h⟩)), ?_⟩
 show K (.tuple [.int .i64 n2, .int .i64 (d2 + 1)]) m

 have hfull2 : v.f.take i2.toNat = v.f := take_full h2
 rw [hfull2] at hI2
 have e1 : n2 = (depV v : Int) := by omega
 have e2 : d2 + 1 = hgtF (k + 1) v := by rw [hgtF, ← hI2.2.2.2.1]
 rw [e1, e2]; exact hK


theorem u_parts : ∀ (k : Nat) (v : Val), depV v < k → depV v ≤ 1000000000000 → ∀ (m : AMem) (K : AV → AMem → Prop), K (.tuple [.int .i64 (depV v : Int), .int .i64 (hgtF k v)]) m → ACalls Try.prog 101 [valTop v] m K
  | 0, _, h => absurd h (Nat.not_lt_zero _)
  | k + 1, v, h => fun hB m K hK => u_parts1 k v hB (fun w hw => u_parts k w (by omega) (by omega)) h m K hK

set_option maxHeartbeats 2000000 in
theorem u_NameMay (s : Str)  (m : AMem)  (K : AV → AMem → Prop) (hK : K (.bool (nameV s)) m) : ACalls Try.prog 84 [.str s] m K := by
 refine acalls_enter Try.func84 rfl (by decide) (Nat.le_of_ble_eq_true rfl) ?_
 refine awp_bd 0 (x := .str s) rfl (fun hbd0 => ?_)
 have hbd0_0 : s.length ≤ 140737488355328 := hbd0
 show AWP _ _ _ _ [(0, .str s)] m
 refine awp_reg2_seq [] [0] (by decide) ?_
 intro K1 hK1
 refine ⟨trivial, ?_⟩
 show K1 [(0, .str s)] m
 refine hK1 _ _ ?_; clear hK1 K1
 refine awp_seq_k ?_; intro K2 hK2
 refine awp_reg2_seq [] [0, 13] (by decide) ?_
 intro K1 hK1
 suffices key : K1 [(0, .str s), (13, .bool ((decide ((s.length : Int) < 1)) || (decide (12 < (s.length : Int)))))] m by
  refine ⟨trivial, trivial, trivial, trivial, ?_⟩
  show aopsR _ _ _ _ _ [(9, .bool (decide ((s.length : Int) < 1))), (8, .bool (decide ((s.length : Int) < 1))), (7, .int .i64 (s.length : Int)), (6, .str s), (0, .str s)] _
  revert key
  cases h1 : (decide ((s.length : Int) < 1))
  ·
   replace h1 : 1 ≤ (s.length : Int) := (Int.not_lt.1 (of_decide_eq_false h1))
   intro key
   refine ⟨trivial, trivial, trivial, ?_⟩
   exact key
  ·
   replace h1 : (s.length : Int) < 1 := (of_decide_eq_true h1)
   intro key
   refine ar_off rfl (ar_off rfl (ar_off rfl ?_))
   exact key
 refine hK1 _ _ ?_; clear hK1 K1
 refine awp_cond rfl rfl (fun h2 => ?_) (fun h2 => ?_)
 ·
  replace h2 : ((s.length : Int) < 1) ∨ (12 < (s.length : Int)) := ((borT h2).imp (fun q => (of_decide_eq_true q)) (fun q => (of_decide_eq_true q)))
  refine awp_reg2_seq [] [2] (by decide) ?_
  intro K1 hK1
  refine ⟨trivial, ?_⟩
  show K1 [(2, .bool false)] m
  refine hK1 _ _ ?_; clear hK1 K1
  refine awp_ret ?_
  refine ⟨trivial, m, fun _ _ h => h, ?_⟩
  show K (.bool false) m
 
  refine K_eq hK (congrArg AV.bool ?_)
  rw [nameV]; cases s <;> simp_all <;> omega
 replace h2 : (1 ≤ (s.length : Int)) ∧ ((s.length : Int) ≤ 12) := ⟨(Int.not_lt.1 (of_decide_eq_false (borL h2))), (Int.not_lt.1 (of_decide_eq_false (borR h2)))⟩
 refine awp_skip ?_
 refine hK2 _ _ ?_; clear hK2
 refine awp_seq_k ?_; intro K3 hK3
 refine awp_reg2_seq [] [0, 3] (by decide) ?_
 intro K1 hK1
 refine ⟨trivial, ?_⟩
 show K1 [(0, .str s), (3, .int .i64 0)] m
 refine hK1 _ _ ?_; clear hK1 K1
 refine awp_block ?_
 refine awp_keep [0, 3] (by decide) ?_
 refine awp_loop_st (σ := Int) (fun i => [(0, .str s), (3, .int .i64 i)]) (fun _ => m) (fun i => 0 ≤ i ∧ i ≤ s.length ∧ nmF s true = nmF (s.drop i.toNat) (i == 0)) (fun i => s.length - i.toNat) (0) rfl rfl ?_ ?_
 ·
  show 0 ≤ ((0 : Int)) ∧ ((0 : Int)) ≤ s.length ∧ nmF s true = nmF (s.drop ((0 : Int)).toNat) (((0 : Int)) == 0)
  exact ⟨by omega, by omega, by simp⟩
 rintro i hI
 replace hI : 0 ≤ i ∧ i ≤ s.length ∧ nmF s true = nmF (s.drop i.toNat) (i == 0) := hI
 show AWP _ _ _ _ [(0, .str s), (3, .int .i64 i)] m
 refine awp_seq_k ?_; intro K4 hK4
 refine awp_reg2_seq [] [0, 3, 17] (by decide) ?_
 intro K1 hK1
 refine ⟨trivial, trivial, trivial, trivial, ?_⟩
 show K1 [(0, .str s), (3, .int .i64 i), (17, .bool (decide (i < (s.length : Int))))] m
 refine hK1 _ _ ?_; clear hK1 K1
 refine awp_cond rfl rfl (fun h3 => ?_) (fun h3 => ?_)
 ·
  replace h3 : i < (s.length : Int) := (of_decide_eq_true h3)
  refine awp_skip ?_
  refine hK4 _ _ ?_; clear hK4
  refine awp_seq_k ?_; intro K5 hK5
  refine awp_block ?_
  refine awp_reg2_seq [] [0, 3, 4] (by decide) ?_
  intro K1 hK1
  suffices key : K1 [(0, .str s), (3, .int .i64 i), (4, .bool ((decide (97 ≤ ((gI s i).toNat : Int))) && (decide (((gI s i).toNat : Int) ≤ 122))))] m by
   refine ⟨trivial, trivial, ⟨(by omega), (by omega)⟩, trivial, trivial, ?_⟩
   show aopsR _ _ _ _ _ [(24, .bool (decide (97 ≤ ((gI s i).toNat : Int)))), (23, .bool (decide (97 ≤ ((gI s i).toNat : Int)))), (22, .int .u8 ((gI s i).toNat)), (21, .int .i64 i), (20, .str s), (0, .str s), (3, .int .i64 i), (17, .bool (decide (i < (s.length : Int))))] _
   revert key
   cases h4 : (decide (97 ≤ ((gI s i).toNat : Int)))
   ·
    replace h4 : ((gI s i).toNat : Int) < 97 := (Int.not_le.1 (of_decide_eq_false h4))
    intro key
    refine ar_off rfl (ar_off rfl (ar_off rfl (ar_off rfl ?_)))
    refine ⟨trivial, ?_⟩
    exact key
   ·
    replace h4 : 97 ≤ ((gI s i).toNat : Int) := (of_decide_eq_true h4)
    intro key
    refine ⟨trivial, trivial, ⟨(by omega), (by omega)⟩, trivial, ?_⟩
    refine ⟨trivial, ?_⟩
    exact key
  refine hK1 _ _ ?_; clear hK1 K1
  refine awp_reg2_seq [] [0, 3, 4, 5] (by decide) ?_
  intro K1 hK1
  suffices key : K1 [(0, .str s), (3, .int .i64 i), (4, .bool ((decide (97 ≤ ((gI s i).toNat : Int))) && (decide (((gI s i).toNat : Int) ≤ 122)))), (5, .bool ((decide (48 ≤ ((gI s i).toNat : Int))) && (decide (((gI s i).toNat : Int) ≤ 57))))] m by
   refine ⟨trivial, trivial, ⟨(by omega), (by omega)⟩, trivial, trivial, ?_⟩
   show aopsR _ _ _ _ _ [(34, .bool (decide (48 ≤ ((gI s i).toNat : Int)))), (33, .bool (decide (48 ≤ ((gI s i).toNat : Int)))), (32, .int .u8 ((gI s i).toNat)), (31, .int .i64 i), (30, .str s), (0, .str s), (3, .int .i64 i), (4, .bool ((decide (97 ≤ ((gI s i).toNat : Int))) && (decide (((gI s i).toNat : Int) ≤ 122))))] _
   revert key
   cases h5 : (decide (48 ≤ ((gI s i).toNat : Int)))
   ·
    replace h5 : ((gI s i).toNat : Int) < 48 := (Int.not_le.1 (of_decide_eq_false h5))
    intro key
    refine ar_off rfl (ar_off rfl (ar_off rfl (ar_off rfl ?_)))
    refine ⟨trivial, ?_⟩
    exact key
   ·
    replace h5 : 48 ≤ ((gI s i).toNat : Int) := (of_decide_eq_true h5)
    intro key
    refine ⟨trivial, trivial, ⟨(by omega), (by omega)⟩, trivial, ?_⟩
    refine ⟨trivial, ?_⟩
    exact key
  refine hK1 _ _ ?_; clear hK1 K1
  refine awp_reg2_seq [] [0, 3, 49] (by decide) ?_
  intro K1 hK1
  suffices key : K1 [(0, .str s), (3, .int .i64 i), (49, .bool ((!((decide (97 ≤ ((gI s i).toNat : Int))) && (decide (((gI s i).toNat : Int) ≤ 122)))) && ((!((decide (48 ≤ ((gI s i).toNat : Int))) && (decide (((gI s i).toNat : Int) ≤ 57)))) || (i == 0))))] m by
   refine ⟨trivial, trivial, trivial, ?_⟩
   show aopsR _ _ _ _ _ [(42, .bool (!((decide (97 ≤ ((gI s i).toNat : Int))) && (decide (((gI s i).toNat : Int) ≤ 122))))), (41, .bool (!((decide (97 ≤ ((gI s i).toNat : Int))) && (decide (((gI s i).toNat : Int) ≤ 122))))), (40, .bool ((decide (97 ≤ ((gI s i).toNat : Int))) && (decide (((gI s i).toNat : Int) ≤ 122)))), (0, .str s), (3, .int .i64 i), (4, .bool ((decide (97 ≤ ((gI s i).toNat : Int))) && (decide (((gI s i).toNat : Int) ≤ 122)))), (5, .bool ((decide (48 ≤ ((gI s i).toNat : Int))) && (decide (((gI s i).toNat : Int) ≤ 57))))] _
   revert key
   cases h6 : ((decide (97 ≤ ((gI s i).toNat : Int))) && (decide (((gI s i).toNat : Int) ≤ 122)))
   ·
    replace h6 : (((gI s i).toNat : Int) < 97) ∨ (122 < ((gI s i).toNat : Int)) := ((bandF h6).imp (fun q => (Int.not_le.1 (of_decide_eq_false q))) (fun q => (Int.not_le.1 (of_decide_eq_false q))))
    intro key
    refine ⟨trivial, trivial, trivial, ?_⟩
    show aopsR _ _ _ _ _ [(45, .bool (!((decide (48 ≤ ((gI s i).toNat : Int))) && (decide (((gI s i).toNat : Int) ≤ 57))))), (44, .bool (!((decide (48 ≤ ((gI s i).toNat : Int))) && (decide (((gI s i).toNat : Int) ≤ 57))))), (43, .bool ((decide (48 ≤ ((gI s i).toNat : Int))) && (decide (((gI s i).toNat : Int) ≤ 57)))), (42, .bool true), (41, .bool true), (40, .bool false), (0, .str s), (3, .int .i64 i), (4, .bool false), (5, .bool ((decide (48 ≤ ((gI s i).toNat : Int))) && (decide (((gI s i).toNat : Int) ≤ 57))))] _
    revert key
    cases h7 : ((decide (48 ≤ ((gI s i).toNat : Int))) && (decide (((gI s i).toNat : Int) ≤ 57)))
    ·
     replace h7 : (((gI s i).toNat : Int) < 48) ∨ (57 < ((gI s i).toNat : Int)) := ((bandF h7).imp (fun q => (Int.not_le.1 (of_decide_eq_false q))) (fun q => (Int.not_le.1 (of_decide_eq_false q))))
     intro key
     refine ar_off rfl (ar_off rfl ?_)
     exact key
    ·
     replace h7 : (48 ≤ ((gI s i).toNat : Int)) ∧ (((gI s i).toNat : Int) ≤ 57) := ⟨(of_decide_eq_true (bandL h7)), (of_decide_eq_true (bandR h7))⟩
     intro key
     refine ⟨trivial, trivial, ?_⟩
     exact key
   ·
    replace h6 : (97 ≤ ((gI s i).toNat : Int)) ∧ (((gI s i).toNat : Int) ≤ 122) := ⟨(of_decide_eq_true (bandL h6)), (of_decide_eq_true (bandR h6))⟩
    intro key
    refine ar_off rfl (ar_off rfl (ar_off rfl (ar_off rfl (ar_off rfl (ar_off rfl ?_)))))
    exact key
  refine hK1 _ _ ?_; clear hK1 K1
  refine awp_cond rfl rfl (fun h8 => ?_) (fun h8 => ?_)
  ·
   replace h8 : ((((gI s i).toNat : Int) < 97) ∨ (122 < ((gI s i).toNat : Int))) ∧ (((((gI s i).toNat : Int) < 48) ∨ (57 < ((gI s i).toNat : Int))) ∨ (i = 0)) := ⟨((bandF (bnT (bandL h8))).imp (fun q => (Int.not_le.1 (of_decide_eq_false q))) (fun q => (Int.not_le.1 (of_decide_eq_false q)))), ((borT (bandR h8)).imp (fun q => ((bandF (bnT q)).imp (fun q => (Int.not_le.1 (of_decide_eq_false q))) (fun q => (Int.not_le.1 (of_decide_eq_false q))))) (fun q => (eq_of_beq q)))⟩
   refine awp_reg2_seq [] [2] (by decide) ?_
   intro K1 hK1
   refine ⟨trivial, ?_⟩
   show K1 [(2, .bool false)] m
   refine hK1 _ _ ?_; clear hK1 K1
   refine awp_ret ?_
   refine ⟨trivial, m, fun _ _ h => h, ?_⟩
   show K (.bool false) m
  
   refine K_eq hK (congrArg AV.bool ?_)
   have hb : (letC (gI s i) || (!(i == 0) && digC (gI s i))) = false := by
    rw [Bool.eq_false_iff]; intro hh; simp [letC, digC] at hh; omega
   rw [nameV, hI.2.2, nmF_step hI.1 h3, hb]; rfl
  replace h8 : ((97 ≤ ((gI s i).toNat : Int)) ∧ (((gI s i).toNat : Int) ≤ 122)) ∨ (((48 ≤ ((gI s i).toNat : Int)) ∧ (((gI s i).toNat : Int) ≤ 57)) ∧ (i ≠ 0)) := ((bandF h8).imp (fun q => ⟨(of_decide_eq_true (bandL (bnF q))), (of_decide_eq_true (bandR (bnF q)))⟩) (fun q => ⟨⟨(of_decide_eq_true (bandL (bnF (borL q)))), (of_decide_eq_true (bandR (bnF (borL q))))⟩, (ne_of_beq_false (borR q))⟩))
  refine awp_skip ?_
  refine hK5 _ _ ?_; clear hK5
  refine awp_reg2 [] [0, 3] (by decide) ?_
  intro K1 hK1
  refine ⟨trivial, ?_⟩
  refine ar_add rfl (a := i) (b := 1) rfl rfl (by omega) (by omega) ?_
  refine ⟨trivial, ?_⟩
  show K1 [(0, .str s), (3, .int .i64 (i + 1))] m
  refine hK1 _ _ ?_; clear hK1 K1
  refine ⟨(i + 1), rfl, rfl, ?_, ?_⟩
  ·
   show 0 ≤ ((i + 1 : Int)) ∧ ((i + 1 : Int)) ≤ s.length ∧ nmF s true = nmF (s.drop ((i + 1 : Int)).toNat) (((i + 1 : Int)) == 0)
   have hb : (letC (gI s i) || (!(i == 0) && digC (gI s i))) = true := by simp [letC, digC]; omega
   exact ⟨by omega, by omega, by rw [hI.2.2, nmF_step hI.1 h3, hb]; rfl⟩
  ·
   show s.length - ((i + 1 : Int)).toNat < s.length - i.toNat
   omega
 replace h3 : (s.length : Int) ≤ i := (Int.not_lt.1 (of_decide_eq_false h3))
 refine awp_exit ?_
 refine hK3 _ _ ?_; clear hK3
 refine awp_reg2_seq [] [2] (by decide) ?_
 intro K1 hK1
 refine ⟨trivial, ?_⟩
 show K1 [(2, .bool true)] m
 refine hK1 _ _ ?_; clear hK1 K1
 refine awp_ret ?_
 refine ⟨trivial, m, fun _ _ h => h, ?_⟩
 show K (.bool true) m

 refine K_eq hK (congrArg AV.bool ?_)
 have ha : nmF s true = true := by rw [hI.2.2, List.drop_eq_nil_of_le (by omega)]; rfl
 rw [nameV, ha]; cases s <;> simp at * <;> omega


theorem len0 (a b : Nat) : ((a : Int) + (b : Int) == 0) = (((a : Int) == 0) && ((b : Int) == 0)) := by
  rw [Bool.eq_iff_iff]; simp; omega
theorem recOk_nil (p : Option Str) : recOk p [] = true := by cases p <;> rfl
theorem shp_1 {k : Nat} {v : Val} (h : v.l.all (shpF k) = false) : shpF (k + 1) v = false := by rw [shpF, h]; simp
theorem shp_2 {k : Nat} {v : Val} (h : v.f.all (fun p => shpF k p.2) = false) : shpF (k + 1) v = false := by rw [shpF, h]; simp
theorem shpOk_rec {v : Val} (h : recOk none v.f = false) : shpOk v = false := by
  have hf : v.f ≠ [] := by intro c; rw [c, recOk_nil] at h; cases h
  have hl : 0 < v.f.length := List.length_pos_iff.2 hf
  unfold shpOk
  repeat' split
  all_goals first | rfl | (rw [h]; simp; done) | (rw [Bool.eq_false_iff]; intro c; simp at c; first | omega | (simp_all; done))
theorem shp_3 {k : Nat} {v : Val} (h : recOk none v.f = false) : shpF (k + 1) v = false := by rw [shpF, shpOk_rec h]; rfl
theorem shp_4 {k : Nat} {v : Val} (h1 : v.l.all (shpF k) = true) (h2 : v.f.all (fun p => shpF k p.2) = true) : shpF (k + 1) v = shpOk v := by rw [shpF, h1, h2]; simp

set_option maxHeartbeats 8000000 in
theorem u_shaped1 (k : Nat) (v : Val) (ih : ∀ w : Val, depV w < depV v → ∀ (m : AMem) (K : AV → AMem → Prop), K (.bool (shpF k w)) m → ACalls Try.prog 102 [valTop w] m K) (m : AMem)  (K : AV → AMem → Prop) (hK : K (.bool (shpF (k + 1) v)) m) : ACalls Try.prog 102 [valTop v] m K := by
 refine acalls_enter Try.func102 rfl (by decide) (Nat.le_of_ble_eq_true rfl) ?_
 refine awp_bd 0 (x := valTop v) rfl (fun hbd0 => ?_)
 have hbd0_2 : v.s.length ≤ 140737488355328 := (hbd0 2 (Nat.le_of_ble_eq_true rfl))
 have hbd0_3 : v.l.length ≤ 140737488355328 := bd_map (hbd0 3 (Nat.le_of_ble_eq_true rfl))
 have hbd0_4 : v.f.length ≤ 140737488355328 := bd_map (hbd0 4 (Nat.le_of_ble_eq_true rfl))
 show AWP _ _ _ _ [(0, valTop v)] m
 refine awp_reg2_seq [] [1] (by decide) ?_
 intro K1 hK1
 refine ar_box rfl (m := m) (L := []) (v := valTop v) (by rfl) rfl ?_
 intro b1 hb1
 have hFb1 : m b1 = none := wth_none (m := m) (L := []) hb1
 have hNb1 : ([b1] : List Nat).Nodup := wth_nodup (m := m) (L := []) hb1 List.nodup_nil
 refine ⟨trivial, ?_⟩
 show K1 [(1, .ptr ⟨b1, 0, none⟩)] (AMem.wth m [(b1, .cells [.int .i64 v.kind, .int .i64 v.n, .str v.s, .slice false (v.l.map valIn), .slice false (v.f.map fldIn)])])
 refine hK1 _ _ ?_; clear hK1 K1
 refine awp_seq_k ?_; intro K2 hK2
 refine awp_reg2_seq [] [1, 3] (by decide) ?_
 intro K1 hK1
 refine ⟨trivial, ?_⟩
 show K1 [(1, .ptr ⟨b1, 0, none⟩), (3, .int .i64 0)] _
 refine hK1 _ _ ?_; clear hK1 K1
 refine awp_block ?_
 refine awp_keep [1, 3] (by decide) ?_
 refine awp_loop_st (σ := Int) (fun i => [(1, .ptr ⟨b1, 0, none⟩), (3, .int .i64 i)]) (fun _ => (AMem.wth m [(b1, .cells [.int .i64 v.kind, .int .i64 v.n, .str v.s, .slice false (v.l.map valIn), .slice false (v.f.map fldIn)])])) (fun i => 0 ≤ i ∧ i ≤ v.l.length ∧ v.l.all (shpF k) = (v.l.drop i.toNat).all (shpF k)) (fun i => v.l.length - i.toNat) (0) rfl rfl ?_ ?_
 ·
  show 0 ≤ ((0 : Int)) ∧ ((0 : Int)) ≤ v.l.length ∧ v.l.all (shpF k) = (v.l.drop ((0 : Int)).toNat).all (shpF k)
  exact ⟨by omega, by omega, rfl⟩
 rintro i hI
 replace hI : 0 ≤ i ∧ i ≤ v.l.length ∧ v.l.all (shpF k) = (v.l.drop i.toNat).all (shpF k) := hI
 show AWP _ _ _ _ [(1, .ptr ⟨b1, 0, none⟩), (3, .int .i64 i)] (AMem.wth m [(b1, .cells [.int .i64 v.kind, .int .i64 v.n, .str v.s, .slice false (v.l.map valIn), .slice false (v.f.map fldIn)])])
 refine awp_seq_k ?_; intro K3 hK3
 refine awp_reg2_seq [] [1, 3, 16] (by decide) ?_
 intro K1 hK1
 refine ⟨trivial, ⟨rfl, by decide⟩, ?_⟩
 refine ar_loadp rfl (v := .slice false (v.l.map valIn)) rfl (wth_get 0 hNb1 rfl) rfl (apartOk_one rfl rfl (Nat.le_of_ble_eq_true rfl)) rfl ?_
 refine ar_len rfl valIn v.l rfl rfl rfl ?_
 refine ⟨trivial, ?_⟩
 show K1 [(1, .ptr ⟨b1, 0, none⟩), (3, .int .i64 i), (16, .bool (decide (i < (v.l.length : Int))))] _
 refine hK1 _ _ ?_; clear hK1 K1
 refine awp_cond rfl rfl (fun h1 => ?_) (fun h1 => ?_)
 ·
  replace h1 : i < (v.l.length : Int) := (of_decide_eq_true h1)
  refine awp_skip ?_
  refine hK3 _ _ ?_; clear hK3
  refine awp_seq_k ?_; intro K4 hK4
  refine awp_block ?_
  refine awp_reg2_seq [] [1, 3, 4] (by decide) ?_
  intro K1 hK1
  refine ⟨⟨rfl, by decide⟩, ?_⟩
  refine ar_loadp rfl (v := .slice false (v.l.map valIn)) rfl (wth_get 0 hNb1 rfl) rfl (apartOk_one rfl rfl (Nat.le_of_ble_eq_true rfl)) rfl ?_
  refine ⟨trivial, ?_⟩
  refine ar_index rfl valTop v.l i rfl rfl (valMap v.l) rfl rfl (by decide) (fun _ => rfl) (by omega) (by omega) ?_
  refine ⟨(apartOk_agg rfl rfl (Nat.le_of_ble_eq_true rfl)), ?_⟩
  refine ih (gI v.l i) (by have := depV_eq v; first | (have := depL_mem (gI_mem (l := v.l) (i := i) hI.1 (by assumption)); omega) | (have := depF_mem (gI_mem (l := v.f) (i := i2) hI2.1 (by assumption)); omega)) _ _ ?_
  refine ⟨trivial, ?_⟩
  show K1 [(1, .ptr ⟨b1, 0, none⟩), (3, .int .i64 i), (4, .bool (shpF k (gI v.l i)))] (AMem.wth m [(b1, .cells [.int .i64 v.kind, .int .i64 v.n, .str v.s, .slice false (v.l.map valIn), .slice false (v.f.map fldIn)])])
  refine hK1 _ _ ?_; clear hK1 K1
  refine awp_reg2_seq [] [1, 3, 26] (by decide) ?_
  intro K1 hK1
  refine ⟨trivial, trivial, ?_⟩
  show K1 [(1, .ptr ⟨b1, 0, none⟩), (3, .int .i64 i), (26, .bool (!(shpF k (gI v.l i))))] _
  refine hK1 _ _ ?_; clear hK1 K1
  refine awp_cond rfl rfl (fun h2 => ?_) (fun h2 => ?_)
  ·
   replace h2 : shpF k (gI v.l i) = false := (bnT h2)
   refine awp_reg2_seq [] [2] (by decide) ?_
   intro K1 hK1
   refine ⟨trivial, ?_⟩
   show K1 [(2, .bool false)] (AMem.wth m [(b1, .cells [.int .i64 v.kind, .int .i64 v.n, .str v.s, .slice false (v.l.map valIn), .slice false (v.f.map fldIn)])])
   refine hK1 _ _ ?_; clear hK1 K1
   refine awp_ret ?_
   refine ⟨trivial, m, (wth_sub2 (m := m) [(b1, .cells [.int .i64 v.kind, .int .i64 v.n, .str v.s, .slice false (v.l.map valIn), .slice false (v.f.map fldIn)])] [] hNb1 (by simp only [List.map_cons, List.map_nil, List.forall_mem_cons]; exact ⟨hFb1, fun _ h => by cases h⟩)), ?_⟩
   show K (.bool false) m
  
   rw [shp_1 (by rw [hI.2.2, all_drop hI.1 h1, h2, Bool.false_and])] at hK; exact hK
  replace h2 : shpF k (gI v.l i) = true := (bnF h2)
  refine awp_skip ?_
  refine hK4 _ _ ?_; clear hK4
  refine awp_reg2 [] [1, 3] (by decide) ?_
  intro K1 hK1
  refine ⟨trivial, ?_⟩
  refine ar_add rfl (a := i) (b := 1) rfl rfl (by omega) (by omega) ?_
  refine ⟨trivial, ?_⟩
  show K1 [(1, .ptr ⟨b1, 0, none⟩), (3, .int .i64 (i + 1))] (AMem.wth m [(b1, .cells [.int .i64 v.kind, .int .i64 v.n, .str v.s, .slice false (v.l.map valIn), .slice false (v.f.map fldIn)])])
  refine hK1 _ _ ?_; clear hK1 K1
  refine ⟨(i + 1), rfl, rfl, ?_, ?_⟩
  ·
   show 0 ≤ ((i + 1 : Int)) ∧ ((i + 1 : Int)) ≤ v.l.length ∧ v.l.all (shpF k) = (v.l.drop ((i + 1 : Int)).toNat).all (shpF k)
   exact ⟨by omega, by omega, by rw [hI.2.2, all_drop hI.1 h1, h2, Bool.true_and]⟩
  ·
   show v.l.length - ((i + 1 : Int)).toNat < v.l.length - i.toNat
   omega
 replace h1 : (v.l.length : Int) ≤ i := (Int.not_lt.1 (of_decide_eq_false h1))
 have hL : v.l.all (shpF k) = true := by rw [hI.2.2, List.drop_eq_nil_of_le (by omega)]; rfl
 refine awp_exit ?_
 refine hK2 _ _ ?_; clear hK2
 refine awp_seq_k ?_; intro K5 hK5
 refine awp_reg2_seq [] [1, 5] (by decide) ?_
 intro K1 hK1
 refine ⟨trivial, ?_⟩
 show K1 [(1, .ptr ⟨b1, 0, none⟩), (5, .int .i64 0)] (AMem.wth m [(b1, .cells [.int .i64 v.kind, .int .i64 v.n, .str v.s, .slice false (v.l.map valIn), .slice false (v.f.map fldIn)])])
 refine hK1 _ _ ?_; clear hK1 K1
 refine awp_block ?_
 refine awp_keep [1, 5] (by decide) ?_
 refine awp_loop_st (σ := Int) (fun i2 => [(1, .ptr ⟨b1, 0, none⟩), (5, .int .i64 i2)]) (fun _ => (AMem.wth m [(b1, .cells [.int .i64 v.kind, .int .i64 v.n, .str v.s, .slice false (v.l.map valIn), .slice false (v.f.map fldIn)])])) (fun i2 => 0 ≤ i2 ∧ i2 ≤ v.f.length ∧ v.f.all (fun p => shpF k p.2) = (v.f.drop i2.toNat).all (fun p => shpF k p.2) ∧ recOk none v.f = recOk (prevN v.f i2) (v.f.drop i2.toNat)) (fun i2 => v.f.length - i2.toNat) (0) rfl rfl ?_ ?_
 ·
  show 0 ≤ ((0 : Int)) ∧ ((0 : Int)) ≤ v.f.length ∧ v.f.all (fun p => shpF k p.2) = (v.f.drop ((0 : Int)).toNat).all (fun p => shpF k p.2) ∧ recOk none v.f = recOk (prevN v.f ((0 : Int))) (v.f.drop ((0 : Int)).toNat)
  exact ⟨by omega, by omega, rfl, rfl⟩
 rintro i2 hI2
 replace hI2 : 0 ≤ i2 ∧ i2 ≤ v.f.length ∧ v.f.all (fun p => shpF k p.2) = (v.f.drop i2.toNat).all (fun p => shpF k p.2) ∧ recOk none v.f = recOk (prevN v.f i2) (v.f.drop i2.toNat) := hI2
 show AWP _ _ _ _ [(1, .ptr ⟨b1, 0, none⟩), (5, .int .i64 i2)] (AMem.wth m [(b1, .cells [.int .i64 v.kind, .int .i64 v.n, .str v.s, .slice false (v.l.map valIn), .slice false (v.f.map fldIn)])])
 refine awp_seq_k ?_; intro K6 hK6
 refine awp_reg2_seq [] [1, 5, 31] (by decide) ?_
 intro K1 hK1
 refine ⟨trivial, ⟨rfl, by decide⟩, ?_⟩
 refine ar_loadp rfl (v := .slice false (v.f.map fldIn)) rfl (wth_get 0 hNb1 rfl) rfl (apartOk_one rfl rfl (Nat.le_of_ble_eq_true rfl)) rfl ?_
 refine ar_len rfl fldIn v.f rfl rfl rfl ?_
 refine ⟨trivial, ?_⟩
 show K1 [(1, .ptr ⟨b1, 0, none⟩), (5, .int .i64 i2), (31, .bool (decide (i2 < (v.f.length : Int))))] _
 refine hK1 _ _ ?_; clear hK1 K1
 refine awp_cond rfl rfl (fun h3 => ?_) (fun h3 => ?_)
 ·
  replace h3 : i2 < (v.f.length : Int) := (of_decide_eq_true h3)
  refine awp_skip ?_
  refine hK6 _ _ ?_; clear hK6
  refine awp_seq_k ?_; intro K7 hK7
  refine awp_block ?_
  refine awp_reg2_seq [] [1, 5, 6] (by decide) ?_
  intro K1 hK1
  refine ⟨⟨rfl, by decide⟩, ?_⟩
  refine ar_loadp rfl (v := .slice false (v.f.map fldIn)) rfl (wth_get 0 hNb1 rfl) rfl (apartOk_one rfl rfl (Nat.le_of_ble_eq_true rfl)) rfl ?_
  refine ⟨trivial, ?_⟩
  refine ar_index rfl fldTop v.f i2 rfl rfl (fldMap v.f) rfl rfl (by decide) (fun _ => rfl) (by omega) (by omega) ?_
  refine ⟨⟨rfl, by decide, (Nat.le_of_ble_eq_true rfl)⟩, (apartOk_agg rfl rfl (Nat.le_of_ble_eq_true rfl)), ?_⟩
  refine ih ((gI v.f i2).2) (by have := depV_eq v; first | (have := depL_mem (gI_mem (l := v.l) (i := i) hI.1 (by assumption)); omega) | (have := depF_mem (gI_mem (l := v.f) (i := i2) hI2.1 (by assumption)); omega)) _ _ ?_
  refine ⟨trivial, ?_⟩
  show K1 [(1, .ptr ⟨b1, 0, none⟩), (5, .int .i64 i2), (6, .bool (shpF k ((gI v.f i2).2)))] (AMem.wth m [(b1, .cells [.int .i64 v.kind, .int .i64 v.n, .str v.s, .slice false (v.l.map valIn), .slice false (v.f.map fldIn)])])
  refine hK1 _ _ ?_; clear hK1 K1
  refine awp_reg2_seq [] [1, 5, 6, 7] (by decide) ?_
  intro K1 hK1
  refine ⟨⟨rfl, by decide⟩, ?_⟩
  refine ar_loadp rfl (v := .slice false (v.f.map fldIn)) rfl (wth_get 0 hNb1 rfl) rfl (apartOk_one rfl rfl (Nat.le_of_ble_eq_true rfl)) rfl ?_
  refine ⟨trivial, ?_⟩
  refine ar_index rfl fldTop v.f i2 rfl rfl (fldMap v.f) rfl rfl (by decide) (fun _ => rfl) (by omega) (by omega) ?_
  refine ⟨⟨rfl, by decide, (Nat.le_of_ble_eq_true rfl)⟩, (apartOk_one rfl rfl (Nat.le_of_ble_eq_true rfl)), ?_⟩
  refine u_NameMay ((gI v.f i2).1) _ _ ?_
  refine ⟨trivial, ?_⟩
  show K1 [(1, .ptr ⟨b1, 0, none⟩), (5, .int .i64 i2), (6, .bool (shpF k ((gI v.f i2).2))), (7, .bool (nameV ((gI v.f i2).1)))] _
  refine hK1 _ _ ?_; clear hK1 K1
  refine awp_draw_seq Try.mixed [] [1, 5, 73] (by decide) (by decide) ?_
  intro K1 hK1
  suffices key : K1 [(1, .ptr ⟨b1, 0, none⟩), (5, .int .i64 i2), (73, .bool (((!(shpF k ((gI v.f i2).2))) || (!(nameV ((gI v.f i2).1)))) || ((decide (0 < i2)) && (!(Op.bytesLess ((gI v.f (i2 - 1)).1) ((gI v.f i2).1))))))] (AMem.wth m [(b1, .cells [.int .i64 v.kind, .int .i64 v.n, .str v.s, .slice false (v.l.map valIn), .slice false (v.f.map fldIn)])]) by
   refine ⟨trivial, trivial, trivial, ?_⟩
   show pseq _ _ _ _ _ [(50, .bool (!(shpF k ((gI v.f i2).2)))), (49, .bool (!(shpF k ((gI v.f i2).2)))), (48, .bool (shpF k ((gI v.f i2).2))), (1, .ptr ⟨b1, 0, none⟩), (5, .int .i64 i2), (6, .bool (shpF k ((gI v.f i2).2))), (7, .bool (nameV ((gI v.f i2).1)))] _
   revert key
   cases h4 : (shpF k ((gI v.f i2).2))
   ·
    replace h4 : shpF k ((gI v.f i2).2) = false := h4
    intro key
    refine pq_off rfl rfl ?_
    refine pq_off rfl rfl ?_
    refine ⟨trivial, ?_⟩
    refine ⟨trivial, ?_⟩
    refine pq_off rfl rfl ?_
    refine pq_off rfl rfl ?_
    refine pq_off rfl rfl ?_
    refine pq_off rfl rfl ?_
    refine pq_off rfl rfl ?_
    refine pq_off rfl rfl ?_
    refine pq_off rfl rfl ?_
    refine pq_off rfl rfl ?_
    refine pq_off rfl rfl ?_
    refine pq_off rfl rfl ?_
    refine pq_off rfl rfl ?_
    refine pq_off rfl rfl ?_
    refine pq_off rfl rfl ?_
    refine pq_off rfl rfl ?_
    refine pq_off rfl rfl ?_
    refine pq_off rfl rfl ?_
    refine pq_off rfl rfl ?_
    refine pq_off rfl rfl ?_
    refine ⟨trivial, ?_⟩
    exact key
   ·
    replace h4 : shpF k ((gI v.f i2).2) = true := h4
    intro key
    refine ⟨trivial, trivial, trivial, ?_⟩
    refine ⟨trivial, ?_⟩
    show pseq _ _ _ _ _ [(54, .bool (!(nameV ((gI v.f i2).1)))), (53, .bool (!(nameV ((gI v.f i2).1)))), (52, .bool (!(nameV ((gI v.f i2).1)))), (51, .bool (nameV ((gI v.f i2).1))), (50, .bool false), (49, .bool false), (48, .bool true), (1, .ptr ⟨b1, 0, none⟩), (5, .int .i64 i2), (6, .bool true), (7, .bool (nameV ((gI v.f i2).1)))] _
    revert key
    cases h5 : (nameV ((gI v.f i2).1))
    ·
     replace h5 : nameV ((gI v.f i2).1) = false := h5
     intro key
     refine pq_off rfl rfl ?_
     refine pq_off rfl rfl ?_
     refine pq_off rfl rfl ?_
     refine pq_off rfl rfl ?_
     refine pq_off rfl rfl ?_
     refine pq_off rfl rfl ?_
     refine pq_off rfl rfl ?_
     refine pq_off rfl rfl ?_
     refine pq_off rfl rfl ?_
     refine pq_off rfl rfl ?_
     refine pq_off rfl rfl ?_
     refine pq_off rfl rfl ?_
     refine pq_off rfl rfl ?_
     refine pq_off rfl rfl ?_
     refine pq_off rfl rfl ?_
     refine pq_off rfl rfl ?_
     refine pq_off rfl rfl ?_
     refine pq_off rfl rfl ?_
     refine ⟨trivial, ?_⟩
     exact key
    ·
     replace h5 : nameV ((gI v.f i2).1) = true := h5
     intro key
     refine ⟨trivial, trivial, trivial, ?_⟩
     show pseq _ _ _ _ _ [(57, .bool (decide (0 < i2))), (56, .bool (decide (0 < i2))), (55, .int .i64 i2), (54, .bool false), (53, .bool false), (52, .bool false), (51, .bool true), (50, .bool false), (49, .bool false), (48, .bool true), (1, .ptr ⟨b1, 0, none⟩), (5, .int .i64 i2), (6, .bool true), (7, .bool true)] _
     revert key
     cases h6 : (decide (0 < i2))
     ·
      replace h6 : i2 ≤ 0 := (Int.not_lt.1 (of_decide_eq_false h6))
      intro key
      refine pq_off rfl rfl ?_
      refine pq_off rfl rfl ?_
      refine pq_off rfl rfl ?_
      refine pq_off rfl rfl ?_
      refine pq_off rfl rfl ?_
      refine pq_off rfl rfl ?_
      refine pq_off rfl rfl ?_
      refine pq_off rfl rfl ?_
      refine pq_off rfl rfl ?_
      refine pq_off rfl rfl ?_
      refine pq_off rfl rfl ?_
      refine pq_off rfl rfl ?_
      refine pq_off rfl rfl ?_
      refine pq_off rfl rfl ?_
      refine ⟨trivial, ?_⟩
      refine ⟨trivial, ?_⟩
      exact key
     ·
      replace h6 : 0 < i2 := (of_decide_eq_true h6)
      intro key
      refine ⟨⟨rfl, by decide⟩, ?_⟩
      refine pq_loadp rfl (v := .slice false (v.f.map fldIn)) rfl (wth_get 0 hNb1 rfl) (apartOk_one rfl rfl (Nat.le_of_ble_eq_true rfl)) rfl ?_
      refine ⟨trivial, ?_⟩
      refine pq_sub rfl (a := i2) (b := 1) rfl rfl (by omega) (by omega) ?_
      refine pq_index rfl fldTop v.f (i2 - 1) rfl rfl (fldMap v.f) rfl rfl (by decide) (fun _ => rfl) (by omega) (by omega) ?_
      refine ⟨⟨rfl, by decide, (Nat.le_of_ble_eq_true rfl)⟩, (apartOk_one rfl rfl (Nat.le_of_ble_eq_true rfl)), ⟨rfl, by decide⟩, ?_⟩
      refine pq_loadp rfl (v := .slice false (v.f.map fldIn)) rfl (wth_get 0 hNb1 rfl) (apartOk_one rfl rfl (Nat.le_of_ble_eq_true rfl)) rfl ?_
      refine ⟨trivial, ?_⟩
      refine pq_index rfl fldTop v.f i2 rfl rfl (fldMap v.f) rfl rfl (by decide) (fun _ => rfl) (by omega) (by omega) ?_
      refine ⟨⟨rfl, by decide, (Nat.le_of_ble_eq_true rfl)⟩, (apartOk_one rfl rfl (Nat.le_of_ble_eq_true rfl)), trivial, trivial, ?_⟩
      refine ⟨trivial, ?_⟩
      exact key
  refine hK1 _ _ ?_; clear hK1 K1
  refine awp_cond rfl rfl (fun h7 => ?_) (fun h7 => ?_)
  ·
   replace h7 : ((shpF k ((gI v.f i2).2) = false) ∨ (nameV ((gI v.f i2).1) = false)) ∨ ((0 < i2) ∧ (Op.bytesLess ((gI v.f (i2 - 1)).1) ((gI v.f i2).1) = false)) := ((borT h7).imp (fun q => ((borT q).imp (fun q => (bnT q)) (fun q => (bnT q)))) (fun q => ⟨(of_decide_eq_true (bandL q)), (bnT (bandR q))⟩))
   refine awp_reg2_seq [] [2] (by decide) ?_
   intro K1 hK1
   refine ⟨trivial, ?_⟩
   show K1 [(2, .bool false)] (AMem.wth m [(b1, .cells [.int .i64 v.kind, .int .i64 v.n, .str v.s, .slice false (v.l.map valIn), .slice false (v.f.map fldIn)])])
   refine hK1 _ _ ?_; clear hK1 K1
   refine awp_ret ?_
   refine ⟨trivial, m, (wth_sub2 (m := m) [(b1, .cells [.int .i64 v.kind, .int .i64 v.n, .str v.s, .slice false (v.l.map valIn), .slice false (v.f.map fldIn)])] [] hNb1 (by simp only [List.map_cons, List.map_nil, List.forall_mem_cons]; exact ⟨hFb1, fun _ h => by cases h⟩)), ?_⟩
   show K (.bool false) m
  
   have hz : shpF (k + 1) v = false := by
    rcases h7 with (q | q) | q
    ·
     exact shp_2 (by rw [hI2.2.2.1, all_drop (g := fun p : Str × Val => shpF k p.2) hI2.1 h3, q, Bool.false_and])
    ·
     exact shp_3 (by rw [hI2.2.2.2, recOk_step hI2.1 h3, q]; rfl)
    ·
     exact shp_3 (by rw [hI2.2.2.2, recOk_step hI2.1 h3, q.2, show (i2 == 0) = false from by simp; omega]; simp)
   rw [hz] at hK; exact hK
  replace h7 : ((shpF k ((gI v.f i2).2) = true) ∧ (nameV ((gI v.f i2).1) = true)) ∧ ((i2 ≤ 0) ∨ (Op.bytesLess ((gI v.f (i2 - 1)).1) ((gI v.f i2).1) = true)) := ⟨⟨(bnF (borL (borL h7))), (bnF (borR (borL h7)))⟩, ((bandF (borR h7)).imp (fun q => (Int.not_lt.1 (of_decide_eq_false q))) (fun q => (bnF q)))⟩
  refine awp_skip ?_
  refine hK7 _ _ ?_; clear hK7
  refine awp_reg2 [] [1, 5] (by decide) ?_
  intro K1 hK1
  refine ⟨trivial, ?_⟩
  refine ar_add rfl (a := i2) (b := 1) rfl rfl (by omega) (by omega) ?_
  refine ⟨trivial, ?_⟩
  show K1 [(1, .ptr ⟨b1, 0, none⟩), (5, .int .i64 (i2 + 1))] (AMem.wth m [(b1, .cells [.int .i64 v.kind, .int .i64 v.n, .str v.s, .slice false (v.l.map valIn), .slice false (v.f.map fldIn)])])
  refine hK1 _ _ ?_; clear hK1 K1
  refine ⟨(i2 + 1), rfl, rfl, ?_, ?_⟩
  ·
   show 0 ≤ ((i2 + 1 : Int)) ∧ ((i2 + 1 : Int)) ≤ v.f.length ∧ v.f.all (fun p => shpF k p.2) = (v.f.drop ((i2 + 1 : Int)).toNat).all (fun p => shpF k p.2) ∧ recOk none v.f = recOk (prevN v.f ((i2 + 1 : Int))) (v.f.drop ((i2 + 1 : Int)).toNat)
   have hb : ((i2 == 0) || Op.bytesLess (gI v.f (i2 - 1)).1 (gI v.f i2).1) = true := by
    rcases h7.2 with q | q
    ·
     have : i2 = 0 := by omega
     simp [this]
    ·
     simp [q]
   exact ⟨by omega, by omega, by rw [hI2.2.2.1, all_drop (g := fun p : Str × Val => shpF k p.2) hI2.1 h3, h7.1.1, Bool.true_and], by rw [hI2.2.2.2, recOk_step hI2.1 h3, h7.1.2, hb]; rfl⟩
  ·
   show v.f.length - ((i2 + 1 : Int)).toNat < v.f.length - i2.toNat
   omega
 replace h3 : (v.f.length : Int) ≤ i2 := (Int.not_lt.1 (of_decide_eq_false h3))
 have hF : v.f.all (fun p => shpF k p.2) = true := by rw [hI2.2.2.1, List.drop_eq_nil_of_le (by omega)]; rfl
 have hR : recOk none v.f = true := by rw [hI2.2.2.2, List.drop_eq_nil_of_le (by omega), recOk_nil]
 refine awp_exit ?_
 refine hK5 _ _ ?_; clear hK5
 refine awp_reg2_seq [] [1, 8] (by decide) ?_
 intro K1 hK1
 refine ⟨⟨rfl, by decide⟩, ?_⟩
 refine ar_loadp rfl (v := .int .i64 v.n) rfl (wth_get 0 hNb1 rfl) rfl (apartOk_one rfl rfl (Nat.le_of_ble_eq_true rfl)) rfl ?_
 refine ⟨trivial, trivial, ?_⟩
 show K1 [(1, .ptr ⟨b1, 0, none⟩), (8, .bool (v.n == 0))] (AMem.wth m [(b1, .cells [.int .i64 v.kind, .int .i64 v.n, .str v.s, .slice false (v.l.map valIn), .slice false (v.f.map fldIn)])])
 refine hK1 _ _ ?_; clear hK1 K1
 refine awp_reg2_seq [] [1, 8, 9] (by decide) ?_
 intro K1 hK1
 refine ⟨⟨rfl, by decide⟩, ?_⟩
 refine ar_loadp rfl (v := .str v.s) rfl (wth_get 0 hNb1 rfl) rfl (apartOk_one rfl rfl (Nat.le_of_ble_eq_true rfl)) rfl ?_
 refine ⟨trivial, trivial, ?_⟩
 show K1 [(1, .ptr ⟨b1, 0, none⟩), (8, .bool (v.n == 0)), (9, .bool (v.s == ([])))] _
 refine hK1 _ _ ?_; clear hK1 K1
 refine awp_reg2_seq [] [1, 8, 9, 10] (by decide) ?_
 intro K1 hK1
 refine ⟨⟨rfl, by decide⟩, ?_⟩
 refine ar_loadp rfl (v := .slice false (v.l.map valIn)) rfl (wth_get 0 hNb1 rfl) rfl (apartOk_one rfl rfl (Nat.le_of_ble_eq_true rfl)) rfl ?_
 refine ar_len rfl valIn v.l rfl rfl rfl ?_
 refine ⟨trivial, trivial, ?_⟩
 show K1 [(1, .ptr ⟨b1, 0, none⟩), (8, .bool (v.n == 0)), (9, .bool (v.s == ([]))), (10, .bool ((v.l.length : Int) == 0))] _
 refine hK1 _ _ ?_; clear hK1 K1
 refine awp_reg2_seq [] [1, 8, 9, 10, 11] (by decide) ?_
 intro K1 hK1
 refine ⟨⟨rfl, by decide⟩, ?_⟩
 refine ar_loadp rfl (v := .slice false (v.f.map fldIn)) rfl (wth_get 0 hNb1 rfl) rfl (apartOk_one rfl rfl (Nat.le_of_ble_eq_true rfl)) rfl ?_
 refine ar_len rfl fldIn v.f rfl rfl rfl ?_
 refine ⟨trivial, trivial, ?_⟩
 show K1 [(1, .ptr ⟨b1, 0, none⟩), (8, .bool (v.n == 0)), (9, .bool (v.s == ([]))), (10, .bool ((v.l.length : Int) == 0)), (11, .bool ((v.f.length : Int) == 0))] _
 refine hK1 _ _ ?_; clear hK1 K1
 refine awp_seq_k ?_; intro K8 hK8
 refine awp_reg2_seq [] [1, 8, 9, 10, 11, 89] (by decide) ?_
 intro K1 hK1
 refine ⟨⟨rfl, by decide⟩, ?_⟩
 refine ar_loadp rfl (v := .int .i64 v.kind) rfl (wth_get 0 hNb1 rfl) rfl (apartOk_one rfl rfl (Nat.le_of_ble_eq_true rfl)) rfl ?_
 show K1 [(1, .ptr ⟨b1, 0, none⟩), (8, .bool (v.n == 0)), (9, .bool (v.s == ([]))), (10, .bool ((v.l.length : Int) == 0)), (11, .bool ((v.f.length : Int) == 0)), (89, .int .i64 v.kind)] _
 refine hK1 _ _ ?_; clear hK1 K1
 refine awp_block ?_
 refine awp_reg2_seq [] [1, 8, 9, 10, 11, 89, 90] (by decide) ?_
 intro K1 hK1
 refine ⟨trivial, trivial, ?_⟩
 show K1 [(1, .ptr ⟨b1, 0, none⟩), (8, .bool (v.n == 0)), (9, .bool (v.s == ([]))), (10, .bool ((v.l.length : Int) == 0)), (11, .bool ((v.f.length : Int) == 0)), (89, .int .i64 v.kind), (90, .bool (v.kind == 0))] _
 refine hK1 _ _ ?_; clear hK1 K1
 refine awp_cond rfl rfl (fun h8 => ?_) (fun h8 => ?_)
 ·
  replace h8 : v.kind = 0 := (eq_of_beq h8)
  refine awp_reg2_seq [] [2] (by decide) ?_
  intro K1 hK1
  suffices key : K1 [(2, .bool ((((v.n == 0) && (v.s == ([]))) && ((v.l.length : Int) == 0)) && ((v.f.length : Int) == 0)))] (AMem.wth m [(b1, .cells [.int .i64 v.kind, .int .i64 v.n, .str v.s, .slice false (v.l.map valIn), .slice false (v.f.map fldIn)])]) by
   refine ⟨trivial, trivial, ?_⟩
   show aopsR _ _ _ _ _ [(93, .bool (v.n == 0)), (92, .bool (v.n == 0)), (1, .ptr ⟨b1, 0, none⟩), (8, .bool (v.n == 0)), (9, .bool (v.s == ([]))), (10, .bool ((v.l.length : Int) == 0)), (11, .bool ((v.f.length : Int) == 0)), (89, .int .i64 v.kind), (90, .bool (v.kind == 0))] _
   revert key
   cases h9 : (v.n == 0)
   ·
    replace h9 : v.n ≠ 0 := (ne_of_beq_false h9)
    intro key
    refine ar_off rfl ?_
    refine ⟨trivial, ?_⟩
    refine ar_off rfl ?_
    refine ⟨trivial, ?_⟩
    refine ar_off rfl ?_
    refine ⟨trivial, ?_⟩
    exact key
   ·
    replace h9 : v.n = 0 := (eq_of_beq h9)
    intro key
    refine ⟨trivial, ?_⟩
    refine ⟨trivial, ?_⟩
    show aopsR _ _ _ _ _ [(96, .bool (v.s == ([]))), (95, .bool (v.s == ([]))), (94, .bool (v.s == ([]))), (93, .bool true), (92, .bool true), (1, .ptr ⟨b1, 0, none⟩), (8, .bool true), (9, .bool (v.s == ([]))), (10, .bool ((v.l.length : Int) == 0)), (11, .bool ((v.f.length : Int) == 0)), (89, .int .i64 v.kind), (90, .bool (v.kind == 0))] _
    revert key
    cases h10 : (v.s == ([]))
    ·
     replace h10 : v.s ≠ [] := (ne_of_beq_false h10)
     intro key
     refine ar_off rfl ?_
     refine ⟨trivial, ?_⟩
     refine ar_off rfl ?_
     refine ⟨trivial, ?_⟩
     exact key
    ·
     replace h10 : v.s = [] := (eq_of_beq h10)
     intro key
     refine ⟨trivial, ?_⟩
     refine ⟨trivial, ?_⟩
     show aopsR _ _ _ _ _ [(99, .bool ((v.l.length : Int) == 0)), (98, .bool ((v.l.length : Int) == 0)), (97, .bool ((v.l.length : Int) == 0)), (96, .bool true), (95, .bool true), (94, .bool true), (93, .bool true), (92, .bool true), (1, .ptr ⟨b1, 0, none⟩), (8, .bool true), (9, .bool true), (10, .bool ((v.l.length : Int) == 0)), (11, .bool ((v.f.length : Int) == 0)), (89, .int .i64 v.kind), (90, .bool (v.kind == 0))] _
     revert key
     cases h11 : ((v.l.length : Int) == 0)
     ·
      replace h11 : (v.l.length : Int) ≠ 0 := (ne_of_beq_false h11)
      intro key
      refine ar_off rfl ?_
      refine ⟨trivial, ?_⟩
      exact key
     ·
      replace h11 : (v.l.length : Int) = 0 := (eq_of_beq h11)
      intro key
      refine ⟨trivial, ?_⟩
      refine ⟨trivial, ?_⟩
      exact key
  refine hK1 _ _ ?_; clear hK1 K1
  refine awp_ret ?_
  refine ⟨trivial, m, (wth_sub2 (m := m) [(b1, .cells [.int .i64 v.kind, .int .i64 v.n, .str v.s, .slice false (v.l.map valIn), .slice false (v.f.map fldIn)])] [] hNb1 (by simp only [List.map_cons, List.map_nil, List.forall_mem_cons]; exact ⟨hFb1, fun _ h => by cases h⟩)), ?_⟩
  show K (.bool ((((v.n == 0) && (v.s == ([]))) && ((v.l.length : Int) == 0)) && ((v.f.length : Int) == 0))) m
 
  have e0 : shpF (k + 1) v = shpOk v := shp_4 hL hF
  rw [e0] at hK
  have er : ∀ e : Bool, shpOk v = e → K (.bool e) m := fun e q => q ▸ hK
  refine er _ ?_
  unfold shpOk
  repeat rw [if_neg (by assumption)]
  all_goals first | rfl | (rw [if_pos (by assumption)]; done) | (rw [if_pos (by assumption)]; first | rfl | (simp only [hR, len0, Bool.and_true, Bool.and_assoc]; done) | (simp only [hR, len0, Bool.and_true]; ac_rfl))
 replace h8 : v.kind ≠ 0 := (ne_of_beq_false h8)
 refine awp_reg2_seq [] [1, 8, 9, 10, 11, 89, 102] (by decide) ?_
 intro K1 hK1
 refine ⟨trivial, trivial, ?_⟩
 show K1 [(1, .ptr ⟨b1, 0, none⟩), (8, .bool (v.n == 0)), (9, .bool (v.s == ([]))), (10, .bool ((v.l.length : Int) == 0)), (11, .bool ((v.f.length : Int) == 0)), (89, .int .i64 v.kind), (102, .bool (v.kind == 1))] (AMem.wth m [(b1, .cells [.int .i64 v.kind, .int .i64 v.n, .str v.s, .slice false (v.l.map valIn), .slice false (v.f.map fldIn)])])
 refine hK1 _ _ ?_; clear hK1 K1
 refine awp_cond rfl rfl (fun h12 => ?_) (fun h12 => ?_)
 ·
  replace h12 : v.kind = 1 := (eq_of_beq h12)
  refine awp_reg2_seq [] [2] (by decide) ?_
  intro K1 hK1
  suffices key : K1 [(2, .bool (((((decide (-1000000000 ≤ v.n)) && (decide (v.n ≤ 1000000000))) && (v.s == ([]))) && ((v.l.length : Int) == 0)) && ((v.f.length : Int) == 0)))] (AMem.wth m [(b1, .cells [.int .i64 v.kind, .int .i64 v.n, .str v.s, .slice false (v.l.map valIn), .slice false (v.f.map fldIn)])]) by
   refine ⟨⟨rfl, by decide⟩, ?_⟩
   refine ar_loadp rfl (v := .int .i64 v.n) rfl (wth_get 0 hNb1 rfl) rfl (apartOk_one rfl rfl (Nat.le_of_ble_eq_true rfl)) rfl ?_
   refine ⟨trivial, trivial, ?_⟩
   show aopsR _ _ _ _ _ [(107, .bool (decide (-1000000000 ≤ v.n))), (106, .bool (decide (-1000000000 ≤ v.n))), (105, .int .i64 v.n), (104, .ptr ⟨b1, 1, none⟩), (1, .ptr ⟨b1, 0, none⟩), (8, .bool (v.n == 0)), (9, .bool (v.s == ([]))), (10, .bool ((v.l.length : Int) == 0)), (11, .bool ((v.f.length : Int) == 0)), (89, .int .i64 v.kind), (102, .bool (v.kind == 1))] _
   revert key
   cases h13 : (decide (-1000000000 ≤ v.n))
   ·
    replace h13 : v.n < -1000000000 := (Int.not_le.1 (of_decide_eq_false h13))
    intro key
    refine ar_off rfl (ar_off rfl (ar_off rfl ?_))
    refine ⟨trivial, ?_⟩
    refine ar_off rfl ?_
    refine ⟨trivial, ?_⟩
    refine ar_off rfl ?_
    refine ⟨trivial, ?_⟩
    refine ar_off rfl ?_
    refine ⟨trivial, ?_⟩
    exact key
   ·
    replace h13 : -1000000000 ≤ v.n := (of_decide_eq_true h13)
    intro key
    refine ⟨⟨rfl, by decide⟩, ?_⟩
    refine ar_loadp rfl (v := .int .i64 v.n) rfl (wth_get 0 hNb1 rfl) rfl (apartOk_one rfl rfl (Nat.le_of_ble_eq_true rfl)) rfl ?_
    refine ⟨trivial, ?_⟩
    refine ⟨trivial, ?_⟩
    show aopsR _ _ _ _ _ [(112, .bool (decide (v.n ≤ 1000000000))), (111, .bool (decide (v.n ≤ 1000000000))), (110, .bool (decide (v.n ≤ 1000000000))), (109, .int .i64 v.n), (108, .ptr ⟨b1, 1, none⟩), (107, .bool true), (106, .bool true), (105, .int .i64 v.n), (104, .ptr ⟨b1, 1, none⟩), (1, .ptr ⟨b1, 0, none⟩), (8, .bool (v.n == 0)), (9, .bool (v.s == ([]))), (10, .bool ((v.l.length : Int) == 0)), (11, .bool ((v.f.length : Int) == 0)), (89, .int .i64 v.kind), (102, .bool (v.kind == 1))] _
    revert key
    cases h14 : (decide (v.n ≤ 1000000000))
    ·
     replace h14 : 1000000000 < v.n := (Int.not_le.1 (of_decide_eq_false h14))
     intro key
     refine ar_off rfl ?_
     refine ⟨trivial, ?_⟩
     refine ar_off rfl ?_
     refine ⟨trivial, ?_⟩
     refine ar_off rfl ?_
     refine ⟨trivial, ?_⟩
     exact key
    ·
     replace h14 : v.n ≤ 1000000000 := (of_decide_eq_true h14)
     intro key
     refine ⟨trivial, ?_⟩
     refine ⟨trivial, ?_⟩
     show aopsR _ _ _ _ _ [(115, .bool (v.s == ([]))), (114, .bool (v.s == ([]))), (113, .bool (v.s == ([]))), (112, .bool true), (111, .bool true), (110, .bool true), (109, .int .i64 v.n), (108, .ptr ⟨b1, 1, none⟩), (107, .bool true), (106, .bool true), (105, .int .i64 v.n), (104, .ptr ⟨b1, 1, none⟩), (1, .ptr ⟨b1, 0, none⟩), (8, .bool (v.n == 0)), (9, .bool (v.s == ([]))), (10, .bool ((v.l.length : Int) == 0)), (11, .bool ((v.f.length : Int) == 0)), (89, .int .i64 v.kind), (102, .bool (v.kind == 1))] _
     revert key
     cases h15 : (v.s == ([]))
     ·
      replace h15 : v.s ≠ [] := (ne_of_beq_false h15)
      intro key
      refine ar_off rfl ?_
      refine ⟨trivial, ?_⟩
      refine ar_off rfl ?_
      refine ⟨trivial, ?_⟩
      exact key
     ·
      replace h15 : v.s = [] := (eq_of_beq h15)
      intro key
      refine ⟨trivial, ?_⟩
      refine ⟨trivial, ?_⟩
      show aopsR _ _ _ _ _ [(118, .bool ((v.l.length : Int) == 0)), (117, .bool ((v.l.length : Int) == 0)), (116, .bool ((v.l.length : Int) == 0)), (115, .bool true), (114, .bool true), (113, .bool true), (112, .bool true), (111, .bool true), (110, .bool true), (109, .int .i64 v.n), (108, .ptr ⟨b1, 1, none⟩), (107, .bool true), (106, .bool true), (105, .int .i64 v.n), (104, .ptr ⟨b1, 1, none⟩), (1, .ptr ⟨b1, 0, none⟩), (8, .bool (v.n == 0)), (9, .bool true), (10, .bool ((v.l.length : Int) == 0)), (11, .bool ((v.f.length : Int) == 0)), (89, .int .i64 v.kind), (102, .bool (v.kind == 1))] _
      revert key
      cases h16 : ((v.l.length : Int) == 0)
      ·
       replace h16 : (v.l.length : Int) ≠ 0 := (ne_of_beq_false h16)
       intro key
       refine ar_off rfl ?_
       refine ⟨trivial, ?_⟩
       exact key
      ·
       replace h16 : (v.l.length : Int) = 0 := (eq_of_beq h16)
       intro key
       refine ⟨trivial, ?_⟩
       refine ⟨trivial, ?_⟩
       exact key
  refine hK1 _ _ ?_; clear hK1 K1
  refine awp_ret ?_
  refine ⟨trivial, m, (wth_sub2 (m := m) [(b1, .cells [.int .i64 v.kind, .int .i64 v.n, .str v.s, .slice false (v.l.map valIn), .slice false (v.f.map fldIn)])] [] hNb1 (by simp only [List.map_cons, List.map_nil, List.forall_mem_cons]; exact ⟨hFb1, fun _ h => by cases h⟩)), ?_⟩
  show K (.bool (((((decide (-1000000000 ≤ v.n)) && (decide (v.n ≤ 1000000000))) && (v.s == ([]))) && ((v.l.length : Int) == 0)) && ((v.f.length : Int) == 0))) m
 
  have e0 : shpF (k + 1) v = shpOk v := shp_4 hL hF
  rw [e0] at hK
  have er : ∀ e : Bool, shpOk v = e → K (.bool e) m := fun e q => q ▸ hK
  refine er _ ?_
  unfold shpOk
  repeat rw [if_neg (by assumption)]
  all_goals first | rfl | (rw [if_pos (by assumption)]; done) | (rw [if_pos (by assumption)]; first | rfl | (simp only [hR, len0, Bool.and_true, Bool.and_assoc]; done) | (simp only [hR, len0, Bool.and_true]; ac_rfl))
 replace h12 : v.kind ≠ 1 := (ne_of_beq_false h12)
 refine awp_reg2_seq [] [1, 8, 9, 10, 11, 89, 121] (by decide) ?_
 intro K1 hK1
 refine ⟨trivial, trivial, ?_⟩
 show K1 [(1, .ptr ⟨b1, 0, none⟩), (8, .bool (v.n == 0)), (9, .bool (v.s == ([]))), (10, .bool ((v.l.length : Int) == 0)), (11, .bool ((v.f.length : Int) == 0)), (89, .int .i64 v.kind), (121, .bool (v.kind == 2))] (AMem.wth m [(b1, .cells [.int .i64 v.kind, .int .i64 v.n, .str v.s, .slice false (v.l.map valIn), .slice false (v.f.map fldIn)])])
 refine hK1 _ _ ?_; clear hK1 K1
 refine awp_cond rfl rfl (fun h17 => ?_) (fun h17 => ?_)
 ·
  replace h17 : v.kind = 2 := (eq_of_beq h17)
  refine awp_reg2_seq [] [2] (by decide) ?_
  intro K1 hK1
  suffices key : K1 [(2, .bool ((((v.n == 0) && (decide ((v.s.length : Int) ≤ 40))) && ((v.l.length : Int) == 0)) && ((v.f.length : Int) == 0)))] (AMem.wth m [(b1, .cells [.int .i64 v.kind, .int .i64 v.n, .str v.s, .slice false (v.l.map valIn), .slice false (v.f.map fldIn)])]) by
   refine ⟨trivial, trivial, ?_⟩
   show aopsR _ _ _ _ _ [(124, .bool (v.n == 0)), (123, .bool (v.n == 0)), (1, .ptr ⟨b1, 0, none⟩), (8, .bool (v.n == 0)), (9, .bool (v.s == ([]))), (10, .bool ((v.l.length : Int) == 0)), (11, .bool ((v.f.length : Int) == 0)), (89, .int .i64 v.kind), (121, .bool (v.kind == 2))] _
   revert key
   cases h18 : (v.n == 0)
   ·
    replace h18 : v.n ≠ 0 := (ne_of_beq_false h18)
    intro key
    refine ar_off rfl (ar_off rfl (ar_off rfl (ar_off rfl ?_)))
    refine ⟨trivial, ?_⟩
    refine ar_off rfl ?_
    refine ⟨trivial, ?_⟩
    refine ar_off rfl ?_
    refine ⟨trivial, ?_⟩
    exact key
   ·
    replace h18 : v.n = 0 := (eq_of_beq h18)
    intro key
    refine ⟨⟨rfl, by decide⟩, ?_⟩
    refine ar_loadp rfl (v := .str v.s) rfl (wth_get 0 hNb1 rfl) rfl (apartOk_one rfl rfl (Nat.le_of_ble_eq_true rfl)) rfl ?_
    refine ⟨trivial, trivial, ?_⟩
    refine ⟨trivial, ?_⟩
    show aopsR _ _ _ _ _ [(130, .bool (decide ((v.s.length : Int) ≤ 40))), (129, .bool (decide ((v.s.length : Int) ≤ 40))), (128, .bool (decide ((v.s.length : Int) ≤ 40))), (127, .int .i64 (v.s.length : Int)), (126, .str v.s), (125, .ptr ⟨b1, 2, none⟩), (124, .bool true), (123, .bool true), (1, .ptr ⟨b1, 0, none⟩), (8, .bool true), (9, .bool (v.s == ([]))), (10, .bool ((v.l.length : Int) == 0)), (11, .bool ((v.f.length : Int) == 0)), (89, .int .i64 v.kind), (121, .bool (v.kind == 2))] _
    revert key
    cases h19 : (decide ((v.s.length : Int) ≤ 40))
    ·
     replace h19 : 40 < (v.s.length : Int) := (Int.not_le.1 (of_decide_eq_false h19))
     intro key
     refine ar_off rfl ?_
     refine ⟨trivial, ?_⟩
     refine ar_off rfl ?_
     refine ⟨trivial, ?_⟩
     exact key
    ·
     replace h19 : (v.s.length : Int) ≤ 40 := (of_decide_eq_true h19)
     intro key
     refine ⟨trivial, ?_⟩
     refine ⟨trivial, ?_⟩
     show aopsR _ _ _ _ _ [(133, .bool ((v.l.length : Int) == 0)), (132, .bool ((v.l.length : Int) == 0)), (131, .bool ((v.l.length : Int) == 0)), (130, .bool true), (129, .bool true), (128, .bool true), (127, .int .i64 (v.s.length : Int)), (126, .str v.s), (125, .ptr ⟨b1, 2, none⟩), (124, .bool true), (123, .bool true), (1, .ptr ⟨b1, 0, none⟩), (8, .bool true), (9, .bool (v.s == ([]))), (10, .bool ((v.l.length : Int) == 0)), (11, .bool ((v.f.length : Int) == 0)), (89, .int .i64 v.kind), (121, .bool (v.kind == 2))] _
     revert key
     cases h20 : ((v.l.length : Int) == 0)
     ·
      replace h20 : (v.l.length : Int) ≠ 0 := (ne_of_beq_false h20)
      intro key
      refine ar_off rfl ?_
      refine ⟨trivial, ?_⟩
      exact key
     ·
      replace h20 : (v.l.length : Int) = 0 := (eq_of_beq h20)
      intro key
      refine ⟨trivial, ?_⟩
      refine ⟨trivial, ?_⟩
      exact key
  refine hK1 _ _ ?_; clear hK1 K1
  refine awp_ret ?_
  refine ⟨trivial, m, (wth_sub2 (m := m) [(b1, .cells [.int .i64 v.kind, .int .i64 v.n, .str v.s, .slice false (v.l.map valIn), .slice false (v.f.map fldIn)])] [] hNb1 (by simp only [List.map_cons, List.map_nil, List.forall_mem_cons]; exact ⟨hFb1, fun _ h => by cases h⟩)), ?_⟩
  show K (.bool ((((v.n == 0) && (decide ((v.s.length : Int) ≤ 40))) && ((v.l.length : Int) == 0)) && ((v.f.length : Int) == 0))) m
 
  have e0 : shpF (k + 1) v = shpOk v := shp_4 hL hF
  rw [e0] at hK
  have er : ∀ e : Bool, shpOk v = e → K (.bool e) m := fun e q => q ▸ hK
  refine er _ ?_
  unfold shpOk
  repeat rw [if_neg (by assumption)]
  all_goals first | rfl | (rw [if_pos (by assumption)]; done) | (rw [if_pos (by assumption)]; first | rfl | (simp only [hR, len0, Bool.and_true, Bool.and_assoc]; done) | (simp only [hR, len0, Bool.and_true]; ac_rfl))
 replace h17 : v.kind ≠ 2 := (ne_of_beq_false h17)
 refine awp_reg2_seq [] [1, 8, 9, 10, 11, 89, 136] (by decide) ?_
 intro K1 hK1
 refine ⟨trivial, trivial, ?_⟩
 show K1 [(1, .ptr ⟨b1, 0, none⟩), (8, .bool (v.n == 0)), (9, .bool (v.s == ([]))), (10, .bool ((v.l.length : Int) == 0)), (11, .bool ((v.f.length : Int) == 0)), (89, .int .i64 v.kind), (136, .bool (v.kind == 3))] (AMem.wth m [(b1, .cells [.int .i64 v.kind, .int .i64 v.n, .str v.s, .slice false (v.l.map valIn), .slice false (v.f.map fldIn)])])
 refine hK1 _ _ ?_; clear hK1 K1
 refine awp_cond rfl rfl (fun h21 => ?_) (fun h21 => ?_)
 ·
  replace h21 : v.kind = 3 := (eq_of_beq h21)
  refine awp_reg2_seq [] [2] (by decide) ?_
  intro K1 hK1
  suffices key : K1 [(2, .bool (((((v.n == 0) || (v.n == 1)) && (v.s == ([]))) && ((v.l.length : Int) == 0)) && ((v.f.length : Int) == 0)))] (AMem.wth m [(b1, .cells [.int .i64 v.kind, .int .i64 v.n, .str v.s, .slice false (v.l.map valIn), .slice false (v.f.map fldIn)])]) by
   refine ⟨trivial, trivial, ?_⟩
   show aopsR _ _ _ _ _ [(139, .bool (v.n == 0)), (138, .bool (v.n == 0)), (1, .ptr ⟨b1, 0, none⟩), (8, .bool (v.n == 0)), (9, .bool (v.s == ([]))), (10, .bool ((v.l.length : Int) == 0)), (11, .bool ((v.f.length : Int) == 0)), (89, .int .i64 v.kind), (136, .bool (v.kind == 3))] _
   revert key
   cases h22 : (v.n == 0)
   ·
    replace h22 : v.n ≠ 0 := (ne_of_beq_false h22)
    intro key
    refine ⟨⟨rfl, by decide⟩, ?_⟩
    refine ar_loadp rfl (v := .int .i64 v.n) rfl (wth_get 0 hNb1 rfl) rfl (apartOk_one rfl rfl (Nat.le_of_ble_eq_true rfl)) rfl ?_
    refine ⟨trivial, ?_⟩
    refine ⟨trivial, ?_⟩
    show aopsR _ _ _ _ _ [(144, .bool (v.n == 1)), (143, .bool (v.n == 1)), (142, .bool (v.n == 1)), (141, .int .i64 v.n), (140, .ptr ⟨b1, 1, none⟩), (139, .bool false), (138, .bool false), (1, .ptr ⟨b1, 0, none⟩), (8, .bool false), (9, .bool (v.s == ([]))), (10, .bool ((v.l.length : Int) == 0)), (11, .bool ((v.f.length : Int) == 0)), (89, .int .i64 v.kind), (136, .bool (v.kind == 3))] _
    revert key
    cases h23 : (v.n == 1)
    ·
     replace h23 : v.n ≠ 1 := (ne_of_beq_false h23)
     intro key
     refine ar_off rfl ?_
     refine ⟨trivial, ?_⟩
     refine ar_off rfl ?_
     refine ⟨trivial, ?_⟩
     refine ar_off rfl ?_
     refine ⟨trivial, ?_⟩
     exact key
    ·
     replace h23 : v.n = 1 := (eq_of_beq h23)
     intro key
     refine ⟨trivial, ?_⟩
     refine ⟨trivial, ?_⟩
     show aopsR _ _ _ _ _ [(147, .bool (v.s == ([]))), (146, .bool (v.s == ([]))), (145, .bool (v.s == ([]))), (144, .bool true), (143, .bool true), (142, .bool true), (141, .int .i64 v.n), (140, .ptr ⟨b1, 1, none⟩), (139, .bool false), (138, .bool false), (1, .ptr ⟨b1, 0, none⟩), (8, .bool false), (9, .bool (v.s == ([]))), (10, .bool ((v.l.length : Int) == 0)), (11, .bool ((v.f.length : Int) == 0)), (89, .int .i64 v.kind), (136, .bool (v.kind == 3))] _
     revert key
     cases h24 : (v.s == ([]))
     ·
      replace h24 : v.s ≠ [] := (ne_of_beq_false h24)
      intro key
      refine ar_off rfl ?_
      refine ⟨trivial, ?_⟩
      refine ar_off rfl ?_
      refine ⟨trivial, ?_⟩
      exact key
     ·
      replace h24 : v.s = [] := (eq_of_beq h24)
      intro key
      refine ⟨trivial, ?_⟩
      refine ⟨trivial, ?_⟩
      show aopsR _ _ _ _ _ [(150, .bool ((v.l.length : Int) == 0)), (149, .bool ((v.l.length : Int) == 0)), (148, .bool ((v.l.length : Int) == 0)), (147, .bool true), (146, .bool true), (145, .bool true), (144, .bool true), (143, .bool true), (142, .bool true), (141, .int .i64 v.n), (140, .ptr ⟨b1, 1, none⟩), (139, .bool false), (138, .bool false), (1, .ptr ⟨b1, 0, none⟩), (8, .bool false), (9, .bool true), (10, .bool ((v.l.length : Int) == 0)), (11, .bool ((v.f.length : Int) == 0)), (89, .int .i64 v.kind), (136, .bool (v.kind == 3))] _
      revert key
      cases h25 : ((v.l.length : Int) == 0)
      ·
       replace h25 : (v.l.length : Int) ≠ 0 := (ne_of_beq_false h25)
       intro key
       refine ar_off rfl ?_
       refine ⟨trivial, ?_⟩
       exact key
      ·
       replace h25 : (v.l.length : Int) = 0 := (eq_of_beq h25)
       intro key
       refine ⟨trivial, ?_⟩
       refine ⟨trivial, ?_⟩
       exact key
   ·
    replace h22 : v.n = 0 := (eq_of_beq h22)
    intro key
    refine ar_off rfl (ar_off rfl (ar_off rfl ?_))
    refine ⟨trivial, trivial, ?_⟩
    refine ⟨trivial, ?_⟩
    show aopsR _ _ _ _ _ [(147, .bool (v.s == ([]))), (146, .bool (v.s == ([]))), (145, .bool (v.s == ([]))), (144, .bool true), (143, .bool true), (142, .lazy false (.junk)), (141, .lazy false (.junk)), (140, .lazy false (.junk)), (139, .bool true), (138, .bool true), (1, .ptr ⟨b1, 0, none⟩), (8, .bool true), (9, .bool (v.s == ([]))), (10, .bool ((v.l.length : Int) == 0)), (11, .bool ((v.f.length : Int) == 0)), (89, .int .i64 v.kind), (136, .bool (v.kind == 3))] _
    revert key
    cases h26 : (v.s == ([]))
    ·
     replace h26 : v.s ≠ [] := (ne_of_beq_false h26)
     intro key
     refine ar_off rfl ?_
     refine ⟨trivial, ?_⟩
     refine ar_off rfl ?_
     refine ⟨trivial, ?_⟩
     exact key
    ·
     replace h26 : v.s = [] := (eq_of_beq h26)
     intro key
     refine ⟨trivial, ?_⟩
     refine ⟨trivial, ?_⟩
     show aopsR _ _ _ _ _ [(150, .bool ((v.l.length : Int) == 0)), (149, .bool ((v.l.length : Int) == 0)), (148, .bool ((v.l.length : Int) == 0)), (147, .bool true), (146, .bool true), (145, .bool true), (144, .bool true), (143, .bool true), (142, .lazy false (.junk)), (141, .lazy false (.junk)), (140, .lazy false (.junk)), (139, .bool true), (138, .bool true), (1, .ptr ⟨b1, 0, none⟩), (8, .bool true), (9, .bool true), (10, .bool ((v.l.length : Int) == 0)), (11, .bool ((v.f.length : Int) == 0)), (89, .int .i64 v.kind), (136, .bool (v.kind == 3))] _
     revert key
     cases h27 : ((v.l.length : Int) == 0)
     ·
      replace h27 : (v.l.length : Int) ≠ 0 := (ne_of_beq_false h27)
      intro key
      refine ar_off rfl ?_
      refine ⟨trivial, ?_⟩
      exact key
     ·
      replace h27 : (v.l.length : Int) = 0 := (eq_of_beq h27)
      intro key
      refine ⟨trivial, ?_⟩
      refine ⟨trivial, ?_⟩
      exact key
  refine hK1 _ _ ?_; clear hK1 K1
  refine awp_ret ?_
  refine ⟨trivial, m, (wth_sub2 (m := m) [(b1, .cells [.int .i64 v.kind, .int .i64 v.n, .str v.s, .slice false (v.l.map valIn), .slice false (v.f.map fldIn)])] [] hNb1 (by simp only [List.map_cons, List.map_nil, List.forall_mem_cons]; exact ⟨hFb1, fun _ h => by cases h⟩)), ?_⟩
  show K (.bool (((((v.n == 0) || (v.n == 1)) && (v.s == ([]))) && ((v.l.length : Int) == 0)) && ((v.f.length : Int) == 0))) m
 
  have e0 : shpF (k + 1) v = shpOk v := shp_4 hL hF
  rw [e0] at hK
  have er : ∀ e : Bool, shpOk v = e → K (.bool e) m := fun e q => q ▸ hK
  refine er _ ?_
  unfold shpOk
  repeat rw [if_neg (by assumption)]
  all_goals first | rfl | (rw [if_pos (by assumption)]; done) | (rw [if_pos (by assumption)]; first | rfl | (simp only [hR, len0, Bool.and_true, Bool.and_assoc]; done) | (simp only [hR, len0, Bool.and_true]; ac_rfl))
 replace h21 : v.kind ≠ 3 := (ne_of_beq_false h21)
 refine awp_reg2_seq [] [8, 9, 10, 11, 89, 153] (by decide) ?_
 intro K1 hK1
 refine ⟨trivial, trivial, ?_⟩
 show K1 [(8, .bool (v.n == 0)), (9, .bool (v.s == ([]))), (10, .bool ((v.l.length : Int) == 0)), (11, .bool ((v.f.length : Int) == 0)), (89, .int .i64 v.kind), (153, .bool (v.kind == 4))] (AMem.wth m [(b1, .cells [.int .i64 v.kind, .int .i64 v.n, .str v.s, .slice false (v.l.map valIn), .slice false (v.f.map fldIn)])])
 refine hK1 _ _ ?_; clear hK1 K1
 refine awp_cond rfl rfl (fun h28 => ?_) (fun h28 => ?_)
 ·
  replace h28 : v.kind = 4 := (eq_of_beq h28)
  refine awp_reg2_seq [] [2] (by decide) ?_
  intro K1 hK1
  suffices key : K1 [(2, .bool (((v.n == 0) && (v.s == ([]))) && ((v.f.length : Int) == 0)))] (AMem.wth m [(b1, .cells [.int .i64 v.kind, .int .i64 v.n, .str v.s, .slice false (v.l.map valIn), .slice false (v.f.map fldIn)])]) by
   refine ⟨trivial, trivial, ?_⟩
   show aopsR _ _ _ _ _ [(156, .bool (v.n == 0)), (155, .bool (v.n == 0)), (8, .bool (v.n == 0)), (9, .bool (v.s == ([]))), (10, .bool ((v.l.length : Int) == 0)), (11, .bool ((v.f.length : Int) == 0)), (89, .int .i64 v.kind), (153, .bool (v.kind == 4))] _
   revert key
   cases h29 : (v.n == 0)
   ·
    replace h29 : v.n ≠ 0 := (ne_of_beq_false h29)
    intro key
    refine ar_off rfl ?_
    refine ⟨trivial, ?_⟩
    refine ar_off rfl ?_
    refine ⟨trivial, ?_⟩
    exact key
   ·
    replace h29 : v.n = 0 := (eq_of_beq h29)
    intro key
    refine ⟨trivial, ?_⟩
    refine ⟨trivial, ?_⟩
    show aopsR _ _ _ _ _ [(159, .bool (v.s == ([]))), (158, .bool (v.s == ([]))), (157, .bool (v.s == ([]))), (156, .bool true), (155, .bool true), (8, .bool true), (9, .bool (v.s == ([]))), (10, .bool ((v.l.length : Int) == 0)), (11, .bool ((v.f.length : Int) == 0)), (89, .int .i64 v.kind), (153, .bool (v.kind == 4))] _
    revert key
    cases h30 : (v.s == ([]))
    ·
     replace h30 : v.s ≠ [] := (ne_of_beq_false h30)
     intro key
     refine ar_off rfl ?_
     refine ⟨trivial, ?_⟩
     exact key
    ·
     replace h30 : v.s = [] := (eq_of_beq h30)
     intro key
     refine ⟨trivial, ?_⟩
     refine ⟨trivial, ?_⟩
     exact key
  refine hK1 _ _ ?_; clear hK1 K1
  refine awp_ret ?_
  refine ⟨trivial, m, (wth_sub2 (m := m) [(b1, .cells [.int .i64 v.kind, .int .i64 v.n, .str v.s, .slice false (v.l.map valIn), .slice false (v.f.map fldIn)])] [] hNb1 (by simp only [List.map_cons, List.map_nil, List.forall_mem_cons]; exact ⟨hFb1, fun _ h => by cases h⟩)), ?_⟩
  show K (.bool (((v.n == 0) && (v.s == ([]))) && ((v.f.length : Int) == 0))) m
 
  have e0 : shpF (k + 1) v = shpOk v := shp_4 hL hF
  rw [e0] at hK
  have er : ∀ e : Bool, shpOk v = e → K (.bool e) m := fun e q => q ▸ hK
  refine er _ ?_
  unfold shpOk
  repeat rw [if_neg (by assumption)]
  all_goals first | rfl | (rw [if_pos (by assumption)]; done) | (rw [if_pos (by assumption)]; first | rfl | (simp only [hR, len0, Bool.and_true, Bool.and_assoc]; done) | (simp only [hR, len0, Bool.and_true]; ac_rfl))
 replace h28 : v.kind ≠ 4 := (ne_of_beq_false h28)
 refine awp_reg2_seq [] [8, 9, 10, 162] (by decide) ?_
 intro K1 hK1
 refine ⟨trivial, trivial, ?_⟩
 show K1 [(8, .bool (v.n == 0)), (9, .bool (v.s == ([]))), (10, .bool ((v.l.length : Int) == 0)), (162, .bool (v.kind == 5))] (AMem.wth m [(b1, .cells [.int .i64 v.kind, .int .i64 v.n, .str v.s, .slice false (v.l.map valIn), .slice false (v.f.map fldIn)])])
 refine hK1 _ _ ?_; clear hK1 K1
 refine awp_cond rfl rfl (fun h31 => ?_) (fun h31 => ?_)
 ·
  replace h31 : v.kind = 5 := (eq_of_beq h31)
  refine awp_reg2_seq [] [2] (by decide) ?_
  intro K1 hK1
  suffices key : K1 [(2, .bool (((v.n == 0) && (v.s == ([]))) && ((v.l.length : Int) == 0)))] (AMem.wth m [(b1, .cells [.int .i64 v.kind, .int .i64 v.n, .str v.s, .slice false (v.l.map valIn), .slice false (v.f.map fldIn)])]) by
   refine ⟨trivial, trivial, ?_⟩
   show aopsR _ _ _ _ _ [(165, .bool (v.n == 0)), (164, .bool (v.n == 0)), (8, .bool (v.n == 0)), (9, .bool (v.s == ([]))), (10, .bool ((v.l.length : Int) == 0)), (162, .bool (v.kind == 5))] _
   revert key
   cases h32 : (v.n == 0)
   ·
    replace h32 : v.n ≠ 0 := (ne_of_beq_false h32)
    intro key
    refine ar_off rfl ?_
    refine ⟨trivial, ?_⟩
    refine ar_off rfl ?_
    refine ⟨trivial, ?_⟩
    exact key
   ·
    replace h32 : v.n = 0 := (eq_of_beq h32)
    intro key
    refine ⟨trivial, ?_⟩
    refine ⟨trivial, ?_⟩
    show aopsR _ _ _ _ _ [(168, .bool (v.s == ([]))), (167, .bool (v.s == ([]))), (166, .bool (v.s == ([]))), (165, .bool true), (164, .bool true), (8, .bool true), (9, .bool (v.s == ([]))), (10, .bool ((v.l.length : Int) == 0)), (162, .bool (v.kind == 5))] _
    revert key
    cases h33 : (v.s == ([]))
    ·
     replace h33 : v.s ≠ [] := (ne_of_beq_false h33)
     intro key
     refine ar_off rfl ?_
     refine ⟨trivial, ?_⟩
     exact key
    ·
     replace h33 : v.s = [] := (eq_of_beq h33)
     intro key
     refine ⟨trivial, ?_⟩
     refine ⟨trivial, ?_⟩
     exact key
  refine hK1 _ _ ?_; clear hK1 K1
  refine awp_ret ?_
  refine ⟨trivial, m, (wth_sub2 (m := m) [(b1, .cells [.int .i64 v.kind, .int .i64 v.n, .str v.s, .slice false (v.l.map valIn), .slice false (v.f.map fldIn)])] [] hNb1 (by simp only [List.map_cons, List.map_nil, List.forall_mem_cons]; exact ⟨hFb1, fun _ h => by cases h⟩)), ?_⟩
  show K (.bool (((v.n == 0) && (v.s == ([]))) && ((v.l.length : Int) == 0))) m
 
  have e0 : shpF (k + 1) v = shpOk v := shp_4 hL hF
  rw [e0] at hK
  have er : ∀ e : Bool, shpOk v = e → K (.bool e) m := fun e q => q ▸ hK
  refine er _ ?_
  unfold shpOk
  repeat rw [if_neg (by assumption)]
  all_goals first | rfl | (rw [if_pos (by assumption)]; done) | (rw [if_pos (by assumption)]; first | rfl | (simp only [hR, len0, Bool.and_true, Bool.and_assoc]; done) | (simp only [hR, len0, Bool.and_true]; ac_rfl))
 replace h31 : v.kind ≠ 5 := (ne_of_beq_false h31)
 refine awp_skip ?_
 refine hK8 _ _ ?_; clear hK8
 refine awp_reg2_seq [] [2] (by decide) ?_
 intro K1 hK1
 refine ⟨trivial, ?_⟩
 show K1 [(2, .bool false)] (AMem.wth m [(b1, .cells [.int .i64 v.kind, .int .i64 v.n, .str v.s, .slice false (v.l.map valIn), .slice false (v.f.map fldIn)])])
 refine hK1 _ _ ?_; clear hK1 K1
 refine awp_ret ?_
 refine ⟨trivial, m, (wth_sub2 (m := m) [(b1, .cells [.int .i64 v.kind, .int .i64 v.n, .str v.s, .slice false (v.l.map valIn), .slice false (v.f.map fldIn)])] [] hNb1 (by simp only [List.map_cons, List.map_nil, List.forall_mem_cons]; exact ⟨hFb1, fun _ h => by cases h⟩)), ?_⟩
 show K (.bool false) m

 have e0 : shpF (k + 1) v = shpOk v := shp_4 hL hF
 rw [e0] at hK
 have er : ∀ e : Bool, shpOk v = e → K (.bool e) m := fun e q => q ▸ hK
 refine er _ ?_
 unfold shpOk
 repeat rw [if_neg (by assumption)]
 all_goals first | rfl | (rw [if_pos (by assumption)]; done) | (rw [if_pos (by assumption)]; first | rfl | (simp only [hR, len0, Bool.and_true, Bool.and_assoc]; done) | (simp only [hR, len0, Bool.and_true]; ac_rfl))

end Go.Proofs
end
section
namespace Go.Proofs
open Go Go.Aw
set_option maxRecDepth 100000


def fileAV (p : Str × Str) : AV := .agg [.str p.1, .str p.2]
structure Trn where
  kind : Int
  name : Str
  data : Str
  to : Str
instance : Inhabited Trn := ⟨⟨0, [], [], []⟩⟩
def trnAV (t : Trn) : AV := .agg [.int .i64 t.kind, .str t.name, .str t.data, .str t.to]
/-- A disk without files: how many steps are left, whether it is down, its steps. -/
def zS (f : Int) (b : Bool) (t : Int) : DSt := ⟨[], [], [], f, b, t⟩
def zQ (f : Int) (b : Bool) (t : Int) : AObj := .cells [.slice true (([] : List (Str × Str)).map fileAV), .slice true (([] : List (Str × Str)).map fileAV), .slice true (([] : List Trn).map trnAV), .int .i64 f, .bool b, .int .i64 t]
/-- The document's disk, told by the program's. -/
def zR (s : DSt) : AObj := zQ s.fuse s.down s.steps
structure Em (s : DSt) (N : Nat) : Prop where
  ke : s.kept = []
  ne : s.now = []
  we : s.wait = []
  st0 : 0 ≤ s.steps
  st1 : s.steps ≤ N
  fu0 : -1 ≤ s.fuse
  fu1 : s.fuse ≤ 9223372036854775807
theorem Em.eq {s : DSt} {N : Nat} (h : Em s N) : s = zS s.fuse s.down s.steps := by
  obtain ⟨k, n, w, f, d, t⟩ := s
  have h1 : k = [] := h.ke
  have h2 : n = [] := h.ne
  have h3 : w = [] := h.we
  subst h1; subst h2; subst h3; rfl
theorem Em.mono {s : DSt} {N M : Nat} (h : Em s N) (hm : N ≤ M) : Em s M := ⟨h.ke, h.ne, h.we, h.st0, by have := h.st1; omega, h.fu0, h.fu1⟩
theorem Em.of_step {s : DSt} {N : Nat} (h : Em s N) : Em (stepF s).1 (N + 1) := by
  have k := stepF_keep s
  have q := stepF_steps s
  refine ⟨by rw [k.1]; exact h.ke, by rw [k.2.1]; exact h.ne, by rw [k.2.2.1]; exact h.we, by have := h.st0; omega, by have := h.st1; omega, ?_, ?_⟩
  · have := h.fu0
    unfold stepF; split
    · exact this
    · split
      · show (-1 : Int) ≤ -1; omega
      · show -1 ≤ if 0 < s.fuse then s.fuse - 1 else s.fuse
        split <;> omega
  · have := h.fu1
    unfold stepF; split
    · exact this
    · split
      · show (-1 : Int) ≤ _; omega
      · show (if 0 < s.fuse then s.fuse - 1 else s.fuse) ≤ _
        split <;> omega
def armD (s : DSt) (f : Int) : DSt := { s with fuse := if -1 > f then -1 else f }
theorem Em.arm {s : DSt} {N : Nat} (h : Em s N) (f : Int) (hf : f ≤ 9223372036854775807) : Em (armD s f) (N + 1) :=
  ⟨h.ke, h.ne, h.we, h.st0, by show s.steps ≤ _; have := h.st1; omega, by show -1 ≤ if -1 > f then -1 else f; split <;> omega, by show (if -1 > f then -1 else f) ≤ _; split <;> omega⟩
theorem Em.rest {s : DSt} {N : Nat} (h : Em s N) : Em (zS (-1) false s.steps) (N + 1) := ⟨rfl, rfl, rfl, h.st0, by show s.steps ≤ _; have := h.st1; omega, by show (-1 : Int) ≤ -1; omega, by show (-1 : Int) ≤ _; omega⟩
/-- The walks name the document's disk beside the program's; here it is told by the program's alone. -/
abbrev RSt := Unit
def rT (_ : RSt) (s : DSt) : DSt := s
def rObj (s : DSt) : AObj := zR s
abbrev Two (s : DSt) (_ : RSt) (N : Nat) : Prop := Em s N
theorem Em.inv {s : DSt} {N : Nat} (h : Em s N) : Em s N := h
theorem Em.start0 : Em s0 0 := ⟨rfl, rfl, rfl, Int.le_refl _, Int.le_refl _, by decide, by decide⟩

theorem u_Down (d kb nb : Nat) (s : DSt)  (m : AMem)  (K : AV → AMem → Prop) (hK : K (.bool s.down) (AMem.wth m [(d, dObj kb nb s)])) : ACalls Try.prog 42 [.ptr ⟨d, 0, none⟩] (AMem.wth m [(d, .cells [.map kb, .map nb, .slice true (s.wait.map chgAV), .int .i64 s.fuse, .bool s.down, .int .i64 s.steps])]) K := by
 refine acalls_enter Try.func42 rfl (by decide) (Nat.le_of_ble_eq_true rfl) ?_
 show AWP _ _ _ _ [(0, .ptr ⟨d, 0, none⟩)] (AMem.wth m [(d, .cells [.map kb, .map nb, .slice true (s.wait.map chgAV), .int .i64 s.fuse, .bool s.down, .int .i64 s.steps])])
 refine awp_reg2_seq [] [0] (by decide) ?_
 intro K1 hK1
 refine ⟨trivial, ?_⟩
 show K1 [(0, .ptr ⟨d, 0, none⟩)] _
 refine hK1 _ _ ?_; clear hK1 K1
 refine awp_reg2_seq [] [2] (by decide) ?_
 intro K1 hK1
 refine ⟨trivial, trivial, ⟨rfl, by decide⟩, ?_⟩
 refine ar_loadp rfl (v := .bool s.down) rfl (wth_get 0 (nodup_1 d) rfl) rfl (apartOk_one rfl rfl (Nat.le_of_ble_eq_true rfl)) rfl ?_
 refine ⟨trivial, ?_⟩
 show K1 [(2, .bool s.down)] _
 refine hK1 _ _ ?_; clear hK1 K1
 refine awp_ret ?_
 refine ⟨trivial, (AMem.wth m [(d, .cells [.map kb, .map nb, .slice true (s.wait.map chgAV), .int .i64 s.fuse, .bool s.down, .int .i64 s.steps])]), fun _ _ h => h, ?_⟩
 show K (.bool s.down) _

 exact hK

theorem u_Arm (d kb nb : Nat) (s : DSt) (n : Int)  (m : AMem)  (K : AV → AMem → Prop) (hK : K (.tuple []) (AMem.wth m [(d, dObj kb nb (armD s n))])) : ACalls Try.prog 37 [.ptr ⟨d, 0, none⟩, .int .i64 n] (AMem.wth m [(d, .cells [.map kb, .map nb, .slice true (s.wait.map chgAV), .int .i64 s.fuse, .bool s.down, .int .i64 s.steps])]) K := by
 refine acalls_enter Try.func37 rfl (by decide) (Nat.le_of_ble_eq_true rfl) ?_
 show AWP _ _ _ _ [(0, .ptr ⟨d, 0, none⟩), (1, .int .i64 n)] (AMem.wth m [(d, .cells [.map kb, .map nb, .slice true (s.wait.map chgAV), .int .i64 s.fuse, .bool s.down, .int .i64 s.steps])])
 refine awp_reg2 [] [] (by decide) ?_
 intro K1 hK1
 refine ⟨trivial, trivial, trivial, trivial, ⟨rfl, by decide⟩, ?_⟩
 refine ar_storep rfl 0 (v := .int .i64 (if -1 > n then -1 else n)) (l' := [.map kb, .map nb, .slice true (s.wait.map chgAV), .int .i64 (if -1 > n then -1 else n), .bool s.down, .int .i64 s.steps]) rfl rfl (nodup_1 d) rfl rfl rfl rfl rfl (Nat.le_of_ble_eq_true rfl) rfl ?_
 show K1 [] (AMem.wth m [(d, .cells [.map kb, .map nb, .slice true (s.wait.map chgAV), .int .i64 (if -1 > n then -1 else n), .bool s.down, .int .i64 s.steps])])
 refine hK1 _ _ ?_; clear hK1 K1
 refine ⟨(AMem.wth m [(d, .cells [.map kb, .map nb, .slice true (s.wait.map chgAV), .int .i64 (if -1 > n then -1 else n), .bool s.down, .int .i64 s.steps])]), fun _ _ h => h, ?_⟩
 show K (.tuple []) _

 exact hK

set_option maxHeartbeats 4000000 in
theorem u_RestartZ (d kb nb : Nat) (f t keep torn : Int) (b : Bool) (hN : [d, kb].Nodup) (m : AMem)  (K : AV → AMem → Prop) (hK : ∀ q, ([q, d, kb] : List Nat).Nodup → m q = none → K (.tuple []) (AMem.wth m [(q, mObj []), (d, dObj kb q (zS (-1) false t)), (kb, mObj [])])) : ACalls Try.prog 38 [.ptr ⟨d, 0, none⟩, .int .i64 keep, .int .i64 torn] (AMem.wth m [(d, .cells [.map kb, .map nb, .slice true (([] : List Chg).map chgAV), .int .i64 f, .bool b, .int .i64 t]), (kb, .map (List.map (mapAV strAV strAV) ([] : List (Str × Str))))]) K := by
 refine acalls_enter Try.func38 rfl (by decide) (Nat.le_of_ble_eq_true rfl) ?_
 show AWP _ _ _ _ [(0, .ptr ⟨d, 0, none⟩), (1, .int .i64 keep), (2, .int .i64 torn)] (AMem.wth m [(d, .cells [.map kb, .map nb, .slice true (([] : List Chg).map chgAV), .int .i64 f, .bool b, .int .i64 t]), (kb, .map (List.map (mapAV strAV strAV) ([] : List (Str × Str))))])
 refine awp_reg2_seq [] [0, 1, 2] (by decide) ?_
 intro K1 hK1
 refine ⟨trivial, trivial, trivial, trivial, ⟨rfl, by decide⟩, ?_⟩
 refine ar_loadp rfl (v := .slice false (([] : List Chg).map chgAV)) rfl (wth_get 0 hN rfl) rfl (apartOk_one rfl rfl (Nat.le_of_ble_eq_true rfl)) rfl ?_
 refine ar_len rfl chgAV ([] : List Chg) rfl rfl rfl ?_
 refine ⟨trivial, trivial, ?_⟩
 show K1 [(0, .ptr ⟨d, 0, none⟩), (1, .int .i64 (if (([] : List Chg).length : Int) < if 0 > keep then 0 else keep then (([] : List Chg).length : Int) else if 0 > keep then 0 else keep)), (2, .int .i64 torn)] _
 refine hK1 _ _ ?_; clear hK1 K1
 have hkk : (if (([] : List Chg).length : Int) < if 0 > keep then 0 else keep then (([] : List Chg).length : Int) else if 0 > keep then 0 else keep : Int) = 0 := by
  have hz0 : (([] : List Chg).length : Int) = 0 := rfl
  (repeat' split) <;> omega
 rw [hkk]
 show AWP _ _ _ _ [(0, .ptr ⟨d, 0, none⟩), (1, .int .i64 0), (2, .int .i64 torn)] (AMem.wth m [(d, .cells [.map kb, .map nb, .slice true (([] : List Chg).map chgAV), .int .i64 f, .bool b, .int .i64 t]), (kb, .map (List.map (mapAV strAV strAV) ([] : List (Str × Str))))])
 refine awp_seq_k ?_; intro K2 hK2
 refine awp_reg2_seq [] [0, 1, 2, 24, 25, 26] (by decide) ?_
 intro K1 hK1
 refine ⟨trivial, trivial, ⟨rfl, by decide⟩, ?_⟩
 refine ar_loadp rfl (v := .slice false (([] : List Chg).map chgAV)) rfl (wth_get 0 hN rfl) rfl (apartOk_one rfl rfl (Nat.le_of_ble_eq_true rfl)) rfl ?_
 refine ⟨trivial, ?_⟩
 refine ar_slice rfl chgAV ([] : List Chg) 0 0 rfl rfl rfl rfl rfl rfl (fun _ => rfl) (by omega) (by omega) (by omega) ?_
 refine ar_len rfl chgAV (sub ([] : List Chg) 0 0) rfl rfl rfl ?_
 refine ⟨trivial, ?_⟩
 show K1 [(0, .ptr ⟨d, 0, none⟩), (1, .int .i64 0), (2, .int .i64 torn), (24, .slice false ((sub ([] : List Chg) 0 0).map chgAV)), (25, .int .i64 ((sub ([] : List Chg) 0 0).length : Int)), (26, .int .i64 0)] _
 refine hK1 _ _ ?_; clear hK1 K1
 refine awp_block ?_
 refine awp_keep [0, 1, 2, 24, 25, 26] (by decide) ?_
 refine awp_loop_st (σ := Int) (fun i => [(0, .ptr ⟨d, 0, none⟩), (1, .int .i64 0), (2, .int .i64 torn), (24, .slice false ((sub ([] : List Chg) 0 0).map chgAV)), (25, .int .i64 ((sub ([] : List Chg) 0 0).length : Int)), (26, .int .i64 i)]) (fun _ => (AMem.wth m [(d, .cells [.map kb, .map nb, .slice true (([] : List Chg).map chgAV), .int .i64 f, .bool b, .int .i64 t]), (kb, .map (List.map (mapAV strAV strAV) ([] : List (Str × Str))))])) (fun i => i = 0) (fun i => 1) (0) rfl rfl ?_ ?_
 ·
  show ((0 : Int)) = 0
  rfl
 rintro i hI
 replace hI : i = 0 := hI
 show AWP _ _ _ _ [(0, .ptr ⟨d, 0, none⟩), (1, .int .i64 0), (2, .int .i64 torn), (24, .slice false ((sub ([] : List Chg) 0 0).map chgAV)), (25, .int .i64 ((sub ([] : List Chg) 0 0).length : Int)), (26, .int .i64 i)] (AMem.wth m [(d, .cells [.map kb, .map nb, .slice true (([] : List Chg).map chgAV), .int .i64 f, .bool b, .int .i64 t]), (kb, .map (List.map (mapAV strAV strAV) ([] : List (Str × Str))))])
 refine awp_reg2_seq [] [0, 1, 2, 24, 25, 26, 27] (by decide) ?_
 intro K1 hK1
 refine ⟨trivial, ?_⟩
 show K1 [(0, .ptr ⟨d, 0, none⟩), (1, .int .i64 0), (2, .int .i64 torn), (24, .slice false ((sub ([] : List Chg) 0 0).map chgAV)), (25, .int .i64 ((sub ([] : List Chg) 0 0).length : Int)), (26, .int .i64 i), (27, .bool (decide (i < ((sub ([] : List Chg) 0 0).length : Int))))] _
 refine hK1 _ _ ?_; clear hK1 K1
 refine awp_seq_k ?_; intro K3 hK3
 refine awp_cond rfl rfl (fun h1 => ?_) (fun h1 => ?_)
 ·
  replace h1 : i < ((sub ([] : List Chg) 0 0).length : Int) := (of_decide_eq_true h1)
  have hs0 : (sub ([] : List Chg) 0 0).length = 0 := rfl
  omega
 replace h1 : ((sub ([] : List Chg) 0 0).length : Int) ≤ i := (Int.not_lt.1 (of_decide_eq_false h1))
 refine awp_exit ?_
 refine hK2 _ _ ?_; clear hK2
 refine awp_seq_k ?_; intro K4 hK4
 refine awp_reg2_seq [] [0, 1, 2, 54] (by decide) ?_
 intro K1 hK1
 suffices key : K1 [(0, .ptr ⟨d, 0, none⟩), (1, .int .i64 0), (2, .int .i64 torn), (54, .bool ((decide (0 < (([] : List Chg).length : Int))) && (decide ((gI ([] : List Chg) 0).kind ≤ 3))))] (AMem.wth m [(d, .cells [.map kb, .map nb, .slice true (([] : List Chg).map chgAV), .int .i64 f, .bool b, .int .i64 t]), (kb, .map (List.map (mapAV strAV strAV) ([] : List (Str × Str))))]) by
  refine ⟨trivial, trivial, trivial, ⟨rfl, by decide⟩, ?_⟩
  refine ar_loadp rfl (v := .slice false (([] : List Chg).map chgAV)) rfl (wth_get 0 hN rfl) rfl (apartOk_one rfl rfl (Nat.le_of_ble_eq_true rfl)) rfl ?_
  refine ar_len rfl chgAV ([] : List Chg) rfl rfl rfl ?_
  refine ⟨trivial, trivial, ?_⟩
  show aopsR _ _ _ _ _ [(44, .bool (decide (0 < (([] : List Chg).length : Int)))), (43, .bool (decide (0 < (([] : List Chg).length : Int)))), (42, .int .i64 (([] : List Chg).length : Int)), (41, .slice false (([] : List Chg).map chgAV)), (40, .ptr ⟨d, 2, none⟩), (39, .ptr ⟨d, 0, none⟩), (38, .ptr ⟨d, 0, none⟩), (37, .int .i64 0), (0, .ptr ⟨d, 0, none⟩), (1, .int .i64 0), (2, .int .i64 torn), (24, .slice false ((sub ([] : List Chg) 0 0).map chgAV)), (25, .int .i64 ((sub ([] : List Chg) 0 0).length : Int)), (26, .int .i64 i), (27, .bool (decide (i < ((sub ([] : List Chg) 0 0).length : Int))))] _
  revert key
  cases h2 : (decide (0 < (([] : List Chg).length : Int)))
  ·
   replace h2 : (([] : List Chg).length : Int) ≤ 0 := (Int.not_lt.1 (of_decide_eq_false h2))
   intro key
   refine ar_off rfl (ar_off rfl (ar_off rfl (ar_off rfl (ar_off rfl (ar_off rfl (ar_off rfl (ar_off rfl (ar_off rfl ?_))))))))
   exact key
  ·
   replace h2 : 0 < (([] : List Chg).length : Int) := (of_decide_eq_true h2)
   intro key
   refine ⟨trivial, trivial, ⟨rfl, by decide⟩, ?_⟩
   refine ar_loadp rfl (v := .slice false (([] : List Chg).map chgAV)) rfl (wth_get 0 hN rfl) rfl (apartOk_one rfl rfl (Nat.le_of_ble_eq_true rfl)) rfl ?_
   refine ⟨trivial, ?_⟩
   refine ar_index rfl chgAV ([] : List Chg) 0 rfl rfl rfl rfl rfl (by decide) (fun _ => rfl) (by omega) (by omega) ?_
   refine ⟨⟨rfl, by decide, (Nat.le_of_ble_eq_true rfl)⟩, (apartOk_one rfl rfl (Nat.le_of_ble_eq_true rfl)), trivial, ?_⟩
   exact key
 refine hK1 _ _ ?_; clear hK1 K1
 refine awp_cond rfl rfl (fun h3 => ?_) (fun h3 => ?_)
 ·
  replace h3 : (0 < (([] : List Chg).length : Int)) ∧ ((gI ([] : List Chg) 0).kind ≤ 3) := ⟨(of_decide_eq_true (bandL h3)), (of_decide_eq_true (bandR h3))⟩
  simp at h3
 replace h3 : ((([] : List Chg).length : Int) ≤ 0) ∨ (3 < (gI ([] : List Chg) 0).kind) := ((bandF h3).imp (fun q => (Int.not_lt.1 (of_decide_eq_false q))) (fun q => (Int.not_le.1 (of_decide_eq_false q))))
 refine awp_skip ?_
 refine hK4 _ _ ?_; clear hK4
 refine awp_reg2_seq [] [0] (by decide) ?_
 intro K1 hK1
 refine ⟨trivial, trivial, trivial, trivial, ⟨rfl, by decide⟩, ?_⟩
 refine ar_storep rfl 0 (v := .slice true []) (l' := [.map kb, .map nb, .slice true [], .int .i64 f, .bool b, .int .i64 t]) rfl rfl hN rfl rfl rfl rfl rfl (Nat.le_of_ble_eq_true rfl) rfl ?_
 refine ⟨trivial, ⟨rfl, by decide⟩, ?_⟩
 refine ar_storep rfl 0 (v := .bool false) (l' := [.map kb, .map nb, .slice true [], .int .i64 f, .bool false, .int .i64 t]) rfl rfl hN rfl rfl rfl rfl rfl (Nat.le_of_ble_eq_true rfl) rfl ?_
 refine ⟨trivial, ⟨rfl, by decide⟩, ?_⟩
 refine ar_storep rfl 0 (v := .int .i64 (-1)) (l' := [.map kb, .map nb, .slice true [], .int .i64 (-1), .bool false, .int .i64 t]) rfl rfl hN rfl rfl rfl rfl rfl (Nat.le_of_ble_eq_true rfl) rfl ?_
 show K1 [(0, .ptr ⟨d, 0, none⟩)] (AMem.wth m [(d, .cells [.map kb, .map nb, .slice true [], .int .i64 (-1), .bool false, .int .i64 t]), (kb, .map (List.map (mapAV strAV strAV) ([] : List (Str × Str))))])
 refine hK1 _ _ ?_; clear hK1 K1
 refine awp_reg2_seq [] [0] (by decide) ?_
 intro K1 hK1
 refine ⟨trivial, ?_⟩
 refine ar_makeMap rfl (m := m) (L := [(d, .cells [.map kb, .map nb, .slice true [], .int .i64 (-1), .bool false, .int .i64 t]), (kb, .map (List.map (mapAV strAV strAV) ([] : List (Str × Str))))]) rfl ?_
 intro b1 hb1
 have hFb1 : m b1 = none := wth_none hb1
 have hNb1 : ([b1, d, kb] : List Nat).Nodup := wth_nodup hb1 hN
 refine ⟨trivial, ⟨rfl, by decide⟩, ?_⟩
 refine ar_storep rfl 1 (v := .map b1) (l' := [.map kb, .map b1, .slice true [], .int .i64 (-1), .bool false, .int .i64 t]) rfl rfl hNb1 rfl rfl rfl rfl rfl (Nat.le_of_ble_eq_true rfl) rfl ?_
 show K1 [(0, .ptr ⟨d, 0, none⟩)] (AMem.wth m [(b1, .map (List.map (mapAV strAV strAV) ([] : List ((List UInt8) × (List UInt8))))), (d, .cells [.map kb, .map b1, .slice true [], .int .i64 (-1), .bool false, .int .i64 t]), (kb, .map (List.map (mapAV strAV strAV) ([] : List (Str × Str))))])
 refine hK1 _ _ ?_; clear hK1 K1
 refine awp_reg2_seq [] [0, 98] (by decide) ?_
 intro K1 hK1
 refine ⟨trivial, trivial, ⟨rfl, by decide⟩, ?_⟩
 refine ar_loadp rfl (v := .map kb) rfl (wth_get 1 hNb1 rfl) rfl (apartOk_one rfl rfl (Nat.le_of_ble_eq_true rfl)) rfl ?_
 refine ar_range rfl (m := m) (L := [(b1, .map (List.map (mapAV strAV strAV) ([] : List ((List UInt8) × (List UInt8))))), (d, .cells [.map kb, .map b1, .slice true [], .int .i64 (-1), .bool false, .int .i64 t]), (kb, .map (List.map (mapAV strAV strAV) ([] : List (Str × Str))))]) 2 rfl rfl rfl hNb1 ?_
 intro q1 _
 show K1 [(0, .ptr ⟨d, 0, none⟩), (98, .ptr ⟨q1, 0, none⟩)] (AMem.wth m [(b1, .map (List.map (mapAV strAV strAV) ([] : List ((List UInt8) × (List UInt8))))), (d, .cells [.map kb, .map b1, .slice true [], .int .i64 (-1), .bool false, .int .i64 t]), (kb, AObj.iter q1 (List.map (mapAV strAV strAV) ([] : List (Str × Str))) [])])
 refine hK1 _ _ ?_; clear hK1 K1
 refine awp_block ?_
 refine awp_keep [0, 98] (by decide) ?_
 refine awp_loop_st (σ := (List (Str × Str)) × (List Nat)) (fun ⟨nw, seen⟩ => [(0, .ptr ⟨d, 0, none⟩), (98, .ptr ⟨q1, 0, none⟩)]) (fun ⟨nw, seen⟩ => (AMem.wth m [(b1, .map (List.map (mapAV strAV strAV) nw)), (d, .cells [.map kb, .map b1, .slice true [], .int .i64 (-1), .bool false, .int .i64 t]), (kb, AObj.iter q1 (List.map (mapAV strAV strAV) ([] : List (Str × Str))) seen)])) (fun ⟨nw, seen⟩ => seen = [] ∧ nw = []) (fun ⟨nw, seen⟩ => 0) (([] : List ((List UInt8) × (List UInt8))), []) rfl rfl ?_ ?_
 ·
  show (([] : (List Nat))) = [] ∧ ((([] : List ((List UInt8) × (List UInt8))) : (List (Str × Str)))) = []
  exact ⟨rfl, rfl⟩
 rintro ⟨nw, seen⟩ hI2
 replace hI2 : seen = [] ∧ nw = [] := hI2
 show AWP _ _ _ _ [(0, .ptr ⟨d, 0, none⟩), (98, .ptr ⟨q1, 0, none⟩)] (AMem.wth m [(b1, .map (List.map (mapAV strAV strAV) nw)), (d, .cells [.map kb, .map b1, .slice true [], .int .i64 (-1), .bool false, .int .i64 t]), (kb, AObj.iter q1 (List.map (mapAV strAV strAV) ([] : List (Str × Str))) seen)])
 refine awp_reg2_seq [] [0, 98, 100] (by decide) ?_
 intro K1 hK1
 refine ar_nextT rfl (m := m) (L := [(b1, .map (List.map (mapAV strAV strAV) nw)), (d, .cells [.map kb, .map b1, .slice true [], .int .i64 (-1), .bool false, .int .i64 t]), (kb, AObj.iter q1 (List.map (mapAV strAV strAV) ([] : List (Str × Str))) seen)]) 2 strAV strAV ([] : List (Str × Str)) seen rfl rfl hNb1 ?_ ?_
 ·
  intro hE1
  refine ⟨(Nat.le_of_ble_eq_true rfl), ?_⟩
  show K1 [(0, .ptr ⟨d, 0, none⟩), (98, .ptr ⟨q1, 0, none⟩), (100, .bool false)] (AMem.wth m [(b1, .map (List.map (mapAV strAV strAV) nw)), (d, .cells [.map kb, .map b1, .slice true [], .int .i64 (-1), .bool false, .int .i64 t]), (kb, AObj.iter q1 (List.map (mapAV strAV strAV) ([] : List (Str × Str))) seen)])
  refine hK1 _ _ ?_; clear hK1 K1
  refine awp_unrange (m := m) (L := [(b1, .map (List.map (mapAV strAV strAV) nw)), (d, .cells [.map kb, .map b1, .slice true [], .int .i64 (-1), .bool false, .int .i64 t]), (kb, AObj.iter q1 (List.map (mapAV strAV strAV) ([] : List (Str × Str))) seen)]) 2 hNb1 rfl ?_
  show AWP _ _ _ _ [(0, .ptr ⟨d, 0, none⟩), (98, .ptr ⟨q1, 0, none⟩), (100, .bool false)] (AMem.wth m [(b1, .map (List.map (mapAV strAV strAV) nw)), (d, .cells [.map kb, .map b1, .slice true [], .int .i64 (-1), .bool false, .int .i64 t]), (kb, .map (List.map (mapAV strAV strAV) ([] : List (Str × Str))))])
  refine awp_seq_k ?_; intro K5 hK5
  refine awp_cond rfl rfl (fun hcz => ?_) (fun hcz => ?_)
  ·
   cases hcz
  clear hcz
  refine awp_exit ?_
  refine ⟨(AMem.wth m [(b1, .map (List.map (mapAV strAV strAV) nw)), (d, .cells [.map kb, .map b1, .slice true [], .int .i64 (-1), .bool false, .int .i64 t]), (kb, .map (List.map (mapAV strAV strAV) ([] : List (Str × Str))))]), fun _ _ h => h, ?_⟩
  show K (.tuple []) (AMem.wth m [(b1, .map (List.map (mapAV strAV strAV) nw)), (d, .cells [.map kb, .map b1, .slice true [], .int .i64 (-1), .bool false, .int .i64 t]), (kb, .map (List.map (mapAV strAV strAV) ([] : List (Str × Str))))])
 
  have hz2 := hI2.2
  subst hz2
  exact hK b1 hNb1 hFb1
 ·
  rintro k1 ⟨ek1, ev1⟩ hp1 hn1
  refine ⟨(Nat.le_of_ble_eq_true rfl), ?_⟩
  show K1 [(0, .ptr ⟨d, 0, none⟩), (98, .ptr ⟨q1, 0, none⟩), (100, .bool true)] (AMem.wth m [(b1, .map (List.map (mapAV strAV strAV) nw)), (d, .cells [.map kb, .map b1, .slice true [], .int .i64 (-1), .bool false, .int .i64 t]), (kb, AObj.iter q1 (List.map (mapAV strAV strAV) ([] : List (Str × Str))) (seen ++ [k1]))])
  refine hK1 _ _ ?_; clear hK1 K1
  refine awp_seq_k ?_; intro K6 hK6
  refine awp_cond rfl rfl (fun hcz => ?_) (fun hcz => ?_)
  rotate_left; · cases hcz
  clear hcz
  refine awp_skip ?_
  refine hK6 _ _ ?_; clear hK6
  refine awp_block ?_
  refine awp_reg2_seq [] [0, 9, 10, 98] (by decide) ?_
  intro K1 hK1
  refine ar_entryT rfl (m := m) (L := [(b1, .map (List.map (mapAV strAV strAV) nw)), (d, .cells [.map kb, .map b1, .slice true [], .int .i64 (-1), .bool false, .int .i64 t]), (kb, AObj.iter q1 (List.map (mapAV strAV strAV) ([] : List (Str × Str))) (seen ++ [k1]))]) 2 strAV strAV ([] : List (Str × Str)) seen hp1 rfl rfl hNb1 ?_
  refine ⟨(Nat.le_of_ble_eq_true rfl), (Nat.le_of_ble_eq_true rfl), trivial, trivial, ?_⟩
  show K1 [(0, .ptr ⟨d, 0, none⟩), (9, .str ek1), (10, .str ev1), (98, .ptr ⟨q1, 0, none⟩)] _
  refine hK1 _ _ ?_; clear hK1 K1
  refine awp_reg2 [] [0, 98] (by decide) ?_
  intro K1 hK1
  refine ⟨trivial, trivial, ⟨rfl, by decide⟩, ?_⟩
  refine ar_loadp rfl (v := .map b1) rfl (wth_get 1 hNb1 rfl) rfl (apartOk_one rfl rfl (Nat.le_of_ble_eq_true rfl)) rfl ?_
  refine ⟨trivial, trivial, ?_⟩
  refine ar_mapUpdate rfl (m := m) (L := [(b1, .map (List.map (mapAV strAV strAV) nw)), (d, .cells [.map kb, .map b1, .slice true [], .int .i64 (-1), .bool false, .int .i64 t]), (kb, AObj.iter q1 (List.map (mapAV strAV strAV) ([] : List (Str × Str))) (seen ++ [k1]))]) 0 strAV strAV strKey_ok nw ek1 ev1 rfl rfl rfl rfl rfl rfl hNb1 (by rw [hI2.2]; refine Nat.le_trans (mput_len _ _ _) (by simp)) ?_
  show K1 [(0, .ptr ⟨d, 0, none⟩), (98, .ptr ⟨q1, 0, none⟩)] (AMem.wth m [(b1, .map (List.map (mapAV strAV strAV) (mput nw ek1 ev1))), (d, .cells [.map kb, .map b1, .slice true [], .int .i64 (-1), .bool false, .int .i64 t]), (kb, AObj.iter q1 (List.map (mapAV strAV strAV) ([] : List (Str × Str))) (seen ++ [k1]))])
  refine hK1 _ _ ?_; clear hK1 K1
  refine ⟨(mput nw ek1 ev1, seen ++ [k1]), rfl, rfl, ?_, ?_⟩
  ·
   show ((seen ++ [k1] : (List Nat))) = [] ∧ ((mput nw ek1 ev1 : (List (Str × Str)))) = []
   exact absurd hp1 (by simp)
  ·
   show 0 < 0
   exact absurd hp1 (by simp)

set_option maxHeartbeats 2000000 in
theorem u_QStepZ (r : Nat) (s : DSt) (h0 : -1 ≤ s.fuse) (h1 : s.fuse ≤ 9223372036854775807) (h2 : 0 ≤ s.steps) (h3 : s.steps ≤ 1000000) (m : AMem)  (K : AV → AMem → Prop) (hK : K (.int .i64 (stepF s).2) (AMem.wth m [(r, zR (stepF s).1)])) : ACalls Try.prog 36 [.ptr ⟨r, 0, none⟩] (AMem.wth m [(r, zR s)]) K := by
 refine acalls_enter Try.func36 rfl (by decide) (Nat.le_of_ble_eq_true rfl) ?_
 show AWP _ _ _ _ [(0, .ptr ⟨r, 0, none⟩)] (AMem.wth m [(r, zR s)])
 refine awp_reg2_seq [] [0] (by decide) ?_
 intro K1 hK1
 refine ⟨trivial, ?_⟩
 show K1 [(0, .ptr ⟨r, 0, none⟩)] _
 refine hK1 _ _ ?_; clear hK1 K1
 refine awp_seq_k ?_; intro K2 hK2
 refine awp_reg2_seq [] [0, 6] (by decide) ?_
 intro K1 hK1
 refine ⟨trivial, trivial, ⟨rfl, by decide⟩, ?_⟩
 refine ar_loadp rfl (v := .bool s.down) rfl (wth_get 0 (nodup_1 r) rfl) rfl (apartOk_one rfl rfl (Nat.le_of_ble_eq_true rfl)) rfl ?_
 show K1 [(0, .ptr ⟨r, 0, none⟩), (6, .bool s.down)] _
 refine hK1 _ _ ?_; clear hK1 K1
 refine awp_cond rfl rfl (fun h1 => ?_) (fun h1 => ?_)
 ·
  replace h1 : s.down = true := h1
  refine awp_reg2_seq [] [2] (by decide) ?_
  intro K1 hK1
  refine ⟨trivial, ?_⟩
  show K1 [(2, .int .i64 10)] (AMem.wth m [(r, zR s)])
  refine hK1 _ _ ?_; clear hK1 K1
  refine awp_ret ?_
  refine ⟨trivial, (AMem.wth m [(r, zR s)]), fun _ _ h => h, ?_⟩
  show K (.int .i64 10) _
 
  have e0 : stepF s = (((⟨s.kept, s.now, s.wait, s.fuse, s.down, s.steps⟩ : DSt), 10) : DSt × Int) := by
   obtain ⟨kept, now, wait, fuse, down, steps⟩ := s
   simp_all [stepF] <;> omega
  rw [e0] at hK
  exact hK
 replace h1 : s.down = false := h1
 refine awp_skip ?_
 refine hK2 _ _ ?_; clear hK2
 refine awp_seq_k ?_; intro K3 hK3
 refine awp_reg2_seq [] [0, 11] (by decide) ?_
 intro K1 hK1
 refine ⟨trivial, trivial, ⟨rfl, by decide⟩, ?_⟩
 refine ar_loadp rfl (v := .int .i64 s.fuse) rfl (wth_get 0 (nodup_1 r) rfl) rfl (apartOk_one rfl rfl (Nat.le_of_ble_eq_true rfl)) rfl ?_
 refine ⟨trivial, ?_⟩
 show K1 [(0, .ptr ⟨r, 0, none⟩), (11, .bool (s.fuse == 0))] (AMem.wth m [(r, zR s)])
 refine hK1 _ _ ?_; clear hK1 K1
 refine awp_cond rfl rfl (fun h2 => ?_) (fun h2 => ?_)
 ·
  replace h2 : s.fuse = 0 := (eq_of_beq h2)
  refine awp_reg2_seq [] [0] (by decide) ?_
  intro K1 hK1
  refine ⟨trivial, trivial, ⟨rfl, by decide⟩, ?_⟩
  refine ar_storep rfl 0 (v := .bool true) (l' := [.slice true (([] : List (Str × Str)).map fileAV), .slice true (([] : List (Str × Str)).map fileAV), .slice true (([] : List Trn).map trnAV), .int .i64 s.fuse, .bool true, .int .i64 s.steps]) rfl rfl (nodup_1 r) rfl rfl rfl rfl rfl (Nat.le_of_ble_eq_true rfl) rfl ?_
  show K1 [(0, .ptr ⟨r, 0, none⟩)] (AMem.wth m [(r, zQ s.fuse true s.steps)])
  refine hK1 _ _ ?_; clear hK1 K1
  refine awp_reg2_seq [] [] (by decide) ?_
  intro K1 hK1
  refine ⟨trivial, trivial, ⟨rfl, by decide⟩, ?_⟩
  refine ar_storep rfl 0 (v := .int .i64 (-1)) (l' := [.slice true (([] : List (Str × Str)).map fileAV), .slice true (([] : List (Str × Str)).map fileAV), .slice true (([] : List Trn).map trnAV), .int .i64 (-1), .bool true, .int .i64 s.steps]) rfl rfl (nodup_1 r) rfl rfl rfl rfl rfl (Nat.le_of_ble_eq_true rfl) rfl ?_
  show K1 [] (AMem.wth m [(r, zQ (-1) true s.steps)])
  refine hK1 _ _ ?_; clear hK1 K1
  refine awp_reg2_seq [] [2] (by decide) ?_
  intro K1 hK1
  refine ⟨trivial, ?_⟩
  show K1 [(2, .int .i64 10)] _
  refine hK1 _ _ ?_; clear hK1 K1
  refine awp_ret ?_
  refine ⟨trivial, (AMem.wth m [(r, zQ (-1) true s.steps)]), fun _ _ h => h, ?_⟩
  show K (.int .i64 10) _
 
  have e0 : stepF s = (((⟨s.kept, s.now, s.wait, -1, true, s.steps⟩ : DSt), 10) : DSt × Int) := by
   obtain ⟨kept, now, wait, fuse, down, steps⟩ := s
   simp_all [stepF] <;> omega
  rw [e0] at hK
  exact hK
 replace h2 : s.fuse ≠ 0 := (ne_of_beq_false h2)
 refine awp_skip ?_
 refine hK3 _ _ ?_; clear hK3
 refine awp_seq_k ?_; intro K4 hK4
 refine awp_reg2_seq [] [0, 22] (by decide) ?_
 intro K1 hK1
 refine ⟨trivial, trivial, ⟨rfl, by decide⟩, ?_⟩
 refine ar_loadp rfl (v := .int .i64 s.fuse) rfl (wth_get 0 (nodup_1 r) rfl) rfl (apartOk_one rfl rfl (Nat.le_of_ble_eq_true rfl)) rfl ?_
 refine ⟨trivial, ?_⟩
 show K1 [(0, .ptr ⟨r, 0, none⟩), (22, .bool (decide (0 < s.fuse)))] (AMem.wth m [(r, zR s)])
 refine hK1 _ _ ?_; clear hK1 K1
 refine awp_cond rfl rfl (fun h3 => ?_) (fun h3 => ?_)
 ·
  replace h3 : 0 < s.fuse := (of_decide_eq_true h3)
  refine awp_reg2 [] [0] (by decide) ?_
  intro K1 hK1
  refine ⟨trivial, trivial, ⟨rfl, by decide⟩, ?_⟩
  refine ar_loadp rfl (v := .int .i64 s.fuse) rfl (wth_get 0 (nodup_1 r) rfl) rfl (apartOk_one rfl rfl (Nat.le_of_ble_eq_true rfl)) rfl ?_
  refine ar_sub rfl (a := s.fuse) (b := 1) rfl rfl (by omega) (by omega) ?_
  refine ⟨trivial, ⟨rfl, by decide⟩, ?_⟩
  refine ar_storep rfl 0 (v := .int .i64 (s.fuse - 1)) (l' := [.slice true (([] : List (Str × Str)).map fileAV), .slice true (([] : List (Str × Str)).map fileAV), .slice true (([] : List Trn).map trnAV), .int .i64 (s.fuse - 1), .bool s.down, .int .i64 s.steps]) rfl rfl (nodup_1 r) rfl rfl rfl rfl rfl (Nat.le_of_ble_eq_true rfl) rfl ?_
  show K1 [(0, .ptr ⟨r, 0, none⟩)] (AMem.wth m [(r, zQ (s.fuse - 1) s.down s.steps)])
  refine hK1 _ _ ?_; clear hK1 K1
  refine hK4 _ _ ?_; clear hK4
  refine awp_reg2_seq [] [] (by decide) ?_
  intro K1 hK1
  refine ⟨trivial, trivial, ⟨rfl, by decide⟩, ?_⟩
  refine ar_loadp rfl (v := .int .i64 s.steps) rfl (wth_get 0 (nodup_1 r) rfl) rfl (apartOk_one rfl rfl (Nat.le_of_ble_eq_true rfl)) rfl ?_
  refine ar_add rfl (a := s.steps) (b := 1) rfl rfl (by omega) (by omega) ?_
  refine ⟨trivial, ⟨rfl, by decide⟩, ?_⟩
  refine ar_storep rfl 0 (v := .int .i64 (s.steps + 1)) (l' := [.slice true (([] : List (Str × Str)).map fileAV), .slice true (([] : List (Str × Str)).map fileAV), .slice true (([] : List Trn).map trnAV), .int .i64 (s.fuse - 1), .bool s.down, .int .i64 (s.steps + 1)]) rfl rfl (nodup_1 r) rfl rfl rfl rfl rfl (Nat.le_of_ble_eq_true rfl) rfl ?_
  show K1 [] (AMem.wth m [(r, zQ (s.fuse - 1) s.down (s.steps + 1))])
  refine hK1 _ _ ?_; clear hK1 K1
  refine awp_reg2_seq [] [2] (by decide) ?_
  intro K1 hK1
  refine ⟨trivial, ?_⟩
  show K1 [(2, .int .i64 0)] _
  refine hK1 _ _ ?_; clear hK1 K1
  refine awp_ret ?_
  refine ⟨trivial, (AMem.wth m [(r, zQ (s.fuse - 1) s.down (s.steps + 1))]), fun _ _ h => h, ?_⟩
  show K (.int .i64 0) _
 
  have e0 : stepF s = (((⟨s.kept, s.now, s.wait, s.fuse - 1, s.down, s.steps + 1⟩ : DSt), 0) : DSt × Int) := by
   obtain ⟨kept, now, wait, fuse, down, steps⟩ := s
   simp_all [stepF] <;> omega
  rw [e0] at hK
  exact hK
 replace h3 : s.fuse ≤ 0 := (Int.not_lt.1 (of_decide_eq_false h3))
 refine awp_skip ?_
 refine hK4 _ _ ?_; clear hK4
 refine awp_reg2_seq [] [] (by decide) ?_
 intro K1 hK1
 refine ⟨trivial, trivial, ⟨rfl, by decide⟩, ?_⟩
 refine ar_loadp rfl (v := .int .i64 s.steps) rfl (wth_get 0 (nodup_1 r) rfl) rfl (apartOk_one rfl rfl (Nat.le_of_ble_eq_true rfl)) rfl ?_
 refine ar_add rfl (a := s.steps) (b := 1) rfl rfl (by omega) (by omega) ?_
 refine ⟨trivial, ⟨rfl, by decide⟩, ?_⟩
 refine ar_storep rfl 0 (v := .int .i64 (s.steps + 1)) (l' := [.slice true (([] : List (Str × Str)).map fileAV), .slice true (([] : List (Str × Str)).map fileAV), .slice true (([] : List Trn).map trnAV), .int .i64 s.fuse, .bool s.down, .int .i64 (s.steps + 1)]) rfl rfl (nodup_1 r) rfl rfl rfl rfl rfl (Nat.le_of_ble_eq_true rfl) rfl ?_
 show K1 [] (AMem.wth m [(r, zQ s.fuse s.down (s.steps + 1))])
 refine hK1 _ _ ?_; clear hK1 K1
 refine awp_reg2_seq [] [2] (by decide) ?_
 intro K1 hK1
 refine ⟨trivial, ?_⟩
 show K1 [(2, .int .i64 0)] _
 refine hK1 _ _ ?_; clear hK1 K1
 refine awp_ret ?_
 refine ⟨trivial, (AMem.wth m [(r, zQ s.fuse s.down (s.steps + 1))]), fun _ _ h => h, ?_⟩
 show K (.int .i64 0) _

 have e0 : stepF s = (((⟨s.kept, s.now, s.wait, s.fuse, s.down, s.steps + 1⟩ : DSt), 0) : DSt × Int) := by
  obtain ⟨kept, now, wait, fuse, down, steps⟩ := s
  simp_all [stepF] <;> omega
 rw [e0] at hK
 exact hK

theorem u_QNewZ   (m : AMem)  (K : AV → AMem → Prop) (hK : ∀ r, m r = none → K (.ptr ⟨r, 0, none⟩) (AMem.wth m [(r, zR s0)])) : ACalls Try.prog 24 [] m K := by
 refine acalls_enter Try.func24 rfl (by decide) (Nat.le_of_ble_eq_true rfl) ?_
 show AWP _ _ _ _ [] m
 refine awp_reg2_seq [] [] (by decide) ?_
 intro K1 hK1
 refine ⟨trivial, ?_⟩
 show K1 [] m
 refine hK1 _ _ ?_; clear hK1 K1
 refine awp_reg2_seq [] [0] (by decide) ?_
 intro K1 hK1
 refine ⟨⟨rfl, by simp only [List.forall_mem_cons]; exact ⟨rfl, rfl, rfl, rfl, rfl, rfl, fun _ h => by cases h⟩, by simp only [List.forall_mem_cons]; exact ⟨rfl, fun _ h => by cases h⟩⟩, ?_⟩
 refine ar_box rfl (m := m) (L := []) (v := .agg [.slice true [], .slice true [], .slice true [], .int .i64 (-1), .bool false, .int .i64 0]) rfl rfl ?_
 intro b1 hb1
 have hFb1 : m b1 = none := wth_none (m := m) (L := []) hb1
 have hNb1 : ([b1] : List Nat).Nodup := wth_nodup (m := m) (L := []) hb1 List.nodup_nil
 refine ⟨trivial, ?_⟩
 show K1 [(0, .ptr ⟨b1, 0, none⟩)] (AMem.wth m [(b1, .cells [.slice true [], .slice true [], .slice true [], .int .i64 (-1), .bool false, .int .i64 0])])
 refine hK1 _ _ ?_; clear hK1 K1
 refine awp_ret ?_
 refine ⟨trivial, (AMem.wth m [(b1, .cells [.slice true [], .slice true [], .slice true [], .int .i64 (-1), .bool false, .int .i64 0])]), fun _ _ h => h, ?_⟩
 show K (.ptr ⟨b1, 0, none⟩) _

 exact hK _ hFb1

set_option maxHeartbeats 4000000 in
theorem u_QRestartZ (r : Nat) (f t keep torn : Int) (b : Bool)  (m : AMem)  (K : AV → AMem → Prop) (hK : K (.tuple []) (AMem.wth m [(r, zQ (-1) false t)])) : ACalls Try.prog 39 [.ptr ⟨r, 0, none⟩, .int .i64 keep, .int .i64 torn] (AMem.wth m [(r, zQ f b t)]) K := by
 refine acalls_enter Try.func39 rfl (by decide) (Nat.le_of_ble_eq_true rfl) ?_
 show AWP _ _ _ _ [(0, .ptr ⟨r, 0, none⟩), (1, .int .i64 keep), (2, .int .i64 torn)] (AMem.wth m [(r, zQ f b t)])
 refine awp_seq_k ?_; intro K2 hK2
 refine awp_reg2_seq [] [0, 1, 2, 6] (by decide) ?_
 intro K1 hK1
 refine ⟨trivial, ?_⟩
 show K1 [(0, .ptr ⟨r, 0, none⟩), (1, .int .i64 keep), (2, .int .i64 torn), (6, .int .i64 0)] _
 refine hK1 _ _ ?_; clear hK1 K1
 refine awp_block ?_
 refine awp_keep [0, 1, 2, 6] (by decide) ?_
 refine awp_loop_st (σ := Int) (fun i => [(0, .ptr ⟨r, 0, none⟩), (1, .int .i64 keep), (2, .int .i64 torn), (6, .int .i64 i)]) (fun _ => (AMem.wth m [(r, zQ f b t)])) (fun i => i = 0) (fun i => 1) (0) rfl rfl ?_ ?_
 ·
  show ((0 : Int)) = 0
  rfl
 rintro i hI
 replace hI : i = 0 := hI
 show AWP _ _ _ _ [(0, .ptr ⟨r, 0, none⟩), (1, .int .i64 keep), (2, .int .i64 torn), (6, .int .i64 i)] (AMem.wth m [(r, zQ f b t)])
 refine awp_seq_k ?_; intro K3 hK3
 refine awp_reg2_seq [] [0, 1, 2, 6, 21] (by decide) ?_
 intro K1 hK1
 suffices key : K1 [(0, .ptr ⟨r, 0, none⟩), (1, .int .i64 keep), (2, .int .i64 torn), (6, .int .i64 i), (21, .bool ((decide (i < (([] : List Trn).length : Int))) && (decide (i < keep))))] (AMem.wth m [(r, zQ f b t)]) by
  refine ⟨trivial, trivial, trivial, ⟨rfl, by decide⟩, ?_⟩
  refine ar_loadp rfl (v := .slice false (([] : List Trn).map trnAV)) rfl (wth_get 0 (nodup_1 r) rfl) rfl (apartOk_one rfl rfl (Nat.le_of_ble_eq_true rfl)) rfl ?_
  refine ar_len rfl trnAV ([] : List Trn) rfl rfl rfl ?_
  refine ⟨trivial, trivial, ?_⟩
  show aopsR _ _ _ _ _ [(17, .bool (decide (i < (([] : List Trn).length : Int)))), (16, .bool (decide (i < (([] : List Trn).length : Int)))), (15, .int .i64 (([] : List Trn).length : Int)), (14, .slice false (([] : List Trn).map trnAV)), (13, .ptr ⟨r, 2, none⟩), (12, .ptr ⟨r, 0, none⟩), (11, .ptr ⟨r, 0, none⟩), (10, .int .i64 i), (0, .ptr ⟨r, 0, none⟩), (1, .int .i64 keep), (2, .int .i64 torn), (6, .int .i64 i)] _
  revert key
  cases h1 : (decide (i < (([] : List Trn).length : Int)))
  ·
   replace h1 : (([] : List Trn).length : Int) ≤ i := (Int.not_lt.1 (of_decide_eq_false h1))
   intro key
   refine ar_off rfl (ar_off rfl (ar_off rfl ?_))
   exact key
  ·
   replace h1 : i < (([] : List Trn).length : Int) := (of_decide_eq_true h1)
   intro key
   refine ⟨trivial, trivial, trivial, ?_⟩
   exact key
 refine hK1 _ _ ?_; clear hK1 K1
 refine awp_cond rfl rfl (fun h2 => ?_) (fun h2 => ?_)
 ·
  replace h2 : (i < (([] : List Trn).length : Int)) ∧ (i < keep) := ⟨(of_decide_eq_true (bandL h2)), (of_decide_eq_true (bandR h2))⟩
  simp at h2
  omega
 replace h2 : ((([] : List Trn).length : Int) ≤ i) ∨ (keep ≤ i) := ((bandF h2).imp (fun q => (Int.not_lt.1 (of_decide_eq_false q))) (fun q => (Int.not_lt.1 (of_decide_eq_false q))))
 refine awp_exit ?_
 refine hK2 _ _ ?_; clear hK2
 refine awp_reg2_seq [] [0, 2, 7] (by decide) ?_
 intro K1 hK1
 refine ⟨trivial, trivial, trivial, ?_⟩
 show K1 [(0, .ptr ⟨r, 0, none⟩), (2, .int .i64 torn), (7, .int .i64 (if 0 > keep then 0 else keep))] (AMem.wth m [(r, zQ f b t)])
 refine hK1 _ _ ?_; clear hK1 K1
 obtain ⟨kx, hkx⟩ : ∃ kx : Int, kx = (if 0 > keep then 0 else keep) := ⟨_, rfl⟩
 rw [← hkx]
 have hkx0 : 0 ≤ kx := by rw [hkx]; split <;> omega
 show AWP _ _ _ _ [(0, .ptr ⟨r, 0, none⟩), (2, .int .i64 torn), (7, .int .i64 kx)] _
 refine awp_seq_k ?_; intro K4 hK4
 refine awp_reg2_seq [] [0, 2, 7, 58] (by decide) ?_
 intro K1 hK1
 suffices key : K1 [(0, .ptr ⟨r, 0, none⟩), (2, .int .i64 torn), (7, .int .i64 kx), (58, .bool ((decide (kx < (([] : List Trn).length : Int))) && (decide ((gI ([] : List Trn) kx).kind < 4))))] (AMem.wth m [(r, zQ f b t)]) by
  refine ⟨trivial, trivial, trivial, ⟨rfl, by decide⟩, ?_⟩
  refine ar_loadp rfl (v := .slice false (([] : List Trn).map trnAV)) rfl (wth_get 0 (nodup_1 r) rfl) rfl (apartOk_one rfl rfl (Nat.le_of_ble_eq_true rfl)) rfl ?_
  refine ar_len rfl trnAV ([] : List Trn) rfl rfl rfl ?_
  refine ⟨trivial, trivial, ?_⟩
  show aopsR _ _ _ _ _ [(48, .bool (decide (kx < (([] : List Trn).length : Int)))), (47, .bool (decide (kx < (([] : List Trn).length : Int)))), (46, .int .i64 (([] : List Trn).length : Int)), (45, .slice false (([] : List Trn).map trnAV)), (44, .ptr ⟨r, 2, none⟩), (43, .ptr ⟨r, 0, none⟩), (42, .ptr ⟨r, 0, none⟩), (41, .int .i64 kx), (0, .ptr ⟨r, 0, none⟩), (2, .int .i64 torn), (7, .int .i64 kx)] _
  revert key
  cases h3 : (decide (kx < (([] : List Trn).length : Int)))
  ·
   replace h3 : (([] : List Trn).length : Int) ≤ kx := (Int.not_lt.1 (of_decide_eq_false h3))
   intro key
   refine ar_off rfl (ar_off rfl (ar_off rfl (ar_off rfl (ar_off rfl (ar_off rfl (ar_off rfl (ar_off rfl (ar_off rfl ?_))))))))
   exact key
  ·
   replace h3 : kx < (([] : List Trn).length : Int) := (of_decide_eq_true h3)
   intro key
   refine ⟨trivial, trivial, ⟨rfl, by decide⟩, ?_⟩
   refine ar_loadp rfl (v := .slice false (([] : List Trn).map trnAV)) rfl (wth_get 0 (nodup_1 r) rfl) rfl (apartOk_one rfl rfl (Nat.le_of_ble_eq_true rfl)) rfl ?_
   refine ⟨trivial, ?_⟩
   refine ar_index rfl trnAV ([] : List Trn) kx rfl rfl rfl rfl rfl (by decide) (fun _ => rfl) (by omega) (by omega) ?_
   refine ⟨⟨rfl, by decide, (Nat.le_of_ble_eq_true rfl)⟩, (apartOk_one rfl rfl (Nat.le_of_ble_eq_true rfl)), trivial, ?_⟩
   exact key
 refine hK1 _ _ ?_; clear hK1 K1
 refine awp_cond rfl rfl (fun h4 => ?_) (fun h4 => ?_)
 ·
  replace h4 : (kx < (([] : List Trn).length : Int)) ∧ ((gI ([] : List Trn) kx).kind < 4) := ⟨(of_decide_eq_true (bandL h4)), (of_decide_eq_true (bandR h4))⟩
  simp at h4
  omega
 replace h4 : ((([] : List Trn).length : Int) ≤ kx) ∨ (4 ≤ (gI ([] : List Trn) kx).kind) := ((bandF h4).imp (fun q => (Int.not_lt.1 (of_decide_eq_false q))) (fun q => (Int.not_lt.1 (of_decide_eq_false q))))
 refine awp_skip ?_
 refine hK4 _ _ ?_; clear hK4
 refine awp_reg2_seq [] [0] (by decide) ?_
 intro K1 hK1
 refine ⟨trivial, trivial, trivial, ⟨rfl, by decide⟩, ?_⟩
 refine ar_loadp rfl (v := .slice false (([] : List (Str × Str)).map fileAV)) rfl (wth_get 0 (nodup_1 r) rfl) rfl (apartOk_one rfl rfl (Nat.le_of_ble_eq_true rfl)) rfl ?_
 refine ar_append0 rfl fileAV ([] : List (Str × Str)) rfl rfl rfl rfl (Nat.le_of_ble_eq_true rfl) rfl (by (simp only [show Try.prog.bytesOf 118 = 32 from rfl, List.length_append, List.length_cons, List.length_nil]; omega)) (fun _ => ⟨rfl, rfl⟩) ?_
 refine ⟨trivial, ⟨rfl, by decide⟩, ?_⟩
 refine ar_storep rfl 0 (v := .slice true (([] : List (Str × Str)).map fileAV)) (l' := [.slice true (([] : List (Str × Str)).map fileAV), .slice true (([] : List (Str × Str)).map fileAV), .slice true (([] : List Trn).map trnAV), .int .i64 f, .bool b, .int .i64 t]) rfl rfl (nodup_1 r) rfl rfl rfl rfl rfl (Nat.le_of_ble_eq_true rfl) rfl ?_
 show K1 [(0, .ptr ⟨r, 0, none⟩)] (AMem.wth m [(r, zQ f b t)])
 refine hK1 _ _ ?_; clear hK1 K1
 refine awp_reg2_seq [] [0] (by decide) ?_
 intro K1 hK1
 refine ⟨trivial, trivial, ⟨rfl, by decide⟩, ?_⟩
 refine ar_storep rfl 0 (v := .slice true []) (l' := [.slice true (([] : List (Str × Str)).map fileAV), .slice true (([] : List (Str × Str)).map fileAV), .slice true [], .int .i64 f, .bool b, .int .i64 t]) rfl rfl (nodup_1 r) rfl rfl rfl rfl rfl (Nat.le_of_ble_eq_true rfl) rfl ?_
 show K1 [(0, .ptr ⟨r, 0, none⟩)] (AMem.wth m [(r, .cells [.slice true (([] : List (Str × Str)).map fileAV), .slice true (([] : List (Str × Str)).map fileAV), .slice true [], .int .i64 f, .bool b, .int .i64 t])])
 refine hK1 _ _ ?_; clear hK1 K1
 refine awp_reg2_seq [] [0] (by decide) ?_
 intro K1 hK1
 refine ⟨trivial, trivial, ⟨rfl, by decide⟩, ?_⟩
 refine ar_storep rfl 0 (v := .bool false) (l' := [.slice true (([] : List (Str × Str)).map fileAV), .slice true (([] : List (Str × Str)).map fileAV), .slice true [], .int .i64 f, .bool false, .int .i64 t]) rfl rfl (nodup_1 r) rfl rfl rfl rfl rfl (Nat.le_of_ble_eq_true rfl) rfl ?_
 show K1 [(0, .ptr ⟨r, 0, none⟩)] (AMem.wth m [(r, .cells [.slice true (([] : List (Str × Str)).map fileAV), .slice true (([] : List (Str × Str)).map fileAV), .slice true [], .int .i64 f, .bool false, .int .i64 t])])
 refine hK1 _ _ ?_; clear hK1 K1
 refine awp_reg2 [] [] (by decide) ?_
 intro K1 hK1
 refine ⟨trivial, trivial, ⟨rfl, by decide⟩, ?_⟩
 refine ar_storep rfl 0 (v := .int .i64 (-1)) (l' := [.slice true (([] : List (Str × Str)).map fileAV), .slice true (([] : List (Str × Str)).map fileAV), .slice true [], .int .i64 (-1), .bool false, .int .i64 t]) rfl rfl (nodup_1 r) rfl rfl rfl rfl rfl (Nat.le_of_ble_eq_true rfl) rfl ?_
 show K1 [] (AMem.wth m [(r, .cells [.slice true (([] : List (Str × Str)).map fileAV), .slice true (([] : List (Str × Str)).map fileAV), .slice true [], .int .i64 (-1), .bool false, .int .i64 t])])
 refine hK1 _ _ ?_; clear hK1 K1
 refine ⟨(AMem.wth m [(r, .cells [.slice true (([] : List (Str × Str)).map fileAV), .slice true (([] : List (Str × Str)).map fileAV), .slice true [], .int .i64 (-1), .bool false, .int .i64 t])]), fun _ _ h => h, ?_⟩
 show K (.tuple []) _

 exact hK


theorem u_RestartE (d kb nb : Nat) (s : DSt) (keep torn : Int) (N : Nat) (h : Em s N) (hN : [d, kb].Nodup) (m : AMem) (K : AV → AMem → Prop)
    (hK : ∀ q, ([q, d, kb] : List Nat).Nodup → m q = none → ∀ _u : Unit, K (.tuple []) (AMem.wth m [(q, mObj (zS (-1) false s.steps).now), (d, dObj kb q (zS (-1) false s.steps)), (kb, mObj (zS (-1) false s.steps).kept)])) :
    ACalls Try.prog 38 [.ptr ⟨d, 0, none⟩, .int .i64 keep, .int .i64 torn] (AMem.wth m [(d, dObj kb nb s), (kb, mObj s.kept)]) K := by
  have e2 : dObj kb nb s = dObj kb nb (zS s.fuse s.down s.steps) := by rw [← h.eq]
  rw [h.ke, e2]
  exact u_RestartZ d kb nb s.fuse s.steps keep torn s.down hN m K (fun q a b => hK q a b ())
theorem u_QRestartE (r : Nat) (s : DSt) (keep torn : Int) (m : AMem) (K : AV → AMem → Prop) (hK : K (.tuple []) (AMem.wth m [(r, zR (zS (-1) false s.steps))])) :
    ACalls Try.prog 39 [.ptr ⟨r, 0, none⟩, .int .i64 keep, .int .i64 torn] (AMem.wth m [(r, zR s)]) K :=
  u_QRestartZ r s.fuse s.steps keep torn s.down m K hK

end Go.Proofs
end
