import Derived.Test.YtnahenbiipdlkaaDoorSv4
import Derived.Test.YtnahenbiipdlkaaDoorProg
import Derived.Lib.Strings
import Derived.Lib.Slices
import Derived.Lib.Walk
import Derived.Lib.Builder
import Derived.Lib.AppendStr
import Derived.Lib.UnsafeStr
import Derived.WalkKit
import Derived.Laws.Externs
import Derived.Laws.IdiomCopy
import Derived.ProofKit
import Derived.OwnWalk
import Derived.Test.YtnahenbiipdlkaaDoorWxz
import Derived.Test.YtnahenbiipdlkaaDoorWyX
section
namespace Go.Proofs
open Go Go.Aw Go.Sx
set_option maxRecDepth 100000
def mxF {α : Type} (g : α → Int) (l : List α) (d : Int) : Int := l.foldl (fun d x => if g x > d then g x else d) d
def hgtF : Nat → Val → Int
  | 0, _ => 0
  | k + 1, v => mxF (fun p => hgtF k p.2) v.f (mxF (hgtF k) v.l 0) + 1
theorem mxF_step {α : Type} [Inhabited α] (g : α → Int) {l : List α} {i : Int} (d : Int) (h0 : 0 ≤ i) (hi : i < l.length) : mxF g (l.take (i + 1).toNat) d = if g (gI l i) > mxF g (l.take i.toNat) d then g (gI l i) else mxF g (l.take i.toNat) d := by
  rw [take_succ_gI h0 hi]; unfold mxF; rw [List.foldl_append]; rfl
theorem mxF_le {α : Type} (g : α → Int) (B : Int) : ∀ (l : List α) (d : Int), (mxF g l d ≤ B ↔ d ≤ B ∧ ∀ x ∈ l, g x ≤ B)
  | [], d => by simp [mxF]
  | x :: r, d => by
    rw [show mxF g (x :: r) d = mxF g r (if g x > d then g x else d) from rfl, mxF_le g B r]
    simp only [List.mem_cons, forall_eq_or_imp]
    split <;> constructor <;> (intro h; refine ⟨?_, ?_⟩) <;> first | omega | exact h.2 | (refine ⟨?_, ?_⟩ <;> first | omega | exact h.2) | exact h.2.2
theorem mxF_nn {α : Type} (g : α → Int) : ∀ (l : List α) (d : Int), d ≤ mxF g l d
  | [], d => Int.le_refl _
  | x :: r, d => by
    rw [show mxF g (x :: r) d = mxF g r (if g x > d then g x else d) from rfl]
    refine Int.le_trans ?_ (mxF_nn g r (if g x > d then g x else d))
    split <;> omega
theorem sumN_take {α : Type} [Inhabited α] (g : α → Nat) {l : List α} {i : Int} (h0 : 0 ≤ i) (hi : i < l.length) : sumN g (l.take (i + 1).toNat) = sumN g (l.take i.toNat) + g (gI l i) := by
  have e : ∀ (a b : List α), sumN g (a ++ b) = sumN g a + sumN g b := fun a b => by
    induction a with
    | nil => simp [sumN]
    | cons x r ih => simp only [List.cons_append, sumN, ih]; omega
  rw [take_succ_gI h0 hi, e]; simp [sumN]
theorem sumN_take_le {α : Type} (g : α → Nat) (l : List α) (k : Nat) : sumN g (l.take k) ≤ sumN g l := by
  induction l generalizing k with
  | nil => simp
  | cons x r ih =>
    cases k with
    | zero => simp [sumN]
    | succ k => rw [List.take_succ_cons, sumN, sumN]; have := ih k; omega
theorem hgtF_le : ∀ (k : Nat) (v : Val), depV v < k → 1 ≤ hgtF k v ∧ hgtF k v ≤ depV v
  | 0, _, h => absurd h (Nat.not_lt_zero _)
  | k + 1, v, h => by
    have e := depV_eq v
    rw [hgtF]
    have h1 := mxF_nn (hgtF k) v.l 0
    have h2 := mxF_nn (fun p : Str × Val => hgtF k p.2) v.f (mxF (hgtF k) v.l 0)
    refine ⟨by omega, ?_⟩
    have a : mxF (hgtF k) v.l 0 ≤ (depV v : Int) - 1 := (mxF_le _ _ _ _).2 ⟨by omega, fun x hx => by
      have q := depL_mem hx; have := (hgtF_le k x (by omega)).2; omega⟩
    have b : mxF (fun p : Str × Val => hgtF k p.2) v.f (mxF (hgtF k) v.l 0) ≤ (depV v : Int) - 1 := (mxF_le _ _ _ _).2 ⟨a, fun x hx => by
      have q := depF_mem hx; have := (hgtF_le k x.2 (by omega)).2; omega⟩
    omega
theorem cntL_iff {α : Type} {g : α → Int → Bool × Int} {d : α → Nat} {h : α → Prop} : ∀ (l : List α) (n : Int), 0 ≤ n → (∀ x ∈ l, ∀ n, 0 ≤ n → ((g x n).1 = true ↔ (d x : Int) ≤ n ∧ h x)) → (∀ x n, 0 ≤ n → (g x n).1 = true → 0 ≤ (g x n).2 ∧ (g x n).2 + d x = n) → ((cntL g l n).1 = true ↔ (sumN d l : Int) ≤ n ∧ ∀ x ∈ l, h x)
  | [], n, h0, _, _ => by simp [cntL, sumN, h0]
  | x :: r, n, h0, hg, hk => by
    rw [cntL, sumN]
    have hx := hg x (List.mem_cons_self ..) n h0
    by_cases c : (g x n).1 = true
    · have q := hk x n h0 c
      rw [if_pos c, cntL_iff r _ q.1 (fun y hy => hg y (List.mem_cons_of_mem _ hy)) hk]
      have := hx.1 c
      simp only [List.mem_cons, forall_eq_or_imp]
      constructor
      · intro z; exact ⟨by push_cast; omega, this.2, z.2⟩
      · intro z; exact ⟨by have := z.1; push_cast at this; omega, z.2.2⟩
    · rw [if_neg c]
      simp only [Bool.false_eq_true, false_iff]
      intro z
      exact c (hx.2 ⟨by have := z.1; push_cast at this; omega, z.2 x (List.mem_cons_self ..)⟩)
theorem cntF_iff : ∀ (k : Nat) (deep : Int) (v : Val) (n : Int), depV v < k → 0 ≤ n → 1 ≤ deep → ((cntF k deep v n).1 = true ↔ (depV v : Int) ≤ n ∧ deep + hgtF k v ≤ 7)
  | 0, _, _, _, h, _, _ => absurd h (Nat.not_lt_zero _)
  | k + 1, deep, v, n, h, h0, h1 => by
    have e := depV_eq v
    have hh := hgtF_le (k + 1) v h
    have gl : ∀ x ∈ v.l, ∀ n, 0 ≤ n → ((cntF k (deep + 1) x n).1 = true ↔ (depV x : Int) ≤ n ∧ (hgtF k x ≤ 6 - deep)) := fun x hx n hn => by
      have q := depL_mem hx
      rw [cntF_iff k (deep + 1) x n (by omega) hn (by omega)]
      constructor <;> (intro z; exact ⟨z.1, by omega⟩)
    have gf : ∀ x ∈ v.f, ∀ n, 0 ≤ n → ((cntF k (deep + 1) x.2 n).1 = true ↔ (depV x.2 : Int) ≤ n ∧ (hgtF k x.2 ≤ 6 - deep)) := fun x hx n hn => by
      have q := depF_mem hx
      rw [cntF_iff k (deep + 1) x.2 n (by omega) hn (by omega)]
      constructor <;> (intro z; exact ⟨z.1, by omega⟩)
    have hgt : deep + hgtF (k + 1) v ≤ 7 ↔ deep ≤ 6 ∧ (∀ x ∈ v.l, hgtF k x ≤ 6 - deep) ∧ ∀ x ∈ v.f, hgtF k x.2 ≤ 6 - deep := by
      rw [hgtF]
      have a := mxF_le (hgtF k) (6 - deep) v.l 0
      have b := mxF_le (fun p : Str × Val => hgtF k p.2) (6 - deep) v.f (mxF (hgtF k) v.l 0)
      constructor
      · intro z
        have b1 := b.1 (by omega)
        have a1 := a.1 b1.1
        exact ⟨by omega, a1.2, b1.2⟩
      · intro z
        have a1 := a.2 ⟨by omega, z.2.1⟩
        have b1 := b.2 ⟨a1, z.2.2⟩
        omega
    rw [hgt, cntF]
    have sl := sumN_l v.l
    have sf := sumN_f v.f
    by_cases c : 6 < deep ∨ n - 1 < 0
    · rw [if_pos c]
      simp only [Bool.false_eq_true, false_iff]
      intro z
      rcases c with c | c <;> omega
    · rw [if_neg c]
      have il := cntL_iff (d := depV) (h := fun x => hgtF k x ≤ 6 - deep) v.l (n - 1) (by omega) gl (fun x n hn hx => cntF_ok k (deep + 1) x n hn hx)
      by_cases c2 : (cntL (cntF k (deep + 1)) v.l (n - 1)).1 = false
      · rw [if_pos c2]
        simp only [Bool.false_eq_true, false_iff]
        intro z
        have : (cntL (cntF k (deep + 1)) v.l (n - 1)).1 = true := il.2 ⟨by omega, z.2.2.1⟩
        rw [c2] at this; cases this
      · have c3 : (cntL (cntF k (deep + 1)) v.l (n - 1)).1 = true := by simpa using c2
        rw [if_neg c2]
        have a := cntL_ok (d := depV) (g := cntF k (deep + 1)) (fun x n hn hx => cntF_ok k (deep + 1) x n hn hx) v.l (n - 1) (by omega) c3
        have i2 := cntL_iff (g := fun p : Str × Val => cntF k (deep + 1) p.2) (d := fun p : Str × Val => depV p.2) (h := fun x => hgtF k x.2 ≤ 6 - deep) v.f _ a.1 gf (fun x n hn hx => cntF_ok k (deep + 1) x.2 n hn hx)
        rw [i2]
        have q := il.1 c3
        constructor
        · intro z; exact ⟨by omega, by omega, q.2, z.2⟩
        · intro z; exact ⟨by omega, z.2.2.2⟩
theorem chk_R {v : Val} : chk v = if (60 < (depV v : Int) ∨ 6 < hgtF (depV v + 1) v) then 2 else if shpF (depV v + 1) v = true then 0 else 3 := by
  have q := cntF_iff (depV v + 1) 1 v 60 (Nat.lt_succ_self _) (by omega) (by omega)
  unfold chk
  by_cases c : (cntF (depV v + 1) 1 v 60).1 = true
  · have := q.1 c
    rw [if_pos c, if_neg (by omega)]; rfl
  · rw [if_neg c, if_pos (by
      refine Classical.byContradiction fun z => c (q.2 ⟨by omega, by omega⟩))]
set_option maxHeartbeats 4000000 in
theorem u_parts1 (k : Nat) (v : Val) (hB : depV v ≤ 1000000000000) (ih : ∀ w : Val, depV w < depV v → ∀ (m : AMem) (K : AV → AMem → Prop), K (.tuple [.int .i64 (depV w : Int), .int .i64 (hgtF k w)]) m → ACalls Tryd.prog 57 [valTop w] m K) (hd : depV v < k + 1) (m : AMem)  (K : AV → AMem → Prop) (hK : K (.tuple [.int .i64 (depV v : Int), .int .i64 (hgtF (k + 1) v)]) m) : ACalls Tryd.prog 57 [valTop v] m K := by
 have hdv := depV_eq v
 have hsl := sumN_l v.l
 have hsf := sumN_f v.f
 refine enter (c := cf [] [0] [] [] [] []) (vs := [.av (valTop v)]) (L := []) (m := m) false tbOk Tryd.mixed Tryd.func57 rfl (k := 1) (by show fnOk [] _ _ _ = true; decide +kernel) rfl (Good.nil m) ?_
 refine ⟨fun F0 => ?_⟩
 have hbd0_2 : v.s.length ≤ 140737488355328 := (F0 0 2 (Nat.le_of_ble_eq_true rfl))
 have hbd0_3 : v.l.length ≤ 140737488355328 := bd_map (F0 0 3 (Nat.le_of_ble_eq_true rfl))
 have hbd0_4 : v.f.length ≤ 140737488355328 := bd_map (F0 0 4 (Nat.le_of_ble_eq_true rfl))
 refine sq ?_
 refine lp (σ := Int × Int × Int) [] [1, 4, 5, 6] 1 (fun ⟨n1, d1, i⟩ => ([(1, .loc 0 0), (4, vI n1), (5, vI d1), (6, vI i)], [.cells [vI v.kind, vI v.n, vS v.s, vL (v.l.map valIn), vL (v.f.map fldIn)]], m)) (fun ⟨n1, d1, i⟩ => 0 ≤ i ∧ i ≤ v.l.length ∧ n1 = 1 + sumN depV (v.l.take i.toNat) ∧ d1 = mxF (hgtF k) (v.l.take i.toNat) 0 ∧ 0 ≤ d1 ∧ d1 ≤ depV v) (fun ⟨n1, d1, i⟩ => v.l.length - i.toNat) (1, 0, 0) ⟨rfl, rfl⟩ ?_ ?_
 · try dsimp only
   exact ⟨by omega, by omega, by simp [sumN], by simp [mxF], by omega, by omega⟩
 rintro ⟨n1, d1, i⟩ hI
 dsimp only at hI
 have htk := sumN_take_le depV v.l i.toNat
 refine sq ?_
 refine ln ?_
 refine an (fun h1 => ?_) (fun h1 => ?_)
 · have hdm := depL_mem (gI_mem (l := v.l) (i := i) hI.1 h1)
   have hst := sumN_take depV (l := v.l) hI.1 h1
   have hgl := hgtF_le k (gI v.l i) (by omega)
   have htk2 := sumN_take_le depV v.l (i + 1).toNat
   refine sq ?_
   refine ixg valTop valIn_eq (by omega) ?_
   refine call0 (fun _ => ih (gI v.l i) (by have := depV_eq v; first | (have := depL_mem (gI_mem (l := v.l) (i := i) hI.1 (by assumption)); omega) | (have := depF_mem (gI_mem (l := v.f) (i := i2) hI2.1 (by assumption)); omega))) rfl ?_
   refine an (by omega) ?_
   refine an (by omega) ?_
   refine ⟨(n1 + (depV (gI v.l i) : Int), if hgtF k (gI v.l i) > d1 then hgtF k (gI v.l i) else d1, i + 1), ⟨rfl, rfl⟩, ?_, ?_⟩
   · try dsimp only
     refine ⟨by omega, by omega, by omega, ?_, ?_, ?_⟩
     · rw [mxF_step _ _ hI.1 h1, ← hI.2.2.2.1]
     · split <;> omega
     · split <;> omega
   try dsimp only
   omega
 have hfull : v.l.take i.toNat = v.l := take_full h1
 refine sq ?_
 refine lp (σ := Int × Int × Int) [] [1, 4, 5, 9] 1 (fun ⟨n2, d2, i2⟩ => ([(1, .loc 0 0), (4, vI n2), (5, vI d2), (9, vI i2)], [.cells [vI v.kind, vI v.n, vS v.s, vL (v.l.map valIn), vL (v.f.map fldIn)]], m)) (fun ⟨n2, d2, i2⟩ => 0 ≤ i2 ∧ i2 ≤ v.f.length ∧ n2 = 1 + depL v.l + sumN (fun p : Str × Val => depV p.2) (v.f.take i2.toNat) ∧ d2 = mxF (fun p : Str × Val => hgtF k p.2) (v.f.take i2.toNat) (mxF (hgtF k) v.l 0) ∧ 0 ≤ d2 ∧ d2 ≤ depV v) (fun ⟨n2, d2, i2⟩ => v.f.length - i2.toNat) (n1, d1, 0) ⟨rfl, rfl⟩ ?_ ?_
 · try dsimp only
   rw [hfull] at hI
   exact ⟨by omega, by omega, by simp [sumN]; omega, by simp [mxF]; exact hI.2.2.2.1, by omega, by omega⟩
 rintro ⟨n2, d2, i2⟩ hI2
 dsimp only at hI2
 have htf := sumN_take_le (fun p : Str × Val => depV p.2) v.f i2.toNat
 refine sq ?_
 refine ln ?_
 refine an (fun h2 => ?_) (fun h2 => ?_)
 · have hdm := depF_mem (gI_mem (l := v.f) (i := i2) hI2.1 h2)
   have hst := sumN_take (fun p : Str × Val => depV p.2) (l := v.f) hI2.1 h2
   have hgl := hgtF_le k (gI v.f i2).2 (by omega)
   have htf2 := sumN_take_le (fun p : Str × Val => depV p.2) v.f (i2 + 1).toNat
   refine sq ?_
   refine ixg fldTop fldIn_eq (by omega) ?_
   refine call0 (fun _ => ih ((gI v.f i2).2) (by have := depV_eq v; first | (have := depL_mem (gI_mem (l := v.l) (i := i) hI.1 (by assumption)); omega) | (have := depF_mem (gI_mem (l := v.f) (i := i2) hI2.1 (by assumption)); omega))) rfl ?_
   refine an (by omega) ?_
   refine an (by omega) ?_
   refine ⟨(n2 + (depV ((gI v.f i2).2) : Int), if hgtF k ((gI v.f i2).2) > d2 then hgtF k ((gI v.f i2).2) else d2, i2 + 1), ⟨rfl, rfl⟩, ?_, ?_⟩
   · try dsimp only
     refine ⟨by omega, by omega, by omega, ?_, ?_, ?_⟩
     · rw [mxF_step (fun p : Str × Val => hgtF k p.2) _ hI2.1 h2, ← hI2.2.2.2.1]
     · split <;> omega
     · split <;> omega
   try dsimp only
   omega
 refine an (by omega) ?_
 refine rt0 rfl fun _ => ?_
 show K (.tuple [.int .i64 n2, .int .i64 (d2 + 1)]) m
 have hfull2 : v.f.take i2.toNat = v.f := take_full h2
 rw [hfull2] at hI2
 have e1 : n2 = (depV v : Int) := by omega
 have e2 : d2 + 1 = hgtF (k + 1) v := by rw [hgtF, ← hI2.2.2.2.1]
 rw [e1, e2]; exact hK
theorem u_parts : ∀ (k : Nat) (v : Val), depV v < k → depV v ≤ 1000000000000 → ∀ (m : AMem) (K : AV → AMem → Prop), K (.tuple [.int .i64 (depV v : Int), .int .i64 (hgtF k v)]) m → ACalls Tryd.prog 57 [valTop v] m K
  | 0, _, h => absurd h (Nat.not_lt_zero _)
  | k + 1, v, h => fun hB m K hK => u_parts1 k v hB (fun w hw => u_parts k w (by omega) (by omega)) h m K hK
set_option maxHeartbeats 2000000 in
theorem u_NameMay (s : Str)  (m : AMem)  (K : AV → AMem → Prop) (hK : K (.bool (nameV s)) m) : ACalls Tryd.prog 82 [.str s] m K := by
 refine enter (c := cf [] [0] [1, 6, 7, 8] [] [] []) (vs := [.av (.str s)]) (L := []) (m := m) false tbOk Tryd.mixed Tryd.func82 rfl (k := 1) (by show fnOk [] _ _ _ = true; decide +kernel) rfl (Good.nil m) ?_
 refine ⟨fun F0 => ?_⟩
 have hbd0_0 : s.length ≤ 140737488355328 := F0 0
 refine sq ?_
 refine mg [0] 13 ((decide ((s.length : Int) < 1)) || (decide (12 < (s.length : Int)))) ?_ ?_
 · repeat' first
    | exact ⟨⟨_, rfl, by grind [SB.val]⟩, rfl⟩
    | refine an (fun _ => ?_) (fun _ => ?_)
 refine an (fun h1 => ?_) (fun h1 => ?_)
 · replace h1 : ((s.length : Int) < 1) ∨ (12 < (s.length : Int)) := ((borT h1).imp (fun q => (of_decide_eq_true q)) (fun q => (of_decide_eq_true q)))
   refine rt0 rfl fun _ => K_eq hK ?_
   show AV.bool (nameV s) = AV.bool false
   refine congrArg AV.bool ?_
   rw [nameV]; cases s <;> simp_all <;> omega
 replace h1 : (1 ≤ (s.length : Int)) ∧ ((s.length : Int) ≤ 12) := ⟨(Int.not_lt.1 (of_decide_eq_false (borL h1))), (Int.not_lt.1 (of_decide_eq_false (borR h1)))⟩
 refine sq ?_
 refine lp (σ := Int) [] [0, 3] 0 (fun i => ([(0, vS s), (3, vI i)], [], m)) (fun i => 0 ≤ i ∧ i ≤ s.length ∧ nmF s true = nmF (s.drop i.toNat) (i == 0)) (fun i => s.length - i.toNat) (0) ⟨rfl, rfl⟩ ?_ ?_
 · try dsimp only
   exact ⟨by omega, by omega, by simp⟩
 rintro i hI
 refine sq ?_
 refine an (fun h2 => ?_) (fun h2 => ?_)
 · refine sq ?_
   refine mg [0, 3] 4 ((decide (97 ≤ ((gI s i).toNat : Int))) && (decide (((gI s i).toNat : Int) ≤ 122))) ?_ ?_
   · repeat' first
      | exact ⟨⟨_, rfl, by grind [SB.val]⟩, rfl⟩
      | refine an (fun _ => ?_) (fun _ => ?_)
      | refine an (by omega) ?_
   refine mg [0, 3, 4] 5 ((decide (48 ≤ ((gI s i).toNat : Int))) && (decide (((gI s i).toNat : Int) ≤ 57))) ?_ ?_
   · repeat' first
      | exact ⟨⟨_, rfl, by grind [SB.val]⟩, rfl⟩
      | refine an (fun _ => ?_) (fun _ => ?_)
      | refine an (by omega) ?_
   refine mg [0, 3] 49 ((!((decide (97 ≤ ((gI s i).toNat : Int))) && (decide (((gI s i).toNat : Int) ≤ 122)))) && ((!((decide (48 ≤ ((gI s i).toNat : Int))) && (decide (((gI s i).toNat : Int) ≤ 57)))) || (i == 0))) ?_ ?_
   · repeat' first
      | exact ⟨⟨_, rfl, by grind [SB.val]⟩, rfl⟩
      | refine an (fun _ => ?_) (fun _ => ?_)
   refine an (fun h3 => ?_) (fun h3 => ?_)
   · replace h3 : ((((gI s i).toNat : Int) < 97) ∨ (122 < ((gI s i).toNat : Int))) ∧ (((((gI s i).toNat : Int) < 48) ∨ (57 < ((gI s i).toNat : Int))) ∨ (i = 0)) := ⟨((bandF (bnT (bandL h3))).imp (fun q => (Int.not_le.1 (of_decide_eq_false q))) (fun q => (Int.not_le.1 (of_decide_eq_false q)))), ((borT (bandR h3)).imp (fun q => ((bandF (bnT q)).imp (fun q => (Int.not_le.1 (of_decide_eq_false q))) (fun q => (Int.not_le.1 (of_decide_eq_false q))))) (fun q => (eq_of_beq q)))⟩
     refine rt0 rfl fun _ => K_eq hK ?_
     show AV.bool (nameV s) = AV.bool false
     refine congrArg AV.bool ?_
     have hb : (letC (gI s i) || (!(i == 0) && digC (gI s i))) = false := by
       rw [Bool.eq_false_iff]; intro hh; simp [letC, digC] at hh; omega
     rw [nameV, hI.2.2, nmF_step hI.1 h2, hb]; rfl
   replace h3 : ((97 ≤ ((gI s i).toNat : Int)) ∧ (((gI s i).toNat : Int) ≤ 122)) ∨ (((48 ≤ ((gI s i).toNat : Int)) ∧ (((gI s i).toNat : Int) ≤ 57)) ∧ (i ≠ 0)) := ((bandF h3).imp (fun q => ⟨(of_decide_eq_true (bandL (bnF q))), (of_decide_eq_true (bandR (bnF q)))⟩) (fun q => ⟨⟨(of_decide_eq_true (bandL (bnF (borL q)))), (of_decide_eq_true (bandR (bnF (borL q))))⟩, (ne_of_beq_false (borR q))⟩))
   refine an (by omega) ?_
   refine ⟨(i + 1), ⟨rfl, rfl⟩, ?_, ?_⟩
   · try dsimp only
     have hb : (letC (gI s i) || (!(i == 0) && digC (gI s i))) = true := by simp [letC, digC]; omega
     exact ⟨by omega, by omega, by rw [hI.2.2, nmF_step hI.1 h2, hb]; rfl⟩
   try dsimp only
   omega
 refine rt0 rfl fun _ => K_eq hK ?_
 show AV.bool (nameV s) = AV.bool true
 refine congrArg AV.bool ?_
 have ha : nmF s true = true := by rw [hI.2.2, List.drop_eq_nil_of_le (by omega)]; rfl
 rw [nameV, ha]; cases s <;> simp at * <;> omega
theorem len0 (a b : Nat) : ((a : Int) + (b : Int) == 0) = (((a : Int) == 0) && ((b : Int) == 0)) := by
  rw [Bool.eq_iff_iff]; simp; omega
theorem recOk_nil (p : Option Str) : recOk p [] = true := by cases p <;> rfl
theorem shp_1 {k : Nat} {v : Val} (h : v.l.all (shpF k) = false) : shpF (k + 1) v = false := by rw [shpF, h]; simp
theorem shp_2 {k : Nat} {v : Val} (h : v.f.all (fun p => shpF k p.2) = false) : shpF (k + 1) v = false := by rw [shpF, h]; simp
theorem shpOk_rec {v : Val} (h : recOk none v.f = false) : shpOk v = false := by
  have hf : v.f ≠ [] := by intro c; rw [c, recOk_nil] at h; cases h
  have hl : 0 < v.f.length := List.length_pos_iff.2 hf
  unfold shpOk
  repeat' split
  all_goals first | rfl | (rw [h]; simp; done) | (rw [Bool.eq_false_iff]; intro c; simp at c; first | omega | (simp_all; done))
theorem shp_3 {k : Nat} {v : Val} (h : recOk none v.f = false) : shpF (k + 1) v = false := by rw [shpF, shpOk_rec h]; rfl
theorem shp_4 {k : Nat} {v : Val} (h1 : v.l.all (shpF k) = true) (h2 : v.f.all (fun p => shpF k p.2) = true) : shpF (k + 1) v = shpOk v := by rw [shpF, h1, h2]; simp
set_option maxHeartbeats 8000000 in
theorem u_shaped1 (k : Nat) (v : Val) (ih : ∀ w : Val, depV w < depV v → ∀ (m : AMem) (K : AV → AMem → Prop), K (.bool (shpF k w)) m → ACalls Tryd.prog 58 [valTop w] m K) (m : AMem)  (K : AV → AMem → Prop) (hK : K (.bool (shpF (k + 1) v)) m) : ACalls Tryd.prog 58 [valTop v] m K := by
 refine enter (c := cf [] [0] [12, 20, 22, 24, 26, 28, 30] [] [] []) (vs := [.av (valTop v)]) (L := []) (m := m) false tbOk Tryd.mixed Tryd.func58 rfl (k := 1) (by show fnOk [] _ _ _ = true; decide +kernel) rfl (Good.nil m) ?_
 refine ⟨fun F0 => ?_⟩
 have hbd0_2 : v.s.length ≤ 140737488355328 := (F0 0 2 (Nat.le_of_ble_eq_true rfl))
 have hbd0_3 : v.l.length ≤ 140737488355328 := bd_map (F0 0 3 (Nat.le_of_ble_eq_true rfl))
 have hbd0_4 : v.f.length ≤ 140737488355328 := bd_map (F0 0 4 (Nat.le_of_ble_eq_true rfl))
 refine sq ?_
 refine lp (σ := Int) [] [1, 3] 1 (fun i => ([(1, .loc 0 0), (3, vI i)], [.cells [vI v.kind, vI v.n, vS v.s, vL (v.l.map valIn), vL (v.f.map fldIn)]], m)) (fun i => 0 ≤ i ∧ i ≤ v.l.length ∧ v.l.all (shpF k) = (v.l.drop i.toNat).all (shpF k)) (fun i => v.l.length - i.toNat) (0) ⟨rfl, rfl⟩ ?_ ?_
 · try dsimp only
   exact ⟨by omega, by omega, rfl⟩
 rintro i hI
 refine sq ?_
 refine ln ?_
 refine an (fun h1 => ?_) (fun h1 => ?_)
 · refine sq ?_
   refine ixg valTop valIn_eq (by omega) ?_
   refine call0 (fun _ => ih (gI v.l i) (by have := depV_eq v; first | (have := depL_mem (gI_mem (l := v.l) (i := i) hI.1 (by assumption)); omega) | (have := depF_mem (gI_mem (l := v.f) (i := i2) hI2.1 (by assumption)); omega))) rfl ?_
   refine an (fun h2 => ?_) (fun h2 => ?_)
   · refine an (by omega) ?_
     refine ⟨(i + 1), ⟨rfl, rfl⟩, ?_, ?_⟩
     · try dsimp only
       exact ⟨by omega, by omega, by rw [hI.2.2, all_drop hI.1 h1, h2, Bool.true_and]⟩
     try dsimp only
     omega
   refine rt0 rfl fun _ => ?_
   show K (.bool false) m
   rw [shp_1 (by rw [hI.2.2, all_drop hI.1 h1, h2, Bool.false_and])] at hK; exact hK
 have hL : v.l.all (shpF k) = true := by rw [hI.2.2, List.drop_eq_nil_of_le (by omega)]; rfl
 refine sq ?_
 refine lp (σ := Int) [] [1, 5] 1 (fun i2 => ([(1, .loc 0 0), (5, vI i2)], [.cells [vI v.kind, vI v.n, vS v.s, vL (v.l.map valIn), vL (v.f.map fldIn)]], m)) (fun i2 => 0 ≤ i2 ∧ i2 ≤ v.f.length ∧ v.f.all (fun p => shpF k p.2) = (v.f.drop i2.toNat).all (fun p => shpF k p.2) ∧ recOk none v.f = recOk (prevN v.f i2) (v.f.drop i2.toNat)) (fun i2 => v.f.length - i2.toNat) (0) ⟨rfl, rfl⟩ ?_ ?_
 · try dsimp only
   exact ⟨by omega, by omega, rfl, rfl⟩
 rintro i2 hI2
 refine sq ?_
 refine ln ?_
 refine an (fun h3 => ?_) (fun h3 => ?_)
 · refine sq ?_
   refine ixg fldTop fldIn_eq (by omega) ?_
   refine call0 (fun _ => ih ((gI v.f i2).2) (by have := depV_eq v; first | (have := depL_mem (gI_mem (l := v.l) (i := i) hI.1 (by assumption)); omega) | (have := depF_mem (gI_mem (l := v.f) (i := i2) hI2.1 (by assumption)); omega))) rfl ?_
   refine ixg fldTop fldIn_eq (by omega) ?_
   refine call0 (fun _ => u_NameMay ((gI v.f i2).1)) rfl ?_
   refine mg [1, 5] 73 (((!(shpF k ((gI v.f i2).2))) || (!(nameV ((gI v.f i2).1)))) || ((decide (0 < i2)) && (!(Op.bytesLess ((gI v.f (i2 - 1)).1) ((gI v.f i2).1))))) ?_ ?_
   · repeat' first
      | exact ⟨⟨_, rfl, by grind [SB.val]⟩, rfl⟩
      | refine an (fun _ => ?_) (fun _ => ?_)
      | refine an (by omega) ?_
      | refine ixg fldTop fldIn_eq (by omega) ?_
   refine an (fun h4 => ?_) (fun h4 => ?_)
   · replace h4 : ((shpF k ((gI v.f i2).2) = false) ∨ (nameV ((gI v.f i2).1) = false)) ∨ ((0 < i2) ∧ (Op.bytesLess ((gI v.f (i2 - 1)).1) ((gI v.f i2).1) = false)) := ((borT h4).imp (fun q => ((borT q).imp (fun q => (bnT q)) (fun q => (bnT q)))) (fun q => ⟨(of_decide_eq_true (bandL q)), (bnT (bandR q))⟩))
     refine rt0 rfl fun _ => ?_
     show K (.bool false) m
     have hz : shpF (k + 1) v = false := by
       rcases h4 with (q | q) | q
       · exact shp_2 (by rw [hI2.2.2.1, all_drop (g := fun p : Str × Val => shpF k p.2) hI2.1 h3, q, Bool.false_and])
       · exact shp_3 (by rw [hI2.2.2.2, recOk_step hI2.1 h3, q]; rfl)
       · exact shp_3 (by rw [hI2.2.2.2, recOk_step hI2.1 h3, q.2, show (i2 == 0) = false from by simp; omega]; simp)
     rw [hz] at hK; exact hK
   replace h4 : ((shpF k ((gI v.f i2).2) = true) ∧ (nameV ((gI v.f i2).1) = true)) ∧ ((i2 ≤ 0) ∨ (Op.bytesLess ((gI v.f (i2 - 1)).1) ((gI v.f i2).1) = true)) := ⟨⟨(bnF (borL (borL h4))), (bnF (borR (borL h4)))⟩, ((bandF (borR h4)).imp (fun q => (Int.not_lt.1 (of_decide_eq_false q))) (fun q => (bnF q)))⟩
   refine an (by omega) ?_
   refine ⟨(i2 + 1), ⟨rfl, rfl⟩, ?_, ?_⟩
   · try dsimp only
     have hb : ((i2 == 0) || Op.bytesLess (gI v.f (i2 - 1)).1 (gI v.f i2).1) = true := by
       rcases h4.2 with q | q
       · have : i2 = 0 := by omega
         simp [this]
       · simp [q]
     exact ⟨by omega, by omega, by rw [hI2.2.2.1, all_drop (g := fun p : Str × Val => shpF k p.2) hI2.1 h3, h4.1.1, Bool.true_and], by rw [hI2.2.2.2, recOk_step hI2.1 h3, h4.1.2, hb]; rfl⟩
   try dsimp only
   omega
 have hF : v.f.all (fun p => shpF k p.2) = true := by rw [hI2.2.2.1, List.drop_eq_nil_of_le (by omega)]; rfl
 have hR : recOk none v.f = true := by rw [hI2.2.2.2, List.drop_eq_nil_of_le (by omega), recOk_nil]
 refine ln ?_
 refine ln ?_
 refine sq ?_
 refine an (fun h5 => ?_) (fun h5 => ?_)
 · refine mg [] 2 ((((v.n == 0) && (v.s == ([]))) && ((v.l.length : Int) == 0)) && ((v.f.length : Int) == 0)) ?_ ?_
   · repeat' first
      | exact ⟨⟨_, rfl, by grind [SB.val]⟩, rfl⟩
      | refine an (fun _ => ?_) (fun _ => ?_)
   refine rt0 rfl fun _ => ?_
   show K (.bool ((((v.n == 0) && (v.s == ([]))) && ((v.l.length : Int) == 0)) && ((v.f.length : Int) == 0))) m
   have e0 : shpF (k + 1) v = shpOk v := shp_4 hL hF
   rw [e0] at hK
   have er : ∀ e : Bool, shpOk v = e → K (.bool e) m := fun e q => q ▸ hK
   refine er _ ?_
   unfold shpOk
   repeat rw [if_neg (by assumption)]
   all_goals first | rfl | (rw [if_pos (by assumption)]; done) | (rw [if_pos (by assumption)]; first | rfl | (simp only [hR, len0, Bool.and_true, Bool.and_assoc]; done) | (simp only [hR, len0, Bool.and_true]; ac_rfl))
 refine an (fun h6 => ?_) (fun h6 => ?_)
 · refine mg [] 2 (((((decide (-1000000000 ≤ v.n)) && (decide (v.n ≤ 1000000000))) && (v.s == ([]))) && ((v.l.length : Int) == 0)) && ((v.f.length : Int) == 0)) ?_ ?_
   · repeat' first
      | exact ⟨⟨_, rfl, by grind [SB.val]⟩, rfl⟩
      | refine an (fun _ => ?_) (fun _ => ?_)
   refine rt0 rfl fun _ => ?_
   show K (.bool (((((decide (-1000000000 ≤ v.n)) && (decide (v.n ≤ 1000000000))) && (v.s == ([]))) && ((v.l.length : Int) == 0)) && ((v.f.length : Int) == 0))) m
   have e0 : shpF (k + 1) v = shpOk v := shp_4 hL hF
   rw [e0] at hK
   have er : ∀ e : Bool, shpOk v = e → K (.bool e) m := fun e q => q ▸ hK
   refine er _ ?_
   unfold shpOk
   repeat rw [if_neg (by assumption)]
   all_goals first | rfl | (rw [if_pos (by assumption)]; done) | (rw [if_pos (by assumption)]; first | rfl | (simp only [hR, len0, Bool.and_true, Bool.and_assoc]; done) | (simp only [hR, len0, Bool.and_true]; ac_rfl))
 refine an (fun h7 => ?_) (fun h7 => ?_)
 · refine mg [] 2 ((((v.n == 0) && (decide ((v.s.length : Int) ≤ 40))) && ((v.l.length : Int) == 0)) && ((v.f.length : Int) == 0)) ?_ ?_
   · repeat' first
      | exact ⟨⟨_, rfl, by grind [SB.val]⟩, rfl⟩
      | refine an (fun _ => ?_) (fun _ => ?_)
   refine rt0 rfl fun _ => ?_
   show K (.bool ((((v.n == 0) && (decide ((v.s.length : Int) ≤ 40))) && ((v.l.length : Int) == 0)) && ((v.f.length : Int) == 0))) m
   have e0 : shpF (k + 1) v = shpOk v := shp_4 hL hF
   rw [e0] at hK
   have er : ∀ e : Bool, shpOk v = e → K (.bool e) m := fun e q => q ▸ hK
   refine er _ ?_
   unfold shpOk
   repeat rw [if_neg (by assumption)]
   all_goals first | rfl | (rw [if_pos (by assumption)]; done) | (rw [if_pos (by assumption)]; first | rfl | (simp only [hR, len0, Bool.and_true, Bool.and_assoc]; done) | (simp only [hR, len0, Bool.and_true]; ac_rfl))
 refine an (fun h8 => ?_) (fun h8 => ?_)
 · refine mg [] 2 (((((v.n == 0) || (v.n == 1)) && (v.s == ([]))) && ((v.l.length : Int) == 0)) && ((v.f.length : Int) == 0)) ?_ ?_
   · repeat' first
      | exact ⟨⟨_, rfl, by grind [SB.val]⟩, rfl⟩
      | refine an (fun _ => ?_) (fun _ => ?_)
   refine rt0 rfl fun _ => ?_
   show K (.bool (((((v.n == 0) || (v.n == 1)) && (v.s == ([]))) && ((v.l.length : Int) == 0)) && ((v.f.length : Int) == 0))) m
   have e0 : shpF (k + 1) v = shpOk v := shp_4 hL hF
   rw [e0] at hK
   have er : ∀ e : Bool, shpOk v = e → K (.bool e) m := fun e q => q ▸ hK
   refine er _ ?_
   unfold shpOk
   repeat rw [if_neg (by assumption)]
   all_goals first | rfl | (rw [if_pos (by assumption)]; done) | (rw [if_pos (by assumption)]; first | rfl | (simp only [hR, len0, Bool.and_true, Bool.and_assoc]; done) | (simp only [hR, len0, Bool.and_true]; ac_rfl))
 refine an (fun h9 => ?_) (fun h9 => ?_)
 · refine mg [] 2 (((v.n == 0) && (v.s == ([]))) && ((v.f.length : Int) == 0)) ?_ ?_
   · repeat' first
      | exact ⟨⟨_, rfl, by grind [SB.val]⟩, rfl⟩
      | refine an (fun _ => ?_) (fun _ => ?_)
   refine rt0 rfl fun _ => ?_
   show K (.bool (((v.n == 0) && (v.s == ([]))) && ((v.f.length : Int) == 0))) m
   have e0 : shpF (k + 1) v = shpOk v := shp_4 hL hF
   rw [e0] at hK
   have er : ∀ e : Bool, shpOk v = e → K (.bool e) m := fun e q => q ▸ hK
   refine er _ ?_
   unfold shpOk
   repeat rw [if_neg (by assumption)]
   all_goals first | rfl | (rw [if_pos (by assumption)]; done) | (rw [if_pos (by assumption)]; first | rfl | (simp only [hR, len0, Bool.and_true, Bool.and_assoc]; done) | (simp only [hR, len0, Bool.and_true]; ac_rfl))
 refine an (fun h10 => ?_) (fun h10 => ?_)
 · refine mg [] 2 (((v.n == 0) && (v.s == ([]))) && ((v.l.length : Int) == 0)) ?_ ?_
   · repeat' first
      | exact ⟨⟨_, rfl, by grind [SB.val]⟩, rfl⟩
      | refine an (fun _ => ?_) (fun _ => ?_)
   refine rt0 rfl fun _ => ?_
   show K (.bool (((v.n == 0) && (v.s == ([]))) && ((v.l.length : Int) == 0))) m
   have e0 : shpF (k + 1) v = shpOk v := shp_4 hL hF
   rw [e0] at hK
   have er : ∀ e : Bool, shpOk v = e → K (.bool e) m := fun e q => q ▸ hK
   refine er _ ?_
   unfold shpOk
   repeat rw [if_neg (by assumption)]
   all_goals first | rfl | (rw [if_pos (by assumption)]; done) | (rw [if_pos (by assumption)]; first | rfl | (simp only [hR, len0, Bool.and_true, Bool.and_assoc]; done) | (simp only [hR, len0, Bool.and_true]; ac_rfl))
 refine rt0 rfl fun _ => ?_
 show K (.bool false) m
 have e0 : shpF (k + 1) v = shpOk v := shp_4 hL hF
 rw [e0] at hK
 have er : ∀ e : Bool, shpOk v = e → K (.bool e) m := fun e q => q ▸ hK
 refine er _ ?_
 unfold shpOk
 repeat rw [if_neg (by assumption)]
 all_goals first | rfl | (rw [if_pos (by assumption)]; done) | (rw [if_pos (by assumption)]; first | rfl | (simp only [hR, len0, Bool.and_true, Bool.and_assoc]; done) | (simp only [hR, len0, Bool.and_true]; ac_rfl))
theorem chk_R1 {v : Val} (h : 60 < (depV v : Int) ∨ 6 < hgtF (depV v + 1) v) : chk v = 2 := by rw [chk_R, if_pos h]
theorem chk_R2 {v : Val} (h : (depV v : Int) ≤ 60 ∧ hgtF (depV v + 1) v ≤ 6) (h2 : shpF (depV v + 1) v = false) : chk v = 3 := by rw [chk_R, if_neg (by omega), if_neg (by simp [h2])]
theorem chk_R3 {v : Val} (h : (depV v : Int) ≤ 60 ∧ hgtF (depV v + 1) v ≤ 6) (h2 : shpF (depV v + 1) v = true) : chk v = 0 := by rw [chk_R, if_neg (by omega), if_pos h2]
theorem u_shapedR : ∀ (k : Nat) (v : Val), depV v < k → ∀ (m : AMem) (K : AV → AMem → Prop), K (.bool (shpF k v)) m → ACalls Tryd.prog 58 [valTop v] m K
  | 0, _, h => absurd h (Nat.not_lt_zero _)
  | k + 1, v, h => fun m K hK => u_shaped1 k v (fun w hw => u_shapedR k w (by omega)) m K hK
set_option maxHeartbeats 2000000 in
theorem u_Fault (v : Val) (hB : depV v ≤ 1000000000000) (m : AMem)  (K : AV → AMem → Prop) (hK : K (.int .i64 (chk v)) m) : ACalls Tryd.prog 32 [valTop v] m K := by
 refine enter (c := cf [] [] [2] [] [] []) (vs := [.av (valTop v)]) (L := []) (m := m) false tbOk Tryd.mixed Tryd.func32 rfl (k := 1) (by show fnOk [] _ _ _ = true; decide +kernel) rfl (Good.nil m) ?_
 refine call0 (fun _ => u_parts (depV v + 1) v (Nat.lt_succ_self _) hB) rfl ?_
 refine sq ?_
 refine mg [1] 16 ((decide (60 < (depV v : Int))) || (decide (6 < hgtF (depV v + 1) v))) ?_ ?_
 · repeat' first
    | exact ⟨⟨_, rfl, by grind [SB.val]⟩, rfl⟩
    | refine an (fun _ => ?_) (fun _ => ?_)
 refine an (fun h1 => ?_) (fun h1 => ?_)
 · replace h1 : (60 < (depV v : Int)) ∨ (6 < hgtF (depV v + 1) v) := ((borT h1).imp (fun q => (of_decide_eq_true q)) (fun q => (of_decide_eq_true q)))
   have e0 : chk v = (2 : Int) := by
    first | exact chk_R1 (by assumption) | exact chk_R2 (by assumption) (by assumption) | exact chk_R3 (by assumption) (by assumption)
   rw [e0] at hK
   exact rt0 rfl fun _ => hK
 replace h1 : ((depV v : Int) ≤ 60) ∧ (hgtF (depV v + 1) v ≤ 6) := ⟨(Int.not_lt.1 (of_decide_eq_false (borL h1))), (Int.not_lt.1 (of_decide_eq_false (borR h1)))⟩
 refine call0 (fun _ => u_shapedR (depV v + 1) v (Nat.lt_succ_self _)) rfl ?_
 refine sq ?_
 refine an (fun h2 => ?_) (fun h2 => ?_)
 · have e0 : chk v = (0 : Int) := by
    first | exact chk_R1 (by assumption) | exact chk_R2 (by assumption) (by assumption) | exact chk_R3 (by assumption) (by assumption)
   rw [e0] at hK
   exact rt0 rfl fun _ => hK
 have e0 : chk v = (3 : Int) := by
  first | exact chk_R1 (by assumption) | exact chk_R2 (by assumption) (by assumption) | exact chk_R3 (by assumption) (by assumption)
 rw [e0] at hK
 exact rt0 rfl fun _ => hK
set_option maxHeartbeats 4000000 in
theorem u_RAlike1 (a b : Val) (ih : ∀ v w : Val, depV v < depV a → ∀ (m : AMem) (K : AV → AMem → Prop), K (.bool (vEq v w)) m → ACalls Tryd.prog 14 [valTop v, valTop w] m K) (m : AMem)  (K : AV → AMem → Prop) (hK : K (.bool (vEq a b)) m) : ACalls Tryd.prog 14 [valTop a, valTop b] m K := by
 refine enter (c := cf [] [0] [1, 13] [] [] []) (vs := [.av (valTop a), .av (valTop b)]) (L := []) (m := m) false tbOk Tryd.mixed Tryd.func14 rfl (k := 2) (by show fnOk [] _ _ _ = true; decide +kernel) rfl (Good.nil m) ?_
 refine ⟨fun F0 => ?_⟩
 have hbd0_2 : a.s.length ≤ 140737488355328 := (F0 0 2 (Nat.le_of_ble_eq_true rfl))
 have hbd0_3 : a.l.length ≤ 140737488355328 := bd_map (F0 0 3 (Nat.le_of_ble_eq_true rfl))
 have hbd0_4 : a.f.length ≤ 140737488355328 := bd_map (F0 0 4 (Nat.le_of_ble_eq_true rfl))
 have hbd1_2 : b.s.length ≤ 140737488355328 := (F0 1 2 (Nat.le_of_ble_eq_true rfl))
 have hbd1_3 : b.l.length ≤ 140737488355328 := bd_map (F0 1 3 (Nat.le_of_ble_eq_true rfl))
 have hbd1_4 : b.f.length ≤ 140737488355328 := bd_map (F0 1 4 (Nat.le_of_ble_eq_true rfl))
 refine sq ?_
 refine mg [2, 3] 45 (((((!(a.kind == b.kind)) || (!(a.n == b.n))) || (!(a.s == b.s))) || (!((a.l.length : Int) == (b.l.length : Int)))) || (!((a.f.length : Int) == (b.f.length : Int)))) ?_ ?_
 · repeat' first
    | exact ⟨⟨_, rfl, by grind [SB.val]⟩, rfl⟩
    | refine an (fun _ => ?_) (fun _ => ?_)
    | refine ln ?_
 refine an (fun h1 => ?_) (fun h1 => ?_)
 · replace h1 : ((((a.kind ≠ b.kind) ∨ (a.n ≠ b.n)) ∨ (a.s ≠ b.s)) ∨ ((a.l.length : Int) ≠ (b.l.length : Int))) ∨ ((a.f.length : Int) ≠ (b.f.length : Int)) := ((borT h1).imp (fun q => ((borT q).imp (fun q => ((borT q).imp (fun q => ((borT q).imp (fun q => (ne_of_beq_false (bnT q))) (fun q => (ne_of_beq_false (bnT q))))) (fun q => (ne_of_beq_false (bnT q))))) (fun q => (ne_of_beq_false (bnT q))))) (fun q => (ne_of_beq_false (bnT q))))
   refine rt0 rfl fun _ => ?_
   show K (.bool false) m
   rw [vEq_false (by intro hh; subst hh; simp at h1)] at hK; exact hK
 replace h1 : ((((a.kind = b.kind) ∧ (a.n = b.n)) ∧ (a.s = b.s)) ∧ ((a.l.length : Int) = (b.l.length : Int))) ∧ ((a.f.length : Int) = (b.f.length : Int)) := ⟨⟨⟨⟨(eq_of_beq (bnF (borL (borL (borL (borL h1)))))), (eq_of_beq (bnF (borR (borL (borL (borL h1))))))⟩, (eq_of_beq (bnF (borR (borL (borL h1)))))⟩, (eq_of_beq (bnF (borR (borL h1))))⟩, (eq_of_beq (bnF (borR h1)))⟩
 obtain ⟨⟨⟨⟨hk, hn⟩, hs⟩, hl⟩, hf⟩ := h1
 refine sq ?_
 refine lp (σ := Int) [] [2, 3, 5] 2 (fun i => ([(2, .loc 0 0), (3, .loc 1 0), (5, vI i)], [.cells [vI a.kind, vI a.n, vS a.s, vL (a.l.map valIn), vL (a.f.map fldIn)], .cells [vI b.kind, vI b.n, vS b.s, vL (b.l.map valIn), vL (b.f.map fldIn)]], m)) (fun i => 0 ≤ i ∧ i ≤ a.l.length ∧ a.l.take i.toNat = b.l.take i.toNat) (fun i => a.l.length - i.toNat) (0) ⟨rfl, rfl⟩ ?_ ?_
 · try dsimp only
   exact ⟨by omega, by omega, rfl⟩
 rintro i hI
 refine sq ?_
 refine ln ?_
 refine an (fun h2 => ?_) (fun h2 => ?_)
 · refine sq ?_
   refine ixg valTop valIn_eq (by omega) ?_
   refine ixg valTop valIn_eq (by omega) ?_
   refine pure0 (fun _ => ih (gI a.l i) (gI b.l i) (by have := depV_eq a; first | (have := depL_mem (gI_mem (l := a.l) (i := i) hI.1 (by assumption)); omega) | (have := depF_mem (gI_mem (l := a.f) (i := i2) hI2.1 (by assumption)); omega))) ?_
   refine an (fun h3 => ?_) (fun h3 => ?_)
   · refine an (by omega) ?_
     refine ⟨(i + 1), ⟨rfl, rfl⟩, ?_, ?_⟩
     · try dsimp only
       exact ⟨by omega, by omega, by rw [take_succ_gI hI.1 h2, take_succ_gI hI.1 (by omega), hI.2.2, vEq_iff.1 h3]⟩
     try dsimp only
     omega
   refine rt0 rfl fun _ => ?_
   show K (.bool false) m
   rw [vEq_false (by intro hh; subst hh; rw [vEq_true rfl] at h3; cases h3)] at hK; exact hK
 refine sq ?_
 refine lp (σ := Int) [] [2, 3, 7] 2 (fun i2 => ([(2, .loc 0 0), (3, .loc 1 0), (7, vI i2)], [.cells [vI a.kind, vI a.n, vS a.s, vL (a.l.map valIn), vL (a.f.map fldIn)], .cells [vI b.kind, vI b.n, vS b.s, vL (b.l.map valIn), vL (b.f.map fldIn)]], m)) (fun i2 => 0 ≤ i2 ∧ i2 ≤ a.f.length ∧ a.f.take i2.toNat = b.f.take i2.toNat) (fun i2 => a.f.length - i2.toNat) (0) ⟨rfl, rfl⟩ ?_ ?_
 · try dsimp only
   exact ⟨by omega, by omega, rfl⟩
 rintro i2 hI2
 refine sq ?_
 refine ln ?_
 refine an (fun h4 => ?_) (fun h4 => ?_)
 · refine sq ?_
   refine ixg fldTop fldIn_eq (by omega) ?_
   refine ixg fldTop fldIn_eq (by omega) ?_
   refine pure0 (fun _ => ih ((gI a.f i2).2) ((gI b.f i2).2) (by have := depV_eq a; first | (have := depL_mem (gI_mem (l := a.l) (i := i) hI.1 (by assumption)); omega) | (have := depF_mem (gI_mem (l := a.f) (i := i2) hI2.1 (by assumption)); omega))) ?_
   refine mg [2, 3, 7] 102 ((!(vEq ((gI a.f i2).2) ((gI b.f i2).2))) || (!(((gI a.f i2).1) == ((gI b.f i2).1)))) ?_ ?_
   · repeat' first
      | exact ⟨⟨_, rfl, by grind [SB.val]⟩, rfl⟩
      | refine an (fun _ => ?_) (fun _ => ?_)
      | refine ixg fldTop fldIn_eq (by omega) ?_
   refine an (fun h5 => ?_) (fun h5 => ?_)
   · replace h5 : (vEq ((gI a.f i2).2) ((gI b.f i2).2) = false) ∨ ((gI a.f i2).1 ≠ (gI b.f i2).1) := ((borT h5).imp (fun q => (bnT q)) (fun q => (ne_of_beq_false (bnT q))))
     refine rt0 rfl fun _ => ?_
     show K (.bool false) m
     rw [vEq_false (by intro hh; subst hh; rw [vEq_true rfl] at h5; simp at h5)] at hK; exact hK
   replace h5 : (vEq ((gI a.f i2).2) ((gI b.f i2).2) = true) ∧ ((gI a.f i2).1 = (gI b.f i2).1) := ⟨(bnF (borL h5)), (eq_of_beq (bnF (borR h5)))⟩
   refine an (by omega) ?_
   refine ⟨(i2 + 1), ⟨rfl, rfl⟩, ?_, ?_⟩
   · try dsimp only
     exact ⟨by omega, by omega, by rw [take_succ_gI hI2.1 h4, take_succ_gI hI2.1 (by omega), hI2.2.2, Prod.ext h5.2 (vEq_iff.1 h5.1)]⟩
   try dsimp only
   omega
 refine rt0 rfl fun _ => ?_
 show K (.bool true) m
 rw [vEq_true (Val.ext' hk hn hs (by have := hI.2.2; rwa [take_full (by omega), take_full (by omega)] at this) (by have := hI2.2.2; rwa [take_full (by omega), take_full (by omega)] at this))] at hK; exact hK
theorem u_RAlike2 : ∀ (n : Nat) (a b : Val), depV a < n → ∀ (m : AMem) (K : AV → AMem → Prop), K (.bool (vEq a b)) m → ACalls Tryd.prog 14 [valTop a, valTop b] m K
  | 0, _, _, h => absurd h (Nat.not_lt_zero _)
  | n + 1, a, b, h => fun m K hK => u_RAlike1 a b (fun v w hv => u_RAlike2 n v w (by omega)) m K hK
theorem u_RAlike (a b : Val) (m : AMem) (K : AV → AMem → Prop) (hK : K (.bool (vEq a b)) m) : ACalls Tryd.prog 14 [valTop a, valTop b] m K := u_RAlike2 (depV a + 1) a b (Nat.lt_succ_self _) m K hK
end Go.Proofs
end
section
namespace Go.Proofs
open Go Go.Aw Go.Sx
set_option maxRecDepth 100000
def hexS : Str := [48, 49, 50, 51, 52, 53, 54, 55, 56, 57, 97, 98, 99, 100, 101, 102]
def quoteC (c : UInt8) : Str :=
  if (c.toNat : Int) = 34 ∨ (c.toNat : Int) = 92 then [92, c]
  else if (c.toNat : Int) < 32 ∨ 126 < (c.toNat : Int) then [92, 120, gI hexS (c.toNat / 16 : Nat), gI hexS (c.toNat % 16 : Nat)]
  else [c]
def quoteV (s : Str) : Str := 34 :: s.flatMap quoteC ++ [34]
end Go.Proofs
end
section
namespace Go.Proofs
open Go Go.Aw Go.Sx
set_option maxRecDepth 100000
theorem tq (n : Int) : (0 ≤ n → Int.tdiv n 10 = n / 10 ∧ Int.tmod n 10 = n % 10) ∧ (n < 0 → Int.tdiv n 10 = -((-n) / 10) ∧ Int.tmod n 10 = -((-n) % 10)) := by
  refine ⟨fun h => ⟨Int.tdiv_eq_ediv_of_nonneg h, Int.tmod_eq_emod_of_nonneg h⟩, fun h => ⟨?_, ?_⟩⟩
  · rw [← Int.tdiv_eq_ediv_of_nonneg (by omega : 0 ≤ -n), Int.neg_tdiv, Int.neg_neg]
  · rw [← Int.tmod_eq_emod_of_nonneg (by omega : 0 ≤ -n), Int.neg_tmod, Int.neg_neg]
def Tabs (m : AMem) : Prop := ∃ e z e2 z2 tp p, m 0 = some (tabObj e z .u64 Lib.pow10Tab) ∧ m 2 = some (.tab e2 z2 #[.iface tp p])
theorem Tabs.up {m mm : AMem} (ht : ∀ b o, m b = some o → mm b = some o) : Tabs m → Tabs mm := fun ⟨e, z, e2, z2, tp, p, h, h2⟩ => ⟨e, z, e2, z2, tp, p, ht _ _ h, ht _ _ h2⟩
end Go.Proofs
end
section
namespace Go.Proofs
open Go Go.Aw Go.Sx
set_option maxRecDepth 100000
def boolS (b : Bool) : Str := if b = true then [116, 114, 117, 101] else [102, 97, 108, 115, 101]
def joinA {α : Type} (g : α → Str) : List α → Bool → Str
  | [], _ => []
  | x :: r, first => (if first = true then [] else [44, 32]) ++ g x ++ joinA g r false
def textF : Nat → Val → Str
  | 0, _ => []
  | k + 1, v =>
    if v.kind = 0 then [110, 117, 108, 108]
    else if v.kind = 1 then Lib.itoa v.n
    else if v.kind = 2 then quoteV v.s
    else if v.kind = 3 then boolS (v.n == 1)
    else if v.kind = 4 then [91] ++ joinA (textF k) v.l true ++ [93]
    else if v.kind = 5 then [123] ++ joinA (fun p : Str × Val => p.1 ++ [58, 32] ++ textF k p.2) v.f true ++ [125]
    else [110, 117, 108, 108]
attribute [irreducible] joinA textF
end Go.Proofs
end
section
namespace Go.Proofs
open Go Go.Aw Go.Sx
set_option maxRecDepth 100000
def textV (v : Val) : Str := textF (depV v + 1) v
end Go.Proofs
end
section
namespace Go.Proofs
open Go Go.Aw
set_option maxRecDepth 100000
theorem u_same (e f : Int) (he : 0 ≤ e) (m : AMem)  (K : AV → AMem → Prop) (hK : K (.bool (e == f)) m) : ACalls Tryd.prog 13 [.err 72 e, .int .i64 f] m K := by
 refine acalls_enter Tryd.func13 rfl (by decide) (Nat.le_of_ble_eq_true rfl) ?_
 show AWP _ _ _ _ [(0, .err 72 e), (1, .int .i64 f)] m
 refine awp_reg2_seq [] [0, 1] (by decide) ?_
 intro K1 hK1
 refine ⟨trivial, ?_⟩
 show K1 [(0, .err 72 e), (1, .int .i64 f)] m
 refine hK1 _ _ ?_; clear hK1 K1
 refine awp_seq_k ?_; intro K2 hK2
 refine awp_reg2_seq [] [0, 1, 8] (by decide) ?_
 intro K1 hK1
 refine ⟨trivial, ⟨rfl, rfl⟩, ?_⟩
 show K1 [(0, .err 72 e), (1, .int .i64 f), (8, .bool (e == 0))] m
 refine hK1 _ _ ?_; clear hK1 K1
 refine awp_cond rfl rfl (fun h1 => ?_) (fun h1 => ?_)
 ·
  replace h1 : e = 0 := (eq_of_beq h1)
  refine awp_reg2_seq [] [4] (by decide) ?_
  intro K1 hK1
  refine ⟨trivial, trivial, trivial, ?_⟩
  show K1 [(4, .bool (f == 0))] m
  refine hK1 _ _ ?_; clear hK1 K1
  refine awp_ret ?_
  refine ⟨trivial, m, fun _ _ h => h, ?_⟩
  show K (.bool (f == 0)) m
 
  refine K_eq hK (congrArg AV.bool ?_)
  rw [Bool.eq_iff_iff]; simp; omega
 replace h1 : e ≠ 0 := (ne_of_beq_false h1)
 refine awp_skip ?_
 refine hK2 _ _ ?_; clear hK2
 refine awp_reg2_seq [] [1, 5, 6] (by decide) ?_
 intro K1 hK1
 refine ⟨trivial, rfl, trivial, (Nat.le_of_ble_eq_true rfl), (Nat.le_of_ble_eq_true rfl), trivial, trivial, ?_⟩
 show K1 [(1, .int .i64 f), (5, .int .i64 e), (6, .bool (!(e == 0)))] m
 refine hK1 _ _ ?_; clear hK1 K1
 refine awp_reg2_seq [] [4] (by decide) ?_
 intro K1 hK1
 suffices key : K1 [(4, .bool (((!(e == 0)) && (decide (0 < f))) && (e == f)))] m by
  refine ⟨trivial, trivial, ?_⟩
  show aopsR _ _ _ _ _ [(17, .bool (!(e == 0))), (16, .bool (!(e == 0))), (1, .int .i64 f), (5, .int .i64 e), (6, .bool (!(e == 0)))] _
  revert key
  cases h2 : (e == 0)
  ·
   replace h2 : e ≠ 0 := (ne_of_beq_false h2)
   intro key
   refine ⟨trivial, trivial, ?_⟩
   refine ⟨trivial, ?_⟩
   show aopsR _ _ _ _ _ [(21, .bool (decide (0 < f))), (20, .bool (decide (0 < f))), (19, .bool (decide (0 < f))), (18, .int .i64 f), (17, .bool true), (16, .bool true), (1, .int .i64 f), (5, .int .i64 e), (6, .bool true)] _
   revert key
   cases h3 : (decide (0 < f))
   ·
    replace h3 : f ≤ 0 := (Int.not_lt.1 (of_decide_eq_false h3))
    intro key
    refine ar_off rfl (ar_off rfl (ar_off rfl ?_))
    refine ⟨trivial, ?_⟩
    exact key
   ·
    replace h3 : 0 < f := (of_decide_eq_true h3)
    intro key
    refine ⟨trivial, trivial, trivial, ?_⟩
    refine ⟨trivial, ?_⟩
    exact key
  ·
   replace h2 : e = 0 := (eq_of_beq h2)
   intro key
   refine ar_off rfl (ar_off rfl ?_)
   refine ⟨trivial, ?_⟩
   refine ar_off rfl (ar_off rfl (ar_off rfl ?_))
   refine ⟨trivial, ?_⟩
   exact key
 refine hK1 _ _ ?_; clear hK1 K1
 refine awp_ret ?_
 refine ⟨trivial, m, fun _ _ h => h, ?_⟩
 show K (.bool (((!(e == 0)) && (decide (0 < f))) && (e == f))) m
 refine K_eq hK (congrArg AV.bool ?_)
 rw [Bool.eq_iff_iff]; simp; omega
end Go.Proofs
end
section
namespace Go.Proofs
open Go Go.Aw Go.Sx
set_option maxRecDepth 100000
theorem acalls_of_shelf {P : Program} {f : FuncId} {fn : Func} {args : List AV} {x : AV} {m : AMem} {K : AV → AMem → Prop} (hf : P.funcs[f]? = some fn) (hb : fn.body.isSome = true) (hname : (fn.name == "runtime.NumGoroutine") = false) (hK : K x m)
    (h : ∀ w lim (cargs : Array Value), cargs.size = args.length → (∀ i, i < args.length → Rep w lim (cargs.getD i undef) (args.getD i .junk) []) → ∃ v, (Calls P f cargs w fun e w' => e = .returned v ∧ w' = w) ∧ Rep w lim v x []) : ACalls P f args m K := by
  refine ⟨⟨fn, hf, hb, hname⟩, fun F lim w cargs hs hr st => ?_⟩
  obtain ⟨v, hv, hx⟩ := h w lim cargs hs hr
  refine hv.mono fun e w' ⟨he, hw⟩ => ?_
  subst hw
  exact ⟨v, x, lim, m, [], he, hK, hx, st, .refl _ _ _⟩
theorem args2 {cargs : Array Value} (h : cargs.size = 2) : cargs = #[cargs.getD 0 undef, cargs.getD 1 undef] := by
  apply Array.ext (by simp [h])
  intro i hi hi'
  have : i = 0 ∨ i = 1 := by omega
  rcases this with rfl | rfl <;> simp [Array.getD, h]
theorem t_hasPrefix (s p : List UInt8) (m) (K : AV → AMem → Prop) (hK : K (.bool (Lib.hasPrefix s p)) m) : ACalls Tryd.prog 86 [.str s, .str p] m K := by
  refine acalls_of_shelf Tryd.func86 rfl (by decide) hK fun w lim cargs hs hr => ?_
  rw [args2 hs]
  have h0 := hr 0 (by simp)
  have h1 := hr 1 (by simp)
  simp only [List.getD_cons_zero, List.getD_cons_succ] at h0 h1
  generalize cargs.getD 0 undef = a at h0
  generalize cargs.getD 1 undef = b at h1
  cases h0
  cases h1
  exact ⟨_, Tryd.strings_HasPrefix _ _ _, .bool _⟩
theorem indexByte_lt (l : List UInt8) (c : UInt8) : Lib.indexByte l c < l.length ∨ Lib.indexByte l c = -1 := by
  induction l with
  | nil => exact .inr rfl
  | cons b l ih =>
    unfold Lib.indexByte
    split
    · left; simp
    · split
      · exact .inr rfl
      · rename_i h1 h2
        rcases ih with h | h
        · left; simp; omega
        · simp [h] at h2
theorem t_indexByte (s : List UInt8) (hlen : s.length ≤ 140737488355328) (c : UInt8) (m) (K : AV → AMem → Prop) (hK : K (.int .i64 (Lib.indexByte s c)) m) : ACalls Tryd.prog 87 [.str s, .int .u8 c.toNat] m K := by
  refine acalls_of_shelf Tryd.func87 rfl (by decide) hK fun w lim cargs hs hr => ?_
  rw [args2 hs]
  have h0 := hr 0 (by simp)
  have h1 := hr 1 (by simp)
  simp only [List.getD_cons_zero, List.getD_cons_succ] at h0 h1
  generalize cargs.getD 0 undef = a at h0
  generalize cargs.getD 1 undef = b at h1
  cases h0
  cases h1
  have hge := Lib.indexByte_ge
  refine ⟨_, Tryd.strings_IndexByte _ _ _, ?_⟩
  have hc : (c.toNat : Int).toNat.toUInt8 = c := by simp
  rw [hc]
  refine .int _ _ ?_ ?_
  · have := Lib.indexByte_ge ‹ByteArray›.data.toList c
    simp [IntKind.min, IntKind.signed, IntKind.bits]; omega
  · rcases indexByte_lt ‹ByteArray›.data.toList c with h | h
    · simp [IntKind.max, IntKind.signed, IntKind.bits]; simp at h hlen; omega
    · rw [h]; decide
def letterB (c : UInt8) : Bool := decide (97 ≤ (c.toNat : Int)) && decide ((c.toNat : Int) ≤ 122)
def digitB (c : UInt8) : Bool := decide (48 ≤ (c.toNat : Int)) && decide ((c.toNat : Int) ≤ 57)
def noLineB (c : UInt8) : Bool := !((c.toNat : Int) == 10)
def runN (f : UInt8 → Bool) (s : List UInt8) (a : Nat) : Nat := a + ((s.drop a).takeWhile f).length
theorem drop_cons {s : List UInt8} {i : Nat} (h : i < s.length) : s.drop i = s.getD i 0 :: s.drop (i + 1) := by
  rw [List.drop_eq_getElem_cons h]
  simp [List.getD_eq_getElem?_getD, h]
theorem runN_step {f : UInt8 → Bool} {s : List UInt8} {i : Nat} (h : i < s.length) (hf : f (s.getD i 0) = true) : runN f s i = runN f s (i + 1) := by
  simp only [runN, drop_cons h, List.takeWhile_cons, hf, if_true, List.length_cons]
  omega
theorem runN_stop {f : UInt8 → Bool} {s : List UInt8} {i : Nat} (h : i < s.length → f (s.getD i 0) = false) : runN f s i = i := by
  by_cases hi : i < s.length
  · have := h hi
    rw [runN, drop_cons hi, List.takeWhile_cons, this]
    simp
  · simp [runN, List.drop_of_length_le (Nat.not_lt.1 hi)]
theorem runN_le (f : UInt8 → Bool) {s : List UInt8} {i : Nat} (h : i ≤ s.length) : runN f s i ≤ s.length := by
  have : ((s.drop i).takeWhile f).length ≤ (s.drop i).length := (List.takeWhile_sublist _).length_le
  simp only [List.length_drop] at this
  simp only [runN]
  omega
def sixteenL : List UInt8 := [48, 49, 50, 51, 52, 53, 54, 55, 56, 57, 97, 98, 99, 100, 101, 102]
def signsL : List UInt8 := [61, 123, 125, 91, 93, 40, 41, 58, 44, 46, 43, 63, 45]
def signN (s : List UInt8) : Int := if Lib.hasPrefix s [61, 61] = true then 2 else if 0 ≤ Lib.indexByte signsL (s.getD 0 0) then 1 else 0
theorem gI_str (s : List UInt8) (i : Nat) : gI s (i : Int) = s.getD i 0 := by simp [gI]; rfl
theorem gI_add (s : List UInt8) (n k : Nat) : gI s ((n : Int) + (k : Int)) = s.getD (n + k) 0 := by
  rw [← Int.natCast_add, gI_str]
def runI (f : UInt8 → Bool) (s : List UInt8) (a : Int) : Int := (runN f s a.toNat : Nat)
theorem runI_step {f : UInt8 → Bool} {s : List UInt8} {i : Int} (h0 : 0 ≤ i) (h : i < s.length) (hf : f (gI s i) = true) : runI f s i = runI f s (i + 1) := by
  obtain ⟨n, rfl⟩ := Int.eq_ofNat_of_zero_le h0
  simp only [runI, Int.toNat_natCast]
  rw [runN_step (by omega) (by rw [gI_str] at hf; exact hf)]
  rfl
theorem runI_stop {f : UInt8 → Bool} {s : List UInt8} {i : Int} (h0 : 0 ≤ i) (h : i < s.length → f (gI s i) = false) : runI f s i = i := by
  obtain ⟨n, rfl⟩ := Int.eq_ofNat_of_zero_le h0
  simp only [runI, Int.toNat_natCast]
  rw [runN_stop (fun hh => by have := h (by omega); rwa [gI_str] at this)]
theorem runI_le (f : UInt8 → Bool) {s : List UInt8} {i : Int} (h0 : 0 ≤ i) (h : i ≤ s.length) : runI f s i ≤ s.length := by
  have := runN_le f (s := s) (i := i.toNat) (by omega)
  simp only [runI]; omega
theorem runI_ge (f : UInt8 → Bool) {s : List UInt8} {i : Int} (h0 : 0 ≤ i) : i ≤ runI f s i := by
  simp only [runI, runN]; omega
def wordB (c : UInt8) : Bool := letterB c || digitB c
theorem digitB_p {c : UInt8} : digitB c = true ↔ (48 ≤ (c.toNat : Int) ∧ (c.toNat : Int) ≤ 57) := by simp [digitB]
theorem letterB_p {c : UInt8} : letterB c = true ↔ (97 ≤ (c.toNat : Int) ∧ (c.toNat : Int) ≤ 122) := by simp [letterB]
theorem t_letter (c : UInt8)  (m : AMem)  (K : AV → AMem → Prop) (hK : K (.bool (letterB c)) m) : ACalls Tryd.prog 65 [.int .u8 c.toNat] m K := by
 refine enter (c := cf [] [] [1] [] [] []) (vs := [.av (.int .u8 c.toNat)]) (L := []) (m := m) false tbOk Tryd.mixed Tryd.func65 rfl (k := 1) (by show fnOk [] _ _ _ = true; decide +kernel) rfl (Good.nil m) ?_
 refine mg [] 2 ((decide (97 ≤ (c.toNat : Int))) && (decide ((c.toNat : Int) ≤ 122))) ?_ ?_
 · repeat' first
    | exact ⟨⟨_, rfl, by grind [SB.val]⟩, rfl⟩
    | refine an (fun _ => ?_) (fun _ => ?_)
 exact rt0 rfl fun _ => hK
theorem t_digit (c : UInt8)  (m : AMem)  (K : AV → AMem → Prop) (hK : K (.bool (digitB c)) m) : ACalls Tryd.prog 67 [.int .u8 c.toNat] m K := by
 refine enter (c := cf [] [] [1] [] [] []) (vs := [.av (.int .u8 c.toNat)]) (L := []) (m := m) false tbOk Tryd.mixed Tryd.func67 rfl (k := 1) (by show fnOk [] _ _ _ = true; decide +kernel) rfl (Good.nil m) ?_
 refine mg [] 2 ((decide (48 ≤ (c.toNat : Int))) && (decide ((c.toNat : Int) ≤ 57))) ?_ ?_
 · repeat' first
    | exact ⟨⟨_, rfl, by grind [SB.val]⟩, rfl⟩
    | refine an (fun _ => ?_) (fun _ => ?_)
 exact rt0 rfl fun _ => hK
theorem t_noLine (c : UInt8)  (m : AMem)  (K : AV → AMem → Prop) (hK : K (.bool (noLineB c)) m) : ACalls Tryd.prog 64 [.int .u8 c.toNat] m K := by
 refine enter (c := cf [] [] [] [] [] []) (vs := [.av (.int .u8 c.toNat)]) (L := []) (m := m) false tbOk Tryd.mixed Tryd.func64 rfl (k := 1) (by show fnOk [] _ _ _ = true; decide +kernel) rfl (Good.nil m) ?_
 exact rt0 rfl fun _ => hK
theorem t_word (c : UInt8)  (m : AMem)  (K : AV → AMem → Prop) (hK : K (.bool (wordB c)) m) : ACalls Tryd.prog 66 [.int .u8 c.toNat] m K := by
 refine enter (c := cf [] [] [1] [] [] []) (vs := [.av (.int .u8 c.toNat)]) (L := []) (m := m) false tbOk Tryd.mixed Tryd.func66 rfl (k := 1) (by show fnOk [] _ _ _ = true; decide +kernel) rfl (Good.nil m) ?_
 refine mg [] 2 ((letterB c) || (digitB c)) ?_ ?_
 · repeat' first
    | exact ⟨⟨_, rfl, by grind [SB.val]⟩, rfl⟩
    | refine an (fun _ => ?_) (fun _ => ?_)
    | refine call0 (fun _ => t_letter c) rfl ?_
    | refine call0 (fun _ => t_digit c) rfl ?_
 exact rt0 rfl fun _ => hK
theorem t_hex (c : UInt8)  (m : AMem)  (K : AV → AMem → Prop) (hK : K (.int .i64 (Lib.indexByte sixteenL c)) m) : ACalls Tryd.prog 85 [.int .u8 c.toNat] m K := by
 refine enter (c := cf [] [] [] [] [] []) (vs := [.av (.int .u8 c.toNat)]) (L := []) (m := m) false tbOk Tryd.mixed Tryd.func85 rfl (k := 1) (by show fnOk [] _ _ _ = true; decide +kernel) rfl (Good.nil m) ?_
 refine call0 (fun _ => t_indexByte ([48, 49, 50, 51, 52, 53, 54, 55, 56, 57, 97, 98, 99, 100, 101, 102] : List UInt8) (by first | decide | omega) c) rfl ?_
 exact rt0 rfl fun _ => hK
theorem t_sign (s : Str) (hs : 0 < s.length) (m : AMem)  (K : AV → AMem → Prop) (hK : K (.int .i64 (signN s)) m) : ACalls Tryd.prog 69 [.str s] m K := by
 refine enter (c := cf [] [] [] [] [] []) (vs := [.av (.str s)]) (L := []) (m := m) false tbOk Tryd.mixed Tryd.func69 rfl (k := 1) (by show fnOk [] _ _ _ = true; decide +kernel) rfl (Good.nil m) ?_
 refine sq ?_
 refine call0 (fun _ => t_hasPrefix s ([61, 61] : List UInt8)) rfl ?_
 refine an (fun h1 => ?_) (fun h1 => ?_)
 · refine rt0 rfl fun _ => K_eq hK ?_
   show AV.int .i64 (signN s) = AV.int .i64 2
   refine congrArg (AV.int .i64) ?_
   rw [signN, if_pos h1]
 refine sq ?_
 refine an (by omega) ?_
 refine call0 (fun _ => t_indexByte ([61, 123, 125, 91, 93, 40, 41, 58, 44, 46, 43, 63, 45] : List UInt8) (by first | decide | omega) (gI s 0)) rfl ?_
 refine an (fun h2 => ?_) (fun h2 => ?_)
 · refine rt0 rfl fun _ => K_eq hK ?_
   show AV.int .i64 (signN s) = AV.int .i64 1
   refine congrArg (AV.int .i64) ?_
   rw [signN, if_neg (by rw [h1]; simp), if_pos (show 0 ≤ Lib.indexByte signsL (s.getD 0 0) from h2)]
 refine rt0 rfl fun _ => K_eq hK ?_
 show AV.int .i64 (signN s) = AV.int .i64 0
 refine congrArg (AV.int .i64) ?_
 rw [signN, if_neg (by rw [h1]; simp), if_neg (show ¬ 0 ≤ Lib.indexByte signsL (s.getD 0 0) from Int.not_le.2 h2)]
end Go.Proofs
end
section
namespace Go.Proofs
open Go Go.Aw Go.Sx
set_option maxRecDepth 100000
def byteV (a b : Int) : UInt8 := UInt8.ofNat (16 * a + b).toNat
def quoteL (s : List UInt8) (i : Nat) (b : List UInt8) : Int × List UInt8 × Int :=
  if i < s.length then
    if (s.getD i 0).toNat = 34 then (if 40 < b.length then (1, [], 0) else (0, b, ((i + 1 : Nat) : Int)))
    else if (s.getD i 0).toNat < 32 ∨ 126 < (s.getD i 0).toNat then (4, [], 0)
    else if (s.getD i 0).toNat ≠ 92 then quoteL s (i + 1) (b ++ [s.getD i 0])
    else if i + 1 < s.length ∧ ((s.getD (i + 1) 0).toNat = 34 ∨ (s.getD (i + 1) 0).toNat = 92) then quoteL s (i + 2) (b ++ [s.getD (i + 1) 0])
    else if i + 3 < s.length ∧ (s.getD (i + 1) 0).toNat = 120 ∧ 0 ≤ Lib.indexByte sixteenL (s.getD (i + 2) 0) ∧ 0 ≤ Lib.indexByte sixteenL (s.getD (i + 3) 0) then
      quoteL s (i + 4) (b ++ [byteV (Lib.indexByte sixteenL (s.getD (i + 2) 0)) (Lib.indexByte sixteenL (s.getD (i + 3) 0))])
    else (4, [], 0)
  else (4, [], 0)
termination_by s.length - i
def qresL (r : Int × List UInt8 × Int) : AV := .tuple [.str r.2.1, .int .i64 r.2.2, .err 72 r.1]
section
variable {s b : List UInt8} {i : Nat}
theorem quoteL_end (h : ¬ i < s.length) : quoteL s i b = (4, [], 0) := by rw [quoteL, if_neg h]
end
theorem hex_lt (c : UInt8) : Lib.indexByte sixteenL c < 16 := by
  rcases indexByte_lt sixteenL c with h | h
  · simpa [sixteenL] using h
  · rw [h]; decide
theorem byteV_or (a b : Int) (ha : 0 ≤ a) (ha' : a < 16) (hb : 0 ≤ b) (hb' : b < 16) :
    IntKind.u8.wrap (IntKind.i64.wrap ((BitVec.ofInt IntKind.i64.bits (IntKind.i64.wrap (a * 2 ^ (min (Int.toNat 4) IntKind.i64.bits))) ||| BitVec.ofInt IntKind.i64.bits b).toNat)) = (byteV a b).toNat := by
  obtain ⟨a, rfl⟩ := Int.eq_ofNat_of_zero_le ha
  obtain ⟨b, rfl⟩ := Int.eq_ofNat_of_zero_le hb
  have key : ∀ a b : Fin 16, IntKind.u8.wrap (IntKind.i64.wrap ((BitVec.ofInt IntKind.i64.bits (IntKind.i64.wrap (((a.1 : Nat) : Int) * 2 ^ (min (Int.toNat 4) IntKind.i64.bits))) ||| BitVec.ofInt IntKind.i64.bits ((b.1 : Nat) : Int)).toNat)) = (byteV ((a.1 : Nat) : Int) ((b.1 : Nat) : Int)).toNat := by decide +kernel
  exact key ⟨a, by omega⟩ ⟨b, by omega⟩
theorem u8_or (a b : Int) (ha : 0 ≤ a) (ha' : a < 16) (hb : 0 ≤ b) (hb' : b < 16) :
    u8w (IntKind.i64.wrap ((BitVec.ofInt IntKind.i64.bits (IntKind.i64.wrap (a * 2 ^ (min (Int.toNat 4) IntKind.i64.bits))) ||| BitVec.ofInt IntKind.i64.bits b).toNat)) = byteV a b := by
  apply UInt8.toNat_inj.1
  have := byteV_or a b ha ha' hb hb'
  rw [← u8w_toNat] at this
  omega
section
variable {s b : List UInt8} {i : Int}
def qI (s : List UInt8) (i : Int) (b : List UInt8) := quoteL s i.toNat b
theorem qI_end (h : s.length ≤ i) : qI s i b = (4, [], 0) := quoteL_end (by omega)
theorem qI_all (h0 : 0 ≤ i) (h : i < s.length) : qI s i b =
    if ((gI s i).toNat : Int) = 34 then (if (40 : Int) < b.length then (1, [], 0) else (0, b, i + 1))
    else if ((gI s i).toNat : Int) < 32 ∨ 126 < ((gI s i).toNat : Int) then (4, [], 0)
    else if ((gI s i).toNat : Int) ≠ 92 then qI s (i + 1) (b ++ [gI s i])
    else if i + 1 < s.length ∧ (((gI s (i + 1)).toNat : Int) = 34 ∨ ((gI s (i + 1)).toNat : Int) = 92) then qI s (i + 2) (b ++ [gI s (i + 1)])
    else if i + 3 < s.length ∧ ((gI s (i + 1)).toNat : Int) = 120 ∧ 0 ≤ Lib.indexByte sixteenL (gI s (i + 2)) ∧ 0 ≤ Lib.indexByte sixteenL (gI s (i + 3)) then
      qI s (i + 4) (b ++ [byteV (Lib.indexByte sixteenL (gI s (i + 2))) (Lib.indexByte sixteenL (gI s (i + 3)))])
    else (4, [], 0) := by
  obtain ⟨n, rfl⟩ := Int.eq_ofNat_of_zero_le h0
  have e0 := gI_str s n
  have e1 := gI_add s n 1
  have e2 := gI_add s n 2
  have e3 := gI_add s n 3
  have w1 : ((n : Int) + 1).toNat = n + 1 := by omega
  have w2 : ((n : Int) + 2).toNat = n + 2 := by omega
  have w4 : ((n : Int) + 4).toNat = n + 4 := by omega
  simp only [qI, Int.toNat_natCast, w1, w2, w4]
  simp only [Int.natCast_one, Int.cast_ofNat_Int] at e1 e2 e3
  rw [e0, e1, e2, e3]
  conv => lhs; rw [quoteL]
  rw [if_pos (by omega)]
  have l1 : (((s.getD n 0).toNat : Int) = 34) = ((s.getD n 0).toNat = 34) := propext ⟨fun h => by omega, fun h => by omega⟩
  have l2 : (((s.getD n 0).toNat : Int) < 32 ∨ 126 < ((s.getD n 0).toNat : Int)) = ((s.getD n 0).toNat < 32 ∨ 126 < (s.getD n 0).toNat) := propext ⟨fun h => by omega, fun h => by omega⟩
  have l3 : (((s.getD n 0).toNat : Int) ≠ 92) = ((s.getD n 0).toNat ≠ 92) := propext ⟨fun h => by omega, fun h => by omega⟩
  have l4 : ((n : Int) + 1 < s.length ∧ (((s.getD (n + 1) 0).toNat : Int) = 34 ∨ ((s.getD (n + 1) 0).toNat : Int) = 92)) = (n + 1 < s.length ∧ ((s.getD (n + 1) 0).toNat = 34 ∨ (s.getD (n + 1) 0).toNat = 92)) := propext ⟨fun h => by omega, fun h => by omega⟩
  have l5 : ((n : Int) + 3 < s.length ∧ ((s.getD (n + 1) 0).toNat : Int) = 120 ∧ 0 ≤ Lib.indexByte sixteenL (s.getD (n + 2) 0) ∧ 0 ≤ Lib.indexByte sixteenL (s.getD (n + 3) 0)) = (n + 3 < s.length ∧ (s.getD (n + 1) 0).toNat = 120 ∧ 0 ≤ Lib.indexByte sixteenL (s.getD (n + 2) 0) ∧ 0 ≤ Lib.indexByte sixteenL (s.getD (n + 3) 0)) := propext ⟨fun h => ⟨by omega, by omega, h.2.2⟩, fun h => ⟨by omega, by omega, h.2.2⟩⟩
  have l6 : ((40 : Int) < b.length) = (40 < b.length) := propext ⟨fun h => by omega, fun h => by omega⟩
  simp only [l1, l2, l3, l4, l5, l6]
  rfl
end
set_option maxHeartbeats 2000000 in
theorem u_lexQuoted (s : Str) (a : Int) (hs : s.length ≤ 16777216) (h0 : 0 ≤ a) (ha : a < s.length) (m : AMem)  (K : AV → AMem → Prop) (hK : K (qresL (qI s (a + 1) [])) m) : ACalls Tryd.prog 68 [.str s, .int .i64 a] m K := by
 refine enter (c := cf [] [] [11, 14, 17] [] [] []) (vs := [.av (.str s), .av (.int .i64 a)]) (L := []) (m := m) true tbOk Tryd.mixed Tryd.func68 rfl (k := 2) (by show fnOk [] _ _ _ = true; decide +kernel) rfl (Good.nil m) ?_
 refine sq ?_
 refine an (by omega) ?_
 refine lp (σ := (List UInt8) × Int) [] [0, 7, 8] 0 (fun ⟨b, i⟩ => ([(0, vS s), (7, .own (b.map byteAV)), (8, vI i)], [], m)) (fun ⟨b, i⟩ => 0 ≤ i ∧ i ≤ s.length ∧ (b.length : Int) ≤ i ∧ qI s (a + 1) [] = qI s i b) (fun ⟨b, i⟩ => s.length - i.toNat) ([], a + 1) ⟨rfl, rfl⟩ ?_ ?_
 · try dsimp only
   exact ⟨by omega, by omega, by simp; omega, rfl⟩
 rintro ⟨b, i⟩ hI
 dsimp only at hI
 refine sq ?_
 refine an (fun h1 => ?_) (fun h1 => ?_)
 · have hq := qI_all (b := b) hI.1 h1
   have x2 := hex_lt (gI s (i + 2))
   have x3 := hex_lt (gI s (i + 3))
   refine sq ?_
   refine an (by omega) ?_
   refine an (fun h2 => ?_) (fun h2 => ?_)
   · refine sq ?_
     refine ln ?_
     refine an (fun h3 => ?_) (fun h3 => ?_)
     · refine rt0 rfl fun _ => K_eq hK ?_
       show qresL (qI s (a + 1) []) = AV.tuple [.str ([]), .int .i64 0, .err 72 1]
       rw [hI.2.2.2, hq, if_pos h2, if_pos h3]; rfl
     refine tst ?_
     refine an (by omega) ?_
     refine rt0 rfl fun _ => K_eq hK ?_
     show qresL (qI s (a + 1) []) = AV.tuple [.str b, .int .i64 (i + 1), .err 72 0]
     rw [hI.2.2.2, hq, if_pos h2, if_neg (by omega)]; rfl
   refine mg [0, 7, 8, 9] 36 (((((gI s i).toNat : Int) == 92) && (decide (i + 1 < (s.length : Int)))) && ((((gI s (i + 1)).toNat : Int) == 34) || (((gI s (i + 1)).toNat : Int) == 92))) ?_ ?_
   · repeat' first
      | exact ⟨⟨_, rfl, by grind [SB.val]⟩, rfl⟩
      | refine an (fun _ => ?_) (fun _ => ?_)
      | refine an (by omega) ?_
   refine an (fun h4 => ?_) (fun h4 => ?_)
   · replace h4 : ((((gI s i).toNat : Int) = 92) ∧ (i + 1 < (s.length : Int))) ∧ ((((gI s (i + 1)).toNat : Int) = 34) ∨ (((gI s (i + 1)).toNat : Int) = 92)) := ⟨⟨(eq_of_beq (bandL (bandL h4))), (of_decide_eq_true (bandR (bandL h4)))⟩, ((borT (bandR h4)).imp (fun q => (eq_of_beq q)) (fun q => (eq_of_beq q)))⟩
     refine an (by omega) ?_
     refine an (by omega) ?_
     refine ap byteAV b ([gI s (i + 1)] : List UInt8) rfl rfl (fun _ => ⟨rfl, rfl⟩) (by (simp only [List.length_append, List.length_cons, List.length_nil]; omega)) ?_
     refine an (by omega) ?_
     refine ⟨(b ++ ([gI s (i + 1)] : List UInt8), (i + 1) + 1), ⟨rfl, rfl⟩, ?_, ?_⟩
     · try dsimp only
       exact ⟨by omega, by omega, by simp; omega, by rw [hI.2.2.2, hq, if_neg h2, if_neg (by omega), if_neg (by omega), if_pos (by omega)]; congr 1; omega⟩
     try dsimp only
     omega
   replace h4 : ((((gI s i).toNat : Int) ≠ 92) ∨ ((s.length : Int) ≤ i + 1)) ∨ ((((gI s (i + 1)).toNat : Int) ≠ 34) ∧ (((gI s (i + 1)).toNat : Int) ≠ 92)) := ((bandF h4).imp (fun q => ((bandF q).imp (fun q => (ne_of_beq_false q)) (fun q => (Int.not_lt.1 (of_decide_eq_false q))))) (fun q => ⟨(ne_of_beq_false (borL q)), (ne_of_beq_false (borR q))⟩))
   refine mg [0, 7, 8, 9] 68 (((((((gI s i).toNat : Int) == 92) && (decide (i + 3 < (s.length : Int)))) && (((gI s (i + 1)).toNat : Int) == 120)) && (decide (0 ≤ Lib.indexByte sixteenL (gI s (i + 2))))) && (decide (0 ≤ Lib.indexByte sixteenL (gI s (i + 3))))) ?_ ?_
   · repeat' first
      | exact ⟨⟨_, rfl, by grind [SB.val]⟩, rfl⟩
      | refine an (fun _ => ?_) (fun _ => ?_)
      | refine an (by omega) ?_
      | refine call0 (fun _ => t_hex (gI s (i + 2))) rfl ?_
      | refine call0 (fun _ => t_hex (gI s (i + 3))) rfl ?_
   refine an (fun h5 => ?_) (fun h5 => ?_)
   · replace h5 : ((((((gI s i).toNat : Int) = 92) ∧ (i + 3 < (s.length : Int))) ∧ (((gI s (i + 1)).toNat : Int) = 120)) ∧ (0 ≤ Lib.indexByte sixteenL (gI s (i + 2)))) ∧ (0 ≤ Lib.indexByte sixteenL (gI s (i + 3))) := ⟨⟨⟨⟨(eq_of_beq (bandL (bandL (bandL (bandL h5))))), (of_decide_eq_true (bandR (bandL (bandL (bandL h5)))))⟩, (eq_of_beq (bandR (bandL (bandL h5))))⟩, (of_decide_eq_true (bandR (bandL h5)))⟩, (of_decide_eq_true (bandR h5))⟩
     refine an (by omega) ?_
     refine an (by omega) ?_
     refine pure0 (fun _ => t_hex (gI s (i + 2))) ?_
     refine an (by omega) ?_
     refine an (by omega) ?_
     refine an (by omega) ?_
     refine pure0 (fun _ => t_hex (gI s (i + 3))) ?_
     refine ap byteAV b ([(u8w (IntKind.i64.wrap (BitVec.ofInt IntKind.i64.bits (IntKind.i64.wrap ((Lib.indexByte sixteenL (gI s (i + 2))) * 2 ^ (min (Int.toNat 4) IntKind.i64.bits))) ||| BitVec.ofInt IntKind.i64.bits (Lib.indexByte sixteenL (gI s (i + 3)))).toNat))] : List UInt8) rfl rfl (fun _ => ⟨rfl, rfl⟩) (by (simp only [List.length_append, List.length_cons, List.length_nil]; omega)) ?_
     refine an (by omega) ?_
     refine an (by omega) ?_
     refine ⟨(b ++ ([(u8w (IntKind.i64.wrap (BitVec.ofInt IntKind.i64.bits (IntKind.i64.wrap ((Lib.indexByte sixteenL (gI s (i + 2))) * 2 ^ (min (Int.toNat 4) IntKind.i64.bits))) ||| BitVec.ofInt IntKind.i64.bits (Lib.indexByte sixteenL (gI s (i + 3)))).toNat))] : List UInt8), (i + 3) + 1), ⟨rfl, rfl⟩, ?_, ?_⟩
     · try dsimp only
       exact ⟨by omega, by omega, by simp; omega, by rw [hI.2.2.2, hq, if_neg h2, if_neg (by omega), if_neg (by omega), if_neg (by omega), if_pos (by omega), u8_or _ _ (by omega) (by omega) (by omega) (by omega)]; congr 1; omega⟩
     try dsimp only
     omega
   replace h5 : ((((((gI s i).toNat : Int) ≠ 92) ∨ ((s.length : Int) ≤ i + 3)) ∨ (((gI s (i + 1)).toNat : Int) ≠ 120)) ∨ (Lib.indexByte sixteenL (gI s (i + 2)) < 0)) ∨ (Lib.indexByte sixteenL (gI s (i + 3)) < 0) := ((bandF h5).imp (fun q => ((bandF q).imp (fun q => ((bandF q).imp (fun q => ((bandF q).imp (fun q => (ne_of_beq_false q)) (fun q => (Int.not_lt.1 (of_decide_eq_false q))))) (fun q => (ne_of_beq_false q)))) (fun q => (Int.not_le.1 (of_decide_eq_false q))))) (fun q => (Int.not_le.1 (of_decide_eq_false q))))
   refine mg [0, 7, 8, 9] 119 (((((gI s i).toNat : Int) == 92) || (decide (((gI s i).toNat : Int) < 32))) || (decide (126 < ((gI s i).toNat : Int)))) ?_ ?_
   · repeat' first
      | exact ⟨⟨_, rfl, by grind [SB.val]⟩, rfl⟩
      | refine an (fun _ => ?_) (fun _ => ?_)
   refine an (fun h6 => ?_) (fun h6 => ?_)
   · replace h6 : ((((gI s i).toNat : Int) = 92) ∨ (((gI s i).toNat : Int) < 32)) ∨ (126 < ((gI s i).toNat : Int)) := ((borT h6).imp (fun q => ((borT q).imp (fun q => (eq_of_beq q)) (fun q => (of_decide_eq_true q)))) (fun q => (of_decide_eq_true q)))
     refine rt0 rfl fun _ => K_eq hK ?_
     show qresL (qI s (a + 1) []) = AV.tuple [.str ([]), .int .i64 0, .err 72 4]
     rw [hI.2.2.2, hq, if_neg h2]; (repeat' split) <;> first | rfl | omega
   replace h6 : ((((gI s i).toNat : Int) ≠ 92) ∧ (32 ≤ ((gI s i).toNat : Int))) ∧ (((gI s i).toNat : Int) ≤ 126) := ⟨⟨(ne_of_beq_false (borL (borL h6))), (Int.not_lt.1 (of_decide_eq_false (borR (borL h6))))⟩, (Int.not_lt.1 (of_decide_eq_false (borR h6)))⟩
   refine ap byteAV b ([gI s i] : List UInt8) rfl rfl (fun _ => ⟨rfl, rfl⟩) (by (simp only [List.length_append, List.length_cons, List.length_nil]; omega)) ?_
   refine an (by omega) ?_
   refine ⟨(b ++ ([gI s i] : List UInt8), i + 1), ⟨rfl, rfl⟩, ?_, ?_⟩
   · try dsimp only
     exact ⟨by omega, by omega, by simp; omega, by rw [hI.2.2.2, hq, if_neg h2, if_neg (by omega), if_pos (by omega)]⟩
   try dsimp only
   omega
 refine rt0 rfl fun _ => K_eq hK ?_
 show qresL (qI s (a + 1) []) = AV.tuple [.str ([]), .int .i64 0, .err 72 4]
 rw [hI.2.2.2, qI_end h1]; rfl
end Go.Proofs
end
section
namespace Go.Proofs
open Go Go.Aw Go.Sx
set_option maxRecDepth 100000
def oneI (s : List UInt8) (a : Int) : Int × List UInt8 × Int × Int :=
  if letterB (gI s a) = true then
    (if 12 < runI wordB s a - a then (0, [], 0, 1) else (1, sub s a (runI wordB s a), runI wordB s a, 0))
  else if digitB (gI s a) = true then
    (if 10 < runI digitB s a - a ∨ (((gI s a).toNat : Int) = 48 ∧ a + 1 < runI digitB s a) then (0, [], 0, 1) else (2, sub s a (runI digitB s a), runI digitB s a, 0))
  else if ((gI s a).toNat : Int) = 34 then
    (if (qI s (a + 1) []).1 = 0 then 3 else 0, (qI s (a + 1) []).2.1, (qI s (a + 1) []).2.2, (qI s (a + 1) []).1)
  else if ((gI s a).toNat : Int) = 61 ∧ a + 1 < s.length ∧ ((gI s (a + 1)).toNat : Int) = 61 then (4, [61, 61], a + 2, 0)
  else if 0 ≤ Lib.indexByte signsL (gI s a) then (4, sub s a (a + 1), a + 1, 0)
  else (0, [], 0, 4)
end Go.Proofs
end
section
namespace Go.Proofs
open Go Go.Aw Go.Sx
set_option maxRecDepth 100000
abbrev Tok := Int × Int × List UInt8
def tokAV (t : Tok) : AV := .agg [.int .i64 t.1, .int .i64 t.2.1, .str t.2.2]
def tokF : Nat → List UInt8 → Int → List Tok → List Tok × Int × Int
  | 0, _, _, out => (out, 0, 0)
  | n + 1, s, a, out =>
    if a < s.length then
      if ((gI s a).toNat : Int) = 32 ∨ ((gI s a).toNat : Int) = 10 then tokF n s (a + 1) out
      else if ((gI s a).toNat : Int) = 35 then tokF n s (runI noLineB s a) out
      else if (oneI s a).2.2.2 ≠ 0 then ([], a, (oneI s a).2.2.2)
      else tokF n s (oneI s a).2.2.1 (out ++ [((oneI s a).1, a, (oneI s a).2.1)])
    else (out, 0, 0)
def tokR (s : List UInt8) : List Tok × Int × Int := if 4000 < (s.length : Int) then ([], 0, 2) else tokF (s.length + 1) s 0 []
theorem tok_end {n : Nat} {s : List UInt8} {a : Int} {out : List Tok} (h : s.length ≤ a) : tokF (n + 1) s a out = (out, 0, 0) := by rw [tokF, if_neg (by omega)]
theorem tok_sp {n : Nat} {s : List UInt8} {a : Int} {out : List Tok} (h : a < s.length) (hc : ((gI s a).toNat : Int) = 32 ∨ ((gI s a).toNat : Int) = 10) : tokF (n + 1) s a out = tokF n s (a + 1) out := by rw [tokF, if_pos h, if_pos hc]
theorem tok_com {n : Nat} {s : List UInt8} {a : Int} {out : List Tok} (h : a < s.length) (hc : ((gI s a).toNat : Int) = 35) : tokF (n + 1) s a out = tokF n s (runI noLineB s a) out := by rw [tokF, if_pos h, if_neg (by omega), if_pos hc]
theorem tok_bad {n : Nat} {s : List UInt8} {a : Int} {out : List Tok} (h : a < s.length) (hc : ¬ (((gI s a).toNat : Int) = 32 ∨ ((gI s a).toNat : Int) = 10)) (h5 : ((gI s a).toNat : Int) ≠ 35) (he : (oneI s a).2.2.2 ≠ 0) : tokF (n + 1) s a out = ([], a, (oneI s a).2.2.2) := by
  rw [tokF, if_pos h, if_neg hc, if_neg h5, if_pos he]
theorem tok_one {n : Nat} {s : List UInt8} {a : Int} {out : List Tok} (h : a < s.length) (hc : ¬ (((gI s a).toNat : Int) = 32 ∨ ((gI s a).toNat : Int) = 10)) (h5 : ((gI s a).toNat : Int) ≠ 35) (he : (oneI s a).2.2.2 = 0) :
    tokF (n + 1) s a out = tokF n s (oneI s a).2.2.1 (out ++ [((oneI s a).1, a, (oneI s a).2.1)]) := by
  rw [tokF, if_pos h, if_neg hc, if_neg h5, if_neg (by simpa using he)]
theorem quoteL_facts (s : List UInt8) (i : Nat) (b : List UInt8) : 0 ≤ (quoteL s i b).1 ∧ ((quoteL s i b).1 = 0 → (i : Int) < (quoteL s i b).2.2 ∧ (quoteL s i b).2.2 ≤ s.length) := by
  fun_induction quoteL s i b <;> simp_all <;> omega
theorem qI_facts (s : List UInt8) (a : Int) (h0 : 0 ≤ a) (b : List UInt8) : 0 ≤ (qI s a b).1 ∧ ((qI s a b).1 = 0 → a < (qI s a b).2.2 ∧ (qI s a b).2.2 ≤ s.length) := by
  have := quoteL_facts s a.toNat b
  rw [qI]
  refine ⟨this.1, fun h => ?_⟩
  have := this.2 h
  omega
theorem oneI_nn (s : List UInt8) (a : Int) : 0 ≤ (oneI s a).2.2.2 := by
  unfold oneI
  split
  · split <;> simp
  · split
    · split <;> simp
    · split
      · rw [qI]; exact (quoteL_facts _ _ _).1
      · split
        · simp
        · split <;> simp
theorem oneI_end {s : List UInt8} {a : Int} (h0 : 0 ≤ a) (ha : a < s.length) (he : (oneI s a).2.2.2 = 0) : a < (oneI s a).2.2.1 ∧ (oneI s a).2.2.1 ≤ s.length := by
  have hw := runI_le wordB (s := s) h0 (by omega)
  have hd := runI_le digitB (s := s) h0 (by omega)
  have hw1 : letterB (gI s a) = true → a + 1 ≤ runI wordB s a := fun hl => by
    rw [runI_step h0 ha (by simp [wordB, hl])]; exact runI_ge _ (by omega)
  have hd1 : digitB (gI s a) = true → a + 1 ≤ runI digitB s a := fun hl => by
    rw [runI_step h0 ha hl]; exact runI_ge _ (by omega)
  unfold oneI at he ⊢
  split
  · next hl =>
    have := hw1 hl
    split <;> simp_all <;> omega
  · split
    · next hl =>
      have := hd1 hl
      split <;> simp_all <;> omega
    · split
      · next h34 =>
        simp_all
        have := (qI_facts s (a + 1) (by omega) []).2 he
        omega
      · split
        · simp; omega
        · split <;> simp_all <;> omega
end Go.Proofs
end
section
namespace Go.Proofs
open Go Go.Aw Go.Sx
set_option maxRecDepth 100000
theorem gI_drop (s : List UInt8) (a : Int) (h0 : 0 ≤ a) (k : Nat) : (s.drop a.toNat).getD k 0 = gI s (a + k) := by
  obtain ⟨n, rfl⟩ := Int.eq_ofNat_of_zero_le h0
  have : ((n : Int) + (k : Int)) = ((n + k : Nat) : Int) := by simp
  rw [this, gI_str]
  simp [List.getD_eq_getElem?_getD]
theorem u8_of {c : UInt8} {n : Nat} (h : (c.toNat : Int) = n) (hn : n < 256) : c = UInt8.ofNat n := by
  apply UInt8.toNat_inj.1
  simp [Nat.mod_eq_of_lt hn]; omega
theorem hasPre_two (t : List UInt8) : Lib.hasPrefix t [61, 61] = true ↔ 2 ≤ t.length ∧ t.getD 0 0 = 61 ∧ t.getD 1 0 = 61 := by
  match t with
  | [] => simp [Lib.hasPrefix]
  | [x] => simp [Lib.hasPrefix]
  | x :: y :: r => simp [Lib.hasPrefix]; try exact ⟨fun h => ⟨h.1.symm, h.2.symm⟩, fun h => ⟨h.1.symm, h.2.symm⟩⟩
theorem sub_all (s : List UInt8) (a : Int) (h0 : 0 ≤ a) (ha : a < s.length) : sub s a s.length = s.drop a.toNat := by
  unfold sub
  rw [List.take_of_length_le]
  simp; omega
theorem oneI_sign {s : List UInt8} {a : Int} (h0 : 0 ≤ a) (ha : a < s.length) (h1 : ¬ letterB (gI s a) = true) (h2 : ¬ digitB (gI s a) = true) (h3 : ((gI s a).toNat : Int) ≠ 34) :
    oneI s a = if signN (sub s a s.length) = 0 then (0, [], 0, 4) else (4, sub s a (a + signN (sub s a s.length)), a + signN (sub s a s.length), 0) := by
  rw [oneI, if_neg h1, if_neg h2, if_neg h3, sub_all s a h0 ha]
  have e0 := gI_drop s a h0 0
  have e1 := gI_drop s a h0 1
  have z0 : a + ((0 : Nat) : Int) = a := by omega
  have z1 : a + ((1 : Nat) : Int) = a + 1 := by omega
  rw [z0] at e0
  rw [z1] at e1
  have hl : (s.drop a.toNat).length = s.length - a.toNat := by simp
  have hd := drop_cons (s := s) (i := a.toNat) (by omega)
  by_cases hp : Lib.hasPrefix (s.drop a.toNat) [61, 61] = true
  · have hq := (hasPre_two _).1 hp
    rw [e0, e1] at hq
    rw [signN, if_pos hp, if_pos ⟨by rw [hq.2.1]; rfl, by omega, by rw [hq.2.2]; rfl⟩]
    have hd1 := drop_cons (s := s) (i := a.toNat + 1) (by omega)
    have g0 : s.getD a.toNat 0 = 61 := hq.2.1
    have g1 : s.getD (a.toNat + 1) 0 = 61 := by
      have := hq.2.2
      rw [gI] at this
      have e : (a + 1).toNat = a.toNat + 1 := by omega
      rw [e] at this; exact this
    have : sub s a (a + 2) = [61, 61] := by
      unfold sub
      rw [hd, hd1, g0, g1]
      have : (a + 2 - a).toNat = 2 := by omega
      rw [this]; rfl
    simp [this]
  · have hn : ¬ (((gI s a).toNat : Int) = 61 ∧ a + 1 < s.length ∧ ((gI s (a + 1)).toNat : Int) = 61) := by
      intro hh
      apply hp
      rw [hasPre_two, e0, e1]
      refine ⟨by omega, ?_, ?_⟩
      · exact u8_of (n := 61) hh.1 (by omega)
      · exact u8_of (n := 61) hh.2.2 (by omega)
    rw [if_neg hn, signN, if_neg hp, e0]
    by_cases hi : 0 ≤ Lib.indexByte signsL (gI s a)
    · simp [hi]
    · simp [hi]
theorem oneI_letter {s : List UInt8} {a : Int} (h : letterB (gI s a) = true) : oneI s a = if 12 < runI wordB s a - a then (0, [], 0, 1) else (1, sub s a (runI wordB s a), runI wordB s a, 0) := by rw [oneI, if_pos h]
theorem oneI_digit {s : List UInt8} {a : Int} (h1 : ¬ letterB (gI s a) = true) (h : digitB (gI s a) = true) : oneI s a = if 10 < runI digitB s a - a ∨ (((gI s a).toNat : Int) = 48 ∧ a + 1 < runI digitB s a) then (0, [], 0, 1) else (2, sub s a (runI digitB s a), runI digitB s a, 0) := by rw [oneI, if_neg h1, if_pos h]
theorem oneI_quote {s : List UInt8} {a : Int} (h : ((gI s a).toNat : Int) = 34) : oneI s a = (if (qI s (a + 1) []).1 = 0 then 3 else 0, (qI s (a + 1) []).2.1, (qI s (a + 1) []).2.2, (qI s (a + 1) []).1) := by
  rw [oneI, if_neg (fun hb => by have := letterB_p.1 hb; omega), if_neg (fun hb => by have := digitB_p.1 hb; omega), if_pos h]
theorem signN_range (t : List UInt8) : 0 ≤ signN t ∧ signN t ≤ 2 := by unfold signN; split <;> (try split) <;> simp
theorem signN_le {s : List UInt8} {a : Int} (h0 : 0 ≤ a) (ha : a < s.length) : a + signN (sub s a s.length) ≤ s.length := by
  rw [sub_all s a h0 ha]
  unfold signN
  split
  · next h => have := ((hasPre_two _).1 h).1; simp at this; omega
  · split <;> omega
theorem tok_step {n : Nat} {s : List UInt8} {a : Int} {out : List Tok} {k : Int} {t : List UInt8} {e : Int} (h : a < s.length) (hc : ¬ (((gI s a).toNat : Int) = 32 ∨ ((gI s a).toNat : Int) = 10)) (h5 : ((gI s a).toNat : Int) ≠ 35) (he : oneI s a = (k, t, e, 0)) :
    tokF (n + 1) s a out = tokF n s e (out ++ [(k, a, t)]) := by rw [tok_one h hc h5 (by rw [he]), he]
theorem tok_err {n : Nat} {s : List UInt8} {a : Int} {out : List Tok} {k : Int} {t : List UInt8} {e f : Int} (h : a < s.length) (hc : ¬ (((gI s a).toNat : Int) = 32 ∨ ((gI s a).toNat : Int) = 10)) (h5 : ((gI s a).toNat : Int) ≠ 35) (he : oneI s a = (k, t, e, f)) (hf : f ≠ 0) :
    tokF (n + 1) s a out = ([], a, f) := by rw [tok_bad h hc h5 (by rw [he]; exact hf), he]
theorem u_run (s : Str) (a : Int) (g : FuncId) (f : UInt8 → Bool) (h0 : 0 ≤ a) (ha : a ≤ s.length) (hs : s.length ≤ 140737488355328) (hf : ∀ c m, PureCall Tryd.prog g [.int .u8 (c : UInt8).toNat] m (.bool (f c))) (m : AMem)  (K : AV → AMem → Prop) (hK : K (.int .i64 (runI f s a)) m) : ACalls Tryd.prog 63 [.str s, .int .i64 a, .func (.func g) [] []] m K := by
 refine enter (c := cf [] [] [1] [] [] []) (vs := [.av (.str s), .av (.int .i64 a), .fn g [] []]) (L := []) (m := m) false tbOk Tryd.mixed Tryd.func63 rfl (k := 3) (by show fnOk [] _ _ _ = true; decide +kernel) rfl (Good.nil m) ?_
 refine sq ?_
 refine lp (σ := Int) [] [0, 1, 2] 0 (fun at_ => ([(0, vS s), (1, vI at_), (2, .fn g [] [])], [], m)) (fun at_ => 0 ≤ at_ ∧ at_ ≤ s.length ∧ runI f s a = runI f s at_) (fun at_ => s.length - at_.toNat) (a) ⟨rfl, rfl⟩ ?_ ?_
 · try dsimp only
   exact ⟨by omega, by omega, rfl⟩
 rintro at_ hI
 refine sq ?_
 refine mg [0, 1, 2] 17 ((decide (at_ < (s.length : Int))) && (f (gI s at_))) ?_ ?_
 · repeat' first
    | exact ⟨⟨_, rfl, by grind [SB.val]⟩, rfl⟩
    | refine an (fun _ => ?_) (fun _ => ?_)
    | refine an (by omega) ?_
    | refine call0 (fun _ => hf (gI s at_)) rfl ?_
 refine an (fun h1 => ?_) (fun h1 => ?_)
 · replace h1 : (at_ < (s.length : Int)) ∧ (f (gI s at_) = true) := ⟨(of_decide_eq_true (bandL h1)), (bandR h1)⟩
   refine an (by omega) ?_
   refine ⟨(at_ + 1), ⟨rfl, rfl⟩, ?_, ?_⟩
   · try dsimp only
     exact ⟨by omega, by omega, by rw [hI.2.2]; exact runI_step hI.1 h1.1 h1.2⟩
   try dsimp only
   omega
 replace h1 : ((s.length : Int) ≤ at_) ∨ (f (gI s at_) = false) := ((bandF h1).imp (fun q => (Int.not_lt.1 (of_decide_eq_false q))) (fun q => q))
 refine rt0 rfl fun _ => K_eq hK ?_
 show AV.int .i64 (runI f s a) = AV.int .i64 at_
 refine congrArg (AV.int .i64) ?_
 rw [hI.2.2]; exact runI_stop hI.1 (fun hl => by rcases h1 with h1 | h1; (omega); exact h1)
set_option maxHeartbeats 2000000 in
theorem u_Tokens (s : Str) (hs : s.length ≤ 16777216) (m : AMem)  (K : AV → AMem → Prop) (hK : K (.tuple [.slice false ((tokR s).1.map tokAV), .int .i64 (tokR s).2.1, .err 72 (tokR s).2.2]) m) : ACalls Tryd.prog 38 [.str s] m K := by
 refine ACalls.pl ?_
 refine enter (c := cf [] [] [12, 24] [] [] []) (vs := [.av (.str s)]) (L := []) (m := m) true tbOk Tryd.mixed Tryd.func38 rfl (k := 1) (by show fnOk [] _ _ _ = true; decide +kernel) rfl (Good.nil m) ?_
 refine sq ?_
 refine an (fun h1 => ?_) (fun h1 => ?_)
 · refine rt0 rfl fun _ => ?_
   show K (.tuple [.slice false [], .int .i64 0, .err 72 2]) m
   refine K_eq hK ?_
   show AV.tuple [.slice false ((tokR s).1.map tokAV), .int .i64 (tokR s).2.1, .err 72 (tokR s).2.2] = AV.tuple [.slice false [], .int .i64 0, .err 72 2]
   rw [tokR, if_pos h1]; rfl
 have hR : tokR s = tokF (s.length + 1) s 0 [] := by rw [tokR, if_neg (by omega)]
 refine sq ?_
 refine lp (σ := (List Tok) × Int) [] [0, 5, 6] 0 (fun ⟨out, at_⟩ => ([(0, vS s), (5, .own (out.map tokAV)), (6, vI at_)], [], m)) (fun ⟨out, at_⟩ => 0 ≤ at_ ∧ at_ ≤ s.length ∧ (out.length : Int) ≤ at_ ∧ ∃ n : Nat, s.length - at_ < n ∧ tokF (s.length + 1) s 0 [] = tokF n s at_ out) (fun ⟨out, at_⟩ => s.length - at_.toNat) ([], 0) ⟨rfl, rfl⟩ ?_ ?_
 · try dsimp only
   exact ⟨by omega, by omega, by simp, s.length + 1, by omega, rfl⟩
 rintro ⟨out, at_⟩ hI
 dsimp only at hI
 obtain ⟨n, hn, ht⟩ := hI.2.2.2
 refine sq ?_
 refine an (fun h2 => ?_) (fun h2 => ?_)
 · obtain ⟨n, rfl⟩ : ∃ k, n = k + 1 := ⟨n - 1, by omega⟩
   refine an (by omega) ?_
   refine mg [0, 5, 6, 7] 47 ((((gI s at_).toNat : Int) == 32) || (((gI s at_).toNat : Int) == 10)) ?_ ?_
   · repeat' first
      | exact ⟨⟨_, rfl, by grind [SB.val]⟩, rfl⟩
      | refine an (fun _ => ?_) (fun _ => ?_)
   refine an (fun h3 => ?_) (fun h3 => ?_)
   · replace h3 : (((gI s at_).toNat : Int) = 32) ∨ (((gI s at_).toNat : Int) = 10) := ((borT h3).imp (fun q => (eq_of_beq q)) (fun q => (eq_of_beq q)))
     refine an (by omega) ?_
     refine ⟨(out, at_ + 1), ⟨rfl, rfl⟩, ?_, ?_⟩
     · try dsimp only
       exact ⟨by omega, by omega, by omega, n, by omega, by rw [ht, tok_sp h2 h3]⟩
     try dsimp only
     omega
   replace h3 : (((gI s at_).toNat : Int) ≠ 32) ∧ (((gI s at_).toNat : Int) ≠ 10) := ⟨(ne_of_beq_false (borL h3)), (ne_of_beq_false (borR h3))⟩
   refine an (fun h4 => ?_) (fun h4 => ?_)
   · have hr := runI_le noLineB (s := s) hI.1 (by omega)
     have hg : at_ + 1 ≤ runI noLineB s at_ := by rw [runI_step hI.1 h2 (by simp [noLineB]; omega)]; exact runI_ge _ (by omega)
     refine call0 (fun _ => u_run s at_ 64 noLineB (by omega) (by omega) (by omega) (fun c m K hK => t_noLine c m K hK)) rfl ?_
     refine ⟨(out, runI noLineB s at_), ⟨rfl, rfl⟩, ?_, ?_⟩
     · try dsimp only
       exact ⟨by omega, by omega, by omega, n, by omega, by rw [ht, tok_com h2 h4]⟩
     try dsimp only
     omega
   refine call0 (fun _ => t_letter (gI s at_)) rfl ?_
   refine an (fun h5 => ?_) (fun h5 => ?_)
   · have hr := runI_le wordB (s := s) hI.1 (by omega)
     have hg : at_ + 1 ≤ runI wordB s at_ := by rw [runI_step hI.1 h2 (by simp [wordB, h5])]; exact runI_ge _ (by omega)
     have e1 := oneI_letter h5
     refine call0 (fun _ => u_run s at_ 66 wordB (by omega) (by omega) (by omega) (fun c m K hK => t_word c m K hK)) rfl ?_
     refine sq ?_
     refine an (by omega) ?_
     refine an (fun h6 => ?_) (fun h6 => ?_)
     · refine rt0 rfl fun _ => ?_
       show K (.tuple [.slice false [], .int .i64 at_, .err 72 1]) m
       refine K_eq hK ?_
       show AV.tuple [.slice false ((tokR s).1.map tokAV), .int .i64 (tokR s).2.1, .err 72 (tokR s).2.2] = AV.tuple [.slice false [], .int .i64 at_, .err 72 1]
       rw [hR, ht, tok_err h2 (by omega) h4 (e1.trans (if_pos h6)) (by omega)]; rfl
     refine an (by dsimp only [Option.getD_some, Option.getD_none]; omega) ?_
     refine ap tokAV out ([(⟨1, at_, sub s at_ (runI wordB s at_)⟩ : Tok)] : List Tok) rfl rfl (fun _ => ⟨rfl, rfl⟩) (by (simp only [List.length_append, List.length_cons, List.length_nil]; omega)) ?_
     refine ⟨(out ++ ([(⟨1, at_, sub s at_ (runI wordB s at_)⟩ : Tok)] : List Tok), runI wordB s at_), ⟨rfl, rfl⟩, ?_, ?_⟩
     · try dsimp only
       exact ⟨by omega, by omega, by simp; omega, n, by omega, by rw [ht, tok_step h2 (by omega) h4 (e1.trans (if_neg (by omega)))]⟩
     try dsimp only
     omega
   refine call0 (fun _ => t_digit (gI s at_)) rfl ?_
   refine an (fun h7 => ?_) (fun h7 => ?_)
   · have hr := runI_le digitB (s := s) hI.1 (by omega)
     have hg : at_ + 1 ≤ runI digitB s at_ := by rw [runI_step hI.1 h2 h7]; exact runI_ge _ (by omega)
     have e1 := oneI_digit (by rw [h5]; simp) h7
     refine call0 (fun _ => u_run s at_ 67 digitB (by omega) (by omega) (by omega) (fun c m K hK => t_digit c m K hK)) rfl ?_
     refine sq ?_
     refine mg [0, 5, 6, 9] 103 ((decide (10 < (runI digitB s at_) - at_)) || ((((gI s at_).toNat : Int) == 48) && (decide (1 < (runI digitB s at_) - at_)))) ?_ ?_
     · repeat' first
        | exact ⟨⟨_, rfl, by grind [SB.val]⟩, rfl⟩
        | refine an (fun _ => ?_) (fun _ => ?_)
        | refine an (by omega) ?_
     refine an (fun h8 => ?_) (fun h8 => ?_)
     · replace h8 : (10 < (runI digitB s at_) - at_) ∨ ((((gI s at_).toNat : Int) = 48) ∧ (1 < (runI digitB s at_) - at_)) := ((borT h8).imp (fun q => (of_decide_eq_true q)) (fun q => ⟨(eq_of_beq (bandL q)), (of_decide_eq_true (bandR q))⟩))
       refine rt0 rfl fun _ => ?_
       show K (.tuple [.slice false [], .int .i64 at_, .err 72 1]) m
       refine K_eq hK ?_
       show AV.tuple [.slice false ((tokR s).1.map tokAV), .int .i64 (tokR s).2.1, .err 72 (tokR s).2.2] = AV.tuple [.slice false [], .int .i64 at_, .err 72 1]
       rw [hR, ht, tok_err h2 (by omega) h4 (e1.trans (if_pos (by omega))) (by omega)]; rfl
     replace h8 : ((runI digitB s at_) - at_ ≤ 10) ∧ ((((gI s at_).toNat : Int) ≠ 48) ∨ ((runI digitB s at_) - at_ ≤ 1)) := ⟨(Int.not_lt.1 (of_decide_eq_false (borL h8))), ((bandF (borR h8)).imp (fun q => (ne_of_beq_false q)) (fun q => (Int.not_lt.1 (of_decide_eq_false q))))⟩
     refine an (by dsimp only [Option.getD_some, Option.getD_none]; omega) ?_
     refine ap tokAV out ([(⟨2, at_, sub s at_ (runI digitB s at_)⟩ : Tok)] : List Tok) rfl rfl (fun _ => ⟨rfl, rfl⟩) (by (simp only [List.length_append, List.length_cons, List.length_nil]; omega)) ?_
     refine ⟨(out ++ ([(⟨2, at_, sub s at_ (runI digitB s at_)⟩ : Tok)] : List Tok), runI digitB s at_), ⟨rfl, rfl⟩, ?_, ?_⟩
     · try dsimp only
       exact ⟨by omega, by omega, by simp; omega, n, by omega, by rw [ht, tok_step h2 (by omega) h4 (e1.trans (if_neg (by omega)))]⟩
     try dsimp only
     omega
   refine an (fun h9 => ?_) (fun h9 => ?_)
   · have hq := qI_facts s (at_ + 1) (by omega) []
     have e1 := oneI_quote h9
     refine call0 (fun _ => u_lexQuoted s at_ (by omega) (by omega) (by omega)) rfl ?_
     refine sq ?_
     refine an (fun h10 => ?_) (fun h10 => ?_)
     · have hq2 := hq.2 h10
       have e2 : oneI s at_ = (3, (qI s (at_ + 1) []).2.1, (qI s (at_ + 1) []).2.2, 0) := by rw [e1, h10]; rfl
       refine ap tokAV out ([(⟨3, at_, (qI s (at_ + 1) []).2.1⟩ : Tok)] : List Tok) rfl rfl (fun _ => ⟨rfl, rfl⟩) (by (simp only [List.length_append, List.length_cons, List.length_nil]; omega)) ?_
       refine ⟨(out ++ ([(⟨3, at_, (qI s (at_ + 1) []).2.1⟩ : Tok)] : List Tok), (qI s (at_ + 1) []).2.2), ⟨rfl, rfl⟩, ?_, ?_⟩
       · try dsimp only
         exact ⟨by omega, by omega, by simp; omega, n, by omega, by rw [ht, tok_step h2 (by omega) h4 e2]⟩
       try dsimp only
       omega
     refine rt0 rfl fun _ => ?_
     show K (.tuple [.slice false [], .int .i64 at_, .err 72 ((qI s (at_ + 1) []).1)]) m
     refine K_eq hK ?_
     show AV.tuple [.slice false ((tokR s).1.map tokAV), .int .i64 (tokR s).2.1, .err 72 (tokR s).2.2] = AV.tuple [.slice false [], .int .i64 at_, .err 72 ((qI s (at_ + 1) []).1)]
     rw [hR, ht, tok_err h2 (by omega) h4 e1 h10]; rfl
   have e1 := oneI_sign hI.1 h2 (by rw [h5]; simp) (by rw [h7]; simp) h9
   have hn2 := signN_range (sub s at_ s.length)
   refine an (by dsimp only [Option.getD_some, Option.getD_none]; omega) ?_
   refine call0 (fun _ => t_sign (sub s at_ (s.length : Int)) (by simp [sub]; omega)) rfl ?_
   refine sq ?_
   refine an (fun h11 => ?_) (fun h11 => ?_)
   · refine rt0 rfl fun _ => ?_
     show K (.tuple [.slice false [], .int .i64 at_, .err 72 4]) m
     refine K_eq hK ?_
     show AV.tuple [.slice false ((tokR s).1.map tokAV), .int .i64 (tokR s).2.1, .err 72 (tokR s).2.2] = AV.tuple [.slice false [], .int .i64 at_, .err 72 4]
     rw [hR, ht, tok_err h2 (by omega) h4 (e1.trans (if_pos h11)) (by omega)]; rfl
   have hn3 : at_ + signN (sub s at_ s.length) ≤ s.length := by
     rcases hI.2.1 with hh
     exact signN_le hI.1 h2
   refine an (by omega) ?_
   refine an (by dsimp only [Option.getD_some, Option.getD_none]; omega) ?_
   refine ap tokAV out ([(⟨4, at_, sub s at_ (at_ + (signN (sub s at_ (s.length : Int))))⟩ : Tok)] : List Tok) rfl rfl (fun _ => ⟨rfl, rfl⟩) (by (simp only [List.length_append, List.length_cons, List.length_nil]; omega)) ?_
   refine an (by omega) ?_
   refine ⟨(out ++ ([(⟨4, at_, sub s at_ (at_ + (signN (sub s at_ (s.length : Int))))⟩ : Tok)] : List Tok), at_ + (signN (sub s at_ (s.length : Int)))), ⟨rfl, rfl⟩, ?_, ?_⟩
   · try dsimp only
     exact ⟨by omega, by omega, by simp; omega, n, by omega, by rw [ht, tok_step h2 (by omega) h4 (e1.trans (if_neg h11))]⟩
   try dsimp only
   omega
 obtain ⟨n, rfl⟩ : ∃ k, n = k + 1 := ⟨n - 1, by omega⟩
 refine rt0 rfl fun _ => ?_
 show K (.tuple [.slice false (out.map tokAV), .int .i64 0, .err 72 0]) m
 refine K_eq hK ?_
 show AV.tuple [.slice false ((tokR s).1.map tokAV), .int .i64 (tokR s).2.1, .err 72 (tokR s).2.2] = AV.tuple [.slice false (out.map tokAV), .int .i64 0, .err 72 0]
 rw [hR, ht, tok_end h2]
end Go.Proofs
end
section
namespace Go.Proofs
open Go Go.Aw Go.Sx
set_option maxRecDepth 100000
theorem tokF_nn (n : Nat) (s : List UInt8) (a : Int) (out : List Tok) : 0 ≤ (tokF n s a out).2.2 := by
  fun_induction tokF n s a out <;> simp_all [oneI_nn]
theorem tokR_nn (s : List UInt8) : 0 ≤ (tokR s).2.2 := by
  unfold tokR; split
  · simp
  · exact tokF_nn _ _ _ _
theorem tokF_len (n : Nat) (s : List UInt8) (a : Int) (out : List Tok) : (tokF n s a out).1.length ≤ out.length + n := by
  fun_induction tokF n s a out <;> simp_all <;> omega
theorem tokR_len (s : List UInt8) : (tokR s).1.length ≤ 4001 := by
  unfold tokR; split
  · simp
  · have := tokF_len (s.length + 1) s 0 []
    simp at this; omega
structure PR (α : Type) where
  f : Int
  p : Int
  x : α
  a : Int
def PR.ok {α : Type} (x : α) (a : Int) : PR α := ⟨0, 0, x, a⟩
def PR.bad {α : Type} [Inhabited α] (f p : Int) : PR α := ⟨f, p, default, 0⟩
def PR.bind {α β : Type} [Inhabited β] (p : PR α) (g : α → Int → PR β) : PR β := if p.f = 0 then g p.x p.a else .bad p.f p.p
structure PX {α : Type} (p : PR α) (x : α) (a e q : Int) : Prop where
  f : e = p.f
  y : e = 0 → x = p.x ∧ a = p.a
  z : e ≠ 0 → q = p.p
structure OX (l : List Tok) {α : Type} (p : PR α) (x : α) (a e q a' e' q' : Int) : Prop where
  ok : e = 0 → PX p x a' e' q'
  st : e ≠ 0 → a' = a ∧ e' = e ∧ q' = q
  lo : a ≤ a'
  hi : a' ≤ l.length
  nn : 0 ≤ e'
  gt : e' = 0 → a < a'
section
variable {l : List Tok} {α β : Type} {p : PR α} {x : α} {a e q a1 e1 q1 a2 e2 q2 : Int}
theorem OX.bind [Inhabited β] {g : α → Int → PR β} {y : β} (o1 : OX l p x a e q a1 e1 q1) (o2 : OX l (g x a1) y a1 e1 q1 a2 e2 q2) : OX l (p.bind g) y a e q a2 e2 q2 := by
  refine ⟨fun he => ?_, fun he => ?_, Int.le_trans o1.lo o2.lo, o2.hi, o2.nn, fun h => ?_⟩
  · have h1 := o1.ok he
    by_cases hz : e1 = 0
    · obtain ⟨rfl, rfl⟩ := h1.y hz
      have := o2.ok hz
      rw [PR.bind, if_pos (by rw [← h1.f]; exact hz)]; exact this
    · obtain ⟨_, rfl, rfl⟩ := o2.st hz
      rw [PR.bind, if_neg (by rw [← h1.f]; exact hz)]
      exact ⟨h1.f, fun h => absurd h hz, fun _ => h1.z hz⟩
  · obtain ⟨rfl, rfl, rfl⟩ := o1.st he
    exact o2.st he
  · by_cases hz : e1 = 0
    · have := o1.gt hz; have := o2.lo; omega
    · obtain ⟨_, rfl, _⟩ := o2.st hz; exact absurd h hz
theorem OX.map [Inhabited β] (f : α → β) (o1 : OX l p x a e q a1 e1 q1) : OX l (p.bind fun s a => .ok (f s) a) (f x) a e q a1 e1 q1 := by
  refine ⟨fun he => ?_, o1.st, o1.lo, o1.hi, o1.nn, o1.gt⟩
  have h1 := o1.ok he
  by_cases hz : e1 = 0
  · obtain ⟨rfl, rfl⟩ := h1.y hz
    rw [PR.bind, if_pos (by rw [← h1.f]; exact hz)]
    exact ⟨hz, fun _ => ⟨rfl, rfl⟩, fun h => absurd hz h⟩
  · rw [PR.bind, if_neg (by rw [← h1.f]; exact hz)]
    exact ⟨h1.f, fun h => absurd h hz, fun _ => h1.z hz⟩
theorem OX.bad [Inhabited α] {f s : Int} (x : α) (h0 : a ≤ l.length) (h1 : e = 0 → e2 = f ∧ q2 = s) (h2 : e ≠ 0 → e2 = e ∧ q2 = q) (h3 : 0 < e2) : OX l (.bad f s : PR α) x a e q a e2 q2 :=
  ⟨fun he => ⟨(h1 he).1, fun h => by omega, fun _ => (h1 he).2⟩, fun he => ⟨rfl, h2 he⟩, Int.le_refl _, h0, by omega, fun h => by omega⟩
theorem OX.one {x : α} (h0 : a < l.length) (he : e = 0) : OX l (.ok x (a + 1) : PR α) x a e q (a + 1) e q :=
  ⟨fun he => ⟨he, fun _ => ⟨rfl, rfl⟩, fun h => absurd he h⟩, fun h => absurd he h, by omega, by omega, by omega, fun _ => by omega⟩
theorem OX.from {b : Int} (he : e = 0) (hb : b ≤ a) (o1 : OX l p x a e q a1 e1 q1) : OX l p x b e q a1 e1 q1 :=
  ⟨o1.ok, fun h => absurd he h, Int.le_trans hb o1.lo, o1.hi, o1.nn, fun h => by have := o1.gt h; omega⟩
end
abbrev rP (l : List Tok) (n a e q : Int) : SObj := .cells [vL (l.map tokAV), vI a, vI n, .av (.err 72 e), vI q]
def hereP (l : List Tok) (n a : Int) : Int := if a < l.length then (gI l a).2.1 else n
def tokB (l : List Tok) (k : Int) (s : Str) (a : Int) : Bool := decide (a < l.length) && ((gI l a).1 == k) && ((s == []) || ((gI l a).2.2 == s))
def tokE (l : List Tok) (k : Int) (s : Str) (a e : Int) : Bool := (e == 0) && tokB l k s a
theorem tokB_lt {l : List Tok} {k : Int} {s : Str} {a : Int} (h : tokB l k s a = true) : a < l.length := by
  simp only [tokB, Bool.and_eq_true, decide_eq_true_eq] at h; exact h.1.1
theorem tokE_t {l : List Tok} {k : Int} {s : Str} {a e : Int} (h : tokE l k s a e = true) : e = 0 ∧ tokB l k s a = true := by
  simpa [tokE] using h
theorem tokE_f {l : List Tok} {k : Int} {s : Str} {a e : Int} (h : tokE l k s a e = false) : e = 0 → tokB l k s a = false := by
  intro h2; subst h2; simpa [tokE] using h
def wantP (l : List Tok) (n k : Int) (s : Str) (a : Int) : PR Str := if tokB l k s a = true then .ok (gI l a).2.2 (a + 1) else .bad 5 (hereP l n a)
def pairP (l : List Tok) (n a : Int) : PR (Str × Str) :=
  (wantP l n 4 [46] a).bind fun _ a => (wantP l n 1 [] a).bind fun s a => (wantP l n 4 [46] a).bind fun _ a => (wantP l n 1 [] a).bind fun t a => .ok (s, t) a
theorem u_here (l : List Tok) (n a e q : Int) (r : Nat) (hl : l.length ≤ 5000) (h0 : 0 ≤ a) (ha : a ≤ l.length) (m : AMem) (gd : Gd [r] m) (K : AV → AMem → Prop) (hK : K (.int .i64 (hereP l n a)) (AMem.wth m [(r, .cells [.slice false (l.map tokAV), .int .i64 a, .int .i64 n, .err 72 e, .int .i64 q])])) : ACalls Tryd.prog 70 [.ptr ⟨r, 0, none⟩] (AMem.wth m [(r, .cells [.slice false (l.map tokAV), .int .i64 a, .int .i64 n, .err 72 e, .int .i64 q])]) K := by
 refine enter (c := cf [] [] [] [] [] [r]) (vs := [.loc 0 0]) (L := [rP l n a e q]) (m := m) false tbOk Tryd.mixed Tryd.func70 rfl (k := 1) (by show fnOk [] _ _ _ = true; decide +kernel) rfl (gd.good rfl) ?_
 refine sq ?_
 refine ln ?_
 refine an (fun h1 => ?_) (fun h1 => ?_)
 · refine ix (by omega) ?_
   refine rt rfl fun _ => K_eq hK ?_
   show AV.int .i64 (hereP l n a) = AV.int .i64 ((gI l a).2.1)
   refine congrArg (AV.int .i64) ?_
   rw [hereP, if_pos h1]
 refine rt rfl fun _ => K_eq hK ?_
 show AV.int .i64 (hereP l n a) = AV.int .i64 n
 refine congrArg (AV.int .i64) ?_
 rw [hereP, if_neg (by omega)]
theorem u_fail (l : List Tok) (n a e q : Int) (f : Int) (r : Nat) (hf : 0 < f) (hl : l.length ≤ 5000) (h0 : 0 ≤ a) (ha : a ≤ l.length) (he : 0 ≤ e) (m : AMem) (gd : Gd [r] m) (K : AV → AMem → Prop) (k1 : e = 0 → K (.tuple []) (AMem.wth m [(r, .cells [.slice false (l.map tokAV), .int .i64 a, .int .i64 n, .err 72 f, .int .i64 (hereP l n a)])])) (k2 : e ≠ 0 → K (.tuple []) (AMem.wth m [(r, .cells [.slice false (l.map tokAV), .int .i64 a, .int .i64 n, .err 72 e, .int .i64 q])])) : ACalls Tryd.prog 40 [.ptr ⟨r, 0, none⟩, .err 72 f] (AMem.wth m [(r, .cells [.slice false (l.map tokAV), .int .i64 a, .int .i64 n, .err 72 e, .int .i64 q])]) K := by
 refine enter (c := cf [] [] [] [] [] [r]) (vs := [.loc 0 0, .av (.err 72 f)]) (L := [rP l n a e q]) (m := m) false tbOk Tryd.mixed Tryd.func40 rfl (k := 2) (by show fnOk [] _ _ _ = true; decide +kernel) rfl (gd.good rfl) ?_
 refine an (fun h1 => ?_) (fun h1 => ?_)
 · refine callM [0] [rP l n a e q] (vI (hereP l n a)) rfl (fun bs mm gd => u_here l n a e q (bs.getD 0 0) hl (by omega) (by omega) mm gd) ?_
   refine rt rfl fun _ => ?_
   show K (.tuple []) (AMem.wth m [(r, .cells [.slice false (l.map tokAV), .int .i64 a, .int .i64 n, .err 72 f, .int .i64 (hereP l n a)])])
   exact k1 h1
 refine rt rfl fun _ => ?_
 show K (.tuple []) (AMem.wth m [(r, .cells [.slice false (l.map tokAV), .int .i64 a, .int .i64 n, .err 72 e, .int .i64 q])])
 exact k2 h1
theorem u_is (l : List Tok) (n a e q : Int) (k : Int) (s : Str) (r : Nat) (hl : l.length ≤ 5000) (h0 : 0 ≤ a) (ha : a ≤ l.length) (he : 0 ≤ e) (m : AMem) (gd : Gd [r] m) (K : AV → AMem → Prop) (hK : K (.bool (tokE l k s a e)) (AMem.wth m [(r, .cells [.slice false (l.map tokAV), .int .i64 a, .int .i64 n, .err 72 e, .int .i64 q])])) : ACalls Tryd.prog 76 [.ptr ⟨r, 0, none⟩, .int .i64 k, .str s] (AMem.wth m [(r, .cells [.slice false (l.map tokAV), .int .i64 a, .int .i64 n, .err 72 e, .int .i64 q])]) K := by
 refine enter (c := cf [] [] [1] [] [] [r]) (vs := [.loc 0 0, .av (.int .i64 k), .av (.str s)]) (L := [rP l n a e q]) (m := m) false tbOk Tryd.mixed Tryd.func76 rfl (k := 3) (by show fnOk [] _ _ _ = true; decide +kernel) rfl (gd.good rfl) ?_
 refine mg [] 6 ((((e == 0) && (decide (a < (l.length : Int)))) && (((gI l a).1) == k)) && ((s == ([])) || (((gI l a).2.2) == s))) ?_ ?_
 · repeat' first
    | exact ⟨⟨_, rfl, by grind [SB.val]⟩, rfl⟩
    | refine an (fun _ => ?_) (fun _ => ?_)
    | refine ln ?_
    | refine ix (by omega) ?_
 refine rt rfl fun _ => K_eq hK ?_
 show AV.bool (tokE l k s a e) = AV.bool ((((e == 0) && (decide (a < (l.length : Int)))) && (((gI l a).1) == k)) && ((s == ([])) || (((gI l a).2.2) == s)))
 refine congrArg AV.bool ?_
 grind [tokE, tokB]
theorem u_eat (l : List Tok) (n a e q : Int) (k : Int) (s : Str) (r : Nat) (hl : l.length ≤ 5000) (h0 : 0 ≤ a) (ha : a ≤ l.length) (he : 0 ≤ e) (m : AMem) (gd : Gd [r] m) (K : AV → AMem → Prop) (k1 : e = 0 → tokB l k s a = true → K (.bool true) (AMem.wth m [(r, .cells [.slice false (l.map tokAV), .int .i64 (a + 1), .int .i64 n, .err 72 e, .int .i64 q])])) (k2 : (e = 0 → tokB l k s a = false) → K (.bool false) (AMem.wth m [(r, .cells [.slice false (l.map tokAV), .int .i64 a, .int .i64 n, .err 72 e, .int .i64 q])])) : ACalls Tryd.prog 88 [.ptr ⟨r, 0, none⟩, .int .i64 k, .str s] (AMem.wth m [(r, .cells [.slice false (l.map tokAV), .int .i64 a, .int .i64 n, .err 72 e, .int .i64 q])]) K := by
 refine enter (c := cf [] [] [] [] [] [r]) (vs := [.loc 0 0, .av (.int .i64 k), .av (.str s)]) (L := [rP l n a e q]) (m := m) false tbOk Tryd.mixed Tryd.func88 rfl (k := 3) (by show fnOk [] _ _ _ = true; decide +kernel) rfl (gd.good rfl) ?_
 refine sq ?_
 refine callM [0] [rP l n a e q] (vB (tokE l k s a e)) rfl (fun bs mm gd => u_is l n a e q k s (bs.getD 0 0) hl (by omega) (by omega) (by omega) mm gd) ?_
 refine an (fun h1 => ?_) (fun h1 => ?_)
 · have hj := tokE_t h1
   have hlt := tokB_lt hj.2
   refine an (by omega) ?_
   refine rt rfl fun _ => ?_
   show K (.bool true) (AMem.wth m [(r, .cells [.slice false (l.map tokAV), .int .i64 (a + 1), .int .i64 n, .err 72 e, .int .i64 q])])
   exact k1 hj.1 hj.2
 refine rt rfl fun _ => ?_
 show K (.bool false) (AMem.wth m [(r, .cells [.slice false (l.map tokAV), .int .i64 a, .int .i64 n, .err 72 e, .int .i64 q])])
 exact k2 (tokE_f h1)
theorem u_want (l : List Tok) (n a e q : Int) (k : Int) (s : Str) (r : Nat) (hl : l.length ≤ 5000) (h0 : 0 ≤ a) (ha : a ≤ l.length) (he : 0 ≤ e) (m : AMem) (gd : Gd [r] m) (K : AV → AMem → Prop) (hK : ∀ s' a' e' q', OX l (wantP l n k s a) s' a e q a' e' q' → (e' ≠ 0 → s' = []) → K (.str s') (AMem.wth m [(r, .cells [.slice false (l.map tokAV), .int .i64 a', .int .i64 n, .err 72 e', .int .i64 q'])])) : ACalls Tryd.prog 74 [.ptr ⟨r, 0, none⟩, .int .i64 k, .str s] (AMem.wth m [(r, .cells [.slice false (l.map tokAV), .int .i64 a, .int .i64 n, .err 72 e, .int .i64 q])]) K := by
 refine enter (c := cf [] [] [] [] [] [r]) (vs := [.loc 0 0, .av (.int .i64 k), .av (.str s)]) (L := [rP l n a e q]) (m := m) false tbOk Tryd.mixed Tryd.func74 rfl (k := 3) (by show fnOk [] _ _ _ = true; decide +kernel) rfl (gd.good rfl) ?_
 refine sq ?_
 refine callY 72 [0] (σ := (Unit) ⊕ (Unit)) (Sum.elim (fun _ => e = 0 ∧ tokB l k s a = true) (fun _ => e = 0 → tokB l k s a = false)) (Sum.elim (fun _ => .b (.lit true)) (fun _ => .b (.lit false))) (Sum.elim (fun _ => [rP l n (a + 1) e q]) (fun _ => [rP l n a e q])) rfl (fun x => by rcases x with _ | _ <;> rfl) (fun bs mm gd ht K hK => u_eat l n a e q k s (bs.getD 0 0) hl (by omega) (by omega) (by omega) mm gd K (fun z w => hK (.inl ()) ⟨z, w⟩) (fun z => hK (.inr ()) z)) ?_
 rintro (_ | _) hx1
 · try dsimp only [Sum.elim_inl, Sum.elim_inr] at hx1
   dsimp only [Sum.elim_inl, Sum.elim_inr]
   have ht1 := tokB_lt hx1.2
   refine an (by omega) ?_
   refine ix (by omega) ?_
   refine rt rfl fun _ => ?_
   show K (.str ((gI l ((a + 1) - 1)).2.2)) (AMem.wth m [(r, .cells [.slice false (l.map tokAV), .int .i64 (a + 1), .int .i64 n, .err 72 e, .int .i64 q])])
   rw [show a + 1 - 1 = a by omega]
   refine hK _ _ _ _ ⟨fun _ => ?_, fun z => absurd hx1.1 z, by omega, by omega, he, by omega⟩ fun z => absurd hx1.1 z
   constructor <;> grind [wantP, PR.ok]
 try dsimp only [Sum.elim_inl, Sum.elim_inr] at hx1
 dsimp only [Sum.elim_inl, Sum.elim_inr]
 refine callY 72 [0] (σ := Int × Int) (fun ⟨e_2, q_2⟩ => (e = 0 → e_2 = 5 ∧ q_2 = hereP l n a) ∧ (e ≠ 0 → e_2 = e ∧ q_2 = q) ∧ 0 < e_2) (fun ⟨e_2, q_2⟩ => .tup []) (fun ⟨e_2, q_2⟩ => [rP l n a e_2 q_2]) rfl (fun _ => rfl) (fun bs mm gd ht K hK => u_fail l n a e q 5 (bs.getD 0 0) (by decide) hl (by omega) (by omega) (by omega) mm gd K (fun z => hK (5, hereP l n a) ⟨fun _ => ⟨rfl, rfl⟩, fun y => absurd z y, by decide⟩) (fun z => hK (e, q) ⟨fun y => absurd y z, fun _ => ⟨rfl, rfl⟩, by omega⟩)) ?_
 rintro ⟨e_2, q_2⟩ hx2
 dsimp only at hx2
 obtain ⟨fa2, fb2, fc2⟩ := hx2
 refine rt rfl fun _ => ?_
 show K (.str ([])) (AMem.wth m [(r, .cells [.slice false (l.map tokAV), .int .i64 a, .int .i64 n, .err 72 e_2, .int .i64 q_2])])
 refine hK _ _ _ _ ⟨fun z => ?_, fun z => ⟨rfl, fb2 z⟩, by omega, by omega, by omega, by omega⟩ fun _ => rfl
 have hx1 := hx1 z
 constructor <;> grind [wantP, PR.bad]
theorem u_name (l : List Tok) (n a e q : Int) (r : Nat) (hl : l.length ≤ 5000) (h0 : 0 ≤ a) (ha : a ≤ l.length) (he : 0 ≤ e) (m : AMem) (gd : Gd [r] m) (K : AV → AMem → Prop) (hK : ∀ s' a' e' q', OX l (wantP l n 1 [] a) s' a e q a' e' q' → K (.str s') (AMem.wth m [(r, .cells [.slice false (l.map tokAV), .int .i64 a', .int .i64 n, .err 72 e', .int .i64 q'])])) : ACalls Tryd.prog 75 [.ptr ⟨r, 0, none⟩] (AMem.wth m [(r, .cells [.slice false (l.map tokAV), .int .i64 a, .int .i64 n, .err 72 e, .int .i64 q])]) K := by
 refine enter (c := cf [] [] [] [] [] [r]) (vs := [.loc 0 0]) (L := [rP l n a e q]) (m := m) false tbOk Tryd.mixed Tryd.func75 rfl (k := 1) (by show fnOk [] _ _ _ = true; decide +kernel) rfl (gd.good rfl) ?_
 refine callY 72 [0] (σ := Str × Int × Int × Int) (fun ⟨s_1, a_1, e_1, q_1⟩ => (OX l (wantP l n 1 ([]) a) s_1 a e q a_1 e_1 q_1) ∧ (e_1 ≠ 0 → s_1 = [])) (fun ⟨s_1, a_1, e_1, q_1⟩ => vS s_1) (fun ⟨s_1, a_1, e_1, q_1⟩ => [rP l n a_1 e_1 q_1]) rfl (fun _ => rfl) (fun bs mm gd ht K hK => u_want l n a e q 1 ([]) (bs.getD 0 0) hl (by omega) (by omega) (by omega) mm gd K (fun s_ a_ e_ q_ hh hz => hK (s_, a_, e_, q_) ⟨hh, hz⟩)) ?_
 rintro ⟨s_1, a_1, e_1, q_1⟩ hx1
 dsimp only at hx1
 obtain ⟨hx1, hz1⟩ := hx1
 have lo1 := hx1.lo
 have hi1 := hx1.hi
 have nn1 := hx1.nn
 refine rt rfl fun _ => ?_
 show K (.str s_1) (AMem.wth m [(r, .cells [.slice false (l.map tokAV), .int .i64 a_1, .int .i64 n, .err 72 e_1, .int .i64 q_1])])
 exact hK _ _ _ _ hx1
theorem u_pair (l : List Tok) (n a e q : Int) (r : Nat) (hl : l.length ≤ 5000) (h0 : 0 ≤ a) (ha : a ≤ l.length) (he : 0 ≤ e) (m : AMem) (gd : Gd [r] m) (K : AV → AMem → Prop) (hK : ∀ s' t' a' e' q', OX l (pairP l n a) (s', t') a e q a' e' q' → K (.tuple [.str s', .str t']) (AMem.wth m [(r, .cells [.slice false (l.map tokAV), .int .i64 a', .int .i64 n, .err 72 e', .int .i64 q'])])) : ACalls Tryd.prog 98 [.ptr ⟨r, 0, none⟩] (AMem.wth m [(r, .cells [.slice false (l.map tokAV), .int .i64 a, .int .i64 n, .err 72 e, .int .i64 q])]) K := by
 refine enter (c := cf [] [] [] [] [] [r]) (vs := [.loc 0 0]) (L := [rP l n a e q]) (m := m) false tbOk Tryd.mixed Tryd.func98 rfl (k := 1) (by show fnOk [] _ _ _ = true; decide +kernel) rfl (gd.good rfl) ?_
 refine callY 72 [0] (σ := Str × Int × Int × Int) (fun ⟨s_1, a_1, e_1, q_1⟩ => (OX l (wantP l n 4 ([46] : List UInt8) a) s_1 a e q a_1 e_1 q_1) ∧ (e_1 ≠ 0 → s_1 = [])) (fun ⟨s_1, a_1, e_1, q_1⟩ => vS s_1) (fun ⟨s_1, a_1, e_1, q_1⟩ => [rP l n a_1 e_1 q_1]) rfl (fun _ => rfl) (fun bs mm gd ht K hK => u_want l n a e q 4 ([46] : List UInt8) (bs.getD 0 0) hl (by omega) (by omega) (by omega) mm gd K (fun s_ a_ e_ q_ hh hz => hK (s_, a_, e_, q_) ⟨hh, hz⟩)) ?_
 rintro ⟨s_1, a_1, e_1, q_1⟩ hx1
 dsimp only at hx1
 obtain ⟨hx1, hz1⟩ := hx1
 have lo1 := hx1.lo
 have hi1 := hx1.hi
 have nn1 := hx1.nn
 refine callY 72 [0] (σ := Str × Int × Int × Int) (fun ⟨s_2, a_2, e_2, q_2⟩ => OX l (wantP l n 1 [] a_1) s_2 a_1 e_1 q_1 a_2 e_2 q_2) (fun ⟨s_2, a_2, e_2, q_2⟩ => vS s_2) (fun ⟨s_2, a_2, e_2, q_2⟩ => [rP l n a_2 e_2 q_2]) rfl (fun _ => rfl) (fun bs mm gd ht K hK => u_name l n a_1 e_1 q_1 (bs.getD 0 0) hl (by omega) (by omega) (by omega) mm gd K (fun s_ a_ e_ q_ hh => hK (s_, a_, e_, q_) hh)) ?_
 rintro ⟨s_2, a_2, e_2, q_2⟩ hx2
 dsimp only at hx2
 have lo2 := hx2.lo
 have hi2 := hx2.hi
 have nn2 := hx2.nn
 refine callY 72 [0] (σ := Str × Int × Int × Int) (fun ⟨s_3, a_3, e_3, q_3⟩ => (OX l (wantP l n 4 ([46] : List UInt8) a_2) s_3 a_2 e_2 q_2 a_3 e_3 q_3) ∧ (e_3 ≠ 0 → s_3 = [])) (fun ⟨s_3, a_3, e_3, q_3⟩ => vS s_3) (fun ⟨s_3, a_3, e_3, q_3⟩ => [rP l n a_3 e_3 q_3]) rfl (fun _ => rfl) (fun bs mm gd ht K hK => u_want l n a_2 e_2 q_2 4 ([46] : List UInt8) (bs.getD 0 0) hl (by omega) (by omega) (by omega) mm gd K (fun s_ a_ e_ q_ hh hz => hK (s_, a_, e_, q_) ⟨hh, hz⟩)) ?_
 rintro ⟨s_3, a_3, e_3, q_3⟩ hx3
 dsimp only at hx3
 obtain ⟨hx3, hz3⟩ := hx3
 have lo3 := hx3.lo
 have hi3 := hx3.hi
 have nn3 := hx3.nn
 refine callY 72 [0] (σ := Str × Int × Int × Int) (fun ⟨s_4, a_4, e_4, q_4⟩ => OX l (wantP l n 1 [] a_3) s_4 a_3 e_3 q_3 a_4 e_4 q_4) (fun ⟨s_4, a_4, e_4, q_4⟩ => vS s_4) (fun ⟨s_4, a_4, e_4, q_4⟩ => [rP l n a_4 e_4 q_4]) rfl (fun _ => rfl) (fun bs mm gd ht K hK => u_name l n a_3 e_3 q_3 (bs.getD 0 0) hl (by omega) (by omega) (by omega) mm gd K (fun s_ a_ e_ q_ hh => hK (s_, a_, e_, q_) hh)) ?_
 rintro ⟨s_4, a_4, e_4, q_4⟩ hx4
 dsimp only at hx4
 have lo4 := hx4.lo
 have hi4 := hx4.hi
 have nn4 := hx4.nn
 refine rt rfl fun _ => ?_
 show K (.tuple [.str s_2, .str s_4]) (AMem.wth m [(r, .cells [.slice false (l.map tokAV), .int .i64 a_4, .int .i64 n, .err 72 e_4, .int .i64 q_4])])
 exact hK _ _ _ _ _ (hx1.bind (hx2.bind (hx3.bind (hx4.map fun t => (s_2, t)))))
end Go.Proofs
end
section
namespace Go.Proofs
open Go Go.Aw Go.Sx
set_option maxRecDepth 100000
inductive Exp where
  | mk (kind : Int) (v : Val) (s t : Str) (a : List Exp) (n : List Str)
instance : Inhabited Exp := ⟨.mk 0 zV [] [] [] []⟩
def Exp.kind : Exp → Int | .mk k _ _ _ _ _ => k
def Exp.v : Exp → Val | .mk _ v _ _ _ _ => v
def Exp.s : Exp → Str | .mk _ _ s _ _ _ => s
def Exp.t : Exp → Str | .mk _ _ _ t _ _ => t
def Exp.a : Exp → List Exp | .mk _ _ _ _ a _ => a
def Exp.n : Exp → List Str | .mk _ _ _ _ _ n => n
mutual
def expIn : Exp → AV
  | .mk k v s t a n => .agg [.int .i64 k, .int .i64 v.kind, .int .i64 v.n, .str v.s, .slice false (v.l.map valIn), .slice false (v.f.map fldIn), .str s, .str t, .slice false (expsIn a), .slice false (n.map strAV)]
def expsIn : List Exp → List AV
  | [] => []
  | e :: r => expIn e :: expsIn r
end
theorem expsIn_eq (l : List Exp) : expsIn l = l.map expIn := by
  induction l with
  | nil => rfl
  | cons v r ih => simp only [expsIn, List.map_cons, ih]
def expTop (e : Exp) : AV := .agg [.int .i64 e.kind, .int .i64 e.v.kind, .int .i64 e.v.n, .str e.v.s, .slice false (e.v.l.map valIn), .slice false (e.v.f.map fldIn), .str e.s, .str e.t, .slice false (e.a.map expIn), .slice false (e.n.map strAV)]
theorem expIn_eq (e : Exp) : expIn e = expTop e := by
  cases e with
  | mk k v s t a n => simp only [expIn, expTop, expsIn_eq, Exp.kind, Exp.v, Exp.s, Exp.t, Exp.a, Exp.n]
mutual
def depE : Exp → Nat
  | .mk _ _ _ _ a _ => depEL a + 1
def depEL : List Exp → Nat
  | [] => 0
  | e :: r => depE e + depEL r
end
theorem depEL_mem {l : List Exp} {e : Exp} (h : e ∈ l) : depE e ≤ depEL l := by
  induction l with
  | nil => cases h
  | cons a r ih =>
    simp only [depEL]
    rcases List.mem_cons.1 h with rfl | h
    · omega
    · have := ih h; omega
theorem depE_eq (e : Exp) : depE e = depEL e.a + 1 := by
  cases e with
  | mk k v s t a n => simp only [depE, Exp.a]
theorem depE_mem {e x : Exp} (h : x ∈ e.a) : depE x < depE e := by
  have := depEL_mem h
  rw [depE_eq e]; omega
mutual
def okE : Exp → Prop
  | .mk _ v _ _ a _ => (okV v ∧ a.length ≤ 837723144972) ∧ okEL a
def okEL : List Exp → Prop
  | [] => True
  | e :: r => okE e ∧ okEL r
end
theorem okEL_iff (l : List Exp) : okEL l ↔ ∀ e ∈ l, okE e := by
  induction l with
  | nil => simp [okEL]
  | cons v r ih => simp [okEL, ih]
theorem okE_iff (e : Exp) : okE e ↔ (okV e.v ∧ e.a.length ≤ 837723144972) ∧ ∀ x ∈ e.a, okE x := by
  cases e with
  | mk k v s t a n => simp only [okE, okEL_iff, Exp.v, Exp.a]
def namesL (most : Int) : List Str → Int → Int
  | [], n => n
  | s :: r, n => if n ≤ most then namesL most r (IntKind.i64.wrap (n + s.length)) else n
mutual
def loadE (most : Int) : Exp → Int
  | .mk _ v s t a ns => loadL most a (namesL most ns (IntKind.i64.wrap (IntKind.i64.wrap (1 + s.length + t.length + weightV most v) + ns.length)))
def loadL (most : Int) : List Exp → Int → Int
  | [], n => n
  | e :: r, n => if n ≤ most then loadL most r (IntKind.i64.wrap (n + loadE most e)) else n
end
def loadN (most : Int) (e : Exp) : Int := IntKind.i64.wrap (IntKind.i64.wrap (1 + e.s.length + e.t.length + weightV most e.v) + e.n.length)
theorem loadE_eq (most : Int) (e : Exp) : loadE most e = loadL most e.a (namesL most e.n (loadN most e)) := by
  cases e with
  | mk k v s t a n => simp only [loadE, loadN, Exp.a, Exp.n, Exp.s, Exp.t, Exp.v]
theorem loadL_stop (most : Int) (l : List Exp) (n : Int) (h : most < n) : loadL most l n = n := by
  cases l with
  | nil => simp only [loadL]
  | cons v r => simp only [loadL]; rw [if_neg (by omega)]
theorem namesL_stop (most : Int) (l : List Str) (n : Int) (h : most < n) : namesL most l n = n := by
  cases l with
  | nil => simp only [namesL]
  | cons v r => simp only [namesL]; rw [if_neg (by omega)]
theorem namesL_drop {most : Int} {l : List Str} {i n : Int} (h0 : 0 ≤ i) (hi : i < l.length) (hn : n ≤ most) : namesL most (l.drop i.toNat) n = namesL most (l.drop (i + 1).toNat) (IntKind.i64.wrap (n + (gI l i).length)) := by
  rw [drop_gI h0 hi, namesL, if_pos hn]
theorem loadL_drop {most : Int} {l : List Exp} {i n : Int} (h0 : 0 ≤ i) (hi : i < l.length) (hn : n ≤ most) : loadL most (l.drop i.toNat) n = loadL most (l.drop (i + 1).toNat) (IntKind.i64.wrap (n + loadE most (gI l i))) := by
  rw [drop_gI h0 hi, loadL, if_pos hn]
def zE : Exp := .mk 0 zV [] [] [] []
def litE (v : Val) : Exp := .mk 1 v [] [] [] []
def TokOk (l : List Tok) : Prop := ∀ t ∈ l, t.1 = 2 → t.2.2 ≠ [] ∧ t.2.2.length ≤ 10 ∧ ∀ c ∈ t.2.2, 48 ≤ c.toNat ∧ c.toNat ≤ 57
theorem dec_dig : ∀ (s : Str) (acc : Nat), (∀ c ∈ s, 48 ≤ c.toNat ∧ c.toNat ≤ 57) → ∃ n, Lib.decFrom acc s = some n ∧ n < (acc + 1) * 10 ^ s.length
  | [], acc, _ => ⟨acc, rfl, by simp⟩
  | c :: r, acc, h => by
    have hc := h c (List.mem_cons_self ..)
    obtain ⟨n, h1, h2⟩ := dec_dig r (acc * 10 + (c.toNat - 48)) fun x hx => h x (List.mem_cons_of_mem _ hx)
    refine ⟨n, by simp only [Lib.decFrom, Lib.digitVal, if_pos hc]; exact h1, Nat.lt_of_lt_of_le h2 ?_⟩
    rw [List.length_cons, Nat.pow_succ, Nat.mul_comm (10 ^ r.length) 10, ← Nat.mul_assoc]
    exact Nat.mul_le_mul_right _ (by omega)
theorem atoi_dig {s : Str} (h0 : s ≠ []) (h : ∀ c ∈ s, 48 ≤ c.toNat ∧ c.toNat ≤ 57) : Lib.atoi s = (Lib.decFrom 0 s).map fun (m : Nat) => (m : Int) := by
  cases s with
  | nil => exact absurd rfl h0
  | cons c r =>
    have hc := h c (List.mem_cons_self ..)
    have h1 : (c == 45) = false := by
      rw [beq_eq_false_iff_ne]; rintro rfl; exact absurd hc.1 (by decide)
    have h2 : (c == 43) = false := by
      rw [beq_eq_false_iff_ne]; rintro rfl; exact absurd hc.1 (by decide)
    simp only [Lib.atoi, h1, h2, Lib.decNat, List.isEmpty_cons, Bool.false_eq_true, if_false]
def decV (s : Str) : Int := (Lib.atoi s).getD 0
theorem decV_dig {s : Str} (h0 : s ≠ []) (hl : s.length ≤ 10) (h : ∀ c ∈ s, 48 ≤ c.toNat ∧ c.toNat ≤ 57) : 0 ≤ decV s ∧ decV s < 10000000000 ∧ ∃ n : Nat, Lib.decFrom 0 s = some n ∧ decV s = n ∧ Lib.atoi s = some (n : Int) := by
  obtain ⟨n, h1, h2⟩ := dec_dig s 0 h
  have e := atoi_dig h0 h
  rw [h1, Option.map_some] at e
  have h3 : 10 ^ s.length ≤ 10 ^ 10 := Nat.pow_le_pow_right (by decide) hl
  have : n < 10000000000 := by
    have : (10 : Nat) ^ 10 = 10000000000 := by decide
    omega
  refine ⟨by rw [decV, e]; simp, by rw [decV, e]; simp; omega, n, h1, by rw [decV, e]; rfl, e⟩
theorem tok_gI {l : List Tok} {s : Str} {a : Int} (hw : TokOk l) (h0 : 0 ≤ a) (h : tokB l 2 s a = true) : (gI l a).2.2 ≠ [] ∧ (gI l a).2.2.length ≤ 10 ∧ ∀ c ∈ (gI l a).2.2, 48 ≤ c.toNat ∧ c.toNat ≤ 57 := by
  have hlt := tokB_lt h
  refine hw _ (gI_mem h0 hlt) ?_
  simp only [tokB, Bool.and_eq_true, beq_iff_eq] at h
  exact h.1.2
def numP (l : List Tok) (n sg a : Int) : PR Exp :=
  if tokB l 2 [] a = true then (if 1000000000 < decV (gI l a).2.2 ∨ (sg < 0 ∧ decV (gI l a).2.2 = 0) then .bad 1 (hereP l n a) else .ok (litE (.mk 1 (sg * decV (gI l a).2.2) [] [] [])) (a + 1)) else .bad 5 (hereP l n a)
theorem want_num {l : List Tok} {s : Str} {n a e q a1 e1 q1 : Int} (hw : TokOk l) (h0 : 0 ≤ a) (hz : e = 0) (o : OX l (wantP l n 2 [] a) s a e q a1 e1 q1) (hs : e1 ≠ 0 → s = []) :
    (s.length ≤ 18 ∧ ∀ n, Lib.atoi s = some n → -9223372036854775808 ≤ n ∧ n ≤ 9223372036854775807) ∧ (0 ≤ decV s ∧ decV s < 10000000000) ∧ ((e1 = 0 ∧ tokB l 2 [] a = true ∧ s = (gI l a).2.2 ∧ a1 = a + 1) ∨ (e1 = 5 ∧ q1 = hereP l n a ∧ tokB l 2 [] a = false ∧ s = [])) := by
  have h := o.ok hz
  cases ht : tokB l 2 [] a with
  | true =>
    rw [wantP, if_pos ht] at h
    have e0 : e1 = 0 := h.f
    obtain ⟨h1, h2⟩ := h.y e0
    have h1 : s = (gI l a).2.2 := h1
    have h2 : a1 = a + 1 := h2
    subst h1
    obtain ⟨t1, t2, t3⟩ := tok_gI hw h0 ht
    obtain ⟨d1, d2, k, d3, d4, d5⟩ := decV_dig t1 t2 t3
    refine ⟨⟨by omega, fun m hm => ?_⟩, ⟨d1, d2⟩, .inl ⟨e0, rfl, rfl, h2⟩⟩
    rw [d5] at hm
    obtain rfl := Option.some.inj hm
    omega
  | false =>
    rw [wantP, if_neg (by rw [ht]; decide)] at h
    have e0 : e1 = 5 := h.f
    have h1 : q1 = hereP l n a := h.z (by omega)
    obtain rfl := hs (by omega)
    exact ⟨⟨by simp, fun m hm => by cases hm⟩, by decide, .inr ⟨e0, h1, rfl, rfl⟩⟩
theorem u_Atoi (s : Str) (hs : s.length ≤ 18) (hb : ∀ n, Lib.atoi s = some n → -9223372036854775808 ≤ n ∧ n ≤ 9223372036854775807) (m : AMem) (hT : Tabs m) (K : AV → AMem → Prop) (hK : K (.tuple [.int .i64 (decV s), .opt (Lib.atoi s).isNone]) m) : ACalls Tryd.prog 97 [.str s] m K :=
  have ⟨_, _, _, _, _, _, _, hT⟩ := hT
  atoi_calls ⟨_, Tryd.func97, rfl, by kernel_rfl⟩ (fun s n h1 h2 w => Tryd.strconv_Atoi s n h1 h2 w) (fun s h1 h2 ev w h3 h4 => (Tryd.strconv_Atoi_err s h1 h2 ev w h3 h4).mono fun e w' ⟨N, h5, _, _, h6⟩ => ⟨N, h5, h6⟩) hs hb hT hK
set_option maxHeartbeats 1000000 in
theorem u_number (l : List Tok) (n a e q : Int) (sg : Int) (r : Nat) (hl : l.length ≤ 5000) (h0 : 0 ≤ a) (ha : a ≤ l.length) (he : 0 ≤ e) (hw : TokOk l) (hsg : sg = 1 ∨ sg = -1) (hz : e = 0) (b : Int) (hb0 : 0 ≤ b) (hb : b ≤ a) (hb1 : sg < 0 → b + 1 ≤ a) (m : AMem) (gd : Gd [r] m) (K : AV → AMem → Prop) (hT : Tabs m) (hK : ∀ x' a' e' q', OX l (numP l n sg a) x' b e q a' e' q' → K (expTop x') (AMem.wth m [(r, .cells [.slice false (l.map tokAV), .int .i64 a', .int .i64 n, .err 72 e', .int .i64 q'])])) : ACalls Tryd.prog 91 [.ptr ⟨r, 0, none⟩, .int .i64 sg] (AMem.wth m [(r, .cells [.slice false (l.map tokAV), .int .i64 a, .int .i64 n, .err 72 e, .int .i64 q])]) K := by
 refine enter (c := cf [] [] [2] [] [] [r]) (vs := [.loc 0 0, .av (.int .i64 sg)]) (L := [rP l n a e q]) (m := m) false tbOk Tryd.mixed Tryd.func91 rfl (k := 2) (by show fnOk [] _ _ _ = true; decide +kernel) rfl (gd.good rfl) ?_
 refine callY 72 [0] (σ := Str × Int × Int × Int) (fun ⟨s_1, a_1, e_1, q_1⟩ => (OX l (wantP l n 2 ([]) a) s_1 a e q a_1 e_1 q_1) ∧ (e_1 ≠ 0 → s_1 = [])) (fun ⟨s_1, a_1, e_1, q_1⟩ => vS s_1) (fun ⟨s_1, a_1, e_1, q_1⟩ => [rP l n a_1 e_1 q_1]) rfl (fun _ => rfl) (fun bs mm gd ht K hK => u_want l n a e q 2 ([]) (bs.getD 0 0) hl (by omega) (by omega) (by omega) mm gd K (fun s_ a_ e_ q_ hh hz => hK (s_, a_, e_, q_) ⟨hh, hz⟩)) ?_
 rintro ⟨s_1, a_1, e_1, q_1⟩ hx1
 dsimp only at hx1
 obtain ⟨hx1, hz1⟩ := hx1
 have lo1 := hx1.lo
 have hi1 := hx1.hi
 have nn1 := hx1.nn
 obtain ⟨hsl, hdv, hcs⟩ := want_num hw h0 hz hx1 hz1
 refine callT [] [] (.av (.tuple [.int .i64 (decV s_1), .opt ((Lib.atoi s_1).isNone)])) rfl (fun bs mm gd ht => fun K hK => u_Atoi s_1 hsl.1 hsl.2 mm (Tabs.up ht hT) K hK) ?_
 refine sq ?_
 refine mg [0, 1, 4, 5] 22 ((decide (1000000000 < decV s_1)) || ((decide (sg < 0)) && ((decV s_1) == 0))) ?_ ?_
 · repeat' first
    | exact ⟨⟨_, rfl, by grind [SB.val]⟩, rfl⟩
    | refine an (fun _ => ?_) (fun _ => ?_)
 refine an (fun h1 => ?_) (fun h1 => ?_)
 · replace h1 : (1000000000 < decV s_1) ∨ ((sg < 0) ∧ (decV s_1 = 0)) := ((borT h1).imp (fun q => (of_decide_eq_true q)) (fun q => ⟨(of_decide_eq_true (bandL q)), (eq_of_beq (bandR q))⟩))
   have hlow : b ≤ a_1 - 1 := by
     rcases hcs with ⟨_, _, _, c4⟩ | ⟨_, _, _, c4⟩
     · omega
     · have : decV s_1 = 0 := by rw [c4]; rfl
       omega
   refine an (by rcases hsg with h | h <;> subst h <;> omega) ?_
   refine callY 72 [0] (σ := Int × Int) (fun ⟨e_2, q_2⟩ => (e_1 = 0 → e_2 = 1 ∧ q_2 = hereP l n (a_1 - 1)) ∧ (e_1 ≠ 0 → e_2 = e_1 ∧ q_2 = q_1) ∧ 0 < e_2) (fun ⟨e_2, q_2⟩ => .tup []) (fun ⟨e_2, q_2⟩ => [rP l n (a_1 - 1) e_2 q_2]) rfl (fun _ => rfl) (fun bs mm gd ht K hK => u_fail l n (a_1 - 1) e_1 q_1 1 (bs.getD 0 0) (by decide) hl (by omega) (by omega) (by omega) mm gd K (fun z => hK (1, hereP l n (a_1 - 1)) ⟨fun _ => ⟨rfl, rfl⟩, fun y => absurd z y, by decide⟩) (fun z => hK (e_1, q_1) ⟨fun y => absurd y z, fun _ => ⟨rfl, rfl⟩, by omega⟩)) ?_
   rintro ⟨e_2, q_2⟩ hx2
   dsimp only at hx2
   obtain ⟨fa2, fb2, fc2⟩ := hx2
   refine an (by rcases hsg with h | h <;> subst h <;> omega) ?_
   refine rt rfl fun _ => ?_
   show K (.agg [.int .i64 1, .int .i64 1, .int .i64 (sg * (decV s_1)), .str ([]), .slice false [], .slice false [], .str ([]), .str ([]), .slice false [], .slice false []]) (AMem.wth m [(r, .cells [.slice false (l.map tokAV), .int .i64 (a_1 - 1), .int .i64 n, .err 72 e_2, .int .i64 q_2])])
   rcases hcs with ⟨c1, c2, c3, c4⟩ | ⟨c1, c2, c3, c4⟩
   · obtain ⟨rfl, rfl⟩ := fa2 c1
     refine hK (litE (.mk 1 (sg * decV s_1) [] [] [])) _ _ _ ⟨fun _ => ?_, fun h => absurd hz h, by omega, by omega, by decide, fun h => by cases h⟩
     rw [show a_1 - 1 = a by omega]
     constructor <;> grind [numP, PR.bad]
   · obtain ⟨rfl, rfl⟩ := fb2 (by omega)
     refine hK (litE (.mk 1 (sg * decV s_1) [] [] [])) _ _ _ ⟨fun _ => ?_, fun h => absurd hz h, by omega, by omega, by omega, fun h => by omega⟩
     constructor <;> grind [numP, PR.bad]
 replace h1 : (decV s_1 ≤ 1000000000) ∧ ((0 ≤ sg) ∨ (decV s_1 ≠ 0)) := ⟨(Int.not_lt.1 (of_decide_eq_false (borL h1))), ((bandF (borR h1)).imp (fun q => (Int.not_lt.1 (of_decide_eq_false q))) (fun q => (ne_of_beq_false q)))⟩
 refine an (by rcases hsg with h | h <;> subst h <;> omega) ?_
 refine rt rfl fun _ => ?_
 show K (.agg [.int .i64 1, .int .i64 1, .int .i64 (sg * (decV s_1)), .str ([]), .slice false [], .slice false [], .str ([]), .str ([]), .slice false [], .slice false []]) (AMem.wth m [(r, .cells [.slice false (l.map tokAV), .int .i64 a_1, .int .i64 n, .err 72 e_1, .int .i64 q_1])])
 rcases hcs with ⟨c1, c2, c3, c4⟩ | ⟨c1, c2, c3, c4⟩
 · refine hK (litE (.mk 1 (sg * decV s_1) [] [] [])) _ _ _ ⟨fun _ => ?_, fun h => absurd hz h, by omega, by omega, by omega, fun h => by omega⟩
   constructor <;> grind [numP, PR.ok]
 · refine hK (litE (.mk 1 (sg * decV s_1) [] [] [])) _ _ _ ⟨fun _ => ?_, fun h => absurd hz h, by omega, by omega, by omega, fun h => by omega⟩
   constructor <;> grind [numP, PR.bad]
end Go.Proofs
end
