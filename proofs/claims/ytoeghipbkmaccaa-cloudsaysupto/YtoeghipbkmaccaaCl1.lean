/-
  DERIVED: THE SHELF's CONTRACTS AT THIS DUMP, IN PLAIN WORDS (printed by the kit's lay-plain): THE SAME DECLARATIONS UNDER THE SAME NAMES: 'import', 'namespace', 'open', 'def', 'theorem' AND NOTHING ELSE: no command of the shelf's: FOR A HAND-IN. Each laying: the table of numbers ('.._ren') and one theorem, a field a fact of the dump's own or the kernel's comparison; each contract: ONE APPLICATION.
-/
import Derived.Test.YtoeghipbkmaccaaProg
import Derived.Test.YtoeghipbkmaccaaVa1
import Derived.Test.YtoeghipbkmaccaaWxx
import Derived.Shelf.SlSortCmp.WholeK
import Derived.Shelf.SlSortCmp.NoneTotal
section
namespace Go.Proofs
open Go Go.Aw
set_option maxRecDepth 100000
def zV : Val := .mk 0 0 [] [] []
theorem Val.ext' {a b : Val} (h1 : a.kind = b.kind) (h2 : a.n = b.n) (h3 : a.s = b.s) (h4 : a.l = b.l) (h5 : a.f = b.f) : a = b := by
  cases a; cases b; simp only [Val.kind, Val.n, Val.s, Val.l, Val.f] at h1 h2 h3 h4 h5; subst h1 h2 h3 h4 h5; rfl
noncomputable def vEq (a b : Val) : Bool := @decide (a = b) (Classical.propDecidable _)
theorem vEq_true {a b : Val} (h : a = b) : vEq a b = true := by simp [vEq, h]
theorem vEq_false {a b : Val} (h : a ≠ b) : vEq a b = false := by simp [vEq, h]
theorem vEq_iff {a b : Val} : vEq a b = true ↔ a = b := by simp [vEq]
def cntL {α : Type} (g : α → Int → Bool × Int) : List α → Int → Bool × Int
  | [], n => (true, n)
  | x :: r, n => if (g x n).1 = true then cntL g r (g x n).2 else (false, (g x n).2)
def cntF : Nat → Int → Val → Int → Bool × Int
  | 0, _, _, n => (false, n)
  | k + 1, deep, v, n =>
    if 6 < deep ∨ n - 1 < 0 then (false, n - 1)
    else if (cntL (cntF k (deep + 1)) v.l (n - 1)).1 = false then (false, (cntL (cntF k (deep + 1)) v.l (n - 1)).2)
    else cntL (fun p => cntF k (deep + 1) p.2) v.f (cntL (cntF k (deep + 1)) v.l (n - 1)).2
def sumN {α : Type} (g : α → Nat) : List α → Nat
  | [] => 0
  | x :: r => g x + sumN g r
theorem sumN_l (l : List Val) : sumN depV l = depL l := by
  induction l with
  | nil => rfl
  | cons v r ih => simp only [sumN, depL, ih]
theorem sumN_f (l : List (Str × Val)) : sumN (fun p => depV p.2) l = depF l := by
  induction l with
  | nil => rfl
  | cons p r ih =>
    obtain ⟨s, v⟩ := p
    cases v with
    | mk k n t l f => simp only [sumN, depF, ih, depV]
theorem cntL_ok {α : Type} {g : α → Int → Bool × Int} {d : α → Nat} (hg : ∀ x n, 0 ≤ n → (g x n).1 = true → 0 ≤ (g x n).2 ∧ (g x n).2 + d x = n) : ∀ (l : List α) (n : Int), 0 ≤ n → (cntL g l n).1 = true → 0 ≤ (cntL g l n).2 ∧ (cntL g l n).2 + sumN d l = n
  | [], n, h0, _ => by simp [cntL, sumN, h0]
  | x :: r, n, h0, h => by
    rw [cntL] at h ⊢
    split at h
    · rename_i h1
      have h2 := hg x n h0 h1
      have h3 := cntL_ok hg r _ h2.1 h
      rw [if_pos h1, sumN]
      exact ⟨h3.1, by push_cast; omega⟩
    · cases h
theorem cntF_ok : ∀ (k : Nat) (deep : Int) (v : Val) (n : Int), 0 ≤ n → (cntF k deep v n).1 = true → 0 ≤ (cntF k deep v n).2 ∧ (cntF k deep v n).2 + depV v = n
  | 0, _, _, _, _, h => by simp [cntF] at h
  | k + 1, deep, v, n, h0, h => by
    rw [cntF] at h ⊢
    split at h
    · cases h
    · rename_i h1
      rw [if_neg h1]
      split at h
      · cases h
      · rename_i h2
        rw [if_neg h2]
        have h3 : (cntL (cntF k (deep + 1)) v.l (n - 1)).1 = true := by simpa using h2
        have a := cntL_ok (d := depV) (g := cntF k (deep + 1)) (fun x n hn hx => cntF_ok k (deep + 1) x n hn hx) v.l (n - 1) (by omega) h3
        have b := cntL_ok (d := fun p : Str × Val => depV p.2) (g := fun p => cntF k (deep + 1) p.2) (fun x n hn hx => cntF_ok k (deep + 1) x.2 n hn hx) v.f _ a.1 h
        rw [sumN_l] at a
        rw [sumN_f] at b
        have e := depV_eq v
        exact ⟨b.1, by omega⟩
def recOk : Option Str → List (Str × Val) → Bool
  | _, [] => true
  | p, f :: r => nameV f.1 && (match p with | none => true | some s => Op.bytesLess s f.1) && recOk (some f.1) r
def shpOk (v : Val) : Bool :=
  if v.kind = 0 then ((v.n == 0) && (v.s == [])) && ((v.l.length : Int) + (v.f.length : Int) == 0)
  else if v.kind = 1 then ((decide (-1000000000 ≤ v.n) && decide (v.n ≤ 1000000000)) && (v.s == [])) && ((v.l.length : Int) + (v.f.length : Int) == 0)
  else if v.kind = 2 then ((v.n == 0) && decide ((v.s.length : Int) ≤ 40)) && ((v.l.length : Int) + (v.f.length : Int) == 0)
  else if v.kind = 3 then (((v.n == 0) || (v.n == 1)) && (v.s == [])) && ((v.l.length : Int) + (v.f.length : Int) == 0)
  else if v.kind = 4 then ((v.n == 0) && (v.s == [])) && ((v.f.length : Int) == 0)
  else if v.kind = 5 then (((v.n == 0) && (v.s == [])) && ((v.l.length : Int) == 0)) && recOk none v.f
  else false
def shpF : Nat → Val → Bool
  | 0, _ => false
  | k + 1, v => shpOk v && v.l.all (shpF k) && v.f.all (fun p => shpF k p.2)
def shE (b : Bool) : Int := if b = true then 0 else 3
def chk (v : Val) : Int := if (cntF (depV v + 1) 1 v 60).1 = true then shE (shpF (depV v + 1) v) else 2
def prevN (l : List (Str × Val)) (i : Int) : Option Str := if i = 0 then none else some (gI l (i - 1)).1
theorem recOk_cons (p : Option Str) (f : Str × Val) (r : List (Str × Val)) : recOk p (f :: r) = (nameV f.1 && (match p with | none => true | some s => Op.bytesLess s f.1) && recOk (some f.1) r) := by cases p <;> rfl
theorem recOk_step {l : List (Str × Val)} {i : Int} (h0 : 0 ≤ i) (hi : i < l.length) : recOk (prevN l i) (l.drop i.toNat) = (nameV (gI l i).1 && ((i == 0) || Op.bytesLess (gI l (i - 1)).1 (gI l i).1) && recOk (prevN l (i + 1)) (l.drop (i + 1).toNat)) := by
  have e : prevN l (i + 1) = some (gI l i).1 := by rw [prevN, if_neg (by omega)]; congr 2; congr 1; omega
  rw [drop_gI h0 hi, recOk_cons, e, prevN]
  by_cases h : i = 0
  · simp [h]
  · have : (i == 0) = false := by simpa using h
    rw [if_neg h, this, Bool.false_or]
theorem cntL_drop {α : Type} [Inhabited α] {g : α → Int → Bool × Int} {l : List α} {i n : Int} (h0 : 0 ≤ i) (hi : i < l.length) : cntL g (l.drop i.toNat) n = if (g (gI l i) n).1 = true then cntL g (l.drop (i + 1).toNat) (g (gI l i) n).2 else (false, (g (gI l i) n).2) := by
  rw [drop_gI h0 hi, cntL]
theorem all_drop {α : Type} [Inhabited α] {g : α → Bool} {l : List α} {i : Int} (h0 : 0 ≤ i) (hi : i < l.length) : (l.drop i.toNat).all g = (g (gI l i) && (l.drop (i + 1).toNat).all g) := by
  rw [drop_gI h0 hi, List.all_cons]
theorem mget_drop {κ ν : Type} [DecidableEq κ] [Inhabited κ] [Inhabited ν] {l : List (κ × ν)} {k : κ} {i : Int} (h0 : 0 ≤ i) (hi : i < l.length) : mget (l.drop i.toNat) k = if (gI l i).1 = k then some (gI l i).2 else mget (l.drop (i + 1).toNat) k := by
  rw [drop_gI h0 hi]; rfl
theorem cntF_l {k : Nat} {deep n x : Int} {v : Val} (h : ¬(6 < deep ∨ n - 1 < 0)) (e : cntL (cntF k (deep + 1)) v.l (n - 1) = (false, x)) : cntF (k + 1) deep v n = (false, x) := by
  rw [cntF, if_neg h, e, if_pos rfl]
theorem cntF_f {k : Nat} {deep n x : Int} {v : Val} (h : ¬(6 < deep ∨ n - 1 < 0)) (e : cntL (cntF k (deep + 1)) v.l (n - 1) = (true, x)) : cntF (k + 1) deep v n = cntL (fun p => cntF k (deep + 1) p.2) v.f x := by
  rw [cntF, if_neg h, e, if_neg (by simp)]
theorem shE_t {b : Bool} (h : shE b = 0) : b = true := by cases b <;> first | rfl | simp [shE] at h
theorem shE_f {b : Bool} (h : shE b ≠ 0) : b = false := by cases b <;> first | rfl | simp [shE] at h
theorem shE_1 {k : Nat} {v : Val} (h : shpOk v = false) : shE (shpF (k + 1) v) = 3 := by rw [shpF, h]; rfl
theorem shE_2 {k : Nat} {v : Val} (h : v.l.all (shpF k) = false) : shE (shpF (k + 1) v) = 3 := by rw [shpF, h]; simp [shE]
theorem shE_3 {k : Nat} {v : Val} (h : v.f.all (fun p => shpF k p.2) = false) : shE (shpF (k + 1) v) = 3 := by rw [shpF, h]; simp [shE]
theorem shE_0 {k : Nat} {v : Val} (h1 : shpOk v = true) (h2 : v.l.all (shpF k) = true) (h3 : v.f.all (fun p => shpF k p.2) = true) : shE (shpF (k + 1) v) = 0 := by rw [shpF, h1, h2, h3]; rfl
set_option maxHeartbeats 4000000 in
theorem u_count1 (k : Nat) (v : Val) (deep n : Int) (p : Nat) (ih : ∀ (w : Val) (deep n : Int), depV w < k → 1 ≤ deep → deep ≤ 7 → 0 ≤ n → n ≤ 60 → ∀ (b : Nat) (m : AMem) (K : AV → AMem → Prop), K (.bool (cntF k deep w n).1) (mW m [(b, .cells [iT (cntF k deep w n).2])]) → ACalls Try.prog 99 [valTop w, iT deep, pT b] (mW m [(b, .cells [iT n])]) K) (hd : depV v < k + 1) (hd1 : 1 ≤ deep) (hd7 : deep ≤ 7) (hn0 : 0 ≤ n) (hn6 : n ≤ 60) (m : AMem)  (K : AV → AMem → Prop) (hK : K (.bool (cntF (k + 1) deep v n).1) (mW m [(p, .cells [iT (cntF (k + 1) deep v n).2])])) : ACalls Try.prog 99 [valTop v, iT deep, pT p] (mW m [(p, .cells [iT n])]) K := by
 refine acalls_enter Try.func99 rfl (by decide) (nB rfl) ?_
 refine awp_bd 0 (x := valTop v) rfl (fun hbd0 => ?_)
 have hbd0_2 : v.s.length ≤ 140737488355328 := (hbd0 2 (nB rfl))
 have hbd0_3 : v.l.length ≤ 140737488355328 := bd_map (hbd0 3 (nB rfl))
 have hbd0_4 : v.f.length ≤ 140737488355328 := bd_map (hbd0 4 (nB rfl))
 show AWP _ _ _ _ [(0, valTop v), (1, iT deep), (2, pT p)] (mW m [(p, .cells [iT n])])
 refine rS [] [1, 2, 3] (by decide) ?_
 intro K1 hK1
 refine ar_box rfl (m := m) (L := [(p, .cells [iT n])]) (v := valTop v) (by rfl) rfl ?_
 intro b1 hb1
 have hFb1 : m b1 = none := wth_none hb1
 have hNb1 : ([b1, p] : List Nat).Nodup := wth_nodup hb1 (nodup_1 p)
 refine ⟨tv, ?_⟩
 show K1 [(1, iT deep), (2, pT p), (3, pT b1)] (mW m [(b1, .cells [iT v.kind, iT v.n, .str v.s, sF (v.l.map valIn), sF (v.f.map fldIn)]), (p, .cells [iT n])])
 refine hK1 _ _ ?_; clear hK1 K1
 refine rS [] [1, 2, 3] (by decide) ?_
 intro K1 hK1
 refine ⟨tv, tv, ?_⟩
 refine aL rfl (v := iT n) rfl (wG 1 hNb1 rfl) rfl (aO rfl rfl (nB rfl)) rfl ?_
 refine ar_sub rfl (a := n) (b := 1) rfl rfl (by omega) (by omega) ?_
 refine ⟨tv, ?_⟩
 refine aS rfl 1 (v := iT (n - 1)) (l' := [iT (n - 1)]) rfl rfl hNb1 rfl rfl rfl rfl rfl (nB rfl) rfl ?_
 show K1 [(1, iT deep), (2, pT p), (3, pT b1)] (mW m [(b1, .cells [iT v.kind, iT v.n, .str v.s, sF (v.l.map valIn), sF (v.f.map fldIn)]), (p, .cells [iT (n - 1)])])
 refine hK1 _ _ ?_; clear hK1 K1
 refine sK ?_; intro K2 hK2
 refine rS [] [1, 2, 3, 23] (by decide) ?_
 intro K1 hK1
 suffices key : K1 [(1, iT deep), (2, pT p), (3, pT b1), (23, .bool ((decide (6 < deep)) || (decide (n - 1 < 0))))] (mW m [(b1, .cells [iT v.kind, iT v.n, .str v.s, sF (v.l.map valIn), sF (v.f.map fldIn)]), (p, .cells [iT (n - 1)])]) by
  refine ⟨tv, tv, tv, ?_⟩
  show aopsR _ _ _ _ _ [(18, .bool (decide (6 < deep))), (17, .bool (decide (6 < deep))), (16, iT deep), (1, iT deep), (2, pT p), (3, pT b1)] _
  revert key
  cases h1 : (decide (6 < deep))
  ·
   replace h1 : deep ≤ 6 := (Int.not_lt.1 (of_decide_eq_false h1))
   intro key
   refine ⟨tv, tv, ?_⟩
   refine aL rfl (v := iT (n - 1)) rfl (wG 1 hNb1 rfl) rfl (aO rfl rfl (nB rfl)) rfl ?_
   refine ⟨tv, ?_⟩
   exact key
  ·
   replace h1 : 6 < deep := (of_decide_eq_true h1)
   intro key
   refine ar_off rfl (ar_off rfl (ar_off rfl (ar_off rfl ?_)))
   exact key
 refine hK1 _ _ ?_; clear hK1 K1
 refine cD rfl rfl (fun h2 => ?_) (fun h2 => ?_)
 ·
  replace h2 : (6 < deep) ∨ (n - 1 < 0) := ((borT h2).imp (fun q => (of_decide_eq_true q)) (fun q => (of_decide_eq_true q)))
  refine rS [] [6] (by decide) ?_
  intro K1 hK1
  refine ⟨tv, ?_⟩
  show K1 [(6, .bool false)] (mW m [(b1, .cells [iT v.kind, iT v.n, .str v.s, sF (v.l.map valIn), sF (v.f.map fldIn)]), (p, .cells [iT (n - 1)])])
  refine hK1 _ _ ?_; clear hK1 K1
  refine awp_ret ?_
  refine ⟨tv, (mW m [(p, .cells [iT (n - 1)])]), (wth_sub2 (m := m) [(b1, .cells [iT v.kind, iT v.n, .str v.s, sF (v.l.map valIn), sF (v.f.map fldIn)])] [(p, .cells [iT (n - 1)])] hNb1 (by simp only [List.map_cons, List.map_nil, List.forall_mem_cons]; exact ⟨hFb1, nfA⟩)), ?_⟩
  show K (.bool false) (AMem.wth m [(p, .cells [iT (n - 1)])])
 
  rw [cntF, if_pos (by omega)] at hK; exact hK
 replace h2 : (deep ≤ 6) ∧ (0 ≤ n - 1) := ⟨(Int.not_lt.1 (of_decide_eq_false (borL h2))), (Int.not_lt.1 (of_decide_eq_false (borR h2)))⟩
 refine awp_skip ?_
 refine hK2 _ _ ?_; clear hK2
 refine sK ?_; intro K3 hK3
 refine rS [] [1, 2, 3, 25, 26, 27] (by decide) ?_
 intro K1 hK1
 refine ⟨⟨rfl, by decide⟩, ?_⟩
 refine aL rfl (v := sF (v.l.map valIn)) rfl (wG 0 hNb1 rfl) rfl (aO rfl rfl (nB rfl)) rfl ?_
 refine ar_len rfl valIn v.l rfl rfl rfl ?_
 refine ⟨tv, ?_⟩
 show K1 [(1, iT deep), (2, pT p), (3, pT b1), (25, sF (v.l.map valIn)), (26, iT (v.l.length : Int)), (27, iT 0)] (mW m [(b1, .cells [iT v.kind, iT v.n, .str v.s, sF (v.l.map valIn), sF (v.f.map fldIn)]), (p, .cells [iT (n - 1)])])
 refine hK1 _ _ ?_; clear hK1 K1
 refine awp_block ?_
 refine awp_keep [1, 2, 3, 25, 26, 27] (by decide) ?_
 refine awp_loop_st (σ := Int × Int) (fun ⟨i, nl⟩ => [(1, iT deep), (2, pT p), (3, pT b1), (25, sF (v.l.map valIn)), (26, iT (v.l.length : Int)), (27, iT i)]) (fun ⟨i, nl⟩ => (mW m [(b1, .cells [iT v.kind, iT v.n, .str v.s, sF (v.l.map valIn), sF (v.f.map fldIn)]), (p, .cells [iT nl])])) (fun ⟨i, nl⟩ => 0 ≤ i ∧ i ≤ v.l.length ∧ 0 ≤ nl ∧ nl ≤ 60 ∧ cntL (cntF k (deep + 1)) v.l (n - 1) = cntL (cntF k (deep + 1)) (v.l.drop i.toNat) nl) (fun ⟨i, nl⟩ => v.l.length - i.toNat) (0, n - 1) rfl rfl ?_ ?_
 ·
  show 0 ≤ ((0 : Int)) ∧ ((0 : Int)) ≤ v.l.length ∧ 0 ≤ ((n - 1 : Int)) ∧ ((n - 1 : Int)) ≤ 60 ∧ cntL (cntF k (deep + 1)) v.l (n - 1) = cntL (cntF k (deep + 1)) (v.l.drop ((0 : Int)).toNat) ((n - 1 : Int))
  exact ⟨by omega, by omega, by omega, by omega, rfl⟩
 rintro ⟨i, nl⟩ hI
 replace hI : 0 ≤ i ∧ i ≤ v.l.length ∧ 0 ≤ nl ∧ nl ≤ 60 ∧ cntL (cntF k (deep + 1)) v.l (n - 1) = cntL (cntF k (deep + 1)) (v.l.drop i.toNat) nl := hI
 show AWP _ _ _ _ [(1, iT deep), (2, pT p), (3, pT b1), (25, sF (v.l.map valIn)), (26, iT (v.l.length : Int)), (27, iT i)] (mW m [(b1, .cells [iT v.kind, iT v.n, .str v.s, sF (v.l.map valIn), sF (v.f.map fldIn)]), (p, .cells [iT nl])])
 refine rS [] [1, 2, 3, 25, 26, 27, 28] (by decide) ?_
 intro K1 hK1
 refine ⟨tv, ?_⟩
 show K1 [(1, iT deep), (2, pT p), (3, pT b1), (25, sF (v.l.map valIn)), (26, iT (v.l.length : Int)), (27, iT i), (28, .bool (decide (i < (v.l.length : Int))))] _
 refine hK1 _ _ ?_; clear hK1 K1
 refine sK ?_; intro K4 hK4
 refine cD rfl rfl (fun h3 => ?_) (fun h3 => ?_)
 ·
  replace h3 : i < (v.l.length : Int) := (of_decide_eq_true h3)
  refine awp_skip ?_
  refine hK4 _ _ ?_; clear hK4
  refine sK ?_; intro K5 hK5
  refine awp_block ?_
  refine rS [] [1, 2, 3, 8, 25, 26, 27] (by decide) ?_
  intro K1 hK1
  refine ar_index rfl valTop v.l i rfl rfl (valMap v.l) rfl rfl (by decide) (fun _ => rfl) (by omega) (by omega) ?_
  refine ⟨(apartOk_agg rfl rfl (nB rfl)), ?_⟩
  refine ar_alloc rfl (z := .agg [iT 0, iT 0, .str ([]), .slice true [], .slice true []]) rfl rfl ?_
  intro b2 hb2
  have hFb2 : m b2 = none := wth_none hb2
  have hNb2 : ([b2, b1, p] : List Nat).Nodup := wth_nodup hb2 hNb1
  refine aS rfl 0 (v := valTop (gI v.l i)) (l' := [iT ((gI v.l i).kind), iT ((gI v.l i).n), .str ((gI v.l i).s), sF (((gI v.l i).l).map valIn), sF (((gI v.l i).f).map fldIn)]) rfl (by rfl) hNb2 rfl rfl rfl rfl rfl (nB rfl) rfl ?_
  show K1 [(1, iT deep), (2, pT p), (3, pT b1), (8, pT b2), (25, sF (v.l.map valIn)), (26, iT (v.l.length : Int)), (27, iT i)] (mW m [(b2, .cells [iT ((gI v.l i).kind), iT ((gI v.l i).n), .str ((gI v.l i).s), sF (((gI v.l i).l).map valIn), sF (((gI v.l i).f).map fldIn)]), (b1, .cells [iT v.kind, iT v.n, .str v.s, sF (v.l.map valIn), sF (v.f.map fldIn)]), (p, .cells [iT nl])])
  refine hK1 _ _ ?_; clear hK1 K1
  refine rS [] [1, 2, 3, 25, 26, 27, 36] (by decide) ?_
  intro K1 hK1
  refine aL rfl (v := .agg [iT ((gI v.l i).kind), iT ((gI v.l i).n), .str ((gI v.l i).s), sF (((gI v.l i).l).map valIn), sF (((gI v.l i).f).map fldIn)]) rfl (wG 0 hNb2 rfl) rfl (apartOk_agg rfl rfl (nB rfl)) rfl ?_
  refine ⟨tv, ?_⟩
  refine ar_add rfl (a := deep) (b := 1) rfl rfl (by omega) (by omega) ?_
  refine ⟨tv, ?_⟩
  refine ar_mem (wS hNb2 (pick_perm [2] _)) ?_
  refine ih (gI v.l i) (deep + 1) nl (by have := depV_eq v; first | (have := depL_mem (gI_mem (l := v.l) (i := i) hI.1 (by assumption)); omega) | (have := depF_mem (gI_mem (l := v.f) (i := i2) hI2.1 (by assumption)); omega)) (by omega) (by omega) (by omega) (by omega) p _ _ ?_
  refine ar_mem (wS (m := m) (L := [(b2, .cells [iT ((gI v.l i).kind), iT ((gI v.l i).n), .str ((gI v.l i).s), sF (((gI v.l i).l).map valIn), sF (((gI v.l i).f).map fldIn)]), (b1, .cells [iT v.kind, iT v.n, .str v.s, sF (v.l.map valIn), sF (v.f.map fldIn)]), (p, .cells [iT ((cntF k (deep + 1) (gI v.l i) nl).2)])]) hNb2 (pick_perm [2] _)).symm ?_
  refine ⟨tv, ?_⟩
  show K1 [(1, iT deep), (2, pT p), (3, pT b1), (25, sF (v.l.map valIn)), (26, iT (v.l.length : Int)), (27, iT i), (36, .bool (!((cntF k (deep + 1) (gI v.l i) nl).1)))] (mW m [(b2, .cells [iT ((gI v.l i).kind), iT ((gI v.l i).n), .str ((gI v.l i).s), sF (((gI v.l i).l).map valIn), sF (((gI v.l i).f).map fldIn)]), (b1, .cells [iT v.kind, iT v.n, .str v.s, sF (v.l.map valIn), sF (v.f.map fldIn)]), (p, .cells [iT ((cntF k (deep + 1) (gI v.l i) nl).2)])])
  refine hK1 _ _ ?_; clear hK1 K1
  refine cD rfl rfl (fun h4 => ?_) (fun h4 => ?_)
  ·
   replace h4 : (cntF k (deep + 1) (gI v.l i) nl).1 = false := (bnT h4)
   refine rS [] [6] (by decide) ?_
   intro K1 hK1
   refine ⟨tv, ?_⟩
   show K1 [(6, .bool false)] (mW m [(b2, .cells [iT ((gI v.l i).kind), iT ((gI v.l i).n), .str ((gI v.l i).s), sF (((gI v.l i).l).map valIn), sF (((gI v.l i).f).map fldIn)]), (b1, .cells [iT v.kind, iT v.n, .str v.s, sF (v.l.map valIn), sF (v.f.map fldIn)]), (p, .cells [iT ((cntF k (deep + 1) (gI v.l i) nl).2)])])
   refine hK1 _ _ ?_; clear hK1 K1
   refine awp_ret ?_
   refine ⟨tv, (mW m [(p, .cells [iT ((cntF k (deep + 1) (gI v.l i) nl).2)])]), (wth_sub2 (m := m) [(b2, .cells [iT ((gI v.l i).kind), iT ((gI v.l i).n), .str ((gI v.l i).s), sF (((gI v.l i).l).map valIn), sF (((gI v.l i).f).map fldIn)]), (b1, .cells [iT v.kind, iT v.n, .str v.s, sF (v.l.map valIn), sF (v.f.map fldIn)])] [(p, .cells [iT ((cntF k (deep + 1) (gI v.l i) nl).2)])] hNb2 (by simp only [List.map_cons, List.map_nil, List.forall_mem_cons]; exact ⟨hFb2, hFb1, nfA⟩)), ?_⟩
   show K (.bool false) (AMem.wth m [(p, .cells [iT ((cntF k (deep + 1) (gI v.l i) nl).2)])])
  
   have e : cntF (k + 1) deep v n = (false, (cntF k (deep + 1) (gI v.l i) nl).2) := cntF_l (by omega) (by rw [hI.2.2.2.2, cntL_drop hI.1 h3, if_neg (by simp [h4])])
   rw [e] at hK; exact hK
  replace h4 : (cntF k (deep + 1) (gI v.l i) nl).1 = true := (bnF h4)
  refine awp_skip ?_
  refine hK5 _ _ ?_; clear hK5
  have hNd1 : ([b1, p] : List Nat).Nodup := drop_nodup (L := [(b2, .cells [iT ((gI v.l i).kind), iT ((gI v.l i).n), .str ((gI v.l i).s), sF (((gI v.l i).l).map valIn), sF (((gI v.l i).f).map fldIn)]), (b1, .cells [iT v.kind, iT v.n, .str v.s, sF (v.l.map valIn), sF (v.f.map fldIn)]), (p, .cells [iT ((cntF k (deep + 1) (gI v.l i) nl).2)])]) hNb2 (pick_perm [0] _)
  refine awp_dropP [(b2, .cells [iT ((gI v.l i).kind), iT ((gI v.l i).n), .str ((gI v.l i).s), sF (((gI v.l i).l).map valIn), sF (((gI v.l i).f).map fldIn)])] [(b1, .cells [iT v.kind, iT v.n, .str v.s, sF (v.l.map valIn), sF (v.f.map fldIn)]), (p, .cells [iT ((cntF k (deep + 1) (gI v.l i) nl).2)])] hNb2 (pick_perm [0] _) (by simp only [List.map_cons, List.map_nil, List.forall_mem_cons]; exact ⟨hFb2, nfA⟩) ?_
  refine awp_reg2 [] [1, 2, 3, 25, 26, 27] (by decide) ?_
  intro K1 hK1
  refine ar_add rfl (a := i) (b := 1) rfl rfl (by omega) (by omega) ?_
  refine ⟨tv, ?_⟩
  show K1 [(1, iT deep), (2, pT p), (3, pT b1), (25, sF (v.l.map valIn)), (26, iT (v.l.length : Int)), (27, iT (i + 1))] (mW m [(b1, .cells [iT v.kind, iT v.n, .str v.s, sF (v.l.map valIn), sF (v.f.map fldIn)]), (p, .cells [iT ((cntF k (deep + 1) (gI v.l i) nl).2)])])
  refine hK1 _ _ ?_; clear hK1 K1
  refine ⟨(i + 1, (cntF k (deep + 1) (gI v.l i) nl).2), rfl, rfl, ?_, ?_⟩
  ·
   show 0 ≤ ((i + 1 : Int)) ∧ ((i + 1 : Int)) ≤ v.l.length ∧ 0 ≤ (((cntF k (deep + 1) (gI v.l i) nl).2 : Int)) ∧ (((cntF k (deep + 1) (gI v.l i) nl).2 : Int)) ≤ 60 ∧ cntL (cntF k (deep + 1)) v.l (n - 1) = cntL (cntF k (deep + 1)) (v.l.drop ((i + 1 : Int)).toNat) (((cntF k (deep + 1) (gI v.l i) nl).2 : Int))
   have q := cntF_ok k (deep + 1) (gI v.l i) nl hI.2.2.1 h4
   exact ⟨by omega, by omega, by omega, by omega, by rw [hI.2.2.2.2, cntL_drop hI.1 h3, if_pos h4]⟩
  ·
   show v.l.length - ((i + 1 : Int)).toNat < v.l.length - i.toNat
   omega
 replace h3 : (v.l.length : Int) ≤ i := (Int.not_lt.1 (of_decide_eq_false h3))
 refine awp_exit ?_
 refine hK3 _ _ ?_; clear hK3
 refine sK ?_; intro K6 hK6
 refine rS [] [1, 2, 39, 40, 41] (by decide) ?_
 intro K1 hK1
 refine ⟨⟨rfl, by decide⟩, ?_⟩
 refine aL rfl (v := sF (v.f.map fldIn)) rfl (wG 0 hNb1 rfl) rfl (aO rfl rfl (nB rfl)) rfl ?_
 refine ar_len rfl fldIn v.f rfl rfl rfl ?_
 refine ⟨tv, ?_⟩
 show K1 [(1, iT deep), (2, pT p), (39, sF (v.f.map fldIn)), (40, iT (v.f.length : Int)), (41, iT 0)] (mW m [(b1, .cells [iT v.kind, iT v.n, .str v.s, sF (v.l.map valIn), sF (v.f.map fldIn)]), (p, .cells [iT nl])])
 refine hK1 _ _ ?_; clear hK1 K1
 refine awp_block ?_
 refine awp_keep [1, 2, 39, 40, 41] (by decide) ?_
 refine awp_loop_st (σ := Int × Int) (fun ⟨i2, nf⟩ => [(1, iT deep), (2, pT p), (39, sF (v.f.map fldIn)), (40, iT (v.f.length : Int)), (41, iT i2)]) (fun ⟨i2, nf⟩ => (mW m [(b1, .cells [iT v.kind, iT v.n, .str v.s, sF (v.l.map valIn), sF (v.f.map fldIn)]), (p, .cells [iT nf])])) (fun ⟨i2, nf⟩ => 0 ≤ i2 ∧ i2 ≤ v.f.length ∧ 0 ≤ nf ∧ nf ≤ 60 ∧ cntF (k + 1) deep v n = cntL (fun p => cntF k (deep + 1) p.2) (v.f.drop i2.toNat) nf) (fun ⟨i2, nf⟩ => v.f.length - i2.toNat) (0, nl) rfl rfl ?_ ?_
 ·
  show 0 ≤ ((0 : Int)) ∧ ((0 : Int)) ≤ v.f.length ∧ 0 ≤ ((nl : Int)) ∧ ((nl : Int)) ≤ 60 ∧ cntF (k + 1) deep v n = cntL (fun p => cntF k (deep + 1) p.2) (v.f.drop ((0 : Int)).toNat) ((nl : Int))
  have e : cntL (cntF k (deep + 1)) v.l (n - 1) = (true, nl) := by rw [hI.2.2.2.2, List.drop_eq_nil_of_le (by omega)]; rfl
  exact ⟨by omega, by omega, by omega, by omega, by rw [cntF_f (by omega) e]; rfl⟩
 rintro ⟨i2, nf⟩ hI2
 replace hI2 : 0 ≤ i2 ∧ i2 ≤ v.f.length ∧ 0 ≤ nf ∧ nf ≤ 60 ∧ cntF (k + 1) deep v n = cntL (fun p => cntF k (deep + 1) p.2) (v.f.drop i2.toNat) nf := hI2
 show AWP _ _ _ _ [(1, iT deep), (2, pT p), (39, sF (v.f.map fldIn)), (40, iT (v.f.length : Int)), (41, iT i2)] (mW m [(b1, .cells [iT v.kind, iT v.n, .str v.s, sF (v.l.map valIn), sF (v.f.map fldIn)]), (p, .cells [iT nf])])
 refine rS [] [1, 2, 39, 40, 41, 42] (by decide) ?_
 intro K1 hK1
 refine ⟨tv, ?_⟩
 show K1 [(1, iT deep), (2, pT p), (39, sF (v.f.map fldIn)), (40, iT (v.f.length : Int)), (41, iT i2), (42, .bool (decide (i2 < (v.f.length : Int))))] _
 refine hK1 _ _ ?_; clear hK1 K1
 refine sK ?_; intro K7 hK7
 refine cD rfl rfl (fun h5 => ?_) (fun h5 => ?_)
 ·
  replace h5 : i2 < (v.f.length : Int) := (of_decide_eq_true h5)
  refine awp_skip ?_
  refine hK7 _ _ ?_; clear hK7
  refine sK ?_; intro K8 hK8
  refine awp_block ?_
  refine rS [] [1, 2, 10, 39, 40, 41] (by decide) ?_
  intro K1 hK1
  refine ar_index rfl fldTop v.f i2 rfl rfl (fldMap v.f) rfl rfl (by decide) (fun _ => rfl) (by omega) (by omega) ?_
  refine ⟨(apartOk_agg rfl rfl (nB rfl)), ?_⟩
  refine ar_alloc rfl (z := .agg [.str ([]), iT 0, iT 0, .str ([]), .slice true [], .slice true []]) rfl rfl ?_
  intro b3 hb3
  have hFb3 : m b3 = none := wth_none hb3
  have hNb3 : ([b3, b1, p] : List Nat).Nodup := wth_nodup hb3 hNb1
  refine aS rfl 0 (v := fldTop (gI v.f i2)) (l' := [.str ((gI v.f i2).1), iT (((gI v.f i2).2).kind), iT (((gI v.f i2).2).n), .str (((gI v.f i2).2).s), sF ((((gI v.f i2).2).l).map valIn), sF ((((gI v.f i2).2).f).map fldIn)]) rfl (by rfl) hNb3 rfl rfl rfl rfl rfl (nB rfl) rfl ?_
  show K1 [(1, iT deep), (2, pT p), (10, pT b3), (39, sF (v.f.map fldIn)), (40, iT (v.f.length : Int)), (41, iT i2)] (mW m [(b3, .cells [.str ((gI v.f i2).1), iT (((gI v.f i2).2).kind), iT (((gI v.f i2).2).n), .str (((gI v.f i2).2).s), sF ((((gI v.f i2).2).l).map valIn), sF ((((gI v.f i2).2).f).map fldIn)]), (b1, .cells [iT v.kind, iT v.n, .str v.s, sF (v.l.map valIn), sF (v.f.map fldIn)]), (p, .cells [iT nf])])
  refine hK1 _ _ ?_; clear hK1 K1
  refine rS [] [1, 2, 39, 40, 41, 51] (by decide) ?_
  intro K1 hK1
  refine ⟨⟨rfl, by decide⟩, ?_⟩
  refine aL rfl (v := .agg [iT (((gI v.f i2).2).kind), iT (((gI v.f i2).2).n), .str (((gI v.f i2).2).s), sF ((((gI v.f i2).2).l).map valIn), sF ((((gI v.f i2).2).f).map fldIn)]) rfl (wG 0 hNb3 rfl) rfl (apartOk_agg rfl rfl (nB rfl)) rfl ?_
  refine ⟨tv, ?_⟩
  refine ar_add rfl (a := deep) (b := 1) rfl rfl (by omega) (by omega) ?_
  refine ⟨tv, ?_⟩
  refine ar_mem (wS hNb3 (pick_perm [2] _)) ?_
  refine ih ((gI v.f i2).2) (deep + 1) nf (by have := depV_eq v; first | (have := depL_mem (gI_mem (l := v.l) (i := i) hI.1 (by assumption)); omega) | (have := depF_mem (gI_mem (l := v.f) (i := i2) hI2.1 (by assumption)); omega)) (by omega) (by omega) (by omega) (by omega) p _ _ ?_
  refine ar_mem (wS (m := m) (L := [(b3, .cells [.str ((gI v.f i2).1), iT (((gI v.f i2).2).kind), iT (((gI v.f i2).2).n), .str (((gI v.f i2).2).s), sF ((((gI v.f i2).2).l).map valIn), sF ((((gI v.f i2).2).f).map fldIn)]), (b1, .cells [iT v.kind, iT v.n, .str v.s, sF (v.l.map valIn), sF (v.f.map fldIn)]), (p, .cells [iT ((cntF k (deep + 1) ((gI v.f i2).2) nf).2)])]) hNb3 (pick_perm [2] _)).symm ?_
  refine ⟨tv, ?_⟩
  show K1 [(1, iT deep), (2, pT p), (39, sF (v.f.map fldIn)), (40, iT (v.f.length : Int)), (41, iT i2), (51, .bool (!((cntF k (deep + 1) ((gI v.f i2).2) nf).1)))] (mW m [(b3, .cells [.str ((gI v.f i2).1), iT (((gI v.f i2).2).kind), iT (((gI v.f i2).2).n), .str (((gI v.f i2).2).s), sF ((((gI v.f i2).2).l).map valIn), sF ((((gI v.f i2).2).f).map fldIn)]), (b1, .cells [iT v.kind, iT v.n, .str v.s, sF (v.l.map valIn), sF (v.f.map fldIn)]), (p, .cells [iT ((cntF k (deep + 1) ((gI v.f i2).2) nf).2)])])
  refine hK1 _ _ ?_; clear hK1 K1
  refine cD rfl rfl (fun h6 => ?_) (fun h6 => ?_)
  ·
   replace h6 : (cntF k (deep + 1) ((gI v.f i2).2) nf).1 = false := (bnT h6)
   refine rS [] [6] (by decide) ?_
   intro K1 hK1
   refine ⟨tv, ?_⟩
   show K1 [(6, .bool false)] (mW m [(b3, .cells [.str ((gI v.f i2).1), iT (((gI v.f i2).2).kind), iT (((gI v.f i2).2).n), .str (((gI v.f i2).2).s), sF ((((gI v.f i2).2).l).map valIn), sF ((((gI v.f i2).2).f).map fldIn)]), (b1, .cells [iT v.kind, iT v.n, .str v.s, sF (v.l.map valIn), sF (v.f.map fldIn)]), (p, .cells [iT ((cntF k (deep + 1) ((gI v.f i2).2) nf).2)])])
   refine hK1 _ _ ?_; clear hK1 K1
   refine awp_ret ?_
   refine ⟨tv, (mW m [(p, .cells [iT ((cntF k (deep + 1) ((gI v.f i2).2) nf).2)])]), (wth_sub2 (m := m) [(b3, .cells [.str ((gI v.f i2).1), iT (((gI v.f i2).2).kind), iT (((gI v.f i2).2).n), .str (((gI v.f i2).2).s), sF ((((gI v.f i2).2).l).map valIn), sF ((((gI v.f i2).2).f).map fldIn)]), (b1, .cells [iT v.kind, iT v.n, .str v.s, sF (v.l.map valIn), sF (v.f.map fldIn)])] [(p, .cells [iT ((cntF k (deep + 1) ((gI v.f i2).2) nf).2)])] hNb3 (by simp only [List.map_cons, List.map_nil, List.forall_mem_cons]; exact ⟨hFb3, hFb1, nfA⟩)), ?_⟩
   show K (.bool false) (AMem.wth m [(p, .cells [iT ((cntF k (deep + 1) ((gI v.f i2).2) nf).2)])])
  
   have e : cntF (k + 1) deep v n = (false, (cntF k (deep + 1) (gI v.f i2).2 nf).2) := by
    rw [hI2.2.2.2.2, cntL_drop hI2.1 h5, if_neg (by simp [h6])]
   rw [e] at hK; exact hK
  replace h6 : (cntF k (deep + 1) ((gI v.f i2).2) nf).1 = true := (bnF h6)
  refine awp_skip ?_
  refine hK8 _ _ ?_; clear hK8
  have hNd2 : ([b1, p] : List Nat).Nodup := drop_nodup (L := [(b3, .cells [.str ((gI v.f i2).1), iT (((gI v.f i2).2).kind), iT (((gI v.f i2).2).n), .str (((gI v.f i2).2).s), sF ((((gI v.f i2).2).l).map valIn), sF ((((gI v.f i2).2).f).map fldIn)]), (b1, .cells [iT v.kind, iT v.n, .str v.s, sF (v.l.map valIn), sF (v.f.map fldIn)]), (p, .cells [iT ((cntF k (deep + 1) ((gI v.f i2).2) nf).2)])]) hNb3 (pick_perm [0] _)
  refine awp_dropP [(b3, .cells [.str ((gI v.f i2).1), iT (((gI v.f i2).2).kind), iT (((gI v.f i2).2).n), .str (((gI v.f i2).2).s), sF ((((gI v.f i2).2).l).map valIn), sF ((((gI v.f i2).2).f).map fldIn)])] [(b1, .cells [iT v.kind, iT v.n, .str v.s, sF (v.l.map valIn), sF (v.f.map fldIn)]), (p, .cells [iT ((cntF k (deep + 1) ((gI v.f i2).2) nf).2)])] hNb3 (pick_perm [0] _) (by simp only [List.map_cons, List.map_nil, List.forall_mem_cons]; exact ⟨hFb3, nfA⟩) ?_
  refine awp_reg2 [] [1, 2, 39, 40, 41] (by decide) ?_
  intro K1 hK1
  refine ar_add rfl (a := i2) (b := 1) rfl rfl (by omega) (by omega) ?_
  refine ⟨tv, ?_⟩
  show K1 [(1, iT deep), (2, pT p), (39, sF (v.f.map fldIn)), (40, iT (v.f.length : Int)), (41, iT (i2 + 1))] (mW m [(b1, .cells [iT v.kind, iT v.n, .str v.s, sF (v.l.map valIn), sF (v.f.map fldIn)]), (p, .cells [iT ((cntF k (deep + 1) ((gI v.f i2).2) nf).2)])])
  refine hK1 _ _ ?_; clear hK1 K1
  refine ⟨(i2 + 1, (cntF k (deep + 1) ((gI v.f i2).2) nf).2), rfl, rfl, ?_, ?_⟩
  ·
   show 0 ≤ ((i2 + 1 : Int)) ∧ ((i2 + 1 : Int)) ≤ v.f.length ∧ 0 ≤ (((cntF k (deep + 1) ((gI v.f i2).2) nf).2 : Int)) ∧ (((cntF k (deep + 1) ((gI v.f i2).2) nf).2 : Int)) ≤ 60 ∧ cntF (k + 1) deep v n = cntL (fun p => cntF k (deep + 1) p.2) (v.f.drop ((i2 + 1 : Int)).toNat) (((cntF k (deep + 1) ((gI v.f i2).2) nf).2 : Int))
   have q := cntF_ok k (deep + 1) (gI v.f i2).2 nf hI2.2.2.1 h6
   exact ⟨by omega, by omega, by omega, by omega, by rw [hI2.2.2.2.2, cntL_drop hI2.1 h5, if_pos h6]⟩
  ·
   show v.f.length - ((i2 + 1 : Int)).toNat < v.f.length - i2.toNat
   omega
 replace h5 : (v.f.length : Int) ≤ i2 := (Int.not_lt.1 (of_decide_eq_false h5))
 refine awp_exit ?_
 refine hK6 _ _ ?_; clear hK6
 refine rS [] [6] (by decide) ?_
 intro K1 hK1
 refine ⟨tv, ?_⟩
 show K1 [(6, .bool true)] (mW m [(b1, .cells [iT v.kind, iT v.n, .str v.s, sF (v.l.map valIn), sF (v.f.map fldIn)]), (p, .cells [iT nf])])
 refine hK1 _ _ ?_; clear hK1 K1
 refine awp_ret ?_
 refine ⟨tv, (mW m [(p, .cells [iT nf])]), (wth_sub2 (m := m) [(b1, .cells [iT v.kind, iT v.n, .str v.s, sF (v.l.map valIn), sF (v.f.map fldIn)])] [(p, .cells [iT nf])] hNb1 (by simp only [List.map_cons, List.map_nil, List.forall_mem_cons]; exact ⟨hFb1, nfA⟩)), ?_⟩
 show K (.bool true) (AMem.wth m [(p, .cells [iT nf])])
 have e : cntF (k + 1) deep v n = (true, nf) := by rw [hI2.2.2.2.2, List.drop_eq_nil_of_le (by omega)]; rfl
 rw [e] at hK; exact hK
theorem u_count : ∀ (k : Nat) (v : Val) (deep n : Int), depV v < k → 1 ≤ deep → deep ≤ 7 → 0 ≤ n → n ≤ 60 → ∀ (b : Nat) (m : AMem) (K : AV → AMem → Prop), K (.bool (cntF k deep v n).1) (mW m [(b, .cells [iT (cntF k deep v n).2])]) → ACalls Try.prog 99 [valTop v, iT deep, pT b] (mW m [(b, .cells [iT n])]) K
  | 0, _, _, _, h => absurd h (Nat.not_lt_zero _)
  | k + 1, v, deep, n, h => fun h1 h7 h0 h6 b m K hK => u_count1 k v deep n b (u_count k) h h1 h7 h0 h6 m K hK
set_option maxHeartbeats 8000000 in
theorem u_shape1 (k : Nat) (v : Val) (ih : ∀ (w : Val), depV w < k → ∀ (m : AMem) (K : AV → AMem → Prop), K (.err 108 (shE (shpF k w))) m → ACalls Try.prog 100 [valTop w] m K) (hd : depV v < k + 1) (m : AMem)  (K : AV → AMem → Prop) (hK : K (.err 108 (shE (shpF (k + 1) v))) m) : ACalls Try.prog 100 [valTop v] m K := by
 refine acalls_enter Try.func100 rfl (by decide) (nB rfl) ?_
 refine awp_bd 0 (x := valTop v) rfl (fun hbd0 => ?_)
 have hbd0_2 : v.s.length ≤ 140737488355328 := (hbd0 2 (nB rfl))
 have hbd0_3 : v.l.length ≤ 140737488355328 := bd_map (hbd0 3 (nB rfl))
 have hbd0_4 : v.f.length ≤ 140737488355328 := bd_map (hbd0 4 (nB rfl))
 show AWP _ _ _ _ [(0, valTop v)] m
 refine rS [] [1] (by decide) ?_
 intro K1 hK1
 refine ar_box rfl (m := m) (L := []) (v := valTop v) (by rfl) rfl ?_
 intro b1 hb1
 have hFb1 : m b1 = none := wth_none (m := m) (L := []) hb1
 have hNb1 : ([b1] : List Nat).Nodup := wth_nodup (m := m) (L := []) hb1 List.nodup_nil
 refine ⟨tv, ?_⟩
 show K1 [(1, pT b1)] (mW m [(b1, .cells [iT v.kind, iT v.n, .str v.s, sF (v.l.map valIn), sF (v.f.map fldIn)])])
 refine hK1 _ _ ?_; clear hK1 K1
 refine rS [] [1] (by decide) ?_
 intro K1 hK1
 refine ⟨tv, ?_⟩
 show K1 [(1, pT b1)] _
 refine hK1 _ _ ?_; clear hK1 K1
 refine sK ?_; intro K2 hK2
 have join0 : ∀ (ok : Bool), (ok = shpOk v) → K2 [(1, pT b1), (3, .bool ok)] (mW m [(b1, .cells [iT v.kind, iT v.n, .str v.s, sF (v.l.map valIn), sF (v.f.map fldIn)])]) := by
  intro ok hj0
  refine hK2 _ _ ?_; clear hK2
  refine sK ?_; intro K3 hK3
  refine rS [] [1, 167] (by decide) ?_
  intro K1 hK1
  refine ⟨tv, tv, ?_⟩
  show K1 [(1, pT b1), (167, .bool (!ok))] _
  refine hK1 _ _ ?_; clear hK1 K1
  refine cD rfl rfl (fun h1 => ?_) (fun h1 => ?_)
  ·
   replace h1 : ok = false := (bnT h1)
   refine rS [] [2] (by decide) ?_
   intro K1 hK1
   refine ⟨tv, tv, ?_⟩
   show K1 [(2, .iface 108 (iT 3))] (mW m [(b1, .cells [iT v.kind, iT v.n, .str v.s, sF (v.l.map valIn), sF (v.f.map fldIn)])])
   refine hK1 _ _ ?_; clear hK1 K1
   refine awp_toErr 108 [2] ?_
   show AWP _ _ _ _ [(2, .err 108 3)] _
   refine awp_ret ?_
   refine ⟨tv, m, (wth_sub2 (m := m) [(b1, .cells [iT v.kind, iT v.n, .str v.s, sF (v.l.map valIn), sF (v.f.map fldIn)])] [] hNb1 (by simp only [List.map_cons, List.map_nil, List.forall_mem_cons]; exact ⟨hFb1, nfA⟩)), ?_⟩
   show K (.err 108 3) m
  
   rw [shE_1 (by rw [← hj0, h1])] at hK; exact hK
  replace h1 : ok = true := (bnF h1)
  refine awp_skip ?_
  refine hK3 _ _ ?_; clear hK3
  refine sK ?_; intro K4 hK4
  refine rS [] [1, 170, 171, 172] (by decide) ?_
  intro K1 hK1
  refine ⟨⟨rfl, by decide⟩, ?_⟩
  refine aL rfl (v := sF (v.l.map valIn)) rfl (wG 0 hNb1 rfl) rfl (aO rfl rfl (nB rfl)) rfl ?_
  refine ar_len rfl valIn v.l rfl rfl rfl ?_
  refine ⟨tv, ?_⟩
  show K1 [(1, pT b1), (170, sF (v.l.map valIn)), (171, iT (v.l.length : Int)), (172, iT 0)] (mW m [(b1, .cells [iT v.kind, iT v.n, .str v.s, sF (v.l.map valIn), sF (v.f.map fldIn)])])
  refine hK1 _ _ ?_; clear hK1 K1
  refine awp_block ?_
  refine awp_keep [1, 170, 171, 172] (by decide) ?_
  refine awp_loop_st (σ := Int) (fun i => [(1, pT b1), (170, sF (v.l.map valIn)), (171, iT (v.l.length : Int)), (172, iT i)]) (fun _ => (mW m [(b1, .cells [iT v.kind, iT v.n, .str v.s, sF (v.l.map valIn), sF (v.f.map fldIn)])])) (fun i => 0 ≤ i ∧ i ≤ v.l.length ∧ v.l.all (shpF k) = (v.l.drop i.toNat).all (shpF k)) (fun i => v.l.length - i.toNat) (0) rfl rfl ?_ ?_
  ·
   show 0 ≤ ((0 : Int)) ∧ ((0 : Int)) ≤ v.l.length ∧ v.l.all (shpF k) = (v.l.drop ((0 : Int)).toNat).all (shpF k)
   exact ⟨by omega, by omega, rfl⟩
  rintro i hI
  replace hI : 0 ≤ i ∧ i ≤ v.l.length ∧ v.l.all (shpF k) = (v.l.drop i.toNat).all (shpF k) := hI
  show AWP _ _ _ _ [(1, pT b1), (170, sF (v.l.map valIn)), (171, iT (v.l.length : Int)), (172, iT i)] (mW m [(b1, .cells [iT v.kind, iT v.n, .str v.s, sF (v.l.map valIn), sF (v.f.map fldIn)])])
  refine rS [] [1, 170, 171, 172, 173] (by decide) ?_
  intro K1 hK1
  refine ⟨tv, ?_⟩
  show K1 [(1, pT b1), (170, sF (v.l.map valIn)), (171, iT (v.l.length : Int)), (172, iT i), (173, .bool (decide (i < (v.l.length : Int))))] _
  refine hK1 _ _ ?_; clear hK1 K1
  refine sK ?_; intro K5 hK5
  refine cD rfl rfl (fun h2 => ?_) (fun h2 => ?_)
  ·
   replace h2 : i < (v.l.length : Int) := (of_decide_eq_true h2)
   refine awp_skip ?_
   refine hK5 _ _ ?_; clear hK5
   refine sK ?_; intro K6 hK6
   refine awp_block ?_
   refine rS [] [1, 7, 170, 171, 172] (by decide) ?_
   intro K1 hK1
   refine ar_index rfl valTop v.l i rfl rfl (valMap v.l) rfl rfl (by decide) (fun _ => rfl) (by omega) (by omega) ?_
   refine ⟨(apartOk_agg rfl rfl (nB rfl)), ?_⟩
   refine ar_alloc rfl (z := .agg [iT 0, iT 0, .str ([]), .slice true [], .slice true []]) rfl rfl ?_
   intro b2 hb2
   have hFb2 : m b2 = none := wth_none hb2
   have hNb2 : ([b2, b1] : List Nat).Nodup := wth_nodup hb2 hNb1
   refine aS rfl 0 (v := valTop (gI v.l i)) (l' := [iT ((gI v.l i).kind), iT ((gI v.l i).n), .str ((gI v.l i).s), sF (((gI v.l i).l).map valIn), sF (((gI v.l i).f).map fldIn)]) rfl (by rfl) hNb2 rfl rfl rfl rfl rfl (nB rfl) rfl ?_
   show K1 [(1, pT b1), (7, pT b2), (170, sF (v.l.map valIn)), (171, iT (v.l.length : Int)), (172, iT i)] (mW m [(b2, .cells [iT ((gI v.l i).kind), iT ((gI v.l i).n), .str ((gI v.l i).s), sF (((gI v.l i).l).map valIn), sF (((gI v.l i).f).map fldIn)]), (b1, .cells [iT v.kind, iT v.n, .str v.s, sF (v.l.map valIn), sF (v.f.map fldIn)])])
   refine hK1 _ _ ?_; clear hK1 K1
   refine rS [] [1, 170, 171, 172, 178] (by decide) ?_
   intro K1 hK1
   refine aL rfl (v := .agg [iT ((gI v.l i).kind), iT ((gI v.l i).n), .str ((gI v.l i).s), sF (((gI v.l i).l).map valIn), sF (((gI v.l i).f).map fldIn)]) rfl (wG 0 hNb2 rfl) rfl (apartOk_agg rfl rfl (nB rfl)) rfl ?_
   refine ih (gI v.l i) (by have := depV_eq v; first | (have := depL_mem (gI_mem (l := v.l) (i := i) hI.1 (by assumption)); omega) | (have := depF_mem (gI_mem (l := v.f) (i := i2) hI2.1 (by assumption)); omega)) _ _ ?_
   refine ⟨⟨rfl, rfl⟩, ?_⟩
   show K1 [(1, pT b1), (170, sF (v.l.map valIn)), (171, iT (v.l.length : Int)), (172, iT i), (178, .bool (!((shE (shpF k (gI v.l i))) == 0)))] _
   refine hK1 _ _ ?_; clear hK1 K1
   refine cD rfl rfl (fun h3 => ?_) (fun h3 => ?_)
   ·
    replace h3 : shE (shpF k (gI v.l i)) ≠ 0 := (ne_of_beq_false (bnT h3))
    refine rS [] [2] (by decide) ?_
    intro K1 hK1
    refine ⟨tv, tv, ?_⟩
    show K1 [(2, .iface 108 (iT 3))] (mW m [(b2, .cells [iT ((gI v.l i).kind), iT ((gI v.l i).n), .str ((gI v.l i).s), sF (((gI v.l i).l).map valIn), sF (((gI v.l i).f).map fldIn)]), (b1, .cells [iT v.kind, iT v.n, .str v.s, sF (v.l.map valIn), sF (v.f.map fldIn)])])
    refine hK1 _ _ ?_; clear hK1 K1
    refine awp_toErr 108 [2] ?_
    show AWP _ _ _ _ [(2, .err 108 3)] _
    refine awp_ret ?_
    refine ⟨tv, m, (wth_sub2 (m := m) [(b2, .cells [iT ((gI v.l i).kind), iT ((gI v.l i).n), .str ((gI v.l i).s), sF (((gI v.l i).l).map valIn), sF (((gI v.l i).f).map fldIn)]), (b1, .cells [iT v.kind, iT v.n, .str v.s, sF (v.l.map valIn), sF (v.f.map fldIn)])] [] hNb2 (by simp only [List.map_cons, List.map_nil, List.forall_mem_cons]; exact ⟨hFb2, hFb1, nfA⟩)), ?_⟩
    show K (.err 108 3) m
   
    rw [shE_2 (by rw [hI.2.2, all_drop hI.1 h2, shE_f h3, Bool.false_and])] at hK; exact hK
   replace h3 : shE (shpF k (gI v.l i)) = 0 := (eq_of_beq (bnF h3))
   refine awp_skip ?_
   refine hK6 _ _ ?_; clear hK6
   have hNd1 : ([b1] : List Nat).Nodup := drop_nodup (L := [(b2, .cells [iT ((gI v.l i).kind), iT ((gI v.l i).n), .str ((gI v.l i).s), sF (((gI v.l i).l).map valIn), sF (((gI v.l i).f).map fldIn)]), (b1, .cells [iT v.kind, iT v.n, .str v.s, sF (v.l.map valIn), sF (v.f.map fldIn)])]) hNb2 (pick_perm [0] _)
   refine awp_dropP [(b2, .cells [iT ((gI v.l i).kind), iT ((gI v.l i).n), .str ((gI v.l i).s), sF (((gI v.l i).l).map valIn), sF (((gI v.l i).f).map fldIn)])] [(b1, .cells [iT v.kind, iT v.n, .str v.s, sF (v.l.map valIn), sF (v.f.map fldIn)])] hNb2 (pick_perm [0] _) (by simp only [List.map_cons, List.map_nil, List.forall_mem_cons]; exact ⟨hFb2, nfA⟩) ?_
   refine awp_reg2 [] [1, 170, 171, 172] (by decide) ?_
   intro K1 hK1
   refine ar_add rfl (a := i) (b := 1) rfl rfl (by omega) (by omega) ?_
   refine ⟨tv, ?_⟩
   show K1 [(1, pT b1), (170, sF (v.l.map valIn)), (171, iT (v.l.length : Int)), (172, iT (i + 1))] (mW m [(b1, .cells [iT v.kind, iT v.n, .str v.s, sF (v.l.map valIn), sF (v.f.map fldIn)])])
   refine hK1 _ _ ?_; clear hK1 K1
   refine ⟨(i + 1), rfl, rfl, ?_, ?_⟩
   ·
    show 0 ≤ ((i + 1 : Int)) ∧ ((i + 1 : Int)) ≤ v.l.length ∧ v.l.all (shpF k) = (v.l.drop ((i + 1 : Int)).toNat).all (shpF k)
    exact ⟨by omega, by omega, by rw [hI.2.2, all_drop hI.1 h2, shE_t h3, Bool.true_and]⟩
   ·
    show v.l.length - ((i + 1 : Int)).toNat < v.l.length - i.toNat
    omega
  replace h2 : (v.l.length : Int) ≤ i := (Int.not_lt.1 (of_decide_eq_false h2))
  refine awp_exit ?_
  refine hK4 _ _ ?_; clear hK4
  refine sK ?_; intro K7 hK7
  refine rS [] [182, 183, 184] (by decide) ?_
  intro K1 hK1
  refine ⟨⟨rfl, by decide⟩, ?_⟩
  refine aL rfl (v := sF (v.f.map fldIn)) rfl (wG 0 hNb1 rfl) rfl (aO rfl rfl (nB rfl)) rfl ?_
  refine ar_len rfl fldIn v.f rfl rfl rfl ?_
  refine ⟨tv, ?_⟩
  show K1 [(182, sF (v.f.map fldIn)), (183, iT (v.f.length : Int)), (184, iT 0)] (mW m [(b1, .cells [iT v.kind, iT v.n, .str v.s, sF (v.l.map valIn), sF (v.f.map fldIn)])])
  refine hK1 _ _ ?_; clear hK1 K1
  refine awp_block ?_
  refine awp_keep [182, 183, 184] (by decide) ?_
  refine awp_loop_st (σ := Int) (fun i2 => [(182, sF (v.f.map fldIn)), (183, iT (v.f.length : Int)), (184, iT i2)]) (fun _ => (mW m [(b1, .cells [iT v.kind, iT v.n, .str v.s, sF (v.l.map valIn), sF (v.f.map fldIn)])])) (fun i2 => 0 ≤ i2 ∧ i2 ≤ v.f.length ∧ v.f.all (fun p => shpF k p.2) = (v.f.drop i2.toNat).all (fun p => shpF k p.2)) (fun i2 => v.f.length - i2.toNat) (0) rfl rfl ?_ ?_
  ·
   show 0 ≤ ((0 : Int)) ∧ ((0 : Int)) ≤ v.f.length ∧ v.f.all (fun p => shpF k p.2) = (v.f.drop ((0 : Int)).toNat).all (fun p => shpF k p.2)
   exact ⟨by omega, by omega, rfl⟩
  rintro i2 hI2
  replace hI2 : 0 ≤ i2 ∧ i2 ≤ v.f.length ∧ v.f.all (fun p => shpF k p.2) = (v.f.drop i2.toNat).all (fun p => shpF k p.2) := hI2
  show AWP _ _ _ _ [(182, sF (v.f.map fldIn)), (183, iT (v.f.length : Int)), (184, iT i2)] (mW m [(b1, .cells [iT v.kind, iT v.n, .str v.s, sF (v.l.map valIn), sF (v.f.map fldIn)])])
  refine rS [] [182, 183, 184, 185] (by decide) ?_
  intro K1 hK1
  refine ⟨tv, ?_⟩
  show K1 [(182, sF (v.f.map fldIn)), (183, iT (v.f.length : Int)), (184, iT i2), (185, .bool (decide (i2 < (v.f.length : Int))))] _
  refine hK1 _ _ ?_; clear hK1 K1
  refine sK ?_; intro K8 hK8
  refine cD rfl rfl (fun h4 => ?_) (fun h4 => ?_)
  ·
   replace h4 : i2 < (v.f.length : Int) := (of_decide_eq_true h4)
   refine awp_skip ?_
   refine hK8 _ _ ?_; clear hK8
   refine sK ?_; intro K9 hK9
   refine awp_block ?_
   refine rS [] [9, 182, 183, 184] (by decide) ?_
   intro K1 hK1
   refine ar_index rfl fldTop v.f i2 rfl rfl (fldMap v.f) rfl rfl (by decide) (fun _ => rfl) (by omega) (by omega) ?_
   refine ⟨(apartOk_agg rfl rfl (nB rfl)), ?_⟩
   refine ar_alloc rfl (z := .agg [.str ([]), iT 0, iT 0, .str ([]), .slice true [], .slice true []]) rfl rfl ?_
   intro b3 hb3
   have hFb3 : m b3 = none := wth_none hb3
   have hNb3 : ([b3, b1] : List Nat).Nodup := wth_nodup hb3 hNb1
   refine aS rfl 0 (v := fldTop (gI v.f i2)) (l' := [.str ((gI v.f i2).1), iT (((gI v.f i2).2).kind), iT (((gI v.f i2).2).n), .str (((gI v.f i2).2).s), sF ((((gI v.f i2).2).l).map valIn), sF ((((gI v.f i2).2).f).map fldIn)]) rfl (by rfl) hNb3 rfl rfl rfl rfl rfl (nB rfl) rfl ?_
   show K1 [(9, pT b3), (182, sF (v.f.map fldIn)), (183, iT (v.f.length : Int)), (184, iT i2)] (mW m [(b3, .cells [.str ((gI v.f i2).1), iT (((gI v.f i2).2).kind), iT (((gI v.f i2).2).n), .str (((gI v.f i2).2).s), sF ((((gI v.f i2).2).l).map valIn), sF ((((gI v.f i2).2).f).map fldIn)]), (b1, .cells [iT v.kind, iT v.n, .str v.s, sF (v.l.map valIn), sF (v.f.map fldIn)])])
   refine hK1 _ _ ?_; clear hK1 K1
   refine rS [] [182, 183, 184, 191] (by decide) ?_
   intro K1 hK1
   refine ⟨⟨rfl, by decide⟩, ?_⟩
   refine aL rfl (v := .agg [iT (((gI v.f i2).2).kind), iT (((gI v.f i2).2).n), .str (((gI v.f i2).2).s), sF ((((gI v.f i2).2).l).map valIn), sF ((((gI v.f i2).2).f).map fldIn)]) rfl (wG 0 hNb3 rfl) rfl (apartOk_agg rfl rfl (nB rfl)) rfl ?_
   refine ih ((gI v.f i2).2) (by have := depV_eq v; first | (have := depL_mem (gI_mem (l := v.l) (i := i) hI.1 (by assumption)); omega) | (have := depF_mem (gI_mem (l := v.f) (i := i2) hI2.1 (by assumption)); omega)) _ _ ?_
   refine ⟨⟨rfl, rfl⟩, ?_⟩
   show K1 [(182, sF (v.f.map fldIn)), (183, iT (v.f.length : Int)), (184, iT i2), (191, .bool (!((shE (shpF k ((gI v.f i2).2))) == 0)))] _
   refine hK1 _ _ ?_; clear hK1 K1
   refine cD rfl rfl (fun h5 => ?_) (fun h5 => ?_)
   ·
    replace h5 : shE (shpF k ((gI v.f i2).2)) ≠ 0 := (ne_of_beq_false (bnT h5))
    refine rS [] [2] (by decide) ?_
    intro K1 hK1
    refine ⟨tv, tv, ?_⟩
    show K1 [(2, .iface 108 (iT 3))] (mW m [(b3, .cells [.str ((gI v.f i2).1), iT (((gI v.f i2).2).kind), iT (((gI v.f i2).2).n), .str (((gI v.f i2).2).s), sF ((((gI v.f i2).2).l).map valIn), sF ((((gI v.f i2).2).f).map fldIn)]), (b1, .cells [iT v.kind, iT v.n, .str v.s, sF (v.l.map valIn), sF (v.f.map fldIn)])])
    refine hK1 _ _ ?_; clear hK1 K1
    refine awp_toErr 108 [2] ?_
    show AWP _ _ _ _ [(2, .err 108 3)] _
    refine awp_ret ?_
    refine ⟨tv, m, (wth_sub2 (m := m) [(b3, .cells [.str ((gI v.f i2).1), iT (((gI v.f i2).2).kind), iT (((gI v.f i2).2).n), .str (((gI v.f i2).2).s), sF ((((gI v.f i2).2).l).map valIn), sF ((((gI v.f i2).2).f).map fldIn)]), (b1, .cells [iT v.kind, iT v.n, .str v.s, sF (v.l.map valIn), sF (v.f.map fldIn)])] [] hNb3 (by simp only [List.map_cons, List.map_nil, List.forall_mem_cons]; exact ⟨hFb3, hFb1, nfA⟩)), ?_⟩
    show K (.err 108 3) m
   
    rw [shE_3 (by rw [hI2.2.2, all_drop (g := fun p : Str × Val => shpF k p.2) hI2.1 h4, shE_f h5, Bool.false_and])] at hK; exact hK
   replace h5 : shE (shpF k ((gI v.f i2).2)) = 0 := (eq_of_beq (bnF h5))
   refine awp_skip ?_
   refine hK9 _ _ ?_; clear hK9
   have hNd2 : ([b1] : List Nat).Nodup := drop_nodup (L := [(b3, .cells [.str ((gI v.f i2).1), iT (((gI v.f i2).2).kind), iT (((gI v.f i2).2).n), .str (((gI v.f i2).2).s), sF ((((gI v.f i2).2).l).map valIn), sF ((((gI v.f i2).2).f).map fldIn)]), (b1, .cells [iT v.kind, iT v.n, .str v.s, sF (v.l.map valIn), sF (v.f.map fldIn)])]) hNb3 (pick_perm [0] _)
   refine awp_dropP [(b3, .cells [.str ((gI v.f i2).1), iT (((gI v.f i2).2).kind), iT (((gI v.f i2).2).n), .str (((gI v.f i2).2).s), sF ((((gI v.f i2).2).l).map valIn), sF ((((gI v.f i2).2).f).map fldIn)])] [(b1, .cells [iT v.kind, iT v.n, .str v.s, sF (v.l.map valIn), sF (v.f.map fldIn)])] hNb3 (pick_perm [0] _) (by simp only [List.map_cons, List.map_nil, List.forall_mem_cons]; exact ⟨hFb3, nfA⟩) ?_
   refine awp_reg2 [] [182, 183, 184] (by decide) ?_
   intro K1 hK1
   refine ar_add rfl (a := i2) (b := 1) rfl rfl (by omega) (by omega) ?_
   refine ⟨tv, ?_⟩
   show K1 [(182, sF (v.f.map fldIn)), (183, iT (v.f.length : Int)), (184, iT (i2 + 1))] (mW m [(b1, .cells [iT v.kind, iT v.n, .str v.s, sF (v.l.map valIn), sF (v.f.map fldIn)])])
   refine hK1 _ _ ?_; clear hK1 K1
   refine ⟨(i2 + 1), rfl, rfl, ?_, ?_⟩
   ·
    show 0 ≤ ((i2 + 1 : Int)) ∧ ((i2 + 1 : Int)) ≤ v.f.length ∧ v.f.all (fun p => shpF k p.2) = (v.f.drop ((i2 + 1 : Int)).toNat).all (fun p => shpF k p.2)
    exact ⟨by omega, by omega, by rw [hI2.2.2, all_drop (g := fun p : Str × Val => shpF k p.2) hI2.1 h4, shE_t h5, Bool.true_and]⟩
   ·
    show v.f.length - ((i2 + 1 : Int)).toNat < v.f.length - i2.toNat
    omega
  replace h4 : (v.f.length : Int) ≤ i2 := (Int.not_lt.1 (of_decide_eq_false h4))
  refine awp_exit ?_
  refine hK7 _ _ ?_; clear hK7
  refine rS [] [2] (by decide) ?_
  intro K1 hK1
  refine ⟨tv, ?_⟩
  show K1 [(2, .nilIface)] (mW m [(b1, .cells [iT v.kind, iT v.n, .str v.s, sF (v.l.map valIn), sF (v.f.map fldIn)])])
  refine hK1 _ _ ?_; clear hK1 K1
  refine awp_toErr 108 [2] ?_
  show AWP _ _ _ _ [(2, .err 108 0)] _
  refine awp_ret ?_
  refine ⟨tv, m, (wth_sub2 (m := m) [(b1, .cells [iT v.kind, iT v.n, .str v.s, sF (v.l.map valIn), sF (v.f.map fldIn)])] [] hNb1 (by simp only [List.map_cons, List.map_nil, List.forall_mem_cons]; exact ⟨hFb1, nfA⟩)), ?_⟩
  show K (.err 108 0) m
 
  rw [shE_0 (by rw [← hj0, h1]) (by rw [hI.2.2, List.drop_eq_nil_of_le (by omega)]; rfl) (by rw [hI2.2.2, List.drop_eq_nil_of_le (by omega)]; rfl)] at hK; exact hK
 clear hK2
 refine rS [] [1, 11] (by decide) ?_
 intro K1 hK1
 refine ⟨⟨rfl, by decide⟩, ?_⟩
 refine aL rfl (v := iT v.kind) rfl (wG 0 hNb1 rfl) rfl (aO rfl rfl (nB rfl)) rfl ?_
 show K1 [(1, pT b1), (11, iT v.kind)] (mW m [(b1, .cells [iT v.kind, iT v.n, .str v.s, sF (v.l.map valIn), sF (v.f.map fldIn)])])
 refine hK1 _ _ ?_; clear hK1 K1
 refine awp_block ?_
 refine rS [] [1, 11, 12] (by decide) ?_
 intro K1 hK1
 refine ⟨tv, tv, ?_⟩
 show K1 [(1, pT b1), (11, iT v.kind), (12, .bool (v.kind == 0))] _
 refine hK1 _ _ ?_; clear hK1 K1
 refine cD rfl rfl (fun h6 => ?_) (fun h6 => ?_)
 ·
  replace h6 : v.kind = 0 := (eq_of_beq h6)
  refine awp_reg2 [] [1, 3] (by decide) ?_
  intro K1 hK1
  suffices key : K1 [(1, pT b1), (3, .bool (((v.n == 0) && (v.s == ([]))) && (((v.l.length : Int) + (v.f.length : Int)) == 0)))] (mW m [(b1, .cells [iT v.kind, iT v.n, .str v.s, sF (v.l.map valIn), sF (v.f.map fldIn)])]) by
   refine ⟨⟨rfl, by decide⟩, ?_⟩
   refine aL rfl (v := iT v.n) rfl (wG 0 hNb1 rfl) rfl (aO rfl rfl (nB rfl)) rfl ?_
   refine ⟨tv, tv, ?_⟩
   show aopsR _ _ _ _ _ [(17, .bool (v.n == 0)), (16, .bool (v.n == 0)), (15, iT v.n), (14, .ptr ⟨b1, 1, none⟩), (1, pT b1), (11, iT v.kind), (12, .bool (v.kind == 0))] _
   revert key
   cases h7 : (v.n == 0)
   ·
    replace h7 : v.n ≠ 0 := (ne_of_beq_false h7)
    intro key
    refine ar_off rfl (ar_off rfl (ar_off rfl ?_))
    refine ⟨tv, ?_⟩
    refine ar_off rfl (ar_off rfl (ar_off rfl (ar_off rfl (ar_off rfl (ar_off rfl (ar_off rfl (ar_off rfl ?_)))))))
    refine ⟨tv, ?_⟩
    exact key
   ·
    replace h7 : v.n = 0 := (eq_of_beq h7)
    intro key
    refine ⟨⟨rfl, by decide⟩, ?_⟩
    refine aL rfl (v := .str v.s) rfl (wG 0 hNb1 rfl) rfl (aO rfl rfl (nB rfl)) rfl ?_
    refine ⟨tv, ?_⟩
    refine ⟨tv, ?_⟩
    show aopsR _ _ _ _ _ [(22, .bool (v.s == ([]))), (21, .bool (v.s == ([]))), (20, .bool (v.s == ([]))), (19, .str v.s), (18, .ptr ⟨b1, 2, none⟩), (17, .bool true), (16, .bool true), (15, iT v.n), (14, .ptr ⟨b1, 1, none⟩), (1, pT b1), (11, iT v.kind), (12, .bool (v.kind == 0))] _
    revert key
    cases h8 : (v.s == ([]))
    ·
     replace h8 : v.s ≠ [] := (ne_of_beq_false h8)
     intro key
     refine ar_off rfl (ar_off rfl (ar_off rfl (ar_off rfl (ar_off rfl (ar_off rfl (ar_off rfl (ar_off rfl ?_)))))))
     refine ⟨tv, ?_⟩
     exact key
    ·
     replace h8 : v.s = [] := (eq_of_beq h8)
     intro key
     refine ⟨⟨rfl, by decide⟩, ?_⟩
     refine aL rfl (v := sF (v.l.map valIn)) rfl (wG 0 hNb1 rfl) rfl (aO rfl rfl (nB rfl)) rfl ?_
     refine ar_len rfl valIn v.l rfl rfl rfl ?_
     refine ⟨⟨rfl, by decide⟩, ?_⟩
     refine aL rfl (v := sF (v.f.map fldIn)) rfl (wG 0 hNb1 rfl) rfl (aO rfl rfl (nB rfl)) rfl ?_
     refine ar_len rfl fldIn v.f rfl rfl rfl ?_
     refine ar_add rfl (a := (v.l.length : Int)) (b := (v.f.length : Int)) rfl rfl (by omega) (by omega) ?_
     refine ⟨tv, ?_⟩
     refine ⟨tv, ?_⟩
     exact key
  refine hK1 _ _ ?_; clear hK1 K1
  refine join0 (((v.n == 0) && (v.s == ([]))) && (((v.l.length : Int) + (v.f.length : Int)) == 0)) ?_
  unfold shpOk
  repeat' split
  all_goals first | omega | rfl
 replace h6 : v.kind ≠ 0 := (ne_of_beq_false h6)
 refine rS [] [1, 11, 32] (by decide) ?_
 intro K1 hK1
 refine ⟨tv, tv, ?_⟩
 show K1 [(1, pT b1), (11, iT v.kind), (32, .bool (v.kind == 1))] (mW m [(b1, .cells [iT v.kind, iT v.n, .str v.s, sF (v.l.map valIn), sF (v.f.map fldIn)])])
 refine hK1 _ _ ?_; clear hK1 K1
 refine cD rfl rfl (fun h9 => ?_) (fun h9 => ?_)
 ·
  replace h9 : v.kind = 1 := (eq_of_beq h9)
  refine awp_reg2 [] [1, 3] (by decide) ?_
  intro K1 hK1
  suffices key : K1 [(1, pT b1), (3, .bool ((((decide (-1000000000 ≤ v.n)) && (decide (v.n ≤ 1000000000))) && (v.s == ([]))) && (((v.l.length : Int) + (v.f.length : Int)) == 0)))] (mW m [(b1, .cells [iT v.kind, iT v.n, .str v.s, sF (v.l.map valIn), sF (v.f.map fldIn)])]) by
   refine ⟨⟨rfl, by decide⟩, ?_⟩
   refine aL rfl (v := iT v.n) rfl (wG 0 hNb1 rfl) rfl (aO rfl rfl (nB rfl)) rfl ?_
   refine ⟨tv, tv, ?_⟩
   show aopsR _ _ _ _ _ [(37, .bool (decide (-1000000000 ≤ v.n))), (36, .bool (decide (-1000000000 ≤ v.n))), (35, iT v.n), (34, .ptr ⟨b1, 1, none⟩), (1, pT b1), (11, iT v.kind), (32, .bool (v.kind == 1))] _
   revert key
   cases h10 : (decide (-1000000000 ≤ v.n))
   ·
    replace h10 : v.n < -1000000000 := (Int.not_le.1 (of_decide_eq_false h10))
    intro key
    refine ar_off rfl (ar_off rfl (ar_off rfl ?_))
    refine ⟨tv, ?_⟩
    refine ar_off rfl (ar_off rfl (ar_off rfl ?_))
    refine ⟨tv, ?_⟩
    refine ar_off rfl (ar_off rfl (ar_off rfl (ar_off rfl (ar_off rfl (ar_off rfl (ar_off rfl (ar_off rfl ?_)))))))
    refine ⟨tv, ?_⟩
    exact key
   ·
    replace h10 : -1000000000 ≤ v.n := (of_decide_eq_true h10)
    intro key
    refine ⟨⟨rfl, by decide⟩, ?_⟩
    refine aL rfl (v := iT v.n) rfl (wG 0 hNb1 rfl) rfl (aO rfl rfl (nB rfl)) rfl ?_
    refine ⟨tv, ?_⟩
    refine ⟨tv, ?_⟩
    show aopsR _ _ _ _ _ [(42, .bool (decide (v.n ≤ 1000000000))), (41, .bool (decide (v.n ≤ 1000000000))), (40, .bool (decide (v.n ≤ 1000000000))), (39, iT v.n), (38, .ptr ⟨b1, 1, none⟩), (37, .bool true), (36, .bool true), (35, iT v.n), (34, .ptr ⟨b1, 1, none⟩), (1, pT b1), (11, iT v.kind), (32, .bool (v.kind == 1))] _
    revert key
    cases h11 : (decide (v.n ≤ 1000000000))
    ·
     replace h11 : 1000000000 < v.n := (Int.not_le.1 (of_decide_eq_false h11))
     intro key
     refine ar_off rfl (ar_off rfl (ar_off rfl ?_))
     refine ⟨tv, ?_⟩
     refine ar_off rfl (ar_off rfl (ar_off rfl (ar_off rfl (ar_off rfl (ar_off rfl (ar_off rfl (ar_off rfl ?_)))))))
     refine ⟨tv, ?_⟩
     exact key
    ·
     replace h11 : v.n ≤ 1000000000 := (of_decide_eq_true h11)
     intro key
     refine ⟨⟨rfl, by decide⟩, ?_⟩
     refine aL rfl (v := .str v.s) rfl (wG 0 hNb1 rfl) rfl (aO rfl rfl (nB rfl)) rfl ?_
     refine ⟨tv, ?_⟩
     refine ⟨tv, ?_⟩
     show aopsR _ _ _ _ _ [(47, .bool (v.s == ([]))), (46, .bool (v.s == ([]))), (45, .bool (v.s == ([]))), (44, .str v.s), (43, .ptr ⟨b1, 2, none⟩), (42, .bool true), (41, .bool true), (40, .bool true), (39, iT v.n), (38, .ptr ⟨b1, 1, none⟩), (37, .bool true), (36, .bool true), (35, iT v.n), (34, .ptr ⟨b1, 1, none⟩), (1, pT b1), (11, iT v.kind), (32, .bool (v.kind == 1))] _
     revert key
     cases h12 : (v.s == ([]))
     ·
      replace h12 : v.s ≠ [] := (ne_of_beq_false h12)
      intro key
      refine ar_off rfl (ar_off rfl (ar_off rfl (ar_off rfl (ar_off rfl (ar_off rfl (ar_off rfl (ar_off rfl ?_)))))))
      refine ⟨tv, ?_⟩
      exact key
     ·
      replace h12 : v.s = [] := (eq_of_beq h12)
      intro key
      refine ⟨⟨rfl, by decide⟩, ?_⟩
      refine aL rfl (v := sF (v.l.map valIn)) rfl (wG 0 hNb1 rfl) rfl (aO rfl rfl (nB rfl)) rfl ?_
      refine ar_len rfl valIn v.l rfl rfl rfl ?_
      refine ⟨⟨rfl, by decide⟩, ?_⟩
      refine aL rfl (v := sF (v.f.map fldIn)) rfl (wG 0 hNb1 rfl) rfl (aO rfl rfl (nB rfl)) rfl ?_
      refine ar_len rfl fldIn v.f rfl rfl rfl ?_
      refine ar_add rfl (a := (v.l.length : Int)) (b := (v.f.length : Int)) rfl rfl (by omega) (by omega) ?_
      refine ⟨tv, ?_⟩
      refine ⟨tv, ?_⟩
      exact key
  refine hK1 _ _ ?_; clear hK1 K1
  refine join0 ((((decide (-1000000000 ≤ v.n)) && (decide (v.n ≤ 1000000000))) && (v.s == ([]))) && (((v.l.length : Int) + (v.f.length : Int)) == 0)) ?_
  unfold shpOk
  repeat' split
  all_goals first | omega | rfl
 replace h9 : v.kind ≠ 1 := (ne_of_beq_false h9)
 refine rS [] [1, 11, 57] (by decide) ?_
 intro K1 hK1
 refine ⟨tv, tv, ?_⟩
 show K1 [(1, pT b1), (11, iT v.kind), (57, .bool (v.kind == 2))] (mW m [(b1, .cells [iT v.kind, iT v.n, .str v.s, sF (v.l.map valIn), sF (v.f.map fldIn)])])
 refine hK1 _ _ ?_; clear hK1 K1
 refine cD rfl rfl (fun h13 => ?_) (fun h13 => ?_)
 ·
  replace h13 : v.kind = 2 := (eq_of_beq h13)
  refine awp_reg2 [] [1, 3] (by decide) ?_
  intro K1 hK1
  suffices key : K1 [(1, pT b1), (3, .bool (((v.n == 0) && (decide ((v.s.length : Int) ≤ 40))) && (((v.l.length : Int) + (v.f.length : Int)) == 0)))] (mW m [(b1, .cells [iT v.kind, iT v.n, .str v.s, sF (v.l.map valIn), sF (v.f.map fldIn)])]) by
   refine ⟨⟨rfl, by decide⟩, ?_⟩
   refine aL rfl (v := iT v.n) rfl (wG 0 hNb1 rfl) rfl (aO rfl rfl (nB rfl)) rfl ?_
   refine ⟨tv, tv, ?_⟩
   show aopsR _ _ _ _ _ [(62, .bool (v.n == 0)), (61, .bool (v.n == 0)), (60, iT v.n), (59, .ptr ⟨b1, 1, none⟩), (1, pT b1), (11, iT v.kind), (57, .bool (v.kind == 2))] _
   revert key
   cases h14 : (v.n == 0)
   ·
    replace h14 : v.n ≠ 0 := (ne_of_beq_false h14)
    intro key
    refine ar_off rfl (ar_off rfl (ar_off rfl (ar_off rfl ?_)))
    refine ⟨tv, ?_⟩
    refine ar_off rfl (ar_off rfl (ar_off rfl (ar_off rfl (ar_off rfl (ar_off rfl (ar_off rfl (ar_off rfl ?_)))))))
    refine ⟨tv, ?_⟩
    exact key
   ·
    replace h14 : v.n = 0 := (eq_of_beq h14)
    intro key
    refine ⟨⟨rfl, by decide⟩, ?_⟩
    refine aL rfl (v := .str v.s) rfl (wG 0 hNb1 rfl) rfl (aO rfl rfl (nB rfl)) rfl ?_
    refine ⟨tv, tv, ?_⟩
    refine ⟨tv, ?_⟩
    show aopsR _ _ _ _ _ [(68, .bool (decide ((v.s.length : Int) ≤ 40))), (67, .bool (decide ((v.s.length : Int) ≤ 40))), (66, .bool (decide ((v.s.length : Int) ≤ 40))), (65, iT (v.s.length : Int)), (64, .str v.s), (63, .ptr ⟨b1, 2, none⟩), (62, .bool true), (61, .bool true), (60, iT v.n), (59, .ptr ⟨b1, 1, none⟩), (1, pT b1), (11, iT v.kind), (57, .bool (v.kind == 2))] _
    revert key
    cases h15 : (decide ((v.s.length : Int) ≤ 40))
    ·
     replace h15 : 40 < (v.s.length : Int) := (Int.not_le.1 (of_decide_eq_false h15))
     intro key
     refine ar_off rfl (ar_off rfl (ar_off rfl (ar_off rfl (ar_off rfl (ar_off rfl (ar_off rfl (ar_off rfl ?_)))))))
     refine ⟨tv, ?_⟩
     exact key
    ·
     replace h15 : (v.s.length : Int) ≤ 40 := (of_decide_eq_true h15)
     intro key
     refine ⟨⟨rfl, by decide⟩, ?_⟩
     refine aL rfl (v := sF (v.l.map valIn)) rfl (wG 0 hNb1 rfl) rfl (aO rfl rfl (nB rfl)) rfl ?_
     refine ar_len rfl valIn v.l rfl rfl rfl ?_
     refine ⟨⟨rfl, by decide⟩, ?_⟩
     refine aL rfl (v := sF (v.f.map fldIn)) rfl (wG 0 hNb1 rfl) rfl (aO rfl rfl (nB rfl)) rfl ?_
     refine ar_len rfl fldIn v.f rfl rfl rfl ?_
     refine ar_add rfl (a := (v.l.length : Int)) (b := (v.f.length : Int)) rfl rfl (by omega) (by omega) ?_
     refine ⟨tv, ?_⟩
     refine ⟨tv, ?_⟩
     exact key
  refine hK1 _ _ ?_; clear hK1 K1
  refine join0 (((v.n == 0) && (decide ((v.s.length : Int) ≤ 40))) && (((v.l.length : Int) + (v.f.length : Int)) == 0)) ?_
  unfold shpOk
  repeat' split
  all_goals first | omega | rfl
 replace h13 : v.kind ≠ 2 := (ne_of_beq_false h13)
 refine rS [] [1, 11, 78] (by decide) ?_
 intro K1 hK1
 refine ⟨tv, tv, ?_⟩
 show K1 [(1, pT b1), (11, iT v.kind), (78, .bool (v.kind == 3))] (mW m [(b1, .cells [iT v.kind, iT v.n, .str v.s, sF (v.l.map valIn), sF (v.f.map fldIn)])])
 refine hK1 _ _ ?_; clear hK1 K1
 refine cD rfl rfl (fun h16 => ?_) (fun h16 => ?_)
 ·
  replace h16 : v.kind = 3 := (eq_of_beq h16)
  refine awp_reg2 [] [1, 3] (by decide) ?_
  intro K1 hK1
  suffices key : K1 [(1, pT b1), (3, .bool ((((v.n == 0) || (v.n == 1)) && (v.s == ([]))) && (((v.l.length : Int) + (v.f.length : Int)) == 0)))] (mW m [(b1, .cells [iT v.kind, iT v.n, .str v.s, sF (v.l.map valIn), sF (v.f.map fldIn)])]) by
   refine ⟨⟨rfl, by decide⟩, ?_⟩
   refine aL rfl (v := iT v.n) rfl (wG 0 hNb1 rfl) rfl (aO rfl rfl (nB rfl)) rfl ?_
   refine ⟨tv, tv, ?_⟩
   show aopsR _ _ _ _ _ [(83, .bool (v.n == 0)), (82, .bool (v.n == 0)), (81, iT v.n), (80, .ptr ⟨b1, 1, none⟩), (1, pT b1), (11, iT v.kind), (78, .bool (v.kind == 3))] _
   revert key
   cases h17 : (v.n == 0)
   ·
    replace h17 : v.n ≠ 0 := (ne_of_beq_false h17)
    intro key
    refine ⟨⟨rfl, by decide⟩, ?_⟩
    refine aL rfl (v := iT v.n) rfl (wG 0 hNb1 rfl) rfl (aO rfl rfl (nB rfl)) rfl ?_
    refine ⟨tv, ?_⟩
    refine ⟨tv, ?_⟩
    show aopsR _ _ _ _ _ [(88, .bool (v.n == 1)), (87, .bool (v.n == 1)), (86, .bool (v.n == 1)), (85, iT v.n), (84, .ptr ⟨b1, 1, none⟩), (83, .bool false), (82, .bool false), (81, iT v.n), (80, .ptr ⟨b1, 1, none⟩), (1, pT b1), (11, iT v.kind), (78, .bool (v.kind == 3))] _
    revert key
    cases h18 : (v.n == 1)
    ·
     replace h18 : v.n ≠ 1 := (ne_of_beq_false h18)
     intro key
     refine ar_off rfl (ar_off rfl (ar_off rfl ?_))
     refine ⟨tv, ?_⟩
     refine ar_off rfl (ar_off rfl (ar_off rfl (ar_off rfl (ar_off rfl (ar_off rfl (ar_off rfl (ar_off rfl ?_)))))))
     refine ⟨tv, ?_⟩
     exact key
    ·
     replace h18 : v.n = 1 := (eq_of_beq h18)
     intro key
     refine ⟨⟨rfl, by decide⟩, ?_⟩
     refine aL rfl (v := .str v.s) rfl (wG 0 hNb1 rfl) rfl (aO rfl rfl (nB rfl)) rfl ?_
     refine ⟨tv, ?_⟩
     refine ⟨tv, ?_⟩
     show aopsR _ _ _ _ _ [(93, .bool (v.s == ([]))), (92, .bool (v.s == ([]))), (91, .bool (v.s == ([]))), (90, .str v.s), (89, .ptr ⟨b1, 2, none⟩), (88, .bool true), (87, .bool true), (86, .bool true), (85, iT v.n), (84, .ptr ⟨b1, 1, none⟩), (83, .bool false), (82, .bool false), (81, iT v.n), (80, .ptr ⟨b1, 1, none⟩), (1, pT b1), (11, iT v.kind), (78, .bool (v.kind == 3))] _
     revert key
     cases h19 : (v.s == ([]))
     ·
      replace h19 : v.s ≠ [] := (ne_of_beq_false h19)
      intro key
      refine ar_off rfl (ar_off rfl (ar_off rfl (ar_off rfl (ar_off rfl (ar_off rfl (ar_off rfl (ar_off rfl ?_)))))))
      refine ⟨tv, ?_⟩
      exact key
     ·
      replace h19 : v.s = [] := (eq_of_beq h19)
      intro key
      refine ⟨⟨rfl, by decide⟩, ?_⟩
      refine aL rfl (v := sF (v.l.map valIn)) rfl (wG 0 hNb1 rfl) rfl (aO rfl rfl (nB rfl)) rfl ?_
      refine ar_len rfl valIn v.l rfl rfl rfl ?_
      refine ⟨⟨rfl, by decide⟩, ?_⟩
      refine aL rfl (v := sF (v.f.map fldIn)) rfl (wG 0 hNb1 rfl) rfl (aO rfl rfl (nB rfl)) rfl ?_
      refine ar_len rfl fldIn v.f rfl rfl rfl ?_
      refine ar_add rfl (a := (v.l.length : Int)) (b := (v.f.length : Int)) rfl rfl (by omega) (by omega) ?_
      refine ⟨tv, ?_⟩
      refine ⟨tv, ?_⟩
      exact key
   ·
    replace h17 : v.n = 0 := (eq_of_beq h17)
    intro key
    refine ar_off rfl (ar_off rfl (ar_off rfl ?_))
    refine ⟨tv, ⟨rfl, by decide⟩, ?_⟩
    refine aL rfl (v := .str v.s) rfl (wG 0 hNb1 rfl) rfl (aO rfl rfl (nB rfl)) rfl ?_
    refine ⟨tv, ?_⟩
    refine ⟨tv, ?_⟩
    show aopsR _ _ _ _ _ [(93, .bool (v.s == ([]))), (92, .bool (v.s == ([]))), (91, .bool (v.s == ([]))), (90, .str v.s), (89, .ptr ⟨b1, 2, none⟩), (88, .bool true), (87, .bool true), (86, .lazy false (.junk)), (85, .lazy false (.junk)), (84, .lazy false (.junk)), (83, .bool true), (82, .bool true), (81, iT v.n), (80, .ptr ⟨b1, 1, none⟩), (1, pT b1), (11, iT v.kind), (78, .bool (v.kind == 3))] _
    revert key
    cases h20 : (v.s == ([]))
    ·
     replace h20 : v.s ≠ [] := (ne_of_beq_false h20)
     intro key
     refine ar_off rfl (ar_off rfl (ar_off rfl (ar_off rfl (ar_off rfl (ar_off rfl (ar_off rfl (ar_off rfl ?_)))))))
     refine ⟨tv, ?_⟩
     exact key
    ·
     replace h20 : v.s = [] := (eq_of_beq h20)
     intro key
     refine ⟨⟨rfl, by decide⟩, ?_⟩
     refine aL rfl (v := sF (v.l.map valIn)) rfl (wG 0 hNb1 rfl) rfl (aO rfl rfl (nB rfl)) rfl ?_
     refine ar_len rfl valIn v.l rfl rfl rfl ?_
     refine ⟨⟨rfl, by decide⟩, ?_⟩
     refine aL rfl (v := sF (v.f.map fldIn)) rfl (wG 0 hNb1 rfl) rfl (aO rfl rfl (nB rfl)) rfl ?_
     refine ar_len rfl fldIn v.f rfl rfl rfl ?_
     refine ar_add rfl (a := (v.l.length : Int)) (b := (v.f.length : Int)) rfl rfl (by omega) (by omega) ?_
     refine ⟨tv, ?_⟩
     refine ⟨tv, ?_⟩
     exact key
  refine hK1 _ _ ?_; clear hK1 K1
  refine join0 ((((v.n == 0) || (v.n == 1)) && (v.s == ([]))) && (((v.l.length : Int) + (v.f.length : Int)) == 0)) ?_
  unfold shpOk
  repeat' split
  all_goals first | omega | rfl
 replace h16 : v.kind ≠ 3 := (ne_of_beq_false h16)
 refine rS [] [1, 11, 103] (by decide) ?_
 intro K1 hK1
 refine ⟨tv, tv, ?_⟩
 show K1 [(1, pT b1), (11, iT v.kind), (103, .bool (v.kind == 4))] (mW m [(b1, .cells [iT v.kind, iT v.n, .str v.s, sF (v.l.map valIn), sF (v.f.map fldIn)])])
 refine hK1 _ _ ?_; clear hK1 K1
 refine cD rfl rfl (fun h21 => ?_) (fun h21 => ?_)
 ·
  replace h21 : v.kind = 4 := (eq_of_beq h21)
  refine awp_reg2 [] [1, 3] (by decide) ?_
  intro K1 hK1
  suffices key : K1 [(1, pT b1), (3, .bool (((v.n == 0) && (v.s == ([]))) && ((v.f.length : Int) == 0)))] (mW m [(b1, .cells [iT v.kind, iT v.n, .str v.s, sF (v.l.map valIn), sF (v.f.map fldIn)])]) by
   refine ⟨⟨rfl, by decide⟩, ?_⟩
   refine aL rfl (v := iT v.n) rfl (wG 0 hNb1 rfl) rfl (aO rfl rfl (nB rfl)) rfl ?_
   refine ⟨tv, tv, ?_⟩
   show aopsR _ _ _ _ _ [(108, .bool (v.n == 0)), (107, .bool (v.n == 0)), (106, iT v.n), (105, .ptr ⟨b1, 1, none⟩), (1, pT b1), (11, iT v.kind), (103, .bool (v.kind == 4))] _
   revert key
   cases h22 : (v.n == 0)
   ·
    replace h22 : v.n ≠ 0 := (ne_of_beq_false h22)
    intro key
    refine ar_off rfl (ar_off rfl (ar_off rfl ?_))
    refine ⟨tv, ?_⟩
    refine ar_off rfl (ar_off rfl (ar_off rfl (ar_off rfl ?_)))
    refine ⟨tv, ?_⟩
    exact key
   ·
    replace h22 : v.n = 0 := (eq_of_beq h22)
    intro key
    refine ⟨⟨rfl, by decide⟩, ?_⟩
    refine aL rfl (v := .str v.s) rfl (wG 0 hNb1 rfl) rfl (aO rfl rfl (nB rfl)) rfl ?_
    refine ⟨tv, ?_⟩
    refine ⟨tv, ?_⟩
    show aopsR _ _ _ _ _ [(113, .bool (v.s == ([]))), (112, .bool (v.s == ([]))), (111, .bool (v.s == ([]))), (110, .str v.s), (109, .ptr ⟨b1, 2, none⟩), (108, .bool true), (107, .bool true), (106, iT v.n), (105, .ptr ⟨b1, 1, none⟩), (1, pT b1), (11, iT v.kind), (103, .bool (v.kind == 4))] _
    revert key
    cases h23 : (v.s == ([]))
    ·
     replace h23 : v.s ≠ [] := (ne_of_beq_false h23)
     intro key
     refine ar_off rfl (ar_off rfl (ar_off rfl (ar_off rfl ?_)))
     refine ⟨tv, ?_⟩
     exact key
    ·
     replace h23 : v.s = [] := (eq_of_beq h23)
     intro key
     refine ⟨⟨rfl, by decide⟩, ?_⟩
     refine aL rfl (v := sF (v.f.map fldIn)) rfl (wG 0 hNb1 rfl) rfl (aO rfl rfl (nB rfl)) rfl ?_
     refine ar_len rfl fldIn v.f rfl rfl rfl ?_
     refine ⟨tv, ?_⟩
     refine ⟨tv, ?_⟩
     exact key
  refine hK1 _ _ ?_; clear hK1 K1
  refine join0 (((v.n == 0) && (v.s == ([]))) && ((v.f.length : Int) == 0)) ?_
  unfold shpOk
  repeat' split
  all_goals first | omega | rfl
 replace h21 : v.kind ≠ 4 := (ne_of_beq_false h21)
 refine rS [] [1, 119] (by decide) ?_
 intro K1 hK1
 refine ⟨tv, tv, ?_⟩
 show K1 [(1, pT b1), (119, .bool (v.kind == 5))] (mW m [(b1, .cells [iT v.kind, iT v.n, .str v.s, sF (v.l.map valIn), sF (v.f.map fldIn)])])
 refine hK1 _ _ ?_; clear hK1 K1
 refine cD rfl rfl (fun h24 => ?_) (fun h24 => ?_)
 ·
  replace h24 : v.kind = 5 := (eq_of_beq h24)
  refine rS [] [1, 3] (by decide) ?_
  intro K1 hK1
  suffices key : K1 [(1, pT b1), (3, .bool (((v.n == 0) && (v.s == ([]))) && ((v.l.length : Int) == 0)))] (mW m [(b1, .cells [iT v.kind, iT v.n, .str v.s, sF (v.l.map valIn), sF (v.f.map fldIn)])]) by
   refine ⟨⟨rfl, by decide⟩, ?_⟩
   refine aL rfl (v := iT v.n) rfl (wG 0 hNb1 rfl) rfl (aO rfl rfl (nB rfl)) rfl ?_
   refine ⟨tv, tv, ?_⟩
   show aopsR _ _ _ _ _ [(124, .bool (v.n == 0)), (123, .bool (v.n == 0)), (122, iT v.n), (121, .ptr ⟨b1, 1, none⟩), (1, pT b1), (119, .bool (v.kind == 5))] _
   revert key
   cases h25 : (v.n == 0)
   ·
    replace h25 : v.n ≠ 0 := (ne_of_beq_false h25)
    intro key
    refine ar_off rfl (ar_off rfl (ar_off rfl ?_))
    refine ⟨tv, ?_⟩
    refine ar_off rfl (ar_off rfl (ar_off rfl (ar_off rfl ?_)))
    refine ⟨tv, ?_⟩
    exact key
   ·
    replace h25 : v.n = 0 := (eq_of_beq h25)
    intro key
    refine ⟨⟨rfl, by decide⟩, ?_⟩
    refine aL rfl (v := .str v.s) rfl (wG 0 hNb1 rfl) rfl (aO rfl rfl (nB rfl)) rfl ?_
    refine ⟨tv, ?_⟩
    refine ⟨tv, ?_⟩
    show aopsR _ _ _ _ _ [(129, .bool (v.s == ([]))), (128, .bool (v.s == ([]))), (127, .bool (v.s == ([]))), (126, .str v.s), (125, .ptr ⟨b1, 2, none⟩), (124, .bool true), (123, .bool true), (122, iT v.n), (121, .ptr ⟨b1, 1, none⟩), (1, pT b1), (119, .bool (v.kind == 5))] _
    revert key
    cases h26 : (v.s == ([]))
    ·
     replace h26 : v.s ≠ [] := (ne_of_beq_false h26)
     intro key
     refine ar_off rfl (ar_off rfl (ar_off rfl (ar_off rfl ?_)))
     refine ⟨tv, ?_⟩
     exact key
    ·
     replace h26 : v.s = [] := (eq_of_beq h26)
     intro key
     refine ⟨⟨rfl, by decide⟩, ?_⟩
     refine aL rfl (v := sF (v.l.map valIn)) rfl (wG 0 hNb1 rfl) rfl (aO rfl rfl (nB rfl)) rfl ?_
     refine ar_len rfl valIn v.l rfl rfl rfl ?_
     refine ⟨tv, ?_⟩
     refine ⟨tv, ?_⟩
     exact key
  refine hK1 _ _ ?_; clear hK1 K1
  refine rS [] [1, 3, 136, 137, 138] (by decide) ?_
  intro K1 hK1
  refine ⟨⟨rfl, by decide⟩, ?_⟩
  refine aL rfl (v := sF (v.f.map fldIn)) rfl (wG 0 hNb1 rfl) rfl (aO rfl rfl (nB rfl)) rfl ?_
  refine ar_len rfl fldIn v.f rfl rfl rfl ?_
  refine ⟨tv, ?_⟩
  show K1 [(1, pT b1), (3, .bool (((v.n == 0) && (v.s == ([]))) && ((v.l.length : Int) == 0))), (136, sF (v.f.map fldIn)), (137, iT (v.f.length : Int)), (138, iT 0)] (mW m [(b1, .cells [iT v.kind, iT v.n, .str v.s, sF (v.l.map valIn), sF (v.f.map fldIn)])])
  refine hK1 _ _ ?_; clear hK1 K1
  refine awp_block ?_
  refine awp_keep [1, 3, 136, 137, 138] (by decide) ?_
  refine awp_loop_st (σ := Bool × Int) (fun ⟨ok, i⟩ => [(1, pT b1), (3, .bool ok), (136, sF (v.f.map fldIn)), (137, iT (v.f.length : Int)), (138, iT i)]) (fun _ => (mW m [(b1, .cells [iT v.kind, iT v.n, .str v.s, sF (v.l.map valIn), sF (v.f.map fldIn)])])) (fun ⟨ok, i⟩ => 0 ≤ i ∧ i ≤ v.f.length ∧ shpOk v = (ok && recOk (prevN v.f i) (v.f.drop i.toNat))) (fun ⟨ok, i⟩ => v.f.length - i.toNat) ((((v.n == 0) && (v.s == ([]))) && ((v.l.length : Int) == 0)), 0) rfl rfl ?_ ?_
  ·
   show 0 ≤ ((0 : Int)) ∧ ((0 : Int)) ≤ v.f.length ∧ shpOk v = ((((((v.n == 0) && (v.s == ([]))) && ((v.l.length : Int) == 0)) : Bool)) && recOk (prevN v.f ((0 : Int))) (v.f.drop ((0 : Int)).toNat))
   refine ⟨by omega, by omega, ?_⟩
   unfold shpOk
   rw [if_neg (by assumption), if_neg (by assumption), if_neg (by assumption), if_neg (by assumption), if_neg (by assumption), if_pos (by assumption)]
   rfl
  rintro ⟨ok, i⟩ hI
  replace hI : 0 ≤ i ∧ i ≤ v.f.length ∧ shpOk v = (ok && recOk (prevN v.f i) (v.f.drop i.toNat)) := hI
  show AWP _ _ _ _ [(1, pT b1), (3, .bool ok), (136, sF (v.f.map fldIn)), (137, iT (v.f.length : Int)), (138, iT i)] (mW m [(b1, .cells [iT v.kind, iT v.n, .str v.s, sF (v.l.map valIn), sF (v.f.map fldIn)])])
  refine rS [] [1, 3, 136, 137, 138, 139] (by decide) ?_
  intro K1 hK1
  refine ⟨tv, ?_⟩
  show K1 [(1, pT b1), (3, .bool ok), (136, sF (v.f.map fldIn)), (137, iT (v.f.length : Int)), (138, iT i), (139, .bool (decide (i < (v.f.length : Int))))] _
  refine hK1 _ _ ?_; clear hK1 K1
  refine sK ?_; intro K10 hK10
  refine cD rfl rfl (fun h27 => ?_) (fun h27 => ?_)
  ·
   replace h27 : i < (v.f.length : Int) := (of_decide_eq_true h27)
   refine awp_bdL 136 (o := false) (l := v.f.map fldIn) rfl (fun hbl => ?_)
   have hbdF : (gI v.f i).1.length ≤ 140737488355328 := bdL_map (f := fldIn) hbl (gI_mem hI.1 h27) 0 (Nat.succ_pos _)
   refine awp_skip ?_
   refine hK10 _ _ ?_; clear hK10
   refine sK ?_; intro K11 hK11
   refine awp_block ?_
   refine rS [] [1, 3, 4, 5, 136, 137, 138] (by decide) ?_
   intro K1 hK1
   refine ⟨tv, ?_⟩
   refine ar_index rfl fldTop v.f i rfl rfl (fldMap v.f) rfl rfl (by decide) (fun _ => rfl) (by omega) (by omega) ?_
   refine ⟨(apartOk_agg rfl rfl (nB rfl)), ?_⟩
   refine ar_alloc rfl (z := .agg [.str ([]), iT 0, iT 0, .str ([]), .slice true [], .slice true []]) rfl rfl ?_
   intro b4 hb4
   have hFb4 : m b4 = none := wth_none hb4
   have hNb4 : ([b4, b1] : List Nat).Nodup := wth_nodup hb4 hNb1
   refine ⟨tv, ?_⟩
   refine aS rfl 0 (v := fldTop (gI v.f i)) (l' := [.str ((gI v.f i).1), iT (((gI v.f i).2).kind), iT (((gI v.f i).2).n), .str (((gI v.f i).2).s), sF ((((gI v.f i).2).l).map valIn), sF ((((gI v.f i).2).f).map fldIn)]) rfl (by rfl) hNb4 rfl rfl rfl rfl rfl (nB rfl) rfl ?_
   show K1 [(1, pT b1), (3, .bool ok), (4, iT i), (5, pT b4), (136, sF (v.f.map fldIn)), (137, iT (v.f.length : Int)), (138, iT i)] (mW m [(b4, .cells [.str ((gI v.f i).1), iT (((gI v.f i).2).kind), iT (((gI v.f i).2).n), .str (((gI v.f i).2).s), sF ((((gI v.f i).2).l).map valIn), sF ((((gI v.f i).2).f).map fldIn)]), (b1, .cells [iT v.kind, iT v.n, .str v.s, sF (v.l.map valIn), sF (v.f.map fldIn)])])
   refine hK1 _ _ ?_; clear hK1 K1
   refine awp_draw_k Try.mixed [(.bool (nameV ((gI v.f i).1)))] [1, 3, 136, 137, 138] (by decide) (by decide) ?_
   intro K1 hK1
   suffices key : K1 [(1, pT b1), (3, .bool ((ok && (nameV ((gI v.f i).1))) && ((i == 0) || (Op.bytesLess ((gI v.f (i - 1)).1) ((gI v.f i).1))))), (136, sF (v.f.map fldIn)), (137, iT (v.f.length : Int)), (138, iT i)] (mW m [(b4, .cells [.str ((gI v.f i).1), iT (((gI v.f i).2).kind), iT (((gI v.f i).2).n), .str (((gI v.f i).2).s), sF ((((gI v.f i).2).l).map valIn), sF ((((gI v.f i).2).f).map fldIn)]), (b1, .cells [iT v.kind, iT v.n, .str v.s, sF (v.l.map valIn), sF (v.f.map fldIn)])]) by
    refine ⟨tv, tv, ?_⟩
    show pseq _ _ _ _ _ [(144, .bool ok), (143, .bool ok), (1, pT b1), (3, .bool ok), (4, iT i), (5, pT b4), (136, sF (v.f.map fldIn)), (137, iT (v.f.length : Int)), (138, iT i)] _
    revert key
    cases h28 : ok
    ·
     replace h28 : ok = false := h28
     intro key
     refine pq_off rfl rfl ?_
     refine pq_off rfl rfl ?_
     refine pq_offc rfl ?_
     refine ⟨tv, ?_⟩
     refine ⟨tv, ?_⟩
     refine pq_off rfl rfl ?_
     refine pq_off rfl rfl ?_
     refine pq_off rfl rfl ?_
     refine pq_off rfl rfl ?_
     refine pq_off rfl rfl ?_
     refine pq_off rfl rfl ?_
     refine pq_off rfl rfl ?_
     refine pq_off rfl rfl ?_
     refine pq_off rfl rfl ?_
     refine pq_off rfl rfl ?_
     refine pq_off rfl rfl ?_
     refine pq_off rfl rfl ?_
     refine pq_off rfl rfl ?_
     refine pq_off rfl rfl ?_
     refine ⟨tv, ?_⟩
     refine ⟨tv, ?_⟩
     exact key
    ·
     replace h28 : ok = true := h28
     intro key
     refine ⟨⟨rfl, by decide⟩, ?_⟩
     refine pq_loadp rfl (v := .str ((gI v.f i).1)) rfl (wG 0 hNb4 rfl) (aO rfl rfl (nB rfl)) rfl ?_
     refine ⟨(fun Kc hKc => u_VName ((gI v.f i).1) hbdF _ Kc hKc), tv, ?_⟩
     refine ⟨tv, ?_⟩
     show pseq _ _ _ _ _ [(149, .bool (nameV ((gI v.f i).1))), (148, .bool (nameV ((gI v.f i).1))), (147, .bool (nameV ((gI v.f i).1))), (146, .str ((gI v.f i).1)), (145, pT b4), (144, .bool true), (143, .bool true), (1, pT b1), (3, .bool true), (4, iT i), (5, pT b4), (136, sF (v.f.map fldIn)), (137, iT (v.f.length : Int)), (138, iT i)] _
     revert key
     cases h29 : (nameV ((gI v.f i).1))
     ·
      replace h29 : nameV ((gI v.f i).1) = false := h29
      intro key
      refine pq_off rfl rfl ?_
      refine pq_off rfl rfl ?_
      refine pq_off rfl rfl ?_
      refine pq_off rfl rfl ?_
      refine pq_off rfl rfl ?_
      refine pq_off rfl rfl ?_
      refine pq_off rfl rfl ?_
      refine pq_off rfl rfl ?_
      refine pq_off rfl rfl ?_
      refine pq_off rfl rfl ?_
      refine pq_off rfl rfl ?_
      refine pq_off rfl rfl ?_
      refine pq_off rfl rfl ?_
      refine pq_off rfl rfl ?_
      refine ⟨tv, ?_⟩
      refine ⟨tv, ?_⟩
      exact key
     ·
      replace h29 : nameV ((gI v.f i).1) = true := h29
      intro key
      refine ⟨tv, tv, tv, ?_⟩
      show pseq _ _ _ _ _ [(152, .bool (i == 0)), (151, .bool (i == 0)), (150, iT i), (149, .bool true), (148, .bool true), (147, .bool true), (146, .str ((gI v.f i).1)), (145, pT b4), (144, .bool true), (143, .bool true), (1, pT b1), (3, .bool true), (4, iT i), (5, pT b4), (136, sF (v.f.map fldIn)), (137, iT (v.f.length : Int)), (138, iT i)] _
      revert key
      cases h30 : (i == 0)
      ·
       replace h30 : i ≠ 0 := (ne_of_beq_false h30)
       intro key
       refine ⟨⟨rfl, by decide⟩, ?_⟩
       refine pq_loadp rfl (v := sF (v.f.map fldIn)) rfl (wG 1 hNb4 rfl) (aO rfl rfl (nB rfl)) rfl ?_
       refine ⟨tv, ?_⟩
       refine pq_sub rfl (a := i) (b := 1) rfl rfl (by omega) (by omega) ?_
       refine pq_index rfl fldTop v.f (i - 1) rfl rfl (fldMap v.f) rfl rfl (by decide) (fun _ => rfl) (by omega) (by omega) ?_
       refine ⟨⟨rfl, by decide, (nB rfl)⟩, (aO rfl rfl (nB rfl)), ⟨rfl, by decide⟩, ?_⟩
       refine pq_loadp rfl (v := .str ((gI v.f i).1)) rfl (wG 0 hNb4 rfl) (aO rfl rfl (nB rfl)) rfl ?_
       refine ⟨tv, tv, ?_⟩
       refine ⟨tv, ?_⟩
       refine ⟨tv, ?_⟩
       exact key
      ·
       replace h30 : i = 0 := (eq_of_beq h30)
       intro key
       refine pq_off rfl rfl ?_
       refine pq_off rfl rfl ?_
       refine pq_off rfl rfl ?_
       refine pq_off rfl rfl ?_
       refine pq_off rfl rfl ?_
       refine pq_off rfl rfl ?_
       refine pq_off rfl rfl ?_
       refine pq_off rfl rfl ?_
       refine pq_off rfl rfl ?_
       refine pq_off rfl rfl ?_
       refine ⟨tv, ?_⟩
       refine ⟨tv, ?_⟩
       refine ⟨tv, ?_⟩
       exact key
   refine hK1 _ _ ?_; clear hK1 K1
   refine hK11 _ _ ?_; clear hK11
   have hNd3 : ([b1] : List Nat).Nodup := drop_nodup (L := [(b4, .cells [.str ((gI v.f i).1), iT (((gI v.f i).2).kind), iT (((gI v.f i).2).n), .str (((gI v.f i).2).s), sF ((((gI v.f i).2).l).map valIn), sF ((((gI v.f i).2).f).map fldIn)]), (b1, .cells [iT v.kind, iT v.n, .str v.s, sF (v.l.map valIn), sF (v.f.map fldIn)])]) hNb4 (pick_perm [0] _)
   refine awp_dropP [(b4, .cells [.str ((gI v.f i).1), iT (((gI v.f i).2).kind), iT (((gI v.f i).2).n), .str (((gI v.f i).2).s), sF ((((gI v.f i).2).l).map valIn), sF ((((gI v.f i).2).f).map fldIn)])] [(b1, .cells [iT v.kind, iT v.n, .str v.s, sF (v.l.map valIn), sF (v.f.map fldIn)])] hNb4 (pick_perm [0] _) (by simp only [List.map_cons, List.map_nil, List.forall_mem_cons]; exact ⟨hFb4, nfA⟩) ?_
   refine awp_reg2 [] [1, 3, 136, 137, 138] (by decide) ?_
   intro K1 hK1
   refine ar_add rfl (a := i) (b := 1) rfl rfl (by omega) (by omega) ?_
   refine ⟨tv, ?_⟩
   show K1 [(1, pT b1), (3, .bool ((ok && (nameV ((gI v.f i).1))) && ((i == 0) || (Op.bytesLess ((gI v.f (i - 1)).1) ((gI v.f i).1))))), (136, sF (v.f.map fldIn)), (137, iT (v.f.length : Int)), (138, iT (i + 1))] (mW m [(b1, .cells [iT v.kind, iT v.n, .str v.s, sF (v.l.map valIn), sF (v.f.map fldIn)])])
   refine hK1 _ _ ?_; clear hK1 K1
   refine ⟨(((ok && (nameV ((gI v.f i).1))) && ((i == 0) || (Op.bytesLess ((gI v.f (i - 1)).1) ((gI v.f i).1)))), i + 1), rfl, rfl, ?_, ?_⟩
   ·
    show 0 ≤ ((i + 1 : Int)) ∧ ((i + 1 : Int)) ≤ v.f.length ∧ shpOk v = (((((ok && (nameV ((gI v.f i).1))) && ((i == 0) || (Op.bytesLess ((gI v.f (i - 1)).1) ((gI v.f i).1)))) : Bool)) && recOk (prevN v.f ((i + 1 : Int))) (v.f.drop ((i + 1 : Int)).toNat))
    exact ⟨by omega, by omega, by rw [hI.2.2, recOk_step hI.1 h27]; simp only [Bool.and_assoc]⟩
   ·
    show v.f.length - ((i + 1 : Int)).toNat < v.f.length - i.toNat
    omega
  replace h27 : (v.f.length : Int) ≤ i := (Int.not_lt.1 (of_decide_eq_false h27))
  refine awp_keep [1, 3] (by decide) ?_
  show AWP _ _ _ _ [(1, pT b1), (3, .bool ok)] (mW m [(b1, .cells [iT v.kind, iT v.n, .str v.s, sF (v.l.map valIn), sF (v.f.map fldIn)])])
  refine awp_exit ?_
  refine join0 ok ?_
  rw [hI.2.2, List.drop_eq_nil_of_le (by omega)]; simp [recOk]
 replace h24 : v.kind ≠ 5 := (ne_of_beq_false h24)
 refine awp_reg2 [] [1, 3] (by decide) ?_
 intro K1 hK1
 refine ⟨tv, ?_⟩
 show K1 [(1, pT b1), (3, .bool false)] (mW m [(b1, .cells [iT v.kind, iT v.n, .str v.s, sF (v.l.map valIn), sF (v.f.map fldIn)])])
 refine hK1 _ _ ?_; clear hK1 K1
 refine join0 false ?_
 unfold shpOk
 repeat' split
 all_goals first | omega | rfl
theorem u_shape : ∀ (k : Nat) (v : Val), depV v < k → ∀ (m : AMem) (K : AV → AMem → Prop), K (.err 108 (shE (shpF k v))) m → ACalls Try.prog 100 [valTop v] m K
  | 0, _, h => absurd h (Nat.not_lt_zero _)
  | k + 1, v, h => fun m K hK => u_shape1 k v (u_shape k) h m K hK
set_option maxHeartbeats 2000000 in
theorem u_Check (v : Val)  (m : AMem)  (K : AV → AMem → Prop) (hK : K (.err 108 (chk v)) m) : ACalls Try.prog 94 [valTop v] m K := by
 refine acalls_enter Try.func94 rfl (by decide) (nB rfl) ?_
 show AWP _ _ _ _ [(0, valTop v)] m
 refine rS [] [1] (by decide) ?_
 intro K1 hK1
 refine ar_box rfl (m := m) (L := []) (v := valTop v) (by rfl) rfl ?_
 intro b1 hb1
 have hFb1 : m b1 = none := wth_none (m := m) (L := []) hb1
 have hNb1 : ([b1] : List Nat).Nodup := wth_nodup (m := m) (L := []) hb1 List.nodup_nil
 refine ⟨tv, ?_⟩
 show K1 [(1, pT b1)] (mW m [(b1, .cells [iT v.kind, iT v.n, .str v.s, sF (v.l.map valIn), sF (v.f.map fldIn)])])
 refine hK1 _ _ ?_; clear hK1 K1
 refine rS [] [1, 3] (by decide) ?_
 intro K1 hK1
 refine ar_alloc rfl (z := iT 0) rfl rfl ?_
 intro b2 hb2
 have hFb2 : m b2 = none := wth_none hb2
 have hNb2 : ([b2, b1] : List Nat).Nodup := wth_nodup hb2 hNb1
 refine aS rfl 0 (v := iT 60) (l' := [iT 60]) rfl rfl hNb2 rfl rfl rfl rfl rfl (nB rfl) rfl ?_
 show K1 [(1, pT b1), (3, pT b2)] (mW m [(b2, .cells [iT 60]), (b1, .cells [iT v.kind, iT v.n, .str v.s, sF (v.l.map valIn), sF (v.f.map fldIn)])])
 refine hK1 _ _ ?_; clear hK1 K1
 refine sK ?_; intro K2 hK2
 refine rS [] [1, 6] (by decide) ?_
 intro K1 hK1
 refine aL rfl (v := .agg [iT v.kind, iT v.n, .str v.s, sF (v.l.map valIn), sF (v.f.map fldIn)]) rfl (wG 1 hNb2 rfl) rfl (apartOk_agg rfl rfl (nB rfl)) rfl ?_
 refine ar_mem (wS hNb2 (pick_perm [0] _)) ?_
 refine u_count (depV v + 1) v 1 60 (Nat.lt_succ_self _) (by omega) (by omega) (by omega) (by omega) b2 _ _ ?_
 refine ar_mem (wS (m := m) (L := [(b2, .cells [iT ((cntF (depV v + 1) 1 v 60).2)]), (b1, .cells [iT v.kind, iT v.n, .str v.s, sF (v.l.map valIn), sF (v.f.map fldIn)])]) hNb2 (pick_perm [0] _)).symm ?_
 refine ⟨tv, ?_⟩
 show K1 [(1, pT b1), (6, .bool (!((cntF (depV v + 1) 1 v 60).1)))] (mW m [(b2, .cells [iT ((cntF (depV v + 1) 1 v 60).2)]), (b1, .cells [iT v.kind, iT v.n, .str v.s, sF (v.l.map valIn), sF (v.f.map fldIn)])])
 refine hK1 _ _ ?_; clear hK1 K1
 refine cD rfl rfl (fun h1 => ?_) (fun h1 => ?_)
 ·
  replace h1 : (cntF (depV v + 1) 1 v 60).1 = false := (bnT h1)
  refine rS [] [2] (by decide) ?_
  intro K1 hK1
  refine ⟨tv, tv, ?_⟩
  show K1 [(2, .iface 108 (iT 2))] (mW m [(b2, .cells [iT ((cntF (depV v + 1) 1 v 60).2)]), (b1, .cells [iT v.kind, iT v.n, .str v.s, sF (v.l.map valIn), sF (v.f.map fldIn)])])
  refine hK1 _ _ ?_; clear hK1 K1
  refine awp_toErr 108 [2] ?_
  show AWP _ _ _ _ [(2, .err 108 2)] _
  refine awp_ret ?_
  refine ⟨tv, m, (wth_sub2 (m := m) [(b2, .cells [iT ((cntF (depV v + 1) 1 v 60).2)]), (b1, .cells [iT v.kind, iT v.n, .str v.s, sF (v.l.map valIn), sF (v.f.map fldIn)])] [] hNb2 (by simp only [List.map_cons, List.map_nil, List.forall_mem_cons]; exact ⟨hFb2, hFb1, nfA⟩)), ?_⟩
  show K (.err 108 2) m
 
  have e0 : chk v = (2 : Int) := by
   first | (rw [chk, if_pos (by assumption)]; done) | (rw [chk, if_neg (by simp_all)]; done)
  rw [e0] at hK
  exact hK
 replace h1 : (cntF (depV v + 1) 1 v 60).1 = true := (bnF h1)
 refine awp_skip ?_
 refine hK2 _ _ ?_; clear hK2
 refine rS [] [2] (by decide) ?_
 intro K1 hK1
 refine aL rfl (v := .agg [iT v.kind, iT v.n, .str v.s, sF (v.l.map valIn), sF (v.f.map fldIn)]) rfl (wG 1 hNb2 rfl) rfl (apartOk_agg rfl rfl (nB rfl)) rfl ?_
 refine u_shape (depV v + 1) v (Nat.lt_succ_self _) _ _ ?_
 refine ⟨tv, ?_⟩
 show K1 [(2, .err 108 (shE (shpF (depV v + 1) v)))] (mW m [(b2, .cells [iT ((cntF (depV v + 1) 1 v 60).2)]), (b1, .cells [iT v.kind, iT v.n, .str v.s, sF (v.l.map valIn), sF (v.f.map fldIn)])])
 refine hK1 _ _ ?_; clear hK1 K1
 refine awp_ret ?_
 refine ⟨tv, m, (wth_sub2 (m := m) [(b2, .cells [iT ((cntF (depV v + 1) 1 v 60).2)]), (b1, .cells [iT v.kind, iT v.n, .str v.s, sF (v.l.map valIn), sF (v.f.map fldIn)])] [] hNb2 (by simp only [List.map_cons, List.map_nil, List.forall_mem_cons]; exact ⟨hFb2, hFb1, nfA⟩)), ?_⟩
 show K (.err 108 (shE (shpF (depV v + 1) v))) m
 have e0 : chk v = (shE (shpF (depV v + 1) v) : Int) := by
  first | (rw [chk, if_pos (by assumption)]; done) | (rw [chk, if_neg (by simp_all)]; done)
 rw [e0] at hK
 exact hK
end Go.Proofs
end
section
namespace Go.Proofs
open Go.Shelf
def Try.sortTh_ren : Go.Shelf.Ren := ⟨fun | 6 => 87 | 15 => 97 | 14 => 96 | 28 => 111 | 29 => 112 | 20 => 103 | 21 => 104 | 22 => 105 | 23 => 106 | 24 => 107 | 25 => 108 | 26 => 109 | 27 => 110 | 46 => 122 | 47 => 123 | 48 => 124 | 49 => 125 | 50 => 126 | 57 => 131 | n => n, fun | 22 => 88 | 24 => 80 | 25 => 145 | 3 => 3 | 39 => 148 | 0 => 0 | 53 => 169 | 55 => 113 | 4 => 4 | 46 => 162 | 45 => 161 | 50 => 166 | 5 => 5 | 9 => 9 | 66 => 177 | 70 => 157 | 76 => 184 | 77 => 75 | n => n, fun | n => n⟩
theorem Try.sortTh : Go.Proofs.SlLaysF0.n6 Try.prog Try.sortTh_ren := {
  mixed := by kernel_rfl
  f6 := ⟨Try.f87.name, by decide, Try.func87.trans (congrArg some (by kernel_rfl))⟩
  f14 := ⟨Try.f96.name, by decide, Try.func96.trans (congrArg some (by kernel_rfl))⟩
  f15 := Try.func97.trans (congrArg some (by kernel_rfl))
  f20 := ⟨Try.f103.name, by decide, Try.func103.trans (congrArg some (by kernel_rfl))⟩
  f21 := ⟨Try.f104.name, by decide, Try.func104.trans (congrArg some (by kernel_rfl))⟩
  f22 := ⟨Try.f105.name, by decide, Try.func105.trans (congrArg some (by kernel_rfl))⟩
  f23 := ⟨Try.f106.name, by decide, Try.func106.trans (congrArg some (by kernel_rfl))⟩
  f24 := ⟨Try.f107.name, by decide, Try.func107.trans (congrArg some (by kernel_rfl))⟩
  f25 := ⟨Try.f108.name, by decide, Try.func108.trans (congrArg some (by kernel_rfl))⟩
  f26 := ⟨Try.f109.name, by decide, Try.func109.trans (congrArg some (by kernel_rfl))⟩
  f27 := ⟨Try.f110.name, by decide, Try.func110.trans (congrArg some (by kernel_rfl))⟩
  f28 := Try.func111.trans (congrArg some (by kernel_rfl))
  f29 := Try.func112.trans (congrArg some (by kernel_rfl))
  f46 := ⟨Try.f122.name, by decide, Try.func122.trans (congrArg some (by kernel_rfl))⟩
  f47 := Try.func123.trans (congrArg some (by kernel_rfl))
  f48 := Try.func124.trans (congrArg some (by kernel_rfl))
  f49 := ⟨Try.f125.name, by decide, Try.func125.trans (congrArg some (by kernel_rfl))⟩
  f50 := ⟨Try.f126.name, by decide, Try.func126.trans (congrArg some (by kernel_rfl))⟩
  f57 := ⟨Try.f131.name, by decide, Try.func131.trans (congrArg some (by kernel_rfl))⟩
  t0 := Try.underlying0
  a0 := Try.isAgg0
  z0 := Try.sizeOf0
  v0 := Try.zeroValue0
  t3 := Try.underlying3
  a3 := Try.isAgg3
  z3 := Try.sizeOf3
  v3 := Try.zeroValue3
  t4 := Try.underlying4
  a4 := Try.isAgg4
  z4 := Try.sizeOf4
  v4 := Try.zeroValue4
  t5 := Try.underlying5
  a5 := Try.isAgg5
  z5 := Try.sizeOf5
  v5 := Try.zeroValue5
  t9 := Try.underlying9
  a9 := Try.isAgg9
  z9 := Try.sizeOf9
  v9 := Try.zeroValue9
  t22 := Try.underlying88
  a22 := Try.isAgg88
  z22 := Try.sizeOf88
  v22 := Try.zeroValue88
  t25 := Try.underlying145
  a25 := Try.isAgg145
  z25 := Try.sizeOf145
  v25 := Try.zeroValue145
  t39 := Try.underlying148
  a39 := Try.isAgg148
  z39 := Try.sizeOf148
  v39 := Try.zeroValue148
  t45 := Try.underlying161
  a45 := Try.isAgg161
  z45 := Try.sizeOf161
  v45 := Try.zeroValue161
  t46 := Try.underlying162
  a46 := Try.isAgg162
  z46 := Try.sizeOf162
  v46 := Try.zeroValue162
  t50 := Try.underlying166
  a50 := Try.isAgg166
  z50 := Try.sizeOf166
  v50 := Try.zeroValue166
  t53 := Try.underlying169
  a53 := Try.isAgg169
  z53 := Try.sizeOf169
  v53 := Try.zeroValue169
  t55 := Try.underlying113
  a55 := Try.isAgg113
  z55 := Try.sizeOf113
  v55 := Try.zeroValue113
  t66 := Try.underlying177
  a66 := Try.isAgg177
  z66 := Try.sizeOf177
  v66 := Try.zeroValue177
  t70 := Try.underlying157
  a70 := Try.isAgg157
  z70 := Try.sizeOf157
  v70 := Try.zeroValue157
  t76 := Try.underlying184
  a76 := Try.isAgg184
  z76 := Try.sizeOf184
  v76 := Try.zeroValue184
  t77 := Try.underlying75
  a77 := Try.isAgg75
  z77 := Try.sizeOf75
  v77 := Try.zeroValue75 }
open Go.RowKit Go.Lib Go.Sort
theorem raw7 (x : Go.Aw.RawK 6) : ∃ (z : Int) (a b c d e f : Value), x.1 = [.int .i64 z, a, b, c, d, e, f] ∧ (0 ≤ z ∧ z ≤ 1000000000) ∧ Go.Aw.rawKey x = z := by
  obtain ⟨vs, hl, h1, z, hz, h0, h2⟩ := x
  match vs, hl, hz with
  | [a0, a, b, c, d, e, f], _, hz =>
    simp only [List.head?_cons, Option.some.injEq] at hz
    subst hz
    exact ⟨z, a, b, c, d, e, f, rfl, ⟨h0, h2⟩, rfl⟩
set_option maxHeartbeats 1000000 in
theorem Try.closure88 (x y : Go.Aw.RawK 6) (W : World) : Calls Try.prog 88 #[.agg x.1.toArray, .agg y.1.toArray] W fun e w' => e = .returned (.int .i64 (Go.Aw.rawKey x - Go.Aw.rawKey y)) ∧ ∃ q os', w' = grow (W.drewN q) os' := by
  obtain ⟨z, a, b, c, d, e, f, hx, hz, hk⟩ := raw7 x
  obtain ⟨z', a', b', c', d', e', f', hx', hz', hk'⟩ := raw7 y
  rw [hx, hx', hk, hk']
  go_enter Try.func88, Try.ntmps88
  go_wp2
  go_ret
  exact ⟨rfl, 0, _, by rw [alloc_eq_grow, alloc_eq_grow, grow_grow]; rfl⟩
theorem Try.sortC (blk off cap : Nat) (d : Array (Go.Aw.RawK 6)) (w : World) (hH : HoldsK (fun x : Go.Aw.RawK 6 => x.1) 7 w blk off d) (hblk : blk < w.heap.size) (hsz : d.size < 4611686018427387904) :
    Calls Try.prog 87 #[.slice (some ⟨blk, off, none⟩) d.size cap, .func (.func 88) #[] #[]] w fun e w' => e = .returned (.tuple #[]) ∧ ∃ d' n os, PermIn 0 d.size d d' ∧ SortedIn (ltOf fun x y : Go.Aw.RawK 6 => Go.Aw.rawKey x - Go.Aw.rawKey y) 0 d.size d' ∧ w' = sortWorldK (fun x : Go.Aw.RawK 6 => x.1) 7 w blk off n d' os :=
  AnyQ.slices_SortFunc Try.sortTh 7 Try.isAgg80 Try.sizeOf80 (fun x => x.1) (fun x => x.2.1) (fun x v hv => x.2.2.1 v hv) (fun x y => Go.Aw.rawKey x - Go.Aw.rawKey y) (Go.Aw.swoRaw 6) 88 #[] blk off cap d w (enters_of Try.func88 (by kernel_rfl) rfl) (fun _ _ _ _ x y => Try.closure88 x y _) hH hblk hsz
theorem Try.sortN (p : Option Addr) (w : World) : Calls Try.prog 87 #[.slice p 0 0, .func (.func 88) #[] #[]] w fun e w' => e = .returned (.tuple #[]) ∧ w' = w := AnyF.slices_SortFunc_none Try.sortTh p 0 (.func (.func 88) #[] #[]) w
end Go.Proofs
end
section
namespace Go.Proofs
open Go Go.Aw
set_option maxRecDepth 100000
structure Thg where
  id : Int
  kind : Str
  v : Val
instance : Inhabited Thg := ⟨⟨0, [], zV⟩⟩
def thgAV (x : Thg) : AV := .agg [iT x.id, .str x.kind, iT x.v.kind, iT x.v.n, .str x.v.s, sF (x.v.l.map valIn), sF (x.v.f.map fldIn)]
def zT : Thg := ⟨0, [], zV⟩
structure Dn where
  op : Int
  id : Int
instance : Inhabited Dn := ⟨⟨0, 0⟩⟩
def dnAV (x : Dn) : AV := .agg [iT x.op, iT x.id]
def zD : Dn := ⟨0, 0⟩
structure ClSt where
  things : List (Int × Thg)
  tokens : List (Str × Dn)
  next : Int
  quota : Int
  calls : Int
  fails : List (Int × Bool)
def cObj (d tb ob fb : Nat) (c : ClSt) : AObj := .cells [pT d, .map tb, .map ob, iT c.next, iT c.quota, iT c.calls, .map fb]
def tObj (l : List (Int × Thg)) : AObj := .map (List.map (mapAV intAV thgAV) l)
def oObj (l : List (Str × Dn)) : AObj := .map (List.map (mapAV strAV dnAV) l)
def fObj (l : List (Int × Bool)) : AObj := .map (List.map (mapAV intAV boolAV) l)
def attrE (v : Val) : Int := if v.kind = 5 then chk v else 9
def callR (c : ClSt) (s : DSt) (token : Str) (op : Int) : (ClSt × DSt) × (Dn × Bool × Int) :=
  if (stepF s).2 ≠ 0 then ((c, (stepF s).1), (zD, false, (stepF s).2))
  else if (mget c.fails c.calls).getD false = true then (({ c with calls := c.calls + 1 }, (stepF s).1), (zD, false, 12))
  else if (mget c.tokens token).isSome = true ∧ ((mget c.tokens token).getD zD).op ≠ op then (({ c with calls := c.calls + 1 }, (stepF s).1), (zD, false, 15))
  else (({ c with calls := c.calls + 1 }, (stepF s).1), ((mget c.tokens token).getD zD, (mget c.tokens token).isSome, 0))
def ccalls (c : ClSt) (s : DSt) (token : Str) (op : Int) : Int := (callR c s token op).1.1.calls
def callT (c : ClSt) (s : DSt) (token : Str) (op : Int) : Dn × Bool × Int := (callR c s token op).2
def createR (c : ClSt) (s : DSt) (token kind : Str) (v : Val) : (ClSt × DSt) × (Int × Int) :=
  if attrE v ≠ 0 then ((c, s), (0, attrE v))
  else if nameV kind = false then ((c, s), (0, 3))
  else if (callT c s token 1).2.2 ≠ 0 ∨ (callT c s token 1).2.1 = true then (({ c with calls := ccalls c s token 1 }, (stepF s).1), ((callT c s token 1).1.id, (callT c s token 1).2.2))
  else if c.quota ≤ c.things.length then (({ c with calls := ccalls c s token 1 }, (stepF s).1), (0, 13))
  else (({ c with calls := ccalls c s token 1, next := c.next + 1, things := mput c.things c.next ⟨c.next, kind, v⟩, tokens := mput c.tokens token ⟨1, c.next⟩ }, (stepF s).1), (c.next, 0))
def updateR (c : ClSt) (s : DSt) (token : Str) (id : Int) (v : Val) : (ClSt × DSt) × Int :=
  if attrE v ≠ 0 then ((c, s), attrE v)
  else if (callT c s token 2).2.2 ≠ 0 ∨ (callT c s token 2).2.1 = true then (({ c with calls := ccalls c s token 2 }, (stepF s).1), (callT c s token 2).2.2)
  else if (mget c.things id).isSome = false then (({ c with calls := ccalls c s token 2 }, (stepF s).1), 7)
  else (({ c with calls := ccalls c s token 2, things := mput c.things id ⟨((mget c.things id).getD zT).id, ((mget c.things id).getD zT).kind, v⟩, tokens := mput c.tokens token ⟨2, id⟩ }, (stepF s).1), 0)
def deleteR (c : ClSt) (s : DSt) (token : Str) (id : Int) : (ClSt × DSt) × Int :=
  if (callT c s token 3).2.2 ≠ 0 ∨ (callT c s token 3).2.1 = true then (({ c with calls := ccalls c s token 3 }, (stepF s).1), (callT c s token 3).2.2)
  else if (mget c.things id).isSome = false then (({ c with calls := ccalls c s token 3 }, (stepF s).1), 7)
  else (({ c with calls := ccalls c s token 3, things := mdel c.things id, tokens := mput c.tokens token ⟨3, id⟩ }, (stepF s).1), 0)
structure CInv (N : Nat) (c : ClSt) : Prop where
  nx0 : 1 ≤ c.next
  nx1 : c.next ≤ N
  ca0 : 0 ≤ c.calls
  ca1 : c.calls ≤ N
  tl : c.things.length ≤ N
  ol : c.tokens.length ≤ N
  nd : (c.things.map Prod.fst).Nodup
  ids : ∀ p ∈ c.things, p.2.id = p.1 ∧ (1 ≤ p.1 ∧ p.1 < c.next) ∧ chk p.2.v = 0
section
variable {c : ClSt} {s : DSt} {token : Str} {op : Int}
theorem callR_1 (h : (stepF s).2 ≠ 0) : callR c s token op = ((c, (stepF s).1), (zD, false, (stepF s).2)) := by rw [callR, if_pos h]
theorem callR_2 (h : (stepF s).2 = 0) (h2 : (mget c.fails c.calls).getD false = true) : callR c s token op = (({ c with calls := c.calls + 1 }, (stepF s).1), (zD, false, 12)) := by rw [callR, if_neg (by simp [h]), if_pos h2]
theorem callR_3 (h : (stepF s).2 = 0) (h2 : (mget c.fails c.calls).getD false = false) (h3 : (mget c.tokens token).isSome = true ∧ ((mget c.tokens token).getD zD).op ≠ op) : callR c s token op = (({ c with calls := c.calls + 1 }, (stepF s).1), (zD, false, 15)) := by rw [callR, if_neg (by simp [h]), if_neg (by simp [h2]), if_pos h3]
theorem callR_4 (h : (stepF s).2 = 0) (h2 : (mget c.fails c.calls).getD false = false) (h3 : (mget c.tokens token).isSome = false ∨ ((mget c.tokens token).getD zD).op = op) : callR c s token op = (({ c with calls := c.calls + 1 }, (stepF s).1), ((mget c.tokens token).getD zD, (mget c.tokens token).isSome, 0)) := by
  rw [callR, if_neg (by simp [h]), if_neg (by simp [h2]), if_neg (by rintro ⟨a, b⟩; rcases h3 with h3 | h3 <;> simp_all)]
end
theorem callR_eq (c : ClSt) (s : DSt) (token : Str) (op : Int) : (callR c s token op).1 = ({ c with calls := ccalls c s token op }, (stepF s).1) := by
  unfold ccalls callR
  repeat' split
  all_goals rfl
theorem ccalls_le (c : ClSt) (s : DSt) (token : Str) (op : Int) : c.calls ≤ ccalls c s token op ∧ ccalls c s token op ≤ c.calls + 1 := by
  unfold ccalls callR
  repeat' split
  all_goals (simp; try omega)
theorem attrE_0 {v : Val} (h : attrE v = 0) : chk v = 0 := by
  unfold attrE at h
  split at h
  · exact h
  · cases h
set_option maxHeartbeats 2000000 in
theorem u_CNew (d : Nat) (q : Int) (hq0 : 0 ≤ q) (hq1 : q ≤ 40) (m : AMem)  (K : AV → AMem → Prop) (hK : ∀ x fb ob tb : Nat, [x, fb, ob, tb].Nodup → m x = none → m fb = none → m ob = none → m tb = none → K (.tuple [pT x, .err 108 0]) (mW m [(x, cObj d tb ob fb ⟨[], [], 1, q, 0, []⟩), (fb, fObj []), (ob, oObj []), (tb, tObj [])])) : ACalls Try.prog 46 [pT d, iT q] m K := by
 refine acalls_enter Try.func46 rfl (by decide) (nB rfl) ?_
 show AWP _ _ _ _ [(0, pT d), (1, iT q)] m
 refine rS [] [0, 1] (by decide) ?_
 intro K1 hK1
 refine ⟨tv, tv, ?_⟩
 show K1 [(0, pT d), (1, iT q)] m
 refine hK1 _ _ ?_; clear hK1 K1
 refine sK ?_; intro K2 hK2
 refine rS [] [0, 1, 11] (by decide) ?_
 intro K1 hK1
 suffices key : K1 [(0, pT d), (1, iT q), (11, .bool ((decide (q < 0)) || (decide (40 < q))))] m by
  refine ⟨tv, tv, tv, ?_⟩
  show aopsR _ _ _ _ _ [(8, .bool (decide (q < 0))), (7, .bool (decide (q < 0))), (6, iT q), (0, pT d), (1, iT q)] _
  revert key
  cases h1 : (decide (q < 0))
  ·
   replace h1 : 0 ≤ q := (Int.not_lt.1 (of_decide_eq_false h1))
   intro key
   refine ⟨tv, tv, ?_⟩
   exact key
  ·
   replace h1 : q < 0 := (of_decide_eq_true h1)
   intro key
   refine ar_off rfl (ar_off rfl ?_)
   exact key
 refine hK1 _ _ ?_; clear hK1 K1
 refine cD rfl rfl (fun h2 => ?_) (fun h2 => ?_)
 ·
  replace h2 : (q < 0) ∨ (40 < q) := ((borT h2).imp (fun q => (of_decide_eq_true q)) (fun q => (of_decide_eq_true q)))
  omega
 replace h2 : (0 ≤ q) ∧ (q ≤ 40) := ⟨(Int.not_lt.1 (of_decide_eq_false (borL h2))), (Int.not_lt.1 (of_decide_eq_false (borR h2)))⟩
 refine awp_skip ?_
 refine hK2 _ _ ?_; clear hK2
 refine rS [] [4, 5] (by decide) ?_
 intro K1 hK1
 refine ⟨tv, ?_⟩
 refine ar_makeMap rfl (m := m) (L := []) rfl ?_
 intro b1 hb1
 have hFb1 : m b1 = none := wth_none (m := m) (L := []) hb1
 have hNb1 : ([b1] : List Nat).Nodup := wth_nodup (m := m) (L := []) hb1 List.nodup_nil
 refine ar_makeMap rfl (m := m) (L := [(b1, tObj ([] : List (Int × Thg)))]) rfl ?_
 intro b2 hb2
 have hFb2 : m b2 = none := wth_none hb2
 have hNb2 : ([b2, b1] : List Nat).Nodup := wth_nodup hb2 hNb1
 refine ⟨tv, ?_⟩
 refine ar_makeMap rfl (m := m) (L := [(b2, oObj ([] : List ((List UInt8) × Dn))), (b1, tObj ([] : List (Int × Thg)))]) rfl ?_
 intro b3 hb3
 have hFb3 : m b3 = none := wth_none hb3
 have hNb3 : ([b3, b2, b1] : List Nat).Nodup := wth_nodup hb3 hNb2
 refine ⟨⟨rfl, by simp only [List.forall_mem_cons]; exact ⟨rfl, rfl, rfl, rfl, rfl, rfl, rfl, nfA⟩, by simp only [List.forall_mem_cons]; exact ⟨rfl, rfl, rfl, rfl, rfl, rfl, nfA⟩⟩, ?_⟩
 refine ar_box rfl (m := m) (L := [(b3, fObj ([] : List (Int × Bool))), (b2, oObj ([] : List ((List UInt8) × Dn))), (b1, tObj ([] : List (Int × Thg)))]) (v := .agg [pT d, .map b1, .map b2, iT 1, iT q, iT 0, .map b3]) rfl rfl ?_
 intro b4 hb4
 have hFb4 : m b4 = none := wth_none hb4
 have hNb4 : ([b4, b3, b2, b1] : List Nat).Nodup := wth_nodup hb4 hNb3
 refine ⟨tv, tv, ?_⟩
 show K1 [(4, pT b4), (5, .nilIface)] (mW m [(b4, .cells [pT d, .map b1, .map b2, iT 1, iT q, iT 0, .map b3]), (b3, fObj ([] : List (Int × Bool))), (b2, oObj ([] : List ((List UInt8) × Dn))), (b1, tObj ([] : List (Int × Thg)))])
 refine hK1 _ _ ?_; clear hK1 K1
 refine awp_toErr 108 [5] ?_
 show AWP _ _ _ _ [(4, pT b4), (5, .err 108 0)] _
 refine awp_ret ?_
 refine ⟨tv, tv, (mW m [(b4, .cells [pT d, .map b1, .map b2, iT 1, iT q, iT 0, .map b3]), (b3, fObj ([] : List (Int × Bool))), (b2, oObj ([] : List ((List UInt8) × Dn))), (b1, tObj ([] : List (Int × Thg)))]), fun _ _ h => h, ?_⟩
 show K (.tuple [pT b4, .err 108 0]) _
 exact hK b4 b3 b2 b1 hNb4 hFb4 hFb3 hFb2 hFb1
theorem u_attrs (v : Val)  (m : AMem)  (K : AV → AMem → Prop) (hK : K (.err 108 (attrE v)) m) : ACalls Try.prog 79 [valTop v] m K := by
 refine acalls_enter Try.func79 rfl (by decide) (nB rfl) ?_
 show AWP _ _ _ _ [(0, valTop v)] m
 refine rS [] [1] (by decide) ?_
 intro K1 hK1
 refine ar_box rfl (m := m) (L := []) (v := valTop v) (by rfl) rfl ?_
 intro b1 hb1
 have hFb1 : m b1 = none := wth_none (m := m) (L := []) hb1
 have hNb1 : ([b1] : List Nat).Nodup := wth_nodup (m := m) (L := []) hb1 List.nodup_nil
 refine ⟨tv, ?_⟩
 show K1 [(1, pT b1)] (mW m [(b1, .cells [iT v.kind, iT v.n, .str v.s, sF (v.l.map valIn), sF (v.f.map fldIn)])])
 refine hK1 _ _ ?_; clear hK1 K1
 refine sK ?_; intro K2 hK2
 refine rS [] [1, 5] (by decide) ?_
 intro K1 hK1
 refine ⟨⟨rfl, by decide⟩, ?_⟩
 refine aL rfl (v := iT v.kind) rfl (wG 0 hNb1 rfl) rfl (aO rfl rfl (nB rfl)) rfl ?_
 refine ⟨tv, ?_⟩
 show K1 [(1, pT b1), (5, .bool (!(v.kind == 5)))] _
 refine hK1 _ _ ?_; clear hK1 K1
 refine cD rfl rfl (fun h1 => ?_) (fun h1 => ?_)
 ·
  replace h1 : v.kind ≠ 5 := (ne_of_beq_false (bnT h1))
  refine rS [] [2] (by decide) ?_
  intro K1 hK1
  refine ⟨tv, tv, ?_⟩
  show K1 [(2, .iface 108 (iT 9))] (mW m [(b1, .cells [iT v.kind, iT v.n, .str v.s, sF (v.l.map valIn), sF (v.f.map fldIn)])])
  refine hK1 _ _ ?_; clear hK1 K1
  refine awp_toErr 108 [2] ?_
  show AWP _ _ _ _ [(2, .err 108 9)] _
  refine awp_ret ?_
  refine ⟨tv, m, (wth_sub2 (m := m) [(b1, .cells [iT v.kind, iT v.n, .str v.s, sF (v.l.map valIn), sF (v.f.map fldIn)])] [] hNb1 (by simp only [List.map_cons, List.map_nil, List.forall_mem_cons]; exact ⟨hFb1, nfA⟩)), ?_⟩
  show K (.err 108 9) m
 
  have e0 : attrE v = (9 : Int) := by
   first | (rw [attrE, if_pos (by assumption)]; done) | (rw [attrE, if_neg (by assumption)]; done)
  rw [e0] at hK
  exact hK
 replace h1 : v.kind = 5 := (eq_of_beq (bnF h1))
 refine awp_skip ?_
 refine hK2 _ _ ?_; clear hK2
 refine rS [] [2] (by decide) ?_
 intro K1 hK1
 refine aL rfl (v := .agg [iT v.kind, iT v.n, .str v.s, sF (v.l.map valIn), sF (v.f.map fldIn)]) rfl (wG 0 hNb1 rfl) rfl (apartOk_agg rfl rfl (nB rfl)) rfl ?_
 refine u_Check v _ _ ?_
 refine ⟨tv, ?_⟩
 show K1 [(2, .err 108 (chk v))] (mW m [(b1, .cells [iT v.kind, iT v.n, .str v.s, sF (v.l.map valIn), sF (v.f.map fldIn)])])
 refine hK1 _ _ ?_; clear hK1 K1
 refine awp_ret ?_
 refine ⟨tv, m, (wth_sub2 (m := m) [(b1, .cells [iT v.kind, iT v.n, .str v.s, sF (v.l.map valIn), sF (v.f.map fldIn)])] [] hNb1 (by simp only [List.map_cons, List.map_nil, List.forall_mem_cons]; exact ⟨hFb1, nfA⟩)), ?_⟩
 show K (.err 108 (chk v)) m
 have e0 : attrE v = (chk v : Int) := by
  first | (rw [attrE, if_pos (by assumption)]; done) | (rw [attrE, if_neg (by assumption)]; done)
 rw [e0] at hK
 exact hK
set_option maxHeartbeats 4000000 in
theorem u_call (x d tb ob fb kb nb : Nat) (c : ClSt) (s : DSt) (token : Str) (op : Int) (hN : [x, d, ob, fb].Nodup) (hst : 0 ≤ s.steps) (hst2 : s.steps ≤ 4611686018427387904) (hfu : -1 ≤ s.fuse) (hfu2 : s.fuse ≤ 9223372036854775807) (hca : 0 ≤ c.calls) (hca2 : c.calls ≤ 1000000) (m : AMem)  (K : AV → AMem → Prop) (hK : K (.tuple [dnAV (callR c s token op).2.1, .bool (callR c s token op).2.2.1, .err 108 (callR c s token op).2.2.2]) (mW m [(x, cObj d tb ob fb (callR c s token op).1.1), (d, dObj kb nb (callR c s token op).1.2), (ob, oObj c.tokens), (fb, fObj c.fails)])) : ACalls Try.prog 81 [pT x, .str token, iT op] (mW m [(x, cObj d tb ob fb c), (d, .cells [.map kb, .map nb, sT (s.wait.map chgAV), iT s.fuse, .bool s.down, iT s.steps]), (ob, oObj c.tokens), (fb, fObj c.fails)]) K := by
 refine acalls_enter Try.func81 rfl (by decide) (nB rfl) ?_
 show AWP _ _ _ _ [(0, pT x), (1, .str token), (2, iT op)] (mW m [(x, cObj d tb ob fb c), (d, .cells [.map kb, .map nb, sT (s.wait.map chgAV), iT s.fuse, .bool s.down, iT s.steps]), (ob, oObj c.tokens), (fb, fObj c.fails)])
 refine rS [] [0, 1, 2, 6] (by decide) ?_
 intro K1 hK1
 refine ar_alloc rfl (z := .agg [iT 0, iT 0]) rfl rfl ?_
 intro b1 hb1
 have hFb1 : m b1 = none := wth_none hb1
 have hNb1 : ([b1, x, d, ob, fb] : List Nat).Nodup := wth_nodup hb1 hN
 refine ⟨tv, tv, ?_⟩
 show K1 [(0, pT x), (1, .str token), (2, iT op), (6, pT b1)] (mW m [(b1, .cells [iT 0, iT 0]), (x, cObj d tb ob fb c), (d, .cells [.map kb, .map nb, sT (s.wait.map chgAV), iT s.fuse, .bool s.down, iT s.steps]), (ob, oObj c.tokens), (fb, fObj c.fails)])
 refine hK1 _ _ ?_; clear hK1 K1
 refine rS [] [0, 1, 2, 6, 9] (by decide) ?_
 intro K1 hK1
 refine ⟨tv, tv, ⟨rfl, by decide⟩, ?_⟩
 refine aL rfl (v := pT d) rfl (wG 1 hNb1 rfl) rfl (aO rfl rfl (nB rfl)) rfl ?_
 refine ar_mem (wS hNb1 (pick_perm [2] _)) ?_
 refine u_Step d kb nb s hst hst2 hfu hfu2 _ _ ?_
 refine ar_mem (wS (m := m) (L := [(b1, .cells [iT 0, iT 0]), (x, cObj d tb ob fb c), (d, .cells [.map kb, .map nb, sT ((((stepF s).1).wait).map chgAV), iT (((stepF s).1).fuse), .bool (((stepF s).1).down), iT (((stepF s).1).steps)]), (ob, oObj c.tokens), (fb, fObj c.fails)]) hNb1 (pick_perm [2] _)).symm ?_
 refine ⟨tv, ?_⟩
 show K1 [(0, pT x), (1, .str token), (2, iT op), (6, pT b1), (9, .err 108 ((stepF s).2))] (mW m [(b1, .cells [iT 0, iT 0]), (x, cObj d tb ob fb c), (d, .cells [.map kb, .map nb, sT ((((stepF s).1).wait).map chgAV), iT (((stepF s).1).fuse), .bool (((stepF s).1).down), iT (((stepF s).1).steps)]), (ob, oObj c.tokens), (fb, fObj c.fails)])
 refine hK1 _ _ ?_; clear hK1 K1
 refine sK ?_; intro K2 hK2
 refine rS [] [0, 1, 2, 6, 9, 19] (by decide) ?_
 intro K1 hK1
 refine ⟨tv, ⟨rfl, rfl⟩, ?_⟩
 show K1 [(0, pT x), (1, .str token), (2, iT op), (6, pT b1), (9, .err 108 ((stepF s).2)), (19, .bool (!(((stepF s).2) == 0)))] _
 refine hK1 _ _ ?_; clear hK1 K1
 refine cD rfl rfl (fun h1 => ?_) (fun h1 => ?_)
 ·
  replace h1 : (stepF s).2 ≠ 0 := (ne_of_beq_false (bnT h1))
  refine rS [] [6, 7, 8] (by decide) ?_
  intro K1 hK1
  refine ⟨⟨rfl, by simp only [List.forall_mem_cons]; exact ⟨rfl, rfl, nfA⟩, nfA⟩, tv, ?_⟩
  refine aS rfl 0 (v := .agg [iT 0, iT 0]) (l' := [iT 0, iT 0]) rfl rfl hNb1 rfl rfl rfl rfl rfl (nB rfl) rfl ?_
  refine ⟨tv, tv, ?_⟩
  show K1 [(6, pT b1), (7, .bool false), (8, .err 108 ((stepF s).2))] (mW m [(b1, .cells [iT 0, iT 0]), (x, cObj d tb ob fb c), (d, .cells [.map kb, .map nb, sT ((((stepF s).1).wait).map chgAV), iT (((stepF s).1).fuse), .bool (((stepF s).1).down), iT (((stepF s).1).steps)]), (ob, oObj c.tokens), (fb, fObj c.fails)])
  refine hK1 _ _ ?_; clear hK1 K1
  refine awp_ret ?_
  refine resK_cell3 (fn := Try.f81) (a := 6) (t := 134) (s := 7) (u := 8) (b := b1) (off := 0) rfl rfl (wG  (m := m) (L := [(b1, .cells [iT 0, iT 0]), (x, cObj d tb ob fb c), (d, .cells [.map kb, .map nb, sT ((((stepF s).1).wait).map chgAV), iT (((stepF s).1).fuse), .bool (((stepF s).1).down), iT (((stepF s).1).steps)]), (ob, oObj c.tokens), (fb, fObj c.fails)]) 0 hNb1 rfl) (apartOk_agg rfl rfl (nB rfl)) (.agg [iT 0, iT 0]) (.bool false) (.err 108 ((stepF s).2)) rfl rfl rfl (.bool false) (.err 108 ((stepF s).2)) rfl rfl (mW m [(x, cObj d tb ob fb c), (d, .cells [.map kb, .map nb, sT ((((stepF s).1).wait).map chgAV), iT (((stepF s).1).fuse), .bool (((stepF s).1).down), iT (((stepF s).1).steps)]), (ob, oObj c.tokens), (fb, fObj c.fails)]) ((wth_sub2 (m := m) [(b1, .cells [iT 0, iT 0])] [(x, cObj d tb ob fb c), (d, .cells [.map kb, .map nb, sT ((((stepF s).1).wait).map chgAV), iT (((stepF s).1).fuse), .bool (((stepF s).1).down), iT (((stepF s).1).steps)]), (ob, oObj c.tokens), (fb, fObj c.fails)] hNb1 (by simp only [List.map_cons, List.map_nil, List.forall_mem_cons]; exact ⟨hFb1, nfA⟩))) ?_
  show K (.tuple [.agg [iT 0, iT 0], .bool false, .err 108 ((stepF s).2)]) (AMem.wth m [(x, cObj d tb ob fb c), (d, .cells [.map kb, .map nb, sT ((((stepF s).1).wait).map chgAV), iT (((stepF s).1).fuse), .bool (((stepF s).1).down), iT (((stepF s).1).steps)]), (ob, oObj c.tokens), (fb, fObj c.fails)])
 
  have e0 : callR c s token op = (((c, (stepF s).1), ((⟨0, 0⟩ : Dn), false, (stepF s).2)) : (ClSt × DSt) × (Dn × Bool × Int)) := by
   first | exact callR_1 (by assumption) | exact callR_2 (by assumption) (by assumption) | exact callR_3 (by assumption) (by assumption) (by assumption) | exact callR_4 (by assumption) (by assumption) (by assumption)
  rw [e0] at hK
  exact hK
 replace h1 : (stepF s).2 = 0 := (eq_of_beq (bnF h1))
 refine awp_skip ?_
 refine hK2 _ _ ?_; clear hK2
 refine rS [] [0, 1, 2, 6, 10] (by decide) ?_
 intro K1 hK1
 refine ⟨tv, tv, ⟨rfl, by decide⟩, ?_⟩
 refine aL rfl (v := iT c.calls) rfl (wG 1 hNb1 rfl) rfl (aO rfl rfl (nB rfl)) rfl ?_
 refine ⟨tv, ?_⟩
 show K1 [(0, pT x), (1, .str token), (2, iT op), (6, pT b1), (10, iT c.calls)] (mW m [(b1, .cells [iT 0, iT 0]), (x, cObj d tb ob fb c), (d, .cells [.map kb, .map nb, sT ((((stepF s).1).wait).map chgAV), iT (((stepF s).1).fuse), .bool (((stepF s).1).down), iT (((stepF s).1).steps)]), (ob, oObj c.tokens), (fb, fObj c.fails)])
 refine hK1 _ _ ?_; clear hK1 K1
 refine rS [] [0, 1, 2, 6, 10] (by decide) ?_
 intro K1 hK1
 refine ⟨tv, tv, ⟨rfl, by decide⟩, ?_⟩
 refine aL rfl (v := iT c.calls) rfl (wG 1 hNb1 rfl) rfl (aO rfl rfl (nB rfl)) rfl ?_
 refine ar_add rfl (a := c.calls) (b := 1) rfl rfl (by omega) (by omega) ?_
 refine ⟨tv, ⟨rfl, by decide⟩, ?_⟩
 refine aS rfl 1 (v := iT (c.calls + 1)) (l' := [pT d, .map tb, .map ob, iT c.next, iT c.quota, iT (c.calls + 1), .map fb]) rfl rfl hNb1 rfl rfl rfl rfl rfl (nB rfl) rfl ?_
 show K1 [(0, pT x), (1, .str token), (2, iT op), (6, pT b1), (10, iT c.calls)] (mW m [(b1, .cells [iT 0, iT 0]), (x, .cells [pT d, .map tb, .map ob, iT c.next, iT c.quota, iT (c.calls + 1), .map fb]), (d, .cells [.map kb, .map nb, sT ((((stepF s).1).wait).map chgAV), iT (((stepF s).1).fuse), .bool (((stepF s).1).down), iT (((stepF s).1).steps)]), (ob, oObj c.tokens), (fb, fObj c.fails)])
 refine hK1 _ _ ?_; clear hK1 K1
 refine sK ?_; intro K3 hK3
 refine rS [] [0, 1, 2, 6, 38] (by decide) ?_
 intro K1 hK1
 refine ⟨tv, tv, ⟨rfl, by decide⟩, ?_⟩
 refine aL rfl (v := .map fb) rfl (wG 1 hNb1 rfl) rfl (aO rfl rfl (nB rfl)) rfl ?_
 refine ⟨tv, ?_⟩
 refine ar_lookup rfl (m := m) (L := [(b1, .cells [iT 0, iT 0]), (x, .cells [pT d, .map tb, .map ob, iT c.next, iT c.quota, iT (c.calls + 1), .map fb]), (d, .cells [.map kb, .map nb, sT ((((stepF s).1).wait).map chgAV), iT (((stepF s).1).fuse), .bool (((stepF s).1).down), iT (((stepF s).1).steps)]), (ob, oObj c.tokens), (fb, fObj c.fails)]) intAV boolAV intKey_ok c.fails c.calls false rfl rfl rfl rfl rfl (wG 4 hNb1 rfl) rfl ?_
 show K1 [(0, pT x), (1, .str token), (2, iT op), (6, pT b1), (38, .bool ((mget c.fails c.calls).getD false))] _
 refine hK1 _ _ ?_; clear hK1 K1
 refine cD rfl rfl (fun h2 => ?_) (fun h2 => ?_)
 ·
  replace h2 : (mget c.fails c.calls).getD false = true := h2
  refine rS [] [6, 7, 8] (by decide) ?_
  intro K1 hK1
  refine ⟨⟨rfl, by simp only [List.forall_mem_cons]; exact ⟨rfl, rfl, nfA⟩, nfA⟩, tv, ?_⟩
  refine aS rfl 0 (v := .agg [iT 0, iT 0]) (l' := [iT 0, iT 0]) rfl rfl hNb1 rfl rfl rfl rfl rfl (nB rfl) rfl ?_
  refine ⟨tv, tv, ?_⟩
  show K1 [(6, pT b1), (7, .bool false), (8, .iface 108 (iT 12))] (mW m [(b1, .cells [iT 0, iT 0]), (x, .cells [pT d, .map tb, .map ob, iT c.next, iT c.quota, iT (c.calls + 1), .map fb]), (d, .cells [.map kb, .map nb, sT ((((stepF s).1).wait).map chgAV), iT (((stepF s).1).fuse), .bool (((stepF s).1).down), iT (((stepF s).1).steps)]), (ob, oObj c.tokens), (fb, fObj c.fails)])
  refine hK1 _ _ ?_; clear hK1 K1
  refine awp_toErr 108 [8] ?_
  show AWP _ _ _ _ [(6, pT b1), (7, .bool false), (8, .err 108 12)] _
  refine awp_ret ?_
  refine resK_cell3 (fn := Try.f81) (a := 6) (t := 134) (s := 7) (u := 8) (b := b1) (off := 0) rfl rfl (wG  (m := m) (L := [(b1, .cells [iT 0, iT 0]), (x, .cells [pT d, .map tb, .map ob, iT c.next, iT c.quota, iT (c.calls + 1), .map fb]), (d, .cells [.map kb, .map nb, sT ((((stepF s).1).wait).map chgAV), iT (((stepF s).1).fuse), .bool (((stepF s).1).down), iT (((stepF s).1).steps)]), (ob, oObj c.tokens), (fb, fObj c.fails)]) 0 hNb1 rfl) (apartOk_agg rfl rfl (nB rfl)) (.agg [iT 0, iT 0]) (.bool false) (.err 108 12) rfl rfl rfl (.bool false) (.err 108 12) rfl rfl (mW m [(x, .cells [pT d, .map tb, .map ob, iT c.next, iT c.quota, iT (c.calls + 1), .map fb]), (d, .cells [.map kb, .map nb, sT ((((stepF s).1).wait).map chgAV), iT (((stepF s).1).fuse), .bool (((stepF s).1).down), iT (((stepF s).1).steps)]), (ob, oObj c.tokens), (fb, fObj c.fails)]) ((wth_sub2 (m := m) [(b1, .cells [iT 0, iT 0])] [(x, .cells [pT d, .map tb, .map ob, iT c.next, iT c.quota, iT (c.calls + 1), .map fb]), (d, .cells [.map kb, .map nb, sT ((((stepF s).1).wait).map chgAV), iT (((stepF s).1).fuse), .bool (((stepF s).1).down), iT (((stepF s).1).steps)]), (ob, oObj c.tokens), (fb, fObj c.fails)] hNb1 (by simp only [List.map_cons, List.map_nil, List.forall_mem_cons]; exact ⟨hFb1, nfA⟩))) ?_
  show K (.tuple [.agg [iT 0, iT 0], .bool false, .err 108 12]) (AMem.wth m [(x, .cells [pT d, .map tb, .map ob, iT c.next, iT c.quota, iT (c.calls + 1), .map fb]), (d, .cells [.map kb, .map nb, sT ((((stepF s).1).wait).map chgAV), iT (((stepF s).1).fuse), .bool (((stepF s).1).down), iT (((stepF s).1).steps)]), (ob, oObj c.tokens), (fb, fObj c.fails)])
 
  have e0 : callR c s token op = ((((⟨c.things, c.tokens, c.next, c.quota, c.calls + 1, c.fails⟩ : ClSt), (stepF s).1), ((⟨0, 0⟩ : Dn), false, 12)) : (ClSt × DSt) × (Dn × Bool × Int)) := by
   first | exact callR_1 (by assumption) | exact callR_2 (by assumption) (by assumption) | exact callR_3 (by assumption) (by assumption) (by assumption) | exact callR_4 (by assumption) (by assumption) (by assumption)
  rw [e0] at hK
  exact hK
 replace h2 : (mget c.fails c.calls).getD false = false := h2
 refine awp_skip ?_
 refine hK3 _ _ ?_; clear hK3
 refine rS [] [2, 6, 11, 12] (by decide) ?_
 intro K1 hK1
 refine ⟨tv, tv, ⟨rfl, by decide⟩, ?_⟩
 refine aL rfl (v := .map ob) rfl (wG 1 hNb1 rfl) rfl (aO rfl rfl (nB rfl)) rfl ?_
 refine ⟨tv, ?_⟩
 refine ar_lookupOkP rfl (m := m) (L := [(b1, .cells [iT 0, iT 0]), (x, .cells [pT d, .map tb, .map ob, iT c.next, iT c.quota, iT (c.calls + 1), .map fb]), (d, .cells [.map kb, .map nb, sT ((((stepF s).1).wait).map chgAV), iT (((stepF s).1).fuse), .bool (((stepF s).1).down), iT (((stepF s).1).steps)]), (ob, oObj c.tokens), (fb, fObj c.fails)]) strAV dnAV strKey_ok c.tokens token zD rfl rfl rfl rfl rfl rfl (wG 3 hNb1 rfl) rfl ?_
 refine ⟨tv, (nB rfl), (nB rfl), ?_⟩
 refine ar_alloc rfl (z := .agg [iT 0, iT 0]) rfl rfl ?_
 intro b2 hb2
 have hFb2 : m b2 = none := wth_none hb2
 have hNb2 : ([b2, b1, x, d, ob, fb] : List Nat).Nodup := wth_nodup hb2 hNb1
 refine aS rfl 0 (v := dnAV ((mget c.tokens token).getD zD)) (l' := [iT (((mget c.tokens token).getD zD).op), iT (((mget c.tokens token).getD zD).id)]) rfl (by rfl) hNb2 rfl rfl rfl rfl rfl (nB rfl) rfl ?_
 refine ⟨tv, ?_⟩
 show K1 [(2, iT op), (6, pT b1), (11, pT b2), (12, .bool ((mget c.tokens token).isSome))] (mW m [(b2, .cells [iT (((mget c.tokens token).getD zD).op), iT (((mget c.tokens token).getD zD).id)]), (b1, .cells [iT 0, iT 0]), (x, .cells [pT d, .map tb, .map ob, iT c.next, iT c.quota, iT (c.calls + 1), .map fb]), (d, .cells [.map kb, .map nb, sT ((((stepF s).1).wait).map chgAV), iT (((stepF s).1).fuse), .bool (((stepF s).1).down), iT (((stepF s).1).steps)]), (ob, oObj c.tokens), (fb, fObj c.fails)])
 refine hK1 _ _ ?_; clear hK1 K1
 refine sK ?_; intro K4 hK4
 refine rS [] [6, 11, 12, 56] (by decide) ?_
 intro K1 hK1
 suffices key : K1 [(6, pT b1), (11, pT b2), (12, .bool ((mget c.tokens token).isSome)), (56, .bool (((mget c.tokens token).isSome) && (!((((mget c.tokens token).getD zD).op) == op))))] (mW m [(b2, .cells [iT (((mget c.tokens token).getD zD).op), iT (((mget c.tokens token).getD zD).id)]), (b1, .cells [iT 0, iT 0]), (x, .cells [pT d, .map tb, .map ob, iT c.next, iT c.quota, iT (c.calls + 1), .map fb]), (d, .cells [.map kb, .map nb, sT ((((stepF s).1).wait).map chgAV), iT (((stepF s).1).fuse), .bool (((stepF s).1).down), iT (((stepF s).1).steps)]), (ob, oObj c.tokens), (fb, fObj c.fails)]) by
  refine ⟨tv, tv, ?_⟩
  show aopsR _ _ _ _ _ [(51, .bool ((mget c.tokens token).isSome)), (50, .bool ((mget c.tokens token).isSome)), (2, iT op), (6, pT b1), (11, pT b2), (12, .bool ((mget c.tokens token).isSome))] _
  revert key
  cases h3 : ((mget c.tokens token).isSome)
  ·
   replace h3 : (mget c.tokens token).isSome = false := h3
   intro key
   refine ar_off rfl (ar_off rfl (ar_off rfl (ar_off rfl ?_)))
   exact key
  ·
   replace h3 : (mget c.tokens token).isSome = true := h3
   intro key
   refine ⟨⟨rfl, by decide⟩, ?_⟩
   refine aL rfl (v := iT (((mget c.tokens token).getD zD).op)) rfl (wG 0 hNb2 rfl) rfl (aO rfl rfl (nB rfl)) rfl ?_
   refine ⟨tv, tv, ?_⟩
   exact key
 refine hK1 _ _ ?_; clear hK1 K1
 refine cD rfl rfl (fun h4 => ?_) (fun h4 => ?_)
 ·
  replace h4 : ((mget c.tokens token).isSome = true) ∧ (((mget c.tokens token).getD zD).op ≠ op) := ⟨(bandL h4), (ne_of_beq_false (bnT (bandR h4)))⟩
  refine rS [] [6, 7, 8] (by decide) ?_
  intro K1 hK1
  refine ⟨⟨rfl, by simp only [List.forall_mem_cons]; exact ⟨rfl, rfl, nfA⟩, nfA⟩, tv, ?_⟩
  refine aS rfl 1 (v := .agg [iT 0, iT 0]) (l' := [iT 0, iT 0]) rfl rfl hNb2 rfl rfl rfl rfl rfl (nB rfl) rfl ?_
  refine ⟨tv, tv, ?_⟩
  show K1 [(6, pT b1), (7, .bool false), (8, .iface 108 (iT 15))] (mW m [(b2, .cells [iT (((mget c.tokens token).getD zD).op), iT (((mget c.tokens token).getD zD).id)]), (b1, .cells [iT 0, iT 0]), (x, .cells [pT d, .map tb, .map ob, iT c.next, iT c.quota, iT (c.calls + 1), .map fb]), (d, .cells [.map kb, .map nb, sT ((((stepF s).1).wait).map chgAV), iT (((stepF s).1).fuse), .bool (((stepF s).1).down), iT (((stepF s).1).steps)]), (ob, oObj c.tokens), (fb, fObj c.fails)])
  refine hK1 _ _ ?_; clear hK1 K1
  refine awp_toErr 108 [8] ?_
  show AWP _ _ _ _ [(6, pT b1), (7, .bool false), (8, .err 108 15)] _
  refine awp_ret ?_
  refine resK_cell3 (fn := Try.f81) (a := 6) (t := 134) (s := 7) (u := 8) (b := b1) (off := 0) rfl rfl (wG  (m := m) (L := [(b2, .cells [iT (((mget c.tokens token).getD zD).op), iT (((mget c.tokens token).getD zD).id)]), (b1, .cells [iT 0, iT 0]), (x, .cells [pT d, .map tb, .map ob, iT c.next, iT c.quota, iT (c.calls + 1), .map fb]), (d, .cells [.map kb, .map nb, sT ((((stepF s).1).wait).map chgAV), iT (((stepF s).1).fuse), .bool (((stepF s).1).down), iT (((stepF s).1).steps)]), (ob, oObj c.tokens), (fb, fObj c.fails)]) 1 hNb2 rfl) (apartOk_agg rfl rfl (nB rfl)) (.agg [iT 0, iT 0]) (.bool false) (.err 108 15) rfl rfl rfl (.bool false) (.err 108 15) rfl rfl (mW m [(x, .cells [pT d, .map tb, .map ob, iT c.next, iT c.quota, iT (c.calls + 1), .map fb]), (d, .cells [.map kb, .map nb, sT ((((stepF s).1).wait).map chgAV), iT (((stepF s).1).fuse), .bool (((stepF s).1).down), iT (((stepF s).1).steps)]), (ob, oObj c.tokens), (fb, fObj c.fails)]) ((wth_sub2 (m := m) [(b2, .cells [iT (((mget c.tokens token).getD zD).op), iT (((mget c.tokens token).getD zD).id)]), (b1, .cells [iT 0, iT 0])] [(x, .cells [pT d, .map tb, .map ob, iT c.next, iT c.quota, iT (c.calls + 1), .map fb]), (d, .cells [.map kb, .map nb, sT ((((stepF s).1).wait).map chgAV), iT (((stepF s).1).fuse), .bool (((stepF s).1).down), iT (((stepF s).1).steps)]), (ob, oObj c.tokens), (fb, fObj c.fails)] hNb2 (by simp only [List.map_cons, List.map_nil, List.forall_mem_cons]; exact ⟨hFb2, hFb1, nfA⟩))) ?_
  show K (.tuple [.agg [iT 0, iT 0], .bool false, .err 108 15]) (AMem.wth m [(x, .cells [pT d, .map tb, .map ob, iT c.next, iT c.quota, iT (c.calls + 1), .map fb]), (d, .cells [.map kb, .map nb, sT ((((stepF s).1).wait).map chgAV), iT (((stepF s).1).fuse), .bool (((stepF s).1).down), iT (((stepF s).1).steps)]), (ob, oObj c.tokens), (fb, fObj c.fails)])
 
  have e0 : callR c s token op = ((((⟨c.things, c.tokens, c.next, c.quota, c.calls + 1, c.fails⟩ : ClSt), (stepF s).1), ((⟨0, 0⟩ : Dn), false, 15)) : (ClSt × DSt) × (Dn × Bool × Int)) := by
   first | exact callR_1 (by assumption) | exact callR_2 (by assumption) (by assumption) | exact callR_3 (by assumption) (by assumption) (by assumption) | exact callR_4 (by assumption) (by assumption) (by assumption)
  rw [e0] at hK
  exact hK
 replace h4 : ((mget c.tokens token).isSome = false) ∨ (((mget c.tokens token).getD zD).op = op) := ((bandF h4).imp (fun q => q) (fun q => (eq_of_beq (bnF q))))
 refine awp_skip ?_
 refine hK4 _ _ ?_; clear hK4
 refine rS [] [6, 7, 8] (by decide) ?_
 intro K1 hK1
 refine aL rfl (v := .agg [iT (((mget c.tokens token).getD zD).op), iT (((mget c.tokens token).getD zD).id)]) rfl (wG 0 hNb2 rfl) rfl (apartOk_agg rfl rfl (nB rfl)) rfl ?_
 refine ⟨tv, ?_⟩
 refine aS rfl 1 (v := .agg [iT (((mget c.tokens token).getD zD).op), iT (((mget c.tokens token).getD zD).id)]) (l' := [iT (((mget c.tokens token).getD zD).op), iT (((mget c.tokens token).getD zD).id)]) rfl rfl hNb2 rfl rfl rfl rfl rfl (nB rfl) rfl ?_
 refine ⟨tv, tv, ?_⟩
 show K1 [(6, pT b1), (7, .bool ((mget c.tokens token).isSome)), (8, .nilIface)] (mW m [(b2, .cells [iT (((mget c.tokens token).getD zD).op), iT (((mget c.tokens token).getD zD).id)]), (b1, .cells [iT (((mget c.tokens token).getD zD).op), iT (((mget c.tokens token).getD zD).id)]), (x, .cells [pT d, .map tb, .map ob, iT c.next, iT c.quota, iT (c.calls + 1), .map fb]), (d, .cells [.map kb, .map nb, sT ((((stepF s).1).wait).map chgAV), iT (((stepF s).1).fuse), .bool (((stepF s).1).down), iT (((stepF s).1).steps)]), (ob, oObj c.tokens), (fb, fObj c.fails)])
 refine hK1 _ _ ?_; clear hK1 K1
 refine awp_toErr 108 [8] ?_
 show AWP _ _ _ _ [(6, pT b1), (7, .bool ((mget c.tokens token).isSome)), (8, .err 108 0)] _
 refine awp_ret ?_
 refine resK_cell3 (fn := Try.f81) (a := 6) (t := 134) (s := 7) (u := 8) (b := b1) (off := 0) rfl rfl (wG  (m := m) (L := [(b2, .cells [iT (((mget c.tokens token).getD zD).op), iT (((mget c.tokens token).getD zD).id)]), (b1, .cells [iT (((mget c.tokens token).getD zD).op), iT (((mget c.tokens token).getD zD).id)]), (x, .cells [pT d, .map tb, .map ob, iT c.next, iT c.quota, iT (c.calls + 1), .map fb]), (d, .cells [.map kb, .map nb, sT ((((stepF s).1).wait).map chgAV), iT (((stepF s).1).fuse), .bool (((stepF s).1).down), iT (((stepF s).1).steps)]), (ob, oObj c.tokens), (fb, fObj c.fails)]) 1 hNb2 rfl) (apartOk_agg rfl rfl (nB rfl)) (.agg [iT (((mget c.tokens token).getD zD).op), iT (((mget c.tokens token).getD zD).id)]) (.bool ((mget c.tokens token).isSome)) (.err 108 0) rfl rfl rfl (.bool ((mget c.tokens token).isSome)) (.err 108 0) rfl rfl (mW m [(x, .cells [pT d, .map tb, .map ob, iT c.next, iT c.quota, iT (c.calls + 1), .map fb]), (d, .cells [.map kb, .map nb, sT ((((stepF s).1).wait).map chgAV), iT (((stepF s).1).fuse), .bool (((stepF s).1).down), iT (((stepF s).1).steps)]), (ob, oObj c.tokens), (fb, fObj c.fails)]) ((wth_sub2 (m := m) [(b2, .cells [iT (((mget c.tokens token).getD zD).op), iT (((mget c.tokens token).getD zD).id)]), (b1, .cells [iT (((mget c.tokens token).getD zD).op), iT (((mget c.tokens token).getD zD).id)])] [(x, .cells [pT d, .map tb, .map ob, iT c.next, iT c.quota, iT (c.calls + 1), .map fb]), (d, .cells [.map kb, .map nb, sT ((((stepF s).1).wait).map chgAV), iT (((stepF s).1).fuse), .bool (((stepF s).1).down), iT (((stepF s).1).steps)]), (ob, oObj c.tokens), (fb, fObj c.fails)] hNb2 (by simp only [List.map_cons, List.map_nil, List.forall_mem_cons]; exact ⟨hFb2, hFb1, nfA⟩))) ?_
 show K (.tuple [.agg [iT (((mget c.tokens token).getD zD).op), iT (((mget c.tokens token).getD zD).id)], .bool ((mget c.tokens token).isSome), .err 108 0]) (AMem.wth m [(x, .cells [pT d, .map tb, .map ob, iT c.next, iT c.quota, iT (c.calls + 1), .map fb]), (d, .cells [.map kb, .map nb, sT ((((stepF s).1).wait).map chgAV), iT (((stepF s).1).fuse), .bool (((stepF s).1).down), iT (((stepF s).1).steps)]), (ob, oObj c.tokens), (fb, fObj c.fails)])
 have e0 : callR c s token op = ((((⟨c.things, c.tokens, c.next, c.quota, c.calls + 1, c.fails⟩ : ClSt), (stepF s).1), (((mget c.tokens token).getD zD), ((mget c.tokens token).isSome), 0)) : (ClSt × DSt) × (Dn × Bool × Int)) := by
  first | exact callR_1 (by assumption) | exact callR_2 (by assumption) (by assumption) | exact callR_3 (by assumption) (by assumption) (by assumption) | exact callR_4 (by assumption) (by assumption) (by assumption)
 rw [e0] at hK
 exact hK
theorem u_callE (x d tb ob fb kb nb : Nat) (c : ClSt) (s : DSt) (token : Str) (op : Int) (hN : [x, d, ob, fb].Nodup) (hst : 0 ≤ s.steps) (hst2 : s.steps ≤ 4611686018427387904) (hfu : -1 ≤ s.fuse) (hfu2 : s.fuse ≤ 9223372036854775807) (hca : 0 ≤ c.calls) (hca2 : c.calls ≤ 1000000) (m : AMem) (K : AV → AMem → Prop) (hK : K (.tuple [dnAV (callT c s token op).1, .bool (callT c s token op).2.1, .err 108 (callT c s token op).2.2]) (mW m [(x, cObj d tb ob fb { c with calls := ccalls c s token op }), (d, dObj kb nb (stepF s).1), (ob, oObj c.tokens), (fb, fObj c.fails)])) : ACalls Try.prog 81 [pT x, .str token, iT op] (mW m [(x, cObj d tb ob fb c), (d, .cells [.map kb, .map nb, sT (s.wait.map chgAV), iT s.fuse, .bool s.down, iT s.steps]), (ob, oObj c.tokens), (fb, fObj c.fails)]) K :=
  u_call x d tb ob fb kb nb c s token op hN hst hst2 hfu hfu2 hca hca2 m K (by rw [callR_eq]; exact hK)
end Go.Proofs
end
