import Derived.Test.YtnahenbiipdlkaaGreatDoorSv3
import Derived.Test.YtnahenbiipdlkaaGreatDoorProg
import Derived.Test.YtnahenbiipdlkaaGreatDoorWxz
section
namespace Go.Proofs
open Go Go.Aw Go.Sx
set_option maxRecDepth 100000
def zV : Val := .mk 0 0 [] [] []
theorem Val.ext' {a b : Val} (h1 : a.kind = b.kind) (h2 : a.n = b.n) (h3 : a.s = b.s) (h4 : a.l = b.l) (h5 : a.f = b.f) : a = b := by
  cases a; cases b; simp only [Val.kind, Val.n, Val.s, Val.l, Val.f] at h1 h2 h3 h4 h5; subst h1 h2 h3 h4 h5; rfl
noncomputable def vEq (a b : Val) : Bool := @decide (a = b) (Classical.propDecidable _)
theorem vEq_true {a b : Val} (h : a = b) : vEq a b = true := by simp [vEq, h]
theorem vEq_false {a b : Val} (h : a ≠ b) : vEq a b = false := by simp [vEq, h]
theorem vEq_iff {a b : Val} : vEq a b = true ↔ a = b := by simp [vEq]
def cntL {α : Type} (g : α → Int → Bool × Int) : List α → Int → Bool × Int
  | [], n => (true, n)
  | x :: r, n => if (g x n).1 = true then cntL g r (g x n).2 else (false, (g x n).2)
def cntF : Nat → Int → Val → Int → Bool × Int
  | 0, _, _, n => (false, n)
  | k + 1, deep, v, n =>
    if 6 < deep ∨ n - 1 < 0 then (false, n - 1)
    else if (cntL (cntF k (deep + 1)) v.l (n - 1)).1 = false then (false, (cntL (cntF k (deep + 1)) v.l (n - 1)).2)
    else cntL (fun p => cntF k (deep + 1) p.2) v.f (cntL (cntF k (deep + 1)) v.l (n - 1)).2
def sumN {α : Type} (g : α → Nat) : List α → Nat
  | [] => 0
  | x :: r => g x + sumN g r
theorem sumN_l (l : List Val) : sumN depV l = depL l := by
  induction l with
  | nil => rfl
  | cons v r ih => simp only [sumN, depL, ih]
theorem sumN_f (l : List (Str × Val)) : sumN (fun p => depV p.2) l = depF l := by
  induction l with
  | nil => rfl
  | cons p r ih =>
    obtain ⟨s, v⟩ := p
    cases v with
    | mk k n t l f => simp only [sumN, depF, ih, depV]
theorem cntL_ok {α : Type} {g : α → Int → Bool × Int} {d : α → Nat} (hg : ∀ x n, 0 ≤ n → (g x n).1 = true → 0 ≤ (g x n).2 ∧ (g x n).2 + d x = n) : ∀ (l : List α) (n : Int), 0 ≤ n → (cntL g l n).1 = true → 0 ≤ (cntL g l n).2 ∧ (cntL g l n).2 + sumN d l = n
  | [], n, h0, _ => by simp [cntL, sumN, h0]
  | x :: r, n, h0, h => by
    rw [cntL] at h ⊢
    split at h
    · rename_i h1
      have h2 := hg x n h0 h1
      have h3 := cntL_ok hg r _ h2.1 h
      rw [if_pos h1, sumN]
      exact ⟨h3.1, by push_cast; omega⟩
    · cases h
theorem cntF_ok : ∀ (k : Nat) (deep : Int) (v : Val) (n : Int), 0 ≤ n → (cntF k deep v n).1 = true → 0 ≤ (cntF k deep v n).2 ∧ (cntF k deep v n).2 + depV v = n
  | 0, _, _, _, _, h => by simp [cntF] at h
  | k + 1, deep, v, n, h0, h => by
    rw [cntF] at h ⊢
    split at h
    · cases h
    · rename_i h1
      rw [if_neg h1]
      split at h
      · cases h
      · rename_i h2
        rw [if_neg h2]
        have h3 : (cntL (cntF k (deep + 1)) v.l (n - 1)).1 = true := by simpa using h2
        have a := cntL_ok (d := depV) (g := cntF k (deep + 1)) (fun x n hn hx => cntF_ok k (deep + 1) x n hn hx) v.l (n - 1) (by omega) h3
        have b := cntL_ok (d := fun p : Str × Val => depV p.2) (g := fun p => cntF k (deep + 1) p.2) (fun x n hn hx => cntF_ok k (deep + 1) x.2 n hn hx) v.f _ a.1 h
        rw [sumN_l] at a
        rw [sumN_f] at b
        have e := depV_eq v
        exact ⟨b.1, by omega⟩
def recOk : Option Str → List (Str × Val) → Bool
  | _, [] => true
  | p, f :: r => nameV f.1 && (match p with | none => true | some s => Op.bytesLess s f.1) && recOk (some f.1) r
def shpOk (v : Val) : Bool :=
  if v.kind = 0 then ((v.n == 0) && (v.s == [])) && ((v.l.length : Int) + (v.f.length : Int) == 0)
  else if v.kind = 1 then ((decide (-1000000000 ≤ v.n) && decide (v.n ≤ 1000000000)) && (v.s == [])) && ((v.l.length : Int) + (v.f.length : Int) == 0)
  else if v.kind = 2 then ((v.n == 0) && decide ((v.s.length : Int) ≤ 40)) && ((v.l.length : Int) + (v.f.length : Int) == 0)
  else if v.kind = 3 then (((v.n == 0) || (v.n == 1)) && (v.s == [])) && ((v.l.length : Int) + (v.f.length : Int) == 0)
  else if v.kind = 4 then ((v.n == 0) && (v.s == [])) && ((v.f.length : Int) == 0)
  else if v.kind = 5 then (((v.n == 0) && (v.s == [])) && ((v.l.length : Int) == 0)) && recOk none v.f
  else false
def shpF : Nat → Val → Bool
  | 0, _ => false
  | k + 1, v => shpOk v && v.l.all (shpF k) && v.f.all (fun p => shpF k p.2)
def shE (b : Bool) : Int := if b = true then 0 else 3
def chk (v : Val) : Int := if (cntF (depV v + 1) 1 v 60).1 = true then shE (shpF (depV v + 1) v) else 2
def prevN (l : List (Str × Val)) (i : Int) : Option Str := if i = 0 then none else some (gI l (i - 1)).1
theorem recOk_cons (p : Option Str) (f : Str × Val) (r : List (Str × Val)) : recOk p (f :: r) = (nameV f.1 && (match p with | none => true | some s => Op.bytesLess s f.1) && recOk (some f.1) r) := by cases p <;> rfl
theorem recOk_step {l : List (Str × Val)} {i : Int} (h0 : 0 ≤ i) (hi : i < l.length) : recOk (prevN l i) (l.drop i.toNat) = (nameV (gI l i).1 && ((i == 0) || Op.bytesLess (gI l (i - 1)).1 (gI l i).1) && recOk (prevN l (i + 1)) (l.drop (i + 1).toNat)) := by
  have e : prevN l (i + 1) = some (gI l i).1 := by rw [prevN, if_neg (by omega)]; congr 2; congr 1; omega
  rw [drop_gI h0 hi, recOk_cons, e, prevN]
  by_cases h : i = 0
  · simp [h]
  · have : (i == 0) = false := by simpa using h
    rw [if_neg h, this, Bool.false_or]
theorem cntL_drop {α : Type} [Inhabited α] {g : α → Int → Bool × Int} {l : List α} {i n : Int} (h0 : 0 ≤ i) (hi : i < l.length) : cntL g (l.drop i.toNat) n = if (g (gI l i) n).1 = true then cntL g (l.drop (i + 1).toNat) (g (gI l i) n).2 else (false, (g (gI l i) n).2) := by
  rw [drop_gI h0 hi, cntL]
theorem all_drop {α : Type} [Inhabited α] {g : α → Bool} {l : List α} {i : Int} (h0 : 0 ≤ i) (hi : i < l.length) : (l.drop i.toNat).all g = (g (gI l i) && (l.drop (i + 1).toNat).all g) := by
  rw [drop_gI h0 hi, List.all_cons]
theorem cntF_l {k : Nat} {deep n x : Int} {v : Val} (h : ¬(6 < deep ∨ n - 1 < 0)) (e : cntL (cntF k (deep + 1)) v.l (n - 1) = (false, x)) : cntF (k + 1) deep v n = (false, x) := by
  rw [cntF, if_neg h, e, if_pos rfl]
theorem cntF_f {k : Nat} {deep n x : Int} {v : Val} (h : ¬(6 < deep ∨ n - 1 < 0)) (e : cntL (cntF k (deep + 1)) v.l (n - 1) = (true, x)) : cntF (k + 1) deep v n = cntL (fun p => cntF k (deep + 1) p.2) v.f x := by
  rw [cntF, if_neg h, e, if_neg (by simp)]
theorem shE_t {b : Bool} (h : shE b = 0) : b = true := by cases b <;> first | rfl | simp [shE] at h
theorem shE_f {b : Bool} (h : shE b ≠ 0) : b = false := by cases b <;> first | rfl | simp [shE] at h
theorem shE_1 {k : Nat} {v : Val} (h : shpOk v = false) : shE (shpF (k + 1) v) = 3 := by rw [shpF, h]; rfl
theorem shE_2 {k : Nat} {v : Val} (h : v.l.all (shpF k) = false) : shE (shpF (k + 1) v) = 3 := by rw [shpF, h]; simp [shE]
theorem shE_3 {k : Nat} {v : Val} (h : v.f.all (fun p => shpF k p.2) = false) : shE (shpF (k + 1) v) = 3 := by rw [shpF, h]; simp [shE]
theorem shE_0 {k : Nat} {v : Val} (h1 : shpOk v = true) (h2 : v.l.all (shpF k) = true) (h3 : v.f.all (fun p => shpF k p.2) = true) : shE (shpF (k + 1) v) = 0 := by rw [shpF, h1, h2, h3]; rfl
set_option maxHeartbeats 4000000 in
theorem u_count1 (k : Nat) (v : Val) (deep n : Int) (p : Nat) (ih : ∀ (w : Val) (deep n : Int), depV w < k → 1 ≤ deep → deep ≤ 7 → 0 ≤ n → n ≤ 60 → ∀ (b : Nat) (m : AMem), Gd [b] m → ∀ (K : AV → AMem → Prop), K (.bool (cntF k deep w n).1) (AMem.wth m [(b, .cells [.int .i64 (cntF k deep w n).2])]) → ACalls Tryz.prog 159 [valTop w, .int .i64 deep, .ptr ⟨b, 0, none⟩] (AMem.wth m [(b, .cells [.int .i64 n])]) K) (hd : depV v < k + 1) (hd1 : 1 ≤ deep) (hd7 : deep ≤ 7) (hn0 : 0 ≤ n) (hn6 : n ≤ 60) (m : AMem) (gd : Gd [p] m) (K : AV → AMem → Prop) (hK : K (.bool (cntF (k + 1) deep v n).1) (AMem.wth m [(p, .cells [.int .i64 (cntF (k + 1) deep v n).2])])) : ACalls Tryz.prog 159 [valTop v, .int .i64 deep, .ptr ⟨p, 0, none⟩] (AMem.wth m [(p, .cells [.int .i64 n])]) K := by
 refine enter (c := cf [] [0] [2] [] [] [p]) (vs := [.av (valTop v), .av (.int .i64 deep), .loc 0 0]) (L := [.cells [vI n]]) (m := m) false tbOk Tryz.mixed Tryz.func159 rfl (k := 3) (by show fnOk [] _ _ _ = true; decide +kernel) rfl (gd.good rfl) ?_
 refine ⟨fun F0 => ?_⟩
 have hbd0_2 : v.s.length ≤ 140737488355328 := (F0 0 2 (Nat.le_of_ble_eq_true rfl))
 have hbd0_3 : v.l.length ≤ 140737488355328 := bd_map (F0 0 3 (Nat.le_of_ble_eq_true rfl))
 have hbd0_4 : v.f.length ≤ 140737488355328 := bd_map (F0 0 4 (Nat.le_of_ble_eq_true rfl))
 refine an (by omega) ?_
 refine sq ?_
 refine mg [1, 2, 3] 23 ((decide (6 < deep)) || (decide (n - 1 < 0))) ?_ ?_
 · repeat' first
    | exact ⟨⟨_, rfl, by grind [SB.val]⟩, rfl⟩
    | refine an (fun _ => ?_) (fun _ => ?_)
 refine an (fun h1 => ?_) (fun h1 => ?_)
 · replace h1 : (6 < deep) ∨ (n - 1 < 0) := ((borT h1).imp (fun q => (of_decide_eq_true q)) (fun q => (of_decide_eq_true q)))
   refine rt rfl fun _ => ?_
   show K (.bool false) (AMem.wth m [(p, .cells [.int .i64 (n - 1)])])
   rw [cntF, if_pos (by omega)] at hK; exact hK
 replace h1 : (deep ≤ 6) ∧ (0 ≤ n - 1) := ⟨(Int.not_lt.1 (of_decide_eq_false (borL h1))), (Int.not_lt.1 (of_decide_eq_false (borR h1)))⟩
 refine sq ?_
 refine ln ?_
 refine lp (σ := Int × Int) [] [1, 2, 3, 25, 26, 27] 2 (fun ⟨i, nl⟩ => ([(1, vI deep), (2, .loc 0 0), (3, .loc 1 0), (25, vL (v.l.map valIn)), (26, vI (v.l.length : Int)), (27, vI i)], [.cells [vI nl], .cells [vI v.kind, vI v.n, vS v.s, vL (v.l.map valIn), vL (v.f.map fldIn)]], m)) (fun ⟨i, nl⟩ => 0 ≤ i ∧ i ≤ v.l.length ∧ 0 ≤ nl ∧ nl ≤ 60 ∧ cntL (cntF k (deep + 1)) v.l (n - 1) = cntL (cntF k (deep + 1)) (v.l.drop i.toNat) nl) (fun ⟨i, nl⟩ => v.l.length - i.toNat) (0, n - 1) ⟨rfl, rfl⟩ ?_ ?_
 · try dsimp only
   exact ⟨by omega, by omega, by omega, by omega, rfl⟩
 rintro ⟨i, nl⟩ hI
 dsimp only at hI
 refine sq ?_
 refine an (fun h2 => ?_) (fun h2 => ?_)
 · refine sq ?_
   refine ixg valTop valIn_eq (by omega) ?_
   refine an (by omega) ?_
   refine callM [0] [.cells [vI ((cntF k (deep + 1) (gI v.l i) nl).2)]] (vB ((cntF k (deep + 1) (gI v.l i) nl).1)) rfl (fun bs mm gd => ih (gI v.l i) (deep + 1) nl (by have := depV_eq v; first | (have := depL_mem (gI_mem (l := v.l) (i := i) hI.1 (by assumption)); omega) | (have := depF_mem (gI_mem (l := v.f) (i := i2) hI2.1 (by assumption)); omega)) (by omega) (by omega) (by omega) (by omega) (bs.getD 0 0) mm gd) ?_
   refine an (fun h3 => ?_) (fun h3 => ?_)
   · refine an (by omega) ?_
     refine ⟨(i + 1, (cntF k (deep + 1) (gI v.l i) nl).2), ⟨rfl, rfl⟩, ?_, ?_⟩
     · try dsimp only
       have q := cntF_ok k (deep + 1) (gI v.l i) nl hI.2.2.1 h3
       exact ⟨by omega, by omega, by omega, by omega, by rw [hI.2.2.2.2, cntL_drop hI.1 h2, if_pos h3]⟩
     try dsimp only
     omega
   refine rt rfl fun _ => ?_
   show K (.bool false) (AMem.wth m [(p, .cells [.int .i64 ((cntF k (deep + 1) (gI v.l i) nl).2)])])
   have e : cntF (k + 1) deep v n = (false, (cntF k (deep + 1) (gI v.l i) nl).2) := cntF_l (by omega) (by rw [hI.2.2.2.2, cntL_drop hI.1 h2, if_neg (by simp [h3])])
   rw [e] at hK; exact hK
 refine sq ?_
 refine ln ?_
 refine lp (σ := Int × Int) [] [1, 2, 39, 40, 41] 2 (fun ⟨i2, nf⟩ => ([(1, vI deep), (2, .loc 0 0), (39, vL (v.f.map fldIn)), (40, vI (v.f.length : Int)), (41, vI i2)], [.cells [vI nf], .cells [vI v.kind, vI v.n, vS v.s, vL (v.l.map valIn), vL (v.f.map fldIn)]], m)) (fun ⟨i2, nf⟩ => 0 ≤ i2 ∧ i2 ≤ v.f.length ∧ 0 ≤ nf ∧ nf ≤ 60 ∧ cntF (k + 1) deep v n = cntL (fun p => cntF k (deep + 1) p.2) (v.f.drop i2.toNat) nf) (fun ⟨i2, nf⟩ => v.f.length - i2.toNat) (0, nl) ⟨rfl, rfl⟩ ?_ ?_
 · try dsimp only
   have e : cntL (cntF k (deep + 1)) v.l (n - 1) = (true, nl) := by rw [hI.2.2.2.2, List.drop_eq_nil_of_le (by omega)]; rfl
   exact ⟨by omega, by omega, by omega, by omega, by rw [cntF_f (by omega) e]; rfl⟩
 rintro ⟨i2, nf⟩ hI2
 dsimp only at hI2
 refine sq ?_
 refine an (fun h4 => ?_) (fun h4 => ?_)
 · refine sq ?_
   refine ixg fldTop fldIn_eq (by omega) ?_
   refine an (by omega) ?_
   refine callM [0] [.cells [vI ((cntF k (deep + 1) ((gI v.f i2).2) nf).2)]] (vB ((cntF k (deep + 1) ((gI v.f i2).2) nf).1)) rfl (fun bs mm gd => ih ((gI v.f i2).2) (deep + 1) nf (by have := depV_eq v; first | (have := depL_mem (gI_mem (l := v.l) (i := i) hI.1 (by assumption)); omega) | (have := depF_mem (gI_mem (l := v.f) (i := i2) hI2.1 (by assumption)); omega)) (by omega) (by omega) (by omega) (by omega) (bs.getD 0 0) mm gd) ?_
   refine an (fun h5 => ?_) (fun h5 => ?_)
   · refine an (by omega) ?_
     refine ⟨(i2 + 1, (cntF k (deep + 1) ((gI v.f i2).2) nf).2), ⟨rfl, rfl⟩, ?_, ?_⟩
     · try dsimp only
       have q := cntF_ok k (deep + 1) (gI v.f i2).2 nf hI2.2.2.1 h5
       exact ⟨by omega, by omega, by omega, by omega, by rw [hI2.2.2.2.2, cntL_drop hI2.1 h4, if_pos h5]⟩
     try dsimp only
     omega
   refine rt rfl fun _ => ?_
   show K (.bool false) (AMem.wth m [(p, .cells [.int .i64 ((cntF k (deep + 1) ((gI v.f i2).2) nf).2)])])
   have e : cntF (k + 1) deep v n = (false, (cntF k (deep + 1) (gI v.f i2).2 nf).2) := by
     rw [hI2.2.2.2.2, cntL_drop hI2.1 h4, if_neg (by simp [h5])]
   rw [e] at hK; exact hK
 refine rt rfl fun _ => ?_
 show K (.bool true) (AMem.wth m [(p, .cells [.int .i64 nf])])
 have e : cntF (k + 1) deep v n = (true, nf) := by rw [hI2.2.2.2.2, List.drop_eq_nil_of_le (by omega)]; rfl
 rw [e] at hK; exact hK
theorem u_count : ∀ (k : Nat) (v : Val) (deep n : Int), depV v < k → 1 ≤ deep → deep ≤ 7 → 0 ≤ n → n ≤ 60 → ∀ (b : Nat) (m : AMem), Gd [b] m → ∀ (K : AV → AMem → Prop), K (.bool (cntF k deep v n).1) (AMem.wth m [(b, .cells [.int .i64 (cntF k deep v n).2])]) → ACalls Tryz.prog 159 [valTop v, .int .i64 deep, .ptr ⟨b, 0, none⟩] (AMem.wth m [(b, .cells [.int .i64 n])]) K
  | 0, _, _, _, h => absurd h (Nat.not_lt_zero _)
  | k + 1, v, deep, n, h => fun h1 h7 h0 h6 b m gd K hK => u_count1 k v deep n b (u_count k) h h1 h7 h0 h6 m gd K hK
set_option maxHeartbeats 8000000 in
theorem u_shape1 (k : Nat) (v : Val) (ih : ∀ (w : Val), depV w < k → ∀ (m : AMem) (K : AV → AMem → Prop), K (.err 115 (shE (shpF k w))) m → ACalls Tryz.prog 160 [valTop w] m K) (hd : depV v < k + 1) (m : AMem)  (K : AV → AMem → Prop) (hK : K (.err 115 (shE (shpF (k + 1) v))) m) : ACalls Tryz.prog 160 [valTop v] m K := by
 refine enter (c := cf [] [0, 19] [5, 7, 9, 11, 13, 15, 19] [] [] []) (vs := [.av (valTop v)]) (L := []) (m := m) true tbOk Tryz.mixed Tryz.func160 rfl (k := 1) (by show fnOk [] _ _ _ = true; decide +kernel) rfl (Good.nil m) ?_
 refine ⟨fun F0 => ?_⟩
 have hbd0_2 : v.s.length ≤ 140737488355328 := (F0 0 2 (Nat.le_of_ble_eq_true rfl))
 have hbd0_3 : v.l.length ≤ 140737488355328 := bd_map (F0 0 3 (Nat.le_of_ble_eq_true rfl))
 have hbd0_4 : v.f.length ≤ 140737488355328 := bd_map (F0 0 4 (Nat.le_of_ble_eq_true rfl))
 refine jn (σ := Bool) [(3, 0)] [1, 3] 1 (fun ok => ([(1, .loc 0 0), (3, vB ok)], [.cells [vI v.kind, vI v.n, vS v.s, vL (v.l.map valIn), vL (v.f.map fldIn)]], m)) (fun ok => ok = shpOk v) ?_ ?_
 · rintro ok hj0
   refine sq ?_
   refine an (fun h1 => ?_) (fun h1 => ?_)
   · refine sq ?_
     refine ln ?_
     refine lp (σ := Int) [] [1, 170, 171, 172] 1 (fun i => ([(1, .loc 0 0), (170, vL (v.l.map valIn)), (171, vI (v.l.length : Int)), (172, vI i)], [.cells [vI v.kind, vI v.n, vS v.s, vL (v.l.map valIn), vL (v.f.map fldIn)]], m)) (fun i => 0 ≤ i ∧ i ≤ v.l.length ∧ v.l.all (shpF k) = (v.l.drop i.toNat).all (shpF k)) (fun i => v.l.length - i.toNat) (0) ⟨rfl, rfl⟩ ?_ ?_
     · try dsimp only
       exact ⟨by omega, by omega, rfl⟩
     rintro i hI
     refine sq ?_
     refine an (fun h2 => ?_) (fun h2 => ?_)
     · refine sq ?_
       refine ixg valTop valIn_eq (by omega) ?_
       refine call0 (fun _ => ih (gI v.l i) (by have := depV_eq v; first | (have := depL_mem (gI_mem (l := v.l) (i := i) hI.1 (by assumption)); omega) | (have := depF_mem (gI_mem (l := v.f) (i := i2) hI2.1 (by assumption)); omega))) rfl ?_
       refine an (fun h3 => ?_) (fun h3 => ?_)
       · refine an (by omega) ?_
         refine ⟨(i + 1), ⟨rfl, rfl⟩, ?_, ?_⟩
         · try dsimp only
           exact ⟨by omega, by omega, by rw [hI.2.2, all_drop hI.1 h2, shE_t h3, Bool.true_and]⟩
         try dsimp only
         omega
       refine rt0 rfl fun _ => ?_
       show K (.err 115 3) m
       rw [shE_2 (by rw [hI.2.2, all_drop hI.1 h2, shE_f h3, Bool.false_and])] at hK; exact hK
     refine sq ?_
     refine ln ?_
     refine lp (σ := Int) [] [182, 183, 184] 1 (fun i2 => ([(182, vL (v.f.map fldIn)), (183, vI (v.f.length : Int)), (184, vI i2)], [.cells [vI v.kind, vI v.n, vS v.s, vL (v.l.map valIn), vL (v.f.map fldIn)]], m)) (fun i2 => 0 ≤ i2 ∧ i2 ≤ v.f.length ∧ v.f.all (fun p => shpF k p.2) = (v.f.drop i2.toNat).all (fun p => shpF k p.2)) (fun i2 => v.f.length - i2.toNat) (0) ⟨rfl, rfl⟩ ?_ ?_
     · try dsimp only
       exact ⟨by omega, by omega, rfl⟩
     rintro i2 hI2
     refine sq ?_
     refine an (fun h4 => ?_) (fun h4 => ?_)
     · refine sq ?_
       refine ixg fldTop fldIn_eq (by omega) ?_
       refine call0 (fun _ => ih ((gI v.f i2).2) (by have := depV_eq v; first | (have := depL_mem (gI_mem (l := v.l) (i := i) hI.1 (by assumption)); omega) | (have := depF_mem (gI_mem (l := v.f) (i := i2) hI2.1 (by assumption)); omega))) rfl ?_
       refine an (fun h5 => ?_) (fun h5 => ?_)
       · refine an (by omega) ?_
         refine ⟨(i2 + 1), ⟨rfl, rfl⟩, ?_, ?_⟩
         · try dsimp only
           exact ⟨by omega, by omega, by rw [hI2.2.2, all_drop (g := fun p : Str × Val => shpF k p.2) hI2.1 h4, shE_t h5, Bool.true_and]⟩
         try dsimp only
         omega
       refine rt0 rfl fun _ => ?_
       show K (.err 115 3) m
       rw [shE_3 (by rw [hI2.2.2, all_drop (g := fun p : Str × Val => shpF k p.2) hI2.1 h4, shE_f h5, Bool.false_and])] at hK; exact hK
     refine rt0 rfl fun _ => ?_
     show K (.err 115 0) m
     rw [shE_0 (by rw [← hj0, h1]) (by rw [hI.2.2, List.drop_eq_nil_of_le (by omega)]; rfl) (by rw [hI2.2.2, List.drop_eq_nil_of_le (by omega)]; rfl)] at hK; exact hK
   refine rt0 rfl fun _ => ?_
   show K (.err 115 3) m
   rw [shE_1 (by rw [← hj0, h1])] at hK; exact hK
 refine an (fun h6 => ?_) (fun h6 => ?_)
 · refine mg [1] 3 (((v.n == 0) && (v.s == ([]))) && (((v.l.length : Int) + (v.f.length : Int)) == 0)) ?_ ?_
   · repeat' first
      | exact ⟨⟨_, rfl, by grind [SB.val]⟩, rfl⟩
      | refine an (fun _ => ?_) (fun _ => ?_)
      | refine ln ?_
      | refine an (by omega) ?_
   refine ⟨((((v.n == 0) && (v.s == ([]))) && (((v.l.length : Int) + (v.f.length : Int)) == 0))), ⟨rfl, rfl⟩, ?_⟩
   unfold shpOk
   repeat' split
   all_goals first | omega | rfl
 refine an (fun h7 => ?_) (fun h7 => ?_)
 · refine mg [1] 3 ((((decide (-1000000000 ≤ v.n)) && (decide (v.n ≤ 1000000000))) && (v.s == ([]))) && (((v.l.length : Int) + (v.f.length : Int)) == 0)) ?_ ?_
   · repeat' first
      | exact ⟨⟨_, rfl, by grind [SB.val]⟩, rfl⟩
      | refine an (fun _ => ?_) (fun _ => ?_)
      | refine ln ?_
      | refine an (by omega) ?_
   refine ⟨(((((decide (-1000000000 ≤ v.n)) && (decide (v.n ≤ 1000000000))) && (v.s == ([]))) && (((v.l.length : Int) + (v.f.length : Int)) == 0))), ⟨rfl, rfl⟩, ?_⟩
   unfold shpOk
   repeat' split
   all_goals first | omega | rfl
 refine an (fun h8 => ?_) (fun h8 => ?_)
 · refine mg [1] 3 (((v.n == 0) && (decide ((v.s.length : Int) ≤ 40))) && (((v.l.length : Int) + (v.f.length : Int)) == 0)) ?_ ?_
   · repeat' first
      | exact ⟨⟨_, rfl, by grind [SB.val]⟩, rfl⟩
      | refine an (fun _ => ?_) (fun _ => ?_)
      | refine ln ?_
      | refine an (by omega) ?_
   refine ⟨((((v.n == 0) && (decide ((v.s.length : Int) ≤ 40))) && (((v.l.length : Int) + (v.f.length : Int)) == 0))), ⟨rfl, rfl⟩, ?_⟩
   unfold shpOk
   repeat' split
   all_goals first | omega | rfl
 refine an (fun h9 => ?_) (fun h9 => ?_)
 · refine mg [1] 3 ((((v.n == 0) || (v.n == 1)) && (v.s == ([]))) && (((v.l.length : Int) + (v.f.length : Int)) == 0)) ?_ ?_
   · repeat' first
      | exact ⟨⟨_, rfl, by grind [SB.val]⟩, rfl⟩
      | refine an (fun _ => ?_) (fun _ => ?_)
      | refine ln ?_
      | refine an (by omega) ?_
   refine ⟨(((((v.n == 0) || (v.n == 1)) && (v.s == ([]))) && (((v.l.length : Int) + (v.f.length : Int)) == 0))), ⟨rfl, rfl⟩, ?_⟩
   unfold shpOk
   repeat' split
   all_goals first | omega | rfl
 refine an (fun h10 => ?_) (fun h10 => ?_)
 · refine mg [1] 3 (((v.n == 0) && (v.s == ([]))) && ((v.f.length : Int) == 0)) ?_ ?_
   · repeat' first
      | exact ⟨⟨_, rfl, by grind [SB.val]⟩, rfl⟩
      | refine an (fun _ => ?_) (fun _ => ?_)
      | refine ln ?_
   refine ⟨((((v.n == 0) && (v.s == ([]))) && ((v.f.length : Int) == 0))), ⟨rfl, rfl⟩, ?_⟩
   unfold shpOk
   repeat' split
   all_goals first | omega | rfl
 refine an (fun h11 => ?_) (fun h11 => ?_)
 · refine mg [1] 3 (((v.n == 0) && (v.s == ([]))) && ((v.l.length : Int) == 0)) ?_ ?_
   · repeat' first
      | exact ⟨⟨_, rfl, by grind [SB.val]⟩, rfl⟩
      | refine an (fun _ => ?_) (fun _ => ?_)
      | refine ln ?_
   refine ln ?_
   refine lp (σ := Bool × Int) [(3, 0)] [1, 3, 136, 137, 138] 1 (fun ⟨ok, i⟩ => ([(1, .loc 0 0), (3, vB ok), (136, vL (v.f.map fldIn)), (137, vI (v.f.length : Int)), (138, vI i)], [.cells [vI v.kind, vI v.n, vS v.s, vL (v.l.map valIn), vL (v.f.map fldIn)]], m)) (fun ⟨ok, i⟩ => 0 ≤ i ∧ i ≤ v.f.length ∧ shpOk v = (ok && recOk (prevN v.f i) (v.f.drop i.toNat))) (fun ⟨ok, i⟩ => v.f.length - i.toNat) ((((v.n == 0) && (v.s == ([]))) && ((v.l.length : Int) == 0)), 0) ⟨rfl, rfl⟩ ?_ ?_
   · try dsimp only
     refine ⟨by omega, by omega, ?_⟩
     unfold shpOk
     rw [if_neg (by assumption), if_neg (by assumption), if_neg (by assumption), if_neg (by assumption), if_neg (by assumption), if_pos (by assumption)]
     rfl
   rintro ⟨ok, i⟩ hI
   dsimp only at hI
   refine sq ?_
   refine an (fun h12 => ?_) (fun h12 => ?_)
   · refine sq ?_
     refine ixg fldTop fldIn_eq (by omega) ?_
     refine ⟨fun F19 => ?_⟩
     have hbdF : (gI v.f i).1.length ≤ 140737488355328 := bdL_map (f := fldIn) (F19 136).2 (gI_mem hI.1 h12) 0 (Nat.succ_pos _)
     refine mg [1, 136, 137, 138] 3 ((ok && (nameV ((gI v.f i).1))) && ((i == 0) || (Op.bytesLess ((gI v.f (i - 1)).1) ((gI v.f i).1)))) ?_ ?_
     · repeat' first
        | exact ⟨⟨_, rfl, by grind [SB.val]⟩, rfl⟩
        | refine an (fun _ => ?_) (fun _ => ?_)
        | refine pure0 (fun _ => u_VName ((gI v.f i).1) hbdF) ?_
        | refine an (by omega) ?_
        | refine ixg fldTop fldIn_eq (by omega) ?_
     refine an (by omega) ?_
     refine ⟨(((ok && (nameV ((gI v.f i).1))) && ((i == 0) || (Op.bytesLess ((gI v.f (i - 1)).1) ((gI v.f i).1)))), i + 1), ⟨rfl, rfl⟩, ?_, ?_⟩
     · try dsimp only
       exact ⟨by omega, by omega, by rw [hI.2.2, recOk_step hI.1 h12]; simp only [Bool.and_assoc]⟩
     try dsimp only
     omega
   refine ⟨(ok), ⟨rfl, rfl⟩, ?_⟩
   rw [hI.2.2, List.drop_eq_nil_of_le (by omega)]; simp [recOk]
 refine ⟨(false), ⟨rfl, rfl⟩, ?_⟩
 unfold shpOk
 repeat' split
 all_goals first | omega | rfl
theorem u_shape : ∀ (k : Nat) (v : Val), depV v < k → ∀ (m : AMem) (K : AV → AMem → Prop), K (.err 115 (shE (shpF k v))) m → ACalls Tryz.prog 160 [valTop v] m K
  | 0, _, h => absurd h (Nat.not_lt_zero _)
  | k + 1, v, h => fun m K hK => u_shape1 k v (u_shape k) h m K hK
set_option maxHeartbeats 2000000 in
theorem u_Check (v : Val)  (m : AMem)  (K : AV → AMem → Prop) (hK : K (.err 115 (chk v)) m) : ACalls Tryz.prog 92 [valTop v] m K := by
 refine enter (c := cf [] [] [] [] [] []) (vs := [.av (valTop v)]) (L := []) (m := m) true tbOk Tryz.mixed Tryz.func92 rfl (k := 1) (by show fnOk [] _ _ _ = true; decide +kernel) rfl (Good.nil m) ?_
 refine sq ?_
 refine callM [1] [.cells [vI ((cntF (depV v + 1) 1 v 60).2)]] (vB ((cntF (depV v + 1) 1 v 60).1)) rfl (fun bs mm gd => u_count (depV v + 1) v 1 60 (Nat.lt_succ_self _) (by omega) (by omega) (by omega) (by omega) (bs.getD 1 0) mm gd) ?_
 refine an (fun h1 => ?_) (fun h1 => ?_)
 · refine call0 (fun _ => u_shape (depV v + 1) v (Nat.lt_succ_self _)) rfl ?_
   have e0 : chk v = (shE (shpF (depV v + 1) v) : Int) := by
    first | (rw [chk, if_pos (by assumption)]; done) | (rw [chk, if_neg (by simp_all)]; done)
   rw [e0] at hK
   exact rt0 rfl fun _ => hK
 have e0 : chk v = (2 : Int) := by
  first | (rw [chk, if_pos (by assumption)]; done) | (rw [chk, if_neg (by simp_all)]; done)
 rw [e0] at hK
 exact rt0 rfl fun _ => hK
set_option maxHeartbeats 4000000 in
theorem u_Alike1 (a b : Val) (ih : ∀ v w : Val, depV v < depV a → ∀ (m : AMem) (K : AV → AMem → Prop), K (.bool (vEq v w)) m → ACalls Tryz.prog 117 [valTop v, valTop w] m K) (m : AMem)  (K : AV → AMem → Prop) (hK : K (.bool (vEq a b)) m) : ACalls Tryz.prog 117 [valTop a, valTop b] m K := by
 refine enter (c := cf [] [0] [1, 12] [] [] []) (vs := [.av (valTop a), .av (valTop b)]) (L := []) (m := m) false tbOk Tryz.mixed Tryz.func117 rfl (k := 2) (by show fnOk [] _ _ _ = true; decide +kernel) rfl (Good.nil m) ?_
 refine ⟨fun F0 => ?_⟩
 have hbd0_2 : a.s.length ≤ 140737488355328 := (F0 0 2 (Nat.le_of_ble_eq_true rfl))
 have hbd0_3 : a.l.length ≤ 140737488355328 := bd_map (F0 0 3 (Nat.le_of_ble_eq_true rfl))
 have hbd0_4 : a.f.length ≤ 140737488355328 := bd_map (F0 0 4 (Nat.le_of_ble_eq_true rfl))
 have hbd1_2 : b.s.length ≤ 140737488355328 := (F0 1 2 (Nat.le_of_ble_eq_true rfl))
 have hbd1_3 : b.l.length ≤ 140737488355328 := bd_map (F0 1 3 (Nat.le_of_ble_eq_true rfl))
 have hbd1_4 : b.f.length ≤ 140737488355328 := bd_map (F0 1 4 (Nat.le_of_ble_eq_true rfl))
 refine sq ?_
 refine mg [2, 3] 43 (((((!(a.kind == b.kind)) || (!(a.n == b.n))) || (!(a.s == b.s))) || (!((a.l.length : Int) == (b.l.length : Int)))) || (!((a.f.length : Int) == (b.f.length : Int)))) ?_ ?_
 · repeat' first
    | exact ⟨⟨_, rfl, by grind [SB.val]⟩, rfl⟩
    | refine an (fun _ => ?_) (fun _ => ?_)
    | refine ln ?_
 refine an (fun h1 => ?_) (fun h1 => ?_)
 · replace h1 : ((((a.kind ≠ b.kind) ∨ (a.n ≠ b.n)) ∨ (a.s ≠ b.s)) ∨ ((a.l.length : Int) ≠ (b.l.length : Int))) ∨ ((a.f.length : Int) ≠ (b.f.length : Int)) := ((borT h1).imp (fun q => ((borT q).imp (fun q => ((borT q).imp (fun q => ((borT q).imp (fun q => (ne_of_beq_false (bnT q))) (fun q => (ne_of_beq_false (bnT q))))) (fun q => (ne_of_beq_false (bnT q))))) (fun q => (ne_of_beq_false (bnT q))))) (fun q => (ne_of_beq_false (bnT q))))
   refine rt0 rfl fun _ => ?_
   show K (.bool false) m
   rw [vEq_false (by intro hh; subst hh; simp at h1)] at hK; exact hK
 replace h1 : ((((a.kind = b.kind) ∧ (a.n = b.n)) ∧ (a.s = b.s)) ∧ ((a.l.length : Int) = (b.l.length : Int))) ∧ ((a.f.length : Int) = (b.f.length : Int)) := ⟨⟨⟨⟨(eq_of_beq (bnF (borL (borL (borL (borL h1)))))), (eq_of_beq (bnF (borR (borL (borL (borL h1))))))⟩, (eq_of_beq (bnF (borR (borL (borL h1)))))⟩, (eq_of_beq (bnF (borR (borL h1))))⟩, (eq_of_beq (bnF (borR h1)))⟩
 obtain ⟨⟨⟨⟨hk, hn⟩, hs⟩, hl⟩, hf⟩ := h1
 refine sq ?_
 refine ln ?_
 refine lp (σ := Int) [] [2, 3, 46, 47] 2 (fun i => ([(2, .loc 0 0), (3, .loc 1 0), (46, vI (a.l.length : Int)), (47, vI i)], [.cells [vI a.kind, vI a.n, vS a.s, vL (a.l.map valIn), vL (a.f.map fldIn)], .cells [vI b.kind, vI b.n, vS b.s, vL (b.l.map valIn), vL (b.f.map fldIn)]], m)) (fun i => 0 ≤ i ∧ i ≤ a.l.length ∧ a.l.take i.toNat = b.l.take i.toNat) (fun i => a.l.length - i.toNat) (0) ⟨rfl, rfl⟩ ?_ ?_
 · try dsimp only
   exact ⟨by omega, by omega, rfl⟩
 rintro i hI
 refine sq ?_
 refine an (fun h2 => ?_) (fun h2 => ?_)
 · refine sq ?_
   refine ixg valTop valIn_eq (by omega) ?_
   refine ixg valTop valIn_eq (by omega) ?_
   refine pure0 (fun _ => ih (gI a.l i) (gI b.l i) (by have := depV_eq a; first | (have := depL_mem (gI_mem (l := a.l) (i := i) hI.1 (by assumption)); omega) | (have := depF_mem (gI_mem (l := a.f) (i := i2) hI2.1 (by assumption)); omega))) ?_
   refine an (fun h3 => ?_) (fun h3 => ?_)
   · refine an (by omega) ?_
     refine ⟨(i + 1), ⟨rfl, rfl⟩, ?_, ?_⟩
     · try dsimp only
       exact ⟨by omega, by omega, by rw [take_succ_gI hI.1 h2, take_succ_gI hI.1 (by omega), hI.2.2, vEq_iff.1 h3]⟩
     try dsimp only
     omega
   refine rt0 rfl fun _ => ?_
   show K (.bool false) m
   rw [vEq_false (by intro hh; subst hh; rw [vEq_true rfl] at h3; cases h3)] at hK; exact hK
 refine sq ?_
 refine ln ?_
 refine lp (σ := Int) [] [2, 3, 65, 66] 2 (fun i2 => ([(2, .loc 0 0), (3, .loc 1 0), (65, vI (a.f.length : Int)), (66, vI i2)], [.cells [vI a.kind, vI a.n, vS a.s, vL (a.l.map valIn), vL (a.f.map fldIn)], .cells [vI b.kind, vI b.n, vS b.s, vL (b.l.map valIn), vL (b.f.map fldIn)]], m)) (fun i2 => 0 ≤ i2 ∧ i2 ≤ a.f.length ∧ a.f.take i2.toNat = b.f.take i2.toNat) (fun i2 => a.f.length - i2.toNat) (0) ⟨rfl, rfl⟩ ?_ ?_
 · try dsimp only
   exact ⟨by omega, by omega, rfl⟩
 rintro i2 hI2
 refine sq ?_
 refine an (fun h4 => ?_) (fun h4 => ?_)
 · refine sq ?_
   refine mg [2, 3, 65, 66] 97 ((!(((gI a.f i2).1) == ((gI b.f i2).1))) || (!(vEq ((gI a.f i2).2) ((gI b.f i2).2)))) ?_ ?_
   · repeat' first
      | exact ⟨⟨_, rfl, by grind [SB.val]⟩, rfl⟩
      | refine an (fun _ => ?_) (fun _ => ?_)
      | refine ixg fldTop fldIn_eq (by omega) ?_
      | refine pure0 (fun _ => ih ((gI a.f i2).2) ((gI b.f i2).2) (by have := depV_eq a; first | (have := depL_mem (gI_mem (l := a.l) (i := i) hI.1 (by assumption)); omega) | (have := depF_mem (gI_mem (l := a.f) (i := i2) hI2.1 (by assumption)); omega))) ?_
   refine an (fun h5 => ?_) (fun h5 => ?_)
   · replace h5 : ((gI a.f i2).1 ≠ (gI b.f i2).1) ∨ (vEq ((gI a.f i2).2) ((gI b.f i2).2) = false) := ((borT h5).imp (fun q => (ne_of_beq_false (bnT q))) (fun q => (bnT q)))
     refine rt0 rfl fun _ => ?_
     show K (.bool false) m
     rw [vEq_false (by intro hh; subst hh; rw [vEq_true rfl] at h5; simp at h5)] at hK; exact hK
   replace h5 : ((gI a.f i2).1 = (gI b.f i2).1) ∧ (vEq ((gI a.f i2).2) ((gI b.f i2).2) = true) := ⟨(eq_of_beq (bnF (borL h5))), (bnF (borR h5))⟩
   refine an (by omega) ?_
   refine ⟨(i2 + 1), ⟨rfl, rfl⟩, ?_, ?_⟩
   · try dsimp only
     exact ⟨by omega, by omega, by rw [take_succ_gI hI2.1 h4, take_succ_gI hI2.1 (by omega), hI2.2.2, Prod.ext h5.1 (vEq_iff.1 h5.2)]⟩
   try dsimp only
   omega
 refine rt0 rfl fun _ => ?_
 show K (.bool true) m
 rw [vEq_true (Val.ext' hk hn hs (by have := hI.2.2; rwa [take_full (by omega), take_full (by omega)] at this) (by have := hI2.2.2; rwa [take_full (by omega), take_full (by omega)] at this))] at hK; exact hK
theorem u_Alike2 : ∀ (n : Nat) (a b : Val), depV a < n → ∀ (m : AMem) (K : AV → AMem → Prop), K (.bool (vEq a b)) m → ACalls Tryz.prog 117 [valTop a, valTop b] m K
  | 0, _, _, h => absurd h (Nat.not_lt_zero _)
  | n + 1, a, b, h => fun m K hK => u_Alike1 a b (fun v w hv => u_Alike2 n v w (by omega)) m K hK
theorem u_Alike (a b : Val) (m : AMem) (K : AV → AMem → Prop) (hK : K (.bool (vEq a b)) m) : ACalls Tryz.prog 117 [valTop a, valTop b] m K := u_Alike2 (depV a + 1) a b (Nat.lt_succ_self _) m K hK
end Go.Proofs
end
section
namespace Go.Proofs
open Go Go.Aw Go.Sx
set_option maxRecDepth 100000
def mxF {α : Type} (g : α → Int) (l : List α) (d : Int) : Int := l.foldl (fun d x => if g x > d then g x else d) d
def hgtF : Nat → Val → Int
  | 0, _ => 0
  | k + 1, v => mxF (fun p => hgtF k p.2) v.f (mxF (hgtF k) v.l 0) + 1
theorem mxF_step {α : Type} [Inhabited α] (g : α → Int) {l : List α} {i : Int} (d : Int) (h0 : 0 ≤ i) (hi : i < l.length) : mxF g (l.take (i + 1).toNat) d = if g (gI l i) > mxF g (l.take i.toNat) d then g (gI l i) else mxF g (l.take i.toNat) d := by
  rw [take_succ_gI h0 hi]; unfold mxF; rw [List.foldl_append]; rfl
theorem mxF_le {α : Type} (g : α → Int) (B : Int) : ∀ (l : List α) (d : Int), (mxF g l d ≤ B ↔ d ≤ B ∧ ∀ x ∈ l, g x ≤ B)
  | [], d => by simp [mxF]
  | x :: r, d => by
    rw [show mxF g (x :: r) d = mxF g r (if g x > d then g x else d) from rfl, mxF_le g B r]
    simp only [List.mem_cons, forall_eq_or_imp]
    split <;> constructor <;> (intro h; refine ⟨?_, ?_⟩) <;> first | omega | exact h.2 | (refine ⟨?_, ?_⟩ <;> first | omega | exact h.2) | exact h.2.2
theorem mxF_nn {α : Type} (g : α → Int) : ∀ (l : List α) (d : Int), d ≤ mxF g l d
  | [], d => Int.le_refl _
  | x :: r, d => by
    rw [show mxF g (x :: r) d = mxF g r (if g x > d then g x else d) from rfl]
    refine Int.le_trans ?_ (mxF_nn g r (if g x > d then g x else d))
    split <;> omega
theorem sumN_take {α : Type} [Inhabited α] (g : α → Nat) {l : List α} {i : Int} (h0 : 0 ≤ i) (hi : i < l.length) : sumN g (l.take (i + 1).toNat) = sumN g (l.take i.toNat) + g (gI l i) := by
  have e : ∀ (a b : List α), sumN g (a ++ b) = sumN g a + sumN g b := fun a b => by
    induction a with
    | nil => simp [sumN]
    | cons x r ih => simp only [List.cons_append, sumN, ih]; omega
  rw [take_succ_gI h0 hi, e]; simp [sumN]
theorem sumN_take_le {α : Type} (g : α → Nat) (l : List α) (k : Nat) : sumN g (l.take k) ≤ sumN g l := by
  induction l generalizing k with
  | nil => simp
  | cons x r ih =>
    cases k with
    | zero => simp [sumN]
    | succ k => rw [List.take_succ_cons, sumN, sumN]; have := ih k; omega
theorem hgtF_le : ∀ (k : Nat) (v : Val), depV v < k → 1 ≤ hgtF k v ∧ hgtF k v ≤ depV v
  | 0, _, h => absurd h (Nat.not_lt_zero _)
  | k + 1, v, h => by
    have e := depV_eq v
    rw [hgtF]
    have h1 := mxF_nn (hgtF k) v.l 0
    have h2 := mxF_nn (fun p : Str × Val => hgtF k p.2) v.f (mxF (hgtF k) v.l 0)
    refine ⟨by omega, ?_⟩
    have a : mxF (hgtF k) v.l 0 ≤ (depV v : Int) - 1 := (mxF_le _ _ _ _).2 ⟨by omega, fun x hx => by
      have q := depL_mem hx; have := (hgtF_le k x (by omega)).2; omega⟩
    have b : mxF (fun p : Str × Val => hgtF k p.2) v.f (mxF (hgtF k) v.l 0) ≤ (depV v : Int) - 1 := (mxF_le _ _ _ _).2 ⟨a, fun x hx => by
      have q := depF_mem hx; have := (hgtF_le k x.2 (by omega)).2; omega⟩
    omega
theorem cntL_iff {α : Type} {g : α → Int → Bool × Int} {d : α → Nat} {h : α → Prop} : ∀ (l : List α) (n : Int), 0 ≤ n → (∀ x ∈ l, ∀ n, 0 ≤ n → ((g x n).1 = true ↔ (d x : Int) ≤ n ∧ h x)) → (∀ x n, 0 ≤ n → (g x n).1 = true → 0 ≤ (g x n).2 ∧ (g x n).2 + d x = n) → ((cntL g l n).1 = true ↔ (sumN d l : Int) ≤ n ∧ ∀ x ∈ l, h x)
  | [], n, h0, _, _ => by simp [cntL, sumN, h0]
  | x :: r, n, h0, hg, hk => by
    rw [cntL, sumN]
    have hx := hg x (List.mem_cons_self ..) n h0
    by_cases c : (g x n).1 = true
    · have q := hk x n h0 c
      rw [if_pos c, cntL_iff r _ q.1 (fun y hy => hg y (List.mem_cons_of_mem _ hy)) hk]
      have := hx.1 c
      simp only [List.mem_cons, forall_eq_or_imp]
      constructor
      · intro z; exact ⟨by push_cast; omega, this.2, z.2⟩
      · intro z; exact ⟨by have := z.1; push_cast at this; omega, z.2.2⟩
    · rw [if_neg c]
      simp only [Bool.false_eq_true, false_iff]
      intro z
      exact c (hx.2 ⟨by have := z.1; push_cast at this; omega, z.2 x (List.mem_cons_self ..)⟩)
theorem cntF_iff : ∀ (k : Nat) (deep : Int) (v : Val) (n : Int), depV v < k → 0 ≤ n → 1 ≤ deep → ((cntF k deep v n).1 = true ↔ (depV v : Int) ≤ n ∧ deep + hgtF k v ≤ 7)
  | 0, _, _, _, h, _, _ => absurd h (Nat.not_lt_zero _)
  | k + 1, deep, v, n, h, h0, h1 => by
    have e := depV_eq v
    have hh := hgtF_le (k + 1) v h
    have gl : ∀ x ∈ v.l, ∀ n, 0 ≤ n → ((cntF k (deep + 1) x n).1 = true ↔ (depV x : Int) ≤ n ∧ (hgtF k x ≤ 6 - deep)) := fun x hx n hn => by
      have q := depL_mem hx
      rw [cntF_iff k (deep + 1) x n (by omega) hn (by omega)]
      constructor <;> (intro z; exact ⟨z.1, by omega⟩)
    have gf : ∀ x ∈ v.f, ∀ n, 0 ≤ n → ((cntF k (deep + 1) x.2 n).1 = true ↔ (depV x.2 : Int) ≤ n ∧ (hgtF k x.2 ≤ 6 - deep)) := fun x hx n hn => by
      have q := depF_mem hx
      rw [cntF_iff k (deep + 1) x.2 n (by omega) hn (by omega)]
      constructor <;> (intro z; exact ⟨z.1, by omega⟩)
    have hgt : deep + hgtF (k + 1) v ≤ 7 ↔ deep ≤ 6 ∧ (∀ x ∈ v.l, hgtF k x ≤ 6 - deep) ∧ ∀ x ∈ v.f, hgtF k x.2 ≤ 6 - deep := by
      rw [hgtF]
      have a := mxF_le (hgtF k) (6 - deep) v.l 0
      have b := mxF_le (fun p : Str × Val => hgtF k p.2) (6 - deep) v.f (mxF (hgtF k) v.l 0)
      constructor
      · intro z
        have b1 := b.1 (by omega)
        have a1 := a.1 b1.1
        exact ⟨by omega, a1.2, b1.2⟩
      · intro z
        have a1 := a.2 ⟨by omega, z.2.1⟩
        have b1 := b.2 ⟨a1, z.2.2⟩
        omega
    rw [hgt, cntF]
    have sl := sumN_l v.l
    have sf := sumN_f v.f
    by_cases c : 6 < deep ∨ n - 1 < 0
    · rw [if_pos c]
      simp only [Bool.false_eq_true, false_iff]
      intro z
      rcases c with c | c <;> omega
    · rw [if_neg c]
      have il := cntL_iff (d := depV) (h := fun x => hgtF k x ≤ 6 - deep) v.l (n - 1) (by omega) gl (fun x n hn hx => cntF_ok k (deep + 1) x n hn hx)
      by_cases c2 : (cntL (cntF k (deep + 1)) v.l (n - 1)).1 = false
      · rw [if_pos c2]
        simp only [Bool.false_eq_true, false_iff]
        intro z
        have : (cntL (cntF k (deep + 1)) v.l (n - 1)).1 = true := il.2 ⟨by omega, z.2.2.1⟩
        rw [c2] at this; cases this
      · have c3 : (cntL (cntF k (deep + 1)) v.l (n - 1)).1 = true := by simpa using c2
        rw [if_neg c2]
        have a := cntL_ok (d := depV) (g := cntF k (deep + 1)) (fun x n hn hx => cntF_ok k (deep + 1) x n hn hx) v.l (n - 1) (by omega) c3
        have i2 := cntL_iff (g := fun p : Str × Val => cntF k (deep + 1) p.2) (d := fun p : Str × Val => depV p.2) (h := fun x => hgtF k x.2 ≤ 6 - deep) v.f _ a.1 gf (fun x n hn hx => cntF_ok k (deep + 1) x.2 n hn hx)
        rw [i2]
        have q := il.1 c3
        constructor
        · intro z; exact ⟨by omega, by omega, q.2, z.2⟩
        · intro z; exact ⟨by omega, z.2.2.2⟩
theorem chk_R {v : Val} : chk v = if (60 < (depV v : Int) ∨ 6 < hgtF (depV v + 1) v) then 2 else if shpF (depV v + 1) v = true then 0 else 3 := by
  have q := cntF_iff (depV v + 1) 1 v 60 (Nat.lt_succ_self _) (by omega) (by omega)
  unfold chk
  by_cases c : (cntF (depV v + 1) 1 v 60).1 = true
  · have := q.1 c
    rw [if_pos c, if_neg (by omega)]; rfl
  · rw [if_neg c, if_pos (by
      refine Classical.byContradiction fun z => c (q.2 ⟨by omega, by omega⟩))]
set_option maxHeartbeats 4000000 in
theorem u_parts1 (k : Nat) (v : Val) (hB : depV v ≤ 1000000000000) (ih : ∀ w : Val, depV w < depV v → ∀ (m : AMem) (K : AV → AMem → Prop), K (.tuple [.int .i64 (depV w : Int), .int .i64 (hgtF k w)]) m → ACalls Tryz.prog 145 [valTop w] m K) (hd : depV v < k + 1) (m : AMem)  (K : AV → AMem → Prop) (hK : K (.tuple [.int .i64 (depV v : Int), .int .i64 (hgtF (k + 1) v)]) m) : ACalls Tryz.prog 145 [valTop v] m K := by
 have hdv := depV_eq v
 have hsl := sumN_l v.l
 have hsf := sumN_f v.f
 refine enter (c := cf [] [0] [] [] [] []) (vs := [.av (valTop v)]) (L := []) (m := m) false tbOk Tryz.mixed Tryz.func145 rfl (k := 1) (by show fnOk [] _ _ _ = true; decide +kernel) rfl (Good.nil m) ?_
 refine ⟨fun F0 => ?_⟩
 have hbd0_2 : v.s.length ≤ 140737488355328 := (F0 0 2 (Nat.le_of_ble_eq_true rfl))
 have hbd0_3 : v.l.length ≤ 140737488355328 := bd_map (F0 0 3 (Nat.le_of_ble_eq_true rfl))
 have hbd0_4 : v.f.length ≤ 140737488355328 := bd_map (F0 0 4 (Nat.le_of_ble_eq_true rfl))
 refine sq ?_
 refine lp (σ := Int × Int × Int) [] [1, 4, 5, 6] 1 (fun ⟨n1, d1, i⟩ => ([(1, .loc 0 0), (4, vI n1), (5, vI d1), (6, vI i)], [.cells [vI v.kind, vI v.n, vS v.s, vL (v.l.map valIn), vL (v.f.map fldIn)]], m)) (fun ⟨n1, d1, i⟩ => 0 ≤ i ∧ i ≤ v.l.length ∧ n1 = 1 + sumN depV (v.l.take i.toNat) ∧ d1 = mxF (hgtF k) (v.l.take i.toNat) 0 ∧ 0 ≤ d1 ∧ d1 ≤ depV v) (fun ⟨n1, d1, i⟩ => v.l.length - i.toNat) (1, 0, 0) ⟨rfl, rfl⟩ ?_ ?_
 · try dsimp only
   exact ⟨by omega, by omega, by simp [sumN], by simp [mxF], by omega, by omega⟩
 rintro ⟨n1, d1, i⟩ hI
 dsimp only at hI
 have htk := sumN_take_le depV v.l i.toNat
 refine sq ?_
 refine ln ?_
 refine an (fun h1 => ?_) (fun h1 => ?_)
 · have hdm := depL_mem (gI_mem (l := v.l) (i := i) hI.1 h1)
   have hst := sumN_take depV (l := v.l) hI.1 h1
   have hgl := hgtF_le k (gI v.l i) (by omega)
   have htk2 := sumN_take_le depV v.l (i + 1).toNat
   refine sq ?_
   refine ixg valTop valIn_eq (by omega) ?_
   refine call0 (fun _ => ih (gI v.l i) (by have := depV_eq v; first | (have := depL_mem (gI_mem (l := v.l) (i := i) hI.1 (by assumption)); omega) | (have := depF_mem (gI_mem (l := v.f) (i := i2) hI2.1 (by assumption)); omega))) rfl ?_
   refine an (by omega) ?_
   refine an (by omega) ?_
   refine ⟨(n1 + (depV (gI v.l i) : Int), if hgtF k (gI v.l i) > d1 then hgtF k (gI v.l i) else d1, i + 1), ⟨rfl, rfl⟩, ?_, ?_⟩
   · try dsimp only
     refine ⟨by omega, by omega, by omega, ?_, ?_, ?_⟩
     · rw [mxF_step _ _ hI.1 h1, ← hI.2.2.2.1]
     · split <;> omega
     · split <;> omega
   try dsimp only
   omega
 have hfull : v.l.take i.toNat = v.l := take_full h1
 refine sq ?_
 refine lp (σ := Int × Int × Int) [] [1, 4, 5, 9] 1 (fun ⟨n2, d2, i2⟩ => ([(1, .loc 0 0), (4, vI n2), (5, vI d2), (9, vI i2)], [.cells [vI v.kind, vI v.n, vS v.s, vL (v.l.map valIn), vL (v.f.map fldIn)]], m)) (fun ⟨n2, d2, i2⟩ => 0 ≤ i2 ∧ i2 ≤ v.f.length ∧ n2 = 1 + depL v.l + sumN (fun p : Str × Val => depV p.2) (v.f.take i2.toNat) ∧ d2 = mxF (fun p : Str × Val => hgtF k p.2) (v.f.take i2.toNat) (mxF (hgtF k) v.l 0) ∧ 0 ≤ d2 ∧ d2 ≤ depV v) (fun ⟨n2, d2, i2⟩ => v.f.length - i2.toNat) (n1, d1, 0) ⟨rfl, rfl⟩ ?_ ?_
 · try dsimp only
   rw [hfull] at hI
   exact ⟨by omega, by omega, by simp [sumN]; omega, by simp [mxF]; exact hI.2.2.2.1, by omega, by omega⟩
 rintro ⟨n2, d2, i2⟩ hI2
 dsimp only at hI2
 have htf := sumN_take_le (fun p : Str × Val => depV p.2) v.f i2.toNat
 refine sq ?_
 refine ln ?_
 refine an (fun h2 => ?_) (fun h2 => ?_)
 · have hdm := depF_mem (gI_mem (l := v.f) (i := i2) hI2.1 h2)
   have hst := sumN_take (fun p : Str × Val => depV p.2) (l := v.f) hI2.1 h2
   have hgl := hgtF_le k (gI v.f i2).2 (by omega)
   have htf2 := sumN_take_le (fun p : Str × Val => depV p.2) v.f (i2 + 1).toNat
   refine sq ?_
   refine ixg fldTop fldIn_eq (by omega) ?_
   refine call0 (fun _ => ih ((gI v.f i2).2) (by have := depV_eq v; first | (have := depL_mem (gI_mem (l := v.l) (i := i) hI.1 (by assumption)); omega) | (have := depF_mem (gI_mem (l := v.f) (i := i2) hI2.1 (by assumption)); omega))) rfl ?_
   refine an (by omega) ?_
   refine an (by omega) ?_
   refine ⟨(n2 + (depV ((gI v.f i2).2) : Int), if hgtF k ((gI v.f i2).2) > d2 then hgtF k ((gI v.f i2).2) else d2, i2 + 1), ⟨rfl, rfl⟩, ?_, ?_⟩
   · try dsimp only
     refine ⟨by omega, by omega, by omega, ?_, ?_, ?_⟩
     · rw [mxF_step (fun p : Str × Val => hgtF k p.2) _ hI2.1 h2, ← hI2.2.2.2.1]
     · split <;> omega
     · split <;> omega
   try dsimp only
   omega
 refine an (by omega) ?_
 refine rt0 rfl fun _ => ?_
 show K (.tuple [.int .i64 n2, .int .i64 (d2 + 1)]) m
 have hfull2 : v.f.take i2.toNat = v.f := take_full h2
 rw [hfull2] at hI2
 have e1 : n2 = (depV v : Int) := by omega
 have e2 : d2 + 1 = hgtF (k + 1) v := by rw [hgtF, ← hI2.2.2.2.1]
 rw [e1, e2]; exact hK
theorem u_parts : ∀ (k : Nat) (v : Val), depV v < k → depV v ≤ 1000000000000 → ∀ (m : AMem) (K : AV → AMem → Prop), K (.tuple [.int .i64 (depV v : Int), .int .i64 (hgtF k v)]) m → ACalls Tryz.prog 145 [valTop v] m K
  | 0, _, h => absurd h (Nat.not_lt_zero _)
  | k + 1, v, h => fun hB m K hK => u_parts1 k v hB (fun w hw => u_parts k w (by omega) (by omega)) h m K hK
set_option maxHeartbeats 2000000 in
theorem u_NameMay (s : Str)  (m : AMem)  (K : AV → AMem → Prop) (hK : K (.bool (nameV s)) m) : ACalls Tryz.prog 41 [.str s] m K := by
 refine enter (c := cf [] [0] [1, 6, 7, 8] [] [] []) (vs := [.av (.str s)]) (L := []) (m := m) false tbOk Tryz.mixed Tryz.func41 rfl (k := 1) (by show fnOk [] _ _ _ = true; decide +kernel) rfl (Good.nil m) ?_
 refine ⟨fun F0 => ?_⟩
 have hbd0_0 : s.length ≤ 140737488355328 := F0 0
 refine sq ?_
 refine mg [0] 13 ((decide ((s.length : Int) < 1)) || (decide (12 < (s.length : Int)))) ?_ ?_
 · repeat' first
    | exact ⟨⟨_, rfl, by grind [SB.val]⟩, rfl⟩
    | refine an (fun _ => ?_) (fun _ => ?_)
 refine an (fun h1 => ?_) (fun h1 => ?_)
 · replace h1 : ((s.length : Int) < 1) ∨ (12 < (s.length : Int)) := ((borT h1).imp (fun q => (of_decide_eq_true q)) (fun q => (of_decide_eq_true q)))
   refine rt0 rfl fun _ => K_eq hK ?_
   show AV.bool (nameV s) = AV.bool false
   refine congrArg AV.bool ?_
   rw [nameV]; cases s <;> simp_all <;> omega
 replace h1 : (1 ≤ (s.length : Int)) ∧ ((s.length : Int) ≤ 12) := ⟨(Int.not_lt.1 (of_decide_eq_false (borL h1))), (Int.not_lt.1 (of_decide_eq_false (borR h1)))⟩
 refine sq ?_
 refine lp (σ := Int) [] [0, 3] 0 (fun i => ([(0, vS s), (3, vI i)], [], m)) (fun i => 0 ≤ i ∧ i ≤ s.length ∧ nmF s true = nmF (s.drop i.toNat) (i == 0)) (fun i => s.length - i.toNat) (0) ⟨rfl, rfl⟩ ?_ ?_
 · try dsimp only
   exact ⟨by omega, by omega, by simp⟩
 rintro i hI
 refine sq ?_
 refine an (fun h2 => ?_) (fun h2 => ?_)
 · refine sq ?_
   refine mg [0, 3] 4 ((decide (97 ≤ ((gI s i).toNat : Int))) && (decide (((gI s i).toNat : Int) ≤ 122))) ?_ ?_
   · repeat' first
      | exact ⟨⟨_, rfl, by grind [SB.val]⟩, rfl⟩
      | refine an (fun _ => ?_) (fun _ => ?_)
      | refine an (by omega) ?_
   refine mg [0, 3, 4] 5 ((decide (48 ≤ ((gI s i).toNat : Int))) && (decide (((gI s i).toNat : Int) ≤ 57))) ?_ ?_
   · repeat' first
      | exact ⟨⟨_, rfl, by grind [SB.val]⟩, rfl⟩
      | refine an (fun _ => ?_) (fun _ => ?_)
      | refine an (by omega) ?_
   refine mg [0, 3] 49 ((!((decide (97 ≤ ((gI s i).toNat : Int))) && (decide (((gI s i).toNat : Int) ≤ 122)))) && ((!((decide (48 ≤ ((gI s i).toNat : Int))) && (decide (((gI s i).toNat : Int) ≤ 57)))) || (i == 0))) ?_ ?_
   · repeat' first
      | exact ⟨⟨_, rfl, by grind [SB.val]⟩, rfl⟩
      | refine an (fun _ => ?_) (fun _ => ?_)
   refine an (fun h3 => ?_) (fun h3 => ?_)
   · replace h3 : ((((gI s i).toNat : Int) < 97) ∨ (122 < ((gI s i).toNat : Int))) ∧ (((((gI s i).toNat : Int) < 48) ∨ (57 < ((gI s i).toNat : Int))) ∨ (i = 0)) := ⟨((bandF (bnT (bandL h3))).imp (fun q => (Int.not_le.1 (of_decide_eq_false q))) (fun q => (Int.not_le.1 (of_decide_eq_false q)))), ((borT (bandR h3)).imp (fun q => ((bandF (bnT q)).imp (fun q => (Int.not_le.1 (of_decide_eq_false q))) (fun q => (Int.not_le.1 (of_decide_eq_false q))))) (fun q => (eq_of_beq q)))⟩
     refine rt0 rfl fun _ => K_eq hK ?_
     show AV.bool (nameV s) = AV.bool false
     refine congrArg AV.bool ?_
     have hb : (letC (gI s i) || (!(i == 0) && digC (gI s i))) = false := by
       rw [Bool.eq_false_iff]; intro hh; simp [letC, digC] at hh; omega
     rw [nameV, hI.2.2, nmF_step hI.1 h2, hb]; rfl
   replace h3 : ((97 ≤ ((gI s i).toNat : Int)) ∧ (((gI s i).toNat : Int) ≤ 122)) ∨ (((48 ≤ ((gI s i).toNat : Int)) ∧ (((gI s i).toNat : Int) ≤ 57)) ∧ (i ≠ 0)) := ((bandF h3).imp (fun q => ⟨(of_decide_eq_true (bandL (bnF q))), (of_decide_eq_true (bandR (bnF q)))⟩) (fun q => ⟨⟨(of_decide_eq_true (bandL (bnF (borL q)))), (of_decide_eq_true (bandR (bnF (borL q))))⟩, (ne_of_beq_false (borR q))⟩))
   refine an (by omega) ?_
   refine ⟨(i + 1), ⟨rfl, rfl⟩, ?_, ?_⟩
   · try dsimp only
     have hb : (letC (gI s i) || (!(i == 0) && digC (gI s i))) = true := by simp [letC, digC]; omega
     exact ⟨by omega, by omega, by rw [hI.2.2, nmF_step hI.1 h2, hb]; rfl⟩
   try dsimp only
   omega
 refine rt0 rfl fun _ => K_eq hK ?_
 show AV.bool (nameV s) = AV.bool true
 refine congrArg AV.bool ?_
 have ha : nmF s true = true := by rw [hI.2.2, List.drop_eq_nil_of_le (by omega)]; rfl
 rw [nameV, ha]; cases s <;> simp at * <;> omega
theorem len0 (a b : Nat) : ((a : Int) + (b : Int) == 0) = (((a : Int) == 0) && ((b : Int) == 0)) := by
  rw [Bool.eq_iff_iff]; simp; omega
theorem recOk_nil (p : Option Str) : recOk p [] = true := by cases p <;> rfl
theorem shp_1 {k : Nat} {v : Val} (h : v.l.all (shpF k) = false) : shpF (k + 1) v = false := by rw [shpF, h]; simp
theorem shp_2 {k : Nat} {v : Val} (h : v.f.all (fun p => shpF k p.2) = false) : shpF (k + 1) v = false := by rw [shpF, h]; simp
theorem shpOk_rec {v : Val} (h : recOk none v.f = false) : shpOk v = false := by
  have hf : v.f ≠ [] := by intro c; rw [c, recOk_nil] at h; cases h
  have hl : 0 < v.f.length := List.length_pos_iff.2 hf
  unfold shpOk
  repeat' split
  all_goals first | rfl | (rw [h]; simp; done) | (rw [Bool.eq_false_iff]; intro c; simp at c; first | omega | (simp_all; done))
theorem shp_3 {k : Nat} {v : Val} (h : recOk none v.f = false) : shpF (k + 1) v = false := by rw [shpF, shpOk_rec h]; rfl
theorem shp_4 {k : Nat} {v : Val} (h1 : v.l.all (shpF k) = true) (h2 : v.f.all (fun p => shpF k p.2) = true) : shpF (k + 1) v = shpOk v := by rw [shpF, h1, h2]; simp
set_option maxHeartbeats 8000000 in
theorem u_shaped1 (k : Nat) (v : Val) (ih : ∀ w : Val, depV w < depV v → ∀ (m : AMem) (K : AV → AMem → Prop), K (.bool (shpF k w)) m → ACalls Tryz.prog 146 [valTop w] m K) (m : AMem)  (K : AV → AMem → Prop) (hK : K (.bool (shpF (k + 1) v)) m) : ACalls Tryz.prog 146 [valTop v] m K := by
 refine enter (c := cf [] [0] [12, 20, 22, 24, 26, 28, 30] [] [] []) (vs := [.av (valTop v)]) (L := []) (m := m) false tbOk Tryz.mixed Tryz.func146 rfl (k := 1) (by show fnOk [] _ _ _ = true; decide +kernel) rfl (Good.nil m) ?_
 refine ⟨fun F0 => ?_⟩
 have hbd0_2 : v.s.length ≤ 140737488355328 := (F0 0 2 (Nat.le_of_ble_eq_true rfl))
 have hbd0_3 : v.l.length ≤ 140737488355328 := bd_map (F0 0 3 (Nat.le_of_ble_eq_true rfl))
 have hbd0_4 : v.f.length ≤ 140737488355328 := bd_map (F0 0 4 (Nat.le_of_ble_eq_true rfl))
 refine sq ?_
 refine lp (σ := Int) [] [1, 3] 1 (fun i => ([(1, .loc 0 0), (3, vI i)], [.cells [vI v.kind, vI v.n, vS v.s, vL (v.l.map valIn), vL (v.f.map fldIn)]], m)) (fun i => 0 ≤ i ∧ i ≤ v.l.length ∧ v.l.all (shpF k) = (v.l.drop i.toNat).all (shpF k)) (fun i => v.l.length - i.toNat) (0) ⟨rfl, rfl⟩ ?_ ?_
 · try dsimp only
   exact ⟨by omega, by omega, rfl⟩
 rintro i hI
 refine sq ?_
 refine ln ?_
 refine an (fun h1 => ?_) (fun h1 => ?_)
 · refine sq ?_
   refine ixg valTop valIn_eq (by omega) ?_
   refine call0 (fun _ => ih (gI v.l i) (by have := depV_eq v; first | (have := depL_mem (gI_mem (l := v.l) (i := i) hI.1 (by assumption)); omega) | (have := depF_mem (gI_mem (l := v.f) (i := i2) hI2.1 (by assumption)); omega))) rfl ?_
   refine an (fun h2 => ?_) (fun h2 => ?_)
   · refine an (by omega) ?_
     refine ⟨(i + 1), ⟨rfl, rfl⟩, ?_, ?_⟩
     · try dsimp only
       exact ⟨by omega, by omega, by rw [hI.2.2, all_drop hI.1 h1, h2, Bool.true_and]⟩
     try dsimp only
     omega
   refine rt0 rfl fun _ => ?_
   show K (.bool false) m
   rw [shp_1 (by rw [hI.2.2, all_drop hI.1 h1, h2, Bool.false_and])] at hK; exact hK
 have hL : v.l.all (shpF k) = true := by rw [hI.2.2, List.drop_eq_nil_of_le (by omega)]; rfl
 refine sq ?_
 refine lp (σ := Int) [] [1, 5] 1 (fun i2 => ([(1, .loc 0 0), (5, vI i2)], [.cells [vI v.kind, vI v.n, vS v.s, vL (v.l.map valIn), vL (v.f.map fldIn)]], m)) (fun i2 => 0 ≤ i2 ∧ i2 ≤ v.f.length ∧ v.f.all (fun p => shpF k p.2) = (v.f.drop i2.toNat).all (fun p => shpF k p.2) ∧ recOk none v.f = recOk (prevN v.f i2) (v.f.drop i2.toNat)) (fun i2 => v.f.length - i2.toNat) (0) ⟨rfl, rfl⟩ ?_ ?_
 · try dsimp only
   exact ⟨by omega, by omega, rfl, rfl⟩
 rintro i2 hI2
 refine sq ?_
 refine ln ?_
 refine an (fun h3 => ?_) (fun h3 => ?_)
 · refine sq ?_
   refine ixg fldTop fldIn_eq (by omega) ?_
   refine call0 (fun _ => ih ((gI v.f i2).2) (by have := depV_eq v; first | (have := depL_mem (gI_mem (l := v.l) (i := i) hI.1 (by assumption)); omega) | (have := depF_mem (gI_mem (l := v.f) (i := i2) hI2.1 (by assumption)); omega))) rfl ?_
   refine ixg fldTop fldIn_eq (by omega) ?_
   refine call0 (fun _ => u_NameMay ((gI v.f i2).1)) rfl ?_
   refine mg [1, 5] 73 (((!(shpF k ((gI v.f i2).2))) || (!(nameV ((gI v.f i2).1)))) || ((decide (0 < i2)) && (!(Op.bytesLess ((gI v.f (i2 - 1)).1) ((gI v.f i2).1))))) ?_ ?_
   · repeat' first
      | exact ⟨⟨_, rfl, by grind [SB.val]⟩, rfl⟩
      | refine an (fun _ => ?_) (fun _ => ?_)
      | refine an (by omega) ?_
      | refine ixg fldTop fldIn_eq (by omega) ?_
   refine an (fun h4 => ?_) (fun h4 => ?_)
   · replace h4 : ((shpF k ((gI v.f i2).2) = false) ∨ (nameV ((gI v.f i2).1) = false)) ∨ ((0 < i2) ∧ (Op.bytesLess ((gI v.f (i2 - 1)).1) ((gI v.f i2).1) = false)) := ((borT h4).imp (fun q => ((borT q).imp (fun q => (bnT q)) (fun q => (bnT q)))) (fun q => ⟨(of_decide_eq_true (bandL q)), (bnT (bandR q))⟩))
     refine rt0 rfl fun _ => ?_
     show K (.bool false) m
     have hz : shpF (k + 1) v = false := by
       rcases h4 with (q | q) | q
       · exact shp_2 (by rw [hI2.2.2.1, all_drop (g := fun p : Str × Val => shpF k p.2) hI2.1 h3, q, Bool.false_and])
       · exact shp_3 (by rw [hI2.2.2.2, recOk_step hI2.1 h3, q]; rfl)
       · exact shp_3 (by rw [hI2.2.2.2, recOk_step hI2.1 h3, q.2, show (i2 == 0) = false from by simp; omega]; simp)
     rw [hz] at hK; exact hK
   replace h4 : ((shpF k ((gI v.f i2).2) = true) ∧ (nameV ((gI v.f i2).1) = true)) ∧ ((i2 ≤ 0) ∨ (Op.bytesLess ((gI v.f (i2 - 1)).1) ((gI v.f i2).1) = true)) := ⟨⟨(bnF (borL (borL h4))), (bnF (borR (borL h4)))⟩, ((bandF (borR h4)).imp (fun q => (Int.not_lt.1 (of_decide_eq_false q))) (fun q => (bnF q)))⟩
   refine an (by omega) ?_
   refine ⟨(i2 + 1), ⟨rfl, rfl⟩, ?_, ?_⟩
   · try dsimp only
     have hb : ((i2 == 0) || Op.bytesLess (gI v.f (i2 - 1)).1 (gI v.f i2).1) = true := by
       rcases h4.2 with q | q
       · have : i2 = 0 := by omega
         simp [this]
       · simp [q]
     exact ⟨by omega, by omega, by rw [hI2.2.2.1, all_drop (g := fun p : Str × Val => shpF k p.2) hI2.1 h3, h4.1.1, Bool.true_and], by rw [hI2.2.2.2, recOk_step hI2.1 h3, h4.1.2, hb]; rfl⟩
   try dsimp only
   omega
 have hF : v.f.all (fun p => shpF k p.2) = true := by rw [hI2.2.2.1, List.drop_eq_nil_of_le (by omega)]; rfl
 have hR : recOk none v.f = true := by rw [hI2.2.2.2, List.drop_eq_nil_of_le (by omega), recOk_nil]
 refine ln ?_
 refine ln ?_
 refine sq ?_
 refine an (fun h5 => ?_) (fun h5 => ?_)
 · refine mg [] 2 ((((v.n == 0) && (v.s == ([]))) && ((v.l.length : Int) == 0)) && ((v.f.length : Int) == 0)) ?_ ?_
   · repeat' first
      | exact ⟨⟨_, rfl, by grind [SB.val]⟩, rfl⟩
      | refine an (fun _ => ?_) (fun _ => ?_)
   refine rt0 rfl fun _ => ?_
   show K (.bool ((((v.n == 0) && (v.s == ([]))) && ((v.l.length : Int) == 0)) && ((v.f.length : Int) == 0))) m
   have e0 : shpF (k + 1) v = shpOk v := shp_4 hL hF
   rw [e0] at hK
   have er : ∀ e : Bool, shpOk v = e → K (.bool e) m := fun e q => q ▸ hK
   refine er _ ?_
   unfold shpOk
   repeat rw [if_neg (by assumption)]
   all_goals first | rfl | (rw [if_pos (by assumption)]; done) | (rw [if_pos (by assumption)]; first | rfl | (simp only [hR, len0, Bool.and_true, Bool.and_assoc]; done) | (simp only [hR, len0, Bool.and_true]; ac_rfl))
 refine an (fun h6 => ?_) (fun h6 => ?_)
 · refine mg [] 2 (((((decide (-1000000000 ≤ v.n)) && (decide (v.n ≤ 1000000000))) && (v.s == ([]))) && ((v.l.length : Int) == 0)) && ((v.f.length : Int) == 0)) ?_ ?_
   · repeat' first
      | exact ⟨⟨_, rfl, by grind [SB.val]⟩, rfl⟩
      | refine an (fun _ => ?_) (fun _ => ?_)
   refine rt0 rfl fun _ => ?_
   show K (.bool (((((decide (-1000000000 ≤ v.n)) && (decide (v.n ≤ 1000000000))) && (v.s == ([]))) && ((v.l.length : Int) == 0)) && ((v.f.length : Int) == 0))) m
   have e0 : shpF (k + 1) v = shpOk v := shp_4 hL hF
   rw [e0] at hK
   have er : ∀ e : Bool, shpOk v = e → K (.bool e) m := fun e q => q ▸ hK
   refine er _ ?_
   unfold shpOk
   repeat rw [if_neg (by assumption)]
   all_goals first | rfl | (rw [if_pos (by assumption)]; done) | (rw [if_pos (by assumption)]; first | rfl | (simp only [hR, len0, Bool.and_true, Bool.and_assoc]; done) | (simp only [hR, len0, Bool.and_true]; ac_rfl))
 refine an (fun h7 => ?_) (fun h7 => ?_)
 · refine mg [] 2 ((((v.n == 0) && (decide ((v.s.length : Int) ≤ 40))) && ((v.l.length : Int) == 0)) && ((v.f.length : Int) == 0)) ?_ ?_
   · repeat' first
      | exact ⟨⟨_, rfl, by grind [SB.val]⟩, rfl⟩
      | refine an (fun _ => ?_) (fun _ => ?_)
   refine rt0 rfl fun _ => ?_
   show K (.bool ((((v.n == 0) && (decide ((v.s.length : Int) ≤ 40))) && ((v.l.length : Int) == 0)) && ((v.f.length : Int) == 0))) m
   have e0 : shpF (k + 1) v = shpOk v := shp_4 hL hF
   rw [e0] at hK
   have er : ∀ e : Bool, shpOk v = e → K (.bool e) m := fun e q => q ▸ hK
   refine er _ ?_
   unfold shpOk
   repeat rw [if_neg (by assumption)]
   all_goals first | rfl | (rw [if_pos (by assumption)]; done) | (rw [if_pos (by assumption)]; first | rfl | (simp only [hR, len0, Bool.and_true, Bool.and_assoc]; done) | (simp only [hR, len0, Bool.and_true]; ac_rfl))
 refine an (fun h8 => ?_) (fun h8 => ?_)
 · refine mg [] 2 (((((v.n == 0) || (v.n == 1)) && (v.s == ([]))) && ((v.l.length : Int) == 0)) && ((v.f.length : Int) == 0)) ?_ ?_
   · repeat' first
      | exact ⟨⟨_, rfl, by grind [SB.val]⟩, rfl⟩
      | refine an (fun _ => ?_) (fun _ => ?_)
   refine rt0 rfl fun _ => ?_
   show K (.bool (((((v.n == 0) || (v.n == 1)) && (v.s == ([]))) && ((v.l.length : Int) == 0)) && ((v.f.length : Int) == 0))) m
   have e0 : shpF (k + 1) v = shpOk v := shp_4 hL hF
   rw [e0] at hK
   have er : ∀ e : Bool, shpOk v = e → K (.bool e) m := fun e q => q ▸ hK
   refine er _ ?_
   unfold shpOk
   repeat rw [if_neg (by assumption)]
   all_goals first | rfl | (rw [if_pos (by assumption)]; done) | (rw [if_pos (by assumption)]; first | rfl | (simp only [hR, len0, Bool.and_true, Bool.and_assoc]; done) | (simp only [hR, len0, Bool.and_true]; ac_rfl))
 refine an (fun h9 => ?_) (fun h9 => ?_)
 · refine mg [] 2 (((v.n == 0) && (v.s == ([]))) && ((v.f.length : Int) == 0)) ?_ ?_
   · repeat' first
      | exact ⟨⟨_, rfl, by grind [SB.val]⟩, rfl⟩
      | refine an (fun _ => ?_) (fun _ => ?_)
   refine rt0 rfl fun _ => ?_
   show K (.bool (((v.n == 0) && (v.s == ([]))) && ((v.f.length : Int) == 0))) m
   have e0 : shpF (k + 1) v = shpOk v := shp_4 hL hF
   rw [e0] at hK
   have er : ∀ e : Bool, shpOk v = e → K (.bool e) m := fun e q => q ▸ hK
   refine er _ ?_
   unfold shpOk
   repeat rw [if_neg (by assumption)]
   all_goals first | rfl | (rw [if_pos (by assumption)]; done) | (rw [if_pos (by assumption)]; first | rfl | (simp only [hR, len0, Bool.and_true, Bool.and_assoc]; done) | (simp only [hR, len0, Bool.and_true]; ac_rfl))
 refine an (fun h10 => ?_) (fun h10 => ?_)
 · refine mg [] 2 (((v.n == 0) && (v.s == ([]))) && ((v.l.length : Int) == 0)) ?_ ?_
   · repeat' first
      | exact ⟨⟨_, rfl, by grind [SB.val]⟩, rfl⟩
      | refine an (fun _ => ?_) (fun _ => ?_)
   refine rt0 rfl fun _ => ?_
   show K (.bool (((v.n == 0) && (v.s == ([]))) && ((v.l.length : Int) == 0))) m
   have e0 : shpF (k + 1) v = shpOk v := shp_4 hL hF
   rw [e0] at hK
   have er : ∀ e : Bool, shpOk v = e → K (.bool e) m := fun e q => q ▸ hK
   refine er _ ?_
   unfold shpOk
   repeat rw [if_neg (by assumption)]
   all_goals first | rfl | (rw [if_pos (by assumption)]; done) | (rw [if_pos (by assumption)]; first | rfl | (simp only [hR, len0, Bool.and_true, Bool.and_assoc]; done) | (simp only [hR, len0, Bool.and_true]; ac_rfl))
 refine rt0 rfl fun _ => ?_
 show K (.bool false) m
 have e0 : shpF (k + 1) v = shpOk v := shp_4 hL hF
 rw [e0] at hK
 have er : ∀ e : Bool, shpOk v = e → K (.bool e) m := fun e q => q ▸ hK
 refine er _ ?_
 unfold shpOk
 repeat rw [if_neg (by assumption)]
 all_goals first | rfl | (rw [if_pos (by assumption)]; done) | (rw [if_pos (by assumption)]; first | rfl | (simp only [hR, len0, Bool.and_true, Bool.and_assoc]; done) | (simp only [hR, len0, Bool.and_true]; ac_rfl))
theorem chk_R1 {v : Val} (h : 60 < (depV v : Int) ∨ 6 < hgtF (depV v + 1) v) : chk v = 2 := by rw [chk_R, if_pos h]
theorem chk_R2 {v : Val} (h : (depV v : Int) ≤ 60 ∧ hgtF (depV v + 1) v ≤ 6) (h2 : shpF (depV v + 1) v = false) : chk v = 3 := by rw [chk_R, if_neg (by omega), if_neg (by simp [h2])]
theorem chk_R3 {v : Val} (h : (depV v : Int) ≤ 60 ∧ hgtF (depV v + 1) v ≤ 6) (h2 : shpF (depV v + 1) v = true) : chk v = 0 := by rw [chk_R, if_neg (by omega), if_pos h2]
theorem u_shapedR : ∀ (k : Nat) (v : Val), depV v < k → ∀ (m : AMem) (K : AV → AMem → Prop), K (.bool (shpF k v)) m → ACalls Tryz.prog 146 [valTop v] m K
  | 0, _, h => absurd h (Nat.not_lt_zero _)
  | k + 1, v, h => fun m K hK => u_shaped1 k v (fun w hw => u_shapedR k w (by omega)) m K hK
set_option maxHeartbeats 2000000 in
theorem u_Fault (v : Val) (hB : depV v ≤ 1000000000000) (m : AMem)  (K : AV → AMem → Prop) (hK : K (.int .i64 (chk v)) m) : ACalls Tryz.prog 79 [valTop v] m K := by
 refine enter (c := cf [] [] [2] [] [] []) (vs := [.av (valTop v)]) (L := []) (m := m) false tbOk Tryz.mixed Tryz.func79 rfl (k := 1) (by show fnOk [] _ _ _ = true; decide +kernel) rfl (Good.nil m) ?_
 refine call0 (fun _ => u_parts (depV v + 1) v (Nat.lt_succ_self _) hB) rfl ?_
 refine sq ?_
 refine mg [1] 16 ((decide (60 < (depV v : Int))) || (decide (6 < hgtF (depV v + 1) v))) ?_ ?_
 · repeat' first
    | exact ⟨⟨_, rfl, by grind [SB.val]⟩, rfl⟩
    | refine an (fun _ => ?_) (fun _ => ?_)
 refine an (fun h1 => ?_) (fun h1 => ?_)
 · replace h1 : (60 < (depV v : Int)) ∨ (6 < hgtF (depV v + 1) v) := ((borT h1).imp (fun q => (of_decide_eq_true q)) (fun q => (of_decide_eq_true q)))
   have e0 : chk v = (2 : Int) := by
    first | exact chk_R1 (by assumption) | exact chk_R2 (by assumption) (by assumption) | exact chk_R3 (by assumption) (by assumption)
   rw [e0] at hK
   exact rt0 rfl fun _ => hK
 replace h1 : ((depV v : Int) ≤ 60) ∧ (hgtF (depV v + 1) v ≤ 6) := ⟨(Int.not_lt.1 (of_decide_eq_false (borL h1))), (Int.not_lt.1 (of_decide_eq_false (borR h1)))⟩
 refine call0 (fun _ => u_shapedR (depV v + 1) v (Nat.lt_succ_self _)) rfl ?_
 refine sq ?_
 refine an (fun h2 => ?_) (fun h2 => ?_)
 · have e0 : chk v = (0 : Int) := by
    first | exact chk_R1 (by assumption) | exact chk_R2 (by assumption) (by assumption) | exact chk_R3 (by assumption) (by assumption)
   rw [e0] at hK
   exact rt0 rfl fun _ => hK
 have e0 : chk v = (3 : Int) := by
  first | exact chk_R1 (by assumption) | exact chk_R2 (by assumption) (by assumption) | exact chk_R3 (by assumption) (by assumption)
 rw [e0] at hK
 exact rt0 rfl fun _ => hK
set_option maxHeartbeats 4000000 in
theorem u_RAlike1 (a b : Val) (ih : ∀ v w : Val, depV v < depV a → ∀ (m : AMem) (K : AV → AMem → Prop), K (.bool (vEq v w)) m → ACalls Tryz.prog 48 [valTop v, valTop w] m K) (m : AMem)  (K : AV → AMem → Prop) (hK : K (.bool (vEq a b)) m) : ACalls Tryz.prog 48 [valTop a, valTop b] m K := by
 refine enter (c := cf [] [0] [1, 13] [] [] []) (vs := [.av (valTop a), .av (valTop b)]) (L := []) (m := m) false tbOk Tryz.mixed Tryz.func48 rfl (k := 2) (by show fnOk [] _ _ _ = true; decide +kernel) rfl (Good.nil m) ?_
 refine ⟨fun F0 => ?_⟩
 have hbd0_2 : a.s.length ≤ 140737488355328 := (F0 0 2 (Nat.le_of_ble_eq_true rfl))
 have hbd0_3 : a.l.length ≤ 140737488355328 := bd_map (F0 0 3 (Nat.le_of_ble_eq_true rfl))
 have hbd0_4 : a.f.length ≤ 140737488355328 := bd_map (F0 0 4 (Nat.le_of_ble_eq_true rfl))
 have hbd1_2 : b.s.length ≤ 140737488355328 := (F0 1 2 (Nat.le_of_ble_eq_true rfl))
 have hbd1_3 : b.l.length ≤ 140737488355328 := bd_map (F0 1 3 (Nat.le_of_ble_eq_true rfl))
 have hbd1_4 : b.f.length ≤ 140737488355328 := bd_map (F0 1 4 (Nat.le_of_ble_eq_true rfl))
 refine sq ?_
 refine mg [2, 3] 45 (((((!(a.kind == b.kind)) || (!(a.n == b.n))) || (!(a.s == b.s))) || (!((a.l.length : Int) == (b.l.length : Int)))) || (!((a.f.length : Int) == (b.f.length : Int)))) ?_ ?_
 · repeat' first
    | exact ⟨⟨_, rfl, by grind [SB.val]⟩, rfl⟩
    | refine an (fun _ => ?_) (fun _ => ?_)
    | refine ln ?_
 refine an (fun h1 => ?_) (fun h1 => ?_)
 · replace h1 : ((((a.kind ≠ b.kind) ∨ (a.n ≠ b.n)) ∨ (a.s ≠ b.s)) ∨ ((a.l.length : Int) ≠ (b.l.length : Int))) ∨ ((a.f.length : Int) ≠ (b.f.length : Int)) := ((borT h1).imp (fun q => ((borT q).imp (fun q => ((borT q).imp (fun q => ((borT q).imp (fun q => (ne_of_beq_false (bnT q))) (fun q => (ne_of_beq_false (bnT q))))) (fun q => (ne_of_beq_false (bnT q))))) (fun q => (ne_of_beq_false (bnT q))))) (fun q => (ne_of_beq_false (bnT q))))
   refine rt0 rfl fun _ => ?_
   show K (.bool false) m
   rw [vEq_false (by intro hh; subst hh; simp at h1)] at hK; exact hK
 replace h1 : ((((a.kind = b.kind) ∧ (a.n = b.n)) ∧ (a.s = b.s)) ∧ ((a.l.length : Int) = (b.l.length : Int))) ∧ ((a.f.length : Int) = (b.f.length : Int)) := ⟨⟨⟨⟨(eq_of_beq (bnF (borL (borL (borL (borL h1)))))), (eq_of_beq (bnF (borR (borL (borL (borL h1))))))⟩, (eq_of_beq (bnF (borR (borL (borL h1)))))⟩, (eq_of_beq (bnF (borR (borL h1))))⟩, (eq_of_beq (bnF (borR h1)))⟩
 obtain ⟨⟨⟨⟨hk, hn⟩, hs⟩, hl⟩, hf⟩ := h1
 refine sq ?_
 refine lp (σ := Int) [] [2, 3, 5] 2 (fun i => ([(2, .loc 0 0), (3, .loc 1 0), (5, vI i)], [.cells [vI a.kind, vI a.n, vS a.s, vL (a.l.map valIn), vL (a.f.map fldIn)], .cells [vI b.kind, vI b.n, vS b.s, vL (b.l.map valIn), vL (b.f.map fldIn)]], m)) (fun i => 0 ≤ i ∧ i ≤ a.l.length ∧ a.l.take i.toNat = b.l.take i.toNat) (fun i => a.l.length - i.toNat) (0) ⟨rfl, rfl⟩ ?_ ?_
 · try dsimp only
   exact ⟨by omega, by omega, rfl⟩
 rintro i hI
 refine sq ?_
 refine ln ?_
 refine an (fun h2 => ?_) (fun h2 => ?_)
 · refine sq ?_
   refine ixg valTop valIn_eq (by omega) ?_
   refine ixg valTop valIn_eq (by omega) ?_
   refine pure0 (fun _ => ih (gI a.l i) (gI b.l i) (by have := depV_eq a; first | (have := depL_mem (gI_mem (l := a.l) (i := i) hI.1 (by assumption)); omega) | (have := depF_mem (gI_mem (l := a.f) (i := i2) hI2.1 (by assumption)); omega))) ?_
   refine an (fun h3 => ?_) (fun h3 => ?_)
   · refine an (by omega) ?_
     refine ⟨(i + 1), ⟨rfl, rfl⟩, ?_, ?_⟩
     · try dsimp only
       exact ⟨by omega, by omega, by rw [take_succ_gI hI.1 h2, take_succ_gI hI.1 (by omega), hI.2.2, vEq_iff.1 h3]⟩
     try dsimp only
     omega
   refine rt0 rfl fun _ => ?_
   show K (.bool false) m
   rw [vEq_false (by intro hh; subst hh; rw [vEq_true rfl] at h3; cases h3)] at hK; exact hK
 refine sq ?_
 refine lp (σ := Int) [] [2, 3, 7] 2 (fun i2 => ([(2, .loc 0 0), (3, .loc 1 0), (7, vI i2)], [.cells [vI a.kind, vI a.n, vS a.s, vL (a.l.map valIn), vL (a.f.map fldIn)], .cells [vI b.kind, vI b.n, vS b.s, vL (b.l.map valIn), vL (b.f.map fldIn)]], m)) (fun i2 => 0 ≤ i2 ∧ i2 ≤ a.f.length ∧ a.f.take i2.toNat = b.f.take i2.toNat) (fun i2 => a.f.length - i2.toNat) (0) ⟨rfl, rfl⟩ ?_ ?_
 · try dsimp only
   exact ⟨by omega, by omega, rfl⟩
 rintro i2 hI2
 refine sq ?_
 refine ln ?_
 refine an (fun h4 => ?_) (fun h4 => ?_)
 · refine sq ?_
   refine ixg fldTop fldIn_eq (by omega) ?_
   refine ixg fldTop fldIn_eq (by omega) ?_
   refine pure0 (fun _ => ih ((gI a.f i2).2) ((gI b.f i2).2) (by have := depV_eq a; first | (have := depL_mem (gI_mem (l := a.l) (i := i) hI.1 (by assumption)); omega) | (have := depF_mem (gI_mem (l := a.f) (i := i2) hI2.1 (by assumption)); omega))) ?_
   refine mg [2, 3, 7] 102 ((!(vEq ((gI a.f i2).2) ((gI b.f i2).2))) || (!(((gI a.f i2).1) == ((gI b.f i2).1)))) ?_ ?_
   · repeat' first
      | exact ⟨⟨_, rfl, by grind [SB.val]⟩, rfl⟩
      | refine an (fun _ => ?_) (fun _ => ?_)
      | refine ixg fldTop fldIn_eq (by omega) ?_
   refine an (fun h5 => ?_) (fun h5 => ?_)
   · replace h5 : (vEq ((gI a.f i2).2) ((gI b.f i2).2) = false) ∨ ((gI a.f i2).1 ≠ (gI b.f i2).1) := ((borT h5).imp (fun q => (bnT q)) (fun q => (ne_of_beq_false (bnT q))))
     refine rt0 rfl fun _ => ?_
     show K (.bool false) m
     rw [vEq_false (by intro hh; subst hh; rw [vEq_true rfl] at h5; simp at h5)] at hK; exact hK
   replace h5 : (vEq ((gI a.f i2).2) ((gI b.f i2).2) = true) ∧ ((gI a.f i2).1 = (gI b.f i2).1) := ⟨(bnF (borL h5)), (eq_of_beq (bnF (borR h5)))⟩
   refine an (by omega) ?_
   refine ⟨(i2 + 1), ⟨rfl, rfl⟩, ?_, ?_⟩
   · try dsimp only
     exact ⟨by omega, by omega, by rw [take_succ_gI hI2.1 h4, take_succ_gI hI2.1 (by omega), hI2.2.2, Prod.ext h5.2 (vEq_iff.1 h5.1)]⟩
   try dsimp only
   omega
 refine rt0 rfl fun _ => ?_
 show K (.bool true) m
 rw [vEq_true (Val.ext' hk hn hs (by have := hI.2.2; rwa [take_full (by omega), take_full (by omega)] at this) (by have := hI2.2.2; rwa [take_full (by omega), take_full (by omega)] at this))] at hK; exact hK
theorem u_RAlike2 : ∀ (n : Nat) (a b : Val), depV a < n → ∀ (m : AMem) (K : AV → AMem → Prop), K (.bool (vEq a b)) m → ACalls Tryz.prog 48 [valTop a, valTop b] m K
  | 0, _, _, h => absurd h (Nat.not_lt_zero _)
  | n + 1, a, b, h => fun m K hK => u_RAlike1 a b (fun v w hv => u_RAlike2 n v w (by omega)) m K hK
theorem u_RAlike (a b : Val) (m : AMem) (K : AV → AMem → Prop) (hK : K (.bool (vEq a b)) m) : ACalls Tryz.prog 48 [valTop a, valTop b] m K := u_RAlike2 (depV a + 1) a b (Nat.lt_succ_self _) m K hK
end Go.Proofs
end
section
namespace Go.Proofs
open Go Go.Aw Go.Sx
set_option maxRecDepth 100000
def hexS : Str := [48, 49, 50, 51, 52, 53, 54, 55, 56, 57, 97, 98, 99, 100, 101, 102]
def quoteC (c : UInt8) : Str :=
  if (c.toNat : Int) = 34 ∨ (c.toNat : Int) = 92 then [92, c]
  else if (c.toNat : Int) < 32 ∨ 126 < (c.toNat : Int) then [92, 120, gI hexS (c.toNat / 16 : Nat), gI hexS (c.toNat % 16 : Nat)]
  else [c]
def quoteV (s : Str) : Str := 34 :: s.flatMap quoteC ++ [34]
theorem quoteC_len (c : UInt8) : (quoteC c).length ≤ 4 := by unfold quoteC; repeat' split
                                                             all_goals simp
theorem quoteF_len (s : Str) : (s.flatMap quoteC).length ≤ 4 * s.length := by
  induction s with
  | nil => simp
  | cons c r ih => rw [List.flatMap_cons, List.length_append, List.length_cons]; have := quoteC_len c; omega
theorem quote_step {s : Str} {i : Int} (h0 : 0 ≤ i) (hi : i < s.length) : (s.take (i + 1).toNat).flatMap quoteC = (s.take i.toNat).flatMap quoteC ++ quoteC (gI s i) := by
  rw [take_succ_gI h0 hi, List.flatMap_append]; simp
theorem quoteT_len (s : Str) (k : Nat) : ((s.take k).flatMap quoteC).length ≤ 4 * s.length := by
  have := quoteF_len (s.take k)
  have : (s.take k).length ≤ s.length := by rw [List.length_take]; omega
  omega
theorem hxHi (c : UInt8) : Int.fdiv (c.toNat : Int) (2 ^ (min (Int.toNat 4) IntKind.u8.bits)) = (c.toNat / 16 : Nat) := by
  have : ∀ n : Fin 256, Int.fdiv (n.val : Int) (2 ^ (min (Int.toNat 4) IntKind.u8.bits)) = (n.val / 16 : Nat) := by decide +kernel
  exact this ⟨c.toNat, c.toNat_lt⟩
theorem hxLo (c : UInt8) : IntKind.u8.wrap (BitVec.ofInt IntKind.u8.bits (c.toNat : Int) &&& BitVec.ofInt IntKind.u8.bits 15).toNat = (c.toNat % 16 : Nat) := by
  have : ∀ n : Fin 256, IntKind.u8.wrap (BitVec.ofInt IntKind.u8.bits (n.val : Int) &&& BitVec.ofInt IntKind.u8.bits 15).toNat = (n.val % 16 : Nat) := by decide +kernel
  exact this ⟨c.toNat, c.toNat_lt⟩
theorem hxQ (c : UInt8) : IntKind.u8.wrap (Int.tdiv (c.toNat : Int) 16) = (c.toNat / 16 : Nat) := by
  have : ∀ n : Fin 256, IntKind.u8.wrap (Int.tdiv (n.val : Int) 16) = (n.val / 16 : Nat) := by decide +kernel
  exact this ⟨c.toNat, c.toNat_lt⟩
theorem hxR (c : UInt8) : Int.tmod (c.toNat : Int) 16 = (c.toNat % 16 : Nat) := by
  have : ∀ n : Fin 256, Int.tmod (n.val : Int) 16 = (n.val % 16 : Nat) := by decide +kernel
  exact this ⟨c.toNat, c.toNat_lt⟩
theorem u8lt (c : UInt8) : c.toNat < 256 := c.toNat_lt
theorem hx_sh (c : UInt8) : 0 ≤ (4 : Int) ∧ IntKind.u8.min ≤ Int.fdiv (c.toNat : Int) (2 ^ (min (Int.toNat 4) IntKind.u8.bits)) ∧ Int.fdiv (c.toNat : Int) (2 ^ (min (Int.toNat 4) IntKind.u8.bits)) ≤ IntKind.u8.max := by
  have := u8lt c
  rw [hxHi]; exact ⟨by omega, by show (0 : Int) ≤ _; omega, by show _ ≤ (255 : Int); omega⟩
theorem hx_rm (c : UInt8) : (16 : Int) ≠ 0 ∧ IntKind.u8.min ≤ Int.tmod (c.toNat : Int) 16 ∧ Int.tmod (c.toNat : Int) 16 ≤ IntKind.u8.max := by
  have := u8lt c
  rw [hxR]; exact ⟨by omega, by show (0 : Int) ≤ _; omega, by show _ ≤ (255 : Int); omega⟩
set_option maxHeartbeats 1000000 in
theorem u_Quote (s : Str) (hs : s.length ≤ 1000000000) (m : AMem)  (K : AV → AMem → Prop) (hK : K (.str (quoteV s)) m) : ACalls Tryz.prog 196 [.str s] m K := by
 refine enter (c := cf [] [] [7, 9] [] [] []) (vs := [.av (.str s)]) (L := []) (m := m) false tbOk Tryz.mixed Tryz.func196 rfl (k := 1) (by show fnOk [] _ _ _ = true; decide +kernel) rfl (Good.nil m) ?_
 refine sq ?_
 refine lp (σ := (List UInt8) × Int) [] [0, 3, 8, 9] 0 (fun ⟨b, i⟩ => ([(0, vS s), (3, .own (b.map byteAV)), (8, vI (s.length : Int)), (9, vI i)], [], m)) (fun ⟨b, i⟩ => 0 ≤ i ∧ i ≤ s.length ∧ b = 34 :: (s.take i.toNat).flatMap quoteC) (fun ⟨b, i⟩ => s.length - i.toNat) ([34], 0) ⟨rfl, rfl⟩ ?_ ?_
 · try dsimp only
   exact ⟨by omega, by omega, rfl⟩
 rintro ⟨b, i⟩ hI
 dsimp only at hI
 have hbl : b.length ≤ 1 + 4 * s.length := by rw [hI.2.2, List.length_cons]; have := quoteT_len s i.toNat; omega
 refine sq ?_
 refine an (fun h1 => ?_) (fun h1 => ?_)
 · refine sq ?_
   refine an ⟨by (first | omega | (have := u8lt (gI s i); simp only [hxHi, hxLo, hxQ, hxR, List.length_cons, List.length_nil]; omega)), by (first | omega | (have := u8lt (gI s i); simp only [hxHi, hxLo, hxQ, hxR, List.length_cons, List.length_nil]; omega))⟩ ?_
   refine mg [0, 3, 5, 8, 9] 19 ((((gI s i).toNat : Int) == 34) || (((gI s i).toNat : Int) == 92)) ?_ ?_
   · repeat' first
      | exact ⟨⟨_, rfl, by grind [SB.val]⟩, rfl⟩
      | refine an (fun _ => ?_) (fun _ => ?_)
   refine an (fun h2 => ?_) (fun h2 => ?_)
   · replace h2 : (((gI s i).toNat : Int) = 34) ∨ (((gI s i).toNat : Int) = 92) := ((borT h2).imp (fun q => (eq_of_beq q)) (fun q => (eq_of_beq q)))
     refine ap byteAV b ([92, gI s i] : List UInt8) rfl rfl (fun _ => ⟨rfl, rfl⟩) (by (simp only [List.length_append, List.length_cons, List.length_nil]; omega)) ?_
     refine an (by omega) ?_
     refine ⟨(b ++ ([92, gI s i] : List UInt8), i + 1), ⟨rfl, rfl⟩, ?_, ?_⟩
     · try dsimp only
       have e : quoteC (gI s i) = [92, gI s i] := by rw [quoteC, if_pos (by assumption)]
       exact ⟨by omega, by omega, by rw [quote_step hI.1 h1, e, hI.2.2]; rfl⟩
     try dsimp only
     omega
   replace h2 : (((gI s i).toNat : Int) ≠ 34) ∧ (((gI s i).toNat : Int) ≠ 92) := ⟨(ne_of_beq_false (borL h2)), (ne_of_beq_false (borR h2))⟩
   refine mg [0, 3, 5, 8, 9] 30 ((decide (((gI s i).toNat : Int) < 32)) || (decide (126 < ((gI s i).toNat : Int)))) ?_ ?_
   · repeat' first
      | exact ⟨⟨_, rfl, by grind [SB.val]⟩, rfl⟩
      | refine an (fun _ => ?_) (fun _ => ?_)
   refine an (fun h3 => ?_) (fun h3 => ?_)
   · replace h3 : (((gI s i).toNat : Int) < 32) ∨ (126 < ((gI s i).toNat : Int)) := ((borT h3).imp (fun q => (of_decide_eq_true q)) (fun q => (of_decide_eq_true q)))
     refine an (by exact hx_sh _) ?_
     refine an ⟨by (first | omega | (have := u8lt (gI s i); simp only [hxHi, hxLo, hxQ, hxR, List.length_cons, List.length_nil]; omega)), by (first | omega | (have := u8lt (gI s i); simp only [hxHi, hxLo, hxQ, hxR, List.length_cons, List.length_nil]; omega))⟩ ?_
     refine an ⟨by (first | omega | (have := u8lt (gI s i); simp only [hxHi, hxLo, hxQ, hxR, List.length_cons, List.length_nil]; omega)), by (first | omega | (have := u8lt (gI s i); simp only [hxHi, hxLo, hxQ, hxR, List.length_cons, List.length_nil]; omega))⟩ ?_
     refine ap byteAV b ([92, 120, gI ([48, 49, 50, 51, 52, 53, 54, 55, 56, 57, 97, 98, 99, 100, 101, 102] : List UInt8) (Int.fdiv ((gI s i).toNat) (2 ^ (min (Int.toNat 4) IntKind.u8.bits))), gI ([48, 49, 50, 51, 52, 53, 54, 55, 56, 57, 97, 98, 99, 100, 101, 102] : List UInt8) (IntKind.u8.wrap (BitVec.ofInt IntKind.u8.bits ((gI s i).toNat) &&& BitVec.ofInt IntKind.u8.bits 15).toNat)] : List UInt8) rfl rfl (fun _ => ⟨rfl, rfl⟩) (by (simp only [List.length_append, List.length_cons, List.length_nil]; omega)) ?_
     refine an (by omega) ?_
     refine ⟨(b ++ ([92, 120, gI ([48, 49, 50, 51, 52, 53, 54, 55, 56, 57, 97, 98, 99, 100, 101, 102] : List UInt8) (Int.fdiv ((gI s i).toNat) (2 ^ (min (Int.toNat 4) IntKind.u8.bits))), gI ([48, 49, 50, 51, 52, 53, 54, 55, 56, 57, 97, 98, 99, 100, 101, 102] : List UInt8) (IntKind.u8.wrap (BitVec.ofInt IntKind.u8.bits ((gI s i).toNat) &&& BitVec.ofInt IntKind.u8.bits 15).toNat)] : List UInt8), i + 1), ⟨rfl, rfl⟩, ?_, ?_⟩
     · try dsimp only
       have e : quoteC (gI s i) = [92, 120, gI hexS ((gI s i).toNat / 16 : Nat), gI hexS ((gI s i).toNat % 16 : Nat)] := by rw [quoteC, if_neg (by omega), if_pos (by assumption)]
       exact ⟨by omega, by omega, by rw [quote_step hI.1 h1, e, hI.2.2, hxHi, hxLo]; rfl⟩
     try dsimp only
     omega
   replace h3 : (32 ≤ ((gI s i).toNat : Int)) ∧ (((gI s i).toNat : Int) ≤ 126) := ⟨(Int.not_lt.1 (of_decide_eq_false (borL h3))), (Int.not_lt.1 (of_decide_eq_false (borR h3)))⟩
   refine ap byteAV b ([gI s i] : List UInt8) rfl rfl (fun _ => ⟨rfl, rfl⟩) (by (simp only [List.length_append, List.length_cons, List.length_nil]; omega)) ?_
   refine an (by omega) ?_
   refine ⟨(b ++ ([gI s i] : List UInt8), i + 1), ⟨rfl, rfl⟩, ?_, ?_⟩
   · try dsimp only
     have e : quoteC (gI s i) = [gI s i] := by rw [quoteC, if_neg (by omega), if_neg (by omega)]
     exact ⟨by omega, by omega, by rw [quote_step hI.1 h1, e, hI.2.2]; rfl⟩
   try dsimp only
   omega
 refine ap byteAV b ([34] : List UInt8) rfl rfl (fun _ => ⟨rfl, rfl⟩) (by (simp only [List.length_append, List.length_cons, List.length_nil]; omega)) ?_
 refine tst ?_
 refine rt0 rfl fun _ => ?_
 show K (.str (b ++ ([34] : List UInt8))) m
 have e : b ++ [34] = quoteV s := by rw [hI.2.2, take_full (by omega)]; rfl
 rw [← e] at hK; exact hK
set_option maxHeartbeats 1000000 in
theorem u_RQuoted (s : Str) (hs : s.length ≤ 1000000000) (m : AMem)  (K : AV → AMem → Prop) (hK : K (.str (quoteV s)) m) : ACalls Tryz.prog 118 [.str s] m K := by
 refine enter (c := cf [] [] [6, 8] [] [] []) (vs := [.av (.str s)]) (L := []) (m := m) false tbOk Tryz.mixed Tryz.func118 rfl (k := 1) (by show fnOk [] _ _ _ = true; decide +kernel) rfl (Good.nil m) ?_
 refine sq ?_
 refine lp (σ := (List UInt8) × Int) [] [0, 3, 4] 0 (fun ⟨b, i⟩ => ([(0, vS s), (3, vS b), (4, vI i)], [], m)) (fun ⟨b, i⟩ => 0 ≤ i ∧ i ≤ s.length ∧ b = (s.take i.toNat).flatMap quoteC) (fun ⟨b, i⟩ => s.length - i.toNat) ([], 0) ⟨rfl, rfl⟩ ?_ ?_
 · try dsimp only
   exact ⟨by omega, by omega, rfl⟩
 rintro ⟨b, i⟩ hI
 dsimp only at hI
 have hbl : b.length ≤ 4 * s.length := by rw [hI.2.2]; exact quoteT_len s i.toNat
 refine sq ?_
 refine an (fun h1 => ?_) (fun h1 => ?_)
 · refine sq ?_
   refine an ⟨by (first | omega | (have := u8lt (gI s i); simp only [hxHi, hxLo, hxQ, hxR, List.length_cons, List.length_nil]; omega)), by (first | omega | (have := u8lt (gI s i); simp only [hxHi, hxLo, hxQ, hxR, List.length_cons, List.length_nil]; omega))⟩ ?_
   refine mg [0, 3, 4, 5] 20 ((((gI s i).toNat : Int) == 34) || (((gI s i).toNat : Int) == 92)) ?_ ?_
   · repeat' first
      | exact ⟨⟨_, rfl, by grind [SB.val]⟩, rfl⟩
      | refine an (fun _ => ?_) (fun _ => ?_)
   refine an (fun h2 => ?_) (fun h2 => ?_)
   · replace h2 : (((gI s i).toNat : Int) = 34) ∨ (((gI s i).toNat : Int) = 92) := ((borT h2).imp (fun q => (eq_of_beq q)) (fun q => (eq_of_beq q)))
     refine tst (xs := ([92, gI s i] : List UInt8)) ?_
     refine an (by (first | omega | (simp only [List.length_append, List.length_cons, List.length_nil]; omega))) ?_
     refine an (by omega) ?_
     refine ⟨(b ++ ([92, gI s i] : List UInt8), i + 1), ⟨rfl, rfl⟩, ?_, ?_⟩
     · try dsimp only
       have e : quoteC (gI s i) = [92, gI s i] := by rw [quoteC, if_pos (by assumption)]
       exact ⟨by omega, by omega, by rw [quote_step hI.1 h1, e, hI.2.2]⟩
     try dsimp only
     omega
   replace h2 : (((gI s i).toNat : Int) ≠ 34) ∧ (((gI s i).toNat : Int) ≠ 92) := ⟨(ne_of_beq_false (borL h2)), (ne_of_beq_false (borR h2))⟩
   refine mg [0, 3, 4, 5] 31 ((decide (32 ≤ ((gI s i).toNat : Int))) && (decide (((gI s i).toNat : Int) ≤ 126))) ?_ ?_
   · repeat' first
      | exact ⟨⟨_, rfl, by grind [SB.val]⟩, rfl⟩
      | refine an (fun _ => ?_) (fun _ => ?_)
   refine an (fun h3 => ?_) (fun h3 => ?_)
   · replace h3 : (32 ≤ ((gI s i).toNat : Int)) ∧ (((gI s i).toNat : Int) ≤ 126) := ⟨(of_decide_eq_true (bandL h3)), (of_decide_eq_true (bandR h3))⟩
     refine tst (xs := ([gI s i] : List UInt8)) ?_
     refine an (by (first | omega | (simp only [List.length_append, List.length_cons, List.length_nil]; omega))) ?_
     refine an (by omega) ?_
     refine ⟨(b ++ ([gI s i] : List UInt8), i + 1), ⟨rfl, rfl⟩, ?_, ?_⟩
     · try dsimp only
       have e : quoteC (gI s i) = [gI s i] := by rw [quoteC, if_neg (by omega), if_neg (by omega)]
       exact ⟨by omega, by omega, by rw [quote_step hI.1 h1, e, hI.2.2]⟩
     try dsimp only
     omega
   replace h3 : (((gI s i).toNat : Int) < 32) ∨ (126 < ((gI s i).toNat : Int)) := ((bandF h3).imp (fun q => (Int.not_le.1 (of_decide_eq_false q))) (fun q => (Int.not_le.1 (of_decide_eq_false q))))
   refine an (by omega) ?_
   refine an ⟨by (first | omega | (have := u8lt (gI s i); simp only [hxHi, hxLo, hxQ, hxR, List.length_cons, List.length_nil]; omega)), by (first | omega | (have := u8lt (gI s i); simp only [hxHi, hxLo, hxQ, hxR, List.length_cons, List.length_nil]; omega))⟩ ?_
   refine an (by exact hx_rm _) ?_
   refine an ⟨by (first | omega | (have := u8lt (gI s i); simp only [hxHi, hxLo, hxQ, hxR, List.length_cons, List.length_nil]; omega)), by (first | omega | (have := u8lt (gI s i); simp only [hxHi, hxLo, hxQ, hxR, List.length_cons, List.length_nil]; omega))⟩ ?_
   refine tst (xs := ([92, 120, gI ([48, 49, 50, 51, 52, 53, 54, 55, 56, 57, 97, 98, 99, 100, 101, 102] : List UInt8) (IntKind.u8.wrap (Int.tdiv ((gI s i).toNat) 16)), gI ([48, 49, 50, 51, 52, 53, 54, 55, 56, 57, 97, 98, 99, 100, 101, 102] : List UInt8) (Int.tmod ((gI s i).toNat) 16)] : List UInt8)) ?_
   refine an (by (first | omega | (simp only [List.length_append, List.length_cons, List.length_nil]; omega))) ?_
   refine an (by omega) ?_
   refine ⟨(b ++ ([92, 120, gI ([48, 49, 50, 51, 52, 53, 54, 55, 56, 57, 97, 98, 99, 100, 101, 102] : List UInt8) (IntKind.u8.wrap (Int.tdiv ((gI s i).toNat) 16)), gI ([48, 49, 50, 51, 52, 53, 54, 55, 56, 57, 97, 98, 99, 100, 101, 102] : List UInt8) (Int.tmod ((gI s i).toNat) 16)] : List UInt8), i + 1), ⟨rfl, rfl⟩, ?_, ?_⟩
   · try dsimp only
     have e : quoteC (gI s i) = [92, 120, gI hexS ((gI s i).toNat / 16 : Nat), gI hexS ((gI s i).toNat % 16 : Nat)] := by rw [quoteC, if_neg (by omega), if_pos (by omega)]
     exact ⟨by omega, by omega, by rw [quote_step hI.1 h1, e, hI.2.2, hxQ, hxR]; rfl⟩
   try dsimp only
   omega
 refine an (by (first | omega | (simp only [List.length_append, List.length_cons, List.length_nil]; omega))) ?_
 refine an (by (first | omega | (simp only [List.length_append, List.length_cons, List.length_nil]; omega))) ?_
 refine rt0 rfl fun _ => ?_
 show K (.str ((([34] : List UInt8) ++ b) ++ ([34] : List UInt8))) m
 have e : [34] ++ b ++ [34] = quoteV s := by rw [hI.2.2, take_full (by omega)]; rfl
 rw [← e] at hK; exact hK
end Go.Proofs
end
section
namespace Go.Proofs
open Go Go.Aw Go.Sx
set_option maxRecDepth 100000
theorem wq {n : Int} (hlo : -9223372036854775808 ≤ n) (hhi : n ≤ 9223372036854775807) : IntKind.i64.wrap (Int.tdiv n 10) = Int.tdiv n 10 := by
  rcases Int.le_total 0 n with h | h
  · rw [Int.tdiv_eq_ediv_of_nonneg h]; exact wrap64 _ (by omega) (by omega)
  · have e : Int.tdiv n 10 = -((-n) / 10) := by
      rw [← Int.tdiv_eq_ediv_of_nonneg (by omega : 0 ≤ -n), Int.neg_tdiv, Int.neg_neg]
    rw [e]; exact wrap64 _ (by omega) (by omega)
theorem tq (n : Int) : (0 ≤ n → Int.tdiv n 10 = n / 10 ∧ Int.tmod n 10 = n % 10) ∧ (n < 0 → Int.tdiv n 10 = -((-n) / 10) ∧ Int.tmod n 10 = -((-n) % 10)) := by
  refine ⟨fun h => ⟨Int.tdiv_eq_ediv_of_nonneg h, Int.tmod_eq_emod_of_nonneg h⟩, fun h => ⟨?_, ?_⟩⟩
  · rw [← Int.tdiv_eq_ediv_of_nonneg (by omega : 0 ≤ -n), Int.neg_tdiv, Int.neg_neg]
  · rw [← Int.tmod_eq_emod_of_nonneg (by omega : 0 ≤ -n), Int.neg_tmod, Int.neg_neg]
theorem u8w_dig (d : Nat) (h : d < 10) : u8w (48 + (d : Int)) = UInt8.ofNat (48 + d) := by
  apply UInt8.toNat_inj.1
  have e := u8w_toNat (48 + (d : Int))
  have e2 : IntKind.u8.wrap (48 + (d : Int)) = ((48 + d : Nat) : Int) := by
    have : ∀ n : Fin 10, IntKind.u8.wrap (48 + (n.val : Int)) = ((48 + n.val : Nat) : Int) := by decide +kernel
    exact this ⟨d, h⟩
  rw [e2] at e
  rw [UInt8.toNat_ofNat']
  omega
theorem itoa_one {n : Int} (h0 : 0 ≤ n) (h : n < 10) : Lib.itoa n = [u8w (48 + n)] := by
  obtain ⟨d, rfl⟩ := Int.eq_ofNat_of_zero_le h0
  rw [Lib.itoa, if_neg (by omega), show ((d : Int)).toNat = d from rfl, Lib.decDigits_one (by omega), u8w_dig d (by omega)]
theorem itoa_big {n : Int} (h : 10 ≤ n) : Lib.itoa n = Lib.itoa (n / 10) ++ [u8w (48 + n % 10)] := by
  obtain ⟨d, rfl⟩ := Int.eq_ofNat_of_zero_le (by omega : 0 ≤ n)
  rw [Lib.itoa, if_neg (by omega), Lib.itoa, if_neg (by omega), show ((d : Int)).toNat = d from rfl, Lib.decDigits, dif_neg (by omega), show (((d : Int) / 10)).toNat = d / 10 by omega]
  have : (d : Int) % 10 = ((d % 10 : Nat) : Int) := by omega
  rw [this, u8w_dig _ (Nat.mod_lt _ (by omega))]
theorem decDigits_ne (u : Nat) : Lib.decDigits u ≠ [] := by
  rw [Lib.decDigits]; split <;> simp
theorem itoa_zero {n : Int} (h0 : 0 ≤ n) : Lib.itoa n = [48] ↔ n = 0 := by
  obtain ⟨d, rfl⟩ := Int.eq_ofNat_of_zero_le h0
  rw [Lib.itoa, if_neg (by omega), show ((d : Int)).toNat = d from rfl]
  constructor
  · intro h
    rw [Lib.decDigits] at h
    split at h
    · rename_i hd
      have := congrArg UInt8.toNat (List.cons.inj h).1
      rw [UInt8.toNat_ofNat'] at this
      have e : (48 : UInt8).toNat = 48 := rfl
      omega
    · have := congrArg List.length h
      have h2 := List.length_pos_iff.2 (decDigits_ne (d / 10))
      rw [List.length_append] at this
      simp only [List.length_cons, List.length_nil] at this
      omega
  · intro h
    have : d = 0 := by omega
    subst this
    rw [Lib.decDigits_one (by omega)]; rfl
theorem itoa_neg {n : Int} (h : n < 0) : Lib.itoa n = [45] ++ (if -(Int.tdiv n 10) = 0 then [] else Lib.itoa (-(Int.tdiv n 10))) ++ [u8w (48 - Int.tmod n 10)] := by
  have e := (tq n).2 h
  rw [e.1, e.2, Int.neg_neg, Int.sub_neg]
  have e1 : Lib.itoa n = 45 :: Lib.itoa (-n) := by
    rw [Lib.itoa, if_pos h, Lib.itoa, if_neg (by omega)]
    congr 1; congr 1; omega
  rw [e1]
  by_cases hs : -n < 10
  · rw [if_pos (by omega), itoa_one (by omega) hs, show (-n) % 10 = -n by omega]; rfl
  · rw [if_neg (by omega), itoa_big (by omega)]; rfl
theorem decDigits_len : ∀ (k u : Nat), u < 10 ^ (k + 1) → (Lib.decDigits u).length ≤ k + 1
  | k, u, h => by
    rw [Lib.decDigits]
    split
    · simp
    · rename_i hu
      match k with
      | 0 => simp at h; omega
      | k + 1 =>
        have := decDigits_len k (u / 10) (by rw [Nat.pow_succ] at h; omega)
        simp; omega
theorem itoa_len {n : Int} (hlo : -9223372036854775808 ≤ n) (hhi : n ≤ 9223372036854775807) : (Lib.itoa n).length ≤ 20 := by
  rw [Lib.itoa]
  split
  · have := decDigits_len 18 n.natAbs (by have : (10:Nat) ^ 19 = 10000000000000000000 := by decide
                                          omega)
    simp; omega
  · have := decDigits_len 18 n.toNat (by have : (10:Nat) ^ 19 = 10000000000000000000 := by decide
                                         omega)
    omega
set_option maxHeartbeats 1000000 in
theorem u_Decimal1 (n : Int) (hlo : -9223372036854775808 ≤ n) (hhi : n ≤ 9223372036854775807) (ih : ∀ q : Int, q.natAbs < n.natAbs → -9223372036854775808 ≤ q → q ≤ 9223372036854775807 → ∀ (m : AMem) (K : AV → AMem → Prop), K (.str (Lib.itoa q)) m → ACalls Tryz.prog 93 [.int .i64 q] m K) (m : AMem)  (K : AV → AMem → Prop) (hK : K (.str (Lib.itoa n)) m) : ACalls Tryz.prog 93 [.int .i64 n] m K := by
 have hw := wq hlo hhi
 have hd := tq n
 have hl1 : (Lib.itoa (-(IntKind.i64.wrap (Int.tdiv n 10)))).length ≤ 20 := itoa_len (by simp only [hw]; omega) (by simp only [hw]; omega)
 have hl2 : (Lib.itoa (IntKind.i64.wrap (Int.tdiv n 10))).length ≤ 20 := itoa_len (by simp only [hw]; omega) (by simp only [hw]; omega)
 refine enter (c := cf [] [] [] [] [] []) (vs := [.av (.int .i64 n)]) (L := []) (m := m) false tbOk Tryz.mixed Tryz.func93 rfl (k := 1) (by show fnOk [] _ _ _ = true; decide +kernel) rfl (Good.nil m) ?_
 refine sq ?_
 refine an (fun h1 => ?_) (fun h1 => ?_)
 · refine an (by omega) ?_
   refine an (by (first | omega | (simp only [hw]; omega))) ?_
   refine call0 (fun _ => ih (-(IntKind.i64.wrap (Int.tdiv n 10))) (by simp only [hw]; omega) (by simp only [hw]; omega) (by simp only [hw]; omega)) rfl ?_
   refine sq ?_
   refine an (fun h2 => ?_) (fun h2 => ?_)
   · refine an (by (first | omega | (simp only [List.length_append, List.length_cons, List.length_nil]; omega))) ?_
     refine an (by exact ⟨by omega, by show (-9223372036854775808 : Int) ≤ _; omega, by show _ ≤ (9223372036854775807 : Int); omega⟩) ?_
     refine an (by (first | omega | (simp only [hw]; omega))) ?_
     refine tst (xs := ([(u8w (48 - (Int.tmod n 10)))] : List UInt8)) ?_
     refine an (by (first | omega | (simp only [List.length_append, List.length_cons, List.length_nil]; omega))) ?_
     refine rt0 rfl fun _ => K_eq hK ?_
     show AV.str (Lib.itoa n) = AV.str ((([45] : List UInt8) ++ ([])) ++ ([(u8w (48 - (Int.tmod n 10)))] : List UInt8))
     refine congrArg AV.str ?_
     rw [itoa_neg h1, if_pos (by have := (itoa_zero (by simp only [hw]; omega)).1 h2; rw [hw] at this; exact this)]
   refine an (by (first | omega | (simp only [List.length_append, List.length_cons, List.length_nil]; omega))) ?_
   refine an (by exact ⟨by omega, by show (-9223372036854775808 : Int) ≤ _; omega, by show _ ≤ (9223372036854775807 : Int); omega⟩) ?_
   refine an (by (first | omega | (simp only [hw]; omega))) ?_
   refine tst (xs := ([(u8w (48 - (Int.tmod n 10)))] : List UInt8)) ?_
   refine an (by (first | omega | (simp only [List.length_append, List.length_cons, List.length_nil]; omega))) ?_
   refine rt0 rfl fun _ => K_eq hK ?_
   show AV.str (Lib.itoa n) = AV.str ((([45] : List UInt8) ++ (Lib.itoa (-(IntKind.i64.wrap (Int.tdiv n 10))))) ++ ([(u8w (48 - (Int.tmod n 10)))] : List UInt8))
   refine congrArg AV.str ?_
   rw [itoa_neg h1, if_neg (fun hh => h2 ((itoa_zero (by simp only [hw]; omega)).2 (by rw [hw]; exact hh))), hw]
 refine sq ?_
 refine an (fun h3 => ?_) (fun h3 => ?_)
 · refine an (by (first | omega | (simp only [hw]; omega))) ?_
   refine tst (xs := ([(u8w (48 + n))] : List UInt8)) ?_
   refine rt0 rfl fun _ => K_eq hK ?_
   show AV.str (Lib.itoa n) = AV.str ([(u8w (48 + n))] : List UInt8)
   refine congrArg AV.str ?_
   rw [itoa_one (by omega) (by omega)]
 refine an (by omega) ?_
 refine pure0 (fun _ => ih (IntKind.i64.wrap (Int.tdiv n 10)) (by simp only [hw]; omega) (by simp only [hw]; omega) (by simp only [hw]; omega)) ?_
 refine an (by exact ⟨by omega, by show (-9223372036854775808 : Int) ≤ _; omega, by show _ ≤ (9223372036854775807 : Int); omega⟩) ?_
 refine an (by (first | omega | (simp only [hw]; omega))) ?_
 refine tst (xs := ([(u8w (48 + (Int.tmod n 10)))] : List UInt8)) ?_
 refine an (by (first | omega | (simp only [List.length_append, List.length_cons, List.length_nil]; omega))) ?_
 refine rt0 rfl fun _ => K_eq hK ?_
 show AV.str (Lib.itoa n) = AV.str ((Lib.itoa (IntKind.i64.wrap (Int.tdiv n 10))) ++ ([(u8w (48 + (Int.tmod n 10)))] : List UInt8))
 refine congrArg AV.str ?_
 rw [itoa_big (by omega), hw, (hd.1 (by omega)).1, (hd.1 (by omega)).2]
theorem u_Decimal2 : ∀ (k : Nat) (n : Int), n.natAbs < k → -9223372036854775808 ≤ n → n ≤ 9223372036854775807 → ∀ (m : AMem) (K : AV → AMem → Prop), K (.str (Lib.itoa n)) m → ACalls Tryz.prog 93 [.int .i64 n] m K
  | 0, _, h => absurd h (Nat.not_lt_zero _)
  | k + 1, n, h => fun h1 h2 m K hK => u_Decimal1 n h1 h2 (fun q hq a b => u_Decimal2 k q (by omega) a b) m K hK
theorem u_Decimal (n : Int) (h1 : -9223372036854775808 ≤ n) (h2 : n ≤ 9223372036854775807) (m : AMem) (K : AV → AMem → Prop) (hK : K (.str (Lib.itoa n)) m) : ACalls Tryz.prog 93 [.int .i64 n] m K := u_Decimal2 (n.natAbs + 1) n (Nat.lt_succ_self _) h1 h2 m K hK
def Tabs (m : AMem) : Prop := ∃ e z e2 z2 tp p, m 1 = some (tabObj e z .u64 Lib.pow10Tab) ∧ m 2 = some (.tab e2 z2 #[.iface tp p])
theorem Tabs.up {m mm : AMem} (ht : ∀ b o, m b = some o → mm b = some o) : Tabs m → Tabs mm := fun ⟨e, z, e2, z2, tp, p, h, h2⟩ => ⟨e, z, e2, z2, tp, p, ht _ _ h, ht _ _ h2⟩
theorem tabName : Tryz.prog.globalNamed "internal/strconv.uint64pow10" = some 1 := by kernel_rfl
theorem u_Itoa (n : Int) (h1 : -9223372036854775808 ≤ n) (h2 : n ≤ 9223372036854775807) (m : AMem) (hT : Tabs m) (K : AV → AMem → Prop) (hK : K (.str (Lib.itoa n)) m) : ACalls Tryz.prog 86 [.int .i64 n] m K :=
  have ⟨_, _, _, _, _, _, hT, _⟩ := hT
  itoa_calls ⟨_, Tryz.func86, rfl, by kernel_rfl⟩ tabName Tryz.strconv_Itoa hT (by have := itoa_len h1 h2; omega) hK
theorem wth_upd (m : AMem) (b : Nat) (o o' : AObj) : (m.wth [(b, o)]).upd b (some o') = m.wth [(b, o')] := by
  funext c; simp only [AMem.wth, AMem.upd]; split <;> rfl
theorem wth_at (m : AMem) (b : Nat) (o : AObj) : m.wth [(b, o)] b = some o := by simp [AMem.wth, AMem.upd]
theorem u_WriteString (b : Nat) (l s : Str) (h : l.length + s.length ≤ 140737488355328) (m : AMem) (K : AV → AMem → Prop) (hK : K (.tuple [.int .i64 s.length, .nilIface]) (m.wth [(b, .bld 112 5 ((l ++ s).map byteAV))])) :
    ACalls Tryz.prog 80 [.ptr ⟨b, 0, none⟩, .str s] (m.wth [(b, .bld 112 5 (l.map byteAV))]) K :=
  bld_write ⟨_, Tryz.func80, rfl, by kernel_rfl⟩ Tryz.underlying110 Tryz.underlying9 (by kernel_rfl) (by kernel_rfl) (by kernel_rfl) Tryz.WriteString_run (wth_at m b _) h (by rw [wth_upd]; exact hK)
theorem u_String (b : Nat) (l : Str) (m : AMem) (K : AV → AMem → Prop) (hK : K (.str l) (m.wth [(b, .cells [.junk, .junk])])) :
    ACalls Tryz.prog 58 [.ptr ⟨b, 0, none⟩] (m.wth [(b, .bld 112 5 (l.map byteAV))]) K :=
  bld_string ⟨_, Tryz.func58, rfl, by kernel_rfl⟩ Tryz.String_run Tryz.String_nil (wth_at m b _) (by rw [wth_upd]; exact hK)
end Go.Proofs
end
section
namespace Go.Proofs
open Go Go.Aw Go.Sx
set_option maxRecDepth 100000
theorem bldInfo : ∃ i, Tryz.prog.info? 112 = some i ∧ i.zero = some (.agg #[.pointer none, .slice none 0 0]) := ⟨_, rfl, rfl⟩
def boolS (b : Bool) : Str := if b = true then [116, 114, 117, 101] else [102, 97, 108, 115, 101]
def joinA {α : Type} (g : α → Str) : List α → Bool → Str
  | [], _ => []
  | x :: r, first => (if first = true then [] else [44, 32]) ++ g x ++ joinA g r false
def textF : Nat → Val → Str
  | 0, _ => []
  | k + 1, v =>
    if v.kind = 0 then [110, 117, 108, 108]
    else if v.kind = 1 then Lib.itoa v.n
    else if v.kind = 2 then quoteV v.s
    else if v.kind = 3 then boolS (v.n == 1)
    else if v.kind = 4 then [91] ++ joinA (textF k) v.l true ++ [93]
    else if v.kind = 5 then [123] ++ joinA (fun p : Str × Val => p.1 ++ [58, 32] ++ textF k p.2) v.f true ++ [125]
    else [110, 117, 108, 108]
theorem textF_x (k : Nat) (v : Val) : textF (k + 1) v =
    if v.kind = 0 then [110, 117, 108, 108]
    else if v.kind = 1 then Lib.itoa v.n
    else if v.kind = 2 then quoteV v.s
    else if v.kind = 3 then boolS (v.n == 1)
    else if v.kind = 4 then [91] ++ joinA (textF k) v.l true ++ [93]
    else if v.kind = 5 then [123] ++ joinA (fun p : Str × Val => p.1 ++ [58, 32] ++ textF k p.2) v.f true ++ [125]
    else [110, 117, 108, 108] := by rw [textF]
theorem joinA_step {α : Type} [Inhabited α] {g : α → Str} {l : List α} {i : Int} (h0 : 0 ≤ i) (hi : i < l.length) : joinA g (l.drop i.toNat) (i == 0) = (if (i == 0) = true then [] else [44, 32]) ++ g (gI l i) ++ joinA g (l.drop (i + 1).toNat) (i + 1 == 0) := by
  have e : (i + 1 == 0) = false := by simp; omega
  rw [drop_gI h0 hi, joinA, e]
theorem joinA_0 {α : Type} [Inhabited α] {g : α → Str} {l : List α} {i : Int} (h0 : 0 ≤ i) (hi : i < l.length) (hz : i ≤ 0) : joinA g (l.drop i.toNat) (i == 0) = g (gI l i) ++ joinA g (l.drop (i + 1).toNat) (i + 1 == 0) := by
  rw [joinA_step h0 hi, if_pos (by simp; omega)]; rfl
theorem joinA_1 {α : Type} [Inhabited α] {g : α → Str} {l : List α} {i : Int} (h0 : 0 ≤ i) (hi : i < l.length) (hz : 0 < i) : joinA g (l.drop i.toNat) (i == 0) = [44, 32] ++ g (gI l i) ++ joinA g (l.drop (i + 1).toNat) (i + 1 == 0) := by
  rw [joinA_step h0 hi, if_neg (by simp; omega)]
theorem joinA_end {α : Type} {g : α → Str} {l : List α} {i : Int} {b : Bool} (hi : (l.length : Int) ≤ i) : joinA g (l.drop i.toNat) b = [] := by
  rw [List.drop_eq_nil_of_le (by omega)]; rfl
attribute [irreducible] joinA textF
theorem shp_all {k : Nat} {v : Val} (h : shpF (k + 1) v = true) : shpOk v = true ∧ (∀ x ∈ v.l, shpF k x = true) ∧ ∀ p ∈ v.f, shpF k p.2 = true := by
  rw [shpF, Bool.and_eq_true, Bool.and_eq_true] at h
  exact ⟨h.1.1, List.all_eq_true.1 h.1.2, fun p hp => List.all_eq_true.1 h.2 p hp⟩
theorem shpOk_1 {v : Val} (h : shpOk v = true) (hk : v.kind = 1) : -1000000000 ≤ v.n ∧ v.n ≤ 1000000000 := by
  rw [shpOk, if_neg (by omega), if_pos hk] at h
  simp only [Bool.and_eq_true, decide_eq_true_eq] at h
  exact h.1.1
theorem shpOk_2 {v : Val} (h : shpOk v = true) (hk : v.kind = 2) : (v.s.length : Int) ≤ 40 := by
  rw [shpOk, if_neg (by omega), if_neg (by omega), if_pos hk] at h
  simp only [Bool.and_eq_true, decide_eq_true_eq] at h
  exact h.1.2
theorem shpOk_k {v : Val} (h : shpOk v = true) : ¬(v.kind ≠ 0 ∧ v.kind ≠ 1 ∧ v.kind ≠ 2 ∧ v.kind ≠ 3 ∧ v.kind ≠ 4 ∧ v.kind ≠ 5) := fun ⟨h0, h1, h2, h3, h4, h5⟩ => by
  rw [shpOk, if_neg h0, if_neg h1, if_neg h2, if_neg h3, if_neg h4, if_neg h5] at h
  cases h
theorem u_FormatBool1 (b : Bool)  (m : AMem)  (K : AV → AMem → Prop) (hK : K (.str (boolS b)) m) : ACalls Tryz.prog 217 [.bool b] m K := by
 refine enter (c := cf [] [] [] [] [] []) (vs := [.b (.raw b)]) (L := []) (m := m) false tbOk Tryz.mixed Tryz.func217 rfl (k := 1) (by show fnOk [] _ _ _ = true; decide +kernel) rfl (Good.nil m) ?_
 refine sq ?_
 refine an (fun h1 => ?_) (fun h1 => ?_)
 · refine rt0 rfl fun _ => K_eq hK ?_
   show AV.str (boolS b) = AV.str ([116, 114, 117, 101] : List UInt8)
   refine congrArg AV.str ?_
   rw [boolS, if_pos h1]
 refine rt0 rfl fun _ => K_eq hK ?_
 show AV.str (boolS b) = AV.str ([102, 97, 108, 115, 101] : List UInt8)
 refine congrArg AV.str ?_
 rw [boolS, if_neg (by simp [h1])]
theorem u_FormatBool (b : Bool)  (m : AMem)  (K : AV → AMem → Prop) (hK : K (.str (boolS b)) m) : ACalls Tryz.prog 197 [.bool b] m K := by
 refine enter (c := cf [] [] [] [] [] []) (vs := [.b (.raw b)]) (L := []) (m := m) false tbOk Tryz.mixed Tryz.func197 rfl (k := 1) (by show fnOk [] _ _ _ = true; decide +kernel) rfl (Good.nil m) ?_
 refine call0 (fun _ => u_FormatBool1 (b)) rfl ?_
 exact rt0 rfl fun _ => hK
set_option maxHeartbeats 2000000 in
theorem u_write1 (k : Nat) (v : Val) (base : Str) (b : Nat) (ih : ∀ (w : Val) (base : Str), depV w < k → shpF k w = true → base.length + (textF k w).length ≤ 140737488355328 → ∀ (b : Nat) (m : AMem), Gd [b] m → Tabs m → ∀ (K : AV → AMem → Prop), K (.tuple []) (AMem.wth m [(b, .bld 112 5 ((base ++ textF k w).map byteAV))]) → ACalls Tryz.prog 148 [.ptr ⟨b, 0, none⟩, valTop w] (AMem.wth m [(b, .bld 112 5 (base.map byteAV))]) K) (hd : depV v < k + 1) (hsh : shpF (k + 1) v = true) (hL : base.length + (textF (k + 1) v).length ≤ 140737488355328) (m : AMem) (gd : Gd [b] m) (K : AV → AMem → Prop) (hT : Tabs m) (hK : K (.tuple []) (AMem.wth m [(b, .bld 112 5 ((base ++ textF (k + 1) v).map byteAV))])) : ACalls Tryz.prog 148 [.ptr ⟨b, 0, none⟩, valTop v] (AMem.wth m [(b, .bld 112 5 (base.map byteAV))]) K := by
 obtain ⟨hs1, hs2, hs3⟩ := shp_all hsh
 refine enter (c := cf [] [0] [] [] [] [b]) (vs := [.loc 0 0, .av (valTop v)]) (L := [.obj (.bld 112 5 (base.map byteAV))]) (m := m) false tbOk Tryz.mixed Tryz.func148 rfl (k := 2) (by show fnOk [] _ _ _ = true; decide +kernel) rfl (gd.good rfl) ?_
 refine ⟨fun F0 => ?_⟩
 have hbd1_2 : v.s.length ≤ 140737488355328 := (F0 1 2 (Nat.le_of_ble_eq_true rfl))
 have hbd1_3 : v.l.length ≤ 140737488355328 := bd_map (F0 1 3 (Nat.le_of_ble_eq_true rfl))
 have hbd1_4 : v.f.length ≤ 140737488355328 := bd_map (F0 1 4 (Nat.le_of_ble_eq_true rfl))
 refine an (fun h1 => ?_) (fun h1 => ?_)
 · have e : textF (k + 1) v = [110, 117, 108, 108] := by rw [textF_x, if_pos h1]
   rw [e] at hL hK
   try simp only [List.length_append, List.length_cons, List.length_nil] at hL
   refine callM [0] [.obj (.bld 112 5 ((base ++ ([110, 117, 108, 108] : List UInt8)).map byteAV))] (.av (.tuple [.int .i64 (([110, 117, 108, 108] : List UInt8).length : Int), .nilIface])) rfl (fun bs mm gd => u_WriteString (bs.getD 0 0) base ([110, 117, 108, 108] : List UInt8) (by first | omega | (simp only [List.length_append, List.length_cons, List.length_nil]; omega)) mm) ?_
   refine rt rfl fun _ => ?_
   show K (.tuple []) (AMem.wth m [(b, .bld 112 5 ((base ++ ([110, 117, 108, 108] : List UInt8)).map byteAV))])
   exact hK
 refine an (fun h2 => ?_) (fun h2 => ?_)
 · have e : textF (k + 1) v = Lib.itoa v.n := by rw [textF_x, if_neg h1, if_pos h2]
   rw [e] at hL hK
   try simp only [List.length_append, List.length_cons, List.length_nil] at hL
   refine callT [] [] (vS (Lib.itoa v.n)) rfl (fun bs mm gd ht => u_Itoa v.n (by have := shpOk_1 hs1 (by assumption); omega) (by have := shpOk_1 hs1 (by assumption); omega) mm (Tabs.up ht hT)) ?_
   refine callM [0] [.obj (.bld 112 5 ((base ++ (Lib.itoa v.n)).map byteAV))] (.av (.tuple [.int .i64 ((Lib.itoa v.n).length : Int), .nilIface])) rfl (fun bs mm gd => u_WriteString (bs.getD 0 0) base (Lib.itoa v.n) (by first | omega | (simp only [List.length_append, List.length_cons, List.length_nil]; omega)) mm) ?_
   refine rt rfl fun _ => ?_
   show K (.tuple []) (AMem.wth m [(b, .bld 112 5 ((base ++ (Lib.itoa v.n)).map byteAV))])
   exact hK
 refine an (fun h3 => ?_) (fun h3 => ?_)
 · have e : textF (k + 1) v = quoteV v.s := by rw [textF_x, if_neg h1, if_neg h2, if_pos h3]
   rw [e] at hL hK
   try simp only [List.length_append, List.length_cons, List.length_nil] at hL
   refine call0 (fun _ => u_Quote v.s (by have := shpOk_2 hs1 (by assumption); omega)) rfl ?_
   refine callM [0] [.obj (.bld 112 5 ((base ++ (quoteV v.s)).map byteAV))] (.av (.tuple [.int .i64 ((quoteV v.s).length : Int), .nilIface])) rfl (fun bs mm gd => u_WriteString (bs.getD 0 0) base (quoteV v.s) (by first | omega | (simp only [List.length_append, List.length_cons, List.length_nil]; omega)) mm) ?_
   refine rt rfl fun _ => ?_
   show K (.tuple []) (AMem.wth m [(b, .bld 112 5 ((base ++ (quoteV v.s)).map byteAV))])
   exact hK
 refine an (fun h4 => ?_) (fun h4 => ?_)
 · have e : textF (k + 1) v = boolS (v.n == 1) := by rw [textF_x, if_neg h1, if_neg h2, if_neg h3, if_pos h4]
   rw [e] at hL hK
   try simp only [List.length_append, List.length_cons, List.length_nil] at hL
   refine call0 (fun _ => u_FormatBool ((v.n == 1))) rfl ?_
   refine callM [0] [.obj (.bld 112 5 ((base ++ (boolS ((v.n == 1)))).map byteAV))] (.av (.tuple [.int .i64 ((boolS ((v.n == 1))).length : Int), .nilIface])) rfl (fun bs mm gd => u_WriteString (bs.getD 0 0) base (boolS ((v.n == 1))) (by first | omega | (simp only [List.length_append, List.length_cons, List.length_nil]; omega)) mm) ?_
   refine rt rfl fun _ => ?_
   show K (.tuple []) (AMem.wth m [(b, .bld 112 5 ((base ++ (boolS ((v.n == 1)))).map byteAV))])
   exact hK
 refine an (fun h5 => ?_) (fun h5 => ?_)
 · have e : textF (k + 1) v = [91] ++ joinA (textF k) v.l true ++ [93] := by rw [textF_x, if_neg h1, if_neg h2, if_neg h3, if_neg h4, if_pos h5]
   rw [e] at hL hK
   try simp only [List.length_append, List.length_cons, List.length_nil] at hL
   refine callM [0] [.obj (.bld 112 5 ((base ++ ([91] : List UInt8)).map byteAV))] (.av (.tuple [.int .i64 (([91] : List UInt8).length : Int), .nilIface])) rfl (fun bs mm gd => u_WriteString (bs.getD 0 0) base ([91] : List UInt8) (by first | omega | (simp only [List.length_append, List.length_cons, List.length_nil]; omega)) mm) ?_
   refine sq ?_
   refine ln ?_
   refine lp (σ := Int × Str) [] [0, 41, 42, 43] 2 (fun ⟨i, w_⟩ => ([(0, .loc 0 0), (41, vL (v.l.map valIn)), (42, vI (v.l.length : Int)), (43, vI i)], [.obj (.bld 112 5 (w_.map byteAV)), .cells [vI v.kind, vI v.n, vS v.s, vL (v.l.map valIn), vL (v.f.map fldIn)]], m)) (fun ⟨i, w_⟩ => 0 ≤ i ∧ i ≤ v.l.length ∧ base ++ [91] ++ joinA (textF k) v.l true = w_ ++ joinA (textF k) (v.l.drop i.toNat) (i == 0)) (fun ⟨i, w_⟩ => v.l.length - i.toNat) (0, base ++ ([91] : List UInt8)) ⟨rfl, rfl⟩ ?_ ?_
   · try dsimp only
     exact ⟨by omega, by omega, rfl⟩
   rintro ⟨i, w_⟩ hI
   dsimp only at hI
   have hj := congrArg List.length hI.2.2
   simp only [List.length_append, List.length_cons, List.length_nil] at hj
   refine sq ?_
   refine an (fun h6 => ?_) (fun h6 => ?_)
   · refine sq ?_
     refine ixg valTop valIn_eq (by omega) ?_
     refine sq ?_
     refine an (fun h7 => ?_) (fun h7 => ?_)
     · have hst := joinA_1 (g := textF k) hI.1 h6 h7
       have hsl := congrArg List.length hst
       simp only [List.length_append, List.length_cons, List.length_nil] at hsl
       refine callM [0] [.obj (.bld 112 5 ((w_ ++ ([44, 32] : List UInt8)).map byteAV))] (.av (.tuple [.int .i64 (([44, 32] : List UInt8).length : Int), .nilIface])) rfl (fun bs mm gd => u_WriteString (bs.getD 0 0) w_ ([44, 32] : List UInt8) (by first | omega | (simp only [List.length_append, List.length_cons, List.length_nil]; omega)) mm) ?_
       refine callT [0] [.obj (.bld 112 5 (((w_ ++ ([44, 32] : List UInt8)) ++ textF k (gI v.l i)).map byteAV))] (.tup []) rfl (fun bs mm gd ht => ih (gI v.l i) (w_ ++ ([44, 32] : List UInt8)) (by have := depV_eq v; first | (have := depL_mem (gI_mem (l := v.l) (i := i) hI.1 (by assumption)); omega) | (have := depF_mem (gI_mem (l := v.f) (i := i2) hI.1 (by assumption)); omega)) (by first | exact hs3 _ (gI_mem (l := v.f) (i := i2) hI.1 (by assumption)) | exact hs2 _ (gI_mem (l := v.l) (i := i) hI.1 (by assumption))) (by first | omega | (simp only [List.length_append, List.length_cons, List.length_nil]; omega)) (bs.getD 0 0) mm gd (Tabs.up ht hT)) ?_
       refine an (by omega) ?_
       refine ⟨(i + 1, (w_ ++ ([44, 32] : List UInt8)) ++ textF k (gI v.l i)), ⟨rfl, rfl⟩, ?_, ?_⟩
       · try dsimp only
         exact ⟨by omega, by omega, by rw [hI.2.2, hst]; simp only [List.append_assoc, List.nil_append]⟩
       try dsimp only
       omega
     have hst := joinA_0 (g := textF k) hI.1 h6 h7
     have hsl := congrArg List.length hst
     simp only [List.length_append, List.length_cons, List.length_nil] at hsl
     refine callT [0] [.obj (.bld 112 5 ((w_ ++ textF k (gI v.l i)).map byteAV))] (.tup []) rfl (fun bs mm gd ht => ih (gI v.l i) w_ (by have := depV_eq v; first | (have := depL_mem (gI_mem (l := v.l) (i := i) hI.1 (by assumption)); omega) | (have := depF_mem (gI_mem (l := v.f) (i := i2) hI.1 (by assumption)); omega)) (by first | exact hs3 _ (gI_mem (l := v.f) (i := i2) hI.1 (by assumption)) | exact hs2 _ (gI_mem (l := v.l) (i := i) hI.1 (by assumption))) (by first | omega | (simp only [List.length_append, List.length_cons, List.length_nil]; omega)) (bs.getD 0 0) mm gd (Tabs.up ht hT)) ?_
     refine an (by omega) ?_
     refine ⟨(i + 1, w_ ++ textF k (gI v.l i)), ⟨rfl, rfl⟩, ?_, ?_⟩
     · try dsimp only
       exact ⟨by omega, by omega, by rw [hI.2.2, hst]; simp only [List.append_assoc, List.nil_append]⟩
     try dsimp only
     omega
   refine callM [0] [.obj (.bld 112 5 ((w_ ++ ([93] : List UInt8)).map byteAV))] (.av (.tuple [.int .i64 (([93] : List UInt8).length : Int), .nilIface])) rfl (fun bs mm gd => u_WriteString (bs.getD 0 0) w_ ([93] : List UInt8) (by first | omega | (simp only [List.length_append, List.length_cons, List.length_nil]; omega)) mm) ?_
   refine rt rfl fun _ => ?_
   show K (.tuple []) (AMem.wth m [(b, .bld 112 5 ((w_ ++ ([93] : List UInt8)).map byteAV))])
   have e2 : base ++ ([91] ++ joinA (textF k) v.l true ++ [93]) = w_ ++ [93] := by
     have := hI.2.2
     rw [joinA_end (by omega), List.append_nil] at this
     rw [← this]; simp only [List.append_assoc]
   rw [e2] at hK; exact hK
 refine an (fun h8 => ?_) (fun h8 => ?_)
 · have e : textF (k + 1) v = [123] ++ joinA (fun p : Str × Val => p.1 ++ [58, 32] ++ textF k p.2) v.f true ++ [125] := by rw [textF_x, if_neg h1, if_neg h2, if_neg h3, if_neg h4, if_neg h5, if_pos h8]
   rw [e] at hL hK
   try simp only [List.length_append, List.length_cons, List.length_nil] at hL
   refine callM [0] [.obj (.bld 112 5 ((base ++ ([123] : List UInt8)).map byteAV))] (.av (.tuple [.int .i64 (([123] : List UInt8).length : Int), .nilIface])) rfl (fun bs mm gd => u_WriteString (bs.getD 0 0) base ([123] : List UInt8) (by first | omega | (simp only [List.length_append, List.length_cons, List.length_nil]; omega)) mm) ?_
   refine sq ?_
   refine ln ?_
   refine lp (σ := Int × Str) [] [0, 63, 64, 65] 2 (fun ⟨i2, w_⟩ => ([(0, .loc 0 0), (63, vL (v.f.map fldIn)), (64, vI (v.f.length : Int)), (65, vI i2)], [.obj (.bld 112 5 (w_.map byteAV)), .cells [vI v.kind, vI v.n, vS v.s, vL (v.l.map valIn), vL (v.f.map fldIn)]], m)) (fun ⟨i2, w_⟩ => 0 ≤ i2 ∧ i2 ≤ v.f.length ∧ base ++ [123] ++ joinA (fun p : Str × Val => p.1 ++ [58, 32] ++ textF k p.2) v.f true = w_ ++ joinA (fun p : Str × Val => p.1 ++ [58, 32] ++ textF k p.2) (v.f.drop i2.toNat) (i2 == 0)) (fun ⟨i2, w_⟩ => v.f.length - i2.toNat) (0, base ++ ([123] : List UInt8)) ⟨rfl, rfl⟩ ?_ ?_
   · try dsimp only
     exact ⟨by omega, by omega, rfl⟩
   rintro ⟨i2, w_⟩ hI
   dsimp only at hI
   have hj := congrArg List.length hI.2.2
   simp only [List.length_append, List.length_cons, List.length_nil] at hj
   refine sq ?_
   refine an (fun h9 => ?_) (fun h9 => ?_)
   · refine sq ?_
     refine ixg fldTop fldIn_eq (by omega) ?_
     refine sq ?_
     refine an (fun h10 => ?_) (fun h10 => ?_)
     · have hst := joinA_1 (g := fun p : Str × Val => p.1 ++ [58, 32] ++ textF k p.2) hI.1 h9 h10
       have hsl := congrArg List.length hst
       simp only [List.length_append, List.length_cons, List.length_nil] at hsl
       refine callM [0] [.obj (.bld 112 5 ((w_ ++ ([44, 32] : List UInt8)).map byteAV))] (.av (.tuple [.int .i64 (([44, 32] : List UInt8).length : Int), .nilIface])) rfl (fun bs mm gd => u_WriteString (bs.getD 0 0) w_ ([44, 32] : List UInt8) (by first | omega | (simp only [List.length_append, List.length_cons, List.length_nil]; omega)) mm) ?_
       refine an (by (simp only [List.length_cons, List.length_nil]; omega)) ?_
       refine callM [0] [.obj (.bld 112 5 (((w_ ++ ([44, 32] : List UInt8)) ++ (((gI v.f i2).1) ++ ([58, 32] : List UInt8))).map byteAV))] (.av (.tuple [.int .i64 ((((gI v.f i2).1) ++ ([58, 32] : List UInt8)).length : Int), .nilIface])) rfl (fun bs mm gd => u_WriteString (bs.getD 0 0) (w_ ++ ([44, 32] : List UInt8)) (((gI v.f i2).1) ++ ([58, 32] : List UInt8)) (by first | omega | (simp only [List.length_append, List.length_cons, List.length_nil]; omega)) mm) ?_
       refine callT [0] [.obj (.bld 112 5 ((((w_ ++ ([44, 32] : List UInt8)) ++ (((gI v.f i2).1) ++ ([58, 32] : List UInt8))) ++ textF k ((gI v.f i2).2)).map byteAV))] (.tup []) rfl (fun bs mm gd ht => ih ((gI v.f i2).2) ((w_ ++ ([44, 32] : List UInt8)) ++ (((gI v.f i2).1) ++ ([58, 32] : List UInt8))) (by have := depV_eq v; first | (have := depL_mem (gI_mem (l := v.l) (i := i) hI.1 (by assumption)); omega) | (have := depF_mem (gI_mem (l := v.f) (i := i2) hI.1 (by assumption)); omega)) (by first | exact hs3 _ (gI_mem (l := v.f) (i := i2) hI.1 (by assumption)) | exact hs2 _ (gI_mem (l := v.l) (i := i) hI.1 (by assumption))) (by first | omega | (simp only [List.length_append, List.length_cons, List.length_nil]; omega)) (bs.getD 0 0) mm gd (Tabs.up ht hT)) ?_
       refine an (by omega) ?_
       refine ⟨(i2 + 1, ((w_ ++ ([44, 32] : List UInt8)) ++ (((gI v.f i2).1) ++ ([58, 32] : List UInt8))) ++ textF k ((gI v.f i2).2)), ⟨rfl, rfl⟩, ?_, ?_⟩
       · try dsimp only
         exact ⟨by omega, by omega, by rw [hI.2.2, hst]; simp only [List.append_assoc, List.nil_append]⟩
       try dsimp only
       omega
     have hst := joinA_0 (g := fun p : Str × Val => p.1 ++ [58, 32] ++ textF k p.2) hI.1 h9 h10
     have hsl := congrArg List.length hst
     simp only [List.length_append, List.length_cons, List.length_nil] at hsl
     refine an (by (simp only [List.length_cons, List.length_nil]; omega)) ?_
     refine callM [0] [.obj (.bld 112 5 ((w_ ++ (((gI v.f i2).1) ++ ([58, 32] : List UInt8))).map byteAV))] (.av (.tuple [.int .i64 ((((gI v.f i2).1) ++ ([58, 32] : List UInt8)).length : Int), .nilIface])) rfl (fun bs mm gd => u_WriteString (bs.getD 0 0) w_ (((gI v.f i2).1) ++ ([58, 32] : List UInt8)) (by first | omega | (simp only [List.length_append, List.length_cons, List.length_nil]; omega)) mm) ?_
     refine callT [0] [.obj (.bld 112 5 (((w_ ++ (((gI v.f i2).1) ++ ([58, 32] : List UInt8))) ++ textF k ((gI v.f i2).2)).map byteAV))] (.tup []) rfl (fun bs mm gd ht => ih ((gI v.f i2).2) (w_ ++ (((gI v.f i2).1) ++ ([58, 32] : List UInt8))) (by have := depV_eq v; first | (have := depL_mem (gI_mem (l := v.l) (i := i) hI.1 (by assumption)); omega) | (have := depF_mem (gI_mem (l := v.f) (i := i2) hI.1 (by assumption)); omega)) (by first | exact hs3 _ (gI_mem (l := v.f) (i := i2) hI.1 (by assumption)) | exact hs2 _ (gI_mem (l := v.l) (i := i) hI.1 (by assumption))) (by first | omega | (simp only [List.length_append, List.length_cons, List.length_nil]; omega)) (bs.getD 0 0) mm gd (Tabs.up ht hT)) ?_
     refine an (by omega) ?_
     refine ⟨(i2 + 1, (w_ ++ (((gI v.f i2).1) ++ ([58, 32] : List UInt8))) ++ textF k ((gI v.f i2).2)), ⟨rfl, rfl⟩, ?_, ?_⟩
     · try dsimp only
       exact ⟨by omega, by omega, by rw [hI.2.2, hst]; simp only [List.append_assoc, List.nil_append]⟩
     try dsimp only
     omega
   refine callM [0] [.obj (.bld 112 5 ((w_ ++ ([125] : List UInt8)).map byteAV))] (.av (.tuple [.int .i64 (([125] : List UInt8).length : Int), .nilIface])) rfl (fun bs mm gd => u_WriteString (bs.getD 0 0) w_ ([125] : List UInt8) (by first | omega | (simp only [List.length_append, List.length_cons, List.length_nil]; omega)) mm) ?_
   refine rt rfl fun _ => ?_
   show K (.tuple []) (AMem.wth m [(b, .bld 112 5 ((w_ ++ ([125] : List UInt8)).map byteAV))])
   have e2 : base ++ ([123] ++ joinA (fun p : Str × Val => p.1 ++ [58, 32] ++ textF k p.2) v.f true ++ [125]) = w_ ++ [125] := by
     have := hI.2.2
     rw [joinA_end (by omega), List.append_nil] at this
     rw [← this]; simp only [List.append_assoc]
   rw [e2] at hK; exact hK
 exact absurd ⟨h1, h2, h3, h4, h5, h8⟩ (shpOk_k hs1)
end Go.Proofs
end
section
namespace Go.Proofs
open Go Go.Aw Go.Sx
set_option maxRecDepth 100000
theorem joinA_len {α : Type} {g : α → Str} {d : α → Nat} {c : Nat} : ∀ (l : List α) (b : Bool), (∀ x ∈ l, (g x).length + 2 ≤ c * d x) → (joinA g l b).length ≤ c * sumN d l
  | [], b, _ => by rw [joinA]; simp
  | x :: r, b, h => by
    have h1 := h x (List.mem_cons_self ..)
    have h2 := joinA_len r false fun y hy => h y (List.mem_cons_of_mem _ hy)
    rw [joinA, sumN, Nat.mul_add]
    have h3 : (if b = true then ([] : Str) else [44, 32]).length ≤ 2 := by split <;> simp
    rw [List.length_append, List.length_append]
    omega
theorem recOk_name : ∀ (l : List (Str × Val)) (p : Option Str), recOk p l = true → ∀ q ∈ l, q.1.length ≤ 12
  | [], _, _, q, hq => by cases hq
  | f :: r, p, h, q, hq => by
    rw [recOk_cons, Bool.and_eq_true, Bool.and_eq_true] at h
    rcases List.mem_cons.1 hq with rfl | hq
    · have := h.1.1
      unfold nameV at this
      simp only [Bool.and_eq_true, decide_eq_true_eq] at this
      omega
    · exact recOk_name r _ h.2 q hq
theorem text_len : ∀ (k : Nat) (v : Val), shpF k v = true → (textF k v).length + 20 ≤ 200 * depV v
  | 0, _, h => by cases h
  | k + 1, v, h => by
    obtain ⟨h1, h2, h3⟩ := shp_all h
    have e := depV_eq v
    rw [textF_x]
    split
    · simp; omega
    split
    · rename_i hk
      have := shpOk_1 h1 hk
      have := itoa_len (n := v.n) (by omega) (by omega)
      omega
    split
    · rename_i hk
      have := shpOk_2 h1 hk
      have := quoteF_len v.s
      simp only [quoteV, List.length_append, List.length_cons, List.length_nil]
      omega
    split
    · unfold boolS; split <;> simp <;> omega
    split
    · have := joinA_len (g := textF k) (d := depV) (c := 200) v.l true fun x hx => by have := text_len k x (h2 x hx); omega
      rw [sumN_l] at this
      simp only [List.length_append, List.length_cons, List.length_nil]
      omega
    split
    · rename_i hk0 hk1 hk2 hk3 hk4 hk
      have hr : recOk none v.f = true := by
        rw [shpOk, if_neg hk0, if_neg hk1, if_neg hk2, if_neg hk3, if_neg hk4, if_pos hk, Bool.and_eq_true] at h1
        exact h1.2
      have := joinA_len (g := fun p : Str × Val => p.1 ++ [58, 32] ++ textF k p.2) (d := fun p => depV p.2) (c := 200) v.f true fun x hx => by
        have := text_len k x.2 (h3 x hx)
        have := recOk_name _ _ hr x hx
        simp only [List.length_append, List.length_cons, List.length_nil]
        omega
      rw [sumN_f] at this
      simp only [List.length_append, List.length_cons, List.length_nil]
      omega
    · simp; omega
theorem chk_0 {v : Val} (h : chk v = 0) : shpF (depV v + 1) v = true ∧ depV v ≤ 60 := by
  have hc := h
  unfold chk at hc
  split at hc
  · rename_i c
    refine ⟨shE_t hc, ?_⟩
    have := cntF_ok (depV v + 1) 1 v 60 (by omega) c
    omega
  · cases hc
theorem u_write : ∀ (k : Nat) (v : Val) (base : Str), depV v < k → shpF k v = true → base.length + (textF k v).length ≤ 140737488355328 → ∀ (b : Nat) (m : AMem), Gd [b] m → Tabs m → ∀ (K : AV → AMem → Prop), K (.tuple []) (AMem.wth m [(b, .bld 112 5 ((base ++ textF k v).map byteAV))]) → ACalls Tryz.prog 148 [.ptr ⟨b, 0, none⟩, valTop v] (AMem.wth m [(b, .bld 112 5 (base.map byteAV))]) K
  | 0, _, _, h => absurd h (Nat.not_lt_zero _)
  | k + 1, v, base, h => fun hs hL b m gd hT K hK => u_write1 k v base b (u_write k) h hs hL m gd K hT hK
def textV (v : Val) : Str := textF (depV v + 1) v
theorem textV_len {v : Val} (h : chk v = 0) : (textV v).length ≤ 12000 := by
  have := text_len _ v (chk_0 h).1
  have := (chk_0 h).2
  unfold textV; omega
theorem u_Text (v : Val)  (m : AMem)  (K : AV → AMem → Prop) (hT : Tabs m) (hK : K (.tuple [.str (if chk v = 0 then textV v else []), .err 115 (chk v)]) m) : ACalls Tryz.prog 81 [valTop v] m K := by
 refine enter (c := cf [] [] [] [] [] []) (vs := [.av (valTop v)]) (L := []) (m := m) true tbOk Tryz.mixed Tryz.func81 rfl (k := 1) (by show fnOk [] _ _ _ = true; decide +kernel) rfl (Good.nil m) ?_
 refine call0 (fun _ => u_Check v) rfl ?_
 refine sq ?_
 refine an (fun h1 => ?_) (fun h1 => ?_)
 · rw [if_pos h1, h1] at hK
   refine nb (eb := 5) bldInfo.choose_spec.1 bldInfo.choose_spec.2 rfl ?_
   refine callT [1] [.obj (.bld 112 5 ((([] : Str) ++ textF (depV v + 1) v).map byteAV))] (.tup []) rfl (fun bs mm gd ht => u_write (depV v + 1) v ([] : Str) (Nat.lt_succ_self _) (chk_0 (by assumption)).1 (by have := textV_len (v := v) (by assumption); unfold textV at this; simp only [List.length_nil]; omega) (bs.getD 1 0) mm gd (Tabs.up ht hT)) ?_
   refine callM [1] [.cells [.av (.junk), .av (.junk)]] (vS (([] : Str) ++ textF (depV v + 1) v)) rfl (fun bs mm gd => u_String (bs.getD 1 0) (([] : Str) ++ textF (depV v + 1) v) mm) ?_
   refine rt0 rfl fun _ => ?_
   show K (.tuple [.str (([] : Str) ++ textF (depV v + 1) v), .err 115 0]) m
   exact hK
 rw [if_neg h1] at hK
 refine rt0 rfl fun _ => ?_
 show K (.tuple [.str ([]), .err 115 (chk v)]) m
 exact hK
end Go.Proofs
end
section
namespace Go.Proofs
open Go Go.Aw Go.Sx
set_option maxRecDepth 100000
set_option maxHeartbeats 2000000 in
theorem u_RText1 (k : Nat) (v : Val) (ih : ∀ w : Val, depV w < k → shpF k w = true → (textF k w).length ≤ 1000000 → ∀ (m : AMem) (K : AV → AMem → Prop), K (.str (textF k w)) m → ACalls Tryz.prog 61 [valTop w] m K) (hd : depV v < k + 1) (hsh : shpF (k + 1) v = true) (hL : (textF (k + 1) v).length ≤ 1000000) (m : AMem)  (K : AV → AMem → Prop) (hK : K (.str (textF (k + 1) v)) m) : ACalls Tryz.prog 61 [valTop v] m K := by
 obtain ⟨hs1, hs2, hs3⟩ := shp_all hsh
 refine enter (c := cf [] [0] [] [] [] []) (vs := [.av (valTop v)]) (L := []) (m := m) false tbOk Tryz.mixed Tryz.func61 rfl (k := 1) (by show fnOk [] _ _ _ = true; decide +kernel) rfl (Good.nil m) ?_
 refine ⟨fun F0 => ?_⟩
 have hbd0_2 : v.s.length ≤ 140737488355328 := (F0 0 2 (Nat.le_of_ble_eq_true rfl))
 have hbd0_3 : v.l.length ≤ 140737488355328 := bd_map (F0 0 3 (Nat.le_of_ble_eq_true rfl))
 have hbd0_4 : v.f.length ≤ 140737488355328 := bd_map (F0 0 4 (Nat.le_of_ble_eq_true rfl))
 refine sq ?_
 refine an (fun h1 => ?_) (fun h1 => ?_)
 · have e : textF (k + 1) v = Lib.itoa v.n := by rw [textF_x, if_neg (by omega), if_pos h1]
   rw [e] at hL hK
   try simp only [List.length_append, List.length_cons, List.length_nil] at hL
   refine call0 (fun _ => u_Decimal v.n (by have := shpOk_1 hs1 (by assumption); omega) (by have := shpOk_1 hs1 (by assumption); omega)) rfl ?_
   exact rt0 rfl fun _ => hK
 refine an (fun h2 => ?_) (fun h2 => ?_)
 · have e : textF (k + 1) v = quoteV v.s := by rw [textF_x, if_neg (by omega), if_neg (by omega), if_pos h2]
   rw [e] at hL hK
   try simp only [List.length_append, List.length_cons, List.length_nil] at hL
   refine call0 (fun _ => u_RQuoted v.s (by have := shpOk_2 hs1 (by assumption); omega)) rfl ?_
   exact rt0 rfl fun _ => hK
 refine an (fun h3 => ?_) (fun h3 => ?_)
 · refine sq ?_
   refine an (fun h4 => ?_) (fun h4 => ?_)
   · have e : textF (k + 1) v = [116, 114, 117, 101] := by rw [textF_x, if_neg (by omega), if_neg (by omega), if_neg (by omega), if_pos h3, boolS, if_pos (by simp [h4])]
     rw [e] at hL hK
     try simp only [List.length_append, List.length_cons, List.length_nil] at hL
     exact rt0 rfl fun _ => hK
   have e : textF (k + 1) v = [102, 97, 108, 115, 101] := by rw [textF_x, if_neg (by omega), if_neg (by omega), if_neg (by omega), if_pos h3, boolS, if_neg (by simp [h4])]
   rw [e] at hL hK
   try simp only [List.length_append, List.length_cons, List.length_nil] at hL
   exact rt0 rfl fun _ => hK
 refine an (fun h5 => ?_) (fun h5 => ?_)
 · have e : textF (k + 1) v = [91] ++ joinA (textF k) v.l true ++ [93] := by rw [textF_x, if_neg (by omega), if_neg (by omega), if_neg (by omega), if_neg (by omega), if_pos h5]
   rw [e] at hL hK
   try simp only [List.length_append, List.length_cons, List.length_nil] at hL
   refine sq ?_
   refine lp (σ := (List UInt8) × Int) [] [1, 3, 4] 1 (fun ⟨s, i⟩ => ([(1, .loc 0 0), (3, vS s), (4, vI i)], [.cells [vI v.kind, vI v.n, vS v.s, vL (v.l.map valIn), vL (v.f.map fldIn)]], m)) (fun ⟨s, i⟩ => 0 ≤ i ∧ i ≤ v.l.length ∧ joinA (textF k) v.l true = s ++ joinA (textF k) (v.l.drop i.toNat) (i == 0)) (fun ⟨s, i⟩ => v.l.length - i.toNat) ([], 0) ⟨rfl, rfl⟩ ?_ ?_
   · try dsimp only
     exact ⟨by omega, by omega, rfl⟩
   rintro ⟨s, i⟩ hI
   dsimp only at hI
   have hj := congrArg List.length hI.2.2
   simp only [List.length_append, List.length_cons, List.length_nil] at hj
   refine sq ?_
   refine ln ?_
   refine an (fun h6 => ?_) (fun h6 => ?_)
   · refine sq ?_
     refine sq ?_
     refine an (fun h7 => ?_) (fun h7 => ?_)
     · have hst := joinA_1 (g := textF k) hI.1 h6 h7
       have hsl := congrArg List.length hst
       simp only [List.length_append, List.length_cons, List.length_nil] at hsl
       refine an (by (first | omega | (simp only [List.length_append, List.length_cons, List.length_nil]; omega))) ?_
       refine ixg valTop valIn_eq (by omega) ?_
       refine call0 (fun _ => ih (gI v.l i) (by have := depV_eq v; first | (have := depF_mem (gI_mem (l := v.f) (i := i2) hI.1 (by assumption)); omega) | (have := depL_mem (gI_mem (l := v.l) (i := i) hI.1 (by assumption)); omega)) (by first | exact hs3 _ (gI_mem (l := v.f) (i := i2) hI.1 (by assumption)) | exact hs2 _ (gI_mem (l := v.l) (i := i) hI.1 (by assumption))) (by omega)) rfl ?_
       refine an (by (first | omega | (simp only [List.length_append, List.length_cons, List.length_nil]; omega))) ?_
       refine an (by omega) ?_
       refine ⟨((s ++ ([44, 32] : List UInt8)) ++ (textF k (gI v.l i)), i + 1), ⟨rfl, rfl⟩, ?_, ?_⟩
       · try dsimp only
         exact ⟨by omega, by omega, by rw [hI.2.2, hst]; simp only [List.append_assoc, List.nil_append]⟩
       try dsimp only
       omega
     have hst := joinA_0 (g := textF k) hI.1 h6 h7
     have hsl := congrArg List.length hst
     simp only [List.length_append, List.length_cons, List.length_nil] at hsl
     refine ixg valTop valIn_eq (by omega) ?_
     refine call0 (fun _ => ih (gI v.l i) (by have := depV_eq v; first | (have := depF_mem (gI_mem (l := v.f) (i := i2) hI.1 (by assumption)); omega) | (have := depL_mem (gI_mem (l := v.l) (i := i) hI.1 (by assumption)); omega)) (by first | exact hs3 _ (gI_mem (l := v.f) (i := i2) hI.1 (by assumption)) | exact hs2 _ (gI_mem (l := v.l) (i := i) hI.1 (by assumption))) (by omega)) rfl ?_
     refine an (by (first | omega | (simp only [List.length_append, List.length_cons, List.length_nil]; omega))) ?_
     refine an (by omega) ?_
     refine ⟨(s ++ (textF k (gI v.l i)), i + 1), ⟨rfl, rfl⟩, ?_, ?_⟩
     · try dsimp only
       exact ⟨by omega, by omega, by rw [hI.2.2, hst]; simp only [List.append_assoc, List.nil_append]⟩
     try dsimp only
     omega
   refine an (by (first | omega | (simp only [List.length_append, List.length_cons, List.length_nil]; omega))) ?_
   refine an (by (first | omega | (simp only [List.length_append, List.length_cons, List.length_nil]; omega))) ?_
   refine rt0 rfl fun _ => ?_
   show K (.str ((([91] : List UInt8) ++ s) ++ ([93] : List UInt8))) m
   have e2 : [91] ++ joinA (textF k) v.l true ++ [93] = [91] ++ s ++ [93] := by rw [hI.2.2, joinA_end (by omega), List.append_nil]
   rw [e2] at hK; exact hK
 refine an (fun h8 => ?_) (fun h8 => ?_)
 · have e : textF (k + 1) v = [123] ++ joinA (fun p : Str × Val => p.1 ++ [58, 32] ++ textF k p.2) v.f true ++ [125] := by rw [textF_x, if_neg (by omega), if_neg (by omega), if_neg (by omega), if_neg (by omega), if_neg (by omega), if_pos h8]
   rw [e] at hL hK
   try simp only [List.length_append, List.length_cons, List.length_nil] at hL
   refine sq ?_
   refine lp (σ := (List UInt8) × Int) [] [1, 5, 6] 1 (fun ⟨s, i2⟩ => ([(1, .loc 0 0), (5, vS s), (6, vI i2)], [.cells [vI v.kind, vI v.n, vS v.s, vL (v.l.map valIn), vL (v.f.map fldIn)]], m)) (fun ⟨s, i2⟩ => 0 ≤ i2 ∧ i2 ≤ v.f.length ∧ joinA (fun p : Str × Val => p.1 ++ [58, 32] ++ textF k p.2) v.f true = s ++ joinA (fun p : Str × Val => p.1 ++ [58, 32] ++ textF k p.2) (v.f.drop i2.toNat) (i2 == 0)) (fun ⟨s, i2⟩ => v.f.length - i2.toNat) ([], 0) ⟨rfl, rfl⟩ ?_ ?_
   · try dsimp only
     exact ⟨by omega, by omega, rfl⟩
   rintro ⟨s, i2⟩ hI
   dsimp only at hI
   have hj := congrArg List.length hI.2.2
   simp only [List.length_append, List.length_cons, List.length_nil] at hj
   refine sq ?_
   refine ln ?_
   refine an (fun h9 => ?_) (fun h9 => ?_)
   · refine sq ?_
     refine sq ?_
     refine an (fun h10 => ?_) (fun h10 => ?_)
     · have hst := joinA_1 (g := fun p : Str × Val => p.1 ++ [58, 32] ++ textF k p.2) hI.1 h9 h10
       have hsl := congrArg List.length hst
       simp only [List.length_append, List.length_cons, List.length_nil] at hsl
       refine an (by (first | omega | (simp only [List.length_append, List.length_cons, List.length_nil]; omega))) ?_
       refine ixg fldTop fldIn_eq (by omega) ?_
       refine an (by (first | omega | (simp only [List.length_append, List.length_cons, List.length_nil]; omega))) ?_
       refine an (by (first | omega | (simp only [List.length_append, List.length_cons, List.length_nil]; omega))) ?_
       refine ixg fldTop fldIn_eq (by omega) ?_
       refine pure0 (fun _ => ih ((gI v.f i2).2) (by have := depV_eq v; first | (have := depF_mem (gI_mem (l := v.f) (i := i2) hI.1 (by assumption)); omega) | (have := depL_mem (gI_mem (l := v.l) (i := i) hI.1 (by assumption)); omega)) (by first | exact hs3 _ (gI_mem (l := v.f) (i := i2) hI.1 (by assumption)) | exact hs2 _ (gI_mem (l := v.l) (i := i) hI.1 (by assumption))) (by omega)) ?_
       refine an (by (first | omega | (simp only [List.length_append, List.length_cons, List.length_nil]; omega))) ?_
       refine an (by omega) ?_
       refine ⟨((((s ++ ([44, 32] : List UInt8)) ++ ((gI v.f i2).1)) ++ ([58, 32] : List UInt8)) ++ (textF k ((gI v.f i2).2)), i2 + 1), ⟨rfl, rfl⟩, ?_, ?_⟩
       · try dsimp only
         exact ⟨by omega, by omega, by rw [hI.2.2, hst]; simp only [List.append_assoc, List.nil_append]⟩
       try dsimp only
       omega
     have hst := joinA_0 (g := fun p : Str × Val => p.1 ++ [58, 32] ++ textF k p.2) hI.1 h9 h10
     have hsl := congrArg List.length hst
     simp only [List.length_append, List.length_cons, List.length_nil] at hsl
     refine ixg fldTop fldIn_eq (by omega) ?_
     refine an (by (first | omega | (simp only [List.length_append, List.length_cons, List.length_nil]; omega))) ?_
     refine an (by (first | omega | (simp only [List.length_append, List.length_cons, List.length_nil]; omega))) ?_
     refine ixg fldTop fldIn_eq (by omega) ?_
     refine pure0 (fun _ => ih ((gI v.f i2).2) (by have := depV_eq v; first | (have := depF_mem (gI_mem (l := v.f) (i := i2) hI.1 (by assumption)); omega) | (have := depL_mem (gI_mem (l := v.l) (i := i) hI.1 (by assumption)); omega)) (by first | exact hs3 _ (gI_mem (l := v.f) (i := i2) hI.1 (by assumption)) | exact hs2 _ (gI_mem (l := v.l) (i := i) hI.1 (by assumption))) (by omega)) ?_
     refine an (by (first | omega | (simp only [List.length_append, List.length_cons, List.length_nil]; omega))) ?_
     refine an (by omega) ?_
     refine ⟨(((s ++ ((gI v.f i2).1)) ++ ([58, 32] : List UInt8)) ++ (textF k ((gI v.f i2).2)), i2 + 1), ⟨rfl, rfl⟩, ?_, ?_⟩
     · try dsimp only
       exact ⟨by omega, by omega, by rw [hI.2.2, hst]; simp only [List.append_assoc, List.nil_append]⟩
     try dsimp only
     omega
   refine an (by (first | omega | (simp only [List.length_append, List.length_cons, List.length_nil]; omega))) ?_
   refine an (by (first | omega | (simp only [List.length_append, List.length_cons, List.length_nil]; omega))) ?_
   refine rt0 rfl fun _ => ?_
   show K (.str ((([123] : List UInt8) ++ s) ++ ([125] : List UInt8))) m
   have e2 : [123] ++ joinA (fun p : Str × Val => p.1 ++ [58, 32] ++ textF k p.2) v.f true ++ [125] = [123] ++ s ++ [125] := by rw [hI.2.2, joinA_end (by omega), List.append_nil]
   rw [e2] at hK; exact hK
 refine rt0 rfl fun _ => ?_
 show K (.str ([110, 117, 108, 108] : List UInt8)) m
 have hk0 : v.kind = 0 := Classical.byContradiction fun h0 => shpOk_k hs1 ⟨h0, h1, h2, h3, h5, h8⟩
 have e : textF (k + 1) v = [110, 117, 108, 108] := by rw [textF_x, if_pos hk0]
 rw [e] at hK; exact hK
theorem u_RText : ∀ (k : Nat) (v : Val), depV v < k → shpF k v = true → (textF k v).length ≤ 1000000 → ∀ (m : AMem) (K : AV → AMem → Prop), K (.str (textF k v)) m → ACalls Tryz.prog 61 [valTop v] m K
  | 0, _, h => absurd h (Nat.not_lt_zero _)
  | k + 1, v, h => fun hs hL m K hK => u_RText1 k v (u_RText k) h hs hL m K hK
end Go.Proofs
end
section
namespace Go.Proofs
open Go Go.Aw
set_option maxRecDepth 100000
theorem u_same (e f : Int) (he : 0 ≤ e) (m : AMem)  (K : AV → AMem → Prop) (hK : K (.bool (e == f)) m) : ACalls Tryz.prog 13 [.err 115 e, .int .i64 f] m K := by
 refine acalls_enter Tryz.func13 rfl (by decide) (Nat.le_of_ble_eq_true rfl) ?_
 show AWP _ _ _ _ [(0, .err 115 e), (1, .int .i64 f)] m
 refine awp_reg2_seq [] [0, 1] (by decide) ?_
 intro K1 hK1
 refine ⟨trivial, ?_⟩
 show K1 [(0, .err 115 e), (1, .int .i64 f)] m
 refine hK1 _ _ ?_; clear hK1 K1
 refine awp_seq_k ?_; intro K2 hK2
 refine awp_reg2_seq [] [0, 1, 8] (by decide) ?_
 intro K1 hK1
 refine ⟨trivial, ⟨rfl, rfl⟩, ?_⟩
 show K1 [(0, .err 115 e), (1, .int .i64 f), (8, .bool (e == 0))] m
 refine hK1 _ _ ?_; clear hK1 K1
 refine awp_cond rfl rfl (fun h1 => ?_) (fun h1 => ?_)
 ·
  replace h1 : e = 0 := (eq_of_beq h1)
  refine awp_reg2_seq [] [4] (by decide) ?_
  intro K1 hK1
  refine ⟨trivial, trivial, trivial, ?_⟩
  show K1 [(4, .bool (f == 0))] m
  refine hK1 _ _ ?_; clear hK1 K1
  refine awp_ret ?_
  refine ⟨trivial, m, fun _ _ h => h, ?_⟩
  show K (.bool (f == 0)) m
 
  refine K_eq hK (congrArg AV.bool ?_)
  rw [Bool.eq_iff_iff]; simp; omega
 replace h1 : e ≠ 0 := (ne_of_beq_false h1)
 refine awp_skip ?_
 refine hK2 _ _ ?_; clear hK2
 refine awp_reg2_seq [] [1, 5, 6] (by decide) ?_
 intro K1 hK1
 refine ⟨trivial, rfl, trivial, (Nat.le_of_ble_eq_true rfl), (Nat.le_of_ble_eq_true rfl), trivial, trivial, ?_⟩
 show K1 [(1, .int .i64 f), (5, .int .i64 e), (6, .bool (!(e == 0)))] m
 refine hK1 _ _ ?_; clear hK1 K1
 refine awp_reg2_seq [] [4] (by decide) ?_
 intro K1 hK1
 suffices key : K1 [(4, .bool (((!(e == 0)) && (decide (0 < f))) && (e == f)))] m by
  refine ⟨trivial, trivial, ?_⟩
  show aopsR _ _ _ _ _ [(17, .bool (!(e == 0))), (16, .bool (!(e == 0))), (1, .int .i64 f), (5, .int .i64 e), (6, .bool (!(e == 0)))] _
  revert key
  cases h2 : (e == 0)
  ·
   replace h2 : e ≠ 0 := (ne_of_beq_false h2)
   intro key
   refine ⟨trivial, trivial, ?_⟩
   refine ⟨trivial, ?_⟩
   show aopsR _ _ _ _ _ [(21, .bool (decide (0 < f))), (20, .bool (decide (0 < f))), (19, .bool (decide (0 < f))), (18, .int .i64 f), (17, .bool true), (16, .bool true), (1, .int .i64 f), (5, .int .i64 e), (6, .bool true)] _
   revert key
   cases h3 : (decide (0 < f))
   ·
    replace h3 : f ≤ 0 := (Int.not_lt.1 (of_decide_eq_false h3))
    intro key
    refine ar_off rfl (ar_off rfl (ar_off rfl ?_))
    refine ⟨trivial, ?_⟩
    exact key
   ·
    replace h3 : 0 < f := (of_decide_eq_true h3)
    intro key
    refine ⟨trivial, trivial, trivial, ?_⟩
    refine ⟨trivial, ?_⟩
    exact key
  ·
   replace h2 : e = 0 := (eq_of_beq h2)
   intro key
   refine ar_off rfl (ar_off rfl ?_)
   refine ⟨trivial, ?_⟩
   refine ar_off rfl (ar_off rfl (ar_off rfl ?_))
   refine ⟨trivial, ?_⟩
   exact key
 refine hK1 _ _ ?_; clear hK1 K1
 refine awp_ret ?_
 refine ⟨trivial, m, fun _ _ h => h, ?_⟩
 show K (.bool (((!(e == 0)) && (decide (0 < f))) && (e == f))) m
 refine K_eq hK (congrArg AV.bool ?_)
 rw [Bool.eq_iff_iff]; simp; omega
end Go.Proofs
end
