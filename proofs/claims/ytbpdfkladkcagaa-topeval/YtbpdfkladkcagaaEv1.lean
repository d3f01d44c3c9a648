import Derived.Test.YtbpdfkladkcagaaProg
import Derived.Test.YtbpdfkladkcagaaWl4
import Derived.Test.YtbpdfkladkcagaaVa2
namespace Go.Proofs
open Go Go.Aw
set_option maxRecDepth 100000


/-- An expression, as data. -/
inductive Exp where
  | mk (kind : Int) (v : Val) (s t : Str) (a : List Exp) (n : List Str)
instance : Inhabited Exp := ⟨.mk 0 zV [] [] [] []⟩
def Exp.kind : Exp → Int | .mk k _ _ _ _ _ => k
def Exp.v : Exp → Val | .mk _ v _ _ _ _ => v
def Exp.s : Exp → Str | .mk _ _ s _ _ _ => s
def Exp.t : Exp → Str | .mk _ _ _ t _ _ => t
def Exp.a : Exp → List Exp | .mk _ _ _ _ a _ => a
def Exp.n : Exp → List Str | .mk _ _ _ _ _ n => n
mutual
def expIn : Exp → AV
  | .mk k v s t a n => .agg [.int .i64 k, .int .i64 v.kind, .int .i64 v.n, .str v.s, .slice false (v.l.map valIn), .slice false (v.f.map fldIn), .str s, .str t, .slice false (expsIn a), .slice false (n.map strAV)]
def expsIn : List Exp → List AV
  | [] => []
  | e :: r => expIn e :: expsIn r
end
theorem expsIn_eq (l : List Exp) : expsIn l = l.map expIn := by
  induction l with
  | nil => rfl
  | cons v r ih => simp only [expsIn, List.map_cons, ih]
def expTop (e : Exp) : AV := .agg [.int .i64 e.kind, .int .i64 e.v.kind, .int .i64 e.v.n, .str e.v.s, .slice false (e.v.l.map valIn), .slice false (e.v.f.map fldIn), .str e.s, .str e.t, .slice false (e.a.map expIn), .slice false (e.n.map strAV)]
theorem expIn_eq (e : Exp) : expIn e = expTop e := by
  cases e with
  | mk k v s t a n => simp only [expIn, expTop, expsIn_eq, Exp.kind, Exp.v, Exp.s, Exp.t, Exp.a, Exp.n]
theorem expMap (l : List Exp) : l.map expIn = l.map expTop := List.map_congr_left fun v _ => expIn_eq v
mutual
def depE : Exp → Nat
  | .mk _ _ _ _ a _ => depEL a + 1
def depEL : List Exp → Nat
  | [] => 0
  | e :: r => depE e + depEL r
end
theorem depEL_mem {l : List Exp} {e : Exp} (h : e ∈ l) : depE e ≤ depEL l := by
  induction l with
  | nil => cases h
  | cons a r ih =>
    simp only [depEL]
    rcases List.mem_cons.1 h with rfl | h
    · omega
    · have := ih h; omega
theorem depE_eq (e : Exp) : depE e = depEL e.a + 1 := by
  cases e with
  | mk k v s t a n => simp only [depE, Exp.a]
theorem depE_mem {e x : Exp} (h : x ∈ e.a) : depE x < depE e := by
  have := depEL_mem h
  rw [depE_eq e]; omega
/- No list in an expression is too long. -/
mutual
def okE : Exp → Prop
  | .mk _ v _ _ a _ => (okV v ∧ a.length ≤ 837723144972) ∧ okEL a
def okEL : List Exp → Prop
  | [] => True
  | e :: r => okE e ∧ okEL r
end
theorem okEL_iff (l : List Exp) : okEL l ↔ ∀ e ∈ l, okE e := by
  induction l with
  | nil => simp [okEL]
  | cons v r ih => simp [okEL, ih]
theorem okE_iff (e : Exp) : okE e ↔ (okV e.v ∧ e.a.length ≤ 837723144972) ∧ ∀ x ∈ e.a, okE x := by
  cases e with
  | mk k v s t a n => simp only [okE, okEL_iff, Exp.v, Exp.a]
/- The load of an expression. -/
def namesL (most : Int) : List Str → Int → Int
  | [], n => n
  | s :: r, n => if n ≤ most then namesL most r (IntKind.i64.wrap (n + s.length)) else n
mutual
def loadE (most : Int) : Exp → Int
  | .mk _ v s t a ns => loadL most a (namesL most ns (IntKind.i64.wrap (IntKind.i64.wrap (1 + s.length + t.length + weightV most v) + ns.length)))
def loadL (most : Int) : List Exp → Int → Int
  | [], n => n
  | e :: r, n => if n ≤ most then loadL most r (IntKind.i64.wrap (n + loadE most e)) else n
end
def loadN (most : Int) (e : Exp) : Int := IntKind.i64.wrap (IntKind.i64.wrap (1 + e.s.length + e.t.length + weightV most e.v) + e.n.length)
theorem loadE_eq (most : Int) (e : Exp) : loadE most e = loadL most e.a (namesL most e.n (loadN most e)) := by
  cases e with
  | mk k v s t a n => simp only [loadE, loadN, Exp.a, Exp.n, Exp.s, Exp.t, Exp.v]
theorem loadL_stop (most : Int) (l : List Exp) (n : Int) (h : most < n) : loadL most l n = n := by
  cases l with
  | nil => simp only [loadL]
  | cons v r => simp only [loadL]; rw [if_neg (by omega)]
theorem namesL_stop (most : Int) (l : List Str) (n : Int) (h : most < n) : namesL most l n = n := by
  cases l with
  | nil => simp only [namesL]
  | cons v r => simp only [namesL]; rw [if_neg (by omega)]
theorem namesL_drop {most : Int} {l : List Str} {i n : Int} (h0 : 0 ≤ i) (hi : i < l.length) (hn : n ≤ most) : namesL most (l.drop i.toNat) n = namesL most (l.drop (i + 1).toNat) (IntKind.i64.wrap (n + (gI l i).length)) := by
  rw [drop_gI h0 hi, namesL, if_pos hn]
theorem loadL_drop {most : Int} {l : List Exp} {i n : Int} (h0 : 0 ≤ i) (hi : i < l.length) (hn : n ≤ most) : loadL most (l.drop i.toNat) n = loadL most (l.drop (i + 1).toNat) (IntKind.i64.wrap (n + loadE most (gI l i))) := by
  rw [drop_gI h0 hi, loadL, if_pos hn]
/-- The weights of fields: none, if there are too many. -/
def lightFF : List (Str × Val) → Int → Bool
  | [], _ => true
  | p :: r, n => if 3000 < IntKind.i64.wrap (IntKind.i64.wrap (n + p.1.length) + weightV 3000 p.2) then false else lightFF r (IntKind.i64.wrap (IntKind.i64.wrap (n + p.1.length) + weightV 3000 p.2))
def lightFs (l : List (Str × Val)) : Bool := if 12 < (l.length : Int) then false else lightFF l 0
theorem lightFF_drop {l : List (Str × Val)} {i n : Int} (h0 : 0 ≤ i) (hi : i < l.length) : lightFF (l.drop i.toNat) n = if 3000 < IntKind.i64.wrap (IntKind.i64.wrap (n + (gI l i).1.length) + weightV 3000 (gI l i).2) then false else lightFF (l.drop (i + 1).toNat) (IntKind.i64.wrap (IntKind.i64.wrap (n + (gI l i).1.length) + weightV 3000 (gI l i).2)) := by
  rw [drop_gI h0 hi, lightFF]
/-- What is there by a name. -/
def namedR (o : Option Val) : Val × Int := if o.isSome = true then (o.getD zV, 0) else (zV, 7)
/-- What is handed on only if it may be. -/
def fin (r : Val × Int) : Val × Int := if r.2 = 0 then (if chk r.1 = 0 then (r.1, 0) else (zV, chk r.1)) else (zV, r.2)
def allE {α : Type} (g : α → Val × Int) : List α → Int
  | [] => 0
  | x :: r => if (g x).2 = 0 then allE g r else (g x).2
theorem allE_drop {α : Type} [Inhabited α] {g : α → Val × Int} {l : List α} {i : Int} (h0 : 0 ≤ i) (hi : i < l.length) : allE g (l.drop i.toNat) = if (g (gI l i)).2 = 0 then allE g (l.drop (i + 1).toNat) else (g (gI l i)).2 := by
  rw [drop_gI h0 hi, allE]
def plusR (a b : Val) : Val × Int :=
  if a.kind ≠ b.kind then (zV, 9)
  else if a.kind = 1 then (if a.n + b.n > 1000000000 ∨ a.n + b.n < -1000000000 then (zV, 1) else (.mk 1 (a.n + b.n) [] [] [], 0))
  else if a.kind = 2 then (if (a.s.length : Int) + b.s.length > 40 then (zV, 1) else (.mk 2 0 (a.s ++ b.s) [] [], 0))
  else if a.kind = 4 then (.mk 4 0 [] (a.l ++ b.l) [], 0)
  else (zV, 9)
noncomputable def joinR (e : Exp) (l : List Val) : Val × Int :=
  if e.kind = 5 ∧ (l.length : Int) = 2 then plusR (gI l 0) (gI l 1)
  else if e.kind = 6 ∧ (l.length : Int) = 2 then (.mk 3 (if vEq (gI l 0) (gI l 1) = true then 1 else 0) [] [] [], 0)
  else if e.kind = 8 then (.mk 4 0 [] l [], 0)
  else if e.kind = 9 ∧ (e.n.length : Int) = l.length then (.mk 5 0 [] [] (e.n.zip l), 0)
  else if e.kind = 10 ∧ (l.length : Int) = 1 then (if (gI l 0).kind ≠ 5 then (zV, 9) else namedR (mget (gI l 0).f e.s))
  else (zV, 3)
abbrev VMap := List (Str × Val)
/-- What an expression is. -/
noncomputable def evF (en rs : VMap) : Nat → Exp → Val × Int
  | 0, _ => (zV, 0)
  | k + 1, e =>
    if e.kind = 1 then (e.v, 0)
    else if e.kind = 2 then namedR (mget en e.s)
    else if e.kind = 3 then (if (mget rs e.s).isSome = true then namedR (mget ((mget rs e.s).getD zV).f e.t) else (zV, 7))
    else if e.kind = 4 then (zV, 7)
    else if e.kind = 7 then
      (if (e.a.length : Int) ≠ 3 then (zV, 3)
       else if (fin (evF en rs k (gI e.a 0))).2 ≠ 0 then (zV, (fin (evF en rs k (gI e.a 0))).2)
       else if (fin (evF en rs k (gI e.a 0))).1.kind ≠ 3 then (zV, 9)
       else evF en rs k (gI e.a (2 - (fin (evF en rs k (gI e.a 0))).1.n)))
    else if allE (fun x => fin (evF en rs k x)) e.a ≠ 0 then (zV, allE (fun x => fin (evF en rs k x)) e.a)
    else joinR e (e.a.map fun x => (fin (evF en rs k x)).1)
theorem fin_ok {r : Val × Int} (h : (fin r).2 = 0) : chk (fin r).1 = 0 := by
  unfold fin at h ⊢
  split
  · split
    · rename_i h2; exact h2
    · rename_i h1 h2; rw [if_pos h1, if_neg h2] at h; exact absurd h h2
  · rename_i h1; rw [if_neg h1] at h; exact absurd h h1
theorem chk_cnt {v : Val} (h : chk v = 0) : depV v ≤ 60 ∧ shpF (depV v + 1) v = true := by
  unfold chk at h
  split at h
  · rename_i h1
    have q := cntF_ok _ _ _ _ (by omega) h1
    exact ⟨by omega, shE_t h⟩
  · simp at h
theorem chk_shp {v : Val} (h : chk v = 0) : shpOk v = true := by
  have q := (chk_cnt h).2
  rw [shpF] at q
  simp only [Bool.and_eq_true] at q
  exact q.1.1
theorem chk_okV {v : Val} (h : chk v = 0) : okV v := okV_small (depV v + 1) v (Nat.lt_succ_self _) (by have := (chk_cnt h).1; omega)
theorem chk_len {v : Val} (h : chk v = 0) : v.l.length ≤ 60 := by
  have q := (chk_cnt h).1
  have := depV_eq v
  have := depL_len v.l
  omega
theorem chk_num {v : Val} (h : chk v = 0) (hk : v.kind = 1) : -1000000000 ≤ v.n ∧ v.n ≤ 1000000000 := by
  have q := chk_shp h
  simp [shpOk, hk] at q
  omega
theorem chk_flag {v : Val} (h : chk v = 0) (hk : v.kind = 3) : 0 ≤ v.n ∧ v.n ≤ 1 := by
  have q := chk_shp h
  simp [shpOk, hk] at q
  omega
theorem allE_ok {α : Type} {g : α → Val × Int} {l : List α} (h : allE g l = 0) : ∀ x ∈ l, (g x).2 = 0 := by
  induction l with
  | nil => intro x hx; cases hx
  | cons a r ih =>
    rw [allE] at h
    split at h
    · rename_i h1
      intro x hx
      rcases List.mem_cons.1 hx with rfl | hx
      · exact h1
      · exact ih h x hx
    · rename_i h1; exact absurd h h1
theorem allE_congr {α : Type} {g g' : α → Val × Int} {l : List α} (h : ∀ x ∈ l, g x = g' x) : allE g l = allE g' l := by
  induction l with
  | nil => rfl
  | cons a r ih => rw [allE, allE, h a (List.mem_cons_self ..), ih fun x hx => h x (List.mem_cons_of_mem _ hx)]
/-- Does an expression name an input? -/
def namesF (name : Str) : Nat → Exp → Bool
  | 0, _ => false
  | k + 1, e => ((e.kind == 2) && (e.s == name)) || e.a.any (namesF name k)
theorem namesF_drop {name : Str} {k : Nat} {l : List Exp} {i : Int} (h0 : 0 ≤ i) (hi : i < l.length) : (l.drop i.toNat).any (namesF name k) = (namesF name k (gI l i) || (l.drop (i + 1).toNat).any (namesF name k)) := by
  rw [drop_gI h0 hi, List.any_cons]
/-- WHAT IS NOT NAMED TELLS NOTHING. -/
theorem evF_free (en en' rs : VMap) (name : Str) (h : ∀ s, s ≠ name → mget en s = mget en' s) : ∀ (k : Nat) (e : Exp), namesF name k e = false → evF en rs k e = evF en' rs k e
  | 0, _, _ => rfl
  | k + 1, e, hn => by
    rw [namesF, Bool.or_eq_false_iff] at hn
    have ha : ∀ x ∈ e.a, evF en rs k x = evF en' rs k x := fun x hx => evF_free en en' rs name h k x (by
      have := hn.2
      rw [List.any_eq_false] at this
      exact Bool.eq_false_iff.2 (this x hx))
    have hf : ∀ x ∈ e.a, fin (evF en rs k x) = fin (evF en' rs k x) := fun x hx => by rw [ha x hx]
    have hall := allE_congr hf
    have hmap : (e.a.map fun x => (fin (evF en rs k x)).1) = e.a.map fun x => (fin (evF en' rs k x)).1 := List.map_congr_left fun x hx => by rw [hf x hx]
    rw [evF, evF, hall, hmap]
    by_cases h2 : e.kind = 2
    · have : e.s ≠ name := by
        intro hs
        have := hn.1
        simp [h2, hs] at this
      rw [h _ this, if_neg (show ¬ e.kind = 1 by omega), if_pos h2, if_neg (show ¬ e.kind = 1 by omega), if_pos h2]
    · rw [if_neg h2, if_neg h2]
      by_cases h3 : (e.a.length : Int) ≠ 3
      · simp only [if_pos h3]
      · have h3' : e.a.length = 3 := by omega
        rw [ha _ (gI_mem (l := e.a) (i := 0) (by omega) (by omega))]
        by_cases h7 : (fin (evF en' rs k (gI e.a 0))).2 ≠ 0
        · simp only [if_pos h7]
        · by_cases h9 : (fin (evF en' rs k (gI e.a 0))).1.kind ≠ 3
          · simp only [if_pos h9]
          · have hc := chk_flag (fin_ok (Decidable.not_not.1 h7)) (Decidable.not_not.1 h9)
            rw [ha _ (gI_mem (l := e.a) (i := 2 - (fin (evF en' rs k (gI e.a 0))).1.n) (by omega) (by omega))]
/-- Things by their names. -/
def envOf (l : List (Str × Val)) : VMap := l.foldl (fun m p => mput m p.1 p.2) []
def namedB (v : Val) (is : Bool) : Val × Int := if is = true then (v, 0) else (zV, 7)
theorem okV_zV : okV zV := okV_small 2 zV (by decide) (by decide)
theorem mget_mem {κ ν : Type} [DecidableEq κ] : ∀ {l : List (κ × ν)} {k : κ} {v : ν}, mget l k = some v → (k, v) ∈ l
  | [], _, _, h => by cases h
  | (a, b) :: r, k, v, h => by
    rw [mget] at h
    split at h
    · rename_i e
      cases h; rw [e]; exact List.mem_cons_self ..
    · exact List.mem_cons_of_mem _ (mget_mem h)
theorem okV_get {l : VMap} (h : ∀ p ∈ l, okV p.2) (s : Str) : okV ((mget l s).getD zV) := by
  cases e : mget l s with
  | none => exact okV_zV
  | some v => exact h _ (mget_mem e)
theorem gI_zip {α β : Type} [Inhabited α] [Inhabited β] {a : List α} {b : List β} {i : Int} (h0 : 0 ≤ i) (h1 : i < a.length) (h2 : i < b.length) : gI (a.zip b) i = (gI a i, gI b i) := by
  have q1 : i.toNat < a.length := by omega
  have q2 : i.toNat < b.length := by omega
  have q : (a.zip b)[i.toNat]? = some (a[i.toNat], b[i.toNat]) := by
    rw [List.getElem?_eq_getElem (by rw [List.length_zip]; omega), List.getElem_zip]
  simp only [gI, List.getD_eq_getElem?_getD, q, List.getElem?_eq_getElem q1, List.getElem?_eq_getElem q2, Option.getD_some]
noncomputable def gE (en rs : VMap) (k : Nat) (x : Exp) : Val × Int := fin (evF en rs k x)
def allL {α : Type} (g : α → Val × Int) (l : List α) : List Val := if allE g l = 0 then l.map (fun x => (g x).1) else []
theorem allL_ok {α : Type} {g : α → Val × Int} {l : List α} (hg : ∀ x, (g x).2 = 0 → chk (g x).1 = 0) : ∀ v ∈ allL g l, chk v = 0 := by
  intro v hv
  unfold allL at hv
  split at hv
  · rename_i h
    obtain ⟨x, hx, rfl⟩ := List.mem_map.1 hv
    exact hg x (allE_ok h x hx)
  · cases hv
theorem allL_len {α : Type} (g : α → Val × Int) (l : List α) : (allL g l).length ≤ l.length := by
  unfold allL
  split
  · rw [List.length_map]; exact Nat.le_refl _
  · exact Nat.zero_le _
section
variable {en rs : VMap} {k : Nat} {e : Exp}
theorem evF_1 (h : e.kind = 1) : evF en rs (k + 1) e = (e.v, 0) := by rw [evF, if_pos h]
theorem evF_2 (h : e.kind = 2) : evF en rs (k + 1) e = namedB ((mget en e.s).getD zV) (mget en e.s).isSome := by
  rw [evF, if_neg (by omega), if_pos h]; rfl
theorem evF_30 (h : e.kind = 3) (h2 : (mget rs e.s).isSome = false) : evF en rs (k + 1) e = (zV, 7) := by
  rw [evF, if_neg (by omega), if_neg (by omega), if_pos h, if_neg (by rw [h2]; simp)]
theorem evF_31 (h : e.kind = 3) (h2 : (mget rs e.s).isSome = true) : evF en rs (k + 1) e = namedB ((mget ((mget rs e.s).getD zV).f e.t).getD zV) (mget ((mget rs e.s).getD zV).f e.t).isSome := by
  rw [evF, if_neg (by omega), if_neg (by omega), if_pos h, if_pos h2]; rfl
theorem evF_4 (h : e.kind = 4) : evF en rs (k + 1) e = (zV, 7) := by
  rw [evF, if_neg (by omega), if_neg (by omega), if_neg (by omega), if_pos h]
theorem evF_70 (h : e.kind = 7) (h2 : (e.a.length : Int) ≠ 3) : evF en rs (k + 1) e = (zV, 3) := by
  rw [evF, if_neg (by omega), if_neg (by omega), if_neg (by omega), if_neg (by omega), if_pos h, if_pos h2]
theorem evF_71 (h : e.kind = 7) (h2 : (e.a.length : Int) = 3) (h3 : (gE en rs k (gI e.a 0)).2 ≠ 0) : evF en rs (k + 1) e = (zV, (gE en rs k (gI e.a 0)).2) := by
  simp only [gE] at h3 ⊢
  rw [evF, if_neg (by omega), if_neg (by omega), if_neg (by omega), if_neg (by omega), if_pos h, if_neg (by omega), if_pos h3]
theorem evF_72 (h : e.kind = 7) (h2 : (e.a.length : Int) = 3) (h3 : (gE en rs k (gI e.a 0)).2 = 0) (h4 : (gE en rs k (gI e.a 0)).1.kind ≠ 3) : evF en rs (k + 1) e = (zV, 9) := by
  simp only [gE] at h3 h4 ⊢
  rw [evF, if_neg (by omega), if_neg (by omega), if_neg (by omega), if_neg (by omega), if_pos h, if_neg (by omega), if_neg (not_not_intro h3), if_pos h4]
theorem evF_73 (h : e.kind = 7) (h2 : (e.a.length : Int) = 3) (h3 : (gE en rs k (gI e.a 0)).2 = 0) (h4 : (gE en rs k (gI e.a 0)).1.kind = 3) : evF en rs (k + 1) e = evF en rs k (gI e.a (2 - (gE en rs k (gI e.a 0)).1.n)) := by
  simp only [gE] at h3 h4 ⊢
  rw [evF, if_neg (by omega), if_neg (by omega), if_neg (by omega), if_neg (by omega), if_pos h, if_neg (by omega), if_neg (not_not_intro h3), if_neg (not_not_intro h4)]
theorem evF_80 (h1 : e.kind ≠ 1) (h2 : e.kind ≠ 2) (h3 : e.kind ≠ 3) (h4 : e.kind ≠ 4) (h7 : e.kind ≠ 7) (h : allE (gE en rs k) e.a ≠ 0) : evF en rs (k + 1) e = (zV, allE (gE en rs k) e.a) := by
  rw [show gE en rs k = fun x => fin (evF en rs k x) from rfl] at h ⊢
  rw [evF, if_neg h1, if_neg h2, if_neg h3, if_neg h4, if_neg h7, if_pos h]
theorem evF_81 (h1 : e.kind ≠ 1) (h2 : e.kind ≠ 2) (h3 : e.kind ≠ 3) (h4 : e.kind ≠ 4) (h7 : e.kind ≠ 7) (h : allE (gE en rs k) e.a = 0) : evF en rs (k + 1) e = joinR e (allL (gE en rs k) e.a) := by
  rw [show gE en rs k = fun x => fin (evF en rs k x) from rfl] at h ⊢
  rw [evF, if_neg h1, if_neg h2, if_neg h3, if_neg h4, if_neg h7, if_neg (not_not_intro h), allL, if_pos h]
end
theorem envOf_len (l : List (Str × Val)) : (envOf l).length ≤ l.length := by
  have : ∀ (l : List (Str × Val)) (m : VMap), (l.foldl (fun m p => mput m p.1 p.2) m).length ≤ m.length + l.length := by
    intro l
    induction l with
    | nil => intro m; simp
    | cons p r ih =>
      intro m
      have h1 := ih (mput m p.1 p.2)
      have h2 := mput_len m p.1 p.2
      simp only [List.foldl_cons, List.length_cons]; omega
  have := this l []
  simpa [envOf] using this
theorem envOf_snoc (l : List (Str × Val)) (p : Str × Val) : envOf (l ++ [p]) = mput (envOf l) p.1 p.2 := by
  simp [envOf, List.foldl_append]
theorem mput_mem {κ ν : Type} [DecidableEq κ] : ∀ {l : List (κ × ν)} {k : κ} {v : ν} {q : κ × ν}, q ∈ mput l k v → q = (k, v) ∨ q ∈ l
  | [], k, v, q, h => by simpa [mput] using h
  | (a, b) :: r, k, v, q, h => by
    rw [mput] at h
    split at h
    · rcases List.mem_cons.1 h with h | h
      · exact .inl h
      · exact .inr (List.mem_cons_of_mem _ h)
    · rcases List.mem_cons.1 h with h | h
      · exact .inr (h ▸ List.mem_cons_self ..)
      · exact (mput_mem h).imp id (List.mem_cons_of_mem _)
theorem envOf_ok (l : List (Str × Val)) (h : ∀ p ∈ l, okV p.2) : ∀ p ∈ envOf l, okV p.2 := by
  have : ∀ (l : List (Str × Val)) (m : VMap), (∀ p ∈ l, okV p.2) → (∀ p ∈ m, okV p.2) → ∀ p ∈ l.foldl (fun m p => mput m p.1 p.2) m, okV p.2 := by
    intro l
    induction l with
    | nil => intro m _ hm; exact hm
    | cons p r ih =>
      intro m hl hm
      refine ih _ (fun q hq => hl q (List.mem_cons_of_mem _ hq)) fun q hq => ?_
      rcases mput_mem hq with rfl | hq
      · exact hl p (List.mem_cons_self ..)
      · exact hm q hq
  exact this l [] h (fun p hp => by cases hp)
theorem mget_mput_ne {κ ν : Type} [DecidableEq κ] : ∀ (l : List (κ × ν)) (k k' : κ) (v : ν), k' ≠ k → mget (mput l k v) k' = mget l k'
  | [], k, k', v, h => by simp [mput, mget, Ne.symm h]
  | (a, b) :: r, k, k', v, h => by
    rw [mput]
    split
    · rename_i e
      rw [mget, mget, if_neg (Ne.symm h), if_neg (e ▸ Ne.symm h)]
    · rw [mget, mget, mget_mput_ne r k k' v h]
abbrev valO (v : Val) : AObj := .cells [.int .i64 v.kind, .int .i64 v.n, .str v.s, .slice false (v.l.map valIn), .slice false (v.f.map fldIn)]
abbrev expO (e : Exp) : AObj := .cells [.int .i64 e.kind, .int .i64 e.v.kind, .int .i64 e.v.n, .str e.v.s, .slice false (e.v.l.map valIn), .slice false (e.v.f.map fldIn), .str e.s, .str e.t, .slice false (e.a.map expIn), .slice false (e.n.map strAV)]
abbrev zO : AObj := .cells [.int .i64 0, .int .i64 0, .str [], .slice true [], .slice true []]
abbrev vmO (l : VMap) : AObj := .map (List.map (mapAV strAV valTop) l)
abbrev nmO : AObj := .map (List.map (mapAV strAV (fun _ : Unit => AV.nilmap)) ([] : List (Str × Unit)))

set_option maxHeartbeats 4000000 in
theorem u_load1 (e : Exp) (most : Int) (ih : ∀ x : Exp, depE x < depE e → ∀ (m : AMem) (K : AV → AMem → Prop), K (.int .i64 (loadE most x)) m → ACalls Try.prog 18 [expTop x, .int .i64 most] m K) (m : AMem)  (K : AV → AMem → Prop) (hK : K (.int .i64 (loadE most e)) m) : ACalls Try.prog 18 [expTop e, .int .i64 most] m K := by
 refine acalls_enter Try.func18 rfl (by decide) (Nat.le_of_ble_eq_true rfl) ?_
 refine awp_bd 0 (x := expTop e) rfl (fun hbd0 => ?_)
 have hbd0_3 : e.v.s.length ≤ 140737488355328 := (hbd0 3 (Nat.le_of_ble_eq_true rfl))
 have hbd0_4 : e.v.l.length ≤ 140737488355328 := bd_map (hbd0 4 (Nat.le_of_ble_eq_true rfl))
 have hbd0_5 : e.v.f.length ≤ 140737488355328 := bd_map (hbd0 5 (Nat.le_of_ble_eq_true rfl))
 have hbd0_6 : e.s.length ≤ 140737488355328 := (hbd0 6 (Nat.le_of_ble_eq_true rfl))
 have hbd0_7 : e.t.length ≤ 140737488355328 := (hbd0 7 (Nat.le_of_ble_eq_true rfl))
 have hbd0_8 : e.a.length ≤ 140737488355328 := bd_map (hbd0 8 (Nat.le_of_ble_eq_true rfl))
 have hbd0_9 : e.n.length ≤ 140737488355328 := bd_map (hbd0 9 (Nat.le_of_ble_eq_true rfl))
 show AWP _ _ _ _ [(0, expTop e), (1, .int .i64 most)] m
 refine awp_reg2_seq [] [1, 2] (by decide) ?_
 intro K1 hK1
 refine ar_box rfl (m := m) (L := []) (v := expTop e) (by rfl) rfl ?_
 intro b1 hb1
 have hFb1 : m b1 = none := wth_none (m := m) (L := []) hb1
 have hNb1 : ([b1] : List Nat).Nodup := wth_nodup (m := m) (L := []) hb1 List.nodup_nil
 refine ⟨trivial, ?_⟩
 show K1 [(1, .int .i64 most), (2, .ptr ⟨b1, 0, none⟩)] (AMem.wth m [(b1, .cells [.int .i64 e.kind, .int .i64 e.v.kind, .int .i64 e.v.n, .str e.v.s, .slice false (e.v.l.map valIn), .slice false (e.v.f.map fldIn), .str e.s, .str e.t, .slice false (e.a.map expIn), .slice false (e.n.map strAV)])])
 refine hK1 _ _ ?_; clear hK1 K1
 refine awp_draw_seq Try.mixed [(.int .i64 (weightV most e.v))] [1, 2, 5] (by decide) (by decide) ?_
 intro K1 hK1
 refine ⟨⟨rfl, by decide⟩, ?_⟩
 refine pq_loadp rfl (v := .str e.s) rfl (wth_get 0 hNb1 rfl) (apartOk_one rfl rfl (Nat.le_of_ble_eq_true rfl)) rfl ?_
 refine ⟨trivial, ?_⟩
 refine pq_add rfl (a := 1) (b := (e.s.length : Int)) rfl rfl (by omega) (by omega) ?_
 refine ⟨⟨rfl, by decide⟩, ?_⟩
 refine pq_loadp rfl (v := .str e.t) rfl (wth_get 0 hNb1 rfl) (apartOk_one rfl rfl (Nat.le_of_ble_eq_true rfl)) rfl ?_
 refine ⟨trivial, ?_⟩
 refine pq_add rfl (a := 1 + (e.s.length : Int)) (b := (e.t.length : Int)) rfl rfl (by omega) (by omega) ?_
 refine ⟨⟨rfl, by decide⟩, ?_⟩
 refine pq_loadp rfl (v := .agg [.int .i64 e.v.kind, .int .i64 e.v.n, .str e.v.s, .slice false (e.v.l.map valIn), .slice false (e.v.f.map fldIn)]) rfl (wth_get 0 hNb1 rfl) (apartOk_agg rfl rfl (Nat.le_of_ble_eq_true rfl)) rfl ?_
 refine ⟨trivial, (fun Kc hKc => u_weight most (depV e.v + 1) e.v (Nat.lt_succ_self _) _ Kc hKc), trivial, ⟨rfl, by decide⟩, ?_⟩
 refine pq_loadp rfl (v := .slice false (e.n.map strAV)) rfl (wth_get 0 hNb1 rfl) (apartOk_one rfl rfl (Nat.le_of_ble_eq_true rfl)) rfl ?_
 refine pq_len rfl strAV e.n rfl rfl rfl ?_
 refine ⟨trivial, trivial, ?_⟩
 show K1 [(1, .int .i64 most), (2, .ptr ⟨b1, 0, none⟩), (5, .int .i64 (IntKind.i64.wrap ((IntKind.i64.wrap (((1 + (e.s.length : Int)) + (e.t.length : Int)) + (weightV most e.v))) + (e.n.length : Int))))] (AMem.wth m [(b1, .cells [.int .i64 e.kind, .int .i64 e.v.kind, .int .i64 e.v.n, .str e.v.s, .slice false (e.v.l.map valIn), .slice false (e.v.f.map fldIn), .str e.s, .str e.t, .slice false (e.a.map expIn), .slice false (e.n.map strAV)])])
 refine hK1 _ _ ?_; clear hK1 K1
 refine awp_seq_k ?_; intro K2 hK2
 refine awp_reg2_seq [] [1, 2, 5, 6] (by decide) ?_
 intro K1 hK1
 refine ⟨trivial, ?_⟩
 show K1 [(1, .int .i64 most), (2, .ptr ⟨b1, 0, none⟩), (5, .int .i64 (IntKind.i64.wrap ((IntKind.i64.wrap (((1 + (e.s.length : Int)) + (e.t.length : Int)) + (weightV most e.v))) + (e.n.length : Int)))), (6, .int .i64 0)] (AMem.wth m [(b1, .cells [.int .i64 e.kind, .int .i64 e.v.kind, .int .i64 e.v.n, .str e.v.s, .slice false (e.v.l.map valIn), .slice false (e.v.f.map fldIn), .str e.s, .str e.t, .slice false (e.a.map expIn), .slice false (e.n.map strAV)])])
 refine hK1 _ _ ?_; clear hK1 K1
 refine awp_block ?_
 refine awp_keep [1, 2, 5, 6] (by decide) ?_
 refine awp_loop_st (σ := Int × Int) (fun ⟨n_, i⟩ => [(1, .int .i64 most), (2, .ptr ⟨b1, 0, none⟩), (5, .int .i64 n_), (6, .int .i64 i)]) (fun _ => (AMem.wth m [(b1, .cells [.int .i64 e.kind, .int .i64 e.v.kind, .int .i64 e.v.n, .str e.v.s, .slice false (e.v.l.map valIn), .slice false (e.v.f.map fldIn), .str e.s, .str e.t, .slice false (e.a.map expIn), .slice false (e.n.map strAV)])])) (fun ⟨n_, i⟩ => 0 ≤ i ∧ i ≤ e.n.length ∧ namesL most e.n (loadN most e) = namesL most (e.n.drop i.toNat) n_) (fun ⟨n_, i⟩ => e.n.length - i.toNat) (IntKind.i64.wrap ((IntKind.i64.wrap (((1 + (e.s.length : Int)) + (e.t.length : Int)) + (weightV most e.v))) + (e.n.length : Int)), 0) rfl rfl ?_ ?_
 ·
  show 0 ≤ ((0 : Int)) ∧ ((0 : Int)) ≤ e.n.length ∧ namesL most e.n (loadN most e) = namesL most (e.n.drop ((0 : Int)).toNat) ((IntKind.i64.wrap ((IntKind.i64.wrap (((1 + (e.s.length : Int)) + (e.t.length : Int)) + (weightV most e.v))) + (e.n.length : Int)) : Int))
  exact ⟨by omega, by omega, rfl⟩
 rintro ⟨n_, i⟩ hI
 replace hI : 0 ≤ i ∧ i ≤ e.n.length ∧ namesL most e.n (loadN most e) = namesL most (e.n.drop i.toNat) n_ := hI
 show AWP _ _ _ _ [(1, .int .i64 most), (2, .ptr ⟨b1, 0, none⟩), (5, .int .i64 n_), (6, .int .i64 i)] (AMem.wth m [(b1, .cells [.int .i64 e.kind, .int .i64 e.v.kind, .int .i64 e.v.n, .str e.v.s, .slice false (e.v.l.map valIn), .slice false (e.v.f.map fldIn), .str e.s, .str e.t, .slice false (e.a.map expIn), .slice false (e.n.map strAV)])])
 refine awp_seq_k ?_; intro K3 hK3
 refine awp_reg2_seq [] [1, 2, 5, 6, 34] (by decide) ?_
 intro K1 hK1
 suffices key : K1 [(1, .int .i64 most), (2, .ptr ⟨b1, 0, none⟩), (5, .int .i64 n_), (6, .int .i64 i), (34, .bool ((decide (i < (e.n.length : Int))) && (decide (n_ ≤ most))))] (AMem.wth m [(b1, .cells [.int .i64 e.kind, .int .i64 e.v.kind, .int .i64 e.v.n, .str e.v.s, .slice false (e.v.l.map valIn), .slice false (e.v.f.map fldIn), .str e.s, .str e.t, .slice false (e.a.map expIn), .slice false (e.n.map strAV)])]) by
  refine ⟨trivial, ⟨rfl, by decide⟩, ?_⟩
  refine ar_loadp rfl (v := .slice false (e.n.map strAV)) rfl (wth_get 0 hNb1 rfl) rfl (apartOk_one rfl rfl (Nat.le_of_ble_eq_true rfl)) rfl ?_
  refine ar_len rfl strAV e.n rfl rfl rfl ?_
  refine ⟨trivial, trivial, ?_⟩
  show aopsR _ _ _ _ _ [(30, .bool (decide (i < (e.n.length : Int)))), (29, .bool (decide (i < (e.n.length : Int)))), (28, .int .i64 (e.n.length : Int)), (27, .slice false (e.n.map strAV)), (26, .ptr ⟨b1, 9, none⟩), (25, .int .i64 i), (1, .int .i64 most), (2, .ptr ⟨b1, 0, none⟩), (5, .int .i64 n_), (6, .int .i64 i)] _
  revert key
  cases h1 : (decide (i < (e.n.length : Int)))
  ·
   replace h1 : (e.n.length : Int) ≤ i := (Int.not_lt.1 (of_decide_eq_false h1))
   intro key
   refine ar_off rfl (ar_off rfl (ar_off rfl ?_))
   exact key
  ·
   replace h1 : i < (e.n.length : Int) := (of_decide_eq_true h1)
   intro key
   refine ⟨trivial, trivial, trivial, ?_⟩
   exact key
 refine hK1 _ _ ?_; clear hK1 K1
 refine awp_cond rfl rfl (fun h2 => ?_) (fun h2 => ?_)
 ·
  replace h2 : (i < (e.n.length : Int)) ∧ (n_ ≤ most) := ⟨(of_decide_eq_true (bandL h2)), (of_decide_eq_true (bandR h2))⟩
  refine awp_skip ?_
  refine hK3 _ _ ?_; clear hK3
  refine awp_seq_k ?_; intro K4 hK4
  refine awp_block ?_
  refine awp_reg2 [] [1, 2, 5, 6] (by decide) ?_
  intro K1 hK1
  refine ⟨trivial, ⟨rfl, by decide⟩, ?_⟩
  refine ar_loadp rfl (v := .slice false (e.n.map strAV)) rfl (wth_get 0 hNb1 rfl) rfl (apartOk_one rfl rfl (Nat.le_of_ble_eq_true rfl)) rfl ?_
  refine ⟨trivial, ?_⟩
  refine ar_index rfl strAV e.n i rfl rfl rfl rfl rfl (by decide) (fun _ => rfl) (by omega) (by omega) ?_
  refine ⟨(apartOk_one rfl rfl (Nat.le_of_ble_eq_true rfl)), trivial, trivial, trivial, ?_⟩
  show K1 [(1, .int .i64 most), (2, .ptr ⟨b1, 0, none⟩), (5, .int .i64 (IntKind.i64.wrap (n_ + ((gI e.n i).length : Int)))), (6, .int .i64 i)] (AMem.wth m [(b1, .cells [.int .i64 e.kind, .int .i64 e.v.kind, .int .i64 e.v.n, .str e.v.s, .slice false (e.v.l.map valIn), .slice false (e.v.f.map fldIn), .str e.s, .str e.t, .slice false (e.a.map expIn), .slice false (e.n.map strAV)])])
  refine hK1 _ _ ?_; clear hK1 K1
  refine hK4 _ _ ?_; clear hK4
  refine awp_reg2 [] [1, 2, 5, 6] (by decide) ?_
  intro K1 hK1
  refine ⟨trivial, ?_⟩
  refine ar_add rfl (a := i) (b := 1) rfl rfl (by omega) (by omega) ?_
  refine ⟨trivial, ?_⟩
  show K1 [(1, .int .i64 most), (2, .ptr ⟨b1, 0, none⟩), (5, .int .i64 (IntKind.i64.wrap (n_ + ((gI e.n i).length : Int)))), (6, .int .i64 (i + 1))] (AMem.wth m [(b1, .cells [.int .i64 e.kind, .int .i64 e.v.kind, .int .i64 e.v.n, .str e.v.s, .slice false (e.v.l.map valIn), .slice false (e.v.f.map fldIn), .str e.s, .str e.t, .slice false (e.a.map expIn), .slice false (e.n.map strAV)])])
  refine hK1 _ _ ?_; clear hK1 K1
  refine ⟨(IntKind.i64.wrap (n_ + ((gI e.n i).length : Int)), i + 1), rfl, rfl, ?_, ?_⟩
  ·
   show 0 ≤ ((i + 1 : Int)) ∧ ((i + 1 : Int)) ≤ e.n.length ∧ namesL most e.n (loadN most e) = namesL most (e.n.drop ((i + 1 : Int)).toNat) ((IntKind.i64.wrap (n_ + ((gI e.n i).length : Int)) : Int))
   exact ⟨by omega, by omega, by rw [hI.2.2, namesL_drop hI.1 h2.1 h2.2]⟩
  ·
   show e.n.length - ((i + 1 : Int)).toNat < e.n.length - i.toNat
   omega
 replace h2 : ((e.n.length : Int) ≤ i) ∨ (most < n_) := ((bandF h2).imp (fun q => (Int.not_lt.1 (of_decide_eq_false q))) (fun q => (Int.not_le.1 (of_decide_eq_false q))))
 refine awp_exit ?_
 refine hK2 _ _ ?_; clear hK2
 refine awp_seq_k ?_; intro K5 hK5
 refine awp_reg2_seq [] [1, 2, 5, 7] (by decide) ?_
 intro K1 hK1
 refine ⟨trivial, ?_⟩
 show K1 [(1, .int .i64 most), (2, .ptr ⟨b1, 0, none⟩), (5, .int .i64 n_), (7, .int .i64 0)] (AMem.wth m [(b1, .cells [.int .i64 e.kind, .int .i64 e.v.kind, .int .i64 e.v.n, .str e.v.s, .slice false (e.v.l.map valIn), .slice false (e.v.f.map fldIn), .str e.s, .str e.t, .slice false (e.a.map expIn), .slice false (e.n.map strAV)])])
 refine hK1 _ _ ?_; clear hK1 K1
 refine awp_block ?_
 refine awp_keep [1, 2, 5, 7] (by decide) ?_
 refine awp_loop_st (σ := Int × Int) (fun ⟨n2, k⟩ => [(1, .int .i64 most), (2, .ptr ⟨b1, 0, none⟩), (5, .int .i64 n2), (7, .int .i64 k)]) (fun _ => (AMem.wth m [(b1, .cells [.int .i64 e.kind, .int .i64 e.v.kind, .int .i64 e.v.n, .str e.v.s, .slice false (e.v.l.map valIn), .slice false (e.v.f.map fldIn), .str e.s, .str e.t, .slice false (e.a.map expIn), .slice false (e.n.map strAV)])])) (fun ⟨n2, k⟩ => 0 ≤ k ∧ k ≤ e.a.length ∧ loadE most e = loadL most (e.a.drop k.toNat) n2) (fun ⟨n2, k⟩ => e.a.length - k.toNat) (n_, 0) rfl rfl ?_ ?_
 ·
  show 0 ≤ ((0 : Int)) ∧ ((0 : Int)) ≤ e.a.length ∧ loadE most e = loadL most (e.a.drop ((0 : Int)).toNat) ((n_ : Int))
  refine ⟨by omega, by omega, ?_⟩
  have q : namesL most (e.n.drop i.toNat) n_ = n_ := by
   by_cases hn : most < n_
   ·
    exact namesL_stop _ _ _ hn
   ·
    have hi : (e.n.length : Int) ≤ i := by
     rcases h2 with h | h <;> omega
    rw [List.drop_eq_nil_of_le (by omega)]; simp only [namesL]
  rw [loadE_eq, hI.2.2, q]; rfl
 rintro ⟨n2, k⟩ hI2
 replace hI2 : 0 ≤ k ∧ k ≤ e.a.length ∧ loadE most e = loadL most (e.a.drop k.toNat) n2 := hI2
 show AWP _ _ _ _ [(1, .int .i64 most), (2, .ptr ⟨b1, 0, none⟩), (5, .int .i64 n2), (7, .int .i64 k)] (AMem.wth m [(b1, .cells [.int .i64 e.kind, .int .i64 e.v.kind, .int .i64 e.v.n, .str e.v.s, .slice false (e.v.l.map valIn), .slice false (e.v.f.map fldIn), .str e.s, .str e.t, .slice false (e.a.map expIn), .slice false (e.n.map strAV)])])
 refine awp_seq_k ?_; intro K6 hK6
 refine awp_reg2_seq [] [1, 2, 5, 7, 54] (by decide) ?_
 intro K1 hK1
 suffices key : K1 [(1, .int .i64 most), (2, .ptr ⟨b1, 0, none⟩), (5, .int .i64 n2), (7, .int .i64 k), (54, .bool ((decide (k < (e.a.length : Int))) && (decide (n2 ≤ most))))] (AMem.wth m [(b1, .cells [.int .i64 e.kind, .int .i64 e.v.kind, .int .i64 e.v.n, .str e.v.s, .slice false (e.v.l.map valIn), .slice false (e.v.f.map fldIn), .str e.s, .str e.t, .slice false (e.a.map expIn), .slice false (e.n.map strAV)])]) by
  refine ⟨trivial, ⟨rfl, by decide⟩, ?_⟩
  refine ar_loadp rfl (v := .slice false (e.a.map expIn)) rfl (wth_get 0 hNb1 rfl) rfl (apartOk_one rfl rfl (Nat.le_of_ble_eq_true rfl)) rfl ?_
  refine ar_len rfl expIn e.a rfl rfl rfl ?_
  refine ⟨trivial, trivial, ?_⟩
  show aopsR _ _ _ _ _ [(50, .bool (decide (k < (e.a.length : Int)))), (49, .bool (decide (k < (e.a.length : Int)))), (48, .int .i64 (e.a.length : Int)), (47, .slice false (e.a.map expIn)), (46, .ptr ⟨b1, 8, none⟩), (45, .int .i64 k), (1, .int .i64 most), (2, .ptr ⟨b1, 0, none⟩), (5, .int .i64 n2), (7, .int .i64 k)] _
  revert key
  cases h3 : (decide (k < (e.a.length : Int)))
  ·
   replace h3 : (e.a.length : Int) ≤ k := (Int.not_lt.1 (of_decide_eq_false h3))
   intro key
   refine ar_off rfl (ar_off rfl (ar_off rfl ?_))
   exact key
  ·
   replace h3 : k < (e.a.length : Int) := (of_decide_eq_true h3)
   intro key
   refine ⟨trivial, trivial, trivial, ?_⟩
   exact key
 refine hK1 _ _ ?_; clear hK1 K1
 refine awp_cond rfl rfl (fun h4 => ?_) (fun h4 => ?_)
 ·
  replace h4 : (k < (e.a.length : Int)) ∧ (n2 ≤ most) := ⟨(of_decide_eq_true (bandL h4)), (of_decide_eq_true (bandR h4))⟩
  refine awp_skip ?_
  refine hK6 _ _ ?_; clear hK6
  refine awp_seq_k ?_; intro K7 hK7
  refine awp_block ?_
  refine awp_reg2 [] [1, 2, 5, 7] (by decide) ?_
  intro K1 hK1
  refine ⟨trivial, ⟨rfl, by decide⟩, ?_⟩
  refine ar_loadp rfl (v := .slice false (e.a.map expIn)) rfl (wth_get 0 hNb1 rfl) rfl (apartOk_one rfl rfl (Nat.le_of_ble_eq_true rfl)) rfl ?_
  refine ⟨trivial, ?_⟩
  refine ar_index rfl expTop e.a k rfl rfl (expMap e.a) rfl rfl (by decide) (fun _ => rfl) (by omega) (by omega) ?_
  refine ⟨(apartOk_agg rfl rfl (Nat.le_of_ble_eq_true rfl)), trivial, ?_⟩
  refine ih (gI e.a k) (depE_mem (gI_mem hI2.1 h4.1)) _ _ ?_
  refine ⟨trivial, trivial, ?_⟩
  show K1 [(1, .int .i64 most), (2, .ptr ⟨b1, 0, none⟩), (5, .int .i64 (IntKind.i64.wrap (n2 + (loadE most (gI e.a k))))), (7, .int .i64 k)] (AMem.wth m [(b1, .cells [.int .i64 e.kind, .int .i64 e.v.kind, .int .i64 e.v.n, .str e.v.s, .slice false (e.v.l.map valIn), .slice false (e.v.f.map fldIn), .str e.s, .str e.t, .slice false (e.a.map expIn), .slice false (e.n.map strAV)])])
  refine hK1 _ _ ?_; clear hK1 K1
  refine hK7 _ _ ?_; clear hK7
  refine awp_reg2 [] [1, 2, 5, 7] (by decide) ?_
  intro K1 hK1
  refine ⟨trivial, ?_⟩
  refine ar_add rfl (a := k) (b := 1) rfl rfl (by omega) (by omega) ?_
  refine ⟨trivial, ?_⟩
  show K1 [(1, .int .i64 most), (2, .ptr ⟨b1, 0, none⟩), (5, .int .i64 (IntKind.i64.wrap (n2 + (loadE most (gI e.a k))))), (7, .int .i64 (k + 1))] (AMem.wth m [(b1, .cells [.int .i64 e.kind, .int .i64 e.v.kind, .int .i64 e.v.n, .str e.v.s, .slice false (e.v.l.map valIn), .slice false (e.v.f.map fldIn), .str e.s, .str e.t, .slice false (e.a.map expIn), .slice false (e.n.map strAV)])])
  refine hK1 _ _ ?_; clear hK1 K1
  refine ⟨(IntKind.i64.wrap (n2 + (loadE most (gI e.a k))), k + 1), rfl, rfl, ?_, ?_⟩
  ·
   show 0 ≤ ((k + 1 : Int)) ∧ ((k + 1 : Int)) ≤ e.a.length ∧ loadE most e = loadL most (e.a.drop ((k + 1 : Int)).toNat) ((IntKind.i64.wrap (n2 + (loadE most (gI e.a k))) : Int))
   exact ⟨by omega, by omega, by rw [hI2.2.2, loadL_drop hI2.1 h4.1 h4.2]⟩
  ·
   show e.a.length - ((k + 1 : Int)).toNat < e.a.length - k.toNat
   omega
 replace h4 : ((e.a.length : Int) ≤ k) ∨ (most < n2) := ((bandF h4).imp (fun q => (Int.not_lt.1 (of_decide_eq_false q))) (fun q => (Int.not_le.1 (of_decide_eq_false q))))
 refine awp_exit ?_
 refine hK5 _ _ ?_; clear hK5
 refine awp_reg2_seq [] [4] (by decide) ?_
 intro K1 hK1
 refine ⟨trivial, trivial, ?_⟩
 show K1 [(4, .int .i64 n2)] (AMem.wth m [(b1, .cells [.int .i64 e.kind, .int .i64 e.v.kind, .int .i64 e.v.n, .str e.v.s, .slice false (e.v.l.map valIn), .slice false (e.v.f.map fldIn), .str e.s, .str e.t, .slice false (e.a.map expIn), .slice false (e.n.map strAV)])])
 refine hK1 _ _ ?_; clear hK1 K1
 refine awp_ret ?_
 refine ⟨trivial, m, (wth_sub2 (m := m) [(b1, .cells [.int .i64 e.kind, .int .i64 e.v.kind, .int .i64 e.v.n, .str e.v.s, .slice false (e.v.l.map valIn), .slice false (e.v.f.map fldIn), .str e.s, .str e.t, .slice false (e.a.map expIn), .slice false (e.n.map strAV)])] [] hNb1 (by simp only [List.map_cons, List.map_nil, List.forall_mem_cons]; exact ⟨hFb1, fun _ h => by cases h⟩)), ?_⟩
 show K (.int .i64 n2) m

 have q : loadE most e = n2 := by
  rw [hI2.2.2]
  by_cases hn : most < n2
  ·
   exact loadL_stop _ _ _ hn
  ·
   have hi : (e.a.length : Int) ≤ k := by
    rcases h4 with h | h <;> omega
   rw [List.drop_eq_nil_of_le (by omega)]; simp only [loadL]
 rw [q] at hK; exact hK


theorem u_load (most : Int) : ∀ (n : Nat) (e : Exp), depE e < n → ∀ (m : AMem) (K : AV → AMem → Prop), K (.int .i64 (loadE most e)) m → ACalls Try.prog 18 [expTop e, .int .i64 most] m K
  | 0, _, h => absurd h (Nat.not_lt_zero _)
  | n + 1, e, h => fun m K hK => u_load1 e most (fun x hx => u_load most n x (by omega)) m K hK

theorem u_LightExpr (e : Exp)  (m : AMem)  (K : AV → AMem → Prop) (hK : K (.bool (decide (loadE 4000 e ≤ 4000))) m) : ACalls Try.prog 6 [expTop e] m K := by
 refine acalls_enter Try.func6 rfl (by decide) (Nat.le_of_ble_eq_true rfl) ?_
 show AWP _ _ _ _ [(0, expTop e)] m
 refine awp_reg2_seq [] [1] (by decide) ?_
 intro K1 hK1
 refine ar_box rfl (m := m) (L := []) (v := expTop e) (by rfl) rfl ?_
 intro b1 hb1
 have hFb1 : m b1 = none := wth_none (m := m) (L := []) hb1
 have hNb1 : ([b1] : List Nat).Nodup := wth_nodup (m := m) (L := []) hb1 List.nodup_nil
 refine ⟨trivial, ?_⟩
 show K1 [(1, .ptr ⟨b1, 0, none⟩)] (AMem.wth m [(b1, .cells [.int .i64 e.kind, .int .i64 e.v.kind, .int .i64 e.v.n, .str e.v.s, .slice false (e.v.l.map valIn), .slice false (e.v.f.map fldIn), .str e.s, .str e.t, .slice false (e.a.map expIn), .slice false (e.n.map strAV)])])
 refine hK1 _ _ ?_; clear hK1 K1
 refine awp_reg2_seq [] [2] (by decide) ?_
 intro K1 hK1
 refine ar_loadp rfl (v := .agg [.int .i64 e.kind, .int .i64 e.v.kind, .int .i64 e.v.n, .str e.v.s, .slice false (e.v.l.map valIn), .slice false (e.v.f.map fldIn), .str e.s, .str e.t, .slice false (e.a.map expIn), .slice false (e.n.map strAV)]) rfl (wth_get 0 hNb1 rfl) rfl (apartOk_agg rfl rfl (Nat.le_of_ble_eq_true rfl)) rfl ?_
 refine u_load 4000 (depE e + 1) e (Nat.lt_succ_self _) _ _ ?_
 refine ⟨trivial, trivial, ?_⟩
 show K1 [(2, .bool (decide (loadE 4000 e ≤ 4000)))] (AMem.wth m [(b1, .cells [.int .i64 e.kind, .int .i64 e.v.kind, .int .i64 e.v.n, .str e.v.s, .slice false (e.v.l.map valIn), .slice false (e.v.f.map fldIn), .str e.s, .str e.t, .slice false (e.a.map expIn), .slice false (e.n.map strAV)])])
 refine hK1 _ _ ?_; clear hK1 K1
 refine awp_ret ?_
 refine ⟨trivial, m, (wth_sub2 (m := m) [(b1, .cells [.int .i64 e.kind, .int .i64 e.v.kind, .int .i64 e.v.n, .str e.v.s, .slice false (e.v.l.map valIn), .slice false (e.v.f.map fldIn), .str e.s, .str e.t, .slice false (e.a.map expIn), .slice false (e.n.map strAV)])] [] hNb1 (by simp only [List.map_cons, List.map_nil, List.forall_mem_cons]; exact ⟨hFb1, fun _ h => by cases h⟩)), ?_⟩
 show K (.bool (decide (loadE 4000 e ≤ 4000))) m

 exact hK

theorem u_LightValue (v : Val)  (m : AMem)  (K : AV → AMem → Prop) (hK : K (.bool (decide (weightV 4000 v ≤ 4000))) m) : ACalls Try.prog 8 [valTop v] m K := by
 refine acalls_enter Try.func8 rfl (by decide) (Nat.le_of_ble_eq_true rfl) ?_
 show AWP _ _ _ _ [(0, valTop v)] m
 refine awp_reg2_seq [] [1] (by decide) ?_
 intro K1 hK1
 refine ar_box rfl (m := m) (L := []) (v := valTop v) (by rfl) rfl ?_
 intro b1 hb1
 have hFb1 : m b1 = none := wth_none (m := m) (L := []) hb1
 have hNb1 : ([b1] : List Nat).Nodup := wth_nodup (m := m) (L := []) hb1 List.nodup_nil
 refine ⟨trivial, ?_⟩
 show K1 [(1, .ptr ⟨b1, 0, none⟩)] (AMem.wth m [(b1, .cells [.int .i64 v.kind, .int .i64 v.n, .str v.s, .slice false (v.l.map valIn), .slice false (v.f.map fldIn)])])
 refine hK1 _ _ ?_; clear hK1 K1
 refine awp_reg2_seq [] [2] (by decide) ?_
 intro K1 hK1
 refine ar_loadp rfl (v := .agg [.int .i64 v.kind, .int .i64 v.n, .str v.s, .slice false (v.l.map valIn), .slice false (v.f.map fldIn)]) rfl (wth_get 0 hNb1 rfl) rfl (apartOk_agg rfl rfl (Nat.le_of_ble_eq_true rfl)) rfl ?_
 refine u_weight 4000 (depV v + 1) v (Nat.lt_succ_self _) _ _ ?_
 refine ⟨trivial, trivial, ?_⟩
 show K1 [(2, .bool (decide (weightV 4000 v ≤ 4000)))] (AMem.wth m [(b1, .cells [.int .i64 v.kind, .int .i64 v.n, .str v.s, .slice false (v.l.map valIn), .slice false (v.f.map fldIn)])])
 refine hK1 _ _ ?_; clear hK1 K1
 refine awp_ret ?_
 refine ⟨trivial, m, (wth_sub2 (m := m) [(b1, .cells [.int .i64 v.kind, .int .i64 v.n, .str v.s, .slice false (v.l.map valIn), .slice false (v.f.map fldIn)])] [] hNb1 (by simp only [List.map_cons, List.map_nil, List.forall_mem_cons]; exact ⟨hFb1, fun _ h => by cases h⟩)), ?_⟩
 show K (.bool (decide (weightV 4000 v ≤ 4000))) m

 exact hK

set_option maxHeartbeats 4000000 in
theorem u_LightFields (l : List (Str × Val))  (m : AMem)  (K : AV → AMem → Prop) (hK : K (.bool (lightFs l)) m) : ACalls Try.prog 7 [.slice false (l.map fldIn)] m K := by
 refine acalls_enter Try.func7 rfl (by decide) (Nat.le_of_ble_eq_true rfl) ?_
 refine awp_bd 0 (x := .slice false (l.map fldIn)) rfl (fun hbd0 => ?_)
 have hbd0_0 : l.length ≤ 140737488355328 := bd_map (o := false) hbd0
 show AWP _ _ _ _ [(0, .slice false (l.map fldIn))] m
 refine awp_reg2_seq [] [0] (by decide) ?_
 intro K1 hK1
 refine ⟨trivial, ?_⟩
 show K1 [(0, .slice false (l.map fldIn))] m
 refine hK1 _ _ ?_; clear hK1 K1
 refine awp_seq_k ?_; intro K2 hK2
 refine awp_reg2_seq [] [0, 7] (by decide) ?_
 intro K1 hK1
 refine ⟨trivial, ?_⟩
 refine ar_len rfl fldIn l rfl rfl rfl ?_
 refine ⟨trivial, ?_⟩
 show K1 [(0, .slice false (l.map fldIn)), (7, .bool (decide (12 < (l.length : Int))))] m
 refine hK1 _ _ ?_; clear hK1 K1
 refine awp_cond rfl rfl (fun h1 => ?_) (fun h1 => ?_)
 ·
  replace h1 : 12 < (l.length : Int) := (of_decide_eq_true h1)
  refine awp_reg2_seq [] [2] (by decide) ?_
  intro K1 hK1
  refine ⟨trivial, ?_⟩
  show K1 [(2, .bool false)] m
  refine hK1 _ _ ?_; clear hK1 K1
  refine awp_ret ?_
  refine ⟨trivial, m, fun _ _ h => h, ?_⟩
  show K (.bool false) m
 
  refine K_eq hK (congrArg AV.bool ?_)
  rw [lightFs, if_pos h1]
 replace h1 : (l.length : Int) ≤ 12 := (Int.not_lt.1 (of_decide_eq_false h1))
 refine awp_skip ?_
 refine hK2 _ _ ?_; clear hK2
 refine awp_reg2_seq [] [0, 3] (by decide) ?_
 intro K1 hK1
 refine ⟨trivial, ?_⟩
 show K1 [(0, .slice false (l.map fldIn)), (3, .int .i64 0)] m
 refine hK1 _ _ ?_; clear hK1 K1
 refine awp_seq_k ?_; intro K3 hK3
 refine awp_reg2_seq [] [0, 3, 4] (by decide) ?_
 intro K1 hK1
 refine ⟨trivial, ?_⟩
 show K1 [(0, .slice false (l.map fldIn)), (3, .int .i64 0), (4, .int .i64 0)] m
 refine hK1 _ _ ?_; clear hK1 K1
 refine awp_block ?_
 refine awp_keep [0, 3, 4] (by decide) ?_
 refine awp_loop_st (σ := Int × Int) (fun ⟨n_, i⟩ => [(0, .slice false (l.map fldIn)), (3, .int .i64 n_), (4, .int .i64 i)]) (fun _ => m) (fun ⟨n_, i⟩ => 0 ≤ i ∧ i ≤ l.length ∧ lightFs l = lightFF (l.drop i.toNat) n_) (fun ⟨n_, i⟩ => l.length - i.toNat) (0, 0) rfl rfl ?_ ?_
 ·
  show 0 ≤ ((0 : Int)) ∧ ((0 : Int)) ≤ l.length ∧ lightFs l = lightFF (l.drop ((0 : Int)).toNat) ((0 : Int))
  exact ⟨by omega, by omega, by rw [lightFs, if_neg (by omega)]; rfl⟩
 rintro ⟨n_, i⟩ hI
 replace hI : 0 ≤ i ∧ i ≤ l.length ∧ lightFs l = lightFF (l.drop i.toNat) n_ := hI
 show AWP _ _ _ _ [(0, .slice false (l.map fldIn)), (3, .int .i64 n_), (4, .int .i64 i)] m
 refine awp_seq_k ?_; intro K4 hK4
 refine awp_reg2_seq [] [0, 3, 4, 11] (by decide) ?_
 intro K1 hK1
 refine ⟨trivial, trivial, ?_⟩
 refine ar_len rfl fldIn l rfl rfl rfl ?_
 refine ⟨trivial, ?_⟩
 show K1 [(0, .slice false (l.map fldIn)), (3, .int .i64 n_), (4, .int .i64 i), (11, .bool (decide (i < (l.length : Int))))] m
 refine hK1 _ _ ?_; clear hK1 K1
 refine awp_cond rfl rfl (fun h2 => ?_) (fun h2 => ?_)
 ·
  replace h2 : i < (l.length : Int) := (of_decide_eq_true h2)
  refine awp_skip ?_
  refine hK4 _ _ ?_; clear hK4
  refine awp_seq_k ?_; intro K5 hK5
  refine awp_block ?_
  refine awp_draw_seq Try.mixed [(.int .i64 (weightV 3000 ((gI l i).2)))] [0, 3, 4] (by decide) (by decide) ?_
  intro K1 hK1
  refine ⟨trivial, trivial, trivial, ?_⟩
  refine pq_index rfl fldTop l i rfl rfl (fldMap l) rfl rfl (by decide) (fun _ => rfl) (by omega) (by omega) ?_
  refine ⟨⟨rfl, by decide, (Nat.le_of_ble_eq_true rfl)⟩, (apartOk_one rfl rfl (Nat.le_of_ble_eq_true rfl)), trivial, trivial, trivial, trivial, ?_⟩
  refine pq_index rfl fldTop l i rfl rfl (fldMap l) rfl rfl (by decide) (fun _ => rfl) (by omega) (by omega) ?_
  refine ⟨⟨rfl, by decide, (Nat.le_of_ble_eq_true rfl)⟩, (apartOk_agg rfl rfl (Nat.le_of_ble_eq_true rfl)), (fun Kc hKc => u_weight 3000 (depV ((gI l i).2) + 1) ((gI l i).2) (Nat.lt_succ_self _) _ Kc hKc), trivial, trivial, ?_⟩
  show K1 [(0, .slice false (l.map fldIn)), (3, .int .i64 (IntKind.i64.wrap ((IntKind.i64.wrap (n_ + (((gI l i).1).length : Int))) + (weightV 3000 ((gI l i).2))))), (4, .int .i64 i)] m
  refine hK1 _ _ ?_; clear hK1 K1
  refine awp_reg2_seq [] [0, 3, 4, 30] (by decide) ?_
  intro K1 hK1
  refine ⟨trivial, trivial, ?_⟩
  show K1 [(0, .slice false (l.map fldIn)), (3, .int .i64 (IntKind.i64.wrap ((IntKind.i64.wrap (n_ + (((gI l i).1).length : Int))) + (weightV 3000 ((gI l i).2))))), (4, .int .i64 i), (30, .bool (decide (3000 < IntKind.i64.wrap ((IntKind.i64.wrap (n_ + (((gI l i).1).length : Int))) + (weightV 3000 ((gI l i).2))))))] m
  refine hK1 _ _ ?_; clear hK1 K1
  refine awp_cond rfl rfl (fun h3 => ?_) (fun h3 => ?_)
  ·
   replace h3 : 3000 < IntKind.i64.wrap ((IntKind.i64.wrap (n_ + (((gI l i).1).length : Int))) + (weightV 3000 ((gI l i).2))) := (of_decide_eq_true h3)
   refine awp_reg2_seq [] [2] (by decide) ?_
   intro K1 hK1
   refine ⟨trivial, ?_⟩
   show K1 [(2, .bool false)] m
   refine hK1 _ _ ?_; clear hK1 K1
   refine awp_ret ?_
   refine ⟨trivial, m, fun _ _ h => h, ?_⟩
   show K (.bool false) m
  
   refine K_eq hK (congrArg AV.bool ?_)
   rw [hI.2.2, lightFF_drop hI.1 h2, if_pos h3]
  replace h3 : IntKind.i64.wrap ((IntKind.i64.wrap (n_ + (((gI l i).1).length : Int))) + (weightV 3000 ((gI l i).2))) ≤ 3000 := (Int.not_lt.1 (of_decide_eq_false h3))
  refine awp_skip ?_
  refine hK5 _ _ ?_; clear hK5
  refine awp_reg2 [] [0, 3, 4] (by decide) ?_
  intro K1 hK1
  refine ⟨trivial, ?_⟩
  refine ar_add rfl (a := i) (b := 1) rfl rfl (by omega) (by omega) ?_
  refine ⟨trivial, ?_⟩
  show K1 [(0, .slice false (l.map fldIn)), (3, .int .i64 (IntKind.i64.wrap ((IntKind.i64.wrap (n_ + (((gI l i).1).length : Int))) + (weightV 3000 ((gI l i).2))))), (4, .int .i64 (i + 1))] m
  refine hK1 _ _ ?_; clear hK1 K1
  refine ⟨(IntKind.i64.wrap ((IntKind.i64.wrap (n_ + (((gI l i).1).length : Int))) + (weightV 3000 ((gI l i).2))), i + 1), rfl, rfl, ?_, ?_⟩
  ·
   show 0 ≤ ((i + 1 : Int)) ∧ ((i + 1 : Int)) ≤ l.length ∧ lightFs l = lightFF (l.drop ((i + 1 : Int)).toNat) ((IntKind.i64.wrap ((IntKind.i64.wrap (n_ + (((gI l i).1).length : Int))) + (weightV 3000 ((gI l i).2))) : Int))
   exact ⟨by omega, by omega, by rw [hI.2.2, lightFF_drop hI.1 h2, if_neg (by omega)]⟩
  ·
   show l.length - ((i + 1 : Int)).toNat < l.length - i.toNat
   omega
 replace h2 : (l.length : Int) ≤ i := (Int.not_lt.1 (of_decide_eq_false h2))
 refine awp_exit ?_
 refine hK3 _ _ ?_; clear hK3
 refine awp_reg2_seq [] [2] (by decide) ?_
 intro K1 hK1
 refine ⟨trivial, ?_⟩
 show K1 [(2, .bool true)] m
 refine hK1 _ _ ?_; clear hK1 K1
 refine awp_ret ?_
 refine ⟨trivial, m, fun _ _ h => h, ?_⟩
 show K (.bool true) m

 refine K_eq hK (congrArg AV.bool ?_)
 rw [hI.2.2, List.drop_eq_nil_of_le (by omega)]; rfl

set_option maxHeartbeats 4000000 in
theorem u_names1 (k : Nat) (e : Exp) (s : Str) (ih : ∀ x : Exp, depE x < k → ∀ (m : AMem) (K : AV → AMem → Prop), K (.bool (namesF s k x)) m → ACalls Try.prog 10 [expTop x, .str s] m K) (hd : depE e < k + 1) (m : AMem)  (K : AV → AMem → Prop) (hK : K (.bool (namesF s (k + 1) e)) m) : ACalls Try.prog 10 [expTop e, .str s] m K := by
 refine acalls_enter Try.func10 rfl (by decide) (Nat.le_of_ble_eq_true rfl) ?_
 refine awp_bd 0 (x := expTop e) rfl (fun hbd0 => ?_)
 have hbd0_3 : e.v.s.length ≤ 140737488355328 := (hbd0 3 (Nat.le_of_ble_eq_true rfl))
 have hbd0_4 : e.v.l.length ≤ 140737488355328 := bd_map (hbd0 4 (Nat.le_of_ble_eq_true rfl))
 have hbd0_5 : e.v.f.length ≤ 140737488355328 := bd_map (hbd0 5 (Nat.le_of_ble_eq_true rfl))
 have hbd0_6 : e.s.length ≤ 140737488355328 := (hbd0 6 (Nat.le_of_ble_eq_true rfl))
 have hbd0_7 : e.t.length ≤ 140737488355328 := (hbd0 7 (Nat.le_of_ble_eq_true rfl))
 have hbd0_8 : e.a.length ≤ 140737488355328 := bd_map (hbd0 8 (Nat.le_of_ble_eq_true rfl))
 have hbd0_9 : e.n.length ≤ 140737488355328 := bd_map (hbd0 9 (Nat.le_of_ble_eq_true rfl))
 show AWP _ _ _ _ [(0, expTop e), (1, .str s)] m
 refine awp_reg2_seq [] [1, 2] (by decide) ?_
 intro K1 hK1
 refine ar_box rfl (m := m) (L := []) (v := expTop e) (by rfl) rfl ?_
 intro b1 hb1
 have hFb1 : m b1 = none := wth_none (m := m) (L := []) hb1
 have hNb1 : ([b1] : List Nat).Nodup := wth_nodup (m := m) (L := []) hb1 List.nodup_nil
 refine ⟨trivial, ?_⟩
 show K1 [(1, .str s), (2, .ptr ⟨b1, 0, none⟩)] (AMem.wth m [(b1, .cells [.int .i64 e.kind, .int .i64 e.v.kind, .int .i64 e.v.n, .str e.v.s, .slice false (e.v.l.map valIn), .slice false (e.v.f.map fldIn), .str e.s, .str e.t, .slice false (e.a.map expIn), .slice false (e.n.map strAV)])])
 refine hK1 _ _ ?_; clear hK1 K1
 refine awp_seq_k ?_; intro K2 hK2
 refine awp_reg2_seq [] [1, 2, 15] (by decide) ?_
 intro K1 hK1
 suffices key : K1 [(1, .str s), (2, .ptr ⟨b1, 0, none⟩), (15, .bool ((e.kind == 2) && (e.s == s)))] (AMem.wth m [(b1, .cells [.int .i64 e.kind, .int .i64 e.v.kind, .int .i64 e.v.n, .str e.v.s, .slice false (e.v.l.map valIn), .slice false (e.v.f.map fldIn), .str e.s, .str e.t, .slice false (e.a.map expIn), .slice false (e.n.map strAV)])]) by
  refine ⟨⟨rfl, by decide⟩, ?_⟩
  refine ar_loadp rfl (v := .int .i64 e.kind) rfl (wth_get 0 hNb1 rfl) rfl (apartOk_one rfl rfl (Nat.le_of_ble_eq_true rfl)) rfl ?_
  refine ⟨trivial, trivial, ?_⟩
  show aopsR _ _ _ _ _ [(10, .bool (e.kind == 2)), (9, .bool (e.kind == 2)), (8, .int .i64 e.kind), (7, .ptr ⟨b1, 0, none⟩), (1, .str s), (2, .ptr ⟨b1, 0, none⟩)] _
  revert key
  cases h1 : (e.kind == 2)
  ·
   replace h1 : e.kind ≠ 2 := (ne_of_beq_false h1)
   intro key
   refine ar_off rfl (ar_off rfl (ar_off rfl (ar_off rfl ?_)))
   exact key
  ·
   replace h1 : e.kind = 2 := (eq_of_beq h1)
   intro key
   refine ⟨⟨rfl, by decide⟩, ?_⟩
   refine ar_loadp rfl (v := .str e.s) rfl (wth_get 0 hNb1 rfl) rfl (apartOk_one rfl rfl (Nat.le_of_ble_eq_true rfl)) rfl ?_
   refine ⟨trivial, trivial, ?_⟩
   exact key
 refine hK1 _ _ ?_; clear hK1 K1
 refine awp_cond rfl rfl (fun h2 => ?_) (fun h2 => ?_)
 ·
  replace h2 : (e.kind = 2) ∧ (e.s = s) := ⟨(eq_of_beq (bandL h2)), (eq_of_beq (bandR h2))⟩
  refine awp_reg2_seq [] [4] (by decide) ?_
  intro K1 hK1
  refine ⟨trivial, ?_⟩
  show K1 [(4, .bool true)] (AMem.wth m [(b1, .cells [.int .i64 e.kind, .int .i64 e.v.kind, .int .i64 e.v.n, .str e.v.s, .slice false (e.v.l.map valIn), .slice false (e.v.f.map fldIn), .str e.s, .str e.t, .slice false (e.a.map expIn), .slice false (e.n.map strAV)])])
  refine hK1 _ _ ?_; clear hK1 K1
  refine awp_ret ?_
  refine ⟨trivial, m, (wth_sub2 (m := m) [(b1, .cells [.int .i64 e.kind, .int .i64 e.v.kind, .int .i64 e.v.n, .str e.v.s, .slice false (e.v.l.map valIn), .slice false (e.v.f.map fldIn), .str e.s, .str e.t, .slice false (e.a.map expIn), .slice false (e.n.map strAV)])] [] hNb1 (by simp only [List.map_cons, List.map_nil, List.forall_mem_cons]; exact ⟨hFb1, fun _ h => by cases h⟩)), ?_⟩
  show K (.bool true) m
 
  have q : namesF s (k + 1) e = true := by rw [namesF]; simp [h2]
  rw [q] at hK; exact hK
 replace h2 : (e.kind ≠ 2) ∨ (e.s ≠ s) := ((bandF h2).imp (fun q => (ne_of_beq_false q)) (fun q => (ne_of_beq_false q)))
 refine awp_skip ?_
 refine hK2 _ _ ?_; clear hK2
 refine awp_seq_k ?_; intro K3 hK3
 refine awp_reg2_seq [] [1, 2, 5] (by decide) ?_
 intro K1 hK1
 refine ⟨trivial, ?_⟩
 show K1 [(1, .str s), (2, .ptr ⟨b1, 0, none⟩), (5, .int .i64 0)] (AMem.wth m [(b1, .cells [.int .i64 e.kind, .int .i64 e.v.kind, .int .i64 e.v.n, .str e.v.s, .slice false (e.v.l.map valIn), .slice false (e.v.f.map fldIn), .str e.s, .str e.t, .slice false (e.a.map expIn), .slice false (e.n.map strAV)])])
 refine hK1 _ _ ?_; clear hK1 K1
 refine awp_block ?_
 refine awp_keep [1, 2, 5] (by decide) ?_
 refine awp_loop_st (σ := Int) (fun i => [(1, .str s), (2, .ptr ⟨b1, 0, none⟩), (5, .int .i64 i)]) (fun _ => (AMem.wth m [(b1, .cells [.int .i64 e.kind, .int .i64 e.v.kind, .int .i64 e.v.n, .str e.v.s, .slice false (e.v.l.map valIn), .slice false (e.v.f.map fldIn), .str e.s, .str e.t, .slice false (e.a.map expIn), .slice false (e.n.map strAV)])])) (fun i => 0 ≤ i ∧ i ≤ e.a.length ∧ namesF s (k + 1) e = (e.a.drop i.toNat).any (namesF s k)) (fun i => e.a.length - i.toNat) (0) rfl rfl ?_ ?_
 ·
  show 0 ≤ ((0 : Int)) ∧ ((0 : Int)) ≤ e.a.length ∧ namesF s (k + 1) e = (e.a.drop ((0 : Int)).toNat).any (namesF s k)
  exact ⟨by omega, by omega, by rw [namesF]; rcases h2 with h | h <;> simp [h]⟩
 rintro i hI
 replace hI : 0 ≤ i ∧ i ≤ e.a.length ∧ namesF s (k + 1) e = (e.a.drop i.toNat).any (namesF s k) := hI
 show AWP _ _ _ _ [(1, .str s), (2, .ptr ⟨b1, 0, none⟩), (5, .int .i64 i)] (AMem.wth m [(b1, .cells [.int .i64 e.kind, .int .i64 e.v.kind, .int .i64 e.v.n, .str e.v.s, .slice false (e.v.l.map valIn), .slice false (e.v.f.map fldIn), .str e.s, .str e.t, .slice false (e.a.map expIn), .slice false (e.n.map strAV)])])
 refine awp_seq_k ?_; intro K4 hK4
 refine awp_reg2_seq [] [1, 2, 5, 20] (by decide) ?_
 intro K1 hK1
 refine ⟨trivial, ⟨rfl, by decide⟩, ?_⟩
 refine ar_loadp rfl (v := .slice false (e.a.map expIn)) rfl (wth_get 0 hNb1 rfl) rfl (apartOk_one rfl rfl (Nat.le_of_ble_eq_true rfl)) rfl ?_
 refine ar_len rfl expIn e.a rfl rfl rfl ?_
 refine ⟨trivial, ?_⟩
 show K1 [(1, .str s), (2, .ptr ⟨b1, 0, none⟩), (5, .int .i64 i), (20, .bool (decide (i < (e.a.length : Int))))] (AMem.wth m [(b1, .cells [.int .i64 e.kind, .int .i64 e.v.kind, .int .i64 e.v.n, .str e.v.s, .slice false (e.v.l.map valIn), .slice false (e.v.f.map fldIn), .str e.s, .str e.t, .slice false (e.a.map expIn), .slice false (e.n.map strAV)])])
 refine hK1 _ _ ?_; clear hK1 K1
 refine awp_cond rfl rfl (fun h3 => ?_) (fun h3 => ?_)
 ·
  replace h3 : i < (e.a.length : Int) := (of_decide_eq_true h3)
  refine awp_skip ?_
  refine hK4 _ _ ?_; clear hK4
  refine awp_seq_k ?_; intro K5 hK5
  refine awp_block ?_
  refine awp_reg2_seq [] [1, 2, 5, 6] (by decide) ?_
  intro K1 hK1
  refine ⟨⟨rfl, by decide⟩, ?_⟩
  refine ar_loadp rfl (v := .slice false (e.a.map expIn)) rfl (wth_get 0 hNb1 rfl) rfl (apartOk_one rfl rfl (Nat.le_of_ble_eq_true rfl)) rfl ?_
  refine ⟨trivial, ?_⟩
  refine ar_index rfl expTop e.a i rfl rfl (expMap e.a) rfl rfl (by decide) (fun _ => rfl) (by omega) (by omega) ?_
  refine ⟨(apartOk_agg rfl rfl (Nat.le_of_ble_eq_true rfl)), trivial, ?_⟩
  refine ih (gI e.a i) (by have := depE_mem (gI_mem (l := e.a) (i := i) hI.1 (by assumption)); omega) _ _ ?_
  refine ⟨trivial, ?_⟩
  show K1 [(1, .str s), (2, .ptr ⟨b1, 0, none⟩), (5, .int .i64 i), (6, .bool (namesF s k (gI e.a i)))] (AMem.wth m [(b1, .cells [.int .i64 e.kind, .int .i64 e.v.kind, .int .i64 e.v.n, .str e.v.s, .slice false (e.v.l.map valIn), .slice false (e.v.f.map fldIn), .str e.s, .str e.t, .slice false (e.a.map expIn), .slice false (e.n.map strAV)])])
  refine hK1 _ _ ?_; clear hK1 K1
  refine awp_reg2_seq [] [1, 2, 5, 30] (by decide) ?_
  intro K1 hK1
  refine ⟨trivial, ?_⟩
  show K1 [(1, .str s), (2, .ptr ⟨b1, 0, none⟩), (5, .int .i64 i), (30, .bool (namesF s k (gI e.a i)))] (AMem.wth m [(b1, .cells [.int .i64 e.kind, .int .i64 e.v.kind, .int .i64 e.v.n, .str e.v.s, .slice false (e.v.l.map valIn), .slice false (e.v.f.map fldIn), .str e.s, .str e.t, .slice false (e.a.map expIn), .slice false (e.n.map strAV)])])
  refine hK1 _ _ ?_; clear hK1 K1
  refine awp_cond rfl rfl (fun h4 => ?_) (fun h4 => ?_)
  ·
   replace h4 : namesF s k (gI e.a i) = true := h4
   refine awp_reg2_seq [] [4] (by decide) ?_
   intro K1 hK1
   refine ⟨trivial, ?_⟩
   show K1 [(4, .bool true)] (AMem.wth m [(b1, .cells [.int .i64 e.kind, .int .i64 e.v.kind, .int .i64 e.v.n, .str e.v.s, .slice false (e.v.l.map valIn), .slice false (e.v.f.map fldIn), .str e.s, .str e.t, .slice false (e.a.map expIn), .slice false (e.n.map strAV)])])
   refine hK1 _ _ ?_; clear hK1 K1
   refine awp_ret ?_
   refine ⟨trivial, m, (wth_sub2 (m := m) [(b1, .cells [.int .i64 e.kind, .int .i64 e.v.kind, .int .i64 e.v.n, .str e.v.s, .slice false (e.v.l.map valIn), .slice false (e.v.f.map fldIn), .str e.s, .str e.t, .slice false (e.a.map expIn), .slice false (e.n.map strAV)])] [] hNb1 (by simp only [List.map_cons, List.map_nil, List.forall_mem_cons]; exact ⟨hFb1, fun _ h => by cases h⟩)), ?_⟩
   show K (.bool true) m
  
   have q : namesF s (k + 1) e = true := by rw [hI.2.2, namesF_drop hI.1 h3, h4]; rfl
   rw [q] at hK; exact hK
  replace h4 : namesF s k (gI e.a i) = false := h4
  refine awp_skip ?_
  refine hK5 _ _ ?_; clear hK5
  refine awp_reg2 [] [1, 2, 5] (by decide) ?_
  intro K1 hK1
  refine ⟨trivial, ?_⟩
  refine ar_add rfl (a := i) (b := 1) rfl rfl (by omega) (by omega) ?_
  refine ⟨trivial, ?_⟩
  show K1 [(1, .str s), (2, .ptr ⟨b1, 0, none⟩), (5, .int .i64 (i + 1))] (AMem.wth m [(b1, .cells [.int .i64 e.kind, .int .i64 e.v.kind, .int .i64 e.v.n, .str e.v.s, .slice false (e.v.l.map valIn), .slice false (e.v.f.map fldIn), .str e.s, .str e.t, .slice false (e.a.map expIn), .slice false (e.n.map strAV)])])
  refine hK1 _ _ ?_; clear hK1 K1
  refine ⟨(i + 1), rfl, rfl, ?_, ?_⟩
  ·
   show 0 ≤ ((i + 1 : Int)) ∧ ((i + 1 : Int)) ≤ e.a.length ∧ namesF s (k + 1) e = (e.a.drop ((i + 1 : Int)).toNat).any (namesF s k)
   exact ⟨by omega, by omega, by rw [hI.2.2, namesF_drop hI.1 h3, h4]; rfl⟩
  ·
   show e.a.length - ((i + 1 : Int)).toNat < e.a.length - i.toNat
   omega
 replace h3 : (e.a.length : Int) ≤ i := (Int.not_lt.1 (of_decide_eq_false h3))
 refine awp_exit ?_
 refine hK3 _ _ ?_; clear hK3
 refine awp_reg2_seq [] [4] (by decide) ?_
 intro K1 hK1
 refine ⟨trivial, ?_⟩
 show K1 [(4, .bool false)] (AMem.wth m [(b1, .cells [.int .i64 e.kind, .int .i64 e.v.kind, .int .i64 e.v.n, .str e.v.s, .slice false (e.v.l.map valIn), .slice false (e.v.f.map fldIn), .str e.s, .str e.t, .slice false (e.a.map expIn), .slice false (e.n.map strAV)])])
 refine hK1 _ _ ?_; clear hK1 K1
 refine awp_ret ?_
 refine ⟨trivial, m, (wth_sub2 (m := m) [(b1, .cells [.int .i64 e.kind, .int .i64 e.v.kind, .int .i64 e.v.n, .str e.v.s, .slice false (e.v.l.map valIn), .slice false (e.v.f.map fldIn), .str e.s, .str e.t, .slice false (e.a.map expIn), .slice false (e.n.map strAV)])] [] hNb1 (by simp only [List.map_cons, List.map_nil, List.forall_mem_cons]; exact ⟨hFb1, fun _ h => by cases h⟩)), ?_⟩
 show K (.bool false) m

 have q : namesF s (k + 1) e = false := by rw [hI.2.2, List.drop_eq_nil_of_le (by omega)]; rfl
 rw [q] at hK; exact hK


theorem u_names (s : Str) : ∀ (n : Nat) (e : Exp), depE e < n → ∀ (m : AMem) (K : AV → AMem → Prop), K (.bool (namesF s n e)) m → ACalls Try.prog 10 [expTop e, .str s] m K
  | 0, _, h => absurd h (Nat.not_lt_zero _)
  | n + 1, e, h => fun m K hK => u_names1 n e s (u_names s n) h m K hK

end Go.Proofs
