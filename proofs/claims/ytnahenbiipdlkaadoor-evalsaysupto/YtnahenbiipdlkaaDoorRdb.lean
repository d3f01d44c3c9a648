/-
  Values that a law is handed read as typed data, no greater than their bulk; none reads as a cell of a table of u64s.
-/
import Derived.Test.YtnahenbiipdlkaaDoorEs2
import Derived.Test.YtnahenbiipdlkaaDoorSv4
import Derived.Test.YtnahenbiipdlkaaDoorWxz
section
namespace Go.Proofs
open Go Go.Aw Go.Sx
set_option maxRecDepth 100000
theorem chk_nn (v : Val) : 0 ≤ chk v := by
  unfold chk shE
  split
  · split <;> decide
  · decide
theorem depL_app (a b : List Val) : depL (a ++ b) = depL a + depL b := by
  rw [← sumN_l, ← sumN_l, ← sumN_l]
  induction a with
  | nil => simp [sumN]
  | cons v r ih => simp only [List.cons_append, sumN, ih]; omega
theorem depL_60 : ∀ {l : List Val}, (∀ v ∈ l, chk v = 0) → depL l ≤ 60 * l.length
  | [], _ => Nat.le_refl _
  | v :: r, h => by
    have h1 := (chk_cnt (h v (List.mem_cons_self ..))).1
    have h2 := depL_60 fun w hw => h w (List.mem_cons_of_mem _ hw)
    rw [depL, List.length_cons]; omega
theorem depF_zip : ∀ (n : List Str) (l : List Val), depF (n.zip l) ≤ depL l
  | [], l => by simp [depF]
  | s :: n, [] => by simp [depF]
  | s :: n, v :: l => by
    have := depF_zip n l
    rw [List.zip_cons_cons, ← sumN_f, sumN, sumN_f, depL]
    show depV v + _ ≤ _
    omega
structure EnvD (en rs : VMap) (fe : FMap) : Prop where
  i : ∀ p ∈ en, depV p.2 ≤ 1000000000
  r : ∀ p ∈ rs, depV p.2 ≤ 1000000000
  f : ∀ q ∈ fe, ∀ p ∈ q.2, depV p.2 ≤ 1000000000
theorem okV_d {v : Val} (h : depV v ≤ 1000000000) : okV v := okV_small _ v (Nat.lt_succ_self _) h
theorem EnvD.ok {en rs : VMap} {fe : FMap} (h : EnvD en rs fe) : EnvOk en rs fe := ⟨fun p hp => okV_d (h.i p hp), fun p hp => okV_d (h.r p hp), fun q hq p hp => okV_d (h.f q hq p hp)⟩
theorem okE_z : ∀ (n : Nat) (e : Exp), depE e < n → szE e ≤ 1000000000 → okE e
  | 0, _, h, _ => absurd h (Nat.not_lt_zero _)
  | n + 1, e, h, hz => (okE_iff e).2 ⟨⟨okV_d (by have := szE_eq e; omega), by
      have h1 := szE_eq e
      have := szL_len e.a; omega⟩, fun x hx => okE_z n x (by have := depE_mem hx; omega) (by have h1 := szE_eq e; have := szL_mem hx; omega)⟩
theorem okE_sz {e : Exp} (h : szE e ≤ 1000000000) : okE e := okE_z _ e (Nat.lt_succ_self _) h
abbrev rB (r : Val × Int) : Prop := 0 ≤ r.2 ∧ depV r.1 ≤ 100000000000
theorem rB_z {n : Int} (h : 0 ≤ n) : rB (zV, n) := ⟨h, by rw [depV_z]; decide⟩
theorem rB_get {l : VMap} (h : ∀ p ∈ l, depV p.2 ≤ 1000000000) (s : Str) : rB (namedB ((mget l s).getD zV) (mget l s).isSome) := by
  cases e : mget l s with
  | none => exact rB_z (by decide)
  | some v => exact ⟨Int.le_refl _, by have : depV v ≤ 1000000000 := h _ (mget_mem e); show depV v ≤ _; omega⟩
theorem mget_d {l : VMap} (h : ∀ p ∈ l, depV p.2 ≤ 1000000000) (s : Str) : depV ((mget l s).getD zV) ≤ 1000000000 := by
  cases e : mget l s with
  | none => rw [Option.getD_none, depV_z]; decide
  | some v => exact h _ (mget_mem e)
theorem rB_sub {v : Val} (h : depV v ≤ 1000000000) (s : Str) : rB (namedB ((mget v.f s).getD zV) (mget v.f s).isSome) :=
  rB_get (fun p hp => by have h1 := depV_eq v; have := depF_mem hp; omega) s
theorem rB_plus {a b : Val} (ha : chk a = 0) (hb : chk b = 0) : rB (plusR a b) := by
  have h1 := (chk_cnt ha).1
  have h2 := (chk_cnt hb).1
  have h3 := depV_eq a
  have h4 := depV_eq b
  unfold plusR
  split
  · exact rB_z (by decide)
  split
  · split
    · exact rB_z (by decide)
    · exact ⟨Int.le_refl _, by simp [depV, depL, depF]⟩
  split
  · split
    · exact rB_z (by decide)
    · exact ⟨Int.le_refl _, by simp [depV, depL, depF]⟩
  split
  · exact ⟨Int.le_refl _, by simp only [depV, depL_app, depF]; omega⟩
  · exact rB_z (by decide)
theorem rB_join {e : Exp} {l : List Val} (hl : ∀ v ∈ l, chk v = 0) (hn : l.length ≤ 1000000000) : rB (joinR e l) := by
  have h1 := depL_60 hl
  unfold joinR
  split
  · rename_i h; exact rB_plus (hl _ (gI_mem (by omega) (by omega))) (hl _ (gI_mem (by omega) (by omega)))
  split
  · exact ⟨Int.le_refl _, by simp [depV, depL, depF]⟩
  split
  · exact ⟨Int.le_refl _, by simp only [depV, depF]; omega⟩
  split
  · exact ⟨Int.le_refl _, by have := depF_zip e.n l; simp only [depV, depL]; omega⟩
  split
  · rename_i h
    split
    · exact rB_z (by decide)
    · have := (chk_cnt (hl (gI l 0) (gI_mem (by omega) (by omega)))).1
      exact rB_sub (v := gI l 0) (by omega) e.s
  · exact rB_z (by decide)
theorem fin_nn {r : Val × Int} (h : 0 ≤ r.2) : 0 ≤ (fin r).2 := by
  unfold fin
  split
  · split
    · exact Int.le_refl _
    · exact chk_nn _
  · exact h
theorem allE_nn {α : Type} {g : α → Val × Int} {l : List α} (h : ∀ x ∈ l, 0 ≤ (g x).2) : 0 ≤ allE g l := by
  induction l with
  | nil => exact Int.le_refl _
  | cons x r ih =>
    rw [allE]; split
    · exact ih fun y hy => h y (List.mem_cons_of_mem _ hy)
    · exact h x (List.mem_cons_self ..)
theorem evF_d {en rs : VMap} {fe : FMap} (hd : EnvD en rs fe) : ∀ (k : Nat) (e : Exp), szE e ≤ 1000000000 → rB (evF en rs fe k e)
  | 0, _, _ => rB_z (by decide)
  | k + 1, e, hz => by
    have hs := szE_eq e
    have ih : ∀ x ∈ e.a, rB (evF en rs fe k x) := fun x hx => evF_d hd k x (by have := szL_mem hx; omega)
    by_cases h1 : e.kind = 1
    · rw [evF_1 h1]; exact ⟨Int.le_refl _, by show depV e.v ≤ _; omega⟩
    by_cases h2 : e.kind = 2
    · rw [evF_2 h2]; exact rB_get hd.i _
    by_cases h3 : e.kind = 3
    · cases h : (mget rs e.s).isSome with
      | false => rw [evF_30 h3 h]; exact rB_z (by decide)
      | true => rw [evF_31 h3 h]; exact rB_sub (mget_d hd.r _) _
    by_cases h4 : e.kind = 4
    · rw [evF_4 h4]
      refine rB_get (fun p hp => ?_) _
      cases q : mget fe e.s with
      | none => rw [q] at hp; cases hp
      | some F => rw [q] at hp; exact hd.f _ (mget_mem q) p hp
    by_cases h7 : e.kind = 7
    · by_cases q1 : (e.a.length : Int) = 3
      · have m0 := ih _ (gI_mem (l := e.a) (i := 0) (by omega) (by omega))
        by_cases q2 : (gE en rs fe k (gI e.a 0)).2 = 0
        · by_cases q3 : (gE en rs fe k (gI e.a 0)).1.kind = 3
          · have hfl := chk_flag (v := (gE en rs fe k (gI e.a 0)).1) (fin_ok q2) q3
            rw [evF_73 h7 q1 q2 q3]
            exact ih _ (gI_mem (by omega) (by omega))
          · rw [evF_72 h7 q1 q2 q3]; exact rB_z (by decide)
        · rw [evF_71 h7 q1 q2]; exact rB_z (fin_nn m0.1)
      · rw [evF_70 h7 q1]; exact rB_z (by decide)
    by_cases q : allE (gE en rs fe k) e.a = 0
    · rw [evF_81 h1 h2 h3 h4 h7 q]
      refine rB_join (allL_ok fun x h => fin_ok h) ?_
      have q1 := allL_len (gE en rs fe k) e.a
      have := szL_len e.a; omega
    · rw [evF_80 h1 h2 h3 h4 h7 q]
      exact rB_z (allE_nn fun x hx => fin_nn (ih x hx).1)
theorem u_found (v : Val) (is : Bool)  (m : AMem)  (K : AV → AMem → Prop) (hK : K (.tuple [valTop (namedB v is).1, .int .i64 (namedB v is).2]) m) : ACalls Tryd.prog 54 [valTop v, .bool is] m K := by
 refine enter (c := cf [] [] [] [] [] []) (vs := [.av (valTop v), .b (.raw is)]) (L := []) (m := m) false tbOk Tryd.mixed Tryd.func54 rfl (k := 2) (by show fnOk [] _ _ _ = true; decide +kernel) rfl (Good.nil m) ?_
 refine sq ?_
 refine an (fun h1 => ?_) (fun h1 => ?_)
 · have e0 : namedB v is = ((v, 0) : Val × Int) := by
    first | (rw [namedB, if_pos (by assumption)]; done) | (rw [namedB, if_neg (by simp [*])]; rfl)
   rw [e0] at hK
   exact rt0 rfl fun _ => hK
 have e0 : namedB v is = (((⟨0, 0, [], [], []⟩ : Val), 7) : Val × Int) := by
  first | (rw [namedB, if_pos (by assumption)]; done) | (rw [namedB, if_neg (by simp [*])]; rfl)
 rw [e0] at hK
 exact rt0 rfl fun _ => hK
set_option maxHeartbeats 2000000 in
theorem u_RGet (v : Val) (s : Str)  (m : AMem)  (K : AV → AMem → Prop) (hK : K (.tuple [valTop ((mget v.f s).getD zV), .bool (mget v.f s).isSome]) m) : ACalls Tryd.prog 55 [valTop v, .str s] m K := by
 refine enter (c := cf [] [0] [] [] [] []) (vs := [.av (valTop v), .av (.str s)]) (L := []) (m := m) false tbOk Tryd.mixed Tryd.func55 rfl (k := 2) (by show fnOk [] _ _ _ = true; decide +kernel) rfl (Good.nil m) ?_
 refine ⟨fun F0 => ?_⟩
 have hbd0_2 : v.s.length ≤ 140737488355328 := (F0 0 2 (Nat.le_of_ble_eq_true rfl))
 have hbd0_3 : v.l.length ≤ 140737488355328 := bd_map (F0 0 3 (Nat.le_of_ble_eq_true rfl))
 have hbd0_4 : v.f.length ≤ 140737488355328 := bd_map (F0 0 4 (Nat.le_of_ble_eq_true rfl))
 refine sq ?_
 refine lp (σ := Int) [] [1, 2, 4, 6] 2 (fun i => ([(1, vS s), (2, .loc 0 0), (4, .loc 1 0), (6, vI i)], [.cells [vI v.kind, vI v.n, vS v.s, vL (v.l.map valIn), vL (v.f.map fldIn)], .cells [vI 0, vI 0, vS ([]), .own [], .own []]], m)) (fun i => 0 ≤ i ∧ i ≤ v.f.length ∧ mget v.f s = mget (v.f.drop i.toNat) s) (fun i => v.f.length - i.toNat) (0) ⟨rfl, rfl⟩ ?_ ?_
 · try dsimp only
   exact ⟨by omega, by omega, rfl⟩
 rintro i hI
 refine sq ?_
 refine ln ?_
 refine an (fun h1 => ?_) (fun h1 => ?_)
 · refine sq ?_
   refine ixg fldTop fldIn_eq (by omega) ?_
   refine an (fun h2 => ?_) (fun h2 => ?_)
   · refine ixg fldTop fldIn_eq (by omega) ?_
     refine rt0 rfl fun _ => ?_
     show K (.tuple [.agg [.int .i64 (((gI v.f i).2).kind), .int .i64 (((gI v.f i).2).n), .str (((gI v.f i).2).s), .slice false ((((gI v.f i).2).l).map valIn), .slice false ((((gI v.f i).2).f).map fldIn)], .bool true]) m
     have e : mget v.f s = some (gI v.f i).2 := by rw [hI.2.2, mget_drop hI.1 h1, if_pos h2]
     rw [e] at hK; exact hK
   refine an (by omega) ?_
   refine ⟨(i + 1), ⟨rfl, rfl⟩, ?_, ?_⟩
   · try dsimp only
     exact ⟨by omega, by omega, by rw [hI.2.2, mget_drop hI.1 h1, if_neg h2]⟩
   try dsimp only
   omega
 refine rt0 rfl fun _ => ?_
 show K (.tuple [.agg [.int .i64 0, .int .i64 0, .str ([]), .slice false [], .slice false []], .bool false]) m
 have e : mget v.f s = none := by rw [hI.2.2, List.drop_eq_nil_of_le (by omega)]; rfl
 rw [e] at hK; exact hK
set_option maxHeartbeats 4000000 in
theorem u_added (a b : Val) (ha : chk a = 0) (hb : chk b = 0) (m : AMem)  (K : AV → AMem → Prop) (hK : K (.tuple [valTop (plusR a b).1, .int .i64 (plusR a b).2]) m) : ACalls Tryd.prog 56 [valTop a, valTop b] m K := by
 have hna := chk_num ha
 have hnb := chk_num hb
 have hla := chk_len ha
 have hlb := chk_len hb
 refine enter (c := cf [] [0] [6] [] [] []) (vs := [.av (valTop a), .av (valTop b)]) (L := []) (m := m) false tbOk Tryd.mixed Tryd.func56 rfl (k := 2) (by show fnOk [] _ _ _ = true; decide +kernel) rfl (Good.nil m) ?_
 refine ⟨fun F0 => ?_⟩
 have hbd0_2 : a.s.length ≤ 140737488355328 := (F0 0 2 (Nat.le_of_ble_eq_true rfl))
 have hbd0_3 : a.l.length ≤ 140737488355328 := bd_map (F0 0 3 (Nat.le_of_ble_eq_true rfl))
 have hbd0_4 : a.f.length ≤ 140737488355328 := bd_map (F0 0 4 (Nat.le_of_ble_eq_true rfl))
 have hbd1_2 : b.s.length ≤ 140737488355328 := (F0 1 2 (Nat.le_of_ble_eq_true rfl))
 have hbd1_3 : b.l.length ≤ 140737488355328 := bd_map (F0 1 3 (Nat.le_of_ble_eq_true rfl))
 have hbd1_4 : b.f.length ≤ 140737488355328 := bd_map (F0 1 4 (Nat.le_of_ble_eq_true rfl))
 refine sq ?_
 refine an (fun h1 => ?_) (fun h1 => ?_)
 · refine sq ?_
   refine an (fun h2 => ?_) (fun h2 => ?_)
   · refine an (by omega) ?_
     refine sq ?_
     refine mg [4, 6] 28 ((decide (1000000000 < a.n + b.n)) || (decide (a.n + b.n < -1000000000))) ?_ ?_
     · repeat' first
        | exact ⟨⟨_, rfl, by grind [SB.val]⟩, rfl⟩
        | refine an (fun _ => ?_) (fun _ => ?_)
     refine an (fun h3 => ?_) (fun h3 => ?_)
     · replace h3 : (1000000000 < a.n + b.n) ∨ (a.n + b.n < -1000000000) := ((borT h3).imp (fun q => (of_decide_eq_true q)) (fun q => (of_decide_eq_true q)))
       have e0 : plusR a b = (((⟨0, 0, [], [], []⟩ : Val), 1) : Val × Int) := by
        unfold plusR
        simp only [zV]
        first | (rw [if_pos (by omega)]; done) | (rw [if_neg (by omega), if_pos (by omega), if_pos (by omega)]; done) | (rw [if_neg (by omega), if_pos (by omega), if_neg (by omega)]; done) | (rw [if_neg (by omega), if_neg (by omega), if_pos (by omega), if_pos (by omega)]; done) | (rw [if_neg (by omega), if_neg (by omega), if_pos (by omega), if_neg (by omega)]; done) | (rw [if_neg (by omega), if_neg (by omega), if_neg (by omega), if_pos (by omega)]; done) | (rw [if_neg (by omega), if_neg (by omega), if_neg (by omega), if_neg (by omega)]; done)
       rw [e0] at hK
       exact rt0 rfl fun _ => hK
     replace h3 : (a.n + b.n ≤ 1000000000) ∧ (-1000000000 ≤ a.n + b.n) := ⟨(Int.not_lt.1 (of_decide_eq_false (borL h3))), (Int.not_lt.1 (of_decide_eq_false (borR h3)))⟩
     have e0 : plusR a b = (((⟨1, a.n + b.n, [], [], []⟩ : Val), 0) : Val × Int) := by
      unfold plusR
      simp only [zV]
      first | (rw [if_pos (by omega)]; done) | (rw [if_neg (by omega), if_pos (by omega), if_pos (by omega)]; done) | (rw [if_neg (by omega), if_pos (by omega), if_neg (by omega)]; done) | (rw [if_neg (by omega), if_neg (by omega), if_pos (by omega), if_pos (by omega)]; done) | (rw [if_neg (by omega), if_neg (by omega), if_pos (by omega), if_neg (by omega)]; done) | (rw [if_neg (by omega), if_neg (by omega), if_neg (by omega), if_pos (by omega)]; done) | (rw [if_neg (by omega), if_neg (by omega), if_neg (by omega), if_neg (by omega)]; done)
     rw [e0] at hK
     exact rt0 rfl fun _ => hK
   refine an (fun h4 => ?_) (fun h4 => ?_)
   · refine sq ?_
     refine an (by omega) ?_
     refine an (fun h5 => ?_) (fun h5 => ?_)
     · have e0 : plusR a b = (((⟨0, 0, [], [], []⟩ : Val), 1) : Val × Int) := by
        unfold plusR
        simp only [zV]
        first | (rw [if_pos (by omega)]; done) | (rw [if_neg (by omega), if_pos (by omega), if_pos (by omega)]; done) | (rw [if_neg (by omega), if_pos (by omega), if_neg (by omega)]; done) | (rw [if_neg (by omega), if_neg (by omega), if_pos (by omega), if_pos (by omega)]; done) | (rw [if_neg (by omega), if_neg (by omega), if_pos (by omega), if_neg (by omega)]; done) | (rw [if_neg (by omega), if_neg (by omega), if_neg (by omega), if_pos (by omega)]; done) | (rw [if_neg (by omega), if_neg (by omega), if_neg (by omega), if_neg (by omega)]; done)
       rw [e0] at hK
       exact rt0 rfl fun _ => hK
     refine an (by (first | omega | (simp only [List.length_append, List.length_cons, List.length_nil]; omega))) ?_
     have e0 : plusR a b = (((⟨2, 0, a.s ++ b.s, [], []⟩ : Val), 0) : Val × Int) := by
      unfold plusR
      simp only [zV]
      first | (rw [if_pos (by omega)]; done) | (rw [if_neg (by omega), if_pos (by omega), if_pos (by omega)]; done) | (rw [if_neg (by omega), if_pos (by omega), if_neg (by omega)]; done) | (rw [if_neg (by omega), if_neg (by omega), if_pos (by omega), if_pos (by omega)]; done) | (rw [if_neg (by omega), if_neg (by omega), if_pos (by omega), if_neg (by omega)]; done) | (rw [if_neg (by omega), if_neg (by omega), if_neg (by omega), if_pos (by omega)]; done) | (rw [if_neg (by omega), if_neg (by omega), if_neg (by omega), if_neg (by omega)]; done)
     rw [e0] at hK
     exact rt0 rfl fun _ => hK
   refine an (fun h6 => ?_) (fun h6 => ?_)
   · refine ap valIn ([]) a.l (by simp only [List.map_cons, List.map_nil, valIn_eq]; try rfl) rfl (fun a => by rw [valIn_eq]; exact ⟨rfl, rfl⟩) (by (simp only [List.length_append, List.length_cons, List.length_nil]; omega)) ?_
     refine ap valIn a.l b.l rfl rfl (fun a => by rw [valIn_eq]; exact ⟨rfl, rfl⟩) (by (simp only [List.length_append, List.length_cons, List.length_nil]; omega)) ?_
     have e0 : plusR a b = (((⟨4, 0, [], a.l ++ b.l, []⟩ : Val), 0) : Val × Int) := by
      unfold plusR
      simp only [zV]
      first | (rw [if_pos (by omega)]; done) | (rw [if_neg (by omega), if_pos (by omega), if_pos (by omega)]; done) | (rw [if_neg (by omega), if_pos (by omega), if_neg (by omega)]; done) | (rw [if_neg (by omega), if_neg (by omega), if_pos (by omega), if_pos (by omega)]; done) | (rw [if_neg (by omega), if_neg (by omega), if_pos (by omega), if_neg (by omega)]; done) | (rw [if_neg (by omega), if_neg (by omega), if_neg (by omega), if_pos (by omega)]; done) | (rw [if_neg (by omega), if_neg (by omega), if_neg (by omega), if_neg (by omega)]; done)
     rw [e0] at hK
     exact rt0 rfl fun _ => hK
   have e0 : plusR a b = (((⟨0, 0, [], [], []⟩ : Val), 9) : Val × Int) := by
    unfold plusR
    simp only [zV]
    first | (rw [if_pos (by omega)]; done) | (rw [if_neg (by omega), if_pos (by omega), if_pos (by omega)]; done) | (rw [if_neg (by omega), if_pos (by omega), if_neg (by omega)]; done) | (rw [if_neg (by omega), if_neg (by omega), if_pos (by omega), if_pos (by omega)]; done) | (rw [if_neg (by omega), if_neg (by omega), if_pos (by omega), if_neg (by omega)]; done) | (rw [if_neg (by omega), if_neg (by omega), if_neg (by omega), if_pos (by omega)]; done) | (rw [if_neg (by omega), if_neg (by omega), if_neg (by omega), if_neg (by omega)]; done)
   rw [e0] at hK
   exact rt0 rfl fun _ => hK
 have e0 : plusR a b = (((⟨0, 0, [], [], []⟩ : Val), 9) : Val × Int) := by
  unfold plusR
  simp only [zV]
  first | (rw [if_pos (by omega)]; done) | (rw [if_neg (by omega), if_pos (by omega), if_pos (by omega)]; done) | (rw [if_neg (by omega), if_pos (by omega), if_neg (by omega)]; done) | (rw [if_neg (by omega), if_neg (by omega), if_pos (by omega), if_pos (by omega)]; done) | (rw [if_neg (by omega), if_neg (by omega), if_pos (by omega), if_neg (by omega)]; done) | (rw [if_neg (by omega), if_neg (by omega), if_neg (by omega), if_pos (by omega)]; done) | (rw [if_neg (by omega), if_neg (by omega), if_neg (by omega), if_neg (by omega)]; done)
 rw [e0] at hK
 exact rt0 rfl fun _ => hK
set_option maxHeartbeats 4000000 in
theorem u_REval1 (e : Exp) (bi br bf : Nat) (en rs : VMap) (fe : FMap) (r : Val × Int) (hr : rB r) (ih : ∀ (m : AMem), EnvM m bi br bf en rs fe → ∀ (K : AV → AMem → Prop), K (.tuple [valTop (r).1, .int .i64 (r).2]) m → ACalls Tryd.prog 31 [expTop e, .agg [.map bi, .map br, .map bf]] m K) (m : AMem)  (K : AV → AMem → Prop) (hE : EnvM m bi br bf en rs fe) (hK : K (.tuple [valTop (fin r).1, .int .i64 (fin r).2]) m) : ACalls Tryd.prog 12 [expTop e, .agg [.map bi, .map br, .map bf]] m K := by
 have hr1 := hr.1
 have hr2 := hr.2
 have hcn := chk_nn r.1
 refine enter (c := cf [] [] [] [] [] []) (vs := [.av (expTop e), .agg [.av (.map bi), .av (.map br), .av (.map bf)]]) (L := []) (m := m) false tbOk Tryd.mixed Tryd.func12 rfl (k := 2) (by show fnOk [] _ _ _ = true; decide +kernel) rfl (Good.nil m) ?_
 refine callT [] [] (.av (.tuple [valTop ((r).1), .int .i64 ((r).2)])) rfl (fun bs mm gd ht => ih mm (hE.up ht)) ?_
 refine sq ?_
 refine an (fun h1 => ?_) (fun h1 => ?_)
 · refine call0 (fun _ => u_Fault ((r).1) (by omega)) rfl ?_
   refine sq ?_
   refine an (fun h2 => ?_) (fun h2 => ?_)
   · have e0 : fin r = (((⟨0, 0, [], [], []⟩ : Val), chk ((r).1)) : Val × Int) := by
      first | omega | (rw [fin, if_pos (by omega), if_pos (by omega)]; done) | (rw [fin, if_pos (by omega), if_neg (by omega)]; rfl) | (rw [fin, if_neg (by omega)]; rfl)
     rw [e0] at hK
     exact rt0 rfl fun _ => hK
   have e0 : fin r = ((((r).1), 0) : Val × Int) := by
    first | omega | (rw [fin, if_pos (by omega), if_pos (by omega)]; done) | (rw [fin, if_pos (by omega), if_neg (by omega)]; rfl) | (rw [fin, if_neg (by omega)]; rfl)
   rw [e0] at hK
   exact rt0 rfl fun _ => hK
 refine sq ?_
 refine an (fun h3 => ?_) (fun h3 => ?_)
 · have e0 : fin r = (((⟨0, 0, [], [], []⟩ : Val), (r).2) : Val × Int) := by
    first | omega | (rw [fin, if_pos (by omega), if_pos (by omega)]; done) | (rw [fin, if_pos (by omega), if_neg (by omega)]; rfl) | (rw [fin, if_neg (by omega)]; rfl)
   rw [e0] at hK
   exact rt0 rfl fun _ => hK
 have e0 : fin r = ((((r).1), 0) : Val × Int) := by
  first | omega | (rw [fin, if_pos (by omega), if_pos (by omega)]; done) | (rw [fin, if_pos (by omega), if_neg (by omega)]; rfl) | (rw [fin, if_neg (by omega)]; rfl)
 rw [e0] at hK
 exact rt0 rfl fun _ => hK
set_option maxHeartbeats 8000000 in
theorem u_reckon1 (k : Nat) (e : Exp) (bi br bf : Nat) (en rs : VMap) (fe : FMap) (hen : EnvD en rs fe) (hz : szE e ≤ 1000000000) (ih : ∀ x : Exp, depE x < k → szE x ≤ 1000000000 → ∀ (m : AMem), EnvM m bi br bf en rs fe → ∀ (K : AV → AMem → Prop), K (.tuple [valTop (evF en rs fe k x).1, .int .i64 (evF en rs fe k x).2]) m → ACalls Tryd.prog 31 [expTop x, .agg [.map bi, .map br, .map bf]] m K) (hd : depE e < k + 1) (m : AMem)  (K : AV → AMem → Prop) (hE : EnvM m bi br bf en rs fe) (hK : K (.tuple [valTop (evF en rs fe (k + 1) e).1, .int .i64 (evF en rs fe (k + 1) e).2]) m) : ACalls Tryd.prog 31 [expTop e, .agg [.map bi, .map br, .map bf]] m K := by
 obtain ⟨fm, hfm, hfe⟩ := hE.f
 have hse := szE_eq e
 have hal := szL_len e.a
 have hgn : ∀ x ∈ e.a, 0 ≤ (gE en rs fe k x).2 := fun x hx => fin_nn (evF_d hen k x (by have := szL_mem hx; omega)).1
 refine enter (c := cf [] [0, 14] [] [19999, 31999, 56999, 63999] [19, 31, 56, 63] []) (vs := [.av (expTop e), .agg [.av (.map bi), .av (.map br), .av (.map bf)]]) (L := []) (m := m) false tbOk Tryd.mixed Tryd.func31 rfl (k := 2) (by show fnOk [19999, 31999, 56999, 63999] _ _ _ = true; decide +kernel) rfl (Good.nil m) ?_
 refine ⟨fun F0 => ?_⟩
 have hbd0_3 : e.v.s.length ≤ 140737488355328 := (F0 0 3 (Nat.le_of_ble_eq_true rfl))
 have hbd0_4 : e.v.l.length ≤ 140737488355328 := bd_map (F0 0 4 (Nat.le_of_ble_eq_true rfl))
 have hbd0_5 : e.v.f.length ≤ 140737488355328 := bd_map (F0 0 5 (Nat.le_of_ble_eq_true rfl))
 have hbd0_6 : e.s.length ≤ 140737488355328 := (F0 0 6 (Nat.le_of_ble_eq_true rfl))
 have hbd0_7 : e.t.length ≤ 140737488355328 := (F0 0 7 (Nat.le_of_ble_eq_true rfl))
 have hbd0_8 : e.a.length ≤ 140737488355328 := bd_map (F0 0 8 (Nat.le_of_ble_eq_true rfl))
 have hbd0_9 : e.n.length ≤ 140737488355328 := bd_map (F0 0 9 (Nat.le_of_ble_eq_true rfl))
 refine sq ?_
 refine an (fun h1 => ?_) (fun h1 => ?_)
 · have e0 : evF en rs fe (k + 1) e = ((e.v, 0) : Val × Int) := by
    exact evF_1 (by assumption)
   rw [e0] at hK
   exact rt0 rfl fun _ => hK
 refine an (fun h2 => ?_) (fun h2 => ?_)
 · refine mloB tbOk (dk := .string) strAV valTop strKey_ok en e.s zV mpSV rfl hE.i rfl rfl rfl ?_ rfl
   refine call0 (fun _ => u_found ((mget en e.s).getD zV) ((mget en e.s).isSome)) rfl ?_
   have e0 : evF en rs fe (k + 1) e = ((((namedB ((mget en e.s).getD zV) ((mget en e.s).isSome)).1), (namedB ((mget en e.s).getD zV) ((mget en e.s).isSome)).2) : Val × Int) := by
    exact evF_2 (by assumption)
   rw [e0] at hK
   exact rt0 rfl fun _ => hK
 refine an (fun h3 => ?_) (fun h3 => ?_)
 · refine mloB tbOk (dk := .string) strAV valTop strKey_ok rs e.s zV mpSV rfl hE.r rfl rfl rfl ?_ rfl
   refine sq ?_
   refine an (fun h4 => ?_) (fun h4 => ?_)
   · refine call0 (fun _ => u_RGet ((mget rs e.s).getD zV) e.t) rfl ?_
     refine call0 (fun _ => u_found ((mget ((mget rs e.s).getD zV).f e.t).getD zV) ((mget ((mget rs e.s).getD zV).f e.t).isSome)) rfl ?_
     have e0 : evF en rs fe (k + 1) e = ((((namedB ((mget ((mget rs e.s).getD zV).f e.t).getD zV) ((mget ((mget rs e.s).getD zV).f e.t).isSome)).1), (namedB ((mget ((mget rs e.s).getD zV).f e.t).getD zV) ((mget ((mget rs e.s).getD zV).f e.t).isSome)).2) : Val × Int) := by
      first | exact evF_30 (by assumption) rfl | exact evF_30 (by assumption) (by assumption) | exact evF_31 (by assumption) (by assumption)
     rw [e0] at hK
     exact rt0 rfl fun _ => hK
   have e0 : evF en rs fe (k + 1) e = (((⟨0, 0, [], [], []⟩ : Val), 7) : Val × Int) := by
    first | exact evF_30 (by assumption) rfl | exact evF_30 (by assumption) (by assumption) | exact evF_31 (by assumption) (by assumption)
   rw [e0] at hK
   exact rt0 rfl fun _ => hK
 refine an (fun h5 => ?_) (fun h5 => ?_)
 · refine ⟨fun _ => ?_⟩
   rcases hq9 : (mget fm e.s).getD none with _ | b9 <;> have hfe9 := hfe e.s <;> rw [hq9] at hfe9
   · refine mlkO tbOk (dk := .string) strAV strKey_ok fm e.s none mpSM hfm hq9 rfl rfl rfl ?_
     refine mloN tbOk (dk := .string) (v := valTop zV) strAV strKey_ok e.t mpSV rfl rfl rfl ?_ rfl
     refine call0 (fun _ => u_found zV false) rfl ?_
     have e0 : evF en rs fe (k + 1) e = ((((namedB zV false).1), (namedB zV false).2) : Val × Int) := by
      first | exact evF_40 (by assumption) (by assumption) | exact evF_40 (by assumption) rfl | exact evF_4 (by assumption)
     rw [e0] at hK
     exact rt0 rfl fun _ => hK
   · refine mlkO tbOk (dk := .string) strAV strKey_ok fm e.s (some b9) mpSM hfm hq9 rfl rfl rfl ?_
     refine mloB tbOk (dk := .string) strAV valTop strKey_ok ((mget fe e.s).getD []) e.t zV mpSV rfl hfe9 rfl rfl rfl ?_ rfl
     refine call0 (fun _ => u_found ((mget ((mget fe e.s).getD []) e.t).getD zV) ((mget ((mget fe e.s).getD []) e.t).isSome)) rfl ?_
     have e0 : evF en rs fe (k + 1) e = ((((namedB ((mget ((mget fe e.s).getD []) e.t).getD zV) ((mget ((mget fe e.s).getD []) e.t).isSome)).1), (namedB ((mget ((mget fe e.s).getD []) e.t).getD zV) ((mget ((mget fe e.s).getD []) e.t).isSome)).2) : Val × Int) := by
      first | exact evF_40 (by assumption) (by assumption) | exact evF_40 (by assumption) rfl | exact evF_4 (by assumption)
     rw [e0] at hK
     exact rt0 rfl fun _ => hK
 refine an (fun h6 => ?_) (fun h6 => ?_)
 · refine sq ?_
   refine ln ?_
   refine an (fun h7 => ?_) (fun h7 => ?_)
   · refine rgA tbOk Tryd.mixed (σ := Unit) (.f 0 (.o 1 (.o 2 (.o 3 (.o 4 (.o 5 (.f 6 (.o 7 (.o 8 (.s 9 (.s 10 (.s 11 .d))) (.o 9 (.o 8 (.s 10 (.s 11 .d)) (.o 10 (.s 8 (.s 11 .d)) .z)) .z)) (.o 8 (.o 7 (.s 9 (.s 10 (.s 11 .d))) (.o 9 (.s 7 (.s 10 (.s 11 .d))) .z)) (.o 9 (.o 7 (.o 8 (.s 10 (.s 11 .d)) (.o 10 (.s 8 (.s 11 .d)) .z)) (.o 8 (.s 7 (.s 10 (.s 11 .d))) .z)) .z)))) (.o 9 (.s 5 (.f 6 (.o 7 (.o 8 (.s 10 (.s 11 .d)) (.o 10 (.s 8 (.s 11 .d)) .z)) (.o 8 (.s 7 (.s 10 (.s 11 .d))) .z)))) .z)) (.o 9 (.s 4 (.s 5 (.f 6 (.o 7 (.o 8 (.s 10 (.s 11 .d)) (.o 10 (.s 8 (.s 11 .d)) .z)) (.o 8 (.s 7 (.s 10 (.s 11 .d))) .z))))) .z)) (.o 4 (.o 3 (.o 5 (.f 6 (.o 7 (.o 8 (.s 9 (.s 10 (.s 11 .d))) (.o 9 (.o 8 (.s 10 (.s 11 .d)) (.o 10 (.s 8 (.s 11 .d)) .z)) .z)) (.o 8 (.o 7 (.s 9 (.s 10 (.s 11 .d))) (.o 9 (.s 7 (.s 10 (.s 11 .d))) .z)) (.o 9 (.o 7 (.o 8 (.s 10 (.s 11 .d)) (.o 10 (.s 8 (.s 11 .d)) .z)) (.o 8 (.s 7 (.s 10 (.s 11 .d))) .z)) .z)))) (.o 9 (.s 5 (.f 6 (.o 7 (.o 8 (.s 10 (.s 11 .d)) (.o 10 (.s 8 (.s 11 .d)) .z)) (.o 8 (.s 7 (.s 10 (.s 11 .d))) .z)))) .z)) (.o 9 (.s 3 (.s 5 (.f 6 (.o 7 (.o 8 (.s 10 (.s 11 .d)) (.o 10 (.s 8 (.s 11 .d)) .z)) (.o 8 (.s 7 (.s 10 (.s 11 .d))) .z))))) .z)) (.o 9 (.o 3 (.s 4 (.s 5 (.f 6 (.o 7 (.o 8 (.s 10 (.s 11 .d)) (.o 10 (.s 8 (.s 11 .d)) .z)) (.o 8 (.s 7 (.s 10 (.s 11 .d))) .z))))) (.o 4 (.s 3 (.s 5 (.f 6 (.o 7 (.o 8 (.s 10 (.s 11 .d)) (.o 10 (.s 8 (.s 11 .d)) .z)) (.o 8 (.s 7 (.s 10 (.s 11 .d))) .z))))) .z)) .z))) (.o 4 (.o 2 (.o 3 (.o 5 (.f 6 (.o 7 (.o 8 (.s 9 (.s 10 (.s 11 .d))) (.o 9 (.o 8 (.s 10 (.s 11 .d)) (.o 10 (.s 8 (.s 11 .d)) .z)) .z)) (.o 8 (.o 7 (.s 9 (.s 10 (.s 11 .d))) (.o 9 (.s 7 (.s 10 (.s 11 .d))) .z)) (.o 9 (.o 7 (.o 8 (.s 10 (.s 11 .d)) (.o 10 (.s 8 (.s 11 .d)) .z)) (.o 8 (.s 7 (.s 10 (.s 11 .d))) .z)) .z)))) (.o 9 (.s 5 (.f 6 (.o 7 (.o 8 (.s 10 (.s 11 .d)) (.o 10 (.s 8 (.s 11 .d)) .z)) (.o 8 (.s 7 (.s 10 (.s 11 .d))) .z)))) .z)) (.o 9 (.s 3 (.s 5 (.f 6 (.o 7 (.o 8 (.s 10 (.s 11 .d)) (.o 10 (.s 8 (.s 11 .d)) .z)) (.o 8 (.s 7 (.s 10 (.s 11 .d))) .z))))) .z)) (.o 9 (.s 2 (.s 3 (.s 5 (.f 6 (.o 7 (.o 8 (.s 10 (.s 11 .d)) (.o 10 (.s 8 (.s 11 .d)) .z)) (.o 8 (.s 7 (.s 10 (.s 11 .d))) .z)))))) .z)) (.o 9 (.o 2 (.o 3 (.s 4 (.s 5 (.f 6 (.o 7 (.o 8 (.s 10 (.s 11 .d)) (.o 10 (.s 8 (.s 11 .d)) .z)) (.o 8 (.s 7 (.s 10 (.s 11 .d))) .z))))) (.o 4 (.s 3 (.s 5 (.f 6 (.o 7 (.o 8 (.s 10 (.s 11 .d)) (.o 10 (.s 8 (.s 11 .d)) .z)) (.o 8 (.s 7 (.s 10 (.s 11 .d))) .z))))) .z)) (.o 4 (.s 2 (.s 3 (.s 5 (.f 6 (.o 7 (.o 8 (.s 10 (.s 11 .d)) (.o 10 (.s 8 (.s 11 .d)) .z)) (.o 8 (.s 7 (.s 10 (.s 11 .d))) .z)))))) .z)) .z))) (.o 4 (.o 1 (.o 2 (.o 3 (.o 5 (.f 6 (.o 7 (.o 8 (.s 9 (.s 10 (.s 11 .d))) (.o 9 (.o 8 (.s 10 (.s 11 .d)) (.o 10 (.s 8 (.s 11 .d)) .z)) .z)) (.o 8 (.o 7 (.s 9 (.s 10 (.s 11 .d))) (.o 9 (.s 7 (.s 10 (.s 11 .d))) .z)) (.o 9 (.o 7 (.o 8 (.s 10 (.s 11 .d)) (.o 10 (.s 8 (.s 11 .d)) .z)) (.o 8 (.s 7 (.s 10 (.s 11 .d))) .z)) .z)))) (.o 9 (.s 5 (.f 6 (.o 7 (.o 8 (.s 10 (.s 11 .d)) (.o 10 (.s 8 (.s 11 .d)) .z)) (.o 8 (.s 7 (.s 10 (.s 11 .d))) .z)))) .z)) (.o 9 (.s 3 (.s 5 (.f 6 (.o 7 (.o 8 (.s 10 (.s 11 .d)) (.o 10 (.s 8 (.s 11 .d)) .z)) (.o 8 (.s 7 (.s 10 (.s 11 .d))) .z))))) .z)) (.o 9 (.s 2 (.s 3 (.s 5 (.f 6 (.o 7 (.o 8 (.s 10 (.s 11 .d)) (.o 10 (.s 8 (.s 11 .d)) .z)) (.o 8 (.s 7 (.s 10 (.s 11 .d))) .z)))))) .z)) (.o 9 (.s 1 (.s 2 (.s 3 (.s 5 (.f 6 (.o 7 (.o 8 (.s 10 (.s 11 .d)) (.o 10 (.s 8 (.s 11 .d)) .z)) (.o 8 (.s 7 (.s 10 (.s 11 .d))) .z))))))) .z)) (.o 9 (.o 1 (.o 2 (.o 3 (.s 4 (.s 5 (.f 6 (.o 7 (.o 8 (.s 10 (.s 11 .d)) (.o 10 (.s 8 (.s 11 .d)) .z)) (.o 8 (.s 7 (.s 10 (.s 11 .d))) .z))))) (.o 4 (.s 3 (.s 5 (.f 6 (.o 7 (.o 8 (.s 10 (.s 11 .d)) (.o 10 (.s 8 (.s 11 .d)) .z)) (.o 8 (.s 7 (.s 10 (.s 11 .d))) .z))))) .z)) (.o 4 (.s 2 (.s 3 (.s 5 (.f 6 (.o 7 (.o 8 (.s 10 (.s 11 .d)) (.o 10 (.s 8 (.s 11 .d)) .z)) (.o 8 (.s 7 (.s 10 (.s 11 .d))) .z)))))) .z)) (.o 4 (.s 1 (.s 2 (.s 3 (.s 5 (.f 6 (.o 7 (.o 8 (.s 10 (.s 11 .d)) (.o 10 (.s 8 (.s 11 .d)) .z)) (.o 8 (.s 7 (.s 10 (.s 11 .d))) .z))))))) .z)) .z)))) [] [2, 3, 4, 14, 15] 4 (fun _ => ([(2, .loc 0 0), (3, .loc 1 0), (4, .loc 2 0), (14, .loc 3 0), (15, vI ((gE en rs fe k (gI e.a 0)).2))], [.cells [vI e.kind, vI e.v.kind, vI e.v.n, vS e.v.s, vL (e.v.l.map valIn), vL (e.v.f.map fldIn), vS e.s, vS e.t, vL (e.a.map expIn), vL (e.n.map strAV)], .cells [.av (.map bi), .av (.map br), .av (.map bf)], .cells [vI 0, vI 0, vS ([]), .own [], .own []], .cells [vI (((gE en rs fe k (gI e.a 0)).1).kind), vI (((gE en rs fe k (gI e.a 0)).1).n), vS (((gE en rs fe k (gI e.a 0)).1).s), vL ((((gE en rs fe k (gI e.a 0)).1).l).map valIn), vL ((((gE en rs fe k (gI e.a 0)).1).f).map fldIn)]], m)) (fun _ => True) (by decide +kernel) ?_ ?_
     · rintro _ hy19
       try dsimp only at hy19
       refine sq ?_
       refine an (fun h8 => ?_) (fun h8 => ?_)
       · have e0 : evF en rs fe (k + 1) e = (((⟨0, 0, [], [], []⟩ : Val), (gE en rs fe k (gI e.a 0)).2) : Val × Int) := by
          first | exact evF_70 (by assumption) (by assumption) | exact evF_71 (by assumption) (by omega) (by omega) | exact evF_72 (by assumption) (by omega) (by omega) (by assumption) | (rw [evF_73 (by assumption) (by omega) (by omega) (by assumption)]; congr 3; omega)
         rw [e0] at hK
         exact rt0 rfl fun _ => hK
       have hg0 : (gE en rs fe k (gI e.a 0)).2 = 0 := by have := hgn _ (gI_mem (l := e.a) (i := 0) (by omega) (by omega)); omega
       refine sq ?_
       refine an (fun h9 => ?_) (fun h9 => ?_)
       · have hfl := chk_flag (v := (gE en rs fe k (gI e.a 0)).1) (fin_ok hg0) h9
         refine sq ?_
         refine an (fun h10 => ?_) (fun h10 => ?_)
         · refine ixg expTop expIn_eq (by omega) ?_
           refine pureT (x := .tuple [valTop ((evF en rs fe k (gI e.a 1)).1), .int .i64 ((evF en rs fe k (gI e.a 1)).2)]) (fun bs mm ht => ih (gI e.a 1) (by have := depE_mem (gI_mem (l := e.a) (i := 1) (by omega) (by omega)); omega) (by have := szL_mem (gI_mem (l := e.a) (i := 1) (by omega) (by omega)); omega) mm (hE.up ht)) ?_
           have e0 : evF en rs fe (k + 1) e = ((((evF en rs fe k (gI e.a 1)).1), (evF en rs fe k (gI e.a 1)).2) : Val × Int) := by
            first | exact evF_70 (by assumption) (by assumption) | exact evF_71 (by assumption) (by omega) (by omega) | exact evF_72 (by assumption) (by omega) (by omega) (by assumption) | (rw [evF_73 (by assumption) (by omega) (by omega) (by assumption)]; congr 3; omega)
           rw [e0] at hK
           exact rt0 rfl fun _ => hK
         refine ixg expTop expIn_eq (by omega) ?_
         refine pureT (x := .tuple [valTop ((evF en rs fe k (gI e.a 2)).1), .int .i64 ((evF en rs fe k (gI e.a 2)).2)]) (fun bs mm ht => ih (gI e.a 2) (by have := depE_mem (gI_mem (l := e.a) (i := 2) (by omega) (by omega)); omega) (by have := szL_mem (gI_mem (l := e.a) (i := 2) (by omega) (by omega)); omega) mm (hE.up ht)) ?_
         have e0 : evF en rs fe (k + 1) e = ((((evF en rs fe k (gI e.a 2)).1), (evF en rs fe k (gI e.a 2)).2) : Val × Int) := by
          first | exact evF_70 (by assumption) (by assumption) | exact evF_71 (by assumption) (by omega) (by omega) | exact evF_72 (by assumption) (by omega) (by omega) (by assumption) | (rw [evF_73 (by assumption) (by omega) (by omega) (by assumption)]; congr 3; omega)
         rw [e0] at hK
         exact rt0 rfl fun _ => hK
       have e0 : evF en rs fe (k + 1) e = (((⟨0, 0, [], [], []⟩ : Val), 9) : Val × Int) := by
        first | exact evF_70 (by assumption) (by assumption) | exact evF_71 (by assumption) (by omega) (by omega) | exact evF_72 (by assumption) (by omega) (by omega) (by assumption) | (rw [evF_73 (by assumption) (by omega) (by omega) (by assumption)]; congr 3; omega)
       rw [e0] at hK
       exact rt0 rfl fun _ => hK
     repeat' first
      | refine ⟨(), ⟨rfl, rfl⟩, trivial⟩
      | refine ixg expTop expIn_eq (by omega) ?_
      | refine callT [] [] (.av (.tuple [valTop ((gE en rs fe k (gI e.a 0)).1), .int .i64 ((gE en rs fe k (gI e.a 0)).2)])) rfl (fun bs mm gd ht => fun K hK => u_REval1 (gI e.a 0) bi br bf en rs fe (evF en rs fe k (gI e.a 0)) (evF_d hen k _ (by have := szL_mem (gI_mem (l := e.a) (i := 0) (by omega) (by omega)); omega)) (ih _ (by have := depE_mem (gI_mem (l := e.a) (i := 0) (by omega) (by omega)); omega) (by have := szL_mem (gI_mem (l := e.a) (i := 0) (by omega) (by omega)); omega)) mm K (hE.up ht) hK) ?_
      | refine ⟨?_, ?_, ?_, trivial⟩
      | refine ⟨?_, ?_, trivial⟩
   have e0 : evF en rs fe (k + 1) e = (((⟨0, 0, [], [], []⟩ : Val), 3) : Val × Int) := by
    first | exact evF_70 (by assumption) (by assumption) | exact evF_71 (by assumption) (by omega) (by omega) | exact evF_72 (by assumption) (by omega) (by omega) (by assumption) | (rw [evF_73 (by assumption) (by omega) (by omega) (by assumption)]; congr 3; omega)
   rw [e0] at hK
   exact rt0 rfl fun _ => hK
 refine sq ?_
 refine lp (σ := (List Val) × Int) [] [2, 3, 4, 16, 17] 3 (fun ⟨l, i⟩ => ([(2, .loc 0 0), (3, .loc 1 0), (4, .loc 2 0), (16, .own (l.map valIn)), (17, vI i)], [.cells [vI e.kind, vI e.v.kind, vI e.v.n, vS e.v.s, vL (e.v.l.map valIn), vL (e.v.f.map fldIn), vS e.s, vS e.t, vL (e.a.map expIn), vL (e.n.map strAV)], .cells [.av (.map bi), .av (.map br), .av (.map bf)], .cells [vI 0, vI 0, vS ([]), .own [], .own []]], m)) (fun ⟨l, i⟩ => 0 ≤ i ∧ i ≤ e.a.length ∧ allE (gE en rs fe k) e.a = allE (gE en rs fe k) (e.a.drop i.toNat) ∧ l = (e.a.take i.toNat).map (fun x => (gE en rs fe k x).1)) (fun ⟨l, i⟩ => e.a.length - i.toNat) ([], 0) ⟨rfl, rfl⟩ ?_ ?_
 · try dsimp only
   exact ⟨by omega, by omega, rfl, rfl⟩
 rintro ⟨l, i⟩ hI
 dsimp only at hI
 have hol : (l.length : Int) ≤ i := by rw [hI.2.2.2, List.length_map, List.length_take]; omega
 refine sq ?_
 refine ln ?_
 refine an (fun h11 => ?_) (fun h11 => ?_)
 · refine sq ?_
   refine rgA tbOk Tryd.mixed (σ := Unit) (.f 0 (.f 2 (.o 1 (.o 3 (.o 4 (.o 5 (.o 6 (.f 7 (.o 8 (.o 9 (.s 10 (.s 11 (.s 12 .d))) (.o 10 (.o 9 (.s 11 (.s 12 .d)) (.o 11 (.s 9 (.s 12 .d)) .z)) .z)) (.o 9 (.o 8 (.s 10 (.s 11 (.s 12 .d))) (.o 10 (.s 8 (.s 11 (.s 12 .d))) .z)) (.o 10 (.o 8 (.o 9 (.s 11 (.s 12 .d)) (.o 11 (.s 9 (.s 12 .d)) .z)) (.o 9 (.s 8 (.s 11 (.s 12 .d))) .z)) .z)))) (.o 10 (.s 6 (.f 7 (.o 8 (.o 9 (.s 11 (.s 12 .d)) (.o 11 (.s 9 (.s 12 .d)) .z)) (.o 9 (.s 8 (.s 11 (.s 12 .d))) .z)))) .z)) (.o 10 (.s 5 (.s 6 (.f 7 (.o 8 (.o 9 (.s 11 (.s 12 .d)) (.o 11 (.s 9 (.s 12 .d)) .z)) (.o 9 (.s 8 (.s 11 (.s 12 .d))) .z))))) .z)) (.o 5 (.o 4 (.o 6 (.f 7 (.o 8 (.o 9 (.s 10 (.s 11 (.s 12 .d))) (.o 10 (.o 9 (.s 11 (.s 12 .d)) (.o 11 (.s 9 (.s 12 .d)) .z)) .z)) (.o 9 (.o 8 (.s 10 (.s 11 (.s 12 .d))) (.o 10 (.s 8 (.s 11 (.s 12 .d))) .z)) (.o 10 (.o 8 (.o 9 (.s 11 (.s 12 .d)) (.o 11 (.s 9 (.s 12 .d)) .z)) (.o 9 (.s 8 (.s 11 (.s 12 .d))) .z)) .z)))) (.o 10 (.s 6 (.f 7 (.o 8 (.o 9 (.s 11 (.s 12 .d)) (.o 11 (.s 9 (.s 12 .d)) .z)) (.o 9 (.s 8 (.s 11 (.s 12 .d))) .z)))) .z)) (.o 10 (.s 4 (.s 6 (.f 7 (.o 8 (.o 9 (.s 11 (.s 12 .d)) (.o 11 (.s 9 (.s 12 .d)) .z)) (.o 9 (.s 8 (.s 11 (.s 12 .d))) .z))))) .z)) (.o 10 (.o 4 (.s 5 (.s 6 (.f 7 (.o 8 (.o 9 (.s 11 (.s 12 .d)) (.o 11 (.s 9 (.s 12 .d)) .z)) (.o 9 (.s 8 (.s 11 (.s 12 .d))) .z))))) (.o 5 (.s 4 (.s 6 (.f 7 (.o 8 (.o 9 (.s 11 (.s 12 .d)) (.o 11 (.s 9 (.s 12 .d)) .z)) (.o 9 (.s 8 (.s 11 (.s 12 .d))) .z))))) .z)) .z))) (.o 5 (.o 3 (.o 4 (.o 6 (.f 7 (.o 8 (.o 9 (.s 10 (.s 11 (.s 12 .d))) (.o 10 (.o 9 (.s 11 (.s 12 .d)) (.o 11 (.s 9 (.s 12 .d)) .z)) .z)) (.o 9 (.o 8 (.s 10 (.s 11 (.s 12 .d))) (.o 10 (.s 8 (.s 11 (.s 12 .d))) .z)) (.o 10 (.o 8 (.o 9 (.s 11 (.s 12 .d)) (.o 11 (.s 9 (.s 12 .d)) .z)) (.o 9 (.s 8 (.s 11 (.s 12 .d))) .z)) .z)))) (.o 10 (.s 6 (.f 7 (.o 8 (.o 9 (.s 11 (.s 12 .d)) (.o 11 (.s 9 (.s 12 .d)) .z)) (.o 9 (.s 8 (.s 11 (.s 12 .d))) .z)))) .z)) (.o 10 (.s 4 (.s 6 (.f 7 (.o 8 (.o 9 (.s 11 (.s 12 .d)) (.o 11 (.s 9 (.s 12 .d)) .z)) (.o 9 (.s 8 (.s 11 (.s 12 .d))) .z))))) .z)) (.o 10 (.s 3 (.s 4 (.s 6 (.f 7 (.o 8 (.o 9 (.s 11 (.s 12 .d)) (.o 11 (.s 9 (.s 12 .d)) .z)) (.o 9 (.s 8 (.s 11 (.s 12 .d))) .z)))))) .z)) (.o 10 (.o 3 (.o 4 (.s 5 (.s 6 (.f 7 (.o 8 (.o 9 (.s 11 (.s 12 .d)) (.o 11 (.s 9 (.s 12 .d)) .z)) (.o 9 (.s 8 (.s 11 (.s 12 .d))) .z))))) (.o 5 (.s 4 (.s 6 (.f 7 (.o 8 (.o 9 (.s 11 (.s 12 .d)) (.o 11 (.s 9 (.s 12 .d)) .z)) (.o 9 (.s 8 (.s 11 (.s 12 .d))) .z))))) .z)) (.o 5 (.s 3 (.s 4 (.s 6 (.f 7 (.o 8 (.o 9 (.s 11 (.s 12 .d)) (.o 11 (.s 9 (.s 12 .d)) .z)) (.o 9 (.s 8 (.s 11 (.s 12 .d))) .z)))))) .z)) .z))) (.o 5 (.o 1 (.o 3 (.o 4 (.o 6 (.f 7 (.o 8 (.o 9 (.s 10 (.s 11 (.s 12 .d))) (.o 10 (.o 9 (.s 11 (.s 12 .d)) (.o 11 (.s 9 (.s 12 .d)) .z)) .z)) (.o 9 (.o 8 (.s 10 (.s 11 (.s 12 .d))) (.o 10 (.s 8 (.s 11 (.s 12 .d))) .z)) (.o 10 (.o 8 (.o 9 (.s 11 (.s 12 .d)) (.o 11 (.s 9 (.s 12 .d)) .z)) (.o 9 (.s 8 (.s 11 (.s 12 .d))) .z)) .z)))) (.o 10 (.s 6 (.f 7 (.o 8 (.o 9 (.s 11 (.s 12 .d)) (.o 11 (.s 9 (.s 12 .d)) .z)) (.o 9 (.s 8 (.s 11 (.s 12 .d))) .z)))) .z)) (.o 10 (.s 4 (.s 6 (.f 7 (.o 8 (.o 9 (.s 11 (.s 12 .d)) (.o 11 (.s 9 (.s 12 .d)) .z)) (.o 9 (.s 8 (.s 11 (.s 12 .d))) .z))))) .z)) (.o 10 (.s 3 (.s 4 (.s 6 (.f 7 (.o 8 (.o 9 (.s 11 (.s 12 .d)) (.o 11 (.s 9 (.s 12 .d)) .z)) (.o 9 (.s 8 (.s 11 (.s 12 .d))) .z)))))) .z)) (.o 10 (.s 1 (.s 3 (.s 4 (.s 6 (.f 7 (.o 8 (.o 9 (.s 11 (.s 12 .d)) (.o 11 (.s 9 (.s 12 .d)) .z)) (.o 9 (.s 8 (.s 11 (.s 12 .d))) .z))))))) .z)) (.o 10 (.o 1 (.o 3 (.o 4 (.s 5 (.s 6 (.f 7 (.o 8 (.o 9 (.s 11 (.s 12 .d)) (.o 11 (.s 9 (.s 12 .d)) .z)) (.o 9 (.s 8 (.s 11 (.s 12 .d))) .z))))) (.o 5 (.s 4 (.s 6 (.f 7 (.o 8 (.o 9 (.s 11 (.s 12 .d)) (.o 11 (.s 9 (.s 12 .d)) .z)) (.o 9 (.s 8 (.s 11 (.s 12 .d))) .z))))) .z)) (.o 5 (.s 3 (.s 4 (.s 6 (.f 7 (.o 8 (.o 9 (.s 11 (.s 12 .d)) (.o 11 (.s 9 (.s 12 .d)) .z)) (.o 9 (.s 8 (.s 11 (.s 12 .d))) .z)))))) .z)) (.o 5 (.s 1 (.s 3 (.s 4 (.s 6 (.f 7 (.o 8 (.o 9 (.s 11 (.s 12 .d)) (.o 11 (.s 9 (.s 12 .d)) .z)) (.o 9 (.s 8 (.s 11 (.s 12 .d))) .z))))))) .z)) .z))))) [] [2, 3, 4, 16, 17, 18, 19] 4 (fun _ => ([(2, .loc 0 0), (3, .loc 1 0), (4, .loc 2 0), (16, .own (l.map valIn)), (17, vI i), (18, .loc 3 0), (19, vI ((gE en rs fe k (gI e.a i)).2))], [.cells [vI e.kind, vI e.v.kind, vI e.v.n, vS e.v.s, vL (e.v.l.map valIn), vL (e.v.f.map fldIn), vS e.s, vS e.t, vL (e.a.map expIn), vL (e.n.map strAV)], .cells [.av (.map bi), .av (.map br), .av (.map bf)], .cells [vI 0, vI 0, vS ([]), .own [], .own []], .cells [vI (((gE en rs fe k (gI e.a i)).1).kind), vI (((gE en rs fe k (gI e.a i)).1).n), vS (((gE en rs fe k (gI e.a i)).1).s), vL ((((gE en rs fe k (gI e.a i)).1).l).map valIn), vL ((((gE en rs fe k (gI e.a i)).1).f).map fldIn)]], m)) (fun _ => True) (by decide +kernel) ?_ ?_
   · rintro _ hy31
     try dsimp only at hy31
     refine sq ?_
     refine an (fun h12 => ?_) (fun h12 => ?_)
     · have e0 : evF en rs fe (k + 1) e = (((⟨0, 0, [], [], []⟩ : Val), (gE en rs fe k (gI e.a i)).2) : Val × Int) := by
        first | (rw [evF_80 h1 h2 h3 h5 h6 (by rw [hI.2.2.1, allE_drop hI.1 h11, if_neg (by omega)]; omega), hI.2.2.1, allE_drop hI.1 h11, if_neg (by omega)] <;> rfl) | (rw [hev]; unfold joinR; simp only [zV]; rw [if_neg (by omega), if_neg (by omega), if_neg (by omega), if_neg (by omega), if_neg (by omega)])
       rw [e0] at hK
       exact rt0 rfl fun _ => hK
     refine ap valIn l ([((gE en rs fe k (gI e.a i)).1)] : List Val) rfl (by simp only [List.map_cons, List.map_nil, valIn_eq]; try rfl) (fun a => by rw [valIn_eq]; exact ⟨rfl, rfl⟩) (by (simp only [List.length_append, List.length_cons, List.length_nil]; omega)) ?_
     refine an (by omega) ?_
     refine ⟨(l ++ ([((gE en rs fe k (gI e.a i)).1)] : List Val), i + 1), ⟨rfl, rfl⟩, ?_, ?_⟩
     · try dsimp only
       exact ⟨by omega, by omega, by rw [hI.2.2.1, allE_drop hI.1 h11, if_pos (by have := hgn _ (gI_mem hI.1 h11); omega)], by rw [take_succ_gI hI.1 h11, List.map_append, ← hI.2.2.2]; rfl⟩
     try dsimp only
     omega
   repeat' first
    | refine ⟨(), ⟨rfl, rfl⟩, trivial⟩
    | refine ixg expTop expIn_eq (by omega) ?_
    | refine callT [] [] (.av (.tuple [valTop ((gE en rs fe k (gI e.a i)).1), .int .i64 ((gE en rs fe k (gI e.a i)).2)])) rfl (fun bs mm gd ht => fun K hK => u_REval1 (gI e.a i) bi br bf en rs fe (evF en rs fe k (gI e.a i)) (evF_d hen k _ (by have := szL_mem (gI_mem (l := e.a) (i := i) (by omega) (by omega)); omega)) (ih _ (by have := depE_mem (gI_mem (l := e.a) (i := i) (by omega) (by omega)); omega) (by have := szL_mem (gI_mem (l := e.a) (i := i) (by omega) (by omega)); omega)) mm K (hE.up ht) hK) ?_
    | refine ⟨?_, ?_, ?_, trivial⟩
    | refine ⟨?_, ?_, trivial⟩
 have hq0 : allE (gE en rs fe k) e.a = 0 := by rw [hI.2.2.1, List.drop_eq_nil_of_le (by omega)]; rfl
 have hq1 : allL (gE en rs fe k) e.a = l := by rw [allL, if_pos hq0, hI.2.2.2, take_full (by omega)]
 have hev : evF en rs fe (k + 1) e = joinR e l := by rw [evF_81 h1 h2 h3 h5 h6 hq0, hq1]
 have hll : ∀ v ∈ l, chk v = 0 := by rw [← hq1]; exact allL_ok (fun x h => fin_ok h)
 refine sq ?_
 refine an (fun h13 => ?_) (fun h13 => ?_)
 · refine sq ?_
   refine ln ?_
   refine an (fun h14 => ?_) (fun h14 => ?_)
   · refine ixg valTop valIn_eq (by omega) ?_
     refine ixg valTop valIn_eq (by omega) ?_
     refine pure0 (fun _ => u_added (gI l 0) (gI l 1) (hll _ (gI_mem (l := l) (i := 0) (by omega) (by omega))) (hll _ (gI_mem (l := l) (i := 1) (by omega) (by omega)))) ?_
     have e0 : evF en rs fe (k + 1) e = ((((plusR (gI l 0) (gI l 1)).1), (plusR (gI l 0) (gI l 1)).2) : Val × Int) := by
      rw [hev]; unfold joinR; simp only [zV]; first | (rw [if_neg (by omega), if_neg (by omega), if_neg (by omega), if_neg (by omega), if_neg (by omega)]; done) | rw [if_pos (by omega)]
     rw [e0] at hK
     exact rt0 rfl fun _ => hK
   have e0 : evF en rs fe (k + 1) e = (((⟨0, 0, [], [], []⟩ : Val), 3) : Val × Int) := by
    rw [hev]; unfold joinR; simp only [zV]; first | (rw [if_neg (by omega), if_neg (by omega), if_neg (by omega), if_neg (by omega), if_neg (by omega)]; done) | rw [if_pos (by omega)]
   rw [e0] at hK
   exact rt0 rfl fun _ => hK
 refine an (fun h15 => ?_) (fun h15 => ?_)
 · refine sq ?_
   refine ln ?_
   refine an (fun h16 => ?_) (fun h16 => ?_)
   · refine ixg valTop valIn_eq (by omega) ?_
     refine ixg valTop valIn_eq (by omega) ?_
     refine pure0 (fun _ => u_RAlike (gI l 0) (gI l 1)) ?_
     refine sq ?_
     refine an (fun h17 => ?_) (fun h17 => ?_)
     · have e0 : evF en rs fe (k + 1) e = (((⟨3, 1, [], [], []⟩ : Val), 0) : Val × Int) := by
        rw [hev]; unfold joinR; simp only [zV]; first | (rw [if_neg (by omega), if_neg (by omega), if_neg (by omega), if_neg (by omega), if_neg (by omega)]; done) | (rw [if_neg (by omega), if_pos (by omega), if_pos h17]; done) | (rw [if_neg (by omega), if_pos (by omega), if_neg (by rw [h17]; decide)]; done)
       rw [e0] at hK
       exact rt0 rfl fun _ => hK
     have e0 : evF en rs fe (k + 1) e = (((⟨3, 0, [], [], []⟩ : Val), 0) : Val × Int) := by
      rw [hev]; unfold joinR; simp only [zV]; first | (rw [if_neg (by omega), if_neg (by omega), if_neg (by omega), if_neg (by omega), if_neg (by omega)]; done) | (rw [if_neg (by omega), if_pos (by omega), if_pos h17]; done) | (rw [if_neg (by omega), if_pos (by omega), if_neg (by rw [h17]; decide)]; done)
     rw [e0] at hK
     exact rt0 rfl fun _ => hK
   have e0 : evF en rs fe (k + 1) e = (((⟨0, 0, [], [], []⟩ : Val), 3) : Val × Int) := by
    rw [hev]; unfold joinR; simp only [zV]; first | (rw [if_neg (by omega), if_neg (by omega), if_neg (by omega), if_neg (by omega), if_neg (by omega)]; done) | (rw [if_neg (by omega), if_pos (by omega), if_pos h17]; done) | (rw [if_neg (by omega), if_pos (by omega), if_neg (by rw [h17]; decide)]; done)
   rw [e0] at hK
   exact rt0 rfl fun _ => hK
 refine an (fun h18 => ?_) (fun h18 => ?_)
 · have e0 : evF en rs fe (k + 1) e = (((⟨4, 0, [], l, []⟩ : Val), 0) : Val × Int) := by
    rw [hev]; unfold joinR; simp only [zV]; rw [if_neg (by omega), if_neg (by omega), if_pos (by omega)]
   rw [e0] at hK
   exact rt0 rfl fun _ => hK
 refine an (fun h19 => ?_) (fun h19 => ?_)
 · refine sq ?_
   refine ln ?_
   refine ln ?_
   refine an (fun h20 => ?_) (fun h20 => ?_)
   · refine sq ?_
     refine lp (σ := Int × (List (Str × Val))) [] [2, 4, 16, 21, 22] 4 (fun ⟨j, of⟩ => ([(2, .loc 0 0), (4, .loc 2 0), (16, .own (l.map valIn)), (21, .loc 3 0), (22, vI j)], [.cells [vI e.kind, vI e.v.kind, vI e.v.n, vS e.v.s, vL (e.v.l.map valIn), vL (e.v.f.map fldIn), vS e.s, vS e.t, vL (e.a.map expIn), vL (e.n.map strAV)], .cells [.av (.map bi), .av (.map br), .av (.map bf)], .cells [vI 0, vI 0, vS ([]), .own [], .own []], .cells [vI 5, vI 0, vS ([] : Str), .own [], .own (of.map fldIn)]], m)) (fun ⟨j, of⟩ => 0 ≤ j ∧ j ≤ l.length ∧ of = (e.n.zip l).take j.toNat) (fun ⟨j, of⟩ => l.length - j.toNat) (0, []) ⟨rfl, rfl⟩ ?_ ?_
     · try dsimp only
       exact ⟨by omega, by omega, rfl⟩
     rintro ⟨j, of⟩ hI2
     dsimp only at hI2
     have hof2 : (of.length : Int) ≤ j := by rw [hI2.2.2, List.length_take]; omega
     refine sq ?_
     refine ln ?_
     refine an (fun h21 => ?_) (fun h21 => ?_)
     · refine sq ?_
       refine rgA tbOk Tryd.mixed (σ := Unit) (.f 0 (.f 2 (.f 4 (.f 7 (.f 8 (.o 1 (.o 3 (.o 5 (.o 6 (.s 9 (.s 10 (.s 11 (.s 12 (.s 13 (.f 14 (.s 15 .d))))))) (.o 9 (.o 6 (.s 10 (.s 11 (.s 12 (.s 13 (.f 14 (.s 15 .d)))))) (.o 10 (.s 6 (.s 11 (.s 12 (.s 13 (.f 14 (.s 15 .d)))))) .z)) .z)) (.o 9 (.o 5 (.o 6 (.s 10 (.s 11 (.s 12 (.s 13 (.f 14 (.s 15 .d)))))) (.o 10 (.s 6 (.s 11 (.s 12 (.s 13 (.f 14 (.s 15 .d)))))) .z)) (.o 10 (.s 5 (.s 6 (.s 11 (.s 12 (.s 13 (.f 14 (.s 15 .d))))))) .z)) .z)) (.o 9 (.o 3 (.o 5 (.o 6 (.s 10 (.s 11 (.s 12 (.s 13 (.f 14 (.s 15 .d)))))) (.o 10 (.s 6 (.s 11 (.s 12 (.s 13 (.f 14 (.s 15 .d)))))) .z)) (.o 10 (.s 5 (.s 6 (.s 11 (.s 12 (.s 13 (.f 14 (.s 15 .d))))))) .z)) (.o 10 (.s 3 (.s 5 (.s 6 (.s 11 (.s 12 (.s 13 (.f 14 (.s 15 .d)))))))) .z)) .z)) (.o 3 (.o 1 (.o 5 (.o 6 (.s 9 (.s 10 (.s 11 (.s 12 (.s 13 (.f 14 (.s 15 .d))))))) (.o 9 (.o 6 (.s 10 (.s 11 (.s 12 (.s 13 (.f 14 (.s 15 .d)))))) (.o 10 (.s 6 (.s 11 (.s 12 (.s 13 (.f 14 (.s 15 .d)))))) .z)) .z)) (.o 9 (.o 5 (.o 6 (.s 10 (.s 11 (.s 12 (.s 13 (.f 14 (.s 15 .d)))))) (.o 10 (.s 6 (.s 11 (.s 12 (.s 13 (.f 14 (.s 15 .d)))))) .z)) (.o 10 (.s 5 (.s 6 (.s 11 (.s 12 (.s 13 (.f 14 (.s 15 .d))))))) .z)) .z)) (.o 5 (.o 1 (.o 6 (.s 9 (.s 10 (.s 11 (.s 12 (.s 13 (.f 14 (.s 15 .d))))))) (.o 9 (.o 6 (.s 10 (.s 11 (.s 12 (.s 13 (.f 14 (.s 15 .d)))))) (.o 10 (.s 6 (.s 11 (.s 12 (.s 13 (.f 14 (.s 15 .d)))))) .z)) .z)) (.o 6 (.o 1 (.s 9 (.s 10 (.s 11 (.s 12 (.s 13 (.f 14 (.s 15 .d))))))) (.o 9 (.o 1 (.s 10 (.s 11 (.s 12 (.s 13 (.f 14 (.s 15 .d)))))) (.o 10 (.o 1 (.s 11 (.s 12 (.s 13 (.f 14 (.s 15 .d))))) (.o 11 (.o 1 (.s 12 (.s 13 (.f 14 (.s 15 .d)))) (.o 12 (.s 1 (.s 13 (.f 14 (.s 15 .d)))) .z)) .z)) .z)) .z)) (.o 9 (.o 1 (.o 6 (.s 10 (.s 11 (.s 12 (.s 13 (.f 14 (.s 15 .d)))))) (.o 10 (.s 6 (.s 11 (.s 12 (.s 13 (.f 14 (.s 15 .d)))))) .z)) (.o 6 (.o 1 (.s 10 (.s 11 (.s 12 (.s 13 (.f 14 (.s 15 .d)))))) (.o 10 (.o 1 (.s 11 (.s 12 (.s 13 (.f 14 (.s 15 .d))))) (.o 11 (.o 1 (.s 12 (.s 13 (.f 14 (.s 15 .d)))) (.o 12 (.s 1 (.s 13 (.f 14 (.s 15 .d)))) .z)) .z)) .z)) (.o 10 (.o 1 (.s 6 (.s 11 (.s 12 (.s 13 (.f 14 (.s 15 .d)))))) (.o 6 (.o 1 (.s 11 (.s 12 (.s 13 (.f 14 (.s 15 .d))))) (.o 11 (.o 1 (.s 12 (.s 13 (.f 14 (.s 15 .d)))) (.o 12 (.s 1 (.s 13 (.f 14 (.s 15 .d)))) .z)) .z)) .z)) .z))) .z))) (.o 9 (.o 1 (.o 5 (.o 6 (.s 10 (.s 11 (.s 12 (.s 13 (.f 14 (.s 15 .d)))))) (.o 10 (.s 6 (.s 11 (.s 12 (.s 13 (.f 14 (.s 15 .d)))))) .z)) (.o 10 (.s 5 (.s 6 (.s 11 (.s 12 (.s 13 (.f 14 (.s 15 .d))))))) .z)) (.o 5 (.o 1 (.o 6 (.s 10 (.s 11 (.s 12 (.s 13 (.f 14 (.s 15 .d)))))) (.o 10 (.s 6 (.s 11 (.s 12 (.s 13 (.f 14 (.s 15 .d)))))) .z)) (.o 6 (.o 1 (.s 10 (.s 11 (.s 12 (.s 13 (.f 14 (.s 15 .d)))))) (.o 10 (.o 1 (.s 11 (.s 12 (.s 13 (.f 14 (.s 15 .d))))) (.o 11 (.o 1 (.s 12 (.s 13 (.f 14 (.s 15 .d)))) (.o 12 (.s 1 (.s 13 (.f 14 (.s 15 .d)))) .z)) .z)) .z)) (.o 10 (.o 1 (.s 6 (.s 11 (.s 12 (.s 13 (.f 14 (.s 15 .d)))))) (.o 6 (.o 1 (.s 11 (.s 12 (.s 13 (.f 14 (.s 15 .d))))) (.o 11 (.o 1 (.s 12 (.s 13 (.f 14 (.s 15 .d)))) (.o 12 (.s 1 (.s 13 (.f 14 (.s 15 .d)))) .z)) .z)) .z)) .z))) (.o 10 (.o 1 (.s 5 (.s 6 (.s 11 (.s 12 (.s 13 (.f 14 (.s 15 .d))))))) (.o 5 (.o 1 (.s 6 (.s 11 (.s 12 (.s 13 (.f 14 (.s 15 .d)))))) (.o 6 (.o 1 (.s 11 (.s 12 (.s 13 (.f 14 (.s 15 .d))))) (.o 11 (.o 1 (.s 12 (.s 13 (.f 14 (.s 15 .d)))) (.o 12 (.s 1 (.s 13 (.f 14 (.s 15 .d)))) .z)) .z)) .z)) .z)) .z))) .z))) (.o 9 (.o 1 (.o 3 (.o 5 (.o 6 (.s 10 (.s 11 (.s 12 (.s 13 (.f 14 (.s 15 .d)))))) (.o 10 (.s 6 (.s 11 (.s 12 (.s 13 (.f 14 (.s 15 .d)))))) .z)) (.o 10 (.s 5 (.s 6 (.s 11 (.s 12 (.s 13 (.f 14 (.s 15 .d))))))) .z)) (.o 10 (.s 3 (.s 5 (.s 6 (.s 11 (.s 12 (.s 13 (.f 14 (.s 15 .d)))))))) .z)) (.o 3 (.o 1 (.o 5 (.o 6 (.s 10 (.s 11 (.s 12 (.s 13 (.f 14 (.s 15 .d)))))) (.o 10 (.s 6 (.s 11 (.s 12 (.s 13 (.f 14 (.s 15 .d)))))) .z)) (.o 10 (.s 5 (.s 6 (.s 11 (.s 12 (.s 13 (.f 14 (.s 15 .d))))))) .z)) (.o 5 (.o 1 (.o 6 (.s 10 (.s 11 (.s 12 (.s 13 (.f 14 (.s 15 .d)))))) (.o 10 (.s 6 (.s 11 (.s 12 (.s 13 (.f 14 (.s 15 .d)))))) .z)) (.o 6 (.o 1 (.s 10 (.s 11 (.s 12 (.s 13 (.f 14 (.s 15 .d)))))) (.o 10 (.o 1 (.s 11 (.s 12 (.s 13 (.f 14 (.s 15 .d))))) (.o 11 (.o 1 (.s 12 (.s 13 (.f 14 (.s 15 .d)))) (.o 12 (.s 1 (.s 13 (.f 14 (.s 15 .d)))) .z)) .z)) .z)) (.o 10 (.o 1 (.s 6 (.s 11 (.s 12 (.s 13 (.f 14 (.s 15 .d)))))) (.o 6 (.o 1 (.s 11 (.s 12 (.s 13 (.f 14 (.s 15 .d))))) (.o 11 (.o 1 (.s 12 (.s 13 (.f 14 (.s 15 .d)))) (.o 12 (.s 1 (.s 13 (.f 14 (.s 15 .d)))) .z)) .z)) .z)) .z))) (.o 10 (.o 1 (.s 5 (.s 6 (.s 11 (.s 12 (.s 13 (.f 14 (.s 15 .d))))))) (.o 5 (.o 1 (.s 6 (.s 11 (.s 12 (.s 13 (.f 14 (.s 15 .d)))))) (.o 6 (.o 1 (.s 11 (.s 12 (.s 13 (.f 14 (.s 15 .d))))) (.o 11 (.o 1 (.s 12 (.s 13 (.f 14 (.s 15 .d)))) (.o 12 (.s 1 (.s 13 (.f 14 (.s 15 .d)))) .z)) .z)) .z)) .z)) .z))) (.o 10 (.o 1 (.s 3 (.s 5 (.s 6 (.s 11 (.s 12 (.s 13 (.f 14 (.s 15 .d)))))))) (.o 3 (.o 1 (.s 5 (.s 6 (.s 11 (.s 12 (.s 13 (.f 14 (.s 15 .d))))))) (.o 5 (.o 1 (.s 6 (.s 11 (.s 12 (.s 13 (.f 14 (.s 15 .d)))))) (.o 6 (.o 1 (.s 11 (.s 12 (.s 13 (.f 14 (.s 15 .d))))) (.o 11 (.o 1 (.s 12 (.s 13 (.f 14 (.s 15 .d)))) (.o 12 (.s 1 (.s 13 (.f 14 (.s 15 .d)))) .z)) .z)) .z)) .z)) .z)) .z))) .z)))))))) [] [2, 4, 16, 21, 22] 4 (fun _ => ([(2, .loc 0 0), (4, .loc 2 0), (16, .own (l.map valIn)), (21, .loc 3 0), (22, vI j)], [.cells [vI e.kind, vI e.v.kind, vI e.v.n, vS e.v.s, vL (e.v.l.map valIn), vL (e.v.f.map fldIn), vS e.s, vS e.t, vL (e.a.map expIn), vL (e.n.map strAV)], .cells [.av (.map bi), .av (.map br), .av (.map bf)], .cells [vI 0, vI 0, vS ([]), .own [], .own []], .cells [vI 5, vI 0, vS ([] : Str), .own [], .own ((of ++ ([(⟨gI e.n j, (gI l j)⟩ : (Str × Val))] : List (Str × Val))).map fldIn)]], m)) (fun _ => True) (by decide +kernel) ?_ ?_
       · rintro _ hy56
         try dsimp only at hy56
         refine an (by omega) ?_
         refine ⟨(j + 1, of ++ ([(⟨gI e.n j, (gI l j)⟩ : (Str × Val))] : List (Str × Val))), ⟨rfl, rfl⟩, ?_, ?_⟩
         · try dsimp only
           exact ⟨by omega, by omega, by rw [take_succ_gI hI2.1 (by rw [List.length_zip]; omega), ← hI2.2.2, gI_zip hI2.1 (by omega) (by omega)]⟩
         try dsimp only
         omega
       repeat' first
        | refine ⟨(), ⟨rfl, rfl⟩, trivial⟩
        | refine ixg valTop valIn_eq (by omega) ?_
        | refine ap fldIn of ([(⟨gI e.n j, (gI l j)⟩ : (Str × Val))] : List (Str × Val)) rfl (by simp only [List.map_cons, List.map_nil, fldIn_eq]; try rfl) (fun a => by rw [fldIn_eq]; exact ⟨rfl, rfl⟩) (by (simp only [List.length_append, List.length_cons, List.length_nil]; omega)) ?_
        | refine ix (by omega) ?_
        | refine ⟨?_, ?_, ?_, trivial⟩
        | refine ⟨?_, ?_, trivial⟩
     have e0 : evF en rs fe (k + 1) e = (((⟨5, 0, ([] : Str), [], of⟩ : Val), 0) : Val × Int) := by
      rw [hev]; unfold joinR; simp only [zV]; first | (rw [if_neg (by omega), if_neg (by omega), if_neg (by omega), if_neg (by omega), if_neg (by omega)]; done) | rw [if_neg (by omega), if_neg (by omega), if_neg (by omega), if_pos (by omega), hI2.2.2, List.take_of_length_le (by rw [List.length_zip]; omega)]
     rw [e0] at hK
     exact rt0 rfl fun _ => hK
   have e0 : evF en rs fe (k + 1) e = (((⟨0, 0, [], [], []⟩ : Val), 3) : Val × Int) := by
    rw [hev]; unfold joinR; simp only [zV]; first | (rw [if_neg (by omega), if_neg (by omega), if_neg (by omega), if_neg (by omega), if_neg (by omega)]; done) | rw [if_neg (by omega), if_neg (by omega), if_neg (by omega), if_pos (by omega), hI2.2.2, List.take_of_length_le (by rw [List.length_zip]; omega)]
   rw [e0] at hK
   exact rt0 rfl fun _ => hK
 refine an (fun h22 => ?_) (fun h22 => ?_)
 · refine sq ?_
   refine ln ?_
   refine an (fun h23 => ?_) (fun h23 => ?_)
   · refine sq ?_
     refine ixg valTop valIn_eq (by omega) ?_
     refine an (fun h24 => ?_) (fun h24 => ?_)
     · refine rgA tbOk Tryd.mixed (σ := Unit) (.f 0 (.f 3 (.o 1 (.o 2 (.o 4 (.o 5 (.f 6 (.o 7 (.o 8 (.s 9 (.s 10 (.s 11 .d))) (.o 9 (.o 8 (.s 10 (.s 11 .d)) (.o 10 (.s 8 (.s 11 .d)) .z)) .z)) (.o 8 (.o 7 (.s 9 (.s 10 (.s 11 .d))) (.o 9 (.s 7 (.s 10 (.s 11 .d))) .z)) (.o 9 (.o 7 (.o 8 (.s 10 (.s 11 .d)) (.o 10 (.s 8 (.s 11 .d)) .z)) (.o 8 (.s 7 (.s 10 (.s 11 .d))) .z)) .z)))) (.o 9 (.s 5 (.f 6 (.o 7 (.o 8 (.s 10 (.s 11 .d)) (.o 10 (.s 8 (.s 11 .d)) .z)) (.o 8 (.s 7 (.s 10 (.s 11 .d))) .z)))) .z)) (.o 9 (.s 4 (.s 5 (.f 6 (.o 7 (.o 8 (.s 10 (.s 11 .d)) (.o 10 (.s 8 (.s 11 .d)) .z)) (.o 8 (.s 7 (.s 10 (.s 11 .d))) .z))))) .z)) (.o 4 (.o 2 (.o 5 (.f 6 (.o 7 (.o 8 (.s 9 (.s 10 (.s 11 .d))) (.o 9 (.o 8 (.s 10 (.s 11 .d)) (.o 10 (.s 8 (.s 11 .d)) .z)) .z)) (.o 8 (.o 7 (.s 9 (.s 10 (.s 11 .d))) (.o 9 (.s 7 (.s 10 (.s 11 .d))) .z)) (.o 9 (.o 7 (.o 8 (.s 10 (.s 11 .d)) (.o 10 (.s 8 (.s 11 .d)) .z)) (.o 8 (.s 7 (.s 10 (.s 11 .d))) .z)) .z)))) (.o 9 (.s 5 (.f 6 (.o 7 (.o 8 (.s 10 (.s 11 .d)) (.o 10 (.s 8 (.s 11 .d)) .z)) (.o 8 (.s 7 (.s 10 (.s 11 .d))) .z)))) .z)) (.o 9 (.s 2 (.s 5 (.f 6 (.o 7 (.o 8 (.s 10 (.s 11 .d)) (.o 10 (.s 8 (.s 11 .d)) .z)) (.o 8 (.s 7 (.s 10 (.s 11 .d))) .z))))) .z)) (.o 9 (.o 2 (.s 4 (.s 5 (.f 6 (.o 7 (.o 8 (.s 10 (.s 11 .d)) (.o 10 (.s 8 (.s 11 .d)) .z)) (.o 8 (.s 7 (.s 10 (.s 11 .d))) .z))))) (.o 4 (.s 2 (.s 5 (.f 6 (.o 7 (.o 8 (.s 10 (.s 11 .d)) (.o 10 (.s 8 (.s 11 .d)) .z)) (.o 8 (.s 7 (.s 10 (.s 11 .d))) .z))))) .z)) .z))) (.o 4 (.o 1 (.o 2 (.o 5 (.f 6 (.o 7 (.o 8 (.s 9 (.s 10 (.s 11 .d))) (.o 9 (.o 8 (.s 10 (.s 11 .d)) (.o 10 (.s 8 (.s 11 .d)) .z)) .z)) (.o 8 (.o 7 (.s 9 (.s 10 (.s 11 .d))) (.o 9 (.s 7 (.s 10 (.s 11 .d))) .z)) (.o 9 (.o 7 (.o 8 (.s 10 (.s 11 .d)) (.o 10 (.s 8 (.s 11 .d)) .z)) (.o 8 (.s 7 (.s 10 (.s 11 .d))) .z)) .z)))) (.o 9 (.s 5 (.f 6 (.o 7 (.o 8 (.s 10 (.s 11 .d)) (.o 10 (.s 8 (.s 11 .d)) .z)) (.o 8 (.s 7 (.s 10 (.s 11 .d))) .z)))) .z)) (.o 9 (.s 2 (.s 5 (.f 6 (.o 7 (.o 8 (.s 10 (.s 11 .d)) (.o 10 (.s 8 (.s 11 .d)) .z)) (.o 8 (.s 7 (.s 10 (.s 11 .d))) .z))))) .z)) (.o 9 (.s 1 (.s 2 (.s 5 (.f 6 (.o 7 (.o 8 (.s 10 (.s 11 .d)) (.o 10 (.s 8 (.s 11 .d)) .z)) (.o 8 (.s 7 (.s 10 (.s 11 .d))) .z)))))) .z)) (.o 9 (.o 1 (.o 2 (.s 4 (.s 5 (.f 6 (.o 7 (.o 8 (.s 10 (.s 11 .d)) (.o 10 (.s 8 (.s 11 .d)) .z)) (.o 8 (.s 7 (.s 10 (.s 11 .d))) .z))))) (.o 4 (.s 2 (.s 5 (.f 6 (.o 7 (.o 8 (.s 10 (.s 11 .d)) (.o 10 (.s 8 (.s 11 .d)) .z)) (.o 8 (.s 7 (.s 10 (.s 11 .d))) .z))))) .z)) (.o 4 (.s 1 (.s 2 (.s 5 (.f 6 (.o 7 (.o 8 (.s 10 (.s 11 .d)) (.o 10 (.s 8 (.s 11 .d)) .z)) (.o 8 (.s 7 (.s 10 (.s 11 .d))) .z)))))) .z)) .z))))) [] [4, 23, 24] 4 (fun _ => ([(4, .loc 2 0), (23, .loc 3 0), (24, vB ((mget (gI l 0).f e.s).isSome))], [.cells [vI e.kind, vI e.v.kind, vI e.v.n, vS e.v.s, vL (e.v.l.map valIn), vL (e.v.f.map fldIn), vS e.s, vS e.t, vL (e.a.map expIn), vL (e.n.map strAV)], .cells [.av (.map bi), .av (.map br), .av (.map bf)], .cells [vI 0, vI 0, vS ([]), .own [], .own []], .cells [vI (((mget (gI l 0).f e.s).getD zV).kind), vI (((mget (gI l 0).f e.s).getD zV).n), vS (((mget (gI l 0).f e.s).getD zV).s), vL ((((mget (gI l 0).f e.s).getD zV).l).map valIn), vL ((((mget (gI l 0).f e.s).getD zV).f).map fldIn)]], m)) (fun _ => True) (by decide +kernel) ?_ ?_
       · rintro _ hy63
         try dsimp only at hy63
         refine call0 (fun _ => u_found ((mget (gI l 0).f e.s).getD zV) ((mget (gI l 0).f e.s).isSome)) rfl ?_
         have e0 : evF en rs fe (k + 1) e = ((((namedB ((mget (gI l 0).f e.s).getD zV) ((mget (gI l 0).f e.s).isSome)).1), (namedB ((mget (gI l 0).f e.s).getD zV) ((mget (gI l 0).f e.s).isSome)).2) : Val × Int) := by
          rw [hev]; unfold joinR; simp only [zV]; first | (rw [if_neg (by omega), if_neg (by omega), if_neg (by omega), if_neg (by omega), if_neg (by omega)]; done) | (rw [if_neg (by omega), if_neg (by omega), if_neg (by omega), if_neg (by omega), if_pos (by omega), if_pos (by assumption)]; done) | (rw [if_neg (by omega), if_neg (by omega), if_neg (by omega), if_neg (by omega), if_pos (by omega), if_neg (not_not_intro (by assumption))]; rfl)
         rw [e0] at hK
         exact rt0 rfl fun _ => hK
       repeat' first
        | refine ⟨(), ⟨rfl, rfl⟩, trivial⟩
        | refine ixg valTop valIn_eq (by omega) ?_
        | refine call0 (fun _ => u_RGet (gI l 0) e.s) rfl ?_
        | refine ⟨?_, ?_, ?_, trivial⟩
        | refine ⟨?_, ?_, trivial⟩
     have e0 : evF en rs fe (k + 1) e = (((⟨0, 0, [], [], []⟩ : Val), 9) : Val × Int) := by
      rw [hev]; unfold joinR; simp only [zV]; first | (rw [if_neg (by omega), if_neg (by omega), if_neg (by omega), if_neg (by omega), if_neg (by omega)]; done) | (rw [if_neg (by omega), if_neg (by omega), if_neg (by omega), if_neg (by omega), if_pos (by omega), if_pos (by assumption)]; done) | (rw [if_neg (by omega), if_neg (by omega), if_neg (by omega), if_neg (by omega), if_pos (by omega), if_neg (not_not_intro (by assumption))]; rfl)
     rw [e0] at hK
     exact rt0 rfl fun _ => hK
   have e0 : evF en rs fe (k + 1) e = (((⟨0, 0, [], [], []⟩ : Val), 3) : Val × Int) := by
    rw [hev]; unfold joinR; simp only [zV]; first | (rw [if_neg (by omega), if_neg (by omega), if_neg (by omega), if_neg (by omega), if_neg (by omega)]; done) | (rw [if_neg (by omega), if_neg (by omega), if_neg (by omega), if_neg (by omega), if_pos (by omega), if_pos (by assumption)]; done) | (rw [if_neg (by omega), if_neg (by omega), if_neg (by omega), if_neg (by omega), if_pos (by omega), if_neg (not_not_intro (by assumption))]; rfl)
   rw [e0] at hK
   exact rt0 rfl fun _ => hK
 have e0 : evF en rs fe (k + 1) e = (((⟨0, 0, [], [], []⟩ : Val), 3) : Val × Int) := by
  first | (rw [evF_80 h1 h2 h3 h5 h6 (by rw [hI.2.2.1, allE_drop hI.1 h11, if_neg (by omega)]; omega), hI.2.2.1, allE_drop hI.1 h11, if_neg (by omega)] <;> rfl) | (rw [hev]; unfold joinR; simp only [zV]; rw [if_neg (by omega), if_neg (by omega), if_neg (by omega), if_neg (by omega), if_neg (by omega)])
 rw [e0] at hK
 exact rt0 rfl fun _ => hK
end Go.Proofs
end
section
namespace Go.Proofs
open Go Go.Aw Go.Sx
set_option maxRecDepth 100000
def feOf (l : List (Str × Val)) : FMap := l.foldl (fun m p => mput m p.1 (envOf p.2.f)) []
theorem feOf_snoc (l : List (Str × Val)) (p : Str × Val) : feOf (l ++ [p]) = mput (feOf l) p.1 (envOf p.2.f) := by simp [feOf, List.foldl_append]
theorem envOf_step {l : List (Str × Val)} {i : Int} (h0 : 0 ≤ i) (hi : i < l.length) : envOf (l.take (i + 1).toNat) = mput (envOf (l.take i.toNat)) (gI l i).1 (gI l i).2 := by
  rw [take_succ_gI h0 hi, envOf_snoc]
theorem feOf_step {l : List (Str × Val)} {i : Int} (h0 : 0 ≤ i) (hi : i < l.length) : feOf (l.take (i + 1).toNat) = mput (feOf (l.take i.toNat)) (gI l i).1 (envOf (gI l i).2.f) := by
  rw [take_succ_gI h0 hi, feOf_snoc]
theorem envOf_take {l : List (Str × Val)} {i : Int} (h0 : 0 ≤ i) (hi : i ≤ l.length) : ((envOf (l.take i.toNat)).length : Int) ≤ i := by
  have := envOf_len (l.take i.toNat)
  rw [List.length_take] at this
  omega
def MapF (m M : AMem) (o : Option Nat) (l : VMap) : Prop :=
  match o with
  | none => l = []
  | some b => m b = none ∧ M b = some (.map (l.map (mapAV strAV valTop)))
structure EnvF (m M : AMem) (bi br bf : Nat) (en rs : VMap) (fe : FMap) : Prop where
  ni : m bi = none
  nr : m br = none
  nf : m bf = none
  i : M bi = some (.map (en.map (mapAV strAV valTop)))
  r : M br = some (.map (rs.map (mapAV strAV valTop)))
  f : ∃ fm : List (Str × Option Nat), M bf = some (.map (fm.map (mapAV strAV mvA))) ∧ ∀ s, MapF m M ((mget fm s).getD none) ((mget fe s).getD [])
theorem EnvF.rest {m M : AMem} {bi br bf : Nat} {en rs : VMap} {fe : FMap} {S : List Nat} (hS : ∀ b ∈ S, m b ≠ none) (h : EnvF m M bi br bf en rs fe) : EnvM (restM M S) bi br bf en rs fe := by
  have key : ∀ b, m b = none → restM M S b = M b := fun b hb => by
    unfold restM
    rw [if_neg fun hc => hS b hc hb]
  obtain ⟨fm, h1, h2⟩ := h.f
  refine ⟨by rw [key _ h.ni, h.i], by rw [key _ h.nr, h.r], fm, by rw [key _ h.nf, h1], fun s => ?_⟩
  have h3 := h2 s
  generalize (mget fm s).getD none = o at h3 ⊢
  cases o with
  | none => exact h3
  | some b => show restM M S b = _; rw [key _ h3.1]; exact h3.2
theorem MapF.up {m M M' : AMem} {o : Option Nat} {l : VMap} (hu : ∀ b o, M b = some o → M' b = some o) (h : MapF m M o l) : MapF m M' o l := by
  cases o with
  | none => exact h
  | some b => exact ⟨h.1, hu _ _ h.2⟩
theorem mget_mput_eq {κ ν : Type} [DecidableEq κ] (k : κ) (v : ν) : ∀ (l : List (κ × ν)) (s : κ), mget (mput l k v) s = if s = k then some v else mget l s
  | [], s => by
    simp only [mput, mget]
    split <;> split <;> simp_all
  | (a, b) :: r, s => by
    rw [mput]
    split
    · rename_i e
      subst e
      rw [mget, mget]
      split
      · rename_i e; rw [if_pos e.symm]
      · rename_i e; rw [if_neg fun q => e q.symm]
    · rename_i e
      rw [mget, mget, mget_mput_eq k v r s]
      split
      · rename_i e2; subst e2; rw [if_neg e]
      · rfl
theorem mapF_step {m M : AMem} {fm : List (Str × Option Nat)} {fe : FMap} {b : Nat} {s0 : Str} {l : VMap} (hm : ∀ b o, m b = some o → M b = some o) (hb : M b = none) (h : ∀ s, MapF m M ((mget fm s).getD none) ((mget fe s).getD [])) (s : Str) : MapF m (M.upd b (some (.map (l.map (mapAV strAV valTop))))) ((mget (mput fm s0 (some b)) s).getD none) ((mget (mput fe s0 l) s).getD []) := by
  rw [mget_mput_eq, mget_mput_eq]
  split
  · refine ⟨?_, by simp [AMem.upd]⟩
    cases e : m b with
    | none => rfl
    | some o => rw [hm _ _ e] at hb; cases hb
  · exact (h s).up fun b' o hb' => by
      unfold AMem.upd
      split
      · rename_i e; rw [e, hb] at hb'; cases hb'
      · exact hb'
theorem upd_up {m M : AMem} {b : Nat} {x : AObj} (hm : ∀ b o, m b = some o → M b = some o) (hb : M b = none) : ∀ b' o, m b' = some o → M.upd b (some x) b' = some o := fun b' o h => by
  have := hm _ _ h
  unfold AMem.upd
  split
  · rename_i e; rw [e, hb] at this; cases this
  · exact this
theorem envF_ret {m M : AMem} {a b c : Nat} {en rs : VMap} {fm : List (Str × Option Nat)} {fe : FMap} (hd : [a, b, c].Nodup) (hf : ∀ x ∈ [a, b, c], M x = none) (hm : ∀ b o, m b = some o → M b = some o) (h : ∀ s, MapF m M ((mget fm s).getD none) ((mget fe s).getD [])) :
    EnvF m (M.wth [(a, .map (en.map (mapAV strAV valTop))), (b, .map (rs.map (mapAV strAV valTop))), (c, .map (fm.map (mapAV strAV mvA)))]) a b c en rs fe := by
  have key : ∀ x ∈ [a, b, c], m x = none := fun x hx => by
    cases e : m x with
    | none => rfl
    | some o => have := hm _ _ e; rw [hf x hx] at this; cases this
  refine ⟨key _ (by simp), key _ (by simp), key _ (by simp), wth_get 0 hd rfl, wth_get 1 hd rfl, fm, wth_get 2 hd rfl, fun s => (h s).up fun b' o hb => wth_old hb fun x hx => hf x hx⟩
set_option maxHeartbeats 4000000 in
theorem u_load1 (e : Exp) (most : Int) (ih : ∀ x : Exp, depE x < depE e → ∀ (m : AMem) (K : AV → AMem → Prop), K (.int .i64 (loadE most x)) m → ACalls Tryd.prog 28 [expTop x, .int .i64 most] m K) (m : AMem)  (K : AV → AMem → Prop) (hK : K (.int .i64 (loadE most e)) m) : ACalls Tryd.prog 28 [expTop e, .int .i64 most] m K := by
 refine enter (c := cf [20, 24, 44, 65] [0] [3, 7] [] [] []) (vs := [.av (expTop e), .av (.int .i64 most)]) (L := []) (m := m) false tbOk Tryd.mixed Tryd.func28 rfl (k := 2) (by show fnOk [] _ _ _ = true; decide +kernel) rfl (Good.nil m) ?_
 refine ⟨fun F0 => ?_⟩
 have hbd0_3 : e.v.s.length ≤ 140737488355328 := (F0 0 3 (Nat.le_of_ble_eq_true rfl))
 have hbd0_4 : e.v.l.length ≤ 140737488355328 := bd_map (F0 0 4 (Nat.le_of_ble_eq_true rfl))
 have hbd0_5 : e.v.f.length ≤ 140737488355328 := bd_map (F0 0 5 (Nat.le_of_ble_eq_true rfl))
 have hbd0_6 : e.s.length ≤ 140737488355328 := (F0 0 6 (Nat.le_of_ble_eq_true rfl))
 have hbd0_7 : e.t.length ≤ 140737488355328 := (F0 0 7 (Nat.le_of_ble_eq_true rfl))
 have hbd0_8 : e.a.length ≤ 140737488355328 := bd_map (F0 0 8 (Nat.le_of_ble_eq_true rfl))
 have hbd0_9 : e.n.length ≤ 140737488355328 := bd_map (F0 0 9 (Nat.le_of_ble_eq_true rfl))
 refine an (by omega) ?_
 refine an (by omega) ?_
 refine pure0 (fun _ => u_weight most (depV e.v + 1) e.v (Nat.lt_succ_self _)) ?_
 refine ln ?_
 refine sq ?_
 refine lp (σ := Int × Int) [] [1, 2, 5, 6] 1 (fun ⟨n_, i⟩ => ([(1, vI most), (2, .loc 0 0), (5, vI n_), (6, vI i)], [.cells [vI e.kind, vI e.v.kind, vI e.v.n, vS e.v.s, vL (e.v.l.map valIn), vL (e.v.f.map fldIn), vS e.s, vS e.t, vL (e.a.map expIn), vL (e.n.map strAV)]], m)) (fun ⟨n_, i⟩ => 0 ≤ i ∧ i ≤ e.n.length ∧ namesL most e.n (loadN most e) = namesL most (e.n.drop i.toNat) n_) (fun ⟨n_, i⟩ => e.n.length - i.toNat) (IntKind.i64.wrap ((IntKind.i64.wrap (((1 + (e.s.length : Int)) + (e.t.length : Int)) + (weightV most e.v))) + (e.n.length : Int)), 0) ⟨rfl, rfl⟩ ?_ ?_
 · try dsimp only
   exact ⟨by omega, by omega, rfl⟩
 rintro ⟨n_, i⟩ hI
 dsimp only at hI
 refine sq ?_
 refine mg [1, 2, 5, 6] 34 ((decide (i < (e.n.length : Int))) && (decide (n_ ≤ most))) ?_ ?_
 · repeat' first
    | exact ⟨⟨_, rfl, by grind [SB.val]⟩, rfl⟩
    | refine an (fun _ => ?_) (fun _ => ?_)
    | refine ln ?_
 refine an (fun h1 => ?_) (fun h1 => ?_)
 · replace h1 : (i < (e.n.length : Int)) ∧ (n_ ≤ most) := ⟨(of_decide_eq_true (bandL h1)), (of_decide_eq_true (bandR h1))⟩
   refine sq ?_
   refine ix (by omega) ?_
   refine an (by omega) ?_
   refine ⟨(IntKind.i64.wrap (n_ + ((gI e.n i).length : Int)), i + 1), ⟨rfl, rfl⟩, ?_, ?_⟩
   · try dsimp only
     exact ⟨by omega, by omega, by rw [hI.2.2, namesL_drop hI.1 h1.1 h1.2]⟩
   try dsimp only
   omega
 replace h1 : ((e.n.length : Int) ≤ i) ∨ (most < n_) := ((bandF h1).imp (fun q => (Int.not_lt.1 (of_decide_eq_false q))) (fun q => (Int.not_le.1 (of_decide_eq_false q))))
 refine sq ?_
 refine lp (σ := Int × Int) [] [1, 2, 5, 7] 1 (fun ⟨n2, k⟩ => ([(1, vI most), (2, .loc 0 0), (5, vI n2), (7, vI k)], [.cells [vI e.kind, vI e.v.kind, vI e.v.n, vS e.v.s, vL (e.v.l.map valIn), vL (e.v.f.map fldIn), vS e.s, vS e.t, vL (e.a.map expIn), vL (e.n.map strAV)]], m)) (fun ⟨n2, k⟩ => 0 ≤ k ∧ k ≤ e.a.length ∧ loadE most e = loadL most (e.a.drop k.toNat) n2) (fun ⟨n2, k⟩ => e.a.length - k.toNat) (n_, 0) ⟨rfl, rfl⟩ ?_ ?_
 · try dsimp only
   refine ⟨by omega, by omega, ?_⟩
   have q : namesL most (e.n.drop i.toNat) n_ = n_ := by
     by_cases hn : most < n_
     · exact namesL_stop _ _ _ hn
     · have hi : (e.n.length : Int) ≤ i := by
         rcases h1 with h | h <;> omega
       rw [List.drop_eq_nil_of_le (by omega)]; simp only [namesL]
   rw [loadE_eq, hI.2.2, q]; rfl
 rintro ⟨n2, k⟩ hI2
 dsimp only at hI2
 refine sq ?_
 refine mg [1, 2, 5, 7] 54 ((decide (k < (e.a.length : Int))) && (decide (n2 ≤ most))) ?_ ?_
 · repeat' first
    | exact ⟨⟨_, rfl, by grind [SB.val]⟩, rfl⟩
    | refine an (fun _ => ?_) (fun _ => ?_)
    | refine ln ?_
 refine an (fun h2 => ?_) (fun h2 => ?_)
 · replace h2 : (k < (e.a.length : Int)) ∧ (n2 ≤ most) := ⟨(of_decide_eq_true (bandL h2)), (of_decide_eq_true (bandR h2))⟩
   refine sq ?_
   refine ixg expTop expIn_eq (by omega) ?_
   refine call0 (fun _ => ih (gI e.a k) (depE_mem (gI_mem hI2.1 h2.1))) rfl ?_
   refine an (by omega) ?_
   refine ⟨(IntKind.i64.wrap (n2 + (loadE most (gI e.a k))), k + 1), ⟨rfl, rfl⟩, ?_, ?_⟩
   · try dsimp only
     exact ⟨by omega, by omega, by rw [hI2.2.2, loadL_drop hI2.1 h2.1 h2.2]⟩
   try dsimp only
   omega
 replace h2 : ((e.a.length : Int) ≤ k) ∨ (most < n2) := ((bandF h2).imp (fun q => (Int.not_lt.1 (of_decide_eq_false q))) (fun q => (Int.not_le.1 (of_decide_eq_false q))))
 refine rt0 rfl fun _ => ?_
 show K (.int .i64 n2) m
 have q : loadE most e = n2 := by
   rw [hI2.2.2]
   by_cases hn : most < n2
   · exact loadL_stop _ _ _ hn
   · have hi : (e.a.length : Int) ≤ k := by
       rcases h2 with h | h <;> omega
     rw [List.drop_eq_nil_of_le (by omega)]; simp only [loadL]
 rw [q] at hK; exact hK
theorem u_load (most : Int) : ∀ (n : Nat) (e : Exp), depE e < n → ∀ (m : AMem) (K : AV → AMem → Prop), K (.int .i64 (loadE most e)) m → ACalls Tryd.prog 28 [expTop e, .int .i64 most] m K
  | 0, _, h => absurd h (Nat.not_lt_zero _)
  | n + 1, e, h => fun m K hK => u_load1 e most (fun x hx => u_load most n x (by omega)) m K hK
theorem u_LightExpr (e : Exp)  (m : AMem)  (K : AV → AMem → Prop) (hK : K (.bool (decide (loadE 4000 e ≤ 4000))) m) : ACalls Tryd.prog 8 [expTop e] m K := by
 refine enter (c := cf [] [] [] [] [] []) (vs := [.av (expTop e)]) (L := []) (m := m) false tbOk Tryd.mixed Tryd.func8 rfl (k := 1) (by show fnOk [] _ _ _ = true; decide +kernel) rfl (Good.nil m) ?_
 refine call0 (fun _ => u_load 4000 (depE e + 1) e (Nat.lt_succ_self _)) rfl ?_
 exact rt0 rfl fun _ => hK
set_option maxHeartbeats 4000000 in
theorem u_LightFields (l : List (Str × Val))  (m : AMem)  (K : AV → AMem → Prop) (hK : K (.bool (lightFs l)) m) : ACalls Tryd.prog 9 [.slice false (l.map fldIn)] m K := by
 refine enter (c := cf [21, 28] [0] [] [] [] []) (vs := [.av (.slice false (l.map fldIn))]) (L := []) (m := m) false tbOk Tryd.mixed Tryd.func9 rfl (k := 1) (by show fnOk [] _ _ _ = true; decide +kernel) rfl (Good.nil m) ?_
 refine ⟨fun F0 => ?_⟩
 have hbd0_0 : l.length ≤ 140737488355328 := bd_map (o := false) (F0 0).1
 refine sq ?_
 refine ln ?_
 refine an (fun h1 => ?_) (fun h1 => ?_)
 · refine rt0 rfl fun _ => ?_
   show K (.bool false) m
   rw [lightFs, if_pos (by omega)] at hK; exact hK
 refine sq ?_
 refine lp (σ := Int × Int) [] [0, 3, 4] 0 (fun ⟨n_, i⟩ => ([(0, vL (l.map fldIn)), (3, vI n_), (4, vI i)], [], m)) (fun ⟨n_, i⟩ => 0 ≤ i ∧ i ≤ l.length ∧ lightFs l = lightFF (l.drop i.toNat) n_) (fun ⟨n_, i⟩ => l.length - i.toNat) (0, 0) ⟨rfl, rfl⟩ ?_ ?_
 · try dsimp only
   exact ⟨by omega, by omega, by rw [lightFs, if_neg (by omega)]; rfl⟩
 rintro ⟨n_, i⟩ hI
 dsimp only at hI
 refine sq ?_
 refine ln ?_
 refine an (fun h2 => ?_) (fun h2 => ?_)
 · refine sq ?_
   refine ixg fldTop fldIn_eq (by omega) ?_
   refine ixg fldTop fldIn_eq (by omega) ?_
   refine pure0 (fun _ => u_weight 3000 (depV ((gI l i).2) + 1) ((gI l i).2) (Nat.lt_succ_self _)) ?_
   refine an (fun h3 => ?_) (fun h3 => ?_)
   · refine rt0 rfl fun _ => ?_
     show K (.bool false) m
     rw [hI.2.2, lightFF_drop hI.1 h2, if_pos (by omega)] at hK; exact hK
   refine an (by omega) ?_
   refine ⟨(IntKind.i64.wrap ((IntKind.i64.wrap (n_ + (((gI l i).1).length : Int))) + (weightV 3000 ((gI l i).2))), i + 1), ⟨rfl, rfl⟩, ?_, ?_⟩
   · try dsimp only
     exact ⟨by omega, by omega, by rw [hI.2.2, lightFF_drop hI.1 h2, if_neg (by omega)]⟩
   try dsimp only
   omega
 refine rt0 rfl fun _ => ?_
 show K (.bool true) m
 rw [hI.2.2, List.drop_eq_nil_of_le (by omega)] at hK; exact hK
set_option maxHeartbeats 4000000 in
theorem u_Envs (l1 l2 l3 : List (Str × Val)) (hl1 : l1.length ≤ 1000000000) (hl2 : l2.length ≤ 1000000000) (hl3 : l3.length ≤ 1000000000) (hl4 : ∀ p ∈ l3, p.2.f.length ≤ 1000000000) (m : AMem)  (K : AV → AMem → Prop) (hK : ∀ (x : Nat × Nat × Nat) (M : AMem), (∀ b o, m b = some o → M b = some o) → EnvF m M x.1 x.2.1 x.2.2 (envOf l1) (envOf l2) (feOf l3) → K (.tuple [.agg [.map x.1, .map x.2.1, .map x.2.2], .agg [.map x.1, .map x.2.1, .map x.2.2]]) M) : ACalls Tryd.prog 10 [.slice false (l1.map fldIn), .slice false (l2.map fldIn), .slice false (l3.map fldIn)] m K := by
 refine enter (c := cf [] [] [] [19999] [18, 19] []) (vs := [.av (.slice false (l1.map fldIn)), .av (.slice false (l2.map fldIn)), .av (.slice false (l3.map fldIn))]) (L := []) (m := m) false tbOk Tryd.mixed Tryd.func10 rfl (k := 3) (by show fnOk [19999] _ _ _ = true; decide +kernel) rfl (Good.nil m) ?_
 refine sq ?_
 refine lp (σ := Int × VMap) [] [0, 1, 2, 6, 7, 8, 9] 6 (fun ⟨i, x1⟩ => ([(0, vL (l1.map fldIn)), (1, vL (l2.map fldIn)), (2, vL (l3.map fldIn)), (6, .loc 0 0), (7, .loc 1 0), (8, .loc 5 0), (9, vI i)], [.cells [.av (.nilmap), .av (.nilmap), .av (.nilmap)], .cells [.av (.nilmap), .av (.nilmap), .av (.nilmap)], .obj (.map (List.map (mapAV strAV valTop) x1)), .obj (.map (List.map (mapAV strAV valTop) ([] : List ((List UInt8) × Val)))), .obj (.map (List.map (mapAV strAV mvA) ([] : List ((List UInt8) × (Option Nat))))), .cells [.mp 2, .mp 3, .mp 4]], m)) (fun ⟨i, x1⟩ => 0 ≤ i ∧ i ≤ l1.length ∧ x1 = envOf (l1.take i.toNat)) (fun ⟨i, x1⟩ => l1.length - i.toNat) (0, ([] : List ((List UInt8) × Val))) ⟨rfl, rfl⟩ ?_ ?_
 · try dsimp only
   exact ⟨by omega, by omega, rfl⟩
 rintro ⟨i, x1⟩ hI
 dsimp only at hI
 have q1 := envOf_take hI.1 hI.2.1
 rw [← hI.2.2] at q1
 refine sq ?_
 refine ln ?_
 refine an (fun h1 => ?_) (fun h1 => ?_)
 · refine sq ?_
   refine ixg fldTop fldIn_eq (by omega) ?_
   refine ixg fldTop fldIn_eq (by omega) ?_
   refine mup tbOk (dk := .string) strAV valTop strKey_ok x1 ((gI l1 i).1) ((gI l1 i).2) (t := 33) (ke := 9) (ve := 25) mpSV rfl rfl rfl rfl rfl (fun _ => rfl) (by (have := mput_len x1 ((gI l1 i).1) ((gI l1 i).2); (try simp only [List.length_nil] at this); omega)) ?_
   refine an (by omega) ?_
   refine ⟨(i + 1, mput x1 ((gI l1 i).1) ((gI l1 i).2)), ⟨rfl, rfl⟩, ?_, ?_⟩
   · try dsimp only
     exact ⟨by omega, by omega, by rw [envOf_step hI.1 h1, ← hI.2.2]⟩
   try dsimp only
   omega
 refine sq ?_
 refine lp (σ := Int × VMap) [] [1, 2, 6, 7, 8, 10] 6 (fun ⟨j, x2⟩ => ([(1, vL (l2.map fldIn)), (2, vL (l3.map fldIn)), (6, .loc 0 0), (7, .loc 1 0), (8, .loc 5 0), (10, vI j)], [.cells [.av (.nilmap), .av (.nilmap), .av (.nilmap)], .cells [.av (.nilmap), .av (.nilmap), .av (.nilmap)], .obj (.map (List.map (mapAV strAV valTop) x1)), .obj (.map (List.map (mapAV strAV valTop) x2)), .obj (.map (List.map (mapAV strAV mvA) ([] : List ((List UInt8) × (Option Nat))))), .cells [.mp 2, .mp 3, .mp 4]], m)) (fun ⟨j, x2⟩ => 0 ≤ j ∧ j ≤ l2.length ∧ x2 = envOf (l2.take j.toNat)) (fun ⟨j, x2⟩ => l2.length - j.toNat) (0, ([] : List ((List UInt8) × Val))) ⟨rfl, rfl⟩ ?_ ?_
 · try dsimp only
   exact ⟨by omega, by omega, rfl⟩
 rintro ⟨j, x2⟩ hI2
 dsimp only at hI2
 have q2 := envOf_take hI2.1 hI2.2.1
 rw [← hI2.2.2] at q2
 refine sq ?_
 refine ln ?_
 refine an (fun h2 => ?_) (fun h2 => ?_)
 · refine sq ?_
   refine ixg fldTop fldIn_eq (by omega) ?_
   refine ixg fldTop fldIn_eq (by omega) ?_
   refine mup tbOk (dk := .string) strAV valTop strKey_ok x2 ((gI l2 j).1) ((gI l2 j).2) (t := 33) (ke := 9) (ve := 25) mpSV rfl rfl rfl rfl rfl (fun _ => rfl) (by (have := mput_len x2 ((gI l2 j).1) ((gI l2 j).2); (try simp only [List.length_nil] at this); omega)) ?_
   refine an (by omega) ?_
   refine ⟨(j + 1, mput x2 ((gI l2 j).1) ((gI l2 j).2)), ⟨rfl, rfl⟩, ?_, ?_⟩
   · try dsimp only
     exact ⟨by omega, by omega, by rw [envOf_step hI2.1 h2, ← hI2.2.2]⟩
   try dsimp only
   omega
 refine sq ?_
 refine lp (σ := Int × List (Str × Option Nat) × AMem) [] [2, 6, 7, 8, 11] 6 (fun ⟨k, fm, mb⟩ => ([(2, vL (l3.map fldIn)), (6, .loc 0 0), (7, .loc 1 0), (8, .loc 5 0), (11, vI k)], [.cells [.av (.nilmap), .av (.nilmap), .av (.nilmap)], .cells [.av (.nilmap), .av (.nilmap), .av (.nilmap)], .obj (.map (List.map (mapAV strAV valTop) x1)), .obj (.map (List.map (mapAV strAV valTop) x2)), .obj (.map (List.map (mapAV strAV mvA) fm)), .cells [.mp 2, .mp 3, .mp 4]], mb)) (fun ⟨k, fm, mb⟩ => 0 ≤ k ∧ k ≤ l3.length ∧ (fm.length : Int) ≤ k ∧ (∀ b o, m b = some o → mb b = some o) ∧ ∀ s, MapF m mb ((mget fm s).getD none) ((mget (feOf (l3.take k.toNat)) s).getD [])) (fun ⟨k, fm, mb⟩ => l3.length - k.toNat) (0, ([] : List ((List UInt8) × (Option Nat))), m) ⟨rfl, rfl⟩ ?_ ?_
 · try dsimp only
   exact ⟨by omega, by omega, by simp, fun _ _ h => h, fun _ => rfl⟩
 rintro ⟨k, fm, mb⟩ hI3
 dsimp only at hI3
 refine sq ?_
 refine ln ?_
 refine an (fun h3 => ?_) (fun h3 => ?_)
 · refine sq ?_
   refine sq ?_
   refine lp (σ := Int × VMap) [] [2, 6, 7, 8, 11, 12, 13] 7 (fun ⟨p, x4⟩ => ([(2, vL (l3.map fldIn)), (6, .loc 0 0), (7, .loc 1 0), (8, .loc 5 0), (11, vI k), (12, .mp 6), (13, vI p)], [.cells [.av (.nilmap), .av (.nilmap), .av (.nilmap)], .cells [.av (.nilmap), .av (.nilmap), .av (.nilmap)], .obj (.map (List.map (mapAV strAV valTop) x1)), .obj (.map (List.map (mapAV strAV valTop) x2)), .obj (.map (List.map (mapAV strAV mvA) fm)), .cells [.mp 2, .mp 3, .mp 4], .obj (.map (List.map (mapAV strAV valTop) x4))], mb)) (fun ⟨p, x4⟩ => 0 ≤ p ∧ p ≤ (gI l3 k).2.f.length ∧ x4 = envOf ((gI l3 k).2.f.take p.toNat)) (fun ⟨p, x4⟩ => (gI l3 k).2.f.length - p.toNat) (0, ([] : List ((List UInt8) × Val))) ⟨rfl, rfl⟩ ?_ ?_
   · try dsimp only
     exact ⟨by omega, by omega, rfl⟩
   rintro ⟨p, x4⟩ hI4
   dsimp only at hI4
   have q4 := envOf_take hI4.1 hI4.2.1
   rw [← hI4.2.2] at q4
   have q5 := hl4 _ (gI_mem hI3.1 h3)
   refine sq ?_
   refine ixg fldTop fldIn_eq (by omega) ?_
   refine ln ?_
   refine an (fun h4 => ?_) (fun h4 => ?_)
   · refine sq ?_
     refine ixg fldTop fldIn_eq (by omega) ?_
     refine ixg fldTop fldIn_eq (by omega) ?_
     refine ixg fldTop fldIn_eq (by omega) ?_
     refine ixg fldTop fldIn_eq (by omega) ?_
     refine mup tbOk (dk := .string) strAV valTop strKey_ok x4 ((gI (((gI l3 k).2).f) p).1) ((gI (((gI l3 k).2).f) p).2) (t := 33) (ke := 9) (ve := 25) mpSV rfl rfl rfl rfl rfl (fun _ => rfl) (by (have := mput_len x4 ((gI (((gI l3 k).2).f) p).1) ((gI (((gI l3 k).2).f) p).2); (try simp only [List.length_nil] at this); omega)) ?_
     refine an (by omega) ?_
     refine ⟨(p + 1, mput x4 ((gI (((gI l3 k).2).f) p).1) ((gI (((gI l3 k).2).f) p).2)), ⟨rfl, rfl⟩, ?_, ?_⟩
     · try dsimp only
       exact ⟨by omega, by omega, by rw [envOf_step hI4.1 h4, ← hI4.2.2]⟩
     try dsimp only
     omega
   refine cvH 12 rfl rfl rfl (fun b9 hb9 => ?_)
   refine ixg fldTop fldIn_eq (by omega) ?_
   refine mup tbOk (dk := .string) strAV mvA strKey_ok fm ((gI l3 k).1) (some b9) (t := 34) (ke := 9) (ve := 33) mpSM rfl rfl rfl rfl rfl (fun _ => rfl) (by (have := mput_len fm ((gI l3 k).1) (some b9); (try simp only [List.length_nil] at this); omega)) ?_
   refine an (by omega) ?_
   refine ⟨(k + 1, mput fm ((gI l3 k).1) (some b9), (mb.upd b9 (some (.map (List.map (mapAV strAV valTop) x4))))), ⟨rfl, rfl⟩, ?_, ?_⟩
   · try dsimp only
     refine ⟨by omega, by omega, by (have := mput_len fm (gI l3 k).1 (some b9); omega), upd_up hI3.2.2.2.1 hb9, fun s => ?_⟩
     rw [feOf_step hI3.1 h3, hI4.2.2, List.take_of_length_le (by omega)]
     exact mapF_step hI3.2.2.2.1 hb9 hI3.2.2.2.2 s
   try dsimp only
   omega
 refine rgA tbOk Tryd.mixed (σ := Unit) (.f 1 (.f 3 (.f 5 (.o 0 (.o 2 (.o 4 (.o 6 (.o 7 (.s 8 (.s 9 .d)) (.o 8 (.s 7 (.s 9 .d)) .z)) (.o 8 (.s 6 (.s 7 (.s 9 .d))) .z)) (.o 6 (.o 4 (.o 7 (.s 8 (.s 9 .d)) (.o 8 (.s 7 (.s 9 .d)) .z)) (.o 8 (.s 4 (.s 7 (.s 9 .d))) .z)) (.o 8 (.o 4 (.s 6 (.s 7 (.s 9 .d))) (.o 6 (.s 4 (.s 7 (.s 9 .d))) .z)) .z))) (.o 4 (.o 2 (.o 6 (.o 7 (.s 8 (.s 9 .d)) (.o 8 (.s 7 (.s 9 .d)) .z)) (.o 8 (.s 6 (.s 7 (.s 9 .d))) .z)) (.o 6 (.o 2 (.o 7 (.s 8 (.s 9 .d)) (.o 8 (.s 7 (.s 9 .d)) .z)) (.o 8 (.s 2 (.s 7 (.s 9 .d))) .z)) (.o 8 (.o 2 (.s 6 (.s 7 (.s 9 .d))) (.o 6 (.s 2 (.s 7 (.s 9 .d))) .z)) .z))) (.o 6 (.o 2 (.o 4 (.o 7 (.s 8 (.s 9 .d)) (.o 8 (.s 7 (.s 9 .d)) .z)) (.o 8 (.s 4 (.s 7 (.s 9 .d))) .z)) (.o 4 (.o 2 (.o 7 (.s 8 (.s 9 .d)) (.o 8 (.s 7 (.s 9 .d)) .z)) (.o 8 (.s 2 (.s 7 (.s 9 .d))) .z)) (.o 8 (.o 2 (.s 4 (.s 7 (.s 9 .d))) (.o 4 (.s 2 (.s 7 (.s 9 .d))) .z)) .z))) (.o 8 (.o 2 (.o 4 (.s 6 (.s 7 (.s 9 .d))) (.o 6 (.s 4 (.s 7 (.s 9 .d))) .z)) (.o 4 (.o 2 (.s 6 (.s 7 (.s 9 .d))) (.o 6 (.s 2 (.s 7 (.s 9 .d))) .z)) (.o 6 (.o 2 (.s 4 (.s 7 (.s 9 .d))) (.o 4 (.s 2 (.s 7 (.s 9 .d))) .z)) .z))) .z)))) (.o 2 (.o 0 (.o 4 (.o 6 (.o 7 (.s 8 (.s 9 .d)) (.o 8 (.s 7 (.s 9 .d)) .z)) (.o 8 (.s 6 (.s 7 (.s 9 .d))) .z)) (.o 6 (.o 4 (.o 7 (.s 8 (.s 9 .d)) (.o 8 (.s 7 (.s 9 .d)) .z)) (.o 8 (.s 4 (.s 7 (.s 9 .d))) .z)) (.o 8 (.o 4 (.s 6 (.s 7 (.s 9 .d))) (.o 6 (.s 4 (.s 7 (.s 9 .d))) .z)) .z))) (.o 4 (.o 0 (.o 6 (.o 7 (.s 8 (.s 9 .d)) (.o 8 (.s 7 (.s 9 .d)) .z)) (.o 8 (.s 6 (.s 7 (.s 9 .d))) .z)) (.o 6 (.o 0 (.o 7 (.s 8 (.s 9 .d)) (.o 8 (.s 7 (.s 9 .d)) .z)) (.o 7 (.s 0 (.s 8 (.s 9 .d))) .z)) .z)) (.o 6 (.o 0 (.o 4 (.o 7 (.s 8 (.s 9 .d)) (.o 8 (.s 7 (.s 9 .d)) .z)) (.o 8 (.s 4 (.s 7 (.s 9 .d))) .z)) (.o 4 (.o 0 (.o 7 (.s 8 (.s 9 .d)) (.o 8 (.s 7 (.s 9 .d)) .z)) (.o 7 (.s 0 (.s 8 (.s 9 .d))) .z)) .z)) .z))) (.o 4 (.o 0 (.o 2 (.o 6 (.o 7 (.s 8 (.s 9 .d)) (.o 8 (.s 7 (.s 9 .d)) .z)) (.o 8 (.s 6 (.s 7 (.s 9 .d))) .z)) (.o 6 (.o 2 (.o 7 (.s 8 (.s 9 .d)) (.o 8 (.s 7 (.s 9 .d)) .z)) (.o 8 (.s 2 (.s 7 (.s 9 .d))) .z)) (.o 8 (.o 2 (.s 6 (.s 7 (.s 9 .d))) (.o 6 (.s 2 (.s 7 (.s 9 .d))) .z)) .z))) (.o 2 (.o 0 (.o 6 (.o 7 (.s 8 (.s 9 .d)) (.o 8 (.s 7 (.s 9 .d)) .z)) (.o 8 (.s 6 (.s 7 (.s 9 .d))) .z)) (.o 6 (.o 0 (.o 7 (.s 8 (.s 9 .d)) (.o 8 (.s 7 (.s 9 .d)) .z)) (.o 7 (.s 0 (.s 8 (.s 9 .d))) .z)) .z)) (.o 6 (.o 0 (.o 2 (.o 7 (.s 8 (.s 9 .d)) (.o 8 (.s 7 (.s 9 .d)) .z)) (.o 8 (.s 2 (.s 7 (.s 9 .d))) .z)) (.o 2 (.o 0 (.o 7 (.s 8 (.s 9 .d)) (.o 8 (.s 7 (.s 9 .d)) .z)) (.o 7 (.s 0 (.s 8 (.s 9 .d))) .z)) .z)) .z))) (.o 6 (.o 0 (.o 2 (.o 4 (.o 7 (.s 8 (.s 9 .d)) (.o 8 (.s 7 (.s 9 .d)) .z)) (.o 8 (.s 4 (.s 7 (.s 9 .d))) .z)) (.o 4 (.o 2 (.o 7 (.s 8 (.s 9 .d)) (.o 8 (.s 7 (.s 9 .d)) .z)) (.o 8 (.s 2 (.s 7 (.s 9 .d))) .z)) (.o 8 (.o 2 (.s 4 (.s 7 (.s 9 .d))) (.o 4 (.s 2 (.s 7 (.s 9 .d))) .z)) .z))) (.o 2 (.o 0 (.o 4 (.o 7 (.s 8 (.s 9 .d)) (.o 8 (.s 7 (.s 9 .d)) .z)) (.o 8 (.s 4 (.s 7 (.s 9 .d))) .z)) (.o 4 (.o 0 (.o 7 (.s 8 (.s 9 .d)) (.o 8 (.s 7 (.s 9 .d)) .z)) (.o 7 (.s 0 (.s 8 (.s 9 .d))) .z)) .z)) (.o 4 (.o 0 (.o 2 (.o 7 (.s 8 (.s 9 .d)) (.o 8 (.s 7 (.s 9 .d)) .z)) (.o 8 (.s 2 (.s 7 (.s 9 .d))) .z)) (.o 2 (.o 0 (.o 7 (.s 8 (.s 9 .d)) (.o 8 (.s 7 (.s 9 .d)) .z)) (.o 7 (.s 0 (.s 8 (.s 9 .d))) .z)) .z)) .z))) .z))))))) [] [6, 7] 6 (fun _ => ([(6, .loc 0 0), (7, .loc 1 0)], [.cells [.mp 2, .mp 3, .mp 4], .cells [.mp 2, .mp 3, .mp 4], .obj (.map (List.map (mapAV strAV valTop) x1)), .obj (.map (List.map (mapAV strAV valTop) x2)), .obj (.map (List.map (mapAV strAV mvA) fm)), .cells [.mp 2, .mp 3, .mp 4]], mb)) (fun _ => True) (by decide +kernel) ?_ ?_
 · rintro _ hy19
   try dsimp only at hy19
   have e1 : x1 = envOf l1 := by rw [hI.2.2, List.take_of_length_le (by omega)]
   have e2 : x2 = envOf l2 := by rw [hI2.2.2, List.take_of_length_le (by omega)]
   subst e1 e2
   refine rtm [2, 3, 4] rfl rfl (fun new hN hf => ?_)
   have e3 := hI3.2.2.2.2
   rw [List.take_of_length_le (by omega)] at e3
   exact hK (_, _, _) _ (fun b o hb => wth_old (hI3.2.2.2.1 _ _ hb) fun x hx => hf x hx) (envF_ret hN hf hI3.2.2.2.1 e3)
 repeat' first
  | refine ⟨(), ⟨rfl, rfl⟩, trivial⟩
  | refine ⟨?_, ?_, ?_, ?_, trivial⟩
  | refine ⟨?_, ?_, ?_, trivial⟩
  | refine ⟨?_, ?_, trivial⟩
end Go.Proofs
end
section
namespace Go.Proofs
open Go Go.Aw Go.Sx
set_option maxRecDepth 100000
theorem u_reckon (bi br bf : Nat) (en rs : VMap) (fe : FMap) (hen : EnvD en rs fe) : ∀ (k : Nat) (e : Exp), depE e < k → szE e ≤ 1000000000 → ∀ (m : AMem), EnvM m bi br bf en rs fe → ∀ (K : AV → AMem → Prop), K (.tuple [valTop (evF en rs fe k e).1, .int .i64 (evF en rs fe k e).2]) m → ACalls Tryd.prog 31 [expTop e, .agg [.map bi, .map br, .map bf]] m K
  | 0, _, h, _ => absurd h (Nat.not_lt_zero _)
  | k + 1, e, h, hz => fun m hE K hK => u_reckon1 k e bi br bf en rs fe hen hz (u_reckon bi br bf en rs fe hen k) h m K hE hK
theorem u_REvalT (e : Exp) (bi br bf : Nat) (en rs : VMap) (fe : FMap) (hen : EnvD en rs fe) (hz : szE e ≤ 1000000000) : ∀ (m : AMem), EnvM m bi br bf en rs fe → ∀ (K : AV → AMem → Prop), K (.tuple [valTop (gE en rs fe (depE e + 1) e).1, .int .i64 (gE en rs fe (depE e + 1) e).2]) m → ACalls Tryd.prog 12 [expTop e, .agg [.map bi, .map br, .map bf]] m K := fun m hE K hK =>
  u_REval1 e bi br bf en rs fe (evF en rs fe (depE e + 1) e) (evF_d hen _ _ hz) (u_reckon bi br bf en rs fe hen (depE e + 1) e (Nat.lt_succ_self _) hz) m K hE hK
theorem envOf_sub : ∀ (l : List (Str × Val)) (m : VMap) {q : Str × Val}, q ∈ l.foldl (fun m p => mput m p.1 p.2) m → q ∈ l ∨ q ∈ m
  | [], _, _, h => .inr h
  | p :: r, m, q, h => by
    rcases envOf_sub r _ h with h | h
    · exact .inl (List.mem_cons_of_mem _ h)
    · rcases mput_mem h with rfl | h
      · exact .inl (List.mem_cons_self ..)
      · exact .inr h
theorem envOf_mem {l : List (Str × Val)} {q : Str × Val} (h : q ∈ envOf l) : q ∈ l := by
  rcases envOf_sub l [] h with h | h
  · exact h
  · cases h
theorem feOf_sub : ∀ (l : List (Str × Val)) (m : FMap) {q : Str × VMap}, q ∈ l.foldl (fun m p => mput m p.1 (envOf p.2.f)) m → (∃ p ∈ l, q.2 = envOf p.2.f) ∨ q ∈ m
  | [], _, _, h => .inr h
  | p :: r, m, q, h => by
    rcases feOf_sub r _ h with ⟨x, h1, h2⟩ | h
    · exact .inl ⟨x, List.mem_cons_of_mem _ h1, h2⟩
    · rcases mput_mem h with rfl | h
      · exact .inl ⟨p, List.mem_cons_self .., rfl⟩
      · exact .inr h
theorem envD_of {a b c : List (Str × Val)} (ha : depF a ≤ 1000000000) (hb : depF b ≤ 1000000000) (hc : depF c ≤ 1000000000) : EnvD (envOf a) (envOf b) (feOf c) := by
  refine ⟨fun p hp => ?_, fun p hp => ?_, fun q hq p hp => ?_⟩
  · have := depF_mem (envOf_mem hp); omega
  · have := depF_mem (envOf_mem hp); omega
  · rcases feOf_sub c [] hq with ⟨x, h1, h2⟩ | h
    · rw [h2] at hp
      have := depF_mem (envOf_mem hp)
      have := depF_mem h1
      have := depV_eq x.2
      omega
    · cases h
def S1 : Str := [40, 49, 32, 43, 32, 50, 41]
def T1 : List Tok := [(4, 0, [40]), (2, 1, [49]), (4, 3, [43]), (2, 5, [50]), (4, 6, [41])]
def eL (n : Int) : Exp := .mk 1 (.mk 1 n [] [] []) [] [] [] []
def e1 : Exp := .mk 5 zV [] [] [eL 1, eL 2] []
def v3 : Val := .mk 1 3 [] [] []
theorem tok1 : tokR S1 = (T1, 0, 0) := by decide +kernel
theorem ex1 : exprP T1 7 6 0 = .ok e1 5 := by kernel_rfl
theorem nodL (n : Int) (h : chk (.mk 1 n [] [] []) = 0) : NodeOk (eL n) := .inl ⟨rfl, rfl, rfl, ⟨show (1 : Int) ≤ 3 by decide, h⟩, rfl, rfl⟩
theorem fm1 : fmE e1 := by
  have h1 : NodeOk e1 := .inr ⟨rfl, .inr (.inr (.inl ⟨.inl rfl, rfl, rfl, rfl, rfl⟩))⟩
  refine (fmE_eq e1).2 ⟨h1, ?_⟩
  show fmL [eL 1, eL 2]
  simp only [fmL, fmE_eq]
  refine ⟨⟨nodL 1 (by decide +kernel), ?_⟩, ⟨nodL 2 (by decide +kernel), ?_⟩, trivial⟩
  · show fmL []; simp only [fmL]
  · show fmL []; simp only [fmL]
theorem exF1 : exF e1 = 0 := by
  rw [exF_few ⟨by decide +kernel, by decide +kernel⟩]; exact fmI_y fm1
theorem parse1 : parseP S1 = (e1, 0, 0) := by
  have hw : wholeP T1 7 0 = .ok e1 5 := by
    rw [wholeP, ex1, PR.bind, if_pos (show (PR.ok e1 5).f = 0 from rfl)]
    show (if exF e1 = 0 then _ else _) = _
    rw [if_pos exF1]; rfl
  rw [parseP, tok1]
  show (if (0 : Int) = 0 then _ else _) = _
  rw [if_pos rfl, show ((S1.length : Nat) : Int) = 7 from rfl]
  dsimp only
  rw [hw]
  rfl
theorem gL (n : Int) (h : chk (.mk 1 n [] [] []) = 0) : gE [] [] [] 1 (eL n) = (.mk 1 n [] [] [], 0) := by
  rw [gE, evF_1 rfl, fin, if_pos rfl]; exact if_pos h
theorem ev1 : evF [] [] [] 2 e1 = (v3, 0) := by
  have h1 := gL 1 (by decide +kernel)
  have h2 := gL 2 (by decide +kernel)
  have q : allE (gE [] [] [] 1) e1.a = 0 := by
    show allE (gE [] [] [] 1) [eL 1, eL 2] = 0
    rw [allE, allE, h1, h2]; rfl
  have q2 : allL (gE [] [] [] 1) e1.a = [.mk 1 1 [] [] [], .mk 1 2 [] [] []] := by
    rw [allL, if_pos q]
    show [(gE [] [] [] 1 (eL 1)).1, (gE [] [] [] 1 (eL 2)).1] = _
    rw [h1, h2]
  rw [evF_81 (by decide) (by decide) (by decide) (by decide) (by decide) q, q2]
  rfl
theorem okL (n : Int) : okE (eL n) := okE_sz (by simp [eL, szE, szL, depV, depL, depF])
theorem u_evL (n : Int) (m : AMem) (K : AV → AMem → Prop) (hK : K (.tuple [valTop (evF [] [] [] (0 + 1) (eL n)).1, .err 72 (evF [] [] [] (0 + 1) (eL n)).2]) m) : ACalls Tryd.prog 30 [expTop (eL n), .agg [.nilmap, .nilmap, .nilmap]] m K :=
  u_evalN1 0 (eL n) (.inl rfl) (okL n) (fun x hx => by cases hx) m K hK
theorem u_ev1 (m : AMem) (K : AV → AMem → Prop) (hK : K (.tuple [valTop v3, .err 72 0]) m) : ACalls Tryd.prog 11 [expTop e1, .agg [.nilmap, .nilmap, .nilmap]] m K := by
  refine u_EvalN1 e1 (evF [] [] [] 2 e1) (fun m K hK => u_evalN1 1 e1 (.inr rfl) (okE_sz (by decide +kernel)) (fun x hx => ?_) m K hK) m K ?_
  · replace hx : x ∈ [eL 1, eL 2] := hx
    simp only [List.mem_cons, List.not_mem_nil, or_false] at hx
    rcases hx with rfl | rfl
    · exact fun m K hK => u_evL 1 m K hK
    · exact fun m K hK => u_evL 2 m K hK
  · rw [ev1, fin, if_pos rfl, if_pos (by decide +kernel)]; exact hK
theorem vEq_refl (v : Val) : vEq v v = true := vEq_iff.2 rfl
set_option maxHeartbeats 1000000 in
theorem u_reckons   (m : AMem)  (K : AV → AMem → Prop) (hT : Tabs m) (hK : K (.bool true) m) : ACalls Tryd.prog 7 [] m K := by
 refine enter (c := cf [] [] [3] [] [] []) (vs := []) (L := []) (m := m) false tbOk Tryd.mixed Tryd.func7 rfl (k := 0) (by show fnOk [] _ _ _ = true; decide +kernel) rfl (Good.nil m) ?_
 refine callT [] [] (.av (.tuple [expTop e1, .int .i64 0, .err 72 0])) rfl (fun bs mm gd ht => fun K hK => u_Parse S1 (by decide) mm (Tabs.up ht hT) K (by rw [parse1]; exact hK)) ?_
 refine call0 (fun _ => u_ev1) rfl ?_
 refine mg [] 0 (((((0 : Int) == 0) && ((0 : Int) == 0)) && (v3.kind == 1)) && (v3.n == 3)) ?_ ?_
 · repeat' first
    | exact ⟨⟨_, rfl, by grind [SB.val, v3, Val.kind, Val.n]⟩, rfl⟩
    | refine an (fun _ => ?_) (fun _ => ?_)
    | refine call0 (fun _ => u_same 0 0 (by decide)) rfl ?_
 refine rt0 rfl fun _ => ?_
 show K (.bool (((((0 : Int) == 0) && ((0 : Int) == 0)) && (v3.kind == 1)) && (v3.n == 3))) m
 exact hK
set_option maxHeartbeats 4000000 in
theorem u_EvalSays (e : Exp) (a b c : List (Str × Val)) (hz : szE e ≤ 1000000000) (ha : depF a ≤ 1000000000) (hb : depF b ≤ 1000000000) (hc : depF c ≤ 1000000000) (m : AMem)  (K : AV → AMem → Prop) (hT : Tabs m) (hK : K (.bool true) m) : ACalls Tryd.prog 3 [expTop e, .slice false (a.map fldIn), .slice false (b.map fldIn), .slice false (c.map fldIn)] m K := by
 have hen := envD_of ha hb hc
 refine enter (c := cf [] [] [2, 7] [] [] []) (vs := [.av (expTop e), .av (.slice false (a.map fldIn)), .av (.slice false (b.map fldIn)), .av (.slice false (c.map fldIn))]) (L := []) (m := m) false tbOk Tryd.mixed Tryd.func3 rfl (k := 4) (by show fnOk [] _ _ _ = true; decide +kernel) rfl (Good.nil m) ?_
 refine callT [] [] (vB true) rfl (fun bs mm gd ht => fun K hK => u_reckons mm K (Tabs.up ht hT) hK) ?_
 refine sq ?_
 refine mg [1, 2, 3, 4, 9] 38 (((((!true) || (!(decide (loadE 4000 e ≤ 4000)))) || (!(lightFs a))) || (!(lightFs b))) || (!(lightFs c))) ?_ ?_
 · repeat' first
    | exact ⟨⟨_, rfl, by grind [SB.val]⟩, rfl⟩
    | refine an (fun _ => ?_) (fun _ => ?_)
    | refine call0 (fun _ => u_LightExpr e) rfl ?_
    | refine call0 (fun _ => u_LightFields a) rfl ?_
    | refine call0 (fun _ => u_LightFields b) rfl ?_
    | refine call0 (fun _ => u_LightFields c) rfl ?_
 refine an (fun h1 => ?_) (fun h1 => ?_)
 · replace h1 : ((((true = false) ∨ (decide (loadE 4000 e ≤ 4000) = false)) ∨ (lightFs a = false)) ∨ (lightFs b = false)) ∨ (lightFs c = false) := ((borT h1).imp (fun q => ((borT q).imp (fun q => ((borT q).imp (fun q => ((borT q).imp (fun q => (bnT q)) (fun q => (bnT q)))) (fun q => (bnT q)))) (fun q => (bnT q)))) (fun q => (bnT q)))
   refine rt0 rfl fun _ => ?_
   show K (.bool true) m
   exact hK
 replace h1 : ((((true = true) ∧ (decide (loadE 4000 e ≤ 4000) = true)) ∧ (lightFs a = true)) ∧ (lightFs b = true)) ∧ (lightFs c = true) := ⟨⟨⟨⟨(bnF (borL (borL (borL (borL h1))))), (bnF (borR (borL (borL (borL h1)))))⟩, (bnF (borR (borL (borL h1))))⟩, (bnF (borR (borL h1)))⟩, (bnF (borR h1))⟩
 refine callB (σ := Nat × Nat × Nat) (fun x => .tuple [.agg [.map x.1, .map x.2.1, .map x.2.2], .agg [.map x.1, .map x.2.1, .map x.2.2]]) (fun x mm M => EnvF mm M x.1 x.2.1 x.2.2 (envOf a) (envOf b) (feOf c)) (fun x M => EnvM M x.1 x.2.1 x.2.2 (envOf a) (envOf b) (feOf c)) (fun x mm M S hS hI => hI.rest hS) (fun _ => rfl) (fun bs mm ht K hK => u_Envs a b c (by have := depF_len a; omega) (by have := depF_len b; omega) (by have := depF_len c; omega) (fun p hp => by have := depF_mem hp; have := depV_eq p.2; have := depF_len p.2.f; omega) mm K hK) ?_
 rintro ⟨bi1, br1, bf1⟩ mb1 hm1 hx1
 dsimp only at hx1 ⊢
 refine callT [] [] (.av (.tuple [valTop ((gE (envOf a) (envOf b) (feOf c) (depE e + 1) e).1), .err 72 ((gE (envOf a) (envOf b) (feOf c) (depE e + 1) e).2)])) rfl (fun bs mm gd ht => fun K hK => u_EvalT e bi1 br1 bf1 _ _ _ hen.ok (okE_sz hz) mm (hx1.up ht) K hK) ?_
 refine callT [] [] (.av (.tuple [valTop ((gE (envOf a) (envOf b) (feOf c) (depE e + 1) e).1), .int .i64 ((gE (envOf a) (envOf b) (feOf c) (depE e + 1) e).2)])) rfl (fun bs mm gd ht => fun K hK => u_REvalT e bi1 br1 bf1 _ _ _ hen hz mm (hx1.up ht) K hK) ?_
 refine mg [] 8 ((((gE (envOf a) (envOf b) (feOf c) (depE e + 1) e).2) == ((gE (envOf a) (envOf b) (feOf c) (depE e + 1) e).2)) && (vEq ((gE (envOf a) (envOf b) (feOf c) (depE e + 1) e).1) ((gE (envOf a) (envOf b) (feOf c) (depE e + 1) e).1))) ?_ ?_
 · repeat' first
    | exact ⟨⟨_, rfl, by grind [SB.val]⟩, rfl⟩
    | refine an (fun _ => ?_) (fun _ => ?_)
    | refine call0 (fun _ => u_same ((gE (envOf a) (envOf b) (feOf c) (depE e + 1) e).2) ((gE (envOf a) (envOf b) (feOf c) (depE e + 1) e).2) (fin_nn (evF_d hen _ _ hz).1)) rfl ?_
    | refine call0 (fun _ => u_RAlike ((gE (envOf a) (envOf b) (feOf c) (depE e + 1) e).1) ((gE (envOf a) (envOf b) (feOf c) (depE e + 1) e).1)) rfl ?_
 refine rtB rfl hm1 (fun _ => K_eq hK ?_)
 simp [vEq_refl]
 rfl
end Go.Proofs
end
section
namespace Go.Aw
open Go Go.RowKit Go.WideShapes Go.ChangeShapes
theorem RdB.argS {bk : {H : Type} → DataW H → Nat} {P : Program} {t : TypeId} {α : Type} {f : α → AV} {z : α → Nat} {H : Type} {enc : TypeId × Value → H} {W : World} {sp : Nat → Bool} {cs : Array Value} {d : DataW H} {ps : List MemPlace} (hr : ∀ n, RdB bk P n t f z) (hf : ∀ x, ∃ l, f x = .agg l) (hd : DataW.Trod enc P W 0 sp true t (.agg cs) d ps) (hw : ∀ n ∈ d.weights P t, n ≤ reachBytes) :
    ∃ x : α, z x ≤ bk d ∧ Rep W (limOf W) (.agg cs) (f x) [] := by
  obtain ⟨n, hn⟩ := hd
  obtain ⟨x, h0, h1, h2⟩ := hr n H enc W sp _ d ps hn hw
  obtain ⟨l, e⟩ := hf x
  refine ⟨x, h0, ?_⟩
  rw [e] at h1 h2 ⊢
  simp only [AV.cells] at h1 h2
  have hl : cs.size = l.length := by simpa [Value.cells] using h1.symm
  have := Rep.agg (w := W) (lim := limOf W) cs l (fun _ => []) hl (fun i hi => by
    have := h2 i (by simpa [Value.cells, hl] using hi)
    simpa [Value.cells, List.getD_eq_getElem?_getD, Array.getD_eq_getD_getElem?] using this)
  rwa [flatMap_nil] at this
end Go.Aw
namespace Go.Proofs
open Go Go.Aw Go.RowKit Go.WideShapes Go.ChangeShapes
set_option maxRecDepth 100000
theorem valIn_len (v : Val) : (valIn v).cells.length = 5 := by cases v; rfl
theorem fldIn_len (v : Str × Val) : (fldIn v).cells.length = 6 := by
  obtain ⟨s, v⟩ := v
  cases v; rfl
section
variable {bk : {H : Type} → DataW H → Nat} {bkA : {H : Type} → List (DataW H) → Nat}
theorem sum_depL (l : List Val) : (l.map depV).sum = depL l := by
  induction l with
  | nil => rfl
  | cons v r ih => rw [List.map_cons, List.sum_cons, ih]; rfl
theorem sum_depF (l : List (Str × Val)) : (l.map fun p => depV p.2).sum = depF l := by
  induction l with
  | nil => rfl
  | cons p r ih =>
    obtain ⟨s, v⟩ := p
    cases v with
    | mk k n t l f => rw [List.map_cons, List.sum_cons, ih]; rfl
theorem rdB_fld {n : Nat} (hB : BulkOk bk bkA) (ih : ∀ k, k < n → RdB bk Tryd.prog k 25 valIn depV) : RdB bk Tryd.prog n 69 fldIn (fun p => depV p.2) := by
  intro H enc W sp cs d ps h hw
  obtain ⟨hl, p, hp, hf⟩ := rdB_fields hB Tryd.underlying69 h hw
  obtain ⟨s, _, _, _, _, hs⟩ := hf 0 _ strAV (fun _ => 0) rfl (fun _ _ => (rd_string (by rfl)).toB) (by decide)
  obtain ⟨v, dv, h1, h2, _, hv⟩ := hf 1 _ valIn depV rfl (fun k hk => ih k hk) (by decide)
  have h3 := hB.at h1
  refine ⟨(s, v), by simp only; omega, by rw [fldIn_len, hl]; rfl, fun i hi => ?_⟩
  rw [hl] at hi
  replace hi : i < 6 := hi
  cases v with
  | mk k n t l f =>
    match i, hi with
    | 0, _ => exact hs 0 (by decide)
    | 1, _ => exact hv 0 (by decide)
    | 2, _ => exact hv 1 (by decide)
    | 3, _ => exact hv 2 (by decide)
    | 4, _ => exact hv 3 (by decide)
    | 5, _ => exact hv 4 (by decide)
theorem rdB_val (hB : BulkOk bk bkA) (n : Nat) : RdB bk Tryd.prog n 25 valIn depV := by
  induction n using Nat.strongRecOn with
  | ind n ih =>
    intro H enc W sp cs d ps h hw
    obtain ⟨hl, p, hp, hf⟩ := rdB_fields hB Tryd.underlying25 h hw
    obtain ⟨k, _, _, _, _, hk⟩ := hf 0 _ intAV (fun _ => 0) rfl (fun _ _ => (rd_int (by rfl)).toB) (by decide)
    obtain ⟨m, _, _, _, _, hm⟩ := hf 1 _ intAV (fun _ => 0) rfl (fun _ _ => (rd_int (by rfl)).toB) (by decide)
    obtain ⟨s, _, _, _, _, hs⟩ := hf 2 _ strAV (fun _ => 0) rfl (fun _ _ => (rd_string (by rfl)).toB) (by decide)
    obtain ⟨l, dl, l1, l2, _, hll⟩ := hf 3 _ (lstAV valIn) _ rfl (fun j hj => rdB_slice hB (by rfl) (by rfl) (by decide) (by decide) valIn_len (fun i hi => ih i (by omega))) (by decide)
    obtain ⟨f, df, f1, f2, _, hff⟩ := hf 4 _ (lstAV fldIn) _ rfl (fun j hj => rdB_slice hB (by rfl) (by rfl) (by decide) (by decide) fldIn_len (fun i hi => rdB_fld hB (fun q hq => ih q (by omega)))) (by decide)
    have h3 := hB.two (by decide) l1 f1
    replace l2 : (l.map depV).sum ≤ bk dl := l2
    replace f2 : (f.map fun p => depV p.2).sum ≤ bk df := f2
    rw [sum_depL] at l2
    rw [sum_depF] at f2
    replace h3 : bk dl + bk df ≤ bkA p := h3
    have h4 : depL l + depF f + 1 ≤ bk d := by omega
    refine ⟨.mk k m s l f, by rw [depV]; exact h4, by rw [valIn_len, hl]; rfl, fun i hi => ?_⟩
    rw [hl] at hi
    replace hi : i < 5 := hi
    rw [valIn_eq]
    match i, hi with
    | 0, _ => exact hk 0 (by decide)
    | 1, _ => exact hm 0 (by decide)
    | 2, _ => exact hs 0 (by decide)
    | 3, _ => exact hll 0 (by decide)
    | 4, _ => exact hff 0 (by decide)
theorem bulk3 (hB : BulkOk bk bkA) {H : Type} : ∀ {p : List (DataW H)} {i j k : Nat} {d d' d2 : DataW H}, i < j → j < k → p[i]? = some d → p[j]? = some d' → p[k]? = some d2 → bk d + bk d' + bk d2 ≤ bkA p
  | a :: p, 0, j + 1, k + 1, d, d', d2, _, hjk, h, h', h2 => by
    simp only [List.getElem?_cons_zero, Option.some.injEq, List.getElem?_cons_succ] at h h' h2
    subst h
    have := hB.two (by omega) h' h2
    rw [hB.cons]; omega
  | a :: p, i + 1, j + 1, k + 1, d, d', d2, hij, hjk, h, h', h2 => by
    simp only [List.getElem?_cons_succ] at h h' h2
    have := bulk3 hB (by omega) (by omega) h h' h2
    rw [hB.cons]; omega
  | a :: p, i, 0, k, d, d', d2, hij, _, _, _, _ => by omega
  | a :: p, i, j + 1, 0, d, d', d2, _, hjk, _, _, _ => by omega
  | [], i, j, k, d, d', d2, _, _, h, _, _ => by simp at h
theorem _root_.Go.Aw.Rd.toB1 {P : Program} {fuel : Nat} {t : TypeId} {α : Type} {f : α → AV} (h1 : ∀ {H : Type} (d : DataW H), 1 ≤ bk d) (h : Rd P fuel t f) : RdB bk P fuel t f (fun _ => 1) := by
  intro H enc W sp cs d ps h2 h3
  obtain ⟨x, h4, h5⟩ := h H enc W sp cs d ps h2 h3
  exact ⟨x, h1 d, h4, h5⟩
theorem sum_szL (l : List Exp) : (l.map szE).sum = szL l := by
  induction l with
  | nil => rfl
  | cons v r ih => rw [List.map_cons, List.sum_cons, ih]; rfl
theorem sum_one (l : List Str) : (l.map fun _ => 1).sum = l.length := by
  induction l with
  | nil => rfl
  | cons v r ih => rw [List.map_cons, List.sum_cons, ih, List.length_cons]; omega
theorem expIn_len (e : Exp) : (expIn e).cells.length = 10 := by cases e; rfl
theorem expIn_agg (e : Exp) : ∃ l, expIn e = .agg l := ⟨_, expIn_eq e⟩
theorem rdB_exp (hB : BulkOk bk bkA) (h1 : ∀ {H : Type} (d : DataW H), 1 ≤ bk d) (n : Nat) : RdB bk Tryd.prog n 29 expIn szE := by
  induction n using Nat.strongRecOn with
  | ind n ih =>
    intro H enc W sp cs d ps h hw
    obtain ⟨hl, p, hp, hf⟩ := rdB_fields hB Tryd.underlying29 h hw
    obtain ⟨k, _, _, _, _, hk⟩ := hf 0 _ intAV (fun _ => 0) rfl (fun _ _ => (rd_int (by rfl)).toB) (by decide)
    obtain ⟨v, dv, v1, v2, _, hv⟩ := hf 1 _ valIn depV rfl (fun j _ => rdB_val hB j) (by decide)
    obtain ⟨s, _, _, _, _, hs⟩ := hf 2 _ strAV (fun _ => 0) rfl (fun _ _ => (rd_string (by rfl)).toB) (by decide)
    obtain ⟨t, _, _, _, _, ht⟩ := hf 3 _ strAV (fun _ => 0) rfl (fun _ _ => (rd_string (by rfl)).toB) (by decide)
    obtain ⟨a, da, a1, a2, _, ha⟩ := hf 4 _ (lstAV expIn) _ rfl (fun j hj => rdB_slice hB (by rfl) (by rfl) (by decide) (by decide) expIn_len (fun i hi => ih i (by omega))) (by decide)
    obtain ⟨m, dm, m1, m2, _, hm⟩ := hf 5 _ (lstAV strAV) _ rfl (fun j hj => rdB_slice hB (by rfl) (by rfl) (by decide) (by decide) (fun _ => rfl) (fun i hi => (rd_string (by rfl)).toB1 h1)) (by decide)
    have h3 := bulk3 hB (by decide) (by decide) v1 a1 m1
    replace a2 : (a.map szE).sum ≤ bk da := a2
    replace m2 : (m.map fun _ => 1).sum ≤ bk dm := m2
    rw [sum_szL] at a2
    rw [sum_one] at m2
    replace h3 : bk dv + bk da + bk dm ≤ bkA p := h3
    have h4 : depV v + m.length + szL a + 1 ≤ bk d := by omega
    refine ⟨.mk k v s t a m, by rw [szE]; exact h4, by rw [expIn_len, hl]; rfl, fun i hi => ?_⟩
    rw [hl] at hi
    replace hi : i < 10 := hi
    rw [expIn_eq]
    simp only [valIn_eq] at hv
    match i, hi with
    | 0, _ => exact hk 0 (by decide)
    | 1, _ => exact hv 0 (by decide)
    | 2, _ => exact hv 1 (by decide)
    | 3, _ => exact hv 2 (by decide)
    | 4, _ => exact hv 3 (by decide)
    | 5, _ => exact hv 4 (by decide)
    | 6, _ => exact hs 0 (by decide)
    | 7, _ => exact ht 0 (by decide)
    | 8, _ => exact ha 0 (by decide)
    | 9, _ => exact hm 0 (by decide)
end
theorem okT_valN : ∀ (n : Nat) (v : Val), depV v < n → OkT (valIn v)
  | 0, _, h => absurd h (Nat.not_lt_zero _)
  | n + 1, v, h => by
    have e := depV_eq v
    rw [valIn_eq, valTop]
    have hl : ∀ w ∈ v.l, OkT (valIn w) := fun w hw => okT_valN n w (by have := depL_mem hw; omega)
    have hf : ∀ p ∈ v.f, OkT (fldIn p) := fun p hp => by
      have h2 := okT_valN n p.2 (by have := depF_mem hp; omega)
      rw [valIn_eq, valTop] at h2
      cases h2 with
      | agg _ h3 =>
        rw [fldIn_eq, fldTop]
        refine .agg _ fun y hy => ?_
        rcases List.mem_cons.1 hy with rfl | hy
        · exact .str _
        · exact h3 y hy
    refine .agg _ fun y hy => ?_
    simp only [List.mem_cons, List.not_mem_nil, or_false] at hy
    rcases hy with rfl | rfl | rfl | rfl | rfl
    · exact .int _ _ (by decide)
    · exact .int _ _ (by decide)
    · exact .str _
    · refine .slice _ (fun x hx => ?_) fun x hx y hy => ?_
      · obtain ⟨w, _, rfl⟩ := List.mem_map.1 hx
        exact fun e => by have := valIn_len w; rw [e] at this; cases this
      · obtain ⟨w, hw, rfl⟩ := List.mem_map.1 hx
        have h2 := hl w hw
        rw [valIn_eq, valTop] at h2
        rw [valIn_eq, valTop] at hy
        cases h2 with
        | agg _ h3 => exact h3 y hy
    · refine .slice _ (fun x hx => ?_) fun x hx y hy => ?_
      · obtain ⟨p, _, rfl⟩ := List.mem_map.1 hx
        exact fun e => by have := fldIn_len p; rw [e] at this; cases this
      · obtain ⟨p, hp, rfl⟩ := List.mem_map.1 hx
        have h2 := hf p hp
        rw [fldIn_eq, fldTop] at h2
        rw [fldIn_eq, fldTop] at hy
        cases h2 with
        | agg _ h3 => exact h3 y hy
theorem okT_val (v : Val) : OkT (valIn v) := okT_valN _ v (Nat.lt_succ_self _)
theorem okT_fld (p : Str × Val) : OkT (fldIn p) := by
  have h2 := okT_val p.2
  rw [valIn_eq, valTop] at h2
  cases h2 with
  | agg _ h3 =>
    rw [fldIn_eq, fldTop]
    refine .agg _ fun y hy => ?_
    rcases List.mem_cons.1 hy with rfl | hy
    · exact .str _
    · exact h3 y hy
theorem okT_flds (l : List (Str × Val)) : OkT (lstAV fldIn l) := by
  refine .slice _ (fun x hx => ?_) fun x hx y hy => ?_
  · obtain ⟨p, _, rfl⟩ := List.mem_map.1 hx
    exact fun e => by have := fldIn_len p; rw [e] at this; cases this
  · obtain ⟨p, hp, rfl⟩ := List.mem_map.1 hx
    have h2 := okT_fld p
    rw [fldIn_eq, fldTop] at h2
    rw [fldIn_eq, fldTop] at hy
    cases h2 with
    | agg _ h3 => exact h3 y hy
theorem okT_strs (l : List Str) : OkT (.slice false (l.map strAV)) := by
  refine .slice _ (fun x hx => ?_) fun x hx y hy => ?_
  · obtain ⟨s, _, rfl⟩ := List.mem_map.1 hx
    exact List.cons_ne_nil _ _
  · obtain ⟨s, _, rfl⟩ := List.mem_map.1 hx
    rw [List.mem_singleton.1 (show y ∈ [AV.str s] from hy)]; exact .str _
theorem okT_vals (l : List Val) : OkT (.slice false (l.map valIn)) := by
  refine .slice _ (fun x hx => ?_) fun x hx y hy => ?_
  · obtain ⟨w, _, rfl⟩ := List.mem_map.1 hx
    exact fun e => by have := valIn_len w; rw [e] at this; cases this
  · obtain ⟨w, hw, rfl⟩ := List.mem_map.1 hx
    have h2 := okT_val w
    rw [valIn_eq, valTop] at h2
    rw [valIn_eq, valTop] at hy
    cases h2 with
    | agg _ h3 => exact h3 y hy
theorem okT_expN : ∀ (n : Nat) (e : Exp), depE e < n → OkT (expIn e)
  | 0, _, h => absurd h (Nat.not_lt_zero _)
  | n + 1, e, h => by
    rw [expIn_eq, expTop]
    have hl : ∀ x ∈ e.a, OkT (expIn x) := fun x hx => okT_expN n x (by have := depE_mem hx; omega)
    refine .agg _ fun y hy => ?_
    simp only [List.mem_cons, List.not_mem_nil, or_false] at hy
    rcases hy with rfl | rfl | rfl | rfl | rfl | rfl | rfl | rfl | rfl | rfl
    · exact .int _ _ (by decide)
    · exact .int _ _ (by decide)
    · exact .int _ _ (by decide)
    · exact .str _
    · exact okT_vals _
    · exact okT_flds _
    · exact .str _
    · exact .str _
    · refine .slice _ (fun x hx => ?_) fun x hx y hy => ?_
      · obtain ⟨w, _, rfl⟩ := List.mem_map.1 hx
        exact fun q => by have := expIn_len w; rw [q] at this; cases this
      · obtain ⟨w, hw, rfl⟩ := List.mem_map.1 hx
        have h2 := hl w hw
        rw [expIn_eq, expTop] at h2
        rw [expIn_eq, expTop] at hy
        cases h2 with
        | agg _ h3 => exact h3 y hy
    · exact okT_strs _
theorem okT_exp (e : Exp) : OkT (expIn e) := okT_expN _ e (Nat.lt_succ_self _)
end Go.Proofs
end
