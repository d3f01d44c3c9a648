import Derived.Test.YtoeghipbkmaccaaProg
import Derived.Test.YtoeghipbkmaccaaWl1
import Derived.Test.YtoeghipbkmaccaaWl3
section
namespace Go.Proofs
open Go Go.Aw
set_option maxRecDepth 100000


/-- A value, as data. -/
inductive Val where
  | mk (kind n : Int) (s : Str) (l : List Val) (f : List (Str × Val))
instance : Inhabited Val := ⟨.mk 0 0 [] [] []⟩
def Val.kind : Val → Int | .mk k _ _ _ _ => k
def Val.n : Val → Int | .mk _ n _ _ _ => n
def Val.s : Val → Str | .mk _ _ s _ _ => s
def Val.l : Val → List Val | .mk _ _ _ l _ => l
def Val.f : Val → List (Str × Val) | .mk _ _ _ _ f => f
mutual
def valIn : Val → AV
  | .mk k n s l f => .agg [.int .i64 k, .int .i64 n, .str s, .slice false (valsIn l), .slice false (fldsIn f)]
def valsIn : List Val → List AV
  | [] => []
  | v :: r => valIn v :: valsIn r
def fldsIn : List (Str × Val) → List AV
  | [] => []
  | (s, .mk k n t l f) :: r => .agg [.str s, .int .i64 k, .int .i64 n, .str t, .slice false (valsIn l), .slice false (fldsIn f)] :: fldsIn r
end
def fldIn (p : Str × Val) : AV := .agg (.str p.1 :: (valIn p.2).cells)
theorem valsIn_eq (l : List Val) : valsIn l = l.map valIn := by
  induction l with
  | nil => rfl
  | cons v r ih => simp only [valsIn, List.map_cons, ih]
theorem fldsIn_eq (l : List (Str × Val)) : fldsIn l = l.map fldIn := by
  induction l with
  | nil => rfl
  | cons v r ih =>
    obtain ⟨s, v⟩ := v
    cases v with
    | mk k n t l f => simp only [fldsIn, List.map_cons, ih, fldIn, valIn, AV.cells]
def valTop (v : Val) : AV := .agg [.int .i64 v.kind, .int .i64 v.n, .str v.s, .slice false (v.l.map valIn), .slice false (v.f.map fldIn)]
def fldTop (p : Str × Val) : AV := .agg [.str p.1, .int .i64 p.2.kind, .int .i64 p.2.n, .str p.2.s, .slice false (p.2.l.map valIn), .slice false (p.2.f.map fldIn)]
theorem valIn_eq (v : Val) : valIn v = valTop v := by
  cases v with
  | mk k n s l f => simp only [valIn, valTop, valsIn_eq, fldsIn_eq, Val.kind, Val.n, Val.s, Val.l, Val.f]
theorem fldIn_eq (p : Str × Val) : fldIn p = fldTop p := by
  rw [fldIn, valIn_eq]; rfl
theorem valMap (l : List Val) : l.map valIn = l.map valTop := List.map_congr_left fun v _ => valIn_eq v
theorem fldMap (l : List (Str × Val)) : l.map fldIn = l.map fldTop := List.map_congr_left fun v _ => fldIn_eq v
mutual
def weightV (most : Int) : Val → Int
  | .mk _ _ s l f => weightF most f (weightL most l (1 + s.length))
def weightL (most : Int) : List Val → Int → Int
  | [], n => n
  | v :: r, n => if n ≤ most then weightL most r (IntKind.i64.wrap (n + weightV most v)) else n
def weightF (most : Int) : List (Str × Val) → Int → Int
  | [], n => n
  | (s, .mk _ _ t l f) :: r, n => if n ≤ most then weightF most r (IntKind.i64.wrap (IntKind.i64.wrap (n + s.length) + weightF most f (weightL most l (1 + t.length)))) else n
end
theorem weightV_eq (most : Int) (v : Val) : weightV most v = weightF most v.f (weightL most v.l (1 + v.s.length)) := by
  cases v with
  | mk k n s l f => simp only [weightV, Val.f, Val.l, Val.s]
theorem weightF_cons (most : Int) (p : Str × Val) (r : List (Str × Val)) (n : Int) : weightF most (p :: r) n = if n ≤ most then weightF most r (IntKind.i64.wrap (IntKind.i64.wrap (n + p.1.length) + weightV most p.2)) else n := by
  obtain ⟨s, v⟩ := p
  cases v with
  | mk k n t l f => simp only [weightF, weightV]
theorem weightL_stop (most : Int) (l : List Val) (n : Int) (h : most < n) : weightL most l n = n := by
  cases l with
  | nil => simp only [weightL]
  | cons v r => simp only [weightL]; rw [if_neg (by omega)]
theorem weightF_stop (most : Int) (l : List (Str × Val)) (n : Int) (h : most < n) : weightF most l n = n := by
  cases l with
  | nil => simp only [weightF]
  | cons v r => rw [weightF_cons, if_neg (by omega)]
theorem drop_gI {α : Type} [Inhabited α] {l : List α} {i : Int} (h0 : 0 ≤ i) (hi : i < l.length) : l.drop i.toNat = gI l i :: l.drop (i + 1).toNat := by
  have h : i.toNat < l.length := by omega
  have e : (i + 1).toNat = i.toNat + 1 := by omega
  rw [List.drop_eq_getElem_cons h, e]
  simp [gI, List.getD_eq_getElem?_getD, h]
mutual
def depV : Val → Nat
  | .mk _ _ _ l f => depL l + depF f + 1
def depL : List Val → Nat
  | [] => 0
  | v :: r => depV v + depL r
def depF : List (Str × Val) → Nat
  | [] => 0
  | (_, .mk _ _ _ l f) :: r => depL l + depF f + 1 + depF r
end
theorem depL_mem {l : List Val} {v : Val} (h : v ∈ l) : depV v ≤ depL l := by
  induction l with
  | nil => cases h
  | cons a r ih =>
    simp only [depL]
    rcases List.mem_cons.1 h with rfl | h
    · omega
    · have := ih h; omega
theorem depF_mem {l : List (Str × Val)} {p : Str × Val} (h : p ∈ l) : depV p.2 ≤ depF l := by
  induction l with
  | nil => cases h
  | cons a r ih =>
    obtain ⟨s, v⟩ := a
    cases v with
    | mk k n t l f =>
      simp only [depF]
      rcases List.mem_cons.1 h with rfl | h
      · simp only [depV]; omega
      · have := ih h; omega
theorem depV_eq (v : Val) : depV v = depL v.l + depF v.f + 1 := by
  cases v with
  | mk k n s l f => simp only [depV, Val.l, Val.f]

set_option maxHeartbeats 4000000 in
theorem u_weight1 (v : Val) (most : Int) (ih : ∀ w : Val, depV w < depV v → ∀ (m : AMem) (K : AV → AMem → Prop), K (.int .i64 (weightV most w)) m → ACalls Try.prog 67 [valTop w, .int .i64 most] m K) (m : AMem)  (K : AV → AMem → Prop) (hK : K (.int .i64 (weightV most v)) m) : ACalls Try.prog 67 [valTop v, .int .i64 most] m K := by
 refine acalls_enter Try.func67 rfl (by decide) (Nat.le_of_ble_eq_true rfl) ?_
 refine awp_bd 0 (x := valTop v) rfl (fun hbd0 => ?_)
 have hbd0_2 : v.s.length ≤ 140737488355328 := (hbd0 2 (Nat.le_of_ble_eq_true rfl))
 have hbd0_3 : v.l.length ≤ 140737488355328 := bd_map (hbd0 3 (Nat.le_of_ble_eq_true rfl))
 have hbd0_4 : v.f.length ≤ 140737488355328 := bd_map (hbd0 4 (Nat.le_of_ble_eq_true rfl))
 show AWP _ _ _ _ [(0, valTop v), (1, .int .i64 most)] m
 refine awp_reg2_seq [] [1, 2] (by decide) ?_
 intro K1 hK1
 refine ar_box rfl (m := m) (L := []) (v := valTop v) (by rfl) rfl ?_
 intro b1 hb1
 have hFb1 : m b1 = none := wth_none (m := m) (L := []) hb1
 have hNb1 : ([b1] : List Nat).Nodup := wth_nodup (m := m) (L := []) hb1 List.nodup_nil
 refine ⟨trivial, ?_⟩
 show K1 [(1, .int .i64 most), (2, .ptr ⟨b1, 0, none⟩)] (AMem.wth m [(b1, .cells [.int .i64 v.kind, .int .i64 v.n, .str v.s, .slice false (v.l.map valIn), .slice false (v.f.map fldIn)])])
 refine hK1 _ _ ?_; clear hK1 K1
 refine awp_reg2_seq [] [1, 2, 5] (by decide) ?_
 intro K1 hK1
 refine ⟨⟨rfl, by decide⟩, ?_⟩
 refine ar_loadp rfl (v := .str v.s) rfl (wth_get 0 hNb1 rfl) rfl (apartOk_one rfl rfl (Nat.le_of_ble_eq_true rfl)) rfl ?_
 refine ⟨trivial, ?_⟩
 refine ar_add rfl (a := 1) (b := (v.s.length : Int)) rfl rfl (by omega) (by omega) ?_
 refine ⟨trivial, ?_⟩
 show K1 [(1, .int .i64 most), (2, .ptr ⟨b1, 0, none⟩), (5, .int .i64 (1 + (v.s.length : Int)))] (AMem.wth m [(b1, .cells [.int .i64 v.kind, .int .i64 v.n, .str v.s, .slice false (v.l.map valIn), .slice false (v.f.map fldIn)])])
 refine hK1 _ _ ?_; clear hK1 K1
 refine awp_seq_k ?_; intro K2 hK2
 refine awp_reg2_seq [] [1, 2, 5, 6] (by decide) ?_
 intro K1 hK1
 refine ⟨trivial, ?_⟩
 show K1 [(1, .int .i64 most), (2, .ptr ⟨b1, 0, none⟩), (5, .int .i64 (1 + (v.s.length : Int))), (6, .int .i64 0)] (AMem.wth m [(b1, .cells [.int .i64 v.kind, .int .i64 v.n, .str v.s, .slice false (v.l.map valIn), .slice false (v.f.map fldIn)])])
 refine hK1 _ _ ?_; clear hK1 K1
 refine awp_block ?_
 refine awp_keep [1, 2, 5, 6] (by decide) ?_
 refine awp_loop_st (σ := Int × Int) (fun ⟨n_, i⟩ => [(1, .int .i64 most), (2, .ptr ⟨b1, 0, none⟩), (5, .int .i64 n_), (6, .int .i64 i)]) (fun _ => (AMem.wth m [(b1, .cells [.int .i64 v.kind, .int .i64 v.n, .str v.s, .slice false (v.l.map valIn), .slice false (v.f.map fldIn)])])) (fun ⟨n_, i⟩ => 0 ≤ i ∧ i ≤ v.l.length ∧ weightL most v.l (1 + v.s.length) = weightL most (v.l.drop i.toNat) n_) (fun ⟨n_, i⟩ => v.l.length - i.toNat) (1 + (v.s.length : Int), 0) rfl rfl ?_ ?_
 ·
  show 0 ≤ ((0 : Int)) ∧ ((0 : Int)) ≤ v.l.length ∧ weightL most v.l (1 + v.s.length) = weightL most (v.l.drop ((0 : Int)).toNat) ((1 + (v.s.length : Int) : Int))
  exact ⟨by omega, by omega, rfl⟩
 rintro ⟨n_, i⟩ hI
 replace hI : 0 ≤ i ∧ i ≤ v.l.length ∧ weightL most v.l (1 + v.s.length) = weightL most (v.l.drop i.toNat) n_ := hI
 show AWP _ _ _ _ [(1, .int .i64 most), (2, .ptr ⟨b1, 0, none⟩), (5, .int .i64 n_), (6, .int .i64 i)] (AMem.wth m [(b1, .cells [.int .i64 v.kind, .int .i64 v.n, .str v.s, .slice false (v.l.map valIn), .slice false (v.f.map fldIn)])])
 refine awp_seq_k ?_; intro K3 hK3
 refine awp_reg2_seq [] [1, 2, 5, 6, 21] (by decide) ?_
 intro K1 hK1
 suffices key : K1 [(1, .int .i64 most), (2, .ptr ⟨b1, 0, none⟩), (5, .int .i64 n_), (6, .int .i64 i), (21, .bool ((decide (i < (v.l.length : Int))) && (decide (n_ ≤ most))))] (AMem.wth m [(b1, .cells [.int .i64 v.kind, .int .i64 v.n, .str v.s, .slice false (v.l.map valIn), .slice false (v.f.map fldIn)])]) by
  refine ⟨trivial, ⟨rfl, by decide⟩, ?_⟩
  refine ar_loadp rfl (v := .slice false (v.l.map valIn)) rfl (wth_get 0 hNb1 rfl) rfl (apartOk_one rfl rfl (Nat.le_of_ble_eq_true rfl)) rfl ?_
  refine ar_len rfl valIn v.l rfl rfl rfl ?_
  refine ⟨trivial, trivial, ?_⟩
  show aopsR _ _ _ _ _ [(17, .bool (decide (i < (v.l.length : Int)))), (16, .bool (decide (i < (v.l.length : Int)))), (15, .int .i64 (v.l.length : Int)), (14, .slice false (v.l.map valIn)), (13, .ptr ⟨b1, 3, none⟩), (12, .int .i64 i), (1, .int .i64 most), (2, .ptr ⟨b1, 0, none⟩), (5, .int .i64 n_), (6, .int .i64 i)] _
  revert key
  cases h1 : (decide (i < (v.l.length : Int)))
  ·
   replace h1 : (v.l.length : Int) ≤ i := (Int.not_lt.1 (of_decide_eq_false h1))
   intro key
   refine ar_off rfl (ar_off rfl (ar_off rfl ?_))
   exact key
  ·
   replace h1 : i < (v.l.length : Int) := (of_decide_eq_true h1)
   intro key
   refine ⟨trivial, trivial, trivial, ?_⟩
   exact key
 refine hK1 _ _ ?_; clear hK1 K1
 refine awp_cond rfl rfl (fun h2 => ?_) (fun h2 => ?_)
 ·
  replace h2 : (i < (v.l.length : Int)) ∧ (n_ ≤ most) := ⟨(of_decide_eq_true (bandL h2)), (of_decide_eq_true (bandR h2))⟩
  refine awp_skip ?_
  refine hK3 _ _ ?_; clear hK3
  refine awp_seq_k ?_; intro K4 hK4
  refine awp_block ?_
  refine awp_reg2 [] [1, 2, 5, 6] (by decide) ?_
  intro K1 hK1
  refine ⟨trivial, ⟨rfl, by decide⟩, ?_⟩
  refine ar_loadp rfl (v := .slice false (v.l.map valIn)) rfl (wth_get 0 hNb1 rfl) rfl (apartOk_one rfl rfl (Nat.le_of_ble_eq_true rfl)) rfl ?_
  refine ⟨trivial, ?_⟩
  refine ar_index rfl valTop v.l i rfl rfl (valMap v.l) rfl rfl (by decide) (fun _ => rfl) (by omega) (by omega) ?_
  refine ⟨(apartOk_agg rfl rfl (Nat.le_of_ble_eq_true rfl)), trivial, ?_⟩
  refine ih (gI v.l i) (by have := depV_eq v; first | (have := depL_mem (gI_mem (l := v.l) (i := i) hI.1 h2.1); omega) | (have := depF_mem (gI_mem (l := v.f) (i := k) hI2.1 h4.1); omega)) _ _ ?_
  refine ⟨trivial, trivial, ?_⟩
  show K1 [(1, .int .i64 most), (2, .ptr ⟨b1, 0, none⟩), (5, .int .i64 (IntKind.i64.wrap (n_ + (weightV most (gI v.l i))))), (6, .int .i64 i)] (AMem.wth m [(b1, .cells [.int .i64 v.kind, .int .i64 v.n, .str v.s, .slice false (v.l.map valIn), .slice false (v.f.map fldIn)])])
  refine hK1 _ _ ?_; clear hK1 K1
  refine hK4 _ _ ?_; clear hK4
  refine awp_reg2 [] [1, 2, 5, 6] (by decide) ?_
  intro K1 hK1
  refine ⟨trivial, ?_⟩
  refine ar_add rfl (a := i) (b := 1) rfl rfl (by omega) (by omega) ?_
  refine ⟨trivial, ?_⟩
  show K1 [(1, .int .i64 most), (2, .ptr ⟨b1, 0, none⟩), (5, .int .i64 (IntKind.i64.wrap (n_ + (weightV most (gI v.l i))))), (6, .int .i64 (i + 1))] (AMem.wth m [(b1, .cells [.int .i64 v.kind, .int .i64 v.n, .str v.s, .slice false (v.l.map valIn), .slice false (v.f.map fldIn)])])
  refine hK1 _ _ ?_; clear hK1 K1
  refine ⟨(IntKind.i64.wrap (n_ + (weightV most (gI v.l i))), i + 1), rfl, rfl, ?_, ?_⟩
  ·
   show 0 ≤ ((i + 1 : Int)) ∧ ((i + 1 : Int)) ≤ v.l.length ∧ weightL most v.l (1 + v.s.length) = weightL most (v.l.drop ((i + 1 : Int)).toNat) ((IntKind.i64.wrap (n_ + (weightV most (gI v.l i))) : Int))
   refine ⟨by omega, by omega, ?_⟩
   rw [hI.2.2, drop_gI hI.1 h2.1]
   simp only [weightL]
   rw [if_pos h2.2]
  ·
   show v.l.length - ((i + 1 : Int)).toNat < v.l.length - i.toNat
   omega
 replace h2 : ((v.l.length : Int) ≤ i) ∨ (most < n_) := ((bandF h2).imp (fun q => (Int.not_lt.1 (of_decide_eq_false q))) (fun q => (Int.not_le.1 (of_decide_eq_false q))))
 refine awp_exit ?_
 refine hK2 _ _ ?_; clear hK2
 refine awp_seq_k ?_; intro K5 hK5
 refine awp_reg2_seq [] [1, 2, 5, 7] (by decide) ?_
 intro K1 hK1
 refine ⟨trivial, ?_⟩
 show K1 [(1, .int .i64 most), (2, .ptr ⟨b1, 0, none⟩), (5, .int .i64 n_), (7, .int .i64 0)] (AMem.wth m [(b1, .cells [.int .i64 v.kind, .int .i64 v.n, .str v.s, .slice false (v.l.map valIn), .slice false (v.f.map fldIn)])])
 refine hK1 _ _ ?_; clear hK1 K1
 refine awp_block ?_
 refine awp_keep [1, 2, 5, 7] (by decide) ?_
 refine awp_loop_st (σ := Int × Int) (fun ⟨n2, k⟩ => [(1, .int .i64 most), (2, .ptr ⟨b1, 0, none⟩), (5, .int .i64 n2), (7, .int .i64 k)]) (fun _ => (AMem.wth m [(b1, .cells [.int .i64 v.kind, .int .i64 v.n, .str v.s, .slice false (v.l.map valIn), .slice false (v.f.map fldIn)])])) (fun ⟨n2, k⟩ => 0 ≤ k ∧ k ≤ v.f.length ∧ weightV most v = weightF most (v.f.drop k.toNat) n2) (fun ⟨n2, k⟩ => v.f.length - k.toNat) (n_, 0) rfl rfl ?_ ?_
 ·
  show 0 ≤ ((0 : Int)) ∧ ((0 : Int)) ≤ v.f.length ∧ weightV most v = weightF most (v.f.drop ((0 : Int)).toNat) ((n_ : Int))
  refine ⟨by omega, by omega, ?_⟩
  have e : weightL most (v.l.drop i.toNat) n_ = n_ := by
   by_cases hn : most < n_
   ·
    exact weightL_stop _ _ _ hn
   ·
    have hi : (v.l.length : Int) ≤ i := by
     rcases h2 with h | h <;> omega
    rw [List.drop_eq_nil_of_le (by omega)]; simp only [weightL]
  rw [weightV_eq, hI.2.2, e]; rfl
 rintro ⟨n2, k⟩ hI2
 replace hI2 : 0 ≤ k ∧ k ≤ v.f.length ∧ weightV most v = weightF most (v.f.drop k.toNat) n2 := hI2
 show AWP _ _ _ _ [(1, .int .i64 most), (2, .ptr ⟨b1, 0, none⟩), (5, .int .i64 n2), (7, .int .i64 k)] (AMem.wth m [(b1, .cells [.int .i64 v.kind, .int .i64 v.n, .str v.s, .slice false (v.l.map valIn), .slice false (v.f.map fldIn)])])
 refine awp_seq_k ?_; intro K6 hK6
 refine awp_reg2_seq [] [1, 2, 5, 7, 42] (by decide) ?_
 intro K1 hK1
 suffices key : K1 [(1, .int .i64 most), (2, .ptr ⟨b1, 0, none⟩), (5, .int .i64 n2), (7, .int .i64 k), (42, .bool ((decide (k < (v.f.length : Int))) && (decide (n2 ≤ most))))] (AMem.wth m [(b1, .cells [.int .i64 v.kind, .int .i64 v.n, .str v.s, .slice false (v.l.map valIn), .slice false (v.f.map fldIn)])]) by
  refine ⟨trivial, ⟨rfl, by decide⟩, ?_⟩
  refine ar_loadp rfl (v := .slice false (v.f.map fldIn)) rfl (wth_get 0 hNb1 rfl) rfl (apartOk_one rfl rfl (Nat.le_of_ble_eq_true rfl)) rfl ?_
  refine ar_len rfl fldIn v.f rfl rfl rfl ?_
  refine ⟨trivial, trivial, ?_⟩
  show aopsR _ _ _ _ _ [(38, .bool (decide (k < (v.f.length : Int)))), (37, .bool (decide (k < (v.f.length : Int)))), (36, .int .i64 (v.f.length : Int)), (35, .slice false (v.f.map fldIn)), (34, .ptr ⟨b1, 4, none⟩), (33, .int .i64 k), (1, .int .i64 most), (2, .ptr ⟨b1, 0, none⟩), (5, .int .i64 n2), (7, .int .i64 k)] _
  revert key
  cases h3 : (decide (k < (v.f.length : Int)))
  ·
   replace h3 : (v.f.length : Int) ≤ k := (Int.not_lt.1 (of_decide_eq_false h3))
   intro key
   refine ar_off rfl (ar_off rfl (ar_off rfl ?_))
   exact key
  ·
   replace h3 : k < (v.f.length : Int) := (of_decide_eq_true h3)
   intro key
   refine ⟨trivial, trivial, trivial, ?_⟩
   exact key
 refine hK1 _ _ ?_; clear hK1 K1
 refine awp_cond rfl rfl (fun h4 => ?_) (fun h4 => ?_)
 ·
  replace h4 : (k < (v.f.length : Int)) ∧ (n2 ≤ most) := ⟨(of_decide_eq_true (bandL h4)), (of_decide_eq_true (bandR h4))⟩
  refine awp_skip ?_
  refine hK6 _ _ ?_; clear hK6
  refine awp_seq_k ?_; intro K7 hK7
  refine awp_block ?_
  refine awp_draw_k Try.mixed [(.int .i64 (weightV most ((gI v.f k).2)))] [1, 2, 5, 7] (by decide) (by decide) ?_
  intro K1 hK1
  refine ⟨trivial, ⟨rfl, by decide⟩, ?_⟩
  refine pq_loadp rfl (v := .slice false (v.f.map fldIn)) rfl (wth_get 0 hNb1 rfl) (apartOk_one rfl rfl (Nat.le_of_ble_eq_true rfl)) rfl ?_
  refine ⟨trivial, ?_⟩
  refine pq_index rfl fldTop v.f k rfl rfl (fldMap v.f) rfl rfl (by decide) (fun _ => rfl) (by omega) (by omega) ?_
  refine ⟨⟨rfl, by decide, (Nat.le_of_ble_eq_true rfl)⟩, (apartOk_one rfl rfl (Nat.le_of_ble_eq_true rfl)), trivial, trivial, ⟨rfl, by decide⟩, ?_⟩
  refine pq_loadp rfl (v := .slice false (v.f.map fldIn)) rfl (wth_get 0 hNb1 rfl) (apartOk_one rfl rfl (Nat.le_of_ble_eq_true rfl)) rfl ?_
  refine ⟨trivial, ?_⟩
  refine pq_index rfl fldTop v.f k rfl rfl (fldMap v.f) rfl rfl (by decide) (fun _ => rfl) (by omega) (by omega) ?_
  refine ⟨⟨rfl, by decide, (Nat.le_of_ble_eq_true rfl)⟩, (apartOk_agg rfl rfl (Nat.le_of_ble_eq_true rfl)), trivial, (fun Kc hKc => ih ((gI v.f k).2) (by have := depV_eq v; first | (have := depL_mem (gI_mem (l := v.l) (i := i) hI.1 h2.1); omega) | (have := depF_mem (gI_mem (l := v.f) (i := k) hI2.1 h4.1); omega)) _ Kc hKc), trivial, trivial, ?_⟩
  show K1 [(1, .int .i64 most), (2, .ptr ⟨b1, 0, none⟩), (5, .int .i64 (IntKind.i64.wrap ((IntKind.i64.wrap (n2 + (((gI v.f k).1).length : Int))) + (weightV most ((gI v.f k).2))))), (7, .int .i64 k)] (AMem.wth m [(b1, .cells [.int .i64 v.kind, .int .i64 v.n, .str v.s, .slice false (v.l.map valIn), .slice false (v.f.map fldIn)])])
  refine hK1 _ _ ?_; clear hK1 K1
  refine hK7 _ _ ?_; clear hK7
  refine awp_reg2 [] [1, 2, 5, 7] (by decide) ?_
  intro K1 hK1
  refine ⟨trivial, ?_⟩
  refine ar_add rfl (a := k) (b := 1) rfl rfl (by omega) (by omega) ?_
  refine ⟨trivial, ?_⟩
  show K1 [(1, .int .i64 most), (2, .ptr ⟨b1, 0, none⟩), (5, .int .i64 (IntKind.i64.wrap ((IntKind.i64.wrap (n2 + (((gI v.f k).1).length : Int))) + (weightV most ((gI v.f k).2))))), (7, .int .i64 (k + 1))] (AMem.wth m [(b1, .cells [.int .i64 v.kind, .int .i64 v.n, .str v.s, .slice false (v.l.map valIn), .slice false (v.f.map fldIn)])])
  refine hK1 _ _ ?_; clear hK1 K1
  refine ⟨(IntKind.i64.wrap ((IntKind.i64.wrap (n2 + (((gI v.f k).1).length : Int))) + (weightV most ((gI v.f k).2))), k + 1), rfl, rfl, ?_, ?_⟩
  ·
   show 0 ≤ ((k + 1 : Int)) ∧ ((k + 1 : Int)) ≤ v.f.length ∧ weightV most v = weightF most (v.f.drop ((k + 1 : Int)).toNat) ((IntKind.i64.wrap ((IntKind.i64.wrap (n2 + (((gI v.f k).1).length : Int))) + (weightV most ((gI v.f k).2))) : Int))
   exact ⟨by omega, by omega, by rw [hI2.2.2, drop_gI hI2.1 h4.1, weightF_cons, if_pos h4.2]⟩
  ·
   show v.f.length - ((k + 1 : Int)).toNat < v.f.length - k.toNat
   omega
 replace h4 : ((v.f.length : Int) ≤ k) ∨ (most < n2) := ((bandF h4).imp (fun q => (Int.not_lt.1 (of_decide_eq_false q))) (fun q => (Int.not_le.1 (of_decide_eq_false q))))
 refine awp_exit ?_
 refine hK5 _ _ ?_; clear hK5
 refine awp_reg2_seq [] [4] (by decide) ?_
 intro K1 hK1
 refine ⟨trivial, trivial, ?_⟩
 show K1 [(4, .int .i64 n2)] (AMem.wth m [(b1, .cells [.int .i64 v.kind, .int .i64 v.n, .str v.s, .slice false (v.l.map valIn), .slice false (v.f.map fldIn)])])
 refine hK1 _ _ ?_; clear hK1 K1
 refine awp_ret ?_
 refine ⟨trivial, m, (wth_sub2 (m := m) [(b1, .cells [.int .i64 v.kind, .int .i64 v.n, .str v.s, .slice false (v.l.map valIn), .slice false (v.f.map fldIn)])] [] hNb1 (by simp only [List.map_cons, List.map_nil, List.forall_mem_cons]; exact ⟨hFb1, fun _ h => by cases h⟩)), ?_⟩
 show K (.int .i64 n2) m

 have e : weightV most v = n2 := by
  rw [hI2.2.2]
  by_cases hn : most < n2
  ·
   exact weightF_stop _ _ _ hn
  ·
   have hi : (v.f.length : Int) ≤ k := by
    rcases h4 with h | h <;> omega
   rw [List.drop_eq_nil_of_le (by omega)]; simp only [weightF]
 rw [e] at hK; exact hK


theorem u_weight (most : Int) : ∀ (n : Nat) (v : Val), depV v < n → ∀ (m : AMem) (K : AV → AMem → Prop), K (.int .i64 (weightV most v)) m → ACalls Try.prog 67 [valTop v, .int .i64 most] m K
  | 0, _, h => absurd h (Nat.not_lt_zero _)
  | n + 1, v, h => fun m K hK => u_weight1 v most (fun w hw => u_weight most n w (by omega)) m K hK


structure ActT where
  kind : Str
  s : Str
  t : Str
  a : Int
  b : Int
  v : Val
  names : List Str
instance : Inhabited ActT := ⟨⟨[], [], [], 0, 0, default, []⟩⟩
def actAV (x : ActT) : AV := .agg [.str x.kind, .str x.s, .str x.t, .int .i64 x.a, .int .i64 x.b, .int .i64 x.v.kind, .int .i64 x.v.n, .str x.v.s, .slice false (x.v.l.map valIn), .slice false (x.v.f.map fldIn), .slice false (x.names.map strAV)]
def actW (most : Int) (n : Int) (x : ActT) : Int := IntKind.i64.wrap (IntKind.i64.wrap (IntKind.i64.wrap (n + x.s.length) + x.t.length) + weightV most x.v)
def namesW (n : Int) (l : List Str) : Int := l.foldl (fun n s => IntKind.i64.wrap (n + s.length)) n
def lightF (size : Int) : List ActT → Int → Bool
  | [], n => decide (n ≤ size)
  | x :: r, n => if size < actW size n x ∨ 12 < (x.names.length : Int) then false else lightF size r (namesW (actW size n x) x.names)
def lightA (l : List ActT) (most size : Int) : Bool := if most < (l.length : Int) then false else lightF size l 0
theorem lightA_len {l : List ActT} {most size : Int} (h : lightA l most size = true) : (l.length : Int) ≤ most := by
  unfold lightA at h; split at h
  · cases h
  · omega

set_option maxHeartbeats 4000000 in
theorem u_LightActs (l : List ActT) (most size : Int)  (m : AMem)  (K : AV → AMem → Prop) (hK : K (.bool (lightA l most size)) m) : ACalls Try.prog 10 [.slice false (l.map actAV), .int .i64 most, .int .i64 size] m K := by
 refine acalls_enter Try.func10 rfl (by decide) (Nat.le_of_ble_eq_true rfl) ?_
 refine awp_bd 0 (x := .slice false (l.map actAV)) rfl (fun hbd0 => ?_)
 have hbd0_0 : l.length ≤ 140737488355328 := bd_map (o := false) hbd0
 show AWP _ _ _ _ [(0, .slice false (l.map actAV)), (1, .int .i64 most), (2, .int .i64 size)] m
 refine awp_reg2_seq [] [0, 1, 2] (by decide) ?_
 intro K1 hK1
 refine ⟨trivial, ?_⟩
 show K1 [(0, .slice false (l.map actAV)), (1, .int .i64 most), (2, .int .i64 size)] m
 refine hK1 _ _ ?_; clear hK1 K1
 refine awp_seq_k ?_; intro K2 hK2
 refine awp_reg2_seq [] [0, 2, 13] (by decide) ?_
 intro K1 hK1
 refine ⟨trivial, ?_⟩
 refine ar_len rfl actAV l rfl rfl rfl ?_
 refine ⟨trivial, trivial, ?_⟩
 show K1 [(0, .slice false (l.map actAV)), (2, .int .i64 size), (13, .bool (decide (most < (l.length : Int))))] m
 refine hK1 _ _ ?_; clear hK1 K1
 refine awp_cond rfl rfl (fun h1 => ?_) (fun h1 => ?_)
 ·
  replace h1 : most < (l.length : Int) := (of_decide_eq_true h1)
  refine awp_reg2_seq [] [6] (by decide) ?_
  intro K1 hK1
  refine ⟨trivial, ?_⟩
  show K1 [(6, .bool false)] m
  refine hK1 _ _ ?_; clear hK1 K1
  refine awp_ret ?_
  refine ⟨trivial, m, fun _ _ h => h, ?_⟩
  show K (.bool false) m
 
  refine K_eq hK (congrArg AV.bool ?_)
  rw [lightA, if_pos h1]
 replace h1 : (l.length : Int) ≤ most := (Int.not_lt.1 (of_decide_eq_false h1))
 refine awp_skip ?_
 refine hK2 _ _ ?_; clear hK2
 refine awp_reg2_seq [] [0, 2, 7] (by decide) ?_
 intro K1 hK1
 refine ⟨trivial, ?_⟩
 show K1 [(0, .slice false (l.map actAV)), (2, .int .i64 size), (7, .int .i64 0)] m
 refine hK1 _ _ ?_; clear hK1 K1
 refine awp_seq_k ?_; intro K3 hK3
 refine awp_reg2_seq [] [0, 2, 7, 8] (by decide) ?_
 intro K1 hK1
 refine ⟨trivial, ?_⟩
 show K1 [(0, .slice false (l.map actAV)), (2, .int .i64 size), (7, .int .i64 0), (8, .int .i64 0)] m
 refine hK1 _ _ ?_; clear hK1 K1
 refine awp_block ?_
 refine awp_keep [0, 2, 7, 8] (by decide) ?_
 refine awp_loop_st (σ := Int × Int) (fun ⟨n_, i⟩ => [(0, .slice false (l.map actAV)), (2, .int .i64 size), (7, .int .i64 n_), (8, .int .i64 i)]) (fun _ => m) (fun ⟨n_, i⟩ => 0 ≤ i ∧ i ≤ l.length ∧ lightA l most size = lightF size (l.drop i.toNat) n_) (fun ⟨n_, i⟩ => l.length - i.toNat) (0, 0) rfl rfl ?_ ?_
 ·
  show 0 ≤ ((0 : Int)) ∧ ((0 : Int)) ≤ l.length ∧ lightA l most size = lightF size (l.drop ((0 : Int)).toNat) ((0 : Int))
  exact ⟨by omega, by omega, by rw [lightA, if_neg (by omega)]; rfl⟩
 rintro ⟨n_, i⟩ hI
 replace hI : 0 ≤ i ∧ i ≤ l.length ∧ lightA l most size = lightF size (l.drop i.toNat) n_ := hI
 show AWP _ _ _ _ [(0, .slice false (l.map actAV)), (2, .int .i64 size), (7, .int .i64 n_), (8, .int .i64 i)] m
 refine awp_seq_k ?_; intro K4 hK4
 refine awp_reg2_seq [] [0, 2, 7, 8, 17] (by decide) ?_
 intro K1 hK1
 refine ⟨trivial, trivial, ?_⟩
 refine ar_len rfl actAV l rfl rfl rfl ?_
 refine ⟨trivial, ?_⟩
 show K1 [(0, .slice false (l.map actAV)), (2, .int .i64 size), (7, .int .i64 n_), (8, .int .i64 i), (17, .bool (decide (i < (l.length : Int))))] m
 refine hK1 _ _ ?_; clear hK1 K1
 refine awp_cond rfl rfl (fun h2 => ?_) (fun h2 => ?_)
 ·
  replace h2 : i < (l.length : Int) := (of_decide_eq_true h2)
  refine awp_skip ?_
  refine hK4 _ _ ?_; clear hK4
  refine awp_seq_k ?_; intro K5 hK5
  refine awp_block ?_
  refine awp_draw_seq Try.mixed [(.int .i64 (weightV size ((gI l i).v)))] [0, 2, 7, 8] (by decide) (by decide) ?_
  intro K1 hK1
  refine ⟨trivial, trivial, trivial, ?_⟩
  refine pq_index rfl actAV l i rfl rfl rfl rfl rfl (by decide) (fun _ => rfl) (by omega) (by omega) ?_
  refine ⟨⟨rfl, by decide, (Nat.le_of_ble_eq_true rfl)⟩, (apartOk_one rfl rfl (Nat.le_of_ble_eq_true rfl)), trivial, trivial, trivial, trivial, ?_⟩
  refine pq_index rfl actAV l i rfl rfl rfl rfl rfl (by decide) (fun _ => rfl) (by omega) (by omega) ?_
  refine ⟨⟨rfl, by decide, (Nat.le_of_ble_eq_true rfl)⟩, (apartOk_one rfl rfl (Nat.le_of_ble_eq_true rfl)), trivial, trivial, trivial, trivial, ?_⟩
  refine pq_index rfl actAV l i rfl rfl rfl rfl rfl (by decide) (fun _ => rfl) (by omega) (by omega) ?_
  refine ⟨⟨rfl, by decide, (Nat.le_of_ble_eq_true rfl)⟩, (apartOk_agg rfl rfl (Nat.le_of_ble_eq_true rfl)), trivial, (fun Kc hKc => u_weight size (depV ((gI l i).v) + 1) ((gI l i).v) (Nat.lt_succ_self _) _ Kc hKc), trivial, trivial, ?_⟩
  show K1 [(0, .slice false (l.map actAV)), (2, .int .i64 size), (7, .int .i64 (IntKind.i64.wrap ((IntKind.i64.wrap ((IntKind.i64.wrap (n_ + (((gI l i).s).length : Int))) + (((gI l i).t).length : Int))) + (weightV size ((gI l i).v))))), (8, .int .i64 i)] m
  refine hK1 _ _ ?_; clear hK1 K1
  refine awp_seq_k ?_; intro K6 hK6
  refine awp_reg2_seq [] [0, 2, 7, 8, 54] (by decide) ?_
  intro K1 hK1
  suffices key : K1 [(0, .slice false (l.map actAV)), (2, .int .i64 size), (7, .int .i64 (IntKind.i64.wrap ((IntKind.i64.wrap ((IntKind.i64.wrap (n_ + (((gI l i).s).length : Int))) + (((gI l i).t).length : Int))) + (weightV size ((gI l i).v))))), (8, .int .i64 i), (54, .bool ((decide (size < IntKind.i64.wrap ((IntKind.i64.wrap ((IntKind.i64.wrap (n_ + (((gI l i).s).length : Int))) + (((gI l i).t).length : Int))) + (weightV size ((gI l i).v))))) || (decide (12 < (((gI l i).names).length : Int)))))] m by
   refine ⟨trivial, trivial, trivial, trivial, ?_⟩
   show aopsR _ _ _ _ _ [(46, .bool (decide (size < IntKind.i64.wrap ((IntKind.i64.wrap ((IntKind.i64.wrap (n_ + (((gI l i).s).length : Int))) + (((gI l i).t).length : Int))) + (weightV size ((gI l i).v)))))), (45, .bool (decide (size < IntKind.i64.wrap ((IntKind.i64.wrap ((IntKind.i64.wrap (n_ + (((gI l i).s).length : Int))) + (((gI l i).t).length : Int))) + (weightV size ((gI l i).v)))))), (44, .int .i64 size), (43, .int .i64 (IntKind.i64.wrap ((IntKind.i64.wrap ((IntKind.i64.wrap (n_ + (((gI l i).s).length : Int))) + (((gI l i).t).length : Int))) + (weightV size ((gI l i).v))))), (0, .slice false (l.map actAV)), (2, .int .i64 size), (7, .int .i64 (IntKind.i64.wrap ((IntKind.i64.wrap ((IntKind.i64.wrap (n_ + (((gI l i).s).length : Int))) + (((gI l i).t).length : Int))) + (weightV size ((gI l i).v))))), (8, .int .i64 i)] _
   revert key
   cases h3 : (decide (size < IntKind.i64.wrap ((IntKind.i64.wrap ((IntKind.i64.wrap (n_ + (((gI l i).s).length : Int))) + (((gI l i).t).length : Int))) + (weightV size ((gI l i).v)))))
   ·
    replace h3 : IntKind.i64.wrap ((IntKind.i64.wrap ((IntKind.i64.wrap (n_ + (((gI l i).s).length : Int))) + (((gI l i).t).length : Int))) + (weightV size ((gI l i).v))) ≤ size := (Int.not_lt.1 (of_decide_eq_false h3))
    intro key
    refine ⟨trivial, trivial, ?_⟩
    refine ar_index rfl actAV l i rfl rfl rfl rfl rfl (by decide) (fun _ => rfl) (by omega) (by omega) ?_
    refine ⟨⟨rfl, by decide, (Nat.le_of_ble_eq_true rfl)⟩, (apartOk_one rfl rfl (Nat.le_of_ble_eq_true rfl)), ?_⟩
    refine ar_len rfl strAV ((gI l i).names) rfl rfl rfl ?_
    refine ⟨trivial, ?_⟩
    exact key
   ·
    replace h3 : size < IntKind.i64.wrap ((IntKind.i64.wrap ((IntKind.i64.wrap (n_ + (((gI l i).s).length : Int))) + (((gI l i).t).length : Int))) + (weightV size ((gI l i).v))) := (of_decide_eq_true h3)
    intro key
    refine ar_off rfl (ar_off rfl (ar_off rfl (ar_off rfl (ar_off rfl (ar_off rfl (ar_off rfl ?_))))))
    exact key
  refine hK1 _ _ ?_; clear hK1 K1
  refine awp_cond rfl rfl (fun h4 => ?_) (fun h4 => ?_)
  ·
   replace h4 : (size < IntKind.i64.wrap ((IntKind.i64.wrap ((IntKind.i64.wrap (n_ + (((gI l i).s).length : Int))) + (((gI l i).t).length : Int))) + (weightV size ((gI l i).v)))) ∨ (12 < (((gI l i).names).length : Int)) := ((borT h4).imp (fun q => (of_decide_eq_true q)) (fun q => (of_decide_eq_true q)))
   refine awp_reg2_seq [] [6] (by decide) ?_
   intro K1 hK1
   refine ⟨trivial, ?_⟩
   show K1 [(6, .bool false)] m
   refine hK1 _ _ ?_; clear hK1 K1
   refine awp_ret ?_
   refine ⟨trivial, m, fun _ _ h => h, ?_⟩
   show K (.bool false) m
  
   refine K_eq hK (congrArg AV.bool ?_)
   rw [hI.2.2, drop_gI hI.1 h2, lightF, if_pos (by first | exact h4 | simpa [actW] using h4)]
  replace h4 : (IntKind.i64.wrap ((IntKind.i64.wrap ((IntKind.i64.wrap (n_ + (((gI l i).s).length : Int))) + (((gI l i).t).length : Int))) + (weightV size ((gI l i).v))) ≤ size) ∧ ((((gI l i).names).length : Int) ≤ 12) := ⟨(Int.not_lt.1 (of_decide_eq_false (borL h4))), (Int.not_lt.1 (of_decide_eq_false (borR h4)))⟩
  refine awp_skip ?_
  refine hK6 _ _ ?_; clear hK6
  refine awp_reg2_seq [] [0, 2, 7, 8, 9] (by decide) ?_
  intro K1 hK1
  refine ⟨trivial, ?_⟩
  show K1 [(0, .slice false (l.map actAV)), (2, .int .i64 size), (7, .int .i64 (IntKind.i64.wrap ((IntKind.i64.wrap ((IntKind.i64.wrap (n_ + (((gI l i).s).length : Int))) + (((gI l i).t).length : Int))) + (weightV size ((gI l i).v))))), (8, .int .i64 i), (9, .int .i64 0)] m
  refine hK1 _ _ ?_; clear hK1 K1
  refine awp_block ?_
  refine awp_keep [0, 2, 7, 8, 9] (by decide) ?_
  refine awp_loop_st (σ := Int × Int) (fun ⟨n2, k⟩ => [(0, .slice false (l.map actAV)), (2, .int .i64 size), (7, .int .i64 n2), (8, .int .i64 i), (9, .int .i64 k)]) (fun _ => m) (fun ⟨n2, k⟩ => 0 ≤ k ∧ k ≤ (gI l i).names.length ∧ n2 = namesW (actW size n_ (gI l i)) ((gI l i).names.take k.toNat)) (fun ⟨n2, k⟩ => (gI l i).names.length - k.toNat) (IntKind.i64.wrap ((IntKind.i64.wrap ((IntKind.i64.wrap (n_ + (((gI l i).s).length : Int))) + (((gI l i).t).length : Int))) + (weightV size ((gI l i).v))), 0) rfl rfl ?_ ?_
  ·
   show 0 ≤ ((0 : Int)) ∧ ((0 : Int)) ≤ (gI l i).names.length ∧ ((IntKind.i64.wrap ((IntKind.i64.wrap ((IntKind.i64.wrap (n_ + (((gI l i).s).length : Int))) + (((gI l i).t).length : Int))) + (weightV size ((gI l i).v))) : Int)) = namesW (actW size n_ (gI l i)) ((gI l i).names.take ((0 : Int)).toNat)
   exact ⟨by omega, by omega, rfl⟩
  rintro ⟨n2, k⟩ hI2
  replace hI2 : 0 ≤ k ∧ k ≤ (gI l i).names.length ∧ n2 = namesW (actW size n_ (gI l i)) ((gI l i).names.take k.toNat) := hI2
  show AWP _ _ _ _ [(0, .slice false (l.map actAV)), (2, .int .i64 size), (7, .int .i64 n2), (8, .int .i64 i), (9, .int .i64 k)] m
  refine awp_seq_k ?_; intro K7 hK7
  refine awp_reg2_seq [] [0, 2, 7, 8, 9, 62] (by decide) ?_
  intro K1 hK1
  refine ⟨trivial, trivial, trivial, ?_⟩
  refine ar_index rfl actAV l i rfl rfl rfl rfl rfl (by decide) (fun _ => rfl) (by omega) (by omega) ?_
  refine ⟨⟨rfl, by decide, (Nat.le_of_ble_eq_true rfl)⟩, (apartOk_one rfl rfl (Nat.le_of_ble_eq_true rfl)), ?_⟩
  refine ar_len rfl strAV ((gI l i).names) rfl rfl rfl ?_
  refine ⟨trivial, ?_⟩
  show K1 [(0, .slice false (l.map actAV)), (2, .int .i64 size), (7, .int .i64 n2), (8, .int .i64 i), (9, .int .i64 k), (62, .bool (decide (k < (((gI l i).names).length : Int))))] m
  refine hK1 _ _ ?_; clear hK1 K1
  refine awp_cond rfl rfl (fun h5 => ?_) (fun h5 => ?_)
  ·
   replace h5 : k < (((gI l i).names).length : Int) := (of_decide_eq_true h5)
   refine awp_skip ?_
   refine hK7 _ _ ?_; clear hK7
   refine awp_seq_k ?_; intro K8 hK8
   refine awp_block ?_
   refine awp_reg2 [] [0, 2, 7, 8, 9] (by decide) ?_
   intro K1 hK1
   refine ⟨trivial, trivial, trivial, ?_⟩
   refine ar_index rfl actAV l i rfl rfl rfl rfl rfl (by decide) (fun _ => rfl) (by omega) (by omega) ?_
   refine ⟨⟨rfl, by decide, (Nat.le_of_ble_eq_true rfl)⟩, (apartOk_one rfl rfl (Nat.le_of_ble_eq_true rfl)), trivial, ?_⟩
   refine ar_index rfl strAV ((gI l i).names) k rfl rfl rfl rfl rfl (by decide) (fun _ => rfl) (by omega) (by omega) ?_
   refine ⟨(apartOk_one rfl rfl (Nat.le_of_ble_eq_true rfl)), trivial, trivial, trivial, ?_⟩
   show K1 [(0, .slice false (l.map actAV)), (2, .int .i64 size), (7, .int .i64 (IntKind.i64.wrap (n2 + ((gI ((gI l i).names) k).length : Int)))), (8, .int .i64 i), (9, .int .i64 k)] m
   refine hK1 _ _ ?_; clear hK1 K1
   refine hK8 _ _ ?_; clear hK8
   refine awp_reg2 [] [0, 2, 7, 8, 9] (by decide) ?_
   intro K1 hK1
   refine ⟨trivial, ?_⟩
   refine ar_add rfl (a := k) (b := 1) rfl rfl (by omega) (by omega) ?_
   refine ⟨trivial, ?_⟩
   show K1 [(0, .slice false (l.map actAV)), (2, .int .i64 size), (7, .int .i64 (IntKind.i64.wrap (n2 + ((gI ((gI l i).names) k).length : Int)))), (8, .int .i64 i), (9, .int .i64 (k + 1))] m
   refine hK1 _ _ ?_; clear hK1 K1
   refine ⟨(IntKind.i64.wrap (n2 + ((gI ((gI l i).names) k).length : Int)), k + 1), rfl, rfl, ?_, ?_⟩
   ·
    show 0 ≤ ((k + 1 : Int)) ∧ ((k + 1 : Int)) ≤ (gI l i).names.length ∧ ((IntKind.i64.wrap (n2 + ((gI ((gI l i).names) k).length : Int)) : Int)) = namesW (actW size n_ (gI l i)) ((gI l i).names.take ((k + 1 : Int)).toNat)
    exact ⟨by omega, by omega, by rw [take_succ_gI hI2.1 h5, namesW, List.foldl_append, hI2.2.2]; rfl⟩
   ·
    show (gI l i).names.length - ((k + 1 : Int)).toNat < (gI l i).names.length - k.toNat
    omega
  replace h5 : (((gI l i).names).length : Int) ≤ k := (Int.not_lt.1 (of_decide_eq_false h5))
  refine awp_exit ?_
  refine hK5 _ _ ?_; clear hK5
  refine awp_reg2 [] [0, 2, 7, 8] (by decide) ?_
  intro K1 hK1
  refine ⟨trivial, ?_⟩
  refine ar_add rfl (a := i) (b := 1) rfl rfl (by omega) (by omega) ?_
  refine ⟨trivial, ?_⟩
  show K1 [(0, .slice false (l.map actAV)), (2, .int .i64 size), (7, .int .i64 n2), (8, .int .i64 (i + 1))] m
  refine hK1 _ _ ?_; clear hK1 K1
  refine ⟨(n2, i + 1), rfl, rfl, ?_, ?_⟩
  ·
   show 0 ≤ ((i + 1 : Int)) ∧ ((i + 1 : Int)) ≤ l.length ∧ lightA l most size = lightF size (l.drop ((i + 1 : Int)).toNat) ((n2 : Int))
   refine ⟨by omega, by omega, ?_⟩
   rw [hI.2.2, drop_gI hI.1 h2, lightF, if_neg (by intro hh; rcases hh with hh | hh <;> first | omega | (unfold actW at hh; omega)), hI2.2.2, take_full h5]
  ·
   show l.length - ((i + 1 : Int)).toNat < l.length - i.toNat
   omega
 replace h2 : (l.length : Int) ≤ i := (Int.not_lt.1 (of_decide_eq_false h2))
 refine awp_exit ?_
 refine hK3 _ _ ?_; clear hK3
 refine awp_reg2_seq [] [6] (by decide) ?_
 intro K1 hK1
 refine ⟨trivial, trivial, trivial, trivial, ?_⟩
 show K1 [(6, .bool (decide (n_ ≤ size)))] m
 refine hK1 _ _ ?_; clear hK1 K1
 refine awp_ret ?_
 refine ⟨trivial, m, fun _ _ h => h, ?_⟩
 show K (.bool (decide (n_ ≤ size))) m

 refine K_eq hK (congrArg AV.bool ?_)
 rw [hI.2.2, List.drop_eq_nil_of_le (by omega)]; rfl

end Go.Proofs
end
section
namespace Go.Proofs
open Go Go.Aw
set_option maxRecDepth 100000


theorem writeR_inv {N : Nat} {s : DSt} {name data : Str} (h : DInv N s) : DInv (N + 1) (writeR s name data).1 := by
  unfold writeR
  split
  · exact h.mono (by omega)
  · rename_i h1
    have := mayR_size (by omega : mayR s name data.length = 0)
    exact h.do (by show data.length ≤ 4000; omega)
theorem appR_inv {N : Nat} {s : DSt} {name data : Str} (h : DInv N s) : DInv (N + 1) (appR s name data).1 := by
  unfold appR
  split
  · exact h.mono (by omega)
  · split
    · exact h.mono (by omega)
    · exact h.do (by show data.length ≤ 4000; omega)


theorem doF_kept (s : DSt) (c : Chg) : (doF s c).1.kept = s.kept := by
  unfold doF; split
  · exact (stepF_keep s).1
  · exact (stepF_keep s).1
theorem writeR_kept (s : DSt) (n x : Str) : (writeR s n x).1.kept = s.kept := by
  unfold writeR; split
  · rfl
  · exact doF_kept _ _
theorem appR_kept (s : DSt) (n x : Str) : (appR s n x).1.kept = s.kept := by
  unfold appR; split
  · rfl
  · split
    · rfl
    · exact doF_kept _ _
theorem syncF_now (s : DSt) : (syncF s).1.now = s.now := by
  unfold syncF; split
  · exact (stepF_keep s).2.1
  · exact (stepF_keep s).2.1
theorem u_Write3 (d kb nb : Nat) (s : DSt) (name data : Str) (N : Nat) (hN : [d, nb, kb].Nodup) (hD : DInv N s) (hNN : N ≤ 100000) (hn : name.length ≤ 140737488355328) (hd : data.length ≤ 140737488355328) (m : AMem) (K : AV → AMem → Prop)
    (hK : K (.err 108 (writeR s name data).2) (AMem.wth m [(d, dObj kb nb (writeR s name data).1), (nb, mObj (writeR s name data).1.now), (kb, mObj (writeR s name data).1.kept)])) :
    ACalls Try.prog 12 [.ptr ⟨d, 0, none⟩, .str name, .str data] (AMem.wth m [(d, dObj kb nb s), (nb, mObj s.now), (kb, mObj s.kept)]) K := by
  rw [writeR_kept] at hK
  exact u_Write d kb nb s name data N (by simp at hN ⊢; omega) hD hNN hn hd (AMem.wth m [(kb, mObj s.kept)]) K hK
theorem u_App3 (d kb nb : Nat) (s : DSt) (name data : Str) (N : Nat) (hN : [d, nb, kb].Nodup) (hD : DInv N s) (hNN : N ≤ 100000) (hn : name.length ≤ 140737488355328) (hd : data.length ≤ 140737488355328) (m : AMem) (K : AV → AMem → Prop)
    (hK : K (.err 108 (appR s name data).2) (AMem.wth m [(d, dObj kb nb (appR s name data).1), (nb, mObj (appR s name data).1.now), (kb, mObj (appR s name data).1.kept)])) :
    ACalls Try.prog 26 [.ptr ⟨d, 0, none⟩, .str name, .str data] (AMem.wth m [(d, dObj kb nb s), (nb, mObj s.now), (kb, mObj s.kept)]) K := by
  rw [appR_kept] at hK
  exact u_Append d kb nb s name data N (by simp at hN ⊢; omega) hD hNN hn hd (AMem.wth m [(kb, mObj s.kept)]) K hK
theorem u_Sync3 (d kb nb : Nat) (s : DSt) (N : Nat) (hN : [d, kb, nb].Nodup) (hD : DInv N s) (hNN : N ≤ 100000) (m : AMem) (K : AV → AMem → Prop)
    (hK : K (.err 108 (syncF s).2) (AMem.wth m [(d, dObj kb nb (syncF s).1), (kb, mObj (syncF s).1.kept), (nb, mObj (syncF s).1.now)])) :
    ACalls Try.prog 33 [.ptr ⟨d, 0, none⟩] (AMem.wth m [(d, dObj kb nb s), (kb, mObj s.kept), (nb, mObj s.now)]) K := by
  rw [syncF_now] at hK
  exact u_Sync d kb nb s N (by simp at hN ⊢; omega) hD hNN (AMem.wth m [(nb, mObj s.now)]) K hK

end Go.Proofs
end
section
namespace Go.Proofs
open Go Go.Aw
set_option maxRecDepth 100000


theorem take_gI {α : Type} [Inhabited α] {xs ys : List α} {i : Int} (h0 : 0 ≤ i) (hi : i < xs.length) (hi' : i < ys.length) (h : xs.take i.toNat = ys.take i.toNat) (he : gI xs i = gI ys i) : xs.take (i + 1).toNat = ys.take (i + 1).toNat := by
  rw [take_succ_gI h0 hi, take_succ_gI h0 hi', h, he]
theorem take_all {α : Type} {xs ys : List α} {i : Int} (hl : (xs.length : Int) = ys.length) (hi : (xs.length : Int) ≤ i) (h : xs.take i.toNat = ys.take i.toNat) : xs = ys := by
  rwa [List.take_of_length_le (by omega), List.take_of_length_le (by omega)] at h
def addR (s : DSt) (name : Str) (l : List Str) (z : Int) (t : Str) : DSt × Int × (List Str × Int) :=
  if 400 < (t.length : Int) ∨ 4000 < z + t.length + 6 then (s, 2, (l, z))
  else if (appR s name (framedL t)).2 ≠ 0 then ((appR s name (framedL t)).1, (appR s name (framedL t)).2, (l, z))
  else if (syncF (appR s name (framedL t)).1).2 ≠ 0 then ((syncF (appR s name (framedL t)).1).1, (syncF (appR s name (framedL t)).1).2, (l, z))
  else ((syncF (appR s name (framedL t)).1).1, 0, (l ++ [t], z + (t.length + 6)))
theorem u_SameTexts (xs ys : List Str)  (m : AMem)  (K : AV → AMem → Prop) (hK : K (.bool (decide (xs = ys))) m) : ACalls Try.prog 19 [.slice false (xs.map strAV), .slice false (ys.map strAV)] m K := by
 refine acalls_enter Try.func19 rfl (by decide) (Nat.le_of_ble_eq_true rfl) ?_
 refine awp_bd 0 (x := .slice false (xs.map strAV)) rfl (fun hbd0 => ?_)
 have hbd0_0 : xs.length ≤ 140737488355328 := bd_map (o := false) hbd0
 show AWP _ _ _ _ [(0, .slice false (xs.map strAV)), (1, .slice false (ys.map strAV))] m
 refine awp_reg2_seq [] [0, 1] (by decide) ?_
 intro K1 hK1
 refine ⟨trivial, ?_⟩
 show K1 [(0, .slice false (xs.map strAV)), (1, .slice false (ys.map strAV))] m
 refine hK1 _ _ ?_; clear hK1 K1
 refine awp_seq_k ?_; intro K2 hK2
 refine awp_reg2_seq [] [0, 1, 10] (by decide) ?_
 intro K1 hK1
 refine ⟨trivial, ?_⟩
 refine ar_len rfl strAV xs rfl rfl rfl ?_
 refine ⟨trivial, ?_⟩
 refine ar_len rfl strAV ys rfl rfl rfl ?_
 refine ⟨trivial, ?_⟩
 show K1 [(0, .slice false (xs.map strAV)), (1, .slice false (ys.map strAV)), (10, .bool (!((xs.length : Int) == (ys.length : Int))))] m
 refine hK1 _ _ ?_; clear hK1 K1
 refine awp_cond rfl rfl (fun h1 => ?_) (fun h1 => ?_)
 ·
  replace h1 : (xs.length : Int) ≠ (ys.length : Int) := (ne_of_beq_false (bnT h1))
  refine awp_reg2_seq [] [4] (by decide) ?_
  intro K1 hK1
  refine ⟨trivial, ?_⟩
  show K1 [(4, .bool false)] m
  refine hK1 _ _ ?_; clear hK1 K1
  refine awp_ret ?_
  refine ⟨trivial, m, fun _ _ h => h, ?_⟩
  show K (.bool false) m
 
  refine K_eq hK (congrArg AV.bool ?_)
  simp only [decide_eq_false_iff_not]; rintro rfl; omega
 replace h1 : (xs.length : Int) = (ys.length : Int) := (eq_of_beq (bnF h1))
 refine awp_skip ?_
 refine hK2 _ _ ?_; clear hK2
 refine awp_seq_k ?_; intro K3 hK3
 refine awp_reg2_seq [] [0, 1, 5] (by decide) ?_
 intro K1 hK1
 refine ⟨trivial, ?_⟩
 show K1 [(0, .slice false (xs.map strAV)), (1, .slice false (ys.map strAV)), (5, .int .i64 0)] m
 refine hK1 _ _ ?_; clear hK1 K1
 refine awp_block ?_
 refine awp_keep [0, 1, 5] (by decide) ?_
 refine awp_loop_st (σ := Int) (fun i => [(0, .slice false (xs.map strAV)), (1, .slice false (ys.map strAV)), (5, .int .i64 i)]) (fun _ => m) (fun i => 0 ≤ i ∧ i ≤ xs.length ∧ xs.take i.toNat = ys.take i.toNat) (fun i => xs.length - i.toNat) (0) rfl rfl ?_ ?_
 ·
  show 0 ≤ ((0 : Int)) ∧ ((0 : Int)) ≤ xs.length ∧ xs.take ((0 : Int)).toNat = ys.take ((0 : Int)).toNat
  exact ⟨by omega, by omega, rfl⟩
 rintro i hI
 replace hI : 0 ≤ i ∧ i ≤ xs.length ∧ xs.take i.toNat = ys.take i.toNat := hI
 show AWP _ _ _ _ [(0, .slice false (xs.map strAV)), (1, .slice false (ys.map strAV)), (5, .int .i64 i)] m
 refine awp_seq_k ?_; intro K4 hK4
 refine awp_reg2_seq [] [0, 1, 5, 14] (by decide) ?_
 intro K1 hK1
 refine ⟨trivial, trivial, ?_⟩
 refine ar_len rfl strAV xs rfl rfl rfl ?_
 refine ⟨trivial, ?_⟩
 show K1 [(0, .slice false (xs.map strAV)), (1, .slice false (ys.map strAV)), (5, .int .i64 i), (14, .bool (decide (i < (xs.length : Int))))] m
 refine hK1 _ _ ?_; clear hK1 K1
 refine awp_cond rfl rfl (fun h2 => ?_) (fun h2 => ?_)
 ·
  replace h2 : i < (xs.length : Int) := (of_decide_eq_true h2)
  refine awp_skip ?_
  refine hK4 _ _ ?_; clear hK4
  refine awp_seq_k ?_; intro K5 hK5
  refine awp_block ?_
  refine awp_draw_seq Try.mixed [] [0, 1, 5, 25] (by decide) (by decide) ?_
  intro K1 hK1
  refine ⟨trivial, trivial, ?_⟩
  refine pq_index rfl strAV xs i rfl rfl rfl rfl rfl (by decide) (fun _ => rfl) (by omega) (by omega) ?_
  refine ⟨(apartOk_one rfl rfl (Nat.le_of_ble_eq_true rfl)), trivial, trivial, ?_⟩
  refine pq_index rfl strAV ys i rfl rfl rfl rfl rfl (by decide) (fun _ => rfl) (by omega) (by omega) ?_
  refine ⟨(apartOk_one rfl rfl (Nat.le_of_ble_eq_true rfl)), trivial, ?_⟩
  show K1 [(0, .slice false (xs.map strAV)), (1, .slice false (ys.map strAV)), (5, .int .i64 i), (25, .bool (!((gI xs i) == (gI ys i))))] m
  refine hK1 _ _ ?_; clear hK1 K1
  refine awp_cond rfl rfl (fun h3 => ?_) (fun h3 => ?_)
  ·
   replace h3 : gI xs i ≠ gI ys i := (ne_of_beq_false (bnT h3))
   refine awp_reg2_seq [] [4] (by decide) ?_
   intro K1 hK1
   refine ⟨trivial, ?_⟩
   show K1 [(4, .bool false)] m
   refine hK1 _ _ ?_; clear hK1 K1
   refine awp_ret ?_
   refine ⟨trivial, m, fun _ _ h => h, ?_⟩
   show K (.bool false) m
  
   refine K_eq hK (congrArg AV.bool ?_)
   simp only [decide_eq_false_iff_not]; rintro rfl; simp at h3
  replace h3 : gI xs i = gI ys i := (eq_of_beq (bnF h3))
  refine awp_skip ?_
  refine hK5 _ _ ?_; clear hK5
  refine awp_reg2 [] [0, 1, 5] (by decide) ?_
  intro K1 hK1
  refine ⟨trivial, ?_⟩
  refine ar_add rfl (a := i) (b := 1) rfl rfl (by omega) (by omega) ?_
  refine ⟨trivial, ?_⟩
  show K1 [(0, .slice false (xs.map strAV)), (1, .slice false (ys.map strAV)), (5, .int .i64 (i + 1))] m
  refine hK1 _ _ ?_; clear hK1 K1
  refine ⟨(i + 1), rfl, rfl, ?_, ?_⟩
  ·
   show 0 ≤ ((i + 1 : Int)) ∧ ((i + 1 : Int)) ≤ xs.length ∧ xs.take ((i + 1 : Int)).toNat = ys.take ((i + 1 : Int)).toNat
   exact ⟨by omega, by omega, take_gI hI.1 h2 (by omega) hI.2.2 h3⟩
  ·
   show xs.length - ((i + 1 : Int)).toNat < xs.length - i.toNat
   omega
 replace h2 : (xs.length : Int) ≤ i := (Int.not_lt.1 (of_decide_eq_false h2))
 refine awp_exit ?_
 refine hK3 _ _ ?_; clear hK3
 refine awp_reg2_seq [] [4] (by decide) ?_
 intro K1 hK1
 refine ⟨trivial, ?_⟩
 show K1 [(4, .bool true)] m
 refine hK1 _ _ ?_; clear hK1 K1
 refine awp_ret ?_
 refine ⟨trivial, m, fun _ _ h => h, ?_⟩
 show K (.bool true) m

 refine K_eq hK (congrArg AV.bool ?_)
 rw [decide_eq_true_eq]; exact take_all h1 (by omega) hI.2.2

theorem u_same (e f : Int) (he : 0 ≤ e) (m : AMem)  (K : AV → AMem → Prop) (hK : K (.bool (e == f)) m) : ACalls Try.prog 14 [.err 108 e, .int .i64 f] m K := by
 refine acalls_enter Try.func14 rfl (by decide) (Nat.le_of_ble_eq_true rfl) ?_
 show AWP _ _ _ _ [(0, .err 108 e), (1, .int .i64 f)] m
 refine awp_reg2_seq [] [0, 1] (by decide) ?_
 intro K1 hK1
 refine ⟨trivial, ?_⟩
 show K1 [(0, .err 108 e), (1, .int .i64 f)] m
 refine hK1 _ _ ?_; clear hK1 K1
 refine awp_seq_k ?_; intro K2 hK2
 refine awp_reg2_seq [] [0, 1, 8] (by decide) ?_
 intro K1 hK1
 refine ⟨trivial, ⟨rfl, rfl⟩, ?_⟩
 show K1 [(0, .err 108 e), (1, .int .i64 f), (8, .bool (e == 0))] m
 refine hK1 _ _ ?_; clear hK1 K1
 refine awp_cond rfl rfl (fun h1 => ?_) (fun h1 => ?_)
 ·
  replace h1 : e = 0 := (eq_of_beq h1)
  refine awp_reg2_seq [] [4] (by decide) ?_
  intro K1 hK1
  refine ⟨trivial, trivial, trivial, ?_⟩
  show K1 [(4, .bool (f == 0))] m
  refine hK1 _ _ ?_; clear hK1 K1
  refine awp_ret ?_
  refine ⟨trivial, m, fun _ _ h => h, ?_⟩
  show K (.bool (f == 0)) m
 
  refine K_eq hK (congrArg AV.bool ?_)
  rw [Bool.eq_iff_iff]; simp; omega
 replace h1 : e ≠ 0 := (ne_of_beq_false h1)
 refine awp_skip ?_
 refine hK2 _ _ ?_; clear hK2
 refine awp_reg2_seq [] [1, 5, 6] (by decide) ?_
 intro K1 hK1
 refine ⟨trivial, rfl, trivial, (Nat.le_of_ble_eq_true rfl), (Nat.le_of_ble_eq_true rfl), trivial, trivial, ?_⟩
 show K1 [(1, .int .i64 f), (5, .int .i64 e), (6, .bool (!(e == 0)))] m
 refine hK1 _ _ ?_; clear hK1 K1
 refine awp_reg2_seq [] [4] (by decide) ?_
 intro K1 hK1
 suffices key : K1 [(4, .bool (((!(e == 0)) && (decide (0 < f))) && (e == f)))] m by
  refine ⟨trivial, trivial, ?_⟩
  show aopsR _ _ _ _ _ [(17, .bool (!(e == 0))), (16, .bool (!(e == 0))), (1, .int .i64 f), (5, .int .i64 e), (6, .bool (!(e == 0)))] _
  revert key
  cases h2 : (e == 0)
  ·
   replace h2 : e ≠ 0 := (ne_of_beq_false h2)
   intro key
   refine ⟨trivial, trivial, ?_⟩
   refine ⟨trivial, ?_⟩
   show aopsR _ _ _ _ _ [(21, .bool (decide (0 < f))), (20, .bool (decide (0 < f))), (19, .bool (decide (0 < f))), (18, .int .i64 f), (17, .bool true), (16, .bool true), (1, .int .i64 f), (5, .int .i64 e), (6, .bool true)] _
   revert key
   cases h3 : (decide (0 < f))
   ·
    replace h3 : f ≤ 0 := (Int.not_lt.1 (of_decide_eq_false h3))
    intro key
    refine ar_off rfl (ar_off rfl (ar_off rfl ?_))
    refine ⟨trivial, ?_⟩
    exact key
   ·
    replace h3 : 0 < f := (of_decide_eq_true h3)
    intro key
    refine ⟨trivial, trivial, trivial, ?_⟩
    refine ⟨trivial, ?_⟩
    exact key
  ·
   replace h2 : e = 0 := (eq_of_beq h2)
   intro key
   refine ar_off rfl (ar_off rfl ?_)
   refine ⟨trivial, ?_⟩
   refine ar_off rfl (ar_off rfl (ar_off rfl ?_))
   refine ⟨trivial, ?_⟩
   exact key
 refine hK1 _ _ ?_; clear hK1 K1
 refine awp_ret ?_
 refine ⟨trivial, m, fun _ _ h => h, ?_⟩
 show K (.bool (((!(e == 0)) && (decide (0 < f))) && (e == f))) m

 refine K_eq hK (congrArg AV.bool ?_)
 rw [Bool.eq_iff_iff]; simp; omega

end Go.Proofs
end
section
namespace Go.Proofs
open Go Go.Aw
set_option maxRecDepth 100000


/-- A disk that does not fall. -/
def Okd (s : DSt) : Prop := s.down = false ∧ s.fuse = -1
theorem mget_mput (l : List (Str × Str)) (k v : Str) : mget (mput l k v) k = some v := by
  induction l with
  | nil => simp [mput, mget]
  | cons p r ih =>
    obtain ⟨a, b⟩ := p
    simp only [mput]
    split
    · simp [mget]
    · rename_i h; simp [mget, h, ih]
theorem mayR_ok {s : DSt} {n : Str} {z : Int} (hn : nameF n = true) (hz : z ≤ 4000) (hr : (mget s.now n).isSome = true ∨ (s.now.length : Int) < 40) : mayR s n z = 0 := by
  unfold mayR
  rw [if_neg (by simp [hn]), if_neg (by omega), if_neg]
  rintro ⟨a, b⟩
  rcases hr with hr | hr
  · rw [a] at hr; cases hr
  · omega
def allF (l : List Str) : Str := l.flatMap framedL
theorem allF_snoc (l : List Str) (t : Str) : allF (l ++ [t]) = allF l ++ framedL t := by simp [allF]
theorem gI_drop {s : Str} {a k : Int} (h0 : 0 ≤ a) (hk : 0 ≤ k) : gI (s.drop a.toNat) k = gI s (a + k) := by
  simp only [gI, List.getD_eq_getElem?_getD, List.getElem?_drop]
  congr 2; omega
theorem splitF_back {s : Str} : ∀ (l : List Str) (n : Nat) (a : Int) (out : List Str), 0 ≤ a → a ≤ s.length → s.drop a.toNat = allF l → (∀ r ∈ l, r.length ≤ 400) → s.length - a < n → splitF n s a out = (out ++ l, (s.length : Int))
  | [], n, a, out, h0, h1, hd, _, hn => by
    have : (s.length : Int) = a := by
      have := congrArg List.length hd
      simp [allF] at this; omega
    cases n with
    | zero => omega
    | succ n => rw [splitF, if_pos (by omega)]; simp; omega
  | t :: l, n, a, out, h0, h1, hd, hl, hn => by
    have ht := hl t (by simp)
    have hd' : s.drop a.toNat = framedL t ++ allF l := by rw [hd]; simp [allF]
    have hfl := framedL_len t
    have hlen : (s.length : Int) = a + (t.length + 6) + (allF l).length := by
      have := congrArg List.length hd'
      rw [List.length_drop, List.length_append, hfl] at this; omega
    have hL : lenAt s a = t.length := by
      have e0 : gI s a = u8n t.length := by
        have := gI_drop (s := s) (a := a) (k := 0) h0 (by omega)
        rw [Int.add_zero] at this
        rw [← this, hd']; rfl
      have e1 : gI s (a + 1) = u8n (t.length / 256) := by
        have := gI_drop (s := s) (a := a) (k := 1) h0 (by omega)
        rw [← this, hd']; rfl
      unfold lenAt
      rw [e0, e1]
      simp [u8n]
      omega
    have hs1 : sub s a (a + 6 + t.length) = framedL t := by
      unfold sub
      rw [hd', show (a + 6 + (t.length : Int) - a).toNat = (framedL t).length by omega]
      simp
    have hs2 : sub s (a + 6) (a + 6 + t.length) = t := by
      unfold sub
      have e : (a + 6).toNat = a.toNat + 6 := by omega
      rw [e, ← List.drop_drop, hd', show (a + 6 + (t.length : Int) - (a + 6)).toNat = t.length by omega]
      simp [framedL]
    obtain ⟨n, rfl⟩ : ∃ k, n = k + 1 := ⟨n - 1, by omega⟩
    rw [splitF, if_neg (by omega), hL, if_neg (by omega), hs1, hs2, if_neg (by simp)]
    rw [splitF_back l n (a + 6 + t.length) (out ++ [t]) (by omega) (by omega) ?_ (fun r hr => hl r (by simp [hr])) (by omega)]
    · simp
    · have e : (a + 6 + (t.length : Int)).toNat = a.toNat + (framedL t).length := by omega
      rw [e, ← List.drop_drop, hd']; simp
theorem splitR_back {l : List Str} (h : ∀ r ∈ l, r.length ≤ 400) : splitR (allF l) = (l, ((allF l).length : Int)) := by
  have := splitF_back (s := allF l) l ((allF l).length + 1) 0 [] (by omega) (by omega) (by simp) h (by omega)
  simpa [splitR] using this
/-- What a log in a disk that does not fall has. -/
structure LogI (s : DSt) (n : Str) (l : List Str) (z : Int) : Prop where
  ok : Okd s
  txt : mget s.now n = some (allF l)
  siz : z = (allF l).length
  sml : z ≤ 4000
  rcs : ∀ r ∈ l, r.length ≤ 400
theorem LogI.len {s : DSt} {n : Str} {l : List Str} {z : Int} (h : LogI s n l z) : l.length ≤ 4000 := by
  have h1 := h.siz
  have h2 := h.sml
  have : ∀ l : List Str, l.length ≤ (allF l).length := fun l => by
    induction l with
    | nil => simp
    | cons t l ih =>
      have e : allF (t :: l) = framedL t ++ allF l := by simp [allF]
      rw [e, List.length_append, framedL_len, List.length_cons]; omega
  have := this l
  omega
theorem DInv.start : DInv 0 ⟨[], [], [], -1, false, 0⟩ := ⟨by simp, by simp, by simp, by simp, by simp, by simp, by simp, by simp, by simp⟩
theorem addR_inv {N : Nat} {s : DSt} {n t : Str} {l : List Str} {z : Int} (h : DInv N s) : DInv (N + 2) (addR s n l z t).1 := by
  unfold addR
  split
  · exact h.mono (by omega)
  · split
    · exact (appR_inv h).mono (by omega)
    · split
      · exact (appR_inv h).sync
      · exact (appR_inv h).sync
end Go.Proofs
end
section
namespace Go.Proofs
open Go Go.Aw
set_option maxRecDepth 100000


def rebuild (l : List (Str × Str)) (seen : List Nat) : List (Str × Str) := seen.foldl (fun n i => match l[i]? with | some p => mput n p.1 p.2 | none => n) []
theorem rebuild_snoc {l : List (Str × Str)} {seen : List Nat} {k : Nat} {a b : Str} (h : l[k]? = some (a, b)) : rebuild l (seen ++ [k]) = mput (rebuild l seen) a b := by
  unfold rebuild; rw [List.foldl_append]; simp [h]
theorem mput_keys {l : List (Str × Str)} {k v : Str} : (mput l k v).map Prod.fst = if k ∈ l.map Prod.fst then l.map Prod.fst else l.map Prod.fst ++ [k] := by
  induction l with
  | nil => rfl
  | cons p r ih =>
    obtain ⟨a, b⟩ := p
    simp only [mput]
    split
    · rename_i h; subst h; simp
    · rename_i h
      simp only [List.map_cons, ih, List.mem_cons]
      by_cases hm : k ∈ r.map Prod.fst
      · rw [if_pos hm, if_pos (.inr hm)]
      · rw [if_neg hm, if_neg (by rintro (e | e); exact h e.symm; exact hm e)]; rfl
theorem mdel_sub (l : List (Str × Str)) (k : Str) : (mdel l k).Sublist l := by
  induction l with
  | nil => exact List.Sublist.refl _
  | cons p r ih =>
    obtain ⟨a, b⟩ := p
    simp only [mdel]
    split
    · exact List.sublist_cons_self _ _
    · exact ih.cons_cons _
theorem mput_nd {l : List (Str × Str)} {k v : Str} (h : (l.map Prod.fst).Nodup) : ((mput l k v).map Prod.fst).Nodup := by
  rw [mput_keys]
  split
  · exact h
  · rename_i hm
    exact List.nodup_append.2 ⟨h, by simp, fun a ha b hb e => by simp at hb; subst hb; subst e; exact hm ha⟩
theorem mdel_nd {l : List (Str × Str)} {k : Str} (h : (l.map Prod.fst).Nodup) : ((mdel l k).map Prod.fst).Nodup := h.sublist ((mdel_sub l k).map _)
theorem applyC_nd {l : List (Str × Str)} {c : Chg} (h : (l.map Prod.fst).Nodup) : ((applyC l c).map Prod.fst).Nodup := by
  unfold applyC
  split
  · exact mput_nd h
  · split
    · exact mput_nd h
    · split
      · exact mdel_nd (mput_nd h)
      · split
        · exact mdel_nd h
        · exact h
theorem applyL_len (l : List (Str × Str)) (cs : List Chg) : (applyL l cs).length ≤ l.length + cs.length := by
  induction cs generalizing l with
  | nil => simp [applyL]
  | cons c cs ih =>
    have h1 := ih (applyC l c)
    have h2 := applyC_len l c
    show (applyL (applyC l c) cs).length ≤ _
    simp only [List.length_cons]; omega
/-- What is kept behind a fall. -/
def restK (s : DSt) (keep torn : Int) : List (Str × Str) :=
  if keep < (s.wait.length : Int) ∧ (gI s.wait keep).kind ≤ 3 ∧ sub (gI s.wait keep).data 0 torn ≠ [] then applyC (applyL s.kept (s.wait.take keep.toNat)) { gI s.wait keep with data := sub (gI s.wait keep).data 0 torn }
  else applyL s.kept (s.wait.take keep.toNat)
def clampI (a : Int) (n : Nat) : Int := if (n : Int) < (if 0 > a then 0 else a) then n else (if 0 > a then 0 else a)
theorem clampI_b (a : Int) (n : Nat) : 0 ≤ clampI a n ∧ clampI a n ≤ n := by unfold clampI; split <;> (try split) <;> omega
theorem sub0_take {α : Type} (l : List α) (k : Int) : sub l 0 k = l.take k.toNat := by unfold sub; simp
theorem take_lenI {α : Type} {l : List α} {k : Int} (h0 : 0 ≤ k) (h1 : k ≤ l.length) : ((l.take k.toNat).length : Int) = k := by rw [List.length_take]; omega
def tornOf (s : DSt) (keep torn : Int) : Int := clampI torn (gI s.wait (clampI keep s.wait.length)).data.length
def restR (s : DSt) (keep torn : Int) : List (Str × Str) := restK s (clampI keep s.wait.length) (tornOf s keep torn)
theorem rev_ind {α : Type} {p : List α → Prop} (h0 : p []) (h1 : ∀ l a, p l → p (l ++ [a])) (l : List α) : p l := by
  have h : ∀ l : List α, p l.reverse := fun l => by
    induction l with
    | nil => exact h0
    | cons a l ih => rw [List.reverse_cons]; exact h1 _ _ ih
  have := h l.reverse
  rwa [List.reverse_reverse] at this
theorem nat_pigeon : ∀ (n : Nat) (l : List Nat), l.Nodup → (∀ i ∈ l, i < n) → l.length ≤ n
  | 0, [], _, _ => Nat.le_refl _
  | 0, a :: l, _, h => absurd (h a (by simp)) (by omega)
  | n + 1, l, hn, h => by
    have := nat_pigeon n (l.erase n) (hn.erase n) (fun i hi => by
      have h1 := (hn.mem_erase_iff).1 hi
      have := h i h1.2
      omega)
    by_cases hm : n ∈ l
    · have := List.length_erase_of_mem hm; omega
    · rw [List.erase_of_not_mem hm] at this; omega
theorem mget_none {l : List (Str × Str)} {k : Str} : mget l k = none ↔ k ∉ l.map Prod.fst := by
  induction l with
  | nil => simp [mget]
  | cons p r ih =>
    obtain ⟨a, b⟩ := p
    simp only [mget, List.map_cons, List.mem_cons]
    split
    · rename_i h; simp [h]
    · rename_i h; rw [ih]; simp [Ne.symm h]
theorem mput_fresh {l : List (Str × Str)} {k v : Str} (h : k ∉ l.map Prod.fst) : mput l k v = l ++ [(k, v)] := by
  induction l with
  | nil => rfl
  | cons p r ih =>
    obtain ⟨a, b⟩ := p
    simp only [List.map_cons, List.mem_cons, not_or] at h
    simp only [mput]
    rw [if_neg (Ne.symm h.1), ih h.2]; rfl
theorem rebuild_eq {l : List (Str × Str)} (hl : (l.map Prod.fst).Nodup) : ∀ (seen pre : List Nat), (pre ++ seen).Nodup → (∀ i ∈ pre ++ seen, i < l.length) → rebuild l (pre ++ seen) = rebuild l pre ++ seen.map (fun i => l.getD i ([], []))
  | [], pre, _, _ => by simp
  | k :: seen, pre, hn, hb => by
    have e : pre ++ k :: seen = (pre ++ [k]) ++ seen := by simp
    have hk : k < l.length := hb k (by simp)
    rw [e] at hn hb ⊢
    rw [rebuild_eq hl seen (pre ++ [k]) hn hb]
    have hp : ∀ (pre : List Nat), pre.Nodup → (∀ i ∈ pre, i < l.length) → rebuild l pre = pre.map (fun i => l.getD i ([], [])) := fun pre => by
      intro h1 h2
      revert h1 h2
      refine rev_ind (p := fun pre => pre.Nodup → (∀ i ∈ pre, i < l.length) → rebuild l pre = pre.map (fun i => l.getD i ([], []))) (fun _ _ => rfl) (fun pre j ih h1 h2 => ?_) pre
      · have hj : j < l.length := h2 j (by simp)
        rw [rebuild_snoc (a := l[j].1) (b := l[j].2) (by simp [hj]), ih (List.nodup_append.1 h1).1 (fun i hi => h2 i (by simp [hi]))]
        rw [mput_fresh]
        · simp [hj]
        · intro hc
          simp only [List.map_map, List.mem_map, Function.comp] at hc
          obtain ⟨i, hi, he⟩ := hc
          have hil : i < l.length := h2 i (by simp [hi])
          simp only [List.getD_eq_getElem?_getD, List.getElem?_eq_getElem hil, Option.getD_some] at he
          have : i = j := by
            have h3 := (List.nodup_iff_pairwise_ne.1 hl)
            rw [List.pairwise_iff_getElem] at h3
            rcases Nat.lt_trichotomy i j with h4 | h4 | h4
            · exact absurd (by rw [List.getElem_map, List.getElem_map]; simpa using he) (h3 i j (by simpa using hil) (by simpa using hj) h4)
            · exact h4
            · exact absurd (by rw [List.getElem_map, List.getElem_map]; simpa using he.symm) (h3 j i (by simpa using hj) (by simpa using hil) h4)
          subst this
          exact (List.nodup_append.1 h1).2.2 i hi i (by simp) rfl
    have hn2 := (List.nodup_append.1 hn).1
    rw [hp _ hn2 (fun i hi => hb i (by simp at hi ⊢; rcases hi with h | h <;> simp [h])), hp pre (List.nodup_append.1 hn2).1 (fun i hi => hb i (by simp [hi]))]
    simp
theorem rebuild_perm {l : List (Str × Str)} {seen : List Nat} (hl : (l.map Prod.fst).Nodup) (hn : seen.Nodup) (hb : ∀ i ∈ seen, i < l.length) (ha : ∀ i, i < l.length → i ∈ seen) : (rebuild l seen).Perm l := by
  have := rebuild_eq hl seen [] (by simpa using hn) (by simpa using hb)
  simp only [List.nil_append] at this
  rw [this]
  have hp : seen.Perm (List.range l.length) := (List.perm_ext_iff_of_nodup hn List.nodup_range).2 fun i => ⟨fun h => List.mem_range.2 (hb i h), fun h => ha i (List.mem_range.1 h)⟩
  refine (hp.map _).trans ?_
  have e : (List.range l.length).map (fun i => l.getD i ([], [])) = l := by
    refine List.ext_getElem (by simp) fun i h1 h2 => ?_
    simp only [List.getElem_map, List.getElem_range]
    simp [h2]
  show ((List.range l.length).map (fun i => l.getD i ([], []))).Perm l
  rw [e]
theorem seen_len {l : List (Str × Str)} {seen : List Nat} (hn : seen.Nodup) (hb : ∀ i ∈ seen, i < l.length) : seen.length ≤ l.length := by
  exact nat_pigeon _ _ hn hb
theorem rebuild_len (l : List (Str × Str)) (seen : List Nat) : (rebuild l seen).length ≤ seen.length := by
  refine rev_ind (p := fun seen => (rebuild l seen).length ≤ seen.length) (by simp [rebuild]) (fun pre j ih => ?_) seen
  · cases h : l[j]? with
    | none => unfold rebuild at ih ⊢; rw [List.foldl_append]; simp [h]; omega
    | some p =>
      rw [rebuild_snoc (a := p.1) (b := p.2) h]
      have := mput_len (rebuild l pre) p.1 p.2
      simp; omega
theorem applyL_nd {l : List (Str × Str)} {cs : List Chg} (h : (l.map Prod.fst).Nodup) : ((applyL l cs).map Prod.fst).Nodup := by
  induction cs generalizing l with
  | nil => exact h
  | cons c cs ih => exact ih (applyC_nd h)
theorem restR_len (s : DSt) (keep torn : Int) : (restR s keep torn).length ≤ s.kept.length + s.wait.length + 1 := by
  have h := applyL_len s.kept (s.wait.take (clampI keep s.wait.length).toNat)
  rw [List.length_take] at h
  unfold restR restK
  split
  · refine Nat.le_trans (applyC_len _ _) ?_
    omega
  · omega
theorem restR_nd {s : DSt} (h : (s.kept.map Prod.fst).Nodup) (keep torn : Int) : ((restR s keep torn).map Prod.fst).Nodup := by
  unfold restR restK
  split
  · exact applyC_nd (applyL_nd h)
  · exact applyL_nd h
theorem rstep {l nw : List (Str × Str)} {seen : List Nat} {k : Nat} {a b : Str} (h1 : seen.Nodup) (h2 : ∀ i ∈ seen, i < l.length) (h3 : nw = rebuild l seen) (hp : l[k]? = some (a, b)) (hn : ¬ k ∈ seen) : (seen ++ [k]).Nodup ∧ (∀ i ∈ seen ++ [k], i < l.length) ∧ mput nw a b = rebuild l (seen ++ [k]) := by
  have hk := (List.getElem?_eq_some_iff.1 hp).1
  refine ⟨List.nodup_append.2 ⟨h1, by simp, fun i hi j hj e => by simp at hj; subst hj; subst e; exact hn hi⟩, fun i hi => ?_, by rw [rebuild_snoc hp, h3]⟩
  rcases List.mem_append.1 hi with h | h
  · exact h2 i h
  · simp at h; omega
theorem rdec {l : List (Str × Str)} {seen : List Nat} {k : Nat} {p : Str × Str} (h1 : seen.Nodup) (h2 : ∀ i ∈ seen, i < l.length) (hp : l[k]? = some p) (hn : ¬ k ∈ seen) : l.length - (seen ++ [k]).length < l.length - seen.length := by
  have h := (rstep (nw := rebuild l seen) h1 h2 rfl (a := p.1) (b := p.2) hp hn)
  have := seen_len h.1 h.2.1
  simp at this ⊢
  omega

theorem u_Arm (d kb nb : Nat) (s : DSt) (n : Int)  (m : AMem)  (K : AV → AMem → Prop) (hK : K (.tuple []) (AMem.wth m [(d, dObj kb nb { s with fuse := if -1 > n then -1 else n })])) : ACalls Try.prog 37 [.ptr ⟨d, 0, none⟩, .int .i64 n] (AMem.wth m [(d, dObj kb nb s)]) K := by
 refine acalls_enter Try.func37 rfl (by decide) (Nat.le_of_ble_eq_true rfl) ?_
 show AWP _ _ _ _ [(0, .ptr ⟨d, 0, none⟩), (1, .int .i64 n)] (AMem.wth m [(d, dObj kb nb s)])
 refine awp_reg2 [] [] (by decide) ?_
 intro K1 hK1
 refine ⟨trivial, trivial, trivial, trivial, ⟨rfl, by decide⟩, ?_⟩
 refine ar_storep rfl 0 (v := .int .i64 (if -1 > n then -1 else n)) (l' := [.map kb, .map nb, .slice true (s.wait.map chgAV), .int .i64 (if -1 > n then -1 else n), .bool s.down, .int .i64 s.steps]) rfl rfl (nodup_1 d) rfl rfl rfl rfl rfl (Nat.le_of_ble_eq_true rfl) rfl ?_
 show K1 [] (AMem.wth m [(d, .cells [.map kb, .map nb, .slice true (s.wait.map chgAV), .int .i64 (if -1 > n then -1 else n), .bool s.down, .int .i64 s.steps])])
 refine hK1 _ _ ?_; clear hK1 K1
 refine ⟨(AMem.wth m [(d, .cells [.map kb, .map nb, .slice true (s.wait.map chgAV), .int .i64 (if -1 > n then -1 else n), .bool s.down, .int .i64 s.steps])]), fun _ _ h => h, ?_⟩
 show K (.tuple []) (AMem.wth m [(d, .cells [.map kb, .map nb, .slice true (s.wait.map chgAV), .int .i64 (if -1 > n then -1 else n), .bool s.down, .int .i64 s.steps])])

 exact hK

set_option maxHeartbeats 16000000 in
theorem u_Restart (d kb nb : Nat) (s : DSt) (keep torn : Int) (N : Nat) (hN : [d, kb].Nodup) (hD : DInv N s) (hNN : N ≤ 100000) (hk : (s.kept.map Prod.fst).Nodup) (m : AMem)  (K : AV → AMem → Prop) (hK : ∀ q, ([q, d, kb] : List Nat).Nodup → m q = none → ∀ nw, nw.Perm (restR s keep torn) → K (.tuple []) (AMem.wth m [(q, mObj nw), (d, dObj kb q ⟨restR s keep torn, nw, [], -1, false, s.steps⟩), (kb, mObj (restR s keep torn))])) : ACalls Try.prog 38 [.ptr ⟨d, 0, none⟩, .int .i64 keep, .int .i64 torn] (AMem.wth m [(d, dObj kb nb s), (kb, mObj s.kept)]) K := by
 have hcl := clampI_b keep s.wait.length
 have hwl := hD.kl
 have hrl := restR_len s keep torn
 refine acalls_enter Try.func38 rfl (by decide) (Nat.le_of_ble_eq_true rfl) ?_
 show AWP _ _ _ _ [(0, .ptr ⟨d, 0, none⟩), (1, .int .i64 keep), (2, .int .i64 torn)] (AMem.wth m [(d, dObj kb nb s), (kb, mObj s.kept)])
 refine awp_reg2_seq [] [0, 1, 2] (by decide) ?_
 intro K1 hK1
 refine ⟨trivial, trivial, trivial, trivial, ⟨rfl, by decide⟩, ?_⟩
 refine ar_loadp rfl (v := .slice false (s.wait.map chgAV)) rfl (wth_get 0 hN rfl) rfl (apartOk_one rfl rfl (Nat.le_of_ble_eq_true rfl)) rfl ?_
 refine ar_len rfl chgAV s.wait rfl rfl rfl ?_
 refine ⟨trivial, trivial, ?_⟩
 show K1 [(0, .ptr ⟨d, 0, none⟩), (1, .int .i64 (if (s.wait.length : Int) < if 0 > keep then 0 else keep then (s.wait.length : Int) else if 0 > keep then 0 else keep)), (2, .int .i64 torn)] (AMem.wth m [(d, dObj kb nb s), (kb, mObj s.kept)])
 refine hK1 _ _ ?_; clear hK1 K1
 
 show AWP _ _ _ _ [(0, .ptr ⟨d, 0, none⟩), (1, .int .i64 (clampI keep s.wait.length)), (2, .int .i64 torn)] (AMem.wth m [(d, dObj kb nb s), (kb, mObj s.kept)])
 refine awp_seq_k ?_; intro K2 hK2
 refine awp_reg2_seq [] [0, 1, 2, 24, 25, 26] (by decide) ?_
 intro K1 hK1
 refine ⟨trivial, trivial, ⟨rfl, by decide⟩, ?_⟩
 refine ar_loadp rfl (v := .slice false (s.wait.map chgAV)) rfl (wth_get 0 hN rfl) rfl (apartOk_one rfl rfl (Nat.le_of_ble_eq_true rfl)) rfl ?_
 refine ⟨trivial, ?_⟩
 refine ar_slice rfl chgAV s.wait 0 (clampI keep s.wait.length) rfl rfl rfl rfl rfl rfl (fun _ => rfl) (by omega) (by omega) (by omega) ?_
 refine ar_len rfl chgAV (sub s.wait 0 (clampI keep s.wait.length)) rfl rfl rfl ?_
 refine ⟨trivial, ?_⟩
 show K1 [(0, .ptr ⟨d, 0, none⟩), (1, .int .i64 (clampI keep s.wait.length)), (2, .int .i64 torn), (24, .slice false ((sub s.wait 0 (clampI keep s.wait.length)).map chgAV)), (25, .int .i64 ((sub s.wait 0 (clampI keep s.wait.length)).length : Int)), (26, .int .i64 0)] (AMem.wth m [(d, dObj kb nb s), (kb, mObj s.kept)])
 refine hK1 _ _ ?_; clear hK1 K1
 rw [sub0_take, take_lenI hcl.1 hcl.2]
 show AWP _ _ _ _ [(0, .ptr ⟨d, 0, none⟩), (1, .int .i64 (clampI keep s.wait.length)), (2, .int .i64 torn), (24, .slice false ((s.wait.take (clampI keep s.wait.length).toNat).map chgAV)), (25, .int .i64 (clampI keep s.wait.length)), (26, .int .i64 0)] (AMem.wth m [(d, dObj kb nb s), (kb, mObj s.kept)])
 refine awp_block ?_
 refine awp_keep [0, 1, 2, 24, 25, 26] (by decide) ?_
 refine awp_loop_st (σ := Int × (List (Str × Str))) (fun ⟨i, kp⟩ => [(0, .ptr ⟨d, 0, none⟩), (1, .int .i64 (clampI keep s.wait.length)), (2, .int .i64 torn), (24, .slice false ((s.wait.take (clampI keep s.wait.length).toNat).map chgAV)), (25, .int .i64 (clampI keep s.wait.length)), (26, .int .i64 i)]) (fun ⟨i, kp⟩ => (AMem.wth m [(d, dObj kb nb s), (kb, mObj kp)])) (fun ⟨i, kp⟩ => 0 ≤ i ∧ i ≤ clampI keep s.wait.length ∧ kp = applyL s.kept ((s.wait.take (clampI keep s.wait.length).toNat).take i.toNat)) (fun ⟨i, kp⟩ => (clampI keep s.wait.length - i).toNat) (0, s.kept) rfl rfl ?_ ?_
 ·
  show 0 ≤ ((0 : Int)) ∧ ((0 : Int)) ≤ clampI keep s.wait.length ∧ ((s.kept : (List (Str × Str)))) = applyL s.kept ((s.wait.take (clampI keep s.wait.length).toNat).take ((0 : Int)).toNat)
  exact ⟨by omega, hcl.1, rfl⟩
 rintro ⟨i, kp⟩ hI
 replace hI : 0 ≤ i ∧ i ≤ clampI keep s.wait.length ∧ kp = applyL s.kept ((s.wait.take (clampI keep s.wait.length).toNat).take i.toNat) := hI
 show AWP _ _ _ _ [(0, .ptr ⟨d, 0, none⟩), (1, .int .i64 (clampI keep s.wait.length)), (2, .int .i64 torn), (24, .slice false ((s.wait.take (clampI keep s.wait.length).toNat).map chgAV)), (25, .int .i64 (clampI keep s.wait.length)), (26, .int .i64 i)] (AMem.wth m [(d, dObj kb nb s), (kb, mObj kp)])
 refine awp_reg2_seq [] [0, 1, 2, 24, 25, 26, 27] (by decide) ?_
 intro K1 hK1
 refine ⟨trivial, ?_⟩
 show K1 [(0, .ptr ⟨d, 0, none⟩), (1, .int .i64 (clampI keep s.wait.length)), (2, .int .i64 torn), (24, .slice false ((s.wait.take (clampI keep s.wait.length).toNat).map chgAV)), (25, .int .i64 (clampI keep s.wait.length)), (26, .int .i64 i), (27, .bool (decide (i < clampI keep s.wait.length)))] (AMem.wth m [(d, dObj kb nb s), (kb, mObj kp)])
 refine hK1 _ _ ?_; clear hK1 K1
 refine awp_seq_k ?_; intro K3 hK3
 refine awp_cond rfl rfl (fun h1 => ?_) (fun h1 => ?_)
 ·
  replace h1 : i < clampI keep s.wait.length := (of_decide_eq_true h1)
  have hwm : gI (s.wait.take (clampI keep s.wait.length).toNat) i ∈ s.wait := List.mem_of_mem_take (gI_mem hI.1 (by rw [take_lenI hcl.1 hcl.2]; exact h1))
  have hcd := hD.cd _ hwm
  have hap := applyL_bnd (cs := (s.wait.take (clampI keep s.wait.length).toNat).take i.toNat) (fun c hc => hD.cd c (List.mem_of_mem_take (List.mem_of_mem_take hc))) (l := s.kept) (B := 400000000) (fun p hp => by have := hD.kb p hp; omega)
  rw [← hI.2.2, List.length_take, List.length_take] at hap
  refine awp_skip ?_
  refine hK3 _ _ ?_; clear hK3
  refine awp_seq_k ?_; intro K4 hK4
  refine awp_block ?_
  refine awp_reg2_seq [] [0, 1, 2, 7, 24, 25, 26] (by decide) ?_
  intro K1 hK1
  refine ar_index rfl chgAV (s.wait.take (clampI keep s.wait.length).toNat) i rfl rfl rfl rfl rfl (by decide) (fun _ => rfl) (by omega) (by first | omega | (rw [take_lenI hcl.1 hcl.2]; omega)) ?_
  refine ⟨(apartOk_agg rfl rfl (Nat.le_of_ble_eq_true rfl)), ?_⟩
  refine ar_alloc rfl (m := m) (L := [(d, dObj kb nb s), (kb, mObj kp)]) (z := .agg [.str ([]), .str ([]), .str ([]), .int .i64 0]) rfl rfl ?_
  intro b1 hb1
  have hFb1 : m b1 = none := wth_none (m := m) (L := [(d, dObj kb nb s), (kb, mObj kp)]) hb1
  have hNb1 : ([b1, d, kb] : List Nat).Nodup := wth_nodup (m := m) (L := [(d, dObj kb nb s), (kb, mObj kp)]) hb1 hN
  refine ar_storep rfl 0 (v := chgAV (gI (s.wait.take (clampI keep s.wait.length).toNat) i)) (l' := [.str ((gI (s.wait.take (clampI keep s.wait.length).toNat) i).name), .str ((gI (s.wait.take (clampI keep s.wait.length).toNat) i).data), .str ((gI (s.wait.take (clampI keep s.wait.length).toNat) i).to), .int .i64 ((gI (s.wait.take (clampI keep s.wait.length).toNat) i).kind)]) rfl (by rfl) hNb1 rfl rfl rfl rfl rfl (Nat.le_of_ble_eq_true rfl) rfl ?_
  show K1 [(0, .ptr ⟨d, 0, none⟩), (1, .int .i64 (clampI keep s.wait.length)), (2, .int .i64 torn), (7, .ptr ⟨b1, 0, none⟩), (24, .slice false ((s.wait.take (clampI keep s.wait.length).toNat).map chgAV)), (25, .int .i64 (clampI keep s.wait.length)), (26, .int .i64 i)] (AMem.wth m [(b1, .cells [.str ((gI (s.wait.take (clampI keep s.wait.length).toNat) i).name), .str ((gI (s.wait.take (clampI keep s.wait.length).toNat) i).data), .str ((gI (s.wait.take (clampI keep s.wait.length).toNat) i).to), .int .i64 ((gI (s.wait.take (clampI keep s.wait.length).toNat) i).kind)]), (d, dObj kb nb s), (kb, mObj kp)])
  refine hK1 _ _ ?_; clear hK1 K1
  refine awp_draw_memP Try.mixed [(5, 35)] [(5, 35, .tuple [])] [(AMem.wth m [(b1, .cells [.str ((gI (s.wait.take (clampI keep s.wait.length).toNat) i).name), .str ((gI (s.wait.take (clampI keep s.wait.length).toNat) i).data), .str ((gI (s.wait.take (clampI keep s.wait.length).toNat) i).to), .int .i64 ((gI (s.wait.take (clampI keep s.wait.length).toNat) i).kind)]), (d, dObj kb nb s), (kb, mObj kp)]), (AMem.wth m [(b1, .cells [.str ((gI (s.wait.take (clampI keep s.wait.length).toNat) i).name), .str ((gI (s.wait.take (clampI keep s.wait.length).toNat) i).data), .str ((gI (s.wait.take (clampI keep s.wait.length).toNat) i).to), .int .i64 ((gI (s.wait.take (clampI keep s.wait.length).toNat) i).kind)]), (d, dObj kb nb s), (kb, mObj (applyC kp (gI (s.wait.take (clampI keep s.wait.length).toNat) i)))])] [] [0, 1, 2, 24, 25, 26] [(34, .agg [.str ((gI (s.wait.take (clampI keep s.wait.length).toNat) i).name), .str ((gI (s.wait.take (clampI keep s.wait.length).toNat) i).data), .str ((gI (s.wait.take (clampI keep s.wait.length).toNat) i).to), .int .i64 ((gI (s.wait.take (clampI keep s.wait.length).toNat) i).kind)]), (33, .map kb), (32, .ptr ⟨d, 0, none⟩), (31, .ptr ⟨d, 0, none⟩), (30, .ptr ⟨d, 0, none⟩), (35, .tuple []), (0, .ptr ⟨d, 0, none⟩), (1, .int .i64 (clampI keep s.wait.length)), (2, .int .i64 torn), (7, .ptr ⟨b1, 0, none⟩), (24, .slice false ((s.wait.take (clampI keep s.wait.length).toNat).map chgAV)), (25, .int .i64 (clampI keep s.wait.length)), (26, .int .i64 i)] (AMem.wth m [(b1, .cells [.str ((gI (s.wait.take (clampI keep s.wait.length).toNat) i).name), .str ((gI (s.wait.take (clampI keep s.wait.length).toNat) i).data), .str ((gI (s.wait.take (clampI keep s.wait.length).toNat) i).to), .int .i64 ((gI (s.wait.take (clampI keep s.wait.length).toNat) i).kind)]), (d, dObj kb nb s), (kb, mObj (applyC kp (gI (s.wait.take (clampI keep s.wait.length).toNat) i)))]) (by decide) (by decide) (by decide) rfl rfl rfl rfl ?_ ?_ ?_
  ·
   refine ⟨?_, trivial⟩
   ·
    exact mem_call (wth_split (m := m) (L := [(b1, .cells [.str ((gI (s.wait.take (clampI keep s.wait.length).toNat) i).name), .str ((gI (s.wait.take (clampI keep s.wait.length).toNat) i).data), .str ((gI (s.wait.take (clampI keep s.wait.length).toNat) i).to), .int .i64 ((gI (s.wait.take (clampI keep s.wait.length).toNat) i).kind)]), (d, dObj kb nb s), (kb, mObj kp)]) hNb1 (pick_perm [2] _)) (wth_split (m := m) (L := [(b1, .cells [.str ((gI (s.wait.take (clampI keep s.wait.length).toNat) i).name), .str ((gI (s.wait.take (clampI keep s.wait.length).toNat) i).data), .str ((gI (s.wait.take (clampI keep s.wait.length).toNat) i).to), .int .i64 ((gI (s.wait.take (clampI keep s.wait.length).toNat) i).kind)]), (d, dObj kb nb s), (kb, mObj (applyC kp (gI (s.wait.take (clampI keep s.wait.length).toNat) i)))]) hNb1 (pick_perm [2] _)) (fun Kc hKc => u_apply kb kp (gI (s.wait.take (clampI keep s.wait.length).toNat) i) (by have := hap.1; omega) (fun p hp => by have := hap.2 p hp; omega) (by first | omega | (dsimp only; omega)) _ Kc hKc)
  ·
   refine ⟨?_, ?_, trivial⟩
   ·
    show pseq _ _ _ _ _ [(35, .tuple []), (0, .ptr ⟨d, 0, none⟩), (1, .int .i64 (clampI keep s.wait.length)), (2, .int .i64 torn), (7, .ptr ⟨b1, 0, none⟩), (24, .slice false ((s.wait.take (clampI keep s.wait.length).toNat).map chgAV)), (25, .int .i64 (clampI keep s.wait.length)), (26, .int .i64 i)] _
    refine ⟨trivial, trivial, ⟨rfl, by decide⟩, ?_⟩
    refine pq_loadp rfl (v := .map kb) rfl (wth_get 1 hNb1 rfl) (apartOk_one rfl rfl (Nat.le_of_ble_eq_true rfl)) rfl ?_
    refine pq_loadp rfl (v := .agg [.str ((gI (s.wait.take (clampI keep s.wait.length).toNat) i).name), .str ((gI (s.wait.take (clampI keep s.wait.length).toNat) i).data), .str ((gI (s.wait.take (clampI keep s.wait.length).toNat) i).to), .int .i64 ((gI (s.wait.take (clampI keep s.wait.length).toNat) i).kind)]) rfl (wth_get 0 hNb1 rfl) (apartOk_agg rfl rfl (Nat.le_of_ble_eq_true rfl)) rfl ?_
    exact rfl
   ·
    show pseq _ _ _ _ _ [(35, .tuple []), (0, .ptr ⟨d, 0, none⟩), (1, .int .i64 (clampI keep s.wait.length)), (2, .int .i64 torn), (7, .ptr ⟨b1, 0, none⟩), (24, .slice false ((s.wait.take (clampI keep s.wait.length).toNat).map chgAV)), (25, .int .i64 (clampI keep s.wait.length)), (26, .int .i64 i)] _
    refine ⟨trivial, trivial, ⟨rfl, by decide⟩, ?_⟩
    refine pq_loadp rfl (v := .map kb) rfl (wth_get 1 hNb1 rfl) (apartOk_one rfl rfl (Nat.le_of_ble_eq_true rfl)) rfl ?_
    refine pq_loadp rfl (v := .agg [.str ((gI (s.wait.take (clampI keep s.wait.length).toNat) i).name), .str ((gI (s.wait.take (clampI keep s.wait.length).toNat) i).data), .str ((gI (s.wait.take (clampI keep s.wait.length).toNat) i).to), .int .i64 ((gI (s.wait.take (clampI keep s.wait.length).toNat) i).kind)]) rfl (wth_get 0 hNb1 rfl) (apartOk_agg rfl rfl (Nat.le_of_ble_eq_true rfl)) rfl ?_
    exact rfl
  intro K1 hK1
  show K1 [(0, .ptr ⟨d, 0, none⟩), (1, .int .i64 (clampI keep s.wait.length)), (2, .int .i64 torn), (24, .slice false ((s.wait.take (clampI keep s.wait.length).toNat).map chgAV)), (25, .int .i64 (clampI keep s.wait.length)), (26, .int .i64 i)] (AMem.wth m [(b1, .cells [.str ((gI (s.wait.take (clampI keep s.wait.length).toNat) i).name), .str ((gI (s.wait.take (clampI keep s.wait.length).toNat) i).data), .str ((gI (s.wait.take (clampI keep s.wait.length).toNat) i).to), .int .i64 ((gI (s.wait.take (clampI keep s.wait.length).toNat) i).kind)]), (d, dObj kb nb s), (kb, mObj (applyC kp (gI (s.wait.take (clampI keep s.wait.length).toNat) i)))])
  refine hK1 _ _ ?_; clear hK1 K1
  refine hK4 _ _ ?_; clear hK4
  have hNd1 : ([d, kb] : List Nat).Nodup := drop_nodup (L := [(b1, .cells [.str ((gI (s.wait.take (clampI keep s.wait.length).toNat) i).name), .str ((gI (s.wait.take (clampI keep s.wait.length).toNat) i).data), .str ((gI (s.wait.take (clampI keep s.wait.length).toNat) i).to), .int .i64 ((gI (s.wait.take (clampI keep s.wait.length).toNat) i).kind)]), (d, dObj kb nb s), (kb, mObj (applyC kp (gI (s.wait.take (clampI keep s.wait.length).toNat) i)))]) hNb1 (pick_perm [0] _)
  refine awp_dropP [(b1, .cells [.str ((gI (s.wait.take (clampI keep s.wait.length).toNat) i).name), .str ((gI (s.wait.take (clampI keep s.wait.length).toNat) i).data), .str ((gI (s.wait.take (clampI keep s.wait.length).toNat) i).to), .int .i64 ((gI (s.wait.take (clampI keep s.wait.length).toNat) i).kind)])] [(d, dObj kb nb s), (kb, mObj (applyC kp (gI (s.wait.take (clampI keep s.wait.length).toNat) i)))] hNb1 (pick_perm [0] _) (by simp only [List.map_cons, List.map_nil, List.forall_mem_cons]; exact ⟨hFb1, fun _ h => by cases h⟩) ?_
  refine awp_reg2 [] [0, 1, 2, 24, 25, 26] (by decide) ?_
  intro K1 hK1
  refine ar_add rfl (a := i) (b := 1) rfl rfl (by omega) (by omega) ?_
  refine ⟨trivial, ?_⟩
  show K1 [(0, .ptr ⟨d, 0, none⟩), (1, .int .i64 (clampI keep s.wait.length)), (2, .int .i64 torn), (24, .slice false ((s.wait.take (clampI keep s.wait.length).toNat).map chgAV)), (25, .int .i64 (clampI keep s.wait.length)), (26, .int .i64 (i + 1))] (AMem.wth m [(d, dObj kb nb s), (kb, mObj (applyC kp (gI (s.wait.take (clampI keep s.wait.length).toNat) i)))])
  refine hK1 _ _ ?_; clear hK1 K1
  refine ⟨(i + 1, applyC kp (gI (s.wait.take (clampI keep s.wait.length).toNat) i)), rfl, rfl, ?_, ?_⟩
  ·
   show 0 ≤ ((i + 1 : Int)) ∧ ((i + 1 : Int)) ≤ clampI keep s.wait.length ∧ ((applyC kp (gI (s.wait.take (clampI keep s.wait.length).toNat) i) : (List (Str × Str)))) = applyL s.kept ((s.wait.take (clampI keep s.wait.length).toNat).take ((i + 1 : Int)).toNat)
   exact ⟨by omega, by omega, by rw [hI.2.2]; exact applyL_step hI.1 (by rw [take_lenI hcl.1 hcl.2]; exact h1)⟩
  ·
   show (clampI keep s.wait.length - ((i + 1 : Int))).toNat < (clampI keep s.wait.length - i).toNat
   omega
 replace h1 : clampI keep s.wait.length ≤ i := (Int.not_lt.1 (of_decide_eq_false h1))
 have hkp : kp = applyL s.kept (s.wait.take (clampI keep s.wait.length).toNat) := by have := hI.2.2; rwa [take_full (by rw [take_lenI hcl.1 hcl.2]; exact h1)] at this
 have hap := applyL_bnd (cs := s.wait.take (clampI keep s.wait.length).toNat) (fun c hc => hD.cd c (List.mem_of_mem_take hc)) (l := s.kept) (B := 400000000) (fun p hp => by have := hD.kb p hp; omega)
 rw [← hkp, List.length_take] at hap
 refine awp_exit ?_
 refine hK2 _ _ ?_; clear hK2
 refine awp_seq_k ?_; intro K5 hK5
 refine awp_reg2_seq [] [0, 1, 2, 54] (by decide) ?_
 intro K1 hK1
 suffices key : K1 [(0, .ptr ⟨d, 0, none⟩), (1, .int .i64 (clampI keep s.wait.length)), (2, .int .i64 torn), (54, .bool ((decide (clampI keep s.wait.length < (s.wait.length : Int))) && (decide ((gI s.wait (clampI keep s.wait.length)).kind ≤ 3))))] (AMem.wth m [(d, dObj kb nb s), (kb, mObj kp)]) by
  refine ⟨trivial, trivial, trivial, ⟨rfl, by decide⟩, ?_⟩
  refine ar_loadp rfl (v := .slice false (s.wait.map chgAV)) rfl (wth_get 0 hN rfl) rfl (apartOk_one rfl rfl (Nat.le_of_ble_eq_true rfl)) rfl ?_
  refine ar_len rfl chgAV s.wait rfl rfl rfl ?_
  refine ⟨trivial, trivial, ?_⟩
  show aopsR _ _ _ _ _ [(44, .bool (decide (clampI keep s.wait.length < (s.wait.length : Int)))), (43, .bool (decide (clampI keep s.wait.length < (s.wait.length : Int)))), (42, .int .i64 (s.wait.length : Int)), (41, .slice false (s.wait.map chgAV)), (40, .ptr ⟨d, 2, none⟩), (39, .ptr ⟨d, 0, none⟩), (38, .ptr ⟨d, 0, none⟩), (37, .int .i64 (clampI keep s.wait.length)), (0, .ptr ⟨d, 0, none⟩), (1, .int .i64 (clampI keep s.wait.length)), (2, .int .i64 torn), (24, .slice false ((s.wait.take (clampI keep s.wait.length).toNat).map chgAV)), (25, .int .i64 (clampI keep s.wait.length)), (26, .int .i64 i), (27, .bool (decide (i < clampI keep s.wait.length)))] _
  revert key
  cases h2 : (decide (clampI keep s.wait.length < (s.wait.length : Int)))
  ·
   replace h2 : (s.wait.length : Int) ≤ clampI keep s.wait.length := (Int.not_lt.1 (of_decide_eq_false h2))
   intro key
   refine ar_off rfl (ar_off rfl (ar_off rfl (ar_off rfl (ar_off rfl (ar_off rfl (ar_off rfl (ar_off rfl (ar_off rfl ?_))))))))
   exact key
  ·
   replace h2 : clampI keep s.wait.length < (s.wait.length : Int) := (of_decide_eq_true h2)
   intro key
   refine ⟨trivial, trivial, ⟨rfl, by decide⟩, ?_⟩
   refine ar_loadp rfl (v := .slice false (s.wait.map chgAV)) rfl (wth_get 0 hN rfl) rfl (apartOk_one rfl rfl (Nat.le_of_ble_eq_true rfl)) rfl ?_
   refine ⟨trivial, ?_⟩
   refine ar_index rfl chgAV s.wait (clampI keep s.wait.length) rfl rfl rfl rfl rfl (by decide) (fun _ => rfl) (by omega) (by first | omega | (rw [take_lenI hcl.1 hcl.2]; omega)) ?_
   refine ⟨⟨rfl, by decide, (Nat.le_of_ble_eq_true rfl)⟩, (apartOk_one rfl rfl (Nat.le_of_ble_eq_true rfl)), trivial, ?_⟩
   exact key
 refine hK1 _ _ ?_; clear hK1 K1
 refine awp_cond rfl rfl (fun h3 => ?_) (fun h3 => ?_)
 ·
  replace h3 : (clampI keep s.wait.length < (s.wait.length : Int)) ∧ ((gI s.wait (clampI keep s.wait.length)).kind ≤ 3) := ⟨(of_decide_eq_true (bandL h3)), (of_decide_eq_true (bandR h3))⟩
  have hcd := hD.cd _ (gI_mem (l := s.wait) hcl.1 h3.1)
  have hsl : (sub (gI s.wait (clampI keep s.wait.length)).data 0 (tornOf s keep torn)).length ≤ 4000 := by have := clampI_b torn (gI s.wait (clampI keep s.wait.length)).data.length; rw [sub0_take]; simp; omega
  refine awp_reg2_seq [] [0, 2, 8] (by decide) ?_
  intro K1 hK1
  refine ⟨trivial, trivial, ⟨rfl, by decide⟩, ?_⟩
  refine ar_loadp rfl (v := .slice false (s.wait.map chgAV)) rfl (wth_get 0 hN rfl) rfl (apartOk_one rfl rfl (Nat.le_of_ble_eq_true rfl)) rfl ?_
  refine ⟨trivial, ?_⟩
  refine ar_index rfl chgAV s.wait (clampI keep s.wait.length) rfl rfl rfl rfl rfl (by decide) (fun _ => rfl) (by omega) (by first | omega | (rw [take_lenI hcl.1 hcl.2]; omega)) ?_
  refine ⟨(apartOk_agg rfl rfl (Nat.le_of_ble_eq_true rfl)), ?_⟩
  refine ar_alloc rfl (m := m) (L := [(d, dObj kb nb s), (kb, mObj kp)]) (z := .agg [.str ([]), .str ([]), .str ([]), .int .i64 0]) rfl rfl ?_
  intro b2 hb2
  have hFb2 : m b2 = none := wth_none (m := m) (L := [(d, dObj kb nb s), (kb, mObj kp)]) hb2
  have hNb2 : ([b2, d, kb] : List Nat).Nodup := wth_nodup (m := m) (L := [(d, dObj kb nb s), (kb, mObj kp)]) hb2 hN
  refine ar_storep rfl 0 (v := chgAV (gI s.wait (clampI keep s.wait.length))) (l' := [.str ((gI s.wait (clampI keep s.wait.length)).name), .str ((gI s.wait (clampI keep s.wait.length)).data), .str ((gI s.wait (clampI keep s.wait.length)).to), .int .i64 ((gI s.wait (clampI keep s.wait.length)).kind)]) rfl (by rfl) hNb2 rfl rfl rfl rfl rfl (Nat.le_of_ble_eq_true rfl) rfl ?_
  show K1 [(0, .ptr ⟨d, 0, none⟩), (2, .int .i64 torn), (8, .ptr ⟨b2, 0, none⟩)] (AMem.wth m [(b2, .cells [.str ((gI s.wait (clampI keep s.wait.length)).name), .str ((gI s.wait (clampI keep s.wait.length)).data), .str ((gI s.wait (clampI keep s.wait.length)).to), .int .i64 ((gI s.wait (clampI keep s.wait.length)).kind)]), (d, dObj kb nb s), (kb, mObj kp)])
  refine hK1 _ _ ?_; clear hK1 K1
  refine awp_reg2_seq [] [0, 8] (by decide) ?_
  intro K1 hK1
  refine ⟨⟨rfl, by decide⟩, ?_⟩
  refine ar_loadp rfl (v := .str ((gI s.wait (clampI keep s.wait.length)).data)) rfl (wth_get 0 hNb2 rfl) rfl (apartOk_one rfl rfl (Nat.le_of_ble_eq_true rfl)) rfl ?_
  refine ⟨trivial, trivial, ⟨rfl, by decide⟩, ?_⟩
  refine ar_loadp rfl (v := .str ((gI s.wait (clampI keep s.wait.length)).data)) rfl (wth_get 0 hNb2 rfl) rfl (apartOk_one rfl rfl (Nat.le_of_ble_eq_true rfl)) rfl ?_
  refine ⟨trivial, trivial, ⟨(by omega), (by omega), (by omega)⟩, ⟨rfl, by decide⟩, ?_⟩
  refine ar_storep rfl 0 (v := .str (sub ((gI s.wait (clampI keep s.wait.length)).data) 0 (if (((gI s.wait (clampI keep s.wait.length)).data).length : Int) < if 0 > torn then 0 else torn then (((gI s.wait (clampI keep s.wait.length)).data).length : Int) else if 0 > torn then 0 else torn))) (l' := [.str ((gI s.wait (clampI keep s.wait.length)).name), .str (sub ((gI s.wait (clampI keep s.wait.length)).data) 0 (if (((gI s.wait (clampI keep s.wait.length)).data).length : Int) < if 0 > torn then 0 else torn then (((gI s.wait (clampI keep s.wait.length)).data).length : Int) else if 0 > torn then 0 else torn)), .str ((gI s.wait (clampI keep s.wait.length)).to), .int .i64 ((gI s.wait (clampI keep s.wait.length)).kind)]) rfl rfl hNb2 rfl rfl rfl rfl rfl (Nat.le_of_ble_eq_true rfl) rfl ?_
  show K1 [(0, .ptr ⟨d, 0, none⟩), (8, .ptr ⟨b2, 0, none⟩)] (AMem.wth m [(b2, .cells [.str ((gI s.wait (clampI keep s.wait.length)).name), .str (sub ((gI s.wait (clampI keep s.wait.length)).data) 0 (if (((gI s.wait (clampI keep s.wait.length)).data).length : Int) < if 0 > torn then 0 else torn then (((gI s.wait (clampI keep s.wait.length)).data).length : Int) else if 0 > torn then 0 else torn)), .str ((gI s.wait (clampI keep s.wait.length)).to), .int .i64 ((gI s.wait (clampI keep s.wait.length)).kind)]), (d, dObj kb nb s), (kb, mObj kp)])
  refine hK1 _ _ ?_; clear hK1 K1
  show AWP _ _ _ _ [(0, .ptr ⟨d, 0, none⟩), (8, .ptr ⟨b2, 0, none⟩)] (AMem.wth m [(b2, .cells [.str ((gI s.wait (clampI keep s.wait.length)).name), .str (sub (gI s.wait (clampI keep s.wait.length)).data 0 (tornOf s keep torn)), .str ((gI s.wait (clampI keep s.wait.length)).to), .int .i64 ((gI s.wait (clampI keep s.wait.length)).kind)]), (d, dObj kb nb s), (kb, mObj kp)])
  refine awp_reg2_seq [] [0, 8, 74] (by decide) ?_
  intro K1 hK1
  refine ⟨⟨rfl, by decide⟩, ?_⟩
  refine ar_loadp rfl (v := .str (sub (gI s.wait (clampI keep s.wait.length)).data 0 (tornOf s keep torn))) rfl (wth_get 0 hNb2 rfl) rfl (apartOk_one rfl rfl (Nat.le_of_ble_eq_true rfl)) rfl ?_
  refine ⟨trivial, ?_⟩
  show K1 [(0, .ptr ⟨d, 0, none⟩), (8, .ptr ⟨b2, 0, none⟩), (74, .bool (!((sub (gI s.wait (clampI keep s.wait.length)).data 0 (tornOf s keep torn)) == ([]))))] (AMem.wth m [(b2, .cells [.str ((gI s.wait (clampI keep s.wait.length)).name), .str (sub (gI s.wait (clampI keep s.wait.length)).data 0 (tornOf s keep torn)), .str ((gI s.wait (clampI keep s.wait.length)).to), .int .i64 ((gI s.wait (clampI keep s.wait.length)).kind)]), (d, dObj kb nb s), (kb, mObj kp)])
  refine hK1 _ _ ?_; clear hK1 K1
  refine awp_cond rfl rfl (fun h4 => ?_) (fun h4 => ?_)
  ·
   replace h4 : sub (gI s.wait (clampI keep s.wait.length)).data 0 (tornOf s keep torn) ≠ [] := (ne_of_beq_false (bnT h4))
   refine awp_draw_memP Try.mixed [(5, 80)] [(5, 80, .tuple [])] [(AMem.wth m [(b2, .cells [.str ((gI s.wait (clampI keep s.wait.length)).name), .str (sub (gI s.wait (clampI keep s.wait.length)).data 0 (tornOf s keep torn)), .str ((gI s.wait (clampI keep s.wait.length)).to), .int .i64 ((gI s.wait (clampI keep s.wait.length)).kind)]), (d, dObj kb nb s), (kb, mObj kp)]), (AMem.wth m [(b2, .cells [.str ((gI s.wait (clampI keep s.wait.length)).name), .str (sub (gI s.wait (clampI keep s.wait.length)).data 0 (tornOf s keep torn)), .str ((gI s.wait (clampI keep s.wait.length)).to), .int .i64 ((gI s.wait (clampI keep s.wait.length)).kind)]), (d, dObj kb nb s), (kb, mObj (applyC kp (⟨(gI s.wait (clampI keep s.wait.length)).name, sub (gI s.wait (clampI keep s.wait.length)).data 0 (tornOf s keep torn), (gI s.wait (clampI keep s.wait.length)).to, (gI s.wait (clampI keep s.wait.length)).kind⟩ : Chg)))])] [] [0] [(79, .agg [.str ((gI s.wait (clampI keep s.wait.length)).name), .str (sub (gI s.wait (clampI keep s.wait.length)).data 0 (tornOf s keep torn)), .str ((gI s.wait (clampI keep s.wait.length)).to), .int .i64 ((gI s.wait (clampI keep s.wait.length)).kind)]), (78, .map kb), (77, .ptr ⟨d, 0, none⟩), (76, .ptr ⟨d, 0, none⟩), (75, .ptr ⟨d, 0, none⟩), (80, .tuple []), (0, .ptr ⟨d, 0, none⟩), (8, .ptr ⟨b2, 0, none⟩), (74, .bool (!((sub (gI s.wait (clampI keep s.wait.length)).data 0 (tornOf s keep torn)) == ([]))))] (AMem.wth m [(b2, .cells [.str ((gI s.wait (clampI keep s.wait.length)).name), .str (sub (gI s.wait (clampI keep s.wait.length)).data 0 (tornOf s keep torn)), .str ((gI s.wait (clampI keep s.wait.length)).to), .int .i64 ((gI s.wait (clampI keep s.wait.length)).kind)]), (d, dObj kb nb s), (kb, mObj (applyC kp (⟨(gI s.wait (clampI keep s.wait.length)).name, sub (gI s.wait (clampI keep s.wait.length)).data 0 (tornOf s keep torn), (gI s.wait (clampI keep s.wait.length)).to, (gI s.wait (clampI keep s.wait.length)).kind⟩ : Chg)))]) (by decide) (by decide) (by decide) rfl rfl rfl rfl ?_ ?_ ?_
   ·
    refine ⟨?_, trivial⟩
    ·
     exact mem_call (wth_split (m := m) (L := [(b2, .cells [.str ((gI s.wait (clampI keep s.wait.length)).name), .str (sub (gI s.wait (clampI keep s.wait.length)).data 0 (tornOf s keep torn)), .str ((gI s.wait (clampI keep s.wait.length)).to), .int .i64 ((gI s.wait (clampI keep s.wait.length)).kind)]), (d, dObj kb nb s), (kb, mObj kp)]) hNb2 (pick_perm [2] _)) (wth_split (m := m) (L := [(b2, .cells [.str ((gI s.wait (clampI keep s.wait.length)).name), .str (sub (gI s.wait (clampI keep s.wait.length)).data 0 (tornOf s keep torn)), .str ((gI s.wait (clampI keep s.wait.length)).to), .int .i64 ((gI s.wait (clampI keep s.wait.length)).kind)]), (d, dObj kb nb s), (kb, mObj (applyC kp (⟨(gI s.wait (clampI keep s.wait.length)).name, sub (gI s.wait (clampI keep s.wait.length)).data 0 (tornOf s keep torn), (gI s.wait (clampI keep s.wait.length)).to, (gI s.wait (clampI keep s.wait.length)).kind⟩ : Chg)))]) hNb2 (pick_perm [2] _)) (fun Kc hKc => u_apply kb kp (⟨(gI s.wait (clampI keep s.wait.length)).name, sub (gI s.wait (clampI keep s.wait.length)).data 0 (tornOf s keep torn), (gI s.wait (clampI keep s.wait.length)).to, (gI s.wait (clampI keep s.wait.length)).kind⟩ : Chg) (by have := hap.1; omega) (fun p hp => by have := hap.2 p hp; omega) (by first | omega | (dsimp only; omega)) _ Kc hKc)
   ·
    refine ⟨?_, ?_, trivial⟩
    ·
     show pseq _ _ _ _ _ [(80, .tuple []), (0, .ptr ⟨d, 0, none⟩), (8, .ptr ⟨b2, 0, none⟩), (74, .bool (!((sub (gI s.wait (clampI keep s.wait.length)).data 0 (tornOf s keep torn)) == ([]))))] _
     refine ⟨trivial, trivial, ⟨rfl, by decide⟩, ?_⟩
     refine pq_loadp rfl (v := .map kb) rfl (wth_get 1 hNb2 rfl) (apartOk_one rfl rfl (Nat.le_of_ble_eq_true rfl)) rfl ?_
     refine pq_loadp rfl (v := .agg [.str ((gI s.wait (clampI keep s.wait.length)).name), .str (sub (gI s.wait (clampI keep s.wait.length)).data 0 (tornOf s keep torn)), .str ((gI s.wait (clampI keep s.wait.length)).to), .int .i64 ((gI s.wait (clampI keep s.wait.length)).kind)]) rfl (wth_get 0 hNb2 rfl) (apartOk_agg rfl rfl (Nat.le_of_ble_eq_true rfl)) rfl ?_
     exact rfl
    ·
     show pseq _ _ _ _ _ [(80, .tuple []), (0, .ptr ⟨d, 0, none⟩), (8, .ptr ⟨b2, 0, none⟩), (74, .bool (!((sub (gI s.wait (clampI keep s.wait.length)).data 0 (tornOf s keep torn)) == ([]))))] _
     refine ⟨trivial, trivial, ⟨rfl, by decide⟩, ?_⟩
     refine pq_loadp rfl (v := .map kb) rfl (wth_get 1 hNb2 rfl) (apartOk_one rfl rfl (Nat.le_of_ble_eq_true rfl)) rfl ?_
     refine pq_loadp rfl (v := .agg [.str ((gI s.wait (clampI keep s.wait.length)).name), .str (sub (gI s.wait (clampI keep s.wait.length)).data 0 (tornOf s keep torn)), .str ((gI s.wait (clampI keep s.wait.length)).to), .int .i64 ((gI s.wait (clampI keep s.wait.length)).kind)]) rfl (wth_get 0 hNb2 rfl) (apartOk_agg rfl rfl (Nat.le_of_ble_eq_true rfl)) rfl ?_
     exact rfl
   intro K1 hK1
   show K1 [(0, .ptr ⟨d, 0, none⟩)] (AMem.wth m [(b2, .cells [.str ((gI s.wait (clampI keep s.wait.length)).name), .str (sub (gI s.wait (clampI keep s.wait.length)).data 0 (tornOf s keep torn)), .str ((gI s.wait (clampI keep s.wait.length)).to), .int .i64 ((gI s.wait (clampI keep s.wait.length)).kind)]), (d, dObj kb nb s), (kb, mObj (applyC kp (⟨(gI s.wait (clampI keep s.wait.length)).name, sub (gI s.wait (clampI keep s.wait.length)).data 0 (tornOf s keep torn), (gI s.wait (clampI keep s.wait.length)).to, (gI s.wait (clampI keep s.wait.length)).kind⟩ : Chg)))])
   refine hK1 _ _ ?_; clear hK1 K1
   refine hK5 _ _ ?_; clear hK5
   have hNd2 : ([d, kb] : List Nat).Nodup := drop_nodup (L := [(b2, .cells [.str ((gI s.wait (clampI keep s.wait.length)).name), .str (sub (gI s.wait (clampI keep s.wait.length)).data 0 (tornOf s keep torn)), .str ((gI s.wait (clampI keep s.wait.length)).to), .int .i64 ((gI s.wait (clampI keep s.wait.length)).kind)]), (d, dObj kb nb s), (kb, mObj (applyC kp (⟨(gI s.wait (clampI keep s.wait.length)).name, sub (gI s.wait (clampI keep s.wait.length)).data 0 (tornOf s keep torn), (gI s.wait (clampI keep s.wait.length)).to, (gI s.wait (clampI keep s.wait.length)).kind⟩ : Chg)))]) hNb2 (pick_perm [0] _)
   refine awp_dropP [(b2, .cells [.str ((gI s.wait (clampI keep s.wait.length)).name), .str (sub (gI s.wait (clampI keep s.wait.length)).data 0 (tornOf s keep torn)), .str ((gI s.wait (clampI keep s.wait.length)).to), .int .i64 ((gI s.wait (clampI keep s.wait.length)).kind)])] [(d, dObj kb nb s), (kb, mObj (applyC kp (⟨(gI s.wait (clampI keep s.wait.length)).name, sub (gI s.wait (clampI keep s.wait.length)).data 0 (tornOf s keep torn), (gI s.wait (clampI keep s.wait.length)).to, (gI s.wait (clampI keep s.wait.length)).kind⟩ : Chg)))] hNb2 (pick_perm [0] _) (by simp only [List.map_cons, List.map_nil, List.forall_mem_cons]; exact ⟨hFb2, fun _ h => by cases h⟩) ?_
   refine awp_reg2_seq [] [0] (by decide) ?_
   intro K1 hK1
   refine ⟨trivial, trivial, trivial, trivial, ⟨rfl, by decide⟩, ?_⟩
   refine ar_storep rfl 0 (v := .slice true []) (l' := [.map kb, .map nb, .slice true [], .int .i64 s.fuse, .bool s.down, .int .i64 s.steps]) rfl rfl hNd2 rfl rfl rfl rfl rfl (Nat.le_of_ble_eq_true rfl) rfl ?_
   refine ⟨trivial, ⟨rfl, by decide⟩, ?_⟩
   refine ar_storep rfl 0 (v := .bool false) (l' := [.map kb, .map nb, .slice true [], .int .i64 s.fuse, .bool false, .int .i64 s.steps]) rfl rfl hNd2 rfl rfl rfl rfl rfl (Nat.le_of_ble_eq_true rfl) rfl ?_
   refine ⟨trivial, ⟨rfl, by decide⟩, ?_⟩
   refine ar_storep rfl 0 (v := .int .i64 (-1)) (l' := [.map kb, .map nb, .slice true [], .int .i64 (-1), .bool false, .int .i64 s.steps]) rfl rfl hNd2 rfl rfl rfl rfl rfl (Nat.le_of_ble_eq_true rfl) rfl ?_
   show K1 [(0, .ptr ⟨d, 0, none⟩)] (AMem.wth m [(d, .cells [.map kb, .map nb, .slice true [], .int .i64 (-1), .bool false, .int .i64 s.steps]), (kb, mObj (applyC kp (⟨(gI s.wait (clampI keep s.wait.length)).name, sub (gI s.wait (clampI keep s.wait.length)).data 0 (tornOf s keep torn), (gI s.wait (clampI keep s.wait.length)).to, (gI s.wait (clampI keep s.wait.length)).kind⟩ : Chg)))])
   refine hK1 _ _ ?_; clear hK1 K1
   have hr : restR s keep torn = applyC kp (⟨(gI s.wait (clampI keep s.wait.length)).name, sub (gI s.wait (clampI keep s.wait.length)).data 0 (tornOf s keep torn), (gI s.wait (clampI keep s.wait.length)).to, (gI s.wait (clampI keep s.wait.length)).kind⟩ : Chg) := by
    unfold restR restK tornOf; rw [hkp]
    first | (rw [if_pos ⟨by omega, by omega, by assumption⟩]; done) | (rw [if_neg (by rintro ⟨a, b, c⟩; first | omega | exact c ‹_›)]; done)
   rw [← hr]
   have hra := hrl
   show AWP _ _ _ _ [(0, .ptr ⟨d, 0, none⟩)] (AMem.wth m [(d, .cells [.map kb, .map nb, .slice true [], .int .i64 (-1), .bool false, .int .i64 s.steps]), (kb, mObj (restR s keep torn))])
   refine awp_reg2_seq [] [0] (by decide) ?_
   intro K1 hK1
   refine ⟨trivial, ?_⟩
   refine ar_makeMap rfl (m := m) (L := [(d, .cells [.map kb, .map nb, .slice true [], .int .i64 (-1), .bool false, .int .i64 s.steps]), (kb, mObj (restR s keep torn))]) rfl ?_
   intro b3 hb3
   have hFb3 : m b3 = none := wth_none (m := m) (L := [(d, .cells [.map kb, .map nb, .slice true [], .int .i64 (-1), .bool false, .int .i64 s.steps]), (kb, mObj (restR s keep torn))]) hb3
   have hNb3 : ([b3, d, kb] : List Nat).Nodup := wth_nodup (m := m) (L := [(d, .cells [.map kb, .map nb, .slice true [], .int .i64 (-1), .bool false, .int .i64 s.steps]), (kb, mObj (restR s keep torn))]) hb3 hNd2
   refine ⟨trivial, ⟨rfl, by decide⟩, ?_⟩
   refine ar_storep rfl 1 (v := .map b3) (l' := [.map kb, .map b3, .slice true [], .int .i64 (-1), .bool false, .int .i64 s.steps]) rfl rfl hNb3 rfl rfl rfl rfl rfl (Nat.le_of_ble_eq_true rfl) rfl ?_
   show K1 [(0, .ptr ⟨d, 0, none⟩)] (AMem.wth m [(b3, mObj ([] : List ((List UInt8) × (List UInt8)))), (d, .cells [.map kb, .map b3, .slice true [], .int .i64 (-1), .bool false, .int .i64 s.steps]), (kb, mObj (restR s keep torn))])
   refine hK1 _ _ ?_; clear hK1 K1
   refine awp_reg2_seq [] [0, 98] (by decide) ?_
   intro K1 hK1
   refine ⟨trivial, trivial, ⟨rfl, by decide⟩, ?_⟩
   refine ar_loadp rfl (v := .map kb) rfl (wth_get 1 hNb3 rfl) rfl (apartOk_one rfl rfl (Nat.le_of_ble_eq_true rfl)) rfl ?_
   refine ar_range rfl (m := m) (L := [(b3, mObj ([] : List ((List UInt8) × (List UInt8)))), (d, .cells [.map kb, .map b3, .slice true [], .int .i64 (-1), .bool false, .int .i64 s.steps]), (kb, mObj (restR s keep torn))]) 2 rfl rfl rfl hNb3 ?_
   intro q1 _
   show K1 [(0, .ptr ⟨d, 0, none⟩), (98, .ptr ⟨q1, 0, none⟩)] (AMem.wth m [(b3, mObj ([] : List ((List UInt8) × (List UInt8)))), (d, .cells [.map kb, .map b3, .slice true [], .int .i64 (-1), .bool false, .int .i64 s.steps]), (kb, AObj.iter q1 (List.map (mapAV strAV strAV) (restR s keep torn)) [])])
   refine hK1 _ _ ?_; clear hK1 K1
   refine awp_block ?_
   refine awp_keep [0, 98] (by decide) ?_
   refine awp_loop_st (σ := (List (Str × Str)) × (List Nat)) (fun ⟨nw, seen⟩ => [(0, .ptr ⟨d, 0, none⟩), (98, .ptr ⟨q1, 0, none⟩)]) (fun ⟨nw, seen⟩ => (AMem.wth m [(b3, mObj nw), (d, .cells [.map kb, .map b3, .slice true [], .int .i64 (-1), .bool false, .int .i64 s.steps]), (kb, AObj.iter q1 (List.map (mapAV strAV strAV) (restR s keep torn)) seen)])) (fun ⟨nw, seen⟩ => seen.Nodup ∧ (∀ i ∈ seen, i < (restR s keep torn).length) ∧ nw = rebuild (restR s keep torn) seen) (fun ⟨nw, seen⟩ => (restR s keep torn).length - seen.length) (([] : List ((List UInt8) × (List UInt8))), []) rfl rfl ?_ ?_
   ·
    show (([] : (List Nat))).Nodup ∧ (∀ i ∈ (([] : (List Nat))), i < (restR s keep torn).length) ∧ ((([] : List ((List UInt8) × (List UInt8))) : (List (Str × Str)))) = rebuild (restR s keep torn) (([] : (List Nat)))
    exact ⟨List.nodup_nil, by simp, rfl⟩
   rintro ⟨nw, seen⟩ hI2
   replace hI2 : seen.Nodup ∧ (∀ i ∈ seen, i < (restR s keep torn).length) ∧ nw = rebuild (restR s keep torn) seen := hI2
   show AWP _ _ _ _ [(0, .ptr ⟨d, 0, none⟩), (98, .ptr ⟨q1, 0, none⟩)] (AMem.wth m [(b3, mObj nw), (d, .cells [.map kb, .map b3, .slice true [], .int .i64 (-1), .bool false, .int .i64 s.steps]), (kb, AObj.iter q1 (List.map (mapAV strAV strAV) (restR s keep torn)) seen)])
   refine awp_reg2_seq [] [0, 98, 100] (by decide) ?_
   intro K1 hK1
   refine ar_nextT rfl (m := m) (L := [(b3, mObj nw), (d, .cells [.map kb, .map b3, .slice true [], .int .i64 (-1), .bool false, .int .i64 s.steps]), (kb, AObj.iter q1 (List.map (mapAV strAV strAV) (restR s keep torn)) seen)]) 2 strAV strAV (restR s keep torn) seen rfl rfl hNb3 ?_ ?_
   ·
    intro hE1
    refine ⟨(Nat.le_of_ble_eq_true rfl), ?_⟩
    show K1 [(0, .ptr ⟨d, 0, none⟩), (98, .ptr ⟨q1, 0, none⟩), (100, .bool false)] (AMem.wth m [(b3, mObj nw), (d, .cells [.map kb, .map b3, .slice true [], .int .i64 (-1), .bool false, .int .i64 s.steps]), (kb, AObj.iter q1 (List.map (mapAV strAV strAV) (restR s keep torn)) seen)])
    refine hK1 _ _ ?_; clear hK1 K1
    refine awp_unrange (m := m) (L := [(b3, mObj nw), (d, .cells [.map kb, .map b3, .slice true [], .int .i64 (-1), .bool false, .int .i64 s.steps]), (kb, AObj.iter q1 (List.map (mapAV strAV strAV) (restR s keep torn)) seen)]) 2 hNb3 rfl ?_
    show AWP _ _ _ _ [(0, .ptr ⟨d, 0, none⟩), (98, .ptr ⟨q1, 0, none⟩), (100, .bool false)] (AMem.wth m [(b3, mObj nw), (d, .cells [.map kb, .map b3, .slice true [], .int .i64 (-1), .bool false, .int .i64 s.steps]), (kb, mObj (restR s keep torn))])
    refine awp_seq_k ?_; intro K6 hK6
    refine awp_cond rfl rfl (fun hcz => ?_) (fun hcz => ?_)
    ·
     cases hcz
    clear hcz
    refine awp_exit ?_
    refine ⟨(AMem.wth m [(b3, mObj nw), (d, .cells [.map kb, .map b3, .slice true [], .int .i64 (-1), .bool false, .int .i64 s.steps]), (kb, mObj (restR s keep torn))]), fun _ _ h => h, ?_⟩
    show K (.tuple []) (AMem.wth m [(b3, mObj nw), (d, .cells [.map kb, .map b3, .slice true [], .int .i64 (-1), .bool false, .int .i64 s.steps]), (kb, mObj (restR s keep torn))])
   
    exact hK b3 hNb3 hFb3 nw (hI2.2.2 ▸ rebuild_perm (restR_nd hk keep torn) hI2.1 hI2.2.1 hE1)
   ·
    rintro k1 ⟨ek1, ev1⟩ hp1 hn1
    refine ⟨(Nat.le_of_ble_eq_true rfl), ?_⟩
    show K1 [(0, .ptr ⟨d, 0, none⟩), (98, .ptr ⟨q1, 0, none⟩), (100, .bool true)] (AMem.wth m [(b3, mObj nw), (d, .cells [.map kb, .map b3, .slice true [], .int .i64 (-1), .bool false, .int .i64 s.steps]), (kb, AObj.iter q1 (List.map (mapAV strAV strAV) (restR s keep torn)) (seen ++ [k1]))])
    refine hK1 _ _ ?_; clear hK1 K1
    refine awp_seq_k ?_; intro K7 hK7
    refine awp_cond rfl rfl (fun hcz => ?_) (fun hcz => ?_)
    rotate_left; · cases hcz
    clear hcz
    refine awp_skip ?_
    refine hK7 _ _ ?_; clear hK7
    refine awp_block ?_
    refine awp_reg2_seq [] [0, 9, 10, 98] (by decide) ?_
    intro K1 hK1
    refine ar_entryT rfl (m := m) (L := [(b3, mObj nw), (d, .cells [.map kb, .map b3, .slice true [], .int .i64 (-1), .bool false, .int .i64 s.steps]), (kb, AObj.iter q1 (List.map (mapAV strAV strAV) (restR s keep torn)) (seen ++ [k1]))]) 2 strAV strAV (restR s keep torn) seen hp1 rfl rfl hNb3 ?_
    refine ⟨(Nat.le_of_ble_eq_true rfl), (Nat.le_of_ble_eq_true rfl), trivial, trivial, ?_⟩
    show K1 [(0, .ptr ⟨d, 0, none⟩), (9, .str ek1), (10, .str ev1), (98, .ptr ⟨q1, 0, none⟩)] (AMem.wth m [(b3, mObj nw), (d, .cells [.map kb, .map b3, .slice true [], .int .i64 (-1), .bool false, .int .i64 s.steps]), (kb, AObj.iter q1 (List.map (mapAV strAV strAV) (restR s keep torn)) (seen ++ [k1]))])
    refine hK1 _ _ ?_; clear hK1 K1
    refine awp_reg2 [] [0, 98] (by decide) ?_
    intro K1 hK1
    refine ⟨trivial, trivial, ⟨rfl, by decide⟩, ?_⟩
    refine ar_loadp rfl (v := .map b3) rfl (wth_get 1 hNb3 rfl) rfl (apartOk_one rfl rfl (Nat.le_of_ble_eq_true rfl)) rfl ?_
    refine ⟨trivial, trivial, ?_⟩
    refine ar_mapUpdate rfl (m := m) (L := [(b3, mObj nw), (d, .cells [.map kb, .map b3, .slice true [], .int .i64 (-1), .bool false, .int .i64 s.steps]), (kb, AObj.iter q1 (List.map (mapAV strAV strAV) (restR s keep torn)) (seen ++ [k1]))]) 0 strAV strAV strKey_ok nw ek1 ev1 rfl rfl rfl rfl rfl rfl hNb3 (by have := rebuild_len (restR s keep torn) seen; have := seen_len hI2.1 hI2.2.1; rw [← hI2.2.2] at *; refine Nat.le_trans (mput_len _ _ _) (by omega)) ?_
    show K1 [(0, .ptr ⟨d, 0, none⟩), (98, .ptr ⟨q1, 0, none⟩)] (AMem.wth m [(b3, mObj (mput nw ek1 ev1)), (d, .cells [.map kb, .map b3, .slice true [], .int .i64 (-1), .bool false, .int .i64 s.steps]), (kb, AObj.iter q1 (List.map (mapAV strAV strAV) (restR s keep torn)) (seen ++ [k1]))])
    refine hK1 _ _ ?_; clear hK1 K1
    refine ⟨(mput nw ek1 ev1, seen ++ [k1]), rfl, rfl, ?_, ?_⟩
    ·
     show ((seen ++ [k1] : (List Nat))).Nodup ∧ (∀ i ∈ ((seen ++ [k1] : (List Nat))), i < (restR s keep torn).length) ∧ ((mput nw ek1 ev1 : (List (Str × Str)))) = rebuild (restR s keep torn) ((seen ++ [k1] : (List Nat)))
     exact rstep hI2.1 hI2.2.1 hI2.2.2 hp1 hn1
    ·
     show (restR s keep torn).length - ((seen ++ [k1] : (List Nat))).length < (restR s keep torn).length - seen.length
     exact rdec hI2.1 hI2.2.1 hp1 hn1
  replace h4 : sub (gI s.wait (clampI keep s.wait.length)).data 0 (tornOf s keep torn) = [] := (eq_of_beq (bnF h4))
  refine awp_skip ?_
  refine hK5 _ _ ?_; clear hK5
  have hNd3 : ([d, kb] : List Nat).Nodup := drop_nodup (L := [(b2, .cells [.str ((gI s.wait (clampI keep s.wait.length)).name), .str (sub (gI s.wait (clampI keep s.wait.length)).data 0 (tornOf s keep torn)), .str ((gI s.wait (clampI keep s.wait.length)).to), .int .i64 ((gI s.wait (clampI keep s.wait.length)).kind)]), (d, dObj kb nb s), (kb, mObj kp)]) hNb2 (pick_perm [0] _)
  refine awp_dropP [(b2, .cells [.str ((gI s.wait (clampI keep s.wait.length)).name), .str (sub (gI s.wait (clampI keep s.wait.length)).data 0 (tornOf s keep torn)), .str ((gI s.wait (clampI keep s.wait.length)).to), .int .i64 ((gI s.wait (clampI keep s.wait.length)).kind)])] [(d, dObj kb nb s), (kb, mObj kp)] hNb2 (pick_perm [0] _) (by simp only [List.map_cons, List.map_nil, List.forall_mem_cons]; exact ⟨hFb2, fun _ h => by cases h⟩) ?_
  refine awp_reg2_seq [] [0] (by decide) ?_
  intro K1 hK1
  refine ⟨trivial, trivial, trivial, trivial, ⟨rfl, by decide⟩, ?_⟩
  refine ar_storep rfl 0 (v := .slice true []) (l' := [.map kb, .map nb, .slice true [], .int .i64 s.fuse, .bool s.down, .int .i64 s.steps]) rfl rfl hNd3 rfl rfl rfl rfl rfl (Nat.le_of_ble_eq_true rfl) rfl ?_
  refine ⟨trivial, ⟨rfl, by decide⟩, ?_⟩
  refine ar_storep rfl 0 (v := .bool false) (l' := [.map kb, .map nb, .slice true [], .int .i64 s.fuse, .bool false, .int .i64 s.steps]) rfl rfl hNd3 rfl rfl rfl rfl rfl (Nat.le_of_ble_eq_true rfl) rfl ?_
  refine ⟨trivial, ⟨rfl, by decide⟩, ?_⟩
  refine ar_storep rfl 0 (v := .int .i64 (-1)) (l' := [.map kb, .map nb, .slice true [], .int .i64 (-1), .bool false, .int .i64 s.steps]) rfl rfl hNd3 rfl rfl rfl rfl rfl (Nat.le_of_ble_eq_true rfl) rfl ?_
  show K1 [(0, .ptr ⟨d, 0, none⟩)] (AMem.wth m [(d, .cells [.map kb, .map nb, .slice true [], .int .i64 (-1), .bool false, .int .i64 s.steps]), (kb, mObj kp)])
  refine hK1 _ _ ?_; clear hK1 K1
  have hr : restR s keep torn = kp := by
   unfold restR restK tornOf; rw [hkp]
   first | (rw [if_pos ⟨by omega, by omega, by assumption⟩]; done) | (rw [if_neg (by rintro ⟨a, b, c⟩; first | omega | exact c ‹_›)]; done)
  rw [← hr]
  have hra := hrl
  show AWP _ _ _ _ [(0, .ptr ⟨d, 0, none⟩)] (AMem.wth m [(d, .cells [.map kb, .map nb, .slice true [], .int .i64 (-1), .bool false, .int .i64 s.steps]), (kb, mObj (restR s keep torn))])
  refine awp_reg2_seq [] [0] (by decide) ?_
  intro K1 hK1
  refine ⟨trivial, ?_⟩
  refine ar_makeMap rfl (m := m) (L := [(d, .cells [.map kb, .map nb, .slice true [], .int .i64 (-1), .bool false, .int .i64 s.steps]), (kb, mObj (restR s keep torn))]) rfl ?_
  intro b4 hb4
  have hFb4 : m b4 = none := wth_none (m := m) (L := [(d, .cells [.map kb, .map nb, .slice true [], .int .i64 (-1), .bool false, .int .i64 s.steps]), (kb, mObj (restR s keep torn))]) hb4
  have hNb4 : ([b4, d, kb] : List Nat).Nodup := wth_nodup (m := m) (L := [(d, .cells [.map kb, .map nb, .slice true [], .int .i64 (-1), .bool false, .int .i64 s.steps]), (kb, mObj (restR s keep torn))]) hb4 hNd3
  refine ⟨trivial, ⟨rfl, by decide⟩, ?_⟩
  refine ar_storep rfl 1 (v := .map b4) (l' := [.map kb, .map b4, .slice true [], .int .i64 (-1), .bool false, .int .i64 s.steps]) rfl rfl hNb4 rfl rfl rfl rfl rfl (Nat.le_of_ble_eq_true rfl) rfl ?_
  show K1 [(0, .ptr ⟨d, 0, none⟩)] (AMem.wth m [(b4, mObj ([] : List ((List UInt8) × (List UInt8)))), (d, .cells [.map kb, .map b4, .slice true [], .int .i64 (-1), .bool false, .int .i64 s.steps]), (kb, mObj (restR s keep torn))])
  refine hK1 _ _ ?_; clear hK1 K1
  refine awp_reg2_seq [] [0, 98] (by decide) ?_
  intro K1 hK1
  refine ⟨trivial, trivial, ⟨rfl, by decide⟩, ?_⟩
  refine ar_loadp rfl (v := .map kb) rfl (wth_get 1 hNb4 rfl) rfl (apartOk_one rfl rfl (Nat.le_of_ble_eq_true rfl)) rfl ?_
  refine ar_range rfl (m := m) (L := [(b4, mObj ([] : List ((List UInt8) × (List UInt8)))), (d, .cells [.map kb, .map b4, .slice true [], .int .i64 (-1), .bool false, .int .i64 s.steps]), (kb, mObj (restR s keep torn))]) 2 rfl rfl rfl hNb4 ?_
  intro q2 _
  show K1 [(0, .ptr ⟨d, 0, none⟩), (98, .ptr ⟨q2, 0, none⟩)] (AMem.wth m [(b4, mObj ([] : List ((List UInt8) × (List UInt8)))), (d, .cells [.map kb, .map b4, .slice true [], .int .i64 (-1), .bool false, .int .i64 s.steps]), (kb, AObj.iter q2 (List.map (mapAV strAV strAV) (restR s keep torn)) [])])
  refine hK1 _ _ ?_; clear hK1 K1
  refine awp_block ?_
  refine awp_keep [0, 98] (by decide) ?_
  refine awp_loop_st (σ := (List (Str × Str)) × (List Nat)) (fun ⟨nw, seen⟩ => [(0, .ptr ⟨d, 0, none⟩), (98, .ptr ⟨q2, 0, none⟩)]) (fun ⟨nw, seen⟩ => (AMem.wth m [(b4, mObj nw), (d, .cells [.map kb, .map b4, .slice true [], .int .i64 (-1), .bool false, .int .i64 s.steps]), (kb, AObj.iter q2 (List.map (mapAV strAV strAV) (restR s keep torn)) seen)])) (fun ⟨nw, seen⟩ => seen.Nodup ∧ (∀ i ∈ seen, i < (restR s keep torn).length) ∧ nw = rebuild (restR s keep torn) seen) (fun ⟨nw, seen⟩ => (restR s keep torn).length - seen.length) (([] : List ((List UInt8) × (List UInt8))), []) rfl rfl ?_ ?_
  ·
   show (([] : (List Nat))).Nodup ∧ (∀ i ∈ (([] : (List Nat))), i < (restR s keep torn).length) ∧ ((([] : List ((List UInt8) × (List UInt8))) : (List (Str × Str)))) = rebuild (restR s keep torn) (([] : (List Nat)))
   exact ⟨List.nodup_nil, by simp, rfl⟩
  rintro ⟨nw, seen⟩ hI2
  replace hI2 : seen.Nodup ∧ (∀ i ∈ seen, i < (restR s keep torn).length) ∧ nw = rebuild (restR s keep torn) seen := hI2
  show AWP _ _ _ _ [(0, .ptr ⟨d, 0, none⟩), (98, .ptr ⟨q2, 0, none⟩)] (AMem.wth m [(b4, mObj nw), (d, .cells [.map kb, .map b4, .slice true [], .int .i64 (-1), .bool false, .int .i64 s.steps]), (kb, AObj.iter q2 (List.map (mapAV strAV strAV) (restR s keep torn)) seen)])
  refine awp_reg2_seq [] [0, 98, 100] (by decide) ?_
  intro K1 hK1
  refine ar_nextT rfl (m := m) (L := [(b4, mObj nw), (d, .cells [.map kb, .map b4, .slice true [], .int .i64 (-1), .bool false, .int .i64 s.steps]), (kb, AObj.iter q2 (List.map (mapAV strAV strAV) (restR s keep torn)) seen)]) 2 strAV strAV (restR s keep torn) seen rfl rfl hNb4 ?_ ?_
  ·
   intro hE2
   refine ⟨(Nat.le_of_ble_eq_true rfl), ?_⟩
   show K1 [(0, .ptr ⟨d, 0, none⟩), (98, .ptr ⟨q2, 0, none⟩), (100, .bool false)] (AMem.wth m [(b4, mObj nw), (d, .cells [.map kb, .map b4, .slice true [], .int .i64 (-1), .bool false, .int .i64 s.steps]), (kb, AObj.iter q2 (List.map (mapAV strAV strAV) (restR s keep torn)) seen)])
   refine hK1 _ _ ?_; clear hK1 K1
   refine awp_unrange (m := m) (L := [(b4, mObj nw), (d, .cells [.map kb, .map b4, .slice true [], .int .i64 (-1), .bool false, .int .i64 s.steps]), (kb, AObj.iter q2 (List.map (mapAV strAV strAV) (restR s keep torn)) seen)]) 2 hNb4 rfl ?_
   show AWP _ _ _ _ [(0, .ptr ⟨d, 0, none⟩), (98, .ptr ⟨q2, 0, none⟩), (100, .bool false)] (AMem.wth m [(b4, mObj nw), (d, .cells [.map kb, .map b4, .slice true [], .int .i64 (-1), .bool false, .int .i64 s.steps]), (kb, mObj (restR s keep torn))])
   refine awp_seq_k ?_; intro K8 hK8
   refine awp_cond rfl rfl (fun hcz => ?_) (fun hcz => ?_)
   ·
    cases hcz
   clear hcz
   refine awp_exit ?_
   refine ⟨(AMem.wth m [(b4, mObj nw), (d, .cells [.map kb, .map b4, .slice true [], .int .i64 (-1), .bool false, .int .i64 s.steps]), (kb, mObj (restR s keep torn))]), fun _ _ h => h, ?_⟩
   show K (.tuple []) (AMem.wth m [(b4, mObj nw), (d, .cells [.map kb, .map b4, .slice true [], .int .i64 (-1), .bool false, .int .i64 s.steps]), (kb, mObj (restR s keep torn))])
  
   exact hK b4 hNb4 hFb4 nw (hI2.2.2 ▸ rebuild_perm (restR_nd hk keep torn) hI2.1 hI2.2.1 hE2)
  ·
   rintro k2 ⟨ek2, ev2⟩ hp2 hn2
   refine ⟨(Nat.le_of_ble_eq_true rfl), ?_⟩
   show K1 [(0, .ptr ⟨d, 0, none⟩), (98, .ptr ⟨q2, 0, none⟩), (100, .bool true)] (AMem.wth m [(b4, mObj nw), (d, .cells [.map kb, .map b4, .slice true [], .int .i64 (-1), .bool false, .int .i64 s.steps]), (kb, AObj.iter q2 (List.map (mapAV strAV strAV) (restR s keep torn)) (seen ++ [k2]))])
   refine hK1 _ _ ?_; clear hK1 K1
   refine awp_seq_k ?_; intro K9 hK9
   refine awp_cond rfl rfl (fun hcz => ?_) (fun hcz => ?_)
   rotate_left; · cases hcz
   clear hcz
   refine awp_skip ?_
   refine hK9 _ _ ?_; clear hK9
   refine awp_block ?_
   refine awp_reg2_seq [] [0, 9, 10, 98] (by decide) ?_
   intro K1 hK1
   refine ar_entryT rfl (m := m) (L := [(b4, mObj nw), (d, .cells [.map kb, .map b4, .slice true [], .int .i64 (-1), .bool false, .int .i64 s.steps]), (kb, AObj.iter q2 (List.map (mapAV strAV strAV) (restR s keep torn)) (seen ++ [k2]))]) 2 strAV strAV (restR s keep torn) seen hp2 rfl rfl hNb4 ?_
   refine ⟨(Nat.le_of_ble_eq_true rfl), (Nat.le_of_ble_eq_true rfl), trivial, trivial, ?_⟩
   show K1 [(0, .ptr ⟨d, 0, none⟩), (9, .str ek2), (10, .str ev2), (98, .ptr ⟨q2, 0, none⟩)] (AMem.wth m [(b4, mObj nw), (d, .cells [.map kb, .map b4, .slice true [], .int .i64 (-1), .bool false, .int .i64 s.steps]), (kb, AObj.iter q2 (List.map (mapAV strAV strAV) (restR s keep torn)) (seen ++ [k2]))])
   refine hK1 _ _ ?_; clear hK1 K1
   refine awp_reg2 [] [0, 98] (by decide) ?_
   intro K1 hK1
   refine ⟨trivial, trivial, ⟨rfl, by decide⟩, ?_⟩
   refine ar_loadp rfl (v := .map b4) rfl (wth_get 1 hNb4 rfl) rfl (apartOk_one rfl rfl (Nat.le_of_ble_eq_true rfl)) rfl ?_
   refine ⟨trivial, trivial, ?_⟩
   refine ar_mapUpdate rfl (m := m) (L := [(b4, mObj nw), (d, .cells [.map kb, .map b4, .slice true [], .int .i64 (-1), .bool false, .int .i64 s.steps]), (kb, AObj.iter q2 (List.map (mapAV strAV strAV) (restR s keep torn)) (seen ++ [k2]))]) 0 strAV strAV strKey_ok nw ek2 ev2 rfl rfl rfl rfl rfl rfl hNb4 (by have := rebuild_len (restR s keep torn) seen; have := seen_len hI2.1 hI2.2.1; rw [← hI2.2.2] at *; refine Nat.le_trans (mput_len _ _ _) (by omega)) ?_
   show K1 [(0, .ptr ⟨d, 0, none⟩), (98, .ptr ⟨q2, 0, none⟩)] (AMem.wth m [(b4, mObj (mput nw ek2 ev2)), (d, .cells [.map kb, .map b4, .slice true [], .int .i64 (-1), .bool false, .int .i64 s.steps]), (kb, AObj.iter q2 (List.map (mapAV strAV strAV) (restR s keep torn)) (seen ++ [k2]))])
   refine hK1 _ _ ?_; clear hK1 K1
   refine ⟨(mput nw ek2 ev2, seen ++ [k2]), rfl, rfl, ?_, ?_⟩
   ·
    show ((seen ++ [k2] : (List Nat))).Nodup ∧ (∀ i ∈ ((seen ++ [k2] : (List Nat))), i < (restR s keep torn).length) ∧ ((mput nw ek2 ev2 : (List (Str × Str)))) = rebuild (restR s keep torn) ((seen ++ [k2] : (List Nat)))
    exact rstep hI2.1 hI2.2.1 hI2.2.2 hp2 hn2
   ·
    show (restR s keep torn).length - ((seen ++ [k2] : (List Nat))).length < (restR s keep torn).length - seen.length
    exact rdec hI2.1 hI2.2.1 hp2 hn2
 replace h3 : ((s.wait.length : Int) ≤ clampI keep s.wait.length) ∨ (3 < (gI s.wait (clampI keep s.wait.length)).kind) := ((bandF h3).imp (fun q => (Int.not_lt.1 (of_decide_eq_false q))) (fun q => (Int.not_le.1 (of_decide_eq_false q))))
 refine awp_skip ?_
 refine hK5 _ _ ?_; clear hK5
 refine awp_reg2_seq [] [0] (by decide) ?_
 intro K1 hK1
 refine ⟨trivial, trivial, trivial, trivial, ⟨rfl, by decide⟩, ?_⟩
 refine ar_storep rfl 0 (v := .slice true []) (l' := [.map kb, .map nb, .slice true [], .int .i64 s.fuse, .bool s.down, .int .i64 s.steps]) rfl rfl hN rfl rfl rfl rfl rfl (Nat.le_of_ble_eq_true rfl) rfl ?_
 refine ⟨trivial, ⟨rfl, by decide⟩, ?_⟩
 refine ar_storep rfl 0 (v := .bool false) (l' := [.map kb, .map nb, .slice true [], .int .i64 s.fuse, .bool false, .int .i64 s.steps]) rfl rfl hN rfl rfl rfl rfl rfl (Nat.le_of_ble_eq_true rfl) rfl ?_
 refine ⟨trivial, ⟨rfl, by decide⟩, ?_⟩
 refine ar_storep rfl 0 (v := .int .i64 (-1)) (l' := [.map kb, .map nb, .slice true [], .int .i64 (-1), .bool false, .int .i64 s.steps]) rfl rfl hN rfl rfl rfl rfl rfl (Nat.le_of_ble_eq_true rfl) rfl ?_
 show K1 [(0, .ptr ⟨d, 0, none⟩)] (AMem.wth m [(d, .cells [.map kb, .map nb, .slice true [], .int .i64 (-1), .bool false, .int .i64 s.steps]), (kb, mObj kp)])
 refine hK1 _ _ ?_; clear hK1 K1
 have hr : restR s keep torn = kp := by
  unfold restR restK tornOf; rw [hkp]
  first | (rw [if_pos ⟨by omega, by omega, by assumption⟩]; done) | (rw [if_neg (by rintro ⟨a, b, c⟩; first | omega | exact c ‹_›)]; done)
 rw [← hr]
 have hra := hrl
 show AWP _ _ _ _ [(0, .ptr ⟨d, 0, none⟩)] (AMem.wth m [(d, .cells [.map kb, .map nb, .slice true [], .int .i64 (-1), .bool false, .int .i64 s.steps]), (kb, mObj (restR s keep torn))])
 refine awp_reg2_seq [] [0] (by decide) ?_
 intro K1 hK1
 refine ⟨trivial, ?_⟩
 refine ar_makeMap rfl (m := m) (L := [(d, .cells [.map kb, .map nb, .slice true [], .int .i64 (-1), .bool false, .int .i64 s.steps]), (kb, mObj (restR s keep torn))]) rfl ?_
 intro b5 hb5
 have hFb5 : m b5 = none := wth_none (m := m) (L := [(d, .cells [.map kb, .map nb, .slice true [], .int .i64 (-1), .bool false, .int .i64 s.steps]), (kb, mObj (restR s keep torn))]) hb5
 have hNb5 : ([b5, d, kb] : List Nat).Nodup := wth_nodup (m := m) (L := [(d, .cells [.map kb, .map nb, .slice true [], .int .i64 (-1), .bool false, .int .i64 s.steps]), (kb, mObj (restR s keep torn))]) hb5 hN
 refine ⟨trivial, ⟨rfl, by decide⟩, ?_⟩
 refine ar_storep rfl 1 (v := .map b5) (l' := [.map kb, .map b5, .slice true [], .int .i64 (-1), .bool false, .int .i64 s.steps]) rfl rfl hNb5 rfl rfl rfl rfl rfl (Nat.le_of_ble_eq_true rfl) rfl ?_
 show K1 [(0, .ptr ⟨d, 0, none⟩)] (AMem.wth m [(b5, mObj ([] : List ((List UInt8) × (List UInt8)))), (d, .cells [.map kb, .map b5, .slice true [], .int .i64 (-1), .bool false, .int .i64 s.steps]), (kb, mObj (restR s keep torn))])
 refine hK1 _ _ ?_; clear hK1 K1
 refine awp_reg2_seq [] [0, 98] (by decide) ?_
 intro K1 hK1
 refine ⟨trivial, trivial, ⟨rfl, by decide⟩, ?_⟩
 refine ar_loadp rfl (v := .map kb) rfl (wth_get 1 hNb5 rfl) rfl (apartOk_one rfl rfl (Nat.le_of_ble_eq_true rfl)) rfl ?_
 refine ar_range rfl (m := m) (L := [(b5, mObj ([] : List ((List UInt8) × (List UInt8)))), (d, .cells [.map kb, .map b5, .slice true [], .int .i64 (-1), .bool false, .int .i64 s.steps]), (kb, mObj (restR s keep torn))]) 2 rfl rfl rfl hNb5 ?_
 intro q3 _
 show K1 [(0, .ptr ⟨d, 0, none⟩), (98, .ptr ⟨q3, 0, none⟩)] (AMem.wth m [(b5, mObj ([] : List ((List UInt8) × (List UInt8)))), (d, .cells [.map kb, .map b5, .slice true [], .int .i64 (-1), .bool false, .int .i64 s.steps]), (kb, AObj.iter q3 (List.map (mapAV strAV strAV) (restR s keep torn)) [])])
 refine hK1 _ _ ?_; clear hK1 K1
 refine awp_block ?_
 refine awp_keep [0, 98] (by decide) ?_
 refine awp_loop_st (σ := (List (Str × Str)) × (List Nat)) (fun ⟨nw, seen⟩ => [(0, .ptr ⟨d, 0, none⟩), (98, .ptr ⟨q3, 0, none⟩)]) (fun ⟨nw, seen⟩ => (AMem.wth m [(b5, mObj nw), (d, .cells [.map kb, .map b5, .slice true [], .int .i64 (-1), .bool false, .int .i64 s.steps]), (kb, AObj.iter q3 (List.map (mapAV strAV strAV) (restR s keep torn)) seen)])) (fun ⟨nw, seen⟩ => seen.Nodup ∧ (∀ i ∈ seen, i < (restR s keep torn).length) ∧ nw = rebuild (restR s keep torn) seen) (fun ⟨nw, seen⟩ => (restR s keep torn).length - seen.length) (([] : List ((List UInt8) × (List UInt8))), []) rfl rfl ?_ ?_
 ·
  show (([] : (List Nat))).Nodup ∧ (∀ i ∈ (([] : (List Nat))), i < (restR s keep torn).length) ∧ ((([] : List ((List UInt8) × (List UInt8))) : (List (Str × Str)))) = rebuild (restR s keep torn) (([] : (List Nat)))
  exact ⟨List.nodup_nil, by simp, rfl⟩
 rintro ⟨nw, seen⟩ hI2
 replace hI2 : seen.Nodup ∧ (∀ i ∈ seen, i < (restR s keep torn).length) ∧ nw = rebuild (restR s keep torn) seen := hI2
 show AWP _ _ _ _ [(0, .ptr ⟨d, 0, none⟩), (98, .ptr ⟨q3, 0, none⟩)] (AMem.wth m [(b5, mObj nw), (d, .cells [.map kb, .map b5, .slice true [], .int .i64 (-1), .bool false, .int .i64 s.steps]), (kb, AObj.iter q3 (List.map (mapAV strAV strAV) (restR s keep torn)) seen)])
 refine awp_reg2_seq [] [0, 98, 100] (by decide) ?_
 intro K1 hK1
 refine ar_nextT rfl (m := m) (L := [(b5, mObj nw), (d, .cells [.map kb, .map b5, .slice true [], .int .i64 (-1), .bool false, .int .i64 s.steps]), (kb, AObj.iter q3 (List.map (mapAV strAV strAV) (restR s keep torn)) seen)]) 2 strAV strAV (restR s keep torn) seen rfl rfl hNb5 ?_ ?_
 ·
  intro hE3
  refine ⟨(Nat.le_of_ble_eq_true rfl), ?_⟩
  show K1 [(0, .ptr ⟨d, 0, none⟩), (98, .ptr ⟨q3, 0, none⟩), (100, .bool false)] (AMem.wth m [(b5, mObj nw), (d, .cells [.map kb, .map b5, .slice true [], .int .i64 (-1), .bool false, .int .i64 s.steps]), (kb, AObj.iter q3 (List.map (mapAV strAV strAV) (restR s keep torn)) seen)])
  refine hK1 _ _ ?_; clear hK1 K1
  refine awp_unrange (m := m) (L := [(b5, mObj nw), (d, .cells [.map kb, .map b5, .slice true [], .int .i64 (-1), .bool false, .int .i64 s.steps]), (kb, AObj.iter q3 (List.map (mapAV strAV strAV) (restR s keep torn)) seen)]) 2 hNb5 rfl ?_
  show AWP _ _ _ _ [(0, .ptr ⟨d, 0, none⟩), (98, .ptr ⟨q3, 0, none⟩), (100, .bool false)] (AMem.wth m [(b5, mObj nw), (d, .cells [.map kb, .map b5, .slice true [], .int .i64 (-1), .bool false, .int .i64 s.steps]), (kb, mObj (restR s keep torn))])
  refine awp_seq_k ?_; intro K10 hK10
  refine awp_cond rfl rfl (fun hcz => ?_) (fun hcz => ?_)
  ·
   cases hcz
  clear hcz
  refine awp_exit ?_
  refine ⟨(AMem.wth m [(b5, mObj nw), (d, .cells [.map kb, .map b5, .slice true [], .int .i64 (-1), .bool false, .int .i64 s.steps]), (kb, mObj (restR s keep torn))]), fun _ _ h => h, ?_⟩
  show K (.tuple []) (AMem.wth m [(b5, mObj nw), (d, .cells [.map kb, .map b5, .slice true [], .int .i64 (-1), .bool false, .int .i64 s.steps]), (kb, mObj (restR s keep torn))])
 
  exact hK b5 hNb5 hFb5 nw (hI2.2.2 ▸ rebuild_perm (restR_nd hk keep torn) hI2.1 hI2.2.1 hE3)
 ·
  rintro k3 ⟨ek3, ev3⟩ hp3 hn3
  refine ⟨(Nat.le_of_ble_eq_true rfl), ?_⟩
  show K1 [(0, .ptr ⟨d, 0, none⟩), (98, .ptr ⟨q3, 0, none⟩), (100, .bool true)] (AMem.wth m [(b5, mObj nw), (d, .cells [.map kb, .map b5, .slice true [], .int .i64 (-1), .bool false, .int .i64 s.steps]), (kb, AObj.iter q3 (List.map (mapAV strAV strAV) (restR s keep torn)) (seen ++ [k3]))])
  refine hK1 _ _ ?_; clear hK1 K1
  refine awp_seq_k ?_; intro K11 hK11
  refine awp_cond rfl rfl (fun hcz => ?_) (fun hcz => ?_)
  rotate_left; · cases hcz
  clear hcz
  refine awp_skip ?_
  refine hK11 _ _ ?_; clear hK11
  refine awp_block ?_
  refine awp_reg2_seq [] [0, 9, 10, 98] (by decide) ?_
  intro K1 hK1
  refine ar_entryT rfl (m := m) (L := [(b5, mObj nw), (d, .cells [.map kb, .map b5, .slice true [], .int .i64 (-1), .bool false, .int .i64 s.steps]), (kb, AObj.iter q3 (List.map (mapAV strAV strAV) (restR s keep torn)) (seen ++ [k3]))]) 2 strAV strAV (restR s keep torn) seen hp3 rfl rfl hNb5 ?_
  refine ⟨(Nat.le_of_ble_eq_true rfl), (Nat.le_of_ble_eq_true rfl), trivial, trivial, ?_⟩
  show K1 [(0, .ptr ⟨d, 0, none⟩), (9, .str ek3), (10, .str ev3), (98, .ptr ⟨q3, 0, none⟩)] (AMem.wth m [(b5, mObj nw), (d, .cells [.map kb, .map b5, .slice true [], .int .i64 (-1), .bool false, .int .i64 s.steps]), (kb, AObj.iter q3 (List.map (mapAV strAV strAV) (restR s keep torn)) (seen ++ [k3]))])
  refine hK1 _ _ ?_; clear hK1 K1
  refine awp_reg2 [] [0, 98] (by decide) ?_
  intro K1 hK1
  refine ⟨trivial, trivial, ⟨rfl, by decide⟩, ?_⟩
  refine ar_loadp rfl (v := .map b5) rfl (wth_get 1 hNb5 rfl) rfl (apartOk_one rfl rfl (Nat.le_of_ble_eq_true rfl)) rfl ?_
  refine ⟨trivial, trivial, ?_⟩
  refine ar_mapUpdate rfl (m := m) (L := [(b5, mObj nw), (d, .cells [.map kb, .map b5, .slice true [], .int .i64 (-1), .bool false, .int .i64 s.steps]), (kb, AObj.iter q3 (List.map (mapAV strAV strAV) (restR s keep torn)) (seen ++ [k3]))]) 0 strAV strAV strKey_ok nw ek3 ev3 rfl rfl rfl rfl rfl rfl hNb5 (by have := rebuild_len (restR s keep torn) seen; have := seen_len hI2.1 hI2.2.1; rw [← hI2.2.2] at *; refine Nat.le_trans (mput_len _ _ _) (by omega)) ?_
  show K1 [(0, .ptr ⟨d, 0, none⟩), (98, .ptr ⟨q3, 0, none⟩)] (AMem.wth m [(b5, mObj (mput nw ek3 ev3)), (d, .cells [.map kb, .map b5, .slice true [], .int .i64 (-1), .bool false, .int .i64 s.steps]), (kb, AObj.iter q3 (List.map (mapAV strAV strAV) (restR s keep torn)) (seen ++ [k3]))])
  refine hK1 _ _ ?_; clear hK1 K1
  refine ⟨(mput nw ek3 ev3, seen ++ [k3]), rfl, rfl, ?_, ?_⟩
  ·
   show ((seen ++ [k3] : (List Nat))).Nodup ∧ (∀ i ∈ ((seen ++ [k3] : (List Nat))), i < (restR s keep torn).length) ∧ ((mput nw ek3 ev3 : (List (Str × Str)))) = rebuild (restR s keep torn) ((seen ++ [k3] : (List Nat)))
   exact rstep hI2.1 hI2.2.1 hI2.2.2 hp3 hn3
  ·
   show (restR s keep torn).length - ((seen ++ [k3] : (List Nat))).length < (restR s keep torn).length - seen.length
   exact rdec hI2.1 hI2.2.1 hp3 hn3

end Go.Proofs
end
section
namespace Go.Proofs
open Go Go.Aw
set_option maxRecDepth 100000


def s0 : DSt := ⟨[], [], [], -1, false, 0⟩
theorem u_New0 (m : AMem) (K : AV → AMem → Prop) (hK : ∀ d nb kb, ([d, nb, kb] : List Nat).Nodup → m d = none → m nb = none → m kb = none → K (.ptr ⟨d, 0, none⟩) (AMem.wth m [(d, dObj kb nb s0), (nb, mObj s0.now), (kb, mObj s0.kept)])) : ACalls Try.prog 11 [] m K := u_New m K hK
theorem u_SameTexts_eq (xs : List Str) (m : AMem) (K : AV → AMem → Prop) (hK : K (.bool true) m) : ACalls Try.prog 19 [.slice false (xs.map strAV), .slice false (xs.map strAV)] m K := u_SameTexts xs xs m K (by rw [decide_eq_true rfl]; exact hK)
theorem u_same_eq (e : Int) (he : 0 ≤ e) (m : AMem) (K : AV → AMem → Prop) (hK : K (.bool true) m) : ACalls Try.prog 14 [.err 108 e, .int .i64 e] m K := u_same e e he m K (by rw [show (e == e) = true from by simp]; exact hK)

end Go.Proofs
end
