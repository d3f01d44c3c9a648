import Derived.Test.YtoeghipbkmaccaaProg
import Derived.Test.YtoeghipbkmaccaaMix
import Derived.Test.YtoeghipbkmaccaaWxe
import Derived.Test.YtoeghipbkmaccaaWl3
namespace Go.Proofs
open Go Go.Aw
set_option maxRecDepth 100000


/-- A value, as data. -/
inductive Val where
  | mk (kind n : Int) (s : Str) (l : List Val) (f : List (Str × Val))
instance : Inhabited Val := ⟨.mk 0 0 [] [] []⟩
def Val.kind : Val → Int | .mk k _ _ _ _ => k
def Val.n : Val → Int | .mk _ n _ _ _ => n
def Val.s : Val → Str | .mk _ _ s _ _ => s
def Val.l : Val → List Val | .mk _ _ _ l _ => l
def Val.f : Val → List (Str × Val) | .mk _ _ _ _ f => f
mutual
def valIn : Val → AV
  | .mk k n s l f => .agg [.int .i64 k, .int .i64 n, .str s, .slice false (valsIn l), .slice false (fldsIn f)]
def valsIn : List Val → List AV
  | [] => []
  | v :: r => valIn v :: valsIn r
def fldsIn : List (Str × Val) → List AV
  | [] => []
  | (s, .mk k n t l f) :: r => .agg [.str s, .int .i64 k, .int .i64 n, .str t, .slice false (valsIn l), .slice false (fldsIn f)] :: fldsIn r
end
def fldIn (p : Str × Val) : AV := .agg (.str p.1 :: (valIn p.2).cells)
theorem valsIn_eq (l : List Val) : valsIn l = l.map valIn := by
  induction l with
  | nil => rfl
  | cons v r ih => simp only [valsIn, List.map_cons, ih]
theorem fldsIn_eq (l : List (Str × Val)) : fldsIn l = l.map fldIn := by
  induction l with
  | nil => rfl
  | cons v r ih =>
    obtain ⟨s, v⟩ := v
    cases v with
    | mk k n t l f => simp only [fldsIn, List.map_cons, ih, fldIn, valIn, AV.cells]
def valTop (v : Val) : AV := .agg [.int .i64 v.kind, .int .i64 v.n, .str v.s, .slice false (v.l.map valIn), .slice false (v.f.map fldIn)]
def fldTop (p : Str × Val) : AV := .agg [.str p.1, .int .i64 p.2.kind, .int .i64 p.2.n, .str p.2.s, .slice false (p.2.l.map valIn), .slice false (p.2.f.map fldIn)]
theorem valIn_eq (v : Val) : valIn v = valTop v := by
  cases v with
  | mk k n s l f => simp only [valIn, valTop, valsIn_eq, fldsIn_eq, Val.kind, Val.n, Val.s, Val.l, Val.f]
theorem fldIn_eq (p : Str × Val) : fldIn p = fldTop p := by
  rw [fldIn, valIn_eq]; rfl
theorem valMap (l : List Val) : l.map valIn = l.map valTop := List.map_congr_left fun v _ => valIn_eq v
theorem fldMap (l : List (Str × Val)) : l.map fldIn = l.map fldTop := List.map_congr_left fun v _ => fldIn_eq v
mutual
def weightV (most : Int) : Val → Int
  | .mk _ _ s l f => weightF most f (weightL most l (1 + s.length))
def weightL (most : Int) : List Val → Int → Int
  | [], n => n
  | v :: r, n => if n ≤ most then weightL most r (IntKind.i64.wrap (n + weightV most v)) else n
def weightF (most : Int) : List (Str × Val) → Int → Int
  | [], n => n
  | (s, .mk _ _ t l f) :: r, n => if n ≤ most then weightF most r (IntKind.i64.wrap (IntKind.i64.wrap (n + s.length) + weightF most f (weightL most l (1 + t.length)))) else n
end
theorem weightV_eq (most : Int) (v : Val) : weightV most v = weightF most v.f (weightL most v.l (1 + v.s.length)) := by
  cases v with
  | mk k n s l f => simp only [weightV, Val.f, Val.l, Val.s]
theorem weightF_cons (most : Int) (p : Str × Val) (r : List (Str × Val)) (n : Int) : weightF most (p :: r) n = if n ≤ most then weightF most r (IntKind.i64.wrap (IntKind.i64.wrap (n + p.1.length) + weightV most p.2)) else n := by
  obtain ⟨s, v⟩ := p
  cases v with
  | mk k n t l f => simp only [weightF, weightV]
theorem weightL_stop (most : Int) (l : List Val) (n : Int) (h : most < n) : weightL most l n = n := by
  cases l with
  | nil => simp only [weightL]
  | cons v r => simp only [weightL]; rw [if_neg (by omega)]
theorem weightF_stop (most : Int) (l : List (Str × Val)) (n : Int) (h : most < n) : weightF most l n = n := by
  cases l with
  | nil => simp only [weightF]
  | cons v r => rw [weightF_cons, if_neg (by omega)]
theorem drop_gI {α : Type} [Inhabited α] {l : List α} {i : Int} (h0 : 0 ≤ i) (hi : i < l.length) : l.drop i.toNat = gI l i :: l.drop (i + 1).toNat := by
  have h : i.toNat < l.length := by omega
  have e : (i + 1).toNat = i.toNat + 1 := by omega
  rw [List.drop_eq_getElem_cons h, e]
  simp [gI, List.getD_eq_getElem?_getD, h]
mutual
def depV : Val → Nat
  | .mk _ _ _ l f => depL l + depF f + 1
def depL : List Val → Nat
  | [] => 0
  | v :: r => depV v + depL r
def depF : List (Str × Val) → Nat
  | [] => 0
  | (_, .mk _ _ _ l f) :: r => depL l + depF f + 1 + depF r
end
theorem depL_mem {l : List Val} {v : Val} (h : v ∈ l) : depV v ≤ depL l := by
  induction l with
  | nil => cases h
  | cons a r ih =>
    simp only [depL]
    rcases List.mem_cons.1 h with rfl | h
    · omega
    · have := ih h; omega
theorem depF_mem {l : List (Str × Val)} {p : Str × Val} (h : p ∈ l) : depV p.2 ≤ depF l := by
  induction l with
  | nil => cases h
  | cons a r ih =>
    obtain ⟨s, v⟩ := a
    cases v with
    | mk k n t l f =>
      simp only [depF]
      rcases List.mem_cons.1 h with rfl | h
      · simp only [depV]; omega
      · have := ih h; omega
theorem depV_eq (v : Val) : depV v = depL v.l + depF v.f + 1 := by
  cases v with
  | mk k n s l f => simp only [depV, Val.l, Val.f]

set_option maxHeartbeats 4000000 in
theorem u_weight1 (v : Val) (most : Int) (ih : ∀ w : Val, depV w < depV v → ∀ (m : AMem) (K : AV → AMem → Prop), K (.int .i64 (weightV most w)) m → ACalls Try.prog 67 [valTop w, .int .i64 most] m K) (m : AMem)  (K : AV → AMem → Prop) (hK : K (.int .i64 (weightV most v)) m) : ACalls Try.prog 67 [valTop v, .int .i64 most] m K := by
  refine acalls_enter Try.func67 rfl (by decide) (Nat.le_of_ble_eq_true rfl) ?_
  refine awp_bd 0 (x := valTop v) rfl (fun hbd0 => ?_)
  have hbd0_2 : v.s.length ≤ 140737488355328 := (hbd0 2 (Nat.le_of_ble_eq_true rfl))
  have hbd0_3 : v.l.length ≤ 140737488355328 := bd_map (hbd0 3 (Nat.le_of_ble_eq_true rfl))
  have hbd0_4 : v.f.length ≤ 140737488355328 := bd_map (hbd0 4 (Nat.le_of_ble_eq_true rfl))
  show AWP _ _ _ _ [(0, valTop v), (1, .int .i64 most)] m
  refine awp_reg2_seq [] [1, 2] (by decide) ?_
  intro K1 hK1
  refine ar_box rfl (m := m) (L := []) (v := valTop v) (by rfl) rfl ?_
  intro b1 hb1
  have hFb1 : m b1 = none := wth_none (m := m) (L := []) hb1
  have hNb1 : ([b1] : List Nat).Nodup := wth_nodup (m := m) (L := []) hb1 List.nodup_nil
  refine ⟨trivial, ?_⟩
  show K1 [(1, .int .i64 most), (2, .ptr ⟨b1, 0, none⟩)] (AMem.wth m [(b1, .cells [.int .i64 v.kind, .int .i64 v.n, .str v.s, .slice false (v.l.map valIn), .slice false (v.f.map fldIn)])])
  refine hK1 _ _ ?_; clear hK1 K1
  refine awp_reg2_seq [] [1, 2, 5] (by decide) ?_
  intro K1 hK1
  refine ⟨⟨rfl, by decide⟩, ?_⟩
  refine ar_loadp rfl (m := m) (L := [(b1, .cells [.int .i64 v.kind, .int .i64 v.n, .str v.s, .slice false (v.l.map valIn), .slice false (v.f.map fldIn)])]) (v := .str v.s) rfl (wth_get (m := m) (L := [(b1, .cells [.int .i64 v.kind, .int .i64 v.n, .str v.s, .slice false (v.l.map valIn), .slice false (v.f.map fldIn)])]) 0 hNb1 rfl) rfl (apartOk_one rfl rfl (Nat.le_of_ble_eq_true rfl)) rfl ?_
  refine ⟨trivial, ?_⟩
  refine ar_add rfl (a := 1) (b := (v.s.length : Int)) rfl rfl (by omega) (by omega) ?_
  refine ⟨trivial, ?_⟩
  show K1 [(1, .int .i64 most), (2, .ptr ⟨b1, 0, none⟩), (5, .int .i64 (1 + (v.s.length : Int)))] (AMem.wth m [(b1, .cells [.int .i64 v.kind, .int .i64 v.n, .str v.s, .slice false (v.l.map valIn), .slice false (v.f.map fldIn)])])
  refine hK1 _ _ ?_; clear hK1 K1
  refine awp_seq_k ?_; intro K2 hK2
  refine awp_reg2_seq [] [1, 2, 5, 6] (by decide) ?_
  intro K1 hK1
  refine ⟨trivial, ?_⟩
  show K1 [(1, .int .i64 most), (2, .ptr ⟨b1, 0, none⟩), (5, .int .i64 (1 + (v.s.length : Int))), (6, .int .i64 0)] (AMem.wth m [(b1, .cells [.int .i64 v.kind, .int .i64 v.n, .str v.s, .slice false (v.l.map valIn), .slice false (v.f.map fldIn)])])
  refine hK1 _ _ ?_; clear hK1 K1
  refine awp_block ?_
  refine awp_keep [1, 2, 5, 6] (by decide) ?_
  refine awp_loop_st (σ := Int × Int) (fun ⟨n_, i⟩ => [(1, .int .i64 most), (2, .ptr ⟨b1, 0, none⟩), (5, .int .i64 n_), (6, .int .i64 i)]) (fun _ => (AMem.wth m [(b1, .cells [.int .i64 v.kind, .int .i64 v.n, .str v.s, .slice false (v.l.map valIn), .slice false (v.f.map fldIn)])])) (fun ⟨n_, i⟩ => 0 ≤ i ∧ i ≤ v.l.length ∧ weightL most v.l (1 + v.s.length) = weightL most (v.l.drop i.toNat) n_) (fun ⟨n_, i⟩ => v.l.length - i.toNat) (1 + (v.s.length : Int), 0) rfl rfl ?_ ?_
  · show 0 ≤ ((0 : Int)) ∧ ((0 : Int)) ≤ v.l.length ∧ weightL most v.l (1 + v.s.length) = weightL most (v.l.drop ((0 : Int)).toNat) ((1 + (v.s.length : Int) : Int))
    exact ⟨by omega, by omega, rfl⟩
  · rintro ⟨n_, i⟩ hI
    replace hI : 0 ≤ i ∧ i ≤ v.l.length ∧ weightL most v.l (1 + v.s.length) = weightL most (v.l.drop i.toNat) n_ := hI
    show AWP _ _ _ _ [(1, .int .i64 most), (2, .ptr ⟨b1, 0, none⟩), (5, .int .i64 n_), (6, .int .i64 i)] (AMem.wth m [(b1, .cells [.int .i64 v.kind, .int .i64 v.n, .str v.s, .slice false (v.l.map valIn), .slice false (v.f.map fldIn)])])
    refine awp_seq_k ?_; intro K3 hK3
    refine awp_reg2_seq [] [1, 2, 5, 6, 21] (by decide) ?_
    intro K1 hK1
    suffices key : K1 [(1, .int .i64 most), (2, .ptr ⟨b1, 0, none⟩), (5, .int .i64 n_), (6, .int .i64 i), (21, .bool ((decide (i < (v.l.length : Int))) && (decide (n_ ≤ most))))] (AMem.wth m [(b1, .cells [.int .i64 v.kind, .int .i64 v.n, .str v.s, .slice false (v.l.map valIn), .slice false (v.f.map fldIn)])]) by
      refine ⟨trivial, ⟨rfl, by decide⟩, ?_⟩
      refine ar_loadp rfl (m := m) (L := [(b1, .cells [.int .i64 v.kind, .int .i64 v.n, .str v.s, .slice false (v.l.map valIn), .slice false (v.f.map fldIn)])]) (v := .slice false (v.l.map valIn)) rfl (wth_get (m := m) (L := [(b1, .cells [.int .i64 v.kind, .int .i64 v.n, .str v.s, .slice false (v.l.map valIn), .slice false (v.f.map fldIn)])]) 0 hNb1 rfl) rfl (apartOk_one rfl rfl (Nat.le_of_ble_eq_true rfl)) rfl ?_
      refine ar_len rfl valIn v.l rfl rfl rfl ?_
      refine ⟨trivial, trivial, ?_⟩
      show aopsR _ _ _ _ _ [(17, .bool (decide (i < (v.l.length : Int)))), (16, .bool (decide (i < (v.l.length : Int)))), (15, .int .i64 (v.l.length : Int)), (14, .slice false (v.l.map valIn)), (13, .ptr ⟨b1, 3, none⟩), (12, .int .i64 i), (1, .int .i64 most), (2, .ptr ⟨b1, 0, none⟩), (5, .int .i64 n_), (6, .int .i64 i)] _
      revert key
      cases h1 : (decide (i < (v.l.length : Int)))
      · replace h1 : (v.l.length : Int) ≤ i := (Int.not_lt.1 (of_decide_eq_false h1))
        intro key
        refine ar_off rfl (ar_off rfl (ar_off rfl ?_))
        exact key
      · replace h1 : i < (v.l.length : Int) := (of_decide_eq_true h1)
        intro key
        refine ⟨trivial, trivial, trivial, ?_⟩
        exact key
    refine hK1 _ _ ?_; clear hK1 K1
    refine awp_cond rfl rfl (fun h2 => ?_) (fun h2 => ?_)
    · replace h2 : (i < (v.l.length : Int)) ∧ (n_ ≤ most) := ⟨(of_decide_eq_true (bandL h2)), (of_decide_eq_true (bandR h2))⟩
      refine awp_skip ?_
      refine hK3 _ _ ?_; clear hK3
      refine awp_seq_k ?_; intro K4 hK4
      refine awp_block ?_
      refine awp_reg2 [] [1, 2, 5, 6] (by decide) ?_
      intro K1 hK1
      refine ⟨trivial, ⟨rfl, by decide⟩, ?_⟩
      refine ar_loadp rfl (m := m) (L := [(b1, .cells [.int .i64 v.kind, .int .i64 v.n, .str v.s, .slice false (v.l.map valIn), .slice false (v.f.map fldIn)])]) (v := .slice false (v.l.map valIn)) rfl (wth_get (m := m) (L := [(b1, .cells [.int .i64 v.kind, .int .i64 v.n, .str v.s, .slice false (v.l.map valIn), .slice false (v.f.map fldIn)])]) 0 hNb1 rfl) rfl (apartOk_one rfl rfl (Nat.le_of_ble_eq_true rfl)) rfl ?_
      refine ⟨trivial, ?_⟩
      refine ar_index rfl valTop v.l i rfl rfl (valMap v.l) rfl rfl (by decide) (fun _ => rfl) (by omega) (by omega) ?_
      refine ⟨(apartOk_agg rfl rfl (Nat.le_of_ble_eq_true rfl)), trivial, ?_⟩
      refine ih (gI v.l i) (by have := depV_eq v; first | (have := depL_mem (gI_mem (l := v.l) (i := i) hI.1 h2.1); omega) | (have := depF_mem (gI_mem (l := v.f) (i := k) hI2.1 h4.1); omega)) _ _ ?_
      refine ⟨trivial, trivial, ?_⟩
      show K1 [(1, .int .i64 most), (2, .ptr ⟨b1, 0, none⟩), (5, .int .i64 (IntKind.i64.wrap (n_ + (weightV most (gI v.l i))))), (6, .int .i64 i)] (AMem.wth m [(b1, .cells [.int .i64 v.kind, .int .i64 v.n, .str v.s, .slice false (v.l.map valIn), .slice false (v.f.map fldIn)])])
      refine hK1 _ _ ?_; clear hK1 K1
      refine hK4 _ _ ?_; clear hK4
      refine awp_reg2 [] [1, 2, 5, 6] (by decide) ?_
      intro K1 hK1
      refine ⟨trivial, ?_⟩
      refine ar_add rfl (a := i) (b := 1) rfl rfl (by omega) (by omega) ?_
      refine ⟨trivial, ?_⟩
      show K1 [(1, .int .i64 most), (2, .ptr ⟨b1, 0, none⟩), (5, .int .i64 (IntKind.i64.wrap (n_ + (weightV most (gI v.l i))))), (6, .int .i64 (i + 1))] (AMem.wth m [(b1, .cells [.int .i64 v.kind, .int .i64 v.n, .str v.s, .slice false (v.l.map valIn), .slice false (v.f.map fldIn)])])
      refine hK1 _ _ ?_; clear hK1 K1
      refine ⟨(IntKind.i64.wrap (n_ + (weightV most (gI v.l i))), i + 1), rfl, rfl, ?_, ?_⟩
      · show 0 ≤ ((i + 1 : Int)) ∧ ((i + 1 : Int)) ≤ v.l.length ∧ weightL most v.l (1 + v.s.length) = weightL most (v.l.drop ((i + 1 : Int)).toNat) ((IntKind.i64.wrap (n_ + (weightV most (gI v.l i))) : Int))
        refine ⟨by omega, by omega, ?_⟩
        rw [hI.2.2, drop_gI hI.1 h2.1]
        simp only [weightL]
        rw [if_pos h2.2]
      · show v.l.length - ((i + 1 : Int)).toNat < v.l.length - i.toNat
        omega
    · replace h2 : ((v.l.length : Int) ≤ i) ∨ (most < n_) := ((bandF h2).imp (fun q => (Int.not_lt.1 (of_decide_eq_false q))) (fun q => (Int.not_le.1 (of_decide_eq_false q))))
      refine awp_exit ?_
      refine hK2 _ _ ?_; clear hK2
      refine awp_seq_k ?_; intro K5 hK5
      refine awp_reg2_seq [] [1, 2, 5, 7] (by decide) ?_
      intro K1 hK1
      refine ⟨trivial, ?_⟩
      show K1 [(1, .int .i64 most), (2, .ptr ⟨b1, 0, none⟩), (5, .int .i64 n_), (7, .int .i64 0)] (AMem.wth m [(b1, .cells [.int .i64 v.kind, .int .i64 v.n, .str v.s, .slice false (v.l.map valIn), .slice false (v.f.map fldIn)])])
      refine hK1 _ _ ?_; clear hK1 K1
      refine awp_block ?_
      refine awp_keep [1, 2, 5, 7] (by decide) ?_
      refine awp_loop_st (σ := Int × Int) (fun ⟨n2, k⟩ => [(1, .int .i64 most), (2, .ptr ⟨b1, 0, none⟩), (5, .int .i64 n2), (7, .int .i64 k)]) (fun _ => (AMem.wth m [(b1, .cells [.int .i64 v.kind, .int .i64 v.n, .str v.s, .slice false (v.l.map valIn), .slice false (v.f.map fldIn)])])) (fun ⟨n2, k⟩ => 0 ≤ k ∧ k ≤ v.f.length ∧ weightV most v = weightF most (v.f.drop k.toNat) n2) (fun ⟨n2, k⟩ => v.f.length - k.toNat) (n_, 0) rfl rfl ?_ ?_
      · show 0 ≤ ((0 : Int)) ∧ ((0 : Int)) ≤ v.f.length ∧ weightV most v = weightF most (v.f.drop ((0 : Int)).toNat) ((n_ : Int))
        refine ⟨by omega, by omega, ?_⟩
        have e : weightL most (v.l.drop i.toNat) n_ = n_ := by
          by_cases hn : most < n_
          · exact weightL_stop _ _ _ hn
          · have hi : (v.l.length : Int) ≤ i := by
              rcases h2 with h | h <;> omega
            rw [List.drop_eq_nil_of_le (by omega)]; simp only [weightL]
        rw [weightV_eq, hI.2.2, e]; rfl
      · rintro ⟨n2, k⟩ hI2
        replace hI2 : 0 ≤ k ∧ k ≤ v.f.length ∧ weightV most v = weightF most (v.f.drop k.toNat) n2 := hI2
        show AWP _ _ _ _ [(1, .int .i64 most), (2, .ptr ⟨b1, 0, none⟩), (5, .int .i64 n2), (7, .int .i64 k)] (AMem.wth m [(b1, .cells [.int .i64 v.kind, .int .i64 v.n, .str v.s, .slice false (v.l.map valIn), .slice false (v.f.map fldIn)])])
        refine awp_seq_k ?_; intro K6 hK6
        refine awp_reg2_seq [] [1, 2, 5, 7, 42] (by decide) ?_
        intro K1 hK1
        suffices key : K1 [(1, .int .i64 most), (2, .ptr ⟨b1, 0, none⟩), (5, .int .i64 n2), (7, .int .i64 k), (42, .bool ((decide (k < (v.f.length : Int))) && (decide (n2 ≤ most))))] (AMem.wth m [(b1, .cells [.int .i64 v.kind, .int .i64 v.n, .str v.s, .slice false (v.l.map valIn), .slice false (v.f.map fldIn)])]) by
          refine ⟨trivial, ⟨rfl, by decide⟩, ?_⟩
          refine ar_loadp rfl (m := m) (L := [(b1, .cells [.int .i64 v.kind, .int .i64 v.n, .str v.s, .slice false (v.l.map valIn), .slice false (v.f.map fldIn)])]) (v := .slice false (v.f.map fldIn)) rfl (wth_get (m := m) (L := [(b1, .cells [.int .i64 v.kind, .int .i64 v.n, .str v.s, .slice false (v.l.map valIn), .slice false (v.f.map fldIn)])]) 0 hNb1 rfl) rfl (apartOk_one rfl rfl (Nat.le_of_ble_eq_true rfl)) rfl ?_
          refine ar_len rfl fldIn v.f rfl rfl rfl ?_
          refine ⟨trivial, trivial, ?_⟩
          show aopsR _ _ _ _ _ [(38, .bool (decide (k < (v.f.length : Int)))), (37, .bool (decide (k < (v.f.length : Int)))), (36, .int .i64 (v.f.length : Int)), (35, .slice false (v.f.map fldIn)), (34, .ptr ⟨b1, 4, none⟩), (33, .int .i64 k), (1, .int .i64 most), (2, .ptr ⟨b1, 0, none⟩), (5, .int .i64 n2), (7, .int .i64 k)] _
          revert key
          cases h3 : (decide (k < (v.f.length : Int)))
          · replace h3 : (v.f.length : Int) ≤ k := (Int.not_lt.1 (of_decide_eq_false h3))
            intro key
            refine ar_off rfl (ar_off rfl (ar_off rfl ?_))
            exact key
          · replace h3 : k < (v.f.length : Int) := (of_decide_eq_true h3)
            intro key
            refine ⟨trivial, trivial, trivial, ?_⟩
            exact key
        refine hK1 _ _ ?_; clear hK1 K1
        refine awp_cond rfl rfl (fun h4 => ?_) (fun h4 => ?_)
        · replace h4 : (k < (v.f.length : Int)) ∧ (n2 ≤ most) := ⟨(of_decide_eq_true (bandL h4)), (of_decide_eq_true (bandR h4))⟩
          refine awp_skip ?_
          refine hK6 _ _ ?_; clear hK6
          refine awp_seq_k ?_; intro K7 hK7
          refine awp_block ?_
          refine awp_draw_k Try.mixed [(.int .i64 (weightV most ((gI v.f k).2)))] [1, 2, 5, 7] (by decide) (by decide) ?_
          intro K1 hK1
          refine ⟨trivial, ⟨rfl, by decide⟩, ?_⟩
          refine pq_loadp rfl (m := m) (L := [(b1, .cells [.int .i64 v.kind, .int .i64 v.n, .str v.s, .slice false (v.l.map valIn), .slice false (v.f.map fldIn)])]) (v := .slice false (v.f.map fldIn)) rfl (wth_get (m := m) (L := [(b1, .cells [.int .i64 v.kind, .int .i64 v.n, .str v.s, .slice false (v.l.map valIn), .slice false (v.f.map fldIn)])]) 0 hNb1 rfl) (apartOk_one rfl rfl (Nat.le_of_ble_eq_true rfl)) rfl ?_
          refine ⟨trivial, ?_⟩
          refine pq_index rfl fldTop v.f k rfl rfl (fldMap v.f) rfl rfl (by decide) (fun _ => rfl) (by omega) (by omega) ?_
          refine ⟨⟨rfl, by decide, (Nat.le_of_ble_eq_true rfl)⟩, (apartOk_one rfl rfl (Nat.le_of_ble_eq_true rfl)), trivial, trivial, ⟨rfl, by decide⟩, ?_⟩
          refine pq_loadp rfl (m := m) (L := [(b1, .cells [.int .i64 v.kind, .int .i64 v.n, .str v.s, .slice false (v.l.map valIn), .slice false (v.f.map fldIn)])]) (v := .slice false (v.f.map fldIn)) rfl (wth_get (m := m) (L := [(b1, .cells [.int .i64 v.kind, .int .i64 v.n, .str v.s, .slice false (v.l.map valIn), .slice false (v.f.map fldIn)])]) 0 hNb1 rfl) (apartOk_one rfl rfl (Nat.le_of_ble_eq_true rfl)) rfl ?_
          refine ⟨trivial, ?_⟩
          refine pq_index rfl fldTop v.f k rfl rfl (fldMap v.f) rfl rfl (by decide) (fun _ => rfl) (by omega) (by omega) ?_
          refine ⟨⟨rfl, by decide, (Nat.le_of_ble_eq_true rfl)⟩, (apartOk_agg rfl rfl (Nat.le_of_ble_eq_true rfl)), trivial, (fun Kc hKc => ih ((gI v.f k).2) (by have := depV_eq v; first | (have := depL_mem (gI_mem (l := v.l) (i := i) hI.1 h2.1); omega) | (have := depF_mem (gI_mem (l := v.f) (i := k) hI2.1 h4.1); omega)) _ Kc hKc), trivial, trivial, ?_⟩
          show K1 [(1, .int .i64 most), (2, .ptr ⟨b1, 0, none⟩), (5, .int .i64 (IntKind.i64.wrap ((IntKind.i64.wrap (n2 + (((gI v.f k).1).length : Int))) + (weightV most ((gI v.f k).2))))), (7, .int .i64 k)] (AMem.wth m [(b1, .cells [.int .i64 v.kind, .int .i64 v.n, .str v.s, .slice false (v.l.map valIn), .slice false (v.f.map fldIn)])])
          refine hK1 _ _ ?_; clear hK1 K1
          refine hK7 _ _ ?_; clear hK7
          refine awp_reg2 [] [1, 2, 5, 7] (by decide) ?_
          intro K1 hK1
          refine ⟨trivial, ?_⟩
          refine ar_add rfl (a := k) (b := 1) rfl rfl (by omega) (by omega) ?_
          refine ⟨trivial, ?_⟩
          show K1 [(1, .int .i64 most), (2, .ptr ⟨b1, 0, none⟩), (5, .int .i64 (IntKind.i64.wrap ((IntKind.i64.wrap (n2 + (((gI v.f k).1).length : Int))) + (weightV most ((gI v.f k).2))))), (7, .int .i64 (k + 1))] (AMem.wth m [(b1, .cells [.int .i64 v.kind, .int .i64 v.n, .str v.s, .slice false (v.l.map valIn), .slice false (v.f.map fldIn)])])
          refine hK1 _ _ ?_; clear hK1 K1
          refine ⟨(IntKind.i64.wrap ((IntKind.i64.wrap (n2 + (((gI v.f k).1).length : Int))) + (weightV most ((gI v.f k).2))), k + 1), rfl, rfl, ?_, ?_⟩
          · show 0 ≤ ((k + 1 : Int)) ∧ ((k + 1 : Int)) ≤ v.f.length ∧ weightV most v = weightF most (v.f.drop ((k + 1 : Int)).toNat) ((IntKind.i64.wrap ((IntKind.i64.wrap (n2 + (((gI v.f k).1).length : Int))) + (weightV most ((gI v.f k).2))) : Int))
            exact ⟨by omega, by omega, by rw [hI2.2.2, drop_gI hI2.1 h4.1, weightF_cons, if_pos h4.2]⟩
          · show v.f.length - ((k + 1 : Int)).toNat < v.f.length - k.toNat
            omega
        · replace h4 : ((v.f.length : Int) ≤ k) ∨ (most < n2) := ((bandF h4).imp (fun q => (Int.not_lt.1 (of_decide_eq_false q))) (fun q => (Int.not_le.1 (of_decide_eq_false q))))
          refine awp_exit ?_
          refine hK5 _ _ ?_; clear hK5
          refine awp_reg2_seq [] [4] (by decide) ?_
          intro K1 hK1
          refine ⟨trivial, trivial, ?_⟩
          show K1 [(4, .int .i64 n2)] (AMem.wth m [(b1, .cells [.int .i64 v.kind, .int .i64 v.n, .str v.s, .slice false (v.l.map valIn), .slice false (v.f.map fldIn)])])
          refine hK1 _ _ ?_; clear hK1 K1
          refine awp_ret ?_
          refine ⟨trivial, m, (wth_sub2 (m := m) [(b1, .cells [.int .i64 v.kind, .int .i64 v.n, .str v.s, .slice false (v.l.map valIn), .slice false (v.f.map fldIn)])] [] hNb1 (by simp only [List.map_cons, List.map_nil, List.forall_mem_cons]; exact ⟨hFb1, fun _ h => by cases h⟩)), ?_⟩
          show K (.int .i64 n2) m
         
          have e : weightV most v = n2 := by
            rw [hI2.2.2]
            by_cases hn : most < n2
            · exact weightF_stop _ _ _ hn
            · have hi : (v.f.length : Int) ≤ k := by
                rcases h4 with h | h <;> omega
              rw [List.drop_eq_nil_of_le (by omega)]; simp only [weightF]
          rw [e] at hK; exact hK


theorem u_weight (most : Int) : ∀ (n : Nat) (v : Val), depV v < n → ∀ (m : AMem) (K : AV → AMem → Prop), K (.int .i64 (weightV most v)) m → ACalls Try.prog 67 [valTop v, .int .i64 most] m K
  | 0, _, h => absurd h (Nat.not_lt_zero _)
  | n + 1, v, h => fun m K hK => u_weight1 v most (fun w hw => u_weight most n w (by omega)) m K hK


structure ActT where
  kind : Str
  s : Str
  t : Str
  a : Int
  b : Int
  v : Val
  names : List Str
instance : Inhabited ActT := ⟨⟨[], [], [], 0, 0, default, []⟩⟩
def actAV (x : ActT) : AV := .agg [.str x.kind, .str x.s, .str x.t, .int .i64 x.a, .int .i64 x.b, .int .i64 x.v.kind, .int .i64 x.v.n, .str x.v.s, .slice false (x.v.l.map valIn), .slice false (x.v.f.map fldIn), .slice false (x.names.map strAV)]
def actW (most : Int) (n : Int) (x : ActT) : Int := IntKind.i64.wrap (IntKind.i64.wrap (IntKind.i64.wrap (n + x.s.length) + x.t.length) + weightV most x.v)
def namesW (n : Int) (l : List Str) : Int := l.foldl (fun n s => IntKind.i64.wrap (n + s.length)) n
def lightF (size : Int) : List ActT → Int → Bool
  | [], n => decide (n ≤ size)
  | x :: r, n => if size < actW size n x ∨ 12 < (x.names.length : Int) then false else lightF size r (namesW (actW size n x) x.names)
def lightA (l : List ActT) (most size : Int) : Bool := if most < (l.length : Int) then false else lightF size l 0
theorem lightA_len {l : List ActT} {most size : Int} (h : lightA l most size = true) : (l.length : Int) ≤ most := by
  unfold lightA at h; split at h
  · cases h
  · omega

set_option maxHeartbeats 4000000 in
theorem u_LightActs (l : List ActT) (most size : Int)  (m : AMem)  (K : AV → AMem → Prop) (hK : K (.bool (lightA l most size)) m) : ACalls Try.prog 10 [.slice false (l.map actAV), .int .i64 most, .int .i64 size] m K := by
  refine acalls_enter Try.func10 rfl (by decide) (Nat.le_of_ble_eq_true rfl) ?_
  refine awp_bd 0 (x := .slice false (l.map actAV)) rfl (fun hbd0 => ?_)
  have hbd0_0 : l.length ≤ 140737488355328 := bd_map (o := false) hbd0
  show AWP _ _ _ _ [(0, .slice false (l.map actAV)), (1, .int .i64 most), (2, .int .i64 size)] m
  refine awp_reg2_seq [] [0, 1, 2] (by decide) ?_
  intro K1 hK1
  refine ⟨trivial, ?_⟩
  show K1 [(0, .slice false (l.map actAV)), (1, .int .i64 most), (2, .int .i64 size)] m
  refine hK1 _ _ ?_; clear hK1 K1
  refine awp_seq_k ?_; intro K2 hK2
  refine awp_reg2_seq [] [0, 2, 13] (by decide) ?_
  intro K1 hK1
  refine ⟨trivial, ?_⟩
  refine ar_len rfl actAV l rfl rfl rfl ?_
  refine ⟨trivial, trivial, ?_⟩
  show K1 [(0, .slice false (l.map actAV)), (2, .int .i64 size), (13, .bool (decide (most < (l.length : Int))))] m
  refine hK1 _ _ ?_; clear hK1 K1
  refine awp_cond rfl rfl (fun h1 => ?_) (fun h1 => ?_)
  · replace h1 : most < (l.length : Int) := (of_decide_eq_true h1)
    refine awp_reg2_seq [] [6] (by decide) ?_
    intro K1 hK1
    refine ⟨trivial, ?_⟩
    show K1 [(6, .bool false)] m
    refine hK1 _ _ ?_; clear hK1 K1
    refine awp_ret ?_
    refine ⟨trivial, m, fun _ _ h => h, ?_⟩
    show K (.bool false) m
   
    refine K_eq hK (congrArg AV.bool ?_)
    rw [lightA, if_pos h1]
  · replace h1 : (l.length : Int) ≤ most := (Int.not_lt.1 (of_decide_eq_false h1))
    refine awp_skip ?_
    refine hK2 _ _ ?_; clear hK2
    refine awp_reg2_seq [] [0, 2, 7] (by decide) ?_
    intro K1 hK1
    refine ⟨trivial, ?_⟩
    show K1 [(0, .slice false (l.map actAV)), (2, .int .i64 size), (7, .int .i64 0)] m
    refine hK1 _ _ ?_; clear hK1 K1
    refine awp_seq_k ?_; intro K3 hK3
    refine awp_reg2_seq [] [0, 2, 7, 8] (by decide) ?_
    intro K1 hK1
    refine ⟨trivial, ?_⟩
    show K1 [(0, .slice false (l.map actAV)), (2, .int .i64 size), (7, .int .i64 0), (8, .int .i64 0)] m
    refine hK1 _ _ ?_; clear hK1 K1
    refine awp_block ?_
    refine awp_keep [0, 2, 7, 8] (by decide) ?_
    refine awp_loop_st (σ := Int × Int) (fun ⟨n_, i⟩ => [(0, .slice false (l.map actAV)), (2, .int .i64 size), (7, .int .i64 n_), (8, .int .i64 i)]) (fun _ => m) (fun ⟨n_, i⟩ => 0 ≤ i ∧ i ≤ l.length ∧ lightA l most size = lightF size (l.drop i.toNat) n_) (fun ⟨n_, i⟩ => l.length - i.toNat) (0, 0) rfl rfl ?_ ?_
    · show 0 ≤ ((0 : Int)) ∧ ((0 : Int)) ≤ l.length ∧ lightA l most size = lightF size (l.drop ((0 : Int)).toNat) ((0 : Int))
      exact ⟨by omega, by omega, by rw [lightA, if_neg (by omega)]; rfl⟩
    · rintro ⟨n_, i⟩ hI
      replace hI : 0 ≤ i ∧ i ≤ l.length ∧ lightA l most size = lightF size (l.drop i.toNat) n_ := hI
      show AWP _ _ _ _ [(0, .slice false (l.map actAV)), (2, .int .i64 size), (7, .int .i64 n_), (8, .int .i64 i)] m
      refine awp_seq_k ?_; intro K4 hK4
      refine awp_reg2_seq [] [0, 2, 7, 8, 17] (by decide) ?_
      intro K1 hK1
      refine ⟨trivial, trivial, ?_⟩
      refine ar_len rfl actAV l rfl rfl rfl ?_
      refine ⟨trivial, ?_⟩
      show K1 [(0, .slice false (l.map actAV)), (2, .int .i64 size), (7, .int .i64 n_), (8, .int .i64 i), (17, .bool (decide (i < (l.length : Int))))] m
      refine hK1 _ _ ?_; clear hK1 K1
      refine awp_cond rfl rfl (fun h2 => ?_) (fun h2 => ?_)
      · replace h2 : i < (l.length : Int) := (of_decide_eq_true h2)
        refine awp_skip ?_
        refine hK4 _ _ ?_; clear hK4
        refine awp_seq_k ?_; intro K5 hK5
        refine awp_block ?_
        refine awp_draw_seq Try.mixed [(.int .i64 (weightV size ((gI l i).v)))] [0, 2, 7, 8] (by decide) (by decide) ?_
        intro K1 hK1
        refine ⟨trivial, trivial, trivial, ?_⟩
        refine pq_index rfl actAV l i rfl rfl rfl rfl rfl (by decide) (fun _ => rfl) (by omega) (by omega) ?_
        refine ⟨⟨rfl, by decide, (Nat.le_of_ble_eq_true rfl)⟩, (apartOk_one rfl rfl (Nat.le_of_ble_eq_true rfl)), trivial, trivial, trivial, trivial, ?_⟩
        refine pq_index rfl actAV l i rfl rfl rfl rfl rfl (by decide) (fun _ => rfl) (by omega) (by omega) ?_
        refine ⟨⟨rfl, by decide, (Nat.le_of_ble_eq_true rfl)⟩, (apartOk_one rfl rfl (Nat.le_of_ble_eq_true rfl)), trivial, trivial, trivial, trivial, ?_⟩
        refine pq_index rfl actAV l i rfl rfl rfl rfl rfl (by decide) (fun _ => rfl) (by omega) (by omega) ?_
        refine ⟨⟨rfl, by decide, (Nat.le_of_ble_eq_true rfl)⟩, (apartOk_agg rfl rfl (Nat.le_of_ble_eq_true rfl)), trivial, (fun Kc hKc => u_weight size (depV ((gI l i).v) + 1) ((gI l i).v) (Nat.lt_succ_self _) _ Kc hKc), trivial, trivial, ?_⟩
        show K1 [(0, .slice false (l.map actAV)), (2, .int .i64 size), (7, .int .i64 (IntKind.i64.wrap ((IntKind.i64.wrap ((IntKind.i64.wrap (n_ + (((gI l i).s).length : Int))) + (((gI l i).t).length : Int))) + (weightV size ((gI l i).v))))), (8, .int .i64 i)] m
        refine hK1 _ _ ?_; clear hK1 K1
        refine awp_seq_k ?_; intro K6 hK6
        refine awp_reg2_seq [] [0, 2, 7, 8, 54] (by decide) ?_
        intro K1 hK1
        suffices key : K1 [(0, .slice false (l.map actAV)), (2, .int .i64 size), (7, .int .i64 (IntKind.i64.wrap ((IntKind.i64.wrap ((IntKind.i64.wrap (n_ + (((gI l i).s).length : Int))) + (((gI l i).t).length : Int))) + (weightV size ((gI l i).v))))), (8, .int .i64 i), (54, .bool ((decide (size < IntKind.i64.wrap ((IntKind.i64.wrap ((IntKind.i64.wrap (n_ + (((gI l i).s).length : Int))) + (((gI l i).t).length : Int))) + (weightV size ((gI l i).v))))) || (decide (12 < (((gI l i).names).length : Int)))))] m by
          refine ⟨trivial, trivial, trivial, trivial, ?_⟩
          show aopsR _ _ _ _ _ [(46, .bool (decide (size < IntKind.i64.wrap ((IntKind.i64.wrap ((IntKind.i64.wrap (n_ + (((gI l i).s).length : Int))) + (((gI l i).t).length : Int))) + (weightV size ((gI l i).v)))))), (45, .bool (decide (size < IntKind.i64.wrap ((IntKind.i64.wrap ((IntKind.i64.wrap (n_ + (((gI l i).s).length : Int))) + (((gI l i).t).length : Int))) + (weightV size ((gI l i).v)))))), (44, .int .i64 size), (43, .int .i64 (IntKind.i64.wrap ((IntKind.i64.wrap ((IntKind.i64.wrap (n_ + (((gI l i).s).length : Int))) + (((gI l i).t).length : Int))) + (weightV size ((gI l i).v))))), (0, .slice false (l.map actAV)), (2, .int .i64 size), (7, .int .i64 (IntKind.i64.wrap ((IntKind.i64.wrap ((IntKind.i64.wrap (n_ + (((gI l i).s).length : Int))) + (((gI l i).t).length : Int))) + (weightV size ((gI l i).v))))), (8, .int .i64 i)] _
          revert key
          cases h3 : (decide (size < IntKind.i64.wrap ((IntKind.i64.wrap ((IntKind.i64.wrap (n_ + (((gI l i).s).length : Int))) + (((gI l i).t).length : Int))) + (weightV size ((gI l i).v)))))
          · replace h3 : IntKind.i64.wrap ((IntKind.i64.wrap ((IntKind.i64.wrap (n_ + (((gI l i).s).length : Int))) + (((gI l i).t).length : Int))) + (weightV size ((gI l i).v))) ≤ size := (Int.not_lt.1 (of_decide_eq_false h3))
            intro key
            refine ⟨trivial, trivial, ?_⟩
            refine ar_index rfl actAV l i rfl rfl rfl rfl rfl (by decide) (fun _ => rfl) (by omega) (by omega) ?_
            refine ⟨⟨rfl, by decide, (Nat.le_of_ble_eq_true rfl)⟩, (apartOk_one rfl rfl (Nat.le_of_ble_eq_true rfl)), ?_⟩
            refine ar_len rfl strAV ((gI l i).names) rfl rfl rfl ?_
            refine ⟨trivial, ?_⟩
            exact key
          · replace h3 : size < IntKind.i64.wrap ((IntKind.i64.wrap ((IntKind.i64.wrap (n_ + (((gI l i).s).length : Int))) + (((gI l i).t).length : Int))) + (weightV size ((gI l i).v))) := (of_decide_eq_true h3)
            intro key
            refine ar_off rfl (ar_off rfl (ar_off rfl (ar_off rfl (ar_off rfl (ar_off rfl (ar_off rfl ?_))))))
            exact key
        refine hK1 _ _ ?_; clear hK1 K1
        refine awp_cond rfl rfl (fun h4 => ?_) (fun h4 => ?_)
        · replace h4 : (size < IntKind.i64.wrap ((IntKind.i64.wrap ((IntKind.i64.wrap (n_ + (((gI l i).s).length : Int))) + (((gI l i).t).length : Int))) + (weightV size ((gI l i).v)))) ∨ (12 < (((gI l i).names).length : Int)) := ((borT h4).imp (fun q => (of_decide_eq_true q)) (fun q => (of_decide_eq_true q)))
          refine awp_reg2_seq [] [6] (by decide) ?_
          intro K1 hK1
          refine ⟨trivial, ?_⟩
          show K1 [(6, .bool false)] m
          refine hK1 _ _ ?_; clear hK1 K1
          refine awp_ret ?_
          refine ⟨trivial, m, fun _ _ h => h, ?_⟩
          show K (.bool false) m
         
          refine K_eq hK (congrArg AV.bool ?_)
          rw [hI.2.2, drop_gI hI.1 h2, lightF, if_pos (by first | exact h4 | simpa [actW] using h4)]
        · replace h4 : (IntKind.i64.wrap ((IntKind.i64.wrap ((IntKind.i64.wrap (n_ + (((gI l i).s).length : Int))) + (((gI l i).t).length : Int))) + (weightV size ((gI l i).v))) ≤ size) ∧ ((((gI l i).names).length : Int) ≤ 12) := ⟨(Int.not_lt.1 (of_decide_eq_false (borL h4))), (Int.not_lt.1 (of_decide_eq_false (borR h4)))⟩
          refine awp_skip ?_
          refine hK6 _ _ ?_; clear hK6
          refine awp_reg2_seq [] [0, 2, 7, 8, 9] (by decide) ?_
          intro K1 hK1
          refine ⟨trivial, ?_⟩
          show K1 [(0, .slice false (l.map actAV)), (2, .int .i64 size), (7, .int .i64 (IntKind.i64.wrap ((IntKind.i64.wrap ((IntKind.i64.wrap (n_ + (((gI l i).s).length : Int))) + (((gI l i).t).length : Int))) + (weightV size ((gI l i).v))))), (8, .int .i64 i), (9, .int .i64 0)] m
          refine hK1 _ _ ?_; clear hK1 K1
          refine awp_block ?_
          refine awp_keep [0, 2, 7, 8, 9] (by decide) ?_
          refine awp_loop_st (σ := Int × Int) (fun ⟨n2, k⟩ => [(0, .slice false (l.map actAV)), (2, .int .i64 size), (7, .int .i64 n2), (8, .int .i64 i), (9, .int .i64 k)]) (fun _ => m) (fun ⟨n2, k⟩ => 0 ≤ k ∧ k ≤ (gI l i).names.length ∧ n2 = namesW (actW size n_ (gI l i)) ((gI l i).names.take k.toNat)) (fun ⟨n2, k⟩ => (gI l i).names.length - k.toNat) (IntKind.i64.wrap ((IntKind.i64.wrap ((IntKind.i64.wrap (n_ + (((gI l i).s).length : Int))) + (((gI l i).t).length : Int))) + (weightV size ((gI l i).v))), 0) rfl rfl ?_ ?_
          · show 0 ≤ ((0 : Int)) ∧ ((0 : Int)) ≤ (gI l i).names.length ∧ ((IntKind.i64.wrap ((IntKind.i64.wrap ((IntKind.i64.wrap (n_ + (((gI l i).s).length : Int))) + (((gI l i).t).length : Int))) + (weightV size ((gI l i).v))) : Int)) = namesW (actW size n_ (gI l i)) ((gI l i).names.take ((0 : Int)).toNat)
            exact ⟨by omega, by omega, rfl⟩
          · rintro ⟨n2, k⟩ hI2
            replace hI2 : 0 ≤ k ∧ k ≤ (gI l i).names.length ∧ n2 = namesW (actW size n_ (gI l i)) ((gI l i).names.take k.toNat) := hI2
            show AWP _ _ _ _ [(0, .slice false (l.map actAV)), (2, .int .i64 size), (7, .int .i64 n2), (8, .int .i64 i), (9, .int .i64 k)] m
            refine awp_seq_k ?_; intro K7 hK7
            refine awp_reg2_seq [] [0, 2, 7, 8, 9, 62] (by decide) ?_
            intro K1 hK1
            refine ⟨trivial, trivial, trivial, ?_⟩
            refine ar_index rfl actAV l i rfl rfl rfl rfl rfl (by decide) (fun _ => rfl) (by omega) (by omega) ?_
            refine ⟨⟨rfl, by decide, (Nat.le_of_ble_eq_true rfl)⟩, (apartOk_one rfl rfl (Nat.le_of_ble_eq_true rfl)), ?_⟩
            refine ar_len rfl strAV ((gI l i).names) rfl rfl rfl ?_
            refine ⟨trivial, ?_⟩
            show K1 [(0, .slice false (l.map actAV)), (2, .int .i64 size), (7, .int .i64 n2), (8, .int .i64 i), (9, .int .i64 k), (62, .bool (decide (k < (((gI l i).names).length : Int))))] m
            refine hK1 _ _ ?_; clear hK1 K1
            refine awp_cond rfl rfl (fun h5 => ?_) (fun h5 => ?_)
            · replace h5 : k < (((gI l i).names).length : Int) := (of_decide_eq_true h5)
              refine awp_skip ?_
              refine hK7 _ _ ?_; clear hK7
              refine awp_seq_k ?_; intro K8 hK8
              refine awp_block ?_
              refine awp_reg2 [] [0, 2, 7, 8, 9] (by decide) ?_
              intro K1 hK1
              refine ⟨trivial, trivial, trivial, ?_⟩
              refine ar_index rfl actAV l i rfl rfl rfl rfl rfl (by decide) (fun _ => rfl) (by omega) (by omega) ?_
              refine ⟨⟨rfl, by decide, (Nat.le_of_ble_eq_true rfl)⟩, (apartOk_one rfl rfl (Nat.le_of_ble_eq_true rfl)), trivial, ?_⟩
              refine ar_index rfl strAV ((gI l i).names) k rfl rfl rfl rfl rfl (by decide) (fun _ => rfl) (by omega) (by omega) ?_
              refine ⟨(apartOk_one rfl rfl (Nat.le_of_ble_eq_true rfl)), trivial, trivial, trivial, ?_⟩
              show K1 [(0, .slice false (l.map actAV)), (2, .int .i64 size), (7, .int .i64 (IntKind.i64.wrap (n2 + ((gI ((gI l i).names) k).length : Int)))), (8, .int .i64 i), (9, .int .i64 k)] m
              refine hK1 _ _ ?_; clear hK1 K1
              refine hK8 _ _ ?_; clear hK8
              refine awp_reg2 [] [0, 2, 7, 8, 9] (by decide) ?_
              intro K1 hK1
              refine ⟨trivial, ?_⟩
              refine ar_add rfl (a := k) (b := 1) rfl rfl (by omega) (by omega) ?_
              refine ⟨trivial, ?_⟩
              show K1 [(0, .slice false (l.map actAV)), (2, .int .i64 size), (7, .int .i64 (IntKind.i64.wrap (n2 + ((gI ((gI l i).names) k).length : Int)))), (8, .int .i64 i), (9, .int .i64 (k + 1))] m
              refine hK1 _ _ ?_; clear hK1 K1
              refine ⟨(IntKind.i64.wrap (n2 + ((gI ((gI l i).names) k).length : Int)), k + 1), rfl, rfl, ?_, ?_⟩
              · show 0 ≤ ((k + 1 : Int)) ∧ ((k + 1 : Int)) ≤ (gI l i).names.length ∧ ((IntKind.i64.wrap (n2 + ((gI ((gI l i).names) k).length : Int)) : Int)) = namesW (actW size n_ (gI l i)) ((gI l i).names.take ((k + 1 : Int)).toNat)
                exact ⟨by omega, by omega, by rw [take_succ_gI hI2.1 h5, namesW, List.foldl_append, hI2.2.2]; rfl⟩
              · show (gI l i).names.length - ((k + 1 : Int)).toNat < (gI l i).names.length - k.toNat
                omega
            · replace h5 : (((gI l i).names).length : Int) ≤ k := (Int.not_lt.1 (of_decide_eq_false h5))
              refine awp_exit ?_
              refine hK5 _ _ ?_; clear hK5
              refine awp_reg2 [] [0, 2, 7, 8] (by decide) ?_
              intro K1 hK1
              refine ⟨trivial, ?_⟩
              refine ar_add rfl (a := i) (b := 1) rfl rfl (by omega) (by omega) ?_
              refine ⟨trivial, ?_⟩
              show K1 [(0, .slice false (l.map actAV)), (2, .int .i64 size), (7, .int .i64 n2), (8, .int .i64 (i + 1))] m
              refine hK1 _ _ ?_; clear hK1 K1
              refine ⟨(n2, i + 1), rfl, rfl, ?_, ?_⟩
              · show 0 ≤ ((i + 1 : Int)) ∧ ((i + 1 : Int)) ≤ l.length ∧ lightA l most size = lightF size (l.drop ((i + 1 : Int)).toNat) ((n2 : Int))
                refine ⟨by omega, by omega, ?_⟩
                rw [hI.2.2, drop_gI hI.1 h2, lightF, if_neg (by intro hh; rcases hh with hh | hh <;> first | omega | (unfold actW at hh; omega)), hI2.2.2, take_full h5]
              · show l.length - ((i + 1 : Int)).toNat < l.length - i.toNat
                omega
      · replace h2 : (l.length : Int) ≤ i := (Int.not_lt.1 (of_decide_eq_false h2))
        refine awp_exit ?_
        refine hK3 _ _ ?_; clear hK3
        refine awp_reg2_seq [] [6] (by decide) ?_
        intro K1 hK1
        refine ⟨trivial, trivial, trivial, trivial, ?_⟩
        show K1 [(6, .bool (decide (n_ ≤ size)))] m
        refine hK1 _ _ ?_; clear hK1 K1
        refine awp_ret ?_
        refine ⟨trivial, m, fun _ _ h => h, ?_⟩
        show K (.bool (decide (n_ ≤ size))) m
       
        refine K_eq hK (congrArg AV.bool ?_)
        rw [hI.2.2, List.drop_eq_nil_of_le (by omega)]; rfl

end Go.Proofs
