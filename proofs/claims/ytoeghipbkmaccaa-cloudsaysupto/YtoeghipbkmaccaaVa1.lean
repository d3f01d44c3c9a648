import Derived.Test.YtoeghipbkmaccaaProg
import Derived.Test.YtoeghipbkmaccaaWl8
import Derived.Test.YtoeghipbkmaccaaWxw
namespace Go.Proofs
open Go Go.Aw
set_option maxRecDepth 100000


theorem depL_len (l : List Val) : l.length ≤ depL l := by
  induction l with
  | nil => exact Nat.le_refl _
  | cons v r ih => have := depV_eq v; simp only [depL, List.length_cons]; omega
theorem depF_len (l : List (Str × Val)) : l.length ≤ depF l := by
  induction l with
  | nil => exact Nat.le_refl _
  | cons p r ih =>
    obtain ⟨s, v⟩ := p
    cases v with
    | mk k n t l f => simp only [depF, List.length_cons]; omega
def letC (c : UInt8) : Bool := decide (97 ≤ (c.toNat : Int)) && decide ((c.toNat : Int) ≤ 122)
def digC (c : UInt8) : Bool := decide (48 ≤ (c.toNat : Int)) && decide ((c.toNat : Int) ≤ 57)
/-- The letters of a name: the first one is no digit. -/
def nmF : Str → Bool → Bool
  | [], _ => true
  | c :: r, first => (letC c || (!first && digC c)) && nmF r false
def nameV (s : Str) : Bool := nmF s true && !(s == []) && decide ((s.length : Int) ≤ 12)
theorem nmF_step {s : Str} {i : Int} (h0 : 0 ≤ i) (hi : i < s.length) : nmF (s.drop i.toNat) (i == 0) = ((letC (gI s i) || (!(i == 0) && digC (gI s i))) && nmF (s.drop (i + 1).toNat) (i + 1 == 0)) := by
  have e : (i + 1 == 0) = false := by simp; omega
  rw [drop_gI h0 hi, nmF, e]

set_option maxHeartbeats 2000000 in
theorem u_VName (s : Str) (hs : s.length ≤ 140737488355328) (m : AMem)  (K : AV → AMem → Prop) (hK : K (.bool (nameV s)) m) : ACalls Try.prog 80 [.str s] m K := by
 refine acalls_enter Try.func80 rfl (by decide) (Nat.le_of_ble_eq_true rfl) ?_
 show AWP _ _ _ _ [(0, .str s)] m
 refine awp_reg2_seq [] [0] (by decide) ?_
 intro K1 hK1
 refine ⟨trivial, ?_⟩
 show K1 [(0, .str s)] m
 refine hK1 _ _ ?_; clear hK1 K1
 refine awp_seq_k ?_; intro K2 hK2
 refine awp_reg2_seq [] [0, 6, 7] (by decide) ?_
 intro K1 hK1
 refine ⟨trivial, trivial, trivial, ?_⟩
 show K1 [(0, .str s), (6, .int .i64 (s.length : Int)), (7, .int .i64 0)] m
 refine hK1 _ _ ?_; clear hK1 K1
 refine awp_block ?_
 refine awp_keep [0, 6, 7] (by decide) ?_
 refine awp_loop_st (σ := Int) (fun i => [(0, .str s), (6, .int .i64 (s.length : Int)), (7, .int .i64 i)]) (fun _ => m) (fun i => 0 ≤ i ∧ i ≤ s.length ∧ nmF s true = nmF (s.drop i.toNat) (i == 0)) (fun i => s.length - i.toNat) (0) rfl rfl ?_ ?_
 ·
  show 0 ≤ ((0 : Int)) ∧ ((0 : Int)) ≤ s.length ∧ nmF s true = nmF (s.drop ((0 : Int)).toNat) (((0 : Int)) == 0)
  exact ⟨by omega, by omega, by simp⟩
 rintro i hI
 replace hI : 0 ≤ i ∧ i ≤ s.length ∧ nmF s true = nmF (s.drop i.toNat) (i == 0) := hI
 show AWP _ _ _ _ [(0, .str s), (6, .int .i64 (s.length : Int)), (7, .int .i64 i)] m
 refine awp_reg2_seq [] [0, 6, 7, 8] (by decide) ?_
 intro K1 hK1
 refine ⟨trivial, ?_⟩
 show K1 [(0, .str s), (6, .int .i64 (s.length : Int)), (7, .int .i64 i), (8, .bool (decide (i < (s.length : Int))))] m
 refine hK1 _ _ ?_; clear hK1 K1
 refine awp_seq_k ?_; intro K3 hK3
 refine awp_cond rfl rfl (fun h1 => ?_) (fun h1 => ?_)
 ·
  replace h1 : i < (s.length : Int) := (of_decide_eq_true h1)
  refine awp_skip ?_
  refine hK3 _ _ ?_; clear hK3
  refine awp_seq_k ?_; intro K4 hK4
  refine awp_block ?_
  refine awp_reg2_seq [] [0, 3, 6, 7] (by decide) ?_
  intro K1 hK1
  refine ⟨trivial, trivial, ?_⟩
  show K1 [(0, .str s), (3, .int .i64 i), (6, .int .i64 (s.length : Int)), (7, .int .i64 i)] m
  refine hK1 _ _ ?_; clear hK1 K1
  refine awp_reg2_seq [] [0, 3, 4, 6, 7] (by decide) ?_
  intro K1 hK1
  refine ⟨trivial, trivial, ⟨(by omega), (by omega)⟩, trivial, ?_⟩
  show K1 [(0, .str s), (3, .int .i64 i), (4, .int .u8 ((gI s i).toNat)), (6, .int .i64 (s.length : Int)), (7, .int .i64 i)] m
  refine hK1 _ _ ?_; clear hK1 K1
  refine awp_reg2_seq [] [0, 6, 7, 30] (by decide) ?_
  intro K1 hK1
  suffices key : K1 [(0, .str s), (6, .int .i64 (s.length : Int)), (7, .int .i64 i), (30, .bool (((decide (((gI s i).toNat : Int) < 97)) || (decide (122 < ((gI s i).toNat : Int)))) && (((i == 0) || (decide (((gI s i).toNat : Int) < 48))) || (decide (57 < ((gI s i).toNat : Int))))))] m by
   refine ⟨trivial, trivial, trivial, ?_⟩
   show aopsR _ _ _ _ _ [(15, .bool (decide (((gI s i).toNat : Int) < 97))), (14, .bool (decide (((gI s i).toNat : Int) < 97))), (13, .int .u8 ((gI s i).toNat)), (0, .str s), (3, .int .i64 i), (4, .int .u8 ((gI s i).toNat)), (6, .int .i64 (s.length : Int)), (7, .int .i64 i)] _
   revert key
   cases h2 : (decide (((gI s i).toNat : Int) < 97))
   ·
    replace h2 : 97 ≤ ((gI s i).toNat : Int) := (Int.not_lt.1 (of_decide_eq_false h2))
    intro key
    refine ⟨trivial, trivial, ?_⟩
    refine ⟨trivial, ?_⟩
    show aopsR _ _ _ _ _ [(19, .bool (decide (122 < ((gI s i).toNat : Int)))), (18, .bool (decide (122 < ((gI s i).toNat : Int)))), (17, .bool (decide (122 < ((gI s i).toNat : Int)))), (16, .int .u8 ((gI s i).toNat)), (15, .bool false), (14, .bool false), (13, .int .u8 ((gI s i).toNat)), (0, .str s), (3, .int .i64 i), (4, .int .u8 ((gI s i).toNat)), (6, .int .i64 (s.length : Int)), (7, .int .i64 i)] _
    revert key
    cases h3 : (decide (122 < ((gI s i).toNat : Int)))
    ·
     replace h3 : ((gI s i).toNat : Int) ≤ 122 := (Int.not_lt.1 (of_decide_eq_false h3))
     intro key
     refine ar_off rfl (ar_off rfl (ar_off rfl (ar_off rfl (ar_off rfl (ar_off rfl (ar_off rfl (ar_off rfl (ar_off rfl (ar_off rfl ?_)))))))))
     exact key
    ·
     replace h3 : 122 < ((gI s i).toNat : Int) := (of_decide_eq_true h3)
     intro key
     refine ⟨trivial, trivial, trivial, ?_⟩
     show aopsR _ _ _ _ _ [(22, .bool (i == 0)), (21, .bool (i == 0)), (20, .int .i64 i), (19, .bool true), (18, .bool true), (17, .bool true), (16, .int .u8 ((gI s i).toNat)), (15, .bool false), (14, .bool false), (13, .int .u8 ((gI s i).toNat)), (0, .str s), (3, .int .i64 i), (4, .int .u8 ((gI s i).toNat)), (6, .int .i64 (s.length : Int)), (7, .int .i64 i)] _
     revert key
     cases h4 : (i == 0)
     ·
      replace h4 : i ≠ 0 := (ne_of_beq_false h4)
      intro key
      refine ⟨trivial, trivial, ?_⟩
      refine ⟨trivial, ?_⟩
      show aopsR _ _ _ _ _ [(26, .bool (decide (((gI s i).toNat : Int) < 48))), (25, .bool (decide (((gI s i).toNat : Int) < 48))), (24, .bool (decide (((gI s i).toNat : Int) < 48))), (23, .int .u8 ((gI s i).toNat)), (22, .bool false), (21, .bool false), (20, .int .i64 i), (19, .bool true), (18, .bool true), (17, .bool true), (16, .int .u8 ((gI s i).toNat)), (15, .bool false), (14, .bool false), (13, .int .u8 ((gI s i).toNat)), (0, .str s), (3, .int .i64 i), (4, .int .u8 ((gI s i).toNat)), (6, .int .i64 (s.length : Int)), (7, .int .i64 i)] _
      revert key
      cases h5 : (decide (((gI s i).toNat : Int) < 48))
      ·
       replace h5 : 48 ≤ ((gI s i).toNat : Int) := (Int.not_lt.1 (of_decide_eq_false h5))
       intro key
       refine ⟨trivial, trivial, ?_⟩
       exact key
      ·
       replace h5 : ((gI s i).toNat : Int) < 48 := (of_decide_eq_true h5)
       intro key
       refine ar_off rfl (ar_off rfl ?_)
       exact key
     ·
      replace h4 : i = 0 := (eq_of_beq h4)
      intro key
      refine ar_off rfl (ar_off rfl ?_)
      refine ⟨trivial, ?_⟩
      refine ar_off rfl (ar_off rfl ?_)
      exact key
   ·
    replace h2 : ((gI s i).toNat : Int) < 97 := (of_decide_eq_true h2)
    intro key
    refine ar_off rfl (ar_off rfl ?_)
    refine ⟨trivial, trivial, trivial, trivial, ?_⟩
    show aopsR _ _ _ _ _ [(22, .bool (i == 0)), (21, .bool (i == 0)), (20, .int .i64 i), (19, .bool true), (18, .bool true), (17, .lazy false (.junk)), (16, .lazy false (.junk)), (15, .bool true), (14, .bool true), (13, .int .u8 ((gI s i).toNat)), (0, .str s), (3, .int .i64 i), (4, .int .u8 ((gI s i).toNat)), (6, .int .i64 (s.length : Int)), (7, .int .i64 i)] _
    revert key
    cases h6 : (i == 0)
    ·
     replace h6 : i ≠ 0 := (ne_of_beq_false h6)
     intro key
     refine ⟨trivial, trivial, ?_⟩
     refine ⟨trivial, ?_⟩
     show aopsR _ _ _ _ _ [(26, .bool (decide (((gI s i).toNat : Int) < 48))), (25, .bool (decide (((gI s i).toNat : Int) < 48))), (24, .bool (decide (((gI s i).toNat : Int) < 48))), (23, .int .u8 ((gI s i).toNat)), (22, .bool false), (21, .bool false), (20, .int .i64 i), (19, .bool true), (18, .bool true), (17, .lazy false (.junk)), (16, .lazy false (.junk)), (15, .bool true), (14, .bool true), (13, .int .u8 ((gI s i).toNat)), (0, .str s), (3, .int .i64 i), (4, .int .u8 ((gI s i).toNat)), (6, .int .i64 (s.length : Int)), (7, .int .i64 i)] _
     revert key
     cases h7 : (decide (((gI s i).toNat : Int) < 48))
     ·
      replace h7 : 48 ≤ ((gI s i).toNat : Int) := (Int.not_lt.1 (of_decide_eq_false h7))
      intro key
      refine ⟨trivial, trivial, ?_⟩
      exact key
     ·
      replace h7 : ((gI s i).toNat : Int) < 48 := (of_decide_eq_true h7)
      intro key
      refine ar_off rfl (ar_off rfl ?_)
      exact key
    ·
     replace h6 : i = 0 := (eq_of_beq h6)
     intro key
     refine ar_off rfl (ar_off rfl ?_)
     refine ⟨trivial, ?_⟩
     refine ar_off rfl (ar_off rfl ?_)
     exact key
  refine hK1 _ _ ?_; clear hK1 K1
  refine awp_cond rfl rfl (fun h8 => ?_) (fun h8 => ?_)
  ·
   replace h8 : ((((gI s i).toNat : Int) < 97) ∨ (122 < ((gI s i).toNat : Int))) ∧ (((i = 0) ∨ (((gI s i).toNat : Int) < 48)) ∨ (57 < ((gI s i).toNat : Int))) := ⟨((borT (bandL h8)).imp (fun q => (of_decide_eq_true q)) (fun q => (of_decide_eq_true q))), ((borT (bandR h8)).imp (fun q => ((borT q).imp (fun q => (eq_of_beq q)) (fun q => (of_decide_eq_true q)))) (fun q => (of_decide_eq_true q)))⟩
   refine awp_reg2_seq [] [2] (by decide) ?_
   intro K1 hK1
   refine ⟨trivial, ?_⟩
   show K1 [(2, .bool false)] m
   refine hK1 _ _ ?_; clear hK1 K1
   refine awp_ret ?_
   refine ⟨trivial, m, fun _ _ h => h, ?_⟩
   show K (.bool false) m
  
   refine K_eq hK (congrArg AV.bool ?_)
   have hb : (letC (gI s i) || (!(i == 0) && digC (gI s i))) = false := by
    rw [Bool.eq_false_iff]; intro hh; simp [letC, digC] at hh; omega
   rw [nameV, hI.2.2, nmF_step hI.1 h1, hb]; rfl
  replace h8 : ((97 ≤ ((gI s i).toNat : Int)) ∧ (((gI s i).toNat : Int) ≤ 122)) ∨ (((i ≠ 0) ∧ (48 ≤ ((gI s i).toNat : Int))) ∧ (((gI s i).toNat : Int) ≤ 57)) := ((bandF h8).imp (fun q => ⟨(Int.not_lt.1 (of_decide_eq_false (borL q))), (Int.not_lt.1 (of_decide_eq_false (borR q)))⟩) (fun q => ⟨⟨(ne_of_beq_false (borL (borL q))), (Int.not_lt.1 (of_decide_eq_false (borR (borL q))))⟩, (Int.not_lt.1 (of_decide_eq_false (borR q)))⟩))
  refine awp_skip ?_
  refine hK4 _ _ ?_; clear hK4
  refine awp_reg2 [] [0, 6, 7] (by decide) ?_
  intro K1 hK1
  refine ar_add rfl (a := i) (b := 1) rfl rfl (by omega) (by omega) ?_
  refine ⟨trivial, ?_⟩
  show K1 [(0, .str s), (6, .int .i64 (s.length : Int)), (7, .int .i64 (i + 1))] m
  refine hK1 _ _ ?_; clear hK1 K1
  refine ⟨(i + 1), rfl, rfl, ?_, ?_⟩
  ·
   show 0 ≤ ((i + 1 : Int)) ∧ ((i + 1 : Int)) ≤ s.length ∧ nmF s true = nmF (s.drop ((i + 1 : Int)).toNat) (((i + 1 : Int)) == 0)
   have hb : (letC (gI s i) || (!(i == 0) && digC (gI s i))) = true := by simp [letC, digC]; omega
   exact ⟨by omega, by omega, by rw [hI.2.2, nmF_step hI.1 h1, hb]; rfl⟩
  ·
   show s.length - ((i + 1 : Int)).toNat < s.length - i.toNat
   omega
 replace h1 : (s.length : Int) ≤ i := (Int.not_lt.1 (of_decide_eq_false h1))
 refine awp_exit ?_
 refine hK2 _ _ ?_; clear hK2
 refine awp_reg2_seq [] [2] (by decide) ?_
 intro K1 hK1
 suffices key : K1 [(2, .bool ((!(s == ([]))) && (decide ((s.length : Int) ≤ 12))))] m by
  refine ⟨trivial, trivial, trivial, ?_⟩
  show aopsR _ _ _ _ _ [(34, .bool (!(s == ([])))), (33, .bool (!(s == ([])))), (32, .str s), (0, .str s), (6, .int .i64 (s.length : Int)), (7, .int .i64 i), (8, .bool (decide (i < (s.length : Int))))] _
  revert key
  cases h9 : (s == ([]))
  ·
   replace h9 : s ≠ [] := (ne_of_beq_false h9)
   intro key
   refine ⟨trivial, trivial, trivial, ?_⟩
   refine ⟨trivial, ?_⟩
   exact key
  ·
   replace h9 : s = [] := (eq_of_beq h9)
   intro key
   refine ar_off rfl (ar_off rfl (ar_off rfl ?_))
   refine ⟨trivial, ?_⟩
   exact key
 refine hK1 _ _ ?_; clear hK1 K1
 refine awp_ret ?_
 refine ⟨trivial, m, fun _ _ h => h, ?_⟩
 show K (.bool ((!(s == ([]))) && (decide ((s.length : Int) ≤ 12)))) m

 refine K_eq hK (congrArg AV.bool ?_)
 have ha : nmF s true = true := by rw [hI.2.2, List.drop_eq_nil_of_le (by omega)]; rfl
 rw [nameV, ha]; cases s <;> simp


/- No list in a value is too long. -/
mutual
def okV : Val → Prop
  | .mk _ _ _ l f => (l.length ≤ 1759218604441 ∧ f.length ≤ 1466015503701) ∧ okVL l ∧ okVF f
def okVL : List Val → Prop
  | [] => True
  | v :: r => okV v ∧ okVL r
def okVF : List (Str × Val) → Prop
  | [] => True
  | (_, .mk _ _ _ l f) :: r => ((l.length ≤ 1759218604441 ∧ f.length ≤ 1466015503701) ∧ okVL l ∧ okVF f) ∧ okVF r
end
theorem okV_eq (v : Val) : okV v ↔ (v.l.length ≤ 1759218604441 ∧ v.f.length ≤ 1466015503701) ∧ okVL v.l ∧ okVF v.f := by
  cases v with
  | mk k n s l f => simp only [okV, Val.l, Val.f]
theorem okVL_iff (l : List Val) : okVL l ↔ ∀ v ∈ l, okV v := by
  induction l with
  | nil => simp [okVL]
  | cons v r ih => simp [okVL, ih]
theorem okVF_iff (l : List (Str × Val)) : okVF l ↔ ∀ p ∈ l, okV p.2 := by
  induction l with
  | nil => simp [okVF]
  | cons p r ih =>
    obtain ⟨s, v⟩ := p
    cases v with
    | mk k n t l f => simp [okVF, okV, ih]
theorem okV_iff (v : Val) : okV v ↔ (v.l.length ≤ 1759218604441 ∧ v.f.length ≤ 1466015503701) ∧ (∀ w ∈ v.l, okV w) ∧ ∀ p ∈ v.f, okV p.2 := by
  rw [okV_eq, okVL_iff, okVF_iff]
theorem okV_small : ∀ (n : Nat) (v : Val), depV v < n → depV v ≤ 1000000000 → okV v
  | 0, _, h, _ => absurd h (Nat.not_lt_zero _)
  | n + 1, v, h, hz => by
    have e := depV_eq v
    have h1 := depL_len v.l
    have h2 := depF_len v.f
    rw [okV_iff]
    exact ⟨⟨by omega, by omega⟩, fun w hw => okV_small n w (by have := depL_mem hw; omega) (by have := depL_mem hw; omega), fun p hp => okV_small n p.2 (by have := depF_mem hp; omega) (by have := depF_mem hp; omega)⟩

set_option maxHeartbeats 4000000 in
theorem u_Copy1 (v : Val) (hz : okV v) (ih : ∀ w : Val, depV w < depV v → okV w → ∀ (m : AMem) (K : AV → AMem → Prop), K (valTop w) m → ACalls Try.prog 82 [valTop w] m K) (m : AMem)  (K : AV → AMem → Prop) (hK : K (valTop v) m) : ACalls Try.prog 82 [valTop v] m K := by
 have hok := (okV_iff v).1 hz
 have hl1 := hok.1.1
 have hf1 := hok.1.2
 refine acalls_enter Try.func82 rfl (by decide) (Nat.le_of_ble_eq_true rfl) ?_
 show AWP _ _ _ _ [(0, valTop v)] m
 refine awp_reg2_seq [] [1, 2] (by decide) ?_
 intro K1 hK1
 refine ar_box rfl (m := m) (L := []) (v := valTop v) (by rfl) rfl ?_
 intro b1 hb1
 have hFb1 : m b1 = none := wth_none (m := m) (L := []) hb1
 have hNb1 : ([b1] : List Nat).Nodup := wth_nodup (m := m) (L := []) hb1 List.nodup_nil
 refine ar_alloc rfl (z := .agg [.int .i64 0, .int .i64 0, .str ([]), .slice true [], .slice true []]) rfl rfl ?_
 intro b2 hb2
 have hFb2 : m b2 = none := wth_none hb2
 have hNb2 : ([b2, b1] : List Nat).Nodup := wth_nodup hb2 hNb1
 show K1 [(1, .ptr ⟨b1, 0, none⟩), (2, .ptr ⟨b2, 0, none⟩)] (AMem.wth m [(b2, .cells [.int .i64 0, .int .i64 0, .str ([]), .slice true [], .slice true []]), (b1, .cells [.int .i64 v.kind, .int .i64 v.n, .str v.s, .slice false (v.l.map valIn), .slice false (v.f.map fldIn)])])
 refine hK1 _ _ ?_; clear hK1 K1
 refine awp_draw_seq Try.mixed [] [1, 2, 3, 4] (by decide) (by decide) ?_
 intro K1 hK1
 refine ⟨⟨rfl, by decide⟩, ?_⟩
 refine pq_loadp rfl (v := .slice false (v.l.map valIn)) rfl (wth_get 1 hNb2 rfl) (apartOk_one rfl rfl (Nat.le_of_ble_eq_true rfl)) rfl ?_
 refine ⟨⟨rfl, by decide⟩, ?_⟩
 refine pq_loadp rfl (v := .slice false (v.f.map fldIn)) rfl (wth_get 1 hNb2 rfl) (apartOk_one rfl rfl (Nat.le_of_ble_eq_true rfl)) rfl ?_
 refine ⟨trivial, trivial, ?_⟩
 show K1 [(1, .ptr ⟨b1, 0, none⟩), (2, .ptr ⟨b2, 0, none⟩), (3, .slice false (v.l.map valIn)), (4, .slice false (v.f.map fldIn))] _
 refine hK1 _ _ ?_; clear hK1 K1
 refine awp_reg2_seq [] [1, 2, 3, 4] (by decide) ?_
 intro K1 hK1
 refine ⟨⟨rfl, by decide⟩, ?_⟩
 refine ar_storep rfl 1 (v := .slice true []) (l' := [.int .i64 v.kind, .int .i64 v.n, .str v.s, .slice true [], .slice false (v.f.map fldIn)]) rfl rfl hNb2 rfl rfl rfl rfl rfl (Nat.le_of_ble_eq_true rfl) rfl ?_
 refine ⟨⟨rfl, by decide⟩, ?_⟩
 refine ar_storep rfl 1 (v := .slice true []) (l' := [.int .i64 v.kind, .int .i64 v.n, .str v.s, .slice true [], .slice true []]) rfl rfl hNb2 rfl rfl rfl rfl rfl (Nat.le_of_ble_eq_true rfl) rfl ?_
 show K1 [(1, .ptr ⟨b1, 0, none⟩), (2, .ptr ⟨b2, 0, none⟩), (3, .slice false (v.l.map valIn)), (4, .slice false (v.f.map fldIn))] (AMem.wth m [(b2, .cells [.int .i64 0, .int .i64 0, .str ([]), .slice true [], .slice true []]), (b1, .cells [.int .i64 v.kind, .int .i64 v.n, .str v.s, .slice true [], .slice true []])])
 refine hK1 _ _ ?_; clear hK1 K1
 refine awp_seq_k ?_; intro K2 hK2
 refine awp_reg2_seq [] [1, 2, 4, 15, 16, 17] (by decide) ?_
 intro K1 hK1
 refine ⟨trivial, ?_⟩
 refine ar_len rfl valIn v.l rfl rfl rfl ?_
 refine ⟨trivial, ?_⟩
 show K1 [(1, .ptr ⟨b1, 0, none⟩), (2, .ptr ⟨b2, 0, none⟩), (4, .slice false (v.f.map fldIn)), (15, .slice false (v.l.map valIn)), (16, .int .i64 (v.l.length : Int)), (17, .int .i64 0)] _
 refine hK1 _ _ ?_; clear hK1 K1
 refine awp_block ?_
 refine awp_keep [1, 2, 4, 15, 16, 17] (by decide) ?_
 refine awp_loop_st (σ := Int × (List Val)) (fun ⟨i, ol⟩ => [(1, .ptr ⟨b1, 0, none⟩), (2, .ptr ⟨b2, 0, none⟩), (4, .slice false (v.f.map fldIn)), (15, .slice false (v.l.map valIn)), (16, .int .i64 (v.l.length : Int)), (17, .int .i64 i)]) (fun ⟨i, ol⟩ => (AMem.wth m [(b2, .cells [.int .i64 0, .int .i64 0, .str ([]), .slice true [], .slice true []]), (b1, .cells [.int .i64 v.kind, .int .i64 v.n, .str v.s, .slice true (ol.map valIn), .slice true []])])) (fun ⟨i, ol⟩ => 0 ≤ i ∧ i ≤ v.l.length ∧ ol = v.l.take i.toNat) (fun ⟨i, ol⟩ => v.l.length - i.toNat) (0, []) rfl rfl ?_ ?_
 ·
  show 0 ≤ ((0 : Int)) ∧ ((0 : Int)) ≤ v.l.length ∧ (([] : (List Val))) = v.l.take ((0 : Int)).toNat
  exact ⟨by omega, by omega, rfl⟩
 rintro ⟨i, ol⟩ hI
 replace hI : 0 ≤ i ∧ i ≤ v.l.length ∧ ol = v.l.take i.toNat := hI
 have hol : ol.length ≤ v.l.length := by rw [hI.2.2, List.length_take]; omega
 have hol2 : (ol.length : Int) ≤ i := by rw [hI.2.2, List.length_take]; omega
 show AWP _ _ _ _ [(1, .ptr ⟨b1, 0, none⟩), (2, .ptr ⟨b2, 0, none⟩), (4, .slice false (v.f.map fldIn)), (15, .slice false (v.l.map valIn)), (16, .int .i64 (v.l.length : Int)), (17, .int .i64 i)] (AMem.wth m [(b2, .cells [.int .i64 0, .int .i64 0, .str ([]), .slice true [], .slice true []]), (b1, .cells [.int .i64 v.kind, .int .i64 v.n, .str v.s, .slice true (ol.map valIn), .slice true []])])
 refine awp_reg2_seq [] [1, 2, 4, 15, 16, 17, 18] (by decide) ?_
 intro K1 hK1
 refine ⟨trivial, ?_⟩
 show K1 [(1, .ptr ⟨b1, 0, none⟩), (2, .ptr ⟨b2, 0, none⟩), (4, .slice false (v.f.map fldIn)), (15, .slice false (v.l.map valIn)), (16, .int .i64 (v.l.length : Int)), (17, .int .i64 i), (18, .bool (decide (i < (v.l.length : Int))))] _
 refine hK1 _ _ ?_; clear hK1 K1
 refine awp_seq_k ?_; intro K3 hK3
 refine awp_cond rfl rfl (fun h1 => ?_) (fun h1 => ?_)
 ·
  replace h1 : i < (v.l.length : Int) := (of_decide_eq_true h1)
  refine awp_skip ?_
  refine hK3 _ _ ?_; clear hK3
  refine awp_seq_k ?_; intro K4 hK4
  refine awp_block ?_
  refine awp_reg2_seq [] [1, 2, 4, 6, 15, 16, 17] (by decide) ?_
  intro K1 hK1
  refine ar_index rfl valTop v.l i rfl rfl (valMap v.l) rfl rfl (by decide) (fun _ => rfl) (by omega) (by omega) ?_
  refine ⟨(apartOk_agg rfl rfl (Nat.le_of_ble_eq_true rfl)), ?_⟩
  refine ar_alloc rfl (z := .agg [.int .i64 0, .int .i64 0, .str ([]), .slice true [], .slice true []]) rfl rfl ?_
  intro b3 hb3
  have hFb3 : m b3 = none := wth_none hb3
  have hNb3 : ([b3, b2, b1] : List Nat).Nodup := wth_nodup hb3 hNb2
  refine ar_storep rfl 0 (v := valTop (gI v.l i)) (l' := [.int .i64 ((gI v.l i).kind), .int .i64 ((gI v.l i).n), .str ((gI v.l i).s), .slice false (((gI v.l i).l).map valIn), .slice false (((gI v.l i).f).map fldIn)]) rfl (by rfl) hNb3 rfl rfl rfl rfl rfl (Nat.le_of_ble_eq_true rfl) rfl ?_
  show K1 [(1, .ptr ⟨b1, 0, none⟩), (2, .ptr ⟨b2, 0, none⟩), (4, .slice false (v.f.map fldIn)), (6, .ptr ⟨b3, 0, none⟩), (15, .slice false (v.l.map valIn)), (16, .int .i64 (v.l.length : Int)), (17, .int .i64 i)] (AMem.wth m [(b3, .cells [.int .i64 ((gI v.l i).kind), .int .i64 ((gI v.l i).n), .str ((gI v.l i).s), .slice false (((gI v.l i).l).map valIn), .slice false (((gI v.l i).f).map fldIn)]), (b2, .cells [.int .i64 0, .int .i64 0, .str ([]), .slice true [], .slice true []]), (b1, .cells [.int .i64 v.kind, .int .i64 v.n, .str v.s, .slice true (ol.map valIn), .slice true []])])
  refine hK1 _ _ ?_; clear hK1 K1
  refine awp_anyA Try.mixed [1, 2, 4, 15, 16, 17] (by decide) ?_
  intro K1 hK1
  intro A hA
  suffices key : ∀ (_ : True), K1 [(1, .ptr ⟨b1, 0, none⟩), (2, .ptr ⟨b2, 0, none⟩), (4, .slice false (v.f.map fldIn)), (15, .slice false (v.l.map valIn)), (16, .int .i64 (v.l.length : Int)), (17, .int .i64 i)] (AMem.wth m [(b3, .cells [.int .i64 ((gI v.l i).kind), .int .i64 ((gI v.l i).n), .str ((gI v.l i).s), .slice false (((gI v.l i).l).map valIn), .slice false (((gI v.l i).f).map fldIn)]), (b2, .cells [.int .i64 0, .int .i64 0, .str ([]), .slice true [], .slice true []]), (b1, .cells [.int .i64 v.kind, .int .i64 v.n, .str v.s, .slice true ((ol ++ ([(gI v.l i)] : List Val)).map valIn), .slice true []])]) by
   let KK1 : Fr → AMem → Prop := (fun fr m => K1 (fr.keep [1, 2, 4, 15, 16, 17]) m)
   let f1_0 : Nat × AV := (1, .ptr ⟨b1, 0, none⟩)
   let f1_1 : Nat × AV := (2, .ptr ⟨b2, 0, none⟩)
   let f1_2 : Nat × AV := (4, .slice false (v.f.map fldIn))
   let f1_3 : Nat × AV := (15, .slice false (v.l.map valIn))
   let f1_4 : Nat × AV := (16, .int .i64 (v.l.length : Int))
   let f1_5 : Nat × AV := (17, .int .i64 i)
   let M1_6 : AMem := (AMem.wth m [(b3, .cells [.int .i64 ((gI v.l i).kind), .int .i64 ((gI v.l i).n), .str ((gI v.l i).s), .slice false (((gI v.l i).l).map valIn), .slice false (((gI v.l i).f).map fldIn)]), (b2, .cells [.int .i64 0, .int .i64 0, .str ([]), .slice true [], .slice true []]), (b1, .cells [.int .i64 v.kind, .int .i64 v.n, .str v.s, .slice true ((ol ++ ([(gI v.l i)] : List Val)).map valIn), .slice true []])])
   let f1_7 : Nat × AV := (26, .slice true ((ol ++ ([(gI v.l i)] : List Val)).map valIn))
   let f1_8 : Nat × AV := (27, .ptr ⟨b1, 3, none⟩)
   let M1_9 : AMem := (AMem.wth m [(b3, .cells [.int .i64 ((gI v.l i).kind), .int .i64 ((gI v.l i).n), .str ((gI v.l i).s), .slice false (((gI v.l i).l).map valIn), .slice false (((gI v.l i).f).map fldIn)]), (b2, .cells [.int .i64 0, .int .i64 0, .str ([]), .slice true [], .slice true []]), (b1, .cells [.int .i64 v.kind, .int .i64 v.n, .str v.s, .slice false (ol.map valIn), .slice true []])])
   let f1_10 : Nat × AV := (22, .slice true (ol.map valIn))
   let f1_11 : Nat × AV := (25, .slice true [valTop (gI v.l i)])
   let f1_12 : Nat × AV := (24, valTop (gI v.l i))
   let f1_13 : Nat × AV := (21, .ptr ⟨b1, 3, none⟩)
   let M1_14 : AMem := (AMem.wth m [(b3, .cells [.int .i64 ((gI v.l i).kind), .int .i64 ((gI v.l i).n), .str ((gI v.l i).s), .slice false (((gI v.l i).l).map valIn), .slice false (((gI v.l i).f).map fldIn)]), (b2, .cells [.int .i64 0, .int .i64 0, .str ([]), .slice true [], .slice true []]), (b1, .cells [.int .i64 v.kind, .int .i64 v.n, .str v.s, .slice true (ol.map valIn), .slice true []])])
   let f1_15 : Nat × AV := (23, .agg [.int .i64 ((gI v.l i).kind), .int .i64 ((gI v.l i).n), .str ((gI v.l i).s), .slice false (((gI v.l i).l).map valIn), .slice false (((gI v.l i).f).map fldIn)])
   let f1_16 : Nat × AV := (6, .ptr ⟨b3, 0, none⟩)
   have s0 : ∀ (_ : True), A 0 #[true, true, true, true, true, true, true, true] KK1 [f1_0, f1_1, f1_2, f1_3, f1_4, f1_5] M1_6 := by
    intro _
    subst hA
    exact AAny.done (by decide +kernel) (key trivial)
   have s1 : ∀ (_ : True), A 1 #[true, true, true, true, true, true, true, false] KK1 [f1_0, f1_1, f1_2, f1_3, f1_4, f1_5, f1_7, f1_8] M1_9 := by
    intro _
    subst hA
    refine AAny.step [22] [7] (by decide +kernel) (by simp) (by decide) ⟨?_, trivial⟩
    ·
     show aopsR _ _ _ [_] _ _ _
     refine ar_storep rfl 2 (v := .slice true ((ol ++ ([(gI v.l i)] : List Val)).map valIn)) (l' := [.int .i64 v.kind, .int .i64 v.n, .str v.s, .slice true ((ol ++ ([(gI v.l i)] : List Val)).map valIn), .slice true []]) rfl rfl hNb3 rfl rfl rfl rfl rfl (Nat.le_of_ble_eq_true rfl) rfl ?_
     refine AAny.keep [1, 2, 4, 15, 16, 17] (by decide) ?_
     exact s0 trivial
   clear s0
   have s2 : ∀ (_ : True), A 3 #[true, true, true, true, true, false, false, false] KK1 [f1_0, f1_1, f1_2, f1_3, f1_4, f1_5, f1_10, f1_11] M1_9 := by
    intro _
    subst hA
    refine AAny.step [22] [5] (by decide +kernel) (by simp) (by decide) ⟨?_, trivial⟩
    ·
     show aopsR _ _ _ [_] _ _ _
     refine ar_append rfl valIn ol ([(gI v.l i)] : List Val) rfl rfl rfl rfl (by simp only [List.map_cons, List.map_nil, valIn_eq]; try rfl) rfl (Nat.le_of_ble_eq_true rfl) rfl (by (simp only [show Try.prog.bytesOf 46 = 80 from rfl, List.length_append, List.length_cons, List.length_nil]; omega)) (by (first | omega | (simp only [List.length_append, List.length_cons, List.length_nil]; omega))) (fun a => by rw [valIn_eq]; exact ⟨rfl, rfl⟩) ?_
     refine AAny.fField (i := 6) rfl rfl rfl (by decide) rfl (by decide +kernel) rfl rfl ⟨rfl, by decide⟩ ?_
     refine AAny.keep [1, 2, 4, 15, 16, 17, 26, 27] (by decide) ?_
     exact s1 trivial
   clear s1
   have s3 : ∀ (_ : True), A 4 #[true, true, true, true, false, false, false, false] KK1 [f1_0, f1_1, f1_2, f1_3, f1_4, f1_5, f1_10, f1_12] M1_9 := by
    intro _
    subst hA
    refine AAny.step [22] [4] (by decide +kernel) (by simp) (by decide) ⟨?_, trivial⟩
    ·
     show aopsR _ _ _ [_] _ _ _
     refine ⟨⟨rfl, Nat.le_of_ble_eq_true rfl, rfl, Nat.le_of_ble_eq_true rfl, rfl, by simp only [List.forall_mem_cons]; exact ⟨⟨rfl, rfl⟩, fun _ h => by cases h⟩⟩, ?_⟩
     refine AAny.keep [1, 2, 4, 15, 16, 17, 22, 25] (by decide) ?_
     exact s2 trivial
   have s4 : ∀ (_ : True), A 4 #[true, false, true, true, true, false, false, false] KK1 [f1_0, f1_1, f1_2, f1_3, f1_4, f1_5, f1_13, f1_11] M1_14 := by
    intro _
    subst hA
    refine AAny.step [22] [1] (by decide +kernel) (by simp) (by decide) ⟨?_, trivial⟩
    ·
     show aopsR _ _ _ [_] _ _ _
     refine ar_loads rfl (i := 2) rfl hNb3 rfl rfl rfl rfl (Nat.le_of_ble_eq_true rfl) ?_
     refine AAny.keep [1, 2, 4, 15, 16, 17, 22, 25] (by decide) ?_
     exact s2 trivial
   clear s2
   have s5 : ∀ (_ : True), A 5 #[true, true, true, false, false, false, false, false] KK1 [f1_0, f1_1, f1_2, f1_3, f1_4, f1_5, f1_10, f1_15] M1_9 := by
    intro _
    subst hA
    refine AAny.step [22] [3] (by decide +kernel) (by simp) (by decide) ⟨?_, trivial⟩
    ·
     show aopsR _ _ _ [_] _ _ _
     refine ih (gI v.l i) (by have := depV_eq v; first | (have := depL_mem (gI_mem (l := v.l) (i := i) hI.1 (by assumption)); omega) | (have := depF_mem (gI_mem (l := v.f) (i := k) hI2.1 (by assumption)); omega)) (by first | exact hok.2.1 _ (gI_mem (l := v.l) (i := i) hI.1 (by assumption)) | exact hok.2.2 _ (gI_mem (l := v.f) (i := k) hI2.1 (by assumption))) _ _ ?_
     refine AAny.keep [1, 2, 4, 15, 16, 17, 22, 24] (by decide) ?_
     exact s3 trivial
   have s6 : ∀ (_ : True), A 5 #[true, false, true, true, false, false, false, false] KK1 [f1_0, f1_1, f1_2, f1_3, f1_4, f1_5, f1_13, f1_12] M1_14 := by
    intro _
    subst hA
    refine AAny.step [22] [1, 4] (by decide +kernel) (by simp) (by decide) ⟨?_, ?_, trivial⟩
    ·
     show aopsR _ _ _ [_] _ _ _
     refine ar_loads rfl (i := 2) rfl hNb3 rfl rfl rfl rfl (Nat.le_of_ble_eq_true rfl) ?_
     refine AAny.keep [1, 2, 4, 15, 16, 17, 22, 24] (by decide) ?_
     exact s3 trivial
    ·
     show aopsR _ _ _ [_] _ _ _
     refine ⟨⟨rfl, Nat.le_of_ble_eq_true rfl, rfl, Nat.le_of_ble_eq_true rfl, rfl, by simp only [List.forall_mem_cons]; exact ⟨⟨rfl, rfl⟩, fun _ h => by cases h⟩⟩, ?_⟩
     refine AAny.keep [1, 2, 4, 15, 16, 17, 21, 25] (by decide) ?_
     exact s4 trivial
   clear s3 s4
   have s7 : ∀ (_ : True), A 6 #[true, true, false, false, false, false, false, false] KK1 [f1_0, f1_1, f1_2, f1_16, f1_3, f1_4, f1_5, f1_10] M1_9 := by
    intro _
    subst hA
    refine AAny.step [22] [2] (by decide +kernel) (by simp) (by decide) ⟨?_, trivial⟩
    ·
     show aopsR _ _ _ [_] _ _ _
     refine ar_loadp rfl (v := .agg [.int .i64 ((gI v.l i).kind), .int .i64 ((gI v.l i).n), .str ((gI v.l i).s), .slice false (((gI v.l i).l).map valIn), .slice false (((gI v.l i).f).map fldIn)]) rfl (wth_get 0 hNb3 rfl) rfl (apartOk_agg rfl rfl (Nat.le_of_ble_eq_true rfl)) rfl ?_
     refine AAny.keep [1, 2, 4, 15, 16, 17, 22, 23] (by decide) ?_
     exact s5 trivial
   have s8 : ∀ (_ : True), A 6 #[true, false, true, false, false, false, false, false] KK1 [f1_0, f1_1, f1_2, f1_3, f1_4, f1_5, f1_13, f1_15] M1_14 := by
    intro _
    subst hA
    refine AAny.step [22] [1, 3] (by decide +kernel) (by simp) (by decide) ⟨?_, ?_, trivial⟩
    ·
     show aopsR _ _ _ [_] _ _ _
     refine ar_loads rfl (i := 2) rfl hNb3 rfl rfl rfl rfl (Nat.le_of_ble_eq_true rfl) ?_
     refine AAny.keep [1, 2, 4, 15, 16, 17, 22, 23] (by decide) ?_
     exact s5 trivial
    ·
     show aopsR _ _ _ [_] _ _ _
     refine ih (gI v.l i) (by have := depV_eq v; first | (have := depL_mem (gI_mem (l := v.l) (i := i) hI.1 (by assumption)); omega) | (have := depF_mem (gI_mem (l := v.f) (i := k) hI2.1 (by assumption)); omega)) (by first | exact hok.2.1 _ (gI_mem (l := v.l) (i := i) hI.1 (by assumption)) | exact hok.2.2 _ (gI_mem (l := v.f) (i := k) hI2.1 (by assumption))) _ _ ?_
     refine AAny.keep [1, 2, 4, 15, 16, 17, 21, 24] (by decide) ?_
     exact s6 trivial
   clear s5 s6
   have s9 : ∀ (_ : True), A 7 #[true, false, false, false, false, false, false, false] KK1 [f1_0, f1_1, f1_2, f1_16, f1_3, f1_4, f1_5, f1_13] M1_14 := by
    intro _
    subst hA
    refine AAny.step [22] [1, 2] (by decide +kernel) (by simp) (by decide) ⟨?_, ?_, trivial⟩
    ·
     show aopsR _ _ _ [_] _ _ _
     refine ar_loads rfl (i := 2) rfl hNb3 rfl rfl rfl rfl (Nat.le_of_ble_eq_true rfl) ?_
     refine AAny.keep [1, 2, 4, 6, 15, 16, 17, 22] (by decide) ?_
     exact s7 trivial
    ·
     show aopsR _ _ _ [_] _ _ _
     refine ar_loadp rfl (v := .agg [.int .i64 ((gI v.l i).kind), .int .i64 ((gI v.l i).n), .str ((gI v.l i).s), .slice false (((gI v.l i).l).map valIn), .slice false (((gI v.l i).f).map fldIn)]) rfl (wth_get 0 hNb3 rfl) rfl (apartOk_agg rfl rfl (Nat.le_of_ble_eq_true rfl)) rfl ?_
     refine AAny.keep [1, 2, 4, 15, 16, 17, 21, 23] (by decide) ?_
     exact s8 trivial
   clear s7 s8
   subst hA
   refine AAny.fField (i := 0) rfl rfl rfl (by decide) rfl (by decide +kernel) rfl rfl ⟨rfl, by decide⟩ ?_
   refine AAny.keep [1, 2, 4, 6, 15, 16, 17, 21] (by decide) ?_
   exact s9 trivial
  intro _
  refine hK1 _ _ ?_; clear hK1 K1
  refine hK4 _ _ ?_; clear hK4
  have hNd1 : ([b2, b1] : List Nat).Nodup := drop_nodup (L := [(b3, .cells [.int .i64 ((gI v.l i).kind), .int .i64 ((gI v.l i).n), .str ((gI v.l i).s), .slice false (((gI v.l i).l).map valIn), .slice false (((gI v.l i).f).map fldIn)]), (b2, .cells [.int .i64 0, .int .i64 0, .str ([]), .slice true [], .slice true []]), (b1, .cells [.int .i64 v.kind, .int .i64 v.n, .str v.s, .slice true ((ol ++ ([(gI v.l i)] : List Val)).map valIn), .slice true []])]) hNb3 (pick_perm [0] _)
  refine awp_dropP [(b3, .cells [.int .i64 ((gI v.l i).kind), .int .i64 ((gI v.l i).n), .str ((gI v.l i).s), .slice false (((gI v.l i).l).map valIn), .slice false (((gI v.l i).f).map fldIn)])] [(b2, .cells [.int .i64 0, .int .i64 0, .str ([]), .slice true [], .slice true []]), (b1, .cells [.int .i64 v.kind, .int .i64 v.n, .str v.s, .slice true ((ol ++ ([(gI v.l i)] : List Val)).map valIn), .slice true []])] hNb3 (pick_perm [0] _) (by simp only [List.map_cons, List.map_nil, List.forall_mem_cons]; exact ⟨hFb3, fun _ h => by cases h⟩) ?_
  refine awp_reg2 [] [1, 2, 4, 15, 16, 17] (by decide) ?_
  intro K1 hK1
  refine ar_add rfl (a := i) (b := 1) rfl rfl (by omega) (by omega) ?_
  refine ⟨trivial, ?_⟩
  show K1 [(1, .ptr ⟨b1, 0, none⟩), (2, .ptr ⟨b2, 0, none⟩), (4, .slice false (v.f.map fldIn)), (15, .slice false (v.l.map valIn)), (16, .int .i64 (v.l.length : Int)), (17, .int .i64 (i + 1))] (AMem.wth m [(b2, .cells [.int .i64 0, .int .i64 0, .str ([]), .slice true [], .slice true []]), (b1, .cells [.int .i64 v.kind, .int .i64 v.n, .str v.s, .slice true ((ol ++ ([(gI v.l i)] : List Val)).map valIn), .slice true []])])
  refine hK1 _ _ ?_; clear hK1 K1
  refine ⟨(i + 1, ol ++ ([(gI v.l i)] : List Val)), rfl, rfl, ?_, ?_⟩
  ·
   show 0 ≤ ((i + 1 : Int)) ∧ ((i + 1 : Int)) ≤ v.l.length ∧ ((ol ++ ([(gI v.l i)] : List Val) : (List Val))) = v.l.take ((i + 1 : Int)).toNat
   exact ⟨by omega, by omega, by rw [take_succ_gI hI.1 (by assumption), ← hI.2.2]⟩
  ·
   show v.l.length - ((i + 1 : Int)).toNat < v.l.length - i.toNat
   omega
 replace h1 : (v.l.length : Int) ≤ i := (Int.not_lt.1 (of_decide_eq_false h1))
 refine awp_exit ?_
 refine hK2 _ _ ?_; clear hK2
 refine awp_seq_k ?_; intro K5 hK5
 refine awp_reg2_seq [] [1, 2, 29, 30, 31] (by decide) ?_
 intro K1 hK1
 refine ⟨trivial, ?_⟩
 refine ar_len rfl fldIn v.f rfl rfl rfl ?_
 refine ⟨trivial, ?_⟩
 show K1 [(1, .ptr ⟨b1, 0, none⟩), (2, .ptr ⟨b2, 0, none⟩), (29, .slice false (v.f.map fldIn)), (30, .int .i64 (v.f.length : Int)), (31, .int .i64 0)] (AMem.wth m [(b2, .cells [.int .i64 0, .int .i64 0, .str ([]), .slice true [], .slice true []]), (b1, .cells [.int .i64 v.kind, .int .i64 v.n, .str v.s, .slice true (ol.map valIn), .slice true []])])
 refine hK1 _ _ ?_; clear hK1 K1
 refine awp_block ?_
 refine awp_keep [1, 2, 29, 30, 31] (by decide) ?_
 refine awp_loop_st (σ := Int × (List (Str × Val))) (fun ⟨k, of⟩ => [(1, .ptr ⟨b1, 0, none⟩), (2, .ptr ⟨b2, 0, none⟩), (29, .slice false (v.f.map fldIn)), (30, .int .i64 (v.f.length : Int)), (31, .int .i64 k)]) (fun ⟨k, of⟩ => (AMem.wth m [(b2, .cells [.int .i64 0, .int .i64 0, .str ([]), .slice true [], .slice true []]), (b1, .cells [.int .i64 v.kind, .int .i64 v.n, .str v.s, .slice true (ol.map valIn), .slice true (of.map fldIn)])])) (fun ⟨k, of⟩ => 0 ≤ k ∧ k ≤ v.f.length ∧ of = v.f.take k.toNat) (fun ⟨k, of⟩ => v.f.length - k.toNat) (0, []) rfl rfl ?_ ?_
 ·
  show 0 ≤ ((0 : Int)) ∧ ((0 : Int)) ≤ v.f.length ∧ (([] : (List (Str × Val)))) = v.f.take ((0 : Int)).toNat
  exact ⟨by omega, by omega, rfl⟩
 rintro ⟨k, of⟩ hI2
 replace hI2 : 0 ≤ k ∧ k ≤ v.f.length ∧ of = v.f.take k.toNat := hI2
 have hof : of.length ≤ v.f.length := by rw [hI2.2.2, List.length_take]; omega
 have hof2 : (of.length : Int) ≤ k := by rw [hI2.2.2, List.length_take]; omega
 show AWP _ _ _ _ [(1, .ptr ⟨b1, 0, none⟩), (2, .ptr ⟨b2, 0, none⟩), (29, .slice false (v.f.map fldIn)), (30, .int .i64 (v.f.length : Int)), (31, .int .i64 k)] (AMem.wth m [(b2, .cells [.int .i64 0, .int .i64 0, .str ([]), .slice true [], .slice true []]), (b1, .cells [.int .i64 v.kind, .int .i64 v.n, .str v.s, .slice true (ol.map valIn), .slice true (of.map fldIn)])])
 refine awp_reg2_seq [] [1, 2, 29, 30, 31, 32] (by decide) ?_
 intro K1 hK1
 refine ⟨trivial, ?_⟩
 show K1 [(1, .ptr ⟨b1, 0, none⟩), (2, .ptr ⟨b2, 0, none⟩), (29, .slice false (v.f.map fldIn)), (30, .int .i64 (v.f.length : Int)), (31, .int .i64 k), (32, .bool (decide (k < (v.f.length : Int))))] _
 refine hK1 _ _ ?_; clear hK1 K1
 refine awp_seq_k ?_; intro K6 hK6
 refine awp_cond rfl rfl (fun h2 => ?_) (fun h2 => ?_)
 ·
  replace h2 : k < (v.f.length : Int) := (of_decide_eq_true h2)
  refine awp_skip ?_
  refine hK6 _ _ ?_; clear hK6
  refine awp_seq_k ?_; intro K7 hK7
  refine awp_block ?_
  refine awp_reg2_seq [] [1, 2, 8, 29, 30, 31] (by decide) ?_
  intro K1 hK1
  refine ar_index rfl fldTop v.f k rfl rfl (fldMap v.f) rfl rfl (by decide) (fun _ => rfl) (by omega) (by omega) ?_
  refine ⟨(apartOk_agg rfl rfl (Nat.le_of_ble_eq_true rfl)), ?_⟩
  refine ar_alloc rfl (z := .agg [.str ([]), .int .i64 0, .int .i64 0, .str ([]), .slice true [], .slice true []]) rfl rfl ?_
  intro b4 hb4
  have hFb4 : m b4 = none := wth_none hb4
  have hNb4 : ([b4, b2, b1] : List Nat).Nodup := wth_nodup hb4 hNb2
  refine ar_storep rfl 0 (v := fldTop (gI v.f k)) (l' := [.str ((gI v.f k).1), .int .i64 (((gI v.f k).2).kind), .int .i64 (((gI v.f k).2).n), .str (((gI v.f k).2).s), .slice false ((((gI v.f k).2).l).map valIn), .slice false ((((gI v.f k).2).f).map fldIn)]) rfl (by rfl) hNb4 rfl rfl rfl rfl rfl (Nat.le_of_ble_eq_true rfl) rfl ?_
  show K1 [(1, .ptr ⟨b1, 0, none⟩), (2, .ptr ⟨b2, 0, none⟩), (8, .ptr ⟨b4, 0, none⟩), (29, .slice false (v.f.map fldIn)), (30, .int .i64 (v.f.length : Int)), (31, .int .i64 k)] (AMem.wth m [(b4, .cells [.str ((gI v.f k).1), .int .i64 (((gI v.f k).2).kind), .int .i64 (((gI v.f k).2).n), .str (((gI v.f k).2).s), .slice false ((((gI v.f k).2).l).map valIn), .slice false ((((gI v.f k).2).f).map fldIn)]), (b2, .cells [.int .i64 0, .int .i64 0, .str ([]), .slice true [], .slice true []]), (b1, .cells [.int .i64 v.kind, .int .i64 v.n, .str v.s, .slice true (ol.map valIn), .slice true (of.map fldIn)])])
  refine hK1 _ _ ?_; clear hK1 K1
  refine awp_anyA Try.mixed [1, 2, 29, 30, 31] (by decide) ?_
  intro K1 hK1
  intro A hA
  suffices key : ∀ (_ : True), K1 [(1, .ptr ⟨b1, 0, none⟩), (2, .ptr ⟨b2, 0, none⟩), (29, .slice false (v.f.map fldIn)), (30, .int .i64 (v.f.length : Int)), (31, .int .i64 k)] (AMem.wth m [(b4, .cells [.str ((gI v.f k).1), .int .i64 (((gI v.f k).2).kind), .int .i64 (((gI v.f k).2).n), .str (((gI v.f k).2).s), .slice false ((((gI v.f k).2).l).map valIn), .slice false ((((gI v.f k).2).f).map fldIn)]), (b2, .cells [.int .i64 0, .int .i64 0, .str ([]), .slice true [], .slice true []]), (b1, .cells [.int .i64 v.kind, .int .i64 v.n, .str v.s, .slice true (ol.map valIn), .slice true ((of ++ ([(gI v.f k)] : List (Str × Val))).map fldIn)])]) by
   let KK2 : Fr → AMem → Prop := (fun fr m => K1 (fr.keep [1, 2, 29, 30, 31]) m)
   let f2_0 : Nat × AV := (1, .ptr ⟨b1, 0, none⟩)
   let f2_1 : Nat × AV := (2, .ptr ⟨b2, 0, none⟩)
   let f2_2 : Nat × AV := (29, .slice false (v.f.map fldIn))
   let f2_3 : Nat × AV := (30, .int .i64 (v.f.length : Int))
   let f2_4 : Nat × AV := (31, .int .i64 k)
   let M2_5 : AMem := (AMem.wth m [(b4, .cells [.str ((gI v.f k).1), .int .i64 (((gI v.f k).2).kind), .int .i64 (((gI v.f k).2).n), .str (((gI v.f k).2).s), .slice false ((((gI v.f k).2).l).map valIn), .slice false ((((gI v.f k).2).f).map fldIn)]), (b2, .cells [.int .i64 0, .int .i64 0, .str ([]), .slice true [], .slice true []]), (b1, .cells [.int .i64 v.kind, .int .i64 v.n, .str v.s, .slice true (ol.map valIn), .slice true ((of ++ ([(gI v.f k)] : List (Str × Val))).map fldIn)])])
   let f2_6 : Nat × AV := (44, .slice true ((of ++ ([(gI v.f k)] : List (Str × Val))).map fldIn))
   let f2_7 : Nat × AV := (45, .ptr ⟨b1, 4, none⟩)
   let M2_8 : AMem := (AMem.wth m [(b4, .cells [.str ((gI v.f k).1), .int .i64 (((gI v.f k).2).kind), .int .i64 (((gI v.f k).2).n), .str (((gI v.f k).2).s), .slice false ((((gI v.f k).2).l).map valIn), .slice false ((((gI v.f k).2).f).map fldIn)]), (b2, .cells [.int .i64 0, .int .i64 0, .str ([]), .slice true [], .slice true []]), (b1, .cells [.int .i64 v.kind, .int .i64 v.n, .str v.s, .slice true (ol.map valIn), .slice false (of.map fldIn)])])
   let f2_9 : Nat × AV := (36, .slice true (of.map fldIn))
   let f2_10 : Nat × AV := (43, .slice true [.agg [.str ((gI v.f k).1), .int .i64 (((gI v.f k).2).kind), .int .i64 (((gI v.f k).2).n), .str (((gI v.f k).2).s), .slice false ((((gI v.f k).2).l).map valIn), .slice false ((((gI v.f k).2).f).map fldIn)]])
   let f2_11 : Nat × AV := (42, .agg [.str ((gI v.f k).1), .int .i64 (((gI v.f k).2).kind), .int .i64 (((gI v.f k).2).n), .str (((gI v.f k).2).s), .slice false ((((gI v.f k).2).l).map valIn), .slice false ((((gI v.f k).2).f).map fldIn)])
   let f2_12 : Nat × AV := (35, .ptr ⟨b1, 4, none⟩)
   let M2_13 : AMem := (AMem.wth m [(b4, .cells [.str ((gI v.f k).1), .int .i64 (((gI v.f k).2).kind), .int .i64 (((gI v.f k).2).n), .str (((gI v.f k).2).s), .slice false ((((gI v.f k).2).l).map valIn), .slice false ((((gI v.f k).2).f).map fldIn)]), (b2, .cells [.int .i64 0, .int .i64 0, .str ([]), .slice true [], .slice true []]), (b1, .cells [.int .i64 v.kind, .int .i64 v.n, .str v.s, .slice true (ol.map valIn), .slice true (of.map fldIn)])])
   let f2_14 : Nat × AV := (38, .str ((gI v.f k).1))
   let f2_15 : Nat × AV := (41, valTop ((gI v.f k).2))
   let f2_16 : Nat × AV := (40, .agg [.int .i64 (((gI v.f k).2).kind), .int .i64 (((gI v.f k).2).n), .str (((gI v.f k).2).s), .slice false ((((gI v.f k).2).l).map valIn), .slice false ((((gI v.f k).2).f).map fldIn)])
   let f2_17 : Nat × AV := (37, .ptr ⟨b4, 0, none⟩)
   let f2_18 : Nat × AV := (39, .ptr ⟨b4, 1, none⟩)
   have s0 : ∀ (_ : True), A 0 #[true, true, true, true, true, true, true, true, true, true, true, true] KK2 [f2_0, f2_1, f2_2, f2_3, f2_4] M2_5 := by
    intro _
    subst hA
    exact AAny.done (by decide +kernel) (key trivial)
   have s1 : ∀ (_ : True), A 1 #[true, true, true, true, true, true, true, true, true, true, true, false] KK2 [f2_0, f2_1, f2_2, f2_3, f2_4, f2_6, f2_7] M2_8 := by
    intro _
    subst hA
    refine AAny.step [36] [11] (by decide +kernel) (by simp) (by decide) ⟨?_, trivial⟩
    ·
     show aopsR _ _ _ [_] _ _ _
     refine ar_storep rfl 2 (v := .slice true ((of ++ ([(gI v.f k)] : List (Str × Val))).map fldIn)) (l' := [.int .i64 v.kind, .int .i64 v.n, .str v.s, .slice true (ol.map valIn), .slice true ((of ++ ([(gI v.f k)] : List (Str × Val))).map fldIn)]) rfl rfl hNb4 rfl rfl rfl rfl rfl (Nat.le_of_ble_eq_true rfl) rfl ?_
     refine AAny.keep [1, 2, 29, 30, 31] (by decide) ?_
     exact s0 trivial
   clear s0
   have s2 : ∀ (_ : True), A 3 #[true, true, true, true, true, true, true, true, true, false, false, false] KK2 [f2_0, f2_1, f2_2, f2_3, f2_4, f2_9, f2_10] M2_8 := by
    intro _
    subst hA
    refine AAny.step [36] [9] (by decide +kernel) (by simp) (by decide) ⟨?_, trivial⟩
    ·
     show aopsR _ _ _ [_] _ _ _
     refine ar_append rfl fldIn of ([(gI v.f k)] : List (Str × Val)) rfl rfl rfl rfl (by simp only [List.map_cons, List.map_nil, fldIn_eq]; try rfl) rfl (Nat.le_of_ble_eq_true rfl) rfl (by (simp only [show Try.prog.bytesOf 147 = 96 from rfl, List.length_append, List.length_cons, List.length_nil]; omega)) (by (first | omega | (simp only [List.length_append, List.length_cons, List.length_nil]; omega))) (fun a => by rw [fldIn_eq]; exact ⟨rfl, rfl⟩) ?_
     refine AAny.fField (i := 10) rfl rfl rfl (by decide) rfl (by decide +kernel) rfl rfl ⟨rfl, by decide⟩ ?_
     refine AAny.keep [1, 2, 29, 30, 31, 44, 45] (by decide) ?_
     exact s1 trivial
   clear s1
   have s3 : ∀ (_ : True), A 4 #[true, true, true, true, true, true, true, true, false, false, false, false] KK2 [f2_0, f2_1, f2_2, f2_3, f2_4, f2_9, f2_11] M2_8 := by
    intro _
    subst hA
    refine AAny.step [36] [8] (by decide +kernel) (by simp) (by decide) ⟨?_, trivial⟩
    ·
     show aopsR _ _ _ [_] _ _ _
     refine ⟨⟨rfl, Nat.le_of_ble_eq_true rfl, rfl, Nat.le_of_ble_eq_true rfl, rfl, by simp only [List.forall_mem_cons]; exact ⟨⟨rfl, rfl⟩, fun _ h => by cases h⟩⟩, ?_⟩
     refine AAny.keep [1, 2, 29, 30, 31, 36, 43] (by decide) ?_
     exact s2 trivial
   have s4 : ∀ (_ : True), A 4 #[true, false, true, true, true, true, true, true, true, false, false, false] KK2 [f2_0, f2_1, f2_2, f2_3, f2_4, f2_12, f2_10] M2_13 := by
    intro _
    subst hA
    refine AAny.step [36] [1] (by decide +kernel) (by simp) (by decide) ⟨?_, trivial⟩
    ·
     show aopsR _ _ _ [_] _ _ _
     refine ar_loads rfl (i := 2) rfl hNb4 rfl rfl rfl rfl (Nat.le_of_ble_eq_true rfl) ?_
     refine AAny.keep [1, 2, 29, 30, 31, 36, 43] (by decide) ?_
     exact s2 trivial
   clear s2
   have s5 : ∀ (_ : True), A 5 #[true, true, true, true, true, true, true, false, false, false, false, false] KK2 [f2_0, f2_1, f2_2, f2_3, f2_4, f2_9, f2_14, f2_15] M2_8 := by
    intro _
    subst hA
    refine AAny.step [36] [7] (by decide +kernel) (by simp) (by decide) ⟨?_, trivial⟩
    ·
     show aopsR _ _ _ [_] _ _ _
     refine ⟨⟨rfl, by simp only [List.forall_mem_cons]; exact ⟨rfl, rfl, fun _ h => by cases h⟩, by simp only [List.forall_mem_cons]; exact ⟨rfl, rfl, fun _ h => by cases h⟩⟩, ?_⟩
     refine AAny.keep [1, 2, 29, 30, 31, 36, 42] (by decide) ?_
     exact s3 trivial
   have s6 : ∀ (_ : True), A 5 #[true, false, true, true, true, true, true, true, false, false, false, false] KK2 [f2_0, f2_1, f2_2, f2_3, f2_4, f2_12, f2_11] M2_13 := by
    intro _
    subst hA
    refine AAny.step [36] [1, 8] (by decide +kernel) (by simp) (by decide) ⟨?_, ?_, trivial⟩
    ·
     show aopsR _ _ _ [_] _ _ _
     refine ar_loads rfl (i := 2) rfl hNb4 rfl rfl rfl rfl (Nat.le_of_ble_eq_true rfl) ?_
     refine AAny.keep [1, 2, 29, 30, 31, 36, 42] (by decide) ?_
     exact s3 trivial
    ·
     show aopsR _ _ _ [_] _ _ _
     refine ⟨⟨rfl, Nat.le_of_ble_eq_true rfl, rfl, Nat.le_of_ble_eq_true rfl, rfl, by simp only [List.forall_mem_cons]; exact ⟨⟨rfl, rfl⟩, fun _ h => by cases h⟩⟩, ?_⟩
     refine AAny.keep [1, 2, 29, 30, 31, 35, 43] (by decide) ?_
     exact s4 trivial
   clear s3 s4
   have s7 : ∀ (_ : True), A 6 #[true, true, true, true, true, true, false, false, false, false, false, false] KK2 [f2_0, f2_1, f2_2, f2_3, f2_4, f2_9, f2_14, f2_16] M2_8 := by
    intro _
    subst hA
    refine AAny.step [36] [6] (by decide +kernel) (by simp) (by decide) ⟨?_, trivial⟩
    ·
     show aopsR _ _ _ [_] _ _ _
     refine ih ((gI v.f k).2) (by have := depV_eq v; first | (have := depL_mem (gI_mem (l := v.l) (i := i) hI.1 (by assumption)); omega) | (have := depF_mem (gI_mem (l := v.f) (i := k) hI2.1 (by assumption)); omega)) (by first | exact hok.2.1 _ (gI_mem (l := v.l) (i := i) hI.1 (by assumption)) | exact hok.2.2 _ (gI_mem (l := v.f) (i := k) hI2.1 (by assumption))) _ _ ?_
     refine AAny.keep [1, 2, 29, 30, 31, 36, 38, 41] (by decide) ?_
     exact s5 trivial
   have s8 : ∀ (_ : True), A 6 #[true, true, true, false, true, true, true, false, false, false, false, false] KK2 [f2_0, f2_1, f2_2, f2_3, f2_4, f2_9, f2_17, f2_15] M2_8 := by
    intro _
    subst hA
    refine AAny.step [36] [3] (by decide +kernel) (by simp) (by decide) ⟨?_, trivial⟩
    ·
     show aopsR _ _ _ [_] _ _ _
     refine ar_loadp rfl (v := .str ((gI v.f k).1)) rfl (wth_get 0 hNb4 rfl) rfl (apartOk_one rfl rfl (Nat.le_of_ble_eq_true rfl)) rfl ?_
     refine AAny.keep [1, 2, 29, 30, 31, 36, 38, 41] (by decide) ?_
     exact s5 trivial
   have s9 : ∀ (_ : True), A 6 #[true, false, true, true, true, true, true, false, false, false, false, false] KK2 [f2_0, f2_1, f2_2, f2_3, f2_4, f2_12, f2_14, f2_15] M2_13 := by
    intro _
    subst hA
    refine AAny.step [36] [1, 7] (by decide +kernel) (by simp) (by decide) ⟨?_, ?_, trivial⟩
    ·
     show aopsR _ _ _ [_] _ _ _
     refine ar_loads rfl (i := 2) rfl hNb4 rfl rfl rfl rfl (Nat.le_of_ble_eq_true rfl) ?_
     refine AAny.keep [1, 2, 29, 30, 31, 36, 38, 41] (by decide) ?_
     exact s5 trivial
    ·
     show aopsR _ _ _ [_] _ _ _
     refine ⟨⟨rfl, by simp only [List.forall_mem_cons]; exact ⟨rfl, rfl, fun _ h => by cases h⟩, by simp only [List.forall_mem_cons]; exact ⟨rfl, rfl, fun _ h => by cases h⟩⟩, ?_⟩
     refine AAny.keep [1, 2, 29, 30, 31, 35, 42] (by decide) ?_
     exact s6 trivial
   clear s5 s6
   have s10 : ∀ (_ : True), A 7 #[true, true, true, true, true, false, false, false, false, false, false, false] KK2 [f2_0, f2_1, f2_2, f2_3, f2_4, f2_9, f2_14, f2_18] M2_8 := by
    intro _
    subst hA
    refine AAny.step [36] [5] (by decide +kernel) (by simp) (by decide) ⟨?_, trivial⟩
    ·
     show aopsR _ _ _ [_] _ _ _
     refine ar_loadp rfl (v := .agg [.int .i64 (((gI v.f k).2).kind), .int .i64 (((gI v.f k).2).n), .str (((gI v.f k).2).s), .slice false ((((gI v.f k).2).l).map valIn), .slice false ((((gI v.f k).2).f).map fldIn)]) rfl (wth_get 0 hNb4 rfl) rfl (apartOk_agg rfl rfl (Nat.le_of_ble_eq_true rfl)) rfl ?_
     refine AAny.keep [1, 2, 29, 30, 31, 36, 38, 40] (by decide) ?_
     exact s7 trivial
   have s11 : ∀ (_ : True), A 7 #[true, true, true, false, true, true, false, false, false, false, false, false] KK2 [f2_0, f2_1, f2_2, f2_3, f2_4, f2_9, f2_17, f2_16] M2_8 := by
    intro _
    subst hA
    refine AAny.step [36] [3, 6] (by decide +kernel) (by simp) (by decide) ⟨?_, ?_, trivial⟩
    ·
     show aopsR _ _ _ [_] _ _ _
     refine ar_loadp rfl (v := .str ((gI v.f k).1)) rfl (wth_get 0 hNb4 rfl) rfl (apartOk_one rfl rfl (Nat.le_of_ble_eq_true rfl)) rfl ?_
     refine AAny.keep [1, 2, 29, 30, 31, 36, 38, 40] (by decide) ?_
     exact s7 trivial
    ·
     show aopsR _ _ _ [_] _ _ _
     refine ih ((gI v.f k).2) (by have := depV_eq v; first | (have := depL_mem (gI_mem (l := v.l) (i := i) hI.1 (by assumption)); omega) | (have := depF_mem (gI_mem (l := v.f) (i := k) hI2.1 (by assumption)); omega)) (by first | exact hok.2.1 _ (gI_mem (l := v.l) (i := i) hI.1 (by assumption)) | exact hok.2.2 _ (gI_mem (l := v.f) (i := k) hI2.1 (by assumption))) _ _ ?_
     refine AAny.keep [1, 2, 29, 30, 31, 36, 37, 41] (by decide) ?_
     exact s8 trivial
   have s12 : ∀ (_ : True), A 7 #[true, false, true, true, true, true, false, false, false, false, false, false] KK2 [f2_0, f2_1, f2_2, f2_3, f2_4, f2_12, f2_14, f2_16] M2_13 := by
    intro _
    subst hA
    refine AAny.step [36] [1, 6] (by decide +kernel) (by simp) (by decide) ⟨?_, ?_, trivial⟩
    ·
     show aopsR _ _ _ [_] _ _ _
     refine ar_loads rfl (i := 2) rfl hNb4 rfl rfl rfl rfl (Nat.le_of_ble_eq_true rfl) ?_
     refine AAny.keep [1, 2, 29, 30, 31, 36, 38, 40] (by decide) ?_
     exact s7 trivial
    ·
     show aopsR _ _ _ [_] _ _ _
     refine ih ((gI v.f k).2) (by have := depV_eq v; first | (have := depL_mem (gI_mem (l := v.l) (i := i) hI.1 (by assumption)); omega) | (have := depF_mem (gI_mem (l := v.f) (i := k) hI2.1 (by assumption)); omega)) (by first | exact hok.2.1 _ (gI_mem (l := v.l) (i := i) hI.1 (by assumption)) | exact hok.2.2 _ (gI_mem (l := v.f) (i := k) hI2.1 (by assumption))) _ _ ?_
     refine AAny.keep [1, 2, 29, 30, 31, 35, 38, 41] (by decide) ?_
     exact s9 trivial
   clear s7
   have s13 : ∀ (_ : True), A 7 #[true, false, true, false, true, true, true, false, false, false, false, false] KK2 [f2_0, f2_1, f2_2, f2_3, f2_4, f2_12, f2_17, f2_15] M2_13 := by
    intro _
    subst hA
    refine AAny.step [36] [1, 3] (by decide +kernel) (by simp) (by decide) ⟨?_, ?_, trivial⟩
    ·
     show aopsR _ _ _ [_] _ _ _
     refine ar_loads rfl (i := 2) rfl hNb4 rfl rfl rfl rfl (Nat.le_of_ble_eq_true rfl) ?_
     refine AAny.keep [1, 2, 29, 30, 31, 36, 37, 41] (by decide) ?_
     exact s8 trivial
    ·
     show aopsR _ _ _ [_] _ _ _
     refine ar_loadp rfl (v := .str ((gI v.f k).1)) rfl (wth_get 0 hNb4 rfl) rfl (apartOk_one rfl rfl (Nat.le_of_ble_eq_true rfl)) rfl ?_
     refine AAny.keep [1, 2, 29, 30, 31, 35, 38, 41] (by decide) ?_
     exact s9 trivial
   clear s8 s9
   have s14 : ∀ (_ : True), A 8 #[true, true, true, false, true, false, false, false, false, false, false, false] KK2 [f2_0, f2_1, f2_2, f2_3, f2_4, f2_9, f2_17, f2_18] M2_8 := by
    intro _
    subst hA
    refine AAny.step [36] [3, 5] (by decide +kernel) (by simp) (by decide) ⟨?_, ?_, trivial⟩
    ·
     show aopsR _ _ _ [_] _ _ _
     refine ar_loadp rfl (v := .str ((gI v.f k).1)) rfl (wth_get 0 hNb4 rfl) rfl (apartOk_one rfl rfl (Nat.le_of_ble_eq_true rfl)) rfl ?_
     refine AAny.keep [1, 2, 29, 30, 31, 36, 38, 39] (by decide) ?_
     exact s10 trivial
    ·
     show aopsR _ _ _ [_] _ _ _
     refine ar_loadp rfl (v := .agg [.int .i64 (((gI v.f k).2).kind), .int .i64 (((gI v.f k).2).n), .str (((gI v.f k).2).s), .slice false ((((gI v.f k).2).l).map valIn), .slice false ((((gI v.f k).2).f).map fldIn)]) rfl (wth_get 0 hNb4 rfl) rfl (apartOk_agg rfl rfl (Nat.le_of_ble_eq_true rfl)) rfl ?_
     refine AAny.keep [1, 2, 29, 30, 31, 36, 37, 40] (by decide) ?_
     exact s11 trivial
   have s15 : ∀ (_ : True), A 8 #[true, false, true, true, true, false, false, false, false, false, false, false] KK2 [f2_0, f2_1, f2_2, f2_3, f2_4, f2_12, f2_14, f2_18] M2_13 := by
    intro _
    subst hA
    refine AAny.step [36] [1, 5] (by decide +kernel) (by simp) (by decide) ⟨?_, ?_, trivial⟩
    ·
     show aopsR _ _ _ [_] _ _ _
     refine ar_loads rfl (i := 2) rfl hNb4 rfl rfl rfl rfl (Nat.le_of_ble_eq_true rfl) ?_
     refine AAny.keep [1, 2, 29, 30, 31, 36, 38, 39] (by decide) ?_
     exact s10 trivial
    ·
     show aopsR _ _ _ [_] _ _ _
     refine ar_loadp rfl (v := .agg [.int .i64 (((gI v.f k).2).kind), .int .i64 (((gI v.f k).2).n), .str (((gI v.f k).2).s), .slice false ((((gI v.f k).2).l).map valIn), .slice false ((((gI v.f k).2).f).map fldIn)]) rfl (wth_get 0 hNb4 rfl) rfl (apartOk_agg rfl rfl (Nat.le_of_ble_eq_true rfl)) rfl ?_
     refine AAny.keep [1, 2, 29, 30, 31, 35, 38, 40] (by decide) ?_
     exact s12 trivial
   clear s10
   have s16 : ∀ (_ : True), A 8 #[true, false, true, false, true, true, false, false, false, false, false, false] KK2 [f2_0, f2_1, f2_2, f2_3, f2_4, f2_12, f2_17, f2_16] M2_13 := by
    intro _
    subst hA
    refine AAny.step [36] [1, 3, 6] (by decide +kernel) (by simp) (by decide) ⟨?_, ?_, ?_, trivial⟩
    ·
     show aopsR _ _ _ [_] _ _ _
     refine ar_loads rfl (i := 2) rfl hNb4 rfl rfl rfl rfl (Nat.le_of_ble_eq_true rfl) ?_
     refine AAny.keep [1, 2, 29, 30, 31, 36, 37, 40] (by decide) ?_
     exact s11 trivial
    ·
     show aopsR _ _ _ [_] _ _ _
     refine ar_loadp rfl (v := .str ((gI v.f k).1)) rfl (wth_get 0 hNb4 rfl) rfl (apartOk_one rfl rfl (Nat.le_of_ble_eq_true rfl)) rfl ?_
     refine AAny.keep [1, 2, 29, 30, 31, 35, 38, 40] (by decide) ?_
     exact s12 trivial
    ·
     show aopsR _ _ _ [_] _ _ _
     refine ih ((gI v.f k).2) (by have := depV_eq v; first | (have := depL_mem (gI_mem (l := v.l) (i := i) hI.1 (by assumption)); omega) | (have := depF_mem (gI_mem (l := v.f) (i := k) hI2.1 (by assumption)); omega)) (by first | exact hok.2.1 _ (gI_mem (l := v.l) (i := i) hI.1 (by assumption)) | exact hok.2.2 _ (gI_mem (l := v.f) (i := k) hI2.1 (by assumption))) _ _ ?_
     refine AAny.keep [1, 2, 29, 30, 31, 35, 37, 41] (by decide) ?_
     exact s13 trivial
   clear s11 s12 s13
   have s17 : ∀ (_ : True), A 9 #[true, false, true, false, true, false, false, false, false, false, false, false] KK2 [f2_0, f2_1, f2_2, f2_3, f2_4, f2_12, f2_17, f2_18] M2_13 := by
    intro _
    subst hA
    refine AAny.step [36] [1, 3, 5] (by decide +kernel) (by simp) (by decide) ⟨?_, ?_, ?_, trivial⟩
    ·
     show aopsR _ _ _ [_] _ _ _
     refine ar_loads rfl (i := 2) rfl hNb4 rfl rfl rfl rfl (Nat.le_of_ble_eq_true rfl) ?_
     refine AAny.keep [1, 2, 29, 30, 31, 36, 37, 39] (by decide) ?_
     exact s14 trivial
    ·
     show aopsR _ _ _ [_] _ _ _
     refine ar_loadp rfl (v := .str ((gI v.f k).1)) rfl (wth_get 0 hNb4 rfl) rfl (apartOk_one rfl rfl (Nat.le_of_ble_eq_true rfl)) rfl ?_
     refine AAny.keep [1, 2, 29, 30, 31, 35, 38, 39] (by decide) ?_
     exact s15 trivial
    ·
     show aopsR _ _ _ [_] _ _ _
     refine ar_loadp rfl (v := .agg [.int .i64 (((gI v.f k).2).kind), .int .i64 (((gI v.f k).2).n), .str (((gI v.f k).2).s), .slice false ((((gI v.f k).2).l).map valIn), .slice false ((((gI v.f k).2).f).map fldIn)]) rfl (wth_get 0 hNb4 rfl) rfl (apartOk_agg rfl rfl (Nat.le_of_ble_eq_true rfl)) rfl ?_
     refine AAny.keep [1, 2, 29, 30, 31, 35, 37, 40] (by decide) ?_
     exact s16 trivial
   clear s14 s15 s16
   subst hA
   refine AAny.fField (i := 0) rfl rfl rfl (by decide) rfl (by decide +kernel) rfl rfl ⟨rfl, by decide⟩ ?_
   refine AAny.fField (i := 2) rfl rfl rfl (by decide) rfl (by decide +kernel) rfl rfl ⟨rfl, by decide⟩ ?_
   refine AAny.fField (i := 4) rfl rfl rfl (by decide) rfl (by decide +kernel) rfl rfl ⟨rfl, by decide⟩ ?_
   refine AAny.keep [1, 2, 29, 30, 31, 35, 37, 39] (by decide) ?_
   exact s17 trivial
  intro _
  refine hK1 _ _ ?_; clear hK1 K1
  refine hK7 _ _ ?_; clear hK7
  have hNd2 : ([b2, b1] : List Nat).Nodup := drop_nodup (L := [(b4, .cells [.str ((gI v.f k).1), .int .i64 (((gI v.f k).2).kind), .int .i64 (((gI v.f k).2).n), .str (((gI v.f k).2).s), .slice false ((((gI v.f k).2).l).map valIn), .slice false ((((gI v.f k).2).f).map fldIn)]), (b2, .cells [.int .i64 0, .int .i64 0, .str ([]), .slice true [], .slice true []]), (b1, .cells [.int .i64 v.kind, .int .i64 v.n, .str v.s, .slice true (ol.map valIn), .slice true ((of ++ ([(gI v.f k)] : List (Str × Val))).map fldIn)])]) hNb4 (pick_perm [0] _)
  refine awp_dropP [(b4, .cells [.str ((gI v.f k).1), .int .i64 (((gI v.f k).2).kind), .int .i64 (((gI v.f k).2).n), .str (((gI v.f k).2).s), .slice false ((((gI v.f k).2).l).map valIn), .slice false ((((gI v.f k).2).f).map fldIn)])] [(b2, .cells [.int .i64 0, .int .i64 0, .str ([]), .slice true [], .slice true []]), (b1, .cells [.int .i64 v.kind, .int .i64 v.n, .str v.s, .slice true (ol.map valIn), .slice true ((of ++ ([(gI v.f k)] : List (Str × Val))).map fldIn)])] hNb4 (pick_perm [0] _) (by simp only [List.map_cons, List.map_nil, List.forall_mem_cons]; exact ⟨hFb4, fun _ h => by cases h⟩) ?_
  refine awp_reg2 [] [1, 2, 29, 30, 31] (by decide) ?_
  intro K1 hK1
  refine ar_add rfl (a := k) (b := 1) rfl rfl (by omega) (by omega) ?_
  refine ⟨trivial, ?_⟩
  show K1 [(1, .ptr ⟨b1, 0, none⟩), (2, .ptr ⟨b2, 0, none⟩), (29, .slice false (v.f.map fldIn)), (30, .int .i64 (v.f.length : Int)), (31, .int .i64 (k + 1))] (AMem.wth m [(b2, .cells [.int .i64 0, .int .i64 0, .str ([]), .slice true [], .slice true []]), (b1, .cells [.int .i64 v.kind, .int .i64 v.n, .str v.s, .slice true (ol.map valIn), .slice true ((of ++ ([(gI v.f k)] : List (Str × Val))).map fldIn)])])
  refine hK1 _ _ ?_; clear hK1 K1
  refine ⟨(k + 1, of ++ ([(gI v.f k)] : List (Str × Val))), rfl, rfl, ?_, ?_⟩
  ·
   show 0 ≤ ((k + 1 : Int)) ∧ ((k + 1 : Int)) ≤ v.f.length ∧ ((of ++ ([(gI v.f k)] : List (Str × Val)) : (List (Str × Val)))) = v.f.take ((k + 1 : Int)).toNat
   exact ⟨by omega, by omega, by rw [take_succ_gI hI2.1 (by assumption), ← hI2.2.2]⟩
  ·
   show v.f.length - ((k + 1 : Int)).toNat < v.f.length - k.toNat
   omega
 replace h2 : (v.f.length : Int) ≤ k := (Int.not_lt.1 (of_decide_eq_false h2))
 refine awp_exit ?_
 refine hK5 _ _ ?_; clear hK5
 refine awp_reg2_seq [] [2] (by decide) ?_
 intro K1 hK1
 refine ar_loadp rfl (v := .agg [.int .i64 v.kind, .int .i64 v.n, .str v.s, .slice false (ol.map valIn), .slice false (of.map fldIn)]) rfl (wth_get 1 hNb2 rfl) rfl (apartOk_agg rfl rfl (Nat.le_of_ble_eq_true rfl)) rfl ?_
 refine ar_storep rfl 0 (v := .agg [.int .i64 v.kind, .int .i64 v.n, .str v.s, .slice false (ol.map valIn), .slice false (of.map fldIn)]) (l' := [.int .i64 v.kind, .int .i64 v.n, .str v.s, .slice false (ol.map valIn), .slice false (of.map fldIn)]) rfl rfl hNb2 rfl rfl rfl rfl rfl (Nat.le_of_ble_eq_true rfl) rfl ?_
 show K1 [(2, .ptr ⟨b2, 0, none⟩)] (AMem.wth m [(b2, .cells [.int .i64 v.kind, .int .i64 v.n, .str v.s, .slice false (ol.map valIn), .slice false (of.map fldIn)]), (b1, .cells [.int .i64 v.kind, .int .i64 v.n, .str v.s, .slice true (ol.map valIn), .slice true (of.map fldIn)])])
 refine hK1 _ _ ?_; clear hK1 K1
 refine awp_ret ?_
 refine resK_cell1 (fn := Try.f82) (a := 2) (t := 46) (b := b2) (off := 0) rfl rfl (wth_get  (m := m) (L := [(b2, .cells [.int .i64 v.kind, .int .i64 v.n, .str v.s, .slice false (ol.map valIn), .slice false (of.map fldIn)]), (b1, .cells [.int .i64 v.kind, .int .i64 v.n, .str v.s, .slice true (ol.map valIn), .slice true (of.map fldIn)])]) 0 hNb2 rfl) (apartOk_agg rfl rfl (Nat.le_of_ble_eq_true rfl)) (.agg [.int .i64 v.kind, .int .i64 v.n, .str v.s, .slice false (ol.map valIn), .slice false (of.map fldIn)]) rfl m ((wth_sub2 (m := m) [(b2, .cells [.int .i64 v.kind, .int .i64 v.n, .str v.s, .slice false (ol.map valIn), .slice false (of.map fldIn)]), (b1, .cells [.int .i64 v.kind, .int .i64 v.n, .str v.s, .slice true (ol.map valIn), .slice true (of.map fldIn)])] [] hNb2 (by simp only [List.map_cons, List.map_nil, List.forall_mem_cons]; exact ⟨hFb2, hFb1, fun _ h => by cases h⟩))) ?_
 show K (.agg [.int .i64 v.kind, .int .i64 v.n, .str v.s, .slice false (ol.map valIn), .slice false (of.map fldIn)]) m

 have q1 : ol = v.l := by have := hI.2.2; rwa [take_full (by omega)] at this
 have q2 : of = v.f := by have := hI2.2.2; rwa [take_full (by omega)] at this
 rw [q1, q2]
 exact hK


theorem u_Copy2 : ∀ (n : Nat) (v : Val), depV v < n → okV v → ∀ (m : AMem) (K : AV → AMem → Prop), K (valTop v) m → ACalls Try.prog 82 [valTop v] m K
  | 0, _, h, _ => absurd h (Nat.not_lt_zero _)
  | n + 1, v, h, hz => fun m K hK => u_Copy1 v hz (fun w hw hw2 => u_Copy2 n w (by omega) hw2) m K hK
theorem u_Copy (v : Val) (hz : okV v) (m : AMem) (K : AV → AMem → Prop) (hK : K (valTop v) m) : ACalls Try.prog 82 [valTop v] m K := u_Copy2 (depV v + 1) v (Nat.lt_succ_self _) hz m K hK

end Go.Proofs
