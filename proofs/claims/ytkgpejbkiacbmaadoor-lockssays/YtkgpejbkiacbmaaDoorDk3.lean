import Derived.Test.YtkgpejbkiacbmaaDoorSv4
import Derived.Test.YtkgpejbkiacbmaaDoorProg
import Derived.Test.YtkgpejbkiacbmaaDoorWxz
import Derived.Test.YtkgpejbkiacbmaaDoorWxf
section
namespace Go.Proofs
open Go Go.Aw Go.Sx
set_option maxRecDepth 100000
set_option maxHeartbeats 2000000 in
theorem u_NameMay (s : Str)  (m : AMem)  (K : AV → AMem → Prop) (hK : K (.bool (nameV s)) m) : ACalls Tryd.prog 14 [.str s] m K := by
 refine enter (c := cf [] [0] [1, 6, 7, 8] [] [] []) (vs := [.av (.str s)]) (L := []) (m := m) false tbOk Tryd.mixed Tryd.func14 rfl (k := 1) (by show fnOk [] _ _ _ = true; decide +kernel) rfl (Good.nil m) ?_
 refine ⟨fun F0 => ?_⟩
 have hbd0_0 : s.length ≤ 140737488355328 := F0 0
 refine sq ?_
 refine mg [0] 13 ((decide ((s.length : Int) < 1)) || (decide (12 < (s.length : Int)))) ?_ ?_
 · repeat' first
    | exact ⟨⟨_, rfl, by grind [SB.val]⟩, rfl⟩
    | refine an (fun _ => ?_) (fun _ => ?_)
 refine an (fun h1 => ?_) (fun h1 => ?_)
 · replace h1 : ((s.length : Int) < 1) ∨ (12 < (s.length : Int)) := ((borT h1).imp (fun q => (of_decide_eq_true q)) (fun q => (of_decide_eq_true q)))
   refine rt0 rfl fun _ => K_eq hK ?_
   show AV.bool (nameV s) = AV.bool false
   refine congrArg AV.bool ?_
   rw [nameV]; cases s <;> simp_all <;> omega
 replace h1 : (1 ≤ (s.length : Int)) ∧ ((s.length : Int) ≤ 12) := ⟨(Int.not_lt.1 (of_decide_eq_false (borL h1))), (Int.not_lt.1 (of_decide_eq_false (borR h1)))⟩
 refine sq ?_
 refine lp (σ := Int) [] [0, 3] 0 (fun i => ([(0, vS s), (3, vI i)], [], m)) (fun i => 0 ≤ i ∧ i ≤ s.length ∧ nmF s true = nmF (s.drop i.toNat) (i == 0)) (fun i => s.length - i.toNat) (0) ⟨rfl, rfl⟩ ?_ ?_
 · try dsimp only
   exact ⟨by omega, by omega, by simp⟩
 rintro i hI
 refine sq ?_
 refine an (fun h2 => ?_) (fun h2 => ?_)
 · refine sq ?_
   refine mg [0, 3] 4 ((decide (97 ≤ ((gI s i).toNat : Int))) && (decide (((gI s i).toNat : Int) ≤ 122))) ?_ ?_
   · repeat' first
      | exact ⟨⟨_, rfl, by grind [SB.val]⟩, rfl⟩
      | refine an (fun _ => ?_) (fun _ => ?_)
      | refine an (by omega) ?_
   refine mg [0, 3, 4] 5 ((decide (48 ≤ ((gI s i).toNat : Int))) && (decide (((gI s i).toNat : Int) ≤ 57))) ?_ ?_
   · repeat' first
      | exact ⟨⟨_, rfl, by grind [SB.val]⟩, rfl⟩
      | refine an (fun _ => ?_) (fun _ => ?_)
      | refine an (by omega) ?_
   refine mg [0, 3] 49 ((!((decide (97 ≤ ((gI s i).toNat : Int))) && (decide (((gI s i).toNat : Int) ≤ 122)))) && ((!((decide (48 ≤ ((gI s i).toNat : Int))) && (decide (((gI s i).toNat : Int) ≤ 57)))) || (i == 0))) ?_ ?_
   · repeat' first
      | exact ⟨⟨_, rfl, by grind [SB.val]⟩, rfl⟩
      | refine an (fun _ => ?_) (fun _ => ?_)
   refine an (fun h3 => ?_) (fun h3 => ?_)
   · replace h3 : ((((gI s i).toNat : Int) < 97) ∨ (122 < ((gI s i).toNat : Int))) ∧ (((((gI s i).toNat : Int) < 48) ∨ (57 < ((gI s i).toNat : Int))) ∨ (i = 0)) := ⟨((bandF (bnT (bandL h3))).imp (fun q => (Int.not_le.1 (of_decide_eq_false q))) (fun q => (Int.not_le.1 (of_decide_eq_false q)))), ((borT (bandR h3)).imp (fun q => ((bandF (bnT q)).imp (fun q => (Int.not_le.1 (of_decide_eq_false q))) (fun q => (Int.not_le.1 (of_decide_eq_false q))))) (fun q => (eq_of_beq q)))⟩
     refine rt0 rfl fun _ => K_eq hK ?_
     show AV.bool (nameV s) = AV.bool false
     refine congrArg AV.bool ?_
     have hb : (letC (gI s i) || (!(i == 0) && digC (gI s i))) = false := by
       rw [Bool.eq_false_iff]; intro hh; simp [letC, digC] at hh; omega
     rw [nameV, hI.2.2, nmF_step hI.1 h2, hb]; rfl
   replace h3 : ((97 ≤ ((gI s i).toNat : Int)) ∧ (((gI s i).toNat : Int) ≤ 122)) ∨ (((48 ≤ ((gI s i).toNat : Int)) ∧ (((gI s i).toNat : Int) ≤ 57)) ∧ (i ≠ 0)) := ((bandF h3).imp (fun q => ⟨(of_decide_eq_true (bandL (bnF q))), (of_decide_eq_true (bandR (bnF q)))⟩) (fun q => ⟨⟨(of_decide_eq_true (bandL (bnF (borL q)))), (of_decide_eq_true (bandR (bnF (borL q))))⟩, (ne_of_beq_false (borR q))⟩))
   refine an (by omega) ?_
   refine ⟨(i + 1), ⟨rfl, rfl⟩, ?_, ?_⟩
   · try dsimp only
     have hb : (letC (gI s i) || (!(i == 0) && digC (gI s i))) = true := by simp [letC, digC]; omega
     exact ⟨by omega, by omega, by rw [hI.2.2, nmF_step hI.1 h2, hb]; rfl⟩
   try dsimp only
   omega
 refine rt0 rfl fun _ => K_eq hK ?_
 show AV.bool (nameV s) = AV.bool true
 refine congrArg AV.bool ?_
 have ha : nmF s true = true := by rw [hI.2.2, List.drop_eq_nil_of_le (by omega)]; rfl
 rw [nameV, ha]; cases s <;> simp at * <;> omega
end Go.Proofs
end
section
namespace Go.Proofs
open Go Go.Aw Go.Sx
set_option maxRecDepth 100000
theorem wq {n : Int} (hlo : -9223372036854775808 ≤ n) (hhi : n ≤ 9223372036854775807) : IntKind.i64.wrap (Int.tdiv n 10) = Int.tdiv n 10 := by
  rcases Int.le_total 0 n with h | h
  · rw [Int.tdiv_eq_ediv_of_nonneg h]; exact wrap64 _ (by omega) (by omega)
  · have e : Int.tdiv n 10 = -((-n) / 10) := by
      rw [← Int.tdiv_eq_ediv_of_nonneg (by omega : 0 ≤ -n), Int.neg_tdiv, Int.neg_neg]
    rw [e]; exact wrap64 _ (by omega) (by omega)
theorem tq (n : Int) : (0 ≤ n → Int.tdiv n 10 = n / 10 ∧ Int.tmod n 10 = n % 10) ∧ (n < 0 → Int.tdiv n 10 = -((-n) / 10) ∧ Int.tmod n 10 = -((-n) % 10)) := by
  refine ⟨fun h => ⟨Int.tdiv_eq_ediv_of_nonneg h, Int.tmod_eq_emod_of_nonneg h⟩, fun h => ⟨?_, ?_⟩⟩
  · rw [← Int.tdiv_eq_ediv_of_nonneg (by omega : 0 ≤ -n), Int.neg_tdiv, Int.neg_neg]
  · rw [← Int.tmod_eq_emod_of_nonneg (by omega : 0 ≤ -n), Int.neg_tmod, Int.neg_neg]
theorem u8w_dig (d : Nat) (h : d < 10) : u8w (48 + (d : Int)) = UInt8.ofNat (48 + d) := by
  apply UInt8.toNat_inj.1
  have e := u8w_toNat (48 + (d : Int))
  have e2 : IntKind.u8.wrap (48 + (d : Int)) = ((48 + d : Nat) : Int) := by
    have : ∀ n : Fin 10, IntKind.u8.wrap (48 + (n.val : Int)) = ((48 + n.val : Nat) : Int) := by decide +kernel
    exact this ⟨d, h⟩
  rw [e2] at e
  rw [UInt8.toNat_ofNat']
  omega
theorem itoa_one {n : Int} (h0 : 0 ≤ n) (h : n < 10) : Lib.itoa n = [u8w (48 + n)] := by
  obtain ⟨d, rfl⟩ := Int.eq_ofNat_of_zero_le h0
  rw [Lib.itoa, if_neg (by omega), show ((d : Int)).toNat = d from rfl, Lib.decDigits_one (by omega), u8w_dig d (by omega)]
theorem itoa_big {n : Int} (h : 10 ≤ n) : Lib.itoa n = Lib.itoa (n / 10) ++ [u8w (48 + n % 10)] := by
  obtain ⟨d, rfl⟩ := Int.eq_ofNat_of_zero_le (by omega : 0 ≤ n)
  rw [Lib.itoa, if_neg (by omega), Lib.itoa, if_neg (by omega), show ((d : Int)).toNat = d from rfl, Lib.decDigits, dif_neg (by omega), show (((d : Int) / 10)).toNat = d / 10 by omega]
  have : (d : Int) % 10 = ((d % 10 : Nat) : Int) := by omega
  rw [this, u8w_dig _ (Nat.mod_lt _ (by omega))]
theorem decDigits_ne (u : Nat) : Lib.decDigits u ≠ [] := by
  rw [Lib.decDigits]; split <;> simp
theorem itoa_zero {n : Int} (h0 : 0 ≤ n) : Lib.itoa n = [48] ↔ n = 0 := by
  obtain ⟨d, rfl⟩ := Int.eq_ofNat_of_zero_le h0
  rw [Lib.itoa, if_neg (by omega), show ((d : Int)).toNat = d from rfl]
  constructor
  · intro h
    rw [Lib.decDigits] at h
    split at h
    · rename_i hd
      have := congrArg UInt8.toNat (List.cons.inj h).1
      rw [UInt8.toNat_ofNat'] at this
      have e : (48 : UInt8).toNat = 48 := rfl
      omega
    · have := congrArg List.length h
      have h2 := List.length_pos_iff.2 (decDigits_ne (d / 10))
      rw [List.length_append] at this
      simp only [List.length_cons, List.length_nil] at this
      omega
  · intro h
    have : d = 0 := by omega
    subst this
    rw [Lib.decDigits_one (by omega)]; rfl
theorem itoa_neg {n : Int} (h : n < 0) : Lib.itoa n = [45] ++ (if -(Int.tdiv n 10) = 0 then [] else Lib.itoa (-(Int.tdiv n 10))) ++ [u8w (48 - Int.tmod n 10)] := by
  have e := (tq n).2 h
  rw [e.1, e.2, Int.neg_neg, Int.sub_neg]
  have e1 : Lib.itoa n = 45 :: Lib.itoa (-n) := by
    rw [Lib.itoa, if_pos h, Lib.itoa, if_neg (by omega)]
    congr 1; congr 1; omega
  rw [e1]
  by_cases hs : -n < 10
  · rw [if_pos (by omega), itoa_one (by omega) hs, show (-n) % 10 = -n by omega]; rfl
  · rw [if_neg (by omega), itoa_big (by omega)]; rfl
theorem decDigits_len : ∀ (k u : Nat), u < 10 ^ (k + 1) → (Lib.decDigits u).length ≤ k + 1
  | k, u, h => by
    rw [Lib.decDigits]
    split
    · simp
    · rename_i hu
      match k with
      | 0 => simp at h; omega
      | k + 1 =>
        have := decDigits_len k (u / 10) (by rw [Nat.pow_succ] at h; omega)
        simp; omega
theorem itoa_len {n : Int} (hlo : -9223372036854775808 ≤ n) (hhi : n ≤ 9223372036854775807) : (Lib.itoa n).length ≤ 20 := by
  rw [Lib.itoa]
  split
  · have := decDigits_len 18 n.natAbs (by have : (10:Nat) ^ 19 = 10000000000000000000 := by decide
                                          omega)
    simp; omega
  · have := decDigits_len 18 n.toNat (by have : (10:Nat) ^ 19 = 10000000000000000000 := by decide
                                         omega)
    omega
set_option maxHeartbeats 1000000 in
theorem u_Decimal1 (n : Int) (hlo : -9223372036854775808 ≤ n) (hhi : n ≤ 9223372036854775807) (ih : ∀ q : Int, q.natAbs < n.natAbs → -9223372036854775808 ≤ q → q ≤ 9223372036854775807 → ∀ (m : AMem) (K : AV → AMem → Prop), K (.str (Lib.itoa q)) m → ACalls Tryd.prog 33 [.int .i64 q] m K) (m : AMem)  (K : AV → AMem → Prop) (hK : K (.str (Lib.itoa n)) m) : ACalls Tryd.prog 33 [.int .i64 n] m K := by
 have hw := wq hlo hhi
 have hd := tq n
 have hl1 : (Lib.itoa (-(IntKind.i64.wrap (Int.tdiv n 10)))).length ≤ 20 := itoa_len (by simp only [hw]; omega) (by simp only [hw]; omega)
 have hl2 : (Lib.itoa (IntKind.i64.wrap (Int.tdiv n 10))).length ≤ 20 := itoa_len (by simp only [hw]; omega) (by simp only [hw]; omega)
 refine enter (c := cf [] [] [] [] [] []) (vs := [.av (.int .i64 n)]) (L := []) (m := m) false tbOk Tryd.mixed Tryd.func33 rfl (k := 1) (by show fnOk [] _ _ _ = true; decide +kernel) rfl (Good.nil m) ?_
 refine sq ?_
 refine an (fun h1 => ?_) (fun h1 => ?_)
 · refine an (by omega) ?_
   refine an (by (first | omega | (simp only [hw]; omega))) ?_
   refine call0 (fun _ => ih (-(IntKind.i64.wrap (Int.tdiv n 10))) (by simp only [hw]; omega) (by simp only [hw]; omega) (by simp only [hw]; omega)) rfl ?_
   refine sq ?_
   refine an (fun h2 => ?_) (fun h2 => ?_)
   · refine an (by (first | omega | (simp only [List.length_append, List.length_cons, List.length_nil]; omega))) ?_
     refine an (by exact ⟨by omega, by show (-9223372036854775808 : Int) ≤ _; omega, by show _ ≤ (9223372036854775807 : Int); omega⟩) ?_
     refine an (by (first | omega | (simp only [hw]; omega))) ?_
     refine tst (xs := ([(u8w (48 - (Int.tmod n 10)))] : List UInt8)) ?_
     refine an (by (first | omega | (simp only [List.length_append, List.length_cons, List.length_nil]; omega))) ?_
     refine rt0 rfl fun _ => K_eq hK ?_
     show AV.str (Lib.itoa n) = AV.str ((([45] : List UInt8) ++ ([])) ++ ([(u8w (48 - (Int.tmod n 10)))] : List UInt8))
     refine congrArg AV.str ?_
     rw [itoa_neg h1, if_pos (by have := (itoa_zero (by simp only [hw]; omega)).1 h2; rw [hw] at this; exact this)]
   refine an (by (first | omega | (simp only [List.length_append, List.length_cons, List.length_nil]; omega))) ?_
   refine an (by exact ⟨by omega, by show (-9223372036854775808 : Int) ≤ _; omega, by show _ ≤ (9223372036854775807 : Int); omega⟩) ?_
   refine an (by (first | omega | (simp only [hw]; omega))) ?_
   refine tst (xs := ([(u8w (48 - (Int.tmod n 10)))] : List UInt8)) ?_
   refine an (by (first | omega | (simp only [List.length_append, List.length_cons, List.length_nil]; omega))) ?_
   refine rt0 rfl fun _ => K_eq hK ?_
   show AV.str (Lib.itoa n) = AV.str ((([45] : List UInt8) ++ (Lib.itoa (-(IntKind.i64.wrap (Int.tdiv n 10))))) ++ ([(u8w (48 - (Int.tmod n 10)))] : List UInt8))
   refine congrArg AV.str ?_
   rw [itoa_neg h1, if_neg (fun hh => h2 ((itoa_zero (by simp only [hw]; omega)).2 (by rw [hw]; exact hh))), hw]
 refine sq ?_
 refine an (fun h3 => ?_) (fun h3 => ?_)
 · refine an (by (first | omega | (simp only [hw]; omega))) ?_
   refine tst (xs := ([(u8w (48 + n))] : List UInt8)) ?_
   refine rt0 rfl fun _ => K_eq hK ?_
   show AV.str (Lib.itoa n) = AV.str ([(u8w (48 + n))] : List UInt8)
   refine congrArg AV.str ?_
   rw [itoa_one (by omega) (by omega)]
 refine an (by omega) ?_
 refine pure0 (fun _ => ih (IntKind.i64.wrap (Int.tdiv n 10)) (by simp only [hw]; omega) (by simp only [hw]; omega) (by simp only [hw]; omega)) ?_
 refine an (by exact ⟨by omega, by show (-9223372036854775808 : Int) ≤ _; omega, by show _ ≤ (9223372036854775807 : Int); omega⟩) ?_
 refine an (by (first | omega | (simp only [hw]; omega))) ?_
 refine tst (xs := ([(u8w (48 + (Int.tmod n 10)))] : List UInt8)) ?_
 refine an (by (first | omega | (simp only [List.length_append, List.length_cons, List.length_nil]; omega))) ?_
 refine rt0 rfl fun _ => K_eq hK ?_
 show AV.str (Lib.itoa n) = AV.str ((Lib.itoa (IntKind.i64.wrap (Int.tdiv n 10))) ++ ([(u8w (48 + (Int.tmod n 10)))] : List UInt8))
 refine congrArg AV.str ?_
 rw [itoa_big (by omega), hw, (hd.1 (by omega)).1, (hd.1 (by omega)).2]
theorem u_Decimal2 : ∀ (k : Nat) (n : Int), n.natAbs < k → -9223372036854775808 ≤ n → n ≤ 9223372036854775807 → ∀ (m : AMem) (K : AV → AMem → Prop), K (.str (Lib.itoa n)) m → ACalls Tryd.prog 33 [.int .i64 n] m K
  | 0, _, h => absurd h (Nat.not_lt_zero _)
  | k + 1, n, h => fun h1 h2 m K hK => u_Decimal1 n h1 h2 (fun q hq a b => u_Decimal2 k q (by omega) a b) m K hK
theorem u_Decimal (n : Int) (h1 : -9223372036854775808 ≤ n) (h2 : n ≤ 9223372036854775807) (m : AMem) (K : AV → AMem → Prop) (hK : K (.str (Lib.itoa n)) m) : ACalls Tryd.prog 33 [.int .i64 n] m K := u_Decimal2 (n.natAbs + 1) n (Nat.lt_succ_self _) h1 h2 m K hK
def Tabs (m : AMem) : Prop := ∃ e z e2 z2 tp p e3 z3 tp3 p3, m 2 = some (tabObj e z .u64 Lib.pow10Tab) ∧ m 0 = some (.tab e2 z2 #[.iface tp p]) ∧ m 1 = some (.tab e3 z3 #[.iface tp3 p3])
theorem Tabs.up {m mm : AMem} (ht : ∀ b o, m b = some o → mm b = some o) : Tabs m → Tabs mm := fun ⟨e, z, e2, z2, tp, p, e3, z3, tp3, p3, h, h2, h3⟩ => ⟨e, z, e2, z2, tp, p, e3, z3, tp3, p3, ht _ _ h, ht _ _ h2, ht _ _ h3⟩
theorem tabName : Tryd.prog.globalNamed "internal/strconv.uint64pow10" = some 2 := by kernel_rfl
theorem u_Itoa (n : Int) (h1 : -9223372036854775808 ≤ n) (h2 : n ≤ 9223372036854775807) (m : AMem) (hT : Tabs m) (K : AV → AMem → Prop) (hK : K (.str (Lib.itoa n)) m) : ACalls Tryd.prog 30 [.int .i64 n] m K :=
  have ⟨_, _, _, _, _, _, _, _, _, _, hT, _⟩ := hT
  itoa_calls ⟨_, Tryd.func30, rfl, by kernel_rfl⟩ tabName Tryd.strconv_Itoa hT (by have := itoa_len h1 h2; omega) hK
end Go.Proofs
end
section
namespace Go.Proofs
open Go Go.Aw
set_option maxRecDepth 100000
theorem u_same (e f : Int) (he : 0 ≤ e) (m : AMem)  (K : AV → AMem → Prop) (hK : K (.bool (e == f)) m) : ACalls Tryd.prog 9 [.err 60 e, .int .i64 f] m K := by
 refine acalls_enter Tryd.func9 rfl (by decide) (Nat.le_of_ble_eq_true rfl) ?_
 show AWP _ _ _ _ [(0, .err 60 e), (1, .int .i64 f)] m
 refine awp_reg2_seq [] [0, 1] (by decide) ?_
 intro K1 hK1
 refine ⟨trivial, ?_⟩
 show K1 [(0, .err 60 e), (1, .int .i64 f)] m
 refine hK1 _ _ ?_; clear hK1 K1
 refine awp_seq_k ?_; intro K2 hK2
 refine awp_reg2_seq [] [0, 1, 8] (by decide) ?_
 intro K1 hK1
 refine ⟨trivial, ⟨rfl, rfl⟩, ?_⟩
 show K1 [(0, .err 60 e), (1, .int .i64 f), (8, .bool (e == 0))] m
 refine hK1 _ _ ?_; clear hK1 K1
 refine awp_cond rfl rfl (fun h1 => ?_) (fun h1 => ?_)
 ·
  replace h1 : e = 0 := (eq_of_beq h1)
  refine awp_reg2_seq [] [4] (by decide) ?_
  intro K1 hK1
  refine ⟨trivial, trivial, trivial, ?_⟩
  show K1 [(4, .bool (f == 0))] m
  refine hK1 _ _ ?_; clear hK1 K1
  refine awp_ret ?_
  refine ⟨trivial, m, fun _ _ h => h, ?_⟩
  show K (.bool (f == 0)) m
 
  refine K_eq hK (congrArg AV.bool ?_)
  rw [Bool.eq_iff_iff]; simp; omega
 replace h1 : e ≠ 0 := (ne_of_beq_false h1)
 refine awp_skip ?_
 refine hK2 _ _ ?_; clear hK2
 refine awp_reg2_seq [] [1, 5, 6] (by decide) ?_
 intro K1 hK1
 refine ⟨trivial, rfl, trivial, (Nat.le_of_ble_eq_true rfl), (Nat.le_of_ble_eq_true rfl), trivial, trivial, ?_⟩
 show K1 [(1, .int .i64 f), (5, .int .i64 e), (6, .bool (!(e == 0)))] m
 refine hK1 _ _ ?_; clear hK1 K1
 refine awp_reg2_seq [] [4] (by decide) ?_
 intro K1 hK1
 suffices key : K1 [(4, .bool (((!(e == 0)) && (decide (0 < f))) && (e == f)))] m by
  refine ⟨trivial, trivial, ?_⟩
  show aopsR _ _ _ _ _ [(17, .bool (!(e == 0))), (16, .bool (!(e == 0))), (1, .int .i64 f), (5, .int .i64 e), (6, .bool (!(e == 0)))] _
  revert key
  cases h2 : (e == 0)
  ·
   replace h2 : e ≠ 0 := (ne_of_beq_false h2)
   intro key
   refine ⟨trivial, trivial, ?_⟩
   refine ⟨trivial, ?_⟩
   show aopsR _ _ _ _ _ [(21, .bool (decide (0 < f))), (20, .bool (decide (0 < f))), (19, .bool (decide (0 < f))), (18, .int .i64 f), (17, .bool true), (16, .bool true), (1, .int .i64 f), (5, .int .i64 e), (6, .bool true)] _
   revert key
   cases h3 : (decide (0 < f))
   ·
    replace h3 : f ≤ 0 := (Int.not_lt.1 (of_decide_eq_false h3))
    intro key
    refine ar_off rfl (ar_off rfl (ar_off rfl ?_))
    refine ⟨trivial, ?_⟩
    exact key
   ·
    replace h3 : 0 < f := (of_decide_eq_true h3)
    intro key
    refine ⟨trivial, trivial, trivial, ?_⟩
    refine ⟨trivial, ?_⟩
    exact key
  ·
   replace h2 : e = 0 := (eq_of_beq h2)
   intro key
   refine ar_off rfl (ar_off rfl ?_)
   refine ⟨trivial, ?_⟩
   refine ar_off rfl (ar_off rfl (ar_off rfl ?_))
   refine ⟨trivial, ?_⟩
   exact key
 refine hK1 _ _ ?_; clear hK1 K1
 refine awp_ret ?_
 refine ⟨trivial, m, fun _ _ h => h, ?_⟩
 show K (.bool (((!(e == 0)) && (decide (0 < f))) && (e == f))) m
 refine K_eq hK (congrArg AV.bool ?_)
 rw [Bool.eq_iff_iff]; simp; omega
end Go.Proofs
end
section
namespace Go.Proofs
open Go Go.Aw
set_option maxRecDepth 100000
structure Chg where
  name : Str
  data : Str
  to : Str
  kind : Int
instance : Inhabited Chg := ⟨⟨[], [], [], 0⟩⟩
def chgAV (c : Chg) : AV := .agg [.str c.name, .str c.data, .str c.to, iT c.kind]
structure DSt where
  kept : List (Str × Str)
  now : List (Str × Str)
  wait : List Chg
  fuse : Int
  down : Bool
  steps : Int
def applyC (l : List (Str × Str)) (c : Chg) : List (Str × Str) :=
  if c.kind = 1 ∨ c.kind = 3 then mput l c.name c.data
  else if c.kind = 2 then mput l c.name ((mget l c.name).getD [] ++ c.data)
  else if c.kind = 4 then mdel (mput l c.to ((mget l c.name).getD [])) c.name
  else if c.kind = 5 then mdel l c.name
  else l
def stepF (s : DSt) : DSt × Int :=
  if s.down = true then (s, 10)
  else if s.fuse = 0 then ({ s with down := true, fuse := -1 }, 10)
  else ({ s with fuse := if 0 < s.fuse then s.fuse - 1 else s.fuse, steps := s.steps + 1 }, 0)
def doF (s : DSt) (c : Chg) : DSt × Int :=
  if (stepF s).2 ≠ 0 then stepF s
  else ({ (stepF s).1 with now := applyC s.now c, wait := s.wait ++ [c] }, 0)
theorem mget_le {l : List (Str × Str)} {k : Str} {B : Nat} (h : ∀ p ∈ l, p.2.length ≤ B) : ((mget l k).getD []).length ≤ B := by
  induction l with
  | nil => simp [mget]
  | cons p r ih =>
    obtain ⟨a, b⟩ := p
    simp only [mget]
    split
    · exact h (a, b) (by simp)
    · exact ih (fun p hp => h p (by simp [hp]))
theorem nodup_1 (d : Nat) : [d].Nodup := by simp
def dObj (kb nb : Nat) (s : DSt) : AObj := .cells [.map kb, .map nb, sT (s.wait.map chgAV), iT s.fuse, .bool s.down, iT s.steps]
def mObj (l : List (Str × Str)) : AObj := .map (l.map (mapAV strAV strAV))
set_option maxHeartbeats 2000000 in
theorem u_apply (b : Nat) (l : List (Str × Str)) (c : Chg) (hl : l.length ≤ 1099511627776) (hb : ∀ p ∈ l, p.2.length ≤ 1099511627776) (hc : c.data.length ≤ 1099511627776) (m : AMem)  (K : AV → AMem → Prop) (hK : K (.tuple []) (mW m [(b, mObj (applyC l c))])) : ACalls Tryd.prog 47 [.map b, chgAV c] (mW m [(b, mObj l)]) K := by
 have hg := mget_le (k := c.name) hb
 refine acalls_enter Tryd.func47 rfl (by decide) (nB rfl) ?_
 show AWP _ _ _ _ [(0, .map b), (1, chgAV c)] (mW m [(b, mObj l)])
 refine rS [] [0, 3] (by decide) ?_
 intro K1 hK1
 refine ar_box rfl (m := m) (L := [(b, mObj l)]) (v := chgAV c) (by rfl) rfl ?_
 intro b1 hb1
 have hFb1 : m b1 = none := wth_none hb1
 have hNb1 : ([b1, b] : List Nat).Nodup := wth_nodup hb1 (nodup_1 b)
 show K1 [(0, .map b), (3, pT b1)] (mW m [(b1, .cells [.str c.name, .str c.data, .str c.to, iT c.kind]), (b, mObj l)])
 refine hK1 _ _ ?_; clear hK1 K1
 refine rS [] [0, 3, 5] (by decide) ?_
 intro K1 hK1
 refine ⟨⟨rfl, by decide⟩, ?_⟩
 refine aL rfl (v := iT c.kind) rfl (wG 0 hNb1 rfl) rfl (aO rfl rfl (nB rfl)) rfl ?_
 show K1 [(0, .map b), (3, pT b1), (5, iT c.kind)] _
 refine hK1 _ _ ?_; clear hK1 K1
 refine awp_block ?_
 refine sK ?_; intro K2 hK2
 refine rS [] [0, 3, 5, 6] (by decide) ?_
 intro K1 hK1
 refine ⟨tv, tv, ?_⟩
 show K1 [(0, .map b), (3, pT b1), (5, iT c.kind), (6, .bool (c.kind == 1))] _
 refine hK1 _ _ ?_; clear hK1 K1
 refine cD rfl rfl (fun h1 => ?_) (fun h1 => ?_)
 ·
  replace h1 : c.kind = 1 := (eq_of_beq h1)
  refine awp_skip ?_
  refine hK2 _ _ ?_; clear hK2
  refine cD rfl rfl (fun h2 => ?_) (fun h2 => ?_)
  ·
   replace h2 : c.kind = 1 := (eq_of_beq h2)
   refine awp_reg2 [] [] (by decide) ?_
   intro K1 hK1
   refine ⟨tv, ⟨rfl, by decide⟩, ?_⟩
   refine aL rfl (v := .str c.name) rfl (wG 0 hNb1 rfl) rfl (aO rfl rfl (nB rfl)) rfl ?_
   refine ⟨⟨rfl, by decide⟩, ?_⟩
   refine aL rfl (v := .str c.data) rfl (wG 0 hNb1 rfl) rfl (aO rfl rfl (nB rfl)) rfl ?_
   refine ar_mapUpdate rfl (m := m) (L := [(b1, .cells [.str c.name, .str c.data, .str c.to, iT c.kind]), (b, mObj l)]) 1 strAV strAV strKey_ok l c.name c.data rfl rfl rfl rfl rfl rfl hNb1 (by refine Nat.le_trans (mput_len _ _ _) (by omega)) ?_
   show K1 [] (mW m [(b1, .cells [.str c.name, .str c.data, .str c.to, iT c.kind]), (b, mObj (mput l c.name c.data))])
   refine hK1 _ _ ?_; clear hK1 K1
   refine ⟨(mW m [(b, mObj (mput l c.name c.data))]), (wth_sub2 (m := m) [(b1, .cells [.str c.name, .str c.data, .str c.to, iT c.kind])] [(b, mObj (mput l c.name c.data))] hNb1 (by simp only [List.map_cons, List.map_nil, List.forall_mem_cons]; exact ⟨hFb1, nfA⟩)), ?_⟩
   show K (.tuple []) (AMem.wth m [(b, mObj (mput l c.name c.data))])
  
   have e0 : applyC l c = (mput l c.name c.data : List (Str × Str)) := by
    unfold applyC; simp_all
   rw [e0] at hK
   exact hK
  replace h2 : c.kind ≠ 1 := (ne_of_beq_false h2)
  refine rS [] [0, 3, 5, 14] (by decide) ?_
  intro K1 hK1
  refine ⟨tv, tv, ?_⟩
  show K1 [(0, .map b), (3, pT b1), (5, iT c.kind), (14, .bool (c.kind == 2))] (mW m [(b1, .cells [.str c.name, .str c.data, .str c.to, iT c.kind]), (b, mObj l)])
  refine hK1 _ _ ?_; clear hK1 K1
  refine cD rfl rfl (fun h3 => ?_) (fun h3 => ?_)
  ·
   replace h3 : c.kind = 2 := (eq_of_beq h3)
   refine awp_reg2 [] [] (by decide) ?_
   intro K1 hK1
   refine ⟨tv, ⟨rfl, by decide⟩, ?_⟩
   refine aL rfl (v := .str c.name) rfl (wG 0 hNb1 rfl) rfl (aO rfl rfl (nB rfl)) rfl ?_
   refine ar_lookup rfl (m := m) (L := [(b1, .cells [.str c.name, .str c.data, .str c.to, iT c.kind]), (b, mObj l)]) strAV strAV strKey_ok l c.name [] rfl rfl rfl rfl rfl (wG 1 hNb1 rfl) rfl ?_
   refine ⟨⟨rfl, by decide⟩, ?_⟩
   refine aL rfl (v := .str c.data) rfl (wG 0 hNb1 rfl) rfl (aO rfl rfl (nB rfl)) rfl ?_
   refine ⟨(by omega), ?_⟩
   refine ar_mapUpdate rfl (m := m) (L := [(b1, .cells [.str c.name, .str c.data, .str c.to, iT c.kind]), (b, mObj l)]) 1 strAV strAV strKey_ok l c.name (((mget l c.name).getD []) ++ c.data) rfl rfl rfl rfl rfl rfl hNb1 (by refine Nat.le_trans (mput_len _ _ _) (by omega)) ?_
   show K1 [] (mW m [(b1, .cells [.str c.name, .str c.data, .str c.to, iT c.kind]), (b, mObj (mput l c.name (((mget l c.name).getD []) ++ c.data)))])
   refine hK1 _ _ ?_; clear hK1 K1
   refine ⟨(mW m [(b, mObj (mput l c.name (((mget l c.name).getD []) ++ c.data)))]), (wth_sub2 (m := m) [(b1, .cells [.str c.name, .str c.data, .str c.to, iT c.kind])] [(b, mObj (mput l c.name (((mget l c.name).getD []) ++ c.data)))] hNb1 (by simp only [List.map_cons, List.map_nil, List.forall_mem_cons]; exact ⟨hFb1, nfA⟩)), ?_⟩
   show K (.tuple []) (AMem.wth m [(b, mObj (mput l c.name (((mget l c.name).getD []) ++ c.data)))])
  
   have e0 : applyC l c = (mput l c.name (((mget l c.name).getD []) ++ c.data) : List (Str × Str)) := by
    unfold applyC; simp_all
   rw [e0] at hK
   exact hK
  replace h3 : c.kind ≠ 2 := (ne_of_beq_false h3)
  refine rS [] [0, 3, 5, 23] (by decide) ?_
  intro K1 hK1
  refine ⟨tv, tv, ?_⟩
  show K1 [(0, .map b), (3, pT b1), (5, iT c.kind), (23, .bool (c.kind == 4))] (mW m [(b1, .cells [.str c.name, .str c.data, .str c.to, iT c.kind]), (b, mObj l)])
  refine hK1 _ _ ?_; clear hK1 K1
  refine cD rfl rfl (fun h4 => ?_) (fun h4 => ?_)
  ·
   replace h4 : c.kind = 4 := (eq_of_beq h4)
   refine rS [] [0, 3] (by decide) ?_
   intro K1 hK1
   refine ⟨tv, ⟨rfl, by decide⟩, ?_⟩
   refine aL rfl (v := .str c.to) rfl (wG 0 hNb1 rfl) rfl (aO rfl rfl (nB rfl)) rfl ?_
   refine ⟨tv, ⟨rfl, by decide⟩, ?_⟩
   refine aL rfl (v := .str c.name) rfl (wG 0 hNb1 rfl) rfl (aO rfl rfl (nB rfl)) rfl ?_
   refine ar_lookup rfl (m := m) (L := [(b1, .cells [.str c.name, .str c.data, .str c.to, iT c.kind]), (b, mObj l)]) strAV strAV strKey_ok l c.name [] rfl rfl rfl rfl rfl (wG 1 hNb1 rfl) rfl ?_
   refine ar_mapUpdate rfl (m := m) (L := [(b1, .cells [.str c.name, .str c.data, .str c.to, iT c.kind]), (b, mObj l)]) 1 strAV strAV strKey_ok l c.to ((mget l c.name).getD []) rfl rfl rfl rfl rfl rfl hNb1 (by refine Nat.le_trans (mput_len _ _ _) (by omega)) ?_
   show K1 [(0, .map b), (3, pT b1)] (mW m [(b1, .cells [.str c.name, .str c.data, .str c.to, iT c.kind]), (b, mObj (mput l c.to ((mget l c.name).getD [])))])
   refine hK1 _ _ ?_; clear hK1 K1
   refine awp_reg2 [] [] (by decide) ?_
   intro K1 hK1
   refine ⟨tv, ⟨rfl, by decide⟩, ?_⟩
   refine aL rfl (v := .str c.name) rfl (wG 0 hNb1 rfl) rfl (aO rfl rfl (nB rfl)) rfl ?_
   refine ar_delete rfl (m := m) (L := [(b1, .cells [.str c.name, .str c.data, .str c.to, iT c.kind]), (b, mObj (mput l c.to ((mget l c.name).getD [])))]) 1 strAV strAV strKey_ok (mput l c.to ((mget l c.name).getD [])) c.name rfl rfl rfl rfl rfl hNb1 ?_
   show K1 [] (mW m [(b1, .cells [.str c.name, .str c.data, .str c.to, iT c.kind]), (b, mObj (mdel (mput l c.to ((mget l c.name).getD [])) c.name))])
   refine hK1 _ _ ?_; clear hK1 K1
   refine ⟨(mW m [(b, mObj (mdel (mput l c.to ((mget l c.name).getD [])) c.name))]), (wth_sub2 (m := m) [(b1, .cells [.str c.name, .str c.data, .str c.to, iT c.kind])] [(b, mObj (mdel (mput l c.to ((mget l c.name).getD [])) c.name))] hNb1 (by simp only [List.map_cons, List.map_nil, List.forall_mem_cons]; exact ⟨hFb1, nfA⟩)), ?_⟩
   show K (.tuple []) (AMem.wth m [(b, mObj (mdel (mput l c.to ((mget l c.name).getD [])) c.name))])
  
   have e0 : applyC l c = (mdel (mput l c.to ((mget l c.name).getD [])) c.name : List (Str × Str)) := by
    unfold applyC; simp_all
   rw [e0] at hK
   exact hK
  replace h4 : c.kind ≠ 4 := (ne_of_beq_false h4)
  refine rS [] [0, 3, 35] (by decide) ?_
  intro K1 hK1
  refine ⟨tv, tv, ?_⟩
  show K1 [(0, .map b), (3, pT b1), (35, .bool (c.kind == 5))] (mW m [(b1, .cells [.str c.name, .str c.data, .str c.to, iT c.kind]), (b, mObj l)])
  refine hK1 _ _ ?_; clear hK1 K1
  refine cD rfl rfl (fun h5 => ?_) (fun h5 => ?_)
  ·
   replace h5 : c.kind = 5 := (eq_of_beq h5)
   refine awp_reg2 [] [] (by decide) ?_
   intro K1 hK1
   refine ⟨tv, ⟨rfl, by decide⟩, ?_⟩
   refine aL rfl (v := .str c.name) rfl (wG 0 hNb1 rfl) rfl (aO rfl rfl (nB rfl)) rfl ?_
   refine ar_delete rfl (m := m) (L := [(b1, .cells [.str c.name, .str c.data, .str c.to, iT c.kind]), (b, mObj l)]) 1 strAV strAV strKey_ok l c.name rfl rfl rfl rfl rfl hNb1 ?_
   show K1 [] (mW m [(b1, .cells [.str c.name, .str c.data, .str c.to, iT c.kind]), (b, mObj (mdel l c.name))])
   refine hK1 _ _ ?_; clear hK1 K1
   refine ⟨(mW m [(b, mObj (mdel l c.name))]), (wth_sub2 (m := m) [(b1, .cells [.str c.name, .str c.data, .str c.to, iT c.kind])] [(b, mObj (mdel l c.name))] hNb1 (by simp only [List.map_cons, List.map_nil, List.forall_mem_cons]; exact ⟨hFb1, nfA⟩)), ?_⟩
   show K (.tuple []) (AMem.wth m [(b, mObj (mdel l c.name))])
  
   have e0 : applyC l c = (mdel l c.name : List (Str × Str)) := by
    unfold applyC; simp_all
   rw [e0] at hK
   exact hK
  replace h5 : c.kind ≠ 5 := (ne_of_beq_false h5)
  refine awp_skip ?_
  refine ⟨(mW m [(b, mObj l)]), (wth_sub2 (m := m) [(b1, .cells [.str c.name, .str c.data, .str c.to, iT c.kind])] [(b, mObj l)] hNb1 (by simp only [List.map_cons, List.map_nil, List.forall_mem_cons]; exact ⟨hFb1, nfA⟩)), ?_⟩
  show K (.tuple []) (AMem.wth m [(b, mObj l)])
 
  have e0 : applyC l c = (l : List (Str × Str)) := by
   unfold applyC; simp_all
  rw [e0] at hK
  exact hK
 replace h1 : c.kind ≠ 1 := (ne_of_beq_false h1)
 refine awp_reg2 [] [0, 3, 5, 6] (by decide) ?_
 intro K1 hK1
 refine ⟨tv, tv, ?_⟩
 show K1 [(0, .map b), (3, pT b1), (5, iT c.kind), (6, .bool (c.kind == 3))] (mW m [(b1, .cells [.str c.name, .str c.data, .str c.to, iT c.kind]), (b, mObj l)])
 refine hK1 _ _ ?_; clear hK1 K1
 refine hK2 _ _ ?_; clear hK2
 refine cD rfl rfl (fun h6 => ?_) (fun h6 => ?_)
 ·
  replace h6 : c.kind = 3 := (eq_of_beq h6)
  refine awp_reg2 [] [] (by decide) ?_
  intro K1 hK1
  refine ⟨tv, ⟨rfl, by decide⟩, ?_⟩
  refine aL rfl (v := .str c.name) rfl (wG 0 hNb1 rfl) rfl (aO rfl rfl (nB rfl)) rfl ?_
  refine ⟨⟨rfl, by decide⟩, ?_⟩
  refine aL rfl (v := .str c.data) rfl (wG 0 hNb1 rfl) rfl (aO rfl rfl (nB rfl)) rfl ?_
  refine ar_mapUpdate rfl (m := m) (L := [(b1, .cells [.str c.name, .str c.data, .str c.to, iT c.kind]), (b, mObj l)]) 1 strAV strAV strKey_ok l c.name c.data rfl rfl rfl rfl rfl rfl hNb1 (by refine Nat.le_trans (mput_len _ _ _) (by omega)) ?_
  show K1 [] (mW m [(b1, .cells [.str c.name, .str c.data, .str c.to, iT c.kind]), (b, mObj (mput l c.name c.data))])
  refine hK1 _ _ ?_; clear hK1 K1
  refine ⟨(mW m [(b, mObj (mput l c.name c.data))]), (wth_sub2 (m := m) [(b1, .cells [.str c.name, .str c.data, .str c.to, iT c.kind])] [(b, mObj (mput l c.name c.data))] hNb1 (by simp only [List.map_cons, List.map_nil, List.forall_mem_cons]; exact ⟨hFb1, nfA⟩)), ?_⟩
  show K (.tuple []) (AMem.wth m [(b, mObj (mput l c.name c.data))])
 
  have e0 : applyC l c = (mput l c.name c.data : List (Str × Str)) := by
   unfold applyC; simp_all
  rw [e0] at hK
  exact hK
 replace h6 : c.kind ≠ 3 := (ne_of_beq_false h6)
 refine rS [] [0, 3, 5, 14] (by decide) ?_
 intro K1 hK1
 refine ⟨tv, tv, ?_⟩
 show K1 [(0, .map b), (3, pT b1), (5, iT c.kind), (14, .bool (c.kind == 2))] (mW m [(b1, .cells [.str c.name, .str c.data, .str c.to, iT c.kind]), (b, mObj l)])
 refine hK1 _ _ ?_; clear hK1 K1
 refine cD rfl rfl (fun h7 => ?_) (fun h7 => ?_)
 ·
  replace h7 : c.kind = 2 := (eq_of_beq h7)
  refine awp_reg2 [] [] (by decide) ?_
  intro K1 hK1
  refine ⟨tv, ⟨rfl, by decide⟩, ?_⟩
  refine aL rfl (v := .str c.name) rfl (wG 0 hNb1 rfl) rfl (aO rfl rfl (nB rfl)) rfl ?_
  refine ar_lookup rfl (m := m) (L := [(b1, .cells [.str c.name, .str c.data, .str c.to, iT c.kind]), (b, mObj l)]) strAV strAV strKey_ok l c.name [] rfl rfl rfl rfl rfl (wG 1 hNb1 rfl) rfl ?_
  refine ⟨⟨rfl, by decide⟩, ?_⟩
  refine aL rfl (v := .str c.data) rfl (wG 0 hNb1 rfl) rfl (aO rfl rfl (nB rfl)) rfl ?_
  refine ⟨(by omega), ?_⟩
  refine ar_mapUpdate rfl (m := m) (L := [(b1, .cells [.str c.name, .str c.data, .str c.to, iT c.kind]), (b, mObj l)]) 1 strAV strAV strKey_ok l c.name (((mget l c.name).getD []) ++ c.data) rfl rfl rfl rfl rfl rfl hNb1 (by refine Nat.le_trans (mput_len _ _ _) (by omega)) ?_
  show K1 [] (mW m [(b1, .cells [.str c.name, .str c.data, .str c.to, iT c.kind]), (b, mObj (mput l c.name (((mget l c.name).getD []) ++ c.data)))])
  refine hK1 _ _ ?_; clear hK1 K1
  refine ⟨(mW m [(b, mObj (mput l c.name (((mget l c.name).getD []) ++ c.data)))]), (wth_sub2 (m := m) [(b1, .cells [.str c.name, .str c.data, .str c.to, iT c.kind])] [(b, mObj (mput l c.name (((mget l c.name).getD []) ++ c.data)))] hNb1 (by simp only [List.map_cons, List.map_nil, List.forall_mem_cons]; exact ⟨hFb1, nfA⟩)), ?_⟩
  show K (.tuple []) (AMem.wth m [(b, mObj (mput l c.name (((mget l c.name).getD []) ++ c.data)))])
 
  have e0 : applyC l c = (mput l c.name (((mget l c.name).getD []) ++ c.data) : List (Str × Str)) := by
   unfold applyC; simp_all
  rw [e0] at hK
  exact hK
 replace h7 : c.kind ≠ 2 := (ne_of_beq_false h7)
 refine rS [] [0, 3, 5, 23] (by decide) ?_
 intro K1 hK1
 refine ⟨tv, tv, ?_⟩
 show K1 [(0, .map b), (3, pT b1), (5, iT c.kind), (23, .bool (c.kind == 4))] (mW m [(b1, .cells [.str c.name, .str c.data, .str c.to, iT c.kind]), (b, mObj l)])
 refine hK1 _ _ ?_; clear hK1 K1
 refine cD rfl rfl (fun h8 => ?_) (fun h8 => ?_)
 ·
  replace h8 : c.kind = 4 := (eq_of_beq h8)
  refine rS [] [0, 3] (by decide) ?_
  intro K1 hK1
  refine ⟨tv, ⟨rfl, by decide⟩, ?_⟩
  refine aL rfl (v := .str c.to) rfl (wG 0 hNb1 rfl) rfl (aO rfl rfl (nB rfl)) rfl ?_
  refine ⟨tv, ⟨rfl, by decide⟩, ?_⟩
  refine aL rfl (v := .str c.name) rfl (wG 0 hNb1 rfl) rfl (aO rfl rfl (nB rfl)) rfl ?_
  refine ar_lookup rfl (m := m) (L := [(b1, .cells [.str c.name, .str c.data, .str c.to, iT c.kind]), (b, mObj l)]) strAV strAV strKey_ok l c.name [] rfl rfl rfl rfl rfl (wG 1 hNb1 rfl) rfl ?_
  refine ar_mapUpdate rfl (m := m) (L := [(b1, .cells [.str c.name, .str c.data, .str c.to, iT c.kind]), (b, mObj l)]) 1 strAV strAV strKey_ok l c.to ((mget l c.name).getD []) rfl rfl rfl rfl rfl rfl hNb1 (by refine Nat.le_trans (mput_len _ _ _) (by omega)) ?_
  show K1 [(0, .map b), (3, pT b1)] (mW m [(b1, .cells [.str c.name, .str c.data, .str c.to, iT c.kind]), (b, mObj (mput l c.to ((mget l c.name).getD [])))])
  refine hK1 _ _ ?_; clear hK1 K1
  refine awp_reg2 [] [] (by decide) ?_
  intro K1 hK1
  refine ⟨tv, ⟨rfl, by decide⟩, ?_⟩
  refine aL rfl (v := .str c.name) rfl (wG 0 hNb1 rfl) rfl (aO rfl rfl (nB rfl)) rfl ?_
  refine ar_delete rfl (m := m) (L := [(b1, .cells [.str c.name, .str c.data, .str c.to, iT c.kind]), (b, mObj (mput l c.to ((mget l c.name).getD [])))]) 1 strAV strAV strKey_ok (mput l c.to ((mget l c.name).getD [])) c.name rfl rfl rfl rfl rfl hNb1 ?_
  show K1 [] (mW m [(b1, .cells [.str c.name, .str c.data, .str c.to, iT c.kind]), (b, mObj (mdel (mput l c.to ((mget l c.name).getD [])) c.name))])
  refine hK1 _ _ ?_; clear hK1 K1
  refine ⟨(mW m [(b, mObj (mdel (mput l c.to ((mget l c.name).getD [])) c.name))]), (wth_sub2 (m := m) [(b1, .cells [.str c.name, .str c.data, .str c.to, iT c.kind])] [(b, mObj (mdel (mput l c.to ((mget l c.name).getD [])) c.name))] hNb1 (by simp only [List.map_cons, List.map_nil, List.forall_mem_cons]; exact ⟨hFb1, nfA⟩)), ?_⟩
  show K (.tuple []) (AMem.wth m [(b, mObj (mdel (mput l c.to ((mget l c.name).getD [])) c.name))])
 
  have e0 : applyC l c = (mdel (mput l c.to ((mget l c.name).getD [])) c.name : List (Str × Str)) := by
   unfold applyC; simp_all
  rw [e0] at hK
  exact hK
 replace h8 : c.kind ≠ 4 := (ne_of_beq_false h8)
 refine rS [] [0, 3, 35] (by decide) ?_
 intro K1 hK1
 refine ⟨tv, tv, ?_⟩
 show K1 [(0, .map b), (3, pT b1), (35, .bool (c.kind == 5))] (mW m [(b1, .cells [.str c.name, .str c.data, .str c.to, iT c.kind]), (b, mObj l)])
 refine hK1 _ _ ?_; clear hK1 K1
 refine cD rfl rfl (fun h9 => ?_) (fun h9 => ?_)
 ·
  replace h9 : c.kind = 5 := (eq_of_beq h9)
  refine awp_reg2 [] [] (by decide) ?_
  intro K1 hK1
  refine ⟨tv, ⟨rfl, by decide⟩, ?_⟩
  refine aL rfl (v := .str c.name) rfl (wG 0 hNb1 rfl) rfl (aO rfl rfl (nB rfl)) rfl ?_
  refine ar_delete rfl (m := m) (L := [(b1, .cells [.str c.name, .str c.data, .str c.to, iT c.kind]), (b, mObj l)]) 1 strAV strAV strKey_ok l c.name rfl rfl rfl rfl rfl hNb1 ?_
  show K1 [] (mW m [(b1, .cells [.str c.name, .str c.data, .str c.to, iT c.kind]), (b, mObj (mdel l c.name))])
  refine hK1 _ _ ?_; clear hK1 K1
  refine ⟨(mW m [(b, mObj (mdel l c.name))]), (wth_sub2 (m := m) [(b1, .cells [.str c.name, .str c.data, .str c.to, iT c.kind])] [(b, mObj (mdel l c.name))] hNb1 (by simp only [List.map_cons, List.map_nil, List.forall_mem_cons]; exact ⟨hFb1, nfA⟩)), ?_⟩
  show K (.tuple []) (AMem.wth m [(b, mObj (mdel l c.name))])
 
  have e0 : applyC l c = (mdel l c.name : List (Str × Str)) := by
   unfold applyC; simp_all
  rw [e0] at hK
  exact hK
 replace h9 : c.kind ≠ 5 := (ne_of_beq_false h9)
 refine awp_skip ?_
 refine ⟨(mW m [(b, mObj l)]), (wth_sub2 (m := m) [(b1, .cells [.str c.name, .str c.data, .str c.to, iT c.kind])] [(b, mObj l)] hNb1 (by simp only [List.map_cons, List.map_nil, List.forall_mem_cons]; exact ⟨hFb1, nfA⟩)), ?_⟩
 show K (.tuple []) (AMem.wth m [(b, mObj l)])
 have e0 : applyC l c = (l : List (Str × Str)) := by
  unfold applyC; simp_all
 rw [e0] at hK
 exact hK
theorem stepF_keep (s : DSt) : (stepF s).1.kept = s.kept ∧ (stepF s).1.now = s.now ∧ (stepF s).1.wait = s.wait ∧ 0 ≤ (stepF s).2 := by
  unfold stepF; split
  · exact ⟨rfl, rfl, rfl, by simp⟩
  · split
    · exact ⟨rfl, rfl, rfl, by simp⟩
    · exact ⟨rfl, rfl, rfl, by simp⟩
theorem stepF_steps (s : DSt) : s.steps ≤ (stepF s).1.steps ∧ (stepF s).1.steps ≤ s.steps + 1 := by
  unfold stepF; split
  · exact ⟨by simp; try omega, by simp; try omega⟩
  · split
    · exact ⟨by simp; try omega, by simp; try omega⟩
    · exact ⟨by simp; try omega, by simp; try omega⟩
set_option maxHeartbeats 2000000 in
theorem u_Step (d kb nb : Nat) (s : DSt) (hst : 0 ≤ s.steps) (hst2 : s.steps ≤ 4611686018427387904) (hfu : -1 ≤ s.fuse) (hfu2 : s.fuse ≤ 9223372036854775807) (m : AMem)  (K : AV → AMem → Prop) (hK : K (.err 60 (stepF s).2) (mW m [(d, dObj kb nb (stepF s).1)])) : ACalls Tryd.prog 46 [pT d] (mW m [(d, dObj kb nb s)]) K := by
 refine acalls_enter Tryd.func46 rfl (by decide) (nB rfl) ?_
 show AWP _ _ _ _ [(0, pT d)] (mW m [(d, dObj kb nb s)])
 refine rS [] [0] (by decide) ?_
 intro K1 hK1
 refine ⟨tv, ?_⟩
 show K1 [(0, pT d)] _
 refine hK1 _ _ ?_; clear hK1 K1
 refine sK ?_; intro K2 hK2
 refine rS [] [0, 6] (by decide) ?_
 intro K1 hK1
 refine ⟨tv, tv, ⟨rfl, by decide⟩, ?_⟩
 refine aL rfl (v := .bool s.down) rfl (wG 0 (nodup_1 d) rfl) rfl (aO rfl rfl (nB rfl)) rfl ?_
 show K1 [(0, pT d), (6, .bool s.down)] _
 refine hK1 _ _ ?_; clear hK1 K1
 refine cD rfl rfl (fun h1 => ?_) (fun h1 => ?_)
 ·
  replace h1 : s.down = true := h1
  refine rS [] [2] (by decide) ?_
  intro K1 hK1
  refine ⟨tv, tv, ?_⟩
  show K1 [(2, .iface 60 (iT 10))] (mW m [(d, dObj kb nb s)])
  refine hK1 _ _ ?_; clear hK1 K1
  refine awp_toErr 60 [2] ?_
  show AWP _ _ _ _ [(2, .err 60 10)] _
  refine awp_ret ?_
  refine ⟨tv, (mW m [(d, dObj kb nb s)]), fun _ _ h => h, ?_⟩
  show K (.err 60 10) _
 
  have e0 : stepF s = ((s, 10) : DSt × Int) := by
   obtain ⟨kept, now, wait, fuse, down, steps⟩ := s
   simp_all [stepF] <;> omega
  rw [e0] at hK
  exact hK
 replace h1 : s.down = false := h1
 refine awp_skip ?_
 refine hK2 _ _ ?_; clear hK2
 refine sK ?_; intro K3 hK3
 refine rS [] [0, 12] (by decide) ?_
 intro K1 hK1
 refine ⟨tv, tv, ⟨rfl, by decide⟩, ?_⟩
 refine aL rfl (v := iT s.fuse) rfl (wG 0 (nodup_1 d) rfl) rfl (aO rfl rfl (nB rfl)) rfl ?_
 refine ⟨tv, ?_⟩
 show K1 [(0, pT d), (12, .bool (s.fuse == 0))] (mW m [(d, dObj kb nb s)])
 refine hK1 _ _ ?_; clear hK1 K1
 refine cD rfl rfl (fun h2 => ?_) (fun h2 => ?_)
 ·
  replace h2 : s.fuse = 0 := (eq_of_beq h2)
  refine rS [] [0] (by decide) ?_
  intro K1 hK1
  refine ⟨tv, tv, ⟨rfl, by decide⟩, ?_⟩
  refine aS rfl 0 (v := .bool true) (l' := [.map kb, .map nb, sT (s.wait.map chgAV), iT s.fuse, .bool true, iT s.steps]) rfl rfl (nodup_1 d) rfl rfl rfl rfl rfl (nB rfl) rfl ?_
  show K1 [(0, pT d)] (mW m [(d, .cells [.map kb, .map nb, sT (s.wait.map chgAV), iT s.fuse, .bool true, iT s.steps])])
  refine hK1 _ _ ?_; clear hK1 K1
  refine rS [] [] (by decide) ?_
  intro K1 hK1
  refine ⟨tv, tv, ⟨rfl, by decide⟩, ?_⟩
  refine aS rfl 0 (v := iT (-1)) (l' := [.map kb, .map nb, sT (s.wait.map chgAV), iT (-1), .bool true, iT s.steps]) rfl rfl (nodup_1 d) rfl rfl rfl rfl rfl (nB rfl) rfl ?_
  show K1 [] (mW m [(d, .cells [.map kb, .map nb, sT (s.wait.map chgAV), iT (-1), .bool true, iT s.steps])])
  refine hK1 _ _ ?_; clear hK1 K1
  refine rS [] [2] (by decide) ?_
  intro K1 hK1
  refine ⟨tv, tv, ?_⟩
  show K1 [(2, .iface 60 (iT 10))] _
  refine hK1 _ _ ?_; clear hK1 K1
  refine awp_toErr 60 [2] ?_
  show AWP _ _ _ _ [(2, .err 60 10)] _
  refine awp_ret ?_
  refine ⟨tv, (mW m [(d, .cells [.map kb, .map nb, sT (s.wait.map chgAV), iT (-1), .bool true, iT s.steps])]), fun _ _ h => h, ?_⟩
  show K (.err 60 10) _
 
  have e0 : stepF s = (((⟨s.kept, s.now, s.wait, -1, true, s.steps⟩ : DSt), 10) : DSt × Int) := by
   obtain ⟨kept, now, wait, fuse, down, steps⟩ := s
   simp_all [stepF] <;> omega
  rw [e0] at hK
  exact hK
 replace h2 : s.fuse ≠ 0 := (ne_of_beq_false h2)
 refine awp_skip ?_
 refine hK3 _ _ ?_; clear hK3
 refine sK ?_; intro K4 hK4
 refine rS [] [0, 24] (by decide) ?_
 intro K1 hK1
 refine ⟨tv, tv, ⟨rfl, by decide⟩, ?_⟩
 refine aL rfl (v := iT s.fuse) rfl (wG 0 (nodup_1 d) rfl) rfl (aO rfl rfl (nB rfl)) rfl ?_
 refine ⟨tv, ?_⟩
 show K1 [(0, pT d), (24, .bool (decide (0 < s.fuse)))] (mW m [(d, dObj kb nb s)])
 refine hK1 _ _ ?_; clear hK1 K1
 refine cD rfl rfl (fun h3 => ?_) (fun h3 => ?_)
 ·
  replace h3 : 0 < s.fuse := (of_decide_eq_true h3)
  refine awp_reg2 [] [0] (by decide) ?_
  intro K1 hK1
  refine ⟨tv, tv, ⟨rfl, by decide⟩, ?_⟩
  refine aL rfl (v := iT s.fuse) rfl (wG 0 (nodup_1 d) rfl) rfl (aO rfl rfl (nB rfl)) rfl ?_
  refine ar_sub rfl (a := s.fuse) (b := 1) rfl rfl (by omega) (by omega) ?_
  refine ⟨tv, ⟨rfl, by decide⟩, ?_⟩
  refine aS rfl 0 (v := iT (s.fuse - 1)) (l' := [.map kb, .map nb, sT (s.wait.map chgAV), iT (s.fuse - 1), .bool s.down, iT s.steps]) rfl rfl (nodup_1 d) rfl rfl rfl rfl rfl (nB rfl) rfl ?_
  show K1 [(0, pT d)] (mW m [(d, .cells [.map kb, .map nb, sT (s.wait.map chgAV), iT (s.fuse - 1), .bool s.down, iT s.steps])])
  refine hK1 _ _ ?_; clear hK1 K1
  refine hK4 _ _ ?_; clear hK4
  refine rS [] [] (by decide) ?_
  intro K1 hK1
  refine ⟨tv, tv, ⟨rfl, by decide⟩, ?_⟩
  refine aL rfl (v := iT s.steps) rfl (wG 0 (nodup_1 d) rfl) rfl (aO rfl rfl (nB rfl)) rfl ?_
  refine ar_add rfl (a := s.steps) (b := 1) rfl rfl (by omega) (by omega) ?_
  refine ⟨tv, ⟨rfl, by decide⟩, ?_⟩
  refine aS rfl 0 (v := iT (s.steps + 1)) (l' := [.map kb, .map nb, sT (s.wait.map chgAV), iT (s.fuse - 1), .bool s.down, iT (s.steps + 1)]) rfl rfl (nodup_1 d) rfl rfl rfl rfl rfl (nB rfl) rfl ?_
  show K1 [] (mW m [(d, .cells [.map kb, .map nb, sT (s.wait.map chgAV), iT (s.fuse - 1), .bool s.down, iT (s.steps + 1)])])
  refine hK1 _ _ ?_; clear hK1 K1
  refine rS [] [2] (by decide) ?_
  intro K1 hK1
  refine ⟨tv, ?_⟩
  show K1 [(2, .nilIface)] _
  refine hK1 _ _ ?_; clear hK1 K1
  refine awp_toErr 60 [2] ?_
  show AWP _ _ _ _ [(2, .err 60 0)] _
  refine awp_ret ?_
  refine ⟨tv, (mW m [(d, .cells [.map kb, .map nb, sT (s.wait.map chgAV), iT (s.fuse - 1), .bool s.down, iT (s.steps + 1)])]), fun _ _ h => h, ?_⟩
  show K (.err 60 0) _
 
  have e0 : stepF s = (((⟨s.kept, s.now, s.wait, s.fuse - 1, s.down, s.steps + 1⟩ : DSt), 0) : DSt × Int) := by
   obtain ⟨kept, now, wait, fuse, down, steps⟩ := s
   simp_all [stepF] <;> omega
  rw [e0] at hK
  exact hK
 replace h3 : s.fuse ≤ 0 := (Int.not_lt.1 (of_decide_eq_false h3))
 refine awp_skip ?_
 refine hK4 _ _ ?_; clear hK4
 refine rS [] [] (by decide) ?_
 intro K1 hK1
 refine ⟨tv, tv, ⟨rfl, by decide⟩, ?_⟩
 refine aL rfl (v := iT s.steps) rfl (wG 0 (nodup_1 d) rfl) rfl (aO rfl rfl (nB rfl)) rfl ?_
 refine ar_add rfl (a := s.steps) (b := 1) rfl rfl (by omega) (by omega) ?_
 refine ⟨tv, ⟨rfl, by decide⟩, ?_⟩
 refine aS rfl 0 (v := iT (s.steps + 1)) (l' := [.map kb, .map nb, sT (s.wait.map chgAV), iT s.fuse, .bool s.down, iT (s.steps + 1)]) rfl rfl (nodup_1 d) rfl rfl rfl rfl rfl (nB rfl) rfl ?_
 show K1 [] (mW m [(d, .cells [.map kb, .map nb, sT (s.wait.map chgAV), iT s.fuse, .bool s.down, iT (s.steps + 1)])])
 refine hK1 _ _ ?_; clear hK1 K1
 refine rS [] [2] (by decide) ?_
 intro K1 hK1
 refine ⟨tv, ?_⟩
 show K1 [(2, .nilIface)] _
 refine hK1 _ _ ?_; clear hK1 K1
 refine awp_toErr 60 [2] ?_
 show AWP _ _ _ _ [(2, .err 60 0)] _
 refine awp_ret ?_
 refine ⟨tv, (mW m [(d, .cells [.map kb, .map nb, sT (s.wait.map chgAV), iT s.fuse, .bool s.down, iT (s.steps + 1)])]), fun _ _ h => h, ?_⟩
 show K (.err 60 0) _
 have e0 : stepF s = (((⟨s.kept, s.now, s.wait, s.fuse, s.down, s.steps + 1⟩ : DSt), 0) : DSt × Int) := by
  obtain ⟨kept, now, wait, fuse, down, steps⟩ := s
  simp_all [stepF] <;> omega
 rw [e0] at hK
 exact hK
structure DInv (N : Nat) (s : DSt) : Prop where
  st0 : 0 ≤ s.steps
  st1 : s.steps ≤ N
  fu0 : -1 ≤ s.fuse
  fu1 : s.fuse ≤ 9223372036854775807
  kl : s.kept.length + s.wait.length ≤ N
  kb : ∀ p ∈ s.kept, p.2.length + 4000 * s.wait.length ≤ 4000 * N
  cd : ∀ c ∈ s.wait, c.data.length ≤ 4000
  nl : s.now.length ≤ N
  nb : ∀ p ∈ s.now, p.2.length ≤ 4000 * N
theorem mput_mem {l : List (Str × Str)} {k v : Str} {p : Str × Str} (h : p ∈ mput l k v) : p ∈ l ∨ p = (k, v) := by
  induction l with
  | nil => simp [mput] at h; exact .inr h
  | cons q r ih =>
    obtain ⟨a, b⟩ := q
    simp only [mput] at h
    split at h
    · rcases List.mem_cons.1 h with h | h
      · exact .inr h
      · exact .inl (by simp [h])
    · rcases List.mem_cons.1 h with h | h
      · exact .inl (by simp [h])
      · rcases ih h with h | h
        · exact .inl (by simp [h])
        · exact .inr h
theorem mdel_mem {l : List (Str × Str)} {k : Str} {p : Str × Str} (h : p ∈ mdel l k) : p ∈ l := by
  induction l with
  | nil => simp [mdel] at h
  | cons q r ih =>
    obtain ⟨a, b⟩ := q
    simp only [mdel] at h
    split at h
    · simp [h]
    · rcases List.mem_cons.1 h with h | h
      · simp [h]
      · simp [ih h]
theorem applyC_len (l : List (Str × Str)) (c : Chg) : (applyC l c).length ≤ l.length + 1 := by
  unfold applyC
  split
  · exact mput_len _ _ _
  · split
    · exact mput_len _ _ _
    · split
      · have h1 := mdel_len (mput l c.to ((mget l c.name).getD [])) c.name
        have h2 := mput_len l c.to ((mget l c.name).getD [])
        omega
      · split
        · have := mdel_len l c.name; omega
        · omega
theorem applyC_bnd {l : List (Str × Str)} {c : Chg} {B : Nat} (h : ∀ p ∈ l, p.2.length ≤ B) (hc : c.data.length ≤ 4000) : ∀ p ∈ applyC l c, p.2.length ≤ B + 4000 := by
  intro p hp
  have hg := mget_le (k := c.name) h
  unfold applyC at hp
  split at hp
  · rcases mput_mem hp with hp | rfl
    · have := h p hp; omega
    · simp; omega
  · split at hp
    · rcases mput_mem hp with hp | rfl
      · have := h p hp; omega
      · simp; omega
    · split at hp
      · rcases mput_mem (mdel_mem hp) with hp | rfl
        · have := h p hp; omega
        · simp; omega
      · split at hp
        · have := h p (mdel_mem hp); omega
        · have := h p hp; omega
def applyL (l : List (Str × Str)) (cs : List Chg) : List (Str × Str) := cs.foldl applyC l
theorem applyL_bnd {cs : List Chg} (hc : ∀ c ∈ cs, c.data.length ≤ 4000) : ∀ {l : List (Str × Str)} {B : Nat}, (∀ p ∈ l, p.2.length ≤ B) → (applyL l cs).length ≤ l.length + cs.length ∧ ∀ p ∈ applyL l cs, p.2.length ≤ B + 4000 * cs.length := by
  induction cs with
  | nil => intro l B h; exact ⟨by simp [applyL], fun p hp => by have := h p hp; simp; omega⟩
  | cons c cs ih =>
    intro l B h
    have h1 := applyC_len l c
    have h2 := ih (fun c hc' => hc c (by simp [hc'])) (applyC_bnd h (hc c (by simp)))
    have e : applyL l (c :: cs) = applyL (applyC l c) cs := rfl
    rw [e, List.length_cons]
    exact ⟨by omega, fun p hp => by have := h2.2 p hp; omega⟩
theorem DInv.step {N : Nat} {s : DSt} (h : DInv N s) : DInv (N + 1) (stepF s).1 := by
  have k := stepF_keep s
  have q := stepF_steps s
  have hf : -1 ≤ (stepF s).1.fuse ∧ (stepF s).1.fuse ≤ 9223372036854775807 := by
    have := h.fu0; have := h.fu1
    unfold stepF; split
    · exact ⟨by assumption, by assumption⟩
    · split
      · exact ⟨by simp, by simp⟩
      · simp only; split <;> omega
  have := h.st0; have := h.st1; have := h.kl
  refine ⟨by omega, by omega, hf.1, hf.2, by rw [k.1, k.2.2.1]; omega, fun p hp => ?_, fun c hc => ?_, ?_, fun p hp => ?_⟩
  · rw [k.1] at hp; rw [k.2.2.1]; have := h.kb p hp; omega
  · rw [k.2.2.1] at hc; exact h.cd c hc
  · rw [k.2.1]; have := h.nl; omega
  · rw [k.2.1] at hp; have := h.nb p hp; omega
theorem DInv.do {N : Nat} {s : DSt} {c : Chg} (h : DInv N s) (hc : c.data.length ≤ 4000) : DInv (N + 1) (doF s c).1 := by
  unfold doF
  split
  · exact h.step
  · have k := stepF_keep s
    have g := h.step
    have := h.kl; have := h.nl; have := applyC_len s.now c
    refine ⟨g.st0, g.st1, g.fu0, g.fu1, by rw [k.1]; simp; omega, fun p hp => ?_, fun c' hc' => ?_, by simp; omega, fun p hp => ?_⟩
    · rw [k.1] at hp; have := h.kb p hp; simp; omega
    · rcases List.mem_append.1 hc' with hc' | hc'
      · exact h.cd c' hc'
      · simp at hc'; subst hc'; exact hc
    · have := applyC_bnd h.nb hc p hp; omega
def syncF (s : DSt) : DSt × Int :=
  if (stepF s).2 ≠ 0 then stepF s else ({ (stepF s).1 with kept := applyL s.kept s.wait, wait := [] }, 0)
theorem DInv.sync {N : Nat} {s : DSt} (h : DInv N s) : DInv (N + 1) (syncF s).1 := by
  unfold syncF
  split
  · exact h.step
  · have k := stepF_keep s
    have g := h.step
    have := h.kl; have := h.nl
    have a := applyL_bnd h.cd (l := s.kept) (B := 4000 * N - 4000 * s.wait.length) (fun p hp => by have := h.kb p hp; omega)
    refine ⟨g.st0, g.st1, g.fu0, g.fu1, by simp; omega, fun p hp => ?_, by simp, by rw [k.2.1]; omega, fun p hp => ?_⟩
    · have := a.2 p hp; simp; omega
    · rw [k.2.1] at hp; have := h.nb p hp; omega
theorem DInv.mono {N M : Nat} {s : DSt} (h : DInv N s) (hm : N ≤ M) : DInv M s :=
  ⟨h.st0, by have := h.st1; omega, h.fu0, h.fu1, by have := h.kl; omega, fun p hp => by have := h.kb p hp; omega, h.cd, by have := h.nl; omega, fun p hp => by have := h.nb p hp; omega⟩
end Go.Proofs
end
section
namespace Go.Proofs
open Go Go.Aw
set_option maxRecDepth 100000
set_option maxHeartbeats 4000000 in
theorem u_do (d kb nb : Nat) (s : DSt) (c : Chg) (N : Nat) (hN : [d, nb].Nodup) (hD : DInv N s) (hNN : N ≤ 100000) (hc : c.data.length ≤ 4000) (m : AMem)  (K : AV → AMem → Prop) (hK : K (.err 60 (doF s c).2) (mW m [(d, dObj kb nb (doF s c).1), (nb, mObj (doF s c).1.now)])) : ACalls Tryd.prog 37 [pT d, chgAV c] (mW m [(d, dObj kb nb s), (nb, mObj s.now)]) K := by
 have hk := stepF_keep s
 have hk3 := hk.2.2.1
 have hwl := hD.kl
 have hkw : (stepF s).1.wait.length ≤ 100000 := by rw [hk3]; omega
 refine acalls_enter Tryd.func37 rfl (by decide) (nB rfl) ?_
 show AWP _ _ _ _ [(0, pT d), (1, chgAV c)] (mW m [(d, dObj kb nb s), (nb, mObj s.now)])
 refine rS [] [0, 3] (by decide) ?_
 intro K1 hK1
 refine ar_box rfl (m := m) (L := [(d, dObj kb nb s), (nb, mObj s.now)]) (v := chgAV c) (by rfl) rfl ?_
 intro b1 hb1
 have hFb1 : m b1 = none := wth_none hb1
 have hNb1 : ([b1, d, nb] : List Nat).Nodup := wth_nodup hb1 hN
 refine ⟨tv, ?_⟩
 show K1 [(0, pT d), (3, pT b1)] (mW m [(b1, .cells [.str c.name, .str c.data, .str c.to, iT c.kind]), (d, dObj kb nb s), (nb, mObj s.now)])
 refine hK1 _ _ ?_; clear hK1 K1
 refine rS [] [0, 3, 5] (by decide) ?_
 intro K1 hK1
 refine ⟨tv, ?_⟩
 refine ar_mem (wS hNb1 (pick_perm [1] _)) ?_
 refine u_Step d kb nb s hD.st0 (by have := hD.st1; omega) hD.fu0 hD.fu1 _ _ ?_
 refine ar_mem (wS (m := m) (L := [(b1, .cells [.str c.name, .str c.data, .str c.to, iT c.kind]), (d, dObj kb nb ((stepF s).1)), (nb, mObj s.now)]) hNb1 (pick_perm [1] _)).symm ?_
 refine ⟨tv, ?_⟩
 show K1 [(0, pT d), (3, pT b1), (5, .err 60 ((stepF s).2))] (mW m [(b1, .cells [.str c.name, .str c.data, .str c.to, iT c.kind]), (d, dObj kb nb ((stepF s).1)), (nb, mObj s.now)])
 refine hK1 _ _ ?_; clear hK1 K1
 refine sK ?_; intro K2 hK2
 refine rS [] [0, 3, 5, 9] (by decide) ?_
 intro K1 hK1
 refine ⟨tv, ⟨rfl, rfl⟩, ?_⟩
 show K1 [(0, pT d), (3, pT b1), (5, .err 60 ((stepF s).2)), (9, .bool (!(((stepF s).2) == 0)))] _
 refine hK1 _ _ ?_; clear hK1 K1
 refine cD rfl rfl (fun h1 => ?_) (fun h1 => ?_)
 ·
  replace h1 : (stepF s).2 ≠ 0 := (ne_of_beq_false (bnT h1))
  refine rS [] [4] (by decide) ?_
  intro K1 hK1
  refine ⟨tv, tv, ?_⟩
  show K1 [(4, .err 60 ((stepF s).2))] (mW m [(b1, .cells [.str c.name, .str c.data, .str c.to, iT c.kind]), (d, dObj kb nb ((stepF s).1)), (nb, mObj s.now)])
  refine hK1 _ _ ?_; clear hK1 K1
  refine awp_ret ?_
  refine ⟨tv, (mW m [(d, dObj kb nb ((stepF s).1)), (nb, mObj s.now)]), (wth_sub2 (m := m) [(b1, .cells [.str c.name, .str c.data, .str c.to, iT c.kind])] [(d, dObj kb nb ((stepF s).1)), (nb, mObj s.now)] hNb1 (by simp only [List.map_cons, List.map_nil, List.forall_mem_cons]; exact ⟨hFb1, nfA⟩)), ?_⟩
  show K (.err 60 ((stepF s).2)) (AMem.wth m [(d, dObj kb nb ((stepF s).1)), (nb, mObj s.now)])
 
  have e0 : doF s c = (((⟨((stepF s).1).kept, s.now, ((stepF s).1).wait, ((stepF s).1).fuse, (((stepF s).1).down), ((stepF s).1).steps⟩ : DSt), (stepF s).2) : DSt × Int) := by
   first | (rw [doF, if_pos h1, ← hk.2.1]; done) | (rw [doF, if_neg (by omega)]; simp only [hk.1, hk3]; done)
  rw [e0] at hK
  exact hK
 replace h1 : (stepF s).2 = 0 := (eq_of_beq (bnF h1))
 refine awp_skip ?_
 refine hK2 _ _ ?_; clear hK2
 refine awp_draw_memP_seq Tryd.mixed [(5, 16)] [(5, 16, .tuple [])] [(mW m [(b1, .cells [.str c.name, .str c.data, .str c.to, iT c.kind]), (d, dObj kb nb ((stepF s).1)), (nb, mObj s.now)]), (mW m [(b1, .cells [.str c.name, .str c.data, .str c.to, iT c.kind]), (d, dObj kb nb ((stepF s).1)), (nb, mObj (applyC s.now c))])] [] [0, 3] [(15, .agg [.str c.name, .str c.data, .str c.to, iT c.kind]), (14, .map nb), (13, .ptr ⟨d, 1, none⟩), (12, pT d), (11, pT d), (16, .tuple []), (0, pT d), (3, pT b1), (5, .err 60 ((stepF s).2)), (9, .bool (!(((stepF s).2) == 0)))] (mW m [(b1, .cells [.str c.name, .str c.data, .str c.to, iT c.kind]), (d, dObj kb nb ((stepF s).1)), (nb, mObj (applyC s.now c))]) (by decide) (by decide) (by decide) rfl rfl rfl rfl ?_ ?_ ?_
 ·
  refine ⟨?_, tv⟩
  ·
   exact mem_call (wS (m := m) (L := [(b1, .cells [.str c.name, .str c.data, .str c.to, iT c.kind]), (d, dObj kb nb ((stepF s).1)), (nb, mObj s.now)]) hNb1 (pick_perm [2] _)) (wS (m := m) (L := [(b1, .cells [.str c.name, .str c.data, .str c.to, iT c.kind]), (d, dObj kb nb ((stepF s).1)), (nb, mObj (applyC s.now c))]) hNb1 (pick_perm [2] _)) (fun Kc hKc => u_apply nb s.now c (by have := hD.nl; omega) (fun p hp => by have := hD.nb p hp; omega) (by omega) _ Kc hKc)
 ·
  refine ⟨?_, ?_, tv⟩
  ·
   show pseq _ _ _ _ _ [(16, .tuple []), (0, pT d), (3, pT b1), (5, .err 60 ((stepF s).2)), (9, .bool (!(((stepF s).2) == 0)))] _
   refine ⟨tv, tv, ⟨rfl, by decide⟩, ?_⟩
   refine pq_loadp rfl (v := .map nb) rfl (wG 1 hNb1 rfl) (aO rfl rfl (nB rfl)) rfl ?_
   refine pq_loadp rfl (v := .agg [.str c.name, .str c.data, .str c.to, iT c.kind]) rfl (wG 0 hNb1 rfl) (apartOk_agg rfl rfl (nB rfl)) rfl ?_
   exact rfl
  ·
   show pseq _ _ _ _ _ [(16, .tuple []), (0, pT d), (3, pT b1), (5, .err 60 ((stepF s).2)), (9, .bool (!(((stepF s).2) == 0)))] _
   refine ⟨tv, tv, ⟨rfl, by decide⟩, ?_⟩
   refine pq_loadp rfl (v := .map nb) rfl (wG 1 hNb1 rfl) (aO rfl rfl (nB rfl)) rfl ?_
   refine pq_loadp rfl (v := .agg [.str c.name, .str c.data, .str c.to, iT c.kind]) rfl (wG 0 hNb1 rfl) (apartOk_agg rfl rfl (nB rfl)) rfl ?_
   exact rfl
 intro K1 hK1
 show K1 [(0, pT d), (3, pT b1)] (mW m [(b1, .cells [.str c.name, .str c.data, .str c.to, iT c.kind]), (d, dObj kb nb ((stepF s).1)), (nb, mObj (applyC s.now c))])
 refine hK1 _ _ ?_; clear hK1 K1
 refine awp_anyA_seq Tryd.mixed [] (by decide) ?_
 intro K1 hK1
 intro A hA
 suffices key : ∀ (_ : True), K1 [] (mW m [(b1, .cells [.str c.name, .str c.data, .str c.to, iT c.kind]), (d, .cells [.map kb, .map nb, sT (((((stepF s).1).wait) ++ ([c] : List Chg)).map chgAV), iT (((stepF s).1).fuse), .bool (((stepF s).1).down), iT (((stepF s).1).steps)]), (nb, mObj (applyC s.now c))]) by
  let KK1 : Fr → AMem → Prop := (fun fr m => K1 (fr.keep []) m)
  let M1_0 : AMem := (mW m [(b1, .cells [.str c.name, .str c.data, .str c.to, iT c.kind]), (d, .cells [.map kb, .map nb, sT (((((stepF s).1).wait) ++ ([c] : List Chg)).map chgAV), iT (((stepF s).1).fuse), .bool (((stepF s).1).down), iT (((stepF s).1).steps)]), (nb, mObj (applyC s.now c))])
  let f1_1 : Nat × AV := (24, sT (((((stepF s).1).wait) ++ ([c] : List Chg)).map chgAV))
  let f1_2 : Nat × AV := (26, .ptr ⟨d, 2, none⟩)
  let M1_3 : AMem := (mW m [(b1, .cells [.str c.name, .str c.data, .str c.to, iT c.kind]), (d, .cells [.map kb, .map nb, sF ((((stepF s).1).wait).map chgAV), iT (((stepF s).1).fuse), .bool (((stepF s).1).down), iT (((stepF s).1).steps)]), (nb, mObj (applyC s.now c))])
  let f1_4 : Nat × AV := (17, pT d)
  let f1_5 : Nat × AV := (21, sT ((((stepF s).1).wait).map chgAV))
  let f1_6 : Nat × AV := (23, .slice true [.agg [.str c.name, .str c.data, .str c.to, iT c.kind]])
  let f1_7 : Nat × AV := (22, .agg [.str c.name, .str c.data, .str c.to, iT c.kind])
  let f1_8 : Nat × AV := (20, .ptr ⟨d, 2, none⟩)
  let M1_9 : AMem := (mW m [(b1, .cells [.str c.name, .str c.data, .str c.to, iT c.kind]), (d, dObj kb nb ((stepF s).1)), (nb, mObj (applyC s.now c))])
  let f1_10 : Nat × AV := (3, pT b1)
  have s0 : ∀ (_ : True), A 0 #[true, true, true, true, true, true, true, true, true, true, true] KK1 [] M1_0 := by
   intro _
   subst hA
   exact AAny.done (by decide +kernel) (key tv)
  have s1 : ∀ (_ : True), A 1 #[true, true, true, true, true, true, true, true, true, true, false] KK1 [f1_1, f1_2] M1_3 := by
   intro _
   subst hA
   refine AAny.step [21] [10] (by decide +kernel) (by simp) (by decide) ⟨?_, tv⟩
   ·
    show aopsR _ _ _ [_] _ _ _
    refine aS rfl 1 (v := sT (((((stepF s).1).wait) ++ ([c] : List Chg)).map chgAV)) (l' := [.map kb, .map nb, sT (((((stepF s).1).wait) ++ ([c] : List Chg)).map chgAV), iT (((stepF s).1).fuse), .bool (((stepF s).1).down), iT (((stepF s).1).steps)]) rfl rfl hNb1 rfl rfl rfl rfl rfl (nB rfl) rfl ?_
    refine AAny.keep [] (by decide) ?_
    exact s0 trivial
  clear s0
  have s2 : ∀ (_ : True), A 4 #[true, true, true, true, true, true, true, false, false, false, false] KK1 [f1_4, f1_5, f1_6] M1_3 := by
   intro _
   subst hA
   refine AAny.step [21] [7] (by decide +kernel) (by simp) (by decide) ⟨?_, tv⟩
   ·
    show aopsR _ _ _ [_] _ _ _
    refine ar_append rfl chgAV (((stepF s).1).wait) ([c] : List Chg) rfl rfl rfl rfl rfl rfl (nB rfl) rfl (by (simp only [show Tryd.prog.bytesOf 73 = 56 from rfl, List.length_append, List.length_cons, List.length_nil]; omega)) (by (first | omega | (simp only [List.length_append, List.length_cons, List.length_nil]; omega))) (fun _ => ⟨rfl, rfl⟩) ?_
    refine AAny.fNil (i := 8) rfl rfl rfl (by decide) rfl (by decide +kernel) rfl ?_
    refine AAny.fField (i := 9) rfl rfl rfl (by decide) rfl (by decide +kernel) rfl rfl ⟨rfl, by decide⟩ ?_
    refine AAny.keep [24, 26] (by decide) ?_
    exact s1 trivial
  clear s1
  have s3 : ∀ (_ : True), A 5 #[true, true, true, true, true, true, false, false, false, false, false] KK1 [f1_4, f1_5, f1_7] M1_3 := by
   intro _
   subst hA
   refine AAny.step [21] [6] (by decide +kernel) (by simp) (by decide) ⟨?_, tv⟩
   ·
    show aopsR _ _ _ [_] _ _ _
    refine ⟨⟨rfl, nB rfl, rfl, nB rfl, rfl, by simp only [List.forall_mem_cons]; exact ⟨⟨rfl, rfl⟩, nfA⟩⟩, ?_⟩
    refine AAny.keep [17, 21, 23] (by decide) ?_
    exact s2 trivial
  have s4 : ∀ (_ : True), A 5 #[true, true, true, true, false, true, true, false, false, false, false] KK1 [f1_4, f1_8, f1_6] M1_9 := by
   intro _
   subst hA
   refine AAny.step [21] [4] (by decide +kernel) (by simp) (by decide) ⟨?_, tv⟩
   ·
    show aopsR _ _ _ [_] _ _ _
    refine ar_loads rfl (i := 1) rfl hNb1 rfl rfl rfl rfl (nB rfl) ?_
    refine AAny.keep [17, 21, 23] (by decide) ?_
    exact s2 trivial
  clear s2
  have s5 : ∀ (_ : True), A 6 #[true, true, true, true, true, false, false, false, false, false, false] KK1 [f1_10, f1_4, f1_5] M1_3 := by
   intro _
   subst hA
   refine AAny.step [21] [5] (by decide +kernel) (by simp) (by decide) ⟨?_, tv⟩
   ·
    show aopsR _ _ _ [_] _ _ _
    refine aL rfl (v := .agg [.str c.name, .str c.data, .str c.to, iT c.kind]) rfl (wG 0 hNb1 rfl) rfl (apartOk_agg rfl rfl (nB rfl)) rfl ?_
    refine AAny.keep [17, 21, 22] (by decide) ?_
    exact s3 trivial
  have s6 : ∀ (_ : True), A 6 #[true, true, true, true, false, true, false, false, false, false, false] KK1 [f1_4, f1_8, f1_7] M1_9 := by
   intro _
   subst hA
   refine AAny.step [21] [4, 6] (by decide +kernel) (by simp) (by decide) ⟨?_, ?_, tv⟩
   ·
    show aopsR _ _ _ [_] _ _ _
    refine ar_loads rfl (i := 1) rfl hNb1 rfl rfl rfl rfl (nB rfl) ?_
    refine AAny.keep [17, 21, 22] (by decide) ?_
    exact s3 trivial
   ·
    show aopsR _ _ _ [_] _ _ _
    refine ⟨⟨rfl, nB rfl, rfl, nB rfl, rfl, by simp only [List.forall_mem_cons]; exact ⟨⟨rfl, rfl⟩, nfA⟩⟩, ?_⟩
    refine AAny.keep [17, 20, 23] (by decide) ?_
    exact s4 trivial
  clear s3 s4
  have s7 : ∀ (_ : True), A 7 #[true, true, true, true, false, false, false, false, false, false, false] KK1 [f1_10, f1_4, f1_8] M1_9 := by
   intro _
   subst hA
   refine AAny.step [21] [4, 5] (by decide +kernel) (by simp) (by decide) ⟨?_, ?_, tv⟩
   ·
    show aopsR _ _ _ [_] _ _ _
    refine ar_loads rfl (i := 1) rfl hNb1 rfl rfl rfl rfl (nB rfl) ?_
    refine AAny.keep [3, 17, 21] (by decide) ?_
    exact s5 trivial
   ·
    show aopsR _ _ _ [_] _ _ _
    refine aL rfl (v := .agg [.str c.name, .str c.data, .str c.to, iT c.kind]) rfl (wG 0 hNb1 rfl) rfl (apartOk_agg rfl rfl (nB rfl)) rfl ?_
    refine AAny.keep [17, 20, 22] (by decide) ?_
    exact s6 trivial
  clear s5 s6
  subst hA
  refine AAny.fMove (i := 0) rfl rfl rfl (by decide) rfl (by decide +kernel) rfl ?_
  refine AAny.fMove (i := 1) rfl rfl rfl (by decide) rfl (by decide +kernel) rfl ?_
  refine AAny.fNil (i := 2) rfl rfl rfl (by decide) rfl (by decide +kernel) rfl ?_
  refine AAny.fField (i := 3) rfl rfl rfl (by decide) rfl (by decide +kernel) rfl rfl ⟨rfl, by decide⟩ ?_
  refine AAny.keep [3, 17, 20] (by decide) ?_
  exact s7 trivial
 intro _
 refine hK1 _ _ ?_; clear hK1 K1
 refine rS [] [4] (by decide) ?_
 intro K1 hK1
 refine ⟨tv, ?_⟩
 show K1 [(4, .nilIface)] (mW m [(b1, .cells [.str c.name, .str c.data, .str c.to, iT c.kind]), (d, .cells [.map kb, .map nb, sT (((((stepF s).1).wait) ++ ([c] : List Chg)).map chgAV), iT (((stepF s).1).fuse), .bool (((stepF s).1).down), iT (((stepF s).1).steps)]), (nb, mObj (applyC s.now c))])
 refine hK1 _ _ ?_; clear hK1 K1
 refine awp_toErr 60 [4] ?_
 show AWP _ _ _ _ [(4, .err 60 0)] _
 refine awp_ret ?_
 refine ⟨tv, (mW m [(d, .cells [.map kb, .map nb, sT (((((stepF s).1).wait) ++ ([c] : List Chg)).map chgAV), iT (((stepF s).1).fuse), .bool (((stepF s).1).down), iT (((stepF s).1).steps)]), (nb, mObj (applyC s.now c))]), (wth_sub2 (m := m) [(b1, .cells [.str c.name, .str c.data, .str c.to, iT c.kind])] [(d, .cells [.map kb, .map nb, sT (((((stepF s).1).wait) ++ ([c] : List Chg)).map chgAV), iT (((stepF s).1).fuse), .bool (((stepF s).1).down), iT (((stepF s).1).steps)]), (nb, mObj (applyC s.now c))] hNb1 (by simp only [List.map_cons, List.map_nil, List.forall_mem_cons]; exact ⟨hFb1, nfA⟩)), ?_⟩
 show K (.err 60 0) (AMem.wth m [(d, .cells [.map kb, .map nb, sT (((((stepF s).1).wait) ++ ([c] : List Chg)).map chgAV), iT (((stepF s).1).fuse), .bool (((stepF s).1).down), iT (((stepF s).1).steps)]), (nb, mObj (applyC s.now c))])
 have e0 : doF s c = (((⟨s.kept, applyC s.now c, (((stepF s).1).wait) ++ ([c] : List Chg), ((stepF s).1).fuse, (((stepF s).1).down), ((stepF s).1).steps⟩ : DSt), 0) : DSt × Int) := by
  first | (rw [doF, if_pos h1, ← hk.2.1]; done) | (rw [doF, if_neg (by omega)]; simp only [hk.1, hk3]; done)
 rw [e0] at hK
 exact hK
def nameC (c : UInt8) : Bool := (decide (97 ≤ (c.toNat : Int)) && decide ((c.toNat : Int) ≤ 122)) || (decide (48 ≤ (c.toNat : Int)) && decide ((c.toNat : Int) ≤ 57)) || ((c.toNat : Int) == 46)
def nameF (s : Str) : Bool := s.all nameC && !(s == []) && decide ((s.length : Int) ≤ 24)
def mayR (s : DSt) (name : Str) (size : Int) : Int :=
  if nameF name = false then 3 else if 4000 < size then 2 else if (mget s.now name).isSome = false ∧ 40 ≤ (s.now.length : Int) then 2 else 0
def writeR (s : DSt) (name data : Str) : DSt × Int := if mayR s name data.length ≠ 0 then (s, mayR s name data.length) else doF s ⟨name, data, [], 1⟩
def readR (s : DSt) (name : Str) : Str × Int := if s.down = true then ([], 10) else if (mget s.now name).isSome = false then ([], 7) else ((mget s.now name).getD [], 0)
theorem mayR_size {s : DSt} {n : Str} {z : Int} (h : mayR s n z = 0) : z ≤ 4000 := by
  unfold mayR at h
  split at h
  · cases h
  · split at h
    · cases h
    · omega
theorem all_snoc {s : Str} {i : Int} {p : UInt8 → Bool} (h0 : 0 ≤ i) (hi : i < s.length) : (s.take (i + 1).toNat).all p = ((s.take i.toNat).all p && p (gI s i)) := by
  rw [take_succ_gI h0 hi, List.all_append]; simp
set_option maxHeartbeats 2000000 in
theorem u_Name (s : Str) (hs : s.length ≤ 140737488355328) (m : AMem)  (K : AV → AMem → Prop) (hK : K (.bool (nameF s)) m) : ACalls Tryd.prog 49 [.str s] m K := by
 refine acalls_enter Tryd.func49 rfl (by decide) (nB rfl) ?_
 show AWP _ _ _ _ [(0, .str s)] m
 refine rS [] [0] (by decide) ?_
 intro K1 hK1
 refine ⟨tv, ?_⟩
 show K1 [(0, .str s)] m
 refine hK1 _ _ ?_; clear hK1 K1
 refine sK ?_; intro K2 hK2
 refine rS [] [0, 6, 7] (by decide) ?_
 intro K1 hK1
 refine ⟨tv, tv, tv, ?_⟩
 show K1 [(0, .str s), (6, iT (s.length : Int)), (7, iT 0)] m
 refine hK1 _ _ ?_; clear hK1 K1
 refine awp_block ?_
 refine awp_keep [0, 6, 7] (by decide) ?_
 refine awp_loop_st (σ := Int) (fun i => [(0, .str s), (6, iT (s.length : Int)), (7, iT i)]) (fun _ => m) (fun i => 0 ≤ i ∧ i ≤ s.length ∧ (s.take i.toNat).all nameC = true) (fun i => s.length - i.toNat) (0) rfl rfl ?_ ?_
 ·
  show 0 ≤ ((0 : Int)) ∧ ((0 : Int)) ≤ s.length ∧ (s.take ((0 : Int)).toNat).all nameC = true
  exact ⟨by omega, by omega, by simp⟩
 rintro i hI
 replace hI : 0 ≤ i ∧ i ≤ s.length ∧ (s.take i.toNat).all nameC = true := hI
 show AWP _ _ _ _ [(0, .str s), (6, iT (s.length : Int)), (7, iT i)] m
 refine rS [] [0, 6, 7, 8] (by decide) ?_
 intro K1 hK1
 refine ⟨tv, ?_⟩
 show K1 [(0, .str s), (6, iT (s.length : Int)), (7, iT i), (8, .bool (decide (i < (s.length : Int))))] m
 refine hK1 _ _ ?_; clear hK1 K1
 refine sK ?_; intro K3 hK3
 refine cD rfl rfl (fun h1 => ?_) (fun h1 => ?_)
 ·
  replace h1 : i < (s.length : Int) := (of_decide_eq_true h1)
  refine awp_skip ?_
  refine hK3 _ _ ?_; clear hK3
  refine sK ?_; intro K4 hK4
  refine awp_block ?_
  refine rS [] [0, 3, 6, 7] (by decide) ?_
  intro K1 hK1
  refine ⟨tv, tv, ?_⟩
  show K1 [(0, .str s), (3, iT i), (6, iT (s.length : Int)), (7, iT i)] m
  refine hK1 _ _ ?_; clear hK1 K1
  refine rS [] [0, 4, 6, 7] (by decide) ?_
  intro K1 hK1
  refine ⟨tv, tv, ⟨(by omega), (by omega)⟩, tv, ?_⟩
  show K1 [(0, .str s), (4, .int .u8 ((gI s i).toNat)), (6, iT (s.length : Int)), (7, iT i)] m
  refine hK1 _ _ ?_; clear hK1 K1
  refine rS [] [0, 6, 7, 30] (by decide) ?_
  intro K1 hK1
  suffices key : K1 [(0, .str s), (6, iT (s.length : Int)), (7, iT i), (30, .bool ((((decide (((gI s i).toNat : Int) < 97)) || (decide (122 < ((gI s i).toNat : Int)))) && ((decide (((gI s i).toNat : Int) < 48)) || (decide (57 < ((gI s i).toNat : Int))))) && (!(((gI s i).toNat : Int) == 46))))] m by
   refine ⟨tv, tv, tv, ?_⟩
   show aopsR _ _ _ _ _ [(15, .bool (decide (((gI s i).toNat : Int) < 97))), (14, .bool (decide (((gI s i).toNat : Int) < 97))), (13, .int .u8 ((gI s i).toNat)), (0, .str s), (4, .int .u8 ((gI s i).toNat)), (6, iT (s.length : Int)), (7, iT i)] _
   revert key
   cases h2 : (decide (((gI s i).toNat : Int) < 97))
   ·
    replace h2 : 97 ≤ ((gI s i).toNat : Int) := (Int.not_lt.1 (of_decide_eq_false h2))
    intro key
    refine ⟨tv, tv, ?_⟩
    refine ⟨tv, ?_⟩
    show aopsR _ _ _ _ _ [(19, .bool (decide (122 < ((gI s i).toNat : Int)))), (18, .bool (decide (122 < ((gI s i).toNat : Int)))), (17, .bool (decide (122 < ((gI s i).toNat : Int)))), (16, .int .u8 ((gI s i).toNat)), (15, .bool false), (14, .bool false), (13, .int .u8 ((gI s i).toNat)), (0, .str s), (4, .int .u8 ((gI s i).toNat)), (6, iT (s.length : Int)), (7, iT i)] _
    revert key
    cases h3 : (decide (122 < ((gI s i).toNat : Int)))
    ·
     replace h3 : ((gI s i).toNat : Int) ≤ 122 := (Int.not_lt.1 (of_decide_eq_false h3))
     intro key
     refine ar_off rfl (ar_off rfl (ar_off rfl (ar_off rfl (ar_off rfl (ar_off rfl ?_)))))
     refine ⟨tv, ?_⟩
     refine ar_off rfl (ar_off rfl ?_)
     exact key
    ·
     replace h3 : 122 < ((gI s i).toNat : Int) := (of_decide_eq_true h3)
     intro key
     refine ⟨tv, tv, tv, ?_⟩
     show aopsR _ _ _ _ _ [(22, .bool (decide (((gI s i).toNat : Int) < 48))), (21, .bool (decide (((gI s i).toNat : Int) < 48))), (20, .int .u8 ((gI s i).toNat)), (19, .bool true), (18, .bool true), (17, .bool true), (16, .int .u8 ((gI s i).toNat)), (15, .bool false), (14, .bool false), (13, .int .u8 ((gI s i).toNat)), (0, .str s), (4, .int .u8 ((gI s i).toNat)), (6, iT (s.length : Int)), (7, iT i)] _
     revert key
     cases h4 : (decide (((gI s i).toNat : Int) < 48))
     ·
      replace h4 : 48 ≤ ((gI s i).toNat : Int) := (Int.not_lt.1 (of_decide_eq_false h4))
      intro key
      refine ⟨tv, tv, ?_⟩
      refine ⟨tv, ?_⟩
      show aopsR _ _ _ _ _ [(27, .bool (decide (57 < ((gI s i).toNat : Int)))), (26, .bool (decide (57 < ((gI s i).toNat : Int)))), (25, .bool (decide (57 < ((gI s i).toNat : Int)))), (24, .bool (decide (57 < ((gI s i).toNat : Int)))), (23, .int .u8 ((gI s i).toNat)), (22, .bool false), (21, .bool false), (20, .int .u8 ((gI s i).toNat)), (19, .bool true), (18, .bool true), (17, .bool true), (16, .int .u8 ((gI s i).toNat)), (15, .bool false), (14, .bool false), (13, .int .u8 ((gI s i).toNat)), (0, .str s), (4, .int .u8 ((gI s i).toNat)), (6, iT (s.length : Int)), (7, iT i)] _
      revert key
      cases h5 : (decide (57 < ((gI s i).toNat : Int)))
      ·
       replace h5 : ((gI s i).toNat : Int) ≤ 57 := (Int.not_lt.1 (of_decide_eq_false h5))
       intro key
       refine ar_off rfl (ar_off rfl ?_)
       exact key
      ·
       replace h5 : 57 < ((gI s i).toNat : Int) := (of_decide_eq_true h5)
       intro key
       refine ⟨tv, tv, ?_⟩
       exact key
     ·
      replace h4 : ((gI s i).toNat : Int) < 48 := (of_decide_eq_true h4)
      intro key
      refine ar_off rfl (ar_off rfl ?_)
      refine ⟨tv, tv, tv, ?_⟩
      exact key
   ·
    replace h2 : ((gI s i).toNat : Int) < 97 := (of_decide_eq_true h2)
    intro key
    refine ar_off rfl (ar_off rfl ?_)
    refine ⟨tv, tv, tv, tv, ?_⟩
    show aopsR _ _ _ _ _ [(22, .bool (decide (((gI s i).toNat : Int) < 48))), (21, .bool (decide (((gI s i).toNat : Int) < 48))), (20, .int .u8 ((gI s i).toNat)), (19, .bool true), (18, .bool true), (17, .lazy false (.junk)), (16, .lazy false (.junk)), (15, .bool true), (14, .bool true), (13, .int .u8 ((gI s i).toNat)), (0, .str s), (4, .int .u8 ((gI s i).toNat)), (6, iT (s.length : Int)), (7, iT i)] _
    revert key
    cases h6 : (decide (((gI s i).toNat : Int) < 48))
    ·
     replace h6 : 48 ≤ ((gI s i).toNat : Int) := (Int.not_lt.1 (of_decide_eq_false h6))
     intro key
     refine ⟨tv, tv, ?_⟩
     refine ⟨tv, ?_⟩
     show aopsR _ _ _ _ _ [(27, .bool (decide (57 < ((gI s i).toNat : Int)))), (26, .bool (decide (57 < ((gI s i).toNat : Int)))), (25, .bool (decide (57 < ((gI s i).toNat : Int)))), (24, .bool (decide (57 < ((gI s i).toNat : Int)))), (23, .int .u8 ((gI s i).toNat)), (22, .bool false), (21, .bool false), (20, .int .u8 ((gI s i).toNat)), (19, .bool true), (18, .bool true), (17, .lazy false (.junk)), (16, .lazy false (.junk)), (15, .bool true), (14, .bool true), (13, .int .u8 ((gI s i).toNat)), (0, .str s), (4, .int .u8 ((gI s i).toNat)), (6, iT (s.length : Int)), (7, iT i)] _
     revert key
     cases h7 : (decide (57 < ((gI s i).toNat : Int)))
     ·
      replace h7 : ((gI s i).toNat : Int) ≤ 57 := (Int.not_lt.1 (of_decide_eq_false h7))
      intro key
      refine ar_off rfl (ar_off rfl ?_)
      exact key
     ·
      replace h7 : 57 < ((gI s i).toNat : Int) := (of_decide_eq_true h7)
      intro key
      refine ⟨tv, tv, ?_⟩
      exact key
    ·
     replace h6 : ((gI s i).toNat : Int) < 48 := (of_decide_eq_true h6)
     intro key
     refine ar_off rfl (ar_off rfl ?_)
     refine ⟨tv, tv, tv, ?_⟩
     exact key
  refine hK1 _ _ ?_; clear hK1 K1
  refine cD rfl rfl (fun h8 => ?_) (fun h8 => ?_)
  ·
   replace h8 : (((((gI s i).toNat : Int) < 97) ∨ (122 < ((gI s i).toNat : Int))) ∧ ((((gI s i).toNat : Int) < 48) ∨ (57 < ((gI s i).toNat : Int)))) ∧ (((gI s i).toNat : Int) ≠ 46) := ⟨⟨((borT (bandL (bandL h8))).imp (fun q => (of_decide_eq_true q)) (fun q => (of_decide_eq_true q))), ((borT (bandR (bandL h8))).imp (fun q => (of_decide_eq_true q)) (fun q => (of_decide_eq_true q)))⟩, (ne_of_beq_false (bnT (bandR h8)))⟩
   refine rS [] [2] (by decide) ?_
   intro K1 hK1
   refine ⟨tv, ?_⟩
   show K1 [(2, .bool false)] m
   refine hK1 _ _ ?_; clear hK1 K1
   refine awp_ret ?_
   refine ⟨tv, m, fun _ _ h => h, ?_⟩
   show K (.bool false) m
  
   refine K_eq hK (cgA AV.bool ?_)
   have hb : nameC (gI s i) = false := by
    rw [Bool.eq_false_iff]; intro hh; simp [nameC] at hh; omega
   have ha : s.all nameC = false := by
    rw [Bool.eq_false_iff]; intro hh
    have := List.all_eq_true.1 hh _ (gI_mem hI.1 h1)
    rw [hb] at this; cases this
   rw [nameF, ha]; rfl
  replace h8 : (((97 ≤ ((gI s i).toNat : Int)) ∧ (((gI s i).toNat : Int) ≤ 122)) ∨ ((48 ≤ ((gI s i).toNat : Int)) ∧ (((gI s i).toNat : Int) ≤ 57))) ∨ (((gI s i).toNat : Int) = 46) := ((bandF h8).imp (fun q => ((bandF q).imp (fun q => ⟨(Int.not_lt.1 (of_decide_eq_false (borL q))), (Int.not_lt.1 (of_decide_eq_false (borR q)))⟩) (fun q => ⟨(Int.not_lt.1 (of_decide_eq_false (borL q))), (Int.not_lt.1 (of_decide_eq_false (borR q)))⟩))) (fun q => (eq_of_beq (bnF q))))
  refine awp_skip ?_
  refine hK4 _ _ ?_; clear hK4
  refine awp_reg2 [] [0, 6, 7] (by decide) ?_
  intro K1 hK1
  refine ar_add rfl (a := i) (b := 1) rfl rfl (by omega) (by omega) ?_
  refine ⟨tv, ?_⟩
  show K1 [(0, .str s), (6, iT (s.length : Int)), (7, iT (i + 1))] m
  refine hK1 _ _ ?_; clear hK1 K1
  refine ⟨(i + 1), rfl, rfl, ?_, ?_⟩
  ·
   show 0 ≤ ((i + 1 : Int)) ∧ ((i + 1 : Int)) ≤ s.length ∧ (s.take ((i + 1 : Int)).toNat).all nameC = true
   have hb : nameC (gI s i) = true := by simp [nameC]; omega
   exact ⟨by omega, by omega, by rw [all_snoc hI.1 h1, hI.2.2, hb]; rfl⟩
  ·
   show s.length - ((i + 1 : Int)).toNat < s.length - i.toNat
   omega
 replace h1 : (s.length : Int) ≤ i := (Int.not_lt.1 (of_decide_eq_false h1))
 refine awp_exit ?_
 refine hK2 _ _ ?_; clear hK2
 refine rS [] [2] (by decide) ?_
 intro K1 hK1
 suffices key : K1 [(2, .bool ((!(s == ([]))) && (decide ((s.length : Int) ≤ 24))))] m by
  refine ⟨tv, tv, tv, ?_⟩
  show aopsR _ _ _ _ _ [(34, .bool (!(s == ([])))), (33, .bool (!(s == ([])))), (32, .str s), (0, .str s), (6, iT (s.length : Int)), (7, iT i), (8, .bool (decide (i < (s.length : Int))))] _
  revert key
  cases h9 : (s == ([]))
  ·
   replace h9 : s ≠ [] := (ne_of_beq_false h9)
   intro key
   refine ⟨tv, tv, tv, ?_⟩
   refine ⟨tv, ?_⟩
   exact key
  ·
   replace h9 : s = [] := (eq_of_beq h9)
   intro key
   refine ar_off rfl (ar_off rfl (ar_off rfl ?_))
   refine ⟨tv, ?_⟩
   exact key
 refine hK1 _ _ ?_; clear hK1 K1
 refine awp_ret ?_
 refine ⟨tv, m, fun _ _ h => h, ?_⟩
 show K (.bool ((!(s == ([]))) && (decide ((s.length : Int) ≤ 24)))) m
 refine K_eq hK (cgA AV.bool ?_)
 have ha : s.all nameC = true := by have := hI.2.2; rwa [take_full (by omega)] at this
 rw [nameF, ha]; rfl
set_option maxHeartbeats 2000000 in
theorem u_may (d kb nb : Nat) (s : DSt) (name : Str) (size : Int) (N : Nat) (hN : [d, nb].Nodup) (hD : DInv N s) (hNN : N ≤ 100000) (hn : name.length ≤ 140737488355328) (m : AMem)  (K : AV → AMem → Prop) (hK : K (.err 60 (mayR s name size)) (mW m [(d, dObj kb nb s), (nb, mObj s.now)])) : ACalls Tryd.prog 36 [pT d, .str name, iT size] (mW m [(d, dObj kb nb s), (nb, mObj s.now)]) K := by
 have hnl := hD.nl
 refine acalls_enter Tryd.func36 rfl (by decide) (nB rfl) ?_
 show AWP _ _ _ _ [(0, pT d), (1, .str name), (2, iT size)] (mW m [(d, dObj kb nb s), (nb, mObj s.now)])
 refine rS [] [0, 1, 2] (by decide) ?_
 intro K1 hK1
 refine ⟨tv, ?_⟩
 show K1 [(0, pT d), (1, .str name), (2, iT size)] _
 refine hK1 _ _ ?_; clear hK1 K1
 refine sK ?_; intro K2 hK2
 refine rS [] [0, 1, 2, 11] (by decide) ?_
 intro K1 hK1
 refine ⟨tv, ?_⟩
 refine u_Name name (by first | assumption | omega) _ _ ?_
 refine ⟨tv, ?_⟩
 show K1 [(0, pT d), (1, .str name), (2, iT size), (11, .bool (!(nameF name)))] _
 refine hK1 _ _ ?_; clear hK1 K1
 refine cD rfl rfl (fun h1 => ?_) (fun h1 => ?_)
 ·
  replace h1 : nameF name = false := (bnT h1)
  refine rS [] [6] (by decide) ?_
  intro K1 hK1
  refine ⟨tv, tv, ?_⟩
  show K1 [(6, .iface 60 (iT 3))] (mW m [(d, dObj kb nb s), (nb, mObj s.now)])
  refine hK1 _ _ ?_; clear hK1 K1
  refine awp_toErr 60 [6] ?_
  show AWP _ _ _ _ [(6, .err 60 3)] _
  refine awp_ret ?_
  refine ⟨tv, (mW m [(d, dObj kb nb s), (nb, mObj s.now)]), fun _ _ h => h, ?_⟩
  show K (.err 60 3) _
 
  have e0 : mayR s name size = (3 : Int) := by
   first | (rw [mayR, if_pos h1]; done) | (rw [mayR, if_neg (by simp [h1]), if_pos h2]; done) | (rw [mayR, if_neg (by simp [h1]), if_neg (by omega), if_pos h4]; done) | (rw [mayR, if_neg (by simp [h1]), if_neg (by omega), if_neg (by rintro ⟨x, y⟩; rcases h4 with h | h <;> first | omega | simp_all)]; done)
  rw [e0] at hK
  exact hK
 replace h1 : nameF name = true := (bnF h1)
 refine awp_skip ?_
 refine hK2 _ _ ?_; clear hK2
 refine sK ?_; intro K3 hK3
 refine rS [] [0, 1, 14] (by decide) ?_
 intro K1 hK1
 refine ⟨tv, tv, ?_⟩
 show K1 [(0, pT d), (1, .str name), (14, .bool (decide (4000 < size)))] (mW m [(d, dObj kb nb s), (nb, mObj s.now)])
 refine hK1 _ _ ?_; clear hK1 K1
 refine cD rfl rfl (fun h2 => ?_) (fun h2 => ?_)
 ·
  replace h2 : 4000 < size := (of_decide_eq_true h2)
  refine rS [] [6] (by decide) ?_
  intro K1 hK1
  refine ⟨tv, tv, ?_⟩
  show K1 [(6, .iface 60 (iT 2))] (mW m [(d, dObj kb nb s), (nb, mObj s.now)])
  refine hK1 _ _ ?_; clear hK1 K1
  refine awp_toErr 60 [6] ?_
  show AWP _ _ _ _ [(6, .err 60 2)] _
  refine awp_ret ?_
  refine ⟨tv, (mW m [(d, dObj kb nb s), (nb, mObj s.now)]), fun _ _ h => h, ?_⟩
  show K (.err 60 2) _
 
  have e0 : mayR s name size = (2 : Int) := by
   first | (rw [mayR, if_pos h1]; done) | (rw [mayR, if_neg (by simp [h1]), if_pos h2]; done) | (rw [mayR, if_neg (by simp [h1]), if_neg (by omega), if_pos h4]; done) | (rw [mayR, if_neg (by simp [h1]), if_neg (by omega), if_neg (by rintro ⟨x, y⟩; rcases h4 with h | h <;> first | omega | simp_all)]; done)
  rw [e0] at hK
  exact hK
 replace h2 : size ≤ 4000 := (Int.not_lt.1 (of_decide_eq_false h2))
 refine awp_skip ?_
 refine hK3 _ _ ?_; clear hK3
 refine rS [] [0, 8] (by decide) ?_
 intro K1 hK1
 refine ⟨tv, tv, ⟨rfl, by decide⟩, ?_⟩
 refine aL rfl (v := .map nb) rfl (wG 0 hN rfl) rfl (aO rfl rfl (nB rfl)) rfl ?_
 refine ⟨tv, ?_⟩
 refine ar_lookupOk rfl (m := m) (L := [(d, dObj kb nb s), (nb, mObj s.now)]) strAV strAV strKey_ok s.now name [] rfl rfl rfl rfl rfl (wG 1 hN rfl) rfl ?_
 refine ⟨tv, (nB rfl), (nB rfl), tv, tv, ?_⟩
 show K1 [(0, pT d), (8, .bool ((mget s.now name).isSome))] (mW m [(d, dObj kb nb s), (nb, mObj s.now)])
 refine hK1 _ _ ?_; clear hK1 K1
 refine sK ?_; intro K4 hK4
 refine rS [] [34] (by decide) ?_
 intro K1 hK1
 suffices key : K1 [(34, .bool ((!((mget s.now name).isSome)) && (decide (40 ≤ (s.now.length : Int)))))] (mW m [(d, dObj kb nb s), (nb, mObj s.now)]) by
  refine ⟨tv, tv, tv, ?_⟩
  show aopsR _ _ _ _ _ [(27, .bool (!((mget s.now name).isSome))), (26, .bool (!((mget s.now name).isSome))), (25, .bool ((mget s.now name).isSome)), (0, pT d), (8, .bool ((mget s.now name).isSome))] _
  revert key
  cases h3 : ((mget s.now name).isSome)
  ·
   replace h3 : (mget s.now name).isSome = false := h3
   intro key
   refine ⟨tv, tv, ⟨rfl, by decide⟩, ?_⟩
   refine aL rfl (v := .map nb) rfl (wG 0 hN rfl) rfl (aO rfl rfl (nB rfl)) rfl ?_
   refine ar_lenMap rfl (m := m) (L := [(d, dObj kb nb s), (nb, mObj s.now)]) (mapAV strAV strAV) s.now rfl rfl (wG 1 hN rfl) ?_
   refine ⟨tv, ?_⟩
   exact key
  ·
   replace h3 : (mget s.now name).isSome = true := h3
   intro key
   refine ar_off rfl (ar_off rfl (ar_off rfl (ar_off rfl (ar_off rfl (ar_off rfl ?_)))))
   exact key
 refine hK1 _ _ ?_; clear hK1 K1
 refine cD rfl rfl (fun h4 => ?_) (fun h4 => ?_)
 ·
  replace h4 : ((mget s.now name).isSome = false) ∧ (40 ≤ (s.now.length : Int)) := ⟨(bnT (bandL h4)), (of_decide_eq_true (bandR h4))⟩
  refine rS [] [6] (by decide) ?_
  intro K1 hK1
  refine ⟨tv, tv, ?_⟩
  show K1 [(6, .iface 60 (iT 2))] (mW m [(d, dObj kb nb s), (nb, mObj s.now)])
  refine hK1 _ _ ?_; clear hK1 K1
  refine awp_toErr 60 [6] ?_
  show AWP _ _ _ _ [(6, .err 60 2)] _
  refine awp_ret ?_
  refine ⟨tv, (mW m [(d, dObj kb nb s), (nb, mObj s.now)]), fun _ _ h => h, ?_⟩
  show K (.err 60 2) _
 
  have e0 : mayR s name size = (2 : Int) := by
   first | (rw [mayR, if_pos h1]; done) | (rw [mayR, if_neg (by simp [h1]), if_pos h2]; done) | (rw [mayR, if_neg (by simp [h1]), if_neg (by omega), if_pos h4]; done) | (rw [mayR, if_neg (by simp [h1]), if_neg (by omega), if_neg (by rintro ⟨x, y⟩; rcases h4 with h | h <;> first | omega | simp_all)]; done)
  rw [e0] at hK
  exact hK
 replace h4 : ((mget s.now name).isSome = true) ∨ ((s.now.length : Int) < 40) := ((bandF h4).imp (fun q => (bnF q)) (fun q => (Int.not_le.1 (of_decide_eq_false q))))
 refine awp_skip ?_
 refine hK4 _ _ ?_; clear hK4
 refine rS [] [6] (by decide) ?_
 intro K1 hK1
 refine ⟨tv, ?_⟩
 show K1 [(6, .nilIface)] (mW m [(d, dObj kb nb s), (nb, mObj s.now)])
 refine hK1 _ _ ?_; clear hK1 K1
 refine awp_toErr 60 [6] ?_
 show AWP _ _ _ _ [(6, .err 60 0)] _
 refine awp_ret ?_
 refine ⟨tv, (mW m [(d, dObj kb nb s), (nb, mObj s.now)]), fun _ _ h => h, ?_⟩
 show K (.err 60 0) _
 have e0 : mayR s name size = (0 : Int) := by
  first | (rw [mayR, if_pos h1]; done) | (rw [mayR, if_neg (by simp [h1]), if_pos h2]; done) | (rw [mayR, if_neg (by simp [h1]), if_neg (by omega), if_pos h4]; done) | (rw [mayR, if_neg (by simp [h1]), if_neg (by omega), if_neg (by rintro ⟨x, y⟩; rcases h4 with h | h <;> first | omega | simp_all)]; done)
 rw [e0] at hK
 exact hK
set_option maxHeartbeats 2000000 in
theorem u_Write (d kb nb : Nat) (s : DSt) (name data : Str) (N : Nat) (hN : [d, nb].Nodup) (hD : DInv N s) (hNN : N ≤ 100000) (hn : name.length ≤ 140737488355328) (hd : data.length ≤ 140737488355328) (m : AMem)  (K : AV → AMem → Prop) (hK : K (.err 60 (writeR s name data).2) (mW m [(d, dObj kb nb (writeR s name data).1), (nb, mObj (writeR s name data).1.now)])) : ACalls Tryd.prog 15 [pT d, .str name, .str data] (mW m [(d, dObj kb nb s), (nb, mObj s.now)]) K := by
 refine acalls_enter Tryd.func15 rfl (by decide) (nB rfl) ?_
 show AWP _ _ _ _ [(0, pT d), (1, .str name), (2, .str data)] (mW m [(d, dObj kb nb s), (nb, mObj s.now)])
 refine rS [] [0, 1, 2] (by decide) ?_
 intro K1 hK1
 refine ⟨tv, ?_⟩
 show K1 [(0, pT d), (1, .str name), (2, .str data)] _
 refine hK1 _ _ ?_; clear hK1 K1
 refine rS [] [0, 1, 2, 7] (by decide) ?_
 intro K1 hK1
 refine ⟨tv, tv, tv, tv, ?_⟩
 refine u_may d kb nb s name (data.length : Int) N hN hD hNN (by first | assumption | omega) _ _ ?_
 show aopsR _ _ _ _ _ _ (mW m [(d, dObj kb nb s), (nb, mObj s.now)])
 refine ⟨tv, ?_⟩
 show K1 [(0, pT d), (1, .str name), (2, .str data), (7, .err 60 (mayR s name (data.length : Int)))] _
 refine hK1 _ _ ?_; clear hK1 K1
 refine sK ?_; intro K2 hK2
 refine rS [] [0, 1, 2, 7, 14] (by decide) ?_
 intro K1 hK1
 refine ⟨tv, ⟨rfl, rfl⟩, ?_⟩
 show K1 [(0, pT d), (1, .str name), (2, .str data), (7, .err 60 (mayR s name (data.length : Int))), (14, .bool (!((mayR s name (data.length : Int)) == 0)))] _
 refine hK1 _ _ ?_; clear hK1 K1
 refine cD rfl rfl (fun h1 => ?_) (fun h1 => ?_)
 ·
  replace h1 : (mayR s name (data.length : Int)) ≠ 0 := (ne_of_beq_false (bnT h1))
  refine rS [] [6] (by decide) ?_
  intro K1 hK1
  refine ⟨tv, tv, ?_⟩
  show K1 [(6, .err 60 (mayR s name (data.length : Int)))] (mW m [(d, dObj kb nb s), (nb, mObj s.now)])
  refine hK1 _ _ ?_; clear hK1 K1
  refine awp_ret ?_
  refine ⟨tv, (mW m [(d, dObj kb nb s), (nb, mObj s.now)]), fun _ _ h => h, ?_⟩
  show K (.err 60 (mayR s name (data.length : Int))) _
 
  have e0 : writeR s name data = ((s, (mayR s name (data.length : Int))) : DSt × Int) := by
   first | (rw [writeR, if_pos h1]; done) | (rw [writeR, if_neg (by omega)]; done)
  rw [e0] at hK
  exact hK
 replace h1 : (mayR s name (data.length : Int)) = 0 := (eq_of_beq (bnF h1))
 have hms := mayR_size h1
 refine awp_skip ?_
 refine hK2 _ _ ?_; clear hK2
 refine rS [] [6] (by decide) ?_
 intro K1 hK1
 refine ⟨tv, tv, tv, ⟨rfl, by simp only [List.forall_mem_cons]; exact ⟨rfl, rfl, rfl, rfl, nfA⟩, by simp only [List.forall_mem_cons]; exact ⟨rfl, rfl, rfl, nfA⟩⟩, ?_⟩
 refine u_do d kb nb s (⟨name, data, [], 1⟩ : Chg) N hN hD hNN (by first | assumption | (dsimp only; omega) | simp) _ _ ?_
 show aopsR _ _ _ _ _ _ (mW m [(d, dObj kb nb ((doF s (⟨name, data, [], 1⟩ : Chg)).1)), (nb, mObj ((doF s (⟨name, data, [], 1⟩ : Chg)).1.now))])
 refine ⟨tv, ?_⟩
 show K1 [(6, .err 60 ((doF s (⟨name, data, [], 1⟩ : Chg)).2))] (mW m [(d, dObj kb nb ((doF s (⟨name, data, [], 1⟩ : Chg)).1)), (nb, mObj ((doF s (⟨name, data, [], 1⟩ : Chg)).1.now))])
 refine hK1 _ _ ?_; clear hK1 K1
 refine awp_ret ?_
 refine ⟨tv, (mW m [(d, dObj kb nb ((doF s (⟨name, data, [], 1⟩ : Chg)).1)), (nb, mObj ((doF s (⟨name, data, [], 1⟩ : Chg)).1.now))]), fun _ _ h => h, ?_⟩
 show K (.err 60 ((doF s (⟨name, data, [], 1⟩ : Chg)).2)) _
 have e0 : writeR s name data = (((doF s (⟨name, data, [], 1⟩ : Chg)).1, (doF s (⟨name, data, [], 1⟩ : Chg)).2) : DSt × Int) := by
  first | (rw [writeR, if_pos h1]; done) | (rw [writeR, if_neg (by omega)]; done)
 rw [e0] at hK
 exact hK
set_option maxHeartbeats 2000000 in
theorem u_Read (d kb nb : Nat) (s : DSt) (name : Str) (hN : [d, nb].Nodup) (m : AMem)  (K : AV → AMem → Prop) (hK : K (.tuple [.str (readR s name).1, .err 60 (readR s name).2]) (mW m [(d, dObj kb nb s), (nb, mObj s.now)])) : ACalls Tryd.prog 39 [pT d, .str name] (mW m [(d, dObj kb nb s), (nb, mObj s.now)]) K := by
 refine acalls_enter Tryd.func39 rfl (by decide) (nB rfl) ?_
 show AWP _ _ _ _ [(0, pT d), (1, .str name)] (mW m [(d, dObj kb nb s), (nb, mObj s.now)])
 refine rS [] [0, 1] (by decide) ?_
 intro K1 hK1
 refine ⟨tv, tv, ?_⟩
 show K1 [(0, pT d), (1, .str name)] _
 refine hK1 _ _ ?_; clear hK1 K1
 refine sK ?_; intro K2 hK2
 refine rS [] [0, 1, 11] (by decide) ?_
 intro K1 hK1
 refine ⟨tv, tv, ⟨rfl, by decide⟩, ?_⟩
 refine aL rfl (v := .bool s.down) rfl (wG 0 hN rfl) rfl (aO rfl rfl (nB rfl)) rfl ?_
 show K1 [(0, pT d), (1, .str name), (11, .bool s.down)] _
 refine hK1 _ _ ?_; clear hK1 K1
 refine cD rfl rfl (fun h1 => ?_) (fun h1 => ?_)
 ·
  replace h1 : s.down = true := h1
  refine rS [] [4, 5] (by decide) ?_
  intro K1 hK1
  refine ⟨tv, tv, tv, ?_⟩
  show K1 [(4, .str ([])), (5, .iface 60 (iT 10))] (mW m [(d, dObj kb nb s), (nb, mObj s.now)])
  refine hK1 _ _ ?_; clear hK1 K1
  refine awp_toErr 60 [5] ?_
  show AWP _ _ _ _ [(4, .str ([])), (5, .err 60 10)] _
  refine awp_ret ?_
  refine ⟨tv, tv, (mW m [(d, dObj kb nb s), (nb, mObj s.now)]), fun _ _ h => h, ?_⟩
  show K (.tuple [.str ([]), .err 60 10]) _
 
  have e0 : readR s name = (([], 10) : Str × Int) := by
   first | (rw [readR, if_pos h1]; done) | (rw [readR, if_neg (by simp [h1]), if_pos h2]; done) | (rw [readR, if_neg (by simp [h1]), if_neg (by simp [h2])]; done)
  rw [e0] at hK
  exact hK
 replace h1 : s.down = false := h1
 refine awp_skip ?_
 refine hK2 _ _ ?_; clear hK2
 refine rS [] [6, 7] (by decide) ?_
 intro K1 hK1
 refine ⟨tv, tv, ⟨rfl, by decide⟩, ?_⟩
 refine aL rfl (v := .map nb) rfl (wG 0 hN rfl) rfl (aO rfl rfl (nB rfl)) rfl ?_
 refine ⟨tv, ?_⟩
 refine ar_lookupOk rfl (m := m) (L := [(d, dObj kb nb s), (nb, mObj s.now)]) strAV strAV strKey_ok s.now name [] rfl rfl rfl rfl rfl (wG 1 hN rfl) rfl ?_
 refine ⟨tv, (nB rfl), (nB rfl), tv, tv, ?_⟩
 show K1 [(6, .str ((mget s.now name).getD [])), (7, .bool ((mget s.now name).isSome))] (mW m [(d, dObj kb nb s), (nb, mObj s.now)])
 refine hK1 _ _ ?_; clear hK1 K1
 refine sK ?_; intro K3 hK3
 refine rS [] [6, 23] (by decide) ?_
 intro K1 hK1
 refine ⟨tv, tv, ?_⟩
 show K1 [(6, .str ((mget s.now name).getD [])), (23, .bool (!((mget s.now name).isSome)))] _
 refine hK1 _ _ ?_; clear hK1 K1
 refine cD rfl rfl (fun h2 => ?_) (fun h2 => ?_)
 ·
  replace h2 : (mget s.now name).isSome = false := (bnT h2)
  refine rS [] [4, 5] (by decide) ?_
  intro K1 hK1
  refine ⟨tv, tv, tv, ?_⟩
  show K1 [(4, .str ([])), (5, .iface 60 (iT 7))] (mW m [(d, dObj kb nb s), (nb, mObj s.now)])
  refine hK1 _ _ ?_; clear hK1 K1
  refine awp_toErr 60 [5] ?_
  show AWP _ _ _ _ [(4, .str ([])), (5, .err 60 7)] _
  refine awp_ret ?_
  refine ⟨tv, tv, (mW m [(d, dObj kb nb s), (nb, mObj s.now)]), fun _ _ h => h, ?_⟩
  show K (.tuple [.str ([]), .err 60 7]) _
 
  have e0 : readR s name = (([], 7) : Str × Int) := by
   first | (rw [readR, if_pos h1]; done) | (rw [readR, if_neg (by simp [h1]), if_pos h2]; done) | (rw [readR, if_neg (by simp [h1]), if_neg (by simp [h2])]; done)
  rw [e0] at hK
  exact hK
 replace h2 : (mget s.now name).isSome = true := (bnF h2)
 refine awp_skip ?_
 refine hK3 _ _ ?_; clear hK3
 refine rS [] [4, 5] (by decide) ?_
 intro K1 hK1
 refine ⟨tv, tv, tv, ?_⟩
 show K1 [(4, .str ((mget s.now name).getD [])), (5, .nilIface)] (mW m [(d, dObj kb nb s), (nb, mObj s.now)])
 refine hK1 _ _ ?_; clear hK1 K1
 refine awp_toErr 60 [5] ?_
 show AWP _ _ _ _ [(4, .str ((mget s.now name).getD [])), (5, .err 60 0)] _
 refine awp_ret ?_
 refine ⟨tv, tv, (mW m [(d, dObj kb nb s), (nb, mObj s.now)]), fun _ _ h => h, ?_⟩
 show K (.tuple [.str ((mget s.now name).getD []), .err 60 0]) _
 have e0 : readR s name = (((mget s.now name).getD [], 0) : Str × Int) := by
  first | (rw [readR, if_pos h1]; done) | (rw [readR, if_neg (by simp [h1]), if_pos h2]; done) | (rw [readR, if_neg (by simp [h1]), if_neg (by simp [h2])]; done)
 rw [e0] at hK
 exact hK
theorem applyL_step {l : List (Str × Str)} {cs : List Chg} {i : Int} (h0 : 0 ≤ i) (hi : i < cs.length) : applyC (applyL l (cs.take i.toNat)) (gI cs i) = applyL l (cs.take (i + 1).toNat) := by
  rw [take_succ_gI h0 hi, applyL, applyL, List.foldl_append]; rfl
set_option maxHeartbeats 4000000 in
theorem u_Sync (d kb nb : Nat) (s : DSt) (N : Nat) (hN : [d, kb].Nodup) (hD : DInv N s) (hNN : N ≤ 100000) (m : AMem)  (K : AV → AMem → Prop) (hK : K (.err 60 (syncF s).2) (mW m [(d, dObj kb nb (syncF s).1), (kb, mObj (syncF s).1.kept)])) : ACalls Tryd.prog 31 [pT d] (mW m [(d, dObj kb nb s), (kb, mObj s.kept)]) K := by
 have hk := stepF_keep s
 have hk3 := hk.2.2.1
 have hwl := hD.kl
 have hkw : (stepF s).1.wait.length ≤ 100000 := by rw [hk3]; omega
 refine acalls_enter Tryd.func31 rfl (by decide) (nB rfl) ?_
 show AWP _ _ _ _ [(0, pT d)] (mW m [(d, dObj kb nb s), (kb, mObj s.kept)])
 refine rS [] [0] (by decide) ?_
 intro K1 hK1
 refine ⟨tv, ?_⟩
 show K1 [(0, pT d)] _
 refine hK1 _ _ ?_; clear hK1 K1
 refine rS [] [0, 3] (by decide) ?_
 intro K1 hK1
 refine ⟨tv, ?_⟩
 refine ar_mem (wS hN (pick_perm [0] _)) ?_
 refine u_Step d kb nb s hD.st0 (by have := hD.st1; omega) hD.fu0 hD.fu1 _ _ ?_
 refine ar_mem (wS (m := m) (L := [(d, dObj kb nb ((stepF s).1)), (kb, mObj s.kept)]) hN (pick_perm [0] _)).symm ?_
 refine ⟨tv, ?_⟩
 show K1 [(0, pT d), (3, .err 60 ((stepF s).2))] (mW m [(d, dObj kb nb ((stepF s).1)), (kb, mObj s.kept)])
 refine hK1 _ _ ?_; clear hK1 K1
 refine sK ?_; intro K2 hK2
 refine rS [] [0, 3, 9] (by decide) ?_
 intro K1 hK1
 refine ⟨tv, ⟨rfl, rfl⟩, ?_⟩
 show K1 [(0, pT d), (3, .err 60 ((stepF s).2)), (9, .bool (!(((stepF s).2) == 0)))] _
 refine hK1 _ _ ?_; clear hK1 K1
 refine cD rfl rfl (fun h1 => ?_) (fun h1 => ?_)
 ·
  replace h1 : (stepF s).2 ≠ 0 := (ne_of_beq_false (bnT h1))
  refine rS [] [2] (by decide) ?_
  intro K1 hK1
  refine ⟨tv, tv, ?_⟩
  show K1 [(2, .err 60 ((stepF s).2))] (mW m [(d, dObj kb nb ((stepF s).1)), (kb, mObj s.kept)])
  refine hK1 _ _ ?_; clear hK1 K1
  refine awp_ret ?_
  refine ⟨tv, (mW m [(d, dObj kb nb ((stepF s).1)), (kb, mObj s.kept)]), fun _ _ h => h, ?_⟩
  show K (.err 60 ((stepF s).2)) _
 
  have e0 : syncF s = (((⟨s.kept, ((stepF s).1).now, ((stepF s).1).wait, ((stepF s).1).fuse, (((stepF s).1).down), ((stepF s).1).steps⟩ : DSt), (stepF s).2) : DSt × Int) := by
   first | (rw [syncF, if_pos h1, ← hk.1]; done) | (have e := hI.2.2; rw [take_full h2, hk3] at e; rw [syncF, if_neg (by omega), ← e, ← hk.2.1]; done)
  rw [e0] at hK
  exact hK
 replace h1 : (stepF s).2 = 0 := (eq_of_beq (bnF h1))
 refine awp_skip ?_
 refine hK2 _ _ ?_; clear hK2
 refine sK ?_; intro K3 hK3
 refine rS [] [0, 14, 15, 16] (by decide) ?_
 intro K1 hK1
 refine ⟨tv, tv, ⟨rfl, by decide⟩, ?_⟩
 refine aL rfl (v := sF ((((stepF s).1).wait).map chgAV)) rfl (wG 0 hN rfl) rfl (aO rfl rfl (nB rfl)) rfl ?_
 refine ar_len rfl chgAV (((stepF s).1).wait) rfl rfl rfl ?_
 refine ⟨tv, ?_⟩
 show K1 [(0, pT d), (14, sF ((((stepF s).1).wait).map chgAV)), (15, iT ((((stepF s).1).wait).length : Int)), (16, iT 0)] (mW m [(d, dObj kb nb ((stepF s).1)), (kb, mObj s.kept)])
 refine hK1 _ _ ?_; clear hK1 K1
 refine awp_block ?_
 refine awp_keep [0, 14, 15, 16] (by decide) ?_
 refine awp_loop_st (σ := Int × (List (Str × Str))) (fun ⟨i, kp⟩ => [(0, pT d), (14, sF ((((stepF s).1).wait).map chgAV)), (15, iT ((((stepF s).1).wait).length : Int)), (16, iT i)]) (fun ⟨i, kp⟩ => (mW m [(d, dObj kb nb ((stepF s).1)), (kb, mObj kp)])) (fun ⟨i, kp⟩ => 0 ≤ i ∧ i ≤ (stepF s).1.wait.length ∧ kp = applyL s.kept ((stepF s).1.wait.take i.toNat)) (fun ⟨i, kp⟩ => (stepF s).1.wait.length - i.toNat) (0, s.kept) rfl rfl ?_ ?_
 ·
  show 0 ≤ ((0 : Int)) ∧ ((0 : Int)) ≤ (stepF s).1.wait.length ∧ ((s.kept : (List (Str × Str)))) = applyL s.kept ((stepF s).1.wait.take ((0 : Int)).toNat)
  exact ⟨by omega, by omega, rfl⟩
 rintro ⟨i, kp⟩ hI
 replace hI : 0 ≤ i ∧ i ≤ (stepF s).1.wait.length ∧ kp = applyL s.kept ((stepF s).1.wait.take i.toNat) := hI
 show AWP _ _ _ _ [(0, pT d), (14, sF ((((stepF s).1).wait).map chgAV)), (15, iT ((((stepF s).1).wait).length : Int)), (16, iT i)] (mW m [(d, dObj kb nb ((stepF s).1)), (kb, mObj kp)])
 refine rS [] [0, 14, 15, 16, 17] (by decide) ?_
 intro K1 hK1
 refine ⟨tv, ?_⟩
 show K1 [(0, pT d), (14, sF ((((stepF s).1).wait).map chgAV)), (15, iT ((((stepF s).1).wait).length : Int)), (16, iT i), (17, .bool (decide (i < ((((stepF s).1).wait).length : Int))))] _
 refine hK1 _ _ ?_; clear hK1 K1
 refine sK ?_; intro K4 hK4
 refine cD rfl rfl (fun h2 => ?_) (fun h2 => ?_)
 ·
  replace h2 : i < ((((stepF s).1).wait).length : Int) := (of_decide_eq_true h2)
  have hcd := hD.cd (gI (stepF s).1.wait i) (by rw [hk3]; exact gI_mem hI.1 (by rw [← hk3]; exact h2))
  have hap := applyL_bnd (cs := (stepF s).1.wait.take i.toNat) (fun c hc => hD.cd c (by rw [← hk3]; exact List.mem_of_mem_take hc)) (l := s.kept) (B := 400000000) (fun p hp => by have := hD.kb p hp; omega)
  rw [← hI.2.2, List.length_take] at hap
  refine awp_skip ?_
  refine hK4 _ _ ?_; clear hK4
  refine sK ?_; intro K5 hK5
  refine awp_block ?_
  refine rS [] [0, 5, 14, 15, 16] (by decide) ?_
  intro K1 hK1
  refine ar_index rfl chgAV (((stepF s).1).wait) i rfl rfl rfl rfl rfl (by decide) (fun _ => rfl) (by omega) (by omega) ?_
  refine ⟨(apartOk_agg rfl rfl (nB rfl)), ?_⟩
  refine ar_alloc rfl (z := .agg [.str ([]), .str ([]), .str ([]), iT 0]) rfl rfl ?_
  intro b1 hb1
  have hFb1 : m b1 = none := wth_none hb1
  have hNb1 : ([b1, d, kb] : List Nat).Nodup := wth_nodup hb1 hN
  refine aS rfl 0 (v := chgAV (gI (((stepF s).1).wait) i)) (l' := [.str ((gI (((stepF s).1).wait) i).name), .str ((gI (((stepF s).1).wait) i).data), .str ((gI (((stepF s).1).wait) i).to), iT ((gI (((stepF s).1).wait) i).kind)]) rfl (by rfl) hNb1 rfl rfl rfl rfl rfl (nB rfl) rfl ?_
  show K1 [(0, pT d), (5, pT b1), (14, sF ((((stepF s).1).wait).map chgAV)), (15, iT ((((stepF s).1).wait).length : Int)), (16, iT i)] (mW m [(b1, .cells [.str ((gI (((stepF s).1).wait) i).name), .str ((gI (((stepF s).1).wait) i).data), .str ((gI (((stepF s).1).wait) i).to), iT ((gI (((stepF s).1).wait) i).kind)]), (d, dObj kb nb ((stepF s).1)), (kb, mObj kp)])
  refine hK1 _ _ ?_; clear hK1 K1
  refine awp_draw_memP Tryd.mixed [(5, 25)] [(5, 25, .tuple [])] [(mW m [(b1, .cells [.str ((gI (((stepF s).1).wait) i).name), .str ((gI (((stepF s).1).wait) i).data), .str ((gI (((stepF s).1).wait) i).to), iT ((gI (((stepF s).1).wait) i).kind)]), (d, dObj kb nb ((stepF s).1)), (kb, mObj kp)]), (mW m [(b1, .cells [.str ((gI (((stepF s).1).wait) i).name), .str ((gI (((stepF s).1).wait) i).data), .str ((gI (((stepF s).1).wait) i).to), iT ((gI (((stepF s).1).wait) i).kind)]), (d, dObj kb nb ((stepF s).1)), (kb, mObj (applyC kp (gI (((stepF s).1).wait) i)))])] [] [0, 14, 15, 16] [(24, .agg [.str ((gI (((stepF s).1).wait) i).name), .str ((gI (((stepF s).1).wait) i).data), .str ((gI (((stepF s).1).wait) i).to), iT ((gI (((stepF s).1).wait) i).kind)]), (23, .map kb), (22, pT d), (21, pT d), (20, pT d), (25, .tuple []), (0, pT d), (5, pT b1), (14, sF ((((stepF s).1).wait).map chgAV)), (15, iT ((((stepF s).1).wait).length : Int)), (16, iT i)] (mW m [(b1, .cells [.str ((gI (((stepF s).1).wait) i).name), .str ((gI (((stepF s).1).wait) i).data), .str ((gI (((stepF s).1).wait) i).to), iT ((gI (((stepF s).1).wait) i).kind)]), (d, dObj kb nb ((stepF s).1)), (kb, mObj (applyC kp (gI (((stepF s).1).wait) i)))]) (by decide) (by decide) (by decide) rfl rfl rfl rfl ?_ ?_ ?_
  ·
   refine ⟨?_, tv⟩
   ·
    exact mem_call (wS (m := m) (L := [(b1, .cells [.str ((gI (((stepF s).1).wait) i).name), .str ((gI (((stepF s).1).wait) i).data), .str ((gI (((stepF s).1).wait) i).to), iT ((gI (((stepF s).1).wait) i).kind)]), (d, dObj kb nb ((stepF s).1)), (kb, mObj kp)]) hNb1 (pick_perm [2] _)) (wS (m := m) (L := [(b1, .cells [.str ((gI (((stepF s).1).wait) i).name), .str ((gI (((stepF s).1).wait) i).data), .str ((gI (((stepF s).1).wait) i).to), iT ((gI (((stepF s).1).wait) i).kind)]), (d, dObj kb nb ((stepF s).1)), (kb, mObj (applyC kp (gI (((stepF s).1).wait) i)))]) hNb1 (pick_perm [2] _)) (fun Kc hKc => u_apply kb kp (gI (((stepF s).1).wait) i) (by have := hap.1; omega) (fun p hp => by have := hap.2 p hp; omega) (by first | omega | (dsimp only; omega)) _ Kc hKc)
  ·
   refine ⟨?_, ?_, tv⟩
   ·
    show pseq _ _ _ _ _ [(25, .tuple []), (0, pT d), (5, pT b1), (14, sF ((((stepF s).1).wait).map chgAV)), (15, iT ((((stepF s).1).wait).length : Int)), (16, iT i)] _
    refine ⟨tv, tv, ⟨rfl, by decide⟩, ?_⟩
    refine pq_loadp rfl (v := .map kb) rfl (wG 1 hNb1 rfl) (aO rfl rfl (nB rfl)) rfl ?_
    refine pq_loadp rfl (v := .agg [.str ((gI (((stepF s).1).wait) i).name), .str ((gI (((stepF s).1).wait) i).data), .str ((gI (((stepF s).1).wait) i).to), iT ((gI (((stepF s).1).wait) i).kind)]) rfl (wG 0 hNb1 rfl) (apartOk_agg rfl rfl (nB rfl)) rfl ?_
    exact rfl
   ·
    show pseq _ _ _ _ _ [(25, .tuple []), (0, pT d), (5, pT b1), (14, sF ((((stepF s).1).wait).map chgAV)), (15, iT ((((stepF s).1).wait).length : Int)), (16, iT i)] _
    refine ⟨tv, tv, ⟨rfl, by decide⟩, ?_⟩
    refine pq_loadp rfl (v := .map kb) rfl (wG 1 hNb1 rfl) (aO rfl rfl (nB rfl)) rfl ?_
    refine pq_loadp rfl (v := .agg [.str ((gI (((stepF s).1).wait) i).name), .str ((gI (((stepF s).1).wait) i).data), .str ((gI (((stepF s).1).wait) i).to), iT ((gI (((stepF s).1).wait) i).kind)]) rfl (wG 0 hNb1 rfl) (apartOk_agg rfl rfl (nB rfl)) rfl ?_
    exact rfl
  intro K1 hK1
  show K1 [(0, pT d), (14, sF ((((stepF s).1).wait).map chgAV)), (15, iT ((((stepF s).1).wait).length : Int)), (16, iT i)] (mW m [(b1, .cells [.str ((gI (((stepF s).1).wait) i).name), .str ((gI (((stepF s).1).wait) i).data), .str ((gI (((stepF s).1).wait) i).to), iT ((gI (((stepF s).1).wait) i).kind)]), (d, dObj kb nb ((stepF s).1)), (kb, mObj (applyC kp (gI (((stepF s).1).wait) i)))])
  refine hK1 _ _ ?_; clear hK1 K1
  refine hK5 _ _ ?_; clear hK5
  have hNd1 : ([d, kb] : List Nat).Nodup := drop_nodup (L := [(b1, .cells [.str ((gI (((stepF s).1).wait) i).name), .str ((gI (((stepF s).1).wait) i).data), .str ((gI (((stepF s).1).wait) i).to), iT ((gI (((stepF s).1).wait) i).kind)]), (d, dObj kb nb ((stepF s).1)), (kb, mObj (applyC kp (gI (((stepF s).1).wait) i)))]) hNb1 (pick_perm [0] _)
  refine awp_dropP [(b1, .cells [.str ((gI (((stepF s).1).wait) i).name), .str ((gI (((stepF s).1).wait) i).data), .str ((gI (((stepF s).1).wait) i).to), iT ((gI (((stepF s).1).wait) i).kind)])] [(d, dObj kb nb ((stepF s).1)), (kb, mObj (applyC kp (gI (((stepF s).1).wait) i)))] hNb1 (pick_perm [0] _) (by simp only [List.map_cons, List.map_nil, List.forall_mem_cons]; exact ⟨hFb1, nfA⟩) ?_
  refine awp_reg2 [] [0, 14, 15, 16] (by decide) ?_
  intro K1 hK1
  refine ar_add rfl (a := i) (b := 1) rfl rfl (by omega) (by omega) ?_
  refine ⟨tv, ?_⟩
  show K1 [(0, pT d), (14, sF ((((stepF s).1).wait).map chgAV)), (15, iT ((((stepF s).1).wait).length : Int)), (16, iT (i + 1))] (mW m [(d, dObj kb nb ((stepF s).1)), (kb, mObj (applyC kp (gI (((stepF s).1).wait) i)))])
  refine hK1 _ _ ?_; clear hK1 K1
  refine ⟨(i + 1, applyC kp (gI (((stepF s).1).wait) i)), rfl, rfl, ?_, ?_⟩
  ·
   show 0 ≤ ((i + 1 : Int)) ∧ ((i + 1 : Int)) ≤ (stepF s).1.wait.length ∧ ((applyC kp (gI (((stepF s).1).wait) i) : (List (Str × Str)))) = applyL s.kept ((stepF s).1.wait.take ((i + 1 : Int)).toNat)
   exact ⟨by omega, by omega, by rw [hI.2.2]; exact applyL_step hI.1 h2⟩
  ·
   show (stepF s).1.wait.length - ((i + 1 : Int)).toNat < (stepF s).1.wait.length - i.toNat
   omega
 replace h2 : ((((stepF s).1).wait).length : Int) ≤ i := (Int.not_lt.1 (of_decide_eq_false h2))
 refine awp_exit ?_
 refine hK3 _ _ ?_; clear hK3
 refine rS [] [] (by decide) ?_
 intro K1 hK1
 refine ⟨tv, tv, ⟨rfl, by decide⟩, ?_⟩
 refine aS rfl 0 (v := .slice true []) (l' := [.map kb, .map nb, .slice true [], iT (((stepF s).1).fuse), .bool (((stepF s).1).down), iT (((stepF s).1).steps)]) rfl rfl hN rfl rfl rfl rfl rfl (nB rfl) rfl ?_
 show K1 [] (mW m [(d, .cells [.map kb, .map nb, .slice true [], iT (((stepF s).1).fuse), .bool (((stepF s).1).down), iT (((stepF s).1).steps)]), (kb, mObj kp)])
 refine hK1 _ _ ?_; clear hK1 K1
 refine rS [] [2] (by decide) ?_
 intro K1 hK1
 refine ⟨tv, ?_⟩
 show K1 [(2, .nilIface)] _
 refine hK1 _ _ ?_; clear hK1 K1
 refine awp_toErr 60 [2] ?_
 show AWP _ _ _ _ [(2, .err 60 0)] _
 refine awp_ret ?_
 refine ⟨tv, (mW m [(d, .cells [.map kb, .map nb, .slice true [], iT (((stepF s).1).fuse), .bool (((stepF s).1).down), iT (((stepF s).1).steps)]), (kb, mObj kp)]), fun _ _ h => h, ?_⟩
 show K (.err 60 0) _
 have e0 : syncF s = (((⟨kp, s.now, [], ((stepF s).1).fuse, (((stepF s).1).down), ((stepF s).1).steps⟩ : DSt), 0) : DSt × Int) := by
  first | (rw [syncF, if_pos h1, ← hk.1]; done) | (have e := hI.2.2; rw [take_full h2, hk3] at e; rw [syncF, if_neg (by omega), ← e, ← hk.2.1]; done)
 rw [e0] at hK
 exact hK
theorem u_New   (m : AMem)  (K : AV → AMem → Prop) (hK : ∀ d nb kb, ([d, nb, kb] : List Nat).Nodup → m d = none → m nb = none → m kb = none → K (pT d) (mW m [(d, dObj kb nb ⟨[], [], [], -1, false, 0⟩), (nb, mObj []), (kb, mObj [])])) : ACalls Tryd.prog 7 [] m K := by
 refine acalls_enter Tryd.func7 rfl (by decide) (nB rfl) ?_
 show AWP _ _ _ _ [] m
 refine rS [] [] (by decide) ?_
 intro K1 hK1
 refine ⟨tv, ?_⟩
 show K1 [] m
 refine hK1 _ _ ?_; clear hK1 K1
 refine rS [] [0] (by decide) ?_
 intro K1 hK1
 refine ar_makeMap rfl (m := m) (L := []) rfl ?_
 intro b1 hb1
 have hFb1 : m b1 = none := wth_none (m := m) (L := []) hb1
 have hNb1 : ([b1] : List Nat).Nodup := wth_nodup (m := m) (L := []) hb1 List.nodup_nil
 refine ar_makeMap rfl (m := m) (L := [(b1, mObj ([] : List ((List UInt8) × (List UInt8))))]) rfl ?_
 intro b2 hb2
 have hFb2 : m b2 = none := wth_none hb2
 have hNb2 : ([b2, b1] : List Nat).Nodup := wth_nodup hb2 hNb1
 refine ⟨⟨rfl, by simp only [List.forall_mem_cons]; exact ⟨rfl, rfl, rfl, rfl, rfl, rfl, nfA⟩, by simp only [List.forall_mem_cons]; exact ⟨rfl, rfl, rfl, nfA⟩⟩, ?_⟩
 refine ar_box rfl (m := m) (L := [(b2, mObj ([] : List ((List UInt8) × (List UInt8)))), (b1, mObj ([] : List ((List UInt8) × (List UInt8))))]) (v := .agg [.map b1, .map b2, .slice true [], iT (-1), .bool false, iT 0]) rfl rfl ?_
 intro b3 hb3
 have hFb3 : m b3 = none := wth_none hb3
 have hNb3 : ([b3, b2, b1] : List Nat).Nodup := wth_nodup hb3 hNb2
 refine ⟨tv, ?_⟩
 show K1 [(0, pT b3)] (mW m [(b3, .cells [.map b1, .map b2, .slice true [], iT (-1), .bool false, iT 0]), (b2, mObj ([] : List ((List UInt8) × (List UInt8)))), (b1, mObj ([] : List ((List UInt8) × (List UInt8))))])
 refine hK1 _ _ ?_; clear hK1 K1
 refine awp_ret ?_
 refine ⟨tv, (mW m [(b3, .cells [.map b1, .map b2, .slice true [], iT (-1), .bool false, iT 0]), (b2, mObj ([] : List ((List UInt8) × (List UInt8)))), (b1, mObj ([] : List ((List UInt8) × (List UInt8))))]), fun _ _ h => h, ?_⟩
 show K (pT b3) _
 exact hK b3 b2 b1 hNb3 hFb3 hFb2 hFb1
end Go.Proofs
end
section
namespace Go.Proofs
open Go Go.Aw
set_option maxRecDepth 100000
def rebuild (l : List (Str × Str)) (seen : List Nat) : List (Str × Str) := seen.foldl (fun n i => match l[i]? with | some p => mput n p.1 p.2 | none => n) []
theorem rebuild_snoc {l : List (Str × Str)} {seen : List Nat} {k : Nat} {a b : Str} (h : l[k]? = some (a, b)) : rebuild l (seen ++ [k]) = mput (rebuild l seen) a b := by
  unfold rebuild; rw [List.foldl_append]; simp [h]
theorem mput_keys {l : List (Str × Str)} {k v : Str} : (mput l k v).map Prod.fst = if k ∈ l.map Prod.fst then l.map Prod.fst else l.map Prod.fst ++ [k] := by
  induction l with
  | nil => rfl
  | cons p r ih =>
    obtain ⟨a, b⟩ := p
    simp only [mput]
    split
    · rename_i h; subst h; simp
    · rename_i h
      simp only [List.map_cons, ih, List.mem_cons]
      by_cases hm : k ∈ r.map Prod.fst
      · rw [if_pos hm, if_pos (.inr hm)]
      · rw [if_neg hm, if_neg (by rintro (e | e); exact h e.symm; exact hm e)]; rfl
theorem mdel_sub (l : List (Str × Str)) (k : Str) : (mdel l k).Sublist l := by
  induction l with
  | nil => exact List.Sublist.refl _
  | cons p r ih =>
    obtain ⟨a, b⟩ := p
    simp only [mdel]
    split
    · exact List.sublist_cons_self _ _
    · exact ih.cons_cons _
theorem mput_nd {l : List (Str × Str)} {k v : Str} (h : (l.map Prod.fst).Nodup) : ((mput l k v).map Prod.fst).Nodup := by
  rw [mput_keys]
  split
  · exact h
  · rename_i hm
    exact List.nodup_append.2 ⟨h, by simp, fun a ha b hb e => by simp at hb; subst hb; subst e; exact hm ha⟩
theorem mdel_nd {l : List (Str × Str)} {k : Str} (h : (l.map Prod.fst).Nodup) : ((mdel l k).map Prod.fst).Nodup := h.sublist ((mdel_sub l k).map _)
theorem nat_pigeon : ∀ (n : Nat) (l : List Nat), l.Nodup → (∀ i ∈ l, i < n) → l.length ≤ n
  | 0, [], _, _ => Nat.le_refl _
  | 0, a :: l, _, h => absurd (h a (by simp)) (by omega)
  | n + 1, l, hn, h => by
    have := nat_pigeon n (l.erase n) (hn.erase n) (fun i hi => by
      have h1 := (hn.mem_erase_iff).1 hi
      have := h i h1.2
      omega)
    by_cases hm : n ∈ l
    · have := List.length_erase_of_mem hm; omega
    · rw [List.erase_of_not_mem hm] at this; omega
theorem mget_none {l : List (Str × Str)} {k : Str} : mget l k = none ↔ k ∉ l.map Prod.fst := by
  induction l with
  | nil => simp [mget]
  | cons p r ih =>
    obtain ⟨a, b⟩ := p
    simp only [mget, List.map_cons, List.mem_cons]
    split
    · rename_i h; simp [h]
    · rename_i h; rw [ih]; simp [Ne.symm h]
theorem seen_len {l : List (Str × Str)} {seen : List Nat} (hn : seen.Nodup) (hb : ∀ i ∈ seen, i < l.length) : seen.length ≤ l.length := by
  exact nat_pigeon _ _ hn hb
theorem rstep {l nw : List (Str × Str)} {seen : List Nat} {k : Nat} {a b : Str} (h1 : seen.Nodup) (h2 : ∀ i ∈ seen, i < l.length) (h3 : nw = rebuild l seen) (hp : l[k]? = some (a, b)) (hn : ¬ k ∈ seen) : (seen ++ [k]).Nodup ∧ (∀ i ∈ seen ++ [k], i < l.length) ∧ mput nw a b = rebuild l (seen ++ [k]) := by
  have hk := (List.getElem?_eq_some_iff.1 hp).1
  refine ⟨List.nodup_append.2 ⟨h1, by simp, fun i hi j hj e => by simp at hj; subst hj; subst e; exact hn hi⟩, fun i hi => ?_, by rw [rebuild_snoc hp, h3]⟩
  rcases List.mem_append.1 hi with h | h
  · exact h2 i h
  · simp at h; omega
end Go.Proofs
end
section
namespace Go.Proofs
open Go Go.Aw
set_option maxRecDepth 100000
theorem sortL_of_perm {l l' : List Str} (h : l.Perm l') : sortL l = sortL l' := by
  have to : ∀ a b : Str, (decide (a ≤ b) || decide (b ≤ a)) = true := fun a b => by
    rcases List.le_total a b with h | h <;> simp [h]
  have tr : ∀ a b c : Str, decide (a ≤ b) = true → decide (b ≤ c) = true → decide (a ≤ c) = true := fun a b c h1 h2 => by
    simp only [decide_eq_true_eq] at *; exact List.le_trans h1 h2
  refine List.Perm.eq_of_pairwise (le := fun a b => decide (a ≤ b) = true) (fun a b _ _ h1 h2 => ?_) (List.pairwise_mergeSort tr to l) (List.pairwise_mergeSort tr to l') (((List.mergeSort_perm l _).trans h).trans (List.mergeSort_perm l' _).symm)
  simp only [decide_eq_true_eq] at h1 h2
  exact List.le_antisymm h1 h2
def keysAt (l : List (Str × Str)) (seen : List Nat) : List Str := seen.map fun i => (l.getD i ([], [])).1
theorem keysAt_perm {l : List (Str × Str)} {seen : List Nat} (hn : seen.Nodup) (hb : ∀ i ∈ seen, i < l.length) (ha : ∀ i, i < l.length → i ∈ seen) : (keysAt l seen).Perm (l.map Prod.fst) := by
  have hp : seen.Perm (List.range l.length) := (List.perm_ext_iff_of_nodup hn List.nodup_range).2 fun i => ⟨fun h => List.mem_range.2 (hb i h), fun h => ha i (List.mem_range.1 h)⟩
  refine (hp.map _).trans ?_
  have e : (List.range l.length).map (fun i => (l.getD i ([], [])).1) = l.map Prod.fst := by
    refine List.ext_getElem (by simp) fun i h1 h2 => ?_
    simp only [List.length_map] at h2
    simp [h2]
  show ((List.range l.length).map (fun i => (l.getD i ([], [])).1)).Perm (l.map Prod.fst)
  rw [e]
theorem keysAt_snoc {l : List (Str × Str)} {seen : List Nat} {k : Nat} {a b : Str} (hp : l[k]? = some (a, b)) : keysAt l (seen ++ [k]) = keysAt l seen ++ [a] := by
  unfold keysAt
  rw [List.map_append]
  simp [List.getD_eq_getElem?_getD, hp]
def listR (s : DSt) : List Str × Int := if s.down = true then ([], 10) else (sortL (s.now.map Prod.fst), 0)
theorem listR_nil {s : DSt} (h : s.down = false) (hE : ∀ k, k < s.now.length → k ∈ ([] : List Nat)) : listR s = ([], 0) := by
  have hz : s.now = [] := by
    rcases hq : s.now with _ | ⟨p, r⟩
    · rfl
    · exact absurd (hE 0 (by rw [hq]; simp)) (by simp)
  unfold listR
  rw [if_neg (by simp [h]), hz]
  simp [sortL]
theorem sort_take {zs : List Str} {k : Nat} (h : k ≤ zs.length) : (sortL (zs.take k) ++ zs.drop k).take k = sortL (zs.take k) := by
  have hl : (sortL (zs.take k)).length = k := by rw [sortL_len, List.length_take]; omega
  rw [List.take_append_of_le_length (by omega), List.take_of_length_le (by omega)]
theorem sort_len {zs : List Str} {k : Nat} (h : k ≤ zs.length) : (sortL (zs.take k) ++ zs.drop k).length = zs.length := by
  rw [List.length_append, sortL_len, List.length_take, List.length_drop]; omega
theorem sstep {l : List (Str × Str)} {seen : List Nat} {k : Nat} {p : Str × Str} (h1 : seen.Nodup) (h2 : ∀ i ∈ seen, i < l.length) (hp : l[k]? = some p) (hn : ¬ k ∈ seen) : (seen ++ [k]).Nodup ∧ (∀ i ∈ seen ++ [k], i < l.length) := by
  have := rstep (nw := rebuild l seen) h1 h2 rfl (a := p.1) (b := p.2) hp hn
  exact ⟨this.1, this.2.1⟩
theorem u_Sort0 (m : AMem) (K : AV → AMem → Prop) (hK : K (.tuple []) m) : ACalls Tryd.prog 27 [.nils] m K := acalls_sort1 ⟨_, Tryd.func27, rfl, rfl⟩ Tryd.slices_Sort_string_none m K hK
theorem u_Sort (b k cap : Nat) (zs : List Str) (hk : k ≤ zs.length) (hkb : k ≤ 140737488355328) (m : AMem) (K : AV → AMem → Prop) (hK : K (.tuple []) (m.wth [(b, .cells ((sortL (zs.take k) ++ zs.drop k).map strAV))])) : ACalls Tryd.prog 27 [.ms ⟨b, 0, none⟩ k cap] (m.wth [(b, .cells (zs.map strAV))]) K :=
  acalls_sort ⟨_, Tryd.func27, rfl, rfl⟩ Tryd.slices_Sort_string b k cap zs hk hkb m K hK
set_option maxHeartbeats 4000000 in
theorem u_List (d kb nb : Nat) (s : DSt) (N : Nat) (hN : [d, nb].Nodup) (hD : DInv N s) (hNN : N ≤ 100000) (m : AMem)  (K : AV → AMem → Prop) (hK : K (.tuple [sF ((listR s).1.map strAV), .err 60 (listR s).2]) (mW m [(d, dObj kb nb s), (nb, mObj s.now)])) : ACalls Tryd.prog 41 [pT d] (mW m [(d, dObj kb nb s), (nb, mObj s.now)]) K := by
 have hnl := hD.nl
 refine acalls_enter Tryd.func41 rfl (by decide) (nB rfl) ?_
 show AWP _ _ _ _ [(0, pT d)] (mW m [(d, dObj kb nb s), (nb, mObj s.now)])
 refine rS [] [0] (by decide) ?_
 intro K1 hK1
 refine ⟨tv, tv, ?_⟩
 show K1 [(0, pT d)] _
 refine hK1 _ _ ?_; clear hK1 K1
 refine sK ?_; intro K2 hK2
 refine rS [] [0, 9] (by decide) ?_
 intro K1 hK1
 refine ⟨tv, tv, ⟨rfl, by decide⟩, ?_⟩
 refine aL rfl (v := .bool s.down) rfl (wG 0 hN rfl) rfl (aO rfl rfl (nB rfl)) rfl ?_
 show K1 [(0, pT d), (9, .bool s.down)] _
 refine hK1 _ _ ?_; clear hK1 K1
 refine cD rfl rfl (fun h1 => ?_) (fun h1 => ?_)
 ·
  replace h1 : s.down = true := h1
  refine rS [] [2, 3] (by decide) ?_
  intro K1 hK1
  refine ⟨tv, tv, tv, ?_⟩
  show K1 [(2, .slice true []), (3, .iface 60 (iT 10))] (mW m [(d, dObj kb nb s), (nb, mObj s.now)])
  refine hK1 _ _ ?_; clear hK1 K1
  refine awp_toErr 60 [3] ?_
  show AWP _ _ _ _ [(2, .slice true []), (3, .err 60 10)] _
  refine awp_strip 2 rfl ?_
  refine awp_keep [2, 3] (by decide) ?_
  show AWP _ _ _ _ [(2, .slice false []), (3, .err 60 10)] _
  refine awp_ret ?_
  refine ⟨tv, tv, (mW m [(d, dObj kb nb s), (nb, mObj s.now)]), fun _ _ h => h, ?_⟩
  show K (.tuple [.slice false [], .err 60 10]) _
 
  have e0 : listR s = (([], 10) : List Str × Int) := by
   first | (rw [listR, if_pos h1]; done) | (exact listR_nil h1 hE1) | (rw [listR, if_neg (by simp [h1]), hs3, sortL_of_perm (keysAt_perm hs1 hs2 hE2)]; done)
  rw [e0] at hK
  exact hK
 replace h1 : s.down = false := h1
 refine awp_skip ?_
 refine hK2 _ _ ?_; clear hK2
 refine rS [] [0, 4] (by decide) ?_
 intro K1 hK1
 refine ⟨tv, ?_⟩
 show K1 [(0, pT d), (4, .slice true [])] (mW m [(d, dObj kb nb s), (nb, mObj s.now)])
 refine hK1 _ _ ?_; clear hK1 K1
 refine sK ?_; intro K3 hK3
 refine rS [] [4, 15] (by decide) ?_
 intro K1 hK1
 refine ⟨tv, tv, ⟨rfl, by decide⟩, ?_⟩
 refine aL rfl (v := .map nb) rfl (wG 0 hN rfl) rfl (aO rfl rfl (nB rfl)) rfl ?_
 refine ar_range rfl (m := m) (L := [(d, dObj kb nb s), (nb, mObj s.now)]) 1 rfl rfl rfl hN ?_
 intro q1 _
 show K1 [(4, .slice true []), (15, pT q1)] (mW m [(d, dObj kb nb s), (nb, AObj.iter q1 (List.map (mapAV strAV strAV) s.now) [])])
 refine hK1 _ _ ?_; clear hK1 K1
 refine awp_block ?_
 refine awp_conv1 4 (.slice true []) .nils rfl nils_of_own ?_
 refine awp_keep [4, 15] (by decide) ?_
 refine awp_loop_st (σ := (Unit) ⊕ (Nat × List Nat × List (List UInt8))) (Sum.elim (fun _ => [(4, .nils), (15, pT q1)]) (fun ⟨b, seen, zs⟩ => [(4, .ms ⟨b, 0, none⟩ seen.length zs.length), (15, pT q1)])) (Sum.elim (fun _ => (mW m [(d, dObj kb nb s), (nb, AObj.iter q1 (List.map (mapAV strAV strAV) s.now) [])])) (fun ⟨b, seen, zs⟩ => (mW m [(b, .cells (zs.map strAV)), (d, dObj kb nb s), (nb, AObj.iter q1 (List.map (mapAV strAV strAV) s.now) seen)]))) (Sum.elim (fun _ => True) (fun ⟨b, seen, zs⟩ => ([b, d, nb] : List Nat).Nodup ∧ m b = none ∧ (seen).Nodup ∧ (∀ i ∈ seen, i < s.now.length) ∧ (zs).take (seen).length = keysAt s.now seen ∧ (seen).length ≤ (zs).length)) (Sum.elim (fun _ => s.now.length + 1) (fun ⟨b, seen, zs⟩ => s.now.length - (seen).length)) (.inl ()) rfl rfl ?_ ?_
 ·
  show True
  trivial
 ·
  rintro (_ | ⟨b, seen, zs⟩) hI
  ·
   replace hI : True := hI
   show AWP _ _ _ _ [(4, .nils), (15, pT q1)] (mW m [(d, dObj kb nb s), (nb, AObj.iter q1 (List.map (mapAV strAV strAV) s.now) [])])
   refine rS [] [4, 15, 17] (by decide) ?_
   intro K1 hK1
   refine ar_nextT rfl (m := m) (L := [(d, dObj kb nb s), (nb, AObj.iter q1 (List.map (mapAV strAV strAV) s.now) [])]) 1 strAV strAV s.now [] rfl rfl hN ?_ ?_
   ·
    intro hE1
    refine ⟨(nB rfl), ?_⟩
    show K1 [(4, .nils), (15, pT q1), (17, .bool false)] (mW m [(d, dObj kb nb s), (nb, AObj.iter q1 (List.map (mapAV strAV strAV) s.now) [])])
    refine hK1 _ _ ?_; clear hK1 K1
    refine awp_unrange (m := m) (L := [(d, dObj kb nb s), (nb, AObj.iter q1 (List.map (mapAV strAV strAV) s.now) [])]) 1 hN rfl ?_
    show AWP _ _ _ _ [(4, .nils), (15, pT q1), (17, .bool false)] (mW m [(d, dObj kb nb s), (nb, mObj s.now)])
    refine sK ?_; intro K4 hK4
    refine cD rfl rfl (fun hcz => ?_) (fun hcz => ?_)
    ·
     cases hcz
    clear hcz
    refine awp_exit ?_
    refine hK3 _ _ ?_; clear hK3
    refine rS [] [4] (by decide) ?_
    intro K1 hK1
    refine ⟨tv, ?_⟩
    refine u_Sort0 _ _ ?_
    show K1 [(4, .nils)] (mW m [(d, dObj kb nb s), (nb, mObj s.now)])
    refine hK1 _ _ ?_; clear hK1 K1
    refine awp_conv1 4 .nils (.slice false []) rfl own_of_nils ?_
    show AWP _ _ _ _ [(4, .slice false [])] _
    refine rS [] [2, 3] (by decide) ?_
    intro K1 hK1
    refine ⟨tv, tv, tv, ?_⟩
    show K1 [(2, .slice false []), (3, .nilIface)] _
    refine hK1 _ _ ?_; clear hK1 K1
    refine awp_toErr 60 [3] ?_
    show AWP _ _ _ _ [(2, .slice false []), (3, .err 60 0)] _
    refine awp_ret ?_
    refine ⟨tv, tv, (mW m [(d, dObj kb nb s), (nb, mObj s.now)]), fun _ _ h => h, ?_⟩
    show K (.tuple [.slice false [], .err 60 0]) _
   
    have e0 : listR s = (([], 0) : List Str × Int) := by
     first | (rw [listR, if_pos h1]; done) | (exact listR_nil h1 hE1) | (rw [listR, if_neg (by simp [h1]), hs3, sortL_of_perm (keysAt_perm hs1 hs2 hE2)]; done)
    rw [e0] at hK
    exact hK
   ·
    rintro k1 ⟨ek1, ev1⟩ hp1 hn1
    refine ⟨(nB rfl), ?_⟩
    show K1 [(4, .nils), (15, pT q1), (17, .bool true)] (mW m [(d, dObj kb nb s), (nb, AObj.iter q1 (List.map (mapAV strAV strAV) s.now) ([] ++ [k1]))])
    refine hK1 _ _ ?_; clear hK1 K1
    refine sK ?_; intro K5 hK5
    refine cD rfl rfl (fun hcz => ?_) (fun hcz => ?_)
    rotate_left; · cases hcz
    clear hcz
    refine awp_skip ?_
    refine hK5 _ _ ?_; clear hK5
    refine awp_block ?_
    refine rS [] [4, 5, 15] (by decide) ?_
    intro K1 hK1
    refine ar_entryT rfl (m := m) (L := [(d, dObj kb nb s), (nb, AObj.iter q1 (List.map (mapAV strAV strAV) s.now) ([] ++ [k1]))]) 1 strAV strAV s.now [] hp1 rfl rfl hN ?_
    refine ⟨(nB rfl), tv, ?_⟩
    show K1 [(4, .nils), (5, .str ek1), (15, pT q1)] _
    refine hK1 _ _ ?_; clear hK1 K1
    refine awp_reg2 [20] [4, 15] (by decide) ?_
    intro K1 hK1
    refine ⟨tv, tv, ⟨rfl, nB rfl, rfl, nB rfl, rfl, by simp only [List.forall_mem_cons]; exact ⟨⟨rfl, rfl⟩, nfA⟩⟩, ?_⟩
    refine ar_append0Ms rfl strAV ([ek1] : List (List UInt8)) [] rfl rfl rfl rfl rfl rfl rfl hN (fun _ => rfl) (fun _ => rfl) rfl (by simp) (by (simp only [show Tryd.prog.bytesOf 9 = 16 from rfl, List.length_cons, List.length_nil]; omega)) (by simp) ?_
    intro b1 zs1 hFb1 hNb1 htb1 hlb1
    replace hNb1 : ([b1, d, nb] : List Nat).Nodup := hNb1
    refine ⟨tv, ?_⟩
    show K1 [(4, .ms ⟨b1, 0, none⟩ (([ek1] : List (List UInt8)).length) zs1.length), (15, pT q1)] (mW m [(b1, .cells (zs1.map strAV)), (d, dObj kb nb s), (nb, AObj.iter q1 (List.map (mapAV strAV strAV) s.now) ([] ++ [k1]))])
    refine hK1 _ _ ?_; clear hK1 K1
    refine ⟨.inr (b1, [k1], zs1), rfl, rfl, ?_, ?_⟩
    ·
     show ([b1, d, nb] : List Nat).Nodup ∧ m b1 = none ∧ ([k1]).Nodup ∧ (∀ i ∈ ([k1]), i < s.now.length) ∧ (zs1).take ([k1]).length = keysAt s.now ([k1]) ∧ ([k1]).length ≤ (zs1).length
     exact ⟨hNb1, hFb1, by simp, fun i hi => by simp at hi; subst hi; exact (List.getElem?_eq_some_iff.1 hp1).1, by rw [show ([k1] : List Nat) = [] ++ [k1] from rfl, keysAt_snoc hp1]; exact htb1, hlb1⟩
    ·
     show s.now.length - ([k1]).length < s.now.length + 1
     simp; omega
  ·
   replace hI : ([b, d, nb] : List Nat).Nodup ∧ m b = none ∧ (seen).Nodup ∧ (∀ i ∈ seen, i < s.now.length) ∧ (zs).take (seen).length = keysAt s.now seen ∧ (seen).length ≤ (zs).length := hI
   obtain ⟨hNb, hFb, hs1, hs2, hs3, hs4⟩ := hI
   have hsl := seen_len hs1 hs2
   show AWP _ _ _ _ [(4, .ms ⟨b, 0, none⟩ seen.length zs.length), (15, pT q1)] (mW m [(b, .cells (zs.map strAV)), (d, dObj kb nb s), (nb, AObj.iter q1 (List.map (mapAV strAV strAV) s.now) seen)])
   refine rS [] [4, 15, 17] (by decide) ?_
   intro K1 hK1
   refine ar_nextT rfl (m := m) (L := [(b, .cells (zs.map strAV)), (d, dObj kb nb s), (nb, AObj.iter q1 (List.map (mapAV strAV strAV) s.now) seen)]) 2 strAV strAV s.now seen rfl rfl hNb ?_ ?_
   ·
    intro hE2
    refine ⟨(nB rfl), ?_⟩
    show K1 [(4, .ms ⟨b, 0, none⟩ seen.length zs.length), (15, pT q1), (17, .bool false)] (mW m [(b, .cells (zs.map strAV)), (d, dObj kb nb s), (nb, AObj.iter q1 (List.map (mapAV strAV strAV) s.now) seen)])
    refine hK1 _ _ ?_; clear hK1 K1
    refine awp_unrange (m := m) (L := [(b, .cells (zs.map strAV)), (d, dObj kb nb s), (nb, AObj.iter q1 (List.map (mapAV strAV strAV) s.now) seen)]) 2 hNb rfl ?_
    show AWP _ _ _ _ [(4, .ms ⟨b, 0, none⟩ seen.length zs.length), (15, pT q1), (17, .bool false)] (mW m [(b, .cells (zs.map strAV)), (d, dObj kb nb s), (nb, mObj s.now)])
    refine sK ?_; intro K6 hK6
    refine cD rfl rfl (fun hcz => ?_) (fun hcz => ?_)
    ·
     cases hcz
    clear hcz
    refine awp_exit ?_
    refine hK3 _ _ ?_; clear hK3
    refine rS [] [4] (by decide) ?_
    intro K1 hK1
    refine ⟨tv, ?_⟩
    refine ar_mem (wS hNb (pick_perm [0] _)) ?_
    refine u_Sort b seen.length zs.length zs hs4 (by have := hD.nl; omega) _ _ ?_
    refine ar_mem (wS (m := m) (L := [(b, .cells ((sortL (zs.take seen.length) ++ zs.drop seen.length).map strAV)), (d, dObj kb nb s), (nb, mObj s.now)]) hNb (pick_perm [0] _)).symm ?_
    show K1 [(4, .ms ⟨b, 0, none⟩ seen.length zs.length)] (mW m [(b, .cells ((sortL (zs.take seen.length) ++ zs.drop seen.length).map strAV)), (d, dObj kb nb s), (nb, mObj s.now)])
    refine hK1 _ _ ?_; clear hK1 K1
    refine awp_freeze 4 0 (sortL (zs.take seen.length) ++ zs.drop seen.length) rfl rfl hNb hFb (by rw [sort_len hs4]; exact hs4) (by have := hD.nl; omega) ?_
    rw [sort_take hs4]
    have hNd1 : ([d, nb] : List Nat).Nodup := drop_nodup (L := [(b, .cells ((sortL (zs.take seen.length) ++ zs.drop seen.length).map strAV)), (d, dObj kb nb s), (nb, mObj s.now)]) hNb (pick_perm [0] _)
    show AWP _ _ _ _ [(4, sF ((sortL (zs.take seen.length)).map strAV))] (mW m [(d, dObj kb nb s), (nb, mObj s.now)])
    refine rS [] [2, 3] (by decide) ?_
    intro K1 hK1
    refine ⟨tv, tv, tv, ?_⟩
    show K1 [(2, sF ((sortL (zs.take seen.length)).map strAV)), (3, .nilIface)] _
    refine hK1 _ _ ?_; clear hK1 K1
    refine awp_toErr 60 [3] ?_
    show AWP _ _ _ _ [(2, sF ((sortL (zs.take seen.length)).map strAV)), (3, .err 60 0)] _
    refine awp_ret ?_
    refine ⟨tv, tv, (mW m [(d, dObj kb nb s), (nb, mObj s.now)]), fun _ _ h => h, ?_⟩
    show K (.tuple [sF ((sortL (zs.take seen.length)).map strAV), .err 60 0]) _
   
    have e0 : listR s = ((sortL (zs.take seen.length), 0) : List Str × Int) := by
     first | (rw [listR, if_pos h1]; done) | (exact listR_nil h1 hE1) | (rw [listR, if_neg (by simp [h1]), hs3, sortL_of_perm (keysAt_perm hs1 hs2 hE2)]; done)
    rw [e0] at hK
    exact hK
   ·
    rintro k2 ⟨ek2, ev2⟩ hp2 hn2
    refine ⟨(nB rfl), ?_⟩
    show K1 [(4, .ms ⟨b, 0, none⟩ seen.length zs.length), (15, pT q1), (17, .bool true)] (mW m [(b, .cells (zs.map strAV)), (d, dObj kb nb s), (nb, AObj.iter q1 (List.map (mapAV strAV strAV) s.now) (seen ++ [k2]))])
    refine hK1 _ _ ?_; clear hK1 K1
    refine sK ?_; intro K7 hK7
    refine cD rfl rfl (fun hcz => ?_) (fun hcz => ?_)
    rotate_left; · cases hcz
    clear hcz
    refine awp_skip ?_
    refine hK7 _ _ ?_; clear hK7
    refine awp_block ?_
    refine rS [] [4, 5, 15] (by decide) ?_
    intro K1 hK1
    refine ar_entryT rfl (m := m) (L := [(b, .cells (zs.map strAV)), (d, dObj kb nb s), (nb, AObj.iter q1 (List.map (mapAV strAV strAV) s.now) (seen ++ [k2]))]) 2 strAV strAV s.now seen hp2 rfl rfl hNb ?_
    refine ⟨(nB rfl), tv, ?_⟩
    show K1 [(4, .ms ⟨b, 0, none⟩ seen.length zs.length), (5, .str ek2), (15, pT q1)] _
    refine hK1 _ _ ?_; clear hK1 K1
    refine awp_reg2 [20] [4, 15] (by decide) ?_
    intro K1 hK1
    refine ⟨tv, tv, ⟨rfl, nB rfl, rfl, nB rfl, rfl, by simp only [List.forall_mem_cons]; exact ⟨⟨rfl, rfl⟩, nfA⟩⟩, ?_⟩
    refine ar_appendMs rfl 0 strAV zs ([ek2] : List (List UInt8)) [] seen.length rfl rfl rfl rfl rfl rfl rfl rfl hNb hFb (fun _ => rfl) rfl (fun _ => rfl) (fun _ => rfl) (by (first | omega | (simp only [List.length_append, List.length_cons, List.length_nil]; omega))) (by (simp only [show Tryd.prog.bytesOf 9 = 16 from rfl, List.length_append, List.length_cons, List.length_nil]; omega)) (by (first | omega | (simp only [List.length_append, List.length_cons, List.length_nil]; omega))) ?_
    intro b2 zs2 hFb2 hNb2 htb2 hlb2
    replace htb2 : zs2.take (seen.length + ([ek2] : List (List UInt8)).length) = zs.take seen.length ++ ([ek2] : List (List UInt8)) := htb2
    replace hlb2 : seen.length + ([ek2] : List (List UInt8)).length ≤ zs2.length := hlb2
    refine ⟨tv, ?_⟩
    show K1 [(4, .ms ⟨b2, 0, none⟩ (seen.length + ([ek2] : List (List UInt8)).length) zs2.length), (15, pT q1)] (mW m [(b2, .cells (zs2.map strAV)), (d, dObj kb nb s), (nb, AObj.iter q1 (List.map (mapAV strAV strAV) s.now) (seen ++ [k2]))])
    refine hK1 _ _ ?_; clear hK1 K1
    refine ⟨.inr (b2, seen ++ [k2], zs2), (by simp), rfl, ?_, ?_⟩
    ·
     show ([b2, d, nb] : List Nat).Nodup ∧ m b2 = none ∧ (seen ++ [k2]).Nodup ∧ (∀ i ∈ (seen ++ [k2]), i < s.now.length) ∧ (zs2).take (seen ++ [k2]).length = keysAt s.now (seen ++ [k2]) ∧ (seen ++ [k2]).length ≤ (zs2).length
     have hss := sstep hs1 hs2 hp2 hn2
     exact ⟨hNb2, hFb2, hss.1, hss.2, by rw [keysAt_snoc hp2, ← hs3, List.length_append]; exact htb2, by rw [List.length_append]; exact hlb2⟩
    ·
     show s.now.length - (seen ++ [k2]).length < s.now.length - (seen).length
     have hss := sstep hs1 hs2 hp2 hn2
     have := seen_len hss.1 hss.2
     rw [List.length_append, List.length_singleton] at *
     omega
end Go.Proofs
end
section
namespace Go.Proofs
open Go Go.Aw
set_option maxRecDepth 100000
def remR (s : DSt) (n : Str) : DSt × Int := if (mget s.now n).isSome = false then (s, 7) else doF s ⟨n, [], [], 5⟩
set_option maxHeartbeats 2000000 in
theorem u_Remove (d kb nb : Nat) (s : DSt) (name : Str) (N : Nat) (hN : [d, nb].Nodup) (hD : DInv N s) (hNN : N ≤ 100000) (hn : name.length ≤ 140737488355328) (m : AMem)  (K : AV → AMem → Prop) (hK : K (.err 60 (remR s name).2) (AMem.wth m [(d, dObj kb nb (remR s name).1), (nb, mObj (remR s name).1.now)])) : ACalls Tryd.prog 35 [.ptr ⟨d, 0, none⟩, .str name] (AMem.wth m [(d, dObj kb nb s), (nb, mObj s.now)]) K := by
 refine acalls_enter Tryd.func35 rfl (by decide) (Nat.le_of_ble_eq_true rfl) ?_
 show AWP _ _ _ _ [(0, .ptr ⟨d, 0, none⟩), (1, .str name)] (AMem.wth m [(d, dObj kb nb s), (nb, mObj s.now)])
 refine awp_reg2_seq [] [0, 1] (by decide) ?_
 intro K1 hK1
 refine ⟨trivial, ?_⟩
 show K1 [(0, .ptr ⟨d, 0, none⟩), (1, .str name)] _
 refine hK1 _ _ ?_; clear hK1 K1
 refine awp_reg2_seq [] [0, 1, 6] (by decide) ?_
 intro K1 hK1
 refine ⟨trivial, trivial, ⟨rfl, by decide⟩, ?_⟩
 refine ar_loadp rfl (v := .map nb) rfl (wth_get 0 hN rfl) rfl (apartOk_one rfl rfl (Nat.le_of_ble_eq_true rfl)) rfl ?_
 refine ⟨trivial, ?_⟩
 refine ar_lookupOk rfl (m := m) (L := [(d, dObj kb nb s), (nb, mObj s.now)]) strAV strAV strKey_ok s.now name [] rfl rfl rfl rfl rfl (wth_get 1 hN rfl) rfl ?_
 refine ⟨trivial, (Nat.le_of_ble_eq_true rfl), (Nat.le_of_ble_eq_true rfl), trivial, trivial, ?_⟩
 show K1 [(0, .ptr ⟨d, 0, none⟩), (1, .str name), (6, .bool ((mget s.now name).isSome))] _
 refine hK1 _ _ ?_; clear hK1 K1
 refine awp_seq_k ?_; intro K2 hK2
 refine awp_reg2_seq [] [0, 1, 17] (by decide) ?_
 intro K1 hK1
 refine ⟨trivial, trivial, ?_⟩
 show K1 [(0, .ptr ⟨d, 0, none⟩), (1, .str name), (17, .bool (!((mget s.now name).isSome)))] _
 refine hK1 _ _ ?_; clear hK1 K1
 refine awp_cond rfl rfl (fun h1 => ?_) (fun h1 => ?_)
 ·
  replace h1 : (mget s.now name).isSome = false := (bnT h1)
  refine awp_reg2_seq [] [4] (by decide) ?_
  intro K1 hK1
  refine ⟨trivial, trivial, ?_⟩
  show K1 [(4, .iface 60 (.int .i64 7))] (AMem.wth m [(d, dObj kb nb s), (nb, mObj s.now)])
  refine hK1 _ _ ?_; clear hK1 K1
  refine awp_toErr 60 [4] ?_
  show AWP _ _ _ _ [(4, .err 60 7)] _
  refine awp_ret ?_
  refine ⟨trivial, (AMem.wth m [(d, dObj kb nb s), (nb, mObj s.now)]), fun _ _ h => h, ?_⟩
  show K (.err 60 7) _
 
  have e0 : remR s name = ((s, 7) : DSt × Int) := by
   first | (rw [remR, if_pos h1]; done) | (rw [remR, if_neg (by simp [h1])]; done)
  rw [e0] at hK
  exact hK
 replace h1 : (mget s.now name).isSome = true := (bnF h1)
 refine awp_skip ?_
 refine hK2 _ _ ?_; clear hK2
 refine awp_reg2_seq [] [4] (by decide) ?_
 intro K1 hK1
 refine ⟨trivial, trivial, ⟨rfl, by simp only [List.forall_mem_cons]; exact ⟨rfl, rfl, rfl, rfl, fun _ h => by cases h⟩, by simp only [List.forall_mem_cons]; exact ⟨rfl, rfl, fun _ h => by cases h⟩⟩, ?_⟩
 refine u_do d kb nb s (⟨name, [], [], 5⟩ : Chg) N hN hD hNN (by first | assumption | (dsimp only; omega) | simp) _ _ ?_
 show aopsR _ _ _ _ _ _ (AMem.wth m [(d, dObj kb nb ((doF s (⟨name, [], [], 5⟩ : Chg)).1)), (nb, mObj ((doF s (⟨name, [], [], 5⟩ : Chg)).1.now))])
 refine ⟨trivial, ?_⟩
 show K1 [(4, .err 60 ((doF s (⟨name, [], [], 5⟩ : Chg)).2))] (AMem.wth m [(d, dObj kb nb ((doF s (⟨name, [], [], 5⟩ : Chg)).1)), (nb, mObj ((doF s (⟨name, [], [], 5⟩ : Chg)).1.now))])
 refine hK1 _ _ ?_; clear hK1 K1
 refine awp_ret ?_
 refine ⟨trivial, (AMem.wth m [(d, dObj kb nb ((doF s (⟨name, [], [], 5⟩ : Chg)).1)), (nb, mObj ((doF s (⟨name, [], [], 5⟩ : Chg)).1.now))]), fun _ _ h => h, ?_⟩
 show K (.err 60 ((doF s (⟨name, [], [], 5⟩ : Chg)).2)) _
 have e0 : remR s name = (((doF s (⟨name, [], [], 5⟩ : Chg)).1, (doF s (⟨name, [], [], 5⟩ : Chg)).2) : DSt × Int) := by
  first | (rw [remR, if_pos h1]; done) | (rw [remR, if_neg (by simp [h1])]; done)
 rw [e0] at hK
 exact hK
end Go.Proofs
end
