import Derived.Test.YtoeghipbkmaccaaProg
import Derived.Test.YtoeghipbkmaccaaMix
import Derived.Test.YtoeghipbkmaccaaWxe
namespace Go.Proofs
open Go Go.Aw
set_option maxRecDepth 100000


def u64AV (n : Int) : AV := .int .u64 n
theorem take_succ_gI {α : Type} [Inhabited α] {l : List α} {i : Int} (h0 : 0 ≤ i) (hi : i < l.length) : l.take (i + 1).toNat = l.take i.toNat ++ [gI l i] := by
  have e : (i + 1).toNat = i.toNat + 1 := by omega
  have hn : i.toNat < l.length := by omega
  rw [e, List.take_succ_eq_append_getElem hn]
  simp [gI, List.getD_eq_getElem?_getD, hn]
theorem gI_mem {α : Type} [Inhabited α] {l : List α} {i : Int} (h0 : 0 ≤ i) (hi : i < l.length) : gI l i ∈ l := by
  simp only [gI, List.getD_eq_getElem?_getD, List.getElem?_eq_getElem (show i.toNat < l.length by omega), Option.getD_some]
  exact List.getElem_mem _
theorem take_full {α : Type} {l : List α} {i : Int} (hi : l.length ≤ i) : l.take i.toNat = l := List.take_of_length_le (by omega)
def fnv (h : Int) (c : UInt8) : Int := IntKind.u64.wrap (IntKind.u64.wrap ((BitVec.ofInt IntKind.u64.bits h ^^^ BitVec.ofInt IntKind.u64.bits (IntKind.u64.wrap c.toNat)).toNat) * 1099511628211)
def sumI (s : List UInt8) : Int := s.foldl fnv 14695981039346656037
theorem sum_step {s : List UInt8} {i : Int} (h0 : 0 ≤ i) (hi : i < s.length) : (s.take (i + 1).toNat).foldl fnv 14695981039346656037 = fnv ((s.take i.toNat).foldl fnv 14695981039346656037) (gI s i) := by
  rw [take_succ_gI h0 hi, List.foldl_append]; rfl
theorem wrap_u64_range (a : Int) : 0 ≤ IntKind.u64.wrap a ∧ IntKind.u64.wrap a ≤ 18446744073709551615 := by
  have h1 := (wrap_min .u64 a).1
  have h2 := (wrap_min .u64 a).2
  simp [IntKind.min, IntKind.max, IntKind.signed, IntKind.bits] at h1 h2
  omega
theorem sumI_range (s : List UInt8) : 0 ≤ sumI s ∧ sumI s ≤ 18446744073709551615 := by
  unfold sumI
  rcases List.eq_nil_or_concat s with rfl | ⟨l, c, rfl⟩
  · exact ⟨by decide, by decide⟩
  · rw [List.concat_eq_append, List.foldl_append]
    exact wrap_u64_range _

theorem u_Sum (s : List UInt8) (hs : s.length ≤ 16777216) (m : AMem)  (K : AV → AMem → Prop) (hK : K (.int .u64 (sumI s)) m) : ACalls Try.prog 90 [.str s] m K := by
  refine acalls_enter Try.func90 rfl (by decide) (Nat.le_of_ble_eq_true rfl) ?_
  show AWP _ _ _ _ [(0, .str s)] m
  refine awp_reg2_seq [] [0] (by decide) ?_
  intro K1 hK1
  refine ⟨trivial, ?_⟩
  show K1 [(0, .str s)] m
  refine hK1 _ _ ?_; clear hK1 K1
  refine awp_reg2_seq [] [0, 3] (by decide) ?_
  intro K1 hK1
  refine ⟨trivial, ?_⟩
  show K1 [(0, .str s), (3, .int .u64 14695981039346656037)] m
  refine hK1 _ _ ?_; clear hK1 K1
  refine awp_seq_k ?_; intro K2 hK2
  refine awp_reg2_seq [] [0, 3, 6, 7] (by decide) ?_
  intro K1 hK1
  refine ⟨trivial, trivial, trivial, ?_⟩
  show K1 [(0, .str s), (3, .int .u64 14695981039346656037), (6, .int .i64 (s.length : Int)), (7, .int .i64 0)] m
  refine hK1 _ _ ?_; clear hK1 K1
  refine awp_block ?_
  refine awp_keep [0, 3, 6, 7] (by decide) ?_
  refine awp_loop_st (σ := Int × Int) (fun ⟨h, i⟩ => [(0, .str s), (3, .int .u64 h), (6, .int .i64 (s.length : Int)), (7, .int .i64 i)]) (fun _ => m) (fun ⟨h, i⟩ => 0 ≤ i ∧ i ≤ s.length ∧ h = (s.take i.toNat).foldl fnv 14695981039346656037) (fun ⟨h, i⟩ => s.length - i.toNat) (14695981039346656037, 0) rfl rfl ?_ ?_
  · show 0 ≤ ((0 : Int)) ∧ ((0 : Int)) ≤ s.length ∧ ((14695981039346656037 : Int)) = (s.take ((0 : Int)).toNat).foldl fnv 14695981039346656037
    exact ⟨by omega, by omega, rfl⟩
  · rintro ⟨h, i⟩ hI
    replace hI : 0 ≤ i ∧ i ≤ s.length ∧ h = (s.take i.toNat).foldl fnv 14695981039346656037 := hI
    show AWP _ _ _ _ [(0, .str s), (3, .int .u64 h), (6, .int .i64 (s.length : Int)), (7, .int .i64 i)] m
    refine awp_reg2_seq [] [0, 3, 6, 7, 8] (by decide) ?_
    intro K1 hK1
    refine ⟨trivial, ?_⟩
    show K1 [(0, .str s), (3, .int .u64 h), (6, .int .i64 (s.length : Int)), (7, .int .i64 i), (8, .bool (decide (i < (s.length : Int))))] m
    refine hK1 _ _ ?_; clear hK1 K1
    refine awp_seq_k ?_; intro K3 hK3
    refine awp_cond rfl rfl (fun h1 => ?_) (fun h1 => ?_)
    · replace h1 : i < (s.length : Int) := (of_decide_eq_true h1)
      refine awp_skip ?_
      refine hK3 _ _ ?_; clear hK3
      refine awp_seq_k ?_; intro K4 hK4
      refine awp_block ?_
      refine awp_reg2_seq [] [0, 3, 4, 6, 7] (by decide) ?_
      intro K1 hK1
      refine ⟨trivial, trivial, ?_⟩
      show K1 [(0, .str s), (3, .int .u64 h), (4, .int .i64 i), (6, .int .i64 (s.length : Int)), (7, .int .i64 i)] m
      refine hK1 _ _ ?_; clear hK1 K1
      refine awp_reg2 [] [0, 3, 6, 7] (by decide) ?_
      intro K1 hK1
      refine ⟨trivial, trivial, trivial, ⟨(by omega), (by omega)⟩, rfl, trivial, trivial, trivial, ?_⟩
      show K1 [(0, .str s), (3, .int .u64 (IntKind.u64.wrap ((IntKind.u64.wrap (BitVec.ofInt IntKind.u64.bits h ^^^ BitVec.ofInt IntKind.u64.bits (IntKind.u64.wrap ((gI s i).toNat))).toNat) * 1099511628211))), (6, .int .i64 (s.length : Int)), (7, .int .i64 i)] m
      refine hK1 _ _ ?_; clear hK1 K1
      refine hK4 _ _ ?_; clear hK4
      refine awp_reg2 [] [0, 3, 6, 7] (by decide) ?_
      intro K1 hK1
      refine ar_add rfl (a := i) (b := 1) rfl rfl (by omega) (by omega) ?_
      refine ⟨trivial, ?_⟩
      show K1 [(0, .str s), (3, .int .u64 (IntKind.u64.wrap ((IntKind.u64.wrap (BitVec.ofInt IntKind.u64.bits h ^^^ BitVec.ofInt IntKind.u64.bits (IntKind.u64.wrap ((gI s i).toNat))).toNat) * 1099511628211))), (6, .int .i64 (s.length : Int)), (7, .int .i64 (i + 1))] m
      refine hK1 _ _ ?_; clear hK1 K1
      refine ⟨(IntKind.u64.wrap ((IntKind.u64.wrap (BitVec.ofInt IntKind.u64.bits h ^^^ BitVec.ofInt IntKind.u64.bits (IntKind.u64.wrap ((gI s i).toNat))).toNat) * 1099511628211), i + 1), rfl, rfl, ?_, ?_⟩
      · show 0 ≤ ((i + 1 : Int)) ∧ ((i + 1 : Int)) ≤ s.length ∧ ((IntKind.u64.wrap ((IntKind.u64.wrap (BitVec.ofInt IntKind.u64.bits h ^^^ BitVec.ofInt IntKind.u64.bits (IntKind.u64.wrap ((gI s i).toNat))).toNat) * 1099511628211) : Int)) = (s.take ((i + 1 : Int)).toNat).foldl fnv 14695981039346656037
        exact ⟨by omega, by omega, by rw [sum_step hI.1 h1, ← hI.2.2]; rfl⟩
      · show s.length - ((i + 1 : Int)).toNat < s.length - i.toNat
        omega
    · replace h1 : (s.length : Int) ≤ i := (Int.not_lt.1 (of_decide_eq_false h1))
      refine awp_exit ?_
      refine hK2 _ _ ?_; clear hK2
      refine awp_reg2_seq [] [2] (by decide) ?_
      intro K1 hK1
      refine ⟨trivial, trivial, ?_⟩
      show K1 [(2, .int .u64 h)] m
      refine hK1 _ _ ?_; clear hK1 K1
      refine awp_ret ?_
      refine ⟨trivial, m, fun _ _ h => h, ?_⟩
      show K (.int .u64 h) m
     
      have e : h = sumI s := by rw [hI.2.2, take_full h1]; rfl
      subst e; exact hK

theorem u_refSum (s : List UInt8) (hs : s.length ≤ 16777216) (m : AMem)  (K : AV → AMem → Prop) (hK : K (.int .u64 (sumI s)) m) : ACalls Try.prog 71 [.str s] m K := by
  refine acalls_enter Try.func71 rfl (by decide) (Nat.le_of_ble_eq_true rfl) ?_
  show AWP _ _ _ _ [(0, .str s)] m
  refine awp_reg2_seq [] [0] (by decide) ?_
  intro K1 hK1
  refine ⟨trivial, ?_⟩
  show K1 [(0, .str s)] m
  refine hK1 _ _ ?_; clear hK1 K1
  refine awp_reg2_seq [] [0, 3] (by decide) ?_
  intro K1 hK1
  refine ⟨trivial, ?_⟩
  show K1 [(0, .str s), (3, .int .u64 14695981039346656037)] m
  refine hK1 _ _ ?_; clear hK1 K1
  refine awp_seq_k ?_; intro K2 hK2
  refine awp_reg2_seq [] [0, 3, 4] (by decide) ?_
  intro K1 hK1
  refine ⟨trivial, ?_⟩
  show K1 [(0, .str s), (3, .int .u64 14695981039346656037), (4, .int .i64 0)] m
  refine hK1 _ _ ?_; clear hK1 K1
  refine awp_block ?_
  refine awp_keep [0, 3, 4] (by decide) ?_
  refine awp_loop_st (σ := Int × Int) (fun ⟨h, i⟩ => [(0, .str s), (3, .int .u64 h), (4, .int .i64 i)]) (fun _ => m) (fun ⟨h, i⟩ => 0 ≤ i ∧ i ≤ s.length ∧ h = (s.take i.toNat).foldl fnv 14695981039346656037) (fun ⟨h, i⟩ => s.length - i.toNat) (14695981039346656037, 0) rfl rfl ?_ ?_
  · show 0 ≤ ((0 : Int)) ∧ ((0 : Int)) ≤ s.length ∧ ((14695981039346656037 : Int)) = (s.take ((0 : Int)).toNat).foldl fnv 14695981039346656037
    exact ⟨by omega, by omega, rfl⟩
  · rintro ⟨h, i⟩ hI
    replace hI : 0 ≤ i ∧ i ≤ s.length ∧ h = (s.take i.toNat).foldl fnv 14695981039346656037 := hI
    show AWP _ _ _ _ [(0, .str s), (3, .int .u64 h), (4, .int .i64 i)] m
    refine awp_seq_k ?_; intro K3 hK3
    refine awp_reg2_seq [] [0, 3, 4, 8] (by decide) ?_
    intro K1 hK1
    refine ⟨trivial, trivial, trivial, trivial, ?_⟩
    show K1 [(0, .str s), (3, .int .u64 h), (4, .int .i64 i), (8, .bool (decide (i < (s.length : Int))))] m
    refine hK1 _ _ ?_; clear hK1 K1
    refine awp_cond rfl rfl (fun h1 => ?_) (fun h1 => ?_)
    · replace h1 : i < (s.length : Int) := (of_decide_eq_true h1)
      refine awp_skip ?_
      refine hK3 _ _ ?_; clear hK3
      refine awp_seq_k ?_; intro K4 hK4
      refine awp_block ?_
      refine awp_reg2_seq [] [0, 3, 4] (by decide) ?_
      intro K1 hK1
      refine ⟨trivial, trivial, trivial, ⟨(by omega), (by omega)⟩, rfl, trivial, trivial, ?_⟩
      show K1 [(0, .str s), (3, .int .u64 (IntKind.u64.wrap (BitVec.ofInt IntKind.u64.bits h ^^^ BitVec.ofInt IntKind.u64.bits (IntKind.u64.wrap ((gI s i).toNat))).toNat)), (4, .int .i64 i)] m
      refine hK1 _ _ ?_; clear hK1 K1
      refine awp_reg2 [] [0, 3, 4] (by decide) ?_
      intro K1 hK1
      refine ⟨trivial, trivial, trivial, ?_⟩
      show K1 [(0, .str s), (3, .int .u64 (IntKind.u64.wrap ((IntKind.u64.wrap (BitVec.ofInt IntKind.u64.bits h ^^^ BitVec.ofInt IntKind.u64.bits (IntKind.u64.wrap ((gI s i).toNat))).toNat) * 1099511628211))), (4, .int .i64 i)] m
      refine hK1 _ _ ?_; clear hK1 K1
      refine hK4 _ _ ?_; clear hK4
      refine awp_reg2 [] [0, 3, 4] (by decide) ?_
      intro K1 hK1
      refine ⟨trivial, ?_⟩
      refine ar_add rfl (a := i) (b := 1) rfl rfl (by omega) (by omega) ?_
      refine ⟨trivial, ?_⟩
      show K1 [(0, .str s), (3, .int .u64 (IntKind.u64.wrap ((IntKind.u64.wrap (BitVec.ofInt IntKind.u64.bits h ^^^ BitVec.ofInt IntKind.u64.bits (IntKind.u64.wrap ((gI s i).toNat))).toNat) * 1099511628211))), (4, .int .i64 (i + 1))] m
      refine hK1 _ _ ?_; clear hK1 K1
      refine ⟨(IntKind.u64.wrap ((IntKind.u64.wrap (BitVec.ofInt IntKind.u64.bits h ^^^ BitVec.ofInt IntKind.u64.bits (IntKind.u64.wrap ((gI s i).toNat))).toNat) * 1099511628211), i + 1), rfl, rfl, ?_, ?_⟩
      · show 0 ≤ ((i + 1 : Int)) ∧ ((i + 1 : Int)) ≤ s.length ∧ ((IntKind.u64.wrap ((IntKind.u64.wrap (BitVec.ofInt IntKind.u64.bits h ^^^ BitVec.ofInt IntKind.u64.bits (IntKind.u64.wrap ((gI s i).toNat))).toNat) * 1099511628211) : Int)) = (s.take ((i + 1 : Int)).toNat).foldl fnv 14695981039346656037
        exact ⟨by omega, by omega, by rw [sum_step hI.1 h1, ← hI.2.2]; rfl⟩
      · show s.length - ((i + 1 : Int)).toNat < s.length - i.toNat
        omega
    · replace h1 : (s.length : Int) ≤ i := (Int.not_lt.1 (of_decide_eq_false h1))
      refine awp_exit ?_
      refine hK2 _ _ ?_; clear hK2
      refine awp_reg2_seq [] [2] (by decide) ?_
      intro K1 hK1
      refine ⟨trivial, trivial, ?_⟩
      show K1 [(2, .int .u64 h)] m
      refine hK1 _ _ ?_; clear hK1 K1
      refine awp_ret ?_
      refine ⟨trivial, m, fun _ _ h => h, ?_⟩
      show K (.int .u64 h) m
     
      have e : h = sumI s := by rw [hI.2.2, take_full h1]; rfl
      subst e; exact hK


def u8n (n : Nat) : UInt8 := UInt8.ofNat n
theorem u8w_nat (k : Nat) : u8w (k : Int) = u8n k := by
  have h := u8w_toNat (k : Int)
  have h2 : IntKind.u8.wrap (k : Int) = ((k % 256 : Nat) : Int) := by
    simp [IntKind.wrap, IntKind.signed, IntKind.bits]
  rw [h2] at h
  apply UInt8.toNat_inj.1
  show _ = (UInt8.ofNat k).toNat
  rw [UInt8.toNat_ofNat']
  omega
def framedL (s : List UInt8) : List UInt8 := [u8n s.length, u8n (s.length / 256), u8n (sumI s).toNat, u8n ((sumI s).toNat / 256), u8n ((sumI s).toNat / 65536), u8n ((sumI s).toNat / 16777216)] ++ s
theorem framedL_len (s : List UInt8) : (framedL s).length = s.length + 6 := by simp [framedL]
theorem fdiv_nat (k : Nat) (a : Int) (h : a = k) : Int.fdiv a 256 = ((k / 256 : Nat) : Int) ∧ Int.fdiv a 65536 = ((k / 65536 : Nat) : Int) ∧ Int.fdiv a 16777216 = ((k / 16777216 : Nat) : Int) := by
  subst h
  rw [Int.fdiv_eq_ediv_of_nonneg _ (by omega), Int.fdiv_eq_ediv_of_nonneg _ (by omega), Int.fdiv_eq_ediv_of_nonneg _ (by omega)]
  omega

set_option maxHeartbeats 2000000 in
theorem u_frame (s : List UInt8) (hs : s.length ≤ 16777216) (m : AMem)  (K : AV → AMem → Prop) (hK : K (.str (framedL s)) m) : ACalls Try.prog 72 [.str s] m K := by
  have hr := sumI_range s
  have hq := fdiv_nat (sumI s).toNat (sumI s) (by omega)
  have hq2 := fdiv_nat s.length s.length rfl
  refine acalls_enter Try.func72 rfl (by decide) (Nat.le_of_ble_eq_true rfl) ?_
  show AWP _ _ _ _ [(0, .str s)] m
  refine awp_reg2_seq [] [0] (by decide) ?_
  intro K1 hK1
  refine ⟨trivial, ?_⟩
  show K1 [(0, .str s)] m
  refine hK1 _ _ ?_; clear hK1 K1
  refine awp_reg2_seq [] [0, 3] (by decide) ?_
  intro K1 hK1
  refine ⟨trivial, ?_⟩
  refine u_Sum s (by omega) _ _ ?_
  refine ⟨trivial, ?_⟩
  show K1 [(0, .str s), (3, .int .u64 (sumI s))] m
  refine hK1 _ _ ?_; clear hK1 K1
  refine awp_reg2_seq [] [2] (by decide) ?_
  intro K1 hK1
  refine ⟨trivial, trivial, ?_⟩
  refine ar_toU8 rfl (a := (s.length : Int)) rfl rfl rfl ?_
  refine ⟨trivial, trivial, (by refine ⟨by decide, ?_, ?_⟩ <;> first | (show (-9223372036854775808 : Int) ≤ Int.fdiv _ 256; omega) | (show Int.fdiv _ 256 ≤ (9223372036854775807 : Int); omega) | (show (0 : Int) ≤ Int.fdiv _ 256; omega) | (show Int.fdiv _ 256 ≤ (18446744073709551615 : Int); omega) | (show (0 : Int) ≤ Int.fdiv _ 65536; omega) | (show Int.fdiv _ 65536 ≤ (18446744073709551615 : Int); omega) | (show (0 : Int) ≤ Int.fdiv _ 16777216; omega) | (show Int.fdiv _ 16777216 ≤ (18446744073709551615 : Int); omega)), ?_⟩
  refine ar_toU8 rfl (a := (Int.fdiv (s.length : Int) (2 ^ (min (Int.toNat 8) IntKind.i64.bits)))) rfl rfl rfl ?_
  refine ⟨trivial, ?_⟩
  refine ar_toU8 rfl (a := (sumI s)) rfl rfl rfl ?_
  refine ⟨trivial, (by refine ⟨by decide, ?_, ?_⟩ <;> first | (show (-9223372036854775808 : Int) ≤ Int.fdiv _ 256; omega) | (show Int.fdiv _ 256 ≤ (9223372036854775807 : Int); omega) | (show (0 : Int) ≤ Int.fdiv _ 256; omega) | (show Int.fdiv _ 256 ≤ (18446744073709551615 : Int); omega) | (show (0 : Int) ≤ Int.fdiv _ 65536; omega) | (show Int.fdiv _ 65536 ≤ (18446744073709551615 : Int); omega) | (show (0 : Int) ≤ Int.fdiv _ 16777216; omega) | (show Int.fdiv _ 16777216 ≤ (18446744073709551615 : Int); omega)), ?_⟩
  refine ar_toU8 rfl (a := (Int.fdiv (sumI s) (2 ^ (min (Int.toNat 8) IntKind.u64.bits)))) rfl rfl rfl ?_
  refine ⟨trivial, (by refine ⟨by decide, ?_, ?_⟩ <;> first | (show (-9223372036854775808 : Int) ≤ Int.fdiv _ 256; omega) | (show Int.fdiv _ 256 ≤ (9223372036854775807 : Int); omega) | (show (0 : Int) ≤ Int.fdiv _ 256; omega) | (show Int.fdiv _ 256 ≤ (18446744073709551615 : Int); omega) | (show (0 : Int) ≤ Int.fdiv _ 65536; omega) | (show Int.fdiv _ 65536 ≤ (18446744073709551615 : Int); omega) | (show (0 : Int) ≤ Int.fdiv _ 16777216; omega) | (show Int.fdiv _ 16777216 ≤ (18446744073709551615 : Int); omega)), ?_⟩
  refine ar_toU8 rfl (a := (Int.fdiv (sumI s) (2 ^ (min (Int.toNat 16) IntKind.u64.bits)))) rfl rfl rfl ?_
  refine ⟨trivial, (by refine ⟨by decide, ?_, ?_⟩ <;> first | (show (-9223372036854775808 : Int) ≤ Int.fdiv _ 256; omega) | (show Int.fdiv _ 256 ≤ (9223372036854775807 : Int); omega) | (show (0 : Int) ≤ Int.fdiv _ 256; omega) | (show Int.fdiv _ 256 ≤ (18446744073709551615 : Int); omega) | (show (0 : Int) ≤ Int.fdiv _ 65536; omega) | (show Int.fdiv _ 65536 ≤ (18446744073709551615 : Int); omega) | (show (0 : Int) ≤ Int.fdiv _ 16777216; omega) | (show Int.fdiv _ 16777216 ≤ (18446744073709551615 : Int); omega)), ?_⟩
  refine ar_toU8 rfl (a := (Int.fdiv (sumI s) (2 ^ (min (Int.toNat 24) IntKind.u64.bits)))) rfl rfl rfl ?_
  refine ⟨⟨rfl, Nat.le_of_ble_eq_true rfl, rfl, Nat.le_of_ble_eq_true rfl, rfl, by simp only [List.forall_mem_cons]; exact ⟨⟨rfl, rfl⟩, ⟨rfl, rfl⟩, ⟨rfl, rfl⟩, ⟨rfl, rfl⟩, ⟨rfl, rfl⟩, ⟨rfl, rfl⟩, fun _ h => by cases h⟩⟩, ?_⟩
  refine ar_toStr rfl ([(u8w (s.length : Int)), (u8w (Int.fdiv (s.length : Int) (2 ^ (min (Int.toNat 8) IntKind.i64.bits)))), (u8w (sumI s)), (u8w (Int.fdiv (sumI s) (2 ^ (min (Int.toNat 8) IntKind.u64.bits)))), (u8w (Int.fdiv (sumI s) (2 ^ (min (Int.toNat 16) IntKind.u64.bits)))), (u8w (Int.fdiv (sumI s) (2 ^ (min (Int.toNat 24) IntKind.u64.bits))))] : List UInt8) rfl rfl rfl rfl rfl ?_
  refine ⟨trivial, (by first | omega | (simp only [List.length_append, List.length_cons, List.length_nil]; omega)), trivial, ?_⟩
  show K1 [(2, .str (([(u8w (s.length : Int)), (u8w (Int.fdiv (s.length : Int) (2 ^ (min (Int.toNat 8) IntKind.i64.bits)))), (u8w (sumI s)), (u8w (Int.fdiv (sumI s) (2 ^ (min (Int.toNat 8) IntKind.u64.bits)))), (u8w (Int.fdiv (sumI s) (2 ^ (min (Int.toNat 16) IntKind.u64.bits)))), (u8w (Int.fdiv (sumI s) (2 ^ (min (Int.toNat 24) IntKind.u64.bits))))] : List UInt8) ++ s))] m
  refine hK1 _ _ ?_; clear hK1 K1
  refine awp_ret ?_
  refine ⟨trivial, m, fun _ _ h => h, ?_⟩
  show K (.str (([(u8w (s.length : Int)), (u8w (Int.fdiv (s.length : Int) (2 ^ (min (Int.toNat 8) IntKind.i64.bits)))), (u8w (sumI s)), (u8w (Int.fdiv (sumI s) (2 ^ (min (Int.toNat 8) IntKind.u64.bits)))), (u8w (Int.fdiv (sumI s) (2 ^ (min (Int.toNat 16) IntKind.u64.bits)))), (u8w (Int.fdiv (sumI s) (2 ^ (min (Int.toNat 24) IntKind.u64.bits))))] : List UInt8) ++ s)) m
 
  refine K_eq hK (congrArg AV.str ?_)
  show _ = [u8w (s.length : Int), u8w (Int.fdiv (s.length : Int) 256), u8w (sumI s), u8w (Int.fdiv (sumI s) 256), u8w (Int.fdiv (sumI s) 65536), u8w (Int.fdiv (sumI s) 16777216)] ++ s
  have e : u8w (sumI s) = u8n (sumI s).toNat := by rw [← u8w_nat]; congr 1; omega
  rw [hq.1, hq.2.1, hq.2.2, hq2.1, u8w_nat, u8w_nat, u8w_nat, u8w_nat, u8w_nat, e]; rfl


def digs (x : Int) : List UInt8 := [u8n x.toNat, u8n (x.toNat / 256), u8n (x.toNat / 65536), u8n (x.toNat / 16777216)]
theorem tm_nat (a : Int) (h : 0 ≤ a) : Int.tmod a 256 = a % 256 ∧ Int.tdiv a 256 = a / 256 := ⟨Int.tmod_eq_emod_of_nonneg h, Int.tdiv_eq_ediv_of_nonneg h⟩
theorem wrapu64 (n : Int) (h1 : 0 ≤ n) (h2 : n ≤ 18446744073709551615) : IntKind.u64.wrap n = n :=
  wrap_of_range .u64 n (by simp [IntKind.min, IntKind.signed, IntKind.bits]; omega) (by simp [IntKind.max, IntKind.signed, IntKind.bits]; omega)
theorem digs_take {x : Int} {i : Int} (h0 : 0 ≤ i) (h4 : i < 4) : (digs x).take (i + 1).toNat = (digs x).take i.toNat ++ [u8n (x.toNat / 256 ^ i.toNat)] := by
  rw [take_succ_gI h0 (by simp [digs]; omega)]
  congr 2
  obtain rfl | rfl | rfl | rfl : i = 0 ∨ i = 1 ∨ i = 2 ∨ i = 3 := by omega
  · simp [digs, gI]
  · rfl
  · rfl
  · rfl

set_option maxHeartbeats 2000000 in
theorem u_Framed (s : List UInt8) (hs : s.length ≤ 16777216) (m : AMem)  (K : AV → AMem → Prop) (hK : K (.str (framedL s)) m) : ACalls Try.prog 17 [.str s] m K := by
  have hr := sumI_range s
  have ht := tm_nat s.length (by omega)
  have hw0 := wrap64 ((s.length : Int) / 256) (by omega) (by omega)
  refine acalls_enter Try.func17 rfl (by decide) (Nat.le_of_ble_eq_true rfl) ?_
  show AWP _ _ _ _ [(0, .str s)] m
  refine awp_reg2_seq [] [0] (by decide) ?_
  intro K1 hK1
  refine ⟨trivial, ?_⟩
  show K1 [(0, .str s)] m
  refine hK1 _ _ ?_; clear hK1 K1
  refine awp_reg2_seq [] [0, 3] (by decide) ?_
  intro K1 hK1
  refine ⟨trivial, trivial, trivial, ?_⟩
  show K1 [(0, .str s), (3, .int .i64 (s.length : Int))] m
  refine hK1 _ _ ?_; clear hK1 K1
  refine awp_reg2_seq [] [0, 3, 4] (by decide) ?_
  intro K1 hK1
  refine ⟨trivial, ?_⟩
  refine u_refSum s (by omega) _ _ ?_
  refine ⟨trivial, ?_⟩
  show K1 [(0, .str s), (3, .int .i64 (s.length : Int)), (4, .int .u64 (sumI s))] m
  refine hK1 _ _ ?_; clear hK1 K1
  refine awp_reg2_seq [] [0, 4, 5] (by decide) ?_
  intro K1 hK1
  refine ⟨trivial, (by refine ⟨by decide, ?_, ?_⟩ <;> first | (show (-9223372036854775808 : Int) ≤ _; omega) | (show _ ≤ (9223372036854775807 : Int); omega) | (show (0 : Int) ≤ _; omega) | (show _ ≤ (18446744073709551615 : Int); omega)), ?_⟩
  refine ar_toU8 rfl (a := (Int.tmod (s.length : Int) 256)) rfl rfl rfl ?_
  refine ⟨trivial, (by omega), ?_⟩
  refine ar_toU8 rfl (a := (IntKind.i64.wrap (Int.tdiv (s.length : Int) 256))) rfl rfl rfl ?_
  refine ⟨⟨rfl, Nat.le_of_ble_eq_true rfl, rfl, Nat.le_of_ble_eq_true rfl, rfl, by simp only [List.forall_mem_cons]; exact ⟨⟨rfl, rfl⟩, ⟨rfl, rfl⟩, fun _ h => by cases h⟩⟩, trivial, ?_⟩
  show K1 [(0, .str s), (4, .int .u64 (sumI s)), (5, .slice true [.int .u8 (((u8w (Int.tmod (s.length : Int) 256))).toNat), .int .u8 (((u8w (IntKind.i64.wrap (Int.tdiv (s.length : Int) 256)))).toNat)])] m
  refine hK1 _ _ ?_; clear hK1 K1
  refine awp_seq_k ?_; intro K2 hK2
  refine awp_reg2_seq [] [0, 4, 5, 6] (by decide) ?_
  intro K1 hK1
  refine ⟨trivial, ?_⟩
  show K1 [(0, .str s), (4, .int .u64 (sumI s)), (5, .slice true [.int .u8 (((u8w (Int.tmod (s.length : Int) 256))).toNat), .int .u8 (((u8w (IntKind.i64.wrap (Int.tdiv (s.length : Int) 256)))).toNat)]), (6, .int .i64 0)] m
  refine hK1 _ _ ?_; clear hK1 K1
  refine awp_block ?_
  refine awp_keep [0, 4, 5, 6] (by decide) ?_
  refine awp_loop_st (σ := Int × (List UInt8) × Int) (fun ⟨x, b, i⟩ => [(0, .str s), (4, .int .u64 x), (5, .slice true (b.map byteAV)), (6, .int .i64 i)]) (fun _ => m) (fun ⟨x, b, i⟩ => 0 ≤ i ∧ i ≤ 4 ∧ 0 ≤ x ∧ x ≤ 18446744073709551615 ∧ x = (((sumI s).toNat / 256 ^ i.toNat : Nat) : Int) ∧ b = [u8n s.length, u8n (s.length / 256)] ++ (digs (sumI s)).take i.toNat) (fun ⟨x, b, i⟩ => 4 - i.toNat) ((sumI s), [(u8w (Int.tmod (s.length : Int) 256)), (u8w (IntKind.i64.wrap (Int.tdiv (s.length : Int) 256)))], 0) rfl rfl ?_ ?_
  · show 0 ≤ ((0 : Int)) ∧ ((0 : Int)) ≤ 4 ∧ 0 ≤ (((sumI s) : Int)) ∧ (((sumI s) : Int)) ≤ 18446744073709551615 ∧ (((sumI s) : Int)) = (((sumI s).toNat / 256 ^ ((0 : Int)).toNat : Nat) : Int) ∧ (([(u8w (Int.tmod (s.length : Int) 256)), (u8w (IntKind.i64.wrap (Int.tdiv (s.length : Int) 256)))] : (List UInt8))) = [u8n s.length, u8n (s.length / 256)] ++ (digs (sumI s)).take ((0 : Int)).toNat
    refine ⟨by omega, by omega, hr.1, hr.2, by simp; omega, ?_⟩
    have e1 : (s.length : Int) % 256 = ((s.length % 256 : Nat) : Int) := by omega
    have e2 : (s.length : Int) / 256 = ((s.length / 256 : Nat) : Int) := by omega
    have e3 : u8n (s.length % 256) = u8n s.length := by apply UInt8.toNat_inj.1; simp [u8n]
    rw [ht.1, ht.2, hw0, e1, e2, u8w_nat, u8w_nat, e3]; rfl
  · rintro ⟨x, b, i⟩ hI
    replace hI : 0 ≤ i ∧ i ≤ 4 ∧ 0 ≤ x ∧ x ≤ 18446744073709551615 ∧ x = (((sumI s).toNat / 256 ^ i.toNat : Nat) : Int) ∧ b = [u8n s.length, u8n (s.length / 256)] ++ (digs (sumI s)).take i.toNat := hI
    have hx := tm_nat x hI.2.2.1
    have hx0 := hI.2.2.1
    have hx1 := hI.2.2.2.1
    have hwx := wrapu64 (x / 256) (by omega) (by omega)
    have hbl : b.length ≤ 6 := by rw [hI.2.2.2.2.2]; simp [digs]; omega
    show AWP _ _ _ _ [(0, .str s), (4, .int .u64 x), (5, .slice true (b.map byteAV)), (6, .int .i64 i)] m
    refine awp_seq_k ?_; intro K3 hK3
    refine awp_reg2_seq [] [0, 4, 5, 6, 19] (by decide) ?_
    intro K1 hK1
    refine ⟨trivial, trivial, ?_⟩
    show K1 [(0, .str s), (4, .int .u64 x), (5, .slice true (b.map byteAV)), (6, .int .i64 i), (19, .bool (decide (i < 4)))] m
    refine hK1 _ _ ?_; clear hK1 K1
    refine awp_cond rfl rfl (fun h1 => ?_) (fun h1 => ?_)
    · replace h1 : i < 4 := (of_decide_eq_true h1)
      refine awp_skip ?_
      refine hK3 _ _ ?_; clear hK3
      refine awp_seq_k ?_; intro K4 hK4
      refine awp_block ?_
      refine awp_reg2_seq [22] [0, 4, 5, 6] (by decide) ?_
      intro K1 hK1
      refine ⟨trivial, trivial, (by refine ⟨by decide, ?_, ?_⟩ <;> first | (show (-9223372036854775808 : Int) ≤ _; omega) | (show _ ≤ (9223372036854775807 : Int); omega) | (show (0 : Int) ≤ _; omega) | (show _ ≤ (18446744073709551615 : Int); omega)), ?_⟩
      refine ar_toU8 rfl (a := (Int.tmod x 256)) rfl rfl rfl ?_
      refine ⟨⟨rfl, Nat.le_of_ble_eq_true rfl, rfl, Nat.le_of_ble_eq_true rfl, rfl, by simp only [List.forall_mem_cons]; exact ⟨⟨rfl, rfl⟩, fun _ h => by cases h⟩⟩, ?_⟩
      refine ar_append rfl byteAV b ([(u8w (Int.tmod x 256))] : List UInt8) rfl rfl rfl rfl rfl rfl (Nat.le_of_ble_eq_true rfl) rfl (by (simp only [show Try.prog.bytesOf 5 = 1 from rfl, List.length_append, List.length_cons, List.length_nil]; omega)) (by (first | omega | (simp only [List.length_append, List.length_cons, List.length_nil]; omega))) (fun _ => ⟨rfl, rfl⟩) ?_
      refine ⟨trivial, ?_⟩
      show K1 [(0, .str s), (4, .int .u64 x), (5, .slice true ((b ++ ([(u8w (Int.tmod x 256))] : List UInt8)).map byteAV)), (6, .int .i64 i)] m
      refine hK1 _ _ ?_; clear hK1 K1
      refine awp_reg2 [] [0, 4, 5, 6] (by decide) ?_
      intro K1 hK1
      refine ⟨trivial, (by omega), trivial, ?_⟩
      show K1 [(0, .str s), (4, .int .u64 (IntKind.u64.wrap (Int.tdiv x 256))), (5, .slice true ((b ++ ([(u8w (Int.tmod x 256))] : List UInt8)).map byteAV)), (6, .int .i64 i)] m
      refine hK1 _ _ ?_; clear hK1 K1
      refine hK4 _ _ ?_; clear hK4
      refine awp_reg2 [] [0, 4, 5, 6] (by decide) ?_
      intro K1 hK1
      refine ⟨trivial, ?_⟩
      refine ar_add rfl (a := i) (b := 1) rfl rfl (by omega) (by omega) ?_
      refine ⟨trivial, ?_⟩
      show K1 [(0, .str s), (4, .int .u64 (IntKind.u64.wrap (Int.tdiv x 256))), (5, .slice true ((b ++ ([(u8w (Int.tmod x 256))] : List UInt8)).map byteAV)), (6, .int .i64 (i + 1))] m
      refine hK1 _ _ ?_; clear hK1 K1
      refine ⟨(IntKind.u64.wrap (Int.tdiv x 256), b ++ ([(u8w (Int.tmod x 256))] : List UInt8), i + 1), rfl, rfl, ?_, ?_⟩
      · show 0 ≤ ((i + 1 : Int)) ∧ ((i + 1 : Int)) ≤ 4 ∧ 0 ≤ ((IntKind.u64.wrap (Int.tdiv x 256) : Int)) ∧ ((IntKind.u64.wrap (Int.tdiv x 256) : Int)) ≤ 18446744073709551615 ∧ ((IntKind.u64.wrap (Int.tdiv x 256) : Int)) = (((sumI s).toNat / 256 ^ ((i + 1 : Int)).toNat : Nat) : Int) ∧ ((b ++ ([(u8w (Int.tmod x 256))] : List UInt8) : (List UInt8))) = [u8n s.length, u8n (s.length / 256)] ++ (digs (sumI s)).take ((i + 1 : Int)).toNat
        have e1 : x % 256 = ((x.toNat % 256 : Nat) : Int) := by omega
        have e3 : u8n (x.toNat % 256) = u8n x.toNat := by apply UInt8.toNat_inj.1; simp [u8n]
        have e4 : (i + 1).toNat = i.toNat + 1 := by omega
        refine ⟨by omega, by omega, by rw [hx.2, hwx]; omega, by rw [hx.2, hwx]; omega, ?_, ?_⟩
        · rw [hx.2, hwx, hI.2.2.2.2.1, e4, Nat.pow_succ, ← Nat.div_div_eq_div_mul]; omega
        · have e5 : x.toNat = (sumI s).toNat / 256 ^ i.toNat := by rw [hI.2.2.2.2.1]; exact Int.toNat_natCast _
          rw [digs_take hI.1 h1, hI.2.2.2.2.2, hx.1, e1, u8w_nat, e3, e5]; simp
      · show 4 - ((i + 1 : Int)).toNat < 4 - i.toNat
        omega
    · replace h1 : 4 ≤ i := (Int.not_lt.1 (of_decide_eq_false h1))
      refine awp_exit ?_
      refine hK2 _ _ ?_; clear hK2
      refine awp_reg2_seq [] [2] (by decide) ?_
      intro K1 hK1
      refine ⟨trivial, ?_⟩
      refine ar_toStr rfl b rfl rfl rfl rfl rfl ?_
      refine ⟨trivial, (by first | omega | (simp only [List.length_append, List.length_cons, List.length_nil]; omega)), trivial, ?_⟩
      show K1 [(2, .str (b ++ s))] m
      refine hK1 _ _ ?_; clear hK1 K1
      refine awp_ret ?_
      refine ⟨trivial, m, fun _ _ h => h, ?_⟩
      show K (.str (b ++ s)) m
     
      refine K_eq hK (congrArg AV.str ?_)
      have e : i = 4 := by omega
      rw [hI.2.2.2.2.2, e]; rfl


def lenAt (s : List UInt8) (a : Int) : Int := ((gI s a).toNat : Int) + 256 * ((gI s (a + 1)).toNat : Int)
theorem sub_len (s : List UInt8) (a b : Int) (h0 : 0 ≤ a) (h1 : a ≤ b) (h2 : b ≤ s.length) : ((sub s a b).length : Int) = b - a := by
  unfold sub; rw [List.length_take, List.length_drop]; omega
def splitF : Nat → List UInt8 → Int → List (List UInt8) → List (List UInt8) × Int
  | 0, _, a, l => (l, a)
  | n + 1, s, a, l =>
    if s.length - a < 6 then (l, a)
    else if 400 < lenAt s a ∨ s.length - a - 6 < lenAt s a then (l, a)
    else if framedL (sub s (a + 6) (a + 6 + lenAt s a)) ≠ sub s a (a + 6 + lenAt s a) then (l, a)
    else splitF n s (a + 6 + lenAt s a) (l ++ [sub s (a + 6) (a + 6 + lenAt s a)])
def splitR (s : List UInt8) : List (List UInt8) × Int := splitF (s.length + 1) s 0 []
theorem or_len (a b : UInt8) : IntKind.i64.wrap ((BitVec.ofInt IntKind.i64.bits (a.toNat : Int) ||| BitVec.ofInt IntKind.i64.bits (IntKind.i64.wrap ((b.toNat : Int) * 2 ^ (min (Int.toNat 8) IntKind.i64.bits)))).toNat) = (a.toNat : Int) + 256 * (b.toNat : Int) := by
  have ha := a.toNat_lt
  have hb := b.toNat_lt
  have e1 : IntKind.i64.wrap ((b.toNat : Int) * 2 ^ (min (Int.toNat 8) IntKind.i64.bits)) = (b.toNat : Int) * 256 := wrap64 _ (by show (-9223372036854775808 : Int) ≤ (b.toNat : Int) * 256; omega) (by show (b.toNat : Int) * 256 ≤ 9223372036854775807; omega)
  rw [e1]
  have e2 : (BitVec.ofInt IntKind.i64.bits (a.toNat : Int) ||| BitVec.ofInt IntKind.i64.bits ((b.toNat : Int) * 256)).toNat = a.toNat + 256 * b.toNat := by
    rw [BitVec.toNat_or]
    have x1 : (BitVec.ofInt IntKind.i64.bits (a.toNat : Int)).toNat = a.toNat := by
      rw [show IntKind.i64.bits = 64 from rfl, BitVec.toNat_ofInt]; omega
    have x2 : (BitVec.ofInt IntKind.i64.bits ((b.toNat : Int) * 256)).toNat = b.toNat * 256 := by
      rw [show IntKind.i64.bits = 64 from rfl, BitVec.toNat_ofInt]; omega
    rw [x1, x2]
    have h := Nat.shiftLeft_add_eq_or_of_lt (b := a.toNat) (i := 8) (by omega) b.toNat
    rw [Nat.shiftLeft_eq] at h
    rw [Nat.or_comm]
    have e8 : (2 : Nat) ^ 8 = 256 := rfl
    rw [e8] at h
    omega
  rw [e2]
  exact (wrap64 _ (by omega) (by omega)).trans (by omega)

set_option maxHeartbeats 4000000 in
theorem u_split (s : List UInt8) (hs : s.length ≤ 16777216) (m : AMem)  (K : AV → AMem → Prop) (hK : K (.tuple [.slice true ((splitR s).1.map strAV), .int .i64 (splitR s).2]) m) : ACalls Try.prog 70 [.str s] m K := by
  refine acalls_enter Try.func70 rfl (by decide) (Nat.le_of_ble_eq_true rfl) ?_
  show AWP _ _ _ _ [(0, .str s)] m
  refine awp_reg2_seq [] [0] (by decide) ?_
  intro K1 hK1
  refine ⟨trivial, trivial, ?_⟩
  show K1 [(0, .str s)] m
  refine hK1 _ _ ?_; clear hK1 K1
  refine awp_reg2_seq [] [0, 4] (by decide) ?_
  intro K1 hK1
  refine ⟨trivial, ?_⟩
  show K1 [(0, .str s), (4, .slice true [])] m
  refine hK1 _ _ ?_; clear hK1 K1
  refine awp_reg2_seq [] [0, 4, 5] (by decide) ?_
  intro K1 hK1
  refine ⟨trivial, ?_⟩
  show K1 [(0, .str s), (4, .slice true []), (5, .int .i64 0)] m
  refine hK1 _ _ ?_; clear hK1 K1
  refine awp_seq_k ?_; intro K2 hK2
  refine awp_block ?_
  refine awp_keep [0, 4, 5] (by decide) ?_
  refine awp_loop_st (σ := (List (List UInt8)) × Int) (fun ⟨l, at_⟩ => [(0, .str s), (4, .slice true (l.map strAV)), (5, .int .i64 at_)]) (fun _ => m) (fun ⟨l, at_⟩ => 0 ≤ at_ ∧ at_ ≤ s.length ∧ l.length ≤ at_ ∧ ∃ f : Nat, s.length - at_ < f ∧ splitR s = splitF f s at_ l) (fun ⟨l, at_⟩ => s.length - at_.toNat) ([], 0) rfl rfl ?_ ?_
  · show 0 ≤ ((0 : Int)) ∧ ((0 : Int)) ≤ s.length ∧ (([] : (List (List UInt8)))).length ≤ ((0 : Int)) ∧ ∃ f : Nat, s.length - ((0 : Int)) < f ∧ splitR s = splitF f s ((0 : Int)) (([] : (List (List UInt8))))
    exact ⟨by omega, by omega, by simp, s.length + 1, by omega, rfl⟩
  · rintro ⟨l, at_⟩ hI
    replace hI : 0 ≤ at_ ∧ at_ ≤ s.length ∧ l.length ≤ at_ ∧ ∃ f : Nat, s.length - at_ < f ∧ splitR s = splitF f s at_ l := hI
    obtain ⟨f, hf, hw⟩ := hI.2.2.2
    show AWP _ _ _ _ [(0, .str s), (4, .slice true (l.map strAV)), (5, .int .i64 at_)] m
    refine awp_seq_k ?_; intro K3 hK3
    refine awp_reg2_seq [] [0, 4, 5, 12] (by decide) ?_
    intro K1 hK1
    refine ⟨trivial, trivial, trivial, ?_⟩
    refine ar_sub rfl (a := (s.length : Int)) (b := at_) rfl rfl (by omega) (by omega) ?_
    refine ⟨trivial, ?_⟩
    show K1 [(0, .str s), (4, .slice true (l.map strAV)), (5, .int .i64 at_), (12, .bool (decide (6 ≤ (s.length : Int) - at_)))] m
    refine hK1 _ _ ?_; clear hK1 K1
    refine awp_cond rfl rfl (fun h1 => ?_) (fun h1 => ?_)
    · replace h1 : 6 ≤ (s.length : Int) - at_ := (of_decide_eq_true h1)
      obtain ⟨f, rfl⟩ : ∃ k, f = k + 1 := ⟨f - 1, by omega⟩
      have hb1 := (gI s at_).toNat_lt
      have hb2 := (gI s (at_ + 1)).toNat_lt
      have hor := or_len (gI s at_) (gI s (at_ + 1))
      have hL : lenAt s at_ = ((gI s at_).toNat : Int) + 256 * ((gI s (at_ + 1)).toNat : Int) := rfl
      refine awp_skip ?_
      refine hK3 _ _ ?_; clear hK3
      refine awp_block ?_
      refine awp_draw_seq Try.mixed [] [0, 4, 5, 6] (by decide) (by decide) ?_
      intro K1 hK1
      refine ⟨trivial, trivial, ⟨(by omega), (by omega)⟩, ?_⟩
      refine pq_toInt rfl (a := ((gI s at_).toNat)) rfl rfl rfl (by omega) (by omega) ?_
      refine ⟨trivial, trivial, ?_⟩
      refine pq_add rfl (a := at_) (b := 1) rfl rfl (by omega) (by omega) ?_
      refine ⟨⟨(by omega), (by omega)⟩, ?_⟩
      refine pq_toInt rfl (a := ((gI s (at_ + 1)).toNat)) rfl rfl rfl (by omega) (by omega) ?_
      refine ⟨(by decide), trivial, trivial, ?_⟩
      show K1 [(0, .str s), (4, .slice true (l.map strAV)), (5, .int .i64 at_), (6, .int .i64 (IntKind.i64.wrap (BitVec.ofInt IntKind.i64.bits ((gI s at_).toNat) ||| BitVec.ofInt IntKind.i64.bits (IntKind.i64.wrap (((gI s (at_ + 1)).toNat) * 2 ^ (min (Int.toNat 8) IntKind.i64.bits)))).toNat))] m
      refine hK1 _ _ ?_; clear hK1 K1
      rw [or_len]
      show AWP _ _ _ _ [(0, .str s), (4, .slice true (l.map strAV)), (5, .int .i64 at_), (6, .int .i64 (lenAt s at_))] m
      refine awp_seq_k ?_; intro K4 hK4
      refine awp_reg2_seq [] [0, 4, 5, 6, 34] (by decide) ?_
      intro K1 hK1
      suffices key : K1 [(0, .str s), (4, .slice true (l.map strAV)), (5, .int .i64 at_), (6, .int .i64 (lenAt s at_)), (34, .bool ((decide (400 < (lenAt s at_))) || (decide (((s.length : Int) - at_) - 6 < (lenAt s at_)))))] m by
        refine ⟨trivial, trivial, trivial, ?_⟩
        show aopsR _ _ _ _ _ [(26, .bool (decide (400 < (lenAt s at_)))), (25, .bool (decide (400 < (lenAt s at_)))), (24, .int .i64 (lenAt s at_)), (0, .str s), (4, .slice true (l.map strAV)), (5, .int .i64 at_), (6, .int .i64 (lenAt s at_))] _
        revert key
        cases h2 : (decide (400 < (lenAt s at_)))
        · replace h2 : (lenAt s at_) ≤ 400 := (Int.not_lt.1 (of_decide_eq_false h2))
          intro key
          refine ⟨trivial, trivial, trivial, ?_⟩
          refine ar_sub rfl (a := (s.length : Int)) (b := at_) rfl rfl (by omega) (by omega) ?_
          refine ar_sub rfl (a := (s.length : Int) - at_) (b := 6) rfl rfl (by omega) (by omega) ?_
          refine ⟨trivial, trivial, ?_⟩
          exact key
        · replace h2 : 400 < (lenAt s at_) := (of_decide_eq_true h2)
          intro key
          refine ar_off rfl (ar_off rfl (ar_off rfl (ar_off rfl (ar_off rfl (ar_off rfl (ar_off rfl ?_))))))
          exact key
      refine hK1 _ _ ?_; clear hK1 K1
      refine awp_cond rfl rfl (fun h3 => ?_) (fun h3 => ?_)
      · replace h3 : (400 < (lenAt s at_)) ∨ (((s.length : Int) - at_) - 6 < (lenAt s at_)) := ((borT h3).imp (fun q => (of_decide_eq_true q)) (fun q => (of_decide_eq_true q)))
        refine awp_exit ?_
        refine hK2 _ _ ?_; clear hK2
        refine awp_reg2_seq [61] [2, 3] (by decide) ?_
        intro K1 hK1
        refine ⟨trivial, trivial, trivial, trivial, ?_⟩
        show K1 [(2, .slice true (l.map strAV)), (3, .int .i64 at_)] m
        refine hK1 _ _ ?_; clear hK1 K1
        refine awp_ret ?_
        refine ⟨trivial, trivial, m, fun _ _ h => h, ?_⟩
        show K (.tuple [.slice true (l.map strAV), .int .i64 at_]) m
       
        have e : splitR s = (l, at_) := by rw [hw, splitF, if_neg (by omega), if_pos h3]
        rw [e] at hK; exact hK
      · replace h3 : ((lenAt s at_) ≤ 400) ∧ ((lenAt s at_) ≤ ((s.length : Int) - at_) - 6) := ⟨(Int.not_lt.1 (of_decide_eq_false (borL h3))), (Int.not_lt.1 (of_decide_eq_false (borR h3)))⟩
        have hsl : ((sub s (at_ + 6) (at_ + 6 + lenAt s at_)).length : Int) = lenAt s at_ := (sub_len s (at_ + 6) (at_ + 6 + lenAt s at_) (by omega) (by omega) (by omega)).trans (by omega)
        refine awp_skip ?_
        refine hK4 _ _ ?_; clear hK4
        refine awp_reg2_seq [] [0, 4, 5, 6, 7] (by decide) ?_
        intro K1 hK1
        refine ⟨trivial, trivial, ?_⟩
        refine ar_add rfl (a := at_) (b := 6) rfl rfl (by omega) (by omega) ?_
        refine ⟨trivial, ?_⟩
        refine ar_add rfl (a := at_) (b := 6) rfl rfl (by omega) (by omega) ?_
        refine ⟨trivial, ?_⟩
        refine ar_add rfl (a := at_ + 6) (b := (lenAt s at_)) rfl rfl (by omega) (by omega) ?_
        refine ⟨⟨(by omega), (by omega), (by omega)⟩, trivial, ?_⟩
        show K1 [(0, .str s), (4, .slice true (l.map strAV)), (5, .int .i64 at_), (6, .int .i64 (lenAt s at_)), (7, .str (sub s (at_ + 6) ((at_ + 6) + (lenAt s at_))))] m
        refine hK1 _ _ ?_; clear hK1 K1
        refine awp_seq_k ?_; intro K5 hK5
        refine awp_draw_seq Try.mixed [(.str (framedL (sub s (at_ + 6) ((at_ + 6) + (lenAt s at_)))))] [0, 4, 5, 6, 7, 52] (by decide) (by decide) ?_
        intro K1 hK1
        refine ⟨trivial, (fun Kc hKc => u_frame (sub s (at_ + 6) ((at_ + 6) + (lenAt s at_))) (by omega) _ Kc hKc), trivial, trivial, trivial, ?_⟩
        refine pq_add rfl (a := at_) (b := 6) rfl rfl (by omega) (by omega) ?_
        refine ⟨trivial, ?_⟩
        refine pq_add rfl (a := at_ + 6) (b := (lenAt s at_)) rfl rfl (by omega) (by omega) ?_
        refine ⟨⟨(by omega), (by omega), (by omega)⟩, trivial, ?_⟩
        show K1 [(0, .str s), (4, .slice true (l.map strAV)), (5, .int .i64 at_), (6, .int .i64 (lenAt s at_)), (7, .str (sub s (at_ + 6) ((at_ + 6) + (lenAt s at_)))), (52, .bool (!((framedL (sub s (at_ + 6) ((at_ + 6) + (lenAt s at_)))) == (sub s at_ ((at_ + 6) + (lenAt s at_))))))] m
        refine hK1 _ _ ?_; clear hK1 K1
        refine awp_cond rfl rfl (fun h4 => ?_) (fun h4 => ?_)
        · replace h4 : framedL (sub s (at_ + 6) ((at_ + 6) + (lenAt s at_))) ≠ sub s at_ ((at_ + 6) + (lenAt s at_)) := (ne_of_beq_false (bnT h4))
          refine awp_exit ?_
          refine hK2 _ _ ?_; clear hK2
          refine awp_reg2_seq [61] [2, 3] (by decide) ?_
          intro K1 hK1
          refine ⟨trivial, trivial, trivial, trivial, ?_⟩
          show K1 [(2, .slice true (l.map strAV)), (3, .int .i64 at_)] m
          refine hK1 _ _ ?_; clear hK1 K1
          refine awp_ret ?_
          refine ⟨trivial, trivial, m, fun _ _ h => h, ?_⟩
          show K (.tuple [.slice true (l.map strAV), .int .i64 at_]) m
         
          have e : splitR s = (l, at_) := by rw [hw, splitF, if_neg (by omega), if_neg (by omega), if_pos h4]
          rw [e] at hK; exact hK
        · replace h4 : framedL (sub s (at_ + 6) ((at_ + 6) + (lenAt s at_))) = sub s at_ ((at_ + 6) + (lenAt s at_)) := (eq_of_beq (bnF h4))
          refine awp_skip ?_
          refine hK5 _ _ ?_; clear hK5
          refine awp_reg2_seq [53] [0, 4, 5, 6] (by decide) ?_
          intro K1 hK1
          refine ⟨trivial, trivial, ⟨rfl, Nat.le_of_ble_eq_true rfl, rfl, Nat.le_of_ble_eq_true rfl, rfl, by simp only [List.forall_mem_cons]; exact ⟨⟨rfl, rfl⟩, fun _ h => by cases h⟩⟩, ?_⟩
          refine ar_append rfl strAV l ([sub s (at_ + 6) ((at_ + 6) + (lenAt s at_))] : List (List UInt8)) rfl rfl rfl rfl rfl rfl (Nat.le_of_ble_eq_true rfl) rfl (by (simp only [show Try.prog.bytesOf 9 = 16 from rfl, List.length_append, List.length_cons, List.length_nil]; omega)) (by (first | omega | (simp only [List.length_append, List.length_cons, List.length_nil]; omega))) (fun _ => ⟨rfl, rfl⟩) ?_
          refine ⟨trivial, ?_⟩
          show K1 [(0, .str s), (4, .slice true ((l ++ ([sub s (at_ + 6) ((at_ + 6) + (lenAt s at_))] : List (List UInt8))).map strAV)), (5, .int .i64 at_), (6, .int .i64 (lenAt s at_))] m
          refine hK1 _ _ ?_; clear hK1 K1
          refine awp_reg2 [] [0, 4, 5] (by decide) ?_
          intro K1 hK1
          refine ⟨trivial, trivial, ?_⟩
          refine ar_add rfl (a := 6) (b := (lenAt s at_)) rfl rfl (by omega) (by omega) ?_
          refine ar_add rfl (a := at_) (b := 6 + (lenAt s at_)) rfl rfl (by omega) (by omega) ?_
          refine ⟨trivial, ?_⟩
          show K1 [(0, .str s), (4, .slice true ((l ++ ([sub s (at_ + 6) ((at_ + 6) + (lenAt s at_))] : List (List UInt8))).map strAV)), (5, .int .i64 (at_ + (6 + (lenAt s at_))))] m
          refine hK1 _ _ ?_; clear hK1 K1
          refine ⟨(l ++ ([sub s (at_ + 6) ((at_ + 6) + (lenAt s at_))] : List (List UInt8)), at_ + (6 + (lenAt s at_))), rfl, rfl, ?_, ?_⟩
          · show 0 ≤ ((at_ + (6 + (lenAt s at_)) : Int)) ∧ ((at_ + (6 + (lenAt s at_)) : Int)) ≤ s.length ∧ ((l ++ ([sub s (at_ + 6) ((at_ + 6) + (lenAt s at_))] : List (List UInt8)) : (List (List UInt8)))).length ≤ ((at_ + (6 + (lenAt s at_)) : Int)) ∧ ∃ f : Nat, s.length - ((at_ + (6 + (lenAt s at_)) : Int)) < f ∧ splitR s = splitF f s ((at_ + (6 + (lenAt s at_)) : Int)) ((l ++ ([sub s (at_ + 6) ((at_ + 6) + (lenAt s at_))] : List (List UInt8)) : (List (List UInt8))))
            refine ⟨by omega, by omega, by simp; omega, f, by omega, ?_⟩
            have e : at_ + (6 + lenAt s at_) = at_ + 6 + lenAt s at_ := by omega
            rw [hw, splitF, if_neg (by omega), if_neg (by omega), if_neg (by rw [h4]; simp), e]
          · show s.length - ((at_ + (6 + (lenAt s at_)) : Int)).toNat < s.length - at_.toNat
            omega
    · replace h1 : (s.length : Int) - at_ < 6 := (Int.not_le.1 (of_decide_eq_false h1))
      refine awp_exit ?_
      refine hK2 _ _ ?_; clear hK2
      refine awp_reg2_seq [61] [2, 3] (by decide) ?_
      intro K1 hK1
      refine ⟨trivial, trivial, trivial, trivial, ?_⟩
      show K1 [(2, .slice true (l.map strAV)), (3, .int .i64 at_)] m
      refine hK1 _ _ ?_; clear hK1 K1
      refine awp_ret ?_
      refine ⟨trivial, trivial, m, fun _ _ h => h, ?_⟩
      show K (.tuple [.slice true (l.map strAV), .int .i64 at_]) m
     
      have e : splitR s = (l, at_) := by
        rw [hw]
        cases f with
        | zero => rfl
        | succ f => rw [splitF, if_pos (by omega)]
      rw [e] at hK; exact hK

set_option maxHeartbeats 4000000 in
theorem u_Unframed (s : List UInt8) (hs : s.length ≤ 16777216) (m : AMem)  (K : AV → AMem → Prop) (hK : K (.tuple [.slice false ((splitR s).1.map strAV), .int .i64 (splitR s).2]) m) : ACalls Try.prog 15 [.str s] m K := by
  refine acalls_enter Try.func15 rfl (by decide) (Nat.le_of_ble_eq_true rfl) ?_
  show AWP _ _ _ _ [(0, .str s)] m
  refine awp_reg2_seq [] [0] (by decide) ?_
  intro K1 hK1
  refine ⟨trivial, trivial, ?_⟩
  show K1 [(0, .str s)] m
  refine hK1 _ _ ?_; clear hK1 K1
  refine awp_reg2_seq [] [0, 4] (by decide) ?_
  intro K1 hK1
  refine ⟨trivial, ?_⟩
  show K1 [(0, .str s), (4, .slice true [])] m
  refine hK1 _ _ ?_; clear hK1 K1
  refine awp_reg2_seq [] [0, 4, 5] (by decide) ?_
  intro K1 hK1
  refine ⟨trivial, ?_⟩
  show K1 [(0, .str s), (4, .slice true []), (5, .int .i64 0)] m
  refine hK1 _ _ ?_; clear hK1 K1
  refine awp_seq_k ?_; intro K2 hK2
  refine awp_block ?_
  refine awp_keep [0, 4, 5] (by decide) ?_
  refine awp_loop_st (σ := (List (List UInt8)) × Int) (fun ⟨l, at_⟩ => [(0, .str s), (4, .slice true (l.map strAV)), (5, .int .i64 at_)]) (fun _ => m) (fun ⟨l, at_⟩ => 0 ≤ at_ ∧ at_ ≤ s.length ∧ l.length ≤ at_ ∧ ∃ f : Nat, s.length - at_ < f ∧ splitR s = splitF f s at_ l) (fun ⟨l, at_⟩ => s.length - at_.toNat) ([], 0) rfl rfl ?_ ?_
  · show 0 ≤ ((0 : Int)) ∧ ((0 : Int)) ≤ s.length ∧ (([] : (List (List UInt8)))).length ≤ ((0 : Int)) ∧ ∃ f : Nat, s.length - ((0 : Int)) < f ∧ splitR s = splitF f s ((0 : Int)) (([] : (List (List UInt8))))
    exact ⟨by omega, by omega, by simp, s.length + 1, by omega, rfl⟩
  · rintro ⟨l, at_⟩ hI
    replace hI : 0 ≤ at_ ∧ at_ ≤ s.length ∧ l.length ≤ at_ ∧ ∃ f : Nat, s.length - at_ < f ∧ splitR s = splitF f s at_ l := hI
    obtain ⟨f, hf, hw⟩ := hI.2.2.2
    show AWP _ _ _ _ [(0, .str s), (4, .slice true (l.map strAV)), (5, .int .i64 at_)] m
    refine awp_seq_k ?_; intro K3 hK3
    refine awp_reg2_seq [] [0, 4, 5, 11] (by decide) ?_
    intro K1 hK1
    refine ⟨trivial, ?_⟩
    refine ar_add rfl (a := at_) (b := 6) rfl rfl (by omega) (by omega) ?_
    refine ⟨trivial, trivial, trivial, ?_⟩
    show K1 [(0, .str s), (4, .slice true (l.map strAV)), (5, .int .i64 at_), (11, .bool (decide (at_ + 6 ≤ (s.length : Int))))] m
    refine hK1 _ _ ?_; clear hK1 K1
    refine awp_cond rfl rfl (fun h1 => ?_) (fun h1 => ?_)
    · replace h1 : at_ + 6 ≤ (s.length : Int) := (of_decide_eq_true h1)
      obtain ⟨f, rfl⟩ : ∃ k, f = k + 1 := ⟨f - 1, by omega⟩
      have hb1 := (gI s at_).toNat_lt
      have hb2 := (gI s (at_ + 1)).toNat_lt
      have hL : lenAt s at_ = ((gI s at_).toNat : Int) + 256 * ((gI s (at_ + 1)).toNat : Int) := rfl
      have hsl : ¬ (400 < lenAt s at_ ∨ s.length - at_ - 6 < lenAt s at_) → ((sub s (at_ + 6) (at_ + 6 + lenAt s at_)).length : Int) = lenAt s at_ := fun hh => (sub_len s (at_ + 6) (at_ + 6 + lenAt s at_) (by omega) (by omega) (by omega)).trans (by omega)
      refine awp_skip ?_
      refine hK3 _ _ ?_; clear hK3
      refine awp_block ?_
      refine awp_draw_seq Try.mixed [] [0, 4, 5, 6] (by decide) (by decide) ?_
      intro K1 hK1
      refine ⟨trivial, trivial, ⟨(by omega), (by omega)⟩, ?_⟩
      refine pq_toInt rfl (a := ((gI s at_).toNat)) rfl rfl rfl (by omega) (by omega) ?_
      refine ⟨trivial, trivial, ?_⟩
      refine pq_add rfl (a := at_) (b := 1) rfl rfl (by omega) (by omega) ?_
      refine ⟨⟨(by omega), (by omega)⟩, ?_⟩
      refine pq_toInt rfl (a := ((gI s (at_ + 1)).toNat)) rfl rfl rfl (by omega) (by omega) ?_
      refine pq_mul rfl (a := 256) (b := (gI s (at_ + 1)).toNat) rfl rfl (by omega) (by omega) ?_
      refine pq_add rfl (a := (gI s at_).toNat) (b := 256 * ((gI s (at_ + 1)).toNat)) rfl rfl (by omega) (by omega) ?_
      refine ⟨trivial, ?_⟩
      show K1 [(0, .str s), (4, .slice true (l.map strAV)), (5, .int .i64 at_), (6, .int .i64 (((gI s at_).toNat) + (256 * ((gI s (at_ + 1)).toNat))))] m
      refine hK1 _ _ ?_; clear hK1 K1
      
      show AWP _ _ _ _ [(0, .str s), (4, .slice true (l.map strAV)), (5, .int .i64 at_), (6, .int .i64 (lenAt s at_))] m
      refine awp_seq_k ?_; intro K4 hK4
      refine awp_draw_seq Try.mixed [(.str (framedL (sub s (at_ + 6) ((at_ + 6) + (lenAt s at_)))))] [0, 4, 5, 6, 52] (by decide) (by decide) ?_
      intro K1 hK1
      suffices key : K1 [(0, .str s), (4, .slice true (l.map strAV)), (5, .int .i64 at_), (6, .int .i64 (lenAt s at_)), (52, .bool (((decide (400 < (lenAt s at_))) || (decide ((s.length : Int) < (at_ + 6) + (lenAt s at_)))) || (!((framedL (sub s (at_ + 6) ((at_ + 6) + (lenAt s at_)))) == (sub s at_ ((at_ + 6) + (lenAt s at_)))))))] m by
        refine ⟨trivial, trivial, trivial, ?_⟩
        show pseq _ _ _ _ _ [(25, .bool (decide (400 < (lenAt s at_)))), (24, .bool (decide (400 < (lenAt s at_)))), (23, .int .i64 (lenAt s at_)), (0, .str s), (4, .slice true (l.map strAV)), (5, .int .i64 at_), (6, .int .i64 (lenAt s at_))] _
        revert key
        cases h2 : (decide (400 < (lenAt s at_)))
        · replace h2 : (lenAt s at_) ≤ 400 := (Int.not_lt.1 (of_decide_eq_false h2))
          intro key
          refine ⟨trivial, ?_⟩
          refine pq_add rfl (a := at_) (b := 6) rfl rfl (by omega) (by omega) ?_
          refine ⟨trivial, ?_⟩
          refine pq_add rfl (a := at_ + 6) (b := (lenAt s at_)) rfl rfl (by omega) (by omega) ?_
          refine ⟨trivial, trivial, trivial, trivial, ?_⟩
          refine ⟨trivial, ?_⟩
          show pseq _ _ _ _ _ [(34, .bool (decide ((s.length : Int) < (at_ + 6) + (lenAt s at_)))), (33, .bool (decide ((s.length : Int) < (at_ + 6) + (lenAt s at_)))), (32, .bool (decide ((s.length : Int) < (at_ + 6) + (lenAt s at_)))), (31, .int .i64 (s.length : Int)), (30, .str s), (29, .int .i64 ((at_ + 6) + (lenAt s at_))), (28, .int .i64 (lenAt s at_)), (27, .int .i64 (at_ + 6)), (26, .int .i64 at_), (25, .bool false), (24, .bool false), (23, .int .i64 (lenAt s at_)), (0, .str s), (4, .slice true (l.map strAV)), (5, .int .i64 at_), (6, .int .i64 (lenAt s at_))] _
          revert key
          cases h3 : (decide ((s.length : Int) < (at_ + 6) + (lenAt s at_)))
          · replace h3 : (at_ + 6) + (lenAt s at_) ≤ (s.length : Int) := (Int.not_lt.1 (of_decide_eq_false h3))
            intro key
            refine ⟨trivial, trivial, ?_⟩
            refine pq_add rfl (a := at_) (b := 6) rfl rfl (by omega) (by omega) ?_
            refine ⟨trivial, ?_⟩
            refine pq_add rfl (a := at_) (b := 6) rfl rfl (by omega) (by omega) ?_
            refine ⟨trivial, ?_⟩
            refine pq_add rfl (a := at_ + 6) (b := (lenAt s at_)) rfl rfl (by omega) (by omega) ?_
            refine ⟨⟨(by omega), (by omega), (by omega)⟩, (fun Kc hKc => u_Framed (sub s (at_ + 6) ((at_ + 6) + (lenAt s at_))) (by first | omega | (rw [sub_len2] <;> omega)) _ Kc hKc), trivial, trivial, trivial, ?_⟩
            refine pq_add rfl (a := at_) (b := 6) rfl rfl (by omega) (by omega) ?_
            refine ⟨trivial, ?_⟩
            refine pq_add rfl (a := at_ + 6) (b := (lenAt s at_)) rfl rfl (by omega) (by omega) ?_
            refine ⟨⟨(by omega), (by omega), (by omega)⟩, trivial, trivial, ?_⟩
            exact key
          · replace h3 : (s.length : Int) < (at_ + 6) + (lenAt s at_) := (of_decide_eq_true h3)
            intro key
            refine pq_off rfl rfl ?_
            refine pq_off rfl rfl ?_
            refine pq_off rfl rfl ?_
            refine pq_off rfl rfl ?_
            refine pq_off rfl rfl ?_
            refine pq_off rfl rfl ?_
            refine pq_off rfl rfl ?_
            refine pq_off rfl rfl ?_
            refine pq_offc rfl ?_
            refine pq_off rfl rfl ?_
            refine pq_off rfl rfl ?_
            refine pq_off rfl rfl ?_
            refine pq_off rfl rfl ?_
            refine pq_off rfl rfl ?_
            refine pq_off rfl rfl ?_
            refine pq_off rfl rfl ?_
            refine pq_off rfl rfl ?_
            refine ⟨trivial, ?_⟩
            exact key
        · replace h2 : 400 < (lenAt s at_) := (of_decide_eq_true h2)
          intro key
          refine pq_off rfl rfl ?_
          refine pq_off rfl rfl ?_
          refine pq_off rfl rfl ?_
          refine pq_off rfl rfl ?_
          refine pq_off rfl rfl ?_
          refine pq_off rfl rfl ?_
          refine pq_off rfl rfl ?_
          refine ⟨trivial, ?_⟩
          refine ⟨trivial, ?_⟩
          refine pq_off rfl rfl ?_
          refine pq_off rfl rfl ?_
          refine pq_off rfl rfl ?_
          refine pq_off rfl rfl ?_
          refine pq_off rfl rfl ?_
          refine pq_off rfl rfl ?_
          refine pq_off rfl rfl ?_
          refine pq_off rfl rfl ?_
          refine pq_offc rfl ?_
          refine pq_off rfl rfl ?_
          refine pq_off rfl rfl ?_
          refine pq_off rfl rfl ?_
          refine pq_off rfl rfl ?_
          refine pq_off rfl rfl ?_
          refine pq_off rfl rfl ?_
          refine pq_off rfl rfl ?_
          refine pq_off rfl rfl ?_
          refine ⟨trivial, ?_⟩
          exact key
      refine hK1 _ _ ?_; clear hK1 K1
      refine awp_cond rfl rfl (fun h4 => ?_) (fun h4 => ?_)
      · replace h4 : ((400 < (lenAt s at_)) ∨ ((s.length : Int) < (at_ + 6) + (lenAt s at_))) ∨ (framedL (sub s (at_ + 6) ((at_ + 6) + (lenAt s at_))) ≠ sub s at_ ((at_ + 6) + (lenAt s at_))) := ((borT h4).imp (fun q => ((borT q).imp (fun q => (of_decide_eq_true q)) (fun q => (of_decide_eq_true q)))) (fun q => (ne_of_beq_false (bnT q))))
        refine awp_exit ?_
        refine hK2 _ _ ?_; clear hK2
        refine awp_reg2_seq [] [2, 3] (by decide) ?_
        intro K1 hK1
        refine ⟨trivial, trivial, trivial, trivial, ?_⟩
        show K1 [(2, .slice false (l.map strAV)), (3, .int .i64 at_)] m
        refine hK1 _ _ ?_; clear hK1 K1
        refine awp_ret ?_
        refine ⟨trivial, trivial, m, fun _ _ h => h, ?_⟩
        show K (.tuple [.slice false (l.map strAV), .int .i64 at_]) m
       
        have e : splitR s = (l, at_) := by
          rw [hw, splitF, if_neg (by omega)]
          split
          · rfl
          · rename_i h5
            rcases h4 with h4 | h4
            · exact absurd (by omega) h5
            · rw [if_pos h4]
        rw [e] at hK; exact hK
      · replace h4 : (((lenAt s at_) ≤ 400) ∧ ((at_ + 6) + (lenAt s at_) ≤ (s.length : Int))) ∧ (framedL (sub s (at_ + 6) ((at_ + 6) + (lenAt s at_))) = sub s at_ ((at_ + 6) + (lenAt s at_))) := ⟨⟨(Int.not_lt.1 (of_decide_eq_false (borL (borL h4)))), (Int.not_lt.1 (of_decide_eq_false (borR (borL h4))))⟩, (eq_of_beq (bnF (borR h4)))⟩
        refine awp_skip ?_
        refine hK4 _ _ ?_; clear hK4
        refine awp_reg2_seq [53] [0, 4, 5, 6] (by decide) ?_
        intro K1 hK1
        refine ⟨trivial, trivial, trivial, ?_⟩
        refine ar_add rfl (a := at_) (b := 6) rfl rfl (by omega) (by omega) ?_
        refine ⟨trivial, ?_⟩
        refine ar_add rfl (a := at_) (b := 6) rfl rfl (by omega) (by omega) ?_
        refine ⟨trivial, ?_⟩
        refine ar_add rfl (a := at_ + 6) (b := (lenAt s at_)) rfl rfl (by omega) (by omega) ?_
        refine ⟨⟨(by omega), (by omega), (by omega)⟩, ⟨rfl, Nat.le_of_ble_eq_true rfl, rfl, Nat.le_of_ble_eq_true rfl, rfl, by simp only [List.forall_mem_cons]; exact ⟨⟨rfl, rfl⟩, fun _ h => by cases h⟩⟩, ?_⟩
        refine ar_append rfl strAV l ([sub s (at_ + 6) ((at_ + 6) + (lenAt s at_))] : List (List UInt8)) rfl rfl rfl rfl rfl rfl (Nat.le_of_ble_eq_true rfl) rfl (by (simp only [show Try.prog.bytesOf 9 = 16 from rfl, List.length_append, List.length_cons, List.length_nil]; omega)) (by (first | omega | (simp only [List.length_append, List.length_cons, List.length_nil]; omega))) (fun _ => ⟨rfl, rfl⟩) ?_
        refine ⟨trivial, ?_⟩
        show K1 [(0, .str s), (4, .slice true ((l ++ ([sub s (at_ + 6) ((at_ + 6) + (lenAt s at_))] : List (List UInt8))).map strAV)), (5, .int .i64 at_), (6, .int .i64 (lenAt s at_))] m
        refine hK1 _ _ ?_; clear hK1 K1
        refine awp_reg2 [] [0, 4, 5] (by decide) ?_
        intro K1 hK1
        refine ⟨trivial, ?_⟩
        refine ar_add rfl (a := at_) (b := 6) rfl rfl (by omega) (by omega) ?_
        refine ⟨trivial, ?_⟩
        refine ar_add rfl (a := at_ + 6) (b := (lenAt s at_)) rfl rfl (by omega) (by omega) ?_
        refine ⟨trivial, ?_⟩
        show K1 [(0, .str s), (4, .slice true ((l ++ ([sub s (at_ + 6) ((at_ + 6) + (lenAt s at_))] : List (List UInt8))).map strAV)), (5, .int .i64 ((at_ + 6) + (lenAt s at_)))] m
        refine hK1 _ _ ?_; clear hK1 K1
        refine ⟨(l ++ ([sub s (at_ + 6) ((at_ + 6) + (lenAt s at_))] : List (List UInt8)), (at_ + 6) + (lenAt s at_)), rfl, rfl, ?_, ?_⟩
        · show 0 ≤ (((at_ + 6) + (lenAt s at_) : Int)) ∧ (((at_ + 6) + (lenAt s at_) : Int)) ≤ s.length ∧ ((l ++ ([sub s (at_ + 6) ((at_ + 6) + (lenAt s at_))] : List (List UInt8)) : (List (List UInt8)))).length ≤ (((at_ + 6) + (lenAt s at_) : Int)) ∧ ∃ f : Nat, s.length - (((at_ + 6) + (lenAt s at_) : Int)) < f ∧ splitR s = splitF f s (((at_ + 6) + (lenAt s at_) : Int)) ((l ++ ([sub s (at_ + 6) ((at_ + 6) + (lenAt s at_))] : List (List UInt8)) : (List (List UInt8))))
          exact ⟨by omega, by omega, by simp; omega, f, by omega, by rw [hw, splitF, if_neg (by omega), if_neg (by omega), if_neg (by rw [h4.2]; simp)]⟩
        · show s.length - (((at_ + 6) + (lenAt s at_) : Int)).toNat < s.length - at_.toNat
          omega
    · replace h1 : (s.length : Int) < at_ + 6 := (Int.not_le.1 (of_decide_eq_false h1))
      refine awp_exit ?_
      refine hK2 _ _ ?_; clear hK2
      refine awp_reg2_seq [] [2, 3] (by decide) ?_
      intro K1 hK1
      refine ⟨trivial, trivial, trivial, trivial, ?_⟩
      show K1 [(2, .slice false (l.map strAV)), (3, .int .i64 at_)] m
      refine hK1 _ _ ?_; clear hK1 K1
      refine awp_ret ?_
      refine ⟨trivial, trivial, m, fun _ _ h => h, ?_⟩
      show K (.tuple [.slice false (l.map strAV), .int .i64 at_]) m
     
      have e : splitR s = (l, at_) := by
        rw [hw]
        cases f with
        | zero => rfl
        | succ f => rw [splitF, if_pos (by omega)]
      rw [e] at hK; exact hK

end Go.Proofs
