import Derived.Test.YtfpbolgpaipiiaaProg
import Derived.Test.YtfpbolgpaipiiaaMix
import Derived.Test.YtfpbolgpaipiiaaWwX
import Derived.Test.YtfpbolgpaipiiaaLx1
namespace Go.Proofs
open Go Go.Aw
set_option maxRecDepth 100000


def byteV (a b : Int) : UInt8 := UInt8.ofNat (16 * a + b).toNat

/-- A quoted text from place i on, b read so far: what is wrong, the text, where it ends. -/
def quoteL (s : List UInt8) (i : Nat) (b : List UInt8) : Int × List UInt8 × Int :=
  if i < s.length then
    if (s.getD i 0).toNat = 34 then (if 40 < b.length then (1, [], 0) else (0, b, ((i + 1 : Nat) : Int)))
    else if (s.getD i 0).toNat < 32 ∨ 126 < (s.getD i 0).toNat then (4, [], 0)
    else if (s.getD i 0).toNat ≠ 92 then quoteL s (i + 1) (b ++ [s.getD i 0])
    else if i + 1 < s.length ∧ ((s.getD (i + 1) 0).toNat = 34 ∨ (s.getD (i + 1) 0).toNat = 92) then quoteL s (i + 2) (b ++ [s.getD (i + 1) 0])
    else if i + 3 < s.length ∧ (s.getD (i + 1) 0).toNat = 120 ∧ 0 ≤ Lib.indexByte sixteenL (s.getD (i + 2) 0) ∧ 0 ≤ Lib.indexByte sixteenL (s.getD (i + 3) 0) then
      quoteL s (i + 4) (b ++ [byteV (Lib.indexByte sixteenL (s.getD (i + 2) 0)) (Lib.indexByte sixteenL (s.getD (i + 3) 0))])
    else (4, [], 0)
  else (4, [], 0)
termination_by s.length - i

def qresL (r : Int × List UInt8 × Int) : AV := .tuple [.str r.2.1, .int .i64 r.2.2, .err 57 r.1]
def rresL (r : Int × List UInt8 × Int) : AV := .tuple [.int .i64 (if r.1 = 0 then 3 else 0), .str r.2.1, .int .i64 r.2.2, .int .i64 r.1]

section
variable {s b : List UInt8} {i : Nat}
theorem quoteL_end (h : ¬ i < s.length) : quoteL s i b = (4, [], 0) := by rw [quoteL, if_neg h]
theorem quoteL_long (h : i < s.length) (hc : (s.getD i 0).toNat = 34) (hb : 40 < b.length) : quoteL s i b = (1, [], 0) := by rw [quoteL, if_pos h, if_pos hc, if_pos hb]
theorem quoteL_close (h : i < s.length) (hc : (s.getD i 0).toNat = 34) (hb : ¬ 40 < b.length) : quoteL s i b = (0, b, ((i + 1 : Nat) : Int)) := by rw [quoteL, if_pos h, if_pos hc, if_neg hb]
theorem quoteL_bad (h : i < s.length) (hc : (s.getD i 0).toNat ≠ 34) (hb : (s.getD i 0).toNat < 32 ∨ 126 < (s.getD i 0).toNat) : quoteL s i b = (4, [], 0) := by rw [quoteL, if_pos h, if_neg hc, if_pos hb]
theorem quoteL_one (h : i < s.length) (hc : (s.getD i 0).toNat ≠ 34) (hb : ¬ ((s.getD i 0).toNat < 32 ∨ 126 < (s.getD i 0).toNat)) (h9 : (s.getD i 0).toNat ≠ 92) : quoteL s i b = quoteL s (i + 1) (b ++ [s.getD i 0]) := by
  conv => lhs; rw [quoteL]
  rw [if_pos h, if_neg hc, if_neg hb, if_pos h9]
theorem quoteL_esc (h : i < s.length) (h9 : (s.getD i 0).toNat = 92) (h1 : i + 1 < s.length ∧ ((s.getD (i + 1) 0).toNat = 34 ∨ (s.getD (i + 1) 0).toNat = 92)) : quoteL s i b = quoteL s (i + 2) (b ++ [s.getD (i + 1) 0]) := by
  conv => lhs; rw [quoteL]
  rw [if_pos h, if_neg (by omega), if_neg (by omega), if_neg (by omega), if_pos h1]
theorem quoteL_hex (h : i < s.length) (h9 : (s.getD i 0).toNat = 92) (h1 : ¬ (i + 1 < s.length ∧ ((s.getD (i + 1) 0).toNat = 34 ∨ (s.getD (i + 1) 0).toNat = 92)))
    (h2 : i + 3 < s.length ∧ (s.getD (i + 1) 0).toNat = 120 ∧ 0 ≤ Lib.indexByte sixteenL (s.getD (i + 2) 0) ∧ 0 ≤ Lib.indexByte sixteenL (s.getD (i + 3) 0)) :
    quoteL s i b = quoteL s (i + 4) (b ++ [byteV (Lib.indexByte sixteenL (s.getD (i + 2) 0)) (Lib.indexByte sixteenL (s.getD (i + 3) 0))]) := by
  conv => lhs; rw [quoteL]
  rw [if_pos h, if_neg (by omega), if_neg (by omega), if_neg (by omega), if_neg h1, if_pos h2]
theorem quoteL_no (h : i < s.length) (h9 : (s.getD i 0).toNat = 92) (h1 : ¬ (i + 1 < s.length ∧ ((s.getD (i + 1) 0).toNat = 34 ∨ (s.getD (i + 1) 0).toNat = 92)))
    (h2 : ¬ (i + 3 < s.length ∧ (s.getD (i + 1) 0).toNat = 120 ∧ 0 ≤ Lib.indexByte sixteenL (s.getD (i + 2) 0) ∧ 0 ≤ Lib.indexByte sixteenL (s.getD (i + 3) 0))) : quoteL s i b = (4, [], 0) := by
  rw [quoteL, if_pos h, if_neg (by omega), if_neg (by omega), if_neg (by omega), if_neg h1, if_neg h2]
end

theorem hex_lt (c : UInt8) : Lib.indexByte sixteenL c < 16 := by
  rcases indexByte_lt sixteenL c with h | h
  · simpa [sixteenL] using h
  · rw [h]; decide

theorem byteV_or (a b : Int) (ha : 0 ≤ a) (ha' : a < 16) (hb : 0 ≤ b) (hb' : b < 16) :
    IntKind.u8.wrap (IntKind.i64.wrap ((BitVec.ofInt IntKind.i64.bits (IntKind.i64.wrap (a * 2 ^ (min (Int.toNat 4) IntKind.i64.bits))) ||| BitVec.ofInt IntKind.i64.bits b).toNat)) = (byteV a b).toNat := by
  obtain ⟨a, rfl⟩ := Int.eq_ofNat_of_zero_le ha
  obtain ⟨b, rfl⟩ := Int.eq_ofNat_of_zero_le hb
  have key : ∀ a b : Fin 16, IntKind.u8.wrap (IntKind.i64.wrap ((BitVec.ofInt IntKind.i64.bits (IntKind.i64.wrap (((a.1 : Nat) : Int) * 2 ^ (min (Int.toNat 4) IntKind.i64.bits))) ||| BitVec.ofInt IntKind.i64.bits ((b.1 : Nat) : Int)).toNat)) = (byteV ((a.1 : Nat) : Int) ((b.1 : Nat) : Int)).toNat := by decide +kernel
  exact key ⟨a, by omega⟩ ⟨b, by omega⟩

theorem byteV_add (a b : Int) (ha : 0 ≤ a) (ha' : a < 16) (hb : 0 ≤ b) (hb' : b < 16) : IntKind.u8.wrap (IntKind.i64.wrap (IntKind.i64.wrap (16 * a) + b)) = (byteV a b).toNat := by
  obtain ⟨a, rfl⟩ := Int.eq_ofNat_of_zero_le ha
  obtain ⟨b, rfl⟩ := Int.eq_ofNat_of_zero_le hb
  have key : ∀ a b : Fin 16, IntKind.u8.wrap (IntKind.i64.wrap (IntKind.i64.wrap (16 * ((a.1 : Nat) : Int)) + ((b.1 : Nat) : Int))) = (byteV ((a.1 : Nat) : Int) ((b.1 : Nat) : Int)).toNat := by decide +kernel
  exact key ⟨a, by omega⟩ ⟨b, by omega⟩


theorem u8_or (a b : Int) (ha : 0 ≤ a) (ha' : a < 16) (hb : 0 ≤ b) (hb' : b < 16) :
    u8w (IntKind.i64.wrap ((BitVec.ofInt IntKind.i64.bits (IntKind.i64.wrap (a * 2 ^ (min (Int.toNat 4) IntKind.i64.bits))) ||| BitVec.ofInt IntKind.i64.bits b).toNat)) = byteV a b := by
  apply UInt8.toNat_inj.1
  have := byteV_or a b ha ha' hb hb'
  rw [← u8w_toNat] at this
  omega
theorem u8_add (a b : Int) (ha : 0 ≤ a) (ha' : a < 16) (hb : 0 ≤ b) (hb' : b < 16) : u8w (16 * a + b) = byteV a b := by
  apply UInt8.toNat_inj.1
  have := byteV_add a b ha ha' hb hb'
  rw [wrap_i64 (16 * a) (by omega) (by omega), wrap_i64 _ (by omega) (by omega), ← u8w_toNat] at this
  omega
section
variable {s b : List UInt8} {i : Int}
def qI (s : List UInt8) (i : Int) (b : List UInt8) := quoteL s i.toNat b
theorem qI_end (h : s.length ≤ i) : qI s i b = (4, [], 0) := quoteL_end (by omega)
theorem qI_all (h0 : 0 ≤ i) (h : i < s.length) : qI s i b =
    if ((gI s i).toNat : Int) = 34 then (if (40 : Int) < b.length then (1, [], 0) else (0, b, i + 1))
    else if ((gI s i).toNat : Int) < 32 ∨ 126 < ((gI s i).toNat : Int) then (4, [], 0)
    else if ((gI s i).toNat : Int) ≠ 92 then qI s (i + 1) (b ++ [gI s i])
    else if i + 1 < s.length ∧ (((gI s (i + 1)).toNat : Int) = 34 ∨ ((gI s (i + 1)).toNat : Int) = 92) then qI s (i + 2) (b ++ [gI s (i + 1)])
    else if i + 3 < s.length ∧ ((gI s (i + 1)).toNat : Int) = 120 ∧ 0 ≤ Lib.indexByte sixteenL (gI s (i + 2)) ∧ 0 ≤ Lib.indexByte sixteenL (gI s (i + 3)) then
      qI s (i + 4) (b ++ [byteV (Lib.indexByte sixteenL (gI s (i + 2))) (Lib.indexByte sixteenL (gI s (i + 3)))])
    else (4, [], 0) := by
  obtain ⟨n, rfl⟩ := Int.eq_ofNat_of_zero_le h0
  have e0 := gI_str s n
  have e1 := gI_add s n 1
  have e2 := gI_add s n 2
  have e3 := gI_add s n 3
  have w1 : ((n : Int) + 1).toNat = n + 1 := by omega
  have w2 : ((n : Int) + 2).toNat = n + 2 := by omega
  have w4 : ((n : Int) + 4).toNat = n + 4 := by omega
  simp only [qI, Int.toNat_natCast, w1, w2, w4]
  simp only [Int.natCast_one, Int.cast_ofNat_Int] at e1 e2 e3
  rw [e0, e1, e2, e3]
  conv => lhs; rw [quoteL]
  rw [if_pos (by omega)]
  have l1 : (((s.getD n 0).toNat : Int) = 34) = ((s.getD n 0).toNat = 34) := propext ⟨fun h => by omega, fun h => by omega⟩
  have l2 : (((s.getD n 0).toNat : Int) < 32 ∨ 126 < ((s.getD n 0).toNat : Int)) = ((s.getD n 0).toNat < 32 ∨ 126 < (s.getD n 0).toNat) := propext ⟨fun h => by omega, fun h => by omega⟩
  have l3 : (((s.getD n 0).toNat : Int) ≠ 92) = ((s.getD n 0).toNat ≠ 92) := propext ⟨fun h => by omega, fun h => by omega⟩
  have l4 : ((n : Int) + 1 < s.length ∧ (((s.getD (n + 1) 0).toNat : Int) = 34 ∨ ((s.getD (n + 1) 0).toNat : Int) = 92)) = (n + 1 < s.length ∧ ((s.getD (n + 1) 0).toNat = 34 ∨ (s.getD (n + 1) 0).toNat = 92)) := propext ⟨fun h => by omega, fun h => by omega⟩
  have l5 : ((n : Int) + 3 < s.length ∧ ((s.getD (n + 1) 0).toNat : Int) = 120 ∧ 0 ≤ Lib.indexByte sixteenL (s.getD (n + 2) 0) ∧ 0 ≤ Lib.indexByte sixteenL (s.getD (n + 3) 0)) = (n + 3 < s.length ∧ (s.getD (n + 1) 0).toNat = 120 ∧ 0 ≤ Lib.indexByte sixteenL (s.getD (n + 2) 0) ∧ 0 ≤ Lib.indexByte sixteenL (s.getD (n + 3) 0)) := propext ⟨fun h => ⟨by omega, by omega, h.2.2⟩, fun h => ⟨by omega, by omega, h.2.2⟩⟩
  have l6 : ((40 : Int) < b.length) = (40 < b.length) := propext ⟨fun h => by omega, fun h => by omega⟩
  simp only [l1, l2, l3, l4, l5, l6]
  rfl
end

set_option maxHeartbeats 2000000 in
theorem u_lexQuoted (s : List UInt8) (a : Int) (hs : s.length ≤ 16777216) (h0 : 0 ≤ a) (ha : a < s.length) (m : AMem) (K : AV → AMem → Prop) (hK : K (qresL (qI s (a + 1) [])) m) : ACalls Try.prog 35 [.str s, .int .i64 a] m K := by
  refine acalls_enter Try.func35 rfl (by decide) (Nat.le_of_ble_eq_true rfl) ?_
  show AWP _ _ _ _ [(0, .str s), (1, .int .i64 a)] m
  refine awp_reg2_seq [] [0, 1] (by decide) ?_
  intro K1 hK1
  refine ⟨trivial, trivial, trivial, ?_⟩
  show K1 [(0, .str s), (1, .int .i64 a)] m
  refine hK1 _ _ ?_; clear hK1 K1
  refine awp_reg2_seq [] [0, 1, 7] (by decide) ?_
  intro K1 hK1
  refine ⟨trivial, ?_⟩
  show K1 [(0, .str s), (1, .int .i64 a), (7, .slice true [])] m
  refine hK1 _ _ ?_; clear hK1 K1
  refine awp_seq_k ?_; intro K2 hK2
  refine awp_reg2_seq [] [0, 7, 8] (by decide) ?_
  intro K1 hK1
  refine ⟨trivial, ?_⟩
  refine ar_add rfl (a := a) (b := 1) rfl rfl (by omega) (by omega) ?_
  refine ⟨trivial, ?_⟩
  show K1 [(0, .str s), (7, .slice true []), (8, .int .i64 (a + 1))] m
  refine hK1 _ _ ?_; clear hK1 K1
  refine awp_block ?_
  refine awp_keep [0, 7, 8] (by decide) ?_
  refine awp_loop_st (σ := (List UInt8) × Int) (fun ⟨b, i⟩ => [(0, .str s), (7, .slice true (b.map byteAV)), (8, .int .i64 i)]) (fun _ => m) (fun ⟨b, i⟩ => 0 ≤ i ∧ i ≤ s.length ∧ (b.length : Int) ≤ i ∧ qI s (a + 1) [] = qI s i b) (fun ⟨b, i⟩ => s.length - i.toNat) ([], a + 1) rfl rfl ?_ ?_
  · show 0 ≤ ((a + 1 : Int)) ∧ ((a + 1 : Int)) ≤ s.length ∧ ((([] : (List UInt8))).length : Int) ≤ ((a + 1 : Int)) ∧ qI s (a + 1) [] = qI s ((a + 1 : Int)) (([] : (List UInt8)))
    exact ⟨by omega, by omega, by simp; omega, rfl⟩
  · rintro ⟨b, i⟩ hI
    replace hI : 0 ≤ i ∧ i ≤ s.length ∧ (b.length : Int) ≤ i ∧ qI s (a + 1) [] = qI s i b := hI
    show AWP _ _ _ _ [(0, .str s), (7, .slice true (b.map byteAV)), (8, .int .i64 i)] m
    refine awp_seq_k ?_; intro K3 hK3
    refine awp_reg2_seq [] [0, 7, 8, 15] (by decide) ?_
    intro K1 hK1
    refine ⟨trivial, trivial, trivial, trivial, ?_⟩
    show K1 [(0, .str s), (7, .slice true (b.map byteAV)), (8, .int .i64 i), (15, .bool (decide (i < (s.length : Int))))] m
    refine hK1 _ _ ?_; clear hK1 K1
    refine awp_cond rfl rfl (fun h1 => ?_) (fun h1 => ?_)
    · replace h1 : i < (s.length : Int) := (of_decide_eq_true h1)
      have hq := qI_all (b := b) hI.1 h1
      have x2 := hex_lt (gI s (i + 2))
      have x3 := hex_lt (gI s (i + 3))
      refine awp_skip ?_
      refine hK3 _ _ ?_; clear hK3
      refine awp_seq_k ?_; intro K4 hK4
      refine awp_block ?_
      refine awp_reg2_seq [] [0, 7, 8, 9] (by decide) ?_
      intro K1 hK1
      refine ⟨trivial, trivial, ⟨(by omega), (by omega)⟩, trivial, ?_⟩
      show K1 [(0, .str s), (7, .slice true (b.map byteAV)), (8, .int .i64 i), (9, .int .u8 ((gI s i).toNat))] m
      refine hK1 _ _ ?_; clear hK1 K1
      refine awp_block ?_
      refine awp_reg2_seq [] [0, 7, 8, 9, 25] (by decide) ?_
      intro K1 hK1
      refine ⟨trivial, trivial, trivial, ?_⟩
      show K1 [(0, .str s), (7, .slice true (b.map byteAV)), (8, .int .i64 i), (9, .int .u8 ((gI s i).toNat)), (25, .bool (((gI s i).toNat : Int) == 34))] m
      refine hK1 _ _ ?_; clear hK1 K1
      refine awp_cond rfl rfl (fun h2 => ?_) (fun h2 => ?_)
      · replace h2 : ((gI s i).toNat : Int) = 34 := (eq_of_beq h2)
        refine awp_seq_k ?_; intro K5 hK5
        refine awp_reg2_seq [] [7, 8, 30] (by decide) ?_
        intro K1 hK1
        refine ⟨trivial, ?_⟩
        refine ar_len rfl byteAV b rfl rfl rfl ?_
        refine ⟨trivial, ?_⟩
        show K1 [(7, .slice true (b.map byteAV)), (8, .int .i64 i), (30, .bool (decide (40 < (b.length : Int))))] m
        refine hK1 _ _ ?_; clear hK1 K1
        refine awp_cond rfl rfl (fun h3 => ?_) (fun h3 => ?_)
        · replace h3 : 40 < (b.length : Int) := (of_decide_eq_true h3)
          refine awp_reg2_seq [] [4, 5, 6] (by decide) ?_
          intro K1 hK1
          refine ⟨trivial, trivial, trivial, trivial, ?_⟩
          show K1 [(4, .str ([])), (5, .int .i64 0), (6, .iface 57 (.int .i64 1))] m
          refine hK1 _ _ ?_; clear hK1 K1
          refine awp_toErr 57 [6] ?_
          show AWP _ _ _ _ [(4, .str ([])), (5, .int .i64 0), (6, .err 57 1)] m
          refine awp_ret ?_
          refine ⟨trivial, trivial, trivial, _, fun _ _ h => h, ?_⟩
          show K (.tuple [.str ([]), .int .i64 0, .err 57 1]) m
         
          refine K_eq hK ?_
          rw [hI.2.2.2, hq, if_pos h2, if_pos h3]; rfl
        · replace h3 : (b.length : Int) ≤ 40 := (Int.not_lt.1 (of_decide_eq_false h3))
          refine awp_skip ?_
          refine hK5 _ _ ?_; clear hK5
          refine awp_reg2_seq [] [4, 5, 6] (by decide) ?_
          intro K1 hK1
          refine ⟨trivial, ?_⟩
          refine ar_toStr rfl b rfl rfl rfl rfl rfl ?_
          refine ⟨trivial, ?_⟩
          refine ar_add rfl (a := i) (b := 1) rfl rfl (by omega) (by omega) ?_
          refine ⟨trivial, trivial, trivial, ?_⟩
          show K1 [(4, .str b), (5, .int .i64 (i + 1)), (6, .nilIface)] m
          refine hK1 _ _ ?_; clear hK1 K1
          refine awp_toErr 57 [6] ?_
          show AWP _ _ _ _ [(4, .str b), (5, .int .i64 (i + 1)), (6, .err 57 0)] m
          refine awp_ret ?_
          refine ⟨trivial, trivial, trivial, _, fun _ _ h => h, ?_⟩
          show K (.tuple [.str b, .int .i64 (i + 1), .err 57 0]) m
         
          refine K_eq hK ?_
          rw [hI.2.2.2, hq, if_pos h2, if_neg (by omega)]; rfl
      · replace h2 : ((gI s i).toNat : Int) ≠ 34 := (ne_of_beq_false h2)
        refine awp_reg2_seq [] [0, 7, 8, 9, 36] (by decide) ?_
        intro K1 hK1
        suffices key : K1 [(0, .str s), (7, .slice true (b.map byteAV)), (8, .int .i64 i), (9, .int .u8 ((gI s i).toNat)), (36, .bool (((((gI s i).toNat : Int) == 92) && (decide (i + 1 < (s.length : Int)))) && ((((gI s (i + 1)).toNat : Int) == 34) || (((gI s (i + 1)).toNat : Int) == 92))))] m by
          refine ⟨trivial, trivial, trivial, ?_⟩
          show aopsR _ _ _ _ _ [(39, .bool (((gI s i).toNat : Int) == 92)), (38, .bool (((gI s i).toNat : Int) == 92)), (37, .int .u8 ((gI s i).toNat)), (0, .str s), (7, .slice true (b.map byteAV)), (8, .int .i64 i), (9, .int .u8 ((gI s i).toNat)), (25, .bool (((gI s i).toNat : Int) == 34))] _
          revert key
          cases h4 : (((gI s i).toNat : Int) == 92)
          · replace h4 : ((gI s i).toNat : Int) ≠ 92 := (ne_of_beq_false h4)
            intro key
            refine ar_off rfl (ar_off rfl (ar_off rfl (ar_off rfl (ar_off rfl ?_))))
            refine ⟨trivial, ?_⟩
            refine ar_off rfl (ar_off rfl (ar_off rfl (ar_off rfl (ar_off rfl (ar_off rfl (ar_off rfl (ar_off rfl (ar_off rfl (ar_off rfl (ar_off rfl (ar_off rfl ?_)))))))))))
            refine ⟨trivial, ?_⟩
            exact key
          · replace h4 : ((gI s i).toNat : Int) = 92 := (eq_of_beq h4)
            intro key
            refine ⟨trivial, ?_⟩
            refine ar_add rfl (a := i) (b := 1) rfl rfl (by omega) (by omega) ?_
            refine ⟨trivial, trivial, trivial, ?_⟩
            refine ⟨trivial, ?_⟩
            show aopsR _ _ _ _ _ [(46, .bool (decide (i + 1 < (s.length : Int)))), (45, .bool (decide (i + 1 < (s.length : Int)))), (44, .bool (decide (i + 1 < (s.length : Int)))), (43, .int .i64 (s.length : Int)), (42, .str s), (41, .int .i64 (i + 1)), (40, .int .i64 i), (39, .bool true), (38, .bool true), (37, .int .u8 ((gI s i).toNat)), (0, .str s), (7, .slice true (b.map byteAV)), (8, .int .i64 i), (9, .int .u8 ((gI s i).toNat)), (25, .bool (((gI s i).toNat : Int) == 34))] _
            revert key
            cases h5 : (decide (i + 1 < (s.length : Int)))
            · replace h5 : (s.length : Int) ≤ i + 1 := (Int.not_lt.1 (of_decide_eq_false h5))
              intro key
              refine ar_off rfl (ar_off rfl (ar_off rfl (ar_off rfl (ar_off rfl (ar_off rfl (ar_off rfl (ar_off rfl (ar_off rfl (ar_off rfl (ar_off rfl (ar_off rfl ?_)))))))))))
              refine ⟨trivial, ?_⟩
              exact key
            · replace h5 : i + 1 < (s.length : Int) := (of_decide_eq_true h5)
              intro key
              refine ⟨trivial, trivial, ?_⟩
              refine ar_add rfl (a := i) (b := 1) rfl rfl (by omega) (by omega) ?_
              refine ⟨⟨(by omega), (by omega)⟩, trivial, trivial, ?_⟩
              show aopsR _ _ _ _ _ [(52, .bool (((gI s (i + 1)).toNat : Int) == 34)), (51, .bool (((gI s (i + 1)).toNat : Int) == 34)), (50, .int .u8 ((gI s (i + 1)).toNat)), (49, .int .i64 (i + 1)), (48, .int .i64 i), (47, .str s), (46, .bool true), (45, .bool true), (44, .bool true), (43, .int .i64 (s.length : Int)), (42, .str s), (41, .int .i64 (i + 1)), (40, .int .i64 i), (39, .bool true), (38, .bool true), (37, .int .u8 ((gI s i).toNat)), (0, .str s), (7, .slice true (b.map byteAV)), (8, .int .i64 i), (9, .int .u8 ((gI s i).toNat)), (25, .bool (((gI s i).toNat : Int) == 34))] _
              revert key
              cases h6 : (((gI s (i + 1)).toNat : Int) == 34)
              · replace h6 : ((gI s (i + 1)).toNat : Int) ≠ 34 := (ne_of_beq_false h6)
                intro key
                refine ⟨trivial, trivial, ?_⟩
                refine ar_add rfl (a := i) (b := 1) rfl rfl (by omega) (by omega) ?_
                refine ⟨⟨(by omega), (by omega)⟩, trivial, ?_⟩
                refine ⟨trivial, ?_⟩
                exact key
              · replace h6 : ((gI s (i + 1)).toNat : Int) = 34 := (eq_of_beq h6)
                intro key
                refine ar_off rfl (ar_off rfl (ar_off rfl (ar_off rfl (ar_off rfl ?_))))
                refine ⟨trivial, ?_⟩
                exact key
        refine hK1 _ _ ?_; clear hK1 K1
        refine awp_cond rfl rfl (fun h7 => ?_) (fun h7 => ?_)
        · replace h7 : ((((gI s i).toNat : Int) = 92) ∧ (i + 1 < (s.length : Int))) ∧ ((((gI s (i + 1)).toNat : Int) = 34) ∨ (((gI s (i + 1)).toNat : Int) = 92)) := ⟨⟨(eq_of_beq (bandL (bandL h7))), (of_decide_eq_true (bandR (bandL h7)))⟩, ((borT (bandR h7)).imp (fun q => (eq_of_beq q)) (fun q => (eq_of_beq q)))⟩
          refine awp_reg2_seq [] [0, 7, 8] (by decide) ?_
          intro K1 hK1
          refine ⟨trivial, ?_⟩
          refine ar_add rfl (a := i) (b := 1) rfl rfl (by omega) (by omega) ?_
          refine ⟨trivial, ?_⟩
          show K1 [(0, .str s), (7, .slice true (b.map byteAV)), (8, .int .i64 (i + 1))] m
          refine hK1 _ _ ?_; clear hK1 K1
          refine awp_reg2 [62] [0, 7, 8] (by decide) ?_
          intro K1 hK1
          refine ⟨trivial, trivial, trivial, ⟨(by omega), (by omega)⟩, ⟨rfl, Nat.le_of_ble_eq_true rfl, rfl, Nat.le_of_ble_eq_true rfl, rfl, by simp only [List.forall_mem_cons]; exact ⟨⟨rfl, rfl⟩, fun _ h => by cases h⟩⟩, ?_⟩
          refine ar_append rfl byteAV b ([gI s (i + 1)] : List UInt8) rfl rfl rfl rfl rfl rfl (Nat.le_of_ble_eq_true rfl) rfl (by (simp only [show Try.prog.bytesOf 5 = 1 from rfl, List.length_append, List.length_cons, List.length_nil]; omega)) (by (simp only [List.length_append, List.length_cons, List.length_nil]; omega)) (fun _ => ⟨rfl, rfl⟩) ?_
          refine ⟨trivial, ?_⟩
          show K1 [(0, .str s), (7, .slice true ((b ++ ([gI s (i + 1)] : List UInt8)).map byteAV)), (8, .int .i64 (i + 1))] m
          refine hK1 _ _ ?_; clear hK1 K1
          refine hK4 _ _ ?_; clear hK4
          refine awp_reg2 [] [0, 7, 8] (by decide) ?_
          intro K1 hK1
          refine ⟨trivial, ?_⟩
          refine ar_add rfl (a := i + 1) (b := 1) rfl rfl (by omega) (by omega) ?_
          refine ⟨trivial, ?_⟩
          show K1 [(0, .str s), (7, .slice true ((b ++ ([gI s (i + 1)] : List UInt8)).map byteAV)), (8, .int .i64 ((i + 1) + 1))] m
          refine hK1 _ _ ?_; clear hK1 K1
          refine ⟨(b ++ ([gI s (i + 1)] : List UInt8), (i + 1) + 1), rfl, rfl, ?_, ?_⟩
          · show 0 ≤ (((i + 1) + 1 : Int)) ∧ (((i + 1) + 1 : Int)) ≤ s.length ∧ (((b ++ ([gI s (i + 1)] : List UInt8) : (List UInt8))).length : Int) ≤ (((i + 1) + 1 : Int)) ∧ qI s (a + 1) [] = qI s (((i + 1) + 1 : Int)) ((b ++ ([gI s (i + 1)] : List UInt8) : (List UInt8)))
            exact ⟨by omega, by omega, by simp; omega, by rw [hI.2.2.2, hq, if_neg h2, if_neg (by omega), if_neg (by omega), if_pos (by omega)]; congr 1; omega⟩
          · show s.length - (((i + 1) + 1 : Int)).toNat < s.length - i.toNat
            omega
        · replace h7 : ((((gI s i).toNat : Int) ≠ 92) ∨ ((s.length : Int) ≤ i + 1)) ∨ ((((gI s (i + 1)).toNat : Int) ≠ 34) ∧ (((gI s (i + 1)).toNat : Int) ≠ 92)) := ((bandF h7).imp (fun q => ((bandF q).imp (fun q => (ne_of_beq_false q)) (fun q => (Int.not_lt.1 (of_decide_eq_false q))))) (fun q => ⟨(ne_of_beq_false (borL q)), (ne_of_beq_false (borR q))⟩))
          refine awp_reg2_seq [] [0, 7, 8, 9, 68] (by decide) ?_
          intro K1 hK1
          suffices key : K1 [(0, .str s), (7, .slice true (b.map byteAV)), (8, .int .i64 i), (9, .int .u8 ((gI s i).toNat)), (68, .bool (((((((gI s i).toNat : Int) == 92) && (decide (i + 3 < (s.length : Int)))) && (((gI s (i + 1)).toNat : Int) == 120)) && (decide (0 ≤ Lib.indexByte sixteenL (gI s (i + 2))))) && (decide (0 ≤ Lib.indexByte sixteenL (gI s (i + 3))))))] m by
            refine ⟨trivial, trivial, trivial, ?_⟩
            show aopsR _ _ _ _ _ [(71, .bool (((gI s i).toNat : Int) == 92)), (70, .bool (((gI s i).toNat : Int) == 92)), (69, .int .u8 ((gI s i).toNat)), (0, .str s), (7, .slice true (b.map byteAV)), (8, .int .i64 i), (9, .int .u8 ((gI s i).toNat)), (36, .bool (((((gI s i).toNat : Int) == 92) && (decide (i + 1 < (s.length : Int)))) && ((((gI s (i + 1)).toNat : Int) == 34) || (((gI s (i + 1)).toNat : Int) == 92))))] _
            revert key
            cases h8 : (((gI s i).toNat : Int) == 92)
            · replace h8 : ((gI s i).toNat : Int) ≠ 92 := (ne_of_beq_false h8)
              intro key
              refine ar_off rfl (ar_off rfl (ar_off rfl (ar_off rfl (ar_off rfl ?_))))
              refine ⟨trivial, ?_⟩
              refine ar_off rfl (ar_off rfl (ar_off rfl (ar_off rfl (ar_off rfl ?_))))
              refine ⟨trivial, ?_⟩
              refine ar_off rfl (ar_off rfl (ar_off rfl (ar_off rfl (ar_off rfl (ar_off rfl ?_)))))
              refine ⟨trivial, ?_⟩
              refine ar_off rfl (ar_off rfl (ar_off rfl (ar_off rfl (ar_off rfl (ar_off rfl ?_)))))
              refine ⟨trivial, ?_⟩
              exact key
            · replace h8 : ((gI s i).toNat : Int) = 92 := (eq_of_beq h8)
              intro key
              refine ⟨trivial, ?_⟩
              refine ar_add rfl (a := i) (b := 3) rfl rfl (by omega) (by omega) ?_
              refine ⟨trivial, trivial, trivial, ?_⟩
              refine ⟨trivial, ?_⟩
              show aopsR _ _ _ _ _ [(78, .bool (decide (i + 3 < (s.length : Int)))), (77, .bool (decide (i + 3 < (s.length : Int)))), (76, .bool (decide (i + 3 < (s.length : Int)))), (75, .int .i64 (s.length : Int)), (74, .str s), (73, .int .i64 (i + 3)), (72, .int .i64 i), (71, .bool true), (70, .bool true), (69, .int .u8 ((gI s i).toNat)), (0, .str s), (7, .slice true (b.map byteAV)), (8, .int .i64 i), (9, .int .u8 ((gI s i).toNat)), (36, .bool ((decide (i + 1 < (s.length : Int))) && ((((gI s (i + 1)).toNat : Int) == 34) || (((gI s (i + 1)).toNat : Int) == 92))))] _
              revert key
              cases h9 : (decide (i + 3 < (s.length : Int)))
              · replace h9 : (s.length : Int) ≤ i + 3 := (Int.not_lt.1 (of_decide_eq_false h9))
                intro key
                refine ar_off rfl (ar_off rfl (ar_off rfl (ar_off rfl (ar_off rfl ?_))))
                refine ⟨trivial, ?_⟩
                refine ar_off rfl (ar_off rfl (ar_off rfl (ar_off rfl (ar_off rfl (ar_off rfl ?_)))))
                refine ⟨trivial, ?_⟩
                refine ar_off rfl (ar_off rfl (ar_off rfl (ar_off rfl (ar_off rfl (ar_off rfl ?_)))))
                refine ⟨trivial, ?_⟩
                exact key
              · replace h9 : i + 3 < (s.length : Int) := (of_decide_eq_true h9)
                intro key
                refine ⟨trivial, trivial, ?_⟩
                refine ar_add rfl (a := i) (b := 1) rfl rfl (by omega) (by omega) ?_
                refine ⟨⟨(by omega), (by omega)⟩, trivial, ?_⟩
                refine ⟨trivial, ?_⟩
                show aopsR _ _ _ _ _ [(85, .bool (((gI s (i + 1)).toNat : Int) == 120)), (84, .bool (((gI s (i + 1)).toNat : Int) == 120)), (83, .bool (((gI s (i + 1)).toNat : Int) == 120)), (82, .int .u8 ((gI s (i + 1)).toNat)), (81, .int .i64 (i + 1)), (80, .int .i64 i), (79, .str s), (78, .bool true), (77, .bool true), (76, .bool true), (75, .int .i64 (s.length : Int)), (74, .str s), (73, .int .i64 (i + 3)), (72, .int .i64 i), (71, .bool true), (70, .bool true), (69, .int .u8 ((gI s i).toNat)), (0, .str s), (7, .slice true (b.map byteAV)), (8, .int .i64 i), (9, .int .u8 ((gI s i).toNat)), (36, .bool ((decide (i + 1 < (s.length : Int))) && ((((gI s (i + 1)).toNat : Int) == 34) || (((gI s (i + 1)).toNat : Int) == 92))))] _
                revert key
                cases h10 : (((gI s (i + 1)).toNat : Int) == 120)
                · replace h10 : ((gI s (i + 1)).toNat : Int) ≠ 120 := (ne_of_beq_false h10)
                  intro key
                  refine ar_off rfl (ar_off rfl (ar_off rfl (ar_off rfl (ar_off rfl (ar_off rfl ?_)))))
                  refine ⟨trivial, ?_⟩
                  refine ar_off rfl (ar_off rfl (ar_off rfl (ar_off rfl (ar_off rfl (ar_off rfl ?_)))))
                  refine ⟨trivial, ?_⟩
                  exact key
                · replace h10 : ((gI s (i + 1)).toNat : Int) = 120 := (eq_of_beq h10)
                  intro key
                  refine ⟨trivial, trivial, ?_⟩
                  refine ar_add rfl (a := i) (b := 2) rfl rfl (by omega) (by omega) ?_
                  refine ⟨⟨(by omega), (by omega)⟩, ?_⟩
                  refine t_hex (gI s (i + 2)) _ _ ?_
                  refine ⟨trivial, ?_⟩
                  refine ⟨trivial, ?_⟩
                  show aopsR _ _ _ _ _ [(93, .bool (decide (0 ≤ Lib.indexByte sixteenL (gI s (i + 2))))), (92, .bool (decide (0 ≤ Lib.indexByte sixteenL (gI s (i + 2))))), (91, .bool (decide (0 ≤ Lib.indexByte sixteenL (gI s (i + 2))))), (90, .int .i64 (Lib.indexByte sixteenL (gI s (i + 2)))), (89, .int .u8 ((gI s (i + 2)).toNat)), (88, .int .i64 (i + 2)), (87, .int .i64 i), (86, .str s), (85, .bool true), (84, .bool true), (83, .bool true), (82, .int .u8 ((gI s (i + 1)).toNat)), (81, .int .i64 (i + 1)), (80, .int .i64 i), (79, .str s), (78, .bool true), (77, .bool true), (76, .bool true), (75, .int .i64 (s.length : Int)), (74, .str s), (73, .int .i64 (i + 3)), (72, .int .i64 i), (71, .bool true), (70, .bool true), (69, .int .u8 ((gI s i).toNat)), (0, .str s), (7, .slice true (b.map byteAV)), (8, .int .i64 i), (9, .int .u8 ((gI s i).toNat)), (36, .bool ((decide (i + 1 < (s.length : Int))) && ((((gI s (i + 1)).toNat : Int) == 34) || (((gI s (i + 1)).toNat : Int) == 92))))] _
                  revert key
                  cases h11 : (decide (0 ≤ Lib.indexByte sixteenL (gI s (i + 2))))
                  · replace h11 : Lib.indexByte sixteenL (gI s (i + 2)) < 0 := (Int.not_le.1 (of_decide_eq_false h11))
                    intro key
                    refine ar_off rfl (ar_off rfl (ar_off rfl (ar_off rfl (ar_off rfl (ar_off rfl ?_)))))
                    refine ⟨trivial, ?_⟩
                    exact key
                  · replace h11 : 0 ≤ Lib.indexByte sixteenL (gI s (i + 2)) := (of_decide_eq_true h11)
                    intro key
                    refine ⟨trivial, trivial, ?_⟩
                    refine ar_add rfl (a := i) (b := 3) rfl rfl (by omega) (by omega) ?_
                    refine ⟨⟨(by omega), (by omega)⟩, ?_⟩
                    refine t_hex (gI s (i + 3)) _ _ ?_
                    refine ⟨trivial, ?_⟩
                    refine ⟨trivial, ?_⟩
                    exact key
          refine hK1 _ _ ?_; clear hK1 K1
          refine awp_cond rfl rfl (fun h12 => ?_) (fun h12 => ?_)
          · replace h12 : ((((((gI s i).toNat : Int) = 92) ∧ (i + 3 < (s.length : Int))) ∧ (((gI s (i + 1)).toNat : Int) = 120)) ∧ (0 ≤ Lib.indexByte sixteenL (gI s (i + 2)))) ∧ (0 ≤ Lib.indexByte sixteenL (gI s (i + 3))) := ⟨⟨⟨⟨(eq_of_beq (bandL (bandL (bandL (bandL h12))))), (of_decide_eq_true (bandR (bandL (bandL (bandL h12)))))⟩, (eq_of_beq (bandR (bandL (bandL h12))))⟩, (of_decide_eq_true (bandR (bandL h12)))⟩, (of_decide_eq_true (bandR h12))⟩
            refine awp_draw_tail2_seq Try.mixed 15 [(101, 7)] [(.int .i64 (Lib.indexByte sixteenL (gI s (i + 2)))), (.int .i64 (Lib.indexByte sixteenL (gI s (i + 3))))] [] [0, 7, 8] (by decide) (by decide) ?_
            intro K1 hK1
            refine ⟨trivial, trivial, trivial, ?_⟩
            refine pq_add rfl (a := i) (b := 2) rfl rfl (by omega) (by omega) ?_
            refine ⟨⟨(by omega), (by omega)⟩, (fun Kc hKc => t_hex (gI s (i + 2)) _ Kc hKc), (by omega), trivial, trivial, ?_⟩
            refine pq_add rfl (a := i) (b := 3) rfl rfl (by omega) (by omega) ?_
            refine ⟨⟨(by omega), (by omega)⟩, (fun Kc hKc => t_hex (gI s (i + 3)) _ Kc hKc), trivial, ?_⟩
            refine pq_toU8 rfl (a := (IntKind.i64.wrap (BitVec.ofInt IntKind.i64.bits (IntKind.i64.wrap ((Lib.indexByte sixteenL (gI s (i + 2))) * 2 ^ (min (Int.toNat 4) IntKind.i64.bits))) ||| BitVec.ofInt IntKind.i64.bits (Lib.indexByte sixteenL (gI s (i + 3)))).toNat)) rfl rfl rfl ?_
            refine ⟨⟨rfl, Nat.le_of_ble_eq_true rfl, rfl, Nat.le_of_ble_eq_true rfl, rfl, by simp only [List.forall_mem_cons]; exact ⟨⟨rfl, rfl⟩, fun _ h => by cases h⟩⟩, ?_⟩
            show aopsR _ _ _ _ _ [(101, .slice true (b.map byteAV)), (7, .slice false (b.map byteAV)), (115, .slice false [.int .u8 (((u8w (IntKind.i64.wrap (BitVec.ofInt IntKind.i64.bits (IntKind.i64.wrap ((Lib.indexByte sixteenL (gI s (i + 2))) * 2 ^ (min (Int.toNat 4) IntKind.i64.bits))) ||| BitVec.ofInt IntKind.i64.bits (Lib.indexByte sixteenL (gI s (i + 3)))).toNat))).toNat)]), (114, .int .u8 (((u8w (IntKind.i64.wrap (BitVec.ofInt IntKind.i64.bits (IntKind.i64.wrap ((Lib.indexByte sixteenL (gI s (i + 2))) * 2 ^ (min (Int.toNat 4) IntKind.i64.bits))) ||| BitVec.ofInt IntKind.i64.bits (Lib.indexByte sixteenL (gI s (i + 3)))).toNat))).toNat)), (113, .int .i64 (IntKind.i64.wrap (BitVec.ofInt IntKind.i64.bits (IntKind.i64.wrap ((Lib.indexByte sixteenL (gI s (i + 2))) * 2 ^ (min (Int.toNat 4) IntKind.i64.bits))) ||| BitVec.ofInt IntKind.i64.bits (Lib.indexByte sixteenL (gI s (i + 3)))).toNat)), (112, .int .i64 (Lib.indexByte sixteenL (gI s (i + 3)))), (111, .int .u8 ((gI s (i + 3)).toNat)), (110, .int .i64 (i + 3)), (109, .int .i64 i), (108, .str s), (107, .int .i64 (IntKind.i64.wrap ((Lib.indexByte sixteenL (gI s (i + 2))) * 2 ^ (min (Int.toNat 4) IntKind.i64.bits)))), (106, .int .i64 (Lib.indexByte sixteenL (gI s (i + 2)))), (105, .int .u8 ((gI s (i + 2)).toNat)), (104, .int .i64 (i + 2)), (103, .int .i64 i), (102, .str s), (101, .slice false (b.map byteAV)), (0, .str s), (7, .slice true (b.map byteAV)), (8, .int .i64 i), (9, .int .u8 ((gI s i).toNat)), (68, .bool (((((((gI s i).toNat : Int) == 92) && (decide (i + 3 < (s.length : Int)))) && (((gI s (i + 1)).toNat : Int) == 120)) && (decide (0 ≤ Lib.indexByte sixteenL (gI s (i + 2))))) && (decide (0 ≤ Lib.indexByte sixteenL (gI s (i + 3))))))] _
            refine ar_append rfl byteAV b ([(u8w (IntKind.i64.wrap (BitVec.ofInt IntKind.i64.bits (IntKind.i64.wrap ((Lib.indexByte sixteenL (gI s (i + 2))) * 2 ^ (min (Int.toNat 4) IntKind.i64.bits))) ||| BitVec.ofInt IntKind.i64.bits (Lib.indexByte sixteenL (gI s (i + 3)))).toNat))] : List UInt8) rfl rfl rfl rfl rfl rfl (Nat.le_of_ble_eq_true rfl) rfl (by (simp only [show Try.prog.bytesOf 5 = 1 from rfl, List.length_append, List.length_cons, List.length_nil]; omega)) (by (simp only [List.length_append, List.length_cons, List.length_nil]; omega)) (fun _ => ⟨rfl, rfl⟩) ?_
            refine ⟨trivial, ?_⟩
            show K1 [(0, .str s), (7, .slice true ((b ++ ([(u8w (IntKind.i64.wrap (BitVec.ofInt IntKind.i64.bits (IntKind.i64.wrap ((Lib.indexByte sixteenL (gI s (i + 2))) * 2 ^ (min (Int.toNat 4) IntKind.i64.bits))) ||| BitVec.ofInt IntKind.i64.bits (Lib.indexByte sixteenL (gI s (i + 3)))).toNat))] : List UInt8)).map byteAV)), (8, .int .i64 i)] m
            refine hK1 _ _ ?_; clear hK1 K1
            refine awp_reg2 [] [0, 7, 8] (by decide) ?_
            intro K1 hK1
            refine ⟨trivial, ?_⟩
            refine ar_add rfl (a := i) (b := 3) rfl rfl (by omega) (by omega) ?_
            refine ⟨trivial, ?_⟩
            show K1 [(0, .str s), (7, .slice true ((b ++ ([(u8w (IntKind.i64.wrap (BitVec.ofInt IntKind.i64.bits (IntKind.i64.wrap ((Lib.indexByte sixteenL (gI s (i + 2))) * 2 ^ (min (Int.toNat 4) IntKind.i64.bits))) ||| BitVec.ofInt IntKind.i64.bits (Lib.indexByte sixteenL (gI s (i + 3)))).toNat))] : List UInt8)).map byteAV)), (8, .int .i64 (i + 3))] m
            refine hK1 _ _ ?_; clear hK1 K1
            refine hK4 _ _ ?_; clear hK4
            refine awp_reg2 [] [0, 7, 8] (by decide) ?_
            intro K1 hK1
            refine ⟨trivial, ?_⟩
            refine ar_add rfl (a := i + 3) (b := 1) rfl rfl (by omega) (by omega) ?_
            refine ⟨trivial, ?_⟩
            show K1 [(0, .str s), (7, .slice true ((b ++ ([(u8w (IntKind.i64.wrap (BitVec.ofInt IntKind.i64.bits (IntKind.i64.wrap ((Lib.indexByte sixteenL (gI s (i + 2))) * 2 ^ (min (Int.toNat 4) IntKind.i64.bits))) ||| BitVec.ofInt IntKind.i64.bits (Lib.indexByte sixteenL (gI s (i + 3)))).toNat))] : List UInt8)).map byteAV)), (8, .int .i64 ((i + 3) + 1))] m
            refine hK1 _ _ ?_; clear hK1 K1
            refine ⟨(b ++ ([(u8w (IntKind.i64.wrap (BitVec.ofInt IntKind.i64.bits (IntKind.i64.wrap ((Lib.indexByte sixteenL (gI s (i + 2))) * 2 ^ (min (Int.toNat 4) IntKind.i64.bits))) ||| BitVec.ofInt IntKind.i64.bits (Lib.indexByte sixteenL (gI s (i + 3)))).toNat))] : List UInt8), (i + 3) + 1), rfl, rfl, ?_, ?_⟩
            · show 0 ≤ (((i + 3) + 1 : Int)) ∧ (((i + 3) + 1 : Int)) ≤ s.length ∧ (((b ++ ([(u8w (IntKind.i64.wrap (BitVec.ofInt IntKind.i64.bits (IntKind.i64.wrap ((Lib.indexByte sixteenL (gI s (i + 2))) * 2 ^ (min (Int.toNat 4) IntKind.i64.bits))) ||| BitVec.ofInt IntKind.i64.bits (Lib.indexByte sixteenL (gI s (i + 3)))).toNat))] : List UInt8) : (List UInt8))).length : Int) ≤ (((i + 3) + 1 : Int)) ∧ qI s (a + 1) [] = qI s (((i + 3) + 1 : Int)) ((b ++ ([(u8w (IntKind.i64.wrap (BitVec.ofInt IntKind.i64.bits (IntKind.i64.wrap ((Lib.indexByte sixteenL (gI s (i + 2))) * 2 ^ (min (Int.toNat 4) IntKind.i64.bits))) ||| BitVec.ofInt IntKind.i64.bits (Lib.indexByte sixteenL (gI s (i + 3)))).toNat))] : List UInt8) : (List UInt8)))
              exact ⟨by omega, by omega, by simp; omega, by rw [hI.2.2.2, hq, if_neg h2, if_neg (by omega), if_neg (by omega), if_neg (by omega), if_pos (by omega), u8_or _ _ (by omega) (by omega) (by omega) (by omega)]; congr 1; omega⟩
            · show s.length - (((i + 3) + 1 : Int)).toNat < s.length - i.toNat
              omega
          · replace h12 : ((((((gI s i).toNat : Int) ≠ 92) ∨ ((s.length : Int) ≤ i + 3)) ∨ (((gI s (i + 1)).toNat : Int) ≠ 120)) ∨ (Lib.indexByte sixteenL (gI s (i + 2)) < 0)) ∨ (Lib.indexByte sixteenL (gI s (i + 3)) < 0) := ((bandF h12).imp (fun q => ((bandF q).imp (fun q => ((bandF q).imp (fun q => ((bandF q).imp (fun q => (ne_of_beq_false q)) (fun q => (Int.not_lt.1 (of_decide_eq_false q))))) (fun q => (ne_of_beq_false q)))) (fun q => (Int.not_le.1 (of_decide_eq_false q))))) (fun q => (Int.not_le.1 (of_decide_eq_false q))))
            refine awp_reg2_seq [] [0, 7, 8, 9, 119] (by decide) ?_
            intro K1 hK1
            suffices key : K1 [(0, .str s), (7, .slice true (b.map byteAV)), (8, .int .i64 i), (9, .int .u8 ((gI s i).toNat)), (119, .bool (((((gI s i).toNat : Int) == 92) || (decide (((gI s i).toNat : Int) < 32))) || (decide (126 < ((gI s i).toNat : Int)))))] m by
              refine ⟨trivial, trivial, trivial, ?_⟩
              show aopsR _ _ _ _ _ [(122, .bool (((gI s i).toNat : Int) == 92)), (121, .bool (((gI s i).toNat : Int) == 92)), (120, .int .u8 ((gI s i).toNat)), (0, .str s), (7, .slice true (b.map byteAV)), (8, .int .i64 i), (9, .int .u8 ((gI s i).toNat)), (68, .bool (((((((gI s i).toNat : Int) == 92) && (decide (i + 3 < (s.length : Int)))) && (((gI s (i + 1)).toNat : Int) == 120)) && (decide (0 ≤ Lib.indexByte sixteenL (gI s (i + 2))))) && (decide (0 ≤ Lib.indexByte sixteenL (gI s (i + 3))))))] _
              revert key
              cases h13 : (((gI s i).toNat : Int) == 92)
              · replace h13 : ((gI s i).toNat : Int) ≠ 92 := (ne_of_beq_false h13)
                intro key
                refine ⟨trivial, trivial, ?_⟩
                refine ⟨trivial, ?_⟩
                show aopsR _ _ _ _ _ [(126, .bool (decide (((gI s i).toNat : Int) < 32))), (125, .bool (decide (((gI s i).toNat : Int) < 32))), (124, .bool (decide (((gI s i).toNat : Int) < 32))), (123, .int .u8 ((gI s i).toNat)), (122, .bool false), (121, .bool false), (120, .int .u8 ((gI s i).toNat)), (0, .str s), (7, .slice true (b.map byteAV)), (8, .int .i64 i), (9, .int .u8 ((gI s i).toNat)), (68, .bool false)] _
                revert key
                cases h14 : (decide (((gI s i).toNat : Int) < 32))
                · replace h14 : 32 ≤ ((gI s i).toNat : Int) := (Int.not_lt.1 (of_decide_eq_false h14))
                  intro key
                  refine ⟨trivial, trivial, ?_⟩
                  refine ⟨trivial, ?_⟩
                  exact key
                · replace h14 : ((gI s i).toNat : Int) < 32 := (of_decide_eq_true h14)
                  intro key
                  refine ar_off rfl (ar_off rfl ?_)
                  refine ⟨trivial, ?_⟩
                  exact key
              · replace h13 : ((gI s i).toNat : Int) = 92 := (eq_of_beq h13)
                intro key
                refine ar_off rfl (ar_off rfl ?_)
                refine ⟨trivial, ?_⟩
                refine ar_off rfl (ar_off rfl ?_)
                refine ⟨trivial, ?_⟩
                exact key
            refine hK1 _ _ ?_; clear hK1 K1
            refine awp_cond rfl rfl (fun h15 => ?_) (fun h15 => ?_)
            · replace h15 : ((((gI s i).toNat : Int) = 92) ∨ (((gI s i).toNat : Int) < 32)) ∨ (126 < ((gI s i).toNat : Int)) := ((borT h15).imp (fun q => ((borT q).imp (fun q => (eq_of_beq q)) (fun q => (of_decide_eq_true q)))) (fun q => (of_decide_eq_true q)))
              refine awp_reg2_seq [] [4, 5, 6] (by decide) ?_
              intro K1 hK1
              refine ⟨trivial, trivial, trivial, trivial, ?_⟩
              show K1 [(4, .str ([])), (5, .int .i64 0), (6, .iface 57 (.int .i64 4))] m
              refine hK1 _ _ ?_; clear hK1 K1
              refine awp_toErr 57 [6] ?_
              show AWP _ _ _ _ [(4, .str ([])), (5, .int .i64 0), (6, .err 57 4)] m
              refine awp_ret ?_
              refine ⟨trivial, trivial, trivial, _, fun _ _ h => h, ?_⟩
              show K (.tuple [.str ([]), .int .i64 0, .err 57 4]) m
             
              refine K_eq hK ?_
              rw [hI.2.2.2, hq, if_neg h2]; (repeat' split) <;> first | rfl | omega
            · replace h15 : ((((gI s i).toNat : Int) ≠ 92) ∧ (32 ≤ ((gI s i).toNat : Int))) ∧ (((gI s i).toNat : Int) ≤ 126) := ⟨⟨(ne_of_beq_false (borL (borL h15))), (Int.not_lt.1 (of_decide_eq_false (borR (borL h15))))⟩, (Int.not_lt.1 (of_decide_eq_false (borR h15)))⟩
              refine awp_reg2 [21] [0, 7, 8] (by decide) ?_
              intro K1 hK1
              refine ⟨trivial, trivial, ⟨rfl, Nat.le_of_ble_eq_true rfl, rfl, Nat.le_of_ble_eq_true rfl, rfl, by simp only [List.forall_mem_cons]; exact ⟨⟨rfl, rfl⟩, fun _ h => by cases h⟩⟩, ?_⟩
              refine ar_append rfl byteAV b ([gI s i] : List UInt8) rfl rfl rfl rfl rfl rfl (Nat.le_of_ble_eq_true rfl) rfl (by (simp only [show Try.prog.bytesOf 5 = 1 from rfl, List.length_append, List.length_cons, List.length_nil]; omega)) (by (simp only [List.length_append, List.length_cons, List.length_nil]; omega)) (fun _ => ⟨rfl, rfl⟩) ?_
              refine ⟨trivial, ?_⟩
              show K1 [(0, .str s), (7, .slice true ((b ++ ([gI s i] : List UInt8)).map byteAV)), (8, .int .i64 i)] m
              refine hK1 _ _ ?_; clear hK1 K1
              refine hK4 _ _ ?_; clear hK4
              refine awp_reg2 [] [0, 7, 8] (by decide) ?_
              intro K1 hK1
              refine ⟨trivial, ?_⟩
              refine ar_add rfl (a := i) (b := 1) rfl rfl (by omega) (by omega) ?_
              refine ⟨trivial, ?_⟩
              show K1 [(0, .str s), (7, .slice true ((b ++ ([gI s i] : List UInt8)).map byteAV)), (8, .int .i64 (i + 1))] m
              refine hK1 _ _ ?_; clear hK1 K1
              refine ⟨(b ++ ([gI s i] : List UInt8), i + 1), rfl, rfl, ?_, ?_⟩
              · show 0 ≤ ((i + 1 : Int)) ∧ ((i + 1 : Int)) ≤ s.length ∧ (((b ++ ([gI s i] : List UInt8) : (List UInt8))).length : Int) ≤ ((i + 1 : Int)) ∧ qI s (a + 1) [] = qI s ((i + 1 : Int)) ((b ++ ([gI s i] : List UInt8) : (List UInt8)))
                exact ⟨by omega, by omega, by simp; omega, by rw [hI.2.2.2, hq, if_neg h2, if_neg (by omega), if_pos (by omega)]⟩
              · show s.length - ((i + 1 : Int)).toNat < s.length - i.toNat
                omega
    · replace h1 : (s.length : Int) ≤ i := (Int.not_lt.1 (of_decide_eq_false h1))
      refine awp_exit ?_
      refine hK2 _ _ ?_; clear hK2
      refine awp_reg2_seq [] [4, 5, 6] (by decide) ?_
      intro K1 hK1
      refine ⟨trivial, trivial, trivial, trivial, ?_⟩
      show K1 [(4, .str ([])), (5, .int .i64 0), (6, .iface 57 (.int .i64 4))] m
      refine hK1 _ _ ?_; clear hK1 K1
      refine awp_toErr 57 [6] ?_
      show AWP _ _ _ _ [(4, .str ([])), (5, .int .i64 0), (6, .err 57 4)] m
      refine awp_ret ?_
      refine ⟨trivial, trivial, trivial, _, fun _ _ h => h, ?_⟩
      show K (.tuple [.str ([]), .int .i64 0, .err 57 4]) m
     
      refine K_eq hK ?_
      rw [hI.2.2.2, qI_end h1]; rfl

set_option maxHeartbeats 2000000 in
theorem u_refQuoted (s : List UInt8) (a : Int) (hs : s.length ≤ 16777216) (h0 : 0 ≤ a) (ha : a < s.length) (m : AMem) (K : AV → AMem → Prop) (hK : K (rresL (qI s (a + 1) [])) m) : ACalls Try.prog 41 [.str s, .int .i64 a] m K := by
  refine acalls_enter Try.func41 rfl (by decide) (Nat.le_of_ble_eq_true rfl) ?_
  show AWP _ _ _ _ [(0, .str s), (1, .int .i64 a)] m
  refine awp_reg2_seq [] [0, 1] (by decide) ?_
  intro K1 hK1
  refine ⟨trivial, trivial, trivial, trivial, ?_⟩
  show K1 [(0, .str s), (1, .int .i64 a)] m
  refine hK1 _ _ ?_; clear hK1 K1
  refine awp_reg2_seq [] [0, 1, 8] (by decide) ?_
  intro K1 hK1
  refine ⟨trivial, ?_⟩
  show K1 [(0, .str s), (1, .int .i64 a), (8, .slice true [])] m
  refine hK1 _ _ ?_; clear hK1 K1
  refine awp_reg2_seq [] [0, 8, 9] (by decide) ?_
  intro K1 hK1
  refine ⟨trivial, ?_⟩
  refine ar_add rfl (a := a) (b := 1) rfl rfl (by omega) (by omega) ?_
  refine ⟨trivial, ?_⟩
  show K1 [(0, .str s), (8, .slice true []), (9, .int .i64 (a + 1))] m
  refine hK1 _ _ ?_; clear hK1 K1
  refine awp_seq_k ?_; intro K2 hK2
  refine awp_block ?_
  refine awp_keep [0, 8, 9] (by decide) ?_
  refine awp_loop_st (σ := (List UInt8) × Int) (fun ⟨b, i⟩ => [(0, .str s), (8, .slice true (b.map byteAV)), (9, .int .i64 i)]) (fun _ => m) (fun ⟨b, i⟩ => 0 ≤ i ∧ i ≤ s.length ∧ (b.length : Int) ≤ i ∧ qI s (a + 1) [] = qI s i b) (fun ⟨b, i⟩ => s.length - i.toNat) ([], a + 1) rfl rfl ?_ ?_
  · show 0 ≤ ((a + 1 : Int)) ∧ ((a + 1 : Int)) ≤ s.length ∧ ((([] : (List UInt8))).length : Int) ≤ ((a + 1 : Int)) ∧ qI s (a + 1) [] = qI s ((a + 1 : Int)) (([] : (List UInt8)))
    exact ⟨by omega, by omega, by simp; omega, rfl⟩
  · rintro ⟨b, i⟩ hI
    replace hI : 0 ≤ i ∧ i ≤ s.length ∧ (b.length : Int) ≤ i ∧ qI s (a + 1) [] = qI s i b := hI
    show AWP _ _ _ _ [(0, .str s), (8, .slice true (b.map byteAV)), (9, .int .i64 i)] m
    refine awp_seq_k ?_; intro K3 hK3
    refine awp_reg2_seq [] [0, 8, 9, 16] (by decide) ?_
    intro K1 hK1
    refine ⟨trivial, trivial, trivial, trivial, ?_⟩
    show K1 [(0, .str s), (8, .slice true (b.map byteAV)), (9, .int .i64 i), (16, .bool (decide (i < (s.length : Int))))] m
    refine hK1 _ _ ?_; clear hK1 K1
    refine awp_cond rfl rfl (fun h1 => ?_) (fun h1 => ?_)
    · replace h1 : i < (s.length : Int) := (of_decide_eq_true h1)
      have hq := qI_all (b := b) hI.1 h1
      have x2 := hex_lt (gI s (i + 2))
      have x3 := hex_lt (gI s (i + 3))
      refine awp_skip ?_
      refine hK3 _ _ ?_; clear hK3
      refine awp_block ?_
      refine awp_reg2_seq [] [0, 8, 9, 10] (by decide) ?_
      intro K1 hK1
      refine ⟨trivial, trivial, ⟨(by omega), (by omega)⟩, trivial, ?_⟩
      show K1 [(0, .str s), (8, .slice true (b.map byteAV)), (9, .int .i64 i), (10, .int .u8 ((gI s i).toNat))] m
      refine hK1 _ _ ?_; clear hK1 K1
      refine awp_seq_k ?_; intro K4 hK4
      refine awp_reg2_seq [] [0, 8, 9, 10, 21] (by decide) ?_
      intro K1 hK1
      refine ⟨trivial, trivial, ?_⟩
      show K1 [(0, .str s), (8, .slice true (b.map byteAV)), (9, .int .i64 i), (10, .int .u8 ((gI s i).toNat)), (21, .bool (((gI s i).toNat : Int) == 34))] m
      refine hK1 _ _ ?_; clear hK1 K1
      refine awp_cond rfl rfl (fun h2 => ?_) (fun h2 => ?_)
      · replace h2 : ((gI s i).toNat : Int) = 34 := (eq_of_beq h2)
        refine awp_seq_k ?_; intro K5 hK5
        refine awp_reg2_seq [] [8, 9, 24] (by decide) ?_
        intro K1 hK1
        refine ⟨trivial, ?_⟩
        refine ar_len rfl byteAV b rfl rfl rfl ?_
        refine ⟨trivial, ?_⟩
        show K1 [(8, .slice true (b.map byteAV)), (9, .int .i64 i), (24, .bool (decide (40 < (b.length : Int))))] m
        refine hK1 _ _ ?_; clear hK1 K1
        refine awp_cond rfl rfl (fun h3 => ?_) (fun h3 => ?_)
        · replace h3 : 40 < (b.length : Int) := (of_decide_eq_true h3)
          refine awp_reg2_seq [] [4, 5, 6, 7] (by decide) ?_
          intro K1 hK1
          refine ⟨trivial, trivial, trivial, trivial, ?_⟩
          show K1 [(4, .int .i64 0), (5, .str ([])), (6, .int .i64 0), (7, .int .i64 1)] m
          refine hK1 _ _ ?_; clear hK1 K1
          refine awp_ret ?_
          refine ⟨trivial, trivial, trivial, trivial, _, fun _ _ h => h, ?_⟩
          show K (.tuple [.int .i64 0, .str ([]), .int .i64 0, .int .i64 1]) m
         
          refine K_eq hK ?_
          rw [hI.2.2.2, hq, if_pos h2, if_pos h3]; rfl
        · replace h3 : (b.length : Int) ≤ 40 := (Int.not_lt.1 (of_decide_eq_false h3))
          refine awp_skip ?_
          refine hK5 _ _ ?_; clear hK5
          refine awp_draw_seq Try.mixed [] [4, 5, 6, 7] (by decide) (by decide) ?_
          intro K1 hK1
          refine ⟨trivial, ?_⟩
          refine pq_toStr rfl b rfl rfl rfl rfl rfl ?_
          refine ⟨trivial, ?_⟩
          refine pq_add rfl (a := i) (b := 1) rfl rfl (by omega) (by omega) ?_
          refine ⟨trivial, trivial, trivial, trivial, ?_⟩
          show K1 [(4, .int .i64 3), (5, .str b), (6, .int .i64 (i + 1)), (7, .int .i64 0)] m
          refine hK1 _ _ ?_; clear hK1 K1
          refine awp_ret ?_
          refine ⟨trivial, trivial, trivial, trivial, _, fun _ _ h => h, ?_⟩
          show K (.tuple [.int .i64 3, .str b, .int .i64 (i + 1), .int .i64 0]) m
         
          refine K_eq hK ?_
          rw [hI.2.2.2, hq, if_pos h2, if_neg (by omega)]; rfl
      · replace h2 : ((gI s i).toNat : Int) ≠ 34 := (ne_of_beq_false h2)
        refine awp_skip ?_
        refine hK4 _ _ ?_; clear hK4
        refine awp_seq_k ?_; intro K6 hK6
        refine awp_reg2_seq [] [0, 8, 9, 10, 34] (by decide) ?_
        intro K1 hK1
        suffices key : K1 [(0, .str s), (8, .slice true (b.map byteAV)), (9, .int .i64 i), (10, .int .u8 ((gI s i).toNat)), (34, .bool ((decide (((gI s i).toNat : Int) < 32)) || (decide (126 < ((gI s i).toNat : Int)))))] m by
          refine ⟨trivial, trivial, trivial, ?_⟩
          show aopsR _ _ _ _ _ [(31, .bool (decide (((gI s i).toNat : Int) < 32))), (30, .bool (decide (((gI s i).toNat : Int) < 32))), (29, .int .u8 ((gI s i).toNat)), (0, .str s), (8, .slice true (b.map byteAV)), (9, .int .i64 i), (10, .int .u8 ((gI s i).toNat)), (21, .bool (((gI s i).toNat : Int) == 34))] _
          revert key
          cases h4 : (decide (((gI s i).toNat : Int) < 32))
          · replace h4 : 32 ≤ ((gI s i).toNat : Int) := (Int.not_lt.1 (of_decide_eq_false h4))
            intro key
            refine ⟨trivial, trivial, ?_⟩
            exact key
          · replace h4 : ((gI s i).toNat : Int) < 32 := (of_decide_eq_true h4)
            intro key
            refine ar_off rfl (ar_off rfl ?_)
            exact key
        refine hK1 _ _ ?_; clear hK1 K1
        refine awp_cond rfl rfl (fun h5 => ?_) (fun h5 => ?_)
        · replace h5 : (((gI s i).toNat : Int) < 32) ∨ (126 < ((gI s i).toNat : Int)) := ((borT h5).imp (fun q => (of_decide_eq_true q)) (fun q => (of_decide_eq_true q)))
          refine awp_reg2_seq [] [4, 5, 6, 7] (by decide) ?_
          intro K1 hK1
          refine ⟨trivial, trivial, trivial, trivial, ?_⟩
          show K1 [(4, .int .i64 0), (5, .str ([])), (6, .int .i64 0), (7, .int .i64 4)] m
          refine hK1 _ _ ?_; clear hK1 K1
          refine awp_ret ?_
          refine ⟨trivial, trivial, trivial, trivial, _, fun _ _ h => h, ?_⟩
          show K (.tuple [.int .i64 0, .str ([]), .int .i64 0, .int .i64 4]) m
         
          refine K_eq hK ?_
          rw [hI.2.2.2, hq, if_neg h2, if_pos (by omega)]; rfl
        · replace h5 : (32 ≤ ((gI s i).toNat : Int)) ∧ (((gI s i).toNat : Int) ≤ 126) := ⟨(Int.not_lt.1 (of_decide_eq_false (borL h5))), (Int.not_lt.1 (of_decide_eq_false (borR h5)))⟩
          refine awp_skip ?_
          refine hK6 _ _ ?_; clear hK6
          refine awp_seq_k ?_; intro K7 hK7
          refine awp_reg2_seq [] [0, 8, 9, 10, 36] (by decide) ?_
          intro K1 hK1
          refine ⟨trivial, trivial, ?_⟩
          show K1 [(0, .str s), (8, .slice true (b.map byteAV)), (9, .int .i64 i), (10, .int .u8 ((gI s i).toNat)), (36, .bool (!(((gI s i).toNat : Int) == 92)))] m
          refine hK1 _ _ ?_; clear hK1 K1
          refine awp_cond rfl rfl (fun h6 => ?_) (fun h6 => ?_)
          · replace h6 : ((gI s i).toNat : Int) ≠ 92 := (ne_of_beq_false (bnT h6))
            refine awp_reg2_seq [37] [0, 8, 9] (by decide) ?_
            intro K1 hK1
            refine ⟨trivial, trivial, ⟨rfl, Nat.le_of_ble_eq_true rfl, rfl, Nat.le_of_ble_eq_true rfl, rfl, by simp only [List.forall_mem_cons]; exact ⟨⟨rfl, rfl⟩, fun _ h => by cases h⟩⟩, ?_⟩
            refine ar_append rfl byteAV b ([gI s i] : List UInt8) rfl rfl rfl rfl rfl rfl (Nat.le_of_ble_eq_true rfl) rfl (by (simp only [show Try.prog.bytesOf 5 = 1 from rfl, List.length_append, List.length_cons, List.length_nil]; omega)) (by (simp only [List.length_append, List.length_cons, List.length_nil]; omega)) (fun _ => ⟨rfl, rfl⟩) ?_
            refine ⟨trivial, ?_⟩
            show K1 [(0, .str s), (8, .slice true ((b ++ ([gI s i] : List UInt8)).map byteAV)), (9, .int .i64 i)] m
            refine hK1 _ _ ?_; clear hK1 K1
            refine awp_reg2_seq [] [0, 8, 9] (by decide) ?_
            intro K1 hK1
            refine ⟨trivial, ?_⟩
            refine ar_add rfl (a := i) (b := 1) rfl rfl (by omega) (by omega) ?_
            refine ⟨trivial, ?_⟩
            show K1 [(0, .str s), (8, .slice true ((b ++ ([gI s i] : List UInt8)).map byteAV)), (9, .int .i64 (i + 1))] m
            refine hK1 _ _ ?_; clear hK1 K1
            refine awp_exit ?_
            refine ⟨(b ++ ([gI s i] : List UInt8), i + 1), rfl, rfl, ?_, ?_⟩
            · show 0 ≤ ((i + 1 : Int)) ∧ ((i + 1 : Int)) ≤ s.length ∧ (((b ++ ([gI s i] : List UInt8) : (List UInt8))).length : Int) ≤ ((i + 1 : Int)) ∧ qI s (a + 1) [] = qI s ((i + 1 : Int)) ((b ++ ([gI s i] : List UInt8) : (List UInt8)))
              exact ⟨by omega, by omega, by simp; omega, by rw [hI.2.2.2, hq, if_neg h2, if_neg (by omega), if_pos (by omega)]⟩
            · show s.length - ((i + 1 : Int)).toNat < s.length - i.toNat
              omega
          · replace h6 : ((gI s i).toNat : Int) = 92 := (eq_of_beq (bnF h6))
            refine awp_skip ?_
            refine hK7 _ _ ?_; clear hK7
            refine awp_seq_k ?_; intro K8 hK8
            refine awp_reg2_seq [] [0, 8, 9, 61] (by decide) ?_
            intro K1 hK1
            suffices key : K1 [(0, .str s), (8, .slice true (b.map byteAV)), (9, .int .i64 i), (61, .bool ((decide (i + 1 < (s.length : Int))) && ((((gI s (i + 1)).toNat : Int) == 34) || (((gI s (i + 1)).toNat : Int) == 92))))] m by
              refine ⟨trivial, ?_⟩
              refine ar_add rfl (a := i) (b := 1) rfl rfl (by omega) (by omega) ?_
              refine ⟨trivial, trivial, trivial, trivial, ?_⟩
              show aopsR _ _ _ _ _ [(48, .bool (decide (i + 1 < (s.length : Int)))), (47, .bool (decide (i + 1 < (s.length : Int)))), (46, .int .i64 (s.length : Int)), (45, .str s), (44, .int .i64 (i + 1)), (43, .int .i64 i), (0, .str s), (8, .slice true (b.map byteAV)), (9, .int .i64 i), (10, .int .u8 ((gI s i).toNat)), (36, .bool (!(((gI s i).toNat : Int) == 92)))] _
              revert key
              cases h7 : (decide (i + 1 < (s.length : Int)))
              · replace h7 : (s.length : Int) ≤ i + 1 := (Int.not_lt.1 (of_decide_eq_false h7))
                intro key
                refine ar_off rfl (ar_off rfl (ar_off rfl (ar_off rfl (ar_off rfl (ar_off rfl (ar_off rfl (ar_off rfl (ar_off rfl (ar_off rfl (ar_off rfl (ar_off rfl ?_)))))))))))
                exact key
              · replace h7 : i + 1 < (s.length : Int) := (of_decide_eq_true h7)
                intro key
                refine ⟨trivial, trivial, ?_⟩
                refine ar_add rfl (a := i) (b := 1) rfl rfl (by omega) (by omega) ?_
                refine ⟨⟨(by omega), (by omega)⟩, trivial, trivial, ?_⟩
                show aopsR _ _ _ _ _ [(54, .bool (((gI s (i + 1)).toNat : Int) == 34)), (53, .bool (((gI s (i + 1)).toNat : Int) == 34)), (52, .int .u8 ((gI s (i + 1)).toNat)), (51, .int .i64 (i + 1)), (50, .int .i64 i), (49, .str s), (48, .bool true), (47, .bool true), (46, .int .i64 (s.length : Int)), (45, .str s), (44, .int .i64 (i + 1)), (43, .int .i64 i), (0, .str s), (8, .slice true (b.map byteAV)), (9, .int .i64 i), (10, .int .u8 ((gI s i).toNat)), (36, .bool (!(((gI s i).toNat : Int) == 92)))] _
                revert key
                cases h8 : (((gI s (i + 1)).toNat : Int) == 34)
                · replace h8 : ((gI s (i + 1)).toNat : Int) ≠ 34 := (ne_of_beq_false h8)
                  intro key
                  refine ⟨trivial, trivial, ?_⟩
                  refine ar_add rfl (a := i) (b := 1) rfl rfl (by omega) (by omega) ?_
                  refine ⟨⟨(by omega), (by omega)⟩, trivial, ?_⟩
                  exact key
                · replace h8 : ((gI s (i + 1)).toNat : Int) = 34 := (eq_of_beq h8)
                  intro key
                  refine ar_off rfl (ar_off rfl (ar_off rfl (ar_off rfl (ar_off rfl ?_))))
                  exact key
            refine hK1 _ _ ?_; clear hK1 K1
            refine awp_cond rfl rfl (fun h9 => ?_) (fun h9 => ?_)
            · replace h9 : (i + 1 < (s.length : Int)) ∧ ((((gI s (i + 1)).toNat : Int) = 34) ∨ (((gI s (i + 1)).toNat : Int) = 92)) := ⟨(of_decide_eq_true (bandL h9)), ((borT (bandR h9)).imp (fun q => (eq_of_beq q)) (fun q => (eq_of_beq q)))⟩
              refine awp_reg2_seq [62] [0, 8, 9] (by decide) ?_
              intro K1 hK1
              refine ⟨trivial, trivial, trivial, ?_⟩
              refine ar_add rfl (a := i) (b := 1) rfl rfl (by omega) (by omega) ?_
              refine ⟨⟨(by omega), (by omega)⟩, ⟨rfl, Nat.le_of_ble_eq_true rfl, rfl, Nat.le_of_ble_eq_true rfl, rfl, by simp only [List.forall_mem_cons]; exact ⟨⟨rfl, rfl⟩, fun _ h => by cases h⟩⟩, ?_⟩
              refine ar_append rfl byteAV b ([gI s (i + 1)] : List UInt8) rfl rfl rfl rfl rfl rfl (Nat.le_of_ble_eq_true rfl) rfl (by (simp only [show Try.prog.bytesOf 5 = 1 from rfl, List.length_append, List.length_cons, List.length_nil]; omega)) (by (simp only [List.length_append, List.length_cons, List.length_nil]; omega)) (fun _ => ⟨rfl, rfl⟩) ?_
              refine ⟨trivial, ?_⟩
              show K1 [(0, .str s), (8, .slice true ((b ++ ([gI s (i + 1)] : List UInt8)).map byteAV)), (9, .int .i64 i)] m
              refine hK1 _ _ ?_; clear hK1 K1
              refine awp_reg2_seq [] [0, 8, 9] (by decide) ?_
              intro K1 hK1
              refine ⟨trivial, ?_⟩
              refine ar_add rfl (a := i) (b := 2) rfl rfl (by omega) (by omega) ?_
              refine ⟨trivial, ?_⟩
              show K1 [(0, .str s), (8, .slice true ((b ++ ([gI s (i + 1)] : List UInt8)).map byteAV)), (9, .int .i64 (i + 2))] m
              refine hK1 _ _ ?_; clear hK1 K1
              refine awp_exit ?_
              refine ⟨(b ++ ([gI s (i + 1)] : List UInt8), i + 2), rfl, rfl, ?_, ?_⟩
              · show 0 ≤ ((i + 2 : Int)) ∧ ((i + 2 : Int)) ≤ s.length ∧ (((b ++ ([gI s (i + 1)] : List UInt8) : (List UInt8))).length : Int) ≤ ((i + 2 : Int)) ∧ qI s (a + 1) [] = qI s ((i + 2 : Int)) ((b ++ ([gI s (i + 1)] : List UInt8) : (List UInt8)))
                exact ⟨by omega, by omega, by simp; omega, by rw [hI.2.2.2, hq, if_neg h2, if_neg (by omega), if_neg (by omega), if_pos (by omega)]⟩
              · show s.length - ((i + 2 : Int)).toNat < s.length - i.toNat
                omega
            · replace h9 : ((s.length : Int) ≤ i + 1) ∨ ((((gI s (i + 1)).toNat : Int) ≠ 34) ∧ (((gI s (i + 1)).toNat : Int) ≠ 92)) := ((bandF h9).imp (fun q => (Int.not_lt.1 (of_decide_eq_false q))) (fun q => ⟨(ne_of_beq_false (borL q)), (ne_of_beq_false (borR q))⟩))
              refine awp_skip ?_
              refine hK8 _ _ ?_; clear hK8
              refine awp_seq_k ?_; intro K9 hK9
              refine awp_reg2_seq [] [0, 8, 9, 98] (by decide) ?_
              intro K1 hK1
              suffices key : K1 [(0, .str s), (8, .slice true (b.map byteAV)), (9, .int .i64 i), (98, .bool ((((decide (i + 3 < (s.length : Int))) && (((gI s (i + 1)).toNat : Int) == 120)) && (decide (0 ≤ Lib.indexByte sixteenL (gI s (i + 2))))) && (decide (0 ≤ Lib.indexByte sixteenL (gI s (i + 3))))))] m by
                refine ⟨trivial, ?_⟩
                refine ar_add rfl (a := i) (b := 3) rfl rfl (by omega) (by omega) ?_
                refine ⟨trivial, trivial, trivial, trivial, ?_⟩
                show aopsR _ _ _ _ _ [(76, .bool (decide (i + 3 < (s.length : Int)))), (75, .bool (decide (i + 3 < (s.length : Int)))), (74, .int .i64 (s.length : Int)), (73, .str s), (72, .int .i64 (i + 3)), (71, .int .i64 i), (0, .str s), (8, .slice true (b.map byteAV)), (9, .int .i64 i), (61, .bool ((decide (i + 1 < (s.length : Int))) && ((((gI s (i + 1)).toNat : Int) == 34) || (((gI s (i + 1)).toNat : Int) == 92))))] _
                revert key
                cases h10 : (decide (i + 3 < (s.length : Int)))
                · replace h10 : (s.length : Int) ≤ i + 3 := (Int.not_lt.1 (of_decide_eq_false h10))
                  intro key
                  refine ar_off rfl (ar_off rfl (ar_off rfl (ar_off rfl (ar_off rfl ?_))))
                  refine ⟨trivial, ?_⟩
                  refine ar_off rfl (ar_off rfl (ar_off rfl (ar_off rfl (ar_off rfl (ar_off rfl ?_)))))
                  refine ⟨trivial, ?_⟩
                  refine ar_off rfl (ar_off rfl (ar_off rfl (ar_off rfl (ar_off rfl (ar_off rfl ?_)))))
                  exact key
                · replace h10 : i + 3 < (s.length : Int) := (of_decide_eq_true h10)
                  intro key
                  refine ⟨trivial, trivial, ?_⟩
                  refine ar_add rfl (a := i) (b := 1) rfl rfl (by omega) (by omega) ?_
                  refine ⟨⟨(by omega), (by omega)⟩, trivial, ?_⟩
                  refine ⟨trivial, ?_⟩
                  show aopsR _ _ _ _ _ [(83, .bool (((gI s (i + 1)).toNat : Int) == 120)), (82, .bool (((gI s (i + 1)).toNat : Int) == 120)), (81, .bool (((gI s (i + 1)).toNat : Int) == 120)), (80, .int .u8 ((gI s (i + 1)).toNat)), (79, .int .i64 (i + 1)), (78, .int .i64 i), (77, .str s), (76, .bool true), (75, .bool true), (74, .int .i64 (s.length : Int)), (73, .str s), (72, .int .i64 (i + 3)), (71, .int .i64 i), (0, .str s), (8, .slice true (b.map byteAV)), (9, .int .i64 i), (61, .bool ((decide (i + 1 < (s.length : Int))) && ((((gI s (i + 1)).toNat : Int) == 34) || (((gI s (i + 1)).toNat : Int) == 92))))] _
                  revert key
                  cases h11 : (((gI s (i + 1)).toNat : Int) == 120)
                  · replace h11 : ((gI s (i + 1)).toNat : Int) ≠ 120 := (ne_of_beq_false h11)
                    intro key
                    refine ar_off rfl (ar_off rfl (ar_off rfl (ar_off rfl (ar_off rfl (ar_off rfl ?_)))))
                    refine ⟨trivial, ?_⟩
                    refine ar_off rfl (ar_off rfl (ar_off rfl (ar_off rfl (ar_off rfl (ar_off rfl ?_)))))
                    exact key
                  · replace h11 : ((gI s (i + 1)).toNat : Int) = 120 := (eq_of_beq h11)
                    intro key
                    refine ⟨trivial, trivial, ?_⟩
                    refine ar_add rfl (a := i) (b := 2) rfl rfl (by omega) (by omega) ?_
                    refine ⟨⟨(by omega), (by omega)⟩, ?_⟩
                    refine t_digitOf (gI s (i + 2)) _ _ ?_
                    refine ⟨trivial, ?_⟩
                    refine ⟨trivial, ?_⟩
                    show aopsR _ _ _ _ _ [(91, .bool (decide (0 ≤ Lib.indexByte sixteenL (gI s (i + 2))))), (90, .bool (decide (0 ≤ Lib.indexByte sixteenL (gI s (i + 2))))), (89, .bool (decide (0 ≤ Lib.indexByte sixteenL (gI s (i + 2))))), (88, .int .i64 (Lib.indexByte sixteenL (gI s (i + 2)))), (87, .int .u8 ((gI s (i + 2)).toNat)), (86, .int .i64 (i + 2)), (85, .int .i64 i), (84, .str s), (83, .bool true), (82, .bool true), (81, .bool true), (80, .int .u8 ((gI s (i + 1)).toNat)), (79, .int .i64 (i + 1)), (78, .int .i64 i), (77, .str s), (76, .bool true), (75, .bool true), (74, .int .i64 (s.length : Int)), (73, .str s), (72, .int .i64 (i + 3)), (71, .int .i64 i), (0, .str s), (8, .slice true (b.map byteAV)), (9, .int .i64 i), (61, .bool ((decide (i + 1 < (s.length : Int))) && ((((gI s (i + 1)).toNat : Int) == 34) || (((gI s (i + 1)).toNat : Int) == 92))))] _
                    revert key
                    cases h12 : (decide (0 ≤ Lib.indexByte sixteenL (gI s (i + 2))))
                    · replace h12 : Lib.indexByte sixteenL (gI s (i + 2)) < 0 := (Int.not_le.1 (of_decide_eq_false h12))
                      intro key
                      refine ar_off rfl (ar_off rfl (ar_off rfl (ar_off rfl (ar_off rfl (ar_off rfl ?_)))))
                      exact key
                    · replace h12 : 0 ≤ Lib.indexByte sixteenL (gI s (i + 2)) := (of_decide_eq_true h12)
                      intro key
                      refine ⟨trivial, trivial, ?_⟩
                      refine ar_add rfl (a := i) (b := 3) rfl rfl (by omega) (by omega) ?_
                      refine ⟨⟨(by omega), (by omega)⟩, ?_⟩
                      refine t_digitOf (gI s (i + 3)) _ _ ?_
                      refine ⟨trivial, ?_⟩
                      exact key
              refine hK1 _ _ ?_; clear hK1 K1
              refine awp_cond rfl rfl (fun h13 => ?_) (fun h13 => ?_)
              · replace h13 : (((i + 3 < (s.length : Int)) ∧ (((gI s (i + 1)).toNat : Int) = 120)) ∧ (0 ≤ Lib.indexByte sixteenL (gI s (i + 2)))) ∧ (0 ≤ Lib.indexByte sixteenL (gI s (i + 3))) := ⟨⟨⟨(of_decide_eq_true (bandL (bandL (bandL h13)))), (eq_of_beq (bandR (bandL (bandL h13))))⟩, (of_decide_eq_true (bandR (bandL h13)))⟩, (of_decide_eq_true (bandR h13))⟩
                refine awp_draw_tail2_seq Try.mixed 15 [(99, 8)] [(.int .i64 (Lib.indexByte sixteenL (gI s (i + 2)))), (.int .i64 (Lib.indexByte sixteenL (gI s (i + 3))))] [] [0, 8, 9] (by decide) (by decide) ?_
                intro K1 hK1
                refine ⟨trivial, trivial, trivial, ?_⟩
                refine pq_add rfl (a := i) (b := 2) rfl rfl (by omega) (by omega) ?_
                refine ⟨⟨(by omega), (by omega)⟩, (fun Kc hKc => t_digitOf (gI s (i + 2)) _ Kc hKc), ?_⟩
                refine pq_mul rfl (a := 16) (b := Lib.indexByte sixteenL (gI s (i + 2))) rfl rfl (by omega) (by omega) ?_
                refine ⟨trivial, trivial, ?_⟩
                refine pq_add rfl (a := i) (b := 3) rfl rfl (by omega) (by omega) ?_
                refine ⟨⟨(by omega), (by omega)⟩, (fun Kc hKc => t_digitOf (gI s (i + 3)) _ Kc hKc), ?_⟩
                refine pq_add rfl (a := 16 * (Lib.indexByte sixteenL (gI s (i + 2)))) (b := Lib.indexByte sixteenL (gI s (i + 3))) rfl rfl (by omega) (by omega) ?_
                refine pq_toU8 rfl (a := ((16 * (Lib.indexByte sixteenL (gI s (i + 2)))) + (Lib.indexByte sixteenL (gI s (i + 3))))) rfl rfl rfl ?_
                refine ⟨⟨rfl, Nat.le_of_ble_eq_true rfl, rfl, Nat.le_of_ble_eq_true rfl, rfl, by simp only [List.forall_mem_cons]; exact ⟨⟨rfl, rfl⟩, fun _ h => by cases h⟩⟩, ?_⟩
                show aopsR _ _ _ _ _ [(99, .slice true (b.map byteAV)), (8, .slice false (b.map byteAV)), (113, .slice false [.int .u8 (((u8w ((16 * (Lib.indexByte sixteenL (gI s (i + 2)))) + (Lib.indexByte sixteenL (gI s (i + 3)))))).toNat)]), (112, .int .u8 (((u8w ((16 * (Lib.indexByte sixteenL (gI s (i + 2)))) + (Lib.indexByte sixteenL (gI s (i + 3)))))).toNat)), (111, .int .i64 ((16 * (Lib.indexByte sixteenL (gI s (i + 2)))) + (Lib.indexByte sixteenL (gI s (i + 3))))), (110, .int .i64 (Lib.indexByte sixteenL (gI s (i + 3)))), (109, .int .u8 ((gI s (i + 3)).toNat)), (108, .int .i64 (i + 3)), (107, .int .i64 i), (106, .str s), (105, .int .i64 (16 * (Lib.indexByte sixteenL (gI s (i + 2))))), (104, .int .i64 (Lib.indexByte sixteenL (gI s (i + 2)))), (103, .int .u8 ((gI s (i + 2)).toNat)), (102, .int .i64 (i + 2)), (101, .int .i64 i), (100, .str s), (99, .slice false (b.map byteAV)), (0, .str s), (8, .slice true (b.map byteAV)), (9, .int .i64 i), (98, .bool ((((decide (i + 3 < (s.length : Int))) && (((gI s (i + 1)).toNat : Int) == 120)) && (decide (0 ≤ Lib.indexByte sixteenL (gI s (i + 2))))) && (decide (0 ≤ Lib.indexByte sixteenL (gI s (i + 3))))))] _
                refine ar_append rfl byteAV b ([(u8w ((16 * (Lib.indexByte sixteenL (gI s (i + 2)))) + (Lib.indexByte sixteenL (gI s (i + 3)))))] : List UInt8) rfl rfl rfl rfl rfl rfl (Nat.le_of_ble_eq_true rfl) rfl (by (simp only [show Try.prog.bytesOf 5 = 1 from rfl, List.length_append, List.length_cons, List.length_nil]; omega)) (by (simp only [List.length_append, List.length_cons, List.length_nil]; omega)) (fun _ => ⟨rfl, rfl⟩) ?_
                refine ⟨trivial, ?_⟩
                show K1 [(0, .str s), (8, .slice true ((b ++ ([(u8w ((16 * (Lib.indexByte sixteenL (gI s (i + 2)))) + (Lib.indexByte sixteenL (gI s (i + 3)))))] : List UInt8)).map byteAV)), (9, .int .i64 i)] m
                refine hK1 _ _ ?_; clear hK1 K1
                refine awp_reg2_seq [] [0, 8, 9] (by decide) ?_
                intro K1 hK1
                refine ⟨trivial, ?_⟩
                refine ar_add rfl (a := i) (b := 4) rfl rfl (by omega) (by omega) ?_
                refine ⟨trivial, ?_⟩
                show K1 [(0, .str s), (8, .slice true ((b ++ ([(u8w ((16 * (Lib.indexByte sixteenL (gI s (i + 2)))) + (Lib.indexByte sixteenL (gI s (i + 3)))))] : List UInt8)).map byteAV)), (9, .int .i64 (i + 4))] m
                refine hK1 _ _ ?_; clear hK1 K1
                refine awp_exit ?_
                refine ⟨(b ++ ([(u8w ((16 * (Lib.indexByte sixteenL (gI s (i + 2)))) + (Lib.indexByte sixteenL (gI s (i + 3)))))] : List UInt8), i + 4), rfl, rfl, ?_, ?_⟩
                · show 0 ≤ ((i + 4 : Int)) ∧ ((i + 4 : Int)) ≤ s.length ∧ (((b ++ ([(u8w ((16 * (Lib.indexByte sixteenL (gI s (i + 2)))) + (Lib.indexByte sixteenL (gI s (i + 3)))))] : List UInt8) : (List UInt8))).length : Int) ≤ ((i + 4 : Int)) ∧ qI s (a + 1) [] = qI s ((i + 4 : Int)) ((b ++ ([(u8w ((16 * (Lib.indexByte sixteenL (gI s (i + 2)))) + (Lib.indexByte sixteenL (gI s (i + 3)))))] : List UInt8) : (List UInt8)))
                  exact ⟨by omega, by omega, by simp; omega, by rw [hI.2.2.2, hq, if_neg h2, if_neg (by omega), if_neg (by omega), if_neg (by omega), if_pos (by omega), u8_add _ _ (by omega) (by omega) (by omega) (by omega)]⟩
                · show s.length - ((i + 4 : Int)).toNat < s.length - i.toNat
                  omega
              · replace h13 : ((((s.length : Int) ≤ i + 3) ∨ (((gI s (i + 1)).toNat : Int) ≠ 120)) ∨ (Lib.indexByte sixteenL (gI s (i + 2)) < 0)) ∨ (Lib.indexByte sixteenL (gI s (i + 3)) < 0) := ((bandF h13).imp (fun q => ((bandF q).imp (fun q => ((bandF q).imp (fun q => (Int.not_lt.1 (of_decide_eq_false q))) (fun q => (ne_of_beq_false q)))) (fun q => (Int.not_le.1 (of_decide_eq_false q))))) (fun q => (Int.not_le.1 (of_decide_eq_false q))))
                refine awp_skip ?_
                refine hK9 _ _ ?_; clear hK9
                refine awp_reg2_seq [] [4, 5, 6, 7] (by decide) ?_
                intro K1 hK1
                refine ⟨trivial, trivial, trivial, trivial, ?_⟩
                show K1 [(4, .int .i64 0), (5, .str ([])), (6, .int .i64 0), (7, .int .i64 4)] m
                refine hK1 _ _ ?_; clear hK1 K1
                refine awp_ret ?_
                refine ⟨trivial, trivial, trivial, trivial, _, fun _ _ h => h, ?_⟩
                show K (.tuple [.int .i64 0, .str ([]), .int .i64 0, .int .i64 4]) m
               
                refine K_eq hK ?_
                rw [hI.2.2.2, hq, if_neg h2]; (repeat' split) <;> first | rfl | omega
    · replace h1 : (s.length : Int) ≤ i := (Int.not_lt.1 (of_decide_eq_false h1))
      refine awp_exit ?_
      refine hK2 _ _ ?_; clear hK2
      refine awp_reg2_seq [] [4, 5, 6, 7] (by decide) ?_
      intro K1 hK1
      refine ⟨trivial, trivial, trivial, trivial, ?_⟩
      show K1 [(4, .int .i64 0), (5, .str ([])), (6, .int .i64 0), (7, .int .i64 4)] m
      refine hK1 _ _ ?_; clear hK1 K1
      refine awp_ret ?_
      refine ⟨trivial, trivial, trivial, trivial, _, fun _ _ h => h, ?_⟩
      show K (.tuple [.int .i64 0, .str ([]), .int .i64 0, .int .i64 4]) m
     
      refine K_eq hK ?_
      rw [hI.2.2.2, qI_end h1]; rfl

end Go.Proofs
