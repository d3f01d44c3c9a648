import Derived.Test.YtfpbolgpaipiiaaProg
import Derived.Test.YtfpbolgpaipiiaaMix
import Derived.Test.YtfpbolgpaipiiaaWxc
import Derived.Test.YtfpbolgpaipiiaaLx6
namespace Go.Proofs
open Go Go.Aw
set_option maxRecDepth 100000


def hexD (n : Nat) : UInt8 := sixteenL.getD n 0
def escB (c : UInt8) : List UInt8 := if c.toNat = 34 ∨ c.toNat = 92 then [92, c] else if c.toNat < 32 ∨ 126 < c.toNat then [92, 120, hexD (c.toNat / 16), hexD (c.toNat % 16)] else [c]
def quoteS (s : List UInt8) : List UInt8 := 34 :: s.flatMap escB ++ [34]
theorem byte_all {p : UInt8 → Bool} (h : ∀ n : Fin 256, p (UInt8.ofNat n.1) = true) (c : UInt8) : p c = true := by
  have := h ⟨c.toNat, c.toNat_lt⟩
  simpa using this
theorem shr_four (c : UInt8) : Int.fdiv (c.toNat : Int) (2 ^ (min (Int.toNat 4) IntKind.u8.bits)) = ((c.toNat / 16 : Nat) : Int) := by
  have h := byte_all (p := fun c => decide (Int.fdiv (c.toNat : Int) (2 ^ (min (Int.toNat 4) IntKind.u8.bits)) = ((c.toNat / 16 : Nat) : Int))) (by decide +kernel) c
  simpa using h
theorem and_low (c : UInt8) : IntKind.u8.wrap (BitVec.ofInt IntKind.u8.bits (c.toNat : Int) &&& BitVec.ofInt IntKind.u8.bits 15).toNat = ((c.toNat % 16 : Nat) : Int) := by
  have h := byte_all (p := fun c => decide (IntKind.u8.wrap (BitVec.ofInt IntKind.u8.bits (c.toNat : Int) &&& BitVec.ofInt IntKind.u8.bits 15).toNat = ((c.toNat % 16 : Nat) : Int))) (by decide +kernel) c
  simpa using h
theorem escB_len (c : UInt8) : (escB c).length ≤ 4 := by unfold escB; split <;> (try split) <;> simp
theorem esc_len (s : List UInt8) : (s.flatMap escB).length ≤ 4 * s.length := by
  induction s with
  | nil => simp
  | cons c s ih => have := escB_len c; rw [List.flatMap_cons, List.length_append, List.length_cons]; omega
theorem take_succ_gI' {α : Type} [Inhabited α] {l : List α} {i : Int} (h0 : 0 ≤ i) (hi : i < l.length) : l.take (i + 1).toNat = l.take i.toNat ++ [gI l i] := by
  have e : (i + 1).toNat = i.toNat + 1 := by omega
  have hn : i.toNat < l.length := by omega
  rw [e, List.take_succ_eq_append_getElem hn]
  simp [gI, List.getD_eq_getElem?_getD, hn]
theorem esc_step {s : List UInt8} {i : Int} {b : List UInt8} (h0 : 0 ≤ i) (hi : i < s.length) (hb : b = 34 :: (s.take i.toNat).flatMap escB) : b ++ escB (gI s i) = 34 :: (s.take (i + 1).toNat).flatMap escB := by
  rw [take_succ_gI' h0 hi, List.flatMap_append, hb]; simp
theorem hexD_gI (n : Nat) : gI ([48, 49, 50, 51, 52, 53, 54, 55, 56, 57, 97, 98, 99, 100, 101, 102] : List UInt8) ((n : Nat) : Int) = hexD n := rfl

set_option maxHeartbeats 2000000 in
theorem u_Quote (s : List UInt8) (hs : s.length ≤ 16777216) (m : AMem)  (K : AV → AMem → Prop) (hK : K (.str (quoteS s)) m) : ACalls Try.prog 26 [.str s] m K := by
  refine acalls_enter Try.func26 rfl (by decide) (Nat.le_of_ble_eq_true rfl) ?_
  show AWP _ _ _ _ [(0, .str s)] m
  refine awp_reg2_seq [] [0] (by decide) ?_
  intro K1 hK1
  refine ⟨trivial, ?_⟩
  show K1 [(0, .str s)] m
  refine hK1 _ _ ?_; clear hK1 K1
  refine awp_reg2_seq [] [0, 3] (by decide) ?_
  intro K1 hK1
  refine ⟨⟨rfl, Nat.le_of_ble_eq_true rfl, rfl, Nat.le_of_ble_eq_true rfl, rfl, by simp only [List.forall_mem_cons]; exact ⟨⟨rfl, rfl⟩, fun _ h => by cases h⟩⟩, trivial, ?_⟩
  show K1 [(0, .str s), (3, .slice true [.int .u8 34])] m
  refine hK1 _ _ ?_; clear hK1 K1
  refine awp_seq_k ?_; intro K2 hK2
  refine awp_reg2_seq [] [0, 3, 8, 9] (by decide) ?_
  intro K1 hK1
  refine ⟨trivial, trivial, trivial, ?_⟩
  show K1 [(0, .str s), (3, .slice true [.int .u8 34]), (8, .int .i64 (s.length : Int)), (9, .int .i64 0)] m
  refine hK1 _ _ ?_; clear hK1 K1
  refine awp_block ?_
  refine awp_keep [0, 3, 8, 9] (by decide) ?_
  refine awp_loop_st (σ := (List UInt8) × Int) (fun ⟨b, i⟩ => [(0, .str s), (3, .slice true (b.map byteAV)), (8, .int .i64 (s.length : Int)), (9, .int .i64 i)]) (fun _ => m) (fun ⟨b, i⟩ => 0 ≤ i ∧ i ≤ s.length ∧ b = 34 :: (s.take i.toNat).flatMap escB) (fun ⟨b, i⟩ => s.length - i.toNat) ([34], 0) rfl rfl ?_ ?_
  · show 0 ≤ ((0 : Int)) ∧ ((0 : Int)) ≤ s.length ∧ (([34] : (List UInt8))) = 34 :: (s.take ((0 : Int)).toNat).flatMap escB
    exact ⟨by omega, by omega, rfl⟩
  · rintro ⟨b, i⟩ hI
    replace hI : 0 ≤ i ∧ i ≤ s.length ∧ b = 34 :: (s.take i.toNat).flatMap escB := hI
    have hbl : b.length ≤ 1 + 4 * s.length := by
      have h1 := esc_len (s.take i.toNat)
      have h2 : (s.take i.toNat).length ≤ s.length := by rw [List.length_take]; omega
      rw [hI.2.2, List.length_cons]; omega
    have hq1 := shr_four (gI s i)
    have hq2 := and_low (gI s i)
    have hq3 := (gI s i).toNat_lt
    show AWP _ _ _ _ [(0, .str s), (3, .slice true (b.map byteAV)), (8, .int .i64 (s.length : Int)), (9, .int .i64 i)] m
    refine awp_reg2_seq [] [0, 3, 8, 9, 10] (by decide) ?_
    intro K1 hK1
    refine ⟨trivial, ?_⟩
    show K1 [(0, .str s), (3, .slice true (b.map byteAV)), (8, .int .i64 (s.length : Int)), (9, .int .i64 i), (10, .bool (decide (i < (s.length : Int))))] m
    refine hK1 _ _ ?_; clear hK1 K1
    refine awp_seq_k ?_; intro K3 hK3
    refine awp_cond rfl rfl (fun h1 => ?_) (fun h1 => ?_)
    · replace h1 : i < (s.length : Int) := (of_decide_eq_true h1)
      refine awp_skip ?_
      refine hK3 _ _ ?_; clear hK3
      refine awp_seq_k ?_; intro K4 hK4
      refine awp_block ?_
      refine awp_reg2_seq [] [0, 3, 4, 8, 9] (by decide) ?_
      intro K1 hK1
      refine ⟨trivial, trivial, ?_⟩
      show K1 [(0, .str s), (3, .slice true (b.map byteAV)), (4, .int .i64 i), (8, .int .i64 (s.length : Int)), (9, .int .i64 i)] m
      refine hK1 _ _ ?_; clear hK1 K1
      refine awp_reg2_seq [] [0, 3, 5, 8, 9] (by decide) ?_
      intro K1 hK1
      refine ⟨trivial, trivial, ⟨(by omega), (by first | omega | (show _ < (16 : Int); omega))⟩, trivial, ?_⟩
      show K1 [(0, .str s), (3, .slice true (b.map byteAV)), (5, .int .u8 ((gI s i).toNat)), (8, .int .i64 (s.length : Int)), (9, .int .i64 i)] m
      refine hK1 _ _ ?_; clear hK1 K1
      refine awp_block ?_
      refine awp_reg2_seq [] [0, 3, 5, 8, 9, 19] (by decide) ?_
      intro K1 hK1
      suffices key : K1 [(0, .str s), (3, .slice true (b.map byteAV)), (5, .int .u8 ((gI s i).toNat)), (8, .int .i64 (s.length : Int)), (9, .int .i64 i), (19, .bool ((((gI s i).toNat : Int) == 34) || (((gI s i).toNat : Int) == 92)))] m by
        refine ⟨trivial, trivial, trivial, ?_⟩
        show aopsR _ _ _ _ _ [(22, .bool (((gI s i).toNat : Int) == 34)), (21, .bool (((gI s i).toNat : Int) == 34)), (20, .int .u8 ((gI s i).toNat)), (0, .str s), (3, .slice true (b.map byteAV)), (5, .int .u8 ((gI s i).toNat)), (8, .int .i64 (s.length : Int)), (9, .int .i64 i)] _
        revert key
        cases h2 : (((gI s i).toNat : Int) == 34)
        · replace h2 : ((gI s i).toNat : Int) ≠ 34 := (ne_of_beq_false h2)
          intro key
          refine ⟨trivial, trivial, ?_⟩
          refine ⟨trivial, ?_⟩
          exact key
        · replace h2 : ((gI s i).toNat : Int) = 34 := (eq_of_beq h2)
          intro key
          refine ar_off rfl (ar_off rfl ?_)
          refine ⟨trivial, ?_⟩
          exact key
      refine hK1 _ _ ?_; clear hK1 K1
      refine awp_cond rfl rfl (fun h3 => ?_) (fun h3 => ?_)
      · replace h3 : (((gI s i).toNat : Int) = 34) ∨ (((gI s i).toNat : Int) = 92) := ((borT h3).imp (fun q => (eq_of_beq q)) (fun q => (eq_of_beq q)))
        refine awp_reg2 [26] [0, 3, 8, 9] (by decide) ?_
        intro K1 hK1
        refine ⟨trivial, trivial, ⟨rfl, Nat.le_of_ble_eq_true rfl, rfl, Nat.le_of_ble_eq_true rfl, rfl, by simp only [List.forall_mem_cons]; exact ⟨⟨rfl, rfl⟩, ⟨rfl, rfl⟩, fun _ h => by cases h⟩⟩, ?_⟩
        refine ar_append rfl byteAV b ([92, gI s i] : List UInt8) rfl rfl rfl rfl rfl rfl (Nat.le_of_ble_eq_true rfl) rfl (by (simp only [show Try.prog.bytesOf 5 = 1 from rfl, List.length_append, List.length_cons, List.length_nil]; omega)) (by (first | omega | (simp only [List.length_append, List.length_cons, List.length_nil]; omega))) (fun _ => ⟨rfl, rfl⟩) ?_
        refine ⟨trivial, ?_⟩
        show K1 [(0, .str s), (3, .slice true ((b ++ ([92, gI s i] : List UInt8)).map byteAV)), (8, .int .i64 (s.length : Int)), (9, .int .i64 i)] m
        refine hK1 _ _ ?_; clear hK1 K1
        refine hK4 _ _ ?_; clear hK4
        refine awp_reg2 [] [0, 3, 8, 9] (by decide) ?_
        intro K1 hK1
        refine ar_add rfl (a := i) (b := 1) rfl rfl (by omega) (by omega) ?_
        refine ⟨trivial, ?_⟩
        show K1 [(0, .str s), (3, .slice true ((b ++ ([92, gI s i] : List UInt8)).map byteAV)), (8, .int .i64 (s.length : Int)), (9, .int .i64 (i + 1))] m
        refine hK1 _ _ ?_; clear hK1 K1
        refine ⟨(b ++ ([92, gI s i] : List UInt8), i + 1), rfl, rfl, ?_, ?_⟩
        · show 0 ≤ ((i + 1 : Int)) ∧ ((i + 1 : Int)) ≤ s.length ∧ ((b ++ ([92, gI s i] : List UInt8) : (List UInt8))) = 34 :: (s.take ((i + 1 : Int)).toNat).flatMap escB
          exact ⟨by omega, by omega, by rw [← esc_step hI.1 h1 hI.2.2]; congr 1; unfold escB; rw [if_pos (by omega)]⟩
        · show s.length - ((i + 1 : Int)).toNat < s.length - i.toNat
          omega
      · replace h3 : (((gI s i).toNat : Int) ≠ 34) ∧ (((gI s i).toNat : Int) ≠ 92) := ⟨(ne_of_beq_false (borL h3)), (ne_of_beq_false (borR h3))⟩
        refine awp_reg2_seq [] [0, 3, 5, 8, 9, 30] (by decide) ?_
        intro K1 hK1
        suffices key : K1 [(0, .str s), (3, .slice true (b.map byteAV)), (5, .int .u8 ((gI s i).toNat)), (8, .int .i64 (s.length : Int)), (9, .int .i64 i), (30, .bool ((decide (((gI s i).toNat : Int) < 32)) || (decide (126 < ((gI s i).toNat : Int)))))] m by
          refine ⟨trivial, trivial, trivial, ?_⟩
          show aopsR _ _ _ _ _ [(33, .bool (decide (((gI s i).toNat : Int) < 32))), (32, .bool (decide (((gI s i).toNat : Int) < 32))), (31, .int .u8 ((gI s i).toNat)), (0, .str s), (3, .slice true (b.map byteAV)), (5, .int .u8 ((gI s i).toNat)), (8, .int .i64 (s.length : Int)), (9, .int .i64 i), (19, .bool ((((gI s i).toNat : Int) == 34) || (((gI s i).toNat : Int) == 92)))] _
          revert key
          cases h4 : (decide (((gI s i).toNat : Int) < 32))
          · replace h4 : 32 ≤ ((gI s i).toNat : Int) := (Int.not_lt.1 (of_decide_eq_false h4))
            intro key
            refine ⟨trivial, trivial, ?_⟩
            refine ⟨trivial, ?_⟩
            exact key
          · replace h4 : ((gI s i).toNat : Int) < 32 := (of_decide_eq_true h4)
            intro key
            refine ar_off rfl (ar_off rfl ?_)
            refine ⟨trivial, ?_⟩
            exact key
        refine hK1 _ _ ?_; clear hK1 K1
        refine awp_cond rfl rfl (fun h5 => ?_) (fun h5 => ?_)
        · replace h5 : (((gI s i).toNat : Int) < 32) ∨ (126 < ((gI s i).toNat : Int)) := ((borT h5).imp (fun q => (of_decide_eq_true q)) (fun q => (of_decide_eq_true q)))
          refine awp_anyA Try.mixed [0, 3, 8, 9] (by decide) ?_
          intro K1 hK1
          intro A hA
          suffices key : ∀ (_ : True), K1 [(0, .str s), (3, .slice true ((b ++ ([92, 120, gI ([48, 49, 50, 51, 52, 53, 54, 55, 56, 57, 97, 98, 99, 100, 101, 102] : List UInt8) (Int.fdiv ((gI s i).toNat) (2 ^ (min (Int.toNat 4) IntKind.u8.bits))), gI ([48, 49, 50, 51, 52, 53, 54, 55, 56, 57, 97, 98, 99, 100, 101, 102] : List UInt8) (IntKind.u8.wrap (BitVec.ofInt IntKind.u8.bits ((gI s i).toNat) &&& BitVec.ofInt IntKind.u8.bits 15).toNat)] : List UInt8)).map byteAV)), (8, .int .i64 (s.length : Int)), (9, .int .i64 i)] m by
            have s0 : ∀ (_ : True), A 0 #[true, true, true, true, true, true, true, true, true, true] (fun fr m => K1 (fr.keep [0, 3, 8, 9]) m) [(0, .str s), (3, .slice true ((b ++ ([92, 120, gI ([48, 49, 50, 51, 52, 53, 54, 55, 56, 57, 97, 98, 99, 100, 101, 102] : List UInt8) (Int.fdiv ((gI s i).toNat) (2 ^ (min (Int.toNat 4) IntKind.u8.bits))), gI ([48, 49, 50, 51, 52, 53, 54, 55, 56, 57, 97, 98, 99, 100, 101, 102] : List UInt8) (IntKind.u8.wrap (BitVec.ofInt IntKind.u8.bits ((gI s i).toNat) &&& BitVec.ofInt IntKind.u8.bits 15).toNat)] : List UInt8)).map byteAV)), (8, .int .i64 (s.length : Int)), (9, .int .i64 i)] m := by
              intro _
              subst hA
              exact AAny.done (by decide +kernel) (key trivial)
            have s1 : ∀ (_ : True), A 1 #[true, true, true, true, true, true, true, true, true, false] (fun fr m => K1 (fr.keep [0, 3, 8, 9]) m) [(0, .str s), (3, .slice false (b.map byteAV)), (8, .int .i64 (s.length : Int)), (9, .int .i64 i), (45, .slice true ((b ++ ([92, 120, gI ([48, 49, 50, 51, 52, 53, 54, 55, 56, 57, 97, 98, 99, 100, 101, 102] : List UInt8) (Int.fdiv ((gI s i).toNat) (2 ^ (min (Int.toNat 4) IntKind.u8.bits))), gI ([48, 49, 50, 51, 52, 53, 54, 55, 56, 57, 97, 98, 99, 100, 101, 102] : List UInt8) (IntKind.u8.wrap (BitVec.ofInt IntKind.u8.bits ((gI s i).toNat) &&& BitVec.ofInt IntKind.u8.bits 15).toNat)] : List UInt8)).map byteAV))] m := by
              intro _
              subst hA
              refine AAny.step [37] [9] (by decide +kernel) (by simp) (by decide) ⟨?_, trivial⟩
              · show aopsR _ _ _ [_] _ _ _
                refine ⟨trivial, ?_⟩
                refine AAny.keep [0, 3, 8, 9] (by decide) ?_
                exact s0 trivial
            have s2 : ∀ (_ : True), A 2 #[true, true, true, true, true, true, true, true, false, false] (fun fr m => K1 (fr.keep [0, 3, 8, 9]) m) [(0, .str s), (3, .slice false (b.map byteAV)), (8, .int .i64 (s.length : Int)), (9, .int .i64 i), (37, .slice true (b.map byteAV)), (44, .slice true [.int .u8 92, .int .u8 120, .int .u8 ((gI ([48, 49, 50, 51, 52, 53, 54, 55, 56, 57, 97, 98, 99, 100, 101, 102] : List UInt8) (Int.fdiv ((gI s i).toNat) (2 ^ (min (Int.toNat 4) IntKind.u8.bits)))).toNat), .int .u8 ((gI ([48, 49, 50, 51, 52, 53, 54, 55, 56, 57, 97, 98, 99, 100, 101, 102] : List UInt8) (IntKind.u8.wrap (BitVec.ofInt IntKind.u8.bits ((gI s i).toNat) &&& BitVec.ofInt IntKind.u8.bits 15).toNat)).toNat)])] m := by
              intro _
              subst hA
              refine AAny.step [37] [8] (by decide +kernel) (by simp) (by decide) ⟨?_, trivial⟩
              · show aopsR _ _ _ [_] _ _ _
                refine ar_append rfl byteAV b ([92, 120, gI ([48, 49, 50, 51, 52, 53, 54, 55, 56, 57, 97, 98, 99, 100, 101, 102] : List UInt8) (Int.fdiv ((gI s i).toNat) (2 ^ (min (Int.toNat 4) IntKind.u8.bits))), gI ([48, 49, 50, 51, 52, 53, 54, 55, 56, 57, 97, 98, 99, 100, 101, 102] : List UInt8) (IntKind.u8.wrap (BitVec.ofInt IntKind.u8.bits ((gI s i).toNat) &&& BitVec.ofInt IntKind.u8.bits 15).toNat)] : List UInt8) rfl rfl rfl rfl rfl rfl (Nat.le_of_ble_eq_true rfl) rfl (by (simp only [show Try.prog.bytesOf 5 = 1 from rfl, List.length_append, List.length_cons, List.length_nil]; omega)) (by (first | omega | (simp only [List.length_append, List.length_cons, List.length_nil]; omega))) (fun _ => ⟨rfl, rfl⟩) ?_
                refine AAny.keep [0, 3, 8, 9, 45] (by decide) ?_
                exact s1 trivial
            have s3 : ∀ (_ : True), A 3 #[true, true, true, true, true, true, true, false, false, false] (fun fr m => K1 (fr.keep [0, 3, 8, 9]) m) [(0, .str s), (3, .slice false (b.map byteAV)), (8, .int .i64 (s.length : Int)), (9, .int .i64 i), (37, .slice true (b.map byteAV)), (40, .int .u8 ((gI ([48, 49, 50, 51, 52, 53, 54, 55, 56, 57, 97, 98, 99, 100, 101, 102] : List UInt8) (Int.fdiv ((gI s i).toNat) (2 ^ (min (Int.toNat 4) IntKind.u8.bits)))).toNat)), (43, .int .u8 ((gI ([48, 49, 50, 51, 52, 53, 54, 55, 56, 57, 97, 98, 99, 100, 101, 102] : List UInt8) (IntKind.u8.wrap (BitVec.ofInt IntKind.u8.bits ((gI s i).toNat) &&& BitVec.ofInt IntKind.u8.bits 15).toNat)).toNat))] m := by
              intro _
              subst hA
              refine AAny.step [37] [7] (by decide +kernel) (by simp) (by decide) ⟨?_, trivial⟩
              · show aopsR _ _ _ [_] _ _ _
                refine ⟨⟨rfl, Nat.le_of_ble_eq_true rfl, rfl, Nat.le_of_ble_eq_true rfl, rfl, by simp only [List.forall_mem_cons]; exact ⟨⟨rfl, rfl⟩, ⟨rfl, rfl⟩, ⟨rfl, rfl⟩, ⟨rfl, rfl⟩, fun _ h => by cases h⟩⟩, ?_⟩
                refine AAny.keep [0, 3, 8, 9, 37, 44] (by decide) ?_
                exact s2 trivial
            have s4 : ∀ (_ : True), A 3 #[false, true, true, true, true, true, true, true, false, false] (fun fr m => K1 (fr.keep [0, 3, 8, 9]) m) [(0, .str s), (3, .slice true (b.map byteAV)), (8, .int .i64 (s.length : Int)), (9, .int .i64 i), (44, .slice true [.int .u8 92, .int .u8 120, .int .u8 ((gI ([48, 49, 50, 51, 52, 53, 54, 55, 56, 57, 97, 98, 99, 100, 101, 102] : List UInt8) (Int.fdiv ((gI s i).toNat) (2 ^ (min (Int.toNat 4) IntKind.u8.bits)))).toNat), .int .u8 ((gI ([48, 49, 50, 51, 52, 53, 54, 55, 56, 57, 97, 98, 99, 100, 101, 102] : List UInt8) (IntKind.u8.wrap (BitVec.ofInt IntKind.u8.bits ((gI s i).toNat) &&& BitVec.ofInt IntKind.u8.bits 15).toNat)).toNat)])] m := by
              intro _
              subst hA
              refine AAny.step [37] [0] (by decide +kernel) (by simp) (by decide) ⟨?_, trivial⟩
              · show aopsR _ _ _ [_] _ _ _
                refine ⟨trivial, ?_⟩
                refine AAny.keep [0, 3, 8, 9, 37, 44] (by decide) ?_
                exact s2 trivial
            have s5 : ∀ (_ : True), A 4 #[true, true, true, true, true, true, false, false, false, false] (fun fr m => K1 (fr.keep [0, 3, 8, 9]) m) [(0, .str s), (3, .slice false (b.map byteAV)), (8, .int .i64 (s.length : Int)), (9, .int .i64 i), (37, .slice true (b.map byteAV)), (40, .int .u8 ((gI ([48, 49, 50, 51, 52, 53, 54, 55, 56, 57, 97, 98, 99, 100, 101, 102] : List UInt8) (Int.fdiv ((gI s i).toNat) (2 ^ (min (Int.toNat 4) IntKind.u8.bits)))).toNat)), (42, .int .u8 (IntKind.u8.wrap (BitVec.ofInt IntKind.u8.bits ((gI s i).toNat) &&& BitVec.ofInt IntKind.u8.bits 15).toNat))] m := by
              intro _
              subst hA
              refine AAny.step [37] [6] (by decide +kernel) (by simp) (by decide) ⟨?_, trivial⟩
              · show aopsR _ _ _ [_] _ _ _
                refine ⟨⟨(by omega), (by first | omega | (show _ < (16 : Int); omega))⟩, ?_⟩
                refine AAny.keep [0, 3, 8, 9, 37, 40, 43] (by decide) ?_
                exact s3 trivial
            have s6 : ∀ (_ : True), A 4 #[true, true, true, false, true, true, true, false, false, false] (fun fr m => K1 (fr.keep [0, 3, 8, 9]) m) [(0, .str s), (3, .slice false (b.map byteAV)), (8, .int .i64 (s.length : Int)), (9, .int .i64 i), (37, .slice true (b.map byteAV)), (39, .int .u8 (Int.fdiv ((gI s i).toNat) (2 ^ (min (Int.toNat 4) IntKind.u8.bits)))), (43, .int .u8 ((gI ([48, 49, 50, 51, 52, 53, 54, 55, 56, 57, 97, 98, 99, 100, 101, 102] : List UInt8) (IntKind.u8.wrap (BitVec.ofInt IntKind.u8.bits ((gI s i).toNat) &&& BitVec.ofInt IntKind.u8.bits 15).toNat)).toNat))] m := by
              intro _
              subst hA
              refine AAny.step [37] [3] (by decide +kernel) (by simp) (by decide) ⟨?_, trivial⟩
              · show aopsR _ _ _ [_] _ _ _
                refine ⟨⟨(by omega), (by first | omega | (show _ < (16 : Int); omega))⟩, ?_⟩
                refine AAny.keep [0, 3, 8, 9, 37, 40, 43] (by decide) ?_
                exact s3 trivial
            have s7 : ∀ (_ : True), A 4 #[false, true, true, true, true, true, true, false, false, false] (fun fr m => K1 (fr.keep [0, 3, 8, 9]) m) [(0, .str s), (3, .slice true (b.map byteAV)), (8, .int .i64 (s.length : Int)), (9, .int .i64 i), (40, .int .u8 ((gI ([48, 49, 50, 51, 52, 53, 54, 55, 56, 57, 97, 98, 99, 100, 101, 102] : List UInt8) (Int.fdiv ((gI s i).toNat) (2 ^ (min (Int.toNat 4) IntKind.u8.bits)))).toNat)), (43, .int .u8 ((gI ([48, 49, 50, 51, 52, 53, 54, 55, 56, 57, 97, 98, 99, 100, 101, 102] : List UInt8) (IntKind.u8.wrap (BitVec.ofInt IntKind.u8.bits ((gI s i).toNat) &&& BitVec.ofInt IntKind.u8.bits 15).toNat)).toNat))] m := by
              intro _
              subst hA
              refine AAny.step [37] [0, 7] (by decide +kernel) (by simp) (by decide) ⟨?_, ?_, trivial⟩
              · show aopsR _ _ _ [_] _ _ _
                refine ⟨trivial, ?_⟩
                refine AAny.keep [0, 3, 8, 9, 37, 40, 43] (by decide) ?_
                exact s3 trivial
              · show aopsR _ _ _ [_] _ _ _
                refine ⟨⟨rfl, Nat.le_of_ble_eq_true rfl, rfl, Nat.le_of_ble_eq_true rfl, rfl, by simp only [List.forall_mem_cons]; exact ⟨⟨rfl, rfl⟩, ⟨rfl, rfl⟩, ⟨rfl, rfl⟩, ⟨rfl, rfl⟩, fun _ h => by cases h⟩⟩, ?_⟩
                refine AAny.keep [0, 3, 8, 9, 44] (by decide) ?_
                exact s4 trivial
            have s8 : ∀ (_ : True), A 5 #[true, true, true, true, true, false, false, false, false, false] (fun fr m => K1 (fr.keep [0, 3, 8, 9]) m) [(0, .str s), (3, .slice false (b.map byteAV)), (8, .int .i64 (s.length : Int)), (9, .int .i64 i), (37, .slice true (b.map byteAV)), (40, .int .u8 ((gI ([48, 49, 50, 51, 52, 53, 54, 55, 56, 57, 97, 98, 99, 100, 101, 102] : List UInt8) (Int.fdiv ((gI s i).toNat) (2 ^ (min (Int.toNat 4) IntKind.u8.bits)))).toNat)), (41, .int .u8 ((gI s i).toNat))] m := by
              intro _
              subst hA
              refine AAny.step [37] [5] (by decide +kernel) (by simp) (by decide) ⟨?_, trivial⟩
              · show aopsR _ _ _ [_] _ _ _
                refine ⟨trivial, ?_⟩
                refine AAny.keep [0, 3, 8, 9, 37, 40, 42] (by decide) ?_
                exact s5 trivial
            have s9 : ∀ (_ : True), A 5 #[true, true, true, false, true, true, false, false, false, false] (fun fr m => K1 (fr.keep [0, 3, 8, 9]) m) [(0, .str s), (3, .slice false (b.map byteAV)), (8, .int .i64 (s.length : Int)), (9, .int .i64 i), (37, .slice true (b.map byteAV)), (39, .int .u8 (Int.fdiv ((gI s i).toNat) (2 ^ (min (Int.toNat 4) IntKind.u8.bits)))), (42, .int .u8 (IntKind.u8.wrap (BitVec.ofInt IntKind.u8.bits ((gI s i).toNat) &&& BitVec.ofInt IntKind.u8.bits 15).toNat))] m := by
              intro _
              subst hA
              refine AAny.step [37] [3, 6] (by decide +kernel) (by simp) (by decide) ⟨?_, ?_, trivial⟩
              · show aopsR _ _ _ [_] _ _ _
                refine ⟨⟨(by omega), (by first | omega | (show _ < (16 : Int); omega))⟩, ?_⟩
                refine AAny.keep [0, 3, 8, 9, 37, 40, 42] (by decide) ?_
                exact s5 trivial
              · show aopsR _ _ _ [_] _ _ _
                refine ⟨⟨(by omega), (by first | omega | (show _ < (16 : Int); omega))⟩, ?_⟩
                refine AAny.keep [0, 3, 8, 9, 37, 39, 43] (by decide) ?_
                exact s6 trivial
            have s10 : ∀ (_ : True), A 5 #[true, true, false, false, true, true, true, false, false, false] (fun fr m => K1 (fr.keep [0, 3, 8, 9]) m) [(0, .str s), (3, .slice false (b.map byteAV)), (8, .int .i64 (s.length : Int)), (9, .int .i64 i), (37, .slice true (b.map byteAV)), (38, .int .u8 ((gI s i).toNat)), (43, .int .u8 ((gI ([48, 49, 50, 51, 52, 53, 54, 55, 56, 57, 97, 98, 99, 100, 101, 102] : List UInt8) (IntKind.u8.wrap (BitVec.ofInt IntKind.u8.bits ((gI s i).toNat) &&& BitVec.ofInt IntKind.u8.bits 15).toNat)).toNat))] m := by
              intro _
              subst hA
              refine AAny.step [37] [2] (by decide +kernel) (by simp) (by decide) ⟨?_, trivial⟩
              · show aopsR _ _ _ [_] _ _ _
                refine ⟨(by refine ⟨by decide, ?_, ?_⟩ <;> first | (show (0 : Int) ≤ _; omega) | (show _ ≤ (255 : Int); omega)), ?_⟩
                refine AAny.keep [0, 3, 8, 9, 37, 39, 43] (by decide) ?_
                exact s6 trivial
            have s11 : ∀ (_ : True), A 5 #[false, true, true, true, true, true, false, false, false, false] (fun fr m => K1 (fr.keep [0, 3, 8, 9]) m) [(0, .str s), (3, .slice true (b.map byteAV)), (8, .int .i64 (s.length : Int)), (9, .int .i64 i), (40, .int .u8 ((gI ([48, 49, 50, 51, 52, 53, 54, 55, 56, 57, 97, 98, 99, 100, 101, 102] : List UInt8) (Int.fdiv ((gI s i).toNat) (2 ^ (min (Int.toNat 4) IntKind.u8.bits)))).toNat)), (42, .int .u8 (IntKind.u8.wrap (BitVec.ofInt IntKind.u8.bits ((gI s i).toNat) &&& BitVec.ofInt IntKind.u8.bits 15).toNat))] m := by
              intro _
              subst hA
              refine AAny.step [37] [0, 6] (by decide +kernel) (by simp) (by decide) ⟨?_, ?_, trivial⟩
              · show aopsR _ _ _ [_] _ _ _
                refine ⟨trivial, ?_⟩
                refine AAny.keep [0, 3, 8, 9, 37, 40, 42] (by decide) ?_
                exact s5 trivial
              · show aopsR _ _ _ [_] _ _ _
                refine ⟨⟨(by omega), (by first | omega | (show _ < (16 : Int); omega))⟩, ?_⟩
                refine AAny.keep [0, 3, 8, 9, 40, 43] (by decide) ?_
                exact s7 trivial
            have s12 : ∀ (_ : True), A 5 #[false, true, true, false, true, true, true, false, false, false] (fun fr m => K1 (fr.keep [0, 3, 8, 9]) m) [(0, .str s), (3, .slice true (b.map byteAV)), (8, .int .i64 (s.length : Int)), (9, .int .i64 i), (39, .int .u8 (Int.fdiv ((gI s i).toNat) (2 ^ (min (Int.toNat 4) IntKind.u8.bits)))), (43, .int .u8 ((gI ([48, 49, 50, 51, 52, 53, 54, 55, 56, 57, 97, 98, 99, 100, 101, 102] : List UInt8) (IntKind.u8.wrap (BitVec.ofInt IntKind.u8.bits ((gI s i).toNat) &&& BitVec.ofInt IntKind.u8.bits 15).toNat)).toNat))] m := by
              intro _
              subst hA
              refine AAny.step [37] [0, 3] (by decide +kernel) (by simp) (by decide) ⟨?_, ?_, trivial⟩
              · show aopsR _ _ _ [_] _ _ _
                refine ⟨trivial, ?_⟩
                refine AAny.keep [0, 3, 8, 9, 37, 39, 43] (by decide) ?_
                exact s6 trivial
              · show aopsR _ _ _ [_] _ _ _
                refine ⟨⟨(by omega), (by first | omega | (show _ < (16 : Int); omega))⟩, ?_⟩
                refine AAny.keep [0, 3, 8, 9, 40, 43] (by decide) ?_
                exact s7 trivial
            have s13 : ∀ (_ : True), A 6 #[true, true, true, true, false, false, false, false, false, false] (fun fr m => K1 (fr.keep [0, 3, 8, 9]) m) [(0, .str s), (3, .slice false (b.map byteAV)), (5, .int .u8 ((gI s i).toNat)), (8, .int .i64 (s.length : Int)), (9, .int .i64 i), (37, .slice true (b.map byteAV)), (40, .int .u8 ((gI ([48, 49, 50, 51, 52, 53, 54, 55, 56, 57, 97, 98, 99, 100, 101, 102] : List UInt8) (Int.fdiv ((gI s i).toNat) (2 ^ (min (Int.toNat 4) IntKind.u8.bits)))).toNat))] m := by
              intro _
              subst hA
              refine AAny.step [37] [4] (by decide +kernel) (by simp) (by decide) ⟨?_, trivial⟩
              · show aopsR _ _ _ [_] _ _ _
                refine ⟨trivial, ?_⟩
                refine AAny.keep [0, 3, 8, 9, 37, 40, 41] (by decide) ?_
                exact s8 trivial
            have s14 : ∀ (_ : True), A 6 #[true, true, true, false, true, false, false, false, false, false] (fun fr m => K1 (fr.keep [0, 3, 8, 9]) m) [(0, .str s), (3, .slice false (b.map byteAV)), (8, .int .i64 (s.length : Int)), (9, .int .i64 i), (37, .slice true (b.map byteAV)), (39, .int .u8 (Int.fdiv ((gI s i).toNat) (2 ^ (min (Int.toNat 4) IntKind.u8.bits)))), (41, .int .u8 ((gI s i).toNat))] m := by
              intro _
              subst hA
              refine AAny.step [37] [3, 5] (by decide +kernel) (by simp) (by decide) ⟨?_, ?_, trivial⟩
              · show aopsR _ _ _ [_] _ _ _
                refine ⟨⟨(by omega), (by first | omega | (show _ < (16 : Int); omega))⟩, ?_⟩
                refine AAny.keep [0, 3, 8, 9, 37, 40, 41] (by decide) ?_
                exact s8 trivial
              · show aopsR _ _ _ [_] _ _ _
                refine ⟨trivial, ?_⟩
                refine AAny.keep [0, 3, 8, 9, 37, 39, 42] (by decide) ?_
                exact s9 trivial
            have s15 : ∀ (_ : True), A 6 #[true, true, false, false, true, true, false, false, false, false] (fun fr m => K1 (fr.keep [0, 3, 8, 9]) m) [(0, .str s), (3, .slice false (b.map byteAV)), (8, .int .i64 (s.length : Int)), (9, .int .i64 i), (37, .slice true (b.map byteAV)), (38, .int .u8 ((gI s i).toNat)), (42, .int .u8 (IntKind.u8.wrap (BitVec.ofInt IntKind.u8.bits ((gI s i).toNat) &&& BitVec.ofInt IntKind.u8.bits 15).toNat))] m := by
              intro _
              subst hA
              refine AAny.step [37] [2, 6] (by decide +kernel) (by simp) (by decide) ⟨?_, ?_, trivial⟩
              · show aopsR _ _ _ [_] _ _ _
                refine ⟨(by refine ⟨by decide, ?_, ?_⟩ <;> first | (show (0 : Int) ≤ _; omega) | (show _ ≤ (255 : Int); omega)), ?_⟩
                refine AAny.keep [0, 3, 8, 9, 37, 39, 42] (by decide) ?_
                exact s9 trivial
              · show aopsR _ _ _ [_] _ _ _
                refine ⟨⟨(by omega), (by first | omega | (show _ < (16 : Int); omega))⟩, ?_⟩
                refine AAny.keep [0, 3, 8, 9, 37, 38, 43] (by decide) ?_
                exact s10 trivial
            have s16 : ∀ (_ : True), A 6 #[true, false, false, false, true, true, true, false, false, false] (fun fr m => K1 (fr.keep [0, 3, 8, 9]) m) [(0, .str s), (3, .slice false (b.map byteAV)), (5, .int .u8 ((gI s i).toNat)), (8, .int .i64 (s.length : Int)), (9, .int .i64 i), (37, .slice true (b.map byteAV)), (43, .int .u8 ((gI ([48, 49, 50, 51, 52, 53, 54, 55, 56, 57, 97, 98, 99, 100, 101, 102] : List UInt8) (IntKind.u8.wrap (BitVec.ofInt IntKind.u8.bits ((gI s i).toNat) &&& BitVec.ofInt IntKind.u8.bits 15).toNat)).toNat))] m := by
              intro _
              subst hA
              refine AAny.step [37] [1] (by decide +kernel) (by simp) (by decide) ⟨?_, trivial⟩
              · show aopsR _ _ _ [_] _ _ _
                refine ⟨trivial, ?_⟩
                refine AAny.keep [0, 3, 8, 9, 37, 38, 43] (by decide) ?_
                exact s10 trivial
            have s17 : ∀ (_ : True), A 6 #[false, true, true, true, true, false, false, false, false, false] (fun fr m => K1 (fr.keep [0, 3, 8, 9]) m) [(0, .str s), (3, .slice true (b.map byteAV)), (8, .int .i64 (s.length : Int)), (9, .int .i64 i), (40, .int .u8 ((gI ([48, 49, 50, 51, 52, 53, 54, 55, 56, 57, 97, 98, 99, 100, 101, 102] : List UInt8) (Int.fdiv ((gI s i).toNat) (2 ^ (min (Int.toNat 4) IntKind.u8.bits)))).toNat)), (41, .int .u8 ((gI s i).toNat))] m := by
              intro _
              subst hA
              refine AAny.step [37] [0, 5] (by decide +kernel) (by simp) (by decide) ⟨?_, ?_, trivial⟩
              · show aopsR _ _ _ [_] _ _ _
                refine ⟨trivial, ?_⟩
                refine AAny.keep [0, 3, 8, 9, 37, 40, 41] (by decide) ?_
                exact s8 trivial
              · show aopsR _ _ _ [_] _ _ _
                refine ⟨trivial, ?_⟩
                refine AAny.keep [0, 3, 8, 9, 40, 42] (by decide) ?_
                exact s11 trivial
            have s18 : ∀ (_ : True), A 6 #[false, true, true, false, true, true, false, false, false, false] (fun fr m => K1 (fr.keep [0, 3, 8, 9]) m) [(0, .str s), (3, .slice true (b.map byteAV)), (8, .int .i64 (s.length : Int)), (9, .int .i64 i), (39, .int .u8 (Int.fdiv ((gI s i).toNat) (2 ^ (min (Int.toNat 4) IntKind.u8.bits)))), (42, .int .u8 (IntKind.u8.wrap (BitVec.ofInt IntKind.u8.bits ((gI s i).toNat) &&& BitVec.ofInt IntKind.u8.bits 15).toNat))] m := by
              intro _
              subst hA
              refine AAny.step [37] [0, 3, 6] (by decide +kernel) (by simp) (by decide) ⟨?_, ?_, ?_, trivial⟩
              · show aopsR _ _ _ [_] _ _ _
                refine ⟨trivial, ?_⟩
                refine AAny.keep [0, 3, 8, 9, 37, 39, 42] (by decide) ?_
                exact s9 trivial
              · show aopsR _ _ _ [_] _ _ _
                refine ⟨⟨(by omega), (by first | omega | (show _ < (16 : Int); omega))⟩, ?_⟩
                refine AAny.keep [0, 3, 8, 9, 40, 42] (by decide) ?_
                exact s11 trivial
              · show aopsR _ _ _ [_] _ _ _
                refine ⟨⟨(by omega), (by first | omega | (show _ < (16 : Int); omega))⟩, ?_⟩
                refine AAny.keep [0, 3, 8, 9, 39, 43] (by decide) ?_
                exact s12 trivial
            have s19 : ∀ (_ : True), A 6 #[false, true, false, false, true, true, true, false, false, false] (fun fr m => K1 (fr.keep [0, 3, 8, 9]) m) [(0, .str s), (3, .slice true (b.map byteAV)), (8, .int .i64 (s.length : Int)), (9, .int .i64 i), (38, .int .u8 ((gI s i).toNat)), (43, .int .u8 ((gI ([48, 49, 50, 51, 52, 53, 54, 55, 56, 57, 97, 98, 99, 100, 101, 102] : List UInt8) (IntKind.u8.wrap (BitVec.ofInt IntKind.u8.bits ((gI s i).toNat) &&& BitVec.ofInt IntKind.u8.bits 15).toNat)).toNat))] m := by
              intro _
              subst hA
              refine AAny.step [37] [0, 2] (by decide +kernel) (by simp) (by decide) ⟨?_, ?_, trivial⟩
              · show aopsR _ _ _ [_] _ _ _
                refine ⟨trivial, ?_⟩
                refine AAny.keep [0, 3, 8, 9, 37, 38, 43] (by decide) ?_
                exact s10 trivial
              · show aopsR _ _ _ [_] _ _ _
                refine ⟨(by refine ⟨by decide, ?_, ?_⟩ <;> first | (show (0 : Int) ≤ _; omega) | (show _ ≤ (255 : Int); omega)), ?_⟩
                refine AAny.keep [0, 3, 8, 9, 39, 43] (by decide) ?_
                exact s12 trivial
            have s20 : ∀ (_ : True), A 7 #[true, true, true, false, false, false, false, false, false, false] (fun fr m => K1 (fr.keep [0, 3, 8, 9]) m) [(0, .str s), (3, .slice false (b.map byteAV)), (5, .int .u8 ((gI s i).toNat)), (8, .int .i64 (s.length : Int)), (9, .int .i64 i), (37, .slice true (b.map byteAV)), (39, .int .u8 (Int.fdiv ((gI s i).toNat) (2 ^ (min (Int.toNat 4) IntKind.u8.bits))))] m := by
              intro _
              subst hA
              refine AAny.step [37] [3, 4] (by decide +kernel) (by simp) (by decide) ⟨?_, ?_, trivial⟩
              · show aopsR _ _ _ [_] _ _ _
                refine ⟨⟨(by omega), (by first | omega | (show _ < (16 : Int); omega))⟩, ?_⟩
                refine AAny.keep [0, 3, 5, 8, 9, 37, 40] (by decide) ?_
                exact s13 trivial
              · show aopsR _ _ _ [_] _ _ _
                refine ⟨trivial, ?_⟩
                refine AAny.keep [0, 3, 8, 9, 37, 39, 41] (by decide) ?_
                exact s14 trivial
            have s21 : ∀ (_ : True), A 7 #[true, true, false, false, true, false, false, false, false, false] (fun fr m => K1 (fr.keep [0, 3, 8, 9]) m) [(0, .str s), (3, .slice false (b.map byteAV)), (8, .int .i64 (s.length : Int)), (9, .int .i64 i), (37, .slice true (b.map byteAV)), (38, .int .u8 ((gI s i).toNat)), (41, .int .u8 ((gI s i).toNat))] m := by
              intro _
              subst hA
              refine AAny.step [37] [2, 5] (by decide +kernel) (by simp) (by decide) ⟨?_, ?_, trivial⟩
              · show aopsR _ _ _ [_] _ _ _
                refine ⟨(by refine ⟨by decide, ?_, ?_⟩ <;> first | (show (0 : Int) ≤ _; omega) | (show _ ≤ (255 : Int); omega)), ?_⟩
                refine AAny.keep [0, 3, 8, 9, 37, 39, 41] (by decide) ?_
                exact s14 trivial
              · show aopsR _ _ _ [_] _ _ _
                refine ⟨trivial, ?_⟩
                refine AAny.keep [0, 3, 8, 9, 37, 38, 42] (by decide) ?_
                exact s15 trivial
            have s22 : ∀ (_ : True), A 7 #[true, false, false, false, true, true, false, false, false, false] (fun fr m => K1 (fr.keep [0, 3, 8, 9]) m) [(0, .str s), (3, .slice false (b.map byteAV)), (5, .int .u8 ((gI s i).toNat)), (8, .int .i64 (s.length : Int)), (9, .int .i64 i), (37, .slice true (b.map byteAV)), (42, .int .u8 (IntKind.u8.wrap (BitVec.ofInt IntKind.u8.bits ((gI s i).toNat) &&& BitVec.ofInt IntKind.u8.bits 15).toNat))] m := by
              intro _
              subst hA
              refine AAny.step [37] [1, 6] (by decide +kernel) (by simp) (by decide) ⟨?_, ?_, trivial⟩
              · show aopsR _ _ _ [_] _ _ _
                refine ⟨trivial, ?_⟩
                refine AAny.keep [0, 3, 8, 9, 37, 38, 42] (by decide) ?_
                exact s15 trivial
              · show aopsR _ _ _ [_] _ _ _
                refine ⟨⟨(by omega), (by first | omega | (show _ < (16 : Int); omega))⟩, ?_⟩
                refine AAny.keep [0, 3, 5, 8, 9, 37, 43] (by decide) ?_
                exact s16 trivial
            have s23 : ∀ (_ : True), A 7 #[false, true, true, true, false, false, false, false, false, false] (fun fr m => K1 (fr.keep [0, 3, 8, 9]) m) [(0, .str s), (3, .slice true (b.map byteAV)), (5, .int .u8 ((gI s i).toNat)), (8, .int .i64 (s.length : Int)), (9, .int .i64 i), (40, .int .u8 ((gI ([48, 49, 50, 51, 52, 53, 54, 55, 56, 57, 97, 98, 99, 100, 101, 102] : List UInt8) (Int.fdiv ((gI s i).toNat) (2 ^ (min (Int.toNat 4) IntKind.u8.bits)))).toNat))] m := by
              intro _
              subst hA
              refine AAny.step [37] [0, 4] (by decide +kernel) (by simp) (by decide) ⟨?_, ?_, trivial⟩
              · show aopsR _ _ _ [_] _ _ _
                refine ⟨trivial, ?_⟩
                refine AAny.keep [0, 3, 5, 8, 9, 37, 40] (by decide) ?_
                exact s13 trivial
              · show aopsR _ _ _ [_] _ _ _
                refine ⟨trivial, ?_⟩
                refine AAny.keep [0, 3, 8, 9, 40, 41] (by decide) ?_
                exact s17 trivial
            have s24 : ∀ (_ : True), A 7 #[false, true, true, false, true, false, false, false, false, false] (fun fr m => K1 (fr.keep [0, 3, 8, 9]) m) [(0, .str s), (3, .slice true (b.map byteAV)), (8, .int .i64 (s.length : Int)), (9, .int .i64 i), (39, .int .u8 (Int.fdiv ((gI s i).toNat) (2 ^ (min (Int.toNat 4) IntKind.u8.bits)))), (41, .int .u8 ((gI s i).toNat))] m := by
              intro _
              subst hA
              refine AAny.step [37] [0, 3, 5] (by decide +kernel) (by simp) (by decide) ⟨?_, ?_, ?_, trivial⟩
              · show aopsR _ _ _ [_] _ _ _
                refine ⟨trivial, ?_⟩
                refine AAny.keep [0, 3, 8, 9, 37, 39, 41] (by decide) ?_
                exact s14 trivial
              · show aopsR _ _ _ [_] _ _ _
                refine ⟨⟨(by omega), (by first | omega | (show _ < (16 : Int); omega))⟩, ?_⟩
                refine AAny.keep [0, 3, 8, 9, 40, 41] (by decide) ?_
                exact s17 trivial
              · show aopsR _ _ _ [_] _ _ _
                refine ⟨trivial, ?_⟩
                refine AAny.keep [0, 3, 8, 9, 39, 42] (by decide) ?_
                exact s18 trivial
            have s25 : ∀ (_ : True), A 7 #[false, true, false, false, true, true, false, false, false, false] (fun fr m => K1 (fr.keep [0, 3, 8, 9]) m) [(0, .str s), (3, .slice true (b.map byteAV)), (8, .int .i64 (s.length : Int)), (9, .int .i64 i), (38, .int .u8 ((gI s i).toNat)), (42, .int .u8 (IntKind.u8.wrap (BitVec.ofInt IntKind.u8.bits ((gI s i).toNat) &&& BitVec.ofInt IntKind.u8.bits 15).toNat))] m := by
              intro _
              subst hA
              refine AAny.step [37] [0, 2, 6] (by decide +kernel) (by simp) (by decide) ⟨?_, ?_, ?_, trivial⟩
              · show aopsR _ _ _ [_] _ _ _
                refine ⟨trivial, ?_⟩
                refine AAny.keep [0, 3, 8, 9, 37, 38, 42] (by decide) ?_
                exact s15 trivial
              · show aopsR _ _ _ [_] _ _ _
                refine ⟨(by refine ⟨by decide, ?_, ?_⟩ <;> first | (show (0 : Int) ≤ _; omega) | (show _ ≤ (255 : Int); omega)), ?_⟩
                refine AAny.keep [0, 3, 8, 9, 39, 42] (by decide) ?_
                exact s18 trivial
              · show aopsR _ _ _ [_] _ _ _
                refine ⟨⟨(by omega), (by first | omega | (show _ < (16 : Int); omega))⟩, ?_⟩
                refine AAny.keep [0, 3, 8, 9, 38, 43] (by decide) ?_
                exact s19 trivial
            have s26 : ∀ (_ : True), A 7 #[false, false, false, false, true, true, true, false, false, false] (fun fr m => K1 (fr.keep [0, 3, 8, 9]) m) [(0, .str s), (3, .slice true (b.map byteAV)), (5, .int .u8 ((gI s i).toNat)), (8, .int .i64 (s.length : Int)), (9, .int .i64 i), (43, .int .u8 ((gI ([48, 49, 50, 51, 52, 53, 54, 55, 56, 57, 97, 98, 99, 100, 101, 102] : List UInt8) (IntKind.u8.wrap (BitVec.ofInt IntKind.u8.bits ((gI s i).toNat) &&& BitVec.ofInt IntKind.u8.bits 15).toNat)).toNat))] m := by
              intro _
              subst hA
              refine AAny.step [37] [0, 1] (by decide +kernel) (by simp) (by decide) ⟨?_, ?_, trivial⟩
              · show aopsR _ _ _ [_] _ _ _
                refine ⟨trivial, ?_⟩
                refine AAny.keep [0, 3, 5, 8, 9, 37, 43] (by decide) ?_
                exact s16 trivial
              · show aopsR _ _ _ [_] _ _ _
                refine ⟨trivial, ?_⟩
                refine AAny.keep [0, 3, 8, 9, 38, 43] (by decide) ?_
                exact s19 trivial
            have s27 : ∀ (_ : True), A 8 #[true, true, false, false, false, false, false, false, false, false] (fun fr m => K1 (fr.keep [0, 3, 8, 9]) m) [(0, .str s), (3, .slice false (b.map byteAV)), (5, .int .u8 ((gI s i).toNat)), (8, .int .i64 (s.length : Int)), (9, .int .i64 i), (37, .slice true (b.map byteAV)), (38, .int .u8 ((gI s i).toNat))] m := by
              intro _
              subst hA
              refine AAny.step [37] [2, 4] (by decide +kernel) (by simp) (by decide) ⟨?_, ?_, trivial⟩
              · show aopsR _ _ _ [_] _ _ _
                refine ⟨(by refine ⟨by decide, ?_, ?_⟩ <;> first | (show (0 : Int) ≤ _; omega) | (show _ ≤ (255 : Int); omega)), ?_⟩
                refine AAny.keep [0, 3, 5, 8, 9, 37, 39] (by decide) ?_
                exact s20 trivial
              · show aopsR _ _ _ [_] _ _ _
                refine ⟨trivial, ?_⟩
                refine AAny.keep [0, 3, 8, 9, 37, 38, 41] (by decide) ?_
                exact s21 trivial
            have s28 : ∀ (_ : True), A 8 #[true, false, false, false, true, false, false, false, false, false] (fun fr m => K1 (fr.keep [0, 3, 8, 9]) m) [(0, .str s), (3, .slice false (b.map byteAV)), (5, .int .u8 ((gI s i).toNat)), (8, .int .i64 (s.length : Int)), (9, .int .i64 i), (37, .slice true (b.map byteAV)), (41, .int .u8 ((gI s i).toNat))] m := by
              intro _
              subst hA
              refine AAny.step [37] [1, 5] (by decide +kernel) (by simp) (by decide) ⟨?_, ?_, trivial⟩
              · show aopsR _ _ _ [_] _ _ _
                refine ⟨trivial, ?_⟩
                refine AAny.keep [0, 3, 8, 9, 37, 38, 41] (by decide) ?_
                exact s21 trivial
              · show aopsR _ _ _ [_] _ _ _
                refine ⟨trivial, ?_⟩
                refine AAny.keep [0, 3, 5, 8, 9, 37, 42] (by decide) ?_
                exact s22 trivial
            have s29 : ∀ (_ : True), A 8 #[false, true, true, false, false, false, false, false, false, false] (fun fr m => K1 (fr.keep [0, 3, 8, 9]) m) [(0, .str s), (3, .slice true (b.map byteAV)), (5, .int .u8 ((gI s i).toNat)), (8, .int .i64 (s.length : Int)), (9, .int .i64 i), (39, .int .u8 (Int.fdiv ((gI s i).toNat) (2 ^ (min (Int.toNat 4) IntKind.u8.bits))))] m := by
              intro _
              subst hA
              refine AAny.step [37] [0, 3, 4] (by decide +kernel) (by simp) (by decide) ⟨?_, ?_, ?_, trivial⟩
              · show aopsR _ _ _ [_] _ _ _
                refine ⟨trivial, ?_⟩
                refine AAny.keep [0, 3, 5, 8, 9, 37, 39] (by decide) ?_
                exact s20 trivial
              · show aopsR _ _ _ [_] _ _ _
                refine ⟨⟨(by omega), (by first | omega | (show _ < (16 : Int); omega))⟩, ?_⟩
                refine AAny.keep [0, 3, 5, 8, 9, 40] (by decide) ?_
                exact s23 trivial
              · show aopsR _ _ _ [_] _ _ _
                refine ⟨trivial, ?_⟩
                refine AAny.keep [0, 3, 8, 9, 39, 41] (by decide) ?_
                exact s24 trivial
            have s30 : ∀ (_ : True), A 8 #[false, true, false, false, true, false, false, false, false, false] (fun fr m => K1 (fr.keep [0, 3, 8, 9]) m) [(0, .str s), (3, .slice true (b.map byteAV)), (8, .int .i64 (s.length : Int)), (9, .int .i64 i), (38, .int .u8 ((gI s i).toNat)), (41, .int .u8 ((gI s i).toNat))] m := by
              intro _
              subst hA
              refine AAny.step [37] [0, 2, 5] (by decide +kernel) (by simp) (by decide) ⟨?_, ?_, ?_, trivial⟩
              · show aopsR _ _ _ [_] _ _ _
                refine ⟨trivial, ?_⟩
                refine AAny.keep [0, 3, 8, 9, 37, 38, 41] (by decide) ?_
                exact s21 trivial
              · show aopsR _ _ _ [_] _ _ _
                refine ⟨(by refine ⟨by decide, ?_, ?_⟩ <;> first | (show (0 : Int) ≤ _; omega) | (show _ ≤ (255 : Int); omega)), ?_⟩
                refine AAny.keep [0, 3, 8, 9, 39, 41] (by decide) ?_
                exact s24 trivial
              · show aopsR _ _ _ [_] _ _ _
                refine ⟨trivial, ?_⟩
                refine AAny.keep [0, 3, 8, 9, 38, 42] (by decide) ?_
                exact s25 trivial
            have s31 : ∀ (_ : True), A 8 #[false, false, false, false, true, true, false, false, false, false] (fun fr m => K1 (fr.keep [0, 3, 8, 9]) m) [(0, .str s), (3, .slice true (b.map byteAV)), (5, .int .u8 ((gI s i).toNat)), (8, .int .i64 (s.length : Int)), (9, .int .i64 i), (42, .int .u8 (IntKind.u8.wrap (BitVec.ofInt IntKind.u8.bits ((gI s i).toNat) &&& BitVec.ofInt IntKind.u8.bits 15).toNat))] m := by
              intro _
              subst hA
              refine AAny.step [37] [0, 1, 6] (by decide +kernel) (by simp) (by decide) ⟨?_, ?_, ?_, trivial⟩
              · show aopsR _ _ _ [_] _ _ _
                refine ⟨trivial, ?_⟩
                refine AAny.keep [0, 3, 5, 8, 9, 37, 42] (by decide) ?_
                exact s22 trivial
              · show aopsR _ _ _ [_] _ _ _
                refine ⟨trivial, ?_⟩
                refine AAny.keep [0, 3, 8, 9, 38, 42] (by decide) ?_
                exact s25 trivial
              · show aopsR _ _ _ [_] _ _ _
                refine ⟨⟨(by omega), (by first | omega | (show _ < (16 : Int); omega))⟩, ?_⟩
                refine AAny.keep [0, 3, 5, 8, 9, 43] (by decide) ?_
                exact s26 trivial
            have s32 : ∀ (_ : True), A 9 #[true, false, false, false, false, false, false, false, false, false] (fun fr m => K1 (fr.keep [0, 3, 8, 9]) m) [(0, .str s), (3, .slice false (b.map byteAV)), (5, .int .u8 ((gI s i).toNat)), (8, .int .i64 (s.length : Int)), (9, .int .i64 i), (37, .slice true (b.map byteAV))] m := by
              intro _
              subst hA
              refine AAny.step [37] [1, 4] (by decide +kernel) (by simp) (by decide) ⟨?_, ?_, trivial⟩
              · show aopsR _ _ _ [_] _ _ _
                refine ⟨trivial, ?_⟩
                refine AAny.keep [0, 3, 5, 8, 9, 37, 38] (by decide) ?_
                exact s27 trivial
              · show aopsR _ _ _ [_] _ _ _
                refine ⟨trivial, ?_⟩
                refine AAny.keep [0, 3, 5, 8, 9, 37, 41] (by decide) ?_
                exact s28 trivial
            have s33 : ∀ (_ : True), A 9 #[false, true, false, false, false, false, false, false, false, false] (fun fr m => K1 (fr.keep [0, 3, 8, 9]) m) [(0, .str s), (3, .slice true (b.map byteAV)), (5, .int .u8 ((gI s i).toNat)), (8, .int .i64 (s.length : Int)), (9, .int .i64 i), (38, .int .u8 ((gI s i).toNat))] m := by
              intro _
              subst hA
              refine AAny.step [37] [0, 2, 4] (by decide +kernel) (by simp) (by decide) ⟨?_, ?_, ?_, trivial⟩
              · show aopsR _ _ _ [_] _ _ _
                refine ⟨trivial, ?_⟩
                refine AAny.keep [0, 3, 5, 8, 9, 37, 38] (by decide) ?_
                exact s27 trivial
              · show aopsR _ _ _ [_] _ _ _
                refine ⟨(by refine ⟨by decide, ?_, ?_⟩ <;> first | (show (0 : Int) ≤ _; omega) | (show _ ≤ (255 : Int); omega)), ?_⟩
                refine AAny.keep [0, 3, 5, 8, 9, 39] (by decide) ?_
                exact s29 trivial
              · show aopsR _ _ _ [_] _ _ _
                refine ⟨trivial, ?_⟩
                refine AAny.keep [0, 3, 8, 9, 38, 41] (by decide) ?_
                exact s30 trivial
            have s34 : ∀ (_ : True), A 9 #[false, false, false, false, true, false, false, false, false, false] (fun fr m => K1 (fr.keep [0, 3, 8, 9]) m) [(0, .str s), (3, .slice true (b.map byteAV)), (5, .int .u8 ((gI s i).toNat)), (8, .int .i64 (s.length : Int)), (9, .int .i64 i), (41, .int .u8 ((gI s i).toNat))] m := by
              intro _
              subst hA
              refine AAny.step [37] [0, 1, 5] (by decide +kernel) (by simp) (by decide) ⟨?_, ?_, ?_, trivial⟩
              · show aopsR _ _ _ [_] _ _ _
                refine ⟨trivial, ?_⟩
                refine AAny.keep [0, 3, 5, 8, 9, 37, 41] (by decide) ?_
                exact s28 trivial
              · show aopsR _ _ _ [_] _ _ _
                refine ⟨trivial, ?_⟩
                refine AAny.keep [0, 3, 8, 9, 38, 41] (by decide) ?_
                exact s30 trivial
              · show aopsR _ _ _ [_] _ _ _
                refine ⟨trivial, ?_⟩
                refine AAny.keep [0, 3, 5, 8, 9, 42] (by decide) ?_
                exact s31 trivial
            have s35 : ∀ (_ : True), A 10 #[false, false, false, false, false, false, false, false, false, false] (fun fr m => K1 (fr.keep [0, 3, 8, 9]) m) [(0, .str s), (3, .slice true (b.map byteAV)), (5, .int .u8 ((gI s i).toNat)), (8, .int .i64 (s.length : Int)), (9, .int .i64 i), (30, .bool ((decide (((gI s i).toNat : Int) < 32)) || (decide (126 < ((gI s i).toNat : Int)))))] m := by
              intro _
              subst hA
              refine AAny.step [37] [0, 1, 4] (by decide +kernel) (by simp) (by decide) ⟨?_, ?_, ?_, trivial⟩
              · show aopsR _ _ _ [_] _ _ _
                refine ⟨trivial, ?_⟩
                refine AAny.keep [0, 3, 5, 8, 9, 37] (by decide) ?_
                exact s32 trivial
              · show aopsR _ _ _ [_] _ _ _
                refine ⟨trivial, ?_⟩
                refine AAny.keep [0, 3, 5, 8, 9, 38] (by decide) ?_
                exact s33 trivial
              · show aopsR _ _ _ [_] _ _ _
                refine ⟨trivial, ?_⟩
                refine AAny.keep [0, 3, 5, 8, 9, 41] (by decide) ?_
                exact s34 trivial
            exact s35 trivial
          intro _
          refine hK1 _ _ ?_; clear hK1 K1
          refine hK4 _ _ ?_; clear hK4
          refine awp_reg2 [] [0, 3, 8, 9] (by decide) ?_
          intro K1 hK1
          refine ar_add rfl (a := i) (b := 1) rfl rfl (by omega) (by omega) ?_
          refine ⟨trivial, ?_⟩
          show K1 [(0, .str s), (3, .slice true ((b ++ ([92, 120, gI ([48, 49, 50, 51, 52, 53, 54, 55, 56, 57, 97, 98, 99, 100, 101, 102] : List UInt8) (Int.fdiv ((gI s i).toNat) (2 ^ (min (Int.toNat 4) IntKind.u8.bits))), gI ([48, 49, 50, 51, 52, 53, 54, 55, 56, 57, 97, 98, 99, 100, 101, 102] : List UInt8) (IntKind.u8.wrap (BitVec.ofInt IntKind.u8.bits ((gI s i).toNat) &&& BitVec.ofInt IntKind.u8.bits 15).toNat)] : List UInt8)).map byteAV)), (8, .int .i64 (s.length : Int)), (9, .int .i64 (i + 1))] m
          refine hK1 _ _ ?_; clear hK1 K1
          refine ⟨(b ++ ([92, 120, gI ([48, 49, 50, 51, 52, 53, 54, 55, 56, 57, 97, 98, 99, 100, 101, 102] : List UInt8) (Int.fdiv ((gI s i).toNat) (2 ^ (min (Int.toNat 4) IntKind.u8.bits))), gI ([48, 49, 50, 51, 52, 53, 54, 55, 56, 57, 97, 98, 99, 100, 101, 102] : List UInt8) (IntKind.u8.wrap (BitVec.ofInt IntKind.u8.bits ((gI s i).toNat) &&& BitVec.ofInt IntKind.u8.bits 15).toNat)] : List UInt8), i + 1), rfl, rfl, ?_, ?_⟩
          · show 0 ≤ ((i + 1 : Int)) ∧ ((i + 1 : Int)) ≤ s.length ∧ ((b ++ ([92, 120, gI ([48, 49, 50, 51, 52, 53, 54, 55, 56, 57, 97, 98, 99, 100, 101, 102] : List UInt8) (Int.fdiv ((gI s i).toNat) (2 ^ (min (Int.toNat 4) IntKind.u8.bits))), gI ([48, 49, 50, 51, 52, 53, 54, 55, 56, 57, 97, 98, 99, 100, 101, 102] : List UInt8) (IntKind.u8.wrap (BitVec.ofInt IntKind.u8.bits ((gI s i).toNat) &&& BitVec.ofInt IntKind.u8.bits 15).toNat)] : List UInt8) : (List UInt8))) = 34 :: (s.take ((i + 1 : Int)).toNat).flatMap escB
            exact ⟨by omega, by omega, by rw [← esc_step hI.1 h1 hI.2.2]; congr 1; unfold escB; rw [if_neg (by omega), if_pos (by omega), hq1, hq2]; rfl⟩
          · show s.length - ((i + 1 : Int)).toNat < s.length - i.toNat
            omega
        · replace h5 : (32 ≤ ((gI s i).toNat : Int)) ∧ (((gI s i).toNat : Int) ≤ 126) := ⟨(Int.not_lt.1 (of_decide_eq_false (borL h5))), (Int.not_lt.1 (of_decide_eq_false (borR h5)))⟩
          refine awp_reg2 [15] [0, 3, 8, 9] (by decide) ?_
          intro K1 hK1
          refine ⟨trivial, trivial, ⟨rfl, Nat.le_of_ble_eq_true rfl, rfl, Nat.le_of_ble_eq_true rfl, rfl, by simp only [List.forall_mem_cons]; exact ⟨⟨rfl, rfl⟩, fun _ h => by cases h⟩⟩, ?_⟩
          refine ar_append rfl byteAV b ([gI s i] : List UInt8) rfl rfl rfl rfl rfl rfl (Nat.le_of_ble_eq_true rfl) rfl (by (simp only [show Try.prog.bytesOf 5 = 1 from rfl, List.length_append, List.length_cons, List.length_nil]; omega)) (by (first | omega | (simp only [List.length_append, List.length_cons, List.length_nil]; omega))) (fun _ => ⟨rfl, rfl⟩) ?_
          refine ⟨trivial, ?_⟩
          show K1 [(0, .str s), (3, .slice true ((b ++ ([gI s i] : List UInt8)).map byteAV)), (8, .int .i64 (s.length : Int)), (9, .int .i64 i)] m
          refine hK1 _ _ ?_; clear hK1 K1
          refine hK4 _ _ ?_; clear hK4
          refine awp_reg2 [] [0, 3, 8, 9] (by decide) ?_
          intro K1 hK1
          refine ar_add rfl (a := i) (b := 1) rfl rfl (by omega) (by omega) ?_
          refine ⟨trivial, ?_⟩
          show K1 [(0, .str s), (3, .slice true ((b ++ ([gI s i] : List UInt8)).map byteAV)), (8, .int .i64 (s.length : Int)), (9, .int .i64 (i + 1))] m
          refine hK1 _ _ ?_; clear hK1 K1
          refine ⟨(b ++ ([gI s i] : List UInt8), i + 1), rfl, rfl, ?_, ?_⟩
          · show 0 ≤ ((i + 1 : Int)) ∧ ((i + 1 : Int)) ≤ s.length ∧ ((b ++ ([gI s i] : List UInt8) : (List UInt8))) = 34 :: (s.take ((i + 1 : Int)).toNat).flatMap escB
            exact ⟨by omega, by omega, by rw [← esc_step hI.1 h1 hI.2.2]; congr 1; unfold escB; rw [if_neg (by omega), if_neg (by omega)]⟩
          · show s.length - ((i + 1 : Int)).toNat < s.length - i.toNat
            omega
    · replace h1 : (s.length : Int) ≤ i := (Int.not_lt.1 (of_decide_eq_false h1))
      refine awp_exit ?_
      refine hK2 _ _ ?_; clear hK2
      refine awp_reg2_seq [47] [2] (by decide) ?_
      intro K1 hK1
      refine ⟨trivial, ⟨rfl, Nat.le_of_ble_eq_true rfl, rfl, Nat.le_of_ble_eq_true rfl, rfl, by simp only [List.forall_mem_cons]; exact ⟨⟨rfl, rfl⟩, fun _ h => by cases h⟩⟩, ?_⟩
      refine ar_append rfl byteAV b ([34] : List UInt8) rfl rfl rfl rfl rfl rfl (Nat.le_of_ble_eq_true rfl) rfl (by (simp only [show Try.prog.bytesOf 5 = 1 from rfl, List.length_append, List.length_cons, List.length_nil]; omega)) (by (first | omega | (simp only [List.length_append, List.length_cons, List.length_nil]; omega))) (fun _ => ⟨rfl, rfl⟩) ?_
      refine ar_toStr rfl (b ++ ([34] : List UInt8)) rfl rfl rfl rfl rfl ?_
      refine ⟨trivial, ?_⟩
      show K1 [(2, .str (b ++ ([34] : List UInt8)))] m
      refine hK1 _ _ ?_; clear hK1 K1
      refine awp_ret ?_
      refine ⟨trivial, m, fun _ _ h => h, ?_⟩
      show K (.str (b ++ ([34] : List UInt8))) m
     
      refine K_eq hK (congrArg AV.str ?_)
      rw [hI.2.2, quoteS, List.take_of_length_le (by omega)]

end Go.Proofs
