import Derived.Test.YtfpbolgpaipiiaaProg
import Derived.Test.YtfpbolgpaipiiaaMix
import Derived.Test.YtfpbolgpaipiiaaWxc
import Derived.Test.YtfpbolgpaipiiaaTl2
namespace Go.Proofs
open Go Go.Aw
set_option maxRecDepth 100000


theorem quoteL_short (s : List UInt8) (i : Nat) (b : List UInt8) : (quoteL s i b).1 = 0 → (quoteL s i b).2.1.length ≤ 40 := by
  fun_induction quoteL s i b <;> simp_all <;> omega
theorem signs_mem {c : UInt8} (h : 0 ≤ Lib.indexByte signsL c) : c ∈ signsL := by
  by_cases hc : c ∈ signsL
  · exact hc
  · rw [indexByte_none (l := signsL) (c := c) (fun j hj he => hc (by rw [← he]; simp [List.getD_eq_getElem?_getD, hj]))] at h
    omega
theorem sub_run {f : UInt8 → Bool} {s : List UInt8} {a : Int} (h0 : 0 ≤ a) : sub s a (runI f s a) = (s.drop a.toNat).takeWhile f := by
  unfold sub runI runN
  have e : (((a.toNat + ((s.drop a.toNat).takeWhile f).length : Nat) : Int) - a).toNat = ((s.drop a.toNat).takeWhile f).length := by omega
  rw [e]
  exact (List.prefix_iff_eq_take.1 (List.takeWhile_prefix f)).symm
theorem drop_head {s : List UInt8} {a : Int} (h0 : 0 ≤ a) (ha : a < s.length) : s.drop a.toNat = gI s a :: s.drop (a.toNat + 1) := by
  have h : a.toNat < s.length := by omega
  rw [List.drop_eq_getElem_cons h]
  simp [gI, List.getD_eq_getElem?_getD, h]
theorem one_good {s : List UInt8} {a : Int} (h0 : 0 ≤ a) (ha : a < s.length) (he : (oneI s a).2.2.2 = 0) : Good ((oneI s a).1, a, (oneI s a).2.1) := by
  have hd := drop_head h0 ha
  unfold oneI at he ⊢
  split at he <;> rename_i h1
  · rw [if_pos h1]
    split at he <;> rename_i h2
    · cases he
    · rw [if_neg h2]
      left
      refine ⟨rfl, ?_, ?_, ?_⟩
      · show (sub s a (runI wordB s a)).length ≤ 12
        unfold sub
        rw [List.length_take]; omega
      · intro c hc
        rw [show (1, sub s a (runI wordB s a), runI wordB s a, (0 : Int)).2.1 = sub s a (runI wordB s a) from rfl, sub_run h0] at hc
        exact List.all_eq_true.1 List.all_takeWhile c hc
      · show ∃ c r, sub s a (runI wordB s a) = c :: r ∧ _
        rw [sub_run h0, hd, List.takeWhile_cons, if_pos (by simp [wordB, h1])]
        exact ⟨_, _, rfl, h1⟩
  · rw [if_neg h1]
    split at he <;> rename_i h2
    · rw [if_pos h2]
      split at he <;> rename_i h3
      · cases he
      · rw [if_neg h3]
        right; left
        have hr : sub s a (runI digitB s a) = gI s a :: (s.drop (a.toNat + 1)).takeWhile digitB := by
          rw [sub_run h0, hd, List.takeWhile_cons, if_pos h2]
        have hlen : (sub s a (runI digitB s a)).length = (runI digitB s a - a).toNat := by
          rw [sub_run h0]; unfold runI runN; omega
        refine ⟨rfl, ?_, ?_, ?_⟩
        · show (sub s a (runI digitB s a)).length ≤ 10
          omega
        · intro c hc
          rw [show (2, sub s a (runI digitB s a), runI digitB s a, (0 : Int)).2.1 = sub s a (runI digitB s a) from rfl, sub_run h0] at hc
          exact List.all_eq_true.1 List.all_takeWhile c hc
        · refine ⟨_, _, hr, fun h4 => ?_⟩
          rw [hr, List.length_cons] at hlen
          have h5 : ¬ (a + 1 < runI digitB s a) := fun h5 => h3 (.inr ⟨by omega, h5⟩)
          exact List.length_eq_zero_iff.1 (by omega)
    · rw [if_neg h2]
      split at he <;> rename_i h3
      · rw [if_pos h3]
        have h4 : (qI s (a + 1) []).1 = 0 := he
        rw [if_pos h4]
        right; right; left
        exact ⟨rfl, quoteL_short _ _ _ h4⟩
      · rw [if_neg h3]
        split at he <;> rename_i h4
        · rw [if_pos h4]
          right; right; right
          exact ⟨rfl, .inl rfl⟩
        · rw [if_neg h4]
          split at he <;> rename_i h5
          · rw [if_pos h5]
            right; right; right
            refine ⟨rfl, .inr ⟨gI s a, ?_, signs_mem h5⟩⟩
            show sub s a (a + 1) = _
            unfold sub
            rw [hd, show (a + 1 - a).toNat = 1 by omega]; rfl
          · cases he
/-- What is known of a lexer's tokens. -/
def TokI (s : List UInt8) (l : List Tok) (a : Int) : Prop := (∀ t ∈ l, Good t ∧ 0 ≤ t.2.1 ∧ t.2.1 < s.length ∧ t.2.1 < a) ∧ l.Pairwise fun x y => x.2.1 < y.2.1
theorem TokI.mono {s : List UInt8} {l : List Tok} {a b : Int} (h : TokI s l a) (hab : a ≤ b) : TokI s l b := ⟨fun t ht => by have := h.1 t ht; exact ⟨this.1, this.2.1, this.2.2.1, by omega⟩, h.2⟩
theorem tokF_good (s : List UInt8) : ∀ (n : Nat) (a : Int) (out : List Tok), 0 ≤ a → TokI s out a → (tokF n s a out).2.2 = 0 → ∃ b, TokI s (tokF n s a out).1 b
  | 0, a, out, _, h, _ => ⟨a, h⟩
  | n + 1, a, out, h0, h, he => by
    by_cases ha : a < s.length
    · by_cases hsp : ((gI s a).toNat : Int) = 32 ∨ ((gI s a).toNat : Int) = 10
      · rw [tok_sp ha hsp] at he ⊢
        exact tokF_good s n (a + 1) out (by omega) (h.mono (by omega)) he
      · by_cases hco : ((gI s a).toNat : Int) = 35
        · rw [tok_com ha hco] at he ⊢
          have := runI_ge noLineB (s := s) h0
          exact tokF_good s n _ out (by omega) (h.mono this) he
        · by_cases h1 : (oneI s a).2.2.2 = 0
          · rw [tok_one ha hsp hco h1] at he ⊢
            have hend := oneI_end h0 ha h1
            refine tokF_good s n _ _ (by omega) ⟨fun t ht => ?_, ?_⟩ he
            · rcases List.mem_append.1 ht with ht | ht
              · exact (h.mono (by omega)).1 t ht
              · simp at ht; subst ht
                exact ⟨one_good h0 ha h1, h0, ha, hend.1⟩
            · rw [List.pairwise_append]
              exact ⟨h.2, by simp, fun x hx y hy => by simp at hy; subst hy; exact (h.1 x hx).2.2.2⟩
          · rw [tok_bad ha hsp hco h1] at he
            exact absurd he h1
    · rw [tok_end (by omega)]
      exact ⟨a, h⟩
theorem tokR_good {s : List UInt8} (he : (tokR s).2.2 = 0) : ∃ b, TokI s (tokR s).1 b := by
  unfold tokR at he ⊢
  split
  · exact ⟨0, by simp [TokI]⟩
  · rename_i h
    rw [if_neg h] at he
    exact tokF_good s _ 0 [] (by omega) (by simp [TokI]) he
theorem tokF_err (s : List UInt8) : ∀ (n : Nat) (a : Int) (out : List Tok), (tokF n s a out).2.2 ≠ 0 → (tokF n s a out).1 = []
  | 0, a, out, h => absurd rfl h
  | n + 1, a, out, h => by
    by_cases ha : a < s.length
    · by_cases hsp : ((gI s a).toNat : Int) = 32 ∨ ((gI s a).toNat : Int) = 10
      · rw [tok_sp ha hsp] at h ⊢; exact tokF_err s n _ _ h
      · by_cases hco : ((gI s a).toNat : Int) = 35
        · rw [tok_com ha hco] at h ⊢; exact tokF_err s n _ _ h
        · by_cases h1 : (oneI s a).2.2.2 = 0
          · rw [tok_one ha hsp hco h1] at h ⊢; exact tokF_err s n _ _ h
          · rw [tok_bad ha hsp hco h1]
    · rw [tok_end (by omega)] at h; exact absurd rfl h
theorem tokR_err {s : List UInt8} (he : (tokR s).2.2 ≠ 0) : (tokR s).1 = [] := by
  unfold tokR at he ⊢
  split
  · rfl
  · rename_i h
    rw [if_neg h] at he
    exact tokF_err s _ 0 [] he
theorem good_len {t : Tok} (h : Good t) : t.2.2.length ≤ 40 := by
  rcases h with ⟨_, h, _⟩ | ⟨_, h, _⟩ | ⟨_, h⟩ | ⟨_, h | ⟨c, h, _⟩⟩
  · omega
  · omega
  · omega
  · rw [h]; decide
  · rw [h]; simp
theorem quoteS_len (s : List UInt8) : (quoteS s).length ≤ 2 + 4 * s.length := by
  have := esc_len s
  unfold quoteS
  rw [List.length_append, List.length_cons, List.length_singleton]; omega
theorem print_len {t : Tok} (h : Good t) : (printT t).length ≤ 163 := by
  have h1 := good_len h
  have h2 := quoteS_len t.2.2
  unfold printT
  rw [List.length_append, List.length_singleton]
  split <;> omega
theorem prints_len {l : List Tok} (h : ∀ t ∈ l, Good t) : (l.flatMap printT).length ≤ 163 * l.length := by
  induction l with
  | nil => simp
  | cons t l ih =>
    have h1 := print_len (h t (by simp))
    have h2 := ih (fun t ht => h t (by simp [ht]))
    rw [List.flatMap_cons, List.length_append, List.length_cons]; omega
theorem reread {s : List UInt8} (he : (tokR s).2.2 = 0) (hl : ((tokR s).1.flatMap printT).length ≤ 4000) :
    (tokR ((tokR s).1.flatMap printT)).2.2 = 0 ∧ (tokR ((tokR s).1.flatMap printT)).1.map (fun t => (t.1, t.2.2)) = (tokR s).1.map (fun t => (t.1, t.2.2)) := by
  obtain ⟨b, hg⟩ := tokR_good he
  generalize (tokR s).1 = l at hl hg
  obtain ⟨l', h1, h2⟩ := tok_print (T := l.flatMap printT) l ((l.flatMap printT).length + 1) 0 [] (fun t ht => (hg.1 t ht).1) (by omega) (by simp) (by omega) (by omega)
  have e : tokR (l.flatMap printT) = (l', 0, 0) := by
    rw [tokR, if_neg (by omega), h1]; simp
  rw [e]; exact ⟨rfl, h2⟩
theorem map_gI {α β : Type} [Inhabited α] {l l' : List α} {f : α → β} (h : l'.map f = l.map f) {i : Int} (h0 : 0 ≤ i) (hi : i < l.length) : f (gI l' i) = f (gI l i) := by
  have hl : l'.length = l.length := by simpa using congrArg List.length h
  have h1 : i.toNat < l.length := by omega
  have h2 : i.toNat < l'.length := by omega
  have := congrArg (fun l => l[i.toNat]?) h
  simp only [List.getElem?_map, List.getElem?_eq_getElem h1, List.getElem?_eq_getElem h2, Option.map_some, Option.some.injEq] at this
  simpa [gI, List.getD_eq_getElem?_getD, h1, h2] using this
theorem tok_pair {s : List UInt8} {l : List Tok} {b : Int} (h : TokI s l b) {i : Int} (h0 : 1 ≤ i) (hi : i < l.length) : (gI l (i - 1)).2.1 < (gI l i).2.1 := by
  have := List.pairwise_iff_getElem.1 h.2 (i - 1).toNat i.toNat (by omega) (by omega) (by omega)
  have e1 : gI l (i - 1) = l[(i - 1).toNat]'(by omega) := by unfold gI; rw [List.getD_eq_getElem?_getD, List.getElem?_eq_getElem (by omega)]; rfl
  have e2 : gI l i = l[i.toNat]'(by omega) := by unfold gI; rw [List.getD_eq_getElem?_getD, List.getElem?_eq_getElem (by omega)]; rfl
  rw [e1, e2]; exact this
theorem tok_at {s : List UInt8} {l : List Tok} {b : Int} (h : TokI s l b) {i : Int} (h0 : 0 ≤ i) (hi : i < l.length) : Good (gI l i) ∧ 0 ≤ (gI l i).2.1 ∧ (gI l i).2.1 < s.length := by
  have hm : gI l i ∈ l := by
    simp only [gI, List.getD_eq_getElem?_getD, List.getElem?_eq_getElem (show i.toNat < l.length by omega), Option.getD_some]
    exact List.getElem_mem _
  have := h.1 _ hm
  exact ⟨this.1, this.2.1, this.2.2.1⟩
theorem print_step {l : List Tok} {i : Int} (h0 : 0 ≤ i) (hi : i < l.length) : (l.take (i + 1).toNat).flatMap printT = (l.take i.toNat).flatMap printT ++ printT (gI l i) := by
  rw [take_succ_gI' h0 hi, List.flatMap_append]; simp
theorem u_TokR (s : List UInt8) (hs : s.length ≤ 16777216) (m) (K : AV → AMem → Prop) (hK : K (.tuple [.slice false ((tokR s).1.map tokAV), .int .i64 (tokR s).2.1, .err 57 (tokR s).2.2]) m) : ACalls Try.prog 21 [.str s] m K := u_Tokens s hs m K hK
theorem u_Tok_ab (m) (K : AV → AMem → Prop) (hK : K (.tuple [.slice false (([(1, 0, [97, 98])] : List Tok).map tokAV), .int .i64 0, .err 57 0]) m) : ACalls Try.prog 21 [.str [97, 98]] m K :=
  u_TokensE [97, 98] ([(1, 0, [97, 98])], 0, 0) (by decide +kernel) (by decide) m K hK

set_option maxHeartbeats 4000000 in
theorem u_TopLex (s : List UInt8)  (m : AMem)  (K : AV → AMem → Prop) (hK : K (.bool true) m) : ACalls Try.prog 6 [.str s] m K := by
  refine acalls_enter Try.func6 rfl (by decide) (Nat.le_of_ble_eq_true rfl) ?_
  show AWP _ _ _ _ [(0, .str s)] m
  refine awp_reg2_seq [] [0] (by decide) ?_
  intro K1 hK1
  refine ⟨trivial, ?_⟩
  show K1 [(0, .str s)] m
  refine hK1 _ _ ?_; clear hK1 K1
  refine awp_reg2_seq [] [0, 3, 5] (by decide) ?_
  intro K1 hK1
  refine u_Tok_ab _ _ ?_
  refine ⟨trivial, (Nat.le_of_ble_eq_true rfl), (Nat.le_of_ble_eq_true rfl), (Nat.le_of_ble_eq_true rfl), trivial, trivial, trivial, ?_⟩
  show K1 [(0, .str s), (3, .slice false (([(1, 0, [97, 98])] : List Tok).map tokAV)), (5, .err 57 0)] m
  refine hK1 _ _ ?_; clear hK1 K1
  refine awp_seq_k ?_; intro K2 hK2
  refine awp_reg2_seq [] [0, 25] (by decide) ?_
  intro K1 hK1
  suffices key : K1 [(0, .str s), (25, .bool (!((([(1, 0, [97, 98])] : List Tok).length : Int) == 1)))] m by
    refine ⟨trivial, ⟨rfl, rfl⟩, trivial, trivial, ?_⟩
    refine ar_len rfl tokAV ([(1, 0, [97, 98])] : List Tok) rfl rfl rfl ?_
    refine ⟨trivial, ?_⟩
    exact key
  refine hK1 _ _ ?_; clear hK1 K1
  refine awp_cond rfl rfl (fun h1 => ?_) (fun h1 => ?_)
  · replace h1 : (([(1, 0, [97, 98])] : List Tok).length : Int) ≠ 1 := (ne_of_beq_false (bnT h1))
    exact absurd rfl h1
  · replace h1 : (([(1, 0, [97, 98])] : List Tok).length : Int) = 1 := (eq_of_beq (bnF h1))
    refine awp_skip ?_
    refine hK2 _ _ ?_; clear hK2
    refine awp_seq_k ?_; intro K3 hK3
    refine awp_reg2_seq [] [0, 28] (by decide) ?_
    intro K1 hK1
    refine ⟨trivial, trivial, trivial, ?_⟩
    show K1 [(0, .str s), (28, .bool (decide (1500 < (s.length : Int))))] m
    refine hK1 _ _ ?_; clear hK1 K1
    refine awp_cond rfl rfl (fun h2 => ?_) (fun h2 => ?_)
    · replace h2 : 1500 < (s.length : Int) := (of_decide_eq_true h2)
      refine awp_reg2_seq [] [2] (by decide) ?_
      intro K1 hK1
      refine ⟨trivial, ?_⟩
      show K1 [(2, .bool true)] m
      refine hK1 _ _ ?_; clear hK1 K1
      refine awp_ret ?_
      refine ⟨trivial, m, fun _ _ h => h, ?_⟩
      show K (.bool true) m
     
      exact hK
    · replace h2 : (s.length : Int) ≤ 1500 := (Int.not_lt.1 (of_decide_eq_false h2))
      refine awp_skip ?_
      refine hK3 _ _ ?_; clear hK3
      refine awp_reg2_seq [] [0, 5, 6] (by decide) ?_
      intro K1 hK1
      refine ⟨trivial, ?_⟩
      refine u_TokR s (by omega) _ _ ?_
      refine ⟨trivial, (Nat.le_of_ble_eq_true rfl), (Nat.le_of_ble_eq_true rfl), (Nat.le_of_ble_eq_true rfl), trivial, trivial, trivial, ?_⟩
      show K1 [(0, .str s), (5, .err 57 ((tokR s).2.2)), (6, .slice false (((tokR s).1).map tokAV))] m
      refine hK1 _ _ ?_; clear hK1 K1
      refine awp_seq_k ?_; intro K4 hK4
      refine awp_reg2_seq [] [0, 6, 36] (by decide) ?_
      intro K1 hK1
      refine ⟨trivial, ⟨rfl, rfl⟩, ?_⟩
      show K1 [(0, .str s), (6, .slice false (((tokR s).1).map tokAV)), (36, .bool (!(((tokR s).2.2) == 0)))] m
      refine hK1 _ _ ?_; clear hK1 K1
      refine awp_cond rfl rfl (fun h3 => ?_) (fun h3 => ?_)
      · replace h3 : (tokR s).2.2 ≠ 0 := (ne_of_beq_false (bnT h3))
        refine awp_reg2_seq [] [2] (by decide) ?_
        intro K1 hK1
        refine ⟨trivial, ?_⟩
        refine ar_len rfl tokAV ((tokR s).1) rfl rfl rfl ?_
        refine ⟨trivial, trivial, ?_⟩
        show K1 [(2, .bool ((((tokR s).1).length : Int) == 0))] m
        refine hK1 _ _ ?_; clear hK1 K1
        refine awp_ret ?_
        refine ⟨trivial, m, fun _ _ h => h, ?_⟩
        show K (.bool ((((tokR s).1).length : Int) == 0)) m
       
        refine K_eq hK (congrArg AV.bool ?_)
        rw [tokR_err h3]; rfl
      · replace h3 : (tokR s).2.2 = 0 := (eq_of_beq (bnF h3))
        obtain ⟨bb, hg⟩ := tokR_good h3
        have hll := tokR_len s
        refine awp_skip ?_
        refine hK4 _ _ ?_; clear hK4
        refine awp_reg2_seq [] [0, 6, 8] (by decide) ?_
        intro K1 hK1
        refine ⟨trivial, ?_⟩
        show K1 [(0, .str s), (6, .slice false (((tokR s).1).map tokAV)), (8, .str ([]))] m
        refine hK1 _ _ ?_; clear hK1 K1
        refine awp_reg2_seq [] [0, 6, 8, 9] (by decide) ?_
        intro K1 hK1
        refine ⟨trivial, ?_⟩
        show K1 [(0, .str s), (6, .slice false (((tokR s).1).map tokAV)), (8, .str ([])), (9, .int .i64 (-1))] m
        refine hK1 _ _ ?_; clear hK1 K1
        refine awp_seq_k ?_; intro K5 hK5
        refine awp_reg2_seq [] [0, 6, 8, 9, 10] (by decide) ?_
        intro K1 hK1
        refine ⟨trivial, ?_⟩
        show K1 [(0, .str s), (6, .slice false (((tokR s).1).map tokAV)), (8, .str ([])), (9, .int .i64 (-1)), (10, .int .i64 0)] m
        refine hK1 _ _ ?_; clear hK1 K1
        refine awp_block ?_
        refine awp_keep [0, 6, 8, 9, 10] (by decide) ?_
        refine awp_loop_st (σ := (List UInt8) × Int × Int) (fun ⟨t, last, i⟩ => [(0, .str s), (6, .slice false (((tokR s).1).map tokAV)), (8, .str t), (9, .int .i64 last), (10, .int .i64 i)]) (fun _ => m) (fun ⟨t, last, i⟩ => 0 ≤ i ∧ i ≤ (tokR s).1.length ∧ t = ((tokR s).1.take i.toNat).flatMap printT ∧ ((i = 0 ∧ last = -1) ∨ (1 ≤ i ∧ last = (gI (tokR s).1 (i - 1)).2.1))) (fun ⟨t, last, i⟩ => (tokR s).1.length - i.toNat) ([], -1, 0) rfl rfl ?_ ?_
        · show 0 ≤ ((0 : Int)) ∧ ((0 : Int)) ≤ (tokR s).1.length ∧ (([] : (List UInt8))) = ((tokR s).1.take ((0 : Int)).toNat).flatMap printT ∧ ((((0 : Int)) = 0 ∧ ((-1 : Int)) = -1) ∨ (1 ≤ ((0 : Int)) ∧ ((-1 : Int)) = (gI (tokR s).1 (((0 : Int)) - 1)).2.1))
          exact ⟨by omega, by omega, rfl, .inl ⟨rfl, rfl⟩⟩
        · rintro ⟨t, last, i⟩ hI
          replace hI : 0 ≤ i ∧ i ≤ (tokR s).1.length ∧ t = ((tokR s).1.take i.toNat).flatMap printT ∧ ((i = 0 ∧ last = -1) ∨ (1 ≤ i ∧ last = (gI (tokR s).1 (i - 1)).2.1)) := hI
          show AWP _ _ _ _ [(0, .str s), (6, .slice false (((tokR s).1).map tokAV)), (8, .str t), (9, .int .i64 last), (10, .int .i64 i)] m
          refine awp_seq_k ?_; intro K6 hK6
          refine awp_reg2_seq [] [0, 6, 8, 9, 10, 43] (by decide) ?_
          intro K1 hK1
          refine ⟨trivial, trivial, ?_⟩
          refine ar_len rfl tokAV ((tokR s).1) rfl rfl rfl ?_
          refine ⟨trivial, ?_⟩
          show K1 [(0, .str s), (6, .slice false (((tokR s).1).map tokAV)), (8, .str t), (9, .int .i64 last), (10, .int .i64 i), (43, .bool (decide (i < (((tokR s).1).length : Int))))] m
          refine hK1 _ _ ?_; clear hK1 K1
          refine awp_cond rfl rfl (fun h4 => ?_) (fun h4 => ?_)
          · replace h4 : i < (((tokR s).1).length : Int) := (of_decide_eq_true h4)
            have ht4 := tok_at hg hI.1 h4
            have hgl := good_len ht4.1
            have hpl := prints_len (l := (tokR s).1.take i.toNat) (fun t ht => (hg.1 t (List.mem_of_mem_take ht)).1)
            rw [← hI.2.2.1, List.length_take] at hpl
            have hq := quoteS_len (gI (tokR s).1 i).2.2
            refine awp_skip ?_
            refine hK6 _ _ ?_; clear hK6
            refine awp_seq_k ?_; intro K7 hK7
            refine awp_block ?_
            refine awp_seq_k ?_; intro K8 hK8
            refine awp_reg2_seq [] [0, 6, 8, 10, 62] (by decide) ?_
            intro K1 hK1
            suffices key : K1 [(0, .str s), (6, .slice false (((tokR s).1).map tokAV)), (8, .str t), (10, .int .i64 i), (62, .bool ((decide ((gI ((tokR s).1) i).2.1 ≤ last)) || (decide ((s.length : Int) ≤ (gI ((tokR s).1) i).2.1))))] m by
              refine ⟨trivial, trivial, ?_⟩
              refine ar_index rfl tokAV ((tokR s).1) i rfl rfl rfl rfl rfl (by decide) (fun _ => rfl) (by omega) (by omega) ?_
              refine ⟨⟨rfl, by decide, (Nat.le_of_ble_eq_true rfl)⟩, (apartOk_one rfl rfl (Nat.le_of_ble_eq_true rfl)), trivial, trivial, trivial, ?_⟩
              show aopsR _ _ _ _ _ [(53, .bool (decide ((gI ((tokR s).1) i).2.1 ≤ last))), (52, .bool (decide ((gI ((tokR s).1) i).2.1 ≤ last))), (51, .int .i64 last), (50, .int .i64 ((gI ((tokR s).1) i).2.1)), (49, .ref [.int .i64 ((gI ((tokR s).1) i).2.1), .str ((gI ((tokR s).1) i).2.2)]), (48, .ref (AV.cells (tokAV (gI ((tokR s).1) i)))), (47, .int .i64 i), (46, .slice false (((tokR s).1).map tokAV)), (0, .str s), (6, .slice false (((tokR s).1).map tokAV)), (8, .str t), (9, .int .i64 last), (10, .int .i64 i), (43, .bool (decide (i < (((tokR s).1).length : Int))))] _
              revert key
              cases h5 : (decide ((gI ((tokR s).1) i).2.1 ≤ last))
              · replace h5 : last < (gI ((tokR s).1) i).2.1 := (Int.not_le.1 (of_decide_eq_false h5))
                intro key
                refine ⟨trivial, trivial, ?_⟩
                refine ar_index rfl tokAV ((tokR s).1) i rfl rfl rfl rfl rfl (by decide) (fun _ => rfl) (by omega) (by omega) ?_
                refine ⟨⟨rfl, by decide, (Nat.le_of_ble_eq_true rfl)⟩, (apartOk_one rfl rfl (Nat.le_of_ble_eq_true rfl)), trivial, trivial, trivial, ?_⟩
                exact key
              · replace h5 : (gI ((tokR s).1) i).2.1 ≤ last := (of_decide_eq_true h5)
                intro key
                refine ar_off rfl (ar_off rfl (ar_off rfl (ar_off rfl (ar_off rfl (ar_off rfl (ar_off rfl (ar_off rfl ?_)))))))
                exact key
            refine hK1 _ _ ?_; clear hK1 K1
            refine awp_cond rfl rfl (fun h6 => ?_) (fun h6 => ?_)
            · replace h6 : ((gI ((tokR s).1) i).2.1 ≤ last) ∨ ((s.length : Int) ≤ (gI ((tokR s).1) i).2.1) := ((borT h6).imp (fun q => (of_decide_eq_true q)) (fun q => (of_decide_eq_true q)))
              rcases hI.2.2.2 with ⟨h, e⟩ | ⟨h, e⟩
              · omega
              · have := tok_pair hg h h4
                omega
            · replace h6 : (last < (gI ((tokR s).1) i).2.1) ∧ ((gI ((tokR s).1) i).2.1 < (s.length : Int)) := ⟨(Int.not_le.1 (of_decide_eq_false (borL h6))), (Int.not_le.1 (of_decide_eq_false (borR h6)))⟩
              refine awp_skip ?_
              refine hK8 _ _ ?_; clear hK8
              refine awp_reg2_seq [] [0, 6, 8, 9, 10] (by decide) ?_
              intro K1 hK1
              refine ⟨trivial, trivial, ?_⟩
              refine ar_index rfl tokAV ((tokR s).1) i rfl rfl rfl rfl rfl (by decide) (fun _ => rfl) (by omega) (by omega) ?_
              refine ⟨⟨rfl, by decide, (Nat.le_of_ble_eq_true rfl)⟩, (apartOk_one rfl rfl (Nat.le_of_ble_eq_true rfl)), trivial, ?_⟩
              show K1 [(0, .str s), (6, .slice false (((tokR s).1).map tokAV)), (8, .str t), (9, .int .i64 ((gI ((tokR s).1) i).2.1)), (10, .int .i64 i)] m
              refine hK1 _ _ ?_; clear hK1 K1
              refine awp_reg2_seq [] [0, 6, 8, 9, 10, 73] (by decide) ?_
              intro K1 hK1
              refine ⟨trivial, trivial, ?_⟩
              refine ar_index rfl tokAV ((tokR s).1) i rfl rfl rfl rfl rfl (by decide) (fun _ => rfl) (by omega) (by omega) ?_
              refine ⟨⟨rfl, by decide, (Nat.le_of_ble_eq_true rfl)⟩, (apartOk_one rfl rfl (Nat.le_of_ble_eq_true rfl)), trivial, ?_⟩
              show K1 [(0, .str s), (6, .slice false (((tokR s).1).map tokAV)), (8, .str t), (9, .int .i64 ((gI ((tokR s).1) i).2.1)), (10, .int .i64 i), (73, .bool (((gI ((tokR s).1) i).1) == 3))] m
              refine hK1 _ _ ?_; clear hK1 K1
              refine awp_cond rfl rfl (fun h7 => ?_) (fun h7 => ?_)
              · replace h7 : (gI ((tokR s).1) i).1 = 3 := (eq_of_beq h7)
                refine awp_reg2 [] [0, 6, 8, 9, 10] (by decide) ?_
                intro K1 hK1
                refine ⟨trivial, trivial, trivial, ?_⟩
                refine ar_index rfl tokAV ((tokR s).1) i rfl rfl rfl rfl rfl (by decide) (fun _ => rfl) (by omega) (by omega) ?_
                refine ⟨⟨rfl, by decide, (Nat.le_of_ble_eq_true rfl)⟩, (apartOk_one rfl rfl (Nat.le_of_ble_eq_true rfl)), ?_⟩
                refine u_Quote ((gI ((tokR s).1) i).2.2) (by omega) _ _ ?_
                refine ⟨(by first | omega | (simp only [List.length_append, List.length_cons, List.length_nil]; omega)), (by first | omega | (simp only [List.length_append, List.length_cons, List.length_nil]; omega)), trivial, ?_⟩
                show K1 [(0, .str s), (6, .slice false (((tokR s).1).map tokAV)), (8, .str ((t ++ (quoteS ((gI ((tokR s).1) i).2.2))) ++ ([10] : List UInt8))), (9, .int .i64 ((gI ((tokR s).1) i).2.1)), (10, .int .i64 i)] m
                refine hK1 _ _ ?_; clear hK1 K1
                refine hK7 _ _ ?_; clear hK7
                refine awp_reg2 [] [0, 6, 8, 9, 10] (by decide) ?_
                intro K1 hK1
                refine ⟨trivial, ?_⟩
                refine ar_add rfl (a := i) (b := 1) rfl rfl (by omega) (by omega) ?_
                refine ⟨trivial, ?_⟩
                show K1 [(0, .str s), (6, .slice false (((tokR s).1).map tokAV)), (8, .str ((t ++ (quoteS ((gI ((tokR s).1) i).2.2))) ++ ([10] : List UInt8))), (9, .int .i64 ((gI ((tokR s).1) i).2.1)), (10, .int .i64 (i + 1))] m
                refine hK1 _ _ ?_; clear hK1 K1
                refine ⟨((t ++ (quoteS ((gI ((tokR s).1) i).2.2))) ++ ([10] : List UInt8), (gI ((tokR s).1) i).2.1, i + 1), rfl, rfl, ?_, ?_⟩
                · show 0 ≤ ((i + 1 : Int)) ∧ ((i + 1 : Int)) ≤ (tokR s).1.length ∧ (((t ++ (quoteS ((gI ((tokR s).1) i).2.2))) ++ ([10] : List UInt8) : (List UInt8))) = ((tokR s).1.take ((i + 1 : Int)).toNat).flatMap printT ∧ ((((i + 1 : Int)) = 0 ∧ (((gI ((tokR s).1) i).2.1 : Int)) = -1) ∨ (1 ≤ ((i + 1 : Int)) ∧ (((gI ((tokR s).1) i).2.1 : Int)) = (gI (tokR s).1 (((i + 1 : Int)) - 1)).2.1))
                  exact ⟨by omega, by omega, by rw [print_step hI.1 h4, ← hI.2.2.1, printT, if_pos h7]; simp, .inr ⟨by omega, by rw [show i + 1 - 1 = i by omega]⟩⟩
                · show (tokR s).1.length - ((i + 1 : Int)).toNat < (tokR s).1.length - i.toNat
                  omega
              · replace h7 : (gI ((tokR s).1) i).1 ≠ 3 := (ne_of_beq_false h7)
                refine awp_reg2 [] [0, 6, 8, 9, 10] (by decide) ?_
                intro K1 hK1
                refine ⟨trivial, trivial, trivial, ?_⟩
                refine ar_index rfl tokAV ((tokR s).1) i rfl rfl rfl rfl rfl (by decide) (fun _ => rfl) (by omega) (by omega) ?_
                refine ⟨⟨rfl, by decide, (Nat.le_of_ble_eq_true rfl)⟩, (apartOk_one rfl rfl (Nat.le_of_ble_eq_true rfl)), (by first | omega | (simp only [List.length_append, List.length_cons, List.length_nil]; omega)), (by first | omega | (simp only [List.length_append, List.length_cons, List.length_nil]; omega)), trivial, ?_⟩
                show K1 [(0, .str s), (6, .slice false (((tokR s).1).map tokAV)), (8, .str ((t ++ ((gI ((tokR s).1) i).2.2)) ++ ([10] : List UInt8))), (9, .int .i64 ((gI ((tokR s).1) i).2.1)), (10, .int .i64 i)] m
                refine hK1 _ _ ?_; clear hK1 K1
                refine hK7 _ _ ?_; clear hK7
                refine awp_reg2 [] [0, 6, 8, 9, 10] (by decide) ?_
                intro K1 hK1
                refine ⟨trivial, ?_⟩
                refine ar_add rfl (a := i) (b := 1) rfl rfl (by omega) (by omega) ?_
                refine ⟨trivial, ?_⟩
                show K1 [(0, .str s), (6, .slice false (((tokR s).1).map tokAV)), (8, .str ((t ++ ((gI ((tokR s).1) i).2.2)) ++ ([10] : List UInt8))), (9, .int .i64 ((gI ((tokR s).1) i).2.1)), (10, .int .i64 (i + 1))] m
                refine hK1 _ _ ?_; clear hK1 K1
                refine ⟨((t ++ ((gI ((tokR s).1) i).2.2)) ++ ([10] : List UInt8), (gI ((tokR s).1) i).2.1, i + 1), rfl, rfl, ?_, ?_⟩
                · show 0 ≤ ((i + 1 : Int)) ∧ ((i + 1 : Int)) ≤ (tokR s).1.length ∧ (((t ++ ((gI ((tokR s).1) i).2.2)) ++ ([10] : List UInt8) : (List UInt8))) = ((tokR s).1.take ((i + 1 : Int)).toNat).flatMap printT ∧ ((((i + 1 : Int)) = 0 ∧ (((gI ((tokR s).1) i).2.1 : Int)) = -1) ∨ (1 ≤ ((i + 1 : Int)) ∧ (((gI ((tokR s).1) i).2.1 : Int)) = (gI (tokR s).1 (((i + 1 : Int)) - 1)).2.1))
                  exact ⟨by omega, by omega, by rw [print_step hI.1 h4, ← hI.2.2.1, printT, if_neg h7]; simp, .inr ⟨by omega, by rw [show i + 1 - 1 = i by omega]⟩⟩
                · show (tokR s).1.length - ((i + 1 : Int)).toNat < (tokR s).1.length - i.toNat
                  omega
          · replace h4 : (((tokR s).1).length : Int) ≤ i := (Int.not_lt.1 (of_decide_eq_false h4))
            have hti : t = (tokR s).1.flatMap printT := by rw [hI.2.2.1, List.take_of_length_le (by omega)]
            refine awp_exit ?_
            refine hK5 _ _ ?_; clear hK5
            refine awp_seq_k ?_; intro K9 hK9
            refine awp_reg2_seq [] [6, 8, 93] (by decide) ?_
            intro K1 hK1
            refine ⟨trivial, trivial, trivial, ?_⟩
            show K1 [(6, .slice false (((tokR s).1).map tokAV)), (8, .str t), (93, .bool (decide (4000 < (t.length : Int))))] m
            refine hK1 _ _ ?_; clear hK1 K1
            refine awp_cond rfl rfl (fun h8 => ?_) (fun h8 => ?_)
            · replace h8 : 4000 < (t.length : Int) := (of_decide_eq_true h8)
              refine awp_reg2_seq [] [2] (by decide) ?_
              intro K1 hK1
              refine ⟨trivial, ?_⟩
              show K1 [(2, .bool true)] m
              refine hK1 _ _ ?_; clear hK1 K1
              refine awp_ret ?_
              refine ⟨trivial, m, fun _ _ h => h, ?_⟩
              show K (.bool true) m
             
              exact hK
            · replace h8 : (t.length : Int) ≤ 4000 := (Int.not_lt.1 (of_decide_eq_false h8))
              have hrr := reread h3 (by rw [← hti]; omega)
              rw [← hti] at hrr
              have hrl : (tokR t).1.length = (tokR s).1.length := by simpa using congrArg List.length hrr.2
              refine awp_skip ?_
              refine hK9 _ _ ?_; clear hK9
              refine awp_reg2_seq [] [5, 6, 11] (by decide) ?_
              intro K1 hK1
              refine ⟨trivial, ?_⟩
              refine u_TokR t (by omega) _ _ ?_
              refine ⟨trivial, (Nat.le_of_ble_eq_true rfl), (Nat.le_of_ble_eq_true rfl), (Nat.le_of_ble_eq_true rfl), trivial, trivial, trivial, ?_⟩
              show K1 [(5, .err 57 ((tokR t).2.2)), (6, .slice false (((tokR s).1).map tokAV)), (11, .slice false (((tokR t).1).map tokAV))] m
              refine hK1 _ _ ?_; clear hK1 K1
              refine awp_seq_k ?_; intro K10 hK10
              refine awp_reg2_seq [] [6, 11, 108] (by decide) ?_
              intro K1 hK1
              suffices key : K1 [(6, .slice false (((tokR s).1).map tokAV)), (11, .slice false (((tokR t).1).map tokAV)), (108, .bool ((!(((tokR t).2.2) == 0)) || (!((((tokR t).1).length : Int) == (((tokR s).1).length : Int)))))] m by
                refine ⟨trivial, ⟨rfl, rfl⟩, trivial, ?_⟩
                show aopsR _ _ _ _ _ [(102, .bool (!(((tokR t).2.2) == 0))), (101, .bool (!(((tokR t).2.2) == 0))), (100, .err 57 ((tokR t).2.2)), (5, .err 57 ((tokR t).2.2)), (6, .slice false (((tokR s).1).map tokAV)), (11, .slice false (((tokR t).1).map tokAV))] _
                revert key
                cases h9 : (((tokR t).2.2) == 0)
                · replace h9 : (tokR t).2.2 ≠ 0 := (ne_of_beq_false h9)
                  intro key
                  refine ar_off rfl (ar_off rfl (ar_off rfl (ar_off rfl (ar_off rfl ?_))))
                  exact key
                · replace h9 : (tokR t).2.2 = 0 := (eq_of_beq h9)
                  intro key
                  refine ⟨trivial, ?_⟩
                  refine ar_len rfl tokAV ((tokR t).1) rfl rfl rfl ?_
                  refine ⟨trivial, ?_⟩
                  refine ar_len rfl tokAV ((tokR s).1) rfl rfl rfl ?_
                  refine ⟨trivial, ?_⟩
                  exact key
              refine hK1 _ _ ?_; clear hK1 K1
              refine awp_cond rfl rfl (fun h10 => ?_) (fun h10 => ?_)
              · replace h10 : ((tokR t).2.2 ≠ 0) ∨ ((((tokR t).1).length : Int) ≠ (((tokR s).1).length : Int)) := ((borT h10).imp (fun q => (ne_of_beq_false (bnT q))) (fun q => (ne_of_beq_false (bnT q))))
                rcases h10 with h | h
                · exact absurd hrr.1 h
                · omega
              · replace h10 : ((tokR t).2.2 = 0) ∧ ((((tokR t).1).length : Int) = (((tokR s).1).length : Int)) := ⟨(eq_of_beq (bnF (borL h10))), (eq_of_beq (bnF (borR h10)))⟩
                refine awp_skip ?_
                refine hK10 _ _ ?_; clear hK10
                refine awp_seq_k ?_; intro K11 hK11
                refine awp_reg2_seq [] [6, 11, 13] (by decide) ?_
                intro K1 hK1
                refine ⟨trivial, ?_⟩
                show K1 [(6, .slice false (((tokR s).1).map tokAV)), (11, .slice false (((tokR t).1).map tokAV)), (13, .int .i64 0)] m
                refine hK1 _ _ ?_; clear hK1 K1
                refine awp_block ?_
                refine awp_keep [6, 11, 13] (by decide) ?_
                refine awp_loop_st (σ := Int) (fun k => [(6, .slice false (((tokR s).1).map tokAV)), (11, .slice false (((tokR t).1).map tokAV)), (13, .int .i64 k)]) (fun _ => m) (fun k => 0 ≤ k ∧ k ≤ (tokR s).1.length) (fun k => (tokR s).1.length - k.toNat) (0) rfl rfl ?_ ?_
                · show 0 ≤ ((0 : Int)) ∧ ((0 : Int)) ≤ (tokR s).1.length
                  first | omega | (refine ⟨?_, ?_⟩ <;> first | omega | simp) | simp
                · rintro k hI2
                  replace hI2 : 0 ≤ k ∧ k ≤ (tokR s).1.length := hI2
                  show AWP _ _ _ _ [(6, .slice false (((tokR s).1).map tokAV)), (11, .slice false (((tokR t).1).map tokAV)), (13, .int .i64 k)] m
                  refine awp_seq_k ?_; intro K12 hK12
                  refine awp_reg2_seq [] [6, 11, 13, 112] (by decide) ?_
                  intro K1 hK1
                  refine ⟨trivial, trivial, ?_⟩
                  refine ar_len rfl tokAV ((tokR s).1) rfl rfl rfl ?_
                  refine ⟨trivial, ?_⟩
                  show K1 [(6, .slice false (((tokR s).1).map tokAV)), (11, .slice false (((tokR t).1).map tokAV)), (13, .int .i64 k), (112, .bool (decide (k < (((tokR s).1).length : Int))))] m
                  refine hK1 _ _ ?_; clear hK1 K1
                  refine awp_cond rfl rfl (fun h11 => ?_) (fun h11 => ?_)
                  · replace h11 : k < (((tokR s).1).length : Int) := (of_decide_eq_true h11)
                    have hm : ((gI (tokR t).1 k).1, (gI (tokR t).1 k).2.2) = ((gI (tokR s).1 k).1, (gI (tokR s).1 k).2.2) := map_gI hrr.2 hI2.1 h11
                    refine awp_skip ?_
                    refine hK12 _ _ ?_; clear hK12
                    refine awp_seq_k ?_; intro K13 hK13
                    refine awp_block ?_
                    refine awp_draw_seq Try.mixed [] [6, 11, 13, 138] (by decide) (by decide) ?_
                    intro K1 hK1
                    suffices key : K1 [(6, .slice false (((tokR s).1).map tokAV)), (11, .slice false (((tokR t).1).map tokAV)), (13, .int .i64 k), (138, .bool ((!(((gI ((tokR t).1) k).1) == ((gI ((tokR s).1) k).1))) || (!(((gI ((tokR t).1) k).2.2) == ((gI ((tokR s).1) k).2.2)))))] m by
                      refine ⟨trivial, trivial, ?_⟩
                      refine pq_index rfl tokAV ((tokR t).1) k rfl rfl rfl rfl rfl (by decide) (fun _ => rfl) (by omega) (by omega) ?_
                      refine ⟨⟨rfl, by decide, (Nat.le_of_ble_eq_true rfl)⟩, (apartOk_one rfl rfl (Nat.le_of_ble_eq_true rfl)), trivial, trivial, ?_⟩
                      refine pq_index rfl tokAV ((tokR s).1) k rfl rfl rfl rfl rfl (by decide) (fun _ => rfl) (by omega) (by omega) ?_
                      refine ⟨⟨rfl, by decide, (Nat.le_of_ble_eq_true rfl)⟩, (apartOk_one rfl rfl (Nat.le_of_ble_eq_true rfl)), trivial, trivial, ?_⟩
                      show pseq _ _ _ _ _ [(126, .bool (!(((gI ((tokR t).1) k).1) == ((gI ((tokR s).1) k).1)))), (125, .bool (!(((gI ((tokR t).1) k).1) == ((gI ((tokR s).1) k).1)))), (124, .int .i64 ((gI ((tokR s).1) k).1)), (123, .ref [.int .i64 ((gI ((tokR s).1) k).1), .int .i64 ((gI ((tokR s).1) k).2.1), .str ((gI ((tokR s).1) k).2.2)]), (122, .ref (AV.cells (tokAV (gI ((tokR s).1) k)))), (121, .int .i64 k), (120, .slice false (((tokR s).1).map tokAV)), (119, .int .i64 ((gI ((tokR t).1) k).1)), (118, .ref [.int .i64 ((gI ((tokR t).1) k).1), .int .i64 ((gI ((tokR t).1) k).2.1), .str ((gI ((tokR t).1) k).2.2)]), (117, .ref (AV.cells (tokAV (gI ((tokR t).1) k)))), (116, .int .i64 k), (115, .slice false (((tokR t).1).map tokAV)), (6, .slice false (((tokR s).1).map tokAV)), (11, .slice false (((tokR t).1).map tokAV)), (13, .int .i64 k), (112, .bool (decide (k < (((tokR s).1).length : Int))))] _
                      revert key
                      cases h12 : (((gI ((tokR t).1) k).1) == ((gI ((tokR s).1) k).1))
                      · replace h12 : (gI ((tokR t).1) k).1 ≠ (gI ((tokR s).1) k).1 := (ne_of_beq_false h12)
                        intro key
                        refine pq_off rfl rfl ?_
                        refine pq_off rfl rfl ?_
                        refine pq_off rfl rfl ?_
                        refine pq_off rfl rfl ?_
                        refine pq_off rfl rfl ?_
                        refine pq_off rfl rfl ?_
                        refine pq_off rfl rfl ?_
                        refine pq_off rfl rfl ?_
                        refine pq_off rfl rfl ?_
                        refine pq_off rfl rfl ?_
                        refine pq_off rfl rfl ?_
                        refine ⟨trivial, ?_⟩
                        exact key
                      · replace h12 : (gI ((tokR t).1) k).1 = (gI ((tokR s).1) k).1 := (eq_of_beq h12)
                        intro key
                        refine ⟨trivial, trivial, ?_⟩
                        refine pq_index rfl tokAV ((tokR t).1) k rfl rfl rfl rfl rfl (by decide) (fun _ => rfl) (by omega) (by omega) ?_
                        refine ⟨⟨rfl, by decide, (Nat.le_of_ble_eq_true rfl)⟩, (apartOk_one rfl rfl (Nat.le_of_ble_eq_true rfl)), trivial, trivial, ?_⟩
                        refine pq_index rfl tokAV ((tokR s).1) k rfl rfl rfl rfl rfl (by decide) (fun _ => rfl) (by omega) (by omega) ?_
                        refine ⟨⟨rfl, by decide, (Nat.le_of_ble_eq_true rfl)⟩, (apartOk_one rfl rfl (Nat.le_of_ble_eq_true rfl)), trivial, trivial, ?_⟩
                        exact key
                    refine hK1 _ _ ?_; clear hK1 K1
                    refine awp_cond rfl rfl (fun h13 => ?_) (fun h13 => ?_)
                    · replace h13 : ((gI ((tokR t).1) k).1 ≠ (gI ((tokR s).1) k).1) ∨ ((gI ((tokR t).1) k).2.2 ≠ (gI ((tokR s).1) k).2.2) := ((borT h13).imp (fun q => (ne_of_beq_false (bnT q))) (fun q => (ne_of_beq_false (bnT q))))
                      rcases h13 with h | h
                      · exact absurd (congrArg Prod.fst hm) h
                      · exact absurd (congrArg Prod.snd hm) h
                    · replace h13 : ((gI ((tokR t).1) k).1 = (gI ((tokR s).1) k).1) ∧ ((gI ((tokR t).1) k).2.2 = (gI ((tokR s).1) k).2.2) := ⟨(eq_of_beq (bnF (borL h13))), (eq_of_beq (bnF (borR h13)))⟩
                      refine awp_skip ?_
                      refine hK13 _ _ ?_; clear hK13
                      refine awp_reg2 [] [6, 11, 13] (by decide) ?_
                      intro K1 hK1
                      refine ⟨trivial, ?_⟩
                      refine ar_add rfl (a := k) (b := 1) rfl rfl (by omega) (by omega) ?_
                      refine ⟨trivial, ?_⟩
                      show K1 [(6, .slice false (((tokR s).1).map tokAV)), (11, .slice false (((tokR t).1).map tokAV)), (13, .int .i64 (k + 1))] m
                      refine hK1 _ _ ?_; clear hK1 K1
                      refine ⟨(k + 1), rfl, rfl, ?_, ?_⟩
                      · show 0 ≤ ((k + 1 : Int)) ∧ ((k + 1 : Int)) ≤ (tokR s).1.length
                        (first | omega | (simp_all; done) | (simp_all; omega))
                      · show (tokR s).1.length - ((k + 1 : Int)).toNat < (tokR s).1.length - k.toNat
                        omega
                  · replace h11 : (((tokR s).1).length : Int) ≤ k := (Int.not_lt.1 (of_decide_eq_false h11))
                    refine awp_exit ?_
                    refine hK11 _ _ ?_; clear hK11
                    refine awp_reg2_seq [] [2] (by decide) ?_
                    intro K1 hK1
                    refine ⟨trivial, ?_⟩
                    show K1 [(2, .bool true)] m
                    refine hK1 _ _ ?_; clear hK1 K1
                    refine awp_ret ?_
                    refine ⟨trivial, m, fun _ _ h => h, ?_⟩
                    show K (.bool true) m
                   
                    exact hK

end Go.Proofs
