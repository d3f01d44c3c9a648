import Derived.Test.YtfpbolgpaipiiaaProg
import Derived.Test.YtfpbolgpaipiiaaMix
import Derived.Test.YtfpbolgpaipiiaaWwX
import Derived.Test.YtfpbolgpaipiiaaTryStringsHasPrefix
import Derived.Test.YtfpbolgpaipiiaaTryStringsIndexByte
namespace Go.Proofs
open Go Go.Aw
set_option maxRecDepth 100000


theorem wrap_i64 (n : Int) (h1 : -9223372036854775808 ≤ n) (h2 : n ≤ 9223372036854775807) : IntKind.i64.wrap n = n :=
  wrap_of_range .i64 n (by simp [IntKind.min, IntKind.signed, IntKind.bits]; omega) (by simp [IntKind.max, IntKind.signed, IntKind.bits]; omega)

/-- A call that a contract of the shelf speaks of. -/
theorem acalls_of_shelf {P : Program} {f : FuncId} {fn : Func} {args : List AV} {x : AV} {m : AMem} {K : AV → AMem → Prop} (hf : P.funcs[f]? = some fn) (hb : fn.body.isSome = true) (hname : (fn.name == "runtime.NumGoroutine") = false) (hK : K x m)
    (h : ∀ w lim (cargs : Array Value), cargs.size = args.length → (∀ i, i < args.length → Rep w lim (cargs.getD i undef) (args.getD i .junk) []) → ∃ v, (Calls P f cargs w fun e w' => e = .returned v ∧ w' = w) ∧ Rep w lim v x []) : ACalls P f args m K := by
  refine ⟨⟨fn, hf, hb, hname⟩, fun F lim w cargs hs hr st => ?_⟩
  obtain ⟨v, hv, hx⟩ := h w lim cargs hs hr
  refine hv.mono fun e w' ⟨he, hw⟩ => ?_
  subst hw
  exact ⟨v, x, lim, m, [], he, hK, hx, st, .refl _ _ _⟩

theorem args2 {cargs : Array Value} (h : cargs.size = 2) : cargs = #[cargs.getD 0 undef, cargs.getD 1 undef] := by
  apply Array.ext (by simp [h])
  intro i hi hi'
  have : i = 0 ∨ i = 1 := by omega
  rcases this with rfl | rfl <;> simp [Array.getD, h]

theorem t_hasPrefix (s p : List UInt8) (m) (K : AV → AMem → Prop) (hK : K (.bool (Lib.hasPrefix s p)) m) : ACalls Try.prog 39 [.str s, .str p] m K := by
  refine acalls_of_shelf Try.func39 rfl (by decide) hK fun w lim cargs hs hr => ?_
  rw [args2 hs]
  have h0 := hr 0 (by simp)
  have h1 := hr 1 (by simp)
  simp only [List.getD_cons_zero, List.getD_cons_succ] at h0 h1
  generalize cargs.getD 0 undef = a at h0
  generalize cargs.getD 1 undef = b at h1
  cases h0
  cases h1
  exact ⟨_, Try.strings_HasPrefix _ _ _, .bool _⟩

theorem indexByte_lt (l : List UInt8) (c : UInt8) : Lib.indexByte l c < l.length ∨ Lib.indexByte l c = -1 := by
  induction l with
  | nil => exact .inr rfl
  | cons b l ih =>
    unfold Lib.indexByte
    split
    · left; simp
    · split
      · exact .inr rfl
      · rename_i h1 h2
        rcases ih with h | h
        · left; simp; omega
        · simp [h] at h2

theorem t_indexByte (s : List UInt8) (hlen : s.length ≤ 140737488355328) (c : UInt8) (m) (K : AV → AMem → Prop) (hK : K (.int .i64 (Lib.indexByte s c)) m) : ACalls Try.prog 40 [.str s, .int .u8 c.toNat] m K := by
  refine acalls_of_shelf Try.func40 rfl (by decide) hK fun w lim cargs hs hr => ?_
  rw [args2 hs]
  have h0 := hr 0 (by simp)
  have h1 := hr 1 (by simp)
  simp only [List.getD_cons_zero, List.getD_cons_succ] at h0 h1
  generalize cargs.getD 0 undef = a at h0
  generalize cargs.getD 1 undef = b at h1
  cases h0
  cases h1
  have hge := Lib.indexByte_ge
  refine ⟨_, Try.strings_IndexByte _ _ _, ?_⟩
  have hc : (c.toNat : Int).toNat.toUInt8 = c := by simp
  rw [hc]
  refine .int _ _ ?_ ?_
  · have := Lib.indexByte_ge ‹ByteArray›.data.toList c
    simp [IntKind.min, IntKind.signed, IntKind.bits]; omega
  · rcases indexByte_lt ‹ByteArray›.data.toList c with h | h
    · simp [IntKind.max, IntKind.signed, IntKind.bits]; simp at h hlen; omega
    · rw [h]; decide

def letterB (c : UInt8) : Bool := decide (97 ≤ (c.toNat : Int)) && decide ((c.toNat : Int) ≤ 122)
def digitB (c : UInt8) : Bool := decide (48 ≤ (c.toNat : Int)) && decide ((c.toNat : Int) ≤ 57)
def noLineB (c : UInt8) : Bool := !((c.toNat : Int) == 10)

theorem if_and (a b : Bool) : (if a = true then b else false) = (a && b) := by cases a <;> rfl
theorem if_or (a b : Bool) : (if a = true then true else b) = (a || b) := by cases a <;> rfl

/-- Where a run of bytes ends. -/
def runN (f : UInt8 → Bool) (s : List UInt8) (a : Nat) : Nat := a + ((s.drop a).takeWhile f).length

theorem drop_cons {s : List UInt8} {i : Nat} (h : i < s.length) : s.drop i = s.getD i 0 :: s.drop (i + 1) := by
  rw [List.drop_eq_getElem_cons h]
  simp [List.getD_eq_getElem?_getD, h]

theorem runN_step {f : UInt8 → Bool} {s : List UInt8} {i : Nat} (h : i < s.length) (hf : f (s.getD i 0) = true) : runN f s i = runN f s (i + 1) := by
  simp only [runN, drop_cons h, List.takeWhile_cons, hf, if_true, List.length_cons]
  omega

theorem runN_stop {f : UInt8 → Bool} {s : List UInt8} {i : Nat} (h : i < s.length → f (s.getD i 0) = false) : runN f s i = i := by
  by_cases hi : i < s.length
  · have := h hi
    rw [runN, drop_cons hi, List.takeWhile_cons, this]
    simp
  · simp [runN, List.drop_of_length_le (Nat.not_lt.1 hi)]

theorem runN_le (f : UInt8 → Bool) {s : List UInt8} {i : Nat} (h : i ≤ s.length) : runN f s i ≤ s.length := by
  have : ((s.drop i).takeWhile f).length ≤ (s.drop i).length := (List.takeWhile_sublist _).length_le
  simp only [List.length_drop] at this
  simp only [runN]
  omega

def sixteenL : List UInt8 := [48, 49, 50, 51, 52, 53, 54, 55, 56, 57, 97, 98, 99, 100, 101, 102]
def signsL : List UInt8 := [61, 123, 125, 91, 93, 40, 41, 58, 44, 46, 43, 63, 45]

/-- How long the sign at a text's head is. -/
def signN (s : List UInt8) : Int := if Lib.hasPrefix s [61, 61] = true then 2 else if 0 ≤ Lib.indexByte signsL (s.getD 0 0) then 1 else 0

theorem indexByte_at {l : List UInt8} {c : UInt8} : ∀ {i : Nat}, i < l.length → (∀ j, j < i → l.getD j 0 ≠ c) → l.getD i 0 = c → Lib.indexByte l c = i := by
  induction l with
  | nil => intro i h; simp at h
  | cons b l ih =>
    intro i hi hn he
    unfold Lib.indexByte
    cases i with
    | zero => simp at he; simp [he]
    | succ i =>
      have h0 := hn 0 (by omega)
      have := ih (i := i) (by simpa using hi) (fun j hj => by simpa using hn (j + 1) (by omega)) (by simpa using he)
      simp at h0
      rw [if_neg (by simpa using h0), this, if_neg (by simp)]
      simp

theorem indexByte_none {l : List UInt8} {c : UInt8} (h : ∀ j, j < l.length → l.getD j 0 ≠ c) : Lib.indexByte l c = -1 := by
  induction l with
  | nil => rfl
  | cons b l ih =>
    have h0 := h 0 (by simp)
    simp at h0
    unfold Lib.indexByte
    rw [if_neg (by simpa using h0), ih (fun j hj => by simpa using h (j + 1) (by simpa using hj))]
    rfl

theorem uint8_ext {a b : UInt8} (h : (a.toNat : Int) = b.toNat) : a = b := UInt8.toNat_inj.1 (by omega)


theorem gI_str (s : List UInt8) (i : Nat) : gI s (i : Int) = s.getD i 0 := by simp [gI]; rfl
theorem gI_add (s : List UInt8) (n k : Nat) : gI s ((n : Int) + (k : Int)) = s.getD (n + k) 0 := by
  rw [← Int.natCast_add, gI_str]
/-- Where a run of bytes ends. -/
def runI (f : UInt8 → Bool) (s : List UInt8) (a : Int) : Int := (runN f s a.toNat : Nat)
theorem runI_step {f : UInt8 → Bool} {s : List UInt8} {i : Int} (h0 : 0 ≤ i) (h : i < s.length) (hf : f (gI s i) = true) : runI f s i = runI f s (i + 1) := by
  obtain ⟨n, rfl⟩ := Int.eq_ofNat_of_zero_le h0
  simp only [runI, Int.toNat_natCast]
  rw [runN_step (by omega) (by rw [gI_str] at hf; exact hf)]
  rfl
theorem runI_stop {f : UInt8 → Bool} {s : List UInt8} {i : Int} (h0 : 0 ≤ i) (h : i < s.length → f (gI s i) = false) : runI f s i = i := by
  obtain ⟨n, rfl⟩ := Int.eq_ofNat_of_zero_le h0
  simp only [runI, Int.toNat_natCast]
  rw [runN_stop (fun hh => by have := h (by omega); rwa [gI_str] at this)]
theorem runI_le (f : UInt8 → Bool) {s : List UInt8} {i : Int} (h0 : 0 ≤ i) (h : i ≤ s.length) : runI f s i ≤ s.length := by
  have := runN_le f (s := s) (i := i.toNat) (by omega)
  simp only [runI]; omega
theorem runI_ge (f : UInt8 → Bool) {s : List UInt8} {i : Int} (h0 : 0 ≤ i) : i ≤ runI f s i := by
  simp only [runI, runN]; omega
def wordB (c : UInt8) : Bool := letterB c || digitB c
theorem wordB_p {c : UInt8} : wordB c = true ↔ ((97 ≤ (c.toNat : Int) ∧ (c.toNat : Int) ≤ 122) ∨ (48 ≤ (c.toNat : Int) ∧ (c.toNat : Int) ≤ 57)) := by simp [wordB, letterB, digitB]
theorem digitB_p {c : UInt8} : digitB c = true ↔ (48 ≤ (c.toNat : Int) ∧ (c.toNat : Int) ≤ 57) := by simp [digitB]
theorem letterB_p {c : UInt8} : letterB c = true ↔ (97 ≤ (c.toNat : Int) ∧ (c.toNat : Int) ≤ 122) := by simp [letterB]

theorem t_letter (c : UInt8)  (m : AMem) (K : AV → AMem → Prop) (hK : K (.bool (letterB c)) m) : ACalls Try.prog 32 [.int .u8 c.toNat] m K := by
  refine acalls_enter Try.func32 rfl (by decide) (Nat.le_of_ble_eq_true rfl) ?_
  show AWP _ _ _ _ [(0, .int .u8 c.toNat)] m
  refine awp_reg2_seq [] [0] (by decide) ?_
  intro K1 hK1
  refine ⟨trivial, ?_⟩
  show K1 [(0, .int .u8 c.toNat)] m
  refine hK1 _ _ ?_; clear hK1 K1
  refine awp_reg2_seq [] [2] (by decide) ?_
  intro K1 hK1
  suffices key : K1 [(2, .bool ((decide (97 ≤ (c.toNat : Int))) && (decide ((c.toNat : Int) ≤ 122))))] m by
    refine ⟨trivial, trivial, trivial, ?_⟩
    show aopsR _ _ _ _ _ [(5, .bool (decide (97 ≤ (c.toNat : Int)))), (4, .bool (decide (97 ≤ (c.toNat : Int)))), (3, .int .u8 c.toNat), (0, .int .u8 c.toNat)] _
    revert key
    cases h1 : (decide (97 ≤ (c.toNat : Int)))
    · replace h1 : (c.toNat : Int) < 97 := (Int.not_le.1 (of_decide_eq_false h1))
      intro key
      refine ar_off rfl (ar_off rfl ?_)
      refine ⟨trivial, ?_⟩
      exact key
    · replace h1 : 97 ≤ (c.toNat : Int) := (of_decide_eq_true h1)
      intro key
      refine ⟨trivial, trivial, ?_⟩
      refine ⟨trivial, ?_⟩
      exact key
  refine hK1 _ _ ?_; clear hK1 K1
  refine awp_ret ?_
  refine ⟨trivial, _, fun _ _ h => h, ?_⟩
  show K (.bool ((decide (97 ≤ (c.toNat : Int))) && (decide ((c.toNat : Int) ≤ 122)))) m
 
  exact hK

theorem t_digit (c : UInt8)  (m : AMem) (K : AV → AMem → Prop) (hK : K (.bool (digitB c)) m) : ACalls Try.prog 34 [.int .u8 c.toNat] m K := by
  refine acalls_enter Try.func34 rfl (by decide) (Nat.le_of_ble_eq_true rfl) ?_
  show AWP _ _ _ _ [(0, .int .u8 c.toNat)] m
  refine awp_reg2_seq [] [0] (by decide) ?_
  intro K1 hK1
  refine ⟨trivial, ?_⟩
  show K1 [(0, .int .u8 c.toNat)] m
  refine hK1 _ _ ?_; clear hK1 K1
  refine awp_reg2_seq [] [2] (by decide) ?_
  intro K1 hK1
  suffices key : K1 [(2, .bool ((decide (48 ≤ (c.toNat : Int))) && (decide ((c.toNat : Int) ≤ 57))))] m by
    refine ⟨trivial, trivial, trivial, ?_⟩
    show aopsR _ _ _ _ _ [(5, .bool (decide (48 ≤ (c.toNat : Int)))), (4, .bool (decide (48 ≤ (c.toNat : Int)))), (3, .int .u8 c.toNat), (0, .int .u8 c.toNat)] _
    revert key
    cases h1 : (decide (48 ≤ (c.toNat : Int)))
    · replace h1 : (c.toNat : Int) < 48 := (Int.not_le.1 (of_decide_eq_false h1))
      intro key
      refine ar_off rfl (ar_off rfl ?_)
      refine ⟨trivial, ?_⟩
      exact key
    · replace h1 : 48 ≤ (c.toNat : Int) := (of_decide_eq_true h1)
      intro key
      refine ⟨trivial, trivial, ?_⟩
      refine ⟨trivial, ?_⟩
      exact key
  refine hK1 _ _ ?_; clear hK1 K1
  refine awp_ret ?_
  refine ⟨trivial, _, fun _ _ h => h, ?_⟩
  show K (.bool ((decide (48 ≤ (c.toNat : Int))) && (decide ((c.toNat : Int) ≤ 57)))) m
 
  exact hK

theorem t_noLine (c : UInt8)  (m : AMem) (K : AV → AMem → Prop) (hK : K (.bool (noLineB c)) m) : ACalls Try.prog 31 [.int .u8 c.toNat] m K := by
  refine acalls_enter Try.func31 rfl (by decide) (Nat.le_of_ble_eq_true rfl) ?_
  show AWP _ _ _ _ [(0, .int .u8 c.toNat)] m
  refine awp_reg2_seq [] [0] (by decide) ?_
  intro K1 hK1
  refine ⟨trivial, ?_⟩
  show K1 [(0, .int .u8 c.toNat)] m
  refine hK1 _ _ ?_; clear hK1 K1
  refine awp_reg2_seq [] [2] (by decide) ?_
  intro K1 hK1
  refine ⟨trivial, trivial, trivial, ?_⟩
  show K1 [(2, .bool (!((c.toNat : Int) == 10)))] m
  refine hK1 _ _ ?_; clear hK1 K1
  refine awp_ret ?_
  refine ⟨trivial, _, fun _ _ h => h, ?_⟩
  show K (.bool (!((c.toNat : Int) == 10))) m
 
  exact hK

theorem t_word (c : UInt8)  (m : AMem) (K : AV → AMem → Prop) (hK : K (.bool (wordB c)) m) : ACalls Try.prog 33 [.int .u8 c.toNat] m K := by
  refine acalls_enter Try.func33 rfl (by decide) (Nat.le_of_ble_eq_true rfl) ?_
  show AWP _ _ _ _ [(0, .int .u8 c.toNat)] m
  refine awp_reg2_seq [] [0] (by decide) ?_
  intro K1 hK1
  refine ⟨trivial, ?_⟩
  show K1 [(0, .int .u8 c.toNat)] m
  refine hK1 _ _ ?_; clear hK1 K1
  refine awp_reg2_seq [] [2] (by decide) ?_
  intro K1 hK1
  suffices key : K1 [(2, .bool ((letterB c) || (digitB c)))] m by
    refine ⟨trivial, ?_⟩
    refine t_letter c _ _ ?_
    refine ⟨trivial, ?_⟩
    show aopsR _ _ _ _ _ [(5, .bool (letterB c)), (4, .bool (letterB c)), (3, .int .u8 c.toNat), (0, .int .u8 c.toNat)] _
    revert key
    cases h1 : (letterB c)
    · replace h1 : letterB c = false := h1
      intro key
      refine ⟨trivial, ?_⟩
      refine t_digit c _ _ ?_
      refine ⟨trivial, ?_⟩
      exact key
    · replace h1 : letterB c = true := h1
      intro key
      refine ar_off rfl (ar_off rfl ?_)
      refine ⟨trivial, ?_⟩
      exact key
  refine hK1 _ _ ?_; clear hK1 K1
  refine awp_ret ?_
  refine ⟨trivial, _, fun _ _ h => h, ?_⟩
  show K (.bool ((letterB c) || (digitB c))) m
 
  exact hK

theorem t_hex (c : UInt8)  (m : AMem) (K : AV → AMem → Prop) (hK : K (.int .i64 (Lib.indexByte sixteenL c)) m) : ACalls Try.prog 38 [.int .u8 c.toNat] m K := by
  refine acalls_enter Try.func38 rfl (by decide) (Nat.le_of_ble_eq_true rfl) ?_
  show AWP _ _ _ _ [(0, .int .u8 c.toNat)] m
  refine awp_reg2_seq [] [0] (by decide) ?_
  intro K1 hK1
  refine ⟨trivial, ?_⟩
  show K1 [(0, .int .u8 c.toNat)] m
  refine hK1 _ _ ?_; clear hK1 K1
  refine awp_reg2_seq [] [2] (by decide) ?_
  intro K1 hK1
  refine ⟨trivial, ?_⟩
  refine t_indexByte ([48, 49, 50, 51, 52, 53, 54, 55, 56, 57, 97, 98, 99, 100, 101, 102] : List UInt8) (by first | decide | omega) c _ _ ?_
  refine ⟨trivial, ?_⟩
  show K1 [(2, .int .i64 (Lib.indexByte ([48, 49, 50, 51, 52, 53, 54, 55, 56, 57, 97, 98, 99, 100, 101, 102] : List UInt8) c))] m
  refine hK1 _ _ ?_; clear hK1 K1
  refine awp_ret ?_
  refine ⟨trivial, _, fun _ _ h => h, ?_⟩
  show K (.int .i64 (Lib.indexByte ([48, 49, 50, 51, 52, 53, 54, 55, 56, 57, 97, 98, 99, 100, 101, 102] : List UInt8) c)) m
 
  exact hK

theorem t_sign (s : List UInt8) (hs : 0 < s.length) (m : AMem) (K : AV → AMem → Prop) (hK : K (.int .i64 (signN s)) m) : ACalls Try.prog 36 [.str s] m K := by
  refine acalls_enter Try.func36 rfl (by decide) (Nat.le_of_ble_eq_true rfl) ?_
  show AWP _ _ _ _ [(0, .str s)] m
  refine awp_reg2_seq [] [0] (by decide) ?_
  intro K1 hK1
  refine ⟨trivial, ?_⟩
  show K1 [(0, .str s)] m
  refine hK1 _ _ ?_; clear hK1 K1
  refine awp_seq_k ?_; intro K2 hK2
  refine awp_reg2_seq [] [0, 4] (by decide) ?_
  intro K1 hK1
  refine ⟨trivial, ?_⟩
  refine t_hasPrefix s ([61, 61] : List UInt8) _ _ ?_
  show K1 [(0, .str s), (4, .bool (Lib.hasPrefix s ([61, 61] : List UInt8)))] m
  refine hK1 _ _ ?_; clear hK1 K1
  refine awp_cond rfl rfl (fun h1 => ?_) (fun h1 => ?_)
  · replace h1 : Lib.hasPrefix s ([61, 61] : List UInt8) = true := h1
    refine awp_reg2_seq [] [2] (by decide) ?_
    intro K1 hK1
    refine ⟨trivial, ?_⟩
    show K1 [(2, .int .i64 2)] m
    refine hK1 _ _ ?_; clear hK1 K1
    refine awp_ret ?_
    refine ⟨trivial, _, fun _ _ h => h, ?_⟩
    show K (.int .i64 2) m
   
    refine K_eq hK (congrArg (AV.int .i64) ?_)
    rw [signN, if_pos h1]
  · replace h1 : Lib.hasPrefix s ([61, 61] : List UInt8) = false := h1
    refine awp_skip ?_
    refine hK2 _ _ ?_; clear hK2
    refine awp_seq_k ?_; intro K3 hK3
    refine awp_reg2_seq [] [8] (by decide) ?_
    intro K1 hK1
    refine ⟨trivial, ⟨(by omega), (by omega)⟩, ?_⟩
    refine t_indexByte ([61, 123, 125, 91, 93, 40, 41, 58, 44, 46, 43, 63, 45] : List UInt8) (by first | decide | omega) (gI s 0) _ _ ?_
    refine ⟨trivial, ?_⟩
    show K1 [(8, .bool (decide (0 ≤ Lib.indexByte ([61, 123, 125, 91, 93, 40, 41, 58, 44, 46, 43, 63, 45] : List UInt8) (gI s 0))))] m
    refine hK1 _ _ ?_; clear hK1 K1
    refine awp_cond rfl rfl (fun h2 => ?_) (fun h2 => ?_)
    · replace h2 : 0 ≤ Lib.indexByte ([61, 123, 125, 91, 93, 40, 41, 58, 44, 46, 43, 63, 45] : List UInt8) (gI s 0) := (of_decide_eq_true h2)
      refine awp_reg2_seq [] [2] (by decide) ?_
      intro K1 hK1
      refine ⟨trivial, ?_⟩
      show K1 [(2, .int .i64 1)] m
      refine hK1 _ _ ?_; clear hK1 K1
      refine awp_ret ?_
      refine ⟨trivial, _, fun _ _ h => h, ?_⟩
      show K (.int .i64 1) m
     
      refine K_eq hK (congrArg (AV.int .i64) ?_)
      rw [signN, if_neg (by rw [h1]; simp), if_pos (show 0 ≤ Lib.indexByte signsL (s.getD 0 0) from h2)]
    · replace h2 : Lib.indexByte ([61, 123, 125, 91, 93, 40, 41, 58, 44, 46, 43, 63, 45] : List UInt8) (gI s 0) < 0 := (Int.not_le.1 (of_decide_eq_false h2))
      refine awp_skip ?_
      refine hK3 _ _ ?_; clear hK3
      refine awp_reg2_seq [] [2] (by decide) ?_
      intro K1 hK1
      refine ⟨trivial, ?_⟩
      show K1 [(2, .int .i64 0)] m
      refine hK1 _ _ ?_; clear hK1 K1
      refine awp_ret ?_
      refine ⟨trivial, _, fun _ _ h => h, ?_⟩
      show K (.int .i64 0) m
     
      refine K_eq hK (congrArg (AV.int .i64) ?_)
      rw [signN, if_neg (by rw [h1]; simp), if_neg (show ¬ 0 ≤ Lib.indexByte signsL (s.getD 0 0) from Int.not_le.2 h2)]

theorem t_digitOf (c : UInt8)  (m : AMem) (K : AV → AMem → Prop) (hK : K (.int .i64 (Lib.indexByte sixteenL c)) m) : ACalls Try.prog 44 [.int .u8 c.toNat] m K := by
  refine acalls_enter Try.func44 rfl (by decide) (Nat.le_of_ble_eq_true rfl) ?_
  show AWP _ _ _ _ [(0, .int .u8 c.toNat)] m
  refine awp_reg2_seq [] [0] (by decide) ?_
  intro K1 hK1
  refine ⟨trivial, ?_⟩
  show K1 [(0, .int .u8 c.toNat)] m
  refine hK1 _ _ ?_; clear hK1 K1
  refine awp_seq_k ?_; intro K2 hK2
  refine awp_reg2_seq [] [0, 3] (by decide) ?_
  intro K1 hK1
  refine ⟨trivial, ?_⟩
  show K1 [(0, .int .u8 c.toNat), (3, .int .i64 0)] m
  refine hK1 _ _ ?_; clear hK1 K1
  refine awp_block ?_
  refine awp_keep [0, 3] (by decide) ?_
  refine awp_loop_st (σ := Int) (fun i => [(0, .int .u8 c.toNat), (3, .int .i64 i)]) (fun _ => m) (fun i => 0 ≤ i ∧ i ≤ 16 ∧ ∀ j : Nat, (j : Int) < i → sixteenL.getD j 0 ≠ c) (fun i => 16 - i.toNat) (0) rfl rfl ?_ ?_
  · show 0 ≤ ((0 : Int)) ∧ ((0 : Int)) ≤ 16 ∧ ∀ j : Nat, (j : Int) < ((0 : Int)) → sixteenL.getD j 0 ≠ c
    exact ⟨by omega, by omega, fun j hj => by omega⟩
  · rintro i hI
    replace hI : 0 ≤ i ∧ i ≤ 16 ∧ ∀ j : Nat, (j : Int) < i → sixteenL.getD j 0 ≠ c := hI
    show AWP _ _ _ _ [(0, .int .u8 c.toNat), (3, .int .i64 i)] m
    refine awp_seq_k ?_; intro K3 hK3
    refine awp_reg2_seq [] [0, 3, 5] (by decide) ?_
    intro K1 hK1
    refine ⟨trivial, trivial, ?_⟩
    show K1 [(0, .int .u8 c.toNat), (3, .int .i64 i), (5, .bool (decide (i < 16)))] m
    refine hK1 _ _ ?_; clear hK1 K1
    refine awp_cond rfl rfl (fun h1 => ?_) (fun h1 => ?_)
    · replace h1 : i < 16 := (of_decide_eq_true h1)
      refine awp_skip ?_
      refine hK3 _ _ ?_; clear hK3
      refine awp_seq_k ?_; intro K4 hK4
      refine awp_block ?_
      refine awp_reg2_seq [] [0, 3, 11] (by decide) ?_
      intro K1 hK1
      refine ⟨trivial, ⟨(by omega), (by omega)⟩, trivial, trivial, ?_⟩
      show K1 [(0, .int .u8 c.toNat), (3, .int .i64 i), (11, .bool (((gI ([48, 49, 50, 51, 52, 53, 54, 55, 56, 57, 97, 98, 99, 100, 101, 102] : List UInt8) i).toNat : Int) == (c.toNat : Int)))] m
      refine hK1 _ _ ?_; clear hK1 K1
      refine awp_cond rfl rfl (fun h2 => ?_) (fun h2 => ?_)
      · replace h2 : ((gI ([48, 49, 50, 51, 52, 53, 54, 55, 56, 57, 97, 98, 99, 100, 101, 102] : List UInt8) i).toNat : Int) = (c.toNat : Int) := (eq_of_beq h2)
        refine awp_reg2_seq [] [2] (by decide) ?_
        intro K1 hK1
        refine ⟨trivial, trivial, ?_⟩
        show K1 [(2, .int .i64 i)] m
        refine hK1 _ _ ?_; clear hK1 K1
        refine awp_ret ?_
        refine ⟨trivial, _, fun _ _ h => h, ?_⟩
        show K (.int .i64 i) m
       
        refine K_eq hK (congrArg (AV.int .i64) ?_)
        exact (indexByte_at (i := i.toNat) (by simp [sixteenL]; omega) (fun j hj => hI.2.2 j (by omega)) (uint8_ext (by rw [← h2]; obtain ⟨n, rfl⟩ := Int.eq_ofNat_of_zero_le hI.1; rw [gI_str]; rfl))).trans (by omega)
      · replace h2 : ((gI ([48, 49, 50, 51, 52, 53, 54, 55, 56, 57, 97, 98, 99, 100, 101, 102] : List UInt8) i).toNat : Int) ≠ (c.toNat : Int) := (ne_of_beq_false h2)
        refine awp_skip ?_
        refine hK4 _ _ ?_; clear hK4
        refine awp_reg2 [] [0, 3] (by decide) ?_
        intro K1 hK1
        refine ⟨trivial, ?_⟩
        refine ar_add rfl (a := i) (b := 1) rfl rfl (by omega) (by omega) ?_
        refine ⟨trivial, ?_⟩
        show K1 [(0, .int .u8 c.toNat), (3, .int .i64 (i + 1))] m
        refine hK1 _ _ ?_; clear hK1 K1
        refine ⟨(i + 1), rfl, rfl, ?_, ?_⟩
        · show 0 ≤ ((i + 1 : Int)) ∧ ((i + 1 : Int)) ≤ 16 ∧ ∀ j : Nat, (j : Int) < ((i + 1 : Int)) → sixteenL.getD j 0 ≠ c
          refine ⟨by omega, by omega, fun j hj => ?_⟩
          by_cases e : (j : Int) = i
          · intro he; apply h2; rw [← he, ← e, gI_str]; rfl
          · exact hI.2.2 j (by omega)
        · show 16 - ((i + 1 : Int)).toNat < 16 - i.toNat
          omega
    · replace h1 : 16 ≤ i := (Int.not_lt.1 (of_decide_eq_false h1))
      refine awp_exit ?_
      refine hK2 _ _ ?_; clear hK2
      refine awp_reg2_seq [] [2] (by decide) ?_
      intro K1 hK1
      refine ⟨trivial, ?_⟩
      show K1 [(2, .int .i64 (-1))] m
      refine hK1 _ _ ?_; clear hK1 K1
      refine awp_ret ?_
      refine ⟨trivial, _, fun _ _ h => h, ?_⟩
      show K (.int .i64 (-1)) m
     
      refine K_eq hK (congrArg (AV.int .i64) ?_)
      exact indexByte_none (fun j hj => hI.2.2 j (by simp [sixteenL] at hj; omega))

end Go.Proofs
