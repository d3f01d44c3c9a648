/-
  Values that a law is handed read as typed data, no greater than their bulk; none reads as a cell of a table of u64s.
-/
import Derived.Test.YtoeghipbkmaccaaDoorSv6
import Derived.Test.YtoeghipbkmaccaaDoorSv2
import Derived.Test.YtoeghipbkmaccaaDoorProg
import Derived.Test.YtoeghipbkmaccaaDoorWxn
import Derived.Test.YtoeghipbkmaccaaDoorWyD
section
namespace Go.Proofs
open Go Go.Aw Go.Sx
set_option maxRecDepth 100000
theorem wq {n : Int} (hlo : -9223372036854775808 ≤ n) (hhi : n ≤ 9223372036854775807) : IntKind.i64.wrap (Int.tdiv n 10) = Int.tdiv n 10 := by
  rcases Int.le_total 0 n with h | h
  · rw [Int.tdiv_eq_ediv_of_nonneg h]; exact wrap64 _ (by omega) (by omega)
  · have e : Int.tdiv n 10 = -((-n) / 10) := by
      rw [← Int.tdiv_eq_ediv_of_nonneg (by omega : 0 ≤ -n), Int.neg_tdiv, Int.neg_neg]
    rw [e]; exact wrap64 _ (by omega) (by omega)
theorem tq (n : Int) : (0 ≤ n → Int.tdiv n 10 = n / 10 ∧ Int.tmod n 10 = n % 10) ∧ (n < 0 → Int.tdiv n 10 = -((-n) / 10) ∧ Int.tmod n 10 = -((-n) % 10)) := by
  refine ⟨fun h => ⟨Int.tdiv_eq_ediv_of_nonneg h, Int.tmod_eq_emod_of_nonneg h⟩, fun h => ⟨?_, ?_⟩⟩
  · rw [← Int.tdiv_eq_ediv_of_nonneg (by omega : 0 ≤ -n), Int.neg_tdiv, Int.neg_neg]
  · rw [← Int.tmod_eq_emod_of_nonneg (by omega : 0 ≤ -n), Int.neg_tmod, Int.neg_neg]
theorem u8w_dig (d : Nat) (h : d < 10) : u8w (48 + (d : Int)) = UInt8.ofNat (48 + d) := by
  apply UInt8.toNat_inj.1
  have e := u8w_toNat (48 + (d : Int))
  have e2 : IntKind.u8.wrap (48 + (d : Int)) = ((48 + d : Nat) : Int) := by
    have : ∀ n : Fin 10, IntKind.u8.wrap (48 + (n.val : Int)) = ((48 + n.val : Nat) : Int) := by decide +kernel
    exact this ⟨d, h⟩
  rw [e2] at e
  rw [UInt8.toNat_ofNat']
  omega
theorem itoa_one {n : Int} (h0 : 0 ≤ n) (h : n < 10) : Lib.itoa n = [u8w (48 + n)] := by
  obtain ⟨d, rfl⟩ := Int.eq_ofNat_of_zero_le h0
  rw [Lib.itoa, if_neg (by omega), show ((d : Int)).toNat = d from rfl, Lib.decDigits_one (by omega), u8w_dig d (by omega)]
theorem itoa_big {n : Int} (h : 10 ≤ n) : Lib.itoa n = Lib.itoa (n / 10) ++ [u8w (48 + n % 10)] := by
  obtain ⟨d, rfl⟩ := Int.eq_ofNat_of_zero_le (by omega : 0 ≤ n)
  rw [Lib.itoa, if_neg (by omega), Lib.itoa, if_neg (by omega), show ((d : Int)).toNat = d from rfl, Lib.decDigits, dif_neg (by omega), show (((d : Int) / 10)).toNat = d / 10 by omega]
  have : (d : Int) % 10 = ((d % 10 : Nat) : Int) := by omega
  rw [this, u8w_dig _ (Nat.mod_lt _ (by omega))]
theorem decDigits_ne (u : Nat) : Lib.decDigits u ≠ [] := by
  rw [Lib.decDigits]; split <;> simp
theorem itoa_zero {n : Int} (h0 : 0 ≤ n) : Lib.itoa n = [48] ↔ n = 0 := by
  obtain ⟨d, rfl⟩ := Int.eq_ofNat_of_zero_le h0
  rw [Lib.itoa, if_neg (by omega), show ((d : Int)).toNat = d from rfl]
  constructor
  · intro h
    rw [Lib.decDigits] at h
    split at h
    · rename_i hd
      have := congrArg UInt8.toNat (List.cons.inj h).1
      rw [UInt8.toNat_ofNat'] at this
      have e : (48 : UInt8).toNat = 48 := rfl
      omega
    · have := congrArg List.length h
      have h2 := List.length_pos_iff.2 (decDigits_ne (d / 10))
      rw [List.length_append] at this
      simp only [List.length_cons, List.length_nil] at this
      omega
  · intro h
    have : d = 0 := by omega
    subst this
    rw [Lib.decDigits_one (by omega)]; rfl
theorem itoa_neg {n : Int} (h : n < 0) : Lib.itoa n = [45] ++ (if -(Int.tdiv n 10) = 0 then [] else Lib.itoa (-(Int.tdiv n 10))) ++ [u8w (48 - Int.tmod n 10)] := by
  have e := (tq n).2 h
  rw [e.1, e.2, Int.neg_neg, Int.sub_neg]
  have e1 : Lib.itoa n = 45 :: Lib.itoa (-n) := by
    rw [Lib.itoa, if_pos h, Lib.itoa, if_neg (by omega)]
    congr 1; congr 1; omega
  rw [e1]
  by_cases hs : -n < 10
  · rw [if_pos (by omega), itoa_one (by omega) hs, show (-n) % 10 = -n by omega]; rfl
  · rw [if_neg (by omega), itoa_big (by omega)]; rfl
theorem decDigits_len : ∀ (k u : Nat), u < 10 ^ (k + 1) → (Lib.decDigits u).length ≤ k + 1
  | k, u, h => by
    rw [Lib.decDigits]
    split
    · simp
    · rename_i hu
      match k with
      | 0 => simp at h; omega
      | k + 1 =>
        have := decDigits_len k (u / 10) (by rw [Nat.pow_succ] at h; omega)
        simp; omega
theorem itoa_len {n : Int} (hlo : -9223372036854775808 ≤ n) (hhi : n ≤ 9223372036854775807) : (Lib.itoa n).length ≤ 20 := by
  rw [Lib.itoa]
  split
  · have := decDigits_len 18 n.natAbs (by have : (10:Nat) ^ 19 = 10000000000000000000 := by decide
                                          omega)
    simp; omega
  · have := decDigits_len 18 n.toNat (by have : (10:Nat) ^ 19 = 10000000000000000000 := by decide
                                         omega)
    omega
set_option maxHeartbeats 1000000 in
theorem u_Decimal1 (n : Int) (hlo : -9223372036854775808 ≤ n) (hhi : n ≤ 9223372036854775807) (ih : ∀ q : Int, q.natAbs < n.natAbs → -9223372036854775808 ≤ q → q ≤ 9223372036854775807 → ∀ (m : AMem) (K : AV → AMem → Prop), K (.str (Lib.itoa q)) m → ACalls Tryd.prog 53 [.int .i64 q] m K) (m : AMem)  (K : AV → AMem → Prop) (hK : K (.str (Lib.itoa n)) m) : ACalls Tryd.prog 53 [.int .i64 n] m K := by
 have hw := wq hlo hhi
 have hd := tq n
 have hl1 : (Lib.itoa (-(IntKind.i64.wrap (Int.tdiv n 10)))).length ≤ 20 := itoa_len (by simp only [hw]; omega) (by simp only [hw]; omega)
 have hl2 : (Lib.itoa (IntKind.i64.wrap (Int.tdiv n 10))).length ≤ 20 := itoa_len (by simp only [hw]; omega) (by simp only [hw]; omega)
 refine enter (c := cf [] [] [] [] [] []) (vs := [.av (.int .i64 n)]) (L := []) (m := m) false tbOk Tryd.mixed Tryd.func53 rfl (k := 1) (by show fnOk [] _ _ _ = true; decide +kernel) rfl (Good.nil m) ?_
 refine sq ?_
 refine an (fun h1 => ?_) (fun h1 => ?_)
 · refine an (by omega) ?_
   refine an (by (first | omega | (simp only [hw]; omega))) ?_
   refine call0 (fun _ => ih (-(IntKind.i64.wrap (Int.tdiv n 10))) (by simp only [hw]; omega) (by simp only [hw]; omega) (by simp only [hw]; omega)) rfl ?_
   refine sq ?_
   refine an (fun h2 => ?_) (fun h2 => ?_)
   · refine an (by (first | omega | (simp only [List.length_append, List.length_cons, List.length_nil]; omega))) ?_
     refine an (by exact ⟨by omega, by show (-9223372036854775808 : Int) ≤ _; omega, by show _ ≤ (9223372036854775807 : Int); omega⟩) ?_
     refine an (by (first | omega | (simp only [hw]; omega))) ?_
     refine tst (xs := ([(u8w (48 - (Int.tmod n 10)))] : List UInt8)) ?_
     refine an (by (first | omega | (simp only [List.length_append, List.length_cons, List.length_nil]; omega))) ?_
     refine rt0 rfl fun _ => K_eq hK ?_
     show AV.str (Lib.itoa n) = AV.str ((([45] : List UInt8) ++ ([])) ++ ([(u8w (48 - (Int.tmod n 10)))] : List UInt8))
     refine congrArg AV.str ?_
     rw [itoa_neg h1, if_pos (by have := (itoa_zero (by simp only [hw]; omega)).1 h2; rw [hw] at this; exact this)]
   refine an (by (first | omega | (simp only [List.length_append, List.length_cons, List.length_nil]; omega))) ?_
   refine an (by exact ⟨by omega, by show (-9223372036854775808 : Int) ≤ _; omega, by show _ ≤ (9223372036854775807 : Int); omega⟩) ?_
   refine an (by (first | omega | (simp only [hw]; omega))) ?_
   refine tst (xs := ([(u8w (48 - (Int.tmod n 10)))] : List UInt8)) ?_
   refine an (by (first | omega | (simp only [List.length_append, List.length_cons, List.length_nil]; omega))) ?_
   refine rt0 rfl fun _ => K_eq hK ?_
   show AV.str (Lib.itoa n) = AV.str ((([45] : List UInt8) ++ (Lib.itoa (-(IntKind.i64.wrap (Int.tdiv n 10))))) ++ ([(u8w (48 - (Int.tmod n 10)))] : List UInt8))
   refine congrArg AV.str ?_
   rw [itoa_neg h1, if_neg (fun hh => h2 ((itoa_zero (by simp only [hw]; omega)).2 (by rw [hw]; exact hh))), hw]
 refine sq ?_
 refine an (fun h3 => ?_) (fun h3 => ?_)
 · refine an (by (first | omega | (simp only [hw]; omega))) ?_
   refine tst (xs := ([(u8w (48 + n))] : List UInt8)) ?_
   refine rt0 rfl fun _ => K_eq hK ?_
   show AV.str (Lib.itoa n) = AV.str ([(u8w (48 + n))] : List UInt8)
   refine congrArg AV.str ?_
   rw [itoa_one (by omega) (by omega)]
 refine an (by omega) ?_
 refine pure0 (fun _ => ih (IntKind.i64.wrap (Int.tdiv n 10)) (by simp only [hw]; omega) (by simp only [hw]; omega) (by simp only [hw]; omega)) ?_
 refine an (by exact ⟨by omega, by show (-9223372036854775808 : Int) ≤ _; omega, by show _ ≤ (9223372036854775807 : Int); omega⟩) ?_
 refine an (by (first | omega | (simp only [hw]; omega))) ?_
 refine tst (xs := ([(u8w (48 + (Int.tmod n 10)))] : List UInt8)) ?_
 refine an (by (first | omega | (simp only [List.length_append, List.length_cons, List.length_nil]; omega))) ?_
 refine rt0 rfl fun _ => K_eq hK ?_
 show AV.str (Lib.itoa n) = AV.str ((Lib.itoa (IntKind.i64.wrap (Int.tdiv n 10))) ++ ([(u8w (48 + (Int.tmod n 10)))] : List UInt8))
 refine congrArg AV.str ?_
 rw [itoa_big (by omega), hw, (hd.1 (by omega)).1, (hd.1 (by omega)).2]
theorem u_Decimal2 : ∀ (k : Nat) (n : Int), n.natAbs < k → -9223372036854775808 ≤ n → n ≤ 9223372036854775807 → ∀ (m : AMem) (K : AV → AMem → Prop), K (.str (Lib.itoa n)) m → ACalls Tryd.prog 53 [.int .i64 n] m K
  | 0, _, h => absurd h (Nat.not_lt_zero _)
  | k + 1, n, h => fun h1 h2 m K hK => u_Decimal1 n h1 h2 (fun q hq a b => u_Decimal2 k q (by omega) a b) m K hK
theorem u_Decimal (n : Int) (h1 : -9223372036854775808 ≤ n) (h2 : n ≤ 9223372036854775807) (m : AMem) (K : AV → AMem → Prop) (hK : K (.str (Lib.itoa n)) m) : ACalls Tryd.prog 53 [.int .i64 n] m K := u_Decimal2 (n.natAbs + 1) n (Nat.lt_succ_self _) h1 h2 m K hK
def Tabs (m : AMem) : Prop := ∃ e z, m 2 = some (tabObj e z .u64 Lib.pow10Tab)
theorem Tabs.up {m mm : AMem} (ht : ∀ b o, m b = some o → mm b = some o) : Tabs m → Tabs mm := fun ⟨e, z, h⟩ => ⟨e, z, ht _ _ h⟩
theorem tabName : Tryd.prog.globalNamed "internal/strconv.uint64pow10" = some 2 := by kernel_rfl
theorem u_Itoa (n : Int) (h1 : -9223372036854775808 ≤ n) (h2 : n ≤ 9223372036854775807) (m : AMem) (hT : Tabs m) (K : AV → AMem → Prop) (hK : K (.str (Lib.itoa n)) m) : ACalls Tryd.prog 45 [.int .i64 n] m K :=
  have ⟨_, _, hT⟩ := hT
  itoa_calls ⟨_, Tryd.func45, rfl, by kernel_rfl⟩ tabName Tryd.strconv_Itoa hT (by have := itoa_len h1 h2; omega) hK
theorem wth_upd (m : AMem) (b : Nat) (o o' : AObj) : (m.wth [(b, o)]).upd b (some o') = m.wth [(b, o')] := by
  funext c; simp only [AMem.wth, AMem.upd]; split <;> rfl
theorem wth_at (m : AMem) (b : Nat) (o : AObj) : m.wth [(b, o)] b = some o := by simp [AMem.wth, AMem.upd]
theorem u_WriteString (b : Nat) (l s : Str) (h : l.length + s.length ≤ 140737488355328) (m : AMem) (K : AV → AMem → Prop) (hK : K (.tuple [.int .i64 s.length, .nilIface]) (m.wth [(b, .bld 89 5 ((l ++ s).map byteAV))])) :
    ACalls Tryd.prog 71 [.ptr ⟨b, 0, none⟩, .str s] (m.wth [(b, .bld 89 5 (l.map byteAV))]) K :=
  bld_write ⟨_, Tryd.func71, rfl, by kernel_rfl⟩ Tryd.underlying87 Tryd.underlying9 (by kernel_rfl) (by kernel_rfl) (by kernel_rfl) Tryd.WriteString_run (wth_at m b _) h (by rw [wth_upd]; exact hK)
theorem u_String (b : Nat) (l : Str) (m : AMem) (K : AV → AMem → Prop) (hK : K (.str l) (m.wth [(b, .cells [.junk, .junk])])) :
    ACalls Tryd.prog 50 [.ptr ⟨b, 0, none⟩] (m.wth [(b, .bld 89 5 (l.map byteAV))]) K :=
  bld_string ⟨_, Tryd.func50, rfl, by kernel_rfl⟩ Tryd.String_run Tryd.String_nil (wth_at m b _) (by rw [wth_upd]; exact hK)
end Go.Proofs
end
section
namespace Go.Proofs
open Go Go.Aw Go.Sx
set_option maxRecDepth 100000
theorem bldInfo : ∃ i, Tryd.prog.info? 89 = some i ∧ i.zero = some (.agg #[.pointer none, .slice none 0 0]) := ⟨_, rfl, rfl⟩
def boolS (b : Bool) : Str := if b = true then [116, 114, 117, 101] else [102, 97, 108, 115, 101]
def joinA {α : Type} (g : α → Str) : List α → Bool → Str
  | [], _ => []
  | x :: r, first => (if first = true then [] else [44, 32]) ++ g x ++ joinA g r false
def textF : Nat → Val → Str
  | 0, _ => []
  | k + 1, v =>
    if v.kind = 0 then [110, 117, 108, 108]
    else if v.kind = 1 then Lib.itoa v.n
    else if v.kind = 2 then quoteV v.s
    else if v.kind = 3 then boolS (v.n == 1)
    else if v.kind = 4 then [91] ++ joinA (textF k) v.l true ++ [93]
    else if v.kind = 5 then [123] ++ joinA (fun p : Str × Val => p.1 ++ [58, 32] ++ textF k p.2) v.f true ++ [125]
    else [110, 117, 108, 108]
theorem textF_x (k : Nat) (v : Val) : textF (k + 1) v =
    if v.kind = 0 then [110, 117, 108, 108]
    else if v.kind = 1 then Lib.itoa v.n
    else if v.kind = 2 then quoteV v.s
    else if v.kind = 3 then boolS (v.n == 1)
    else if v.kind = 4 then [91] ++ joinA (textF k) v.l true ++ [93]
    else if v.kind = 5 then [123] ++ joinA (fun p : Str × Val => p.1 ++ [58, 32] ++ textF k p.2) v.f true ++ [125]
    else [110, 117, 108, 108] := by rw [textF]
theorem joinA_step {α : Type} [Inhabited α] {g : α → Str} {l : List α} {i : Int} (h0 : 0 ≤ i) (hi : i < l.length) : joinA g (l.drop i.toNat) (i == 0) = (if (i == 0) = true then [] else [44, 32]) ++ g (gI l i) ++ joinA g (l.drop (i + 1).toNat) (i + 1 == 0) := by
  have e : (i + 1 == 0) = false := by simp; omega
  rw [drop_gI h0 hi, joinA, e]
theorem joinA_0 {α : Type} [Inhabited α] {g : α → Str} {l : List α} {i : Int} (h0 : 0 ≤ i) (hi : i < l.length) (hz : i ≤ 0) : joinA g (l.drop i.toNat) (i == 0) = g (gI l i) ++ joinA g (l.drop (i + 1).toNat) (i + 1 == 0) := by
  rw [joinA_step h0 hi, if_pos (by simp; omega)]; rfl
theorem joinA_1 {α : Type} [Inhabited α] {g : α → Str} {l : List α} {i : Int} (h0 : 0 ≤ i) (hi : i < l.length) (hz : 0 < i) : joinA g (l.drop i.toNat) (i == 0) = [44, 32] ++ g (gI l i) ++ joinA g (l.drop (i + 1).toNat) (i + 1 == 0) := by
  rw [joinA_step h0 hi, if_neg (by simp; omega)]
theorem joinA_end {α : Type} {g : α → Str} {l : List α} {i : Int} {b : Bool} (hi : (l.length : Int) ≤ i) : joinA g (l.drop i.toNat) b = [] := by
  rw [List.drop_eq_nil_of_le (by omega)]; rfl
attribute [irreducible] joinA textF
theorem shp_all {k : Nat} {v : Val} (h : shpF (k + 1) v = true) : shpOk v = true ∧ (∀ x ∈ v.l, shpF k x = true) ∧ ∀ p ∈ v.f, shpF k p.2 = true := by
  rw [shpF, Bool.and_eq_true, Bool.and_eq_true] at h
  exact ⟨h.1.1, List.all_eq_true.1 h.1.2, fun p hp => List.all_eq_true.1 h.2 p hp⟩
theorem shpOk_1 {v : Val} (h : shpOk v = true) (hk : v.kind = 1) : -1000000000 ≤ v.n ∧ v.n ≤ 1000000000 := by
  rw [shpOk, if_neg (by omega), if_pos hk] at h
  simp only [Bool.and_eq_true, decide_eq_true_eq] at h
  exact h.1.1
theorem shpOk_2 {v : Val} (h : shpOk v = true) (hk : v.kind = 2) : (v.s.length : Int) ≤ 40 := by
  rw [shpOk, if_neg (by omega), if_neg (by omega), if_pos hk] at h
  simp only [Bool.and_eq_true, decide_eq_true_eq] at h
  exact h.1.2
theorem shpOk_k {v : Val} (h : shpOk v = true) : ¬(v.kind ≠ 0 ∧ v.kind ≠ 1 ∧ v.kind ≠ 2 ∧ v.kind ≠ 3 ∧ v.kind ≠ 4 ∧ v.kind ≠ 5) := fun ⟨h0, h1, h2, h3, h4, h5⟩ => by
  rw [shpOk, if_neg h0, if_neg h1, if_neg h2, if_neg h3, if_neg h4, if_neg h5] at h
  cases h
theorem u_FormatBool1 (b : Bool)  (m : AMem)  (K : AV → AMem → Prop) (hK : K (.str (boolS b)) m) : ACalls Tryd.prog 84 [.bool b] m K := by
 refine enter (c := cf [] [] [] [] [] []) (vs := [.b (.raw b)]) (L := []) (m := m) false tbOk Tryd.mixed Tryd.func84 rfl (k := 1) (by show fnOk [] _ _ _ = true; decide +kernel) rfl (Good.nil m) ?_
 refine sq ?_
 refine an (fun h1 => ?_) (fun h1 => ?_)
 · refine rt0 rfl fun _ => K_eq hK ?_
   show AV.str (boolS b) = AV.str ([116, 114, 117, 101] : List UInt8)
   refine congrArg AV.str ?_
   rw [boolS, if_pos h1]
 refine rt0 rfl fun _ => K_eq hK ?_
 show AV.str (boolS b) = AV.str ([102, 97, 108, 115, 101] : List UInt8)
 refine congrArg AV.str ?_
 rw [boolS, if_neg (by simp [h1])]
theorem u_FormatBool (b : Bool)  (m : AMem)  (K : AV → AMem → Prop) (hK : K (.str (boolS b)) m) : ACalls Tryd.prog 72 [.bool b] m K := by
 refine enter (c := cf [] [] [] [] [] []) (vs := [.b (.raw b)]) (L := []) (m := m) false tbOk Tryd.mixed Tryd.func72 rfl (k := 1) (by show fnOk [] _ _ _ = true; decide +kernel) rfl (Good.nil m) ?_
 refine call0 (fun _ => u_FormatBool1 (b)) rfl ?_
 exact rt0 rfl fun _ => hK
set_option maxHeartbeats 2000000 in
theorem u_write1 (k : Nat) (v : Val) (base : Str) (b : Nat) (ih : ∀ (w : Val) (base : Str), depV w < k → shpF k w = true → base.length + (textF k w).length ≤ 140737488355328 → ∀ (b : Nat) (m : AMem), Gd [b] m → Tabs m → ∀ (K : AV → AMem → Prop), K (.tuple []) (AMem.wth m [(b, .bld 89 5 ((base ++ textF k w).map byteAV))]) → ACalls Tryd.prog 49 [.ptr ⟨b, 0, none⟩, valTop w] (AMem.wth m [(b, .bld 89 5 (base.map byteAV))]) K) (hd : depV v < k + 1) (hsh : shpF (k + 1) v = true) (hL : base.length + (textF (k + 1) v).length ≤ 140737488355328) (m : AMem) (gd : Gd [b] m) (K : AV → AMem → Prop) (hT : Tabs m) (hK : K (.tuple []) (AMem.wth m [(b, .bld 89 5 ((base ++ textF (k + 1) v).map byteAV))])) : ACalls Tryd.prog 49 [.ptr ⟨b, 0, none⟩, valTop v] (AMem.wth m [(b, .bld 89 5 (base.map byteAV))]) K := by
 obtain ⟨hs1, hs2, hs3⟩ := shp_all hsh
 refine enter (c := cf [] [0] [] [] [] [b]) (vs := [.loc 0 0, .av (valTop v)]) (L := [.obj (.bld 89 5 (base.map byteAV))]) (m := m) false tbOk Tryd.mixed Tryd.func49 rfl (k := 2) (by show fnOk [] _ _ _ = true; decide +kernel) rfl (gd.good rfl) ?_
 refine ⟨fun F0 => ?_⟩
 have hbd1_2 : v.s.length ≤ 140737488355328 := (F0 1 2 (Nat.le_of_ble_eq_true rfl))
 have hbd1_3 : v.l.length ≤ 140737488355328 := bd_map (F0 1 3 (Nat.le_of_ble_eq_true rfl))
 have hbd1_4 : v.f.length ≤ 140737488355328 := bd_map (F0 1 4 (Nat.le_of_ble_eq_true rfl))
 refine an (fun h1 => ?_) (fun h1 => ?_)
 · have e : textF (k + 1) v = [110, 117, 108, 108] := by rw [textF_x, if_pos h1]
   rw [e] at hL hK
   try simp only [List.length_append, List.length_cons, List.length_nil] at hL
   refine callM [0] [.obj (.bld 89 5 ((base ++ ([110, 117, 108, 108] : List UInt8)).map byteAV))] (.av (.tuple [.int .i64 (([110, 117, 108, 108] : List UInt8).length : Int), .nilIface])) rfl (fun bs mm gd => u_WriteString (bs.getD 0 0) base ([110, 117, 108, 108] : List UInt8) (by first | omega | (simp only [List.length_append, List.length_cons, List.length_nil]; omega)) mm) ?_
   refine rt rfl fun _ => ?_
   show K (.tuple []) (AMem.wth m [(b, .bld 89 5 ((base ++ ([110, 117, 108, 108] : List UInt8)).map byteAV))])
   exact hK
 refine an (fun h2 => ?_) (fun h2 => ?_)
 · have e : textF (k + 1) v = Lib.itoa v.n := by rw [textF_x, if_neg h1, if_pos h2]
   rw [e] at hL hK
   try simp only [List.length_append, List.length_cons, List.length_nil] at hL
   refine callT [] [] (vS (Lib.itoa v.n)) rfl (fun bs mm gd ht => u_Itoa v.n (by have := shpOk_1 hs1 (by assumption); omega) (by have := shpOk_1 hs1 (by assumption); omega) mm (Tabs.up ht hT)) ?_
   refine callM [0] [.obj (.bld 89 5 ((base ++ (Lib.itoa v.n)).map byteAV))] (.av (.tuple [.int .i64 ((Lib.itoa v.n).length : Int), .nilIface])) rfl (fun bs mm gd => u_WriteString (bs.getD 0 0) base (Lib.itoa v.n) (by first | omega | (simp only [List.length_append, List.length_cons, List.length_nil]; omega)) mm) ?_
   refine rt rfl fun _ => ?_
   show K (.tuple []) (AMem.wth m [(b, .bld 89 5 ((base ++ (Lib.itoa v.n)).map byteAV))])
   exact hK
 refine an (fun h3 => ?_) (fun h3 => ?_)
 · have e : textF (k + 1) v = quoteV v.s := by rw [textF_x, if_neg h1, if_neg h2, if_pos h3]
   rw [e] at hL hK
   try simp only [List.length_append, List.length_cons, List.length_nil] at hL
   refine call0 (fun _ => u_Quote v.s (by have := shpOk_2 hs1 (by assumption); omega)) rfl ?_
   refine callM [0] [.obj (.bld 89 5 ((base ++ (quoteV v.s)).map byteAV))] (.av (.tuple [.int .i64 ((quoteV v.s).length : Int), .nilIface])) rfl (fun bs mm gd => u_WriteString (bs.getD 0 0) base (quoteV v.s) (by first | omega | (simp only [List.length_append, List.length_cons, List.length_nil]; omega)) mm) ?_
   refine rt rfl fun _ => ?_
   show K (.tuple []) (AMem.wth m [(b, .bld 89 5 ((base ++ (quoteV v.s)).map byteAV))])
   exact hK
 refine an (fun h4 => ?_) (fun h4 => ?_)
 · have e : textF (k + 1) v = boolS (v.n == 1) := by rw [textF_x, if_neg h1, if_neg h2, if_neg h3, if_pos h4]
   rw [e] at hL hK
   try simp only [List.length_append, List.length_cons, List.length_nil] at hL
   refine call0 (fun _ => u_FormatBool ((v.n == 1))) rfl ?_
   refine callM [0] [.obj (.bld 89 5 ((base ++ (boolS ((v.n == 1)))).map byteAV))] (.av (.tuple [.int .i64 ((boolS ((v.n == 1))).length : Int), .nilIface])) rfl (fun bs mm gd => u_WriteString (bs.getD 0 0) base (boolS ((v.n == 1))) (by first | omega | (simp only [List.length_append, List.length_cons, List.length_nil]; omega)) mm) ?_
   refine rt rfl fun _ => ?_
   show K (.tuple []) (AMem.wth m [(b, .bld 89 5 ((base ++ (boolS ((v.n == 1)))).map byteAV))])
   exact hK
 refine an (fun h5 => ?_) (fun h5 => ?_)
 · have e : textF (k + 1) v = [91] ++ joinA (textF k) v.l true ++ [93] := by rw [textF_x, if_neg h1, if_neg h2, if_neg h3, if_neg h4, if_pos h5]
   rw [e] at hL hK
   try simp only [List.length_append, List.length_cons, List.length_nil] at hL
   refine callM [0] [.obj (.bld 89 5 ((base ++ ([91] : List UInt8)).map byteAV))] (.av (.tuple [.int .i64 (([91] : List UInt8).length : Int), .nilIface])) rfl (fun bs mm gd => u_WriteString (bs.getD 0 0) base ([91] : List UInt8) (by first | omega | (simp only [List.length_append, List.length_cons, List.length_nil]; omega)) mm) ?_
   refine sq ?_
   refine ln ?_
   refine lp (σ := Int × Str) [] [0, 41, 42, 43] 2 (fun ⟨i, w_⟩ => ([(0, .loc 0 0), (41, vL (v.l.map valIn)), (42, vI (v.l.length : Int)), (43, vI i)], [.obj (.bld 89 5 (w_.map byteAV)), .cells [vI v.kind, vI v.n, vS v.s, vL (v.l.map valIn), vL (v.f.map fldIn)]], m)) (fun ⟨i, w_⟩ => 0 ≤ i ∧ i ≤ v.l.length ∧ base ++ [91] ++ joinA (textF k) v.l true = w_ ++ joinA (textF k) (v.l.drop i.toNat) (i == 0)) (fun ⟨i, w_⟩ => v.l.length - i.toNat) (0, base ++ ([91] : List UInt8)) ⟨rfl, rfl⟩ ?_ ?_
   · try dsimp only
     exact ⟨by omega, by omega, rfl⟩
   rintro ⟨i, w_⟩ hI
   dsimp only at hI
   have hj := congrArg List.length hI.2.2
   simp only [List.length_append, List.length_cons, List.length_nil] at hj
   refine sq ?_
   refine an (fun h6 => ?_) (fun h6 => ?_)
   · refine sq ?_
     refine ixg valTop valIn_eq (by omega) ?_
     refine sq ?_
     refine an (fun h7 => ?_) (fun h7 => ?_)
     · have hst := joinA_1 (g := textF k) hI.1 h6 h7
       have hsl := congrArg List.length hst
       simp only [List.length_append, List.length_cons, List.length_nil] at hsl
       refine callM [0] [.obj (.bld 89 5 ((w_ ++ ([44, 32] : List UInt8)).map byteAV))] (.av (.tuple [.int .i64 (([44, 32] : List UInt8).length : Int), .nilIface])) rfl (fun bs mm gd => u_WriteString (bs.getD 0 0) w_ ([44, 32] : List UInt8) (by first | omega | (simp only [List.length_append, List.length_cons, List.length_nil]; omega)) mm) ?_
       refine callT [0] [.obj (.bld 89 5 (((w_ ++ ([44, 32] : List UInt8)) ++ textF k (gI v.l i)).map byteAV))] (.tup []) rfl (fun bs mm gd ht => ih (gI v.l i) (w_ ++ ([44, 32] : List UInt8)) (by have := depV_eq v; first | (have := depL_mem (gI_mem (l := v.l) (i := i) hI.1 (by assumption)); omega) | (have := depF_mem (gI_mem (l := v.f) (i := i2) hI.1 (by assumption)); omega)) (by first | exact hs3 _ (gI_mem (l := v.f) (i := i2) hI.1 (by assumption)) | exact hs2 _ (gI_mem (l := v.l) (i := i) hI.1 (by assumption))) (by first | omega | (simp only [List.length_append, List.length_cons, List.length_nil]; omega)) (bs.getD 0 0) mm gd (Tabs.up ht hT)) ?_
       refine an (by omega) ?_
       refine ⟨(i + 1, (w_ ++ ([44, 32] : List UInt8)) ++ textF k (gI v.l i)), ⟨rfl, rfl⟩, ?_, ?_⟩
       · try dsimp only
         exact ⟨by omega, by omega, by rw [hI.2.2, hst]; simp only [List.append_assoc, List.nil_append]⟩
       try dsimp only
       omega
     have hst := joinA_0 (g := textF k) hI.1 h6 h7
     have hsl := congrArg List.length hst
     simp only [List.length_append, List.length_cons, List.length_nil] at hsl
     refine callT [0] [.obj (.bld 89 5 ((w_ ++ textF k (gI v.l i)).map byteAV))] (.tup []) rfl (fun bs mm gd ht => ih (gI v.l i) w_ (by have := depV_eq v; first | (have := depL_mem (gI_mem (l := v.l) (i := i) hI.1 (by assumption)); omega) | (have := depF_mem (gI_mem (l := v.f) (i := i2) hI.1 (by assumption)); omega)) (by first | exact hs3 _ (gI_mem (l := v.f) (i := i2) hI.1 (by assumption)) | exact hs2 _ (gI_mem (l := v.l) (i := i) hI.1 (by assumption))) (by first | omega | (simp only [List.length_append, List.length_cons, List.length_nil]; omega)) (bs.getD 0 0) mm gd (Tabs.up ht hT)) ?_
     refine an (by omega) ?_
     refine ⟨(i + 1, w_ ++ textF k (gI v.l i)), ⟨rfl, rfl⟩, ?_, ?_⟩
     · try dsimp only
       exact ⟨by omega, by omega, by rw [hI.2.2, hst]; simp only [List.append_assoc, List.nil_append]⟩
     try dsimp only
     omega
   refine callM [0] [.obj (.bld 89 5 ((w_ ++ ([93] : List UInt8)).map byteAV))] (.av (.tuple [.int .i64 (([93] : List UInt8).length : Int), .nilIface])) rfl (fun bs mm gd => u_WriteString (bs.getD 0 0) w_ ([93] : List UInt8) (by first | omega | (simp only [List.length_append, List.length_cons, List.length_nil]; omega)) mm) ?_
   refine rt rfl fun _ => ?_
   show K (.tuple []) (AMem.wth m [(b, .bld 89 5 ((w_ ++ ([93] : List UInt8)).map byteAV))])
   have e2 : base ++ ([91] ++ joinA (textF k) v.l true ++ [93]) = w_ ++ [93] := by
     have := hI.2.2
     rw [joinA_end (by omega), List.append_nil] at this
     rw [← this]; simp only [List.append_assoc]
   rw [e2] at hK; exact hK
 refine an (fun h8 => ?_) (fun h8 => ?_)
 · have e : textF (k + 1) v = [123] ++ joinA (fun p : Str × Val => p.1 ++ [58, 32] ++ textF k p.2) v.f true ++ [125] := by rw [textF_x, if_neg h1, if_neg h2, if_neg h3, if_neg h4, if_neg h5, if_pos h8]
   rw [e] at hL hK
   try simp only [List.length_append, List.length_cons, List.length_nil] at hL
   refine callM [0] [.obj (.bld 89 5 ((base ++ ([123] : List UInt8)).map byteAV))] (.av (.tuple [.int .i64 (([123] : List UInt8).length : Int), .nilIface])) rfl (fun bs mm gd => u_WriteString (bs.getD 0 0) base ([123] : List UInt8) (by first | omega | (simp only [List.length_append, List.length_cons, List.length_nil]; omega)) mm) ?_
   refine sq ?_
   refine ln ?_
   refine lp (σ := Int × Str) [] [0, 63, 64, 65] 2 (fun ⟨i2, w_⟩ => ([(0, .loc 0 0), (63, vL (v.f.map fldIn)), (64, vI (v.f.length : Int)), (65, vI i2)], [.obj (.bld 89 5 (w_.map byteAV)), .cells [vI v.kind, vI v.n, vS v.s, vL (v.l.map valIn), vL (v.f.map fldIn)]], m)) (fun ⟨i2, w_⟩ => 0 ≤ i2 ∧ i2 ≤ v.f.length ∧ base ++ [123] ++ joinA (fun p : Str × Val => p.1 ++ [58, 32] ++ textF k p.2) v.f true = w_ ++ joinA (fun p : Str × Val => p.1 ++ [58, 32] ++ textF k p.2) (v.f.drop i2.toNat) (i2 == 0)) (fun ⟨i2, w_⟩ => v.f.length - i2.toNat) (0, base ++ ([123] : List UInt8)) ⟨rfl, rfl⟩ ?_ ?_
   · try dsimp only
     exact ⟨by omega, by omega, rfl⟩
   rintro ⟨i2, w_⟩ hI
   dsimp only at hI
   have hj := congrArg List.length hI.2.2
   simp only [List.length_append, List.length_cons, List.length_nil] at hj
   refine sq ?_
   refine an (fun h9 => ?_) (fun h9 => ?_)
   · refine sq ?_
     refine ixg fldTop fldIn_eq (by omega) ?_
     refine sq ?_
     refine an (fun h10 => ?_) (fun h10 => ?_)
     · have hst := joinA_1 (g := fun p : Str × Val => p.1 ++ [58, 32] ++ textF k p.2) hI.1 h9 h10
       have hsl := congrArg List.length hst
       simp only [List.length_append, List.length_cons, List.length_nil] at hsl
       rw [wpc]
       dsimp only [has, cf, cond, wreg, sreg, sops, sgd]
       refine callM [0] [.obj (.bld 89 5 ((w_ ++ ([44, 32] : List UInt8)).map byteAV))] (.av (.tuple [.int .i64 (([44, 32] : List UInt8).length : Int), .nilIface])) rfl (fun bs mm gd => u_WriteString (bs.getD 0 0) w_ ([44, 32] : List UInt8) (by first | omega | (simp only [List.length_append, List.length_cons, List.length_nil]; omega)) mm) ?_
       refine an (by (simp only [List.length_cons, List.length_nil]; omega)) ?_
       refine callM [0] [.obj (.bld 89 5 (((w_ ++ ([44, 32] : List UInt8)) ++ (((gI v.f i2).1) ++ ([58, 32] : List UInt8))).map byteAV))] (.av (.tuple [.int .i64 ((((gI v.f i2).1) ++ ([58, 32] : List UInt8)).length : Int), .nilIface])) rfl (fun bs mm gd => u_WriteString (bs.getD 0 0) (w_ ++ ([44, 32] : List UInt8)) (((gI v.f i2).1) ++ ([58, 32] : List UInt8)) (by first | omega | (simp only [List.length_append, List.length_cons, List.length_nil]; omega)) mm) ?_
       refine callT [0] [.obj (.bld 89 5 ((((w_ ++ ([44, 32] : List UInt8)) ++ (((gI v.f i2).1) ++ ([58, 32] : List UInt8))) ++ textF k ((gI v.f i2).2)).map byteAV))] (.tup []) rfl (fun bs mm gd ht => ih ((gI v.f i2).2) ((w_ ++ ([44, 32] : List UInt8)) ++ (((gI v.f i2).1) ++ ([58, 32] : List UInt8))) (by have := depV_eq v; first | (have := depL_mem (gI_mem (l := v.l) (i := i) hI.1 (by assumption)); omega) | (have := depF_mem (gI_mem (l := v.f) (i := i2) hI.1 (by assumption)); omega)) (by first | exact hs3 _ (gI_mem (l := v.f) (i := i2) hI.1 (by assumption)) | exact hs2 _ (gI_mem (l := v.l) (i := i) hI.1 (by assumption))) (by first | omega | (simp only [List.length_append, List.length_cons, List.length_nil]; omega)) (bs.getD 0 0) mm gd (Tabs.up ht hT)) ?_
       refine an (by omega) ?_
       refine ⟨(i2 + 1, ((w_ ++ ([44, 32] : List UInt8)) ++ (((gI v.f i2).1) ++ ([58, 32] : List UInt8))) ++ textF k ((gI v.f i2).2)), ⟨rfl, rfl⟩, ?_, ?_⟩
       · try dsimp only
         exact ⟨by omega, by omega, by rw [hI.2.2, hst]; simp only [List.append_assoc, List.nil_append]⟩
       try dsimp only
       omega
     have hst := joinA_0 (g := fun p : Str × Val => p.1 ++ [58, 32] ++ textF k p.2) hI.1 h9 h10
     have hsl := congrArg List.length hst
     simp only [List.length_append, List.length_cons, List.length_nil] at hsl
     refine an (by (simp only [List.length_cons, List.length_nil]; omega)) ?_
     refine callM [0] [.obj (.bld 89 5 ((w_ ++ (((gI v.f i2).1) ++ ([58, 32] : List UInt8))).map byteAV))] (.av (.tuple [.int .i64 ((((gI v.f i2).1) ++ ([58, 32] : List UInt8)).length : Int), .nilIface])) rfl (fun bs mm gd => u_WriteString (bs.getD 0 0) w_ (((gI v.f i2).1) ++ ([58, 32] : List UInt8)) (by first | omega | (simp only [List.length_append, List.length_cons, List.length_nil]; omega)) mm) ?_
     refine callT [0] [.obj (.bld 89 5 (((w_ ++ (((gI v.f i2).1) ++ ([58, 32] : List UInt8))) ++ textF k ((gI v.f i2).2)).map byteAV))] (.tup []) rfl (fun bs mm gd ht => ih ((gI v.f i2).2) (w_ ++ (((gI v.f i2).1) ++ ([58, 32] : List UInt8))) (by have := depV_eq v; first | (have := depL_mem (gI_mem (l := v.l) (i := i) hI.1 (by assumption)); omega) | (have := depF_mem (gI_mem (l := v.f) (i := i2) hI.1 (by assumption)); omega)) (by first | exact hs3 _ (gI_mem (l := v.f) (i := i2) hI.1 (by assumption)) | exact hs2 _ (gI_mem (l := v.l) (i := i) hI.1 (by assumption))) (by first | omega | (simp only [List.length_append, List.length_cons, List.length_nil]; omega)) (bs.getD 0 0) mm gd (Tabs.up ht hT)) ?_
     refine an (by omega) ?_
     refine ⟨(i2 + 1, (w_ ++ (((gI v.f i2).1) ++ ([58, 32] : List UInt8))) ++ textF k ((gI v.f i2).2)), ⟨rfl, rfl⟩, ?_, ?_⟩
     · try dsimp only
       exact ⟨by omega, by omega, by rw [hI.2.2, hst]; simp only [List.append_assoc, List.nil_append]⟩
     try dsimp only
     omega
   refine callM [0] [.obj (.bld 89 5 ((w_ ++ ([125] : List UInt8)).map byteAV))] (.av (.tuple [.int .i64 (([125] : List UInt8).length : Int), .nilIface])) rfl (fun bs mm gd => u_WriteString (bs.getD 0 0) w_ ([125] : List UInt8) (by first | omega | (simp only [List.length_append, List.length_cons, List.length_nil]; omega)) mm) ?_
   refine rt rfl fun _ => ?_
   show K (.tuple []) (AMem.wth m [(b, .bld 89 5 ((w_ ++ ([125] : List UInt8)).map byteAV))])
   have e2 : base ++ ([123] ++ joinA (fun p : Str × Val => p.1 ++ [58, 32] ++ textF k p.2) v.f true ++ [125]) = w_ ++ [125] := by
     have := hI.2.2
     rw [joinA_end (by omega), List.append_nil] at this
     rw [← this]; simp only [List.append_assoc]
   rw [e2] at hK; exact hK
 exact absurd ⟨h1, h2, h3, h4, h5, h8⟩ (shpOk_k hs1)
end Go.Proofs
end
section
namespace Go.Proofs
open Go Go.Aw Go.Sx
set_option maxRecDepth 100000
theorem joinA_len {α : Type} {g : α → Str} {d : α → Nat} {c : Nat} : ∀ (l : List α) (b : Bool), (∀ x ∈ l, (g x).length + 2 ≤ c * d x) → (joinA g l b).length ≤ c * sumN d l
  | [], b, _ => by rw [joinA]; simp
  | x :: r, b, h => by
    have h1 := h x (List.mem_cons_self ..)
    have h2 := joinA_len r false fun y hy => h y (List.mem_cons_of_mem _ hy)
    rw [joinA, sumN, Nat.mul_add]
    have h3 : (if b = true then ([] : Str) else [44, 32]).length ≤ 2 := by split <;> simp
    rw [List.length_append, List.length_append]
    omega
theorem recOk_name : ∀ (l : List (Str × Val)) (p : Option Str), recOk p l = true → ∀ q ∈ l, q.1.length ≤ 12
  | [], _, _, q, hq => by cases hq
  | f :: r, p, h, q, hq => by
    rw [recOk_cons, Bool.and_eq_true, Bool.and_eq_true] at h
    rcases List.mem_cons.1 hq with rfl | hq
    · have := h.1.1
      unfold nameV at this
      simp only [Bool.and_eq_true, decide_eq_true_eq] at this
      omega
    · exact recOk_name r _ h.2 q hq
theorem text_len : ∀ (k : Nat) (v : Val), shpF k v = true → (textF k v).length + 20 ≤ 200 * depV v
  | 0, _, h => by cases h
  | k + 1, v, h => by
    obtain ⟨h1, h2, h3⟩ := shp_all h
    have e := depV_eq v
    rw [textF_x]
    split
    · simp; omega
    split
    · rename_i hk
      have := shpOk_1 h1 hk
      have := itoa_len (n := v.n) (by omega) (by omega)
      omega
    split
    · rename_i hk
      have := shpOk_2 h1 hk
      have := quoteF_len v.s
      simp only [quoteV, List.length_append, List.length_cons, List.length_nil]
      omega
    split
    · unfold boolS; split <;> simp <;> omega
    split
    · have := joinA_len (g := textF k) (d := depV) (c := 200) v.l true fun x hx => by have := text_len k x (h2 x hx); omega
      rw [sumN_l] at this
      simp only [List.length_append, List.length_cons, List.length_nil]
      omega
    split
    · rename_i hk0 hk1 hk2 hk3 hk4 hk
      have hr : recOk none v.f = true := by
        rw [shpOk, if_neg hk0, if_neg hk1, if_neg hk2, if_neg hk3, if_neg hk4, if_pos hk, Bool.and_eq_true] at h1
        exact h1.2
      have := joinA_len (g := fun p : Str × Val => p.1 ++ [58, 32] ++ textF k p.2) (d := fun p => depV p.2) (c := 200) v.f true fun x hx => by
        have := text_len k x.2 (h3 x hx)
        have := recOk_name _ _ hr x hx
        simp only [List.length_append, List.length_cons, List.length_nil]
        omega
      rw [sumN_f] at this
      simp only [List.length_append, List.length_cons, List.length_nil]
      omega
    · simp; omega
theorem chk_0 {v : Val} (h : chk v = 0) : shpF (depV v + 1) v = true ∧ depV v ≤ 60 := by
  have hc := h
  unfold chk at hc
  split at hc
  · rename_i c
    refine ⟨shE_t hc, ?_⟩
    have := cntF_ok (depV v + 1) 1 v 60 (by omega) c
    omega
  · cases hc
theorem u_write : ∀ (k : Nat) (v : Val) (base : Str), depV v < k → shpF k v = true → base.length + (textF k v).length ≤ 140737488355328 → ∀ (b : Nat) (m : AMem), Gd [b] m → Tabs m → ∀ (K : AV → AMem → Prop), K (.tuple []) (AMem.wth m [(b, .bld 89 5 ((base ++ textF k v).map byteAV))]) → ACalls Tryd.prog 49 [.ptr ⟨b, 0, none⟩, valTop v] (AMem.wth m [(b, .bld 89 5 (base.map byteAV))]) K
  | 0, _, _, h => absurd h (Nat.not_lt_zero _)
  | k + 1, v, base, h => fun hs hL b m gd hT K hK => u_write1 k v base b (u_write k) h hs hL m gd K hT hK
def textV (v : Val) : Str := textF (depV v + 1) v
theorem textV_len {v : Val} (h : chk v = 0) : (textV v).length ≤ 12000 := by
  have := text_len _ v (chk_0 h).1
  have := (chk_0 h).2
  unfold textV; omega
theorem u_Text (v : Val)  (m : AMem)  (K : AV → AMem → Prop) (hT : Tabs m) (hK : K (.tuple [.str (if chk v = 0 then textV v else []), .err 23 (chk v)]) m) : ACalls Tryd.prog 13 [valTop v] m K := by
 refine enter (c := cf [] [] [] [] [] []) (vs := [.av (valTop v)]) (L := []) (m := m) true tbOk Tryd.mixed Tryd.func13 rfl (k := 1) (by show fnOk [] _ _ _ = true; decide +kernel) rfl (Good.nil m) ?_
 refine call0 (fun _ => u_Check v) rfl ?_
 refine sq ?_
 refine an (fun h1 => ?_) (fun h1 => ?_)
 · rw [if_pos h1, h1] at hK
   refine nb (eb := 5) bldInfo.choose_spec.1 bldInfo.choose_spec.2 rfl ?_
   refine callT [1] [.obj (.bld 89 5 ((([] : Str) ++ textF (depV v + 1) v).map byteAV))] (.tup []) rfl (fun bs mm gd ht => u_write (depV v + 1) v ([] : Str) (Nat.lt_succ_self _) (chk_0 (by assumption)).1 (by have := textV_len (v := v) (by assumption); unfold textV at this; simp only [List.length_nil]; omega) (bs.getD 1 0) mm gd (Tabs.up ht hT)) ?_
   refine callM [1] [.cells [.av (.junk), .av (.junk)]] (vS (([] : Str) ++ textF (depV v + 1) v)) rfl (fun bs mm gd => u_String (bs.getD 1 0) (([] : Str) ++ textF (depV v + 1) v) mm) ?_
   refine rt0 rfl fun _ => ?_
   show K (.tuple [.str (([] : Str) ++ textF (depV v + 1) v), .err 23 0]) m
   exact hK
 rw [if_neg h1] at hK
 refine rt0 rfl fun _ => ?_
 show K (.tuple [.str ([]), .err 23 (chk v)]) m
 exact hK
end Go.Proofs
end
section
namespace Go.Proofs
open Go Go.Aw Go.Sx
set_option maxRecDepth 100000
set_option maxHeartbeats 2000000 in
theorem u_RText1 (k : Nat) (v : Val) (ih : ∀ w : Val, depV w < k → shpF k w = true → (textF k w).length ≤ 1000000 → ∀ (m : AMem) (K : AV → AMem → Prop), K (.str (textF k w)) m → ACalls Tryd.prog 15 [valTop w] m K) (hd : depV v < k + 1) (hsh : shpF (k + 1) v = true) (hL : (textF (k + 1) v).length ≤ 1000000) (m : AMem)  (K : AV → AMem → Prop) (hK : K (.str (textF (k + 1) v)) m) : ACalls Tryd.prog 15 [valTop v] m K := by
 obtain ⟨hs1, hs2, hs3⟩ := shp_all hsh
 refine enter (c := cf [] [0] [] [] [] []) (vs := [.av (valTop v)]) (L := []) (m := m) false tbOk Tryd.mixed Tryd.func15 rfl (k := 1) (by show fnOk [] _ _ _ = true; decide +kernel) rfl (Good.nil m) ?_
 refine ⟨fun F0 => ?_⟩
 have hbd0_2 : v.s.length ≤ 140737488355328 := (F0 0 2 (Nat.le_of_ble_eq_true rfl))
 have hbd0_3 : v.l.length ≤ 140737488355328 := bd_map (F0 0 3 (Nat.le_of_ble_eq_true rfl))
 have hbd0_4 : v.f.length ≤ 140737488355328 := bd_map (F0 0 4 (Nat.le_of_ble_eq_true rfl))
 refine sq ?_
 refine an (fun h1 => ?_) (fun h1 => ?_)
 · have e : textF (k + 1) v = Lib.itoa v.n := by rw [textF_x, if_neg (by omega), if_pos h1]
   rw [e] at hL hK
   try simp only [List.length_append, List.length_cons, List.length_nil] at hL
   refine call0 (fun _ => u_Decimal v.n (by have := shpOk_1 hs1 (by assumption); omega) (by have := shpOk_1 hs1 (by assumption); omega)) rfl ?_
   exact rt0 rfl fun _ => hK
 refine an (fun h2 => ?_) (fun h2 => ?_)
 · have e : textF (k + 1) v = quoteV v.s := by rw [textF_x, if_neg (by omega), if_neg (by omega), if_pos h2]
   rw [e] at hL hK
   try simp only [List.length_append, List.length_cons, List.length_nil] at hL
   refine call0 (fun _ => u_RQuoted v.s (by have := shpOk_2 hs1 (by assumption); omega)) rfl ?_
   exact rt0 rfl fun _ => hK
 refine an (fun h3 => ?_) (fun h3 => ?_)
 · refine sq ?_
   refine an (fun h4 => ?_) (fun h4 => ?_)
   · have e : textF (k + 1) v = [116, 114, 117, 101] := by rw [textF_x, if_neg (by omega), if_neg (by omega), if_neg (by omega), if_pos h3, boolS, if_pos (by simp [h4])]
     rw [e] at hL hK
     try simp only [List.length_append, List.length_cons, List.length_nil] at hL
     exact rt0 rfl fun _ => hK
   have e : textF (k + 1) v = [102, 97, 108, 115, 101] := by rw [textF_x, if_neg (by omega), if_neg (by omega), if_neg (by omega), if_pos h3, boolS, if_neg (by simp [h4])]
   rw [e] at hL hK
   try simp only [List.length_append, List.length_cons, List.length_nil] at hL
   exact rt0 rfl fun _ => hK
 refine an (fun h5 => ?_) (fun h5 => ?_)
 · have e : textF (k + 1) v = [91] ++ joinA (textF k) v.l true ++ [93] := by rw [textF_x, if_neg (by omega), if_neg (by omega), if_neg (by omega), if_neg (by omega), if_pos h5]
   rw [e] at hL hK
   try simp only [List.length_append, List.length_cons, List.length_nil] at hL
   refine sq ?_
   refine lp (σ := (List UInt8) × Int) [] [1, 3, 4] 1 (fun ⟨s, i⟩ => ([(1, .loc 0 0), (3, vS s), (4, vI i)], [.cells [vI v.kind, vI v.n, vS v.s, vL (v.l.map valIn), vL (v.f.map fldIn)]], m)) (fun ⟨s, i⟩ => 0 ≤ i ∧ i ≤ v.l.length ∧ joinA (textF k) v.l true = s ++ joinA (textF k) (v.l.drop i.toNat) (i == 0)) (fun ⟨s, i⟩ => v.l.length - i.toNat) ([], 0) ⟨rfl, rfl⟩ ?_ ?_
   · try dsimp only
     exact ⟨by omega, by omega, rfl⟩
   rintro ⟨s, i⟩ hI
   dsimp only at hI
   have hj := congrArg List.length hI.2.2
   simp only [List.length_append, List.length_cons, List.length_nil] at hj
   refine sq ?_
   refine ln ?_
   refine an (fun h6 => ?_) (fun h6 => ?_)
   · refine sq ?_
     refine sq ?_
     refine an (fun h7 => ?_) (fun h7 => ?_)
     · have hst := joinA_1 (g := textF k) hI.1 h6 h7
       have hsl := congrArg List.length hst
       simp only [List.length_append, List.length_cons, List.length_nil] at hsl
       refine an (by (first | omega | (simp only [List.length_append, List.length_cons, List.length_nil]; omega))) ?_
       refine ixg valTop valIn_eq (by omega) ?_
       refine call0 (fun _ => ih (gI v.l i) (by have := depV_eq v; first | (have := depF_mem (gI_mem (l := v.f) (i := i2) hI.1 (by assumption)); omega) | (have := depL_mem (gI_mem (l := v.l) (i := i) hI.1 (by assumption)); omega)) (by first | exact hs3 _ (gI_mem (l := v.f) (i := i2) hI.1 (by assumption)) | exact hs2 _ (gI_mem (l := v.l) (i := i) hI.1 (by assumption))) (by omega)) rfl ?_
       refine an (by (first | omega | (simp only [List.length_append, List.length_cons, List.length_nil]; omega))) ?_
       refine an (by omega) ?_
       refine ⟨((s ++ ([44, 32] : List UInt8)) ++ (textF k (gI v.l i)), i + 1), ⟨rfl, rfl⟩, ?_, ?_⟩
       · try dsimp only
         exact ⟨by omega, by omega, by rw [hI.2.2, hst]; simp only [List.append_assoc, List.nil_append]⟩
       try dsimp only
       omega
     have hst := joinA_0 (g := textF k) hI.1 h6 h7
     have hsl := congrArg List.length hst
     simp only [List.length_append, List.length_cons, List.length_nil] at hsl
     refine ixg valTop valIn_eq (by omega) ?_
     refine call0 (fun _ => ih (gI v.l i) (by have := depV_eq v; first | (have := depF_mem (gI_mem (l := v.f) (i := i2) hI.1 (by assumption)); omega) | (have := depL_mem (gI_mem (l := v.l) (i := i) hI.1 (by assumption)); omega)) (by first | exact hs3 _ (gI_mem (l := v.f) (i := i2) hI.1 (by assumption)) | exact hs2 _ (gI_mem (l := v.l) (i := i) hI.1 (by assumption))) (by omega)) rfl ?_
     refine an (by (first | omega | (simp only [List.length_append, List.length_cons, List.length_nil]; omega))) ?_
     refine an (by omega) ?_
     refine ⟨(s ++ (textF k (gI v.l i)), i + 1), ⟨rfl, rfl⟩, ?_, ?_⟩
     · try dsimp only
       exact ⟨by omega, by omega, by rw [hI.2.2, hst]; simp only [List.append_assoc, List.nil_append]⟩
     try dsimp only
     omega
   refine an (by (first | omega | (simp only [List.length_append, List.length_cons, List.length_nil]; omega))) ?_
   refine an (by (first | omega | (simp only [List.length_append, List.length_cons, List.length_nil]; omega))) ?_
   refine rt0 rfl fun _ => ?_
   show K (.str ((([91] : List UInt8) ++ s) ++ ([93] : List UInt8))) m
   have e2 : [91] ++ joinA (textF k) v.l true ++ [93] = [91] ++ s ++ [93] := by rw [hI.2.2, joinA_end (by omega), List.append_nil]
   rw [e2] at hK; exact hK
 refine an (fun h8 => ?_) (fun h8 => ?_)
 · have e : textF (k + 1) v = [123] ++ joinA (fun p : Str × Val => p.1 ++ [58, 32] ++ textF k p.2) v.f true ++ [125] := by rw [textF_x, if_neg (by omega), if_neg (by omega), if_neg (by omega), if_neg (by omega), if_neg (by omega), if_pos h8]
   rw [e] at hL hK
   try simp only [List.length_append, List.length_cons, List.length_nil] at hL
   refine sq ?_
   refine lp (σ := (List UInt8) × Int) [] [1, 5, 6] 1 (fun ⟨s, i2⟩ => ([(1, .loc 0 0), (5, vS s), (6, vI i2)], [.cells [vI v.kind, vI v.n, vS v.s, vL (v.l.map valIn), vL (v.f.map fldIn)]], m)) (fun ⟨s, i2⟩ => 0 ≤ i2 ∧ i2 ≤ v.f.length ∧ joinA (fun p : Str × Val => p.1 ++ [58, 32] ++ textF k p.2) v.f true = s ++ joinA (fun p : Str × Val => p.1 ++ [58, 32] ++ textF k p.2) (v.f.drop i2.toNat) (i2 == 0)) (fun ⟨s, i2⟩ => v.f.length - i2.toNat) ([], 0) ⟨rfl, rfl⟩ ?_ ?_
   · try dsimp only
     exact ⟨by omega, by omega, rfl⟩
   rintro ⟨s, i2⟩ hI
   dsimp only at hI
   have hj := congrArg List.length hI.2.2
   simp only [List.length_append, List.length_cons, List.length_nil] at hj
   refine sq ?_
   refine ln ?_
   refine an (fun h9 => ?_) (fun h9 => ?_)
   · refine sq ?_
     refine sq ?_
     refine an (fun h10 => ?_) (fun h10 => ?_)
     · have hst := joinA_1 (g := fun p : Str × Val => p.1 ++ [58, 32] ++ textF k p.2) hI.1 h9 h10
       have hsl := congrArg List.length hst
       simp only [List.length_append, List.length_cons, List.length_nil] at hsl
       refine an (by (first | omega | (simp only [List.length_append, List.length_cons, List.length_nil]; omega))) ?_
       refine ixg fldTop fldIn_eq (by omega) ?_
       refine an (by (first | omega | (simp only [List.length_append, List.length_cons, List.length_nil]; omega))) ?_
       refine an (by (first | omega | (simp only [List.length_append, List.length_cons, List.length_nil]; omega))) ?_
       refine ixg fldTop fldIn_eq (by omega) ?_
       refine pure0 (fun _ => ih ((gI v.f i2).2) (by have := depV_eq v; first | (have := depF_mem (gI_mem (l := v.f) (i := i2) hI.1 (by assumption)); omega) | (have := depL_mem (gI_mem (l := v.l) (i := i) hI.1 (by assumption)); omega)) (by first | exact hs3 _ (gI_mem (l := v.f) (i := i2) hI.1 (by assumption)) | exact hs2 _ (gI_mem (l := v.l) (i := i) hI.1 (by assumption))) (by omega)) ?_
       refine an (by (first | omega | (simp only [List.length_append, List.length_cons, List.length_nil]; omega))) ?_
       refine an (by omega) ?_
       refine ⟨((((s ++ ([44, 32] : List UInt8)) ++ ((gI v.f i2).1)) ++ ([58, 32] : List UInt8)) ++ (textF k ((gI v.f i2).2)), i2 + 1), ⟨rfl, rfl⟩, ?_, ?_⟩
       · try dsimp only
         exact ⟨by omega, by omega, by rw [hI.2.2, hst]; simp only [List.append_assoc, List.nil_append]⟩
       try dsimp only
       omega
     have hst := joinA_0 (g := fun p : Str × Val => p.1 ++ [58, 32] ++ textF k p.2) hI.1 h9 h10
     have hsl := congrArg List.length hst
     simp only [List.length_append, List.length_cons, List.length_nil] at hsl
     refine ixg fldTop fldIn_eq (by omega) ?_
     refine an (by (first | omega | (simp only [List.length_append, List.length_cons, List.length_nil]; omega))) ?_
     refine an (by (first | omega | (simp only [List.length_append, List.length_cons, List.length_nil]; omega))) ?_
     refine ixg fldTop fldIn_eq (by omega) ?_
     refine pure0 (fun _ => ih ((gI v.f i2).2) (by have := depV_eq v; first | (have := depF_mem (gI_mem (l := v.f) (i := i2) hI.1 (by assumption)); omega) | (have := depL_mem (gI_mem (l := v.l) (i := i) hI.1 (by assumption)); omega)) (by first | exact hs3 _ (gI_mem (l := v.f) (i := i2) hI.1 (by assumption)) | exact hs2 _ (gI_mem (l := v.l) (i := i) hI.1 (by assumption))) (by omega)) ?_
     refine an (by (first | omega | (simp only [List.length_append, List.length_cons, List.length_nil]; omega))) ?_
     refine an (by omega) ?_
     refine ⟨(((s ++ ((gI v.f i2).1)) ++ ([58, 32] : List UInt8)) ++ (textF k ((gI v.f i2).2)), i2 + 1), ⟨rfl, rfl⟩, ?_, ?_⟩
     · try dsimp only
       exact ⟨by omega, by omega, by rw [hI.2.2, hst]; simp only [List.append_assoc, List.nil_append]⟩
     try dsimp only
     omega
   refine an (by (first | omega | (simp only [List.length_append, List.length_cons, List.length_nil]; omega))) ?_
   refine an (by (first | omega | (simp only [List.length_append, List.length_cons, List.length_nil]; omega))) ?_
   refine rt0 rfl fun _ => ?_
   show K (.str ((([123] : List UInt8) ++ s) ++ ([125] : List UInt8))) m
   have e2 : [123] ++ joinA (fun p : Str × Val => p.1 ++ [58, 32] ++ textF k p.2) v.f true ++ [125] = [123] ++ s ++ [125] := by rw [hI.2.2, joinA_end (by omega), List.append_nil]
   rw [e2] at hK; exact hK
 refine rt0 rfl fun _ => ?_
 show K (.str ([110, 117, 108, 108] : List UInt8)) m
 have hk0 : v.kind = 0 := Classical.byContradiction fun h0 => shpOk_k hs1 ⟨h0, h1, h2, h3, h5, h8⟩
 have e : textF (k + 1) v = [110, 117, 108, 108] := by rw [textF_x, if_pos hk0]
 rw [e] at hK; exact hK
theorem u_RText : ∀ (k : Nat) (v : Val), depV v < k → shpF k v = true → (textF k v).length ≤ 1000000 → ∀ (m : AMem) (K : AV → AMem → Prop), K (.str (textF k v)) m → ACalls Tryd.prog 15 [valTop v] m K
  | 0, _, h => absurd h (Nat.not_lt_zero _)
  | k + 1, v, h => fun hs hL m K hK => u_RText1 k v (u_RText k) h hs hL m K hK
end Go.Proofs
end
section
namespace Go.Proofs
open Go Go.Aw
set_option maxRecDepth 100000
theorem u_same (e f : Int) (he : 0 ≤ e) (m : AMem)  (K : AV → AMem → Prop) (hK : K (.bool (e == f)) m) : ACalls Tryd.prog 7 [.err 23 e, .int .i64 f] m K := by
 refine acalls_enter Tryd.func7 rfl (by decide) (Nat.le_of_ble_eq_true rfl) ?_
 show AWP _ _ _ _ [(0, .err 23 e), (1, .int .i64 f)] m
 refine awp_reg2_seq [] [0, 1] (by decide) ?_
 intro K1 hK1
 refine ⟨trivial, ?_⟩
 show K1 [(0, .err 23 e), (1, .int .i64 f)] m
 refine hK1 _ _ ?_; clear hK1 K1
 refine awp_seq_k ?_; intro K2 hK2
 refine awp_reg2_seq [] [0, 1, 8] (by decide) ?_
 intro K1 hK1
 refine ⟨trivial, ⟨rfl, rfl⟩, ?_⟩
 show K1 [(0, .err 23 e), (1, .int .i64 f), (8, .bool (e == 0))] m
 refine hK1 _ _ ?_; clear hK1 K1
 refine awp_cond rfl rfl (fun h1 => ?_) (fun h1 => ?_)
 ·
  replace h1 : e = 0 := (eq_of_beq h1)
  refine awp_reg2_seq [] [4] (by decide) ?_
  intro K1 hK1
  refine ⟨trivial, trivial, trivial, ?_⟩
  show K1 [(4, .bool (f == 0))] m
  refine hK1 _ _ ?_; clear hK1 K1
  refine awp_ret ?_
  refine ⟨trivial, m, fun _ _ h => h, ?_⟩
  show K (.bool (f == 0)) m
 
  refine K_eq hK (congrArg AV.bool ?_)
  rw [Bool.eq_iff_iff]; simp; omega
 replace h1 : e ≠ 0 := (ne_of_beq_false h1)
 refine awp_skip ?_
 refine hK2 _ _ ?_; clear hK2
 refine awp_reg2_seq [] [1, 5, 6] (by decide) ?_
 intro K1 hK1
 refine ⟨trivial, rfl, trivial, (Nat.le_of_ble_eq_true rfl), (Nat.le_of_ble_eq_true rfl), trivial, trivial, ?_⟩
 show K1 [(1, .int .i64 f), (5, .int .i64 e), (6, .bool (!(e == 0)))] m
 refine hK1 _ _ ?_; clear hK1 K1
 refine awp_reg2_seq [] [4] (by decide) ?_
 intro K1 hK1
 suffices key : K1 [(4, .bool (((!(e == 0)) && (decide (0 < f))) && (e == f)))] m by
  refine ⟨trivial, trivial, ?_⟩
  show aopsR _ _ _ _ _ [(17, .bool (!(e == 0))), (16, .bool (!(e == 0))), (1, .int .i64 f), (5, .int .i64 e), (6, .bool (!(e == 0)))] _
  revert key
  cases h2 : (e == 0)
  ·
   replace h2 : e ≠ 0 := (ne_of_beq_false h2)
   intro key
   refine ⟨trivial, trivial, ?_⟩
   refine ⟨trivial, ?_⟩
   show aopsR _ _ _ _ _ [(21, .bool (decide (0 < f))), (20, .bool (decide (0 < f))), (19, .bool (decide (0 < f))), (18, .int .i64 f), (17, .bool true), (16, .bool true), (1, .int .i64 f), (5, .int .i64 e), (6, .bool true)] _
   revert key
   cases h3 : (decide (0 < f))
   ·
    replace h3 : f ≤ 0 := (Int.not_lt.1 (of_decide_eq_false h3))
    intro key
    refine ar_off rfl (ar_off rfl (ar_off rfl ?_))
    refine ⟨trivial, ?_⟩
    exact key
   ·
    replace h3 : 0 < f := (of_decide_eq_true h3)
    intro key
    refine ⟨trivial, trivial, trivial, ?_⟩
    refine ⟨trivial, ?_⟩
    exact key
  ·
   replace h2 : e = 0 := (eq_of_beq h2)
   intro key
   refine ar_off rfl (ar_off rfl ?_)
   refine ⟨trivial, ?_⟩
   refine ar_off rfl (ar_off rfl (ar_off rfl ?_))
   refine ⟨trivial, ?_⟩
   exact key
 refine hK1 _ _ ?_; clear hK1 K1
 refine awp_ret ?_
 refine ⟨trivial, m, fun _ _ h => h, ?_⟩
 show K (.bool (((!(e == 0)) && (decide (0 < f))) && (e == f))) m
 refine K_eq hK (congrArg AV.bool ?_)
 rw [Bool.eq_iff_iff]; simp; omega
end Go.Proofs
end
section
namespace Go.Proofs
open Go Go.Aw Go.Sx
set_option maxRecDepth 100000
theorem u_LightValue (v : Val)  (m : AMem)  (K : AV → AMem → Prop) (hK : K (.bool (decide (weightV 4000 v ≤ 4000))) m) : ACalls Tryd.prog 11 [valTop v] m K := by
 refine enter (c := cf [] [] [] [] [] []) (vs := [.av (valTop v)]) (L := []) (m := m) false tbOk Tryd.mixed Tryd.func11 rfl (k := 1) (by show fnOk [] _ _ _ = true; decide +kernel) rfl (Good.nil m) ?_
 refine call0 (fun _ => u_weight 4000 (depV v + 1) v (Nat.lt_succ_self _)) rfl ?_
 exact rt0 rfl fun _ => hK
set_option maxHeartbeats 2000000 in
theorem u_RGet (v : Val) (s : Str)  (m : AMem)  (K : AV → AMem → Prop) (hK : K (.tuple [valTop ((mget v.f s).getD zV), .bool (mget v.f s).isSome]) m) : ACalls Tryd.prog 18 [valTop v, .str s] m K := by
 refine enter (c := cf [] [0] [] [] [] []) (vs := [.av (valTop v), .av (.str s)]) (L := []) (m := m) false tbOk Tryd.mixed Tryd.func18 rfl (k := 2) (by show fnOk [] _ _ _ = true; decide +kernel) rfl (Good.nil m) ?_
 refine ⟨fun F0 => ?_⟩
 have hbd0_2 : v.s.length ≤ 140737488355328 := (F0 0 2 (Nat.le_of_ble_eq_true rfl))
 have hbd0_3 : v.l.length ≤ 140737488355328 := bd_map (F0 0 3 (Nat.le_of_ble_eq_true rfl))
 have hbd0_4 : v.f.length ≤ 140737488355328 := bd_map (F0 0 4 (Nat.le_of_ble_eq_true rfl))
 refine sq ?_
 refine lp (σ := Int) [] [1, 2, 4, 6] 2 (fun i => ([(1, vS s), (2, .loc 0 0), (4, .loc 1 0), (6, vI i)], [.cells [vI v.kind, vI v.n, vS v.s, vL (v.l.map valIn), vL (v.f.map fldIn)], .cells [vI 0, vI 0, vS ([]), .own [], .own []]], m)) (fun i => 0 ≤ i ∧ i ≤ v.f.length ∧ mget v.f s = mget (v.f.drop i.toNat) s) (fun i => v.f.length - i.toNat) (0) ⟨rfl, rfl⟩ ?_ ?_
 · try dsimp only
   exact ⟨by omega, by omega, rfl⟩
 rintro i hI
 refine sq ?_
 refine ln ?_
 refine an (fun h1 => ?_) (fun h1 => ?_)
 · refine sq ?_
   refine ixg fldTop fldIn_eq (by omega) ?_
   refine an (fun h2 => ?_) (fun h2 => ?_)
   · refine ixg fldTop fldIn_eq (by omega) ?_
     refine rt0 rfl fun _ => ?_
     show K (.tuple [.agg [.int .i64 (((gI v.f i).2).kind), .int .i64 (((gI v.f i).2).n), .str (((gI v.f i).2).s), .slice false ((((gI v.f i).2).l).map valIn), .slice false ((((gI v.f i).2).f).map fldIn)], .bool true]) m
     have e : mget v.f s = some (gI v.f i).2 := by rw [hI.2.2, mget_drop hI.1 h1, if_pos h2]
     rw [e] at hK; exact hK
   refine an (by omega) ?_
   refine ⟨(i + 1), ⟨rfl, rfl⟩, ?_, ?_⟩
   · try dsimp only
     exact ⟨by omega, by omega, by rw [hI.2.2, mget_drop hI.1 h1, if_neg h2]⟩
   try dsimp only
   omega
 refine rt0 rfl fun _ => ?_
 show K (.tuple [.agg [.int .i64 0, .int .i64 0, .str ([]), .slice false [], .slice false []], .bool false]) m
 have e : mget v.f s = none := by rw [hI.2.2, List.drop_eq_nil_of_le (by omega)]; rfl
 rw [e] at hK; exact hK
def v0 : Val := .mk 4 0 [] [.mk 1 (-7) [] [] [], .mk 2 0 [97, 10] [] []] []
theorem v0_chk : chk v0 = 0 := by decide +kernel
theorem v0_text : textV v0 = [91, 45, 55, 44, 32, 34, 97, 92, 120, 48, 97, 34, 93] := by
  have i7 : Lib.itoa (-7) = [45, 55] := by
    rw [Lib.itoa, if_pos (by decide), show (-7 : Int).natAbs = 7 from rfl, Lib.decDigits_one (by decide)]; rfl
  have h1 : textF 3 (.mk 1 (-7) [] [] []) = [45, 55] := by rw [textF_x, if_neg (by decide), if_pos (by decide)]; exact i7
  have h2 : textF 3 (.mk 2 0 [97, 10] [] []) = [34, 97, 92, 120, 48, 97, 34] := by rw [textF_x, if_neg (by decide), if_neg (by decide), if_pos (by decide)]; decide +kernel
  show textF (3 + 1) v0 = _
  rw [textF_x, if_neg (by decide), if_neg (by decide), if_neg (by decide), if_neg (by decide), if_pos (by decide)]
  show [91] ++ joinA (textF 3) [.mk 1 (-7) [] [] [], .mk 2 0 [97, 10] [] []] true ++ [93] = _
  rw [joinA, joinA, joinA, h1, h2]; rfl
set_option maxHeartbeats 1000000 in
theorem u_values   (m : AMem)  (K : AV → AMem → Prop) (hT : Tabs m) (hK : K (.bool true) m) : ACalls Tryd.prog 10 [] m K := by
 refine enter (c := cf [] [] [2] [] [] []) (vs := []) (L := []) (m := m) false tbOk Tryd.mixed Tryd.func10 rfl (k := 0) (by show fnOk [] _ _ _ = true; decide +kernel) rfl (Good.nil m) ?_
 refine callT [] [] (.av (.tuple [.str (if chk v0 = 0 then textV v0 else []), .err 23 (chk v0)])) rfl (fun bs mm gd ht => fun K hK => u_Text v0 mm K (Tabs.up ht hT) hK) ?_
 refine mg [] 0 (((chk v0) == 0) && ((if chk v0 = 0 then textV v0 else []) == ([91, 45, 55, 44, 32, 34, 97, 92, 120, 48, 97, 34, 93] : List UInt8))) ?_ ?_
 · repeat' first
    | exact ⟨⟨_, rfl, by grind [SB.val]⟩, rfl⟩
    | refine an (fun _ => ?_) (fun _ => ?_)
    | refine call0 (fun _ => u_same (chk v0) 0 (by rw [v0_chk]; decide)) rfl ?_
 refine rt0 rfl fun _ => ?_
 show K (.bool (((chk v0) == 0) && ((if chk v0 = 0 then textV v0 else []) == ([91, 45, 55, 44, 32, 34, 97, 92, 120, 48, 97, 34, 93] : List UInt8)))) m
 have e : ((chk v0 == 0) && ((if chk v0 = 0 then textV v0 else []) == [91, 45, 55, 44, 32, 34, 97, 92, 120, 48, 97, 34, 93])) = true := by rw [v0_chk, if_pos (by decide), v0_text]; decide
 rw [e]; exact hK
end Go.Proofs
end
section
namespace Go.Proofs
open Go Go.Aw Go.Sx
set_option maxRecDepth 100000
theorem bl_iff {a b : Str} : Op.bytesLess a b = true ↔ a < b := by
  induction a generalizing b with
  | nil => cases b with
    | nil => simp [Op.bytesLess]
    | cons y b => simp [Op.bytesLess]
  | cons x a ih => cases b with
    | nil => simp [Op.bytesLess]
    | cons y b =>
      rw [Op.bytesLess, List.cons_lt_cons_iff]
      simp [ih]
theorem bl_f {a b : Str} (h : Op.bytesLess a b = false) : ¬ a < b := fun hh => by rw [bl_iff.2 hh] at h; cases h
theorem lt_irr (a : Str) : ¬ a < a := List.lt_irrefl a
theorem lt_tri {a b : Str} (h1 : ¬ a < b) (h2 : a ≠ b) : b < a := by
  rcases Classical.em (b < a) with h | h
  · exact h
  · exact absurd (List.le_antisymm (show a ≤ b from h) (show b ≤ a from h1)) h2
def Srt (l : List (Str × Val)) : Prop := l.Pairwise fun a b => a.1 < b.1
structure IsRec (l s : List (Str × Val)) : Prop where
  perm : s.Perm l
  srt : Srt s
theorem Srt.nd {l : List (Str × Val)} (h : Srt l) : (l.map Prod.fst).Nodup := by
  rw [List.nodup_iff_pairwise_ne, List.pairwise_map]
  exact h.imp fun {a b} h (e : a.1 = b.1) => lt_irr b.1 (by rw [e] at h; exact h)
theorem IsRec.nd {l s : List (Str × Val)} (h : IsRec l s) : (l.map Prod.fst).Nodup := (h.perm.map Prod.fst).nodup_iff.1 h.srt.nd
theorem IsRec.uniq {l s s' : List (Str × Val)} (h : IsRec l s) (h' : IsRec l s') : s = s' :=
  List.Perm.eq_of_pairwise (fun a b _ _ h1 h2 => absurd (List.lt_trans h1 h2) (lt_irr _)) h.srt h'.srt (h.perm.trans h'.perm.symm)
open Classical in
noncomputable def srtL (l : List (Str × Val)) : List (Str × Val) := if h : ∃ s, IsRec l s then Classical.choose h else l
theorem IsRec.eq {l s : List (Str × Val)} (h : IsRec l s) : srtL l = s := by
  have h0 : ∃ s, IsRec l s := ⟨s, h⟩
  rw [srtL, dif_pos h0]
  exact (Classical.choose_spec h0).uniq h
def recOf (f : List (Str × Val)) : Val := .mk 5 0 [] [] f
open Classical in
noncomputable def recV (l : List (Str × Val)) : Val × Int := if (l.map Prod.fst).Nodup then (if chk (recOf (srtL l)) = 0 then (recOf (srtL l), 0) else (zV, chk (recOf (srtL l)))) else (zV, 6)
theorem gI_at {α : Type} [Inhabited α] {l : List α} {i : Int} {x : α} (h0 : 0 ≤ i) (h : l[i.toNat]? = some x) : gI l i = x := by
  simp [gI, List.getD_eq_getElem?_getD, h]
theorem gI_take {α : Type} [Inhabited α] {l : List α} {i : Int} {n : Nat} (h0 : 0 ≤ i) (h : i < n) : gI (l.take n) i = gI l i := by
  simp [gI, List.getD_eq_getElem?_getD, List.getElem?_take_of_lt (show i.toNat < n by omega)]
theorem rec_dup {l : List (Str × Val)} {a b : Int} (h0 : 0 ≤ a) (h1 : a < b) (h2 : b < l.length) (e : (gI l a).1 = (gI l b).1) : recV l = (zV, 6) := by
  rw [recV, if_neg]
  intro hn
  rw [List.nodup_iff_pairwise_ne, List.pairwise_map, List.pairwise_iff_getElem] at hn
  have h3 : a.toNat < l.length := by omega
  have h4 : b.toNat < l.length := by omega
  have := hn a.toNat b.toNat h3 h4 (by omega)
  rw [gI_at h0 (List.getElem?_eq_getElem h3), gI_at (by omega) (List.getElem?_eq_getElem h4)] at e
  exact this e
theorem of_dup {l zs : List (Str × Val)} {i at_ : Int} (h : IsRec (l.take i.toNat) (zs.take i.toNat)) (h0 : 0 ≤ at_) (h1 : at_ < i) (h2 : i < l.length) (h3 : i.toNat ≤ zs.length) (e : (gI zs at_).1 = (gI l i).1) : recV l = (zV, 6) := by
  have hm : gI zs at_ ∈ zs.take i.toNat := by
    rw [← gI_take (n := i.toNat) h0 (by omega)]
    exact gI_mem h0 (by rw [List.length_take]; omega)
  have hm2 := h.perm.mem_iff.1 hm
  obtain ⟨q, hq, hq2⟩ := List.getElem_of_mem hm2
  rw [List.length_take] at hq
  refine rec_dup (a := q) (b := i) (by omega) (by omega) h2 ?_
  have e2 : gI l q = gI zs at_ := by
    rw [List.getElem_take] at hq2
    exact gI_at (by omega) (by rw [Int.toNat_natCast, List.getElem?_eq_getElem (by omega), hq2])
  rw [e2, e]
theorem rec_end {l s : List (Str × Val)} (h : IsRec l s) : recV l = if chk (recOf s) = 0 then (recOf s, 0) else (zV, chk (recOf s)) := by
  rw [recV, if_pos h.nd, h.eq]
theorem take_S {α : Type} [Inhabited α] {l : List α} {i : Int} (h0 : 0 ≤ i) (h : i < l.length) : l.take (i.toNat + 1) = l.take i.toNat ++ [gI l i] := by
  rw [List.take_add_one, List.getElem?_eq_getElem (by omega), gI_at h0 (List.getElem?_eq_getElem (by omega))]; rfl
theorem of_step {l A B s : List (Str × Val)} {i : Int} (h : IsRec (l.take i.toNat) (A ++ B)) (h0 : 0 ≤ i) (h1 : i < l.length) (hA : ∀ y ∈ A, y.1 < (gI l i).1) (hB : ∀ b r, B = b :: r → ¬ b.1 < (gI l i).1 ∧ b.1 ≠ (gI l i).1) (hs : s = A ++ [gI l i] ++ B) : IsRec (l.take (i.toNat + 1)) s := by
  subst hs
  have hb : ∀ y ∈ B, (gI l i).1 < y.1 := by
    cases B with
    | nil => simp
    | cons b r =>
      have h2 := hB b r rfl
      have h3 := lt_tri h2.1 h2.2
      intro y hy
      rcases List.mem_cons.1 hy with rfl | hy
      · exact h3
      · have hs := (List.pairwise_append.1 h.srt).2.1
        exact List.lt_trans h3 (List.rel_of_pairwise_cons hs hy)
  constructor
  · rw [take_S h0 h1]
    refine List.Perm.trans ?_ (h.perm.append_right _)
    rw [List.append_assoc, List.append_assoc]
    exact (List.perm_append_comm (l₁ := [gI l i]) (l₂ := B)).append_left A
  · have hp := List.pairwise_append.1 h.srt
    rw [Srt, List.append_assoc, List.pairwise_append]
    refine ⟨hp.1, ?_, fun a ha b hb' => ?_⟩
    · exact List.pairwise_cons.2 ⟨hb, hp.2.1⟩
    · rcases List.mem_cons.1 hb' with rfl | hb'
      · exact hA a ha
      · exact hp.2.2 a ha b hb'
theorem isRec_nil : IsRec [] [] := ⟨List.Perm.refl _, List.Pairwise.nil⟩
theorem row_lt {α : Type} [Inhabited α] {zs zs1 : List α} {i at_ : Int} {z y : α} (h0 : 0 ≤ at_) (h1 : at_ ≤ i) (h2 : zs1.take (i.toNat + 1) = zs.take i.toNat ++ [z]) (h3 : i.toNat + 1 ≤ zs1.length) (h4 : i.toNat ≤ zs.length) {p q n : Nat} (hp : p = at_.toNat + 1) (hq : q = at_.toNat) (hn : n = i.toNat - at_.toNat) :
    ((copyL zs1 p q n).set at_.toNat y).take (i.toNat + 1) = zs.take at_.toNat ++ [y] ++ (zs.take i.toNat).drop at_.toNat ∧ (copyL zs1 p q n).length = zs1.length := by
  subst hp hq hn
  have e1 : zs1 = zs.take at_.toNat ++ ((zs.take i.toNat).drop at_.toNat ++ [z] ++ zs1.drop (i.toNat + 1)) := by
    have : zs.take at_.toNat = (zs.take i.toNat).take at_.toNat := by rw [List.take_take, Nat.min_eq_left (by omega)]
    rw [this, ← List.append_assoc, ← List.append_assoc, List.take_append_drop, ← h2, List.take_append_drop]
  generalize hA : zs.take at_.toNat = A at e1
  generalize hB : (zs.take i.toNat).drop at_.toNat = B at e1
  generalize hR : zs1.drop (i.toNat + 1) = R at e1
  have lA : A.length = at_.toNat := by rw [← hA, List.length_take]; omega
  have lB : B.length = i.toNat - at_.toNat := by rw [← hB, List.length_drop, List.length_take]; omega
  have e2 : copyL zs1 (at_.toNat + 1) at_.toNat (i.toNat - at_.toNat) = A ++ ((B ++ [z]).take 1 ++ (B ++ R)) := by
    rw [copyL, e1]
    have t1 : (A ++ (B ++ [z] ++ R)).take (at_.toNat + 1) = A ++ (B ++ [z]).take 1 := by
      rw [List.take_append, List.take_of_length_le (by omega), lA, show at_.toNat + 1 - at_.toNat = 1 by omega, List.take_append_of_le_length (by simp)]
    have t2 : (A ++ (B ++ [z] ++ R)).drop at_.toNat = B ++ [z] ++ R := by rw [← lA, List.drop_left]
    have t3 : (A ++ (B ++ [z] ++ R)).drop (at_.toNat + 1 + (i.toNat - at_.toNat)) = R := by
      rw [show A ++ (B ++ [z] ++ R) = (A ++ B ++ [z]) ++ R by simp, List.drop_append, List.drop_eq_nil_of_le (by simp; omega), List.nil_append, show at_.toNat + 1 + (i.toNat - at_.toNat) - (A ++ B ++ [z]).length = 0 by simp; omega, List.drop_zero]
    have t4 : (B ++ [z] ++ R).take (i.toNat - at_.toNat) = B := by rw [List.append_assoc, ← lB, List.take_left]
    rw [t1, t2, t3, t4, List.append_assoc]
  constructor
  · rw [e2, List.set_append_right _ _ (by omega), lA, Nat.sub_self]
    obtain ⟨c, hc⟩ : ∃ c, (B ++ [z]).take 1 = [c] := by cases B <;> simp
    rw [hc]
    simp only [List.cons_append, List.nil_append, List.set_cons_zero]
    rw [show A ++ y :: (B ++ R) = (A ++ [y] ++ B) ++ R by simp, List.take_append_of_le_length (by simp; omega), List.take_of_length_le (by simp; omega)]
  · have := congrArg List.length e1
    simp only [List.length_append, List.length_cons, List.length_nil] at this
    rw [e2, this]
    simp only [List.length_append, List.length_take, List.length_cons, List.length_nil]
    omega
theorem row_ge {α : Type} {zs zs1 : List α} {i at_ : Int} {z y : α} (h1 : at_.toNat = i.toNat) (h2 : zs1.take (i.toNat + 1) = zs.take i.toNat ++ [z]) (h3 : i.toNat + 1 ≤ zs1.length) (h4 : i.toNat ≤ zs.length) :
    (zs1.set at_.toNat y).take (i.toNat + 1) = zs.take at_.toNat ++ [y] ++ (zs.take i.toNat).drop at_.toNat := by
  rw [h1, List.drop_eq_nil_of_le (by rw [List.length_take]; omega), List.append_nil, List.take_set, h2, List.set_append_right _ _ (by rw [List.length_take]; omega), List.length_take, Nat.min_eq_left h4, Nat.sub_self]
  rfl
theorem of_inv {zs : List (Str × Val)} {q : Int} {f : Str} (h0 : 0 ≤ q) (hq : q < zs.length) (h : ∀ y ∈ zs.take q.toNat, y.1 < f) (h1 : Op.bytesLess (gI zs q).1 f = true) : ∀ y ∈ zs.take (q + 1).toNat, y.1 < f := by
  rw [show (q + 1).toNat = q.toNat + 1 by omega, take_S h0 hq]
  intro y hy
  rcases List.mem_append.1 hy with hy | hy
  · exact h y hy
  · rw [List.mem_singleton.1 hy]; exact bl_iff.1 h1
theorem of_fin {l zs S : List (Str × Val)} {i q : Int} (hr : IsRec (l.take i.toNat) (zs.take i.toNat)) (h0 : 0 ≤ q) (hq : q ≤ i) (hi : i < l.length) (hz : i.toNat ≤ zs.length) (hA : ∀ y ∈ zs.take q.toNat, y.1 < (gI l i).1)
    (h6 : i ≤ q ∨ Op.bytesLess (gI zs q).1 (gI l i).1 = false) (h7 : i ≤ q ∨ (gI zs q).1 ≠ (gI l i).1) (hS : S.take (i.toNat + 1) = zs.take q.toNat ++ [gI l i] ++ (zs.take i.toNat).drop q.toNat) : IsRec (l.take (i + 1).toNat) (S.take (i + 1).toNat) := by
  rw [show (i + 1).toNat = i.toNat + 1 by omega]
  have e : zs.take q.toNat = (zs.take i.toNat).take q.toNat := by rw [List.take_take, Nat.min_eq_left (by omega)]
  refine of_step (A := zs.take q.toNat) (B := (zs.take i.toNat).drop q.toNat) ?_ (by omega) hi hA ?_ hS
  · rw [e, List.take_append_drop]; exact hr
  · intro b r hb
    have hqi : q < i := by
      have := congrArg List.length hb
      simp only [List.length_drop, List.length_take, List.length_cons] at this
      omega
    have hbq : b = gI zs q := by
      have h1 : ((zs.take i.toNat).drop q.toNat)[0]? = some b := by rw [hb]; rfl
      rw [List.getElem?_drop, Nat.add_zero, List.getElem?_take_of_lt (by omega)] at h1
      exact (gI_at h0 h1).symm
    rw [hbq]
    exact ⟨bl_f (h6.resolve_left (by omega)), h7.resolve_left (by omega)⟩
end Go.Proofs
end
section
namespace Go.Proofs
open Go Go.Aw Go.Sx
set_option maxRecDepth 100000
set_option maxHeartbeats 4000000 in
theorem u_Of (l : List (Str × Val)) (hl : l.length ≤ 12) (hok : ∀ p ∈ l, okV p.2) (m : AMem)  (K : AV → AMem → Prop) (hK : K (.tuple [valTop (recV l).1, .err 23 (recV l).2]) m) : ACalls Tryd.prog 27 [.slice false (l.map fldIn)] m K := by
 refine enter (c := cf [] [11] [6, 8] [] [14] []) (vs := [.av (.slice false (l.map fldIn))]) (L := []) (m := m) true tbOk Tryd.mixed Tryd.func27 rfl (k := 1) (by show fnOk [] _ _ _ = true; decide +kernel) rfl (Good.nil m) ?_
 refine sq ?_
 refine ln ?_
 refine lps (σ := (Unit) ⊕ (Int × (List (Str × Val)) × (Str × Val) × Nat × Nat)) [] [2, 4, 10, 11, 12] (Sum.elim (fun _ => 2) (fun ⟨i, zs, e, n, cp⟩ => 4)) (Sum.elim (fun _ => ([(2, .loc 0 0), (4, .loc 1 0), (10, vL (l.map fldIn)), (11, vI (l.length : Int)), (12, vI 0)], [.cells [vI 0, vI 0, vS ([] : Str), .own [], .own []], .cells [vI 5, vI 0, vS ([] : Str), .own [], .own (([] : List (Str × Val)).map fldIn)]], m)) (fun ⟨i, zs, e, n, cp⟩ => ([(2, .loc 0 0), (4, .loc 1 0), (10, vL (l.map fldIn)), (11, vI (l.length : Int)), (12, vI i)], [.cells [vI 0, vI 0, vS ([] : Str), .own [], .own []], .cells [vI 5, vI 0, vS ([] : Str), .own [], .ms 3 n cp], .cells [vS e.1, vI e.2.kind, vI e.2.n, vS e.2.s, vL (e.2.l.map valIn), vL (e.2.f.map fldIn)], .obj (.cells (flatK fldTop zs))], m))) (Sum.elim (fun _ => True) (fun ⟨i, zs, e, n, cp⟩ => n = i.toNat ∧ cp = zs.length ∧ 1 ≤ i ∧ i ≤ l.length ∧ i.toNat ≤ zs.length ∧ IsRec (l.take i.toNat) (zs.take i.toNat))) (Sum.elim (fun _ => l.length + 1) (fun ⟨i, zs, e, n, cp⟩ => l.length - i.toNat)) (.inl ()) ⟨rfl, rfl⟩ ?_ ?_
 · try dsimp only [Sum.elim_inl, Sum.elim_inr]
   all_goals trivial
 rintro (_ | ⟨i, zs, e, n, cp⟩) hI
 · try dsimp only [Sum.elim_inl, Sum.elim_inr] at hI
   refine sq ?_
   refine an (fun h1 => ?_) (fun h1 => ?_)
   · refine sq ?_
     refine ixg fldTop fldIn_eq (by omega) ?_
     refine sq ?_
     refine lp (σ := Int) [] [2, 4, 6, 7, 10, 11, 12] 3 (fun q => ([(2, .loc 0 0), (4, .loc 1 0), (6, .loc 2 0), (7, vI q), (10, vL (l.map fldIn)), (11, vI (l.length : Int)), (12, vI 0)], [.cells [vI 0, vI 0, vS ([] : Str), .own [], .own []], .cells [vI 5, vI 0, vS ([] : Str), .own [], .own (([] : List (Str × Val)).map fldIn)], .cells [vS ((gI l 0).1), vI (((gI l 0).2).kind), vI (((gI l 0).2).n), vS (((gI l 0).2).s), vL ((((gI l 0).2).l).map valIn), vL ((((gI l 0).2).f).map fldIn)]], m)) (fun q => q = 0) (fun q => 0) (0) ⟨rfl, rfl⟩ ?_ ?_
     · try dsimp only
       all_goals first | rfl | exact ⟨by omega, by omega, by simp⟩
     rintro q hI2
     refine sq ?_
     refine mg [2, 4, 6, 7, 10, 11, 12] 31 ((decide (q < (([] : List (Str × Val)).length : Int))) && (Op.bytesLess ((gI ([] : List (Str × Val)) q).1) ((gI l 0).1))) ?_ ?_
     · repeat' first
        | exact ⟨⟨_, rfl, by grind [SB.val]⟩, rfl⟩
        | refine an (fun _ => ?_) (fun _ => ?_)
        | refine ln ?_
        | refine ixg fldTop fldIn_eq (by omega) ?_
     refine an (fun h2 => ?_) (fun h2 => ?_)
     · replace h2 : (q < (([] : List (Str × Val)).length : Int)) ∧ (Op.bytesLess ((gI ([] : List (Str × Val)) q).1) ((gI l 0).1) = true) := ⟨(of_decide_eq_true (bandL h2)), (bandR h2)⟩
       exact absurd h2.1 (by have : (([] : List (Str × Val)).length : Int) = 0 := rfl; omega)
     replace h2 : ((([] : List (Str × Val)).length : Int) ≤ q) ∨ (Op.bytesLess ((gI ([] : List (Str × Val)) q).1) ((gI l 0).1) = false) := ((bandF h2).imp (fun q => (Int.not_lt.1 (of_decide_eq_false q))) (fun q => q))
     refine sq ?_
     refine mg [2, 4, 6, 7, 10, 11, 12] 49 ((decide (q < (([] : List (Str × Val)).length : Int))) && (((gI ([] : List (Str × Val)) q).1) == ((gI l 0).1))) ?_ ?_
     · repeat' first
        | exact ⟨⟨_, rfl, by grind [SB.val]⟩, rfl⟩
        | refine an (fun _ => ?_) (fun _ => ?_)
        | refine ln ?_
        | refine ixg fldTop fldIn_eq (by omega) ?_
     refine an (fun h3 => ?_) (fun h3 => ?_)
     · replace h3 : (q < (([] : List (Str × Val)).length : Int)) ∧ ((gI ([] : List (Str × Val)) q).1 = (gI l 0).1) := ⟨(of_decide_eq_true (bandL h3)), (eq_of_beq (bandR h3))⟩
       exact absurd h3.1 (by have : (([] : List (Str × Val)).length : Int) = 0 := rfl; omega)
     replace h3 : ((([] : List (Str × Val)).length : Int) ≤ q) ∨ ((gI ([] : List (Str × Val)) q).1 ≠ (gI l 0).1) := ((bandF h3).imp (fun q => (Int.not_lt.1 (of_decide_eq_false q))) (fun q => (ne_of_beq_false q)))
     refine apm0 tbOk fldTop ([(⟨[], (⟨0, 0, [], [], []⟩ : Val)⟩ : (Str × Val))] : List (Str × Val)) (⟨[], (⟨0, 0, [], [], []⟩ : Val)⟩ : (Str × Val)) rfl rfl (by simp only [List.map_cons, List.map_nil, fldIn_eq]; try rfl) ⟨rfl, ⟨rfl, rfl, trivial, rfl⟩⟩ (fun _ => rfl) (fun _ => rfl) (fun _ => rfl) (by simp) (by (simp only [List.length_append, List.length_cons, List.length_nil]; omega)) rfl ?_
     intro zs1 hzzs1 hlzs1
     refine ⟨fun _ => ?_⟩
     have hone : ([(⟨[], (⟨0, 0, [], [], []⟩ : Val)⟩ : (Str × Val))] : List (Str × Val)).length = 1 := rfl
     have hz1 : zs1.take ((0 : Int).toNat + 1) = ([] : List (Str × Val)).take (0 : Int).toNat ++ [(⟨[], (⟨0, 0, [], [], []⟩ : Val)⟩ : (Str × Val))] := hzzs1
     have hl1 : (0 : Int).toNat + 1 ≤ zs1.length := hlzs1
     have hi5 : (0 : Int) < l.length := h1
     have q0 : 0 ≤ q := by omega
     have q1 : q ≤ 0 := by omega
     have hA : ∀ y ∈ ([] : List (Str × Val)).take q.toNat, y.1 < (gI l 0).1 := by simp
     have hz0 : (0 : Int).toNat ≤ ([] : List (Str × Val)).length := Nat.le_refl _
     have hR : IsRec (l.take (0 : Int).toNat) (([] : List (Str × Val)).take (0 : Int).toNat) := isRec_nil
     have g6 : (0 : Int) ≤ q ∨ Op.bytesLess (gI ([] : List (Str × Val)) q).1 (gI l 0).1 = false := .inl q0
     have g7 : (0 : Int) ≤ q ∨ (gI ([] : List (Str × Val)) q).1 ≠ (gI l 0).1 := .inl q0
     have hrow := fun (p' q' n : Nat) (y : Str × Val) (h1 : p' = q.toNat + 1) (h2 : q' = q.toNat) (h3 : n = (0 : Int).toNat - q.toNat) => row_lt (y := y) q0 q1 hz1 hl1 hz0 h1 h2 h3
     rcases Nat.lt_or_ge (q.toNat + 1) zs1.length with hc | hc
     · refine an (by omega) ?_
       refine ⟨(by dsimp only [Option.getD_some, Option.getD_none]; omega), fun _ => ?_, fun hq => absurd hq (by dsimp only [Option.getD_some, Option.getD_none]; omega)⟩
       refine ⟨(by dsimp only [Option.getD_some, Option.getD_none]; omega), fun _ => ?_, fun hq => absurd hq (by dsimp only [Option.getD_some, Option.getD_none]; omega)⟩
       refine cpm tbOk fldTop zs1 (zc := (fldTop (⟨[], (⟨0, 0, [], [], []⟩ : Val)⟩ : (Str × Val))).cells) rfl rfl ⟨rfl, ⟨rfl, rfl, trivial, rfl⟩⟩ rfl (fun _ => rfl) (fun _ => rfl) (fun _ => rfl) (by dsimp only [Option.getD_some, Option.getD_none]; omega) (by dsimp only [Option.getD_some, Option.getD_none]; omega) (by dsimp only [Option.getD_some, Option.getD_none]; omega) ?_
       refine pure0 (fun _ => u_Copy ((gI l 0).2) (hok _ (gI_mem (by omega) (by omega)))) ?_
       refine an (by omega) ?_
       refine stk tbOk fldTop (copyL zs1 (q + 1).toNat (q).toNat (min (((((([(⟨[], (⟨0, 0, [], [], []⟩ : Val)⟩ : (Str × Val))] : List (Str × Val))).length : Nat) : Int) - q).toNat) (((((([(⟨[], (⟨0, 0, [], [], []⟩ : Val)⟩ : (Str × Val))] : List (Str × Val))).length : Nat) : Int) - (q + 1)).toNat))) (gI l 0) rfl rfl rfl rfl rfl (fun _ => rfl) rfl (fun _ => rfl) ⟨by omega, by first | omega | (rw [(hrow _ _ _ ([], zV) (by omega) (by omega) (by omega)).2]; omega)⟩ ?_
       refine an (by omega) ?_
       refine ⟨.inr (0 + 1, (copyL zs1 (q + 1).toNat (q).toNat (min (((((([(⟨[], (⟨0, 0, [], [], []⟩ : Val)⟩ : (Str × Val))] : List (Str × Val))).length : Nat) : Int) - q).toNat) (((((([(⟨[], (⟨0, 0, [], [], []⟩ : Val)⟩ : (Str × Val))] : List (Str × Val))).length : Nat) : Int) - (q + 1)).toNat))).set (q).toNat (gI l 0), (gI l 0), (([(⟨[], (⟨0, 0, [], [], []⟩ : Val)⟩ : (Str × Val))] : List (Str × Val))).length, zs1.length), ⟨rfl, rfl⟩, ?_, ?_⟩
       · try dsimp only [Sum.elim_inl, Sum.elim_inr]
         refine ⟨by omega, ?_, by omega, by omega, ?_, ?_⟩
         · rw [List.length_set]; all_goals first | rfl | exact (hrow _ _ _ ([], zV) (by omega) (by omega) (by omega)).2.symm
         · rw [List.length_set]; first | omega | (rw [(hrow _ _ _ ([], zV) (by omega) (by omega) (by omega)).2]; omega)
         · refine of_fin hR q0 q1 hi5 hz0 hA g6 g7 ?_
           first | exact (hrow _ _ _ _ (by omega) (by omega) (by omega)).1 | exact row_ge (by omega) hz1 hl1 hz0
       try dsimp only [Sum.elim_inl, Sum.elim_inr]
       omega
     · refine an (by omega) ?_
       refine ⟨(by dsimp only [Option.getD_some, Option.getD_none]; omega), fun hq => absurd hq (by dsimp only [Option.getD_some, Option.getD_none]; omega), fun _ => ?_⟩
       refine ⟨(by dsimp only [Option.getD_some, Option.getD_none]; omega), fun _ => ?_, fun hq => absurd hq (by dsimp only [Option.getD_some, Option.getD_none]; omega)⟩
       refine cpn tbOk rfl rfl ⟨rfl, ⟨rfl, rfl, trivial, rfl⟩⟩ ?_
       refine pure0 (fun _ => u_Copy ((gI l 0).2) (hok _ (gI_mem (by omega) (by omega)))) ?_
       refine an (by omega) ?_
       refine stk tbOk fldTop zs1 (gI l 0) rfl rfl rfl rfl rfl (fun _ => rfl) rfl (fun _ => rfl) ⟨by omega, by first | omega | (rw [(hrow _ _ _ ([], zV) (by omega) (by omega) (by omega)).2]; omega)⟩ ?_
       refine an (by omega) ?_
       refine ⟨.inr (0 + 1, zs1.set (q).toNat (gI l 0), (gI l 0), (([(⟨[], (⟨0, 0, [], [], []⟩ : Val)⟩ : (Str × Val))] : List (Str × Val))).length, zs1.length), ⟨rfl, rfl⟩, ?_, ?_⟩
       · try dsimp only [Sum.elim_inl, Sum.elim_inr]
         refine ⟨by omega, ?_, by omega, by omega, ?_, ?_⟩
         · rw [List.length_set]; all_goals first | rfl | exact (hrow _ _ _ ([], zV) (by omega) (by omega) (by omega)).2.symm
         · rw [List.length_set]; first | omega | (rw [(hrow _ _ _ ([], zV) (by omega) (by omega) (by omega)).2]; omega)
         · refine of_fin hR q0 q1 hi5 hz0 hA g6 g7 ?_
           first | exact (hrow _ _ _ _ (by omega) (by omega) (by omega)).1 | exact row_ge (by omega) hz1 hl1 hz0
       try dsimp only [Sum.elim_inl, Sum.elim_inr]
       omega
   refine cv0 ?_
   refine call0 (fun _ => u_Check (⟨5, 0, ([] : Str), [], ([] : List (Str × Val))⟩ : Val)) rfl ?_
   refine sq ?_
   refine an (fun h4 => ?_) (fun h4 => ?_)
   · refine rt0 rfl fun _ => ?_
     show K (.tuple [.agg [.int .i64 5, .int .i64 0, .str ([] : Str), .slice false [], .slice false (([] : List (Str × Val)).map fldIn)], .err 23 0]) m
     have hr : IsRec l [] := by rw [List.eq_nil_of_length_eq_zero (l := l) (by omega)]; exact isRec_nil
     rw [rec_end hr, if_pos (show chk (recOf []) = 0 from h4)] at hK; exact hK
   refine rt0 rfl fun _ => ?_
   show K (.tuple [.agg [.int .i64 0, .int .i64 0, .str ([]), .slice false [], .slice false []], .err 23 (chk (⟨5, 0, ([] : Str), [], ([] : List (Str × Val))⟩ : Val))]) m
   have hr : IsRec l [] := by rw [List.eq_nil_of_length_eq_zero (l := l) (by omega)]; exact isRec_nil
   rw [rec_end hr, if_neg (show ¬ chk (recOf []) = 0 from h4)] at hK; exact hK
 · try dsimp only [Sum.elim_inl, Sum.elim_inr] at hI
   obtain ⟨rfl, rfl, hI⟩ := hI
   refine sq ?_
   refine an (fun h5 => ?_) (fun h5 => ?_)
   · refine sq ?_
     refine ixg fldTop fldIn_eq (by omega) ?_
     refine sq ?_
     refine lp (σ := Int) [] [2, 4, 6, 7, 10, 11, 12] 5 (fun q => ([(2, .loc 0 0), (4, .loc 1 0), (6, .loc 4 0), (7, vI q), (10, vL (l.map fldIn)), (11, vI (l.length : Int)), (12, vI i)], [.cells [vI 0, vI 0, vS ([] : Str), .own [], .own []], .cells [vI 5, vI 0, vS ([] : Str), .own [], .ms 3 i.toNat zs.length], .cells [vS e.1, vI e.2.kind, vI e.2.n, vS e.2.s, vL (e.2.l.map valIn), vL (e.2.f.map fldIn)], .obj (.cells (flatK fldTop zs)), .cells [vS ((gI l i).1), vI (((gI l i).2).kind), vI (((gI l i).2).n), vS (((gI l i).2).s), vL ((((gI l i).2).l).map valIn), vL ((((gI l i).2).f).map fldIn)]], m)) (fun q => 0 ≤ q ∧ q ≤ i ∧ ∀ y ∈ zs.take q.toNat, y.1 < (gI l i).1) (fun q => i.toNat - q.toNat) (0) ⟨rfl, rfl⟩ ?_ ?_
     · try dsimp only
       all_goals first | rfl | exact ⟨by omega, by omega, by simp⟩
     rintro q hI2
     refine sq ?_
     refine mg [2, 4, 6, 7, 10, 11, 12] 31 ((decide (q < ((i.toNat : Nat) : Int))) && (Op.bytesLess ((gI zs q).1) ((gI l i).1))) ?_ ?_
     · repeat' first
        | exact ⟨⟨_, rfl, by grind [SB.val]⟩, rfl⟩
        | refine an (fun _ => ?_) (fun _ => ?_)
        | refine an (by omega) ?_
        | refine ldk (k := q) (w := 6) (j := 0) fldTop zs (by omega) (fun _ => rfl) rfl ?_
     refine an (fun h6 => ?_) (fun h6 => ?_)
     · replace h6 : (q < ((i.toNat : Nat) : Int)) ∧ (Op.bytesLess ((gI zs q).1) ((gI l i).1) = true) := ⟨(of_decide_eq_true (bandL h6)), (bandR h6)⟩
       refine an (by omega) ?_
       refine ⟨(q + 1), ⟨rfl, rfl⟩, ?_, ?_⟩
       · try dsimp only
         exact ⟨by omega, by omega, of_inv hI2.1 (by omega) hI2.2.2 h6.2⟩
       try dsimp only
       omega
     replace h6 : (((i.toNat : Nat) : Int) ≤ q) ∨ (Op.bytesLess ((gI zs q).1) ((gI l i).1) = false) := ((bandF h6).imp (fun q => (Int.not_lt.1 (of_decide_eq_false q))) (fun q => q))
     refine sq ?_
     refine mg [2, 4, 6, 7, 10, 11, 12] 49 ((decide (q < ((i.toNat : Nat) : Int))) && (((gI zs q).1) == ((gI l i).1))) ?_ ?_
     · repeat' first
        | exact ⟨⟨_, rfl, by grind [SB.val]⟩, rfl⟩
        | refine an (fun _ => ?_) (fun _ => ?_)
        | refine an (by omega) ?_
        | refine ldk (k := q) (w := 6) (j := 0) fldTop zs (by omega) (fun _ => rfl) rfl ?_
     refine an (fun h7 => ?_) (fun h7 => ?_)
     · replace h7 : (q < ((i.toNat : Nat) : Int)) ∧ ((gI zs q).1 = (gI l i).1) := ⟨(of_decide_eq_true (bandL h7)), (eq_of_beq (bandR h7))⟩
       refine rt0 rfl fun _ => ?_
       show K (.tuple [.agg [.int .i64 0, .int .i64 0, .str ([]), .slice false [], .slice false []], .err 23 6]) m
       rw [of_dup hI.2.2.2 hI2.1 (by omega) (by omega) hI.2.2.1 h7.2] at hK; exact hK
     replace h7 : (((i.toNat : Nat) : Int) ≤ q) ∨ ((gI zs q).1 ≠ (gI l i).1) := ((bandF h7).imp (fun q => (Int.not_lt.1 (of_decide_eq_false q))) (fun q => (ne_of_beq_false q)))
     refine apm tbOk fldTop zs ([(⟨[], (⟨0, 0, [], [], []⟩ : Val)⟩ : (Str × Val))] : List (Str × Val)) (⟨[], (⟨0, 0, [], [], []⟩ : Val)⟩ : (Str × Val)) rfl rfl (by simp only [List.map_cons, List.map_nil, fldIn_eq]; try rfl) ⟨rfl, ⟨rfl, rfl, trivial, rfl⟩⟩ rfl rfl (fun _ => rfl) (fun _ => rfl) (fun _ => rfl) (by omega) (by (simp only [List.length_append, List.length_cons, List.length_nil]; omega)) ?_
     intro zs1 hzzs1 hlzs1
     refine ⟨fun _ => ?_⟩
     have hone : ([(⟨[], (⟨0, 0, [], [], []⟩ : Val)⟩ : (Str × Val))] : List (Str × Val)).length = 1 := rfl
     have hz1 : zs1.take (i.toNat + 1) = zs.take i.toNat ++ [(⟨[], (⟨0, 0, [], [], []⟩ : Val)⟩ : (Str × Val))] := hzzs1
     have hl1 : i.toNat + 1 ≤ zs1.length := hlzs1
     have hi5 : i < l.length := h5
     have q0 : 0 ≤ q := hI2.1
     have q1 : q ≤ i := hI2.2.1
     have hA := hI2.2.2
     have hz0 := hI.2.2.1
     have hR := hI.2.2.2
     have g6 : i ≤ q ∨ Op.bytesLess (gI zs q).1 (gI l i).1 = false := h6.imp (fun h => by omega) id
     have g7 : i ≤ q ∨ (gI zs q).1 ≠ (gI l i).1 := h7.imp (fun h => by omega) id
     have hrow := fun (p' q' n : Nat) (y : Str × Val) (h1 : p' = q.toNat + 1) (h2 : q' = q.toNat) (h3 : n = i.toNat - q.toNat) => row_lt (y := y) q0 q1 hz1 hl1 hz0 h1 h2 h3
     rcases Nat.lt_or_ge (q.toNat + 1) zs1.length with hc | hc
     · refine an (by omega) ?_
       refine ⟨(by dsimp only [Option.getD_some, Option.getD_none]; omega), fun _ => ?_, fun hq => absurd hq (by dsimp only [Option.getD_some, Option.getD_none]; omega)⟩
       refine ⟨(by dsimp only [Option.getD_some, Option.getD_none]; omega), fun _ => ?_, fun hq => absurd hq (by dsimp only [Option.getD_some, Option.getD_none]; omega)⟩
       refine cpm tbOk fldTop zs1 (zc := (fldTop (⟨[], (⟨0, 0, [], [], []⟩ : Val)⟩ : (Str × Val))).cells) rfl rfl ⟨rfl, ⟨rfl, rfl, trivial, rfl⟩⟩ rfl (fun _ => rfl) (fun _ => rfl) (fun _ => rfl) (by dsimp only [Option.getD_some, Option.getD_none]; omega) (by dsimp only [Option.getD_some, Option.getD_none]; omega) (by dsimp only [Option.getD_some, Option.getD_none]; omega) ?_
       refine pure0 (fun _ => u_Copy ((gI l i).2) (hok _ (gI_mem (by omega) (by omega)))) ?_
       refine an (by omega) ?_
       refine stk tbOk fldTop (copyL zs1 (q + 1).toNat (q).toNat (min ((((i.toNat + (([(⟨[], (⟨0, 0, [], [], []⟩ : Val)⟩ : (Str × Val))] : List (Str × Val))).length : Nat) : Int) - q).toNat) ((((i.toNat + (([(⟨[], (⟨0, 0, [], [], []⟩ : Val)⟩ : (Str × Val))] : List (Str × Val))).length : Nat) : Int) - (q + 1)).toNat))) (gI l i) rfl rfl rfl rfl rfl (fun _ => rfl) rfl (fun _ => rfl) ⟨by omega, by first | omega | (rw [(hrow _ _ _ ([], zV) (by omega) (by omega) (by omega)).2]; omega)⟩ ?_
       refine an (by omega) ?_
       refine ⟨.inr (i + 1, (copyL zs1 (q + 1).toNat (q).toNat (min ((((i.toNat + (([(⟨[], (⟨0, 0, [], [], []⟩ : Val)⟩ : (Str × Val))] : List (Str × Val))).length : Nat) : Int) - q).toNat) ((((i.toNat + (([(⟨[], (⟨0, 0, [], [], []⟩ : Val)⟩ : (Str × Val))] : List (Str × Val))).length : Nat) : Int) - (q + 1)).toNat))).set (q).toNat (gI l i), e, i.toNat + (([(⟨[], (⟨0, 0, [], [], []⟩ : Val)⟩ : (Str × Val))] : List (Str × Val))).length, zs1.length), ⟨rfl, rfl⟩, ?_, ?_⟩
       · try dsimp only [Sum.elim_inl, Sum.elim_inr]
         refine ⟨by omega, ?_, by omega, by omega, ?_, ?_⟩
         · rw [List.length_set]; all_goals first | rfl | exact (hrow _ _ _ ([], zV) (by omega) (by omega) (by omega)).2.symm
         · rw [List.length_set]; first | omega | (rw [(hrow _ _ _ ([], zV) (by omega) (by omega) (by omega)).2]; omega)
         · refine of_fin hR q0 q1 hi5 hz0 hA g6 g7 ?_
           first | exact (hrow _ _ _ _ (by omega) (by omega) (by omega)).1 | exact row_ge (by omega) hz1 hl1 hz0
       try dsimp only [Sum.elim_inl, Sum.elim_inr]
       omega
     · refine an (by omega) ?_
       refine ⟨(by dsimp only [Option.getD_some, Option.getD_none]; omega), fun hq => absurd hq (by dsimp only [Option.getD_some, Option.getD_none]; omega), fun _ => ?_⟩
       refine ⟨(by dsimp only [Option.getD_some, Option.getD_none]; omega), fun _ => ?_, fun hq => absurd hq (by dsimp only [Option.getD_some, Option.getD_none]; omega)⟩
       refine cpn tbOk rfl rfl ⟨rfl, ⟨rfl, rfl, trivial, rfl⟩⟩ ?_
       refine pure0 (fun _ => u_Copy ((gI l i).2) (hok _ (gI_mem (by omega) (by omega)))) ?_
       refine an (by omega) ?_
       refine stk tbOk fldTop zs1 (gI l i) rfl rfl rfl rfl rfl (fun _ => rfl) rfl (fun _ => rfl) ⟨by omega, by first | omega | (rw [(hrow _ _ _ ([], zV) (by omega) (by omega) (by omega)).2]; omega)⟩ ?_
       refine an (by omega) ?_
       refine ⟨.inr (i + 1, zs1.set (q).toNat (gI l i), e, i.toNat + (([(⟨[], (⟨0, 0, [], [], []⟩ : Val)⟩ : (Str × Val))] : List (Str × Val))).length, zs1.length), ⟨rfl, rfl⟩, ?_, ?_⟩
       · try dsimp only [Sum.elim_inl, Sum.elim_inr]
         refine ⟨by omega, ?_, by omega, by omega, ?_, ?_⟩
         · rw [List.length_set]; all_goals first | rfl | exact (hrow _ _ _ ([], zV) (by omega) (by omega) (by omega)).2.symm
         · rw [List.length_set]; first | omega | (rw [(hrow _ _ _ ([], zV) (by omega) (by omega) (by omega)).2]; omega)
         · refine of_fin hR q0 q1 hi5 hz0 hA g6 g7 ?_
           first | exact (hrow _ _ _ _ (by omega) (by omega) (by omega)).1 | exact row_ge (by omega) hz1 hl1 hz0
       try dsimp only [Sum.elim_inl, Sum.elim_inr]
       omega
   refine cvfM (i := 3) (a := 1) (j := 4) (w := 6) (f := fldTop) zs ((zs.take i.toNat).map fldIn) rfl rfl rfl rfl (fun _ => rfl) (by decide) (fun _ => rfl) (by omega) (by rw [fldMap]) ?_
   refine call0 (fun _ => u_Check (⟨5, 0, ([] : Str), [], zs.take i.toNat⟩ : Val)) rfl ?_
   refine sq ?_
   refine an (fun h8 => ?_) (fun h8 => ?_)
   · refine rt0 rfl fun _ => ?_
     show K (.tuple [.agg [.int .i64 5, .int .i64 0, .str ([] : Str), .slice false [], .slice false ((zs.take i.toNat).map fldIn)], .err 23 0]) m
     have hr : IsRec l (zs.take i.toNat) := by have := hI.2.2.2; rwa [List.take_of_length_le (l := l) (by omega)] at this
     rw [rec_end hr, if_pos (show chk (recOf (zs.take i.toNat)) = 0 from h8)] at hK; exact hK
   refine rt0 rfl fun _ => ?_
   show K (.tuple [.agg [.int .i64 0, .int .i64 0, .str ([]), .slice false [], .slice false []], .err 23 (chk (⟨5, 0, ([] : Str), [], zs.take i.toNat⟩ : Val))]) m
   have hr : IsRec l (zs.take i.toNat) := by have := hI.2.2.2; rwa [List.take_of_length_le (l := l) (by omega)] at this
   rw [rec_end hr, if_neg (show ¬ chk (recOf (zs.take i.toNat)) = 0 from h8)] at hK; exact hK
end Go.Proofs
end
section
namespace Go.Proofs
open Go Go.Aw Go.Sx
set_option maxRecDepth 100000
structure Swp (l zs : List (Str × Val)) (i k : Int) : Prop where
  h : ∃ A B, zs.take l.length = A ++ gI l i :: (B ++ l.drop (i.toNat + 1)) ∧ A.length = k.toNat ∧ IsRec (l.take i.toNat) (A ++ B) ∧ ∀ y ∈ B, (gI l i).1 < y.1
theorem swp_start {l zs : List (Str × Val)} {i : Int} (h0 : 0 ≤ i) (h1 : i < l.length) (hz : l.length ≤ zs.length) (h2 : zs.take l.length = zs.take i.toNat ++ l.drop i.toNat) (h3 : IsRec (l.take i.toNat) (zs.take i.toNat)) : Swp l zs i i := by
  refine ⟨zs.take i.toNat, [], ?_, by rw [List.length_take]; omega, by rw [List.append_nil]; exact h3, by simp⟩
  rw [h2, List.nil_append]
  congr 1
  have h4 : i.toNat < l.length := by omega
  rw [List.drop_eq_getElem_cons h4, gI_at h0 (List.getElem?_eq_getElem h4)]
theorem gI_mid {A C zs : List (Str × Val)} {n : Nat} {x : Str × Val} {k : Int} (h0 : 0 ≤ k) (h : zs.take n = A ++ x :: C) (hA : A.length = k.toNat) : gI zs k = x := by
  have h1 : (zs.take n)[k.toNat]? = some x := by rw [h, List.getElem?_append_right (by omega), hA, Nat.sub_self]; rfl
  have h2 : k.toNat < n := by
    rcases Nat.lt_or_ge k.toNat n with h | h
    · exact h
    · rw [List.getElem?_eq_none (by rw [List.length_take]; omega)] at h1; cases h1
  rw [List.getElem?_take_of_lt h2] at h1
  exact gI_at h0 h1
theorem snoc_of {A : List (Str × Val)} {k : Int} (hA : A.length = k.toNat) (h : 0 < k) : ∃ A' a, A = A' ++ [a] ∧ A'.length = (k - 1).toNat := by
  have hne : A ≠ [] := fun e => by rw [e] at hA; simp at hA; omega
  exact ⟨A.dropLast, A.getLast hne, (List.dropLast_concat_getLast hne).symm, by rw [List.length_dropLast]; omega⟩
theorem swp_step {l zs : List (Str × Val)} {i k : Int} (h : Swp l zs i k) (h0 : 0 < k) (h1 : Op.bytesLess (gI zs k).1 (gI zs (k - 1)).1 = true) : Swp l ((zs.set k.toNat (gI zs (k - 1))).set (k - 1).toNat (gI zs k)) i (k - 1) := by
  obtain ⟨A, B, h2, h3, h4, h5⟩ := h
  obtain ⟨A', a, rfl, hA'⟩ := snoc_of h3 h0
  have e1 := gI_mid (k := k) (by omega) h2 h3
  have e2 : gI zs (k - 1) = a := gI_mid (k := k - 1) (A := A') (C := gI l i :: (B ++ l.drop (i.toNat + 1))) (by omega) (by rw [h2]; simp) hA'
  rw [e1, e2] at h1 ⊢
  refine ⟨A', a :: B, ?_, hA', by rw [List.append_assoc] at h4; exact h4, fun y hy => ?_⟩
  · rw [List.take_set, List.take_set, h2, List.append_assoc, List.set_append_right _ _ (by omega), List.set_append_right _ _ (by omega), hA', show k.toNat - (k - 1).toNat = 1 by omega, Nat.sub_self]
    rfl
  · rcases List.mem_cons.1 hy with rfl | hy
    · exact bl_iff.1 h1
    · exact h5 y hy
theorem swp_end {l zs : List (Str × Val)} {i k : Int} (h : Swp l zs i k) (h0 : 0 ≤ k) (hi0 : 0 ≤ i) (hi : i < l.length) (hn : (l.map Prod.fst).Nodup) (h1 : k ≤ 0 ∨ Op.bytesLess (gI zs k).1 (gI zs (k - 1)).1 = false) :
    zs.take l.length = zs.take (i + 1).toNat ++ l.drop (i + 1).toNat ∧ IsRec (l.take (i + 1).toNat) (zs.take (i + 1).toNat) := by
  obtain ⟨A, B, h2, h3, h4, h5⟩ := h
  have ei : (i + 1).toNat = i.toNat + 1 := by omega
  rw [ei]
  have hl := h4.perm.length_eq
  rw [List.length_append, List.length_take, Nat.min_eq_left (by omega)] at hl
  have e1 : zs.take (i.toNat + 1) = A ++ [gI l i] ++ B := by
    have : zs.take (i.toNat + 1) = (zs.take l.length).take (i.toNat + 1) := by rw [List.take_take, Nat.min_eq_left (by omega)]
    rw [this, h2, show A ++ gI l i :: (B ++ l.drop (i.toNat + 1)) = (A ++ [gI l i] ++ B) ++ l.drop (i.toNat + 1) by simp, List.take_append_of_le_length (by simp; omega), List.take_of_length_le (by simp; omega)]
  refine ⟨by rw [e1, h2]; simp, of_step h4 hi0 hi ?_ ?_ e1⟩
  · intro y hy
    have hk : 0 < k := by
      rcases Int.lt_or_le 0 k with h | h
      · exact h
      · rw [List.eq_nil_of_length_eq_zero (l := A) (by omega)] at hy; cases hy
    obtain ⟨A', a, rfl, hA'⟩ := snoc_of h3 hk
    have q1 := gI_mid (k := k) h0 h2 h3
    have q2 : gI zs (k - 1) = a := gI_mid (k := k - 1) (A := A') (C := gI l i :: (B ++ l.drop (i.toNat + 1))) (by omega) (by rw [h2]; simp) hA'
    have q3 := bl_f (h1.resolve_left (by omega))
    rw [q1, q2] at q3
    have hne : a.1 ≠ (gI l i).1 := fun e => by
      have hm : a ∈ l.take i.toNat := h4.perm.mem_iff.1 (by simp)
      have h6 : (l.take (i.toNat + 1)).map Prod.fst = (l.take i.toNat).map Prod.fst ++ [(gI l i).1] := by rw [take_S hi0 hi]; simp
      have h7 : ((l.take (i.toNat + 1)).map Prod.fst).Nodup := by rw [List.map_take]; exact hn.sublist (List.take_sublist _ _)
      rw [h6, List.nodup_append] at h7
      exact h7.2.2 a.1 (List.mem_map.2 ⟨a, hm, rfl⟩) (gI l i).1 (by simp) e
    have hlt : a.1 < (gI l i).1 := lt_tri (a := (gI l i).1) (b := a.1) q3 (Ne.symm hne)
    rcases List.mem_append.1 hy with hy | hy
    · have hs := (List.pairwise_append.1 (List.pairwise_append.1 h4.srt).1).2.2 y hy a (by simp)
      exact List.lt_trans hs hlt
    · rw [List.mem_singleton.1 hy]; exact hlt
  · intro b r hb
    have := h5 b (by rw [hb]; simp)
    exact ⟨fun h => lt_irr _ (List.lt_trans h this), fun e => lt_irr b.1 (by rw [← e] at this; exact this)⟩
theorem isRec_one {l zs : List (Str × Val)} (hl : l ≠ []) (h : zs.take l.length = l) : zs.take l.length = zs.take (1 : Int).toNat ++ l.drop (1 : Int).toNat ∧ IsRec (l.take (1 : Int).toNat) (zs.take (1 : Int).toNat) := by
  cases l with
  | nil => exact absurd rfl hl
  | cons a r =>
    have e : zs.take 1 = [a] := by
      have := congrArg (List.take 1) h
      rw [List.take_take, Nat.min_eq_left (by simp)] at this
      exact this
    refine ⟨?_, ?_⟩
    · show zs.take (a :: r).length = zs.take 1 ++ r
      rw [h, e]; rfl
    · show IsRec [a] (zs.take 1)
      rw [e]; exact ⟨List.Perm.refl _, List.pairwise_singleton _ _⟩
theorem nodup_of {l : List (Str × Val)} (h : ∀ a b : Int, 0 ≤ a → a < b → b < l.length → (gI l a).1 ≠ (gI l b).1) : (l.map Prod.fst).Nodup := by
  rw [List.nodup_iff_pairwise_ne, List.pairwise_map, List.pairwise_iff_getElem]
  intro p q hp hq hpq e
  refine h p q (by omega) (by omega) (by omega) ?_
  rw [gI_at (i := (p : Int)) (by omega) (by rw [Int.toNat_natCast]; exact List.getElem?_eq_getElem hp), gI_at (i := (q : Int)) (by omega) (by rw [Int.toNat_natCast]; exact List.getElem?_eq_getElem hq)]
  exact e
theorem depF_le {c : Nat} : ∀ (l : List (Str × Val)), (∀ p ∈ l, depV p.2 ≤ c) → depF l ≤ l.length * c
  | [], _ => by simp [depF]
  | (s, .mk k n t a f) :: r, h => by
    have h1 := h _ (List.mem_cons_self ..)
    have h2 := depF_le r fun p hp => h p (List.mem_cons_of_mem _ hp)
    simp only [depV] at h1
    simp only [depF, List.length_cons, Nat.succ_mul]
    omega
theorem depV_rec {c : Nat} {l s : List (Str × Val)} (hp : s.Perm l) (hl : l.length ≤ 12) (h : ∀ p ∈ l, depV p.2 ≤ c) : depV (recOf s) ≤ 12 * c + 1 := by
  have h1 := depF_le s fun p hm => h p (hp.mem_iff.1 hm)
  have h2 := hp.length_eq
  rw [depV_eq]
  show depL [] + depF s + 1 ≤ _
  simp only [depL]
  have : s.length * c ≤ 12 * c := Nat.mul_le_mul_right _ (by omega)
  omega
theorem chk_le {v : Val} (h : chk v ≤ 0) : chk v = 0 := by
  unfold chk at h ⊢
  split
  · rename_i c
    rw [if_pos c] at h
    unfold shE at h ⊢
    split at h
    · rename_i c2; rw [if_pos c2]
    · omega
  · rename_i c
    rw [if_neg c] at h
    omega
set_option maxHeartbeats 4000000 in
theorem u_Record (l : List (Str × Val)) (hl : l.length ≤ 12) (hd : ∀ p ∈ l, depV p.2 ≤ 1000000000) (m : AMem)  (K : AV → AMem → Prop) (hK : K (.tuple [valTop (recV l).1, .int .i64 (recV l).2]) m) : ACalls Tryd.prog 28 [.slice false (l.map fldIn)] m K := by
 refine enter (c := cf [] [10] [15] [] [20] []) (vs := [.av (.slice false (l.map fldIn))]) (L := []) (m := m) false tbOk Tryd.mixed Tryd.func28 rfl (k := 1) (by show fnOk [] _ _ _ = true; decide +kernel) rfl (Good.nil m) ?_
 refine sq ?_
 refine lp (σ := Int) [] [0, 2, 4] 1 (fun i => ([(0, vL (l.map fldIn)), (2, .loc 0 0), (4, vI i)], [.cells [vI 0, vI 0, vS ([]), .own [], .own []]], m)) (fun i => 0 ≤ i ∧ i ≤ l.length ∧ ∀ a b : Int, 0 ≤ a → a < b → b < i → (gI l a).1 ≠ (gI l b).1) (fun i => l.length - i.toNat) (0) ⟨rfl, rfl⟩ ?_ ?_
 · try dsimp only
   exact ⟨by omega, by omega, fun a b h0 h1 h2 => by omega⟩
 rintro i hI
 refine sq ?_
 refine ln ?_
 refine an (fun h1 => ?_) (fun h1 => ?_)
 · refine sq ?_
   refine lp (σ := Int) [] [0, 2, 4, 5] 1 (fun k => ([(0, vL (l.map fldIn)), (2, .loc 0 0), (4, vI i), (5, vI k)], [.cells [vI 0, vI 0, vS ([]), .own [], .own []]], m)) (fun k => 0 ≤ k ∧ k ≤ i ∧ ∀ a : Int, 0 ≤ a → a < k → (gI l a).1 ≠ (gI l i).1) (fun k => i.toNat - k.toNat) (0) ⟨rfl, rfl⟩ ?_ ?_
   · try dsimp only
     exact ⟨by omega, by omega, fun a h0 h1 => by omega⟩
   rintro k hI2
   refine sq ?_
   refine an (fun h2 => ?_) (fun h2 => ?_)
   · refine sq ?_
     refine ixg fldTop fldIn_eq (by omega) ?_
     refine ixg fldTop fldIn_eq (by omega) ?_
     refine an (fun h3 => ?_) (fun h3 => ?_)
     · refine rt0 rfl fun _ => ?_
       show K (.tuple [.agg [.int .i64 0, .int .i64 0, .str ([]), .slice false [], .slice false []], .int .i64 6]) m
       rw [rec_dup hI2.1 h2 (by omega) h3] at hK; exact hK
     refine an (by omega) ?_
     refine ⟨(k + 1), ⟨rfl, rfl⟩, ?_, ?_⟩
     · try dsimp only
       refine ⟨by omega, by omega, fun a h0 h1 => ?_⟩
       rcases Int.lt_or_eq_of_le (show a ≤ k by omega) with h | rfl
       · exact hI2.2.2 a h0 h
       · exact h3
     try dsimp only
     omega
   refine an (by omega) ?_
   refine ⟨(i + 1), ⟨rfl, rfl⟩, ?_, ?_⟩
   · try dsimp only
     refine ⟨by omega, by omega, fun a b h0 h1 h2 => ?_⟩
     rcases Int.lt_or_eq_of_le (show b ≤ i by omega) with h | rfl
     · exact hI.2.2 a b h0 h1 h
     · exact hI2.2.2 a h0 (by omega)
   try dsimp only
   omega
 refine ⟨fun _ => ?_⟩
 have hnd : (l.map Prod.fst).Nodup := nodup_of fun a b h0 h1 h2 => hI.2.2 a b h0 h1 (by omega)
 rcases Classical.em (l = []) with hnil | hnil
 · refine ap fldIn ([]) l rfl rfl (fun a => by rw [fldIn_eq]; exact ⟨rfl, rfl⟩) (by (simp only [List.length_append, List.length_cons, List.length_nil]; omega)) ?_
   refine sq ?_
   refine lp (σ := Int) [] [2, 6, 7] 2 (fun j => ([(2, .loc 0 0), (6, .loc 1 0), (7, vI j)], [.cells [vI 0, vI 0, vS ([]), .own [], .own []], .cells [vI 5, vI 0, vS ([]), .own [], .own (l.map fldIn)]], m)) (fun j => j = 1) (fun j => 0) (1) ⟨rfl, rfl⟩ ?_ ?_
   · try dsimp only
     all_goals rfl
   rintro j hI2
   refine sq ?_
   refine ln ?_
   refine an (fun h4 => ?_) (fun h4 => ?_)
   · rw [hnil] at h4; exact absurd h4 (by simp only [List.length_nil]; omega)
   have hr : IsRec l l := by rw [hnil]; exact isRec_nil
   refine sq ?_
   refine cv0 ?_
   refine call0 (fun _ => u_Fault (⟨5, 0, [], [], l⟩ : Val) (by first | (have := depV_rec hr.perm hl hd; exact Nat.le_trans this (by decide)) | decide)) rfl ?_
   refine an (fun h5 => ?_) (fun h5 => ?_)
   · refine rt0 rfl fun _ => ?_
     show K (.tuple [.agg [.int .i64 0, .int .i64 0, .str ([]), .slice false [], .slice false []], .int .i64 (chk (⟨5, 0, [], [], l⟩ : Val))]) m
     rw [rec_end hr, if_neg (show ¬ chk (recOf l) = 0 from fun e => by have h5 : 0 < chk (recOf l) := h5; omega)] at hK; exact hK
   refine rt0 rfl fun _ => ?_
   show K (.tuple [.agg [.int .i64 5, .int .i64 0, .str ([]), .slice false [], .slice false (l.map fldIn)], .int .i64 0]) m
   rw [rec_end hr, if_pos (show chk (recOf l) = 0 from chk_le h5)] at hK; exact hK
 · refine apm0 tbOk fldTop l (⟨[], (⟨0, 0, [], [], []⟩ : Val)⟩ : (Str × Val)) rfl rfl (by rw [fldMap]) ⟨rfl, ⟨rfl, rfl, trivial, rfl⟩⟩ (fun _ => rfl) (fun _ => rfl) (fun _ => rfl) (by exact hnil) (by (simp only [List.length_append, List.length_cons, List.length_nil]; omega)) rfl ?_
   intro zs0 hzzs0 hlzs0
   refine sq ?_
   refine lp (σ := Int × (List (Str × Val))) [] [2, 6, 7] 3 (fun ⟨j, zs⟩ => ([(2, .loc 0 0), (6, .loc 1 0), (7, vI j)], [.cells [vI 0, vI 0, vS ([]), .own [], .own []], .cells [vI 5, vI 0, vS ([]), .own [], .ms 2 ((l).length) zs0.length], .obj (.cells (flatK fldTop zs))], m)) (fun ⟨j, zs⟩ => 1 ≤ j ∧ j ≤ l.length ∧ zs.length = zs0.length ∧ zs.take l.length = zs.take j.toNat ++ l.drop j.toNat ∧ IsRec (l.take j.toNat) (zs.take j.toNat)) (fun ⟨j, zs⟩ => l.length - j.toNat) (1, zs0) ⟨rfl, rfl⟩ ?_ ?_
   · try dsimp only
     have q := isRec_one hnil hzzs0
     have q2 := List.length_pos_iff.2 hnil
     exact ⟨by omega, by omega, rfl, q.1, q.2⟩
   rintro ⟨j, zs⟩ hI2
   dsimp only at hI2
   refine sq ?_
   refine an (by omega) ?_
   refine an (fun h6 => ?_) (fun h6 => ?_)
   · refine sq ?_
     refine lp (σ := Int × (List (Str × Val))) [] [2, 6, 7, 8] 3 (fun ⟨k2, ys⟩ => ([(2, .loc 0 0), (6, .loc 1 0), (7, vI j), (8, vI k2)], [.cells [vI 0, vI 0, vS ([]), .own [], .own []], .cells [vI 5, vI 0, vS ([]), .own [], .ms 2 ((l).length) zs0.length], .obj (.cells (flatK fldTop ys))], m)) (fun ⟨k2, ys⟩ => 0 ≤ k2 ∧ k2 ≤ j ∧ ys.length = zs0.length ∧ Swp l ys j k2) (fun ⟨k2, ys⟩ => k2.toNat) (j, zs) ⟨rfl, rfl⟩ ?_ ?_
     · try dsimp only
       exact ⟨by omega, by omega, by omega, swp_start (by omega) (by omega) (by omega) hI2.2.2.2.1 hI2.2.2.2.2⟩
     rintro ⟨k2, ys⟩ hI3
     dsimp only at hI3
     refine sq ?_
     refine mg [2, 6, 7, 8] 65 ((decide (0 < k2)) && (Op.bytesLess ((gI ys k2).1) ((gI ys (k2 - 1)).1))) ?_ ?_
     · repeat' first
        | exact ⟨⟨_, rfl, by grind [SB.val]⟩, rfl⟩
        | refine an (fun _ => ?_) (fun _ => ?_)
        | refine an (by omega) ?_
        | refine ldk (k := k2) (w := 6) (j := 0) fldTop ys (by omega) (fun _ => rfl) rfl ?_
        | refine ldk (k := k2 - 1) (w := 6) (j := 0) fldTop ys (by omega) (fun _ => rfl) rfl ?_
     refine an (fun h7 => ?_) (fun h7 => ?_)
     · replace h7 : (0 < k2) ∧ (Op.bytesLess ((gI ys k2).1) ((gI ys (k2 - 1)).1) = true) := ⟨(of_decide_eq_true (bandL h7)), (bandR h7)⟩
       refine sq ?_
       refine an (by omega) ?_
       refine ldk (k := k2) (w := 6) (j := 0) fldTop ys (by omega) (fun _ => rfl) rfl ?_
       refine an (by omega) ?_
       refine an (by omega) ?_
       refine ldk (k := k2 - 1) (w := 6) (j := 0) fldTop ys (by omega) (fun _ => rfl) rfl ?_
       refine an (by omega) ?_
       refine stk tbOk fldTop ys (gI ys (k2 - 1)) rfl rfl rfl rfl rfl (fun _ => rfl) rfl (fun _ => rfl) ⟨by omega, by first | omega | (rw [List.length_set]; omega)⟩ ?_
       refine an (by omega) ?_
       refine an (by omega) ?_
       refine stk tbOk fldTop (ys.set (k2).toNat (gI ys (k2 - 1))) (gI ys k2) rfl rfl rfl rfl rfl (fun _ => rfl) rfl (fun _ => rfl) ⟨by omega, by first | omega | (rw [List.length_set]; omega)⟩ ?_
       refine an (by omega) ?_
       refine ⟨(k2 - 1, (ys.set (k2).toNat (gI ys (k2 - 1))).set (k2 - 1).toNat (gI ys k2)), ⟨rfl, rfl⟩, ?_, ?_⟩
       · try dsimp only
         refine ⟨by omega, by omega, ?_, swp_step hI3.2.2.2 h7.1 h7.2⟩
         rw [List.length_set, List.length_set]; exact hI3.2.2.1
       try dsimp only
       omega
     replace h7 : (k2 ≤ 0) ∨ (Op.bytesLess ((gI ys k2).1) ((gI ys (k2 - 1)).1) = false) := ((bandF h7).imp (fun q => (Int.not_lt.1 (of_decide_eq_false q))) (fun q => q))
     refine an (by omega) ?_
     refine ⟨(j + 1, ys), ⟨rfl, rfl⟩, ?_, ?_⟩
     · try dsimp only
       have q := swp_end hI3.2.2.2 hI3.1 (by omega) (by omega) hnd h7
       exact ⟨by omega, by omega, hI3.2.2.1, q.1, q.2⟩
     try dsimp only
     omega
   have hr : IsRec l (zs.take l.length) := by have := hI2.2.2.2.2; rw [show j.toNat = l.length by omega] at this; rwa [List.take_of_length_le (l := l) (by omega)] at this
   refine sq ?_
   refine cvfM (i := 2) (a := 1) (j := 4) (w := 6) (f := fldTop) zs ((zs.take l.length).map fldIn) rfl rfl rfl rfl (fun _ => rfl) (by decide) (fun _ => rfl) (by omega) (by rw [fldMap]) ?_
   refine call0 (fun _ => u_Fault (⟨5, 0, [], [], zs.take l.length⟩ : Val) (by first | (have := depV_rec hr.perm hl hd; exact Nat.le_trans this (by decide)) | decide)) rfl ?_
   refine an (fun h8 => ?_) (fun h8 => ?_)
   · refine rt0 rfl fun _ => ?_
     show K (.tuple [.agg [.int .i64 0, .int .i64 0, .str ([]), .slice false [], .slice false []], .int .i64 (chk (⟨5, 0, [], [], zs.take l.length⟩ : Val))]) m
     rw [rec_end hr, if_neg (show ¬ chk (recOf (zs.take l.length)) = 0 from fun e => by have h8 : 0 < chk (recOf (zs.take l.length)) := h8; omega)] at hK; exact hK
   refine rt0 rfl fun _ => ?_
   show K (.tuple [.agg [.int .i64 5, .int .i64 0, .str ([]), .slice false [], .slice false ((zs.take l.length).map fldIn)], .int .i64 0]) m
   rw [rec_end hr, if_pos (show chk (recOf (zs.take l.length)) = 0 from chk_le h8)] at hK; exact hK
end Go.Proofs
end
section
namespace Go.Proofs
open Go Go.Aw Go.Sx
set_option maxRecDepth 100000
theorem chk_nn (v : Val) : 0 ≤ chk v := by
  unfold chk shE
  split
  · split <;> decide
  · decide
theorem recV_nn (l : List (Str × Val)) : 0 ≤ (recV l).2 := by
  rw [recV]
  split
  · split
    · exact Int.le_refl _
    · exact chk_nn _
  · exact (by decide : (0 : Int) ≤ 6)
theorem vEq_refl (v : Val) : vEq v v = true := vEq_true rfl
set_option maxHeartbeats 8000000 in
theorem u_ValueSays (v o : Val) (s : Str) (l : List (Str × Val)) (hv : depV v ≤ 1000000000) (ho : depV o ≤ 1000000000) (hl : ∀ p ∈ l, depV p.2 ≤ 1000000000) (m : AMem)  (K : AV → AMem → Prop) (hT : Tabs m) (hK : K (.bool true) m) : ACalls Tryd.prog 4 [valTop v, valTop o, .str s, .slice false (l.map fldIn)] m K := by
 refine enter (c := cf [] [] [2, 7, 11, 16, 20] [] [] []) (vs := [.av (valTop v), .av (valTop o), .av (.str s), .av (.slice false (l.map fldIn))]) (L := []) (m := m) false tbOk Tryd.mixed Tryd.func4 rfl (k := 4) (by show fnOk [] _ _ _ = true; decide +kernel) rfl (Good.nil m) ?_
 refine callT [] [] (vB true) rfl (fun bs mm gd ht => fun K hK => u_values mm K (Tabs.up ht hT) hK) ?_
 refine sq ?_
 refine mg [2, 3, 4, 5, 9] 43 (((((!true) || (!(decide (weightV 4000 v ≤ 4000)))) || (!(decide (weightV 4000 o ≤ 4000)))) || (decide (200 < (s.length : Int)))) || (decide (12 < (l.length : Int)))) ?_ ?_
 · repeat' first
    | exact ⟨⟨_, rfl, by grind [SB.val]⟩, rfl⟩
    | refine an (fun _ => ?_) (fun _ => ?_)
    | refine call0 (fun _ => u_LightValue v) rfl ?_
    | refine call0 (fun _ => u_LightValue o) rfl ?_
    | refine ln ?_
 refine an (fun h1 => ?_) (fun h1 => ?_)
 · replace h1 : ((((true = false) ∨ (decide (weightV 4000 v ≤ 4000) = false)) ∨ (decide (weightV 4000 o ≤ 4000) = false)) ∨ (200 < (s.length : Int))) ∨ (12 < (l.length : Int)) := ((borT h1).imp (fun q => ((borT q).imp (fun q => ((borT q).imp (fun q => ((borT q).imp (fun q => (bnT q)) (fun q => (bnT q)))) (fun q => (bnT q)))) (fun q => (of_decide_eq_true q)))) (fun q => (of_decide_eq_true q)))
   exact rt0 rfl fun _ => hK
 replace h1 : ((((true = true) ∧ (decide (weightV 4000 v ≤ 4000) = true)) ∧ (decide (weightV 4000 o ≤ 4000) = true)) ∧ ((s.length : Int) ≤ 200)) ∧ ((l.length : Int) ≤ 12) := ⟨⟨⟨⟨(bnF (borL (borL (borL (borL h1))))), (bnF (borR (borL (borL (borL h1)))))⟩, (bnF (borR (borL (borL h1))))⟩, (Int.not_lt.1 (of_decide_eq_false (borR (borL h1))))⟩, (Int.not_lt.1 (of_decide_eq_false (borR h1)))⟩
 refine sq ?_
 refine lp (σ := Int) [] [2, 3, 4, 5, 10] 2 (fun i => ([(2, vS s), (3, vL (l.map fldIn)), (4, .loc 0 0), (5, .loc 1 0), (10, vI i)], [.cells [vI v.kind, vI v.n, vS v.s, vL (v.l.map valIn), vL (v.f.map fldIn)], .cells [vI o.kind, vI o.n, vS o.s, vL (o.l.map valIn), vL (o.f.map fldIn)]], m)) (fun i => 0 ≤ i ∧ i ≤ l.length) (fun i => l.length - i.toNat) (0) ⟨rfl, rfl⟩ ?_ ?_
 · try dsimp only
   first | omega | (refine ⟨?_, ?_⟩ <;> first | omega | simp) | simp
 rintro i hI
 refine sq ?_
 refine ln ?_
 refine an (fun h2 => ?_) (fun h2 => ?_)
 · refine sq ?_
   refine mg [2, 3, 4, 5, 10] 66 ((decide (100 < (((gI l i).1).length : Int))) || (!(decide (weightV 4000 ((gI l i).2) ≤ 4000)))) ?_ ?_
   · repeat' first
      | exact ⟨⟨_, rfl, by grind [SB.val]⟩, rfl⟩
      | refine an (fun _ => ?_) (fun _ => ?_)
      | refine ixg fldTop fldIn_eq (by omega) ?_
      | refine call0 (fun _ => u_LightValue ((gI l i).2)) rfl ?_
   refine an (fun h3 => ?_) (fun h3 => ?_)
   · replace h3 : (100 < (((gI l i).1).length : Int)) ∨ (decide (weightV 4000 ((gI l i).2) ≤ 4000) = false) := ((borT h3).imp (fun q => (of_decide_eq_true q)) (fun q => (bnT q)))
     exact rt0 rfl fun _ => hK
   replace h3 : ((((gI l i).1).length : Int) ≤ 100) ∧ (decide (weightV 4000 ((gI l i).2) ≤ 4000) = true) := ⟨(Int.not_lt.1 (of_decide_eq_false (borL h3))), (bnF (borR h3))⟩
   refine an (by omega) ?_
   refine ⟨(i + 1), ⟨rfl, rfl⟩, ?_, ?_⟩
   · try dsimp only
     (first | omega | (simp_all; done) | (simp_all; omega))
   try dsimp only
   omega
 refine call0 (fun _ => u_Fault v (by omega)) rfl ?_
 refine callT [] [] (.av (.tuple [.str (if chk v = 0 then textV v else []), .err 23 (chk v)])) rfl (fun bs mm gd ht => fun K hK => u_Text v mm K (Tabs.up ht hT) hK) ?_
 refine sq ?_
 refine mg [2, 3, 4, 5] 102 ((((!((chk v) == (chk v))) || (!((chk v) == (chk v)))) || ((decide (0 < chk v)) && (!((if chk v = 0 then textV v else []) == ([]))))) || (((chk v) == 0) && (!((if chk v = 0 then textV v else []) == (textV v))))) ?_ ?_
 · repeat' first
    | exact ⟨⟨_, rfl, by grind [SB.val, textV]⟩, rfl⟩
    | refine an (fun _ => ?_) (fun _ => ?_)
    | refine call0 (fun _ => u_Check v) rfl ?_
    | refine call0 (fun _ => u_same (chk v) (chk v) (by first | exact chk_nn _ | exact recV_nn _)) rfl ?_
    | refine call0 (fun _ => u_RText (depV v + 1) v (Nat.lt_succ_self _) (chk_0 (by assumption)).1 (by have := textV_len (v := v) (by assumption); unfold textV at this; omega)) rfl ?_
 refine an (fun h4 => ?_) (fun h4 => ?_)
 · replace h4 : (((chk v ≠ chk v) ∨ (chk v ≠ chk v)) ∨ ((0 < chk v) ∧ ((if chk v = 0 then textV v else []) ≠ []))) ∨ ((chk v = 0) ∧ ((if chk v = 0 then textV v else []) ≠ textV v)) := ((borT h4).imp (fun q => ((borT q).imp (fun q => ((borT q).imp (fun q => (ne_of_beq_false (bnT q))) (fun q => (ne_of_beq_false (bnT q))))) (fun q => ⟨(of_decide_eq_true (bandL q)), (ne_of_beq_false (bnT (bandR q)))⟩))) (fun q => ⟨(eq_of_beq (bandL q)), (ne_of_beq_false (bnT (bandR q)))⟩))
   exfalso
   rcases h4 with ((h | h) | ⟨h, h2⟩) | ⟨h, h2⟩
   · exact h rfl
   · exact h rfl
   · exact h2 (if_neg (by omega))
   · exact h2 (if_pos h)
 replace h4 : (((chk v = chk v) ∧ (chk v = chk v)) ∧ ((chk v ≤ 0) ∨ ((if chk v = 0 then textV v else []) = []))) ∧ ((chk v ≠ 0) ∨ ((if chk v = 0 then textV v else []) = textV v)) := ⟨⟨⟨(eq_of_beq (bnF (borL (borL (borL h4))))), (eq_of_beq (bnF (borR (borL (borL h4)))))⟩, ((bandF (borR (borL h4))).imp (fun q => (Int.not_lt.1 (of_decide_eq_false q))) (fun q => (eq_of_beq (bnF q))))⟩, ((bandF (borR h4)).imp (fun q => (ne_of_beq_false q)) (fun q => (eq_of_beq (bnF q))))⟩
 refine call0 (fun _ => u_Copy v (okV_small _ v (Nat.lt_succ_self _) (by omega))) rfl ?_
 refine call0 (fun _ => u_Get v s) rfl ?_
 refine call0 (fun _ => u_RGet v s) rfl ?_
 refine sq ?_
 refine mg [3] 167 ((((((((!(vEq v v)) || (!((vEq v o) == (vEq v o)))) || (!(vEq v v))) || (!(((mget v.f s).isSome) == ((mget v.f s).isSome)))) || (!(vEq ((mget v.f s).getD zV) ((mget v.f s).getD zV)))) || (!((nameV s) == (nameV s)))) || (!((sumI s) == (sumI s)))) || (!((quoteV s) == (quoteV s)))) ?_ ?_
 · repeat' first
    | exact ⟨⟨_, rfl, by grind [SB.val]⟩, rfl⟩
    | refine an (fun _ => ?_) (fun _ => ?_)
    | refine pure0 (fun _ => u_RAlike v v) ?_
    | refine pure0 (fun _ => u_Alike v o) ?_
    | refine pure0 (fun _ => u_RAlike v o) ?_
    | refine pure0 (fun _ => u_Alike v v) ?_
    | refine pure0 (fun _ => u_RAlike ((mget v.f s).getD zV) ((mget v.f s).getD zV)) ?_
    | refine pure0 (fun _ => u_VName s (by omega)) ?_
    | refine pure0 (fun _ => u_NameMay s) ?_
    | refine pure0 (fun _ => u_Sum s) ?_
    | refine pure0 (fun _ => u_RSum s) ?_
    | refine pure0 (fun _ => u_Quote s (by omega)) ?_
    | refine pure0 (fun _ => u_RQuoted s (by omega)) ?_
 refine an (fun h5 => ?_) (fun h5 => ?_)
 · replace h5 : (((((((vEq v v = false) ∨ ((vEq v o) ≠ (vEq v o))) ∨ (vEq v v = false)) ∨ (((mget v.f s).isSome) ≠ ((mget v.f s).isSome))) ∨ (vEq ((mget v.f s).getD zV) ((mget v.f s).getD zV) = false)) ∨ ((nameV s) ≠ (nameV s))) ∨ (sumI s ≠ sumI s)) ∨ (quoteV s ≠ quoteV s) := ((borT h5).imp (fun q => ((borT q).imp (fun q => ((borT q).imp (fun q => ((borT q).imp (fun q => ((borT q).imp (fun q => ((borT q).imp (fun q => ((borT q).imp (fun q => (bnT q)) (fun q => (ne_of_beq_false (bnT q))))) (fun q => (bnT q)))) (fun q => (ne_of_beq_false (bnT q))))) (fun q => (bnT q)))) (fun q => (ne_of_beq_false (bnT q))))) (fun q => (ne_of_beq_false (bnT q))))) (fun q => (ne_of_beq_false (bnT q))))
   simp [vEq_refl] at h5
 replace h5 : (((((((vEq v v = true) ∧ ((vEq v o) = (vEq v o))) ∧ (vEq v v = true)) ∧ (((mget v.f s).isSome) = ((mget v.f s).isSome))) ∧ (vEq ((mget v.f s).getD zV) ((mget v.f s).getD zV) = true)) ∧ ((nameV s) = (nameV s))) ∧ (sumI s = sumI s)) ∧ (quoteV s = quoteV s) := ⟨⟨⟨⟨⟨⟨⟨(bnF (borL (borL (borL (borL (borL (borL (borL h5)))))))), (eq_of_beq (bnF (borR (borL (borL (borL (borL (borL (borL h5)))))))))⟩, (bnF (borR (borL (borL (borL (borL (borL h5)))))))⟩, (eq_of_beq (bnF (borR (borL (borL (borL (borL h5)))))))⟩, (bnF (borR (borL (borL (borL h5)))))⟩, (eq_of_beq (bnF (borR (borL (borL h5)))))⟩, (eq_of_beq (bnF (borR (borL h5))))⟩, (eq_of_beq (bnF (borR h5)))⟩
 refine ap fldIn ([]) l rfl rfl (fun a => by rw [fldIn_eq]; exact ⟨rfl, rfl⟩) (by (simp only [List.length_append, List.length_cons, List.length_nil]; omega)) ?_
 refine call0 (fun _ => u_Of l (by omega) (fun p hp => okV_small _ p.2 (Nat.lt_succ_self _) (hl p hp))) rfl ?_
 refine call0 (fun _ => u_Record l (by omega) hl) rfl ?_
 refine mg [] 8 ((((recV l).2) == ((recV l).2)) && (vEq ((recV l).1) ((recV l).1))) ?_ ?_
 · repeat' first
    | exact ⟨⟨_, rfl, by grind [SB.val]⟩, rfl⟩
    | refine an (fun _ => ?_) (fun _ => ?_)
    | refine call0 (fun _ => u_same ((recV l).2) ((recV l).2) (by first | exact chk_nn _ | exact recV_nn _)) rfl ?_
    | refine call0 (fun _ => u_RAlike ((recV l).1) ((recV l).1)) rfl ?_
 refine rt0 rfl fun _ => ?_
 show K (.bool ((((recV l).2) == ((recV l).2)) && (vEq ((recV l).1) ((recV l).1)))) m
 have e : (((recV l).2 == (recV l).2) && vEq (recV l).1 (recV l).1) = true := by rw [vEq_refl]; simp
 rw [e]; exact hK
end Go.Proofs
end
section
namespace Go.Aw
open Go Go.RowKit Go.WideShapes Go.ChangeShapes
theorem RdB.argS {bk : {H : Type} → DataW H → Nat} {P : Program} {t : TypeId} {α : Type} {f : α → AV} {z : α → Nat} {H : Type} {enc : TypeId × Value → H} {W : World} {sp : Nat → Bool} {cs : Array Value} {d : DataW H} {ps : List MemPlace} (hr : ∀ n, RdB bk P n t f z) (hf : ∀ x, ∃ l, f x = .agg l) (hd : DataW.Trod enc P W 0 sp true t (.agg cs) d ps) (hw : ∀ n ∈ d.weights P t, n ≤ reachBytes) :
    ∃ x : α, z x ≤ bk d ∧ Rep W (limOf W) (.agg cs) (f x) [] := by
  obtain ⟨n, hn⟩ := hd
  obtain ⟨x, h0, h1, h2⟩ := hr n H enc W sp _ d ps hn hw
  obtain ⟨l, e⟩ := hf x
  refine ⟨x, h0, ?_⟩
  rw [e] at h1 h2 ⊢
  simp only [AV.cells] at h1 h2
  have hl : cs.size = l.length := by simpa [Value.cells] using h1.symm
  have := Rep.agg (w := W) (lim := limOf W) cs l (fun _ => []) hl (fun i hi => by
    have := h2 i (by simpa [Value.cells, hl] using hi)
    simpa [Value.cells, List.getD_eq_getElem?_getD, Array.getD_eq_getD_getElem?] using this)
  rwa [flatMap_nil] at this
end Go.Aw
namespace Go.Proofs
open Go Go.Aw Go.RowKit Go.WideShapes Go.ChangeShapes
set_option maxRecDepth 100000
theorem valIn_agg (v : Val) : ∃ l, valIn v = .agg l := ⟨_, valIn_eq v⟩
theorem valIn_len (v : Val) : (valIn v).cells.length = 5 := by cases v; rfl
theorem fldIn_len (v : Str × Val) : (fldIn v).cells.length = 6 := by
  obtain ⟨s, v⟩ := v
  cases v; rfl
section
variable {bk : {H : Type} → DataW H → Nat} {bkA : {H : Type} → List (DataW H) → Nat}
theorem sum_depL (l : List Val) : (l.map depV).sum = depL l := by
  induction l with
  | nil => rfl
  | cons v r ih => rw [List.map_cons, List.sum_cons, ih]; rfl
theorem sum_depF (l : List (Str × Val)) : (l.map fun p => depV p.2).sum = depF l := by
  induction l with
  | nil => rfl
  | cons p r ih =>
    obtain ⟨s, v⟩ := p
    cases v with
    | mk k n t l f => rw [List.map_cons, List.sum_cons, ih]; rfl
theorem rdB_fld {n : Nat} (hB : BulkOk bk bkA) (ih : ∀ k, k < n → RdB bk Tryd.prog k 34 valIn depV) : RdB bk Tryd.prog n 37 fldIn (fun p => depV p.2) := by
  intro H enc W sp cs d ps h hw
  obtain ⟨hl, p, hp, hf⟩ := rdB_fields hB Tryd.underlying37 h hw
  obtain ⟨s, _, _, _, _, hs⟩ := hf 0 _ strAV (fun _ => 0) rfl (fun _ _ => (rd_string (by rfl)).toB) (by decide)
  obtain ⟨v, dv, h1, h2, _, hv⟩ := hf 1 _ valIn depV rfl (fun k hk => ih k hk) (by decide)
  have h3 := hB.at h1
  refine ⟨(s, v), by simp only; omega, by rw [fldIn_len, hl]; rfl, fun i hi => ?_⟩
  rw [hl] at hi
  replace hi : i < 6 := hi
  cases v with
  | mk k n t l f =>
    match i, hi with
    | 0, _ => exact hs 0 (by decide)
    | 1, _ => exact hv 0 (by decide)
    | 2, _ => exact hv 1 (by decide)
    | 3, _ => exact hv 2 (by decide)
    | 4, _ => exact hv 3 (by decide)
    | 5, _ => exact hv 4 (by decide)
theorem rdB_val (hB : BulkOk bk bkA) (n : Nat) : RdB bk Tryd.prog n 34 valIn depV := by
  induction n using Nat.strongRecOn with
  | ind n ih =>
    intro H enc W sp cs d ps h hw
    obtain ⟨hl, p, hp, hf⟩ := rdB_fields hB Tryd.underlying34 h hw
    obtain ⟨k, _, _, _, _, hk⟩ := hf 0 _ intAV (fun _ => 0) rfl (fun _ _ => (rd_int (by rfl)).toB) (by decide)
    obtain ⟨m, _, _, _, _, hm⟩ := hf 1 _ intAV (fun _ => 0) rfl (fun _ _ => (rd_int (by rfl)).toB) (by decide)
    obtain ⟨s, _, _, _, _, hs⟩ := hf 2 _ strAV (fun _ => 0) rfl (fun _ _ => (rd_string (by rfl)).toB) (by decide)
    obtain ⟨l, dl, l1, l2, _, hll⟩ := hf 3 _ (lstAV valIn) _ rfl (fun j hj => rdB_slice hB (by rfl) (by rfl) (by decide) (by decide) valIn_len (fun i hi => ih i (by omega))) (by decide)
    obtain ⟨f, df, f1, f2, _, hff⟩ := hf 4 _ (lstAV fldIn) _ rfl (fun j hj => rdB_slice hB (by rfl) (by rfl) (by decide) (by decide) fldIn_len (fun i hi => rdB_fld hB (fun q hq => ih q (by omega)))) (by decide)
    have h3 := hB.two (by decide) l1 f1
    replace l2 : (l.map depV).sum ≤ bk dl := l2
    replace f2 : (f.map fun p => depV p.2).sum ≤ bk df := f2
    rw [sum_depL] at l2
    rw [sum_depF] at f2
    replace h3 : bk dl + bk df ≤ bkA p := h3
    have h4 : depL l + depF f + 1 ≤ bk d := by omega
    refine ⟨.mk k m s l f, by rw [depV]; exact h4, by rw [valIn_len, hl]; rfl, fun i hi => ?_⟩
    rw [hl] at hi
    replace hi : i < 5 := hi
    rw [valIn_eq]
    match i, hi with
    | 0, _ => exact hk 0 (by decide)
    | 1, _ => exact hm 0 (by decide)
    | 2, _ => exact hs 0 (by decide)
    | 3, _ => exact hll 0 (by decide)
    | 4, _ => exact hff 0 (by decide)
theorem mem_sum {α : Type} (z : α → Nat) {l : List α} {a : α} (h : a ∈ l) : z a ≤ (l.map z).sum := by
  induction l with
  | nil => cases h
  | cons b r ih =>
    rw [List.map_cons, List.sum_cons]
    rcases List.mem_cons.1 h with rfl | h
    · omega
    · have := ih h; omega
end
theorem okT_valN : ∀ (n : Nat) (v : Val), depV v < n → OkT (valIn v)
  | 0, _, h => absurd h (Nat.not_lt_zero _)
  | n + 1, v, h => by
    have e := depV_eq v
    rw [valIn_eq, valTop]
    have hl : ∀ w ∈ v.l, OkT (valIn w) := fun w hw => okT_valN n w (by have := depL_mem hw; omega)
    have hf : ∀ p ∈ v.f, OkT (fldIn p) := fun p hp => by
      have h2 := okT_valN n p.2 (by have := depF_mem hp; omega)
      rw [valIn_eq, valTop] at h2
      cases h2 with
      | agg _ h3 =>
        rw [fldIn_eq, fldTop]
        refine .agg _ fun y hy => ?_
        rcases List.mem_cons.1 hy with rfl | hy
        · exact .str _
        · exact h3 y hy
    refine .agg _ fun y hy => ?_
    simp only [List.mem_cons, List.not_mem_nil, or_false] at hy
    rcases hy with rfl | rfl | rfl | rfl | rfl
    · exact .int _ _ (by decide)
    · exact .int _ _ (by decide)
    · exact .str _
    · refine .slice _ (fun x hx => ?_) fun x hx y hy => ?_
      · obtain ⟨w, _, rfl⟩ := List.mem_map.1 hx
        exact fun e => by have := valIn_len w; rw [e] at this; cases this
      · obtain ⟨w, hw, rfl⟩ := List.mem_map.1 hx
        have h2 := hl w hw
        rw [valIn_eq, valTop] at h2
        rw [valIn_eq, valTop] at hy
        cases h2 with
        | agg _ h3 => exact h3 y hy
    · refine .slice _ (fun x hx => ?_) fun x hx y hy => ?_
      · obtain ⟨p, _, rfl⟩ := List.mem_map.1 hx
        exact fun e => by have := fldIn_len p; rw [e] at this; cases this
      · obtain ⟨p, hp, rfl⟩ := List.mem_map.1 hx
        have h2 := hf p hp
        rw [fldIn_eq, fldTop] at h2
        rw [fldIn_eq, fldTop] at hy
        cases h2 with
        | agg _ h3 => exact h3 y hy
theorem okT_val (v : Val) : OkT (valIn v) := okT_valN _ v (Nat.lt_succ_self _)
theorem okT_fld (p : Str × Val) : OkT (fldIn p) := by
  have h2 := okT_val p.2
  rw [valIn_eq, valTop] at h2
  cases h2 with
  | agg _ h3 =>
    rw [fldIn_eq, fldTop]
    refine .agg _ fun y hy => ?_
    rcases List.mem_cons.1 hy with rfl | hy
    · exact .str _
    · exact h3 y hy
theorem okT_flds (l : List (Str × Val)) : OkT (lstAV fldIn l) := by
  refine .slice _ (fun x hx => ?_) fun x hx y hy => ?_
  · obtain ⟨p, _, rfl⟩ := List.mem_map.1 hx
    exact fun e => by have := fldIn_len p; rw [e] at this; cases this
  · obtain ⟨p, hp, rfl⟩ := List.mem_map.1 hx
    have h2 := okT_fld p
    rw [fldIn_eq, fldTop] at h2
    rw [fldIn_eq, fldTop] at hy
    cases h2 with
    | agg _ h3 => exact h3 y hy
end Go.Proofs
end
