/-
  Values and acts that a law is handed read as typed data.
-/
import Derived.Test.YtkgpejbkiacbmaaDoorLk5
import Derived.Test.YtkgpejbkiacbmaaDoorProg
import Derived.Test.YtkgpejbkiacbmaaDoorWl2
import Derived.Test.YtkgpejbkiacbmaaDoorWyA
import Derived.Test.YtkgpejbkiacbmaaDoorWxf
import Derived.Test.YtkgpejbkiacbmaaDoorWzH
section
namespace Go.Proofs
open Go Go.Aw Go.Sx
set_option maxRecDepth 100000
theorem lt_irr (a : Str) : ¬ a < a := List.lt_irrefl a
theorem lt_tri {a b : Str} (h1 : ¬ a < b) (h2 : a ≠ b) : b < a := by
  rcases Classical.em (b < a) with h | h
  · exact h
  · exact absurd (List.le_antisymm (show a ≤ b from h) (show b ≤ a from h1)) h2
abbrev SrtS (l : List Str) : Prop := l.Pairwise (· < ·)
structure SetOf (l s : List Str) : Prop where
  srt : SrtS s
  mem : ∀ x, x ∈ s ↔ x ∈ l
theorem srt_uniq : ∀ {a b : List Str}, SrtS a → SrtS b → (∀ x, x ∈ a ↔ x ∈ b) → a = b
  | [], [], _, _, _ => rfl
  | [], y :: b, _, _, h => absurd ((h y).2 (List.mem_cons_self ..)) (by simp)
  | x :: a, [], _, _, h => absurd ((h x).1 (List.mem_cons_self ..)) (by simp)
  | x :: a, y :: b, ha, hb, h => by
    have h1 := List.pairwise_cons.1 ha
    have h2 := List.pairwise_cons.1 hb
    have e : x = y := by
      rcases List.mem_cons.1 ((h x).1 (List.mem_cons_self ..)) with e | hx
      · exact e
      · rcases List.mem_cons.1 ((h y).2 (List.mem_cons_self ..)) with e | hy
        · exact e.symm
        · exact absurd (List.lt_trans (h1.1 y hy) (h2.1 x hx)) (lt_irr x)
    subst e
    rw [srt_uniq h1.2 h2.2 fun z => ⟨fun hz => ?_, fun hz => ?_⟩]
    · rcases List.mem_cons.1 ((h z).1 (List.mem_cons_of_mem _ hz)) with e | h3
      · subst e; exact absurd (h1.1 z hz) (lt_irr z)
      · exact h3
    · rcases List.mem_cons.1 ((h z).2 (List.mem_cons_of_mem _ hz)) with e | h3
      · subst e; exact absurd (h2.1 z hz) (lt_irr z)
      · exact h3
theorem compact_srt {d : Array Str} (hd : ∀ i j, i ≤ j → j < d.size → d[i]! ≤ d[j]!) : ∀ m, m ≤ d.size → SrtS (Lib.compactUpTo d m) ∧ (∀ x ∈ Lib.compactUpTo d m, ∀ j, m ≤ j + 1 → j < d.size → x ≤ d[j]!) ∧ ∀ i, i < m → d[i]! ∈ Lib.compactUpTo d m
  | 0, _ => ⟨by simp [Lib.compactUpTo], by simp [Lib.compactUpTo], fun i hi => absurd hi (Nat.not_lt_zero _)⟩
  | m + 1, hm => by
    obtain ⟨h1, h2, h3⟩ := compact_srt hd m (by omega)
    rw [Lib.compactUpTo_succ]
    have hle : ∀ x ∈ Lib.compactUpTo d m, x ≤ d[m]! := fun x hx => h2 x hx m (by omega) (by omega)
    cases hk : Lib.keeps d m with
    | true =>
      rw [if_pos rfl]
      refine ⟨List.pairwise_append.2 ⟨h1, by simp, fun x hx y hy => ?_⟩, fun x hx j hj hj2 => ?_, fun i hi => ?_⟩
      · rw [List.mem_singleton.1 hy]
        rcases Nat.eq_zero_or_pos m with h0 | h0
        · subst h0; simp [Lib.compactUpTo] at hx
        · have hne : d[m]! ≠ d[m - 1]! := by
            intro e
            rw [Lib.keeps_neg h0 e] at hk; cases hk
          have q1 := h2 x hx (m - 1) (by omega) (by omega)
          have q2 := hd (m - 1) m (by omega) (by omega)
          have q3 : d[m - 1]! < d[m]! := lt_tri (fun h => q2 h) hne
          rcases Classical.em (x < d[m]!) with h | h
          · exact h
          · exact absurd (List.le_antisymm (hle x hx) h) (fun e => by rw [e] at q1; exact q1 q3)
      · rcases List.mem_append.1 hx with hx | hx
        · exact h2 x hx j (by omega) hj2
        · rw [List.mem_singleton.1 hx]; exact hd m j (by omega) hj2
      · rcases Nat.lt_or_ge i m with h | h
        · exact List.mem_append_left _ (h3 i h)
        · have : i = m := by omega
          subst this; exact List.mem_append_right _ (List.mem_cons_self ..)
    | false =>
      rw [if_neg (by simp), List.append_nil]
      refine ⟨h1, fun x hx j hj hj2 => h2 x hx j (by omega) hj2, fun i hi => ?_⟩
      rcases Nat.lt_or_ge i m with h | h
      · exact h3 i h
      · have e : i = m := by omega
        subst e
        rcases Nat.eq_zero_or_pos i with h0 | h0
        · subst h0; simp [Lib.keeps] at hk
        · have hq : d[i]! = d[i - 1]! := by
            rcases Classical.em (d[i]! = d[i - 1]!) with h | h
            · exact h
            · rw [Lib.keeps_pos h] at hk; cases hk
          rw [hq]; exact h3 (i - 1) (by omega)
theorem sortL_srt (l : List Str) : (sortL l).Pairwise fun a b => a ≤ b := by
  have to : ∀ a b : Str, (decide (a ≤ b) || decide (b ≤ a)) = true := fun a b => by
    rcases List.le_total a b with h | h <;> simp [h]
  have tr : ∀ a b c : Str, decide (a ≤ b) = true → decide (b ≤ c) = true → decide (a ≤ c) = true := fun a b c h1 h2 => by
    simp only [decide_eq_true_eq] at *; exact List.le_trans h1 h2
  exact (List.pairwise_mergeSort tr to l).imp fun h => of_decide_eq_true h
theorem ordL_set (l : List Str) : SetOf l (ordL l) := by
  have hs := List.pairwise_iff_getElem.1 (sortL_srt l)
  have hd : ∀ i j, i ≤ j → j < (sortL l).toArray.size → (sortL l).toArray[i]! ≤ (sortL l).toArray[j]! := fun i j hij hj => by
    have hj' : j < (sortL l).length := by simpa using hj
    have hi' : i < (sortL l).length := by omega
    have e1 : (sortL l).toArray[i]! = (sortL l)[i] := by simp [getElem!_def, hi']
    have e2 : (sortL l).toArray[j]! = (sortL l)[j] := by simp [getElem!_def, hj']
    rw [e1, e2]
    rcases Nat.lt_or_eq_of_le hij with h | h
    · exact hs i j hi' hj' h
    · subst h; exact List.le_refl _
  obtain ⟨h1, _, h3⟩ := compact_srt hd (sortL l).length (by simp)
  refine ⟨h1, fun x => ⟨ordL_mem, fun hx => ?_⟩⟩
  have hx2 : x ∈ sortL l := (sortL_perm l).mem_iff.2 hx
  obtain ⟨i, hi, rfl⟩ := List.getElem_of_mem hx2
  have := h3 i hi
  rwa [show (sortL l).toArray[i]! = (sortL l)[i] from by simp [getElem!_def, hi]] at this
theorem set_ord {l s : List Str} (h : SetOf l s) : s = ordL l :=
  srt_uniq h.srt (ordL_set l).srt fun x => (h.mem x).trans ((ordL_set l).mem x).symm
structure SwS (base : List Str) (x : Str) (ys : List Str) (n : Nat) (k : Int) : Prop where
  h : ∃ A B, ys.take n = A ++ x :: B ∧ A.length = k.toNat ∧ A ++ B = base ∧ ∀ y ∈ B, x < y
end Go.Proofs
end
section
namespace Go.Proofs
open Go Go.Aw Go.Sx
set_option maxRecDepth 100000
theorem ordL_one (x : Str) : ordL [x] = [x] :=
  (set_ord (l := [x]) (s := [x]) ⟨List.pairwise_singleton .., fun _ => Iff.rfl⟩).symm
theorem lightF_names {size : Int} : ∀ {l : List ActT} {n : Int}, lightF size l n = true → ∀ a ∈ l, a.names.length ≤ 12
  | [], _, _, a, ha => by cases ha
  | x :: r, n, h, a, ha => by
    rw [lightF] at h
    split at h
    · cases h
    · rename_i c
      rcases List.mem_cons.1 ha with rfl | ha
      · omega
      · exact lightF_names h a ha
theorem lightA_names {size most : Int} {l : List ActT} (h : lightA l most size = true) : ∀ a ∈ l, a.names.length ≤ 12 := by
  unfold lightA at h
  split at h
  · cases h
  · exact lightF_names h
theorem take_one {n : Str} {w : Int} {av : Int → Bool} (hn : nameV n = true) (h0 : 0 ≤ w) (h3 : w ≤ 3) : takeR [] w av [n] = ([(n, Lib.itoa w)], 0) := by
  have e : ownR [] n = (0, false, 0) := by rw [ownR, if_neg (by rw [hn]; simp), if_pos (show (mget [] n).isSome = false from rfl)]
  have q : takeE [] w av [n] = 0 := by rw [takeE, e, if_neg (by simp), if_neg (by simp)]; rfl
  rw [takeR, if_neg (by omega), ordL_one, q, if_neg (by simp)]; rfl
theorem takeR_len (M : List (Str × Str)) (who : Int) (av : Int → Bool) (l : List Str) : (takeR M who av l).1.length ≤ M.length + l.length := by
  unfold takeR
  split
  · simp
  · split
    · simp
    · have h1 := lkF_len who (ordL l) M
      have h2 := ordL_len l
      show (lkF who M (ordL l)).length ≤ _
      omega
theorem unlF_len (who : Int) : ∀ (l : List Str) (M : List (Str × Str)), (unlF who M l).length ≤ M.length
  | [], _ => Nat.le_refl _
  | n :: r, M => by
    have h1 := unlF_len who r (if (mget M n).getD [] = Lib.itoa who then mdel M n else M)
    have h2 := (mdel_sub M n).length_le
    rw [unlF]
    split at h1 <;> rename_i c
    · rw [if_pos c]; omega
    · rw [if_neg c]; exact h1
theorem unlR_len (M : List (Str × Str)) (who : Int) (l : List Str) : (unlR M who l).1.length ≤ M.length := by
  unfold unlR
  split
  · exact Nat.le_refl _
  · split
    · exact Nat.le_refl _
    · exact unlF_len who l M
abbrev d0 : DSt := ⟨[], [], [], -1, false, 0⟩
theorem dObj3 {bs : List Nat} {n : Nat} (d nb kb : Nat) (h : bs.length = n) : Go.Sx.denO (bs ++ [kb] ++ [nb] ++ [d]) (.cells [.mp n, .mp (n + 1), .own ([].map chgAV), vI (-1), vB false, vI 0]) = dObj kb nb d0 := by
  have hg := get3 (x := kb) (y := nb) (z := d) h
  simp only [Go.Sx.denO, Go.Sx.denL, Go.Sx.den, hg.1, hg.2.1]
  rfl
end Go.Proofs
end
section
namespace Go.Proofs
open Go Go.Aw Go.Sx
set_option maxRecDepth 100000
structure LH (M : List (Str × Str)) (H : List (Str × Int)) : Prop where
  nm : (M.map Prod.fst).Nodup
  vm : ∀ p ∈ M, nameV p.1 = true
  nd : (H.map Prod.fst).Nodup
  eq : ∀ n, mget M n = (mget H n).map Lib.itoa
  rg : ∀ n v, mget H n = some v → 0 ≤ v ∧ v ≤ 3
theorem itoa_inj4 {a b : Int} (ha : 0 ≤ a ∧ a ≤ 3) (hb : 0 ≤ b ∧ b ≤ 3) (h : Lib.itoa a = Lib.itoa b) : a = b := by
  have q := itoa_4
  have h1 : a = 0 ∨ a = 1 ∨ a = 2 ∨ a = 3 := by omega
  have h2 : b = 0 ∨ b = 1 ∨ b = 2 ∨ b = 3 := by omega
  rcases h1 with rfl | rfl | rfl | rfl <;> rcases h2 with rfl | rfl | rfl | rfl <;> simp [q] at h ⊢
theorem itoa_ne4 {a : Int} (ha : 0 ≤ a ∧ a ≤ 3) : Lib.itoa a ≠ [] := by
  have q := itoa_4
  have h1 : a = 0 ∨ a = 1 ∨ a = 2 ∨ a = 3 := by omega
  rcases h1 with rfl | rfl | rfl | rfl <;> simp [q]
theorem LH.len {M : List (Str × Str)} {H : List (Str × Int)} (h : LH M H) : M.length = H.length := by
  have hp : (M.map Prod.fst).Perm (H.map Prod.fst) := (List.perm_ext_iff_of_nodup h.nm h.nd).2 fun n => by
    have h1 := (not_congr (mget_noneG (l := M) (k := n)))
    have h2 := (not_congr (mget_noneG (l := H) (k := n)))
    rw [Classical.not_not] at h1 h2
    rw [← h1, ← h2, h.eq n]; simp
  have := hp.length_eq
  simpa using this
theorem LH.own {M : List (Str × Str)} {H : List (Str × Int)} (h : LH M H) {n : Str} {v : Int} (e : mget H n = some v) : nameV n = true ∧ ownR M n = (v, true, 0) := by
  have e1 := h.eq n
  rw [e] at e1
  replace e1 : mget M n = some (Lib.itoa v) := e1
  have hn := h.vm _ (mget_memG e1)
  have hr := h.rg n v e
  refine ⟨hn, ?_⟩
  rw [ownR, if_neg (by rw [show nameV n = true from hn]; simp), e1, if_neg (by simp)]
  exact ownT_hit hr.1 (by omega) rfl
theorem takeE_free {M : List (Str × Str)} {who : Int} {av : Int → Bool} : ∀ {l : List Str}, takeE M who av l = 0 → ∀ n ∈ l, (ownR M n).2.1 = true → (ownR M n).1 ≠ who → av (ownR M n).1 = false
  | [], _, n, hn => by cases hn
  | x :: r, h, n, hn => by
    intro h1 h2
    rw [takeE] at h
    split at h
    · rename_i c; exact absurd h c
    · split at h
      · cases h
      · rename_i c
        rcases List.mem_cons.1 hn with rfl | hn
        · cases e : av (ownR M n).1
          · rfl
          · exact absurd ⟨⟨h1, h2⟩, e⟩ c
        · exact takeE_free h n hn h1 h2
theorem takeR_zero {M : List (Str × Str)} {who : Int} {av : Int → Bool} {l : List Str} (h : (takeR M who av l).2 = 0) : (0 ≤ who ∧ who ≤ 3) ∧ takeE M who av (ordL l) = 0 ∧ (takeR M who av l).1 = lkF who M (ordL l) := by
  unfold takeR at h ⊢
  split at h
  · cases h
  · rename_i c
    split at h
    · rename_i c2; exact absurd h c2
    · rename_i c2
      rw [if_neg c, if_neg c2]
      exact ⟨by omega, by simpa using c2, rfl⟩
theorem takeR_no {M : List (Str × Str)} {who : Int} {av : Int → Bool} {l : List Str} (h : (takeR M who av l).2 ≠ 0) : (takeR M who av l).1 = M := by
  unfold takeR at h ⊢
  split at h
  · rename_i c; rw [if_pos c]
  · rename_i c
    split at h
    · rename_i c2; rw [if_neg c, if_pos c2]
    · exact absurd rfl h
theorem LH.free {M : List (Str × Str)} {H : List (Str × Int)} (h : LH M H) {who : Int} {av : Int → Bool} {l : List Str} (h0 : (takeR M who av l).2 = 0) {n : Str} (hn : n ∈ l) (hs : (mget H n).isSome = true) (hw : (mget H n).getD 0 ≠ who) : av ((mget H n).getD 0) = false := by
  obtain ⟨v, e⟩ := Option.isSome_iff_exists.1 hs
  have h1 := h.own e
  rw [e] at hw ⊢
  have := takeE_free (takeR_zero h0).2.1 n (((ordL_set l).mem n).2 hn)
  rw [h1.2] at this
  exact this rfl hw
theorem mget_lkF (who : Int) : ∀ (l : List Str) (M : List (Str × Str)) (n : Str), mget (lkF who M l) n = if n ∈ l then some (Lib.itoa who) else mget M n
  | [], _, _ => by simp [lkF]
  | x :: r, M, n => by
    have h := mget_lkF who r (mput M x (Lib.itoa who)) n
    rw [lkF] at h
    rw [lkF, List.foldl_cons, h, mget_mputG]
    by_cases h1 : n ∈ r
    · simp [h1]
    · by_cases h2 : x = n
      · subst h2; simp
      · simp [h1, h2, Ne.symm h2]
def putF (who : Int) (H : List (Str × Int)) (l : List Str) : List (Str × Int) := l.foldl (fun H n => mput H n who) H
theorem putF_step {who : Int} {H : List (Str × Int)} {l : List Str} {i : Int} (h0 : 0 ≤ i) (hi : i < l.length) : putF who H (l.take (i + 1).toNat) = mput (putF who H (l.take i.toNat)) (gI l i) who := by
  rw [take_succ_gI h0 hi, putF, List.foldl_append]; rfl
theorem putF_len (who : Int) : ∀ (l : List Str) (H : List (Str × Int)), (putF who H l).length ≤ H.length + l.length
  | [], _ => Nat.le_refl _
  | n :: r, H => by
    have h1 := putF_len who r (mput H n who)
    have h2 := mput_len H n who
    rw [putF] at h1
    rw [putF, List.foldl_cons, List.length_cons]; omega
theorem mget_putF (who : Int) : ∀ (l : List Str) (H : List (Str × Int)) (n : Str), mget (putF who H l) n = if n ∈ l then some who else mget H n
  | [], _, _ => by simp [putF]
  | x :: r, H, n => by
    have h := mget_putF who r (mput H x who) n
    rw [putF] at h
    rw [putF, List.foldl_cons, h, mget_mputG]
    by_cases h1 : n ∈ r
    · simp [h1]
    · by_cases h2 : x = n
      · subst h2; simp
      · simp [h1, h2, Ne.symm h2]
theorem putF_nd (who : Int) : ∀ (l : List Str) {H : List (Str × Int)}, (H.map Prod.fst).Nodup → ((putF who H l).map Prod.fst).Nodup
  | [], _, h => h
  | n :: r, H, h => putF_nd who r (mput_ndG h)
theorem LH.take {N : Nat} {s : DSt} {M : List (Str × Str)} {H : List (Str × Int)} (h : LH M H) {who : Int} {av : Int → Bool} {l : List Str} (h0 : (takeR M who av l).2 = 0) (hl : Lk N s (takeR M who av l).1) : LH (takeR M who av l).1 (putF who H l) := by
  obtain ⟨h1, h2, h3⟩ := takeR_zero h0
  refine ⟨hl.nd, hl.v, putF_nd who l h.nd, fun n => ?_, fun n v e => ?_⟩
  · rw [h3, mget_lkF, mget_putF, h.eq n]
    have hm := (ordL_set l).mem n
    by_cases c : n ∈ l
    · rw [if_pos c, if_pos (hm.2 c)]; rfl
    · rw [if_neg c, if_neg (fun q => c (hm.1 q))]
  · rw [mget_putF] at e
    split at e
    · cases e; exact h1
    · exact h.rg n v e
theorem unlR_zero {M : List (Str × Str)} {who : Int} {l : List Str} (h : (unlR M who l).2 = 0) : (0 ≤ who ∧ who ≤ 3) ∧ (unlR M who l).1 = unlF who M l := by
  unfold unlR at h ⊢
  split at h
  · cases h
  · rename_i c
    split at h
    · rename_i c2; exact absurd h c2
    · rename_i c2
      rw [if_neg c, if_neg c2]
      exact ⟨by omega, rfl⟩
theorem unlR_no {M : List (Str × Str)} {who : Int} {l : List Str} (h : (unlR M who l).2 ≠ 0) : (unlR M who l).1 = M := by
  unfold unlR at h ⊢
  split at h
  · rename_i c; rw [if_pos c]
  · rename_i c
    split at h
    · rename_i c2; rw [if_neg c, if_pos c2]
    · exact absurd rfl h
theorem LH.give {M : List (Str × Str)} {H : List (Str × Int)} (h : LH M H) {who : Int} (hw : 0 ≤ who ∧ who ≤ 3) (n : Str) :
    LH (if (mget M n).getD [] = Lib.itoa who then mdel M n else M) (if (mget H n).isSome = true ∧ (mget H n).getD 0 = who then mdel H n else H) := by
  have hq : (mget M n).getD [] = Lib.itoa who ↔ ((mget H n).isSome = true ∧ (mget H n).getD 0 = who) := by
    rw [h.eq n]
    cases e : mget H n with
    | none => simp [Ne.symm (itoa_ne4 hw)]
    | some v => 
      simp only [Option.map_some, Option.getD_some, Option.isSome_some, true_and]
      exact ⟨fun q => itoa_inj4 (h.rg n v e) hw q, fun q => by rw [q]⟩
  by_cases c : (mget M n).getD [] = Lib.itoa who
  · rw [if_pos c, if_pos (hq.1 c)]
    refine ⟨mdel_nd h.nm, fun p hp => h.vm p ((mdel_sub M n).subset hp), mdel_ndG h.nd, fun k => ?_, fun k v e => ?_⟩
    · rw [mget_mdelG h.nm, mget_mdelG h.nd, h.eq k]; split <;> rfl
    · rw [mget_mdelG h.nd] at e
      split at e
      · cases e
      · exact h.rg k v e
  · rw [if_neg c, if_neg fun q => c (hq.2 q)]; exact h
theorem LH.key {N : Nat} {s : DSt} {M : List (Str × Str)} {H : List (Str × Int)} (h : LH M H) (_hl : Lk N s M) {k : Int} (h0 : 0 ≤ k) (hk : k < (sortL (M.map Prod.fst)).length) : ∃ v, mget H (gI (sortL (M.map Prod.fst)) k) = some v ∧ ownR M (gI (sortL (M.map Prod.fst)) k) = (v, true, 0) := by
  have hm := (sortL_perm _).mem_iff.1 (gI_mem h0 hk)
  generalize gI (sortL (M.map Prod.fst)) k = n at hm ⊢
  have h1 := h.eq n
  cases e : mget H n with
  | none =>
    rw [e] at h1
    exact absurd hm (mget_noneG.1 h1)
  | some v => exact ⟨v, rfl, (h.own e).2⟩
theorem LH.first {N : Nat} {s : DSt} {n : Str} (h : Lk N s [(n, Lib.itoa 0)]) : LH [(n, Lib.itoa 0)] (mput [] n 0) := by
  refine ⟨h.nd, h.v, by simp [mput], fun k => ?_, fun k v e => ?_⟩
  · by_cases c : n = k
    · subst c; simp [mget, mput]
    · simp [mget, mput, c]
  · rw [mget_mputG] at e
    split at e
    · cases e; exact ⟨by decide, by decide⟩
    · simp [mget] at e
def neF (dead n : Int) : Bool := !(n == dead)
theorem neF_f {d n : Int} (h : neF d n = false) : n = d := by
  simpa [neF] using h
theorem mpSI : Go.Sx.MpOk tb 54 9 3 .string (intAV 0) := ⟨⟨rfl, rfl⟩, rfl, ⟨trivial, rfl⟩⟩
theorem u_alwaysC (n : Int)  (m : AMem)  (K : AV → AMem → Prop) (hK : K (.bool ((fun _ => true) n)) m) : ACalls Tryd.prog 21 [.int .i64 n] m K := by
 refine enter (c := cf [] [] [] [] [] []) (vs := [.av (.int .i64 n)]) (L := []) (m := m) false tbOk Tryd.mixed Tryd.func21 rfl (k := 1) (by show fnOk [] _ _ _ = true; decide +kernel) rfl (Good.nil m) ?_
 exact rt0 rfl fun _ => hK
theorem u_aliveD (n dead : Int) (p1 : Nat)  (m : AMem) (gd : Gd [p1] m) (K : AV → AMem → Prop) (hK : K (.bool (neF dead n)) (AMem.wth m [(p1, .cells [.int .i64 dead])])) : ACalls Tryd.prog 22 [.int .i64 n, .ptr ⟨p1, 0, none⟩] (AMem.wth m [(p1, .cells [.int .i64 dead])]) K := by
 refine enter (c := cf [] [] [] [] [] [p1]) (vs := [.av (.int .i64 n), .loc 0 0]) (L := [.cells [vI dead]]) (m := m) false tbOk Tryd.mixed Tryd.func22 rfl (k := 2) (by show fnOk [] _ _ _ = true; decide +kernel) rfl (gd.good rfl) ?_
 have e0 : neF dead n = ((!(n == dead)) : Bool) := by
  rfl
 rw [e0] at hK
 exact rt rfl fun _ => hK
set_option maxHeartbeats 4000000 in
theorem u_TakeC (d nb kb : Nat) (s : DSt) (M : List (Str × Str)) (N : Nat) (who : Int) (l : List Str)  (hL : Lk N s M) (hNN : N + l.length + 1 ≤ 100000) (hR : M.length + l.length ≤ 40) (m : AMem) (gd : Gd [d, nb, kb] m) (K : AV → AMem → Prop) (hT : Tabs m) (hK : ∀ s1, Lk (N + l.length + 1) s1 (takeR M who ((fun _ => true)) l).1 → K (.err 60 (takeR M who ((fun _ => true)) l).2) (AMem.wth m [(d, dObj kb nb s1), (nb, mObj s1.now), (kb, mObj s1.kept)])) : ACalls Tryd.prog 10 [.ptr ⟨d, 0, none⟩, .int .i64 who, .slice false (l.map strAV), .func (.func 21) [] []] (AMem.wth m [(d, dObj kb nb s), (nb, mObj s.now), (kb, mObj s.kept)]) K := by
 have hod := ordL_len l
 refine enter (c := cf [] [0, 4] [13] [] [7] [d, nb, kb]) (vs := [.loc 0 0, .av (.int .i64 who), .av (.slice false (l.map strAV)), .fn 21 [] []]) (L := [.cells [.mp 2, .mp 1, .own (s.wait.map chgAV), vI s.fuse, vB s.down, vI s.steps], .obj (mObj s.now), .obj (mObj s.kept)]) (m := m) true tbOk Tryd.mixed Tryd.func10 rfl (k := 4) (by show fnOk [] _ _ _ = true; decide +kernel) rfl (gd.good rfl) ?_
 refine ⟨fun F0 => ?_⟩
 have hbd2_0 : l.length ≤ 140737488355328 := bd_map (o := false) (F0 2).1
 refine call0 (fun _ => u_owner who) rfl ?_
 refine sq ?_
 refine an (fun h1 => ?_) (fun h1 => ?_)
 · refine ⟨fun _ => ?_⟩
   rcases Classical.em (l = []) with hnil | hnil
   · refine call0 (fun _ => u_CloneE l hnil) rfl ?_
     refine call0 (fun _ => u_SortJ0) rfl ?_
     refine call0 (fun _ => u_CompactE l hnil) rfl ?_
     refine sq ?_
     refine cv0 ?_
     refine ln ?_
     refine lp (σ := Int) [] [0, 1, 3, 10, 29, 30, 31] 3 (fun i => ([(0, .loc 0 0), (1, vI who), (3, .fn 21 [] []), (10, vL ((ordL l).map strAV)), (29, vL ((ordL l).map strAV)), (30, vI ((ordL l).length : Int)), (31, vI i)], [.cells [.mp 2, .mp 1, .own (s.wait.map chgAV), vI s.fuse, vB s.down, vI s.steps], .obj (mObj s.now), .obj (mObj s.kept)], m)) (fun i => 0 ≤ i ∧ i ≤ (ordL l).length ∧ takeE M who ((fun _ => true)) (ordL l) = takeE M who ((fun _ => true)) ((ordL l).drop i.toNat)) (fun i => (ordL l).length - i.toNat) (0) ⟨rfl, rfl⟩ ?_ ?_
     · try dsimp only
       exact ⟨by omega, by omega, rfl⟩
     rintro i hI
     refine sq ?_
     refine an (fun h2 => ?_) (fun h2 => ?_)
     · refine sq ?_
       refine ix (by omega) ?_
       refine callT [0, 1, 2] [.cells [.mp 2, .mp 1, .own (s.wait.map chgAV), vI s.fuse, vB s.down, vI s.steps], .obj (mObj s.now), .obj (mObj s.kept)] (.av (.tuple [.int .i64 ((ownR M (gI (ordL l) i)).1), .bool ((ownR M (gI (ordL l) i)).2.1), .err 60 ((ownR M (gI (ordL l) i)).2.2)])) rfl (fun bs mm gd ht => fun K hK => u_Owner (bs.getD 0 0) (bs.getD 1 0) (bs.getD 2 0) s M N (gI (ordL l) i) hL (by omega) mm gd K (Tabs.up ht hT) hK) ?_
       refine sq ?_
       refine an (fun h3 => ?_) (fun h3 => ?_)
       · refine mg [0, 1, 3, 10, 29, 30, 31] 55 ((((ownR M (gI (ordL l) i)).2.1) && (!(((ownR M (gI (ordL l) i)).1) == who))) && ((fun _ => true) ((ownR M (gI (ordL l) i)).1))) ?_ ?_
         · repeat' first
            | exact ⟨⟨_, rfl, by grind [SB.val]⟩, rfl⟩
            | refine an (fun _ => ?_) (fun _ => ?_)
            | refine call0 (fun _ => u_alwaysC ((ownR M (gI (ordL l) i)).1)) rfl ?_
         refine an (fun h4 => ?_) (fun h4 => ?_)
         · replace h4 : (((ownR M (gI (ordL l) i)).2.1 = true) ∧ ((ownR M (gI (ordL l) i)).1 ≠ who)) ∧ ((fun _ => true) ((ownR M (gI (ordL l) i)).1) = true) := ⟨⟨(bandL (bandL h4)), (ne_of_beq_false (bnT (bandR (bandL h4))))⟩, (bandR h4)⟩
           refine rt rfl fun _ => ?_
           show K (.err 60 14) (AMem.wth m [(d, dObj kb nb s), (nb, mObj s.now), (kb, mObj s.kept)])
           have hw : ¬(who < 0 ∨ 4 ≤ who) := by grind
           have he : takeE M who ((fun _ => true)) (ordL l) = 14 := by rw [hI.2.2, takeE_drop hI.1 h2, if_neg (not_not_intro h3), if_pos (by grind)]
           rw [takeR, if_neg (by omega), if_pos (by rw [he]; decide), he] at hK
           exact hK s (hL.mono (by omega))
         replace h4 : (((ownR M (gI (ordL l) i)).2.1 = false) ∨ ((ownR M (gI (ordL l) i)).1 = who)) ∨ ((fun _ => true) ((ownR M (gI (ordL l) i)).1) = false) := ((bandF h4).imp (fun q => ((bandF q).imp (fun q => q) (fun q => (eq_of_beq (bnF q))))) (fun q => q))
         refine an (by omega) ?_
         refine ⟨(i + 1), ⟨rfl, rfl⟩, ?_, ?_⟩
         · try dsimp only
           exact ⟨by omega, by omega, by rw [hI.2.2, takeE_drop hI.1 h2, if_neg (not_not_intro h3), if_neg (by grind)]⟩
         try dsimp only
         omega
       refine rt rfl fun _ => ?_
       show K (.err 60 ((ownR M (gI (ordL l) i)).2.2)) (AMem.wth m [(d, dObj kb nb s), (nb, mObj s.now), (kb, mObj s.kept)])
       have hw : ¬(who < 0 ∨ 4 ≤ who) := by grind
       have he : takeE M who ((fun _ => true)) (ordL l) = (ownR M (gI (ordL l) i)).2.2 := by rw [hI.2.2, takeE_drop hI.1 h2, if_pos h3]
       rw [takeR, if_neg (by omega), if_pos (by rw [he]; exact h3), he] at hK
       exact hK s (hL.mono (by omega))
     have hw : ¬(who < 0 ∨ 4 ≤ who) := by grind
     have hf0 : takeE M who ((fun _ => true)) (ordL l) = 0 := by rw [hI.2.2, List.drop_eq_nil_of_le (by omega)]; rfl
     refine sq ?_
     refine ln ?_
     refine lp (σ := Int × DSt) [] [0, 1, 10, 58, 59, 60] 3 (fun ⟨j, t1⟩ => ([(0, .loc 0 0), (1, vI who), (10, vL ((ordL l).map strAV)), (58, vL ((ordL l).map strAV)), (59, vI ((ordL l).length : Int)), (60, vI j)], [.cells [.mp 2, .mp 1, .own (t1.wait.map chgAV), vI t1.fuse, vB t1.down, vI t1.steps], .obj (mObj t1.now), .obj (mObj t1.kept)], m)) (fun ⟨j, t1⟩ => 0 ≤ j ∧ j ≤ (ordL l).length ∧ Lk (N + j.toNat) t1 (lkF who M ((ordL l).take j.toNat))) (fun ⟨j, t1⟩ => (ordL l).length - j.toNat) (0, s) ⟨rfl, rfl⟩ ?_ ?_
     · try dsimp only
       exact ⟨by omega, by omega, hL⟩
     rintro ⟨j, t1⟩ hI2
     dsimp only at hI2
     refine sq ?_
     refine an (fun h5 => ?_) (fun h5 => ?_)
     · refine sq ?_
       refine ix (by omega) ?_
       refine call0 (fun _ => u_file (gI (ordL l) j) (by have := nameV_len (own_name (takeE_all hf0 _ (gI_mem (i := j) (by omega) (by omega)))); omega)) rfl ?_
       refine callT [] [] (vS (Lib.itoa who)) rfl (fun bs mm gd ht => fun K hK => u_Itoa who (by omega) (by omega) mm (Tabs.up ht hT) K hK) ?_
       refine callY 60 [0, 1, 2] (σ := DSt) (fun s1 => Lk (N + j.toNat + 1) s1 (mput (lkF who M ((ordL l).take j.toNat)) (gI (ordL l) j) (Lib.itoa who))) (fun s1 => .av (.err 60 0)) (fun s1 => [.cells [.mp 2, .mp 1, .own (s1.wait.map chgAV), vI s1.fuse, vB s1.down, vI s1.steps], .obj (mObj s1.now), .obj (mObj s1.kept)]) rfl (fun _ => rfl) (fun bs mm gd ht K hK => u_WriteL (bs.getD 0 0) (bs.getD 2 0) (bs.getD 1 0) hI2.2.2 gd.nd (by omega) (own_name (takeE_all hf0 _ (gI_mem (by omega) (by omega)))) (itoa_w (by omega) (by omega)) (.inr (by have := lkF_len who ((ordL l).take j.toNat) M; rw [List.length_take] at this; omega)) mm K (fun s_ hh => hK s_ hh)) ?_
       rintro s1 hx1
       refine an (fun h6 => ?_) (fun h6 => ?_)
       · refine an (by omega) ?_
         refine ⟨(j + 1, s1), ⟨rfl, rfl⟩, ?_, ?_⟩
         · try dsimp only
           exact ⟨by omega, by omega, by rw [lkF_step hI2.1 h5, show (j + 1).toNat = j.toNat + 1 from by omega]; exact hx1⟩
         try dsimp only
         omega
       refine rt rfl fun _ => ?_
       show K (.err 60 0) (AMem.wth m [(d, dObj kb nb s1), (nb, mObj s1.now), (kb, mObj s1.kept)])
       exact absurd rfl h6
     refine sq ?_
     refine ln ?_
     refine an (fun h7 => ?_) (fun h7 => ?_)
     · refine rt rfl fun _ => ?_
       show K (.err 60 0) (AMem.wth m [(d, dObj kb nb t1), (nb, mObj t1.now), (kb, mObj t1.kept)])
       have hu : takeR M who ((fun _ => true)) l = (lkF who M (ordL l), 0) := by rw [takeR, if_neg (by omega), if_neg (not_not_intro hf0)]
       rw [hu] at hK
       have hq := hI2.2.2
       rw [take_full (by omega)] at hq
       refine hK t1 ?_
       exact hq.mono (by omega)
     refine callY 60 [0, 1, 2] (σ := DSt) (fun s2 => Lk (N + j.toNat + 1) s2 (lkF who M ((ordL l).take j.toNat))) (fun s2 => .av (.err 60 0)) (fun s2 => [.cells [.mp 2, .mp 1, .own (s2.wait.map chgAV), vI s2.fuse, vB s2.down, vI s2.steps], .obj (mObj s2.now), .obj (mObj s2.kept)]) rfl (fun _ => rfl) (fun bs mm gd ht K hK => u_SyncL (bs.getD 0 0) (bs.getD 2 0) (bs.getD 1 0) hI2.2.2 gd.nd (by omega) mm K (fun s_ hh => hK s_ hh)) ?_
     rintro s2 hx2
     refine rt rfl fun _ => ?_
     show K (.err 60 0) (AMem.wth m [(d, dObj kb nb s2), (nb, mObj s2.now), (kb, mObj s2.kept)])
     have hu : takeR M who ((fun _ => true)) l = (lkF who M (ordL l), 0) := by rw [takeR, if_neg (by omega), if_neg (not_not_intro hf0)]
     rw [hu] at hK
     have hq := hx2
     rw [take_full (by omega)] at hq
     refine hK s2 ?_
     exact hq.mono (by omega)
   · refine callClone l (fun _ => rfl) rfl (fun m K hK => u_Clone l hnil (by omega) m K hK) ?_
     rintro cp tl hcp
     refine callM [3] [.obj (rowJ (sortL l) tl)] (.tup []) rfl (fun bs mm gd => u_SortJ (bs.getD 3 0) cp tl l (by omega) mm) ?_
     refine callM [3] [.obj (rowJ (Lib.compact (sortL l) ++ List.replicate ((sortL l).length - (Lib.compact (sortL l)).length) []) tl)] (.ms 3 ((Lib.compact (sortL l)).length) cp) rfl (fun bs mm gd => u_CompactN (bs.getD 3 0) l.length cp tl (sortL l) (sortL_len l).symm (by rw [sortL_len]; omega) mm) ?_
     refine sq ?_
     refine cvT (Lib.compact (sortL l) ++ List.replicate ((sortL l).length - (Lib.compact (sortL l)).length) []) tl (ordL l) 10 rfl rfl rfl ⟨by simp, by have := ordL_len l; show (ordL l).length ≤ _; omega⟩ (by exact List.take_left) ?_
     refine ln ?_
     refine lp (σ := Int) [] [0, 1, 3, 10, 29, 30, 31] 3 (fun i => ([(0, .loc 0 0), (1, vI who), (3, .fn 21 [] []), (10, vL ((ordL l).map strAV)), (29, vL ((ordL l).map strAV)), (30, vI ((ordL l).length : Int)), (31, vI i)], [.cells [.mp 2, .mp 1, .own (s.wait.map chgAV), vI s.fuse, vB s.down, vI s.steps], .obj (mObj s.now), .obj (mObj s.kept)], m)) (fun i => 0 ≤ i ∧ i ≤ (ordL l).length ∧ takeE M who ((fun _ => true)) (ordL l) = takeE M who ((fun _ => true)) ((ordL l).drop i.toNat)) (fun i => (ordL l).length - i.toNat) (0) ⟨rfl, rfl⟩ ?_ ?_
     · try dsimp only
       exact ⟨by omega, by omega, rfl⟩
     rintro i hI
     refine sq ?_
     refine an (fun h8 => ?_) (fun h8 => ?_)
     · refine sq ?_
       refine ix (by omega) ?_
       refine callT [0, 1, 2] [.cells [.mp 2, .mp 1, .own (s.wait.map chgAV), vI s.fuse, vB s.down, vI s.steps], .obj (mObj s.now), .obj (mObj s.kept)] (.av (.tuple [.int .i64 ((ownR M (gI (ordL l) i)).1), .bool ((ownR M (gI (ordL l) i)).2.1), .err 60 ((ownR M (gI (ordL l) i)).2.2)])) rfl (fun bs mm gd ht => fun K hK => u_Owner (bs.getD 0 0) (bs.getD 1 0) (bs.getD 2 0) s M N (gI (ordL l) i) hL (by omega) mm gd K (Tabs.up ht hT) hK) ?_
       refine sq ?_
       refine an (fun h9 => ?_) (fun h9 => ?_)
       · refine mg [0, 1, 3, 10, 29, 30, 31] 55 ((((ownR M (gI (ordL l) i)).2.1) && (!(((ownR M (gI (ordL l) i)).1) == who))) && ((fun _ => true) ((ownR M (gI (ordL l) i)).1))) ?_ ?_
         · repeat' first
            | exact ⟨⟨_, rfl, by grind [SB.val]⟩, rfl⟩
            | refine an (fun _ => ?_) (fun _ => ?_)
            | refine call0 (fun _ => u_alwaysC ((ownR M (gI (ordL l) i)).1)) rfl ?_
         refine an (fun h10 => ?_) (fun h10 => ?_)
         · replace h10 : (((ownR M (gI (ordL l) i)).2.1 = true) ∧ ((ownR M (gI (ordL l) i)).1 ≠ who)) ∧ ((fun _ => true) ((ownR M (gI (ordL l) i)).1) = true) := ⟨⟨(bandL (bandL h10)), (ne_of_beq_false (bnT (bandR (bandL h10))))⟩, (bandR h10)⟩
           refine rt rfl fun _ => ?_
           show K (.err 60 14) (AMem.wth m [(d, dObj kb nb s), (nb, mObj s.now), (kb, mObj s.kept)])
           have hw : ¬(who < 0 ∨ 4 ≤ who) := by grind
           have he : takeE M who ((fun _ => true)) (ordL l) = 14 := by rw [hI.2.2, takeE_drop hI.1 h8, if_neg (not_not_intro h9), if_pos (by grind)]
           rw [takeR, if_neg (by omega), if_pos (by rw [he]; decide), he] at hK
           exact hK s (hL.mono (by omega))
         replace h10 : (((ownR M (gI (ordL l) i)).2.1 = false) ∨ ((ownR M (gI (ordL l) i)).1 = who)) ∨ ((fun _ => true) ((ownR M (gI (ordL l) i)).1) = false) := ((bandF h10).imp (fun q => ((bandF q).imp (fun q => q) (fun q => (eq_of_beq (bnF q))))) (fun q => q))
         refine an (by omega) ?_
         refine ⟨(i + 1), ⟨rfl, rfl⟩, ?_, ?_⟩
         · try dsimp only
           exact ⟨by omega, by omega, by rw [hI.2.2, takeE_drop hI.1 h8, if_neg (not_not_intro h9), if_neg (by grind)]⟩
         try dsimp only
         omega
       refine rt rfl fun _ => ?_
       show K (.err 60 ((ownR M (gI (ordL l) i)).2.2)) (AMem.wth m [(d, dObj kb nb s), (nb, mObj s.now), (kb, mObj s.kept)])
       have hw : ¬(who < 0 ∨ 4 ≤ who) := by grind
       have he : takeE M who ((fun _ => true)) (ordL l) = (ownR M (gI (ordL l) i)).2.2 := by rw [hI.2.2, takeE_drop hI.1 h8, if_pos h9]
       rw [takeR, if_neg (by omega), if_pos (by rw [he]; exact h9), he] at hK
       exact hK s (hL.mono (by omega))
     have hw : ¬(who < 0 ∨ 4 ≤ who) := by grind
     have hf0 : takeE M who ((fun _ => true)) (ordL l) = 0 := by rw [hI.2.2, List.drop_eq_nil_of_le (by omega)]; rfl
     refine sq ?_
     refine ln ?_
     refine lp (σ := Int × DSt) [] [0, 1, 10, 58, 59, 60] 3 (fun ⟨j, t1⟩ => ([(0, .loc 0 0), (1, vI who), (10, vL ((ordL l).map strAV)), (58, vL ((ordL l).map strAV)), (59, vI ((ordL l).length : Int)), (60, vI j)], [.cells [.mp 2, .mp 1, .own (t1.wait.map chgAV), vI t1.fuse, vB t1.down, vI t1.steps], .obj (mObj t1.now), .obj (mObj t1.kept)], m)) (fun ⟨j, t1⟩ => 0 ≤ j ∧ j ≤ (ordL l).length ∧ Lk (N + j.toNat) t1 (lkF who M ((ordL l).take j.toNat))) (fun ⟨j, t1⟩ => (ordL l).length - j.toNat) (0, s) ⟨rfl, rfl⟩ ?_ ?_
     · try dsimp only
       exact ⟨by omega, by omega, hL⟩
     rintro ⟨j, t1⟩ hI2
     dsimp only at hI2
     refine sq ?_
     refine an (fun h11 => ?_) (fun h11 => ?_)
     · refine sq ?_
       refine ix (by omega) ?_
       refine call0 (fun _ => u_file (gI (ordL l) j) (by have := nameV_len (own_name (takeE_all hf0 _ (gI_mem (i := j) (by omega) (by omega)))); omega)) rfl ?_
       refine callT [] [] (vS (Lib.itoa who)) rfl (fun bs mm gd ht => fun K hK => u_Itoa who (by omega) (by omega) mm (Tabs.up ht hT) K hK) ?_
       refine callY 60 [0, 1, 2] (σ := DSt) (fun s4 => Lk (N + j.toNat + 1) s4 (mput (lkF who M ((ordL l).take j.toNat)) (gI (ordL l) j) (Lib.itoa who))) (fun s4 => .av (.err 60 0)) (fun s4 => [.cells [.mp 2, .mp 1, .own (s4.wait.map chgAV), vI s4.fuse, vB s4.down, vI s4.steps], .obj (mObj s4.now), .obj (mObj s4.kept)]) rfl (fun _ => rfl) (fun bs mm gd ht K hK => u_WriteL (bs.getD 0 0) (bs.getD 2 0) (bs.getD 1 0) hI2.2.2 gd.nd (by omega) (own_name (takeE_all hf0 _ (gI_mem (by omega) (by omega)))) (itoa_w (by omega) (by omega)) (.inr (by have := lkF_len who ((ordL l).take j.toNat) M; rw [List.length_take] at this; omega)) mm K (fun s_ hh => hK s_ hh)) ?_
       rintro s4 hx4
       refine an (fun h12 => ?_) (fun h12 => ?_)
       · refine an (by omega) ?_
         refine ⟨(j + 1, s4), ⟨rfl, rfl⟩, ?_, ?_⟩
         · try dsimp only
           exact ⟨by omega, by omega, by rw [lkF_step hI2.1 h11, show (j + 1).toNat = j.toNat + 1 from by omega]; exact hx4⟩
         try dsimp only
         omega
       refine rt rfl fun _ => ?_
       show K (.err 60 0) (AMem.wth m [(d, dObj kb nb s4), (nb, mObj s4.now), (kb, mObj s4.kept)])
       exact absurd rfl h12
     refine sq ?_
     refine ln ?_
     refine an (fun h13 => ?_) (fun h13 => ?_)
     · refine rt rfl fun _ => ?_
       show K (.err 60 0) (AMem.wth m [(d, dObj kb nb t1), (nb, mObj t1.now), (kb, mObj t1.kept)])
       have hu : takeR M who ((fun _ => true)) l = (lkF who M (ordL l), 0) := by rw [takeR, if_neg (by omega), if_neg (not_not_intro hf0)]
       rw [hu] at hK
       have hq := hI2.2.2
       rw [take_full (by omega)] at hq
       refine hK t1 ?_
       exact hq.mono (by omega)
     refine callY 60 [0, 1, 2] (σ := DSt) (fun s5 => Lk (N + j.toNat + 1) s5 (lkF who M ((ordL l).take j.toNat))) (fun s5 => .av (.err 60 0)) (fun s5 => [.cells [.mp 2, .mp 1, .own (s5.wait.map chgAV), vI s5.fuse, vB s5.down, vI s5.steps], .obj (mObj s5.now), .obj (mObj s5.kept)]) rfl (fun _ => rfl) (fun bs mm gd ht K hK => u_SyncL (bs.getD 0 0) (bs.getD 2 0) (bs.getD 1 0) hI2.2.2 gd.nd (by omega) mm K (fun s_ hh => hK s_ hh)) ?_
     rintro s5 hx5
     refine rt rfl fun _ => ?_
     show K (.err 60 0) (AMem.wth m [(d, dObj kb nb s5), (nb, mObj s5.now), (kb, mObj s5.kept)])
     have hu : takeR M who ((fun _ => true)) l = (lkF who M (ordL l), 0) := by rw [takeR, if_neg (by omega), if_neg (not_not_intro hf0)]
     rw [hu] at hK
     have hq := hx5
     rw [take_full (by omega)] at hq
     refine hK s5 ?_
     exact hq.mono (by omega)
 refine rt rfl fun _ => ?_
 show K (.err 60 (if who < 0 ∨ 4 ≤ who then 1 else 0)) (AMem.wth m [(d, dObj kb nb s), (nb, mObj s.now), (kb, mObj s.kept)])
 have hw : who < 0 ∨ 4 ≤ who := by grind
 rw [takeR, if_pos (by omega)] at hK
 rw [if_pos hw]
 exact hK s (hL.mono (by omega))
set_option maxHeartbeats 4000000 in
theorem u_TakeD (d nb kb : Nat) (s : DSt) (M : List (Str × Str)) (N : Nat) (who : Int) (l : List Str) (p1 : Nat) (dead : Int)  (hL : Lk N s M) (hNN : N + l.length + 1 ≤ 100000) (hR : M.length + l.length ≤ 40) (m : AMem) (gd : Gd [d, nb, kb, p1] m) (K : AV → AMem → Prop) (hT : Tabs m) (hK : ∀ s1, Lk (N + l.length + 1) s1 (takeR M who (neF dead) l).1 → K (.err 60 (takeR M who (neF dead) l).2) (AMem.wth m [(d, dObj kb nb s1), (nb, mObj s1.now), (kb, mObj s1.kept), (p1, .cells [.int .i64 dead])])) : ACalls Tryd.prog 10 [.ptr ⟨d, 0, none⟩, .int .i64 who, .slice false (l.map strAV), .func (.func 22) [] [.ptr ⟨p1, 0, none⟩]] (AMem.wth m [(d, dObj kb nb s), (nb, mObj s.now), (kb, mObj s.kept), (p1, .cells [.int .i64 dead])]) K := by
 have hod := ordL_len l
 refine enter (c := cf [] [0, 4] [13] [] [7] [d, nb, kb, p1]) (vs := [.loc 0 0, .av (.int .i64 who), .av (.slice false (l.map strAV)), .fn 22 [] [.loc 3 0]]) (L := [.cells [.mp 2, .mp 1, .own (s.wait.map chgAV), vI s.fuse, vB s.down, vI s.steps], .obj (mObj s.now), .obj (mObj s.kept), .cells [vI dead]]) (m := m) true tbOk Tryd.mixed Tryd.func10 rfl (k := 4) (by show fnOk [] _ _ _ = true; decide +kernel) rfl (gd.good rfl) ?_
 refine ⟨fun F0 => ?_⟩
 have hbd2_0 : l.length ≤ 140737488355328 := bd_map (o := false) (F0 2).1
 refine call0 (fun _ => u_owner who) rfl ?_
 refine sq ?_
 refine an (fun h1 => ?_) (fun h1 => ?_)
 · refine ⟨fun _ => ?_⟩
   rcases Classical.em (l = []) with hnil | hnil
   · refine call0 (fun _ => u_CloneE l hnil) rfl ?_
     refine call0 (fun _ => u_SortJ0) rfl ?_
     refine call0 (fun _ => u_CompactE l hnil) rfl ?_
     refine sq ?_
     refine cv0 ?_
     refine ln ?_
     refine lp (σ := Int) [] [0, 1, 3, 10, 29, 30, 31] 4 (fun i => ([(0, .loc 0 0), (1, vI who), (3, .fn 22 [] [.loc 3 0]), (10, vL ((ordL l).map strAV)), (29, vL ((ordL l).map strAV)), (30, vI ((ordL l).length : Int)), (31, vI i)], [.cells [.mp 2, .mp 1, .own (s.wait.map chgAV), vI s.fuse, vB s.down, vI s.steps], .obj (mObj s.now), .obj (mObj s.kept), .cells [vI dead]], m)) (fun i => 0 ≤ i ∧ i ≤ (ordL l).length ∧ takeE M who (neF dead) (ordL l) = takeE M who (neF dead) ((ordL l).drop i.toNat)) (fun i => (ordL l).length - i.toNat) (0) ⟨rfl, rfl⟩ ?_ ?_
     · try dsimp only
       exact ⟨by omega, by omega, rfl⟩
     rintro i hI
     refine sq ?_
     refine an (fun h2 => ?_) (fun h2 => ?_)
     · refine sq ?_
       refine ix (by omega) ?_
       refine callT [0, 1, 2] [.cells [.mp 2, .mp 1, .own (s.wait.map chgAV), vI s.fuse, vB s.down, vI s.steps], .obj (mObj s.now), .obj (mObj s.kept)] (.av (.tuple [.int .i64 ((ownR M (gI (ordL l) i)).1), .bool ((ownR M (gI (ordL l) i)).2.1), .err 60 ((ownR M (gI (ordL l) i)).2.2)])) rfl (fun bs mm gd ht => fun K hK => u_Owner (bs.getD 0 0) (bs.getD 1 0) (bs.getD 2 0) s M N (gI (ordL l) i) hL (by omega) mm gd K (Tabs.up ht hT) hK) ?_
       refine sq ?_
       refine an (fun h3 => ?_) (fun h3 => ?_)
       · refine mg [0, 1, 3, 10, 29, 30, 31] 55 ((((ownR M (gI (ordL l) i)).2.1) && (!(((ownR M (gI (ordL l) i)).1) == who))) && (neF dead ((ownR M (gI (ordL l) i)).1))) ?_ ?_
         · repeat' first
            | exact ⟨⟨_, rfl, by grind [SB.val]⟩, rfl⟩
            | refine an (fun _ => ?_) (fun _ => ?_)
            | refine callM [3] [.cells [vI dead]] (vB (neF dead ((ownR M (gI (ordL l) i)).1))) rfl (fun bs mm gd => u_aliveD ((ownR M (gI (ordL l) i)).1) dead (bs.getD 3 0) mm gd) ?_
         refine an (fun h4 => ?_) (fun h4 => ?_)
         · replace h4 : (((ownR M (gI (ordL l) i)).2.1 = true) ∧ ((ownR M (gI (ordL l) i)).1 ≠ who)) ∧ (neF dead ((ownR M (gI (ordL l) i)).1) = true) := ⟨⟨(bandL (bandL h4)), (ne_of_beq_false (bnT (bandR (bandL h4))))⟩, (bandR h4)⟩
           refine rt rfl fun _ => ?_
           show K (.err 60 14) (AMem.wth m [(d, dObj kb nb s), (nb, mObj s.now), (kb, mObj s.kept), (p1, .cells [.int .i64 dead])])
           have hw : ¬(who < 0 ∨ 4 ≤ who) := by grind
           have he : takeE M who (neF dead) (ordL l) = 14 := by rw [hI.2.2, takeE_drop hI.1 h2, if_neg (not_not_intro h3), if_pos (by grind)]
           rw [takeR, if_neg (by omega), if_pos (by rw [he]; decide), he] at hK
           exact hK s (hL.mono (by omega))
         replace h4 : (((ownR M (gI (ordL l) i)).2.1 = false) ∨ ((ownR M (gI (ordL l) i)).1 = who)) ∨ (neF dead ((ownR M (gI (ordL l) i)).1) = false) := ((bandF h4).imp (fun q => ((bandF q).imp (fun q => q) (fun q => (eq_of_beq (bnF q))))) (fun q => q))
         refine an (by omega) ?_
         refine ⟨(i + 1), ⟨rfl, rfl⟩, ?_, ?_⟩
         · try dsimp only
           exact ⟨by omega, by omega, by rw [hI.2.2, takeE_drop hI.1 h2, if_neg (not_not_intro h3), if_neg (by grind)]⟩
         try dsimp only
         omega
       refine rt rfl fun _ => ?_
       show K (.err 60 ((ownR M (gI (ordL l) i)).2.2)) (AMem.wth m [(d, dObj kb nb s), (nb, mObj s.now), (kb, mObj s.kept), (p1, .cells [.int .i64 dead])])
       have hw : ¬(who < 0 ∨ 4 ≤ who) := by grind
       have he : takeE M who (neF dead) (ordL l) = (ownR M (gI (ordL l) i)).2.2 := by rw [hI.2.2, takeE_drop hI.1 h2, if_pos h3]
       rw [takeR, if_neg (by omega), if_pos (by rw [he]; exact h3), he] at hK
       exact hK s (hL.mono (by omega))
     have hw : ¬(who < 0 ∨ 4 ≤ who) := by grind
     have hf0 : takeE M who (neF dead) (ordL l) = 0 := by rw [hI.2.2, List.drop_eq_nil_of_le (by omega)]; rfl
     refine sq ?_
     refine ln ?_
     refine lp (σ := Int × DSt) [] [0, 1, 10, 58, 59, 60] 4 (fun ⟨j, t1⟩ => ([(0, .loc 0 0), (1, vI who), (10, vL ((ordL l).map strAV)), (58, vL ((ordL l).map strAV)), (59, vI ((ordL l).length : Int)), (60, vI j)], [.cells [.mp 2, .mp 1, .own (t1.wait.map chgAV), vI t1.fuse, vB t1.down, vI t1.steps], .obj (mObj t1.now), .obj (mObj t1.kept), .cells [vI dead]], m)) (fun ⟨j, t1⟩ => 0 ≤ j ∧ j ≤ (ordL l).length ∧ Lk (N + j.toNat) t1 (lkF who M ((ordL l).take j.toNat))) (fun ⟨j, t1⟩ => (ordL l).length - j.toNat) (0, s) ⟨rfl, rfl⟩ ?_ ?_
     · try dsimp only
       exact ⟨by omega, by omega, hL⟩
     rintro ⟨j, t1⟩ hI2
     dsimp only at hI2
     refine sq ?_
     refine an (fun h5 => ?_) (fun h5 => ?_)
     · refine sq ?_
       refine ix (by omega) ?_
       refine call0 (fun _ => u_file (gI (ordL l) j) (by have := nameV_len (own_name (takeE_all hf0 _ (gI_mem (i := j) (by omega) (by omega)))); omega)) rfl ?_
       refine callT [] [] (vS (Lib.itoa who)) rfl (fun bs mm gd ht => fun K hK => u_Itoa who (by omega) (by omega) mm (Tabs.up ht hT) K hK) ?_
       refine callY 60 [0, 1, 2] (σ := DSt) (fun s1 => Lk (N + j.toNat + 1) s1 (mput (lkF who M ((ordL l).take j.toNat)) (gI (ordL l) j) (Lib.itoa who))) (fun s1 => .av (.err 60 0)) (fun s1 => [.cells [.mp 2, .mp 1, .own (s1.wait.map chgAV), vI s1.fuse, vB s1.down, vI s1.steps], .obj (mObj s1.now), .obj (mObj s1.kept)]) rfl (fun _ => rfl) (fun bs mm gd ht K hK => u_WriteL (bs.getD 0 0) (bs.getD 2 0) (bs.getD 1 0) hI2.2.2 gd.nd (by omega) (own_name (takeE_all hf0 _ (gI_mem (by omega) (by omega)))) (itoa_w (by omega) (by omega)) (.inr (by have := lkF_len who ((ordL l).take j.toNat) M; rw [List.length_take] at this; omega)) mm K (fun s_ hh => hK s_ hh)) ?_
       rintro s1 hx1
       refine an (fun h6 => ?_) (fun h6 => ?_)
       · refine an (by omega) ?_
         refine ⟨(j + 1, s1), ⟨rfl, rfl⟩, ?_, ?_⟩
         · try dsimp only
           exact ⟨by omega, by omega, by rw [lkF_step hI2.1 h5, show (j + 1).toNat = j.toNat + 1 from by omega]; exact hx1⟩
         try dsimp only
         omega
       refine rt rfl fun _ => ?_
       show K (.err 60 0) (AMem.wth m [(d, dObj kb nb s1), (nb, mObj s1.now), (kb, mObj s1.kept), (p1, .cells [.int .i64 dead])])
       exact absurd rfl h6
     refine sq ?_
     refine ln ?_
     refine an (fun h7 => ?_) (fun h7 => ?_)
     · refine rt rfl fun _ => ?_
       show K (.err 60 0) (AMem.wth m [(d, dObj kb nb t1), (nb, mObj t1.now), (kb, mObj t1.kept), (p1, .cells [.int .i64 dead])])
       have hu : takeR M who (neF dead) l = (lkF who M (ordL l), 0) := by rw [takeR, if_neg (by omega), if_neg (not_not_intro hf0)]
       rw [hu] at hK
       have hq := hI2.2.2
       rw [take_full (by omega)] at hq
       refine hK t1 ?_
       exact hq.mono (by omega)
     refine callY 60 [0, 1, 2] (σ := DSt) (fun s2 => Lk (N + j.toNat + 1) s2 (lkF who M ((ordL l).take j.toNat))) (fun s2 => .av (.err 60 0)) (fun s2 => [.cells [.mp 2, .mp 1, .own (s2.wait.map chgAV), vI s2.fuse, vB s2.down, vI s2.steps], .obj (mObj s2.now), .obj (mObj s2.kept)]) rfl (fun _ => rfl) (fun bs mm gd ht K hK => u_SyncL (bs.getD 0 0) (bs.getD 2 0) (bs.getD 1 0) hI2.2.2 gd.nd (by omega) mm K (fun s_ hh => hK s_ hh)) ?_
     rintro s2 hx2
     refine rt rfl fun _ => ?_
     show K (.err 60 0) (AMem.wth m [(d, dObj kb nb s2), (nb, mObj s2.now), (kb, mObj s2.kept), (p1, .cells [.int .i64 dead])])
     have hu : takeR M who (neF dead) l = (lkF who M (ordL l), 0) := by rw [takeR, if_neg (by omega), if_neg (not_not_intro hf0)]
     rw [hu] at hK
     have hq := hx2
     rw [take_full (by omega)] at hq
     refine hK s2 ?_
     exact hq.mono (by omega)
   · refine callClone l (fun _ => rfl) rfl (fun m K hK => u_Clone l hnil (by omega) m K hK) ?_
     rintro cp tl hcp
     refine callM [4] [.obj (rowJ (sortL l) tl)] (.tup []) rfl (fun bs mm gd => u_SortJ (bs.getD 4 0) cp tl l (by omega) mm) ?_
     refine callM [4] [.obj (rowJ (Lib.compact (sortL l) ++ List.replicate ((sortL l).length - (Lib.compact (sortL l)).length) []) tl)] (.ms 4 ((Lib.compact (sortL l)).length) cp) rfl (fun bs mm gd => u_CompactN (bs.getD 4 0) l.length cp tl (sortL l) (sortL_len l).symm (by rw [sortL_len]; omega) mm) ?_
     refine sq ?_
     refine cvT (Lib.compact (sortL l) ++ List.replicate ((sortL l).length - (Lib.compact (sortL l)).length) []) tl (ordL l) 10 rfl rfl rfl ⟨by simp, by have := ordL_len l; show (ordL l).length ≤ _; omega⟩ (by exact List.take_left) ?_
     refine ln ?_
     refine lp (σ := Int) [] [0, 1, 3, 10, 29, 30, 31] 4 (fun i => ([(0, .loc 0 0), (1, vI who), (3, .fn 22 [] [.loc 3 0]), (10, vL ((ordL l).map strAV)), (29, vL ((ordL l).map strAV)), (30, vI ((ordL l).length : Int)), (31, vI i)], [.cells [.mp 2, .mp 1, .own (s.wait.map chgAV), vI s.fuse, vB s.down, vI s.steps], .obj (mObj s.now), .obj (mObj s.kept), .cells [vI dead]], m)) (fun i => 0 ≤ i ∧ i ≤ (ordL l).length ∧ takeE M who (neF dead) (ordL l) = takeE M who (neF dead) ((ordL l).drop i.toNat)) (fun i => (ordL l).length - i.toNat) (0) ⟨rfl, rfl⟩ ?_ ?_
     · try dsimp only
       exact ⟨by omega, by omega, rfl⟩
     rintro i hI
     refine sq ?_
     refine an (fun h8 => ?_) (fun h8 => ?_)
     · refine sq ?_
       refine ix (by omega) ?_
       refine callT [0, 1, 2] [.cells [.mp 2, .mp 1, .own (s.wait.map chgAV), vI s.fuse, vB s.down, vI s.steps], .obj (mObj s.now), .obj (mObj s.kept)] (.av (.tuple [.int .i64 ((ownR M (gI (ordL l) i)).1), .bool ((ownR M (gI (ordL l) i)).2.1), .err 60 ((ownR M (gI (ordL l) i)).2.2)])) rfl (fun bs mm gd ht => fun K hK => u_Owner (bs.getD 0 0) (bs.getD 1 0) (bs.getD 2 0) s M N (gI (ordL l) i) hL (by omega) mm gd K (Tabs.up ht hT) hK) ?_
       refine sq ?_
       refine an (fun h9 => ?_) (fun h9 => ?_)
       · refine mg [0, 1, 3, 10, 29, 30, 31] 55 ((((ownR M (gI (ordL l) i)).2.1) && (!(((ownR M (gI (ordL l) i)).1) == who))) && (neF dead ((ownR M (gI (ordL l) i)).1))) ?_ ?_
         · repeat' first
            | exact ⟨⟨_, rfl, by grind [SB.val]⟩, rfl⟩
            | refine an (fun _ => ?_) (fun _ => ?_)
            | refine callM [3] [.cells [vI dead]] (vB (neF dead ((ownR M (gI (ordL l) i)).1))) rfl (fun bs mm gd => u_aliveD ((ownR M (gI (ordL l) i)).1) dead (bs.getD 3 0) mm gd) ?_
         refine an (fun h10 => ?_) (fun h10 => ?_)
         · replace h10 : (((ownR M (gI (ordL l) i)).2.1 = true) ∧ ((ownR M (gI (ordL l) i)).1 ≠ who)) ∧ (neF dead ((ownR M (gI (ordL l) i)).1) = true) := ⟨⟨(bandL (bandL h10)), (ne_of_beq_false (bnT (bandR (bandL h10))))⟩, (bandR h10)⟩
           refine rt rfl fun _ => ?_
           show K (.err 60 14) (AMem.wth m [(d, dObj kb nb s), (nb, mObj s.now), (kb, mObj s.kept), (p1, .cells [.int .i64 dead])])
           have hw : ¬(who < 0 ∨ 4 ≤ who) := by grind
           have he : takeE M who (neF dead) (ordL l) = 14 := by rw [hI.2.2, takeE_drop hI.1 h8, if_neg (not_not_intro h9), if_pos (by grind)]
           rw [takeR, if_neg (by omega), if_pos (by rw [he]; decide), he] at hK
           exact hK s (hL.mono (by omega))
         replace h10 : (((ownR M (gI (ordL l) i)).2.1 = false) ∨ ((ownR M (gI (ordL l) i)).1 = who)) ∨ (neF dead ((ownR M (gI (ordL l) i)).1) = false) := ((bandF h10).imp (fun q => ((bandF q).imp (fun q => q) (fun q => (eq_of_beq (bnF q))))) (fun q => q))
         refine an (by omega) ?_
         refine ⟨(i + 1), ⟨rfl, rfl⟩, ?_, ?_⟩
         · try dsimp only
           exact ⟨by omega, by omega, by rw [hI.2.2, takeE_drop hI.1 h8, if_neg (not_not_intro h9), if_neg (by grind)]⟩
         try dsimp only
         omega
       refine rt rfl fun _ => ?_
       show K (.err 60 ((ownR M (gI (ordL l) i)).2.2)) (AMem.wth m [(d, dObj kb nb s), (nb, mObj s.now), (kb, mObj s.kept), (p1, .cells [.int .i64 dead])])
       have hw : ¬(who < 0 ∨ 4 ≤ who) := by grind
       have he : takeE M who (neF dead) (ordL l) = (ownR M (gI (ordL l) i)).2.2 := by rw [hI.2.2, takeE_drop hI.1 h8, if_pos h9]
       rw [takeR, if_neg (by omega), if_pos (by rw [he]; exact h9), he] at hK
       exact hK s (hL.mono (by omega))
     have hw : ¬(who < 0 ∨ 4 ≤ who) := by grind
     have hf0 : takeE M who (neF dead) (ordL l) = 0 := by rw [hI.2.2, List.drop_eq_nil_of_le (by omega)]; rfl
     refine sq ?_
     refine ln ?_
     refine lp (σ := Int × DSt) [] [0, 1, 10, 58, 59, 60] 4 (fun ⟨j, t1⟩ => ([(0, .loc 0 0), (1, vI who), (10, vL ((ordL l).map strAV)), (58, vL ((ordL l).map strAV)), (59, vI ((ordL l).length : Int)), (60, vI j)], [.cells [.mp 2, .mp 1, .own (t1.wait.map chgAV), vI t1.fuse, vB t1.down, vI t1.steps], .obj (mObj t1.now), .obj (mObj t1.kept), .cells [vI dead]], m)) (fun ⟨j, t1⟩ => 0 ≤ j ∧ j ≤ (ordL l).length ∧ Lk (N + j.toNat) t1 (lkF who M ((ordL l).take j.toNat))) (fun ⟨j, t1⟩ => (ordL l).length - j.toNat) (0, s) ⟨rfl, rfl⟩ ?_ ?_
     · try dsimp only
       exact ⟨by omega, by omega, hL⟩
     rintro ⟨j, t1⟩ hI2
     dsimp only at hI2
     refine sq ?_
     refine an (fun h11 => ?_) (fun h11 => ?_)
     · refine sq ?_
       refine ix (by omega) ?_
       refine call0 (fun _ => u_file (gI (ordL l) j) (by have := nameV_len (own_name (takeE_all hf0 _ (gI_mem (i := j) (by omega) (by omega)))); omega)) rfl ?_
       refine callT [] [] (vS (Lib.itoa who)) rfl (fun bs mm gd ht => fun K hK => u_Itoa who (by omega) (by omega) mm (Tabs.up ht hT) K hK) ?_
       refine callY 60 [0, 1, 2] (σ := DSt) (fun s4 => Lk (N + j.toNat + 1) s4 (mput (lkF who M ((ordL l).take j.toNat)) (gI (ordL l) j) (Lib.itoa who))) (fun s4 => .av (.err 60 0)) (fun s4 => [.cells [.mp 2, .mp 1, .own (s4.wait.map chgAV), vI s4.fuse, vB s4.down, vI s4.steps], .obj (mObj s4.now), .obj (mObj s4.kept)]) rfl (fun _ => rfl) (fun bs mm gd ht K hK => u_WriteL (bs.getD 0 0) (bs.getD 2 0) (bs.getD 1 0) hI2.2.2 gd.nd (by omega) (own_name (takeE_all hf0 _ (gI_mem (by omega) (by omega)))) (itoa_w (by omega) (by omega)) (.inr (by have := lkF_len who ((ordL l).take j.toNat) M; rw [List.length_take] at this; omega)) mm K (fun s_ hh => hK s_ hh)) ?_
       rintro s4 hx4
       refine an (fun h12 => ?_) (fun h12 => ?_)
       · refine an (by omega) ?_
         refine ⟨(j + 1, s4), ⟨rfl, rfl⟩, ?_, ?_⟩
         · try dsimp only
           exact ⟨by omega, by omega, by rw [lkF_step hI2.1 h11, show (j + 1).toNat = j.toNat + 1 from by omega]; exact hx4⟩
         try dsimp only
         omega
       refine rt rfl fun _ => ?_
       show K (.err 60 0) (AMem.wth m [(d, dObj kb nb s4), (nb, mObj s4.now), (kb, mObj s4.kept), (p1, .cells [.int .i64 dead])])
       exact absurd rfl h12
     refine sq ?_
     refine ln ?_
     refine an (fun h13 => ?_) (fun h13 => ?_)
     · refine rt rfl fun _ => ?_
       show K (.err 60 0) (AMem.wth m [(d, dObj kb nb t1), (nb, mObj t1.now), (kb, mObj t1.kept), (p1, .cells [.int .i64 dead])])
       have hu : takeR M who (neF dead) l = (lkF who M (ordL l), 0) := by rw [takeR, if_neg (by omega), if_neg (not_not_intro hf0)]
       rw [hu] at hK
       have hq := hI2.2.2
       rw [take_full (by omega)] at hq
       refine hK t1 ?_
       exact hq.mono (by omega)
     refine callY 60 [0, 1, 2] (σ := DSt) (fun s5 => Lk (N + j.toNat + 1) s5 (lkF who M ((ordL l).take j.toNat))) (fun s5 => .av (.err 60 0)) (fun s5 => [.cells [.mp 2, .mp 1, .own (s5.wait.map chgAV), vI s5.fuse, vB s5.down, vI s5.steps], .obj (mObj s5.now), .obj (mObj s5.kept)]) rfl (fun _ => rfl) (fun bs mm gd ht K hK => u_SyncL (bs.getD 0 0) (bs.getD 2 0) (bs.getD 1 0) hI2.2.2 gd.nd (by omega) mm K (fun s_ hh => hK s_ hh)) ?_
     rintro s5 hx5
     refine rt rfl fun _ => ?_
     show K (.err 60 0) (AMem.wth m [(d, dObj kb nb s5), (nb, mObj s5.now), (kb, mObj s5.kept), (p1, .cells [.int .i64 dead])])
     have hu : takeR M who (neF dead) l = (lkF who M (ordL l), 0) := by rw [takeR, if_neg (by omega), if_neg (not_not_intro hf0)]
     rw [hu] at hK
     have hq := hx5
     rw [take_full (by omega)] at hq
     refine hK s5 ?_
     exact hq.mono (by omega)
 refine rt rfl fun _ => ?_
 show K (.err 60 (if who < 0 ∨ 4 ≤ who then 1 else 0)) (AMem.wth m [(d, dObj kb nb s), (nb, mObj s.now), (kb, mObj s.kept), (p1, .cells [.int .i64 dead])])
 have hw : who < 0 ∨ 4 ≤ who := by grind
 rw [takeR, if_pos (by omega)] at hK
 rw [if_pos hw]
 exact hK s (hL.mono (by omega))
end Go.Proofs
end
section
namespace Go.Proofs
open Go Go.Aw Go.Sx
set_option maxRecDepth 100000
theorem first_len : (sortL ([([102, 105, 114, 115, 116], Lib.itoa 0)].map Prod.fst)).length = 1 := by rw [sortL_len]; rfl
set_option maxHeartbeats 8000000 in
theorem u_TopLocks (l : List ActT)  (m : AMem)  (K : AV → AMem → Prop) (hT : Tabs m) (hK : K (.bool true) m) : ACalls Tryd.prog 4 [.slice false (l.map actAV)] m K := by
 refine enter (c := cf [] [0] [5, 25, 28, 34, 37, 42, 49] [] [] []) (vs := [.av (.slice false (l.map actAV))]) (L := []) (m := m) false tbOk Tryd.mixed Tryd.func4 rfl (k := 1) (by show fnOk [] _ _ _ = true; decide +kernel) rfl (Good.nil m) ?_
 refine ⟨fun F0 => ?_⟩
 have hbd0_0 : l.length ≤ 140737488355328 := bd_map (o := false) (F0 0).1
 refine callN3 (.obj (mObj d0.kept)) (.obj (mObj d0.now)) (.cells [.mp 0, .mp 1, .own (d0.wait.map chgAV), vI d0.fuse, vB d0.down, vI d0.steps]) (fun d nb kb => dObj kb nb d0) (mObj []) (mObj []) rfl (fun _ => rfl) (fun _ => rfl) (fun bs d nb kb hl => dObj3 d nb kb hl) (fun bs mm hl ht K hK => u_New mm K hK) ?_
 refine sq ?_
 refine callY 60 [2, 1, 0] (σ := DSt) (fun s2 => Lk (0 + [[102, 105, 114, 115, 116]].length + 1) s2 [([102, 105, 114, 115, 116], Lib.itoa 0)]) (fun s2 => .av (.err 60 0)) (fun s2 => [.cells [.mp 0, .mp 1, .own (s2.wait.map chgAV), vI s2.fuse, vB s2.down, vI s2.steps], .obj (mObj s2.now), .obj (mObj s2.kept)]) rfl (fun _ => rfl) (fun bs mm gd ht K hK => u_TakeC (bs.getD 2 0) (bs.getD 1 0) (bs.getD 0 0) d0 [] 0 0 [[102, 105, 114, 115, 116]] Lk.new (by decide) (by decide) mm gd K (Tabs.up ht hT) (fun s_ hh => by rw [take_one (n := [102, 105, 114, 115, 116]) rfl (by decide) (by decide)] at hh ⊢; exact hK s_ hh)) ?_
 rintro s2 hx2
 refine an (fun h1 => ?_) (fun h1 => ?_)
 · refine callM [2, 1, 0] [.cells [.mp 0, .mp 1, .own (s2.wait.map chgAV), vI s2.fuse, vB s2.down, vI s2.steps], .obj (mObj s2.now), .obj (mObj s2.kept)] (.av (.tuple [.slice false ((sortL ([([102, 105, 114, 115, 116], Lib.itoa 0)].map Prod.fst)).map strAV), .err 60 0])) rfl (fun bs mm gd => u_All (bs.getD 2 0) (bs.getD 1 0) (bs.getD 0 0) s2 _ _ hx2 (by decide) mm gd) ?_
   refine sq ?_
   refine mg [0, 3] 48 ((!(0 == 0)) || (!(((sortL ([([102, 105, 114, 115, 116], Lib.itoa 0)].map Prod.fst)).length : Int) == 1))) ?_ ?_
   · repeat' first
      | exact ⟨⟨_, rfl, by grind [SB.val]⟩, rfl⟩
      | refine an (fun _ => ?_) (fun _ => ?_)
      | refine ln ?_
   refine an (fun h2 => ?_) (fun h2 => ?_)
   · replace h2 : (0 ≠ 0) ∨ (((sortL ([([102, 105, 114, 115, 116], Lib.itoa 0)].map Prod.fst)).length : Int) ≠ 1) := ((borT h2).imp (fun q => (ne_of_beq_false (bnT q))) (fun q => (ne_of_beq_false (bnT q))))
     refine rt0 rfl fun _ => ?_
     show K (.bool false) m
     rcases h2 with h | h
     · exact absurd rfl h
     · rw [first_len] at h; exact absurd rfl h
   replace h2 : (0 = 0) ∧ (((sortL ([([102, 105, 114, 115, 116], Lib.itoa 0)].map Prod.fst)).length : Int) = 1) := ⟨(eq_of_beq (bnF (borL h2))), (eq_of_beq (bnF (borR h2)))⟩
   refine sq ?_
   refine call0 (fun _ => u_LightActs l 60 6000) rfl ?_
   refine an (fun h3 => ?_) (fun h3 => ?_)
   · refine mins tbOk (dk := .string) strAV intAV strKey_ok ([] : List ((List UInt8) × Int)) ([102, 105, 114, 115, 116] : List UInt8) 0 (t := 54) (ke := 9) (ve := 3) mpSI rfl rfl rfl rfl rfl (fun _ => rfl) (by (have := mput_len ([] : List ((List UInt8) × Int)) ([102, 105, 114, 115, 116] : List UInt8) 0; (try simp only [List.length_nil] at this); omega)) ?_
     refine sq ?_
     refine lp (σ := Int × DSt × List (Str × Int) × Int) [] [0, 3, 6, 7, 8, 9] 5 (fun ⟨i, s, H, dead⟩ => ([(0, vL (l.map actAV)), (3, .loc 2 0), (6, .mp 3), (7, .loc 4 0), (8, .fn 22 [] [.loc 4 0]), (9, vI i)], [.obj (mObj s.kept), .obj (mObj s.now), .cells [.mp 0, .mp 1, .own (s.wait.map chgAV), vI s.fuse, vB s.down, vI s.steps], .obj (.map (List.map (mapAV strAV intAV) H)), .cells [vI dead]], m)) (fun ⟨i, s, H, dead⟩ => 0 ≤ i ∧ i ≤ l.length ∧ ∃ M, Lk (20 * i.toNat + 2) s M ∧ LH M H) (fun ⟨i, s, H, dead⟩ => l.length - i.toNat) (0, s2, mput ([] : List ((List UInt8) × Int)) ([102, 105, 114, 115, 116] : List UInt8) 0, 9) ⟨rfl, rfl⟩ ?_ ?_
     · try dsimp only
       exact ⟨by omega, by omega, _, hx2, LH.first hx2⟩
     rintro ⟨i, s, H, dead⟩ hI
     dsimp only at hI
     obtain ⟨hi0, hi1, M, hL, hH⟩ := hI
     have hl80 := lightA_len h3
     refine sq ?_
     refine ln ?_
     refine an (fun h4 => ?_) (fun h4 => ?_)
     · have hnl := lightA_names h3 _ (gI_mem hi0 h4)
       refine sq ?_
       refine ix (by omega) ?_
       refine sq ?_
       refine ⟨_, List.length_map _, ?_⟩
       refine an (fun h5 => ?_) (fun h5 => ?_)
       · exact rt0 rfl fun _ => hK
       refine jn (σ := DSt × List (Str × Int) × Int) [] [0, 3, 6, 7, 8, 9] 6 (fun ⟨s3, H3, dead3⟩ => ([(0, vL (l.map actAV)), (3, .loc 2 0), (6, .mp 3), (7, .loc 4 0), (8, .fn 22 [] [.loc 4 0]), (9, vI i)], [.obj (mObj s3.kept), .obj (mObj s3.now), .cells [.mp 0, .mp 1, .own (s3.wait.map chgAV), vI s3.fuse, vB s3.down, vI s3.steps], .obj (.map (List.map (mapAV strAV intAV) H3)), .cells [vI dead3], .cells [vS ((gI l i).kind), vS ((gI l i).s), vS ((gI l i).t), vI ((gI l i).a), vI ((gI l i).b), vI (((gI l i).v).kind), vI (((gI l i).v).n), vS (((gI l i).v).s), vL ((((gI l i).v).l).map valIn), vL ((((gI l i).v).f).map fldIn), vL (((gI l i).names).map strAV)]], m)) (fun ⟨s3, H3, dead3⟩ => ∃ M3, Lk (20 * i.toNat + 15) s3 M3 ∧ LH M3 H3 ∧ M3.length ≤ 40) ?_ ?_
       · rintro ⟨s3, H3, dead3⟩ hj0
         obtain ⟨M3, hL3, hH3, hM3⟩ := hj0
         have hsl3 : (sortL (M3.map Prod.fst)).length = M3.length := by rw [sortL_len, List.length_map]
         refine callM [2, 1, 0] [.cells [.mp 0, .mp 1, .own (s3.wait.map chgAV), vI s3.fuse, vB s3.down, vI s3.steps], .obj (mObj s3.now), .obj (mObj s3.kept)] (.av (.tuple [.slice false ((sortL (M3.map Prod.fst)).map strAV), .err 60 0])) rfl (fun bs mm gd => u_All (bs.getD 2 0) (bs.getD 1 0) (bs.getD 0 0) s3 M3 _ hL3 (by omega) mm gd) ?_
         refine sq ?_
         refine mg [0, 3, 6, 7, 8, 9, 20] 190 ((!(0 == 0)) || (!(((sortL (M3.map Prod.fst)).length : Int) == (H3.length : Int)))) ?_ ?_
         · repeat' first
            | exact ⟨⟨_, rfl, by grind [SB.val]⟩, rfl⟩
            | refine an (fun _ => ?_) (fun _ => ?_)
            | refine ln ?_
            | refine ⟨_, List.length_map _, ?_⟩
         refine an (fun h6 => ?_) (fun h6 => ?_)
         · replace h6 : (0 ≠ 0) ∨ (((sortL (M3.map Prod.fst)).length : Int) ≠ (H3.length : Int)) := ((borT h6).imp (fun q => (ne_of_beq_false (bnT q))) (fun q => (ne_of_beq_false (bnT q))))
           refine rt0 rfl fun _ => ?_
           show K (.bool false) m
           rcases h6 with h | h
           · exact absurd rfl h
           · rw [sortL_len, List.length_map, hH3.len] at h; exact absurd rfl h
         replace h6 : (0 = 0) ∧ (((sortL (M3.map Prod.fst)).length : Int) = (H3.length : Int)) := ⟨(eq_of_beq (bnF (borL h6))), (eq_of_beq (bnF (borR h6)))⟩
         refine lp (σ := Int) [] [0, 3, 6, 7, 8, 9, 20, 22] 6 (fun k => ([(0, vL (l.map actAV)), (3, .loc 2 0), (6, .mp 3), (7, .loc 4 0), (8, .fn 22 [] [.loc 4 0]), (9, vI i), (20, vL ((sortL (M3.map Prod.fst)).map strAV)), (22, vI k)], [.obj (mObj s3.kept), .obj (mObj s3.now), .cells [.mp 0, .mp 1, .own (s3.wait.map chgAV), vI s3.fuse, vB s3.down, vI s3.steps], .obj (.map (List.map (mapAV strAV intAV) H3)), .cells [vI dead3], .cells [vS ((gI l i).kind), vS ((gI l i).s), vS ((gI l i).t), vI ((gI l i).a), vI ((gI l i).b), vI (((gI l i).v).kind), vI (((gI l i).v).n), vS (((gI l i).v).s), vL ((((gI l i).v).l).map valIn), vL ((((gI l i).v).f).map fldIn), vL (((gI l i).names).map strAV)]], m)) (fun k => 0 ≤ k ∧ k ≤ (sortL (M3.map Prod.fst)).length) (fun k => (sortL (M3.map Prod.fst)).length - k.toNat) (0) ⟨rfl, rfl⟩ ?_ ?_
         · try dsimp only
           first | omega | (refine ⟨?_, ?_⟩ <;> first | omega | simp) | simp
         rintro k hI2
         refine sq ?_
         refine ln ?_
         refine an (fun h7 => ?_) (fun h7 => ?_)
         · refine sq ?_
           refine ix (by omega) ?_
           refine callT [2, 1, 0] [.cells [.mp 0, .mp 1, .own (s3.wait.map chgAV), vI s3.fuse, vB s3.down, vI s3.steps], .obj (mObj s3.now), .obj (mObj s3.kept)] (.av (.tuple [.int .i64 ((ownR M3 (gI (sortL (M3.map Prod.fst)) k)).1), .bool ((ownR M3 (gI (sortL (M3.map Prod.fst)) k)).2.1), .err 60 ((ownR M3 (gI (sortL (M3.map Prod.fst)) k)).2.2)])) rfl (fun bs mm gd ht => fun K hK => u_Owner (bs.getD 2 0) (bs.getD 1 0) (bs.getD 0 0) s3 M3 _ (gI (sortL (M3.map Prod.fst)) k) hL3 (by omega) mm gd K (Tabs.up ht hT) hK) ?_
           refine ix (by omega) ?_
           refine mlo tbOk (dk := .string) strAV intAV strKey_ok H3 (gI (sortL (M3.map Prod.fst)) k) 0 (t := 54) (ke := 9) (ve := 3) mpSI rfl rfl rfl rfl rfl ?_ rfl
           refine mg [0, 3, 6, 7, 8, 9, 20, 22] 230 ((((!(((ownR M3 (gI (sortL (M3.map Prod.fst)) k)).2.2) == 0)) || (!((ownR M3 (gI (sortL (M3.map Prod.fst)) k)).2.1))) || (!((mget H3 (gI (sortL (M3.map Prod.fst)) k)).isSome))) || (!(((ownR M3 (gI (sortL (M3.map Prod.fst)) k)).1) == ((mget H3 (gI (sortL (M3.map Prod.fst)) k)).getD 0)))) ?_ ?_
           · repeat' first
              | exact ⟨⟨_, rfl, by grind [SB.val]⟩, rfl⟩
              | refine an (fun _ => ?_) (fun _ => ?_)
           refine an (fun h8 => ?_) (fun h8 => ?_)
           · replace h8 : ((((ownR M3 (gI (sortL (M3.map Prod.fst)) k)).2.2 ≠ 0) ∨ ((ownR M3 (gI (sortL (M3.map Prod.fst)) k)).2.1 = false)) ∨ ((mget H3 (gI (sortL (M3.map Prod.fst)) k)).isSome = false)) ∨ ((ownR M3 (gI (sortL (M3.map Prod.fst)) k)).1 ≠ (mget H3 (gI (sortL (M3.map Prod.fst)) k)).getD 0) := ((borT h8).imp (fun q => ((borT q).imp (fun q => ((borT q).imp (fun q => (ne_of_beq_false (bnT q))) (fun q => (bnT q)))) (fun q => (bnT q)))) (fun q => (ne_of_beq_false (bnT q))))
             refine rt0 rfl fun _ => ?_
             show K (.bool false) m
             obtain ⟨v, e1, e2⟩ := hH3.key hL3 hI2.1 h7
             rw [e1, e2] at h8
             simp at h8
           replace h8 : ((((ownR M3 (gI (sortL (M3.map Prod.fst)) k)).2.2 = 0) ∧ ((ownR M3 (gI (sortL (M3.map Prod.fst)) k)).2.1 = true)) ∧ ((mget H3 (gI (sortL (M3.map Prod.fst)) k)).isSome = true)) ∧ ((ownR M3 (gI (sortL (M3.map Prod.fst)) k)).1 = (mget H3 (gI (sortL (M3.map Prod.fst)) k)).getD 0) := ⟨⟨⟨(eq_of_beq (bnF (borL (borL (borL h8))))), (bnF (borR (borL (borL h8))))⟩, (bnF (borR (borL h8)))⟩, (eq_of_beq (bnF (borR h8)))⟩
           refine an (by omega) ?_
           refine ⟨(k + 1), ⟨rfl, rfl⟩, ?_, ?_⟩
           · try dsimp only
             (first | omega | (simp_all; done) | (simp_all; omega))
           try dsimp only
           omega
         refine an (by omega) ?_
         refine ⟨(i + 1, s3, H3, dead3), ⟨rfl, rfl⟩, ?_, ?_⟩
         · try dsimp only
           exact ⟨by omega, by omega, M3, hL3.mono (by omega), hH3⟩
         try dsimp only
         omega
       refine an (fun h9 => ?_) (fun h9 => ?_)
       · refine callY 60 [2, 1, 0, 4] (σ := DSt) (fun s3 => Lk (20 * i.toNat + 15) s3 (takeR M ((gI l i).a) (neF dead) ((gI l i).names)).1) (fun s3 => .av (.err 60 ((takeR M ((gI l i).a) (neF dead) ((gI l i).names)).2))) (fun s3 => [.cells [.mp 0, .mp 1, .own (s3.wait.map chgAV), vI s3.fuse, vB s3.down, vI s3.steps], .obj (mObj s3.now), .obj (mObj s3.kept), .cells [vI dead]]) rfl (fun _ => rfl) (fun bs mm gd ht K hK => u_TakeD (bs.getD 2 0) (bs.getD 1 0) (bs.getD 0 0) s M (20 * i.toNat + 2) ((gI l i).a) ((gI l i).names) (bs.getD 4 0) dead hL (by omega) (by have := hH.len; omega) mm gd K (Tabs.up ht hT) (fun s_ hh => hK s_ (hh.mono (by omega)))) ?_
         rintro s3 hx3
         refine sq ?_
         refine lp (σ := Int) [] [0, 3, 6, 7, 8, 9, 10, 11, 12] 6 (fun k => ([(0, vL (l.map actAV)), (3, .loc 2 0), (6, .mp 3), (7, .loc 4 0), (8, .fn 22 [] [.loc 4 0]), (9, vI i), (10, .loc 5 0), (11, .av (.err 60 ((takeR M ((gI l i).a) (neF dead) ((gI l i).names)).2))), (12, vI k)], [.obj (mObj s3.kept), .obj (mObj s3.now), .cells [.mp 0, .mp 1, .own (s3.wait.map chgAV), vI s3.fuse, vB s3.down, vI s3.steps], .obj (.map (List.map (mapAV strAV intAV) H)), .cells [vI dead], .cells [vS ((gI l i).kind), vS ((gI l i).s), vS ((gI l i).t), vI ((gI l i).a), vI ((gI l i).b), vI (((gI l i).v).kind), vI (((gI l i).v).n), vS (((gI l i).v).s), vL ((((gI l i).v).l).map valIn), vL ((((gI l i).v).f).map fldIn), vL (((gI l i).names).map strAV)]], m)) (fun k => 0 ≤ k ∧ k ≤ (gI l i).names.length) (fun k => (gI l i).names.length - k.toNat) (0) ⟨rfl, rfl⟩ ?_ ?_
         · try dsimp only
           first | omega | (refine ⟨?_, ?_⟩ <;> first | omega | simp) | simp
         rintro k hI2
         refine sq ?_
         refine ln ?_
         refine an (fun h10 => ?_) (fun h10 => ?_)
         · refine sq ?_
           refine ix (by omega) ?_
           refine mlo tbOk (dk := .string) strAV intAV strKey_ok H (gI ((gI l i).names) k) 0 (t := 54) (ke := 9) (ve := 3) mpSI rfl rfl rfl rfl rfl ?_ rfl
           refine mg [0, 3, 6, 7, 8, 9, 10, 11, 12] 111 ((((((takeR M ((gI l i).a) (neF dead) ((gI l i).names)).2) == 0) && ((mget H (gI ((gI l i).names) k)).isSome)) && (!(((mget H (gI ((gI l i).names) k)).getD 0) == ((gI l i).a)))) && (!(((mget H (gI ((gI l i).names) k)).getD 0) == dead))) ?_ ?_
           · repeat' first
              | exact ⟨⟨_, rfl, by grind [SB.val]⟩, rfl⟩
              | refine an (fun _ => ?_) (fun _ => ?_)
           refine an (fun h11 => ?_) (fun h11 => ?_)
           · replace h11 : ((((takeR M ((gI l i).a) (neF dead) ((gI l i).names)).2 = 0) ∧ ((mget H (gI ((gI l i).names) k)).isSome = true)) ∧ ((mget H (gI ((gI l i).names) k)).getD 0 ≠ (gI l i).a)) ∧ ((mget H (gI ((gI l i).names) k)).getD 0 ≠ dead) := ⟨⟨⟨(eq_of_beq (bandL (bandL (bandL h11)))), (bandR (bandL (bandL h11)))⟩, (ne_of_beq_false (bnT (bandR (bandL h11))))⟩, (ne_of_beq_false (bnT (bandR h11)))⟩
             refine rt0 rfl fun _ => ?_
             show K (.bool false) m
             have h := hH.free h11.1.1.1 (gI_mem hI2.1 h10) h11.1.1.2 h11.1.2
             exact absurd (neF_f h) h11.2
           replace h11 : ((((takeR M ((gI l i).a) (neF dead) ((gI l i).names)).2 ≠ 0) ∨ ((mget H (gI ((gI l i).names) k)).isSome = false)) ∨ ((mget H (gI ((gI l i).names) k)).getD 0 = (gI l i).a)) ∨ ((mget H (gI ((gI l i).names) k)).getD 0 = dead) := ((bandF h11).imp (fun q => ((bandF q).imp (fun q => ((bandF q).imp (fun q => (ne_of_beq_false q)) (fun q => q))) (fun q => (eq_of_beq (bnF q))))) (fun q => (eq_of_beq (bnF q))))
           refine an (by omega) ?_
           refine ⟨(k + 1), ⟨rfl, rfl⟩, ?_, ?_⟩
           · try dsimp only
             (first | omega | (simp_all; done) | (simp_all; omega))
           try dsimp only
           omega
         refine lp (σ := Int × List (Str × Int)) [] [0, 3, 6, 7, 8, 9, 10, 11, 15] 6 (fun ⟨k2, H2⟩ => ([(0, vL (l.map actAV)), (3, .loc 2 0), (6, .mp 3), (7, .loc 4 0), (8, .fn 22 [] [.loc 4 0]), (9, vI i), (10, .loc 5 0), (11, .av (.err 60 ((takeR M ((gI l i).a) (neF dead) ((gI l i).names)).2))), (15, vI k2)], [.obj (mObj s3.kept), .obj (mObj s3.now), .cells [.mp 0, .mp 1, .own (s3.wait.map chgAV), vI s3.fuse, vB s3.down, vI s3.steps], .obj (.map (List.map (mapAV strAV intAV) H2)), .cells [vI dead], .cells [vS ((gI l i).kind), vS ((gI l i).s), vS ((gI l i).t), vI ((gI l i).a), vI ((gI l i).b), vI (((gI l i).v).kind), vI (((gI l i).v).n), vS (((gI l i).v).s), vL ((((gI l i).v).l).map valIn), vL ((((gI l i).v).f).map fldIn), vL (((gI l i).names).map strAV)]], m)) (fun ⟨k2, H2⟩ => 0 ≤ k2 ∧ k2 ≤ (gI l i).names.length ∧ H2 = putF (gI l i).a H ((gI l i).names.take k2.toNat) ∧ ((takeR M (gI l i).a (neF dead) (gI l i).names).2 = 0 ∨ k2 = 0)) (fun ⟨k2, H2⟩ => (gI l i).names.length - k2.toNat) (0, H) ⟨rfl, rfl⟩ ?_ ?_
         · try dsimp only
           exact ⟨by omega, by omega, rfl, .inr rfl⟩
         rintro ⟨k2, H2⟩ hI3
         dsimp only at hI3
         have hpl := putF_len (gI l i).a ((gI l i).names.take k2.toNat) H
         rw [← hI3.2.2.1, List.length_take] at hpl
         refine sq ?_
         refine mg [0, 3, 6, 7, 8, 9, 10, 11, 15] 120 ((decide (k2 < (((gI l i).names).length : Int))) && (((takeR M ((gI l i).a) (neF dead) ((gI l i).names)).2) == 0)) ?_ ?_
         · repeat' first
            | exact ⟨⟨_, rfl, by grind [SB.val]⟩, rfl⟩
            | refine an (fun _ => ?_) (fun _ => ?_)
            | refine ln ?_
         refine an (fun h12 => ?_) (fun h12 => ?_)
         · replace h12 : (k2 < (((gI l i).names).length : Int)) ∧ ((takeR M ((gI l i).a) (neF dead) ((gI l i).names)).2 = 0) := ⟨(of_decide_eq_true (bandL h12)), (eq_of_beq (bandR h12))⟩
           refine sq ?_
           refine ix (by omega) ?_
           refine mup tbOk (dk := .string) strAV intAV strKey_ok H2 (gI ((gI l i).names) k2) ((gI l i).a) (t := 54) (ke := 9) (ve := 3) mpSI rfl rfl rfl rfl rfl (fun _ => rfl) (by (have := mput_len H2 (gI ((gI l i).names) k2) ((gI l i).a); (try simp only [List.length_nil] at this); omega)) ?_
           refine an (by omega) ?_
           refine ⟨(k2 + 1, mput H2 (gI ((gI l i).names) k2) ((gI l i).a)), ⟨rfl, rfl⟩, ?_, ?_⟩
           · try dsimp only
             exact ⟨by omega, by omega, by rw [putF_step hI3.1 h12.1, ← hI3.2.2.1], .inl h12.2⟩
           try dsimp only
           omega
         replace h12 : ((((gI l i).names).length : Int) ≤ k2) ∨ ((takeR M ((gI l i).a) (neF dead) ((gI l i).names)).2 ≠ 0) := ((bandF h12).imp (fun q => (Int.not_lt.1 (of_decide_eq_false q))) (fun q => (ne_of_beq_false q)))
         refine ⟨(s3, H2, dead), ⟨rfl, rfl⟩, ?_⟩
         refine ⟨_, hx3, ?_, by have := takeR_len M (gI l i).a (neF dead) (gI l i).names; have := hH.len; omega⟩
         by_cases c : (takeR M (gI l i).a (neF dead) (gI l i).names).2 = 0
         · have e : H2 = putF (gI l i).a H (gI l i).names := by rw [hI3.2.2.1, List.take_of_length_le (by omega)]
           rw [e]; exact hH.take c hx3
         · have e : H2 = H := by
             rw [hI3.2.2.1, hI3.2.2.2.resolve_left c]; rfl
           rw [e, takeR_no c]; exact hH
       refine an (fun h13 => ?_) (fun h13 => ?_)
       · refine callY 60 [2, 1, 0] (σ := DSt) (fun s4 => Lk (20 * i.toNat + 15) s4 (unlR M ((gI l i).a) ((gI l i).names)).1) (fun s4 => .av (.err 60 ((unlR M ((gI l i).a) ((gI l i).names)).2))) (fun s4 => [.cells [.mp 0, .mp 1, .own (s4.wait.map chgAV), vI s4.fuse, vB s4.down, vI s4.steps], .obj (mObj s4.now), .obj (mObj s4.kept)]) rfl (fun _ => rfl) (fun bs mm gd ht K hK => u_Give (bs.getD 2 0) (bs.getD 1 0) (bs.getD 0 0) s M (20 * i.toNat + 2) ((gI l i).a) ((gI l i).names) hL (by omega) mm gd K (Tabs.up ht hT) (fun s_ hh => hK s_ (hh.mono (by omega)))) ?_
         rintro s4 hx4
         refine lp (σ := Int × List (Str × Int)) [] [0, 3, 6, 7, 8, 9, 10, 16, 17] 6 (fun ⟨k, H2⟩ => ([(0, vL (l.map actAV)), (3, .loc 2 0), (6, .mp 3), (7, .loc 4 0), (8, .fn 22 [] [.loc 4 0]), (9, vI i), (10, .loc 5 0), (16, .av (.err 60 ((unlR M ((gI l i).a) ((gI l i).names)).2))), (17, vI k)], [.obj (mObj s4.kept), .obj (mObj s4.now), .cells [.mp 0, .mp 1, .own (s4.wait.map chgAV), vI s4.fuse, vB s4.down, vI s4.steps], .obj (.map (List.map (mapAV strAV intAV) H2)), .cells [vI dead], .cells [vS ((gI l i).kind), vS ((gI l i).s), vS ((gI l i).t), vI ((gI l i).a), vI ((gI l i).b), vI (((gI l i).v).kind), vI (((gI l i).v).n), vS (((gI l i).v).s), vL ((((gI l i).v).l).map valIn), vL ((((gI l i).v).f).map fldIn), vL (((gI l i).names).map strAV)]], m)) (fun ⟨k, H2⟩ => 0 ≤ k ∧ k ≤ (gI l i).names.length ∧ ((unlR M (gI l i).a (gI l i).names).2 = 0 → ∃ X, unlF (gI l i).a M (gI l i).names = unlF (gI l i).a X ((gI l i).names.drop k.toNat) ∧ LH X H2) ∧ ((unlR M (gI l i).a (gI l i).names).2 = 0 ∨ H2 = H)) (fun ⟨k, H2⟩ => (gI l i).names.length - k.toNat) (0, H) ⟨rfl, rfl⟩ ?_ ?_
         · try dsimp only
           exact ⟨by omega, by omega, fun _ => ⟨M, rfl, hH⟩, .inr rfl⟩
         rintro ⟨k, H2⟩ hI2
         dsimp only at hI2
         refine sq ?_
         refine mg [0, 3, 6, 7, 8, 9, 10, 16, 17] 147 ((decide (k < (((gI l i).names).length : Int))) && (((unlR M ((gI l i).a) ((gI l i).names)).2) == 0)) ?_ ?_
         · repeat' first
            | exact ⟨⟨_, rfl, by grind [SB.val]⟩, rfl⟩
            | refine an (fun _ => ?_) (fun _ => ?_)
            | refine ln ?_
         refine an (fun h14 => ?_) (fun h14 => ?_)
         · replace h14 : (k < (((gI l i).names).length : Int)) ∧ ((unlR M ((gI l i).a) ((gI l i).names)).2 = 0) := ⟨(of_decide_eq_true (bandL h14)), (eq_of_beq (bandR h14))⟩
           refine sq ?_
           refine ix (by omega) ?_
           refine mlo tbOk (dk := .string) strAV intAV strKey_ok H2 (gI ((gI l i).names) k) 0 (t := 54) (ke := 9) (ve := 3) mpSI rfl rfl rfl rfl rfl ?_ rfl
           refine mg [0, 3, 6, 7, 8, 9, 10, 16, 17] 166 (((mget H2 (gI ((gI l i).names) k)).isSome) && (((mget H2 (gI ((gI l i).names) k)).getD 0) == ((gI l i).a))) ?_ ?_
           · repeat' first
              | exact ⟨⟨_, rfl, by grind [SB.val]⟩, rfl⟩
              | refine an (fun _ => ?_) (fun _ => ?_)
           refine an (fun h15 => ?_) (fun h15 => ?_)
           · replace h15 : ((mget H2 (gI ((gI l i).names) k)).isSome = true) ∧ ((mget H2 (gI ((gI l i).names) k)).getD 0 = (gI l i).a) := ⟨(bandL h15), (eq_of_beq (bandR h15))⟩
             refine ix (by omega) ?_
             refine mdl' tbOk (dk := .string) strAV intAV strKey_ok H2 (gI ((gI l i).names) k) mpSI rfl rfl rfl rfl ?_
             refine an (by omega) ?_
             refine ⟨(k + 1, mdel H2 (gI ((gI l i).names) k)), ⟨rfl, rfl⟩, ?_, ?_⟩
             · try dsimp only
               refine ⟨by omega, by omega, fun c => ?_, .inl h14.2⟩
               obtain ⟨X, q1, q2⟩ := hI2.2.2.1 c
               have q3 := q2.give (unlR_zero c).1 (gI (gI l i).names k)
               rw [if_pos h15] at q3
               exact ⟨_, by rw [q1, unlF_drop hI2.1 h14.1], q3⟩
             try dsimp only
             omega
           replace h15 : ((mget H2 (gI ((gI l i).names) k)).isSome = false) ∨ ((mget H2 (gI ((gI l i).names) k)).getD 0 ≠ (gI l i).a) := ((bandF h15).imp (fun q => q) (fun q => (ne_of_beq_false q)))
           refine an (by omega) ?_
           refine ⟨(k + 1, H2), ⟨rfl, rfl⟩, ?_, ?_⟩
           · try dsimp only
             refine ⟨by omega, by omega, fun c => ?_, .inl h14.2⟩
             obtain ⟨X, q1, q2⟩ := hI2.2.2.1 c
             have q3 := q2.give (unlR_zero c).1 (gI (gI l i).names k)
             rw [if_neg (c := (mget H2 (gI (gI l i).names k)).isSome = true ∧ (mget H2 (gI (gI l i).names k)).getD 0 = (gI l i).a) (fun p => h15.elim (fun q => by rw [p.1] at q; cases q) fun q => q p.2)] at q3
             exact ⟨_, by rw [q1, unlF_drop hI2.1 h14.1], q3⟩
           try dsimp only
           omega
         replace h14 : ((((gI l i).names).length : Int) ≤ k) ∨ ((unlR M ((gI l i).a) ((gI l i).names)).2 ≠ 0) := ((bandF h14).imp (fun q => (Int.not_lt.1 (of_decide_eq_false q))) (fun q => (ne_of_beq_false q)))
         refine ⟨(s4, H2, dead), ⟨rfl, rfl⟩, ?_⟩
         refine ⟨_, hx4, ?_, by have := unlR_len M (gI l i).a (gI l i).names; have := hH.len; omega⟩
         by_cases c : (unlR M (gI l i).a (gI l i).names).2 = 0
         · obtain ⟨X, q1, q2⟩ := hI2.2.2.1 c
           rw [(unlR_zero c).2, q1, List.drop_eq_nil_of_le (by omega)]; exact q2
         · rw [hI2.2.2.2.resolve_left c, unlR_no c]; exact hH
       refine an (fun h16 => ?_) (fun h16 => ?_)
       · refine ⟨(s, H, (gI l i).a), ⟨rfl, rfl⟩, ⟨M, hL.mono (by omega), hH, by have := hH.len; omega⟩⟩
       refine ⟨(s, H, dead), ⟨rfl, rfl⟩, ⟨M, hL.mono (by omega), hH, by have := hH.len; omega⟩⟩
     exact rt0 rfl fun _ => hK
   exact rt0 rfl fun _ => hK
 refine rt0 rfl fun _ => ?_
 show K (.bool false) m
 exact absurd rfl h1
end Go.Proofs
end
section
namespace Go.Proofs
open Go Go.Aw Go.RowKit Go.WideShapes Go.ChangeShapes
set_option maxRecDepth 100000
theorem valIn_len (v : Val) : (valIn v).cells.length = 5 := by cases v; rfl
theorem fldIn_len (v : Str × Val) : (fldIn v).cells.length = 6 := by
  obtain ⟨s, v⟩ := v
  cases v; rfl
theorem rd_fld {n : Nat} (ih : ∀ k, k < n → Rd Tryd.prog k 32 valIn) : Rd Tryd.prog n 82 fldIn := by
  intro H enc W sp cs d ps h hw
  obtain ⟨hl, hf⟩ := rd_fields Tryd.underlying82 h hw
  obtain ⟨s, _, hs⟩ := hf 0 _ strAV rfl (fun _ _ => rd_string (by rfl)) (by decide)
  obtain ⟨v, _, hv⟩ := hf 1 _ valIn rfl (fun k hk => ih k hk) (by decide)
  refine ⟨(s, v), by rw [fldIn_len, hl]; rfl, fun i hi => ?_⟩
  rw [hl] at hi
  replace hi : i < 6 := hi
  cases v with
  | mk k n t l f =>
    match i, hi with
    | 0, _ => exact hs 0 (by decide)
    | 1, _ => exact hv 0 (by decide)
    | 2, _ => exact hv 1 (by decide)
    | 3, _ => exact hv 2 (by decide)
    | 4, _ => exact hv 3 (by decide)
    | 5, _ => exact hv 4 (by decide)
theorem rd_val (n : Nat) : Rd Tryd.prog n 32 valIn := by
  induction n using Nat.strongRecOn with
  | ind n ih =>
    intro H enc W sp cs d ps h hw
    obtain ⟨hl, hf⟩ := rd_fields Tryd.underlying32 h hw
    obtain ⟨k, _, hk⟩ := hf 0 _ intAV rfl (fun _ _ => rd_int (by rfl)) (by decide)
    obtain ⟨m, _, hm⟩ := hf 1 _ intAV rfl (fun _ _ => rd_int (by rfl)) (by decide)
    obtain ⟨s, _, hs⟩ := hf 2 _ strAV rfl (fun _ _ => rd_string (by rfl)) (by decide)
    obtain ⟨l, _, hll⟩ := hf 3 _ (lstAV valIn) rfl (fun j hj => rd_slice (by rfl) (by rfl) (by decide) (by decide) valIn_len (fun i hi => ih i (by omega))) (by decide)
    obtain ⟨f, _, hff⟩ := hf 4 _ (lstAV fldIn) rfl (fun j hj => rd_slice (by rfl) (by rfl) (by decide) (by decide) fldIn_len (fun i hi => rd_fld (fun q hq => ih q (by omega)))) (by decide)
    refine ⟨.mk k m s l f, by rw [valIn_len, hl]; rfl, fun i hi => ?_⟩
    rw [hl] at hi
    replace hi : i < 5 := hi
    rw [valIn_eq]
    match i, hi with
    | 0, _ => exact hk 0 (by decide)
    | 1, _ => exact hm 0 (by decide)
    | 2, _ => exact hs 0 (by decide)
    | 3, _ => exact hll 0 (by decide)
    | 4, _ => exact hff 0 (by decide)
theorem rd_act (n : Nat) : Rd Tryd.prog n 35 actAV := by
  intro H enc W sp cs d ps h hw
  obtain ⟨hl, hf⟩ := rd_fields Tryd.underlying35 h hw
  obtain ⟨k, _, hk⟩ := hf 0 _ strAV rfl (fun _ _ => rd_string (by rfl)) (by decide)
  obtain ⟨s, _, hs⟩ := hf 1 _ strAV rfl (fun _ _ => rd_string (by rfl)) (by decide)
  obtain ⟨t, _, ht⟩ := hf 2 _ strAV rfl (fun _ _ => rd_string (by rfl)) (by decide)
  obtain ⟨a, _, ha⟩ := hf 3 _ intAV rfl (fun _ _ => rd_int (by rfl)) (by decide)
  obtain ⟨b, _, hb⟩ := hf 4 _ intAV rfl (fun _ _ => rd_int (by rfl)) (by decide)
  obtain ⟨v, _, hv⟩ := hf 5 _ valIn rfl (fun _ _ => rd_val _) (by decide)
  obtain ⟨ns, _, hns⟩ := hf 6 _ (lstAV strAV) rfl (fun _ _ => rd_slice (by rfl) (by rfl) (by decide) (by decide) (fun _ => rfl) (fun _ _ => rd_string (by rfl))) (by decide)
  rw [valIn_eq] at hv
  refine ⟨⟨k, s, t, a, b, v, ns⟩, hl.symm, fun i hi => ?_⟩
  rw [hl] at hi
  replace hi : i < 11 := hi
  match i, hi with
  | 0, _ => exact hk 0 (by decide)
  | 1, _ => exact hs 0 (by decide)
  | 2, _ => exact ht 0 (by decide)
  | 3, _ => exact ha 0 (by decide)
  | 4, _ => exact hb 0 (by decide)
  | 5, _ => exact hv 0 (by decide)
  | 6, _ => exact hv 1 (by decide)
  | 7, _ => exact hv 2 (by decide)
  | 8, _ => exact hv 3 (by decide)
  | 9, _ => exact hv 4 (by decide)
  | 10, _ => exact hns 0 (by decide)
theorem okT_valN : ∀ (n : Nat) (v : Val), depV v < n → OkT (valIn v)
  | 0, _, h => absurd h (Nat.not_lt_zero _)
  | n + 1, v, h => by
    have e := depV_eq v
    rw [valIn_eq, valTop]
    have hl : ∀ w ∈ v.l, OkT (valIn w) := fun w hw => okT_valN n w (by have := depL_mem hw; omega)
    have hf : ∀ p ∈ v.f, OkT (fldIn p) := fun p hp => by
      have h2 := okT_valN n p.2 (by have := depF_mem hp; omega)
      rw [valIn_eq, valTop] at h2
      cases h2 with
      | agg _ h3 =>
        rw [fldIn_eq, fldTop]
        refine .agg _ fun y hy => ?_
        rcases List.mem_cons.1 hy with rfl | hy
        · exact .str _
        · exact h3 y hy
    refine .agg _ fun y hy => ?_
    simp only [List.mem_cons, List.not_mem_nil, or_false] at hy
    rcases hy with rfl | rfl | rfl | rfl | rfl
    · exact .int _ _ (by decide)
    · exact .int _ _ (by decide)
    · exact .str _
    · refine .slice _ (fun x hx => ?_) fun x hx y hy => ?_
      · obtain ⟨w, _, rfl⟩ := List.mem_map.1 hx
        exact fun e => by have := valIn_len w; rw [e] at this; cases this
      · obtain ⟨w, hw, rfl⟩ := List.mem_map.1 hx
        have h2 := hl w hw
        rw [valIn_eq, valTop] at h2
        rw [valIn_eq, valTop] at hy
        cases h2 with
        | agg _ h3 => exact h3 y hy
    · refine .slice _ (fun x hx => ?_) fun x hx y hy => ?_
      · obtain ⟨p, _, rfl⟩ := List.mem_map.1 hx
        exact fun e => by have := fldIn_len p; rw [e] at this; cases this
      · obtain ⟨p, hp, rfl⟩ := List.mem_map.1 hx
        have h2 := hf p hp
        rw [fldIn_eq, fldTop] at h2
        rw [fldIn_eq, fldTop] at hy
        cases h2 with
        | agg _ h3 => exact h3 y hy
theorem okT_val (v : Val) : OkT (valIn v) := okT_valN _ v (Nat.lt_succ_self _)
theorem okT_strs (l : List Str) : OkT (.slice false (l.map strAV)) := by
  refine .slice _ (fun x hx => ?_) fun x hx y hy => ?_
  · obtain ⟨s, _, rfl⟩ := List.mem_map.1 hx
    exact List.cons_ne_nil _ _
  · obtain ⟨s, _, rfl⟩ := List.mem_map.1 hx
    rw [List.mem_singleton.1 (show y ∈ [AV.str s] from hy)]; exact .str _
theorem okT_act (x : ActT) : ∀ y ∈ (actAV x).cells, OkT y := by
  intro y hy
  have h2 := okT_val x.v
  rw [valIn_eq] at h2
  have h3 : ∀ z ∈ (valTop x.v).cells, OkT z := by
    cases h2 with
    | agg _ h3 => exact h3
  replace hy : y ∈ [AV.str x.kind, .str x.s, .str x.t, .int .i64 x.a, .int .i64 x.b] ++ ((valTop x.v).cells ++ [.slice false (x.names.map strAV)]) := hy
  rcases List.mem_append.1 hy with hy | hy
  · simp only [List.mem_cons, List.not_mem_nil, or_false] at hy
    rcases hy with rfl | rfl | rfl | rfl | rfl
    · exact .str _
    · exact .str _
    · exact .str _
    · exact .int _ _ (by decide)
    · exact .int _ _ (by decide)
  · rcases List.mem_append.1 hy with hy | hy
    · exact h3 y hy
    · rw [List.mem_singleton.1 hy]; exact okT_strs _
theorem okT_acts (l : List ActT) : OkT (lstAV actAV l) := by
  refine .slice _ (fun x hx => ?_) fun x hx y hy => ?_
  · obtain ⟨p, _, rfl⟩ := List.mem_map.1 hx
    simp [actAV, AV.cells]
  · obtain ⟨p, hp, rfl⟩ := List.mem_map.1 hx
    exact okT_act p y hy
end Go.Proofs
end
