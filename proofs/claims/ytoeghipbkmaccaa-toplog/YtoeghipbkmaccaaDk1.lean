import Derived.Test.YtoeghipbkmaccaaProg
import Derived.Test.YtoeghipbkmaccaaMix
import Derived.Test.YtoeghipbkmaccaaWxh
import Derived.Test.YtoeghipbkmaccaaWl7
namespace Go.Proofs
open Go Go.Aw
set_option maxRecDepth 100000


def rebuild (l : List (Str × Str)) (seen : List Nat) : List (Str × Str) := seen.foldl (fun n i => match l[i]? with | some p => mput n p.1 p.2 | none => n) []
theorem rebuild_snoc {l : List (Str × Str)} {seen : List Nat} {k : Nat} {a b : Str} (h : l[k]? = some (a, b)) : rebuild l (seen ++ [k]) = mput (rebuild l seen) a b := by
  unfold rebuild; rw [List.foldl_append]; simp [h]
theorem mput_keys {l : List (Str × Str)} {k v : Str} : (mput l k v).map Prod.fst = if k ∈ l.map Prod.fst then l.map Prod.fst else l.map Prod.fst ++ [k] := by
  induction l with
  | nil => rfl
  | cons p r ih =>
    obtain ⟨a, b⟩ := p
    simp only [mput]
    split
    · rename_i h; subst h; simp
    · rename_i h
      simp only [List.map_cons, ih, List.mem_cons]
      by_cases hm : k ∈ r.map Prod.fst
      · rw [if_pos hm, if_pos (.inr hm)]
      · rw [if_neg hm, if_neg (by rintro (e | e); exact h e.symm; exact hm e)]; rfl
theorem mdel_sub (l : List (Str × Str)) (k : Str) : (mdel l k).Sublist l := by
  induction l with
  | nil => exact List.Sublist.refl _
  | cons p r ih =>
    obtain ⟨a, b⟩ := p
    simp only [mdel]
    split
    · exact List.sublist_cons_self _ _
    · exact ih.cons_cons _
theorem mput_nd {l : List (Str × Str)} {k v : Str} (h : (l.map Prod.fst).Nodup) : ((mput l k v).map Prod.fst).Nodup := by
  rw [mput_keys]
  split
  · exact h
  · rename_i hm
    exact List.nodup_append.2 ⟨h, by simp, fun a ha b hb e => by simp at hb; subst hb; subst e; exact hm ha⟩
theorem mdel_nd {l : List (Str × Str)} {k : Str} (h : (l.map Prod.fst).Nodup) : ((mdel l k).map Prod.fst).Nodup := h.sublist ((mdel_sub l k).map _)
theorem applyC_nd {l : List (Str × Str)} {c : Chg} (h : (l.map Prod.fst).Nodup) : ((applyC l c).map Prod.fst).Nodup := by
  unfold applyC
  split
  · exact mput_nd h
  · split
    · exact mput_nd h
    · split
      · exact mdel_nd (mput_nd h)
      · split
        · exact mdel_nd h
        · exact h
theorem applyL_len (l : List (Str × Str)) (cs : List Chg) : (applyL l cs).length ≤ l.length + cs.length := by
  induction cs generalizing l with
  | nil => simp [applyL]
  | cons c cs ih =>
    have h1 := ih (applyC l c)
    have h2 := applyC_len l c
    show (applyL (applyC l c) cs).length ≤ _
    simp only [List.length_cons]; omega
/-- What is kept behind a fall. -/
def restK (s : DSt) (keep torn : Int) : List (Str × Str) :=
  if keep < (s.wait.length : Int) ∧ (gI s.wait keep).kind ≤ 3 ∧ sub (gI s.wait keep).data 0 torn ≠ [] then applyC (applyL s.kept (s.wait.take keep.toNat)) { gI s.wait keep with data := sub (gI s.wait keep).data 0 torn }
  else applyL s.kept (s.wait.take keep.toNat)
def clampI (a : Int) (n : Nat) : Int := if (n : Int) < (if 0 > a then 0 else a) then n else (if 0 > a then 0 else a)
theorem clampI_b (a : Int) (n : Nat) : 0 ≤ clampI a n ∧ clampI a n ≤ n := by unfold clampI; split <;> (try split) <;> omega
theorem sub0_take {α : Type} (l : List α) (k : Int) : sub l 0 k = l.take k.toNat := by unfold sub; simp
theorem take_lenI {α : Type} {l : List α} {k : Int} (h0 : 0 ≤ k) (h1 : k ≤ l.length) : ((l.take k.toNat).length : Int) = k := by rw [List.length_take]; omega
def tornOf (s : DSt) (keep torn : Int) : Int := clampI torn (gI s.wait (clampI keep s.wait.length)).data.length
def restR (s : DSt) (keep torn : Int) : List (Str × Str) := restK s (clampI keep s.wait.length) (tornOf s keep torn)
theorem rev_ind {α : Type} {p : List α → Prop} (h0 : p []) (h1 : ∀ l a, p l → p (l ++ [a])) (l : List α) : p l := by
  have h : ∀ l : List α, p l.reverse := fun l => by
    induction l with
    | nil => exact h0
    | cons a l ih => rw [List.reverse_cons]; exact h1 _ _ ih
  have := h l.reverse
  rwa [List.reverse_reverse] at this
theorem nat_pigeon : ∀ (n : Nat) (l : List Nat), l.Nodup → (∀ i ∈ l, i < n) → l.length ≤ n
  | 0, [], _, _ => Nat.le_refl _
  | 0, a :: l, _, h => absurd (h a (by simp)) (by omega)
  | n + 1, l, hn, h => by
    have := nat_pigeon n (l.erase n) (hn.erase n) (fun i hi => by
      have h1 := (hn.mem_erase_iff).1 hi
      have := h i h1.2
      omega)
    by_cases hm : n ∈ l
    · have := List.length_erase_of_mem hm; omega
    · rw [List.erase_of_not_mem hm] at this; omega
theorem mget_none {l : List (Str × Str)} {k : Str} : mget l k = none ↔ k ∉ l.map Prod.fst := by
  induction l with
  | nil => simp [mget]
  | cons p r ih =>
    obtain ⟨a, b⟩ := p
    simp only [mget, List.map_cons, List.mem_cons]
    split
    · rename_i h; simp [h]
    · rename_i h; rw [ih]; simp [Ne.symm h]
theorem mput_fresh {l : List (Str × Str)} {k v : Str} (h : k ∉ l.map Prod.fst) : mput l k v = l ++ [(k, v)] := by
  induction l with
  | nil => rfl
  | cons p r ih =>
    obtain ⟨a, b⟩ := p
    simp only [List.map_cons, List.mem_cons, not_or] at h
    simp only [mput]
    rw [if_neg (Ne.symm h.1), ih h.2]; rfl
theorem rebuild_eq {l : List (Str × Str)} (hl : (l.map Prod.fst).Nodup) : ∀ (seen pre : List Nat), (pre ++ seen).Nodup → (∀ i ∈ pre ++ seen, i < l.length) → rebuild l (pre ++ seen) = rebuild l pre ++ seen.map (fun i => l.getD i ([], []))
  | [], pre, _, _ => by simp
  | k :: seen, pre, hn, hb => by
    have e : pre ++ k :: seen = (pre ++ [k]) ++ seen := by simp
    have hk : k < l.length := hb k (by simp)
    rw [e] at hn hb ⊢
    rw [rebuild_eq hl seen (pre ++ [k]) hn hb]
    have hp : ∀ (pre : List Nat), pre.Nodup → (∀ i ∈ pre, i < l.length) → rebuild l pre = pre.map (fun i => l.getD i ([], [])) := fun pre => by
      intro h1 h2
      revert h1 h2
      refine rev_ind (p := fun pre => pre.Nodup → (∀ i ∈ pre, i < l.length) → rebuild l pre = pre.map (fun i => l.getD i ([], []))) (fun _ _ => rfl) (fun pre j ih h1 h2 => ?_) pre
      · have hj : j < l.length := h2 j (by simp)
        rw [rebuild_snoc (a := l[j].1) (b := l[j].2) (by simp [hj]), ih (List.nodup_append.1 h1).1 (fun i hi => h2 i (by simp [hi]))]
        rw [mput_fresh]
        · simp [hj]
        · intro hc
          simp only [List.map_map, List.mem_map, Function.comp] at hc
          obtain ⟨i, hi, he⟩ := hc
          have hil : i < l.length := h2 i (by simp [hi])
          simp only [List.getD_eq_getElem?_getD, List.getElem?_eq_getElem hil, Option.getD_some] at he
          have : i = j := by
            have h3 := (List.nodup_iff_pairwise_ne.1 hl)
            rw [List.pairwise_iff_getElem] at h3
            rcases Nat.lt_trichotomy i j with h4 | h4 | h4
            · exact absurd (by rw [List.getElem_map, List.getElem_map]; simpa using he) (h3 i j (by simpa using hil) (by simpa using hj) h4)
            · exact h4
            · exact absurd (by rw [List.getElem_map, List.getElem_map]; simpa using he.symm) (h3 j i (by simpa using hj) (by simpa using hil) h4)
          subst this
          exact (List.nodup_append.1 h1).2.2 i hi i (by simp) rfl
    have hn2 := (List.nodup_append.1 hn).1
    rw [hp _ hn2 (fun i hi => hb i (by simp at hi ⊢; rcases hi with h | h <;> simp [h])), hp pre (List.nodup_append.1 hn2).1 (fun i hi => hb i (by simp [hi]))]
    simp
theorem rebuild_perm {l : List (Str × Str)} {seen : List Nat} (hl : (l.map Prod.fst).Nodup) (hn : seen.Nodup) (hb : ∀ i ∈ seen, i < l.length) (ha : ∀ i, i < l.length → i ∈ seen) : (rebuild l seen).Perm l := by
  have := rebuild_eq hl seen [] (by simpa using hn) (by simpa using hb)
  simp only [List.nil_append] at this
  rw [this]
  have hp : seen.Perm (List.range l.length) := (List.perm_ext_iff_of_nodup hn List.nodup_range).2 fun i => ⟨fun h => List.mem_range.2 (hb i h), fun h => ha i (List.mem_range.1 h)⟩
  refine (hp.map _).trans ?_
  have e : (List.range l.length).map (fun i => l.getD i ([], [])) = l := by
    refine List.ext_getElem (by simp) fun i h1 h2 => ?_
    simp only [List.getElem_map, List.getElem_range]
    simp [h2]
  show ((List.range l.length).map (fun i => l.getD i ([], []))).Perm l
  rw [e]
theorem seen_len {l : List (Str × Str)} {seen : List Nat} (hn : seen.Nodup) (hb : ∀ i ∈ seen, i < l.length) : seen.length ≤ l.length := by
  exact nat_pigeon _ _ hn hb
theorem rebuild_len (l : List (Str × Str)) (seen : List Nat) : (rebuild l seen).length ≤ seen.length := by
  refine rev_ind (p := fun seen => (rebuild l seen).length ≤ seen.length) (by simp [rebuild]) (fun pre j ih => ?_) seen
  · cases h : l[j]? with
    | none => unfold rebuild at ih ⊢; rw [List.foldl_append]; simp [h]; omega
    | some p =>
      rw [rebuild_snoc (a := p.1) (b := p.2) h]
      have := mput_len (rebuild l pre) p.1 p.2
      simp; omega
theorem applyL_nd {l : List (Str × Str)} {cs : List Chg} (h : (l.map Prod.fst).Nodup) : ((applyL l cs).map Prod.fst).Nodup := by
  induction cs generalizing l with
  | nil => exact h
  | cons c cs ih => exact ih (applyC_nd h)
theorem restR_len (s : DSt) (keep torn : Int) : (restR s keep torn).length ≤ s.kept.length + s.wait.length + 1 := by
  have h := applyL_len s.kept (s.wait.take (clampI keep s.wait.length).toNat)
  rw [List.length_take] at h
  unfold restR restK
  split
  · refine Nat.le_trans (applyC_len _ _) ?_
    omega
  · omega
theorem restR_nd {s : DSt} (h : (s.kept.map Prod.fst).Nodup) (keep torn : Int) : ((restR s keep torn).map Prod.fst).Nodup := by
  unfold restR restK
  split
  · exact applyC_nd (applyL_nd h)
  · exact applyL_nd h
theorem rstep {l nw : List (Str × Str)} {seen : List Nat} {k : Nat} {a b : Str} (h1 : seen.Nodup) (h2 : ∀ i ∈ seen, i < l.length) (h3 : nw = rebuild l seen) (hp : l[k]? = some (a, b)) (hn : ¬ k ∈ seen) : (seen ++ [k]).Nodup ∧ (∀ i ∈ seen ++ [k], i < l.length) ∧ mput nw a b = rebuild l (seen ++ [k]) := by
  have hk := (List.getElem?_eq_some_iff.1 hp).1
  refine ⟨List.nodup_append.2 ⟨h1, by simp, fun i hi j hj e => by simp at hj; subst hj; subst e; exact hn hi⟩, fun i hi => ?_, by rw [rebuild_snoc hp, h3]⟩
  rcases List.mem_append.1 hi with h | h
  · exact h2 i h
  · simp at h; omega
theorem rdec {l : List (Str × Str)} {seen : List Nat} {k : Nat} {p : Str × Str} (h1 : seen.Nodup) (h2 : ∀ i ∈ seen, i < l.length) (hp : l[k]? = some p) (hn : ¬ k ∈ seen) : l.length - (seen ++ [k]).length < l.length - seen.length := by
  have h := (rstep (nw := rebuild l seen) h1 h2 rfl (a := p.1) (b := p.2) hp hn)
  have := seen_len h.1 h.2.1
  simp at this ⊢
  omega

theorem u_Arm (d kb nb : Nat) (s : DSt) (n : Int)  (m : AMem)  (K : AV → AMem → Prop) (hK : K (.tuple []) (AMem.wth m [(d, dObj kb nb { s with fuse := if -1 > n then -1 else n })])) : ACalls Try.prog 37 [.ptr ⟨d, 0, none⟩, .int .i64 n] (AMem.wth m [(d, dObj kb nb s)]) K := by
 refine acalls_enter Try.func37 rfl (by decide) (Nat.le_of_ble_eq_true rfl) ?_
 show AWP _ _ _ _ [(0, .ptr ⟨d, 0, none⟩), (1, .int .i64 n)] (AMem.wth m [(d, dObj kb nb s)])
 refine awp_reg2 [] [] (by decide) ?_
 intro K1 hK1
 refine ⟨trivial, trivial, trivial, trivial, ⟨rfl, by decide⟩, ?_⟩
 refine ar_storep rfl 0 (m := m) (L := [(d, dObj kb nb s)]) (v := .int .i64 (if -1 > n then -1 else n)) (l' := [.map kb, .map nb, .slice true (s.wait.map chgAV), .int .i64 (if -1 > n then -1 else n), .bool s.down, .int .i64 s.steps]) rfl rfl (nodup_1 d) rfl rfl rfl rfl rfl (Nat.le_of_ble_eq_true rfl) rfl ?_
 show K1 [] (AMem.wth m [(d, .cells [.map kb, .map nb, .slice true (s.wait.map chgAV), .int .i64 (if -1 > n then -1 else n), .bool s.down, .int .i64 s.steps])])
 refine hK1 _ _ ?_; clear hK1 K1
 refine ⟨(AMem.wth m [(d, .cells [.map kb, .map nb, .slice true (s.wait.map chgAV), .int .i64 (if -1 > n then -1 else n), .bool s.down, .int .i64 s.steps])]), fun _ _ h => h, ?_⟩
 show K (.tuple []) (AMem.wth m [(d, .cells [.map kb, .map nb, .slice true (s.wait.map chgAV), .int .i64 (if -1 > n then -1 else n), .bool s.down, .int .i64 s.steps])])

 exact hK

set_option maxHeartbeats 16000000 in
theorem u_Restart (d kb nb : Nat) (s : DSt) (keep torn : Int) (N : Nat) (hN : [d, kb].Nodup) (hD : DInv N s) (hNN : N ≤ 100000) (hk : (s.kept.map Prod.fst).Nodup) (m : AMem)  (K : AV → AMem → Prop) (hK : ∀ q, ([q, d, kb] : List Nat).Nodup → m q = none → ∀ nw, nw.Perm (restR s keep torn) → K (.tuple []) (AMem.wth m [(q, mObj nw), (d, dObj kb q ⟨restR s keep torn, nw, [], -1, false, s.steps⟩), (kb, mObj (restR s keep torn))])) : ACalls Try.prog 38 [.ptr ⟨d, 0, none⟩, .int .i64 keep, .int .i64 torn] (AMem.wth m [(d, dObj kb nb s), (kb, mObj s.kept)]) K := by
 have hcl := clampI_b keep s.wait.length
 have hwl := hD.kl
 have hrl := restR_len s keep torn
 refine acalls_enter Try.func38 rfl (by decide) (Nat.le_of_ble_eq_true rfl) ?_
 show AWP _ _ _ _ [(0, .ptr ⟨d, 0, none⟩), (1, .int .i64 keep), (2, .int .i64 torn)] (AMem.wth m [(d, dObj kb nb s), (kb, mObj s.kept)])
 refine awp_reg2_seq [] [0, 1, 2] (by decide) ?_
 intro K1 hK1
 refine ⟨trivial, trivial, trivial, trivial, ⟨rfl, by decide⟩, ?_⟩
 refine ar_loadp rfl (m := m) (L := [(d, dObj kb nb s), (kb, mObj s.kept)]) (v := .slice false (s.wait.map chgAV)) rfl (wth_get 0 hN rfl) rfl (apartOk_one rfl rfl (Nat.le_of_ble_eq_true rfl)) rfl ?_
 refine ar_len rfl chgAV s.wait rfl rfl rfl ?_
 refine ⟨trivial, trivial, ?_⟩
 show K1 [(0, .ptr ⟨d, 0, none⟩), (1, .int .i64 (if (s.wait.length : Int) < if 0 > keep then 0 else keep then (s.wait.length : Int) else if 0 > keep then 0 else keep)), (2, .int .i64 torn)] (AMem.wth m [(d, dObj kb nb s), (kb, mObj s.kept)])
 refine hK1 _ _ ?_; clear hK1 K1
 
 show AWP _ _ _ _ [(0, .ptr ⟨d, 0, none⟩), (1, .int .i64 (clampI keep s.wait.length)), (2, .int .i64 torn)] (AMem.wth m [(d, dObj kb nb s), (kb, mObj s.kept)])
 refine awp_seq_k ?_; intro K2 hK2
 refine awp_reg2_seq [] [0, 1, 2, 24, 25, 26] (by decide) ?_
 intro K1 hK1
 refine ⟨trivial, trivial, ⟨rfl, by decide⟩, ?_⟩
 refine ar_loadp rfl (m := m) (L := [(d, dObj kb nb s), (kb, mObj s.kept)]) (v := .slice false (s.wait.map chgAV)) rfl (wth_get 0 hN rfl) rfl (apartOk_one rfl rfl (Nat.le_of_ble_eq_true rfl)) rfl ?_
 refine ⟨trivial, ?_⟩
 refine ar_slice rfl chgAV s.wait 0 (clampI keep s.wait.length) rfl rfl rfl rfl rfl rfl (fun _ => rfl) (by omega) (by omega) (by omega) ?_
 refine ar_len rfl chgAV (sub s.wait 0 (clampI keep s.wait.length)) rfl rfl rfl ?_
 refine ⟨trivial, ?_⟩
 show K1 [(0, .ptr ⟨d, 0, none⟩), (1, .int .i64 (clampI keep s.wait.length)), (2, .int .i64 torn), (24, .slice false ((sub s.wait 0 (clampI keep s.wait.length)).map chgAV)), (25, .int .i64 ((sub s.wait 0 (clampI keep s.wait.length)).length : Int)), (26, .int .i64 0)] (AMem.wth m [(d, dObj kb nb s), (kb, mObj s.kept)])
 refine hK1 _ _ ?_; clear hK1 K1
 rw [sub0_take, take_lenI hcl.1 hcl.2]
 show AWP _ _ _ _ [(0, .ptr ⟨d, 0, none⟩), (1, .int .i64 (clampI keep s.wait.length)), (2, .int .i64 torn), (24, .slice false ((s.wait.take (clampI keep s.wait.length).toNat).map chgAV)), (25, .int .i64 (clampI keep s.wait.length)), (26, .int .i64 0)] (AMem.wth m [(d, dObj kb nb s), (kb, mObj s.kept)])
 refine awp_block ?_
 refine awp_keep [0, 1, 2, 24, 25, 26] (by decide) ?_
 refine awp_loop_st (σ := Int × (List (Str × Str))) (fun ⟨i, kp⟩ => [(0, .ptr ⟨d, 0, none⟩), (1, .int .i64 (clampI keep s.wait.length)), (2, .int .i64 torn), (24, .slice false ((s.wait.take (clampI keep s.wait.length).toNat).map chgAV)), (25, .int .i64 (clampI keep s.wait.length)), (26, .int .i64 i)]) (fun ⟨i, kp⟩ => (AMem.wth m [(d, dObj kb nb s), (kb, mObj kp)])) (fun ⟨i, kp⟩ => 0 ≤ i ∧ i ≤ clampI keep s.wait.length ∧ kp = applyL s.kept ((s.wait.take (clampI keep s.wait.length).toNat).take i.toNat)) (fun ⟨i, kp⟩ => (clampI keep s.wait.length - i).toNat) (0, s.kept) rfl rfl ?_ ?_
 ·
  show 0 ≤ ((0 : Int)) ∧ ((0 : Int)) ≤ clampI keep s.wait.length ∧ ((s.kept : (List (Str × Str)))) = applyL s.kept ((s.wait.take (clampI keep s.wait.length).toNat).take ((0 : Int)).toNat)
  exact ⟨by omega, hcl.1, rfl⟩
 ·
  rintro ⟨i, kp⟩ hI
  replace hI : 0 ≤ i ∧ i ≤ clampI keep s.wait.length ∧ kp = applyL s.kept ((s.wait.take (clampI keep s.wait.length).toNat).take i.toNat) := hI
  show AWP _ _ _ _ [(0, .ptr ⟨d, 0, none⟩), (1, .int .i64 (clampI keep s.wait.length)), (2, .int .i64 torn), (24, .slice false ((s.wait.take (clampI keep s.wait.length).toNat).map chgAV)), (25, .int .i64 (clampI keep s.wait.length)), (26, .int .i64 i)] (AMem.wth m [(d, dObj kb nb s), (kb, mObj kp)])
  refine awp_reg2_seq [] [0, 1, 2, 24, 25, 26, 27] (by decide) ?_
  intro K1 hK1
  refine ⟨trivial, ?_⟩
  show K1 [(0, .ptr ⟨d, 0, none⟩), (1, .int .i64 (clampI keep s.wait.length)), (2, .int .i64 torn), (24, .slice false ((s.wait.take (clampI keep s.wait.length).toNat).map chgAV)), (25, .int .i64 (clampI keep s.wait.length)), (26, .int .i64 i), (27, .bool (decide (i < clampI keep s.wait.length)))] (AMem.wth m [(d, dObj kb nb s), (kb, mObj kp)])
  refine hK1 _ _ ?_; clear hK1 K1
  refine awp_seq_k ?_; intro K3 hK3
  refine awp_cond rfl rfl (fun h1 => ?_) (fun h1 => ?_)
  ·
   replace h1 : i < clampI keep s.wait.length := (of_decide_eq_true h1)
   have hwm : gI (s.wait.take (clampI keep s.wait.length).toNat) i ∈ s.wait := List.mem_of_mem_take (gI_mem hI.1 (by rw [take_lenI hcl.1 hcl.2]; exact h1))
   have hcd := hD.cd _ hwm
   have hap := applyL_bnd (cs := (s.wait.take (clampI keep s.wait.length).toNat).take i.toNat) (fun c hc => hD.cd c (List.mem_of_mem_take (List.mem_of_mem_take hc))) (l := s.kept) (B := 400000000) (fun p hp => by have := hD.kb p hp; omega)
   rw [← hI.2.2, List.length_take, List.length_take] at hap
   refine awp_skip ?_
   refine hK3 _ _ ?_; clear hK3
   refine awp_seq_k ?_; intro K4 hK4
   refine awp_block ?_
   refine awp_reg2_seq [] [0, 1, 2, 7, 24, 25, 26] (by decide) ?_
   intro K1 hK1
   refine ar_index rfl chgAV (s.wait.take (clampI keep s.wait.length).toNat) i rfl rfl rfl rfl rfl (by decide) (fun _ => rfl) (by omega) (by first | omega | (rw [take_lenI hcl.1 hcl.2]; omega)) ?_
   refine ⟨(apartOk_agg rfl rfl (Nat.le_of_ble_eq_true rfl)), ?_⟩
   refine ar_alloc rfl (m := m) (L := [(d, dObj kb nb s), (kb, mObj kp)]) (z := .agg [.str ([]), .str ([]), .str ([]), .int .i64 0]) rfl rfl ?_
   intro b1 hb1
   have hFb1 : m b1 = none := wth_none (m := m) (L := [(d, dObj kb nb s), (kb, mObj kp)]) hb1
   have hNb1 : ([b1, d, kb] : List Nat).Nodup := wth_nodup (m := m) (L := [(d, dObj kb nb s), (kb, mObj kp)]) hb1 hN
   refine ar_storep rfl 0 (m := m) (L := [(b1, .cells [.str ([]), .str ([]), .str ([]), .int .i64 0]), (d, dObj kb nb s), (kb, mObj kp)]) (v := chgAV (gI (s.wait.take (clampI keep s.wait.length).toNat) i)) (l' := [.str ((gI (s.wait.take (clampI keep s.wait.length).toNat) i).name), .str ((gI (s.wait.take (clampI keep s.wait.length).toNat) i).data), .str ((gI (s.wait.take (clampI keep s.wait.length).toNat) i).to), .int .i64 ((gI (s.wait.take (clampI keep s.wait.length).toNat) i).kind)]) rfl (by rfl) hNb1 rfl rfl rfl rfl rfl (Nat.le_of_ble_eq_true rfl) rfl ?_
   show K1 [(0, .ptr ⟨d, 0, none⟩), (1, .int .i64 (clampI keep s.wait.length)), (2, .int .i64 torn), (7, .ptr ⟨b1, 0, none⟩), (24, .slice false ((s.wait.take (clampI keep s.wait.length).toNat).map chgAV)), (25, .int .i64 (clampI keep s.wait.length)), (26, .int .i64 i)] (AMem.wth m [(b1, .cells [.str ((gI (s.wait.take (clampI keep s.wait.length).toNat) i).name), .str ((gI (s.wait.take (clampI keep s.wait.length).toNat) i).data), .str ((gI (s.wait.take (clampI keep s.wait.length).toNat) i).to), .int .i64 ((gI (s.wait.take (clampI keep s.wait.length).toNat) i).kind)]), (d, dObj kb nb s), (kb, mObj kp)])
   refine hK1 _ _ ?_; clear hK1 K1
   refine awp_anyA Try.mixed [0, 1, 2, 24, 25, 26] (by decide) ?_
   intro K1 hK1
   intro A hA
   suffices key : ∀ (_ : True), K1 [(0, .ptr ⟨d, 0, none⟩), (1, .int .i64 (clampI keep s.wait.length)), (2, .int .i64 torn), (24, .slice false ((s.wait.take (clampI keep s.wait.length).toNat).map chgAV)), (25, .int .i64 (clampI keep s.wait.length)), (26, .int .i64 i)] (AMem.wth m [(b1, .cells [.str ((gI (s.wait.take (clampI keep s.wait.length).toNat) i).name), .str ((gI (s.wait.take (clampI keep s.wait.length).toNat) i).data), .str ((gI (s.wait.take (clampI keep s.wait.length).toNat) i).to), .int .i64 ((gI (s.wait.take (clampI keep s.wait.length).toNat) i).kind)]), (d, dObj kb nb s), (kb, mObj (applyC kp (gI (s.wait.take (clampI keep s.wait.length).toNat) i)))]) by
    have s0 : ∀ (_ : True), A 0 #[true, true, true, true, true, true] (fun fr m => K1 (fr.keep [0, 1, 2, 24, 25, 26]) m) [(0, .ptr ⟨d, 0, none⟩), (1, .int .i64 (clampI keep s.wait.length)), (2, .int .i64 torn), (24, .slice false ((s.wait.take (clampI keep s.wait.length).toNat).map chgAV)), (25, .int .i64 (clampI keep s.wait.length)), (26, .int .i64 i)] (AMem.wth m [(b1, .cells [.str ((gI (s.wait.take (clampI keep s.wait.length).toNat) i).name), .str ((gI (s.wait.take (clampI keep s.wait.length).toNat) i).data), .str ((gI (s.wait.take (clampI keep s.wait.length).toNat) i).to), .int .i64 ((gI (s.wait.take (clampI keep s.wait.length).toNat) i).kind)]), (d, dObj kb nb s), (kb, mObj (applyC kp (gI (s.wait.take (clampI keep s.wait.length).toNat) i)))]) := by
     intro _
     subst hA
     exact AAny.done (by decide +kernel) (key trivial)
    have s1 : ∀ (_ : True), A 1 #[true, true, true, true, true, false] (fun fr m => K1 (fr.keep [0, 1, 2, 24, 25, 26]) m) [(0, .ptr ⟨d, 0, none⟩), (1, .int .i64 (clampI keep s.wait.length)), (2, .int .i64 torn), (24, .slice false ((s.wait.take (clampI keep s.wait.length).toNat).map chgAV)), (25, .int .i64 (clampI keep s.wait.length)), (26, .int .i64 i), (33, .map kb), (34, .agg [.str ((gI (s.wait.take (clampI keep s.wait.length).toNat) i).name), .str ((gI (s.wait.take (clampI keep s.wait.length).toNat) i).data), .str ((gI (s.wait.take (clampI keep s.wait.length).toNat) i).to), .int .i64 ((gI (s.wait.take (clampI keep s.wait.length).toNat) i).kind)])] (AMem.wth m [(b1, .cells [.str ((gI (s.wait.take (clampI keep s.wait.length).toNat) i).name), .str ((gI (s.wait.take (clampI keep s.wait.length).toNat) i).data), .str ((gI (s.wait.take (clampI keep s.wait.length).toNat) i).to), .int .i64 ((gI (s.wait.take (clampI keep s.wait.length).toNat) i).kind)]), (d, dObj kb nb s), (kb, mObj kp)]) := by
     intro _
     subst hA
     refine AAny.step [] [5] (by decide +kernel) (by simp) (by decide) ⟨?_, trivial⟩
     ·
      show aopsR _ _ _ [_] _ _ _
      refine ar_mem (wth_split hNb1 (pick_perm [2] _)) ?_
      refine u_apply kb kp (gI (s.wait.take (clampI keep s.wait.length).toNat) i) (by have := hap.1; omega) (fun p hp => by have := hap.2 p hp; omega) (by first | omega | (dsimp only; omega)) _ _ ?_
      show aopsR _ _ _ _ _ _ (AMem.wth (AMem.wth m [(b1, .cells [.str ((gI (s.wait.take (clampI keep s.wait.length).toNat) i).name), .str ((gI (s.wait.take (clampI keep s.wait.length).toNat) i).data), .str ((gI (s.wait.take (clampI keep s.wait.length).toNat) i).to), .int .i64 ((gI (s.wait.take (clampI keep s.wait.length).toNat) i).kind)]), (d, dObj kb nb s)]) [(kb, mObj (applyC kp (gI (s.wait.take (clampI keep s.wait.length).toNat) i)))])
      refine ar_mem (wth_split (m := m) (L := [(b1, .cells [.str ((gI (s.wait.take (clampI keep s.wait.length).toNat) i).name), .str ((gI (s.wait.take (clampI keep s.wait.length).toNat) i).data), .str ((gI (s.wait.take (clampI keep s.wait.length).toNat) i).to), .int .i64 ((gI (s.wait.take (clampI keep s.wait.length).toNat) i).kind)]), (d, dObj kb nb s), (kb, mObj (applyC kp (gI (s.wait.take (clampI keep s.wait.length).toNat) i)))]) hNb1 (pick_perm [2] _)).symm ?_
      refine AAny.keep [0, 1, 2, 24, 25, 26] (by decide) ?_
      exact s0 trivial
    have s2 : ∀ (_ : True), A 2 #[true, true, true, true, false, false] (fun fr m => K1 (fr.keep [0, 1, 2, 24, 25, 26]) m) [(0, .ptr ⟨d, 0, none⟩), (1, .int .i64 (clampI keep s.wait.length)), (2, .int .i64 torn), (7, .ptr ⟨b1, 0, none⟩), (24, .slice false ((s.wait.take (clampI keep s.wait.length).toNat).map chgAV)), (25, .int .i64 (clampI keep s.wait.length)), (26, .int .i64 i), (33, .map kb)] (AMem.wth m [(b1, .cells [.str ((gI (s.wait.take (clampI keep s.wait.length).toNat) i).name), .str ((gI (s.wait.take (clampI keep s.wait.length).toNat) i).data), .str ((gI (s.wait.take (clampI keep s.wait.length).toNat) i).to), .int .i64 ((gI (s.wait.take (clampI keep s.wait.length).toNat) i).kind)]), (d, dObj kb nb s), (kb, mObj kp)]) := by
     intro _
     subst hA
     refine AAny.step [] [4] (by decide +kernel) (by simp) (by decide) ⟨?_, trivial⟩
     ·
      show aopsR _ _ _ [_] _ _ _
      refine ar_loadp rfl (m := m) (L := [(b1, .cells [.str ((gI (s.wait.take (clampI keep s.wait.length).toNat) i).name), .str ((gI (s.wait.take (clampI keep s.wait.length).toNat) i).data), .str ((gI (s.wait.take (clampI keep s.wait.length).toNat) i).to), .int .i64 ((gI (s.wait.take (clampI keep s.wait.length).toNat) i).kind)]), (d, dObj kb nb s), (kb, mObj kp)]) (v := .agg [.str ((gI (s.wait.take (clampI keep s.wait.length).toNat) i).name), .str ((gI (s.wait.take (clampI keep s.wait.length).toNat) i).data), .str ((gI (s.wait.take (clampI keep s.wait.length).toNat) i).to), .int .i64 ((gI (s.wait.take (clampI keep s.wait.length).toNat) i).kind)]) rfl (wth_get 0 hNb1 rfl) rfl (apartOk_agg rfl rfl (Nat.le_of_ble_eq_true rfl)) rfl ?_
      refine AAny.keep [0, 1, 2, 24, 25, 26, 33, 34] (by decide) ?_
      exact s1 trivial
    have s3 : ∀ (_ : True), A 2 #[true, true, true, false, true, false] (fun fr m => K1 (fr.keep [0, 1, 2, 24, 25, 26]) m) [(0, .ptr ⟨d, 0, none⟩), (1, .int .i64 (clampI keep s.wait.length)), (2, .int .i64 torn), (24, .slice false ((s.wait.take (clampI keep s.wait.length).toNat).map chgAV)), (25, .int .i64 (clampI keep s.wait.length)), (26, .int .i64 i), (32, .ptr ⟨d, 0, none⟩), (34, .agg [.str ((gI (s.wait.take (clampI keep s.wait.length).toNat) i).name), .str ((gI (s.wait.take (clampI keep s.wait.length).toNat) i).data), .str ((gI (s.wait.take (clampI keep s.wait.length).toNat) i).to), .int .i64 ((gI (s.wait.take (clampI keep s.wait.length).toNat) i).kind)])] (AMem.wth m [(b1, .cells [.str ((gI (s.wait.take (clampI keep s.wait.length).toNat) i).name), .str ((gI (s.wait.take (clampI keep s.wait.length).toNat) i).data), .str ((gI (s.wait.take (clampI keep s.wait.length).toNat) i).to), .int .i64 ((gI (s.wait.take (clampI keep s.wait.length).toNat) i).kind)]), (d, dObj kb nb s), (kb, mObj kp)]) := by
     intro _
     subst hA
     refine AAny.step [] [3] (by decide +kernel) (by simp) (by decide) ⟨?_, trivial⟩
     ·
      show aopsR _ _ _ [_] _ _ _
      refine ar_loadp rfl (m := m) (L := [(b1, .cells [.str ((gI (s.wait.take (clampI keep s.wait.length).toNat) i).name), .str ((gI (s.wait.take (clampI keep s.wait.length).toNat) i).data), .str ((gI (s.wait.take (clampI keep s.wait.length).toNat) i).to), .int .i64 ((gI (s.wait.take (clampI keep s.wait.length).toNat) i).kind)]), (d, dObj kb nb s), (kb, mObj kp)]) (v := .map kb) rfl (wth_get 1 hNb1 rfl) rfl (apartOk_one rfl rfl (Nat.le_of_ble_eq_true rfl)) rfl ?_
      refine AAny.keep [0, 1, 2, 24, 25, 26, 33, 34] (by decide) ?_
      exact s1 trivial
    have s4 : ∀ (_ : True), A 3 #[true, true, true, false, false, false] (fun fr m => K1 (fr.keep [0, 1, 2, 24, 25, 26]) m) [(0, .ptr ⟨d, 0, none⟩), (1, .int .i64 (clampI keep s.wait.length)), (2, .int .i64 torn), (7, .ptr ⟨b1, 0, none⟩), (24, .slice false ((s.wait.take (clampI keep s.wait.length).toNat).map chgAV)), (25, .int .i64 (clampI keep s.wait.length)), (26, .int .i64 i), (32, .ptr ⟨d, 0, none⟩)] (AMem.wth m [(b1, .cells [.str ((gI (s.wait.take (clampI keep s.wait.length).toNat) i).name), .str ((gI (s.wait.take (clampI keep s.wait.length).toNat) i).data), .str ((gI (s.wait.take (clampI keep s.wait.length).toNat) i).to), .int .i64 ((gI (s.wait.take (clampI keep s.wait.length).toNat) i).kind)]), (d, dObj kb nb s), (kb, mObj kp)]) := by
     intro _
     subst hA
     refine AAny.step [] [3, 4] (by decide +kernel) (by simp) (by decide) ⟨?_, ?_, trivial⟩
     ·
      show aopsR _ _ _ [_] _ _ _
      refine ar_loadp rfl (m := m) (L := [(b1, .cells [.str ((gI (s.wait.take (clampI keep s.wait.length).toNat) i).name), .str ((gI (s.wait.take (clampI keep s.wait.length).toNat) i).data), .str ((gI (s.wait.take (clampI keep s.wait.length).toNat) i).to), .int .i64 ((gI (s.wait.take (clampI keep s.wait.length).toNat) i).kind)]), (d, dObj kb nb s), (kb, mObj kp)]) (v := .map kb) rfl (wth_get 1 hNb1 rfl) rfl (apartOk_one rfl rfl (Nat.le_of_ble_eq_true rfl)) rfl ?_
      refine AAny.keep [0, 1, 2, 7, 24, 25, 26, 33] (by decide) ?_
      exact s2 trivial
     ·
      show aopsR _ _ _ [_] _ _ _
      refine ar_loadp rfl (m := m) (L := [(b1, .cells [.str ((gI (s.wait.take (clampI keep s.wait.length).toNat) i).name), .str ((gI (s.wait.take (clampI keep s.wait.length).toNat) i).data), .str ((gI (s.wait.take (clampI keep s.wait.length).toNat) i).to), .int .i64 ((gI (s.wait.take (clampI keep s.wait.length).toNat) i).kind)]), (d, dObj kb nb s), (kb, mObj kp)]) (v := .agg [.str ((gI (s.wait.take (clampI keep s.wait.length).toNat) i).name), .str ((gI (s.wait.take (clampI keep s.wait.length).toNat) i).data), .str ((gI (s.wait.take (clampI keep s.wait.length).toNat) i).to), .int .i64 ((gI (s.wait.take (clampI keep s.wait.length).toNat) i).kind)]) rfl (wth_get 0 hNb1 rfl) rfl (apartOk_agg rfl rfl (Nat.le_of_ble_eq_true rfl)) rfl ?_
      refine AAny.keep [0, 1, 2, 24, 25, 26, 32, 34] (by decide) ?_
      exact s3 trivial
    have s5 : ∀ (_ : True), A 3 #[true, true, false, false, true, false] (fun fr m => K1 (fr.keep [0, 1, 2, 24, 25, 26]) m) [(0, .ptr ⟨d, 0, none⟩), (1, .int .i64 (clampI keep s.wait.length)), (2, .int .i64 torn), (24, .slice false ((s.wait.take (clampI keep s.wait.length).toNat).map chgAV)), (25, .int .i64 (clampI keep s.wait.length)), (26, .int .i64 i), (31, .ptr ⟨d, 0, none⟩), (34, .agg [.str ((gI (s.wait.take (clampI keep s.wait.length).toNat) i).name), .str ((gI (s.wait.take (clampI keep s.wait.length).toNat) i).data), .str ((gI (s.wait.take (clampI keep s.wait.length).toNat) i).to), .int .i64 ((gI (s.wait.take (clampI keep s.wait.length).toNat) i).kind)])] (AMem.wth m [(b1, .cells [.str ((gI (s.wait.take (clampI keep s.wait.length).toNat) i).name), .str ((gI (s.wait.take (clampI keep s.wait.length).toNat) i).data), .str ((gI (s.wait.take (clampI keep s.wait.length).toNat) i).to), .int .i64 ((gI (s.wait.take (clampI keep s.wait.length).toNat) i).kind)]), (d, dObj kb nb s), (kb, mObj kp)]) := by
     intro _
     subst hA
     refine AAny.step [] [2] (by decide +kernel) (by simp) (by decide) ⟨?_, trivial⟩
     ·
      show aopsR _ _ _ [_] _ _ _
      refine ⟨⟨rfl, by decide⟩, ?_⟩
      refine AAny.keep [0, 1, 2, 24, 25, 26, 32, 34] (by decide) ?_
      exact s3 trivial
    have s6 : ∀ (_ : True), A 4 #[true, true, false, false, false, false] (fun fr m => K1 (fr.keep [0, 1, 2, 24, 25, 26]) m) [(0, .ptr ⟨d, 0, none⟩), (1, .int .i64 (clampI keep s.wait.length)), (2, .int .i64 torn), (7, .ptr ⟨b1, 0, none⟩), (24, .slice false ((s.wait.take (clampI keep s.wait.length).toNat).map chgAV)), (25, .int .i64 (clampI keep s.wait.length)), (26, .int .i64 i), (31, .ptr ⟨d, 0, none⟩)] (AMem.wth m [(b1, .cells [.str ((gI (s.wait.take (clampI keep s.wait.length).toNat) i).name), .str ((gI (s.wait.take (clampI keep s.wait.length).toNat) i).data), .str ((gI (s.wait.take (clampI keep s.wait.length).toNat) i).to), .int .i64 ((gI (s.wait.take (clampI keep s.wait.length).toNat) i).kind)]), (d, dObj kb nb s), (kb, mObj kp)]) := by
     intro _
     subst hA
     refine AAny.step [] [2, 4] (by decide +kernel) (by simp) (by decide) ⟨?_, ?_, trivial⟩
     ·
      show aopsR _ _ _ [_] _ _ _
      refine ⟨⟨rfl, by decide⟩, ?_⟩
      refine AAny.keep [0, 1, 2, 7, 24, 25, 26, 32] (by decide) ?_
      exact s4 trivial
     ·
      show aopsR _ _ _ [_] _ _ _
      refine ar_loadp rfl (m := m) (L := [(b1, .cells [.str ((gI (s.wait.take (clampI keep s.wait.length).toNat) i).name), .str ((gI (s.wait.take (clampI keep s.wait.length).toNat) i).data), .str ((gI (s.wait.take (clampI keep s.wait.length).toNat) i).to), .int .i64 ((gI (s.wait.take (clampI keep s.wait.length).toNat) i).kind)]), (d, dObj kb nb s), (kb, mObj kp)]) (v := .agg [.str ((gI (s.wait.take (clampI keep s.wait.length).toNat) i).name), .str ((gI (s.wait.take (clampI keep s.wait.length).toNat) i).data), .str ((gI (s.wait.take (clampI keep s.wait.length).toNat) i).to), .int .i64 ((gI (s.wait.take (clampI keep s.wait.length).toNat) i).kind)]) rfl (wth_get 0 hNb1 rfl) rfl (apartOk_agg rfl rfl (Nat.le_of_ble_eq_true rfl)) rfl ?_
      refine AAny.keep [0, 1, 2, 24, 25, 26, 31, 34] (by decide) ?_
      exact s5 trivial
    have s7 : ∀ (_ : True), A 4 #[true, false, false, false, true, false] (fun fr m => K1 (fr.keep [0, 1, 2, 24, 25, 26]) m) [(0, .ptr ⟨d, 0, none⟩), (1, .int .i64 (clampI keep s.wait.length)), (2, .int .i64 torn), (24, .slice false ((s.wait.take (clampI keep s.wait.length).toNat).map chgAV)), (25, .int .i64 (clampI keep s.wait.length)), (26, .int .i64 i), (30, .ptr ⟨d, 0, none⟩), (34, .agg [.str ((gI (s.wait.take (clampI keep s.wait.length).toNat) i).name), .str ((gI (s.wait.take (clampI keep s.wait.length).toNat) i).data), .str ((gI (s.wait.take (clampI keep s.wait.length).toNat) i).to), .int .i64 ((gI (s.wait.take (clampI keep s.wait.length).toNat) i).kind)])] (AMem.wth m [(b1, .cells [.str ((gI (s.wait.take (clampI keep s.wait.length).toNat) i).name), .str ((gI (s.wait.take (clampI keep s.wait.length).toNat) i).data), .str ((gI (s.wait.take (clampI keep s.wait.length).toNat) i).to), .int .i64 ((gI (s.wait.take (clampI keep s.wait.length).toNat) i).kind)]), (d, dObj kb nb s), (kb, mObj kp)]) := by
     intro _
     subst hA
     refine AAny.step [] [1] (by decide +kernel) (by simp) (by decide) ⟨?_, trivial⟩
     ·
      show aopsR _ _ _ [_] _ _ _
      refine ⟨trivial, ?_⟩
      refine AAny.keep [0, 1, 2, 24, 25, 26, 31, 34] (by decide) ?_
      exact s5 trivial
    have s8 : ∀ (_ : True), A 5 #[true, false, false, false, false, false] (fun fr m => K1 (fr.keep [0, 1, 2, 24, 25, 26]) m) [(0, .ptr ⟨d, 0, none⟩), (1, .int .i64 (clampI keep s.wait.length)), (2, .int .i64 torn), (7, .ptr ⟨b1, 0, none⟩), (24, .slice false ((s.wait.take (clampI keep s.wait.length).toNat).map chgAV)), (25, .int .i64 (clampI keep s.wait.length)), (26, .int .i64 i), (30, .ptr ⟨d, 0, none⟩)] (AMem.wth m [(b1, .cells [.str ((gI (s.wait.take (clampI keep s.wait.length).toNat) i).name), .str ((gI (s.wait.take (clampI keep s.wait.length).toNat) i).data), .str ((gI (s.wait.take (clampI keep s.wait.length).toNat) i).to), .int .i64 ((gI (s.wait.take (clampI keep s.wait.length).toNat) i).kind)]), (d, dObj kb nb s), (kb, mObj kp)]) := by
     intro _
     subst hA
     refine AAny.step [] [1, 4] (by decide +kernel) (by simp) (by decide) ⟨?_, ?_, trivial⟩
     ·
      show aopsR _ _ _ [_] _ _ _
      refine ⟨trivial, ?_⟩
      refine AAny.keep [0, 1, 2, 7, 24, 25, 26, 31] (by decide) ?_
      exact s6 trivial
     ·
      show aopsR _ _ _ [_] _ _ _
      refine ar_loadp rfl (m := m) (L := [(b1, .cells [.str ((gI (s.wait.take (clampI keep s.wait.length).toNat) i).name), .str ((gI (s.wait.take (clampI keep s.wait.length).toNat) i).data), .str ((gI (s.wait.take (clampI keep s.wait.length).toNat) i).to), .int .i64 ((gI (s.wait.take (clampI keep s.wait.length).toNat) i).kind)]), (d, dObj kb nb s), (kb, mObj kp)]) (v := .agg [.str ((gI (s.wait.take (clampI keep s.wait.length).toNat) i).name), .str ((gI (s.wait.take (clampI keep s.wait.length).toNat) i).data), .str ((gI (s.wait.take (clampI keep s.wait.length).toNat) i).to), .int .i64 ((gI (s.wait.take (clampI keep s.wait.length).toNat) i).kind)]) rfl (wth_get 0 hNb1 rfl) rfl (apartOk_agg rfl rfl (Nat.le_of_ble_eq_true rfl)) rfl ?_
      refine AAny.keep [0, 1, 2, 24, 25, 26, 30, 34] (by decide) ?_
      exact s7 trivial
    have s9 : ∀ (_ : True), A 5 #[false, false, false, false, true, false] (fun fr m => K1 (fr.keep [0, 1, 2, 24, 25, 26]) m) [(0, .ptr ⟨d, 0, none⟩), (1, .int .i64 (clampI keep s.wait.length)), (2, .int .i64 torn), (24, .slice false ((s.wait.take (clampI keep s.wait.length).toNat).map chgAV)), (25, .int .i64 (clampI keep s.wait.length)), (26, .int .i64 i), (34, .agg [.str ((gI (s.wait.take (clampI keep s.wait.length).toNat) i).name), .str ((gI (s.wait.take (clampI keep s.wait.length).toNat) i).data), .str ((gI (s.wait.take (clampI keep s.wait.length).toNat) i).to), .int .i64 ((gI (s.wait.take (clampI keep s.wait.length).toNat) i).kind)])] (AMem.wth m [(b1, .cells [.str ((gI (s.wait.take (clampI keep s.wait.length).toNat) i).name), .str ((gI (s.wait.take (clampI keep s.wait.length).toNat) i).data), .str ((gI (s.wait.take (clampI keep s.wait.length).toNat) i).to), .int .i64 ((gI (s.wait.take (clampI keep s.wait.length).toNat) i).kind)]), (d, dObj kb nb s), (kb, mObj kp)]) := by
     intro _
     subst hA
     refine AAny.step [] [0] (by decide +kernel) (by simp) (by decide) ⟨?_, trivial⟩
     ·
      show aopsR _ _ _ [_] _ _ _
      refine ⟨trivial, ?_⟩
      refine AAny.keep [0, 1, 2, 24, 25, 26, 30, 34] (by decide) ?_
      exact s7 trivial
    have s10 : ∀ (_ : True), A 6 #[false, false, false, false, false, false] (fun fr m => K1 (fr.keep [0, 1, 2, 24, 25, 26]) m) [(0, .ptr ⟨d, 0, none⟩), (1, .int .i64 (clampI keep s.wait.length)), (2, .int .i64 torn), (7, .ptr ⟨b1, 0, none⟩), (24, .slice false ((s.wait.take (clampI keep s.wait.length).toNat).map chgAV)), (25, .int .i64 (clampI keep s.wait.length)), (26, .int .i64 i)] (AMem.wth m [(b1, .cells [.str ((gI (s.wait.take (clampI keep s.wait.length).toNat) i).name), .str ((gI (s.wait.take (clampI keep s.wait.length).toNat) i).data), .str ((gI (s.wait.take (clampI keep s.wait.length).toNat) i).to), .int .i64 ((gI (s.wait.take (clampI keep s.wait.length).toNat) i).kind)]), (d, dObj kb nb s), (kb, mObj kp)]) := by
     intro _
     subst hA
     refine AAny.step [] [0, 4] (by decide +kernel) (by simp) (by decide) ⟨?_, ?_, trivial⟩
     ·
      show aopsR _ _ _ [_] _ _ _
      refine ⟨trivial, ?_⟩
      refine AAny.keep [0, 1, 2, 7, 24, 25, 26, 30] (by decide) ?_
      exact s8 trivial
     ·
      show aopsR _ _ _ [_] _ _ _
      refine ar_loadp rfl (m := m) (L := [(b1, .cells [.str ((gI (s.wait.take (clampI keep s.wait.length).toNat) i).name), .str ((gI (s.wait.take (clampI keep s.wait.length).toNat) i).data), .str ((gI (s.wait.take (clampI keep s.wait.length).toNat) i).to), .int .i64 ((gI (s.wait.take (clampI keep s.wait.length).toNat) i).kind)]), (d, dObj kb nb s), (kb, mObj kp)]) (v := .agg [.str ((gI (s.wait.take (clampI keep s.wait.length).toNat) i).name), .str ((gI (s.wait.take (clampI keep s.wait.length).toNat) i).data), .str ((gI (s.wait.take (clampI keep s.wait.length).toNat) i).to), .int .i64 ((gI (s.wait.take (clampI keep s.wait.length).toNat) i).kind)]) rfl (wth_get 0 hNb1 rfl) rfl (apartOk_agg rfl rfl (Nat.le_of_ble_eq_true rfl)) rfl ?_
      refine AAny.keep [0, 1, 2, 24, 25, 26, 34] (by decide) ?_
      exact s9 trivial
    exact s10 trivial
   intro _
   refine hK1 _ _ ?_; clear hK1 K1
   refine hK4 _ _ ?_; clear hK4
   have hNd1 : ([d, kb] : List Nat).Nodup := drop_nodup (L := [(b1, .cells [.str ((gI (s.wait.take (clampI keep s.wait.length).toNat) i).name), .str ((gI (s.wait.take (clampI keep s.wait.length).toNat) i).data), .str ((gI (s.wait.take (clampI keep s.wait.length).toNat) i).to), .int .i64 ((gI (s.wait.take (clampI keep s.wait.length).toNat) i).kind)]), (d, dObj kb nb s), (kb, mObj (applyC kp (gI (s.wait.take (clampI keep s.wait.length).toNat) i)))]) hNb1 (pick_perm [0] _)
   refine awp_dropP [(b1, .cells [.str ((gI (s.wait.take (clampI keep s.wait.length).toNat) i).name), .str ((gI (s.wait.take (clampI keep s.wait.length).toNat) i).data), .str ((gI (s.wait.take (clampI keep s.wait.length).toNat) i).to), .int .i64 ((gI (s.wait.take (clampI keep s.wait.length).toNat) i).kind)])] [(d, dObj kb nb s), (kb, mObj (applyC kp (gI (s.wait.take (clampI keep s.wait.length).toNat) i)))] hNb1 (pick_perm [0] _) (by simp only [List.map_cons, List.map_nil, List.forall_mem_cons]; exact ⟨hFb1, fun _ h => by cases h⟩) ?_
   refine awp_reg2 [] [0, 1, 2, 24, 25, 26] (by decide) ?_
   intro K1 hK1
   refine ar_add rfl (a := i) (b := 1) rfl rfl (by omega) (by omega) ?_
   refine ⟨trivial, ?_⟩
   show K1 [(0, .ptr ⟨d, 0, none⟩), (1, .int .i64 (clampI keep s.wait.length)), (2, .int .i64 torn), (24, .slice false ((s.wait.take (clampI keep s.wait.length).toNat).map chgAV)), (25, .int .i64 (clampI keep s.wait.length)), (26, .int .i64 (i + 1))] (AMem.wth m [(d, dObj kb nb s), (kb, mObj (applyC kp (gI (s.wait.take (clampI keep s.wait.length).toNat) i)))])
   refine hK1 _ _ ?_; clear hK1 K1
   refine ⟨(i + 1, applyC kp (gI (s.wait.take (clampI keep s.wait.length).toNat) i)), rfl, rfl, ?_, ?_⟩
   ·
    show 0 ≤ ((i + 1 : Int)) ∧ ((i + 1 : Int)) ≤ clampI keep s.wait.length ∧ ((applyC kp (gI (s.wait.take (clampI keep s.wait.length).toNat) i) : (List (Str × Str)))) = applyL s.kept ((s.wait.take (clampI keep s.wait.length).toNat).take ((i + 1 : Int)).toNat)
    exact ⟨by omega, by omega, by rw [hI.2.2]; exact applyL_step hI.1 (by rw [take_lenI hcl.1 hcl.2]; exact h1)⟩
   ·
    show (clampI keep s.wait.length - ((i + 1 : Int))).toNat < (clampI keep s.wait.length - i).toNat
    omega
  ·
   replace h1 : clampI keep s.wait.length ≤ i := (Int.not_lt.1 (of_decide_eq_false h1))
   have hkp : kp = applyL s.kept (s.wait.take (clampI keep s.wait.length).toNat) := by have := hI.2.2; rwa [take_full (by rw [take_lenI hcl.1 hcl.2]; exact h1)] at this
   have hap := applyL_bnd (cs := s.wait.take (clampI keep s.wait.length).toNat) (fun c hc => hD.cd c (List.mem_of_mem_take hc)) (l := s.kept) (B := 400000000) (fun p hp => by have := hD.kb p hp; omega)
   rw [← hkp, List.length_take] at hap
   refine awp_exit ?_
   refine hK2 _ _ ?_; clear hK2
   refine awp_seq_k ?_; intro K5 hK5
   refine awp_reg2_seq [] [0, 1, 2, 54] (by decide) ?_
   intro K1 hK1
   suffices key : K1 [(0, .ptr ⟨d, 0, none⟩), (1, .int .i64 (clampI keep s.wait.length)), (2, .int .i64 torn), (54, .bool ((decide (clampI keep s.wait.length < (s.wait.length : Int))) && (decide ((gI s.wait (clampI keep s.wait.length)).kind ≤ 3))))] (AMem.wth m [(d, dObj kb nb s), (kb, mObj kp)]) by
    refine ⟨trivial, trivial, trivial, ⟨rfl, by decide⟩, ?_⟩
    refine ar_loadp rfl (m := m) (L := [(d, dObj kb nb s), (kb, mObj kp)]) (v := .slice false (s.wait.map chgAV)) rfl (wth_get 0 hN rfl) rfl (apartOk_one rfl rfl (Nat.le_of_ble_eq_true rfl)) rfl ?_
    refine ar_len rfl chgAV s.wait rfl rfl rfl ?_
    refine ⟨trivial, trivial, ?_⟩
    show aopsR _ _ _ _ _ [(44, .bool (decide (clampI keep s.wait.length < (s.wait.length : Int)))), (43, .bool (decide (clampI keep s.wait.length < (s.wait.length : Int)))), (42, .int .i64 (s.wait.length : Int)), (41, .slice false (s.wait.map chgAV)), (40, .ptr ⟨d, 2, none⟩), (39, .ptr ⟨d, 0, none⟩), (38, .ptr ⟨d, 0, none⟩), (37, .int .i64 (clampI keep s.wait.length)), (0, .ptr ⟨d, 0, none⟩), (1, .int .i64 (clampI keep s.wait.length)), (2, .int .i64 torn), (24, .slice false ((s.wait.take (clampI keep s.wait.length).toNat).map chgAV)), (25, .int .i64 (clampI keep s.wait.length)), (26, .int .i64 i), (27, .bool (decide (i < clampI keep s.wait.length)))] _
    revert key
    cases h2 : (decide (clampI keep s.wait.length < (s.wait.length : Int)))
    ·
     replace h2 : (s.wait.length : Int) ≤ clampI keep s.wait.length := (Int.not_lt.1 (of_decide_eq_false h2))
     intro key
     refine ar_off rfl (ar_off rfl (ar_off rfl (ar_off rfl (ar_off rfl (ar_off rfl (ar_off rfl (ar_off rfl (ar_off rfl ?_))))))))
     exact key
    ·
     replace h2 : clampI keep s.wait.length < (s.wait.length : Int) := (of_decide_eq_true h2)
     intro key
     refine ⟨trivial, trivial, ⟨rfl, by decide⟩, ?_⟩
     refine ar_loadp rfl (m := m) (L := [(d, dObj kb nb s), (kb, mObj kp)]) (v := .slice false (s.wait.map chgAV)) rfl (wth_get 0 hN rfl) rfl (apartOk_one rfl rfl (Nat.le_of_ble_eq_true rfl)) rfl ?_
     refine ⟨trivial, ?_⟩
     refine ar_index rfl chgAV s.wait (clampI keep s.wait.length) rfl rfl rfl rfl rfl (by decide) (fun _ => rfl) (by omega) (by first | omega | (rw [take_lenI hcl.1 hcl.2]; omega)) ?_
     refine ⟨⟨rfl, by decide, (Nat.le_of_ble_eq_true rfl)⟩, (apartOk_one rfl rfl (Nat.le_of_ble_eq_true rfl)), trivial, ?_⟩
     exact key
   refine hK1 _ _ ?_; clear hK1 K1
   refine awp_cond rfl rfl (fun h3 => ?_) (fun h3 => ?_)
   ·
    replace h3 : (clampI keep s.wait.length < (s.wait.length : Int)) ∧ ((gI s.wait (clampI keep s.wait.length)).kind ≤ 3) := ⟨(of_decide_eq_true (bandL h3)), (of_decide_eq_true (bandR h3))⟩
    have hcd := hD.cd _ (gI_mem (l := s.wait) hcl.1 h3.1)
    have hsl : (sub (gI s.wait (clampI keep s.wait.length)).data 0 (tornOf s keep torn)).length ≤ 4000 := by have := clampI_b torn (gI s.wait (clampI keep s.wait.length)).data.length; rw [sub0_take]; simp; omega
    refine awp_reg2_seq [] [0, 2, 8] (by decide) ?_
    intro K1 hK1
    refine ⟨trivial, trivial, ⟨rfl, by decide⟩, ?_⟩
    refine ar_loadp rfl (m := m) (L := [(d, dObj kb nb s), (kb, mObj kp)]) (v := .slice false (s.wait.map chgAV)) rfl (wth_get 0 hN rfl) rfl (apartOk_one rfl rfl (Nat.le_of_ble_eq_true rfl)) rfl ?_
    refine ⟨trivial, ?_⟩
    refine ar_index rfl chgAV s.wait (clampI keep s.wait.length) rfl rfl rfl rfl rfl (by decide) (fun _ => rfl) (by omega) (by first | omega | (rw [take_lenI hcl.1 hcl.2]; omega)) ?_
    refine ⟨(apartOk_agg rfl rfl (Nat.le_of_ble_eq_true rfl)), ?_⟩
    refine ar_alloc rfl (m := m) (L := [(d, dObj kb nb s), (kb, mObj kp)]) (z := .agg [.str ([]), .str ([]), .str ([]), .int .i64 0]) rfl rfl ?_
    intro b2 hb2
    have hFb2 : m b2 = none := wth_none (m := m) (L := [(d, dObj kb nb s), (kb, mObj kp)]) hb2
    have hNb2 : ([b2, d, kb] : List Nat).Nodup := wth_nodup (m := m) (L := [(d, dObj kb nb s), (kb, mObj kp)]) hb2 hN
    refine ar_storep rfl 0 (m := m) (L := [(b2, .cells [.str ([]), .str ([]), .str ([]), .int .i64 0]), (d, dObj kb nb s), (kb, mObj kp)]) (v := chgAV (gI s.wait (clampI keep s.wait.length))) (l' := [.str ((gI s.wait (clampI keep s.wait.length)).name), .str ((gI s.wait (clampI keep s.wait.length)).data), .str ((gI s.wait (clampI keep s.wait.length)).to), .int .i64 ((gI s.wait (clampI keep s.wait.length)).kind)]) rfl (by rfl) hNb2 rfl rfl rfl rfl rfl (Nat.le_of_ble_eq_true rfl) rfl ?_
    show K1 [(0, .ptr ⟨d, 0, none⟩), (2, .int .i64 torn), (8, .ptr ⟨b2, 0, none⟩)] (AMem.wth m [(b2, .cells [.str ((gI s.wait (clampI keep s.wait.length)).name), .str ((gI s.wait (clampI keep s.wait.length)).data), .str ((gI s.wait (clampI keep s.wait.length)).to), .int .i64 ((gI s.wait (clampI keep s.wait.length)).kind)]), (d, dObj kb nb s), (kb, mObj kp)])
    refine hK1 _ _ ?_; clear hK1 K1
    refine awp_reg2_seq [] [0, 8] (by decide) ?_
    intro K1 hK1
    refine ⟨⟨rfl, by decide⟩, ?_⟩
    refine ar_loadp rfl (m := m) (L := [(b2, .cells [.str ((gI s.wait (clampI keep s.wait.length)).name), .str ((gI s.wait (clampI keep s.wait.length)).data), .str ((gI s.wait (clampI keep s.wait.length)).to), .int .i64 ((gI s.wait (clampI keep s.wait.length)).kind)]), (d, dObj kb nb s), (kb, mObj kp)]) (v := .str ((gI s.wait (clampI keep s.wait.length)).data)) rfl (wth_get 0 hNb2 rfl) rfl (apartOk_one rfl rfl (Nat.le_of_ble_eq_true rfl)) rfl ?_
    refine ⟨trivial, trivial, ⟨rfl, by decide⟩, ?_⟩
    refine ar_loadp rfl (m := m) (L := [(b2, .cells [.str ((gI s.wait (clampI keep s.wait.length)).name), .str ((gI s.wait (clampI keep s.wait.length)).data), .str ((gI s.wait (clampI keep s.wait.length)).to), .int .i64 ((gI s.wait (clampI keep s.wait.length)).kind)]), (d, dObj kb nb s), (kb, mObj kp)]) (v := .str ((gI s.wait (clampI keep s.wait.length)).data)) rfl (wth_get 0 hNb2 rfl) rfl (apartOk_one rfl rfl (Nat.le_of_ble_eq_true rfl)) rfl ?_
    refine ⟨trivial, trivial, ⟨(by omega), (by omega), (by omega)⟩, ⟨rfl, by decide⟩, ?_⟩
    refine ar_storep rfl 0 (m := m) (L := [(b2, .cells [.str ((gI s.wait (clampI keep s.wait.length)).name), .str ((gI s.wait (clampI keep s.wait.length)).data), .str ((gI s.wait (clampI keep s.wait.length)).to), .int .i64 ((gI s.wait (clampI keep s.wait.length)).kind)]), (d, dObj kb nb s), (kb, mObj kp)]) (v := .str (sub ((gI s.wait (clampI keep s.wait.length)).data) 0 (if (((gI s.wait (clampI keep s.wait.length)).data).length : Int) < if 0 > torn then 0 else torn then (((gI s.wait (clampI keep s.wait.length)).data).length : Int) else if 0 > torn then 0 else torn))) (l' := [.str ((gI s.wait (clampI keep s.wait.length)).name), .str (sub ((gI s.wait (clampI keep s.wait.length)).data) 0 (if (((gI s.wait (clampI keep s.wait.length)).data).length : Int) < if 0 > torn then 0 else torn then (((gI s.wait (clampI keep s.wait.length)).data).length : Int) else if 0 > torn then 0 else torn)), .str ((gI s.wait (clampI keep s.wait.length)).to), .int .i64 ((gI s.wait (clampI keep s.wait.length)).kind)]) rfl rfl hNb2 rfl rfl rfl rfl rfl (Nat.le_of_ble_eq_true rfl) rfl ?_
    show K1 [(0, .ptr ⟨d, 0, none⟩), (8, .ptr ⟨b2, 0, none⟩)] (AMem.wth m [(b2, .cells [.str ((gI s.wait (clampI keep s.wait.length)).name), .str (sub ((gI s.wait (clampI keep s.wait.length)).data) 0 (if (((gI s.wait (clampI keep s.wait.length)).data).length : Int) < if 0 > torn then 0 else torn then (((gI s.wait (clampI keep s.wait.length)).data).length : Int) else if 0 > torn then 0 else torn)), .str ((gI s.wait (clampI keep s.wait.length)).to), .int .i64 ((gI s.wait (clampI keep s.wait.length)).kind)]), (d, dObj kb nb s), (kb, mObj kp)])
    refine hK1 _ _ ?_; clear hK1 K1
    show AWP _ _ _ _ [(0, .ptr ⟨d, 0, none⟩), (8, .ptr ⟨b2, 0, none⟩)] (AMem.wth m [(b2, .cells [.str ((gI s.wait (clampI keep s.wait.length)).name), .str (sub (gI s.wait (clampI keep s.wait.length)).data 0 (tornOf s keep torn)), .str ((gI s.wait (clampI keep s.wait.length)).to), .int .i64 ((gI s.wait (clampI keep s.wait.length)).kind)]), (d, dObj kb nb s), (kb, mObj kp)])
    refine awp_reg2_seq [] [0, 8, 74] (by decide) ?_
    intro K1 hK1
    refine ⟨⟨rfl, by decide⟩, ?_⟩
    refine ar_loadp rfl (m := m) (L := [(b2, .cells [.str ((gI s.wait (clampI keep s.wait.length)).name), .str (sub (gI s.wait (clampI keep s.wait.length)).data 0 (tornOf s keep torn)), .str ((gI s.wait (clampI keep s.wait.length)).to), .int .i64 ((gI s.wait (clampI keep s.wait.length)).kind)]), (d, dObj kb nb s), (kb, mObj kp)]) (v := .str (sub (gI s.wait (clampI keep s.wait.length)).data 0 (tornOf s keep torn))) rfl (wth_get 0 hNb2 rfl) rfl (apartOk_one rfl rfl (Nat.le_of_ble_eq_true rfl)) rfl ?_
    refine ⟨trivial, ?_⟩
    show K1 [(0, .ptr ⟨d, 0, none⟩), (8, .ptr ⟨b2, 0, none⟩), (74, .bool (!((sub (gI s.wait (clampI keep s.wait.length)).data 0 (tornOf s keep torn)) == ([]))))] (AMem.wth m [(b2, .cells [.str ((gI s.wait (clampI keep s.wait.length)).name), .str (sub (gI s.wait (clampI keep s.wait.length)).data 0 (tornOf s keep torn)), .str ((gI s.wait (clampI keep s.wait.length)).to), .int .i64 ((gI s.wait (clampI keep s.wait.length)).kind)]), (d, dObj kb nb s), (kb, mObj kp)])
    refine hK1 _ _ ?_; clear hK1 K1
    refine awp_cond rfl rfl (fun h4 => ?_) (fun h4 => ?_)
    ·
     replace h4 : sub (gI s.wait (clampI keep s.wait.length)).data 0 (tornOf s keep torn) ≠ [] := (ne_of_beq_false (bnT h4))
     refine awp_anyA Try.mixed [0] (by decide) ?_
     intro K1 hK1
     intro A hA
     suffices key : ∀ (_ : True), K1 [(0, .ptr ⟨d, 0, none⟩)] (AMem.wth m [(b2, .cells [.str ((gI s.wait (clampI keep s.wait.length)).name), .str (sub (gI s.wait (clampI keep s.wait.length)).data 0 (tornOf s keep torn)), .str ((gI s.wait (clampI keep s.wait.length)).to), .int .i64 ((gI s.wait (clampI keep s.wait.length)).kind)]), (d, dObj kb nb s), (kb, mObj (applyC kp (⟨(gI s.wait (clampI keep s.wait.length)).name, sub (gI s.wait (clampI keep s.wait.length)).data 0 (tornOf s keep torn), (gI s.wait (clampI keep s.wait.length)).to, (gI s.wait (clampI keep s.wait.length)).kind⟩ : Chg)))]) by
      have s0 : ∀ (_ : True), A 0 #[true, true, true, true, true, true] (fun fr m => K1 (fr.keep [0]) m) [(0, .ptr ⟨d, 0, none⟩)] (AMem.wth m [(b2, .cells [.str ((gI s.wait (clampI keep s.wait.length)).name), .str (sub (gI s.wait (clampI keep s.wait.length)).data 0 (tornOf s keep torn)), .str ((gI s.wait (clampI keep s.wait.length)).to), .int .i64 ((gI s.wait (clampI keep s.wait.length)).kind)]), (d, dObj kb nb s), (kb, mObj (applyC kp (⟨(gI s.wait (clampI keep s.wait.length)).name, sub (gI s.wait (clampI keep s.wait.length)).data 0 (tornOf s keep torn), (gI s.wait (clampI keep s.wait.length)).to, (gI s.wait (clampI keep s.wait.length)).kind⟩ : Chg)))]) := by
       intro _
       subst hA
       exact AAny.done (by decide +kernel) (key trivial)
      have s1 : ∀ (_ : True), A 1 #[true, true, true, true, true, false] (fun fr m => K1 (fr.keep [0]) m) [(0, .ptr ⟨d, 0, none⟩), (78, .map kb), (79, .agg [.str ((gI s.wait (clampI keep s.wait.length)).name), .str (sub (gI s.wait (clampI keep s.wait.length)).data 0 (tornOf s keep torn)), .str ((gI s.wait (clampI keep s.wait.length)).to), .int .i64 ((gI s.wait (clampI keep s.wait.length)).kind)])] (AMem.wth m [(b2, .cells [.str ((gI s.wait (clampI keep s.wait.length)).name), .str (sub (gI s.wait (clampI keep s.wait.length)).data 0 (tornOf s keep torn)), .str ((gI s.wait (clampI keep s.wait.length)).to), .int .i64 ((gI s.wait (clampI keep s.wait.length)).kind)]), (d, dObj kb nb s), (kb, mObj kp)]) := by
       intro _
       subst hA
       refine AAny.step [] [5] (by decide +kernel) (by simp) (by decide) ⟨?_, trivial⟩
       ·
        show aopsR _ _ _ [_] _ _ _
        refine ar_mem (wth_split hNb2 (pick_perm [2] _)) ?_
        refine u_apply kb kp (⟨(gI s.wait (clampI keep s.wait.length)).name, sub (gI s.wait (clampI keep s.wait.length)).data 0 (tornOf s keep torn), (gI s.wait (clampI keep s.wait.length)).to, (gI s.wait (clampI keep s.wait.length)).kind⟩ : Chg) (by have := hap.1; omega) (fun p hp => by have := hap.2 p hp; omega) (by first | omega | (dsimp only; omega)) _ _ ?_
        show aopsR _ _ _ _ _ _ (AMem.wth (AMem.wth m [(b2, .cells [.str ((gI s.wait (clampI keep s.wait.length)).name), .str (sub (gI s.wait (clampI keep s.wait.length)).data 0 (tornOf s keep torn)), .str ((gI s.wait (clampI keep s.wait.length)).to), .int .i64 ((gI s.wait (clampI keep s.wait.length)).kind)]), (d, dObj kb nb s)]) [(kb, mObj (applyC kp (⟨(gI s.wait (clampI keep s.wait.length)).name, sub (gI s.wait (clampI keep s.wait.length)).data 0 (tornOf s keep torn), (gI s.wait (clampI keep s.wait.length)).to, (gI s.wait (clampI keep s.wait.length)).kind⟩ : Chg)))])
        refine ar_mem (wth_split (m := m) (L := [(b2, .cells [.str ((gI s.wait (clampI keep s.wait.length)).name), .str (sub (gI s.wait (clampI keep s.wait.length)).data 0 (tornOf s keep torn)), .str ((gI s.wait (clampI keep s.wait.length)).to), .int .i64 ((gI s.wait (clampI keep s.wait.length)).kind)]), (d, dObj kb nb s), (kb, mObj (applyC kp (⟨(gI s.wait (clampI keep s.wait.length)).name, sub (gI s.wait (clampI keep s.wait.length)).data 0 (tornOf s keep torn), (gI s.wait (clampI keep s.wait.length)).to, (gI s.wait (clampI keep s.wait.length)).kind⟩ : Chg)))]) hNb2 (pick_perm [2] _)).symm ?_
        refine AAny.keep [0] (by decide) ?_
        exact s0 trivial
      have s2 : ∀ (_ : True), A 2 #[true, true, true, true, false, false] (fun fr m => K1 (fr.keep [0]) m) [(0, .ptr ⟨d, 0, none⟩), (8, .ptr ⟨b2, 0, none⟩), (78, .map kb)] (AMem.wth m [(b2, .cells [.str ((gI s.wait (clampI keep s.wait.length)).name), .str (sub (gI s.wait (clampI keep s.wait.length)).data 0 (tornOf s keep torn)), .str ((gI s.wait (clampI keep s.wait.length)).to), .int .i64 ((gI s.wait (clampI keep s.wait.length)).kind)]), (d, dObj kb nb s), (kb, mObj kp)]) := by
       intro _
       subst hA
       refine AAny.step [] [4] (by decide +kernel) (by simp) (by decide) ⟨?_, trivial⟩
       ·
        show aopsR _ _ _ [_] _ _ _
        refine ar_loadp rfl (m := m) (L := [(b2, .cells [.str ((gI s.wait (clampI keep s.wait.length)).name), .str (sub (gI s.wait (clampI keep s.wait.length)).data 0 (tornOf s keep torn)), .str ((gI s.wait (clampI keep s.wait.length)).to), .int .i64 ((gI s.wait (clampI keep s.wait.length)).kind)]), (d, dObj kb nb s), (kb, mObj kp)]) (v := .agg [.str ((gI s.wait (clampI keep s.wait.length)).name), .str (sub (gI s.wait (clampI keep s.wait.length)).data 0 (tornOf s keep torn)), .str ((gI s.wait (clampI keep s.wait.length)).to), .int .i64 ((gI s.wait (clampI keep s.wait.length)).kind)]) rfl (wth_get 0 hNb2 rfl) rfl (apartOk_agg rfl rfl (Nat.le_of_ble_eq_true rfl)) rfl ?_
        refine AAny.keep [0, 78, 79] (by decide) ?_
        exact s1 trivial
      have s3 : ∀ (_ : True), A 2 #[true, true, true, false, true, false] (fun fr m => K1 (fr.keep [0]) m) [(0, .ptr ⟨d, 0, none⟩), (77, .ptr ⟨d, 0, none⟩), (79, .agg [.str ((gI s.wait (clampI keep s.wait.length)).name), .str (sub (gI s.wait (clampI keep s.wait.length)).data 0 (tornOf s keep torn)), .str ((gI s.wait (clampI keep s.wait.length)).to), .int .i64 ((gI s.wait (clampI keep s.wait.length)).kind)])] (AMem.wth m [(b2, .cells [.str ((gI s.wait (clampI keep s.wait.length)).name), .str (sub (gI s.wait (clampI keep s.wait.length)).data 0 (tornOf s keep torn)), .str ((gI s.wait (clampI keep s.wait.length)).to), .int .i64 ((gI s.wait (clampI keep s.wait.length)).kind)]), (d, dObj kb nb s), (kb, mObj kp)]) := by
       intro _
       subst hA
       refine AAny.step [] [3] (by decide +kernel) (by simp) (by decide) ⟨?_, trivial⟩
       ·
        show aopsR _ _ _ [_] _ _ _
        refine ar_loadp rfl (m := m) (L := [(b2, .cells [.str ((gI s.wait (clampI keep s.wait.length)).name), .str (sub (gI s.wait (clampI keep s.wait.length)).data 0 (tornOf s keep torn)), .str ((gI s.wait (clampI keep s.wait.length)).to), .int .i64 ((gI s.wait (clampI keep s.wait.length)).kind)]), (d, dObj kb nb s), (kb, mObj kp)]) (v := .map kb) rfl (wth_get 1 hNb2 rfl) rfl (apartOk_one rfl rfl (Nat.le_of_ble_eq_true rfl)) rfl ?_
        refine AAny.keep [0, 78, 79] (by decide) ?_
        exact s1 trivial
      have s4 : ∀ (_ : True), A 3 #[true, true, true, false, false, false] (fun fr m => K1 (fr.keep [0]) m) [(0, .ptr ⟨d, 0, none⟩), (8, .ptr ⟨b2, 0, none⟩), (77, .ptr ⟨d, 0, none⟩)] (AMem.wth m [(b2, .cells [.str ((gI s.wait (clampI keep s.wait.length)).name), .str (sub (gI s.wait (clampI keep s.wait.length)).data 0 (tornOf s keep torn)), .str ((gI s.wait (clampI keep s.wait.length)).to), .int .i64 ((gI s.wait (clampI keep s.wait.length)).kind)]), (d, dObj kb nb s), (kb, mObj kp)]) := by
       intro _
       subst hA
       refine AAny.step [] [3, 4] (by decide +kernel) (by simp) (by decide) ⟨?_, ?_, trivial⟩
       ·
        show aopsR _ _ _ [_] _ _ _
        refine ar_loadp rfl (m := m) (L := [(b2, .cells [.str ((gI s.wait (clampI keep s.wait.length)).name), .str (sub (gI s.wait (clampI keep s.wait.length)).data 0 (tornOf s keep torn)), .str ((gI s.wait (clampI keep s.wait.length)).to), .int .i64 ((gI s.wait (clampI keep s.wait.length)).kind)]), (d, dObj kb nb s), (kb, mObj kp)]) (v := .map kb) rfl (wth_get 1 hNb2 rfl) rfl (apartOk_one rfl rfl (Nat.le_of_ble_eq_true rfl)) rfl ?_
        refine AAny.keep [0, 8, 78] (by decide) ?_
        exact s2 trivial
       ·
        show aopsR _ _ _ [_] _ _ _
        refine ar_loadp rfl (m := m) (L := [(b2, .cells [.str ((gI s.wait (clampI keep s.wait.length)).name), .str (sub (gI s.wait (clampI keep s.wait.length)).data 0 (tornOf s keep torn)), .str ((gI s.wait (clampI keep s.wait.length)).to), .int .i64 ((gI s.wait (clampI keep s.wait.length)).kind)]), (d, dObj kb nb s), (kb, mObj kp)]) (v := .agg [.str ((gI s.wait (clampI keep s.wait.length)).name), .str (sub (gI s.wait (clampI keep s.wait.length)).data 0 (tornOf s keep torn)), .str ((gI s.wait (clampI keep s.wait.length)).to), .int .i64 ((gI s.wait (clampI keep s.wait.length)).kind)]) rfl (wth_get 0 hNb2 rfl) rfl (apartOk_agg rfl rfl (Nat.le_of_ble_eq_true rfl)) rfl ?_
        refine AAny.keep [0, 77, 79] (by decide) ?_
        exact s3 trivial
      have s5 : ∀ (_ : True), A 3 #[true, true, false, false, true, false] (fun fr m => K1 (fr.keep [0]) m) [(0, .ptr ⟨d, 0, none⟩), (76, .ptr ⟨d, 0, none⟩), (79, .agg [.str ((gI s.wait (clampI keep s.wait.length)).name), .str (sub (gI s.wait (clampI keep s.wait.length)).data 0 (tornOf s keep torn)), .str ((gI s.wait (clampI keep s.wait.length)).to), .int .i64 ((gI s.wait (clampI keep s.wait.length)).kind)])] (AMem.wth m [(b2, .cells [.str ((gI s.wait (clampI keep s.wait.length)).name), .str (sub (gI s.wait (clampI keep s.wait.length)).data 0 (tornOf s keep torn)), .str ((gI s.wait (clampI keep s.wait.length)).to), .int .i64 ((gI s.wait (clampI keep s.wait.length)).kind)]), (d, dObj kb nb s), (kb, mObj kp)]) := by
       intro _
       subst hA
       refine AAny.step [] [2] (by decide +kernel) (by simp) (by decide) ⟨?_, trivial⟩
       ·
        show aopsR _ _ _ [_] _ _ _
        refine ⟨⟨rfl, by decide⟩, ?_⟩
        refine AAny.keep [0, 77, 79] (by decide) ?_
        exact s3 trivial
      have s6 : ∀ (_ : True), A 4 #[true, true, false, false, false, false] (fun fr m => K1 (fr.keep [0]) m) [(0, .ptr ⟨d, 0, none⟩), (8, .ptr ⟨b2, 0, none⟩), (76, .ptr ⟨d, 0, none⟩)] (AMem.wth m [(b2, .cells [.str ((gI s.wait (clampI keep s.wait.length)).name), .str (sub (gI s.wait (clampI keep s.wait.length)).data 0 (tornOf s keep torn)), .str ((gI s.wait (clampI keep s.wait.length)).to), .int .i64 ((gI s.wait (clampI keep s.wait.length)).kind)]), (d, dObj kb nb s), (kb, mObj kp)]) := by
       intro _
       subst hA
       refine AAny.step [] [2, 4] (by decide +kernel) (by simp) (by decide) ⟨?_, ?_, trivial⟩
       ·
        show aopsR _ _ _ [_] _ _ _
        refine ⟨⟨rfl, by decide⟩, ?_⟩
        refine AAny.keep [0, 8, 77] (by decide) ?_
        exact s4 trivial
       ·
        show aopsR _ _ _ [_] _ _ _
        refine ar_loadp rfl (m := m) (L := [(b2, .cells [.str ((gI s.wait (clampI keep s.wait.length)).name), .str (sub (gI s.wait (clampI keep s.wait.length)).data 0 (tornOf s keep torn)), .str ((gI s.wait (clampI keep s.wait.length)).to), .int .i64 ((gI s.wait (clampI keep s.wait.length)).kind)]), (d, dObj kb nb s), (kb, mObj kp)]) (v := .agg [.str ((gI s.wait (clampI keep s.wait.length)).name), .str (sub (gI s.wait (clampI keep s.wait.length)).data 0 (tornOf s keep torn)), .str ((gI s.wait (clampI keep s.wait.length)).to), .int .i64 ((gI s.wait (clampI keep s.wait.length)).kind)]) rfl (wth_get 0 hNb2 rfl) rfl (apartOk_agg rfl rfl (Nat.le_of_ble_eq_true rfl)) rfl ?_
        refine AAny.keep [0, 76, 79] (by decide) ?_
        exact s5 trivial
      have s7 : ∀ (_ : True), A 4 #[true, false, false, false, true, false] (fun fr m => K1 (fr.keep [0]) m) [(0, .ptr ⟨d, 0, none⟩), (75, .ptr ⟨d, 0, none⟩), (79, .agg [.str ((gI s.wait (clampI keep s.wait.length)).name), .str (sub (gI s.wait (clampI keep s.wait.length)).data 0 (tornOf s keep torn)), .str ((gI s.wait (clampI keep s.wait.length)).to), .int .i64 ((gI s.wait (clampI keep s.wait.length)).kind)])] (AMem.wth m [(b2, .cells [.str ((gI s.wait (clampI keep s.wait.length)).name), .str (sub (gI s.wait (clampI keep s.wait.length)).data 0 (tornOf s keep torn)), .str ((gI s.wait (clampI keep s.wait.length)).to), .int .i64 ((gI s.wait (clampI keep s.wait.length)).kind)]), (d, dObj kb nb s), (kb, mObj kp)]) := by
       intro _
       subst hA
       refine AAny.step [] [1] (by decide +kernel) (by simp) (by decide) ⟨?_, trivial⟩
       ·
        show aopsR _ _ _ [_] _ _ _
        refine ⟨trivial, ?_⟩
        refine AAny.keep [0, 76, 79] (by decide) ?_
        exact s5 trivial
      have s8 : ∀ (_ : True), A 5 #[true, false, false, false, false, false] (fun fr m => K1 (fr.keep [0]) m) [(0, .ptr ⟨d, 0, none⟩), (8, .ptr ⟨b2, 0, none⟩), (75, .ptr ⟨d, 0, none⟩)] (AMem.wth m [(b2, .cells [.str ((gI s.wait (clampI keep s.wait.length)).name), .str (sub (gI s.wait (clampI keep s.wait.length)).data 0 (tornOf s keep torn)), .str ((gI s.wait (clampI keep s.wait.length)).to), .int .i64 ((gI s.wait (clampI keep s.wait.length)).kind)]), (d, dObj kb nb s), (kb, mObj kp)]) := by
       intro _
       subst hA
       refine AAny.step [] [1, 4] (by decide +kernel) (by simp) (by decide) ⟨?_, ?_, trivial⟩
       ·
        show aopsR _ _ _ [_] _ _ _
        refine ⟨trivial, ?_⟩
        refine AAny.keep [0, 8, 76] (by decide) ?_
        exact s6 trivial
       ·
        show aopsR _ _ _ [_] _ _ _
        refine ar_loadp rfl (m := m) (L := [(b2, .cells [.str ((gI s.wait (clampI keep s.wait.length)).name), .str (sub (gI s.wait (clampI keep s.wait.length)).data 0 (tornOf s keep torn)), .str ((gI s.wait (clampI keep s.wait.length)).to), .int .i64 ((gI s.wait (clampI keep s.wait.length)).kind)]), (d, dObj kb nb s), (kb, mObj kp)]) (v := .agg [.str ((gI s.wait (clampI keep s.wait.length)).name), .str (sub (gI s.wait (clampI keep s.wait.length)).data 0 (tornOf s keep torn)), .str ((gI s.wait (clampI keep s.wait.length)).to), .int .i64 ((gI s.wait (clampI keep s.wait.length)).kind)]) rfl (wth_get 0 hNb2 rfl) rfl (apartOk_agg rfl rfl (Nat.le_of_ble_eq_true rfl)) rfl ?_
        refine AAny.keep [0, 75, 79] (by decide) ?_
        exact s7 trivial
      have s9 : ∀ (_ : True), A 5 #[false, false, false, false, true, false] (fun fr m => K1 (fr.keep [0]) m) [(0, .ptr ⟨d, 0, none⟩), (79, .agg [.str ((gI s.wait (clampI keep s.wait.length)).name), .str (sub (gI s.wait (clampI keep s.wait.length)).data 0 (tornOf s keep torn)), .str ((gI s.wait (clampI keep s.wait.length)).to), .int .i64 ((gI s.wait (clampI keep s.wait.length)).kind)])] (AMem.wth m [(b2, .cells [.str ((gI s.wait (clampI keep s.wait.length)).name), .str (sub (gI s.wait (clampI keep s.wait.length)).data 0 (tornOf s keep torn)), .str ((gI s.wait (clampI keep s.wait.length)).to), .int .i64 ((gI s.wait (clampI keep s.wait.length)).kind)]), (d, dObj kb nb s), (kb, mObj kp)]) := by
       intro _
       subst hA
       refine AAny.step [] [0] (by decide +kernel) (by simp) (by decide) ⟨?_, trivial⟩
       ·
        show aopsR _ _ _ [_] _ _ _
        refine ⟨trivial, ?_⟩
        refine AAny.keep [0, 75, 79] (by decide) ?_
        exact s7 trivial
      have s10 : ∀ (_ : True), A 6 #[false, false, false, false, false, false] (fun fr m => K1 (fr.keep [0]) m) [(0, .ptr ⟨d, 0, none⟩), (8, .ptr ⟨b2, 0, none⟩), (74, .bool (!((sub (gI s.wait (clampI keep s.wait.length)).data 0 (tornOf s keep torn)) == ([]))))] (AMem.wth m [(b2, .cells [.str ((gI s.wait (clampI keep s.wait.length)).name), .str (sub (gI s.wait (clampI keep s.wait.length)).data 0 (tornOf s keep torn)), .str ((gI s.wait (clampI keep s.wait.length)).to), .int .i64 ((gI s.wait (clampI keep s.wait.length)).kind)]), (d, dObj kb nb s), (kb, mObj kp)]) := by
       intro _
       subst hA
       refine AAny.step [] [0, 4] (by decide +kernel) (by simp) (by decide) ⟨?_, ?_, trivial⟩
       ·
        show aopsR _ _ _ [_] _ _ _
        refine ⟨trivial, ?_⟩
        refine AAny.keep [0, 8, 75] (by decide) ?_
        exact s8 trivial
       ·
        show aopsR _ _ _ [_] _ _ _
        refine ar_loadp rfl (m := m) (L := [(b2, .cells [.str ((gI s.wait (clampI keep s.wait.length)).name), .str (sub (gI s.wait (clampI keep s.wait.length)).data 0 (tornOf s keep torn)), .str ((gI s.wait (clampI keep s.wait.length)).to), .int .i64 ((gI s.wait (clampI keep s.wait.length)).kind)]), (d, dObj kb nb s), (kb, mObj kp)]) (v := .agg [.str ((gI s.wait (clampI keep s.wait.length)).name), .str (sub (gI s.wait (clampI keep s.wait.length)).data 0 (tornOf s keep torn)), .str ((gI s.wait (clampI keep s.wait.length)).to), .int .i64 ((gI s.wait (clampI keep s.wait.length)).kind)]) rfl (wth_get 0 hNb2 rfl) rfl (apartOk_agg rfl rfl (Nat.le_of_ble_eq_true rfl)) rfl ?_
        refine AAny.keep [0, 79] (by decide) ?_
        exact s9 trivial
      exact s10 trivial
     intro _
     refine hK1 _ _ ?_; clear hK1 K1
     refine hK5 _ _ ?_; clear hK5
     have hNd2 : ([d, kb] : List Nat).Nodup := drop_nodup (L := [(b2, .cells [.str ((gI s.wait (clampI keep s.wait.length)).name), .str (sub (gI s.wait (clampI keep s.wait.length)).data 0 (tornOf s keep torn)), .str ((gI s.wait (clampI keep s.wait.length)).to), .int .i64 ((gI s.wait (clampI keep s.wait.length)).kind)]), (d, dObj kb nb s), (kb, mObj (applyC kp (⟨(gI s.wait (clampI keep s.wait.length)).name, sub (gI s.wait (clampI keep s.wait.length)).data 0 (tornOf s keep torn), (gI s.wait (clampI keep s.wait.length)).to, (gI s.wait (clampI keep s.wait.length)).kind⟩ : Chg)))]) hNb2 (pick_perm [0] _)
     refine awp_dropP [(b2, .cells [.str ((gI s.wait (clampI keep s.wait.length)).name), .str (sub (gI s.wait (clampI keep s.wait.length)).data 0 (tornOf s keep torn)), .str ((gI s.wait (clampI keep s.wait.length)).to), .int .i64 ((gI s.wait (clampI keep s.wait.length)).kind)])] [(d, dObj kb nb s), (kb, mObj (applyC kp (⟨(gI s.wait (clampI keep s.wait.length)).name, sub (gI s.wait (clampI keep s.wait.length)).data 0 (tornOf s keep torn), (gI s.wait (clampI keep s.wait.length)).to, (gI s.wait (clampI keep s.wait.length)).kind⟩ : Chg)))] hNb2 (pick_perm [0] _) (by simp only [List.map_cons, List.map_nil, List.forall_mem_cons]; exact ⟨hFb2, fun _ h => by cases h⟩) ?_
     refine awp_reg2_seq [] [0] (by decide) ?_
     intro K1 hK1
     refine ⟨trivial, trivial, trivial, trivial, ⟨rfl, by decide⟩, ?_⟩
     refine ar_storep rfl 0 (m := m) (L := [(d, dObj kb nb s), (kb, mObj (applyC kp (⟨(gI s.wait (clampI keep s.wait.length)).name, sub (gI s.wait (clampI keep s.wait.length)).data 0 (tornOf s keep torn), (gI s.wait (clampI keep s.wait.length)).to, (gI s.wait (clampI keep s.wait.length)).kind⟩ : Chg)))]) (v := .slice true []) (l' := [.map kb, .map nb, .slice true [], .int .i64 s.fuse, .bool s.down, .int .i64 s.steps]) rfl rfl hNd2 rfl rfl rfl rfl rfl (Nat.le_of_ble_eq_true rfl) rfl ?_
     refine ⟨trivial, ⟨rfl, by decide⟩, ?_⟩
     refine ar_storep rfl 0 (m := m) (L := [(d, .cells [.map kb, .map nb, .slice true [], .int .i64 s.fuse, .bool s.down, .int .i64 s.steps]), (kb, mObj (applyC kp (⟨(gI s.wait (clampI keep s.wait.length)).name, sub (gI s.wait (clampI keep s.wait.length)).data 0 (tornOf s keep torn), (gI s.wait (clampI keep s.wait.length)).to, (gI s.wait (clampI keep s.wait.length)).kind⟩ : Chg)))]) (v := .bool false) (l' := [.map kb, .map nb, .slice true [], .int .i64 s.fuse, .bool false, .int .i64 s.steps]) rfl rfl hNd2 rfl rfl rfl rfl rfl (Nat.le_of_ble_eq_true rfl) rfl ?_
     refine ⟨trivial, ⟨rfl, by decide⟩, ?_⟩
     refine ar_storep rfl 0 (m := m) (L := [(d, .cells [.map kb, .map nb, .slice true [], .int .i64 s.fuse, .bool false, .int .i64 s.steps]), (kb, mObj (applyC kp (⟨(gI s.wait (clampI keep s.wait.length)).name, sub (gI s.wait (clampI keep s.wait.length)).data 0 (tornOf s keep torn), (gI s.wait (clampI keep s.wait.length)).to, (gI s.wait (clampI keep s.wait.length)).kind⟩ : Chg)))]) (v := .int .i64 (-1)) (l' := [.map kb, .map nb, .slice true [], .int .i64 (-1), .bool false, .int .i64 s.steps]) rfl rfl hNd2 rfl rfl rfl rfl rfl (Nat.le_of_ble_eq_true rfl) rfl ?_
     show K1 [(0, .ptr ⟨d, 0, none⟩)] (AMem.wth m [(d, .cells [.map kb, .map nb, .slice true [], .int .i64 (-1), .bool false, .int .i64 s.steps]), (kb, mObj (applyC kp (⟨(gI s.wait (clampI keep s.wait.length)).name, sub (gI s.wait (clampI keep s.wait.length)).data 0 (tornOf s keep torn), (gI s.wait (clampI keep s.wait.length)).to, (gI s.wait (clampI keep s.wait.length)).kind⟩ : Chg)))])
     refine hK1 _ _ ?_; clear hK1 K1
     have hr : restR s keep torn = applyC kp (⟨(gI s.wait (clampI keep s.wait.length)).name, sub (gI s.wait (clampI keep s.wait.length)).data 0 (tornOf s keep torn), (gI s.wait (clampI keep s.wait.length)).to, (gI s.wait (clampI keep s.wait.length)).kind⟩ : Chg) := by
      unfold restR restK tornOf; rw [hkp]
      first | (rw [if_pos ⟨by omega, by omega, by assumption⟩]; done) | (rw [if_neg (by rintro ⟨a, b, c⟩; first | omega | exact c ‹_›)]; done)
     rw [← hr]
     have hra := hrl
     show AWP _ _ _ _ [(0, .ptr ⟨d, 0, none⟩)] (AMem.wth m [(d, .cells [.map kb, .map nb, .slice true [], .int .i64 (-1), .bool false, .int .i64 s.steps]), (kb, mObj (restR s keep torn))])
     refine awp_reg2_seq [] [0] (by decide) ?_
     intro K1 hK1
     refine ⟨trivial, ?_⟩
     refine ar_makeMap rfl (m := m) (L := [(d, .cells [.map kb, .map nb, .slice true [], .int .i64 (-1), .bool false, .int .i64 s.steps]), (kb, mObj (restR s keep torn))]) rfl ?_
     intro b3 hb3
     have hFb3 : m b3 = none := wth_none (m := m) (L := [(d, .cells [.map kb, .map nb, .slice true [], .int .i64 (-1), .bool false, .int .i64 s.steps]), (kb, mObj (restR s keep torn))]) hb3
     have hNb3 : ([b3, d, kb] : List Nat).Nodup := wth_nodup (m := m) (L := [(d, .cells [.map kb, .map nb, .slice true [], .int .i64 (-1), .bool false, .int .i64 s.steps]), (kb, mObj (restR s keep torn))]) hb3 hNd2
     refine ⟨trivial, ⟨rfl, by decide⟩, ?_⟩
     refine ar_storep rfl 1 (m := m) (L := [(b3, mObj ([] : List ((List UInt8) × (List UInt8)))), (d, .cells [.map kb, .map nb, .slice true [], .int .i64 (-1), .bool false, .int .i64 s.steps]), (kb, mObj (restR s keep torn))]) (v := .map b3) (l' := [.map kb, .map b3, .slice true [], .int .i64 (-1), .bool false, .int .i64 s.steps]) rfl rfl hNb3 rfl rfl rfl rfl rfl (Nat.le_of_ble_eq_true rfl) rfl ?_
     show K1 [(0, .ptr ⟨d, 0, none⟩)] (AMem.wth m [(b3, mObj ([] : List ((List UInt8) × (List UInt8)))), (d, .cells [.map kb, .map b3, .slice true [], .int .i64 (-1), .bool false, .int .i64 s.steps]), (kb, mObj (restR s keep torn))])
     refine hK1 _ _ ?_; clear hK1 K1
     refine awp_reg2_seq [] [0, 98] (by decide) ?_
     intro K1 hK1
     refine ⟨trivial, trivial, ⟨rfl, by decide⟩, ?_⟩
     refine ar_loadp rfl (m := m) (L := [(b3, mObj ([] : List ((List UInt8) × (List UInt8)))), (d, .cells [.map kb, .map b3, .slice true [], .int .i64 (-1), .bool false, .int .i64 s.steps]), (kb, mObj (restR s keep torn))]) (v := .map kb) rfl (wth_get 1 hNb3 rfl) rfl (apartOk_one rfl rfl (Nat.le_of_ble_eq_true rfl)) rfl ?_
     refine ar_range rfl (m := m) (L := [(b3, mObj ([] : List ((List UInt8) × (List UInt8)))), (d, .cells [.map kb, .map b3, .slice true [], .int .i64 (-1), .bool false, .int .i64 s.steps]), (kb, mObj (restR s keep torn))]) 2 rfl rfl rfl hNb3 ?_
     intro q1 _
     show K1 [(0, .ptr ⟨d, 0, none⟩), (98, .ptr ⟨q1, 0, none⟩)] (AMem.wth m [(b3, mObj ([] : List ((List UInt8) × (List UInt8)))), (d, .cells [.map kb, .map b3, .slice true [], .int .i64 (-1), .bool false, .int .i64 s.steps]), (kb, .iter q1 (List.map (mapAV strAV strAV) (restR s keep torn)) [])])
     refine hK1 _ _ ?_; clear hK1 K1
     refine awp_block ?_
     refine awp_keep [0, 98] (by decide) ?_
     refine awp_loop_st (σ := (List (Str × Str)) × (List Nat)) (fun ⟨nw, seen⟩ => [(0, .ptr ⟨d, 0, none⟩), (98, .ptr ⟨q1, 0, none⟩)]) (fun ⟨nw, seen⟩ => (AMem.wth m [(b3, mObj nw), (d, .cells [.map kb, .map b3, .slice true [], .int .i64 (-1), .bool false, .int .i64 s.steps]), (kb, .iter q1 (List.map (mapAV strAV strAV) (restR s keep torn)) seen)])) (fun ⟨nw, seen⟩ => seen.Nodup ∧ (∀ i ∈ seen, i < (restR s keep torn).length) ∧ nw = rebuild (restR s keep torn) seen) (fun ⟨nw, seen⟩ => (restR s keep torn).length - seen.length) (([] : List ((List UInt8) × (List UInt8))), []) rfl rfl ?_ ?_
     ·
      show (([] : (List Nat))).Nodup ∧ (∀ i ∈ (([] : (List Nat))), i < (restR s keep torn).length) ∧ ((([] : List ((List UInt8) × (List UInt8))) : (List (Str × Str)))) = rebuild (restR s keep torn) (([] : (List Nat)))
      exact ⟨List.nodup_nil, by simp, rfl⟩
     ·
      rintro ⟨nw, seen⟩ hI2
      replace hI2 : seen.Nodup ∧ (∀ i ∈ seen, i < (restR s keep torn).length) ∧ nw = rebuild (restR s keep torn) seen := hI2
      show AWP _ _ _ _ [(0, .ptr ⟨d, 0, none⟩), (98, .ptr ⟨q1, 0, none⟩)] (AMem.wth m [(b3, mObj nw), (d, .cells [.map kb, .map b3, .slice true [], .int .i64 (-1), .bool false, .int .i64 s.steps]), (kb, .iter q1 (List.map (mapAV strAV strAV) (restR s keep torn)) seen)])
      refine awp_reg2_seq [] [0, 98, 100] (by decide) ?_
      intro K1 hK1
      refine ar_nextT rfl (m := m) (L := [(b3, mObj nw), (d, .cells [.map kb, .map b3, .slice true [], .int .i64 (-1), .bool false, .int .i64 s.steps]), (kb, .iter q1 (List.map (mapAV strAV strAV) (restR s keep torn)) seen)]) 2 strAV strAV (restR s keep torn) seen rfl rfl hNb3 ?_ ?_
      ·
       intro hE1
       refine ⟨(Nat.le_of_ble_eq_true rfl), ?_⟩
       show K1 [(0, .ptr ⟨d, 0, none⟩), (98, .ptr ⟨q1, 0, none⟩), (100, .bool false)] (AMem.wth m [(b3, mObj nw), (d, .cells [.map kb, .map b3, .slice true [], .int .i64 (-1), .bool false, .int .i64 s.steps]), (kb, .iter q1 (List.map (mapAV strAV strAV) (restR s keep torn)) seen)])
       refine hK1 _ _ ?_; clear hK1 K1
       refine awp_unrange (m := m) (L := [(b3, mObj nw), (d, .cells [.map kb, .map b3, .slice true [], .int .i64 (-1), .bool false, .int .i64 s.steps]), (kb, .iter q1 (List.map (mapAV strAV strAV) (restR s keep torn)) seen)]) 2 hNb3 rfl ?_
       show AWP _ _ _ _ [(0, .ptr ⟨d, 0, none⟩), (98, .ptr ⟨q1, 0, none⟩), (100, .bool false)] (AMem.wth m [(b3, mObj nw), (d, .cells [.map kb, .map b3, .slice true [], .int .i64 (-1), .bool false, .int .i64 s.steps]), (kb, mObj (restR s keep torn))])
       refine awp_seq_k ?_; intro K6 hK6
       refine awp_cond rfl rfl (fun hcz => ?_) (fun hcz => ?_)
       ·
        cases hcz
       clear hcz
       refine awp_exit ?_
       refine ⟨(AMem.wth m [(b3, mObj nw), (d, .cells [.map kb, .map b3, .slice true [], .int .i64 (-1), .bool false, .int .i64 s.steps]), (kb, mObj (restR s keep torn))]), fun _ _ h => h, ?_⟩
       show K (.tuple []) (AMem.wth m [(b3, mObj nw), (d, .cells [.map kb, .map b3, .slice true [], .int .i64 (-1), .bool false, .int .i64 s.steps]), (kb, mObj (restR s keep torn))])
      
       exact hK b3 hNb3 hFb3 nw (hI2.2.2 ▸ rebuild_perm (restR_nd hk keep torn) hI2.1 hI2.2.1 hE1)
      ·
       rintro k1 ⟨ek1, ev1⟩ hp1 hn1
       refine ⟨(Nat.le_of_ble_eq_true rfl), ?_⟩
       show K1 [(0, .ptr ⟨d, 0, none⟩), (98, .ptr ⟨q1, 0, none⟩), (100, .bool true)] (AMem.wth m [(b3, mObj nw), (d, .cells [.map kb, .map b3, .slice true [], .int .i64 (-1), .bool false, .int .i64 s.steps]), (kb, .iter q1 (List.map (mapAV strAV strAV) (restR s keep torn)) (seen ++ [k1]))])
       refine hK1 _ _ ?_; clear hK1 K1
       refine awp_seq_k ?_; intro K7 hK7
       refine awp_cond rfl rfl (fun hcz => ?_) (fun hcz => ?_)
       rotate_left; · cases hcz
       clear hcz
       refine awp_skip ?_
       refine hK7 _ _ ?_; clear hK7
       refine awp_block ?_
       refine awp_reg2_seq [] [0, 9, 10, 98] (by decide) ?_
       intro K1 hK1
       refine ar_entryT rfl (m := m) (L := [(b3, mObj nw), (d, .cells [.map kb, .map b3, .slice true [], .int .i64 (-1), .bool false, .int .i64 s.steps]), (kb, .iter q1 (List.map (mapAV strAV strAV) (restR s keep torn)) (seen ++ [k1]))]) 2 strAV strAV (restR s keep torn) seen hp1 rfl rfl hNb3 ?_
       refine ⟨(Nat.le_of_ble_eq_true rfl), (Nat.le_of_ble_eq_true rfl), trivial, trivial, ?_⟩
       show K1 [(0, .ptr ⟨d, 0, none⟩), (9, .str ek1), (10, .str ev1), (98, .ptr ⟨q1, 0, none⟩)] (AMem.wth m [(b3, mObj nw), (d, .cells [.map kb, .map b3, .slice true [], .int .i64 (-1), .bool false, .int .i64 s.steps]), (kb, .iter q1 (List.map (mapAV strAV strAV) (restR s keep torn)) (seen ++ [k1]))])
       refine hK1 _ _ ?_; clear hK1 K1
       refine awp_reg2 [] [0, 98] (by decide) ?_
       intro K1 hK1
       refine ⟨trivial, trivial, ⟨rfl, by decide⟩, ?_⟩
       refine ar_loadp rfl (m := m) (L := [(b3, mObj nw), (d, .cells [.map kb, .map b3, .slice true [], .int .i64 (-1), .bool false, .int .i64 s.steps]), (kb, .iter q1 (List.map (mapAV strAV strAV) (restR s keep torn)) (seen ++ [k1]))]) (v := .map b3) rfl (wth_get 1 hNb3 rfl) rfl (apartOk_one rfl rfl (Nat.le_of_ble_eq_true rfl)) rfl ?_
       refine ⟨trivial, trivial, ?_⟩
       refine ar_mapUpdate rfl (m := m) (L := [(b3, mObj nw), (d, .cells [.map kb, .map b3, .slice true [], .int .i64 (-1), .bool false, .int .i64 s.steps]), (kb, .iter q1 (List.map (mapAV strAV strAV) (restR s keep torn)) (seen ++ [k1]))]) 0 strAV strAV strKey_ok nw ek1 ev1 rfl rfl rfl rfl rfl rfl hNb3 (by have := rebuild_len (restR s keep torn) seen; have := seen_len hI2.1 hI2.2.1; rw [← hI2.2.2] at *; refine Nat.le_trans (mput_len _ _ _) (by omega)) ?_
       show K1 [(0, .ptr ⟨d, 0, none⟩), (98, .ptr ⟨q1, 0, none⟩)] (AMem.wth m [(b3, mObj (mput nw ek1 ev1)), (d, .cells [.map kb, .map b3, .slice true [], .int .i64 (-1), .bool false, .int .i64 s.steps]), (kb, .iter q1 (List.map (mapAV strAV strAV) (restR s keep torn)) (seen ++ [k1]))])
       refine hK1 _ _ ?_; clear hK1 K1
       refine ⟨(mput nw ek1 ev1, seen ++ [k1]), rfl, rfl, ?_, ?_⟩
       ·
        show ((seen ++ [k1] : (List Nat))).Nodup ∧ (∀ i ∈ ((seen ++ [k1] : (List Nat))), i < (restR s keep torn).length) ∧ ((mput nw ek1 ev1 : (List (Str × Str)))) = rebuild (restR s keep torn) ((seen ++ [k1] : (List Nat)))
        exact rstep hI2.1 hI2.2.1 hI2.2.2 hp1 hn1
       ·
        show (restR s keep torn).length - ((seen ++ [k1] : (List Nat))).length < (restR s keep torn).length - seen.length
        exact rdec hI2.1 hI2.2.1 hp1 hn1
    ·
     replace h4 : sub (gI s.wait (clampI keep s.wait.length)).data 0 (tornOf s keep torn) = [] := (eq_of_beq (bnF h4))
     refine awp_skip ?_
     refine hK5 _ _ ?_; clear hK5
     have hNd3 : ([d, kb] : List Nat).Nodup := drop_nodup (L := [(b2, .cells [.str ((gI s.wait (clampI keep s.wait.length)).name), .str (sub (gI s.wait (clampI keep s.wait.length)).data 0 (tornOf s keep torn)), .str ((gI s.wait (clampI keep s.wait.length)).to), .int .i64 ((gI s.wait (clampI keep s.wait.length)).kind)]), (d, dObj kb nb s), (kb, mObj kp)]) hNb2 (pick_perm [0] _)
     refine awp_dropP [(b2, .cells [.str ((gI s.wait (clampI keep s.wait.length)).name), .str (sub (gI s.wait (clampI keep s.wait.length)).data 0 (tornOf s keep torn)), .str ((gI s.wait (clampI keep s.wait.length)).to), .int .i64 ((gI s.wait (clampI keep s.wait.length)).kind)])] [(d, dObj kb nb s), (kb, mObj kp)] hNb2 (pick_perm [0] _) (by simp only [List.map_cons, List.map_nil, List.forall_mem_cons]; exact ⟨hFb2, fun _ h => by cases h⟩) ?_
     refine awp_reg2_seq [] [0] (by decide) ?_
     intro K1 hK1
     refine ⟨trivial, trivial, trivial, trivial, ⟨rfl, by decide⟩, ?_⟩
     refine ar_storep rfl 0 (m := m) (L := [(d, dObj kb nb s), (kb, mObj kp)]) (v := .slice true []) (l' := [.map kb, .map nb, .slice true [], .int .i64 s.fuse, .bool s.down, .int .i64 s.steps]) rfl rfl hNd3 rfl rfl rfl rfl rfl (Nat.le_of_ble_eq_true rfl) rfl ?_
     refine ⟨trivial, ⟨rfl, by decide⟩, ?_⟩
     refine ar_storep rfl 0 (m := m) (L := [(d, .cells [.map kb, .map nb, .slice true [], .int .i64 s.fuse, .bool s.down, .int .i64 s.steps]), (kb, mObj kp)]) (v := .bool false) (l' := [.map kb, .map nb, .slice true [], .int .i64 s.fuse, .bool false, .int .i64 s.steps]) rfl rfl hNd3 rfl rfl rfl rfl rfl (Nat.le_of_ble_eq_true rfl) rfl ?_
     refine ⟨trivial, ⟨rfl, by decide⟩, ?_⟩
     refine ar_storep rfl 0 (m := m) (L := [(d, .cells [.map kb, .map nb, .slice true [], .int .i64 s.fuse, .bool false, .int .i64 s.steps]), (kb, mObj kp)]) (v := .int .i64 (-1)) (l' := [.map kb, .map nb, .slice true [], .int .i64 (-1), .bool false, .int .i64 s.steps]) rfl rfl hNd3 rfl rfl rfl rfl rfl (Nat.le_of_ble_eq_true rfl) rfl ?_
     show K1 [(0, .ptr ⟨d, 0, none⟩)] (AMem.wth m [(d, .cells [.map kb, .map nb, .slice true [], .int .i64 (-1), .bool false, .int .i64 s.steps]), (kb, mObj kp)])
     refine hK1 _ _ ?_; clear hK1 K1
     have hr : restR s keep torn = kp := by
      unfold restR restK tornOf; rw [hkp]
      first | (rw [if_pos ⟨by omega, by omega, by assumption⟩]; done) | (rw [if_neg (by rintro ⟨a, b, c⟩; first | omega | exact c ‹_›)]; done)
     rw [← hr]
     have hra := hrl
     show AWP _ _ _ _ [(0, .ptr ⟨d, 0, none⟩)] (AMem.wth m [(d, .cells [.map kb, .map nb, .slice true [], .int .i64 (-1), .bool false, .int .i64 s.steps]), (kb, mObj (restR s keep torn))])
     refine awp_reg2_seq [] [0] (by decide) ?_
     intro K1 hK1
     refine ⟨trivial, ?_⟩
     refine ar_makeMap rfl (m := m) (L := [(d, .cells [.map kb, .map nb, .slice true [], .int .i64 (-1), .bool false, .int .i64 s.steps]), (kb, mObj (restR s keep torn))]) rfl ?_
     intro b4 hb4
     have hFb4 : m b4 = none := wth_none (m := m) (L := [(d, .cells [.map kb, .map nb, .slice true [], .int .i64 (-1), .bool false, .int .i64 s.steps]), (kb, mObj (restR s keep torn))]) hb4
     have hNb4 : ([b4, d, kb] : List Nat).Nodup := wth_nodup (m := m) (L := [(d, .cells [.map kb, .map nb, .slice true [], .int .i64 (-1), .bool false, .int .i64 s.steps]), (kb, mObj (restR s keep torn))]) hb4 hNd3
     refine ⟨trivial, ⟨rfl, by decide⟩, ?_⟩
     refine ar_storep rfl 1 (m := m) (L := [(b4, mObj ([] : List ((List UInt8) × (List UInt8)))), (d, .cells [.map kb, .map nb, .slice true [], .int .i64 (-1), .bool false, .int .i64 s.steps]), (kb, mObj (restR s keep torn))]) (v := .map b4) (l' := [.map kb, .map b4, .slice true [], .int .i64 (-1), .bool false, .int .i64 s.steps]) rfl rfl hNb4 rfl rfl rfl rfl rfl (Nat.le_of_ble_eq_true rfl) rfl ?_
     show K1 [(0, .ptr ⟨d, 0, none⟩)] (AMem.wth m [(b4, mObj ([] : List ((List UInt8) × (List UInt8)))), (d, .cells [.map kb, .map b4, .slice true [], .int .i64 (-1), .bool false, .int .i64 s.steps]), (kb, mObj (restR s keep torn))])
     refine hK1 _ _ ?_; clear hK1 K1
     refine awp_reg2_seq [] [0, 98] (by decide) ?_
     intro K1 hK1
     refine ⟨trivial, trivial, ⟨rfl, by decide⟩, ?_⟩
     refine ar_loadp rfl (m := m) (L := [(b4, mObj ([] : List ((List UInt8) × (List UInt8)))), (d, .cells [.map kb, .map b4, .slice true [], .int .i64 (-1), .bool false, .int .i64 s.steps]), (kb, mObj (restR s keep torn))]) (v := .map kb) rfl (wth_get 1 hNb4 rfl) rfl (apartOk_one rfl rfl (Nat.le_of_ble_eq_true rfl)) rfl ?_
     refine ar_range rfl (m := m) (L := [(b4, mObj ([] : List ((List UInt8) × (List UInt8)))), (d, .cells [.map kb, .map b4, .slice true [], .int .i64 (-1), .bool false, .int .i64 s.steps]), (kb, mObj (restR s keep torn))]) 2 rfl rfl rfl hNb4 ?_
     intro q2 _
     show K1 [(0, .ptr ⟨d, 0, none⟩), (98, .ptr ⟨q2, 0, none⟩)] (AMem.wth m [(b4, mObj ([] : List ((List UInt8) × (List UInt8)))), (d, .cells [.map kb, .map b4, .slice true [], .int .i64 (-1), .bool false, .int .i64 s.steps]), (kb, .iter q2 (List.map (mapAV strAV strAV) (restR s keep torn)) [])])
     refine hK1 _ _ ?_; clear hK1 K1
     refine awp_block ?_
     refine awp_keep [0, 98] (by decide) ?_
     refine awp_loop_st (σ := (List (Str × Str)) × (List Nat)) (fun ⟨nw, seen⟩ => [(0, .ptr ⟨d, 0, none⟩), (98, .ptr ⟨q2, 0, none⟩)]) (fun ⟨nw, seen⟩ => (AMem.wth m [(b4, mObj nw), (d, .cells [.map kb, .map b4, .slice true [], .int .i64 (-1), .bool false, .int .i64 s.steps]), (kb, .iter q2 (List.map (mapAV strAV strAV) (restR s keep torn)) seen)])) (fun ⟨nw, seen⟩ => seen.Nodup ∧ (∀ i ∈ seen, i < (restR s keep torn).length) ∧ nw = rebuild (restR s keep torn) seen) (fun ⟨nw, seen⟩ => (restR s keep torn).length - seen.length) (([] : List ((List UInt8) × (List UInt8))), []) rfl rfl ?_ ?_
     ·
      show (([] : (List Nat))).Nodup ∧ (∀ i ∈ (([] : (List Nat))), i < (restR s keep torn).length) ∧ ((([] : List ((List UInt8) × (List UInt8))) : (List (Str × Str)))) = rebuild (restR s keep torn) (([] : (List Nat)))
      exact ⟨List.nodup_nil, by simp, rfl⟩
     ·
      rintro ⟨nw, seen⟩ hI2
      replace hI2 : seen.Nodup ∧ (∀ i ∈ seen, i < (restR s keep torn).length) ∧ nw = rebuild (restR s keep torn) seen := hI2
      show AWP _ _ _ _ [(0, .ptr ⟨d, 0, none⟩), (98, .ptr ⟨q2, 0, none⟩)] (AMem.wth m [(b4, mObj nw), (d, .cells [.map kb, .map b4, .slice true [], .int .i64 (-1), .bool false, .int .i64 s.steps]), (kb, .iter q2 (List.map (mapAV strAV strAV) (restR s keep torn)) seen)])
      refine awp_reg2_seq [] [0, 98, 100] (by decide) ?_
      intro K1 hK1
      refine ar_nextT rfl (m := m) (L := [(b4, mObj nw), (d, .cells [.map kb, .map b4, .slice true [], .int .i64 (-1), .bool false, .int .i64 s.steps]), (kb, .iter q2 (List.map (mapAV strAV strAV) (restR s keep torn)) seen)]) 2 strAV strAV (restR s keep torn) seen rfl rfl hNb4 ?_ ?_
      ·
       intro hE2
       refine ⟨(Nat.le_of_ble_eq_true rfl), ?_⟩
       show K1 [(0, .ptr ⟨d, 0, none⟩), (98, .ptr ⟨q2, 0, none⟩), (100, .bool false)] (AMem.wth m [(b4, mObj nw), (d, .cells [.map kb, .map b4, .slice true [], .int .i64 (-1), .bool false, .int .i64 s.steps]), (kb, .iter q2 (List.map (mapAV strAV strAV) (restR s keep torn)) seen)])
       refine hK1 _ _ ?_; clear hK1 K1
       refine awp_unrange (m := m) (L := [(b4, mObj nw), (d, .cells [.map kb, .map b4, .slice true [], .int .i64 (-1), .bool false, .int .i64 s.steps]), (kb, .iter q2 (List.map (mapAV strAV strAV) (restR s keep torn)) seen)]) 2 hNb4 rfl ?_
       show AWP _ _ _ _ [(0, .ptr ⟨d, 0, none⟩), (98, .ptr ⟨q2, 0, none⟩), (100, .bool false)] (AMem.wth m [(b4, mObj nw), (d, .cells [.map kb, .map b4, .slice true [], .int .i64 (-1), .bool false, .int .i64 s.steps]), (kb, mObj (restR s keep torn))])
       refine awp_seq_k ?_; intro K8 hK8
       refine awp_cond rfl rfl (fun hcz => ?_) (fun hcz => ?_)
       ·
        cases hcz
       clear hcz
       refine awp_exit ?_
       refine ⟨(AMem.wth m [(b4, mObj nw), (d, .cells [.map kb, .map b4, .slice true [], .int .i64 (-1), .bool false, .int .i64 s.steps]), (kb, mObj (restR s keep torn))]), fun _ _ h => h, ?_⟩
       show K (.tuple []) (AMem.wth m [(b4, mObj nw), (d, .cells [.map kb, .map b4, .slice true [], .int .i64 (-1), .bool false, .int .i64 s.steps]), (kb, mObj (restR s keep torn))])
      
       exact hK b4 hNb4 hFb4 nw (hI2.2.2 ▸ rebuild_perm (restR_nd hk keep torn) hI2.1 hI2.2.1 hE2)
      ·
       rintro k2 ⟨ek2, ev2⟩ hp2 hn2
       refine ⟨(Nat.le_of_ble_eq_true rfl), ?_⟩
       show K1 [(0, .ptr ⟨d, 0, none⟩), (98, .ptr ⟨q2, 0, none⟩), (100, .bool true)] (AMem.wth m [(b4, mObj nw), (d, .cells [.map kb, .map b4, .slice true [], .int .i64 (-1), .bool false, .int .i64 s.steps]), (kb, .iter q2 (List.map (mapAV strAV strAV) (restR s keep torn)) (seen ++ [k2]))])
       refine hK1 _ _ ?_; clear hK1 K1
       refine awp_seq_k ?_; intro K9 hK9
       refine awp_cond rfl rfl (fun hcz => ?_) (fun hcz => ?_)
       rotate_left; · cases hcz
       clear hcz
       refine awp_skip ?_
       refine hK9 _ _ ?_; clear hK9
       refine awp_block ?_
       refine awp_reg2_seq [] [0, 9, 10, 98] (by decide) ?_
       intro K1 hK1
       refine ar_entryT rfl (m := m) (L := [(b4, mObj nw), (d, .cells [.map kb, .map b4, .slice true [], .int .i64 (-1), .bool false, .int .i64 s.steps]), (kb, .iter q2 (List.map (mapAV strAV strAV) (restR s keep torn)) (seen ++ [k2]))]) 2 strAV strAV (restR s keep torn) seen hp2 rfl rfl hNb4 ?_
       refine ⟨(Nat.le_of_ble_eq_true rfl), (Nat.le_of_ble_eq_true rfl), trivial, trivial, ?_⟩
       show K1 [(0, .ptr ⟨d, 0, none⟩), (9, .str ek2), (10, .str ev2), (98, .ptr ⟨q2, 0, none⟩)] (AMem.wth m [(b4, mObj nw), (d, .cells [.map kb, .map b4, .slice true [], .int .i64 (-1), .bool false, .int .i64 s.steps]), (kb, .iter q2 (List.map (mapAV strAV strAV) (restR s keep torn)) (seen ++ [k2]))])
       refine hK1 _ _ ?_; clear hK1 K1
       refine awp_reg2 [] [0, 98] (by decide) ?_
       intro K1 hK1
       refine ⟨trivial, trivial, ⟨rfl, by decide⟩, ?_⟩
       refine ar_loadp rfl (m := m) (L := [(b4, mObj nw), (d, .cells [.map kb, .map b4, .slice true [], .int .i64 (-1), .bool false, .int .i64 s.steps]), (kb, .iter q2 (List.map (mapAV strAV strAV) (restR s keep torn)) (seen ++ [k2]))]) (v := .map b4) rfl (wth_get 1 hNb4 rfl) rfl (apartOk_one rfl rfl (Nat.le_of_ble_eq_true rfl)) rfl ?_
       refine ⟨trivial, trivial, ?_⟩
       refine ar_mapUpdate rfl (m := m) (L := [(b4, mObj nw), (d, .cells [.map kb, .map b4, .slice true [], .int .i64 (-1), .bool false, .int .i64 s.steps]), (kb, .iter q2 (List.map (mapAV strAV strAV) (restR s keep torn)) (seen ++ [k2]))]) 0 strAV strAV strKey_ok nw ek2 ev2 rfl rfl rfl rfl rfl rfl hNb4 (by have := rebuild_len (restR s keep torn) seen; have := seen_len hI2.1 hI2.2.1; rw [← hI2.2.2] at *; refine Nat.le_trans (mput_len _ _ _) (by omega)) ?_
       show K1 [(0, .ptr ⟨d, 0, none⟩), (98, .ptr ⟨q2, 0, none⟩)] (AMem.wth m [(b4, mObj (mput nw ek2 ev2)), (d, .cells [.map kb, .map b4, .slice true [], .int .i64 (-1), .bool false, .int .i64 s.steps]), (kb, .iter q2 (List.map (mapAV strAV strAV) (restR s keep torn)) (seen ++ [k2]))])
       refine hK1 _ _ ?_; clear hK1 K1
       refine ⟨(mput nw ek2 ev2, seen ++ [k2]), rfl, rfl, ?_, ?_⟩
       ·
        show ((seen ++ [k2] : (List Nat))).Nodup ∧ (∀ i ∈ ((seen ++ [k2] : (List Nat))), i < (restR s keep torn).length) ∧ ((mput nw ek2 ev2 : (List (Str × Str)))) = rebuild (restR s keep torn) ((seen ++ [k2] : (List Nat)))
        exact rstep hI2.1 hI2.2.1 hI2.2.2 hp2 hn2
       ·
        show (restR s keep torn).length - ((seen ++ [k2] : (List Nat))).length < (restR s keep torn).length - seen.length
        exact rdec hI2.1 hI2.2.1 hp2 hn2
   ·
    replace h3 : ((s.wait.length : Int) ≤ clampI keep s.wait.length) ∨ (3 < (gI s.wait (clampI keep s.wait.length)).kind) := ((bandF h3).imp (fun q => (Int.not_lt.1 (of_decide_eq_false q))) (fun q => (Int.not_le.1 (of_decide_eq_false q))))
    refine awp_skip ?_
    refine hK5 _ _ ?_; clear hK5
    refine awp_reg2_seq [] [0] (by decide) ?_
    intro K1 hK1
    refine ⟨trivial, trivial, trivial, trivial, ⟨rfl, by decide⟩, ?_⟩
    refine ar_storep rfl 0 (m := m) (L := [(d, dObj kb nb s), (kb, mObj kp)]) (v := .slice true []) (l' := [.map kb, .map nb, .slice true [], .int .i64 s.fuse, .bool s.down, .int .i64 s.steps]) rfl rfl hN rfl rfl rfl rfl rfl (Nat.le_of_ble_eq_true rfl) rfl ?_
    refine ⟨trivial, ⟨rfl, by decide⟩, ?_⟩
    refine ar_storep rfl 0 (m := m) (L := [(d, .cells [.map kb, .map nb, .slice true [], .int .i64 s.fuse, .bool s.down, .int .i64 s.steps]), (kb, mObj kp)]) (v := .bool false) (l' := [.map kb, .map nb, .slice true [], .int .i64 s.fuse, .bool false, .int .i64 s.steps]) rfl rfl hN rfl rfl rfl rfl rfl (Nat.le_of_ble_eq_true rfl) rfl ?_
    refine ⟨trivial, ⟨rfl, by decide⟩, ?_⟩
    refine ar_storep rfl 0 (m := m) (L := [(d, .cells [.map kb, .map nb, .slice true [], .int .i64 s.fuse, .bool false, .int .i64 s.steps]), (kb, mObj kp)]) (v := .int .i64 (-1)) (l' := [.map kb, .map nb, .slice true [], .int .i64 (-1), .bool false, .int .i64 s.steps]) rfl rfl hN rfl rfl rfl rfl rfl (Nat.le_of_ble_eq_true rfl) rfl ?_
    show K1 [(0, .ptr ⟨d, 0, none⟩)] (AMem.wth m [(d, .cells [.map kb, .map nb, .slice true [], .int .i64 (-1), .bool false, .int .i64 s.steps]), (kb, mObj kp)])
    refine hK1 _ _ ?_; clear hK1 K1
    have hr : restR s keep torn = kp := by
     unfold restR restK tornOf; rw [hkp]
     first | (rw [if_pos ⟨by omega, by omega, by assumption⟩]; done) | (rw [if_neg (by rintro ⟨a, b, c⟩; first | omega | exact c ‹_›)]; done)
    rw [← hr]
    have hra := hrl
    show AWP _ _ _ _ [(0, .ptr ⟨d, 0, none⟩)] (AMem.wth m [(d, .cells [.map kb, .map nb, .slice true [], .int .i64 (-1), .bool false, .int .i64 s.steps]), (kb, mObj (restR s keep torn))])
    refine awp_reg2_seq [] [0] (by decide) ?_
    intro K1 hK1
    refine ⟨trivial, ?_⟩
    refine ar_makeMap rfl (m := m) (L := [(d, .cells [.map kb, .map nb, .slice true [], .int .i64 (-1), .bool false, .int .i64 s.steps]), (kb, mObj (restR s keep torn))]) rfl ?_
    intro b5 hb5
    have hFb5 : m b5 = none := wth_none (m := m) (L := [(d, .cells [.map kb, .map nb, .slice true [], .int .i64 (-1), .bool false, .int .i64 s.steps]), (kb, mObj (restR s keep torn))]) hb5
    have hNb5 : ([b5, d, kb] : List Nat).Nodup := wth_nodup (m := m) (L := [(d, .cells [.map kb, .map nb, .slice true [], .int .i64 (-1), .bool false, .int .i64 s.steps]), (kb, mObj (restR s keep torn))]) hb5 hN
    refine ⟨trivial, ⟨rfl, by decide⟩, ?_⟩
    refine ar_storep rfl 1 (m := m) (L := [(b5, mObj ([] : List ((List UInt8) × (List UInt8)))), (d, .cells [.map kb, .map nb, .slice true [], .int .i64 (-1), .bool false, .int .i64 s.steps]), (kb, mObj (restR s keep torn))]) (v := .map b5) (l' := [.map kb, .map b5, .slice true [], .int .i64 (-1), .bool false, .int .i64 s.steps]) rfl rfl hNb5 rfl rfl rfl rfl rfl (Nat.le_of_ble_eq_true rfl) rfl ?_
    show K1 [(0, .ptr ⟨d, 0, none⟩)] (AMem.wth m [(b5, mObj ([] : List ((List UInt8) × (List UInt8)))), (d, .cells [.map kb, .map b5, .slice true [], .int .i64 (-1), .bool false, .int .i64 s.steps]), (kb, mObj (restR s keep torn))])
    refine hK1 _ _ ?_; clear hK1 K1
    refine awp_reg2_seq [] [0, 98] (by decide) ?_
    intro K1 hK1
    refine ⟨trivial, trivial, ⟨rfl, by decide⟩, ?_⟩
    refine ar_loadp rfl (m := m) (L := [(b5, mObj ([] : List ((List UInt8) × (List UInt8)))), (d, .cells [.map kb, .map b5, .slice true [], .int .i64 (-1), .bool false, .int .i64 s.steps]), (kb, mObj (restR s keep torn))]) (v := .map kb) rfl (wth_get 1 hNb5 rfl) rfl (apartOk_one rfl rfl (Nat.le_of_ble_eq_true rfl)) rfl ?_
    refine ar_range rfl (m := m) (L := [(b5, mObj ([] : List ((List UInt8) × (List UInt8)))), (d, .cells [.map kb, .map b5, .slice true [], .int .i64 (-1), .bool false, .int .i64 s.steps]), (kb, mObj (restR s keep torn))]) 2 rfl rfl rfl hNb5 ?_
    intro q3 _
    show K1 [(0, .ptr ⟨d, 0, none⟩), (98, .ptr ⟨q3, 0, none⟩)] (AMem.wth m [(b5, mObj ([] : List ((List UInt8) × (List UInt8)))), (d, .cells [.map kb, .map b5, .slice true [], .int .i64 (-1), .bool false, .int .i64 s.steps]), (kb, .iter q3 (List.map (mapAV strAV strAV) (restR s keep torn)) [])])
    refine hK1 _ _ ?_; clear hK1 K1
    refine awp_block ?_
    refine awp_keep [0, 98] (by decide) ?_
    refine awp_loop_st (σ := (List (Str × Str)) × (List Nat)) (fun ⟨nw, seen⟩ => [(0, .ptr ⟨d, 0, none⟩), (98, .ptr ⟨q3, 0, none⟩)]) (fun ⟨nw, seen⟩ => (AMem.wth m [(b5, mObj nw), (d, .cells [.map kb, .map b5, .slice true [], .int .i64 (-1), .bool false, .int .i64 s.steps]), (kb, .iter q3 (List.map (mapAV strAV strAV) (restR s keep torn)) seen)])) (fun ⟨nw, seen⟩ => seen.Nodup ∧ (∀ i ∈ seen, i < (restR s keep torn).length) ∧ nw = rebuild (restR s keep torn) seen) (fun ⟨nw, seen⟩ => (restR s keep torn).length - seen.length) (([] : List ((List UInt8) × (List UInt8))), []) rfl rfl ?_ ?_
    ·
     show (([] : (List Nat))).Nodup ∧ (∀ i ∈ (([] : (List Nat))), i < (restR s keep torn).length) ∧ ((([] : List ((List UInt8) × (List UInt8))) : (List (Str × Str)))) = rebuild (restR s keep torn) (([] : (List Nat)))
     exact ⟨List.nodup_nil, by simp, rfl⟩
    ·
     rintro ⟨nw, seen⟩ hI2
     replace hI2 : seen.Nodup ∧ (∀ i ∈ seen, i < (restR s keep torn).length) ∧ nw = rebuild (restR s keep torn) seen := hI2
     show AWP _ _ _ _ [(0, .ptr ⟨d, 0, none⟩), (98, .ptr ⟨q3, 0, none⟩)] (AMem.wth m [(b5, mObj nw), (d, .cells [.map kb, .map b5, .slice true [], .int .i64 (-1), .bool false, .int .i64 s.steps]), (kb, .iter q3 (List.map (mapAV strAV strAV) (restR s keep torn)) seen)])
     refine awp_reg2_seq [] [0, 98, 100] (by decide) ?_
     intro K1 hK1
     refine ar_nextT rfl (m := m) (L := [(b5, mObj nw), (d, .cells [.map kb, .map b5, .slice true [], .int .i64 (-1), .bool false, .int .i64 s.steps]), (kb, .iter q3 (List.map (mapAV strAV strAV) (restR s keep torn)) seen)]) 2 strAV strAV (restR s keep torn) seen rfl rfl hNb5 ?_ ?_
     ·
      intro hE3
      refine ⟨(Nat.le_of_ble_eq_true rfl), ?_⟩
      show K1 [(0, .ptr ⟨d, 0, none⟩), (98, .ptr ⟨q3, 0, none⟩), (100, .bool false)] (AMem.wth m [(b5, mObj nw), (d, .cells [.map kb, .map b5, .slice true [], .int .i64 (-1), .bool false, .int .i64 s.steps]), (kb, .iter q3 (List.map (mapAV strAV strAV) (restR s keep torn)) seen)])
      refine hK1 _ _ ?_; clear hK1 K1
      refine awp_unrange (m := m) (L := [(b5, mObj nw), (d, .cells [.map kb, .map b5, .slice true [], .int .i64 (-1), .bool false, .int .i64 s.steps]), (kb, .iter q3 (List.map (mapAV strAV strAV) (restR s keep torn)) seen)]) 2 hNb5 rfl ?_
      show AWP _ _ _ _ [(0, .ptr ⟨d, 0, none⟩), (98, .ptr ⟨q3, 0, none⟩), (100, .bool false)] (AMem.wth m [(b5, mObj nw), (d, .cells [.map kb, .map b5, .slice true [], .int .i64 (-1), .bool false, .int .i64 s.steps]), (kb, mObj (restR s keep torn))])
      refine awp_seq_k ?_; intro K10 hK10
      refine awp_cond rfl rfl (fun hcz => ?_) (fun hcz => ?_)
      ·
       cases hcz
      clear hcz
      refine awp_exit ?_
      refine ⟨(AMem.wth m [(b5, mObj nw), (d, .cells [.map kb, .map b5, .slice true [], .int .i64 (-1), .bool false, .int .i64 s.steps]), (kb, mObj (restR s keep torn))]), fun _ _ h => h, ?_⟩
      show K (.tuple []) (AMem.wth m [(b5, mObj nw), (d, .cells [.map kb, .map b5, .slice true [], .int .i64 (-1), .bool false, .int .i64 s.steps]), (kb, mObj (restR s keep torn))])
     
      exact hK b5 hNb5 hFb5 nw (hI2.2.2 ▸ rebuild_perm (restR_nd hk keep torn) hI2.1 hI2.2.1 hE3)
     ·
      rintro k3 ⟨ek3, ev3⟩ hp3 hn3
      refine ⟨(Nat.le_of_ble_eq_true rfl), ?_⟩
      show K1 [(0, .ptr ⟨d, 0, none⟩), (98, .ptr ⟨q3, 0, none⟩), (100, .bool true)] (AMem.wth m [(b5, mObj nw), (d, .cells [.map kb, .map b5, .slice true [], .int .i64 (-1), .bool false, .int .i64 s.steps]), (kb, .iter q3 (List.map (mapAV strAV strAV) (restR s keep torn)) (seen ++ [k3]))])
      refine hK1 _ _ ?_; clear hK1 K1
      refine awp_seq_k ?_; intro K11 hK11
      refine awp_cond rfl rfl (fun hcz => ?_) (fun hcz => ?_)
      rotate_left; · cases hcz
      clear hcz
      refine awp_skip ?_
      refine hK11 _ _ ?_; clear hK11
      refine awp_block ?_
      refine awp_reg2_seq [] [0, 9, 10, 98] (by decide) ?_
      intro K1 hK1
      refine ar_entryT rfl (m := m) (L := [(b5, mObj nw), (d, .cells [.map kb, .map b5, .slice true [], .int .i64 (-1), .bool false, .int .i64 s.steps]), (kb, .iter q3 (List.map (mapAV strAV strAV) (restR s keep torn)) (seen ++ [k3]))]) 2 strAV strAV (restR s keep torn) seen hp3 rfl rfl hNb5 ?_
      refine ⟨(Nat.le_of_ble_eq_true rfl), (Nat.le_of_ble_eq_true rfl), trivial, trivial, ?_⟩
      show K1 [(0, .ptr ⟨d, 0, none⟩), (9, .str ek3), (10, .str ev3), (98, .ptr ⟨q3, 0, none⟩)] (AMem.wth m [(b5, mObj nw), (d, .cells [.map kb, .map b5, .slice true [], .int .i64 (-1), .bool false, .int .i64 s.steps]), (kb, .iter q3 (List.map (mapAV strAV strAV) (restR s keep torn)) (seen ++ [k3]))])
      refine hK1 _ _ ?_; clear hK1 K1
      refine awp_reg2 [] [0, 98] (by decide) ?_
      intro K1 hK1
      refine ⟨trivial, trivial, ⟨rfl, by decide⟩, ?_⟩
      refine ar_loadp rfl (m := m) (L := [(b5, mObj nw), (d, .cells [.map kb, .map b5, .slice true [], .int .i64 (-1), .bool false, .int .i64 s.steps]), (kb, .iter q3 (List.map (mapAV strAV strAV) (restR s keep torn)) (seen ++ [k3]))]) (v := .map b5) rfl (wth_get 1 hNb5 rfl) rfl (apartOk_one rfl rfl (Nat.le_of_ble_eq_true rfl)) rfl ?_
      refine ⟨trivial, trivial, ?_⟩
      refine ar_mapUpdate rfl (m := m) (L := [(b5, mObj nw), (d, .cells [.map kb, .map b5, .slice true [], .int .i64 (-1), .bool false, .int .i64 s.steps]), (kb, .iter q3 (List.map (mapAV strAV strAV) (restR s keep torn)) (seen ++ [k3]))]) 0 strAV strAV strKey_ok nw ek3 ev3 rfl rfl rfl rfl rfl rfl hNb5 (by have := rebuild_len (restR s keep torn) seen; have := seen_len hI2.1 hI2.2.1; rw [← hI2.2.2] at *; refine Nat.le_trans (mput_len _ _ _) (by omega)) ?_
      show K1 [(0, .ptr ⟨d, 0, none⟩), (98, .ptr ⟨q3, 0, none⟩)] (AMem.wth m [(b5, mObj (mput nw ek3 ev3)), (d, .cells [.map kb, .map b5, .slice true [], .int .i64 (-1), .bool false, .int .i64 s.steps]), (kb, .iter q3 (List.map (mapAV strAV strAV) (restR s keep torn)) (seen ++ [k3]))])
      refine hK1 _ _ ?_; clear hK1 K1
      refine ⟨(mput nw ek3 ev3, seen ++ [k3]), rfl, rfl, ?_, ?_⟩
      ·
       show ((seen ++ [k3] : (List Nat))).Nodup ∧ (∀ i ∈ ((seen ++ [k3] : (List Nat))), i < (restR s keep torn).length) ∧ ((mput nw ek3 ev3 : (List (Str × Str)))) = rebuild (restR s keep torn) ((seen ++ [k3] : (List Nat)))
       exact rstep hI2.1 hI2.2.1 hI2.2.2 hp3 hn3
      ·
       show (restR s keep torn).length - ((seen ++ [k3] : (List Nat))).length < (restR s keep torn).length - seen.length
       exact rdec hI2.1 hI2.2.1 hp3 hn3

end Go.Proofs
