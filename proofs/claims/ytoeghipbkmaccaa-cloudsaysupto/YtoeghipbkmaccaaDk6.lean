import Derived.Test.YtoeghipbkmaccaaProg
import Derived.Test.YtoeghipbkmaccaaWl5
import Derived.Test.YtoeghipbkmaccaaWxr
import Derived.Test.YtoeghipbkmaccaaDk5
namespace Go.Proofs
open Go Go.Aw
set_option maxRecDepth 100000


def rObjK (kp : List (Str × Str)) (s : RSt) : AObj := .cells [.slice true (kp.map fileAV), .slice true (s.now.map fileAV), .slice true (s.wait.map trnAV), .int .i64 s.fuse, .bool s.down, .int .i64 s.steps]
theorem putF_bnd (f : Str × Str) (l : List (Str × Str)) : ∀ (st : List (Str × Str) × Bool), ((l.foldl (putS f) st).1.length + (if (l.foldl (putS f) st).2 = true then 0 else 1) ≤ st.1.length + l.length + (if st.2 = true then 0 else 1)) ∧ ∀ p ∈ (l.foldl (putS f) st).1, p ∈ st.1 ∨ p ∈ l ∨ p = f := by
  induction l with
  | nil => intro st; exact ⟨by show st.1.length + (if st.2 = true then 0 else 1) ≤ st.1.length + 0 + (if st.2 = true then 0 else 1); omega, fun p hp => .inl hp⟩
  | cons x r ih =>
    intro st
    obtain ⟨h1, h2⟩ := ih (putS f st x)
    have hs : (putS f st x).1.length + (if (putS f st x).2 = true then 0 else 1) ≤ st.1.length + 1 + (if st.2 = true then 0 else 1) ∧ ∀ p ∈ (putS f st x).1, p ∈ st.1 ∨ p = x ∨ p = f := by
      unfold putS
      obtain ⟨o, b⟩ := st
      split
      · rename_i h; obtain ⟨h, _⟩ := h
        simp only at h; subst h
        split
        · refine ⟨by simp, fun p hp => by simp at hp; rcases hp with h | h | h <;> simp [h]⟩
        · refine ⟨by simp, fun p hp => by simp at hp; rcases hp with h | h <;> simp [h]⟩
      · split
        · refine ⟨by cases b <;> simp, fun p hp => by simp at hp; rcases hp with h | h <;> simp [h]⟩
        · refine ⟨by cases b <;> simp, fun p hp => .inl hp⟩
    rw [List.foldl_cons]
    generalize r.foldl (putS f) (putS f st x) = z at h1 h2
    generalize putS f st x = y at h1 h2 hs
    refine ⟨by have := hs.1; simp only [List.length_cons]; omega, fun p hp => ?_⟩
    rcases h2 p hp with h | h | h
    · rcases hs.2 p h with h | h | h
      · exact .inl h
      · exact .inr (.inl (by simp [h]))
      · exact .inr (.inr h)
    · exact .inr (.inl (by simp [h]))
    · exact .inr (.inr h)
theorem putR_bnd (l : List (Str × Str)) (f : Str × Str) : (putR l f).length ≤ l.length + 1 ∧ ∀ p ∈ putR l f, p ∈ l ∨ p = f := by
  obtain ⟨h1, h2⟩ := putF_bnd f l ([], false)
  unfold putR
  split
  · rename_i h
    rw [if_pos h] at h1
    refine ⟨by simpa using h1, fun p hp => ?_⟩
    rcases h2 p hp with h | h
    · simp at h
    · exact h
  · rename_i h
    rw [if_neg h] at h1
    refine ⟨by simp at h1 ⊢; omega, fun p hp => ?_⟩
    rcases List.mem_append.1 hp with hp | hp
    · rcases h2 p hp with h | h
      · simp at h
      · exact h
    · simp at hp; exact .inr hp
theorem turnR_bnd {l : List (Str × Str)} {t : Trn} {B : Nat} (h : ∀ p ∈ l, p.2.length ≤ B) (ht : t.data.length ≤ 4000) : (turnR l t).length ≤ l.length + 1 ∧ ∀ p ∈ turnR l t, p.2.length ≤ B + 4000 := by
  have hg := mget_le (k := t.name) h
  have hw : ∀ p ∈ woR l t.name, p.2.length ≤ B := fun p hp => h p (List.mem_filter.1 hp).1
  have hwl := woR_len l t.name
  have put : ∀ (l' : List (Str × Str)) (f : Str × Str), l'.length ≤ l.length → (∀ p ∈ l', p.2.length ≤ B) → f.2.length ≤ B + 4000 → (putR l' f).length ≤ l.length + 1 ∧ ∀ p ∈ putR l' f, p.2.length ≤ B + 4000 := fun l' f h1 h2 h3 => by
    obtain ⟨q1, q2⟩ := putR_bnd l' f
    refine ⟨by omega, fun p hp => ?_⟩
    rcases q2 p hp with hp | hp
    · have := h2 p hp; omega
    · subst hp; exact h3
  unfold turnR
  split
  · exact put l _ (Nat.le_refl _) h (by show t.data.length ≤ _; omega)
  · split
    · exact put l _ (Nat.le_refl _) h (by show ((mget l t.name).getD [] ++ t.data).length ≤ _; rw [List.length_append]; omega)
    · split
      · exact put _ _ hwl hw (by show ((mget l t.name).getD []).length ≤ _; omega)
      · exact ⟨by omega, fun p hp => by have := hw p hp; omega⟩
theorem turnL_bnd {ts : List Trn} (hc : ∀ t ∈ ts, t.data.length ≤ 4000) : ∀ {l : List (Str × Str)} {B : Nat}, (∀ p ∈ l, p.2.length ≤ B) → (turnL l ts).length ≤ l.length + ts.length ∧ ∀ p ∈ turnL l ts, p.2.length ≤ B + 4000 * ts.length := by
  induction ts with
  | nil => intro l B h; exact ⟨by simp [turnL], fun p hp => by have := h p hp; simp; omega⟩
  | cons c ts ih =>
    intro l B h
    obtain ⟨h1, h2⟩ := turnR_bnd (t := c) h (hc c (by simp))
    obtain ⟨h3, h4⟩ := ih (fun t ht => hc t (by simp [ht])) (l := turnR l c) h2
    exact ⟨by show (turnL (turnR l c) ts).length ≤ _; simp only [List.length_cons]; omega, fun p hp => by have := h4 p hp; simp only [List.length_cons]; omega⟩
theorem turnL_step {l : List (Str × Str)} {ts : List Trn} {i : Int} (h0 : 0 ≤ i) (hi : i < ts.length) : turnR (turnL l (ts.take i.toNat)) (gI ts i) = turnL l (ts.take (i + 1).toNat) := by
  rw [take_succ_gI h0 hi, turnL, turnL, List.foldl_append]; rfl
theorem maxI_b (a : Int) : 0 ≤ maxI a ∧ a ≤ maxI a ∧ (maxI a = 0 ∨ maxI a = a) := by unfold maxI; split <;> omega
theorem keptQ_bnd {s : RSt} (hw : ∀ t ∈ s.wait, t.data.length ≤ 4000) {B : Nat} (hkb : ∀ p ∈ s.kept, p.2.length + 4000 * s.wait.length ≤ B) (hB : 4000 * s.wait.length ≤ B) (keep torn : Int) : (keptQ s keep torn).length ≤ s.kept.length + s.wait.length ∧ ∀ p ∈ keptQ s keep torn, p.2.length ≤ B := by
  have hm := maxI_b keep
  have h := turnL_bnd (ts := s.wait.take (maxI keep).toNat) (fun c hc => hw c (List.mem_of_mem_take hc)) (l := s.kept) (B := B - 4000 * s.wait.length) (fun p hp => by have := hkb p hp; omega)
  rw [List.length_take] at h
  unfold keptQ
  split
  · rename_i hc
    have hd := hw _ (gI_mem (l := s.wait) hm.1 hc.1)
    have hct := clampI_b torn (gI s.wait (maxI keep)).data.length
    have k := turnR_bnd (t := { gI s.wait (maxI keep) with data := sub (gI s.wait (maxI keep)).data 0 (clampI torn (gI s.wait (maxI keep)).data.length) }) h.2 (by
      show (sub (gI s.wait (maxI keep)).data 0 (clampI torn (gI s.wait (maxI keep)).data.length)).length ≤ 4000
      rw [sub0_take]; simp; omega)
    exact ⟨by have := h.1; have := k.1; omega, fun p hp => by have := k.2 p hp; omega⟩
  · exact ⟨by have := h.1; omega, fun p hp => by have := h.2 p hp; omega⟩

set_option maxHeartbeats 16000000 in
theorem u_QRestart (r : Nat) (s : RSt) (keep torn : Int) (hR : RInv 0 s) (hkw : s.kept.length + s.wait.length ≤ 1000) (hkw2 : s.wait.length ≤ 200) (hkb : ∀ p ∈ s.kept, p.2.length + 4000 * s.wait.length ≤ 900000) (m : AMem)  (K : AV → AMem → Prop) (hK : K (.tuple []) (AMem.wth m [(r, rObj (restQ s keep torn))])) : ACalls Try.prog 39 [.ptr ⟨r, 0, none⟩, .int .i64 keep, .int .i64 torn] (AMem.wth m [(r, rObj s)]) K := by
 have hml := maxI_b keep
 have hct := clampI_b torn (gI s.wait (maxI keep)).data.length
 have hwl := hR.wl
 have hkq := keptQ_bnd hR.wb (B := 900000) hkb (by omega) keep torn
 refine acalls_enter Try.func39 rfl (by decide) (Nat.le_of_ble_eq_true rfl) ?_
 show AWP _ _ _ _ [(0, .ptr ⟨r, 0, none⟩), (1, .int .i64 keep), (2, .int .i64 torn)] (AMem.wth m [(r, rObj s)])
 refine awp_seq_k ?_; intro K2 hK2
 refine awp_reg2_seq [] [0, 1, 2, 6] (by decide) ?_
 intro K1 hK1
 refine ⟨trivial, ?_⟩
 show K1 [(0, .ptr ⟨r, 0, none⟩), (1, .int .i64 keep), (2, .int .i64 torn), (6, .int .i64 0)] (AMem.wth m [(r, rObj s)])
 refine hK1 _ _ ?_; clear hK1 K1
 refine awp_block ?_
 refine awp_keep [0, 1, 2, 6] (by decide) ?_
 refine awp_loop_st (σ := Int × (List (Str × Str))) (fun ⟨i, kp⟩ => [(0, .ptr ⟨r, 0, none⟩), (1, .int .i64 keep), (2, .int .i64 torn), (6, .int .i64 i)]) (fun ⟨i, kp⟩ => (AMem.wth m [(r, rObjK kp s)])) (fun ⟨i, kp⟩ => 0 ≤ i ∧ i ≤ s.wait.length ∧ i ≤ maxI keep ∧ kp = turnL s.kept (s.wait.take i.toNat)) (fun ⟨i, kp⟩ => s.wait.length - i.toNat) (0, s.kept) rfl rfl ?_ ?_
 ·
  show 0 ≤ ((0 : Int)) ∧ ((0 : Int)) ≤ s.wait.length ∧ ((0 : Int)) ≤ maxI keep ∧ ((s.kept : (List (Str × Str)))) = turnL s.kept (s.wait.take ((0 : Int)).toNat)
  exact ⟨by omega, by omega, by omega, rfl⟩
 rintro ⟨i, kp⟩ hI
 replace hI : 0 ≤ i ∧ i ≤ s.wait.length ∧ i ≤ maxI keep ∧ kp = turnL s.kept (s.wait.take i.toNat) := hI
 have hap := turnL_bnd (ts := s.wait.take i.toNat) (fun c hc => hR.wb c (List.mem_of_mem_take hc)) (l := s.kept) (B := 900000 - 4000 * s.wait.length) (fun p hp => by have := hkb p hp; omega)
 rw [← hI.2.2.2, List.length_take] at hap
 show AWP _ _ _ _ [(0, .ptr ⟨r, 0, none⟩), (1, .int .i64 keep), (2, .int .i64 torn), (6, .int .i64 i)] (AMem.wth m [(r, rObjK kp s)])
 refine awp_seq_k ?_; intro K3 hK3
 refine awp_reg2_seq [] [0, 1, 2, 6, 21] (by decide) ?_
 intro K1 hK1
 suffices key : K1 [(0, .ptr ⟨r, 0, none⟩), (1, .int .i64 keep), (2, .int .i64 torn), (6, .int .i64 i), (21, .bool ((decide (i < (s.wait.length : Int))) && (decide (i < keep))))] (AMem.wth m [(r, rObjK kp s)]) by
  refine ⟨trivial, trivial, trivial, ⟨rfl, by decide⟩, ?_⟩
  refine ar_loadp rfl (v := .slice false (s.wait.map trnAV)) rfl (wth_get 0 (nodup_1 r) rfl) rfl (apartOk_one rfl rfl (Nat.le_of_ble_eq_true rfl)) rfl ?_
  refine ar_len rfl trnAV s.wait rfl rfl rfl ?_
  refine ⟨trivial, trivial, ?_⟩
  show aopsR _ _ _ _ _ [(17, .bool (decide (i < (s.wait.length : Int)))), (16, .bool (decide (i < (s.wait.length : Int)))), (15, .int .i64 (s.wait.length : Int)), (14, .slice false (s.wait.map trnAV)), (13, .ptr ⟨r, 2, none⟩), (12, .ptr ⟨r, 0, none⟩), (11, .ptr ⟨r, 0, none⟩), (10, .int .i64 i), (0, .ptr ⟨r, 0, none⟩), (1, .int .i64 keep), (2, .int .i64 torn), (6, .int .i64 i)] _
  revert key
  cases h1 : (decide (i < (s.wait.length : Int)))
  ·
   replace h1 : (s.wait.length : Int) ≤ i := (Int.not_lt.1 (of_decide_eq_false h1))
   intro key
   refine ar_off rfl (ar_off rfl (ar_off rfl ?_))
   exact key
  ·
   replace h1 : i < (s.wait.length : Int) := (of_decide_eq_true h1)
   intro key
   refine ⟨trivial, trivial, trivial, ?_⟩
   exact key
 refine hK1 _ _ ?_; clear hK1 K1
 refine awp_cond rfl rfl (fun h2 => ?_) (fun h2 => ?_)
 ·
  replace h2 : (i < (s.wait.length : Int)) ∧ (i < keep) := ⟨(of_decide_eq_true (bandL h2)), (of_decide_eq_true (bandR h2))⟩
  have hwd := hR.wb _ (gI_mem hI.1 h2.1)
  refine awp_skip ?_
  refine hK3 _ _ ?_; clear hK3
  refine awp_seq_k ?_; intro K4 hK4
  refine awp_block ?_
  refine awp_anyA Try.mixed [0, 1, 2, 6] (by decide) ?_
  intro K1 hK1
  intro A hA
  suffices key : ∀ (_ : True), K1 [(0, .ptr ⟨r, 0, none⟩), (1, .int .i64 keep), (2, .int .i64 torn), (6, .int .i64 i)] (AMem.wth m [(r, rObjK (turnR kp (gI s.wait i)) s)]) by
   have s0 : ∀ (_ : True), A 0 #[true, true, true, true, true, true, true, true, true, true, true, true, true, true, true, true] (fun fr m => K1 (fr.keep [0, 1, 2, 6]) m) [(0, .ptr ⟨r, 0, none⟩), (1, .int .i64 keep), (2, .int .i64 torn), (6, .int .i64 i)] (AMem.wth m [(r, rObjK (turnR kp (gI s.wait i)) s)]) := by
    intro _
    subst hA
    exact AAny.done (by decide +kernel) (key trivial)
   have s1 : ∀ (_ : True), A 1 #[true, true, true, true, true, true, true, true, true, true, true, true, true, true, true, false] (fun fr m => K1 (fr.keep [0, 1, 2, 6]) m) [(0, .ptr ⟨r, 0, none⟩), (1, .int .i64 keep), (2, .int .i64 torn), (6, .int .i64 i), (36, .slice true ((turnR kp (gI s.wait i)).map fileAV)), (38, .ptr ⟨r, 0, none⟩)] (AMem.wth m [(r, rObjK kp s)]) := by
    intro _
    subst hA
    refine AAny.step [] [15] (by decide +kernel) (by simp) (by decide) ⟨?_, trivial⟩
    ·
     show aopsR _ _ _ [_] _ _ _
     refine ar_storep rfl 0 (v := .slice true ((turnR kp (gI s.wait i)).map fileAV)) (l' := [.slice true ((turnR kp (gI s.wait i)).map fileAV), .slice true (s.now.map fileAV), .slice true (s.wait.map trnAV), .int .i64 s.fuse, .bool s.down, .int .i64 s.steps]) rfl rfl (nodup_1 r) rfl rfl rfl rfl rfl (Nat.le_of_ble_eq_true rfl) rfl ?_
     refine AAny.keep [0, 1, 2, 6] (by decide) ?_
     exact s0 trivial
   clear s0
   have s2 : ∀ (_ : True), A 2 #[true, true, true, true, true, true, true, true, true, true, true, true, true, true, false, false] (fun fr m => K1 (fr.keep [0, 1, 2, 6]) m) [(0, .ptr ⟨r, 0, none⟩), (1, .int .i64 keep), (2, .int .i64 torn), (6, .int .i64 i), (36, .slice true ((turnR kp (gI s.wait i)).map fileAV)), (37, .ptr ⟨r, 0, none⟩)] (AMem.wth m [(r, rObjK kp s)]) := by
    intro _
    subst hA
    refine AAny.step [] [14] (by decide +kernel) (by simp) (by decide) ⟨?_, trivial⟩
    ·
     show aopsR _ _ _ [_] _ _ _
     refine ⟨⟨rfl, by decide⟩, ?_⟩
     refine AAny.keep [0, 1, 2, 6, 36, 38] (by decide) ?_
     exact s1 trivial
   clear s1
   have s3 : ∀ (_ : True), A 3 #[true, true, true, true, true, true, true, true, true, true, true, true, true, false, false, false] (fun fr m => K1 (fr.keep [0, 1, 2, 6]) m) [(0, .ptr ⟨r, 0, none⟩), (1, .int .i64 keep), (2, .int .i64 torn), (6, .int .i64 i), (24, .ptr ⟨r, 0, none⟩), (36, .slice true ((turnR kp (gI s.wait i)).map fileAV))] (AMem.wth m [(r, rObjK kp s)]) := by
    intro _
    subst hA
    refine AAny.step [] [13] (by decide +kernel) (by simp) (by decide) ⟨?_, trivial⟩
    ·
     show aopsR _ _ _ [_] _ _ _
     refine ⟨trivial, ?_⟩
     refine AAny.keep [0, 1, 2, 6, 36, 37] (by decide) ?_
     exact s2 trivial
   clear s2
   have s4 : ∀ (_ : True), A 4 #[true, true, true, true, true, true, true, true, true, true, true, true, false, false, false, false] (fun fr m => K1 (fr.keep [0, 1, 2, 6]) m) [(0, .ptr ⟨r, 0, none⟩), (1, .int .i64 keep), (2, .int .i64 torn), (6, .int .i64 i), (24, .ptr ⟨r, 0, none⟩), (28, .slice false (kp.map fileAV)), (35, trnAV (gI s.wait i))] (AMem.wth m [(r, rObjK kp s)]) := by
    intro _
    subst hA
    refine AAny.step [] [12] (by decide +kernel) (by simp) (by decide) ⟨?_, trivial⟩
    ·
     show aopsR _ _ _ [_] _ _ _
     refine u_turned kp (gI s.wait i) (by have := hap.1; omega) (fun p hp => by have := hap.2 p hp; omega) (by first | omega | (dsimp only; omega)) _ _ ?_
     refine AAny.keep [0, 1, 2, 6, 24, 36] (by decide) ?_
     exact s3 trivial
   have s5 : ∀ (_ : True), A 4 #[false, true, true, true, true, true, true, true, true, true, true, true, true, false, false, false] (fun fr m => K1 (fr.keep [0, 1, 2, 6]) m) [(0, .ptr ⟨r, 0, none⟩), (1, .int .i64 keep), (2, .int .i64 torn), (6, .int .i64 i), (36, .slice true ((turnR kp (gI s.wait i)).map fileAV))] (AMem.wth m [(r, rObjK kp s)]) := by
    intro _
    subst hA
    refine AAny.step [] [0] (by decide +kernel) (by simp) (by decide) ⟨?_, trivial⟩
    ·
     show aopsR _ _ _ [_] _ _ _
     refine ⟨trivial, ?_⟩
     refine AAny.keep [0, 1, 2, 6, 24, 36] (by decide) ?_
     exact s3 trivial
   clear s3
   have s6 : ∀ (_ : True), A 5 #[true, true, true, true, true, true, true, true, true, true, true, false, false, false, false, false] (fun fr m => K1 (fr.keep [0, 1, 2, 6]) m) [(0, .ptr ⟨r, 0, none⟩), (1, .int .i64 keep), (2, .int .i64 torn), (6, .int .i64 i), (24, .ptr ⟨r, 0, none⟩), (28, .slice false (kp.map fileAV)), (34, .ref (AV.cells (trnAV (gI s.wait i))))] (AMem.wth m [(r, rObjK kp s)]) := by
    intro _
    subst hA
    refine AAny.step [] [11] (by decide +kernel) (by simp) (by decide) ⟨?_, trivial⟩
    ·
     show aopsR _ _ _ [_] _ _ _
     refine ⟨(apartOk_agg rfl rfl (Nat.le_of_ble_eq_true rfl)), ?_⟩
     refine AAny.keep [0, 1, 2, 6, 24, 28, 35] (by decide) ?_
     exact s4 trivial
   have s7 : ∀ (_ : True), A 5 #[true, true, true, true, false, true, true, true, true, true, true, true, false, false, false, false] (fun fr m => K1 (fr.keep [0, 1, 2, 6]) m) [(0, .ptr ⟨r, 0, none⟩), (1, .int .i64 keep), (2, .int .i64 torn), (6, .int .i64 i), (24, .ptr ⟨r, 0, none⟩), (27, .ptr ⟨r, 0, none⟩), (35, trnAV (gI s.wait i))] (AMem.wth m [(r, rObjK kp s)]) := by
    intro _
    subst hA
    refine AAny.step [] [4] (by decide +kernel) (by simp) (by decide) ⟨?_, trivial⟩
    ·
     show aopsR _ _ _ [_] _ _ _
     refine ar_loadp rfl (v := .slice false (kp.map fileAV)) rfl (wth_get 0 (nodup_1 r) rfl) rfl (apartOk_one rfl rfl (Nat.le_of_ble_eq_true rfl)) rfl ?_
     refine AAny.keep [0, 1, 2, 6, 24, 28, 35] (by decide) ?_
     exact s4 trivial
   have s8 : ∀ (_ : True), A 5 #[false, true, true, true, true, true, true, true, true, true, true, true, false, false, false, false] (fun fr m => K1 (fr.keep [0, 1, 2, 6]) m) [(0, .ptr ⟨r, 0, none⟩), (1, .int .i64 keep), (2, .int .i64 torn), (6, .int .i64 i), (28, .slice false (kp.map fileAV)), (35, trnAV (gI s.wait i))] (AMem.wth m [(r, rObjK kp s)]) := by
    intro _
    subst hA
    refine AAny.step [] [0, 12] (by decide +kernel) (by simp) (by decide) ⟨?_, ?_, trivial⟩
    ·
     show aopsR _ _ _ [_] _ _ _
     refine ⟨trivial, ?_⟩
     refine AAny.keep [0, 1, 2, 6, 24, 28, 35] (by decide) ?_
     exact s4 trivial
    ·
     show aopsR _ _ _ [_] _ _ _
     refine u_turned kp (gI s.wait i) (by have := hap.1; omega) (fun p hp => by have := hap.2 p hp; omega) (by first | omega | (dsimp only; omega)) _ _ ?_
     refine AAny.keep [0, 1, 2, 6, 36] (by decide) ?_
     exact s5 trivial
   clear s4 s5
   have s9 : ∀ (_ : True), A 6 #[true, true, true, true, true, true, true, true, true, true, false, false, false, false, false, false] (fun fr m => K1 (fr.keep [0, 1, 2, 6]) m) [(0, .ptr ⟨r, 0, none⟩), (1, .int .i64 keep), (2, .int .i64 torn), (6, .int .i64 i), (24, .ptr ⟨r, 0, none⟩), (28, .slice false (kp.map fileAV)), (32, .slice false (s.wait.map trnAV)), (33, .int .i64 i)] (AMem.wth m [(r, rObjK kp s)]) := by
    intro _
    subst hA
    refine AAny.step [] [10] (by decide +kernel) (by simp) (by decide) ⟨?_, trivial⟩
    ·
     show aopsR _ _ _ [_] _ _ _
     refine ar_index rfl trnAV s.wait i rfl rfl rfl rfl rfl (by decide) (fun _ => rfl) (by omega) (by omega) ?_
     refine AAny.keep [0, 1, 2, 6, 24, 28, 34] (by decide) ?_
     exact s6 trivial
   have s10 : ∀ (_ : True), A 6 #[true, true, true, true, false, true, true, true, true, true, true, false, false, false, false, false] (fun fr m => K1 (fr.keep [0, 1, 2, 6]) m) [(0, .ptr ⟨r, 0, none⟩), (1, .int .i64 keep), (2, .int .i64 torn), (6, .int .i64 i), (24, .ptr ⟨r, 0, none⟩), (27, .ptr ⟨r, 0, none⟩), (34, .ref (AV.cells (trnAV (gI s.wait i))))] (AMem.wth m [(r, rObjK kp s)]) := by
    intro _
    subst hA
    refine AAny.step [] [4, 11] (by decide +kernel) (by simp) (by decide) ⟨?_, ?_, trivial⟩
    ·
     show aopsR _ _ _ [_] _ _ _
     refine ar_loadp rfl (v := .slice false (kp.map fileAV)) rfl (wth_get 0 (nodup_1 r) rfl) rfl (apartOk_one rfl rfl (Nat.le_of_ble_eq_true rfl)) rfl ?_
     refine AAny.keep [0, 1, 2, 6, 24, 28, 34] (by decide) ?_
     exact s6 trivial
    ·
     show aopsR _ _ _ [_] _ _ _
     refine ⟨(apartOk_agg rfl rfl (Nat.le_of_ble_eq_true rfl)), ?_⟩
     refine AAny.keep [0, 1, 2, 6, 24, 27, 35] (by decide) ?_
     exact s7 trivial
   have s11 : ∀ (_ : True), A 6 #[true, true, true, false, false, true, true, true, true, true, true, true, false, false, false, false] (fun fr m => K1 (fr.keep [0, 1, 2, 6]) m) [(0, .ptr ⟨r, 0, none⟩), (1, .int .i64 keep), (2, .int .i64 torn), (6, .int .i64 i), (24, .ptr ⟨r, 0, none⟩), (26, .ptr ⟨r, 0, none⟩), (35, trnAV (gI s.wait i))] (AMem.wth m [(r, rObjK kp s)]) := by
    intro _
    subst hA
    refine AAny.step [] [3] (by decide +kernel) (by simp) (by decide) ⟨?_, trivial⟩
    ·
     show aopsR _ _ _ [_] _ _ _
     refine ⟨⟨rfl, by decide⟩, ?_⟩
     refine AAny.keep [0, 1, 2, 6, 24, 27, 35] (by decide) ?_
     exact s7 trivial
   have s12 : ∀ (_ : True), A 6 #[false, true, true, true, true, true, true, true, true, true, true, false, false, false, false, false] (fun fr m => K1 (fr.keep [0, 1, 2, 6]) m) [(0, .ptr ⟨r, 0, none⟩), (1, .int .i64 keep), (2, .int .i64 torn), (6, .int .i64 i), (28, .slice false (kp.map fileAV)), (34, .ref (AV.cells (trnAV (gI s.wait i))))] (AMem.wth m [(r, rObjK kp s)]) := by
    intro _
    subst hA
    refine AAny.step [] [0, 11] (by decide +kernel) (by simp) (by decide) ⟨?_, ?_, trivial⟩
    ·
     show aopsR _ _ _ [_] _ _ _
     refine ⟨trivial, ?_⟩
     refine AAny.keep [0, 1, 2, 6, 24, 28, 34] (by decide) ?_
     exact s6 trivial
    ·
     show aopsR _ _ _ [_] _ _ _
     refine ⟨(apartOk_agg rfl rfl (Nat.le_of_ble_eq_true rfl)), ?_⟩
     refine AAny.keep [0, 1, 2, 6, 28, 35] (by decide) ?_
     exact s8 trivial
   clear s6
   have s13 : ∀ (_ : True), A 6 #[false, true, true, true, false, true, true, true, true, true, true, true, false, false, false, false] (fun fr m => K1 (fr.keep [0, 1, 2, 6]) m) [(0, .ptr ⟨r, 0, none⟩), (1, .int .i64 keep), (2, .int .i64 torn), (6, .int .i64 i), (27, .ptr ⟨r, 0, none⟩), (35, trnAV (gI s.wait i))] (AMem.wth m [(r, rObjK kp s)]) := by
    intro _
    subst hA
    refine AAny.step [] [0, 4] (by decide +kernel) (by simp) (by decide) ⟨?_, ?_, trivial⟩
    ·
     show aopsR _ _ _ [_] _ _ _
     refine ⟨trivial, ?_⟩
     refine AAny.keep [0, 1, 2, 6, 24, 27, 35] (by decide) ?_
     exact s7 trivial
    ·
     show aopsR _ _ _ [_] _ _ _
     refine ar_loadp rfl (v := .slice false (kp.map fileAV)) rfl (wth_get 0 (nodup_1 r) rfl) rfl (apartOk_one rfl rfl (Nat.le_of_ble_eq_true rfl)) rfl ?_
     refine AAny.keep [0, 1, 2, 6, 28, 35] (by decide) ?_
     exact s8 trivial
   clear s7 s8
   have s14 : ∀ (_ : True), A 7 #[true, true, true, true, true, true, true, true, true, false, false, false, false, false, false, false] (fun fr m => K1 (fr.keep [0, 1, 2, 6]) m) [(0, .ptr ⟨r, 0, none⟩), (1, .int .i64 keep), (2, .int .i64 torn), (6, .int .i64 i), (24, .ptr ⟨r, 0, none⟩), (28, .slice false (kp.map fileAV)), (32, .slice false (s.wait.map trnAV))] (AMem.wth m [(r, rObjK kp s)]) := by
    intro _
    subst hA
    refine AAny.step [] [9] (by decide +kernel) (by simp) (by decide) ⟨?_, trivial⟩
    ·
     show aopsR _ _ _ [_] _ _ _
     refine ⟨trivial, ?_⟩
     refine AAny.keep [0, 1, 2, 6, 24, 28, 32, 33] (by decide) ?_
     exact s9 trivial
   have s15 : ∀ (_ : True), A 7 #[true, true, true, true, true, true, true, true, false, true, false, false, false, false, false, false] (fun fr m => K1 (fr.keep [0, 1, 2, 6]) m) [(0, .ptr ⟨r, 0, none⟩), (1, .int .i64 keep), (2, .int .i64 torn), (6, .int .i64 i), (24, .ptr ⟨r, 0, none⟩), (28, .slice false (kp.map fileAV)), (31, .ptr ⟨r, 2, none⟩), (33, .int .i64 i)] (AMem.wth m [(r, rObjK kp s)]) := by
    intro _
    subst hA
    refine AAny.step [] [8] (by decide +kernel) (by simp) (by decide) ⟨?_, trivial⟩
    ·
     show aopsR _ _ _ [_] _ _ _
     refine ar_loadp rfl (v := .slice false (s.wait.map trnAV)) rfl (wth_get 0 (nodup_1 r) rfl) rfl (apartOk_one rfl rfl (Nat.le_of_ble_eq_true rfl)) rfl ?_
     refine AAny.keep [0, 1, 2, 6, 24, 28, 32, 33] (by decide) ?_
     exact s9 trivial
   have s16 : ∀ (_ : True), A 7 #[true, true, true, true, false, true, true, true, true, true, false, false, false, false, false, false] (fun fr m => K1 (fr.keep [0, 1, 2, 6]) m) [(0, .ptr ⟨r, 0, none⟩), (1, .int .i64 keep), (2, .int .i64 torn), (6, .int .i64 i), (24, .ptr ⟨r, 0, none⟩), (27, .ptr ⟨r, 0, none⟩), (32, .slice false (s.wait.map trnAV)), (33, .int .i64 i)] (AMem.wth m [(r, rObjK kp s)]) := by
    intro _
    subst hA
    refine AAny.step [] [4, 10] (by decide +kernel) (by simp) (by decide) ⟨?_, ?_, trivial⟩
    ·
     show aopsR _ _ _ [_] _ _ _
     refine ar_loadp rfl (v := .slice false (kp.map fileAV)) rfl (wth_get 0 (nodup_1 r) rfl) rfl (apartOk_one rfl rfl (Nat.le_of_ble_eq_true rfl)) rfl ?_
     refine AAny.keep [0, 1, 2, 6, 24, 28, 32, 33] (by decide) ?_
     exact s9 trivial
    ·
     show aopsR _ _ _ [_] _ _ _
     refine ar_index rfl trnAV s.wait i rfl rfl rfl rfl rfl (by decide) (fun _ => rfl) (by omega) (by omega) ?_
     refine AAny.keep [0, 1, 2, 6, 24, 27, 34] (by decide) ?_
     exact s10 trivial
   have s17 : ∀ (_ : True), A 7 #[true, true, true, false, false, true, true, true, true, true, true, false, false, false, false, false] (fun fr m => K1 (fr.keep [0, 1, 2, 6]) m) [(0, .ptr ⟨r, 0, none⟩), (1, .int .i64 keep), (2, .int .i64 torn), (6, .int .i64 i), (24, .ptr ⟨r, 0, none⟩), (26, .ptr ⟨r, 0, none⟩), (34, .ref (AV.cells (trnAV (gI s.wait i))))] (AMem.wth m [(r, rObjK kp s)]) := by
    intro _
    subst hA
    refine AAny.step [] [3, 11] (by decide +kernel) (by simp) (by decide) ⟨?_, ?_, trivial⟩
    ·
     show aopsR _ _ _ [_] _ _ _
     refine ⟨⟨rfl, by decide⟩, ?_⟩
     refine AAny.keep [0, 1, 2, 6, 24, 27, 34] (by decide) ?_
     exact s10 trivial
    ·
     show aopsR _ _ _ [_] _ _ _
     refine ⟨(apartOk_agg rfl rfl (Nat.le_of_ble_eq_true rfl)), ?_⟩
     refine AAny.keep [0, 1, 2, 6, 24, 26, 35] (by decide) ?_
     exact s11 trivial
   have s18 : ∀ (_ : True), A 7 #[true, true, false, false, false, true, true, true, true, true, true, true, false, false, false, false] (fun fr m => K1 (fr.keep [0, 1, 2, 6]) m) [(0, .ptr ⟨r, 0, none⟩), (1, .int .i64 keep), (2, .int .i64 torn), (6, .int .i64 i), (24, .ptr ⟨r, 0, none⟩), (25, .ptr ⟨r, 0, none⟩), (35, trnAV (gI s.wait i))] (AMem.wth m [(r, rObjK kp s)]) := by
    intro _
    subst hA
    refine AAny.step [] [2] (by decide +kernel) (by simp) (by decide) ⟨?_, trivial⟩
    ·
     show aopsR _ _ _ [_] _ _ _
     refine ⟨trivial, ?_⟩
     refine AAny.keep [0, 1, 2, 6, 24, 26, 35] (by decide) ?_
     exact s11 trivial
   have s19 : ∀ (_ : True), A 7 #[false, true, true, true, true, true, true, true, true, true, false, false, false, false, false, false] (fun fr m => K1 (fr.keep [0, 1, 2, 6]) m) [(0, .ptr ⟨r, 0, none⟩), (1, .int .i64 keep), (2, .int .i64 torn), (6, .int .i64 i), (28, .slice false (kp.map fileAV)), (32, .slice false (s.wait.map trnAV)), (33, .int .i64 i)] (AMem.wth m [(r, rObjK kp s)]) := by
    intro _
    subst hA
    refine AAny.step [] [0, 10] (by decide +kernel) (by simp) (by decide) ⟨?_, ?_, trivial⟩
    ·
     show aopsR _ _ _ [_] _ _ _
     refine ⟨trivial, ?_⟩
     refine AAny.keep [0, 1, 2, 6, 24, 28, 32, 33] (by decide) ?_
     exact s9 trivial
    ·
     show aopsR _ _ _ [_] _ _ _
     refine ar_index rfl trnAV s.wait i rfl rfl rfl rfl rfl (by decide) (fun _ => rfl) (by omega) (by omega) ?_
     refine AAny.keep [0, 1, 2, 6, 28, 34] (by decide) ?_
     exact s12 trivial
   clear s9
   have s20 : ∀ (_ : True), A 7 #[false, true, true, true, false, true, true, true, true, true, true, false, false, false, false, false] (fun fr m => K1 (fr.keep [0, 1, 2, 6]) m) [(0, .ptr ⟨r, 0, none⟩), (1, .int .i64 keep), (2, .int .i64 torn), (6, .int .i64 i), (27, .ptr ⟨r, 0, none⟩), (34, .ref (AV.cells (trnAV (gI s.wait i))))] (AMem.wth m [(r, rObjK kp s)]) := by
    intro _
    subst hA
    refine AAny.step [] [0, 4, 11] (by decide +kernel) (by simp) (by decide) ⟨?_, ?_, ?_, trivial⟩
    ·
     show aopsR _ _ _ [_] _ _ _
     refine ⟨trivial, ?_⟩
     refine AAny.keep [0, 1, 2, 6, 24, 27, 34] (by decide) ?_
     exact s10 trivial
    ·
     show aopsR _ _ _ [_] _ _ _
     refine ar_loadp rfl (v := .slice false (kp.map fileAV)) rfl (wth_get 0 (nodup_1 r) rfl) rfl (apartOk_one rfl rfl (Nat.le_of_ble_eq_true rfl)) rfl ?_
     refine AAny.keep [0, 1, 2, 6, 28, 34] (by decide) ?_
     exact s12 trivial
    ·
     show aopsR _ _ _ [_] _ _ _
     refine ⟨(apartOk_agg rfl rfl (Nat.le_of_ble_eq_true rfl)), ?_⟩
     refine AAny.keep [0, 1, 2, 6, 27, 35] (by decide) ?_
     exact s13 trivial
   clear s10 s12
   have s21 : ∀ (_ : True), A 7 #[false, true, true, false, false, true, true, true, true, true, true, true, false, false, false, false] (fun fr m => K1 (fr.keep [0, 1, 2, 6]) m) [(0, .ptr ⟨r, 0, none⟩), (1, .int .i64 keep), (2, .int .i64 torn), (6, .int .i64 i), (26, .ptr ⟨r, 0, none⟩), (35, trnAV (gI s.wait i))] (AMem.wth m [(r, rObjK kp s)]) := by
    intro _
    subst hA
    refine AAny.step [] [0, 3] (by decide +kernel) (by simp) (by decide) ⟨?_, ?_, trivial⟩
    ·
     show aopsR _ _ _ [_] _ _ _
     refine ⟨trivial, ?_⟩
     refine AAny.keep [0, 1, 2, 6, 24, 26, 35] (by decide) ?_
     exact s11 trivial
    ·
     show aopsR _ _ _ [_] _ _ _
     refine ⟨⟨rfl, by decide⟩, ?_⟩
     refine AAny.keep [0, 1, 2, 6, 27, 35] (by decide) ?_
     exact s13 trivial
   clear s11 s13
   have s22 : ∀ (_ : True), A 8 #[true, true, true, true, true, true, true, true, false, false, false, false, false, false, false, false] (fun fr m => K1 (fr.keep [0, 1, 2, 6]) m) [(0, .ptr ⟨r, 0, none⟩), (1, .int .i64 keep), (2, .int .i64 torn), (6, .int .i64 i), (24, .ptr ⟨r, 0, none⟩), (28, .slice false (kp.map fileAV)), (31, .ptr ⟨r, 2, none⟩)] (AMem.wth m [(r, rObjK kp s)]) := by
    intro _
    subst hA
    refine AAny.step [] [8, 9] (by decide +kernel) (by simp) (by decide) ⟨?_, ?_, trivial⟩
    ·
     show aopsR _ _ _ [_] _ _ _
     refine ar_loadp rfl (v := .slice false (s.wait.map trnAV)) rfl (wth_get 0 (nodup_1 r) rfl) rfl (apartOk_one rfl rfl (Nat.le_of_ble_eq_true rfl)) rfl ?_
     refine AAny.keep [0, 1, 2, 6, 24, 28, 32] (by decide) ?_
     exact s14 trivial
    ·
     show aopsR _ _ _ [_] _ _ _
     refine ⟨trivial, ?_⟩
     refine AAny.keep [0, 1, 2, 6, 24, 28, 31, 33] (by decide) ?_
     exact s15 trivial
   have s23 : ∀ (_ : True), A 8 #[true, true, true, true, true, true, true, false, false, true, false, false, false, false, false, false] (fun fr m => K1 (fr.keep [0, 1, 2, 6]) m) [(0, .ptr ⟨r, 0, none⟩), (1, .int .i64 keep), (2, .int .i64 torn), (6, .int .i64 i), (24, .ptr ⟨r, 0, none⟩), (28, .slice false (kp.map fileAV)), (30, .ptr ⟨r, 0, none⟩), (33, .int .i64 i)] (AMem.wth m [(r, rObjK kp s)]) := by
    intro _
    subst hA
    refine AAny.step [] [7] (by decide +kernel) (by simp) (by decide) ⟨?_, trivial⟩
    ·
     show aopsR _ _ _ [_] _ _ _
     refine ⟨⟨rfl, by decide⟩, ?_⟩
     refine AAny.keep [0, 1, 2, 6, 24, 28, 31, 33] (by decide) ?_
     exact s15 trivial
   have s24 : ∀ (_ : True), A 8 #[true, true, true, true, false, true, true, true, true, false, false, false, false, false, false, false] (fun fr m => K1 (fr.keep [0, 1, 2, 6]) m) [(0, .ptr ⟨r, 0, none⟩), (1, .int .i64 keep), (2, .int .i64 torn), (6, .int .i64 i), (24, .ptr ⟨r, 0, none⟩), (27, .ptr ⟨r, 0, none⟩), (32, .slice false (s.wait.map trnAV))] (AMem.wth m [(r, rObjK kp s)]) := by
    intro _
    subst hA
    refine AAny.step [] [4, 9] (by decide +kernel) (by simp) (by decide) ⟨?_, ?_, trivial⟩
    ·
     show aopsR _ _ _ [_] _ _ _
     refine ar_loadp rfl (v := .slice false (kp.map fileAV)) rfl (wth_get 0 (nodup_1 r) rfl) rfl (apartOk_one rfl rfl (Nat.le_of_ble_eq_true rfl)) rfl ?_
     refine AAny.keep [0, 1, 2, 6, 24, 28, 32] (by decide) ?_
     exact s14 trivial
    ·
     show aopsR _ _ _ [_] _ _ _
     refine ⟨trivial, ?_⟩
     refine AAny.keep [0, 1, 2, 6, 24, 27, 32, 33] (by decide) ?_
     exact s16 trivial
   have s25 : ∀ (_ : True), A 8 #[true, true, true, true, false, true, true, true, false, true, false, false, false, false, false, false] (fun fr m => K1 (fr.keep [0, 1, 2, 6]) m) [(0, .ptr ⟨r, 0, none⟩), (1, .int .i64 keep), (2, .int .i64 torn), (6, .int .i64 i), (24, .ptr ⟨r, 0, none⟩), (27, .ptr ⟨r, 0, none⟩), (31, .ptr ⟨r, 2, none⟩), (33, .int .i64 i)] (AMem.wth m [(r, rObjK kp s)]) := by
    intro _
    subst hA
    refine AAny.step [] [4, 8] (by decide +kernel) (by simp) (by decide) ⟨?_, ?_, trivial⟩
    ·
     show aopsR _ _ _ [_] _ _ _
     refine ar_loadp rfl (v := .slice false (kp.map fileAV)) rfl (wth_get 0 (nodup_1 r) rfl) rfl (apartOk_one rfl rfl (Nat.le_of_ble_eq_true rfl)) rfl ?_
     refine AAny.keep [0, 1, 2, 6, 24, 28, 31, 33] (by decide) ?_
     exact s15 trivial
    ·
     show aopsR _ _ _ [_] _ _ _
     refine ar_loadp rfl (v := .slice false (s.wait.map trnAV)) rfl (wth_get 0 (nodup_1 r) rfl) rfl (apartOk_one rfl rfl (Nat.le_of_ble_eq_true rfl)) rfl ?_
     refine AAny.keep [0, 1, 2, 6, 24, 27, 32, 33] (by decide) ?_
     exact s16 trivial
   have s26 : ∀ (_ : True), A 8 #[true, true, true, false, false, true, true, true, true, true, false, false, false, false, false, false] (fun fr m => K1 (fr.keep [0, 1, 2, 6]) m) [(0, .ptr ⟨r, 0, none⟩), (1, .int .i64 keep), (2, .int .i64 torn), (6, .int .i64 i), (24, .ptr ⟨r, 0, none⟩), (26, .ptr ⟨r, 0, none⟩), (32, .slice false (s.wait.map trnAV)), (33, .int .i64 i)] (AMem.wth m [(r, rObjK kp s)]) := by
    intro _
    subst hA
    refine AAny.step [] [3, 10] (by decide +kernel) (by simp) (by decide) ⟨?_, ?_, trivial⟩
    ·
     show aopsR _ _ _ [_] _ _ _
     refine ⟨⟨rfl, by decide⟩, ?_⟩
     refine AAny.keep [0, 1, 2, 6, 24, 27, 32, 33] (by decide) ?_
     exact s16 trivial
    ·
     show aopsR _ _ _ [_] _ _ _
     refine ar_index rfl trnAV s.wait i rfl rfl rfl rfl rfl (by decide) (fun _ => rfl) (by omega) (by omega) ?_
     refine AAny.keep [0, 1, 2, 6, 24, 26, 34] (by decide) ?_
     exact s17 trivial
   have s27 : ∀ (_ : True), A 8 #[true, true, false, false, false, true, true, true, true, true, true, false, false, false, false, false] (fun fr m => K1 (fr.keep [0, 1, 2, 6]) m) [(0, .ptr ⟨r, 0, none⟩), (1, .int .i64 keep), (2, .int .i64 torn), (6, .int .i64 i), (24, .ptr ⟨r, 0, none⟩), (25, .ptr ⟨r, 0, none⟩), (34, .ref (AV.cells (trnAV (gI s.wait i))))] (AMem.wth m [(r, rObjK kp s)]) := by
    intro _
    subst hA
    refine AAny.step [] [2, 11] (by decide +kernel) (by simp) (by decide) ⟨?_, ?_, trivial⟩
    ·
     show aopsR _ _ _ [_] _ _ _
     refine ⟨trivial, ?_⟩
     refine AAny.keep [0, 1, 2, 6, 24, 26, 34] (by decide) ?_
     exact s17 trivial
    ·
     show aopsR _ _ _ [_] _ _ _
     refine ⟨(apartOk_agg rfl rfl (Nat.le_of_ble_eq_true rfl)), ?_⟩
     refine AAny.keep [0, 1, 2, 6, 24, 25, 35] (by decide) ?_
     exact s18 trivial
   have s28 : ∀ (_ : True), A 8 #[true, false, false, false, false, true, true, true, true, true, true, true, false, false, false, false] (fun fr m => K1 (fr.keep [0, 1, 2, 6]) m) [(0, .ptr ⟨r, 0, none⟩), (1, .int .i64 keep), (2, .int .i64 torn), (6, .int .i64 i), (24, .ptr ⟨r, 0, none⟩), (35, trnAV (gI s.wait i))] (AMem.wth m [(r, rObjK kp s)]) := by
    intro _
    subst hA
    refine AAny.step [] [1] (by decide +kernel) (by simp) (by decide) ⟨?_, trivial⟩
    ·
     show aopsR _ _ _ [_] _ _ _
     refine ⟨trivial, ?_⟩
     refine AAny.keep [0, 1, 2, 6, 24, 25, 35] (by decide) ?_
     exact s18 trivial
   have s29 : ∀ (_ : True), A 8 #[false, true, true, true, true, true, true, true, true, false, false, false, false, false, false, false] (fun fr m => K1 (fr.keep [0, 1, 2, 6]) m) [(0, .ptr ⟨r, 0, none⟩), (1, .int .i64 keep), (2, .int .i64 torn), (6, .int .i64 i), (28, .slice false (kp.map fileAV)), (32, .slice false (s.wait.map trnAV))] (AMem.wth m [(r, rObjK kp s)]) := by
    intro _
    subst hA
    refine AAny.step [] [0, 9] (by decide +kernel) (by simp) (by decide) ⟨?_, ?_, trivial⟩
    ·
     show aopsR _ _ _ [_] _ _ _
     refine ⟨trivial, ?_⟩
     refine AAny.keep [0, 1, 2, 6, 24, 28, 32] (by decide) ?_
     exact s14 trivial
    ·
     show aopsR _ _ _ [_] _ _ _
     refine ⟨trivial, ?_⟩
     refine AAny.keep [0, 1, 2, 6, 28, 32, 33] (by decide) ?_
     exact s19 trivial
   clear s14
   have s30 : ∀ (_ : True), A 8 #[false, true, true, true, true, true, true, true, false, true, false, false, false, false, false, false] (fun fr m => K1 (fr.keep [0, 1, 2, 6]) m) [(0, .ptr ⟨r, 0, none⟩), (1, .int .i64 keep), (2, .int .i64 torn), (6, .int .i64 i), (28, .slice false (kp.map fileAV)), (31, .ptr ⟨r, 2, none⟩), (33, .int .i64 i)] (AMem.wth m [(r, rObjK kp s)]) := by
    intro _
    subst hA
    refine AAny.step [] [0, 8] (by decide +kernel) (by simp) (by decide) ⟨?_, ?_, trivial⟩
    ·
     show aopsR _ _ _ [_] _ _ _
     refine ⟨trivial, ?_⟩
     refine AAny.keep [0, 1, 2, 6, 24, 28, 31, 33] (by decide) ?_
     exact s15 trivial
    ·
     show aopsR _ _ _ [_] _ _ _
     refine ar_loadp rfl (v := .slice false (s.wait.map trnAV)) rfl (wth_get 0 (nodup_1 r) rfl) rfl (apartOk_one rfl rfl (Nat.le_of_ble_eq_true rfl)) rfl ?_
     refine AAny.keep [0, 1, 2, 6, 28, 32, 33] (by decide) ?_
     exact s19 trivial
   clear s15
   have s31 : ∀ (_ : True), A 8 #[false, true, true, true, false, true, true, true, true, true, false, false, false, false, false, false] (fun fr m => K1 (fr.keep [0, 1, 2, 6]) m) [(0, .ptr ⟨r, 0, none⟩), (1, .int .i64 keep), (2, .int .i64 torn), (6, .int .i64 i), (27, .ptr ⟨r, 0, none⟩), (32, .slice false (s.wait.map trnAV)), (33, .int .i64 i)] (AMem.wth m [(r, rObjK kp s)]) := by
    intro _
    subst hA
    refine AAny.step [] [0, 4, 10] (by decide +kernel) (by simp) (by decide) ⟨?_, ?_, ?_, trivial⟩
    ·
     show aopsR _ _ _ [_] _ _ _
     refine ⟨trivial, ?_⟩
     refine AAny.keep [0, 1, 2, 6, 24, 27, 32, 33] (by decide) ?_
     exact s16 trivial
    ·
     show aopsR _ _ _ [_] _ _ _
     refine ar_loadp rfl (v := .slice false (kp.map fileAV)) rfl (wth_get 0 (nodup_1 r) rfl) rfl (apartOk_one rfl rfl (Nat.le_of_ble_eq_true rfl)) rfl ?_
     refine AAny.keep [0, 1, 2, 6, 28, 32, 33] (by decide) ?_
     exact s19 trivial
    ·
     show aopsR _ _ _ [_] _ _ _
     refine ar_index rfl trnAV s.wait i rfl rfl rfl rfl rfl (by decide) (fun _ => rfl) (by omega) (by omega) ?_
     refine AAny.keep [0, 1, 2, 6, 27, 34] (by decide) ?_
     exact s20 trivial
   clear s16 s19
   have s32 : ∀ (_ : True), A 8 #[false, true, true, false, false, true, true, true, true, true, true, false, false, false, false, false] (fun fr m => K1 (fr.keep [0, 1, 2, 6]) m) [(0, .ptr ⟨r, 0, none⟩), (1, .int .i64 keep), (2, .int .i64 torn), (6, .int .i64 i), (26, .ptr ⟨r, 0, none⟩), (34, .ref (AV.cells (trnAV (gI s.wait i))))] (AMem.wth m [(r, rObjK kp s)]) := by
    intro _
    subst hA
    refine AAny.step [] [0, 3, 11] (by decide +kernel) (by simp) (by decide) ⟨?_, ?_, ?_, trivial⟩
    ·
     show aopsR _ _ _ [_] _ _ _
     refine ⟨trivial, ?_⟩
     refine AAny.keep [0, 1, 2, 6, 24, 26, 34] (by decide) ?_
     exact s17 trivial
    ·
     show aopsR _ _ _ [_] _ _ _
     refine ⟨⟨rfl, by decide⟩, ?_⟩
     refine AAny.keep [0, 1, 2, 6, 27, 34] (by decide) ?_
     exact s20 trivial
    ·
     show aopsR _ _ _ [_] _ _ _
     refine ⟨(apartOk_agg rfl rfl (Nat.le_of_ble_eq_true rfl)), ?_⟩
     refine AAny.keep [0, 1, 2, 6, 26, 35] (by decide) ?_
     exact s21 trivial
   clear s17 s20
   have s33 : ∀ (_ : True), A 8 #[false, true, false, false, false, true, true, true, true, true, true, true, false, false, false, false] (fun fr m => K1 (fr.keep [0, 1, 2, 6]) m) [(0, .ptr ⟨r, 0, none⟩), (1, .int .i64 keep), (2, .int .i64 torn), (6, .int .i64 i), (25, .ptr ⟨r, 0, none⟩), (35, trnAV (gI s.wait i))] (AMem.wth m [(r, rObjK kp s)]) := by
    intro _
    subst hA
    refine AAny.step [] [0, 2] (by decide +kernel) (by simp) (by decide) ⟨?_, ?_, trivial⟩
    ·
     show aopsR _ _ _ [_] _ _ _
     refine ⟨trivial, ?_⟩
     refine AAny.keep [0, 1, 2, 6, 24, 25, 35] (by decide) ?_
     exact s18 trivial
    ·
     show aopsR _ _ _ [_] _ _ _
     refine ⟨trivial, ?_⟩
     refine AAny.keep [0, 1, 2, 6, 26, 35] (by decide) ?_
     exact s21 trivial
   clear s18 s21
   have s34 : ∀ (_ : True), A 9 #[true, true, true, true, true, true, true, false, false, false, false, false, false, false, false, false] (fun fr m => K1 (fr.keep [0, 1, 2, 6]) m) [(0, .ptr ⟨r, 0, none⟩), (1, .int .i64 keep), (2, .int .i64 torn), (6, .int .i64 i), (24, .ptr ⟨r, 0, none⟩), (28, .slice false (kp.map fileAV)), (30, .ptr ⟨r, 0, none⟩)] (AMem.wth m [(r, rObjK kp s)]) := by
    intro _
    subst hA
    refine AAny.step [] [7, 9] (by decide +kernel) (by simp) (by decide) ⟨?_, ?_, trivial⟩
    ·
     show aopsR _ _ _ [_] _ _ _
     refine ⟨⟨rfl, by decide⟩, ?_⟩
     refine AAny.keep [0, 1, 2, 6, 24, 28, 31] (by decide) ?_
     exact s22 trivial
    ·
     show aopsR _ _ _ [_] _ _ _
     refine ⟨trivial, ?_⟩
     refine AAny.keep [0, 1, 2, 6, 24, 28, 30, 33] (by decide) ?_
     exact s23 trivial
   have s35 : ∀ (_ : True), A 9 #[true, true, true, true, true, true, false, false, false, true, false, false, false, false, false, false] (fun fr m => K1 (fr.keep [0, 1, 2, 6]) m) [(0, .ptr ⟨r, 0, none⟩), (1, .int .i64 keep), (2, .int .i64 torn), (6, .int .i64 i), (24, .ptr ⟨r, 0, none⟩), (28, .slice false (kp.map fileAV)), (29, .ptr ⟨r, 0, none⟩), (33, .int .i64 i)] (AMem.wth m [(r, rObjK kp s)]) := by
    intro _
    subst hA
    refine AAny.step [] [6] (by decide +kernel) (by simp) (by decide) ⟨?_, trivial⟩
    ·
     show aopsR _ _ _ [_] _ _ _
     refine ⟨trivial, ?_⟩
     refine AAny.keep [0, 1, 2, 6, 24, 28, 30, 33] (by decide) ?_
     exact s23 trivial
   have s36 : ∀ (_ : True), A 9 #[true, true, true, true, false, true, true, true, false, false, false, false, false, false, false, false] (fun fr m => K1 (fr.keep [0, 1, 2, 6]) m) [(0, .ptr ⟨r, 0, none⟩), (1, .int .i64 keep), (2, .int .i64 torn), (6, .int .i64 i), (24, .ptr ⟨r, 0, none⟩), (27, .ptr ⟨r, 0, none⟩), (31, .ptr ⟨r, 2, none⟩)] (AMem.wth m [(r, rObjK kp s)]) := by
    intro _
    subst hA
    refine AAny.step [] [4, 8, 9] (by decide +kernel) (by simp) (by decide) ⟨?_, ?_, ?_, trivial⟩
    ·
     show aopsR _ _ _ [_] _ _ _
     refine ar_loadp rfl (v := .slice false (kp.map fileAV)) rfl (wth_get 0 (nodup_1 r) rfl) rfl (apartOk_one rfl rfl (Nat.le_of_ble_eq_true rfl)) rfl ?_
     refine AAny.keep [0, 1, 2, 6, 24, 28, 31] (by decide) ?_
     exact s22 trivial
    ·
     show aopsR _ _ _ [_] _ _ _
     refine ar_loadp rfl (v := .slice false (s.wait.map trnAV)) rfl (wth_get 0 (nodup_1 r) rfl) rfl (apartOk_one rfl rfl (Nat.le_of_ble_eq_true rfl)) rfl ?_
     refine AAny.keep [0, 1, 2, 6, 24, 27, 32] (by decide) ?_
     exact s24 trivial
    ·
     show aopsR _ _ _ [_] _ _ _
     refine ⟨trivial, ?_⟩
     refine AAny.keep [0, 1, 2, 6, 24, 27, 31, 33] (by decide) ?_
     exact s25 trivial
   have s37 : ∀ (_ : True), A 9 #[true, true, true, true, false, true, true, false, false, true, false, false, false, false, false, false] (fun fr m => K1 (fr.keep [0, 1, 2, 6]) m) [(0, .ptr ⟨r, 0, none⟩), (1, .int .i64 keep), (2, .int .i64 torn), (6, .int .i64 i), (24, .ptr ⟨r, 0, none⟩), (27, .ptr ⟨r, 0, none⟩), (30, .ptr ⟨r, 0, none⟩), (33, .int .i64 i)] (AMem.wth m [(r, rObjK kp s)]) := by
    intro _
    subst hA
    refine AAny.step [] [4, 7] (by decide +kernel) (by simp) (by decide) ⟨?_, ?_, trivial⟩
    ·
     show aopsR _ _ _ [_] _ _ _
     refine ar_loadp rfl (v := .slice false (kp.map fileAV)) rfl (wth_get 0 (nodup_1 r) rfl) rfl (apartOk_one rfl rfl (Nat.le_of_ble_eq_true rfl)) rfl ?_
     refine AAny.keep [0, 1, 2, 6, 24, 28, 30, 33] (by decide) ?_
     exact s23 trivial
    ·
     show aopsR _ _ _ [_] _ _ _
     refine ⟨⟨rfl, by decide⟩, ?_⟩
     refine AAny.keep [0, 1, 2, 6, 24, 27, 31, 33] (by decide) ?_
     exact s25 trivial
   have s38 : ∀ (_ : True), A 9 #[true, true, true, false, false, true, true, true, true, false, false, false, false, false, false, false] (fun fr m => K1 (fr.keep [0, 1, 2, 6]) m) [(0, .ptr ⟨r, 0, none⟩), (1, .int .i64 keep), (2, .int .i64 torn), (6, .int .i64 i), (24, .ptr ⟨r, 0, none⟩), (26, .ptr ⟨r, 0, none⟩), (32, .slice false (s.wait.map trnAV))] (AMem.wth m [(r, rObjK kp s)]) := by
    intro _
    subst hA
    refine AAny.step [] [3, 9] (by decide +kernel) (by simp) (by decide) ⟨?_, ?_, trivial⟩
    ·
     show aopsR _ _ _ [_] _ _ _
     refine ⟨⟨rfl, by decide⟩, ?_⟩
     refine AAny.keep [0, 1, 2, 6, 24, 27, 32] (by decide) ?_
     exact s24 trivial
    ·
     show aopsR _ _ _ [_] _ _ _
     refine ⟨trivial, ?_⟩
     refine AAny.keep [0, 1, 2, 6, 24, 26, 32, 33] (by decide) ?_
     exact s26 trivial
   have s39 : ∀ (_ : True), A 9 #[true, true, true, false, false, true, true, true, false, true, false, false, false, false, false, false] (fun fr m => K1 (fr.keep [0, 1, 2, 6]) m) [(0, .ptr ⟨r, 0, none⟩), (1, .int .i64 keep), (2, .int .i64 torn), (6, .int .i64 i), (24, .ptr ⟨r, 0, none⟩), (26, .ptr ⟨r, 0, none⟩), (31, .ptr ⟨r, 2, none⟩), (33, .int .i64 i)] (AMem.wth m [(r, rObjK kp s)]) := by
    intro _
    subst hA
    refine AAny.step [] [3, 8] (by decide +kernel) (by simp) (by decide) ⟨?_, ?_, trivial⟩
    ·
     show aopsR _ _ _ [_] _ _ _
     refine ⟨⟨rfl, by decide⟩, ?_⟩
     refine AAny.keep [0, 1, 2, 6, 24, 27, 31, 33] (by decide) ?_
     exact s25 trivial
    ·
     show aopsR _ _ _ [_] _ _ _
     refine ar_loadp rfl (v := .slice false (s.wait.map trnAV)) rfl (wth_get 0 (nodup_1 r) rfl) rfl (apartOk_one rfl rfl (Nat.le_of_ble_eq_true rfl)) rfl ?_
     refine AAny.keep [0, 1, 2, 6, 24, 26, 32, 33] (by decide) ?_
     exact s26 trivial
   have s40 : ∀ (_ : True), A 9 #[true, true, false, false, false, true, true, true, true, true, false, false, false, false, false, false] (fun fr m => K1 (fr.keep [0, 1, 2, 6]) m) [(0, .ptr ⟨r, 0, none⟩), (1, .int .i64 keep), (2, .int .i64 torn), (6, .int .i64 i), (24, .ptr ⟨r, 0, none⟩), (25, .ptr ⟨r, 0, none⟩), (32, .slice false (s.wait.map trnAV)), (33, .int .i64 i)] (AMem.wth m [(r, rObjK kp s)]) := by
    intro _
    subst hA
    refine AAny.step [] [2, 10] (by decide +kernel) (by simp) (by decide) ⟨?_, ?_, trivial⟩
    ·
     show aopsR _ _ _ [_] _ _ _
     refine ⟨trivial, ?_⟩
     refine AAny.keep [0, 1, 2, 6, 24, 26, 32, 33] (by decide) ?_
     exact s26 trivial
    ·
     show aopsR _ _ _ [_] _ _ _
     refine ar_index rfl trnAV s.wait i rfl rfl rfl rfl rfl (by decide) (fun _ => rfl) (by omega) (by omega) ?_
     refine AAny.keep [0, 1, 2, 6, 24, 25, 34] (by decide) ?_
     exact s27 trivial
   have s41 : ∀ (_ : True), A 9 #[true, false, false, false, false, true, true, true, true, true, true, false, false, false, false, false] (fun fr m => K1 (fr.keep [0, 1, 2, 6]) m) [(0, .ptr ⟨r, 0, none⟩), (1, .int .i64 keep), (2, .int .i64 torn), (6, .int .i64 i), (24, .ptr ⟨r, 0, none⟩), (34, .ref (AV.cells (trnAV (gI s.wait i))))] (AMem.wth m [(r, rObjK kp s)]) := by
    intro _
    subst hA
    refine AAny.step [] [1, 11] (by decide +kernel) (by simp) (by decide) ⟨?_, ?_, trivial⟩
    ·
     show aopsR _ _ _ [_] _ _ _
     refine ⟨trivial, ?_⟩
     refine AAny.keep [0, 1, 2, 6, 24, 25, 34] (by decide) ?_
     exact s27 trivial
    ·
     show aopsR _ _ _ [_] _ _ _
     refine ⟨(apartOk_agg rfl rfl (Nat.le_of_ble_eq_true rfl)), ?_⟩
     refine AAny.keep [0, 1, 2, 6, 24, 35] (by decide) ?_
     exact s28 trivial
   have s42 : ∀ (_ : True), A 9 #[false, true, true, true, true, true, true, true, false, false, false, false, false, false, false, false] (fun fr m => K1 (fr.keep [0, 1, 2, 6]) m) [(0, .ptr ⟨r, 0, none⟩), (1, .int .i64 keep), (2, .int .i64 torn), (6, .int .i64 i), (28, .slice false (kp.map fileAV)), (31, .ptr ⟨r, 2, none⟩)] (AMem.wth m [(r, rObjK kp s)]) := by
    intro _
    subst hA
    refine AAny.step [] [0, 8, 9] (by decide +kernel) (by simp) (by decide) ⟨?_, ?_, ?_, trivial⟩
    ·
     show aopsR _ _ _ [_] _ _ _
     refine ⟨trivial, ?_⟩
     refine AAny.keep [0, 1, 2, 6, 24, 28, 31] (by decide) ?_
     exact s22 trivial
    ·
     show aopsR _ _ _ [_] _ _ _
     refine ar_loadp rfl (v := .slice false (s.wait.map trnAV)) rfl (wth_get 0 (nodup_1 r) rfl) rfl (apartOk_one rfl rfl (Nat.le_of_ble_eq_true rfl)) rfl ?_
     refine AAny.keep [0, 1, 2, 6, 28, 32] (by decide) ?_
     exact s29 trivial
    ·
     show aopsR _ _ _ [_] _ _ _
     refine ⟨trivial, ?_⟩
     refine AAny.keep [0, 1, 2, 6, 28, 31, 33] (by decide) ?_
     exact s30 trivial
   clear s22
   have s43 : ∀ (_ : True), A 9 #[false, true, true, true, true, true, true, false, false, true, false, false, false, false, false, false] (fun fr m => K1 (fr.keep [0, 1, 2, 6]) m) [(0, .ptr ⟨r, 0, none⟩), (1, .int .i64 keep), (2, .int .i64 torn), (6, .int .i64 i), (28, .slice false (kp.map fileAV)), (30, .ptr ⟨r, 0, none⟩), (33, .int .i64 i)] (AMem.wth m [(r, rObjK kp s)]) := by
    intro _
    subst hA
    refine AAny.step [] [0, 7] (by decide +kernel) (by simp) (by decide) ⟨?_, ?_, trivial⟩
    ·
     show aopsR _ _ _ [_] _ _ _
     refine ⟨trivial, ?_⟩
     refine AAny.keep [0, 1, 2, 6, 24, 28, 30, 33] (by decide) ?_
     exact s23 trivial
    ·
     show aopsR _ _ _ [_] _ _ _
     refine ⟨⟨rfl, by decide⟩, ?_⟩
     refine AAny.keep [0, 1, 2, 6, 28, 31, 33] (by decide) ?_
     exact s30 trivial
   clear s23
   have s44 : ∀ (_ : True), A 9 #[false, true, true, true, false, true, true, true, true, false, false, false, false, false, false, false] (fun fr m => K1 (fr.keep [0, 1, 2, 6]) m) [(0, .ptr ⟨r, 0, none⟩), (1, .int .i64 keep), (2, .int .i64 torn), (6, .int .i64 i), (27, .ptr ⟨r, 0, none⟩), (32, .slice false (s.wait.map trnAV))] (AMem.wth m [(r, rObjK kp s)]) := by
    intro _
    subst hA
    refine AAny.step [] [0, 4, 9] (by decide +kernel) (by simp) (by decide) ⟨?_, ?_, ?_, trivial⟩
    ·
     show aopsR _ _ _ [_] _ _ _
     refine ⟨trivial, ?_⟩
     refine AAny.keep [0, 1, 2, 6, 24, 27, 32] (by decide) ?_
     exact s24 trivial
    ·
     show aopsR _ _ _ [_] _ _ _
     refine ar_loadp rfl (v := .slice false (kp.map fileAV)) rfl (wth_get 0 (nodup_1 r) rfl) rfl (apartOk_one rfl rfl (Nat.le_of_ble_eq_true rfl)) rfl ?_
     refine AAny.keep [0, 1, 2, 6, 28, 32] (by decide) ?_
     exact s29 trivial
    ·
     show aopsR _ _ _ [_] _ _ _
     refine ⟨trivial, ?_⟩
     refine AAny.keep [0, 1, 2, 6, 27, 32, 33] (by decide) ?_
     exact s31 trivial
   clear s24 s29
   have s45 : ∀ (_ : True), A 9 #[false, true, true, true, false, true, true, true, false, true, false, false, false, false, false, false] (fun fr m => K1 (fr.keep [0, 1, 2, 6]) m) [(0, .ptr ⟨r, 0, none⟩), (1, .int .i64 keep), (2, .int .i64 torn), (6, .int .i64 i), (27, .ptr ⟨r, 0, none⟩), (31, .ptr ⟨r, 2, none⟩), (33, .int .i64 i)] (AMem.wth m [(r, rObjK kp s)]) := by
    intro _
    subst hA
    refine AAny.step [] [0, 4, 8] (by decide +kernel) (by simp) (by decide) ⟨?_, ?_, ?_, trivial⟩
    ·
     show aopsR _ _ _ [_] _ _ _
     refine ⟨trivial, ?_⟩
     refine AAny.keep [0, 1, 2, 6, 24, 27, 31, 33] (by decide) ?_
     exact s25 trivial
    ·
     show aopsR _ _ _ [_] _ _ _
     refine ar_loadp rfl (v := .slice false (kp.map fileAV)) rfl (wth_get 0 (nodup_1 r) rfl) rfl (apartOk_one rfl rfl (Nat.le_of_ble_eq_true rfl)) rfl ?_
     refine AAny.keep [0, 1, 2, 6, 28, 31, 33] (by decide) ?_
     exact s30 trivial
    ·
     show aopsR _ _ _ [_] _ _ _
     refine ar_loadp rfl (v := .slice false (s.wait.map trnAV)) rfl (wth_get 0 (nodup_1 r) rfl) rfl (apartOk_one rfl rfl (Nat.le_of_ble_eq_true rfl)) rfl ?_
     refine AAny.keep [0, 1, 2, 6, 27, 32, 33] (by decide) ?_
     exact s31 trivial
   clear s25 s30
   have s46 : ∀ (_ : True), A 9 #[false, true, true, false, false, true, true, true, true, true, false, false, false, false, false, false] (fun fr m => K1 (fr.keep [0, 1, 2, 6]) m) [(0, .ptr ⟨r, 0, none⟩), (1, .int .i64 keep), (2, .int .i64 torn), (6, .int .i64 i), (26, .ptr ⟨r, 0, none⟩), (32, .slice false (s.wait.map trnAV)), (33, .int .i64 i)] (AMem.wth m [(r, rObjK kp s)]) := by
    intro _
    subst hA
    refine AAny.step [] [0, 3, 10] (by decide +kernel) (by simp) (by decide) ⟨?_, ?_, ?_, trivial⟩
    ·
     show aopsR _ _ _ [_] _ _ _
     refine ⟨trivial, ?_⟩
     refine AAny.keep [0, 1, 2, 6, 24, 26, 32, 33] (by decide) ?_
     exact s26 trivial
    ·
     show aopsR _ _ _ [_] _ _ _
     refine ⟨⟨rfl, by decide⟩, ?_⟩
     refine AAny.keep [0, 1, 2, 6, 27, 32, 33] (by decide) ?_
     exact s31 trivial
    ·
     show aopsR _ _ _ [_] _ _ _
     refine ar_index rfl trnAV s.wait i rfl rfl rfl rfl rfl (by decide) (fun _ => rfl) (by omega) (by omega) ?_
     refine AAny.keep [0, 1, 2, 6, 26, 34] (by decide) ?_
     exact s32 trivial
   clear s26 s31
   have s47 : ∀ (_ : True), A 9 #[false, true, false, false, false, true, true, true, true, true, true, false, false, false, false, false] (fun fr m => K1 (fr.keep [0, 1, 2, 6]) m) [(0, .ptr ⟨r, 0, none⟩), (1, .int .i64 keep), (2, .int .i64 torn), (6, .int .i64 i), (25, .ptr ⟨r, 0, none⟩), (34, .ref (AV.cells (trnAV (gI s.wait i))))] (AMem.wth m [(r, rObjK kp s)]) := by
    intro _
    subst hA
    refine AAny.step [] [0, 2, 11] (by decide +kernel) (by simp) (by decide) ⟨?_, ?_, ?_, trivial⟩
    ·
     show aopsR _ _ _ [_] _ _ _
     refine ⟨trivial, ?_⟩
     refine AAny.keep [0, 1, 2, 6, 24, 25, 34] (by decide) ?_
     exact s27 trivial
    ·
     show aopsR _ _ _ [_] _ _ _
     refine ⟨trivial, ?_⟩
     refine AAny.keep [0, 1, 2, 6, 26, 34] (by decide) ?_
     exact s32 trivial
    ·
     show aopsR _ _ _ [_] _ _ _
     refine ⟨(apartOk_agg rfl rfl (Nat.le_of_ble_eq_true rfl)), ?_⟩
     refine AAny.keep [0, 1, 2, 6, 25, 35] (by decide) ?_
     exact s33 trivial
   clear s27 s32
   have s48 : ∀ (_ : True), A 9 #[false, false, false, false, false, true, true, true, true, true, true, true, false, false, false, false] (fun fr m => K1 (fr.keep [0, 1, 2, 6]) m) [(0, .ptr ⟨r, 0, none⟩), (1, .int .i64 keep), (2, .int .i64 torn), (6, .int .i64 i), (35, trnAV (gI s.wait i))] (AMem.wth m [(r, rObjK kp s)]) := by
    intro _
    subst hA
    refine AAny.step [] [0, 1] (by decide +kernel) (by simp) (by decide) ⟨?_, ?_, trivial⟩
    ·
     show aopsR _ _ _ [_] _ _ _
     refine ⟨trivial, ?_⟩
     refine AAny.keep [0, 1, 2, 6, 24, 35] (by decide) ?_
     exact s28 trivial
    ·
     show aopsR _ _ _ [_] _ _ _
     refine ⟨trivial, ?_⟩
     refine AAny.keep [0, 1, 2, 6, 25, 35] (by decide) ?_
     exact s33 trivial
   clear s28 s33
   have s49 : ∀ (_ : True), A 10 #[true, true, true, true, true, true, false, false, false, false, false, false, false, false, false, false] (fun fr m => K1 (fr.keep [0, 1, 2, 6]) m) [(0, .ptr ⟨r, 0, none⟩), (1, .int .i64 keep), (2, .int .i64 torn), (6, .int .i64 i), (24, .ptr ⟨r, 0, none⟩), (28, .slice false (kp.map fileAV)), (29, .ptr ⟨r, 0, none⟩)] (AMem.wth m [(r, rObjK kp s)]) := by
    intro _
    subst hA
    refine AAny.step [] [6, 9] (by decide +kernel) (by simp) (by decide) ⟨?_, ?_, trivial⟩
    ·
     show aopsR _ _ _ [_] _ _ _
     refine ⟨trivial, ?_⟩
     refine AAny.keep [0, 1, 2, 6, 24, 28, 30] (by decide) ?_
     exact s34 trivial
    ·
     show aopsR _ _ _ [_] _ _ _
     refine ⟨trivial, ?_⟩
     refine AAny.keep [0, 1, 2, 6, 24, 28, 29, 33] (by decide) ?_
     exact s35 trivial
   have s50 : ∀ (_ : True), A 10 #[true, true, true, true, true, false, false, false, false, true, false, false, false, false, false, false] (fun fr m => K1 (fr.keep [0, 1, 2, 6]) m) [(0, .ptr ⟨r, 0, none⟩), (1, .int .i64 keep), (2, .int .i64 torn), (6, .int .i64 i), (24, .ptr ⟨r, 0, none⟩), (28, .slice false (kp.map fileAV)), (33, .int .i64 i)] (AMem.wth m [(r, rObjK kp s)]) := by
    intro _
    subst hA
    refine AAny.step [] [5] (by decide +kernel) (by simp) (by decide) ⟨?_, trivial⟩
    ·
     show aopsR _ _ _ [_] _ _ _
     refine ⟨trivial, ?_⟩
     refine AAny.keep [0, 1, 2, 6, 24, 28, 29, 33] (by decide) ?_
     exact s35 trivial
   have s51 : ∀ (_ : True), A 10 #[true, true, true, true, false, true, true, false, false, false, false, false, false, false, false, false] (fun fr m => K1 (fr.keep [0, 1, 2, 6]) m) [(0, .ptr ⟨r, 0, none⟩), (1, .int .i64 keep), (2, .int .i64 torn), (6, .int .i64 i), (24, .ptr ⟨r, 0, none⟩), (27, .ptr ⟨r, 0, none⟩), (30, .ptr ⟨r, 0, none⟩)] (AMem.wth m [(r, rObjK kp s)]) := by
    intro _
    subst hA
    refine AAny.step [] [4, 7, 9] (by decide +kernel) (by simp) (by decide) ⟨?_, ?_, ?_, trivial⟩
    ·
     show aopsR _ _ _ [_] _ _ _
     refine ar_loadp rfl (v := .slice false (kp.map fileAV)) rfl (wth_get 0 (nodup_1 r) rfl) rfl (apartOk_one rfl rfl (Nat.le_of_ble_eq_true rfl)) rfl ?_
     refine AAny.keep [0, 1, 2, 6, 24, 28, 30] (by decide) ?_
     exact s34 trivial
    ·
     show aopsR _ _ _ [_] _ _ _
     refine ⟨⟨rfl, by decide⟩, ?_⟩
     refine AAny.keep [0, 1, 2, 6, 24, 27, 31] (by decide) ?_
     exact s36 trivial
    ·
     show aopsR _ _ _ [_] _ _ _
     refine ⟨trivial, ?_⟩
     refine AAny.keep [0, 1, 2, 6, 24, 27, 30, 33] (by decide) ?_
     exact s37 trivial
   have s52 : ∀ (_ : True), A 10 #[true, true, true, true, false, true, false, false, false, true, false, false, false, false, false, false] (fun fr m => K1 (fr.keep [0, 1, 2, 6]) m) [(0, .ptr ⟨r, 0, none⟩), (1, .int .i64 keep), (2, .int .i64 torn), (6, .int .i64 i), (24, .ptr ⟨r, 0, none⟩), (27, .ptr ⟨r, 0, none⟩), (29, .ptr ⟨r, 0, none⟩), (33, .int .i64 i)] (AMem.wth m [(r, rObjK kp s)]) := by
    intro _
    subst hA
    refine AAny.step [] [4, 6] (by decide +kernel) (by simp) (by decide) ⟨?_, ?_, trivial⟩
    ·
     show aopsR _ _ _ [_] _ _ _
     refine ar_loadp rfl (v := .slice false (kp.map fileAV)) rfl (wth_get 0 (nodup_1 r) rfl) rfl (apartOk_one rfl rfl (Nat.le_of_ble_eq_true rfl)) rfl ?_
     refine AAny.keep [0, 1, 2, 6, 24, 28, 29, 33] (by decide) ?_
     exact s35 trivial
    ·
     show aopsR _ _ _ [_] _ _ _
     refine ⟨trivial, ?_⟩
     refine AAny.keep [0, 1, 2, 6, 24, 27, 30, 33] (by decide) ?_
     exact s37 trivial
   have s53 : ∀ (_ : True), A 10 #[true, true, true, false, false, true, true, true, false, false, false, false, false, false, false, false] (fun fr m => K1 (fr.keep [0, 1, 2, 6]) m) [(0, .ptr ⟨r, 0, none⟩), (1, .int .i64 keep), (2, .int .i64 torn), (6, .int .i64 i), (24, .ptr ⟨r, 0, none⟩), (26, .ptr ⟨r, 0, none⟩), (31, .ptr ⟨r, 2, none⟩)] (AMem.wth m [(r, rObjK kp s)]) := by
    intro _
    subst hA
    refine AAny.step [] [3, 8, 9] (by decide +kernel) (by simp) (by decide) ⟨?_, ?_, ?_, trivial⟩
    ·
     show aopsR _ _ _ [_] _ _ _
     refine ⟨⟨rfl, by decide⟩, ?_⟩
     refine AAny.keep [0, 1, 2, 6, 24, 27, 31] (by decide) ?_
     exact s36 trivial
    ·
     show aopsR _ _ _ [_] _ _ _
     refine ar_loadp rfl (v := .slice false (s.wait.map trnAV)) rfl (wth_get 0 (nodup_1 r) rfl) rfl (apartOk_one rfl rfl (Nat.le_of_ble_eq_true rfl)) rfl ?_
     refine AAny.keep [0, 1, 2, 6, 24, 26, 32] (by decide) ?_
     exact s38 trivial
    ·
     show aopsR _ _ _ [_] _ _ _
     refine ⟨trivial, ?_⟩
     refine AAny.keep [0, 1, 2, 6, 24, 26, 31, 33] (by decide) ?_
     exact s39 trivial
   have s54 : ∀ (_ : True), A 10 #[true, true, true, false, false, true, true, false, false, true, false, false, false, false, false, false] (fun fr m => K1 (fr.keep [0, 1, 2, 6]) m) [(0, .ptr ⟨r, 0, none⟩), (1, .int .i64 keep), (2, .int .i64 torn), (6, .int .i64 i), (24, .ptr ⟨r, 0, none⟩), (26, .ptr ⟨r, 0, none⟩), (30, .ptr ⟨r, 0, none⟩), (33, .int .i64 i)] (AMem.wth m [(r, rObjK kp s)]) := by
    intro _
    subst hA
    refine AAny.step [] [3, 7] (by decide +kernel) (by simp) (by decide) ⟨?_, ?_, trivial⟩
    ·
     show aopsR _ _ _ [_] _ _ _
     refine ⟨⟨rfl, by decide⟩, ?_⟩
     refine AAny.keep [0, 1, 2, 6, 24, 27, 30, 33] (by decide) ?_
     exact s37 trivial
    ·
     show aopsR _ _ _ [_] _ _ _
     refine ⟨⟨rfl, by decide⟩, ?_⟩
     refine AAny.keep [0, 1, 2, 6, 24, 26, 31, 33] (by decide) ?_
     exact s39 trivial
   have s55 : ∀ (_ : True), A 10 #[true, true, false, false, false, true, true, true, true, false, false, false, false, false, false, false] (fun fr m => K1 (fr.keep [0, 1, 2, 6]) m) [(0, .ptr ⟨r, 0, none⟩), (1, .int .i64 keep), (2, .int .i64 torn), (6, .int .i64 i), (24, .ptr ⟨r, 0, none⟩), (25, .ptr ⟨r, 0, none⟩), (32, .slice false (s.wait.map trnAV))] (AMem.wth m [(r, rObjK kp s)]) := by
    intro _
    subst hA
    refine AAny.step [] [2, 9] (by decide +kernel) (by simp) (by decide) ⟨?_, ?_, trivial⟩
    ·
     show aopsR _ _ _ [_] _ _ _
     refine ⟨trivial, ?_⟩
     refine AAny.keep [0, 1, 2, 6, 24, 26, 32] (by decide) ?_
     exact s38 trivial
    ·
     show aopsR _ _ _ [_] _ _ _
     refine ⟨trivial, ?_⟩
     refine AAny.keep [0, 1, 2, 6, 24, 25, 32, 33] (by decide) ?_
     exact s40 trivial
   have s56 : ∀ (_ : True), A 10 #[true, true, false, false, false, true, true, true, false, true, false, false, false, false, false, false] (fun fr m => K1 (fr.keep [0, 1, 2, 6]) m) [(0, .ptr ⟨r, 0, none⟩), (1, .int .i64 keep), (2, .int .i64 torn), (6, .int .i64 i), (24, .ptr ⟨r, 0, none⟩), (25, .ptr ⟨r, 0, none⟩), (31, .ptr ⟨r, 2, none⟩), (33, .int .i64 i)] (AMem.wth m [(r, rObjK kp s)]) := by
    intro _
    subst hA
    refine AAny.step [] [2, 8] (by decide +kernel) (by simp) (by decide) ⟨?_, ?_, trivial⟩
    ·
     show aopsR _ _ _ [_] _ _ _
     refine ⟨trivial, ?_⟩
     refine AAny.keep [0, 1, 2, 6, 24, 26, 31, 33] (by decide) ?_
     exact s39 trivial
    ·
     show aopsR _ _ _ [_] _ _ _
     refine ar_loadp rfl (v := .slice false (s.wait.map trnAV)) rfl (wth_get 0 (nodup_1 r) rfl) rfl (apartOk_one rfl rfl (Nat.le_of_ble_eq_true rfl)) rfl ?_
     refine AAny.keep [0, 1, 2, 6, 24, 25, 32, 33] (by decide) ?_
     exact s40 trivial
   have s57 : ∀ (_ : True), A 10 #[true, false, false, false, false, true, true, true, true, true, false, false, false, false, false, false] (fun fr m => K1 (fr.keep [0, 1, 2, 6]) m) [(0, .ptr ⟨r, 0, none⟩), (1, .int .i64 keep), (2, .int .i64 torn), (6, .int .i64 i), (24, .ptr ⟨r, 0, none⟩), (32, .slice false (s.wait.map trnAV)), (33, .int .i64 i)] (AMem.wth m [(r, rObjK kp s)]) := by
    intro _
    subst hA
    refine AAny.step [] [1, 10] (by decide +kernel) (by simp) (by decide) ⟨?_, ?_, trivial⟩
    ·
     show aopsR _ _ _ [_] _ _ _
     refine ⟨trivial, ?_⟩
     refine AAny.keep [0, 1, 2, 6, 24, 25, 32, 33] (by decide) ?_
     exact s40 trivial
    ·
     show aopsR _ _ _ [_] _ _ _
     refine ar_index rfl trnAV s.wait i rfl rfl rfl rfl rfl (by decide) (fun _ => rfl) (by omega) (by omega) ?_
     refine AAny.keep [0, 1, 2, 6, 24, 34] (by decide) ?_
     exact s41 trivial
   have s58 : ∀ (_ : True), A 10 #[false, true, true, true, true, true, true, false, false, false, false, false, false, false, false, false] (fun fr m => K1 (fr.keep [0, 1, 2, 6]) m) [(0, .ptr ⟨r, 0, none⟩), (1, .int .i64 keep), (2, .int .i64 torn), (6, .int .i64 i), (28, .slice false (kp.map fileAV)), (30, .ptr ⟨r, 0, none⟩)] (AMem.wth m [(r, rObjK kp s)]) := by
    intro _
    subst hA
    refine AAny.step [] [0, 7, 9] (by decide +kernel) (by simp) (by decide) ⟨?_, ?_, ?_, trivial⟩
    ·
     show aopsR _ _ _ [_] _ _ _
     refine ⟨trivial, ?_⟩
     refine AAny.keep [0, 1, 2, 6, 24, 28, 30] (by decide) ?_
     exact s34 trivial
    ·
     show aopsR _ _ _ [_] _ _ _
     refine ⟨⟨rfl, by decide⟩, ?_⟩
     refine AAny.keep [0, 1, 2, 6, 28, 31] (by decide) ?_
     exact s42 trivial
    ·
     show aopsR _ _ _ [_] _ _ _
     refine ⟨trivial, ?_⟩
     refine AAny.keep [0, 1, 2, 6, 28, 30, 33] (by decide) ?_
     exact s43 trivial
   clear s34
   have s59 : ∀ (_ : True), A 10 #[false, true, true, true, true, true, false, false, false, true, false, false, false, false, false, false] (fun fr m => K1 (fr.keep [0, 1, 2, 6]) m) [(0, .ptr ⟨r, 0, none⟩), (1, .int .i64 keep), (2, .int .i64 torn), (6, .int .i64 i), (28, .slice false (kp.map fileAV)), (29, .ptr ⟨r, 0, none⟩), (33, .int .i64 i)] (AMem.wth m [(r, rObjK kp s)]) := by
    intro _
    subst hA
    refine AAny.step [] [0, 6] (by decide +kernel) (by simp) (by decide) ⟨?_, ?_, trivial⟩
    ·
     show aopsR _ _ _ [_] _ _ _
     refine ⟨trivial, ?_⟩
     refine AAny.keep [0, 1, 2, 6, 24, 28, 29, 33] (by decide) ?_
     exact s35 trivial
    ·
     show aopsR _ _ _ [_] _ _ _
     refine ⟨trivial, ?_⟩
     refine AAny.keep [0, 1, 2, 6, 28, 30, 33] (by decide) ?_
     exact s43 trivial
   clear s35
   have s60 : ∀ (_ : True), A 10 #[false, true, true, true, false, true, true, true, false, false, false, false, false, false, false, false] (fun fr m => K1 (fr.keep [0, 1, 2, 6]) m) [(0, .ptr ⟨r, 0, none⟩), (1, .int .i64 keep), (2, .int .i64 torn), (6, .int .i64 i), (27, .ptr ⟨r, 0, none⟩), (31, .ptr ⟨r, 2, none⟩)] (AMem.wth m [(r, rObjK kp s)]) := by
    intro _
    subst hA
    refine AAny.step [] [0, 4, 8, 9] (by decide +kernel) (by simp) (by decide) ⟨?_, ?_, ?_, ?_, trivial⟩
    ·
     show aopsR _ _ _ [_] _ _ _
     refine ⟨trivial, ?_⟩
     refine AAny.keep [0, 1, 2, 6, 24, 27, 31] (by decide) ?_
     exact s36 trivial
    ·
     show aopsR _ _ _ [_] _ _ _
     refine ar_loadp rfl (v := .slice false (kp.map fileAV)) rfl (wth_get 0 (nodup_1 r) rfl) rfl (apartOk_one rfl rfl (Nat.le_of_ble_eq_true rfl)) rfl ?_
     refine AAny.keep [0, 1, 2, 6, 28, 31] (by decide) ?_
     exact s42 trivial
    ·
     show aopsR _ _ _ [_] _ _ _
     refine ar_loadp rfl (v := .slice false (s.wait.map trnAV)) rfl (wth_get 0 (nodup_1 r) rfl) rfl (apartOk_one rfl rfl (Nat.le_of_ble_eq_true rfl)) rfl ?_
     refine AAny.keep [0, 1, 2, 6, 27, 32] (by decide) ?_
     exact s44 trivial
    ·
     show aopsR _ _ _ [_] _ _ _
     refine ⟨trivial, ?_⟩
     refine AAny.keep [0, 1, 2, 6, 27, 31, 33] (by decide) ?_
     exact s45 trivial
   clear s36 s42
   have s61 : ∀ (_ : True), A 10 #[false, true, true, true, false, true, true, false, false, true, false, false, false, false, false, false] (fun fr m => K1 (fr.keep [0, 1, 2, 6]) m) [(0, .ptr ⟨r, 0, none⟩), (1, .int .i64 keep), (2, .int .i64 torn), (6, .int .i64 i), (27, .ptr ⟨r, 0, none⟩), (30, .ptr ⟨r, 0, none⟩), (33, .int .i64 i)] (AMem.wth m [(r, rObjK kp s)]) := by
    intro _
    subst hA
    refine AAny.step [] [0, 4, 7] (by decide +kernel) (by simp) (by decide) ⟨?_, ?_, ?_, trivial⟩
    ·
     show aopsR _ _ _ [_] _ _ _
     refine ⟨trivial, ?_⟩
     refine AAny.keep [0, 1, 2, 6, 24, 27, 30, 33] (by decide) ?_
     exact s37 trivial
    ·
     show aopsR _ _ _ [_] _ _ _
     refine ar_loadp rfl (v := .slice false (kp.map fileAV)) rfl (wth_get 0 (nodup_1 r) rfl) rfl (apartOk_one rfl rfl (Nat.le_of_ble_eq_true rfl)) rfl ?_
     refine AAny.keep [0, 1, 2, 6, 28, 30, 33] (by decide) ?_
     exact s43 trivial
    ·
     show aopsR _ _ _ [_] _ _ _
     refine ⟨⟨rfl, by decide⟩, ?_⟩
     refine AAny.keep [0, 1, 2, 6, 27, 31, 33] (by decide) ?_
     exact s45 trivial
   clear s37 s43
   have s62 : ∀ (_ : True), A 10 #[false, true, true, false, false, true, true, true, true, false, false, false, false, false, false, false] (fun fr m => K1 (fr.keep [0, 1, 2, 6]) m) [(0, .ptr ⟨r, 0, none⟩), (1, .int .i64 keep), (2, .int .i64 torn), (6, .int .i64 i), (26, .ptr ⟨r, 0, none⟩), (32, .slice false (s.wait.map trnAV))] (AMem.wth m [(r, rObjK kp s)]) := by
    intro _
    subst hA
    refine AAny.step [] [0, 3, 9] (by decide +kernel) (by simp) (by decide) ⟨?_, ?_, ?_, trivial⟩
    ·
     show aopsR _ _ _ [_] _ _ _
     refine ⟨trivial, ?_⟩
     refine AAny.keep [0, 1, 2, 6, 24, 26, 32] (by decide) ?_
     exact s38 trivial
    ·
     show aopsR _ _ _ [_] _ _ _
     refine ⟨⟨rfl, by decide⟩, ?_⟩
     refine AAny.keep [0, 1, 2, 6, 27, 32] (by decide) ?_
     exact s44 trivial
    ·
     show aopsR _ _ _ [_] _ _ _
     refine ⟨trivial, ?_⟩
     refine AAny.keep [0, 1, 2, 6, 26, 32, 33] (by decide) ?_
     exact s46 trivial
   clear s38 s44
   have s63 : ∀ (_ : True), A 10 #[false, true, true, false, false, true, true, true, false, true, false, false, false, false, false, false] (fun fr m => K1 (fr.keep [0, 1, 2, 6]) m) [(0, .ptr ⟨r, 0, none⟩), (1, .int .i64 keep), (2, .int .i64 torn), (6, .int .i64 i), (26, .ptr ⟨r, 0, none⟩), (31, .ptr ⟨r, 2, none⟩), (33, .int .i64 i)] (AMem.wth m [(r, rObjK kp s)]) := by
    intro _
    subst hA
    refine AAny.step [] [0, 3, 8] (by decide +kernel) (by simp) (by decide) ⟨?_, ?_, ?_, trivial⟩
    ·
     show aopsR _ _ _ [_] _ _ _
     refine ⟨trivial, ?_⟩
     refine AAny.keep [0, 1, 2, 6, 24, 26, 31, 33] (by decide) ?_
     exact s39 trivial
    ·
     show aopsR _ _ _ [_] _ _ _
     refine ⟨⟨rfl, by decide⟩, ?_⟩
     refine AAny.keep [0, 1, 2, 6, 27, 31, 33] (by decide) ?_
     exact s45 trivial
    ·
     show aopsR _ _ _ [_] _ _ _
     refine ar_loadp rfl (v := .slice false (s.wait.map trnAV)) rfl (wth_get 0 (nodup_1 r) rfl) rfl (apartOk_one rfl rfl (Nat.le_of_ble_eq_true rfl)) rfl ?_
     refine AAny.keep [0, 1, 2, 6, 26, 32, 33] (by decide) ?_
     exact s46 trivial
   clear s39 s45
   have s64 : ∀ (_ : True), A 10 #[false, true, false, false, false, true, true, true, true, true, false, false, false, false, false, false] (fun fr m => K1 (fr.keep [0, 1, 2, 6]) m) [(0, .ptr ⟨r, 0, none⟩), (1, .int .i64 keep), (2, .int .i64 torn), (6, .int .i64 i), (25, .ptr ⟨r, 0, none⟩), (32, .slice false (s.wait.map trnAV)), (33, .int .i64 i)] (AMem.wth m [(r, rObjK kp s)]) := by
    intro _
    subst hA
    refine AAny.step [] [0, 2, 10] (by decide +kernel) (by simp) (by decide) ⟨?_, ?_, ?_, trivial⟩
    ·
     show aopsR _ _ _ [_] _ _ _
     refine ⟨trivial, ?_⟩
     refine AAny.keep [0, 1, 2, 6, 24, 25, 32, 33] (by decide) ?_
     exact s40 trivial
    ·
     show aopsR _ _ _ [_] _ _ _
     refine ⟨trivial, ?_⟩
     refine AAny.keep [0, 1, 2, 6, 26, 32, 33] (by decide) ?_
     exact s46 trivial
    ·
     show aopsR _ _ _ [_] _ _ _
     refine ar_index rfl trnAV s.wait i rfl rfl rfl rfl rfl (by decide) (fun _ => rfl) (by omega) (by omega) ?_
     refine AAny.keep [0, 1, 2, 6, 25, 34] (by decide) ?_
     exact s47 trivial
   clear s40 s46
   have s65 : ∀ (_ : True), A 10 #[false, false, false, false, false, true, true, true, true, true, true, false, false, false, false, false] (fun fr m => K1 (fr.keep [0, 1, 2, 6]) m) [(0, .ptr ⟨r, 0, none⟩), (1, .int .i64 keep), (2, .int .i64 torn), (6, .int .i64 i), (34, .ref (AV.cells (trnAV (gI s.wait i))))] (AMem.wth m [(r, rObjK kp s)]) := by
    intro _
    subst hA
    refine AAny.step [] [0, 1, 11] (by decide +kernel) (by simp) (by decide) ⟨?_, ?_, ?_, trivial⟩
    ·
     show aopsR _ _ _ [_] _ _ _
     refine ⟨trivial, ?_⟩
     refine AAny.keep [0, 1, 2, 6, 24, 34] (by decide) ?_
     exact s41 trivial
    ·
     show aopsR _ _ _ [_] _ _ _
     refine ⟨trivial, ?_⟩
     refine AAny.keep [0, 1, 2, 6, 25, 34] (by decide) ?_
     exact s47 trivial
    ·
     show aopsR _ _ _ [_] _ _ _
     refine ⟨(apartOk_agg rfl rfl (Nat.le_of_ble_eq_true rfl)), ?_⟩
     refine AAny.keep [0, 1, 2, 6, 35] (by decide) ?_
     exact s48 trivial
   clear s41 s47 s48
   have s66 : ∀ (_ : True), A 11 #[true, true, true, true, true, false, false, false, false, false, false, false, false, false, false, false] (fun fr m => K1 (fr.keep [0, 1, 2, 6]) m) [(0, .ptr ⟨r, 0, none⟩), (1, .int .i64 keep), (2, .int .i64 torn), (6, .int .i64 i), (24, .ptr ⟨r, 0, none⟩), (28, .slice false (kp.map fileAV))] (AMem.wth m [(r, rObjK kp s)]) := by
    intro _
    subst hA
    refine AAny.step [] [5, 9] (by decide +kernel) (by simp) (by decide) ⟨?_, ?_, trivial⟩
    ·
     show aopsR _ _ _ [_] _ _ _
     refine ⟨trivial, ?_⟩
     refine AAny.keep [0, 1, 2, 6, 24, 28, 29] (by decide) ?_
     exact s49 trivial
    ·
     show aopsR _ _ _ [_] _ _ _
     refine ⟨trivial, ?_⟩
     refine AAny.keep [0, 1, 2, 6, 24, 28, 33] (by decide) ?_
     exact s50 trivial
   have s67 : ∀ (_ : True), A 11 #[true, true, true, true, false, true, false, false, false, false, false, false, false, false, false, false] (fun fr m => K1 (fr.keep [0, 1, 2, 6]) m) [(0, .ptr ⟨r, 0, none⟩), (1, .int .i64 keep), (2, .int .i64 torn), (6, .int .i64 i), (24, .ptr ⟨r, 0, none⟩), (27, .ptr ⟨r, 0, none⟩), (29, .ptr ⟨r, 0, none⟩)] (AMem.wth m [(r, rObjK kp s)]) := by
    intro _
    subst hA
    refine AAny.step [] [4, 6, 9] (by decide +kernel) (by simp) (by decide) ⟨?_, ?_, ?_, trivial⟩
    ·
     show aopsR _ _ _ [_] _ _ _
     refine ar_loadp rfl (v := .slice false (kp.map fileAV)) rfl (wth_get 0 (nodup_1 r) rfl) rfl (apartOk_one rfl rfl (Nat.le_of_ble_eq_true rfl)) rfl ?_
     refine AAny.keep [0, 1, 2, 6, 24, 28, 29] (by decide) ?_
     exact s49 trivial
    ·
     show aopsR _ _ _ [_] _ _ _
     refine ⟨trivial, ?_⟩
     refine AAny.keep [0, 1, 2, 6, 24, 27, 30] (by decide) ?_
     exact s51 trivial
    ·
     show aopsR _ _ _ [_] _ _ _
     refine ⟨trivial, ?_⟩
     refine AAny.keep [0, 1, 2, 6, 24, 27, 29, 33] (by decide) ?_
     exact s52 trivial
   have s68 : ∀ (_ : True), A 11 #[true, true, true, true, false, false, false, false, false, true, false, false, false, false, false, false] (fun fr m => K1 (fr.keep [0, 1, 2, 6]) m) [(0, .ptr ⟨r, 0, none⟩), (1, .int .i64 keep), (2, .int .i64 torn), (6, .int .i64 i), (24, .ptr ⟨r, 0, none⟩), (27, .ptr ⟨r, 0, none⟩), (33, .int .i64 i)] (AMem.wth m [(r, rObjK kp s)]) := by
    intro _
    subst hA
    refine AAny.step [] [4, 5] (by decide +kernel) (by simp) (by decide) ⟨?_, ?_, trivial⟩
    ·
     show aopsR _ _ _ [_] _ _ _
     refine ar_loadp rfl (v := .slice false (kp.map fileAV)) rfl (wth_get 0 (nodup_1 r) rfl) rfl (apartOk_one rfl rfl (Nat.le_of_ble_eq_true rfl)) rfl ?_
     refine AAny.keep [0, 1, 2, 6, 24, 28, 33] (by decide) ?_
     exact s50 trivial
    ·
     show aopsR _ _ _ [_] _ _ _
     refine ⟨trivial, ?_⟩
     refine AAny.keep [0, 1, 2, 6, 24, 27, 29, 33] (by decide) ?_
     exact s52 trivial
   have s69 : ∀ (_ : True), A 11 #[true, true, true, false, false, true, true, false, false, false, false, false, false, false, false, false] (fun fr m => K1 (fr.keep [0, 1, 2, 6]) m) [(0, .ptr ⟨r, 0, none⟩), (1, .int .i64 keep), (2, .int .i64 torn), (6, .int .i64 i), (24, .ptr ⟨r, 0, none⟩), (26, .ptr ⟨r, 0, none⟩), (30, .ptr ⟨r, 0, none⟩)] (AMem.wth m [(r, rObjK kp s)]) := by
    intro _
    subst hA
    refine AAny.step [] [3, 7, 9] (by decide +kernel) (by simp) (by decide) ⟨?_, ?_, ?_, trivial⟩
    ·
     show aopsR _ _ _ [_] _ _ _
     refine ⟨⟨rfl, by decide⟩, ?_⟩
     refine AAny.keep [0, 1, 2, 6, 24, 27, 30] (by decide) ?_
     exact s51 trivial
    ·
     show aopsR _ _ _ [_] _ _ _
     refine ⟨⟨rfl, by decide⟩, ?_⟩
     refine AAny.keep [0, 1, 2, 6, 24, 26, 31] (by decide) ?_
     exact s53 trivial
    ·
     show aopsR _ _ _ [_] _ _ _
     refine ⟨trivial, ?_⟩
     refine AAny.keep [0, 1, 2, 6, 24, 26, 30, 33] (by decide) ?_
     exact s54 trivial
   have s70 : ∀ (_ : True), A 11 #[true, true, true, false, false, true, false, false, false, true, false, false, false, false, false, false] (fun fr m => K1 (fr.keep [0, 1, 2, 6]) m) [(0, .ptr ⟨r, 0, none⟩), (1, .int .i64 keep), (2, .int .i64 torn), (6, .int .i64 i), (24, .ptr ⟨r, 0, none⟩), (26, .ptr ⟨r, 0, none⟩), (29, .ptr ⟨r, 0, none⟩), (33, .int .i64 i)] (AMem.wth m [(r, rObjK kp s)]) := by
    intro _
    subst hA
    refine AAny.step [] [3, 6] (by decide +kernel) (by simp) (by decide) ⟨?_, ?_, trivial⟩
    ·
     show aopsR _ _ _ [_] _ _ _
     refine ⟨⟨rfl, by decide⟩, ?_⟩
     refine AAny.keep [0, 1, 2, 6, 24, 27, 29, 33] (by decide) ?_
     exact s52 trivial
    ·
     show aopsR _ _ _ [_] _ _ _
     refine ⟨trivial, ?_⟩
     refine AAny.keep [0, 1, 2, 6, 24, 26, 30, 33] (by decide) ?_
     exact s54 trivial
   have s71 : ∀ (_ : True), A 11 #[true, true, false, false, false, true, true, true, false, false, false, false, false, false, false, false] (fun fr m => K1 (fr.keep [0, 1, 2, 6]) m) [(0, .ptr ⟨r, 0, none⟩), (1, .int .i64 keep), (2, .int .i64 torn), (6, .int .i64 i), (24, .ptr ⟨r, 0, none⟩), (25, .ptr ⟨r, 0, none⟩), (31, .ptr ⟨r, 2, none⟩)] (AMem.wth m [(r, rObjK kp s)]) := by
    intro _
    subst hA
    refine AAny.step [] [2, 8, 9] (by decide +kernel) (by simp) (by decide) ⟨?_, ?_, ?_, trivial⟩
    ·
     show aopsR _ _ _ [_] _ _ _
     refine ⟨trivial, ?_⟩
     refine AAny.keep [0, 1, 2, 6, 24, 26, 31] (by decide) ?_
     exact s53 trivial
    ·
     show aopsR _ _ _ [_] _ _ _
     refine ar_loadp rfl (v := .slice false (s.wait.map trnAV)) rfl (wth_get 0 (nodup_1 r) rfl) rfl (apartOk_one rfl rfl (Nat.le_of_ble_eq_true rfl)) rfl ?_
     refine AAny.keep [0, 1, 2, 6, 24, 25, 32] (by decide) ?_
     exact s55 trivial
    ·
     show aopsR _ _ _ [_] _ _ _
     refine ⟨trivial, ?_⟩
     refine AAny.keep [0, 1, 2, 6, 24, 25, 31, 33] (by decide) ?_
     exact s56 trivial
   have s72 : ∀ (_ : True), A 11 #[true, true, false, false, false, true, true, false, false, true, false, false, false, false, false, false] (fun fr m => K1 (fr.keep [0, 1, 2, 6]) m) [(0, .ptr ⟨r, 0, none⟩), (1, .int .i64 keep), (2, .int .i64 torn), (6, .int .i64 i), (24, .ptr ⟨r, 0, none⟩), (25, .ptr ⟨r, 0, none⟩), (30, .ptr ⟨r, 0, none⟩), (33, .int .i64 i)] (AMem.wth m [(r, rObjK kp s)]) := by
    intro _
    subst hA
    refine AAny.step [] [2, 7] (by decide +kernel) (by simp) (by decide) ⟨?_, ?_, trivial⟩
    ·
     show aopsR _ _ _ [_] _ _ _
     refine ⟨trivial, ?_⟩
     refine AAny.keep [0, 1, 2, 6, 24, 26, 30, 33] (by decide) ?_
     exact s54 trivial
    ·
     show aopsR _ _ _ [_] _ _ _
     refine ⟨⟨rfl, by decide⟩, ?_⟩
     refine AAny.keep [0, 1, 2, 6, 24, 25, 31, 33] (by decide) ?_
     exact s56 trivial
   have s73 : ∀ (_ : True), A 11 #[true, false, false, false, false, true, true, true, true, false, false, false, false, false, false, false] (fun fr m => K1 (fr.keep [0, 1, 2, 6]) m) [(0, .ptr ⟨r, 0, none⟩), (1, .int .i64 keep), (2, .int .i64 torn), (6, .int .i64 i), (24, .ptr ⟨r, 0, none⟩), (32, .slice false (s.wait.map trnAV))] (AMem.wth m [(r, rObjK kp s)]) := by
    intro _
    subst hA
    refine AAny.step [] [1, 9] (by decide +kernel) (by simp) (by decide) ⟨?_, ?_, trivial⟩
    ·
     show aopsR _ _ _ [_] _ _ _
     refine ⟨trivial, ?_⟩
     refine AAny.keep [0, 1, 2, 6, 24, 25, 32] (by decide) ?_
     exact s55 trivial
    ·
     show aopsR _ _ _ [_] _ _ _
     refine ⟨trivial, ?_⟩
     refine AAny.keep [0, 1, 2, 6, 24, 32, 33] (by decide) ?_
     exact s57 trivial
   have s74 : ∀ (_ : True), A 11 #[true, false, false, false, false, true, true, true, false, true, false, false, false, false, false, false] (fun fr m => K1 (fr.keep [0, 1, 2, 6]) m) [(0, .ptr ⟨r, 0, none⟩), (1, .int .i64 keep), (2, .int .i64 torn), (6, .int .i64 i), (24, .ptr ⟨r, 0, none⟩), (31, .ptr ⟨r, 2, none⟩), (33, .int .i64 i)] (AMem.wth m [(r, rObjK kp s)]) := by
    intro _
    subst hA
    refine AAny.step [] [1, 8] (by decide +kernel) (by simp) (by decide) ⟨?_, ?_, trivial⟩
    ·
     show aopsR _ _ _ [_] _ _ _
     refine ⟨trivial, ?_⟩
     refine AAny.keep [0, 1, 2, 6, 24, 25, 31, 33] (by decide) ?_
     exact s56 trivial
    ·
     show aopsR _ _ _ [_] _ _ _
     refine ar_loadp rfl (v := .slice false (s.wait.map trnAV)) rfl (wth_get 0 (nodup_1 r) rfl) rfl (apartOk_one rfl rfl (Nat.le_of_ble_eq_true rfl)) rfl ?_
     refine AAny.keep [0, 1, 2, 6, 24, 32, 33] (by decide) ?_
     exact s57 trivial
   have s75 : ∀ (_ : True), A 11 #[false, true, true, true, true, true, false, false, false, false, false, false, false, false, false, false] (fun fr m => K1 (fr.keep [0, 1, 2, 6]) m) [(0, .ptr ⟨r, 0, none⟩), (1, .int .i64 keep), (2, .int .i64 torn), (6, .int .i64 i), (28, .slice false (kp.map fileAV)), (29, .ptr ⟨r, 0, none⟩)] (AMem.wth m [(r, rObjK kp s)]) := by
    intro _
    subst hA
    refine AAny.step [] [0, 6, 9] (by decide +kernel) (by simp) (by decide) ⟨?_, ?_, ?_, trivial⟩
    ·
     show aopsR _ _ _ [_] _ _ _
     refine ⟨trivial, ?_⟩
     refine AAny.keep [0, 1, 2, 6, 24, 28, 29] (by decide) ?_
     exact s49 trivial
    ·
     show aopsR _ _ _ [_] _ _ _
     refine ⟨trivial, ?_⟩
     refine AAny.keep [0, 1, 2, 6, 28, 30] (by decide) ?_
     exact s58 trivial
    ·
     show aopsR _ _ _ [_] _ _ _
     refine ⟨trivial, ?_⟩
     refine AAny.keep [0, 1, 2, 6, 28, 29, 33] (by decide) ?_
     exact s59 trivial
   clear s49
   have s76 : ∀ (_ : True), A 11 #[false, true, true, true, true, false, false, false, false, true, false, false, false, false, false, false] (fun fr m => K1 (fr.keep [0, 1, 2, 6]) m) [(0, .ptr ⟨r, 0, none⟩), (1, .int .i64 keep), (2, .int .i64 torn), (6, .int .i64 i), (28, .slice false (kp.map fileAV)), (33, .int .i64 i)] (AMem.wth m [(r, rObjK kp s)]) := by
    intro _
    subst hA
    refine AAny.step [] [0, 5] (by decide +kernel) (by simp) (by decide) ⟨?_, ?_, trivial⟩
    ·
     show aopsR _ _ _ [_] _ _ _
     refine ⟨trivial, ?_⟩
     refine AAny.keep [0, 1, 2, 6, 24, 28, 33] (by decide) ?_
     exact s50 trivial
    ·
     show aopsR _ _ _ [_] _ _ _
     refine ⟨trivial, ?_⟩
     refine AAny.keep [0, 1, 2, 6, 28, 29, 33] (by decide) ?_
     exact s59 trivial
   clear s50
   have s77 : ∀ (_ : True), A 11 #[false, true, true, true, false, true, true, false, false, false, false, false, false, false, false, false] (fun fr m => K1 (fr.keep [0, 1, 2, 6]) m) [(0, .ptr ⟨r, 0, none⟩), (1, .int .i64 keep), (2, .int .i64 torn), (6, .int .i64 i), (27, .ptr ⟨r, 0, none⟩), (30, .ptr ⟨r, 0, none⟩)] (AMem.wth m [(r, rObjK kp s)]) := by
    intro _
    subst hA
    refine AAny.step [] [0, 4, 7, 9] (by decide +kernel) (by simp) (by decide) ⟨?_, ?_, ?_, ?_, trivial⟩
    ·
     show aopsR _ _ _ [_] _ _ _
     refine ⟨trivial, ?_⟩
     refine AAny.keep [0, 1, 2, 6, 24, 27, 30] (by decide) ?_
     exact s51 trivial
    ·
     show aopsR _ _ _ [_] _ _ _
     refine ar_loadp rfl (v := .slice false (kp.map fileAV)) rfl (wth_get 0 (nodup_1 r) rfl) rfl (apartOk_one rfl rfl (Nat.le_of_ble_eq_true rfl)) rfl ?_
     refine AAny.keep [0, 1, 2, 6, 28, 30] (by decide) ?_
     exact s58 trivial
    ·
     show aopsR _ _ _ [_] _ _ _
     refine ⟨⟨rfl, by decide⟩, ?_⟩
     refine AAny.keep [0, 1, 2, 6, 27, 31] (by decide) ?_
     exact s60 trivial
    ·
     show aopsR _ _ _ [_] _ _ _
     refine ⟨trivial, ?_⟩
     refine AAny.keep [0, 1, 2, 6, 27, 30, 33] (by decide) ?_
     exact s61 trivial
   clear s51 s58
   have s78 : ∀ (_ : True), A 11 #[false, true, true, true, false, true, false, false, false, true, false, false, false, false, false, false] (fun fr m => K1 (fr.keep [0, 1, 2, 6]) m) [(0, .ptr ⟨r, 0, none⟩), (1, .int .i64 keep), (2, .int .i64 torn), (6, .int .i64 i), (27, .ptr ⟨r, 0, none⟩), (29, .ptr ⟨r, 0, none⟩), (33, .int .i64 i)] (AMem.wth m [(r, rObjK kp s)]) := by
    intro _
    subst hA
    refine AAny.step [] [0, 4, 6] (by decide +kernel) (by simp) (by decide) ⟨?_, ?_, ?_, trivial⟩
    ·
     show aopsR _ _ _ [_] _ _ _
     refine ⟨trivial, ?_⟩
     refine AAny.keep [0, 1, 2, 6, 24, 27, 29, 33] (by decide) ?_
     exact s52 trivial
    ·
     show aopsR _ _ _ [_] _ _ _
     refine ar_loadp rfl (v := .slice false (kp.map fileAV)) rfl (wth_get 0 (nodup_1 r) rfl) rfl (apartOk_one rfl rfl (Nat.le_of_ble_eq_true rfl)) rfl ?_
     refine AAny.keep [0, 1, 2, 6, 28, 29, 33] (by decide) ?_
     exact s59 trivial
    ·
     show aopsR _ _ _ [_] _ _ _
     refine ⟨trivial, ?_⟩
     refine AAny.keep [0, 1, 2, 6, 27, 30, 33] (by decide) ?_
     exact s61 trivial
   clear s52 s59
   have s79 : ∀ (_ : True), A 11 #[false, true, true, false, false, true, true, true, false, false, false, false, false, false, false, false] (fun fr m => K1 (fr.keep [0, 1, 2, 6]) m) [(0, .ptr ⟨r, 0, none⟩), (1, .int .i64 keep), (2, .int .i64 torn), (6, .int .i64 i), (26, .ptr ⟨r, 0, none⟩), (31, .ptr ⟨r, 2, none⟩)] (AMem.wth m [(r, rObjK kp s)]) := by
    intro _
    subst hA
    refine AAny.step [] [0, 3, 8, 9] (by decide +kernel) (by simp) (by decide) ⟨?_, ?_, ?_, ?_, trivial⟩
    ·
     show aopsR _ _ _ [_] _ _ _
     refine ⟨trivial, ?_⟩
     refine AAny.keep [0, 1, 2, 6, 24, 26, 31] (by decide) ?_
     exact s53 trivial
    ·
     show aopsR _ _ _ [_] _ _ _
     refine ⟨⟨rfl, by decide⟩, ?_⟩
     refine AAny.keep [0, 1, 2, 6, 27, 31] (by decide) ?_
     exact s60 trivial
    ·
     show aopsR _ _ _ [_] _ _ _
     refine ar_loadp rfl (v := .slice false (s.wait.map trnAV)) rfl (wth_get 0 (nodup_1 r) rfl) rfl (apartOk_one rfl rfl (Nat.le_of_ble_eq_true rfl)) rfl ?_
     refine AAny.keep [0, 1, 2, 6, 26, 32] (by decide) ?_
     exact s62 trivial
    ·
     show aopsR _ _ _ [_] _ _ _
     refine ⟨trivial, ?_⟩
     refine AAny.keep [0, 1, 2, 6, 26, 31, 33] (by decide) ?_
     exact s63 trivial
   clear s53 s60
   have s80 : ∀ (_ : True), A 11 #[false, true, true, false, false, true, true, false, false, true, false, false, false, false, false, false] (fun fr m => K1 (fr.keep [0, 1, 2, 6]) m) [(0, .ptr ⟨r, 0, none⟩), (1, .int .i64 keep), (2, .int .i64 torn), (6, .int .i64 i), (26, .ptr ⟨r, 0, none⟩), (30, .ptr ⟨r, 0, none⟩), (33, .int .i64 i)] (AMem.wth m [(r, rObjK kp s)]) := by
    intro _
    subst hA
    refine AAny.step [] [0, 3, 7] (by decide +kernel) (by simp) (by decide) ⟨?_, ?_, ?_, trivial⟩
    ·
     show aopsR _ _ _ [_] _ _ _
     refine ⟨trivial, ?_⟩
     refine AAny.keep [0, 1, 2, 6, 24, 26, 30, 33] (by decide) ?_
     exact s54 trivial
    ·
     show aopsR _ _ _ [_] _ _ _
     refine ⟨⟨rfl, by decide⟩, ?_⟩
     refine AAny.keep [0, 1, 2, 6, 27, 30, 33] (by decide) ?_
     exact s61 trivial
    ·
     show aopsR _ _ _ [_] _ _ _
     refine ⟨⟨rfl, by decide⟩, ?_⟩
     refine AAny.keep [0, 1, 2, 6, 26, 31, 33] (by decide) ?_
     exact s63 trivial
   clear s54 s61
   have s81 : ∀ (_ : True), A 11 #[false, true, false, false, false, true, true, true, true, false, false, false, false, false, false, false] (fun fr m => K1 (fr.keep [0, 1, 2, 6]) m) [(0, .ptr ⟨r, 0, none⟩), (1, .int .i64 keep), (2, .int .i64 torn), (6, .int .i64 i), (25, .ptr ⟨r, 0, none⟩), (32, .slice false (s.wait.map trnAV))] (AMem.wth m [(r, rObjK kp s)]) := by
    intro _
    subst hA
    refine AAny.step [] [0, 2, 9] (by decide +kernel) (by simp) (by decide) ⟨?_, ?_, ?_, trivial⟩
    ·
     show aopsR _ _ _ [_] _ _ _
     refine ⟨trivial, ?_⟩
     refine AAny.keep [0, 1, 2, 6, 24, 25, 32] (by decide) ?_
     exact s55 trivial
    ·
     show aopsR _ _ _ [_] _ _ _
     refine ⟨trivial, ?_⟩
     refine AAny.keep [0, 1, 2, 6, 26, 32] (by decide) ?_
     exact s62 trivial
    ·
     show aopsR _ _ _ [_] _ _ _
     refine ⟨trivial, ?_⟩
     refine AAny.keep [0, 1, 2, 6, 25, 32, 33] (by decide) ?_
     exact s64 trivial
   clear s55 s62
   have s82 : ∀ (_ : True), A 11 #[false, true, false, false, false, true, true, true, false, true, false, false, false, false, false, false] (fun fr m => K1 (fr.keep [0, 1, 2, 6]) m) [(0, .ptr ⟨r, 0, none⟩), (1, .int .i64 keep), (2, .int .i64 torn), (6, .int .i64 i), (25, .ptr ⟨r, 0, none⟩), (31, .ptr ⟨r, 2, none⟩), (33, .int .i64 i)] (AMem.wth m [(r, rObjK kp s)]) := by
    intro _
    subst hA
    refine AAny.step [] [0, 2, 8] (by decide +kernel) (by simp) (by decide) ⟨?_, ?_, ?_, trivial⟩
    ·
     show aopsR _ _ _ [_] _ _ _
     refine ⟨trivial, ?_⟩
     refine AAny.keep [0, 1, 2, 6, 24, 25, 31, 33] (by decide) ?_
     exact s56 trivial
    ·
     show aopsR _ _ _ [_] _ _ _
     refine ⟨trivial, ?_⟩
     refine AAny.keep [0, 1, 2, 6, 26, 31, 33] (by decide) ?_
     exact s63 trivial
    ·
     show aopsR _ _ _ [_] _ _ _
     refine ar_loadp rfl (v := .slice false (s.wait.map trnAV)) rfl (wth_get 0 (nodup_1 r) rfl) rfl (apartOk_one rfl rfl (Nat.le_of_ble_eq_true rfl)) rfl ?_
     refine AAny.keep [0, 1, 2, 6, 25, 32, 33] (by decide) ?_
     exact s64 trivial
   clear s56 s63
   have s83 : ∀ (_ : True), A 11 #[false, false, false, false, false, true, true, true, true, true, false, false, false, false, false, false] (fun fr m => K1 (fr.keep [0, 1, 2, 6]) m) [(0, .ptr ⟨r, 0, none⟩), (1, .int .i64 keep), (2, .int .i64 torn), (6, .int .i64 i), (32, .slice false (s.wait.map trnAV)), (33, .int .i64 i)] (AMem.wth m [(r, rObjK kp s)]) := by
    intro _
    subst hA
    refine AAny.step [] [0, 1, 10] (by decide +kernel) (by simp) (by decide) ⟨?_, ?_, ?_, trivial⟩
    ·
     show aopsR _ _ _ [_] _ _ _
     refine ⟨trivial, ?_⟩
     refine AAny.keep [0, 1, 2, 6, 24, 32, 33] (by decide) ?_
     exact s57 trivial
    ·
     show aopsR _ _ _ [_] _ _ _
     refine ⟨trivial, ?_⟩
     refine AAny.keep [0, 1, 2, 6, 25, 32, 33] (by decide) ?_
     exact s64 trivial
    ·
     show aopsR _ _ _ [_] _ _ _
     refine ar_index rfl trnAV s.wait i rfl rfl rfl rfl rfl (by decide) (fun _ => rfl) (by omega) (by omega) ?_
     refine AAny.keep [0, 1, 2, 6, 34] (by decide) ?_
     exact s65 trivial
   clear s57 s64 s65
   have s84 : ∀ (_ : True), A 12 #[true, true, true, true, false, false, false, false, false, false, false, false, false, false, false, false] (fun fr m => K1 (fr.keep [0, 1, 2, 6]) m) [(0, .ptr ⟨r, 0, none⟩), (1, .int .i64 keep), (2, .int .i64 torn), (6, .int .i64 i), (24, .ptr ⟨r, 0, none⟩), (27, .ptr ⟨r, 0, none⟩)] (AMem.wth m [(r, rObjK kp s)]) := by
    intro _
    subst hA
    refine AAny.step [] [4, 5, 9] (by decide +kernel) (by simp) (by decide) ⟨?_, ?_, ?_, trivial⟩
    ·
     show aopsR _ _ _ [_] _ _ _
     refine ar_loadp rfl (v := .slice false (kp.map fileAV)) rfl (wth_get 0 (nodup_1 r) rfl) rfl (apartOk_one rfl rfl (Nat.le_of_ble_eq_true rfl)) rfl ?_
     refine AAny.keep [0, 1, 2, 6, 24, 28] (by decide) ?_
     exact s66 trivial
    ·
     show aopsR _ _ _ [_] _ _ _
     refine ⟨trivial, ?_⟩
     refine AAny.keep [0, 1, 2, 6, 24, 27, 29] (by decide) ?_
     exact s67 trivial
    ·
     show aopsR _ _ _ [_] _ _ _
     refine ⟨trivial, ?_⟩
     refine AAny.keep [0, 1, 2, 6, 24, 27, 33] (by decide) ?_
     exact s68 trivial
   have s85 : ∀ (_ : True), A 12 #[true, true, true, false, false, true, false, false, false, false, false, false, false, false, false, false] (fun fr m => K1 (fr.keep [0, 1, 2, 6]) m) [(0, .ptr ⟨r, 0, none⟩), (1, .int .i64 keep), (2, .int .i64 torn), (6, .int .i64 i), (24, .ptr ⟨r, 0, none⟩), (26, .ptr ⟨r, 0, none⟩), (29, .ptr ⟨r, 0, none⟩)] (AMem.wth m [(r, rObjK kp s)]) := by
    intro _
    subst hA
    refine AAny.step [] [3, 6, 9] (by decide +kernel) (by simp) (by decide) ⟨?_, ?_, ?_, trivial⟩
    ·
     show aopsR _ _ _ [_] _ _ _
     refine ⟨⟨rfl, by decide⟩, ?_⟩
     refine AAny.keep [0, 1, 2, 6, 24, 27, 29] (by decide) ?_
     exact s67 trivial
    ·
     show aopsR _ _ _ [_] _ _ _
     refine ⟨trivial, ?_⟩
     refine AAny.keep [0, 1, 2, 6, 24, 26, 30] (by decide) ?_
     exact s69 trivial
    ·
     show aopsR _ _ _ [_] _ _ _
     refine ⟨trivial, ?_⟩
     refine AAny.keep [0, 1, 2, 6, 24, 26, 29, 33] (by decide) ?_
     exact s70 trivial
   have s86 : ∀ (_ : True), A 12 #[true, true, true, false, false, false, false, false, false, true, false, false, false, false, false, false] (fun fr m => K1 (fr.keep [0, 1, 2, 6]) m) [(0, .ptr ⟨r, 0, none⟩), (1, .int .i64 keep), (2, .int .i64 torn), (6, .int .i64 i), (24, .ptr ⟨r, 0, none⟩), (26, .ptr ⟨r, 0, none⟩), (33, .int .i64 i)] (AMem.wth m [(r, rObjK kp s)]) := by
    intro _
    subst hA
    refine AAny.step [] [3, 5] (by decide +kernel) (by simp) (by decide) ⟨?_, ?_, trivial⟩
    ·
     show aopsR _ _ _ [_] _ _ _
     refine ⟨⟨rfl, by decide⟩, ?_⟩
     refine AAny.keep [0, 1, 2, 6, 24, 27, 33] (by decide) ?_
     exact s68 trivial
    ·
     show aopsR _ _ _ [_] _ _ _
     refine ⟨trivial, ?_⟩
     refine AAny.keep [0, 1, 2, 6, 24, 26, 29, 33] (by decide) ?_
     exact s70 trivial
   have s87 : ∀ (_ : True), A 12 #[true, true, false, false, false, true, true, false, false, false, false, false, false, false, false, false] (fun fr m => K1 (fr.keep [0, 1, 2, 6]) m) [(0, .ptr ⟨r, 0, none⟩), (1, .int .i64 keep), (2, .int .i64 torn), (6, .int .i64 i), (24, .ptr ⟨r, 0, none⟩), (25, .ptr ⟨r, 0, none⟩), (30, .ptr ⟨r, 0, none⟩)] (AMem.wth m [(r, rObjK kp s)]) := by
    intro _
    subst hA
    refine AAny.step [] [2, 7, 9] (by decide +kernel) (by simp) (by decide) ⟨?_, ?_, ?_, trivial⟩
    ·
     show aopsR _ _ _ [_] _ _ _
     refine ⟨trivial, ?_⟩
     refine AAny.keep [0, 1, 2, 6, 24, 26, 30] (by decide) ?_
     exact s69 trivial
    ·
     show aopsR _ _ _ [_] _ _ _
     refine ⟨⟨rfl, by decide⟩, ?_⟩
     refine AAny.keep [0, 1, 2, 6, 24, 25, 31] (by decide) ?_
     exact s71 trivial
    ·
     show aopsR _ _ _ [_] _ _ _
     refine ⟨trivial, ?_⟩
     refine AAny.keep [0, 1, 2, 6, 24, 25, 30, 33] (by decide) ?_
     exact s72 trivial
   have s88 : ∀ (_ : True), A 12 #[true, true, false, false, false, true, false, false, false, true, false, false, false, false, false, false] (fun fr m => K1 (fr.keep [0, 1, 2, 6]) m) [(0, .ptr ⟨r, 0, none⟩), (1, .int .i64 keep), (2, .int .i64 torn), (6, .int .i64 i), (24, .ptr ⟨r, 0, none⟩), (25, .ptr ⟨r, 0, none⟩), (29, .ptr ⟨r, 0, none⟩), (33, .int .i64 i)] (AMem.wth m [(r, rObjK kp s)]) := by
    intro _
    subst hA
    refine AAny.step [] [2, 6] (by decide +kernel) (by simp) (by decide) ⟨?_, ?_, trivial⟩
    ·
     show aopsR _ _ _ [_] _ _ _
     refine ⟨trivial, ?_⟩
     refine AAny.keep [0, 1, 2, 6, 24, 26, 29, 33] (by decide) ?_
     exact s70 trivial
    ·
     show aopsR _ _ _ [_] _ _ _
     refine ⟨trivial, ?_⟩
     refine AAny.keep [0, 1, 2, 6, 24, 25, 30, 33] (by decide) ?_
     exact s72 trivial
   have s89 : ∀ (_ : True), A 12 #[true, false, false, false, false, true, true, true, false, false, false, false, false, false, false, false] (fun fr m => K1 (fr.keep [0, 1, 2, 6]) m) [(0, .ptr ⟨r, 0, none⟩), (1, .int .i64 keep), (2, .int .i64 torn), (6, .int .i64 i), (24, .ptr ⟨r, 0, none⟩), (31, .ptr ⟨r, 2, none⟩)] (AMem.wth m [(r, rObjK kp s)]) := by
    intro _
    subst hA
    refine AAny.step [] [1, 8, 9] (by decide +kernel) (by simp) (by decide) ⟨?_, ?_, ?_, trivial⟩
    ·
     show aopsR _ _ _ [_] _ _ _
     refine ⟨trivial, ?_⟩
     refine AAny.keep [0, 1, 2, 6, 24, 25, 31] (by decide) ?_
     exact s71 trivial
    ·
     show aopsR _ _ _ [_] _ _ _
     refine ar_loadp rfl (v := .slice false (s.wait.map trnAV)) rfl (wth_get 0 (nodup_1 r) rfl) rfl (apartOk_one rfl rfl (Nat.le_of_ble_eq_true rfl)) rfl ?_
     refine AAny.keep [0, 1, 2, 6, 24, 32] (by decide) ?_
     exact s73 trivial
    ·
     show aopsR _ _ _ [_] _ _ _
     refine ⟨trivial, ?_⟩
     refine AAny.keep [0, 1, 2, 6, 24, 31, 33] (by decide) ?_
     exact s74 trivial
   have s90 : ∀ (_ : True), A 12 #[true, false, false, false, false, true, true, false, false, true, false, false, false, false, false, false] (fun fr m => K1 (fr.keep [0, 1, 2, 6]) m) [(0, .ptr ⟨r, 0, none⟩), (1, .int .i64 keep), (2, .int .i64 torn), (6, .int .i64 i), (24, .ptr ⟨r, 0, none⟩), (30, .ptr ⟨r, 0, none⟩), (33, .int .i64 i)] (AMem.wth m [(r, rObjK kp s)]) := by
    intro _
    subst hA
    refine AAny.step [] [1, 7] (by decide +kernel) (by simp) (by decide) ⟨?_, ?_, trivial⟩
    ·
     show aopsR _ _ _ [_] _ _ _
     refine ⟨trivial, ?_⟩
     refine AAny.keep [0, 1, 2, 6, 24, 25, 30, 33] (by decide) ?_
     exact s72 trivial
    ·
     show aopsR _ _ _ [_] _ _ _
     refine ⟨⟨rfl, by decide⟩, ?_⟩
     refine AAny.keep [0, 1, 2, 6, 24, 31, 33] (by decide) ?_
     exact s74 trivial
   have s91 : ∀ (_ : True), A 12 #[false, true, true, true, true, false, false, false, false, false, false, false, false, false, false, false] (fun fr m => K1 (fr.keep [0, 1, 2, 6]) m) [(0, .ptr ⟨r, 0, none⟩), (1, .int .i64 keep), (2, .int .i64 torn), (6, .int .i64 i), (28, .slice false (kp.map fileAV))] (AMem.wth m [(r, rObjK kp s)]) := by
    intro _
    subst hA
    refine AAny.step [] [0, 5, 9] (by decide +kernel) (by simp) (by decide) ⟨?_, ?_, ?_, trivial⟩
    ·
     show aopsR _ _ _ [_] _ _ _
     refine ⟨trivial, ?_⟩
     refine AAny.keep [0, 1, 2, 6, 24, 28] (by decide) ?_
     exact s66 trivial
    ·
     show aopsR _ _ _ [_] _ _ _
     refine ⟨trivial, ?_⟩
     refine AAny.keep [0, 1, 2, 6, 28, 29] (by decide) ?_
     exact s75 trivial
    ·
     show aopsR _ _ _ [_] _ _ _
     refine ⟨trivial, ?_⟩
     refine AAny.keep [0, 1, 2, 6, 28, 33] (by decide) ?_
     exact s76 trivial
   clear s66
   have s92 : ∀ (_ : True), A 12 #[false, true, true, true, false, true, false, false, false, false, false, false, false, false, false, false] (fun fr m => K1 (fr.keep [0, 1, 2, 6]) m) [(0, .ptr ⟨r, 0, none⟩), (1, .int .i64 keep), (2, .int .i64 torn), (6, .int .i64 i), (27, .ptr ⟨r, 0, none⟩), (29, .ptr ⟨r, 0, none⟩)] (AMem.wth m [(r, rObjK kp s)]) := by
    intro _
    subst hA
    refine AAny.step [] [0, 4, 6, 9] (by decide +kernel) (by simp) (by decide) ⟨?_, ?_, ?_, ?_, trivial⟩
    ·
     show aopsR _ _ _ [_] _ _ _
     refine ⟨trivial, ?_⟩
     refine AAny.keep [0, 1, 2, 6, 24, 27, 29] (by decide) ?_
     exact s67 trivial
    ·
     show aopsR _ _ _ [_] _ _ _
     refine ar_loadp rfl (v := .slice false (kp.map fileAV)) rfl (wth_get 0 (nodup_1 r) rfl) rfl (apartOk_one rfl rfl (Nat.le_of_ble_eq_true rfl)) rfl ?_
     refine AAny.keep [0, 1, 2, 6, 28, 29] (by decide) ?_
     exact s75 trivial
    ·
     show aopsR _ _ _ [_] _ _ _
     refine ⟨trivial, ?_⟩
     refine AAny.keep [0, 1, 2, 6, 27, 30] (by decide) ?_
     exact s77 trivial
    ·
     show aopsR _ _ _ [_] _ _ _
     refine ⟨trivial, ?_⟩
     refine AAny.keep [0, 1, 2, 6, 27, 29, 33] (by decide) ?_
     exact s78 trivial
   clear s67 s75
   have s93 : ∀ (_ : True), A 12 #[false, true, true, true, false, false, false, false, false, true, false, false, false, false, false, false] (fun fr m => K1 (fr.keep [0, 1, 2, 6]) m) [(0, .ptr ⟨r, 0, none⟩), (1, .int .i64 keep), (2, .int .i64 torn), (6, .int .i64 i), (27, .ptr ⟨r, 0, none⟩), (33, .int .i64 i)] (AMem.wth m [(r, rObjK kp s)]) := by
    intro _
    subst hA
    refine AAny.step [] [0, 4, 5] (by decide +kernel) (by simp) (by decide) ⟨?_, ?_, ?_, trivial⟩
    ·
     show aopsR _ _ _ [_] _ _ _
     refine ⟨trivial, ?_⟩
     refine AAny.keep [0, 1, 2, 6, 24, 27, 33] (by decide) ?_
     exact s68 trivial
    ·
     show aopsR _ _ _ [_] _ _ _
     refine ar_loadp rfl (v := .slice false (kp.map fileAV)) rfl (wth_get 0 (nodup_1 r) rfl) rfl (apartOk_one rfl rfl (Nat.le_of_ble_eq_true rfl)) rfl ?_
     refine AAny.keep [0, 1, 2, 6, 28, 33] (by decide) ?_
     exact s76 trivial
    ·
     show aopsR _ _ _ [_] _ _ _
     refine ⟨trivial, ?_⟩
     refine AAny.keep [0, 1, 2, 6, 27, 29, 33] (by decide) ?_
     exact s78 trivial
   clear s68 s76
   have s94 : ∀ (_ : True), A 12 #[false, true, true, false, false, true, true, false, false, false, false, false, false, false, false, false] (fun fr m => K1 (fr.keep [0, 1, 2, 6]) m) [(0, .ptr ⟨r, 0, none⟩), (1, .int .i64 keep), (2, .int .i64 torn), (6, .int .i64 i), (26, .ptr ⟨r, 0, none⟩), (30, .ptr ⟨r, 0, none⟩)] (AMem.wth m [(r, rObjK kp s)]) := by
    intro _
    subst hA
    refine AAny.step [] [0, 3, 7, 9] (by decide +kernel) (by simp) (by decide) ⟨?_, ?_, ?_, ?_, trivial⟩
    ·
     show aopsR _ _ _ [_] _ _ _
     refine ⟨trivial, ?_⟩
     refine AAny.keep [0, 1, 2, 6, 24, 26, 30] (by decide) ?_
     exact s69 trivial
    ·
     show aopsR _ _ _ [_] _ _ _
     refine ⟨⟨rfl, by decide⟩, ?_⟩
     refine AAny.keep [0, 1, 2, 6, 27, 30] (by decide) ?_
     exact s77 trivial
    ·
     show aopsR _ _ _ [_] _ _ _
     refine ⟨⟨rfl, by decide⟩, ?_⟩
     refine AAny.keep [0, 1, 2, 6, 26, 31] (by decide) ?_
     exact s79 trivial
    ·
     show aopsR _ _ _ [_] _ _ _
     refine ⟨trivial, ?_⟩
     refine AAny.keep [0, 1, 2, 6, 26, 30, 33] (by decide) ?_
     exact s80 trivial
   clear s69 s77
   have s95 : ∀ (_ : True), A 12 #[false, true, true, false, false, true, false, false, false, true, false, false, false, false, false, false] (fun fr m => K1 (fr.keep [0, 1, 2, 6]) m) [(0, .ptr ⟨r, 0, none⟩), (1, .int .i64 keep), (2, .int .i64 torn), (6, .int .i64 i), (26, .ptr ⟨r, 0, none⟩), (29, .ptr ⟨r, 0, none⟩), (33, .int .i64 i)] (AMem.wth m [(r, rObjK kp s)]) := by
    intro _
    subst hA
    refine AAny.step [] [0, 3, 6] (by decide +kernel) (by simp) (by decide) ⟨?_, ?_, ?_, trivial⟩
    ·
     show aopsR _ _ _ [_] _ _ _
     refine ⟨trivial, ?_⟩
     refine AAny.keep [0, 1, 2, 6, 24, 26, 29, 33] (by decide) ?_
     exact s70 trivial
    ·
     show aopsR _ _ _ [_] _ _ _
     refine ⟨⟨rfl, by decide⟩, ?_⟩
     refine AAny.keep [0, 1, 2, 6, 27, 29, 33] (by decide) ?_
     exact s78 trivial
    ·
     show aopsR _ _ _ [_] _ _ _
     refine ⟨trivial, ?_⟩
     refine AAny.keep [0, 1, 2, 6, 26, 30, 33] (by decide) ?_
     exact s80 trivial
   clear s70 s78
   have s96 : ∀ (_ : True), A 12 #[false, true, false, false, false, true, true, true, false, false, false, false, false, false, false, false] (fun fr m => K1 (fr.keep [0, 1, 2, 6]) m) [(0, .ptr ⟨r, 0, none⟩), (1, .int .i64 keep), (2, .int .i64 torn), (6, .int .i64 i), (25, .ptr ⟨r, 0, none⟩), (31, .ptr ⟨r, 2, none⟩)] (AMem.wth m [(r, rObjK kp s)]) := by
    intro _
    subst hA
    refine AAny.step [] [0, 2, 8, 9] (by decide +kernel) (by simp) (by decide) ⟨?_, ?_, ?_, ?_, trivial⟩
    ·
     show aopsR _ _ _ [_] _ _ _
     refine ⟨trivial, ?_⟩
     refine AAny.keep [0, 1, 2, 6, 24, 25, 31] (by decide) ?_
     exact s71 trivial
    ·
     show aopsR _ _ _ [_] _ _ _
     refine ⟨trivial, ?_⟩
     refine AAny.keep [0, 1, 2, 6, 26, 31] (by decide) ?_
     exact s79 trivial
    ·
     show aopsR _ _ _ [_] _ _ _
     refine ar_loadp rfl (v := .slice false (s.wait.map trnAV)) rfl (wth_get 0 (nodup_1 r) rfl) rfl (apartOk_one rfl rfl (Nat.le_of_ble_eq_true rfl)) rfl ?_
     refine AAny.keep [0, 1, 2, 6, 25, 32] (by decide) ?_
     exact s81 trivial
    ·
     show aopsR _ _ _ [_] _ _ _
     refine ⟨trivial, ?_⟩
     refine AAny.keep [0, 1, 2, 6, 25, 31, 33] (by decide) ?_
     exact s82 trivial
   clear s71 s79
   have s97 : ∀ (_ : True), A 12 #[false, true, false, false, false, true, true, false, false, true, false, false, false, false, false, false] (fun fr m => K1 (fr.keep [0, 1, 2, 6]) m) [(0, .ptr ⟨r, 0, none⟩), (1, .int .i64 keep), (2, .int .i64 torn), (6, .int .i64 i), (25, .ptr ⟨r, 0, none⟩), (30, .ptr ⟨r, 0, none⟩), (33, .int .i64 i)] (AMem.wth m [(r, rObjK kp s)]) := by
    intro _
    subst hA
    refine AAny.step [] [0, 2, 7] (by decide +kernel) (by simp) (by decide) ⟨?_, ?_, ?_, trivial⟩
    ·
     show aopsR _ _ _ [_] _ _ _
     refine ⟨trivial, ?_⟩
     refine AAny.keep [0, 1, 2, 6, 24, 25, 30, 33] (by decide) ?_
     exact s72 trivial
    ·
     show aopsR _ _ _ [_] _ _ _
     refine ⟨trivial, ?_⟩
     refine AAny.keep [0, 1, 2, 6, 26, 30, 33] (by decide) ?_
     exact s80 trivial
    ·
     show aopsR _ _ _ [_] _ _ _
     refine ⟨⟨rfl, by decide⟩, ?_⟩
     refine AAny.keep [0, 1, 2, 6, 25, 31, 33] (by decide) ?_
     exact s82 trivial
   clear s72 s80
   have s98 : ∀ (_ : True), A 12 #[false, false, false, false, false, true, true, true, true, false, false, false, false, false, false, false] (fun fr m => K1 (fr.keep [0, 1, 2, 6]) m) [(0, .ptr ⟨r, 0, none⟩), (1, .int .i64 keep), (2, .int .i64 torn), (6, .int .i64 i), (32, .slice false (s.wait.map trnAV))] (AMem.wth m [(r, rObjK kp s)]) := by
    intro _
    subst hA
    refine AAny.step [] [0, 1, 9] (by decide +kernel) (by simp) (by decide) ⟨?_, ?_, ?_, trivial⟩
    ·
     show aopsR _ _ _ [_] _ _ _
     refine ⟨trivial, ?_⟩
     refine AAny.keep [0, 1, 2, 6, 24, 32] (by decide) ?_
     exact s73 trivial
    ·
     show aopsR _ _ _ [_] _ _ _
     refine ⟨trivial, ?_⟩
     refine AAny.keep [0, 1, 2, 6, 25, 32] (by decide) ?_
     exact s81 trivial
    ·
     show aopsR _ _ _ [_] _ _ _
     refine ⟨trivial, ?_⟩
     refine AAny.keep [0, 1, 2, 6, 32, 33] (by decide) ?_
     exact s83 trivial
   clear s73 s81
   have s99 : ∀ (_ : True), A 12 #[false, false, false, false, false, true, true, true, false, true, false, false, false, false, false, false] (fun fr m => K1 (fr.keep [0, 1, 2, 6]) m) [(0, .ptr ⟨r, 0, none⟩), (1, .int .i64 keep), (2, .int .i64 torn), (6, .int .i64 i), (31, .ptr ⟨r, 2, none⟩), (33, .int .i64 i)] (AMem.wth m [(r, rObjK kp s)]) := by
    intro _
    subst hA
    refine AAny.step [] [0, 1, 8] (by decide +kernel) (by simp) (by decide) ⟨?_, ?_, ?_, trivial⟩
    ·
     show aopsR _ _ _ [_] _ _ _
     refine ⟨trivial, ?_⟩
     refine AAny.keep [0, 1, 2, 6, 24, 31, 33] (by decide) ?_
     exact s74 trivial
    ·
     show aopsR _ _ _ [_] _ _ _
     refine ⟨trivial, ?_⟩
     refine AAny.keep [0, 1, 2, 6, 25, 31, 33] (by decide) ?_
     exact s82 trivial
    ·
     show aopsR _ _ _ [_] _ _ _
     refine ar_loadp rfl (v := .slice false (s.wait.map trnAV)) rfl (wth_get 0 (nodup_1 r) rfl) rfl (apartOk_one rfl rfl (Nat.le_of_ble_eq_true rfl)) rfl ?_
     refine AAny.keep [0, 1, 2, 6, 32, 33] (by decide) ?_
     exact s83 trivial
   clear s74 s82 s83
   have s100 : ∀ (_ : True), A 13 #[true, true, true, false, false, false, false, false, false, false, false, false, false, false, false, false] (fun fr m => K1 (fr.keep [0, 1, 2, 6]) m) [(0, .ptr ⟨r, 0, none⟩), (1, .int .i64 keep), (2, .int .i64 torn), (6, .int .i64 i), (24, .ptr ⟨r, 0, none⟩), (26, .ptr ⟨r, 0, none⟩)] (AMem.wth m [(r, rObjK kp s)]) := by
    intro _
    subst hA
    refine AAny.step [] [3, 5, 9] (by decide +kernel) (by simp) (by decide) ⟨?_, ?_, ?_, trivial⟩
    ·
     show aopsR _ _ _ [_] _ _ _
     refine ⟨⟨rfl, by decide⟩, ?_⟩
     refine AAny.keep [0, 1, 2, 6, 24, 27] (by decide) ?_
     exact s84 trivial
    ·
     show aopsR _ _ _ [_] _ _ _
     refine ⟨trivial, ?_⟩
     refine AAny.keep [0, 1, 2, 6, 24, 26, 29] (by decide) ?_
     exact s85 trivial
    ·
     show aopsR _ _ _ [_] _ _ _
     refine ⟨trivial, ?_⟩
     refine AAny.keep [0, 1, 2, 6, 24, 26, 33] (by decide) ?_
     exact s86 trivial
   have s101 : ∀ (_ : True), A 13 #[true, true, false, false, false, true, false, false, false, false, false, false, false, false, false, false] (fun fr m => K1 (fr.keep [0, 1, 2, 6]) m) [(0, .ptr ⟨r, 0, none⟩), (1, .int .i64 keep), (2, .int .i64 torn), (6, .int .i64 i), (24, .ptr ⟨r, 0, none⟩), (25, .ptr ⟨r, 0, none⟩), (29, .ptr ⟨r, 0, none⟩)] (AMem.wth m [(r, rObjK kp s)]) := by
    intro _
    subst hA
    refine AAny.step [] [2, 6, 9] (by decide +kernel) (by simp) (by decide) ⟨?_, ?_, ?_, trivial⟩
    ·
     show aopsR _ _ _ [_] _ _ _
     refine ⟨trivial, ?_⟩
     refine AAny.keep [0, 1, 2, 6, 24, 26, 29] (by decide) ?_
     exact s85 trivial
    ·
     show aopsR _ _ _ [_] _ _ _
     refine ⟨trivial, ?_⟩
     refine AAny.keep [0, 1, 2, 6, 24, 25, 30] (by decide) ?_
     exact s87 trivial
    ·
     show aopsR _ _ _ [_] _ _ _
     refine ⟨trivial, ?_⟩
     refine AAny.keep [0, 1, 2, 6, 24, 25, 29, 33] (by decide) ?_
     exact s88 trivial
   have s102 : ∀ (_ : True), A 13 #[true, true, false, false, false, false, false, false, false, true, false, false, false, false, false, false] (fun fr m => K1 (fr.keep [0, 1, 2, 6]) m) [(0, .ptr ⟨r, 0, none⟩), (1, .int .i64 keep), (2, .int .i64 torn), (6, .int .i64 i), (24, .ptr ⟨r, 0, none⟩), (25, .ptr ⟨r, 0, none⟩), (33, .int .i64 i)] (AMem.wth m [(r, rObjK kp s)]) := by
    intro _
    subst hA
    refine AAny.step [] [2, 5] (by decide +kernel) (by simp) (by decide) ⟨?_, ?_, trivial⟩
    ·
     show aopsR _ _ _ [_] _ _ _
     refine ⟨trivial, ?_⟩
     refine AAny.keep [0, 1, 2, 6, 24, 26, 33] (by decide) ?_
     exact s86 trivial
    ·
     show aopsR _ _ _ [_] _ _ _
     refine ⟨trivial, ?_⟩
     refine AAny.keep [0, 1, 2, 6, 24, 25, 29, 33] (by decide) ?_
     exact s88 trivial
   have s103 : ∀ (_ : True), A 13 #[true, false, false, false, false, true, true, false, false, false, false, false, false, false, false, false] (fun fr m => K1 (fr.keep [0, 1, 2, 6]) m) [(0, .ptr ⟨r, 0, none⟩), (1, .int .i64 keep), (2, .int .i64 torn), (6, .int .i64 i), (24, .ptr ⟨r, 0, none⟩), (30, .ptr ⟨r, 0, none⟩)] (AMem.wth m [(r, rObjK kp s)]) := by
    intro _
    subst hA
    refine AAny.step [] [1, 7, 9] (by decide +kernel) (by simp) (by decide) ⟨?_, ?_, ?_, trivial⟩
    ·
     show aopsR _ _ _ [_] _ _ _
     refine ⟨trivial, ?_⟩
     refine AAny.keep [0, 1, 2, 6, 24, 25, 30] (by decide) ?_
     exact s87 trivial
    ·
     show aopsR _ _ _ [_] _ _ _
     refine ⟨⟨rfl, by decide⟩, ?_⟩
     refine AAny.keep [0, 1, 2, 6, 24, 31] (by decide) ?_
     exact s89 trivial
    ·
     show aopsR _ _ _ [_] _ _ _
     refine ⟨trivial, ?_⟩
     refine AAny.keep [0, 1, 2, 6, 24, 30, 33] (by decide) ?_
     exact s90 trivial
   have s104 : ∀ (_ : True), A 13 #[true, false, false, false, false, true, false, false, false, true, false, false, false, false, false, false] (fun fr m => K1 (fr.keep [0, 1, 2, 6]) m) [(0, .ptr ⟨r, 0, none⟩), (1, .int .i64 keep), (2, .int .i64 torn), (6, .int .i64 i), (24, .ptr ⟨r, 0, none⟩), (29, .ptr ⟨r, 0, none⟩), (33, .int .i64 i)] (AMem.wth m [(r, rObjK kp s)]) := by
    intro _
    subst hA
    refine AAny.step [] [1, 6] (by decide +kernel) (by simp) (by decide) ⟨?_, ?_, trivial⟩
    ·
     show aopsR _ _ _ [_] _ _ _
     refine ⟨trivial, ?_⟩
     refine AAny.keep [0, 1, 2, 6, 24, 25, 29, 33] (by decide) ?_
     exact s88 trivial
    ·
     show aopsR _ _ _ [_] _ _ _
     refine ⟨trivial, ?_⟩
     refine AAny.keep [0, 1, 2, 6, 24, 30, 33] (by decide) ?_
     exact s90 trivial
   have s105 : ∀ (_ : True), A 13 #[false, true, true, true, false, false, false, false, false, false, false, false, false, false, false, false] (fun fr m => K1 (fr.keep [0, 1, 2, 6]) m) [(0, .ptr ⟨r, 0, none⟩), (1, .int .i64 keep), (2, .int .i64 torn), (6, .int .i64 i), (27, .ptr ⟨r, 0, none⟩)] (AMem.wth m [(r, rObjK kp s)]) := by
    intro _
    subst hA
    refine AAny.step [] [0, 4, 5, 9] (by decide +kernel) (by simp) (by decide) ⟨?_, ?_, ?_, ?_, trivial⟩
    ·
     show aopsR _ _ _ [_] _ _ _
     refine ⟨trivial, ?_⟩
     refine AAny.keep [0, 1, 2, 6, 24, 27] (by decide) ?_
     exact s84 trivial
    ·
     show aopsR _ _ _ [_] _ _ _
     refine ar_loadp rfl (v := .slice false (kp.map fileAV)) rfl (wth_get 0 (nodup_1 r) rfl) rfl (apartOk_one rfl rfl (Nat.le_of_ble_eq_true rfl)) rfl ?_
     refine AAny.keep [0, 1, 2, 6, 28] (by decide) ?_
     exact s91 trivial
    ·
     show aopsR _ _ _ [_] _ _ _
     refine ⟨trivial, ?_⟩
     refine AAny.keep [0, 1, 2, 6, 27, 29] (by decide) ?_
     exact s92 trivial
    ·
     show aopsR _ _ _ [_] _ _ _
     refine ⟨trivial, ?_⟩
     refine AAny.keep [0, 1, 2, 6, 27, 33] (by decide) ?_
     exact s93 trivial
   clear s84 s91
   have s106 : ∀ (_ : True), A 13 #[false, true, true, false, false, true, false, false, false, false, false, false, false, false, false, false] (fun fr m => K1 (fr.keep [0, 1, 2, 6]) m) [(0, .ptr ⟨r, 0, none⟩), (1, .int .i64 keep), (2, .int .i64 torn), (6, .int .i64 i), (26, .ptr ⟨r, 0, none⟩), (29, .ptr ⟨r, 0, none⟩)] (AMem.wth m [(r, rObjK kp s)]) := by
    intro _
    subst hA
    refine AAny.step [] [0, 3, 6, 9] (by decide +kernel) (by simp) (by decide) ⟨?_, ?_, ?_, ?_, trivial⟩
    ·
     show aopsR _ _ _ [_] _ _ _
     refine ⟨trivial, ?_⟩
     refine AAny.keep [0, 1, 2, 6, 24, 26, 29] (by decide) ?_
     exact s85 trivial
    ·
     show aopsR _ _ _ [_] _ _ _
     refine ⟨⟨rfl, by decide⟩, ?_⟩
     refine AAny.keep [0, 1, 2, 6, 27, 29] (by decide) ?_
     exact s92 trivial
    ·
     show aopsR _ _ _ [_] _ _ _
     refine ⟨trivial, ?_⟩
     refine AAny.keep [0, 1, 2, 6, 26, 30] (by decide) ?_
     exact s94 trivial
    ·
     show aopsR _ _ _ [_] _ _ _
     refine ⟨trivial, ?_⟩
     refine AAny.keep [0, 1, 2, 6, 26, 29, 33] (by decide) ?_
     exact s95 trivial
   clear s85 s92
   have s107 : ∀ (_ : True), A 13 #[false, true, true, false, false, false, false, false, false, true, false, false, false, false, false, false] (fun fr m => K1 (fr.keep [0, 1, 2, 6]) m) [(0, .ptr ⟨r, 0, none⟩), (1, .int .i64 keep), (2, .int .i64 torn), (6, .int .i64 i), (26, .ptr ⟨r, 0, none⟩), (33, .int .i64 i)] (AMem.wth m [(r, rObjK kp s)]) := by
    intro _
    subst hA
    refine AAny.step [] [0, 3, 5] (by decide +kernel) (by simp) (by decide) ⟨?_, ?_, ?_, trivial⟩
    ·
     show aopsR _ _ _ [_] _ _ _
     refine ⟨trivial, ?_⟩
     refine AAny.keep [0, 1, 2, 6, 24, 26, 33] (by decide) ?_
     exact s86 trivial
    ·
     show aopsR _ _ _ [_] _ _ _
     refine ⟨⟨rfl, by decide⟩, ?_⟩
     refine AAny.keep [0, 1, 2, 6, 27, 33] (by decide) ?_
     exact s93 trivial
    ·
     show aopsR _ _ _ [_] _ _ _
     refine ⟨trivial, ?_⟩
     refine AAny.keep [0, 1, 2, 6, 26, 29, 33] (by decide) ?_
     exact s95 trivial
   clear s86 s93
   have s108 : ∀ (_ : True), A 13 #[false, true, false, false, false, true, true, false, false, false, false, false, false, false, false, false] (fun fr m => K1 (fr.keep [0, 1, 2, 6]) m) [(0, .ptr ⟨r, 0, none⟩), (1, .int .i64 keep), (2, .int .i64 torn), (6, .int .i64 i), (25, .ptr ⟨r, 0, none⟩), (30, .ptr ⟨r, 0, none⟩)] (AMem.wth m [(r, rObjK kp s)]) := by
    intro _
    subst hA
    refine AAny.step [] [0, 2, 7, 9] (by decide +kernel) (by simp) (by decide) ⟨?_, ?_, ?_, ?_, trivial⟩
    ·
     show aopsR _ _ _ [_] _ _ _
     refine ⟨trivial, ?_⟩
     refine AAny.keep [0, 1, 2, 6, 24, 25, 30] (by decide) ?_
     exact s87 trivial
    ·
     show aopsR _ _ _ [_] _ _ _
     refine ⟨trivial, ?_⟩
     refine AAny.keep [0, 1, 2, 6, 26, 30] (by decide) ?_
     exact s94 trivial
    ·
     show aopsR _ _ _ [_] _ _ _
     refine ⟨⟨rfl, by decide⟩, ?_⟩
     refine AAny.keep [0, 1, 2, 6, 25, 31] (by decide) ?_
     exact s96 trivial
    ·
     show aopsR _ _ _ [_] _ _ _
     refine ⟨trivial, ?_⟩
     refine AAny.keep [0, 1, 2, 6, 25, 30, 33] (by decide) ?_
     exact s97 trivial
   clear s87 s94
   have s109 : ∀ (_ : True), A 13 #[false, true, false, false, false, true, false, false, false, true, false, false, false, false, false, false] (fun fr m => K1 (fr.keep [0, 1, 2, 6]) m) [(0, .ptr ⟨r, 0, none⟩), (1, .int .i64 keep), (2, .int .i64 torn), (6, .int .i64 i), (25, .ptr ⟨r, 0, none⟩), (29, .ptr ⟨r, 0, none⟩), (33, .int .i64 i)] (AMem.wth m [(r, rObjK kp s)]) := by
    intro _
    subst hA
    refine AAny.step [] [0, 2, 6] (by decide +kernel) (by simp) (by decide) ⟨?_, ?_, ?_, trivial⟩
    ·
     show aopsR _ _ _ [_] _ _ _
     refine ⟨trivial, ?_⟩
     refine AAny.keep [0, 1, 2, 6, 24, 25, 29, 33] (by decide) ?_
     exact s88 trivial
    ·
     show aopsR _ _ _ [_] _ _ _
     refine ⟨trivial, ?_⟩
     refine AAny.keep [0, 1, 2, 6, 26, 29, 33] (by decide) ?_
     exact s95 trivial
    ·
     show aopsR _ _ _ [_] _ _ _
     refine ⟨trivial, ?_⟩
     refine AAny.keep [0, 1, 2, 6, 25, 30, 33] (by decide) ?_
     exact s97 trivial
   clear s88 s95
   have s110 : ∀ (_ : True), A 13 #[false, false, false, false, false, true, true, true, false, false, false, false, false, false, false, false] (fun fr m => K1 (fr.keep [0, 1, 2, 6]) m) [(0, .ptr ⟨r, 0, none⟩), (1, .int .i64 keep), (2, .int .i64 torn), (6, .int .i64 i), (31, .ptr ⟨r, 2, none⟩)] (AMem.wth m [(r, rObjK kp s)]) := by
    intro _
    subst hA
    refine AAny.step [] [0, 1, 8, 9] (by decide +kernel) (by simp) (by decide) ⟨?_, ?_, ?_, ?_, trivial⟩
    ·
     show aopsR _ _ _ [_] _ _ _
     refine ⟨trivial, ?_⟩
     refine AAny.keep [0, 1, 2, 6, 24, 31] (by decide) ?_
     exact s89 trivial
    ·
     show aopsR _ _ _ [_] _ _ _
     refine ⟨trivial, ?_⟩
     refine AAny.keep [0, 1, 2, 6, 25, 31] (by decide) ?_
     exact s96 trivial
    ·
     show aopsR _ _ _ [_] _ _ _
     refine ar_loadp rfl (v := .slice false (s.wait.map trnAV)) rfl (wth_get 0 (nodup_1 r) rfl) rfl (apartOk_one rfl rfl (Nat.le_of_ble_eq_true rfl)) rfl ?_
     refine AAny.keep [0, 1, 2, 6, 32] (by decide) ?_
     exact s98 trivial
    ·
     show aopsR _ _ _ [_] _ _ _
     refine ⟨trivial, ?_⟩
     refine AAny.keep [0, 1, 2, 6, 31, 33] (by decide) ?_
     exact s99 trivial
   clear s89 s96 s98
   have s111 : ∀ (_ : True), A 13 #[false, false, false, false, false, true, true, false, false, true, false, false, false, false, false, false] (fun fr m => K1 (fr.keep [0, 1, 2, 6]) m) [(0, .ptr ⟨r, 0, none⟩), (1, .int .i64 keep), (2, .int .i64 torn), (6, .int .i64 i), (30, .ptr ⟨r, 0, none⟩), (33, .int .i64 i)] (AMem.wth m [(r, rObjK kp s)]) := by
    intro _
    subst hA
    refine AAny.step [] [0, 1, 7] (by decide +kernel) (by simp) (by decide) ⟨?_, ?_, ?_, trivial⟩
    ·
     show aopsR _ _ _ [_] _ _ _
     refine ⟨trivial, ?_⟩
     refine AAny.keep [0, 1, 2, 6, 24, 30, 33] (by decide) ?_
     exact s90 trivial
    ·
     show aopsR _ _ _ [_] _ _ _
     refine ⟨trivial, ?_⟩
     refine AAny.keep [0, 1, 2, 6, 25, 30, 33] (by decide) ?_
     exact s97 trivial
    ·
     show aopsR _ _ _ [_] _ _ _
     refine ⟨⟨rfl, by decide⟩, ?_⟩
     refine AAny.keep [0, 1, 2, 6, 31, 33] (by decide) ?_
     exact s99 trivial
   clear s90 s97 s99
   have s112 : ∀ (_ : True), A 14 #[true, true, false, false, false, false, false, false, false, false, false, false, false, false, false, false] (fun fr m => K1 (fr.keep [0, 1, 2, 6]) m) [(0, .ptr ⟨r, 0, none⟩), (1, .int .i64 keep), (2, .int .i64 torn), (6, .int .i64 i), (24, .ptr ⟨r, 0, none⟩), (25, .ptr ⟨r, 0, none⟩)] (AMem.wth m [(r, rObjK kp s)]) := by
    intro _
    subst hA
    refine AAny.step [] [2, 5, 9] (by decide +kernel) (by simp) (by decide) ⟨?_, ?_, ?_, trivial⟩
    ·
     show aopsR _ _ _ [_] _ _ _
     refine ⟨trivial, ?_⟩
     refine AAny.keep [0, 1, 2, 6, 24, 26] (by decide) ?_
     exact s100 trivial
    ·
     show aopsR _ _ _ [_] _ _ _
     refine ⟨trivial, ?_⟩
     refine AAny.keep [0, 1, 2, 6, 24, 25, 29] (by decide) ?_
     exact s101 trivial
    ·
     show aopsR _ _ _ [_] _ _ _
     refine ⟨trivial, ?_⟩
     refine AAny.keep [0, 1, 2, 6, 24, 25, 33] (by decide) ?_
     exact s102 trivial
   have s113 : ∀ (_ : True), A 14 #[true, false, false, false, false, true, false, false, false, false, false, false, false, false, false, false] (fun fr m => K1 (fr.keep [0, 1, 2, 6]) m) [(0, .ptr ⟨r, 0, none⟩), (1, .int .i64 keep), (2, .int .i64 torn), (6, .int .i64 i), (24, .ptr ⟨r, 0, none⟩), (29, .ptr ⟨r, 0, none⟩)] (AMem.wth m [(r, rObjK kp s)]) := by
    intro _
    subst hA
    refine AAny.step [] [1, 6, 9] (by decide +kernel) (by simp) (by decide) ⟨?_, ?_, ?_, trivial⟩
    ·
     show aopsR _ _ _ [_] _ _ _
     refine ⟨trivial, ?_⟩
     refine AAny.keep [0, 1, 2, 6, 24, 25, 29] (by decide) ?_
     exact s101 trivial
    ·
     show aopsR _ _ _ [_] _ _ _
     refine ⟨trivial, ?_⟩
     refine AAny.keep [0, 1, 2, 6, 24, 30] (by decide) ?_
     exact s103 trivial
    ·
     show aopsR _ _ _ [_] _ _ _
     refine ⟨trivial, ?_⟩
     refine AAny.keep [0, 1, 2, 6, 24, 29, 33] (by decide) ?_
     exact s104 trivial
   have s114 : ∀ (_ : True), A 14 #[true, false, false, false, false, false, false, false, false, true, false, false, false, false, false, false] (fun fr m => K1 (fr.keep [0, 1, 2, 6]) m) [(0, .ptr ⟨r, 0, none⟩), (1, .int .i64 keep), (2, .int .i64 torn), (6, .int .i64 i), (24, .ptr ⟨r, 0, none⟩), (33, .int .i64 i)] (AMem.wth m [(r, rObjK kp s)]) := by
    intro _
    subst hA
    refine AAny.step [] [1, 5] (by decide +kernel) (by simp) (by decide) ⟨?_, ?_, trivial⟩
    ·
     show aopsR _ _ _ [_] _ _ _
     refine ⟨trivial, ?_⟩
     refine AAny.keep [0, 1, 2, 6, 24, 25, 33] (by decide) ?_
     exact s102 trivial
    ·
     show aopsR _ _ _ [_] _ _ _
     refine ⟨trivial, ?_⟩
     refine AAny.keep [0, 1, 2, 6, 24, 29, 33] (by decide) ?_
     exact s104 trivial
   have s115 : ∀ (_ : True), A 14 #[false, true, true, false, false, false, false, false, false, false, false, false, false, false, false, false] (fun fr m => K1 (fr.keep [0, 1, 2, 6]) m) [(0, .ptr ⟨r, 0, none⟩), (1, .int .i64 keep), (2, .int .i64 torn), (6, .int .i64 i), (26, .ptr ⟨r, 0, none⟩)] (AMem.wth m [(r, rObjK kp s)]) := by
    intro _
    subst hA
    refine AAny.step [] [0, 3, 5, 9] (by decide +kernel) (by simp) (by decide) ⟨?_, ?_, ?_, ?_, trivial⟩
    ·
     show aopsR _ _ _ [_] _ _ _
     refine ⟨trivial, ?_⟩
     refine AAny.keep [0, 1, 2, 6, 24, 26] (by decide) ?_
     exact s100 trivial
    ·
     show aopsR _ _ _ [_] _ _ _
     refine ⟨⟨rfl, by decide⟩, ?_⟩
     refine AAny.keep [0, 1, 2, 6, 27] (by decide) ?_
     exact s105 trivial
    ·
     show aopsR _ _ _ [_] _ _ _
     refine ⟨trivial, ?_⟩
     refine AAny.keep [0, 1, 2, 6, 26, 29] (by decide) ?_
     exact s106 trivial
    ·
     show aopsR _ _ _ [_] _ _ _
     refine ⟨trivial, ?_⟩
     refine AAny.keep [0, 1, 2, 6, 26, 33] (by decide) ?_
     exact s107 trivial
   clear s100 s105
   have s116 : ∀ (_ : True), A 14 #[false, true, false, false, false, true, false, false, false, false, false, false, false, false, false, false] (fun fr m => K1 (fr.keep [0, 1, 2, 6]) m) [(0, .ptr ⟨r, 0, none⟩), (1, .int .i64 keep), (2, .int .i64 torn), (6, .int .i64 i), (25, .ptr ⟨r, 0, none⟩), (29, .ptr ⟨r, 0, none⟩)] (AMem.wth m [(r, rObjK kp s)]) := by
    intro _
    subst hA
    refine AAny.step [] [0, 2, 6, 9] (by decide +kernel) (by simp) (by decide) ⟨?_, ?_, ?_, ?_, trivial⟩
    ·
     show aopsR _ _ _ [_] _ _ _
     refine ⟨trivial, ?_⟩
     refine AAny.keep [0, 1, 2, 6, 24, 25, 29] (by decide) ?_
     exact s101 trivial
    ·
     show aopsR _ _ _ [_] _ _ _
     refine ⟨trivial, ?_⟩
     refine AAny.keep [0, 1, 2, 6, 26, 29] (by decide) ?_
     exact s106 trivial
    ·
     show aopsR _ _ _ [_] _ _ _
     refine ⟨trivial, ?_⟩
     refine AAny.keep [0, 1, 2, 6, 25, 30] (by decide) ?_
     exact s108 trivial
    ·
     show aopsR _ _ _ [_] _ _ _
     refine ⟨trivial, ?_⟩
     refine AAny.keep [0, 1, 2, 6, 25, 29, 33] (by decide) ?_
     exact s109 trivial
   clear s101 s106
   have s117 : ∀ (_ : True), A 14 #[false, true, false, false, false, false, false, false, false, true, false, false, false, false, false, false] (fun fr m => K1 (fr.keep [0, 1, 2, 6]) m) [(0, .ptr ⟨r, 0, none⟩), (1, .int .i64 keep), (2, .int .i64 torn), (6, .int .i64 i), (25, .ptr ⟨r, 0, none⟩), (33, .int .i64 i)] (AMem.wth m [(r, rObjK kp s)]) := by
    intro _
    subst hA
    refine AAny.step [] [0, 2, 5] (by decide +kernel) (by simp) (by decide) ⟨?_, ?_, ?_, trivial⟩
    ·
     show aopsR _ _ _ [_] _ _ _
     refine ⟨trivial, ?_⟩
     refine AAny.keep [0, 1, 2, 6, 24, 25, 33] (by decide) ?_
     exact s102 trivial
    ·
     show aopsR _ _ _ [_] _ _ _
     refine ⟨trivial, ?_⟩
     refine AAny.keep [0, 1, 2, 6, 26, 33] (by decide) ?_
     exact s107 trivial
    ·
     show aopsR _ _ _ [_] _ _ _
     refine ⟨trivial, ?_⟩
     refine AAny.keep [0, 1, 2, 6, 25, 29, 33] (by decide) ?_
     exact s109 trivial
   clear s102 s107
   have s118 : ∀ (_ : True), A 14 #[false, false, false, false, false, true, true, false, false, false, false, false, false, false, false, false] (fun fr m => K1 (fr.keep [0, 1, 2, 6]) m) [(0, .ptr ⟨r, 0, none⟩), (1, .int .i64 keep), (2, .int .i64 torn), (6, .int .i64 i), (30, .ptr ⟨r, 0, none⟩)] (AMem.wth m [(r, rObjK kp s)]) := by
    intro _
    subst hA
    refine AAny.step [] [0, 1, 7, 9] (by decide +kernel) (by simp) (by decide) ⟨?_, ?_, ?_, ?_, trivial⟩
    ·
     show aopsR _ _ _ [_] _ _ _
     refine ⟨trivial, ?_⟩
     refine AAny.keep [0, 1, 2, 6, 24, 30] (by decide) ?_
     exact s103 trivial
    ·
     show aopsR _ _ _ [_] _ _ _
     refine ⟨trivial, ?_⟩
     refine AAny.keep [0, 1, 2, 6, 25, 30] (by decide) ?_
     exact s108 trivial
    ·
     show aopsR _ _ _ [_] _ _ _
     refine ⟨⟨rfl, by decide⟩, ?_⟩
     refine AAny.keep [0, 1, 2, 6, 31] (by decide) ?_
     exact s110 trivial
    ·
     show aopsR _ _ _ [_] _ _ _
     refine ⟨trivial, ?_⟩
     refine AAny.keep [0, 1, 2, 6, 30, 33] (by decide) ?_
     exact s111 trivial
   clear s103 s108 s110
   have s119 : ∀ (_ : True), A 14 #[false, false, false, false, false, true, false, false, false, true, false, false, false, false, false, false] (fun fr m => K1 (fr.keep [0, 1, 2, 6]) m) [(0, .ptr ⟨r, 0, none⟩), (1, .int .i64 keep), (2, .int .i64 torn), (6, .int .i64 i), (29, .ptr ⟨r, 0, none⟩), (33, .int .i64 i)] (AMem.wth m [(r, rObjK kp s)]) := by
    intro _
    subst hA
    refine AAny.step [] [0, 1, 6] (by decide +kernel) (by simp) (by decide) ⟨?_, ?_, ?_, trivial⟩
    ·
     show aopsR _ _ _ [_] _ _ _
     refine ⟨trivial, ?_⟩
     refine AAny.keep [0, 1, 2, 6, 24, 29, 33] (by decide) ?_
     exact s104 trivial
    ·
     show aopsR _ _ _ [_] _ _ _
     refine ⟨trivial, ?_⟩
     refine AAny.keep [0, 1, 2, 6, 25, 29, 33] (by decide) ?_
     exact s109 trivial
    ·
     show aopsR _ _ _ [_] _ _ _
     refine ⟨trivial, ?_⟩
     refine AAny.keep [0, 1, 2, 6, 30, 33] (by decide) ?_
     exact s111 trivial
   clear s104 s109 s111
   have s120 : ∀ (_ : True), A 15 #[true, false, false, false, false, false, false, false, false, false, false, false, false, false, false, false] (fun fr m => K1 (fr.keep [0, 1, 2, 6]) m) [(0, .ptr ⟨r, 0, none⟩), (1, .int .i64 keep), (2, .int .i64 torn), (6, .int .i64 i), (24, .ptr ⟨r, 0, none⟩)] (AMem.wth m [(r, rObjK kp s)]) := by
    intro _
    subst hA
    refine AAny.step [] [1, 5, 9] (by decide +kernel) (by simp) (by decide) ⟨?_, ?_, ?_, trivial⟩
    ·
     show aopsR _ _ _ [_] _ _ _
     refine ⟨trivial, ?_⟩
     refine AAny.keep [0, 1, 2, 6, 24, 25] (by decide) ?_
     exact s112 trivial
    ·
     show aopsR _ _ _ [_] _ _ _
     refine ⟨trivial, ?_⟩
     refine AAny.keep [0, 1, 2, 6, 24, 29] (by decide) ?_
     exact s113 trivial
    ·
     show aopsR _ _ _ [_] _ _ _
     refine ⟨trivial, ?_⟩
     refine AAny.keep [0, 1, 2, 6, 24, 33] (by decide) ?_
     exact s114 trivial
   have s121 : ∀ (_ : True), A 15 #[false, true, false, false, false, false, false, false, false, false, false, false, false, false, false, false] (fun fr m => K1 (fr.keep [0, 1, 2, 6]) m) [(0, .ptr ⟨r, 0, none⟩), (1, .int .i64 keep), (2, .int .i64 torn), (6, .int .i64 i), (25, .ptr ⟨r, 0, none⟩)] (AMem.wth m [(r, rObjK kp s)]) := by
    intro _
    subst hA
    refine AAny.step [] [0, 2, 5, 9] (by decide +kernel) (by simp) (by decide) ⟨?_, ?_, ?_, ?_, trivial⟩
    ·
     show aopsR _ _ _ [_] _ _ _
     refine ⟨trivial, ?_⟩
     refine AAny.keep [0, 1, 2, 6, 24, 25] (by decide) ?_
     exact s112 trivial
    ·
     show aopsR _ _ _ [_] _ _ _
     refine ⟨trivial, ?_⟩
     refine AAny.keep [0, 1, 2, 6, 26] (by decide) ?_
     exact s115 trivial
    ·
     show aopsR _ _ _ [_] _ _ _
     refine ⟨trivial, ?_⟩
     refine AAny.keep [0, 1, 2, 6, 25, 29] (by decide) ?_
     exact s116 trivial
    ·
     show aopsR _ _ _ [_] _ _ _
     refine ⟨trivial, ?_⟩
     refine AAny.keep [0, 1, 2, 6, 25, 33] (by decide) ?_
     exact s117 trivial
   clear s112 s115
   have s122 : ∀ (_ : True), A 15 #[false, false, false, false, false, true, false, false, false, false, false, false, false, false, false, false] (fun fr m => K1 (fr.keep [0, 1, 2, 6]) m) [(0, .ptr ⟨r, 0, none⟩), (1, .int .i64 keep), (2, .int .i64 torn), (6, .int .i64 i), (29, .ptr ⟨r, 0, none⟩)] (AMem.wth m [(r, rObjK kp s)]) := by
    intro _
    subst hA
    refine AAny.step [] [0, 1, 6, 9] (by decide +kernel) (by simp) (by decide) ⟨?_, ?_, ?_, ?_, trivial⟩
    ·
     show aopsR _ _ _ [_] _ _ _
     refine ⟨trivial, ?_⟩
     refine AAny.keep [0, 1, 2, 6, 24, 29] (by decide) ?_
     exact s113 trivial
    ·
     show aopsR _ _ _ [_] _ _ _
     refine ⟨trivial, ?_⟩
     refine AAny.keep [0, 1, 2, 6, 25, 29] (by decide) ?_
     exact s116 trivial
    ·
     show aopsR _ _ _ [_] _ _ _
     refine ⟨trivial, ?_⟩
     refine AAny.keep [0, 1, 2, 6, 30] (by decide) ?_
     exact s118 trivial
    ·
     show aopsR _ _ _ [_] _ _ _
     refine ⟨trivial, ?_⟩
     refine AAny.keep [0, 1, 2, 6, 29, 33] (by decide) ?_
     exact s119 trivial
   clear s113 s116 s118
   have s123 : ∀ (_ : True), A 15 #[false, false, false, false, false, false, false, false, false, true, false, false, false, false, false, false] (fun fr m => K1 (fr.keep [0, 1, 2, 6]) m) [(0, .ptr ⟨r, 0, none⟩), (1, .int .i64 keep), (2, .int .i64 torn), (6, .int .i64 i), (33, .int .i64 i)] (AMem.wth m [(r, rObjK kp s)]) := by
    intro _
    subst hA
    refine AAny.step [] [0, 1, 5] (by decide +kernel) (by simp) (by decide) ⟨?_, ?_, ?_, trivial⟩
    ·
     show aopsR _ _ _ [_] _ _ _
     refine ⟨trivial, ?_⟩
     refine AAny.keep [0, 1, 2, 6, 24, 33] (by decide) ?_
     exact s114 trivial
    ·
     show aopsR _ _ _ [_] _ _ _
     refine ⟨trivial, ?_⟩
     refine AAny.keep [0, 1, 2, 6, 25, 33] (by decide) ?_
     exact s117 trivial
    ·
     show aopsR _ _ _ [_] _ _ _
     refine ⟨trivial, ?_⟩
     refine AAny.keep [0, 1, 2, 6, 29, 33] (by decide) ?_
     exact s119 trivial
   clear s114 s117 s119
   have s124 : ∀ (_ : True), A 16 #[false, false, false, false, false, false, false, false, false, false, false, false, false, false, false, false] (fun fr m => K1 (fr.keep [0, 1, 2, 6]) m) [(0, .ptr ⟨r, 0, none⟩), (1, .int .i64 keep), (2, .int .i64 torn), (6, .int .i64 i), (21, .bool ((decide (i < (s.wait.length : Int))) && (decide (i < keep))))] (AMem.wth m [(r, rObjK kp s)]) := by
    intro _
    subst hA
    refine AAny.step [] [0, 1, 5, 9] (by decide +kernel) (by simp) (by decide) ⟨?_, ?_, ?_, ?_, trivial⟩
    ·
     show aopsR _ _ _ [_] _ _ _
     refine ⟨trivial, ?_⟩
     refine AAny.keep [0, 1, 2, 6, 24] (by decide) ?_
     exact s120 trivial
    ·
     show aopsR _ _ _ [_] _ _ _
     refine ⟨trivial, ?_⟩
     refine AAny.keep [0, 1, 2, 6, 25] (by decide) ?_
     exact s121 trivial
    ·
     show aopsR _ _ _ [_] _ _ _
     refine ⟨trivial, ?_⟩
     refine AAny.keep [0, 1, 2, 6, 29] (by decide) ?_
     exact s122 trivial
    ·
     show aopsR _ _ _ [_] _ _ _
     refine ⟨trivial, ?_⟩
     refine AAny.keep [0, 1, 2, 6, 33] (by decide) ?_
     exact s123 trivial
   clear s120 s121 s122 s123
   exact s124 trivial
  intro _
  refine hK1 _ _ ?_; clear hK1 K1
  refine hK4 _ _ ?_; clear hK4
  refine awp_reg2 [] [0, 1, 2, 6] (by decide) ?_
  intro K1 hK1
  refine ⟨trivial, ?_⟩
  refine ar_add rfl (a := i) (b := 1) rfl rfl (by omega) (by omega) ?_
  refine ⟨trivial, ?_⟩
  show K1 [(0, .ptr ⟨r, 0, none⟩), (1, .int .i64 keep), (2, .int .i64 torn), (6, .int .i64 (i + 1))] (AMem.wth m [(r, rObjK (turnR kp (gI s.wait i)) s)])
  refine hK1 _ _ ?_; clear hK1 K1
  refine ⟨(i + 1, turnR kp (gI s.wait i)), rfl, rfl, ?_, ?_⟩
  ·
   show 0 ≤ ((i + 1 : Int)) ∧ ((i + 1 : Int)) ≤ s.wait.length ∧ ((i + 1 : Int)) ≤ maxI keep ∧ ((turnR kp (gI s.wait i) : (List (Str × Str)))) = turnL s.kept (s.wait.take ((i + 1 : Int)).toNat)
   exact ⟨by omega, by omega, by unfold maxI; split <;> omega, by rw [hI.2.2.2]; exact turnL_step hI.1 h2.1⟩
  ·
   show s.wait.length - ((i + 1 : Int)).toNat < s.wait.length - i.toNat
   omega
 replace h2 : ((s.wait.length : Int) ≤ i) ∨ (keep ≤ i) := ((bandF h2).imp (fun q => (Int.not_lt.1 (of_decide_eq_false q))) (fun q => (Int.not_lt.1 (of_decide_eq_false q))))
 have hkp : kp = turnL s.kept (s.wait.take (maxI keep).toNat) := by
  rw [hI.2.2.2]
  rcases (by omega : i = maxI keep ∨ (s.wait.length : Int) ≤ i) with h | h
  ·
   rw [h]
  ·
   rw [take_full h, take_full (by omega)]
 refine awp_exit ?_
 refine hK2 _ _ ?_; clear hK2
 refine awp_reg2_seq [] [0, 2, 7] (by decide) ?_
 intro K1 hK1
 refine ⟨trivial, trivial, trivial, ?_⟩
 show K1 [(0, .ptr ⟨r, 0, none⟩), (2, .int .i64 torn), (7, .int .i64 (if 0 > keep then 0 else keep))] (AMem.wth m [(r, rObjK kp s)])
 refine hK1 _ _ ?_; clear hK1 K1
 
 show AWP _ _ _ _ [(0, .ptr ⟨r, 0, none⟩), (2, .int .i64 torn), (7, .int .i64 (maxI keep))] (AMem.wth m [(r, rObjK kp s)])
 refine awp_seq_k ?_; intro K5 hK5
 refine awp_reg2_seq [] [0, 2, 7, 58] (by decide) ?_
 intro K1 hK1
 suffices key : K1 [(0, .ptr ⟨r, 0, none⟩), (2, .int .i64 torn), (7, .int .i64 (maxI keep)), (58, .bool ((decide (maxI keep < (s.wait.length : Int))) && (decide ((gI s.wait (maxI keep)).kind < 4))))] (AMem.wth m [(r, rObjK kp s)]) by
  refine ⟨trivial, trivial, trivial, ⟨rfl, by decide⟩, ?_⟩
  refine ar_loadp rfl (v := .slice false (s.wait.map trnAV)) rfl (wth_get 0 (nodup_1 r) rfl) rfl (apartOk_one rfl rfl (Nat.le_of_ble_eq_true rfl)) rfl ?_
  refine ar_len rfl trnAV s.wait rfl rfl rfl ?_
  refine ⟨trivial, trivial, ?_⟩
  show aopsR _ _ _ _ _ [(48, .bool (decide (maxI keep < (s.wait.length : Int)))), (47, .bool (decide (maxI keep < (s.wait.length : Int)))), (46, .int .i64 (s.wait.length : Int)), (45, .slice false (s.wait.map trnAV)), (44, .ptr ⟨r, 2, none⟩), (43, .ptr ⟨r, 0, none⟩), (42, .ptr ⟨r, 0, none⟩), (41, .int .i64 (maxI keep)), (0, .ptr ⟨r, 0, none⟩), (2, .int .i64 torn), (7, .int .i64 (maxI keep))] _
  revert key
  cases h3 : (decide (maxI keep < (s.wait.length : Int)))
  ·
   replace h3 : (s.wait.length : Int) ≤ maxI keep := (Int.not_lt.1 (of_decide_eq_false h3))
   intro key
   refine ar_off rfl (ar_off rfl (ar_off rfl (ar_off rfl (ar_off rfl (ar_off rfl (ar_off rfl (ar_off rfl (ar_off rfl ?_))))))))
   exact key
  ·
   replace h3 : maxI keep < (s.wait.length : Int) := (of_decide_eq_true h3)
   intro key
   refine ⟨trivial, trivial, ⟨rfl, by decide⟩, ?_⟩
   refine ar_loadp rfl (v := .slice false (s.wait.map trnAV)) rfl (wth_get 0 (nodup_1 r) rfl) rfl (apartOk_one rfl rfl (Nat.le_of_ble_eq_true rfl)) rfl ?_
   refine ⟨trivial, ?_⟩
   refine ar_index rfl trnAV s.wait (maxI keep) rfl rfl rfl rfl rfl (by decide) (fun _ => rfl) (by omega) (by omega) ?_
   refine ⟨⟨rfl, by decide, (Nat.le_of_ble_eq_true rfl)⟩, (apartOk_one rfl rfl (Nat.le_of_ble_eq_true rfl)), trivial, ?_⟩
   exact key
 refine hK1 _ _ ?_; clear hK1 K1
 refine awp_cond rfl rfl (fun h4 => ?_) (fun h4 => ?_)
 ·
  replace h4 : (maxI keep < (s.wait.length : Int)) ∧ ((gI s.wait (maxI keep)).kind < 4) := ⟨(of_decide_eq_true (bandL h4)), (of_decide_eq_true (bandR h4))⟩
  have hwd := hR.wb _ (gI_mem (l := s.wait) hml.1 h4.1)
  have hsl : (sub (gI s.wait (maxI keep)).data 0 (clampI torn (gI s.wait (maxI keep)).data.length)).length ≤ 4000 := by rw [sub0_take]; simp; omega
  refine awp_reg2_seq [] [0, 2, 8] (by decide) ?_
  intro K1 hK1
  refine ⟨trivial, trivial, ⟨rfl, by decide⟩, ?_⟩
  refine ar_loadp rfl (v := .slice false (s.wait.map trnAV)) rfl (wth_get 0 (nodup_1 r) rfl) rfl (apartOk_one rfl rfl (Nat.le_of_ble_eq_true rfl)) rfl ?_
  refine ⟨trivial, ?_⟩
  refine ar_index rfl trnAV s.wait (maxI keep) rfl rfl rfl rfl rfl (by decide) (fun _ => rfl) (by omega) (by omega) ?_
  refine ⟨(apartOk_agg rfl rfl (Nat.le_of_ble_eq_true rfl)), ?_⟩
  refine ar_alloc rfl (z := .agg [.int .i64 0, .str ([]), .str ([]), .str ([])]) rfl rfl ?_
  intro b1 hb1
  have hFb1 : m b1 = none := wth_none hb1
  have hNb1 : ([b1, r] : List Nat).Nodup := wth_nodup hb1 (nodup_1 r)
  refine ar_storep rfl 0 (v := trnAV (gI s.wait (maxI keep))) (l' := [.int .i64 ((gI s.wait (maxI keep)).kind), .str ((gI s.wait (maxI keep)).name), .str ((gI s.wait (maxI keep)).data), .str ((gI s.wait (maxI keep)).to)]) rfl (by rfl) hNb1 rfl rfl rfl rfl rfl (Nat.le_of_ble_eq_true rfl) rfl ?_
  show K1 [(0, .ptr ⟨r, 0, none⟩), (2, .int .i64 torn), (8, .ptr ⟨b1, 0, none⟩)] (AMem.wth m [(b1, trnObj (gI s.wait (maxI keep))), (r, rObjK kp s)])
  refine hK1 _ _ ?_; clear hK1 K1
  refine awp_reg2_seq [] [0, 8, 9] (by decide) ?_
  intro K1 hK1
  refine ⟨trivial, trivial, ⟨rfl, by decide⟩, ?_⟩
  refine ar_loadp rfl (v := .str ((gI s.wait (maxI keep)).data)) rfl (wth_get 0 hNb1 rfl) rfl (apartOk_one rfl rfl (Nat.le_of_ble_eq_true rfl)) rfl ?_
  refine ⟨trivial, trivial, trivial, ?_⟩
  show K1 [(0, .ptr ⟨r, 0, none⟩), (8, .ptr ⟨b1, 0, none⟩), (9, .int .i64 (if (((gI s.wait (maxI keep)).data).length : Int) < if 0 > torn then 0 else torn then (((gI s.wait (maxI keep)).data).length : Int) else if 0 > torn then 0 else torn))] (AMem.wth m [(b1, trnObj (gI s.wait (maxI keep))), (r, rObjK kp s)])
  refine hK1 _ _ ?_; clear hK1 K1
  
  show AWP _ _ _ _ [(0, .ptr ⟨r, 0, none⟩), (8, .ptr ⟨b1, 0, none⟩), (9, .int .i64 (clampI torn (gI s.wait (maxI keep)).data.length))] (AMem.wth m [(b1, trnObj (gI s.wait (maxI keep))), (r, rObjK kp s)])
  refine awp_reg2_seq [] [0, 8, 9] (by decide) ?_
  intro K1 hK1
  refine ⟨⟨rfl, by decide⟩, ?_⟩
  refine ar_loadp rfl (v := .str ((gI s.wait (maxI keep)).data)) rfl (wth_get 0 hNb1 rfl) rfl (apartOk_one rfl rfl (Nat.le_of_ble_eq_true rfl)) rfl ?_
  refine ⟨trivial, ⟨(by omega), (by omega), (by omega)⟩, ⟨rfl, by decide⟩, ?_⟩
  refine ar_storep rfl 0 (v := .str (sub ((gI s.wait (maxI keep)).data) 0 (clampI torn (gI s.wait (maxI keep)).data.length))) (l' := [.int .i64 ((gI s.wait (maxI keep)).kind), .str ((gI s.wait (maxI keep)).name), .str (sub ((gI s.wait (maxI keep)).data) 0 (clampI torn (gI s.wait (maxI keep)).data.length)), .str ((gI s.wait (maxI keep)).to)]) rfl rfl hNb1 rfl rfl rfl rfl rfl (Nat.le_of_ble_eq_true rfl) rfl ?_
  show K1 [(0, .ptr ⟨r, 0, none⟩), (8, .ptr ⟨b1, 0, none⟩), (9, .int .i64 (clampI torn (gI s.wait (maxI keep)).data.length))] (AMem.wth m [(b1, .cells [.int .i64 ((gI s.wait (maxI keep)).kind), .str ((gI s.wait (maxI keep)).name), .str (sub ((gI s.wait (maxI keep)).data) 0 (clampI torn (gI s.wait (maxI keep)).data.length)), .str ((gI s.wait (maxI keep)).to)]), (r, rObjK kp s)])
  refine hK1 _ _ ?_; clear hK1 K1
  show AWP _ _ _ _ [(0, .ptr ⟨r, 0, none⟩), (8, .ptr ⟨b1, 0, none⟩), (9, .int .i64 (clampI torn (gI s.wait (maxI keep)).data.length))] (AMem.wth m [(b1, .cells [.int .i64 ((gI s.wait (maxI keep)).kind), .str ((gI s.wait (maxI keep)).name), .str (sub (gI s.wait (maxI keep)).data 0 (clampI torn (gI s.wait (maxI keep)).data.length)), .str ((gI s.wait (maxI keep)).to)]), (r, rObjK kp s)])
  refine awp_reg2_seq [] [0, 8, 78] (by decide) ?_
  intro K1 hK1
  refine ⟨trivial, trivial, ?_⟩
  show K1 [(0, .ptr ⟨r, 0, none⟩), (8, .ptr ⟨b1, 0, none⟩), (78, .bool (decide (0 < clampI torn (gI s.wait (maxI keep)).data.length)))] (AMem.wth m [(b1, .cells [.int .i64 ((gI s.wait (maxI keep)).kind), .str ((gI s.wait (maxI keep)).name), .str (sub (gI s.wait (maxI keep)).data 0 (clampI torn (gI s.wait (maxI keep)).data.length)), .str ((gI s.wait (maxI keep)).to)]), (r, rObjK kp s)])
  refine hK1 _ _ ?_; clear hK1 K1
  refine awp_cond rfl rfl (fun h5 => ?_) (fun h5 => ?_)
  ·
   replace h5 : 0 < clampI torn (gI s.wait (maxI keep)).data.length := (of_decide_eq_true h5)
   refine awp_anyA Try.mixed [0] (by decide) ?_
   intro K1 hK1
   intro A hA
   suffices key : ∀ (_ : True), K1 [(0, .ptr ⟨r, 0, none⟩)] (AMem.wth m [(b1, .cells [.int .i64 ((gI s.wait (maxI keep)).kind), .str ((gI s.wait (maxI keep)).name), .str (sub (gI s.wait (maxI keep)).data 0 (clampI torn (gI s.wait (maxI keep)).data.length)), .str ((gI s.wait (maxI keep)).to)]), (r, rObjK (turnR kp (⟨(gI s.wait (maxI keep)).kind, (gI s.wait (maxI keep)).name, sub (gI s.wait (maxI keep)).data 0 (clampI torn (gI s.wait (maxI keep)).data.length), (gI s.wait (maxI keep)).to⟩ : Trn)) s)]) by
    have s0 : ∀ (_ : True), A 0 #[true, true, true, true, true, true, true, true, true, true] (fun fr m => K1 (fr.keep [0]) m) [(0, .ptr ⟨r, 0, none⟩)] (AMem.wth m [(b1, .cells [.int .i64 ((gI s.wait (maxI keep)).kind), .str ((gI s.wait (maxI keep)).name), .str (sub (gI s.wait (maxI keep)).data 0 (clampI torn (gI s.wait (maxI keep)).data.length)), .str ((gI s.wait (maxI keep)).to)]), (r, rObjK (turnR kp (⟨(gI s.wait (maxI keep)).kind, (gI s.wait (maxI keep)).name, sub (gI s.wait (maxI keep)).data 0 (clampI torn (gI s.wait (maxI keep)).data.length), (gI s.wait (maxI keep)).to⟩ : Trn)) s)]) := by
     intro _
     subst hA
     exact AAny.done (by decide +kernel) (key trivial)
    have s1 : ∀ (_ : True), A 1 #[true, true, true, true, true, true, true, true, true, false] (fun fr m => K1 (fr.keep [0]) m) [(0, .ptr ⟨r, 0, none⟩), (85, .slice true ((turnR kp (⟨(gI s.wait (maxI keep)).kind, (gI s.wait (maxI keep)).name, sub (gI s.wait (maxI keep)).data 0 (clampI torn (gI s.wait (maxI keep)).data.length), (gI s.wait (maxI keep)).to⟩ : Trn)).map fileAV)), (87, .ptr ⟨r, 0, none⟩)] (AMem.wth m [(b1, .cells [.int .i64 ((gI s.wait (maxI keep)).kind), .str ((gI s.wait (maxI keep)).name), .str (sub (gI s.wait (maxI keep)).data 0 (clampI torn (gI s.wait (maxI keep)).data.length)), .str ((gI s.wait (maxI keep)).to)]), (r, rObjK kp s)]) := by
     intro _
     subst hA
     refine AAny.step [] [9] (by decide +kernel) (by simp) (by decide) ⟨?_, trivial⟩
     ·
      show aopsR _ _ _ [_] _ _ _
      refine ar_storep rfl 1 (v := .slice true ((turnR kp (⟨(gI s.wait (maxI keep)).kind, (gI s.wait (maxI keep)).name, sub (gI s.wait (maxI keep)).data 0 (clampI torn (gI s.wait (maxI keep)).data.length), (gI s.wait (maxI keep)).to⟩ : Trn)).map fileAV)) (l' := [.slice true ((turnR kp (⟨(gI s.wait (maxI keep)).kind, (gI s.wait (maxI keep)).name, sub (gI s.wait (maxI keep)).data 0 (clampI torn (gI s.wait (maxI keep)).data.length), (gI s.wait (maxI keep)).to⟩ : Trn)).map fileAV), .slice true (s.now.map fileAV), .slice true (s.wait.map trnAV), .int .i64 s.fuse, .bool s.down, .int .i64 s.steps]) rfl rfl hNb1 rfl rfl rfl rfl rfl (Nat.le_of_ble_eq_true rfl) rfl ?_
      refine AAny.keep [0] (by decide) ?_
      exact s0 trivial
    clear s0
    have s2 : ∀ (_ : True), A 2 #[true, true, true, true, true, true, true, true, false, false] (fun fr m => K1 (fr.keep [0]) m) [(0, .ptr ⟨r, 0, none⟩), (85, .slice true ((turnR kp (⟨(gI s.wait (maxI keep)).kind, (gI s.wait (maxI keep)).name, sub (gI s.wait (maxI keep)).data 0 (clampI torn (gI s.wait (maxI keep)).data.length), (gI s.wait (maxI keep)).to⟩ : Trn)).map fileAV)), (86, .ptr ⟨r, 0, none⟩)] (AMem.wth m [(b1, .cells [.int .i64 ((gI s.wait (maxI keep)).kind), .str ((gI s.wait (maxI keep)).name), .str (sub (gI s.wait (maxI keep)).data 0 (clampI torn (gI s.wait (maxI keep)).data.length)), .str ((gI s.wait (maxI keep)).to)]), (r, rObjK kp s)]) := by
     intro _
     subst hA
     refine AAny.step [] [8] (by decide +kernel) (by simp) (by decide) ⟨?_, trivial⟩
     ·
      show aopsR _ _ _ [_] _ _ _
      refine ⟨⟨rfl, by decide⟩, ?_⟩
      refine AAny.keep [0, 85, 87] (by decide) ?_
      exact s1 trivial
    clear s1
    have s3 : ∀ (_ : True), A 3 #[true, true, true, true, true, true, true, false, false, false] (fun fr m => K1 (fr.keep [0]) m) [(0, .ptr ⟨r, 0, none⟩), (79, .ptr ⟨r, 0, none⟩), (85, .slice true ((turnR kp (⟨(gI s.wait (maxI keep)).kind, (gI s.wait (maxI keep)).name, sub (gI s.wait (maxI keep)).data 0 (clampI torn (gI s.wait (maxI keep)).data.length), (gI s.wait (maxI keep)).to⟩ : Trn)).map fileAV))] (AMem.wth m [(b1, .cells [.int .i64 ((gI s.wait (maxI keep)).kind), .str ((gI s.wait (maxI keep)).name), .str (sub (gI s.wait (maxI keep)).data 0 (clampI torn (gI s.wait (maxI keep)).data.length)), .str ((gI s.wait (maxI keep)).to)]), (r, rObjK kp s)]) := by
     intro _
     subst hA
     refine AAny.step [] [7] (by decide +kernel) (by simp) (by decide) ⟨?_, trivial⟩
     ·
      show aopsR _ _ _ [_] _ _ _
      refine ⟨trivial, ?_⟩
      refine AAny.keep [0, 85, 86] (by decide) ?_
      exact s2 trivial
    clear s2
    have s4 : ∀ (_ : True), A 4 #[true, true, true, true, true, true, false, false, false, false] (fun fr m => K1 (fr.keep [0]) m) [(0, .ptr ⟨r, 0, none⟩), (79, .ptr ⟨r, 0, none⟩), (83, .slice false (kp.map fileAV)), (84, .agg [.int .i64 ((gI s.wait (maxI keep)).kind), .str ((gI s.wait (maxI keep)).name), .str (sub (gI s.wait (maxI keep)).data 0 (clampI torn (gI s.wait (maxI keep)).data.length)), .str ((gI s.wait (maxI keep)).to)])] (AMem.wth m [(b1, .cells [.int .i64 ((gI s.wait (maxI keep)).kind), .str ((gI s.wait (maxI keep)).name), .str (sub (gI s.wait (maxI keep)).data 0 (clampI torn (gI s.wait (maxI keep)).data.length)), .str ((gI s.wait (maxI keep)).to)]), (r, rObjK kp s)]) := by
     intro _
     subst hA
     refine AAny.step [] [6] (by decide +kernel) (by simp) (by decide) ⟨?_, trivial⟩
     ·
      show aopsR _ _ _ [_] _ _ _
      refine u_turned kp (⟨(gI s.wait (maxI keep)).kind, (gI s.wait (maxI keep)).name, sub (gI s.wait (maxI keep)).data 0 (clampI torn (gI s.wait (maxI keep)).data.length), (gI s.wait (maxI keep)).to⟩ : Trn) (by have := hap.1; omega) (fun p hp => by have := hap.2 p hp; omega) (by first | omega | (dsimp only; omega)) _ _ ?_
      refine AAny.keep [0, 79, 85] (by decide) ?_
      exact s3 trivial
    have s5 : ∀ (_ : True), A 4 #[false, true, true, true, true, true, true, false, false, false] (fun fr m => K1 (fr.keep [0]) m) [(0, .ptr ⟨r, 0, none⟩), (85, .slice true ((turnR kp (⟨(gI s.wait (maxI keep)).kind, (gI s.wait (maxI keep)).name, sub (gI s.wait (maxI keep)).data 0 (clampI torn (gI s.wait (maxI keep)).data.length), (gI s.wait (maxI keep)).to⟩ : Trn)).map fileAV))] (AMem.wth m [(b1, .cells [.int .i64 ((gI s.wait (maxI keep)).kind), .str ((gI s.wait (maxI keep)).name), .str (sub (gI s.wait (maxI keep)).data 0 (clampI torn (gI s.wait (maxI keep)).data.length)), .str ((gI s.wait (maxI keep)).to)]), (r, rObjK kp s)]) := by
     intro _
     subst hA
     refine AAny.step [] [0] (by decide +kernel) (by simp) (by decide) ⟨?_, trivial⟩
     ·
      show aopsR _ _ _ [_] _ _ _
      refine ⟨trivial, ?_⟩
      refine AAny.keep [0, 79, 85] (by decide) ?_
      exact s3 trivial
    clear s3
    have s6 : ∀ (_ : True), A 5 #[true, true, true, true, true, false, false, false, false, false] (fun fr m => K1 (fr.keep [0]) m) [(0, .ptr ⟨r, 0, none⟩), (8, .ptr ⟨b1, 0, none⟩), (79, .ptr ⟨r, 0, none⟩), (83, .slice false (kp.map fileAV))] (AMem.wth m [(b1, .cells [.int .i64 ((gI s.wait (maxI keep)).kind), .str ((gI s.wait (maxI keep)).name), .str (sub (gI s.wait (maxI keep)).data 0 (clampI torn (gI s.wait (maxI keep)).data.length)), .str ((gI s.wait (maxI keep)).to)]), (r, rObjK kp s)]) := by
     intro _
     subst hA
     refine AAny.step [] [5] (by decide +kernel) (by simp) (by decide) ⟨?_, trivial⟩
     ·
      show aopsR _ _ _ [_] _ _ _
      refine ar_loadp rfl (v := .agg [.int .i64 ((gI s.wait (maxI keep)).kind), .str ((gI s.wait (maxI keep)).name), .str (sub (gI s.wait (maxI keep)).data 0 (clampI torn (gI s.wait (maxI keep)).data.length)), .str ((gI s.wait (maxI keep)).to)]) rfl (wth_get 0 hNb1 rfl) rfl (apartOk_agg rfl rfl (Nat.le_of_ble_eq_true rfl)) rfl ?_
      refine AAny.keep [0, 79, 83, 84] (by decide) ?_
      exact s4 trivial
    have s7 : ∀ (_ : True), A 5 #[true, true, true, true, false, true, false, false, false, false] (fun fr m => K1 (fr.keep [0]) m) [(0, .ptr ⟨r, 0, none⟩), (79, .ptr ⟨r, 0, none⟩), (82, .ptr ⟨r, 0, none⟩), (84, .agg [.int .i64 ((gI s.wait (maxI keep)).kind), .str ((gI s.wait (maxI keep)).name), .str (sub (gI s.wait (maxI keep)).data 0 (clampI torn (gI s.wait (maxI keep)).data.length)), .str ((gI s.wait (maxI keep)).to)])] (AMem.wth m [(b1, .cells [.int .i64 ((gI s.wait (maxI keep)).kind), .str ((gI s.wait (maxI keep)).name), .str (sub (gI s.wait (maxI keep)).data 0 (clampI torn (gI s.wait (maxI keep)).data.length)), .str ((gI s.wait (maxI keep)).to)]), (r, rObjK kp s)]) := by
     intro _
     subst hA
     refine AAny.step [] [4] (by decide +kernel) (by simp) (by decide) ⟨?_, trivial⟩
     ·
      show aopsR _ _ _ [_] _ _ _
      refine ar_loadp rfl (v := .slice false (kp.map fileAV)) rfl (wth_get 1 hNb1 rfl) rfl (apartOk_one rfl rfl (Nat.le_of_ble_eq_true rfl)) rfl ?_
      refine AAny.keep [0, 79, 83, 84] (by decide) ?_
      exact s4 trivial
    have s8 : ∀ (_ : True), A 5 #[false, true, true, true, true, true, false, false, false, false] (fun fr m => K1 (fr.keep [0]) m) [(0, .ptr ⟨r, 0, none⟩), (83, .slice false (kp.map fileAV)), (84, .agg [.int .i64 ((gI s.wait (maxI keep)).kind), .str ((gI s.wait (maxI keep)).name), .str (sub (gI s.wait (maxI keep)).data 0 (clampI torn (gI s.wait (maxI keep)).data.length)), .str ((gI s.wait (maxI keep)).to)])] (AMem.wth m [(b1, .cells [.int .i64 ((gI s.wait (maxI keep)).kind), .str ((gI s.wait (maxI keep)).name), .str (sub (gI s.wait (maxI keep)).data 0 (clampI torn (gI s.wait (maxI keep)).data.length)), .str ((gI s.wait (maxI keep)).to)]), (r, rObjK kp s)]) := by
     intro _
     subst hA
     refine AAny.step [] [0, 6] (by decide +kernel) (by simp) (by decide) ⟨?_, ?_, trivial⟩
     ·
      show aopsR _ _ _ [_] _ _ _
      refine ⟨trivial, ?_⟩
      refine AAny.keep [0, 79, 83, 84] (by decide) ?_
      exact s4 trivial
     ·
      show aopsR _ _ _ [_] _ _ _
      refine u_turned kp (⟨(gI s.wait (maxI keep)).kind, (gI s.wait (maxI keep)).name, sub (gI s.wait (maxI keep)).data 0 (clampI torn (gI s.wait (maxI keep)).data.length), (gI s.wait (maxI keep)).to⟩ : Trn) (by have := hap.1; omega) (fun p hp => by have := hap.2 p hp; omega) (by first | omega | (dsimp only; omega)) _ _ ?_
      refine AAny.keep [0, 85] (by decide) ?_
      exact s5 trivial
    clear s4 s5
    have s9 : ∀ (_ : True), A 6 #[true, true, true, true, false, false, false, false, false, false] (fun fr m => K1 (fr.keep [0]) m) [(0, .ptr ⟨r, 0, none⟩), (8, .ptr ⟨b1, 0, none⟩), (79, .ptr ⟨r, 0, none⟩), (82, .ptr ⟨r, 0, none⟩)] (AMem.wth m [(b1, .cells [.int .i64 ((gI s.wait (maxI keep)).kind), .str ((gI s.wait (maxI keep)).name), .str (sub (gI s.wait (maxI keep)).data 0 (clampI torn (gI s.wait (maxI keep)).data.length)), .str ((gI s.wait (maxI keep)).to)]), (r, rObjK kp s)]) := by
     intro _
     subst hA
     refine AAny.step [] [4, 5] (by decide +kernel) (by simp) (by decide) ⟨?_, ?_, trivial⟩
     ·
      show aopsR _ _ _ [_] _ _ _
      refine ar_loadp rfl (v := .slice false (kp.map fileAV)) rfl (wth_get 1 hNb1 rfl) rfl (apartOk_one rfl rfl (Nat.le_of_ble_eq_true rfl)) rfl ?_
      refine AAny.keep [0, 8, 79, 83] (by decide) ?_
      exact s6 trivial
     ·
      show aopsR _ _ _ [_] _ _ _
      refine ar_loadp rfl (v := .agg [.int .i64 ((gI s.wait (maxI keep)).kind), .str ((gI s.wait (maxI keep)).name), .str (sub (gI s.wait (maxI keep)).data 0 (clampI torn (gI s.wait (maxI keep)).data.length)), .str ((gI s.wait (maxI keep)).to)]) rfl (wth_get 0 hNb1 rfl) rfl (apartOk_agg rfl rfl (Nat.le_of_ble_eq_true rfl)) rfl ?_
      refine AAny.keep [0, 79, 82, 84] (by decide) ?_
      exact s7 trivial
    have s10 : ∀ (_ : True), A 6 #[true, true, true, false, false, true, false, false, false, false] (fun fr m => K1 (fr.keep [0]) m) [(0, .ptr ⟨r, 0, none⟩), (79, .ptr ⟨r, 0, none⟩), (81, .ptr ⟨r, 0, none⟩), (84, .agg [.int .i64 ((gI s.wait (maxI keep)).kind), .str ((gI s.wait (maxI keep)).name), .str (sub (gI s.wait (maxI keep)).data 0 (clampI torn (gI s.wait (maxI keep)).data.length)), .str ((gI s.wait (maxI keep)).to)])] (AMem.wth m [(b1, .cells [.int .i64 ((gI s.wait (maxI keep)).kind), .str ((gI s.wait (maxI keep)).name), .str (sub (gI s.wait (maxI keep)).data 0 (clampI torn (gI s.wait (maxI keep)).data.length)), .str ((gI s.wait (maxI keep)).to)]), (r, rObjK kp s)]) := by
     intro _
     subst hA
     refine AAny.step [] [3] (by decide +kernel) (by simp) (by decide) ⟨?_, trivial⟩
     ·
      show aopsR _ _ _ [_] _ _ _
      refine ⟨⟨rfl, by decide⟩, ?_⟩
      refine AAny.keep [0, 79, 82, 84] (by decide) ?_
      exact s7 trivial
    have s11 : ∀ (_ : True), A 6 #[false, true, true, true, true, false, false, false, false, false] (fun fr m => K1 (fr.keep [0]) m) [(0, .ptr ⟨r, 0, none⟩), (8, .ptr ⟨b1, 0, none⟩), (83, .slice false (kp.map fileAV))] (AMem.wth m [(b1, .cells [.int .i64 ((gI s.wait (maxI keep)).kind), .str ((gI s.wait (maxI keep)).name), .str (sub (gI s.wait (maxI keep)).data 0 (clampI torn (gI s.wait (maxI keep)).data.length)), .str ((gI s.wait (maxI keep)).to)]), (r, rObjK kp s)]) := by
     intro _
     subst hA
     refine AAny.step [] [0, 5] (by decide +kernel) (by simp) (by decide) ⟨?_, ?_, trivial⟩
     ·
      show aopsR _ _ _ [_] _ _ _
      refine ⟨trivial, ?_⟩
      refine AAny.keep [0, 8, 79, 83] (by decide) ?_
      exact s6 trivial
     ·
      show aopsR _ _ _ [_] _ _ _
      refine ar_loadp rfl (v := .agg [.int .i64 ((gI s.wait (maxI keep)).kind), .str ((gI s.wait (maxI keep)).name), .str (sub (gI s.wait (maxI keep)).data 0 (clampI torn (gI s.wait (maxI keep)).data.length)), .str ((gI s.wait (maxI keep)).to)]) rfl (wth_get 0 hNb1 rfl) rfl (apartOk_agg rfl rfl (Nat.le_of_ble_eq_true rfl)) rfl ?_
      refine AAny.keep [0, 83, 84] (by decide) ?_
      exact s8 trivial
    clear s6
    have s12 : ∀ (_ : True), A 6 #[false, true, true, true, false, true, false, false, false, false] (fun fr m => K1 (fr.keep [0]) m) [(0, .ptr ⟨r, 0, none⟩), (82, .ptr ⟨r, 0, none⟩), (84, .agg [.int .i64 ((gI s.wait (maxI keep)).kind), .str ((gI s.wait (maxI keep)).name), .str (sub (gI s.wait (maxI keep)).data 0 (clampI torn (gI s.wait (maxI keep)).data.length)), .str ((gI s.wait (maxI keep)).to)])] (AMem.wth m [(b1, .cells [.int .i64 ((gI s.wait (maxI keep)).kind), .str ((gI s.wait (maxI keep)).name), .str (sub (gI s.wait (maxI keep)).data 0 (clampI torn (gI s.wait (maxI keep)).data.length)), .str ((gI s.wait (maxI keep)).to)]), (r, rObjK kp s)]) := by
     intro _
     subst hA
     refine AAny.step [] [0, 4] (by decide +kernel) (by simp) (by decide) ⟨?_, ?_, trivial⟩
     ·
      show aopsR _ _ _ [_] _ _ _
      refine ⟨trivial, ?_⟩
      refine AAny.keep [0, 79, 82, 84] (by decide) ?_
      exact s7 trivial
     ·
      show aopsR _ _ _ [_] _ _ _
      refine ar_loadp rfl (v := .slice false (kp.map fileAV)) rfl (wth_get 1 hNb1 rfl) rfl (apartOk_one rfl rfl (Nat.le_of_ble_eq_true rfl)) rfl ?_
      refine AAny.keep [0, 83, 84] (by decide) ?_
      exact s8 trivial
    clear s7 s8
    have s13 : ∀ (_ : True), A 7 #[true, true, true, false, false, false, false, false, false, false] (fun fr m => K1 (fr.keep [0]) m) [(0, .ptr ⟨r, 0, none⟩), (8, .ptr ⟨b1, 0, none⟩), (79, .ptr ⟨r, 0, none⟩), (81, .ptr ⟨r, 0, none⟩)] (AMem.wth m [(b1, .cells [.int .i64 ((gI s.wait (maxI keep)).kind), .str ((gI s.wait (maxI keep)).name), .str (sub (gI s.wait (maxI keep)).data 0 (clampI torn (gI s.wait (maxI keep)).data.length)), .str ((gI s.wait (maxI keep)).to)]), (r, rObjK kp s)]) := by
     intro _
     subst hA
     refine AAny.step [] [3, 5] (by decide +kernel) (by simp) (by decide) ⟨?_, ?_, trivial⟩
     ·
      show aopsR _ _ _ [_] _ _ _
      refine ⟨⟨rfl, by decide⟩, ?_⟩
      refine AAny.keep [0, 8, 79, 82] (by decide) ?_
      exact s9 trivial
     ·
      show aopsR _ _ _ [_] _ _ _
      refine ar_loadp rfl (v := .agg [.int .i64 ((gI s.wait (maxI keep)).kind), .str ((gI s.wait (maxI keep)).name), .str (sub (gI s.wait (maxI keep)).data 0 (clampI torn (gI s.wait (maxI keep)).data.length)), .str ((gI s.wait (maxI keep)).to)]) rfl (wth_get 0 hNb1 rfl) rfl (apartOk_agg rfl rfl (Nat.le_of_ble_eq_true rfl)) rfl ?_
      refine AAny.keep [0, 79, 81, 84] (by decide) ?_
      exact s10 trivial
    have s14 : ∀ (_ : True), A 7 #[true, true, false, false, false, true, false, false, false, false] (fun fr m => K1 (fr.keep [0]) m) [(0, .ptr ⟨r, 0, none⟩), (79, .ptr ⟨r, 0, none⟩), (80, .ptr ⟨r, 0, none⟩), (84, .agg [.int .i64 ((gI s.wait (maxI keep)).kind), .str ((gI s.wait (maxI keep)).name), .str (sub (gI s.wait (maxI keep)).data 0 (clampI torn (gI s.wait (maxI keep)).data.length)), .str ((gI s.wait (maxI keep)).to)])] (AMem.wth m [(b1, .cells [.int .i64 ((gI s.wait (maxI keep)).kind), .str ((gI s.wait (maxI keep)).name), .str (sub (gI s.wait (maxI keep)).data 0 (clampI torn (gI s.wait (maxI keep)).data.length)), .str ((gI s.wait (maxI keep)).to)]), (r, rObjK kp s)]) := by
     intro _
     subst hA
     refine AAny.step [] [2] (by decide +kernel) (by simp) (by decide) ⟨?_, trivial⟩
     ·
      show aopsR _ _ _ [_] _ _ _
      refine ⟨trivial, ?_⟩
      refine AAny.keep [0, 79, 81, 84] (by decide) ?_
      exact s10 trivial
    have s15 : ∀ (_ : True), A 7 #[false, true, true, true, false, false, false, false, false, false] (fun fr m => K1 (fr.keep [0]) m) [(0, .ptr ⟨r, 0, none⟩), (8, .ptr ⟨b1, 0, none⟩), (82, .ptr ⟨r, 0, none⟩)] (AMem.wth m [(b1, .cells [.int .i64 ((gI s.wait (maxI keep)).kind), .str ((gI s.wait (maxI keep)).name), .str (sub (gI s.wait (maxI keep)).data 0 (clampI torn (gI s.wait (maxI keep)).data.length)), .str ((gI s.wait (maxI keep)).to)]), (r, rObjK kp s)]) := by
     intro _
     subst hA
     refine AAny.step [] [0, 4, 5] (by decide +kernel) (by simp) (by decide) ⟨?_, ?_, ?_, trivial⟩
     ·
      show aopsR _ _ _ [_] _ _ _
      refine ⟨trivial, ?_⟩
      refine AAny.keep [0, 8, 79, 82] (by decide) ?_
      exact s9 trivial
     ·
      show aopsR _ _ _ [_] _ _ _
      refine ar_loadp rfl (v := .slice false (kp.map fileAV)) rfl (wth_get 1 hNb1 rfl) rfl (apartOk_one rfl rfl (Nat.le_of_ble_eq_true rfl)) rfl ?_
      refine AAny.keep [0, 8, 83] (by decide) ?_
      exact s11 trivial
     ·
      show aopsR _ _ _ [_] _ _ _
      refine ar_loadp rfl (v := .agg [.int .i64 ((gI s.wait (maxI keep)).kind), .str ((gI s.wait (maxI keep)).name), .str (sub (gI s.wait (maxI keep)).data 0 (clampI torn (gI s.wait (maxI keep)).data.length)), .str ((gI s.wait (maxI keep)).to)]) rfl (wth_get 0 hNb1 rfl) rfl (apartOk_agg rfl rfl (Nat.le_of_ble_eq_true rfl)) rfl ?_
      refine AAny.keep [0, 82, 84] (by decide) ?_
      exact s12 trivial
    clear s9 s11
    have s16 : ∀ (_ : True), A 7 #[false, true, true, false, false, true, false, false, false, false] (fun fr m => K1 (fr.keep [0]) m) [(0, .ptr ⟨r, 0, none⟩), (81, .ptr ⟨r, 0, none⟩), (84, .agg [.int .i64 ((gI s.wait (maxI keep)).kind), .str ((gI s.wait (maxI keep)).name), .str (sub (gI s.wait (maxI keep)).data 0 (clampI torn (gI s.wait (maxI keep)).data.length)), .str ((gI s.wait (maxI keep)).to)])] (AMem.wth m [(b1, .cells [.int .i64 ((gI s.wait (maxI keep)).kind), .str ((gI s.wait (maxI keep)).name), .str (sub (gI s.wait (maxI keep)).data 0 (clampI torn (gI s.wait (maxI keep)).data.length)), .str ((gI s.wait (maxI keep)).to)]), (r, rObjK kp s)]) := by
     intro _
     subst hA
     refine AAny.step [] [0, 3] (by decide +kernel) (by simp) (by decide) ⟨?_, ?_, trivial⟩
     ·
      show aopsR _ _ _ [_] _ _ _
      refine ⟨trivial, ?_⟩
      refine AAny.keep [0, 79, 81, 84] (by decide) ?_
      exact s10 trivial
     ·
      show aopsR _ _ _ [_] _ _ _
      refine ⟨⟨rfl, by decide⟩, ?_⟩
      refine AAny.keep [0, 82, 84] (by decide) ?_
      exact s12 trivial
    clear s10 s12
    have s17 : ∀ (_ : True), A 8 #[true, true, false, false, false, false, false, false, false, false] (fun fr m => K1 (fr.keep [0]) m) [(0, .ptr ⟨r, 0, none⟩), (8, .ptr ⟨b1, 0, none⟩), (79, .ptr ⟨r, 0, none⟩), (80, .ptr ⟨r, 0, none⟩)] (AMem.wth m [(b1, .cells [.int .i64 ((gI s.wait (maxI keep)).kind), .str ((gI s.wait (maxI keep)).name), .str (sub (gI s.wait (maxI keep)).data 0 (clampI torn (gI s.wait (maxI keep)).data.length)), .str ((gI s.wait (maxI keep)).to)]), (r, rObjK kp s)]) := by
     intro _
     subst hA
     refine AAny.step [] [2, 5] (by decide +kernel) (by simp) (by decide) ⟨?_, ?_, trivial⟩
     ·
      show aopsR _ _ _ [_] _ _ _
      refine ⟨trivial, ?_⟩
      refine AAny.keep [0, 8, 79, 81] (by decide) ?_
      exact s13 trivial
     ·
      show aopsR _ _ _ [_] _ _ _
      refine ar_loadp rfl (v := .agg [.int .i64 ((gI s.wait (maxI keep)).kind), .str ((gI s.wait (maxI keep)).name), .str (sub (gI s.wait (maxI keep)).data 0 (clampI torn (gI s.wait (maxI keep)).data.length)), .str ((gI s.wait (maxI keep)).to)]) rfl (wth_get 0 hNb1 rfl) rfl (apartOk_agg rfl rfl (Nat.le_of_ble_eq_true rfl)) rfl ?_
      refine AAny.keep [0, 79, 80, 84] (by decide) ?_
      exact s14 trivial
    have s18 : ∀ (_ : True), A 8 #[true, false, false, false, false, true, false, false, false, false] (fun fr m => K1 (fr.keep [0]) m) [(0, .ptr ⟨r, 0, none⟩), (79, .ptr ⟨r, 0, none⟩), (84, .agg [.int .i64 ((gI s.wait (maxI keep)).kind), .str ((gI s.wait (maxI keep)).name), .str (sub (gI s.wait (maxI keep)).data 0 (clampI torn (gI s.wait (maxI keep)).data.length)), .str ((gI s.wait (maxI keep)).to)])] (AMem.wth m [(b1, .cells [.int .i64 ((gI s.wait (maxI keep)).kind), .str ((gI s.wait (maxI keep)).name), .str (sub (gI s.wait (maxI keep)).data 0 (clampI torn (gI s.wait (maxI keep)).data.length)), .str ((gI s.wait (maxI keep)).to)]), (r, rObjK kp s)]) := by
     intro _
     subst hA
     refine AAny.step [] [1] (by decide +kernel) (by simp) (by decide) ⟨?_, trivial⟩
     ·
      show aopsR _ _ _ [_] _ _ _
      refine ⟨trivial, ?_⟩
      refine AAny.keep [0, 79, 80, 84] (by decide) ?_
      exact s14 trivial
    have s19 : ∀ (_ : True), A 8 #[false, true, true, false, false, false, false, false, false, false] (fun fr m => K1 (fr.keep [0]) m) [(0, .ptr ⟨r, 0, none⟩), (8, .ptr ⟨b1, 0, none⟩), (81, .ptr ⟨r, 0, none⟩)] (AMem.wth m [(b1, .cells [.int .i64 ((gI s.wait (maxI keep)).kind), .str ((gI s.wait (maxI keep)).name), .str (sub (gI s.wait (maxI keep)).data 0 (clampI torn (gI s.wait (maxI keep)).data.length)), .str ((gI s.wait (maxI keep)).to)]), (r, rObjK kp s)]) := by
     intro _
     subst hA
     refine AAny.step [] [0, 3, 5] (by decide +kernel) (by simp) (by decide) ⟨?_, ?_, ?_, trivial⟩
     ·
      show aopsR _ _ _ [_] _ _ _
      refine ⟨trivial, ?_⟩
      refine AAny.keep [0, 8, 79, 81] (by decide) ?_
      exact s13 trivial
     ·
      show aopsR _ _ _ [_] _ _ _
      refine ⟨⟨rfl, by decide⟩, ?_⟩
      refine AAny.keep [0, 8, 82] (by decide) ?_
      exact s15 trivial
     ·
      show aopsR _ _ _ [_] _ _ _
      refine ar_loadp rfl (v := .agg [.int .i64 ((gI s.wait (maxI keep)).kind), .str ((gI s.wait (maxI keep)).name), .str (sub (gI s.wait (maxI keep)).data 0 (clampI torn (gI s.wait (maxI keep)).data.length)), .str ((gI s.wait (maxI keep)).to)]) rfl (wth_get 0 hNb1 rfl) rfl (apartOk_agg rfl rfl (Nat.le_of_ble_eq_true rfl)) rfl ?_
      refine AAny.keep [0, 81, 84] (by decide) ?_
      exact s16 trivial
    clear s13 s15
    have s20 : ∀ (_ : True), A 8 #[false, true, false, false, false, true, false, false, false, false] (fun fr m => K1 (fr.keep [0]) m) [(0, .ptr ⟨r, 0, none⟩), (80, .ptr ⟨r, 0, none⟩), (84, .agg [.int .i64 ((gI s.wait (maxI keep)).kind), .str ((gI s.wait (maxI keep)).name), .str (sub (gI s.wait (maxI keep)).data 0 (clampI torn (gI s.wait (maxI keep)).data.length)), .str ((gI s.wait (maxI keep)).to)])] (AMem.wth m [(b1, .cells [.int .i64 ((gI s.wait (maxI keep)).kind), .str ((gI s.wait (maxI keep)).name), .str (sub (gI s.wait (maxI keep)).data 0 (clampI torn (gI s.wait (maxI keep)).data.length)), .str ((gI s.wait (maxI keep)).to)]), (r, rObjK kp s)]) := by
     intro _
     subst hA
     refine AAny.step [] [0, 2] (by decide +kernel) (by simp) (by decide) ⟨?_, ?_, trivial⟩
     ·
      show aopsR _ _ _ [_] _ _ _
      refine ⟨trivial, ?_⟩
      refine AAny.keep [0, 79, 80, 84] (by decide) ?_
      exact s14 trivial
     ·
      show aopsR _ _ _ [_] _ _ _
      refine ⟨trivial, ?_⟩
      refine AAny.keep [0, 81, 84] (by decide) ?_
      exact s16 trivial
    clear s14 s16
    have s21 : ∀ (_ : True), A 9 #[true, false, false, false, false, false, false, false, false, false] (fun fr m => K1 (fr.keep [0]) m) [(0, .ptr ⟨r, 0, none⟩), (8, .ptr ⟨b1, 0, none⟩), (79, .ptr ⟨r, 0, none⟩)] (AMem.wth m [(b1, .cells [.int .i64 ((gI s.wait (maxI keep)).kind), .str ((gI s.wait (maxI keep)).name), .str (sub (gI s.wait (maxI keep)).data 0 (clampI torn (gI s.wait (maxI keep)).data.length)), .str ((gI s.wait (maxI keep)).to)]), (r, rObjK kp s)]) := by
     intro _
     subst hA
     refine AAny.step [] [1, 5] (by decide +kernel) (by simp) (by decide) ⟨?_, ?_, trivial⟩
     ·
      show aopsR _ _ _ [_] _ _ _
      refine ⟨trivial, ?_⟩
      refine AAny.keep [0, 8, 79, 80] (by decide) ?_
      exact s17 trivial
     ·
      show aopsR _ _ _ [_] _ _ _
      refine ar_loadp rfl (v := .agg [.int .i64 ((gI s.wait (maxI keep)).kind), .str ((gI s.wait (maxI keep)).name), .str (sub (gI s.wait (maxI keep)).data 0 (clampI torn (gI s.wait (maxI keep)).data.length)), .str ((gI s.wait (maxI keep)).to)]) rfl (wth_get 0 hNb1 rfl) rfl (apartOk_agg rfl rfl (Nat.le_of_ble_eq_true rfl)) rfl ?_
      refine AAny.keep [0, 79, 84] (by decide) ?_
      exact s18 trivial
    have s22 : ∀ (_ : True), A 9 #[false, true, false, false, false, false, false, false, false, false] (fun fr m => K1 (fr.keep [0]) m) [(0, .ptr ⟨r, 0, none⟩), (8, .ptr ⟨b1, 0, none⟩), (80, .ptr ⟨r, 0, none⟩)] (AMem.wth m [(b1, .cells [.int .i64 ((gI s.wait (maxI keep)).kind), .str ((gI s.wait (maxI keep)).name), .str (sub (gI s.wait (maxI keep)).data 0 (clampI torn (gI s.wait (maxI keep)).data.length)), .str ((gI s.wait (maxI keep)).to)]), (r, rObjK kp s)]) := by
     intro _
     subst hA
     refine AAny.step [] [0, 2, 5] (by decide +kernel) (by simp) (by decide) ⟨?_, ?_, ?_, trivial⟩
     ·
      show aopsR _ _ _ [_] _ _ _
      refine ⟨trivial, ?_⟩
      refine AAny.keep [0, 8, 79, 80] (by decide) ?_
      exact s17 trivial
     ·
      show aopsR _ _ _ [_] _ _ _
      refine ⟨trivial, ?_⟩
      refine AAny.keep [0, 8, 81] (by decide) ?_
      exact s19 trivial
     ·
      show aopsR _ _ _ [_] _ _ _
      refine ar_loadp rfl (v := .agg [.int .i64 ((gI s.wait (maxI keep)).kind), .str ((gI s.wait (maxI keep)).name), .str (sub (gI s.wait (maxI keep)).data 0 (clampI torn (gI s.wait (maxI keep)).data.length)), .str ((gI s.wait (maxI keep)).to)]) rfl (wth_get 0 hNb1 rfl) rfl (apartOk_agg rfl rfl (Nat.le_of_ble_eq_true rfl)) rfl ?_
      refine AAny.keep [0, 80, 84] (by decide) ?_
      exact s20 trivial
    clear s17 s19
    have s23 : ∀ (_ : True), A 9 #[false, false, false, false, false, true, false, false, false, false] (fun fr m => K1 (fr.keep [0]) m) [(0, .ptr ⟨r, 0, none⟩), (84, .agg [.int .i64 ((gI s.wait (maxI keep)).kind), .str ((gI s.wait (maxI keep)).name), .str (sub (gI s.wait (maxI keep)).data 0 (clampI torn (gI s.wait (maxI keep)).data.length)), .str ((gI s.wait (maxI keep)).to)])] (AMem.wth m [(b1, .cells [.int .i64 ((gI s.wait (maxI keep)).kind), .str ((gI s.wait (maxI keep)).name), .str (sub (gI s.wait (maxI keep)).data 0 (clampI torn (gI s.wait (maxI keep)).data.length)), .str ((gI s.wait (maxI keep)).to)]), (r, rObjK kp s)]) := by
     intro _
     subst hA
     refine AAny.step [] [0, 1] (by decide +kernel) (by simp) (by decide) ⟨?_, ?_, trivial⟩
     ·
      show aopsR _ _ _ [_] _ _ _
      refine ⟨trivial, ?_⟩
      refine AAny.keep [0, 79, 84] (by decide) ?_
      exact s18 trivial
     ·
      show aopsR _ _ _ [_] _ _ _
      refine ⟨trivial, ?_⟩
      refine AAny.keep [0, 80, 84] (by decide) ?_
      exact s20 trivial
    clear s18 s20
    have s24 : ∀ (_ : True), A 10 #[false, false, false, false, false, false, false, false, false, false] (fun fr m => K1 (fr.keep [0]) m) [(0, .ptr ⟨r, 0, none⟩), (8, .ptr ⟨b1, 0, none⟩), (78, .bool (decide (0 < clampI torn (gI s.wait (maxI keep)).data.length)))] (AMem.wth m [(b1, .cells [.int .i64 ((gI s.wait (maxI keep)).kind), .str ((gI s.wait (maxI keep)).name), .str (sub (gI s.wait (maxI keep)).data 0 (clampI torn (gI s.wait (maxI keep)).data.length)), .str ((gI s.wait (maxI keep)).to)]), (r, rObjK kp s)]) := by
     intro _
     subst hA
     refine AAny.step [] [0, 1, 5] (by decide +kernel) (by simp) (by decide) ⟨?_, ?_, ?_, trivial⟩
     ·
      show aopsR _ _ _ [_] _ _ _
      refine ⟨trivial, ?_⟩
      refine AAny.keep [0, 8, 79] (by decide) ?_
      exact s21 trivial
     ·
      show aopsR _ _ _ [_] _ _ _
      refine ⟨trivial, ?_⟩
      refine AAny.keep [0, 8, 80] (by decide) ?_
      exact s22 trivial
     ·
      show aopsR _ _ _ [_] _ _ _
      refine ar_loadp rfl (v := .agg [.int .i64 ((gI s.wait (maxI keep)).kind), .str ((gI s.wait (maxI keep)).name), .str (sub (gI s.wait (maxI keep)).data 0 (clampI torn (gI s.wait (maxI keep)).data.length)), .str ((gI s.wait (maxI keep)).to)]) rfl (wth_get 0 hNb1 rfl) rfl (apartOk_agg rfl rfl (Nat.le_of_ble_eq_true rfl)) rfl ?_
      refine AAny.keep [0, 84] (by decide) ?_
      exact s23 trivial
    clear s21 s22 s23
    exact s24 trivial
   intro _
   refine hK1 _ _ ?_; clear hK1 K1
   refine hK5 _ _ ?_; clear hK5
   have hr : keptQ s keep torn = turnR kp (⟨(gI s.wait (maxI keep)).kind, (gI s.wait (maxI keep)).name, sub (gI s.wait (maxI keep)).data 0 (clampI torn (gI s.wait (maxI keep)).data.length), (gI s.wait (maxI keep)).to⟩ : Trn) := by
    unfold keptQ; rw [← hkp]
    first | (rw [if_pos ⟨by omega, by omega, by omega⟩]; done) | (rw [if_neg (by omega)]; done)
   rw [← hr]
   show AWP _ _ _ _ [(0, .ptr ⟨r, 0, none⟩)] (AMem.wth m [(b1, .cells [.int .i64 ((gI s.wait (maxI keep)).kind), .str ((gI s.wait (maxI keep)).name), .str (sub (gI s.wait (maxI keep)).data 0 (clampI torn (gI s.wait (maxI keep)).data.length)), .str ((gI s.wait (maxI keep)).to)]), (r, rObjK (keptQ s keep torn) s)])
   have hNd1 : ([r] : List Nat).Nodup := drop_nodup (L := [(b1, .cells [.int .i64 ((gI s.wait (maxI keep)).kind), .str ((gI s.wait (maxI keep)).name), .str (sub (gI s.wait (maxI keep)).data 0 (clampI torn (gI s.wait (maxI keep)).data.length)), .str ((gI s.wait (maxI keep)).to)]), (r, rObjK (keptQ s keep torn) s)]) hNb1 (pick_perm [0] _)
   refine awp_dropP [(b1, .cells [.int .i64 ((gI s.wait (maxI keep)).kind), .str ((gI s.wait (maxI keep)).name), .str (sub (gI s.wait (maxI keep)).data 0 (clampI torn (gI s.wait (maxI keep)).data.length)), .str ((gI s.wait (maxI keep)).to)])] [(r, rObjK (keptQ s keep torn) s)] hNb1 (pick_perm [0] _) (by simp only [List.map_cons, List.map_nil, List.forall_mem_cons]; exact ⟨hFb1, fun _ h => by cases h⟩) ?_
   refine awp_reg2_seq [] [0] (by decide) ?_
   intro K1 hK1
   refine ⟨trivial, trivial, trivial, ⟨rfl, by decide⟩, ?_⟩
   refine ar_loadp rfl (v := .slice false ((keptQ s keep torn).map fileAV)) rfl (wth_get 0 hNd1 rfl) rfl (apartOk_one rfl rfl (Nat.le_of_ble_eq_true rfl)) rfl ?_
   refine ar_append0 rfl fileAV (keptQ s keep torn) rfl rfl rfl rfl (Nat.le_of_ble_eq_true rfl) rfl (by (simp only [show Try.prog.bytesOf 118 = 32 from rfl, List.length_append, List.length_cons, List.length_nil]; omega)) (fun _ => ⟨rfl, rfl⟩) ?_
   refine ⟨trivial, ⟨rfl, by decide⟩, ?_⟩
   refine ar_storep rfl 0 (v := .slice true ((keptQ s keep torn).map fileAV)) (l' := [.slice true ((keptQ s keep torn).map fileAV), .slice true ((keptQ s keep torn).map fileAV), .slice true (s.wait.map trnAV), .int .i64 s.fuse, .bool s.down, .int .i64 s.steps]) rfl rfl hNd1 rfl rfl rfl rfl rfl (Nat.le_of_ble_eq_true rfl) rfl ?_
   show K1 [(0, .ptr ⟨r, 0, none⟩)] (AMem.wth m [(r, .cells [.slice true ((keptQ s keep torn).map fileAV), .slice true ((keptQ s keep torn).map fileAV), .slice true (s.wait.map trnAV), .int .i64 s.fuse, .bool s.down, .int .i64 s.steps])])
   refine hK1 _ _ ?_; clear hK1 K1
   refine awp_reg2_seq [] [0] (by decide) ?_
   intro K1 hK1
   refine ⟨trivial, trivial, ⟨rfl, by decide⟩, ?_⟩
   refine ar_storep rfl 0 (v := .slice true []) (l' := [.slice true ((keptQ s keep torn).map fileAV), .slice true ((keptQ s keep torn).map fileAV), .slice true [], .int .i64 s.fuse, .bool s.down, .int .i64 s.steps]) rfl rfl hNd1 rfl rfl rfl rfl rfl (Nat.le_of_ble_eq_true rfl) rfl ?_
   show K1 [(0, .ptr ⟨r, 0, none⟩)] (AMem.wth m [(r, .cells [.slice true ((keptQ s keep torn).map fileAV), .slice true ((keptQ s keep torn).map fileAV), .slice true [], .int .i64 s.fuse, .bool s.down, .int .i64 s.steps])])
   refine hK1 _ _ ?_; clear hK1 K1
   refine awp_reg2_seq [] [0] (by decide) ?_
   intro K1 hK1
   refine ⟨trivial, trivial, ⟨rfl, by decide⟩, ?_⟩
   refine ar_storep rfl 0 (v := .bool false) (l' := [.slice true ((keptQ s keep torn).map fileAV), .slice true ((keptQ s keep torn).map fileAV), .slice true [], .int .i64 s.fuse, .bool false, .int .i64 s.steps]) rfl rfl hNd1 rfl rfl rfl rfl rfl (Nat.le_of_ble_eq_true rfl) rfl ?_
   show K1 [(0, .ptr ⟨r, 0, none⟩)] (AMem.wth m [(r, .cells [.slice true ((keptQ s keep torn).map fileAV), .slice true ((keptQ s keep torn).map fileAV), .slice true [], .int .i64 s.fuse, .bool false, .int .i64 s.steps])])
   refine hK1 _ _ ?_; clear hK1 K1
   refine awp_reg2 [] [] (by decide) ?_
   intro K1 hK1
   refine ⟨trivial, trivial, ⟨rfl, by decide⟩, ?_⟩
   refine ar_storep rfl 0 (v := .int .i64 (-1)) (l' := [.slice true ((keptQ s keep torn).map fileAV), .slice true ((keptQ s keep torn).map fileAV), .slice true [], .int .i64 (-1), .bool false, .int .i64 s.steps]) rfl rfl hNd1 rfl rfl rfl rfl rfl (Nat.le_of_ble_eq_true rfl) rfl ?_
   show K1 [] (AMem.wth m [(r, .cells [.slice true ((keptQ s keep torn).map fileAV), .slice true ((keptQ s keep torn).map fileAV), .slice true [], .int .i64 (-1), .bool false, .int .i64 s.steps])])
   refine hK1 _ _ ?_; clear hK1 K1
   refine ⟨(AMem.wth m [(r, .cells [.slice true ((keptQ s keep torn).map fileAV), .slice true ((keptQ s keep torn).map fileAV), .slice true [], .int .i64 (-1), .bool false, .int .i64 s.steps])]), fun _ _ h => h, ?_⟩
   show K (.tuple []) (AMem.wth m [(r, .cells [.slice true ((keptQ s keep torn).map fileAV), .slice true ((keptQ s keep torn).map fileAV), .slice true [], .int .i64 (-1), .bool false, .int .i64 s.steps])])
  
   exact hK
  replace h5 : clampI torn (gI s.wait (maxI keep)).data.length ≤ 0 := (Int.not_lt.1 (of_decide_eq_false h5))
  refine awp_skip ?_
  refine hK5 _ _ ?_; clear hK5
  have hr : keptQ s keep torn = kp := by
   unfold keptQ; rw [← hkp]
   first | (rw [if_pos ⟨by omega, by omega, by omega⟩]; done) | (rw [if_neg (by omega)]; done)
  rw [← hr]
  show AWP _ _ _ _ [(0, .ptr ⟨r, 0, none⟩), (8, .ptr ⟨b1, 0, none⟩), (78, .bool (decide (0 < clampI torn (gI s.wait (maxI keep)).data.length)))] (AMem.wth m [(b1, .cells [.int .i64 ((gI s.wait (maxI keep)).kind), .str ((gI s.wait (maxI keep)).name), .str (sub (gI s.wait (maxI keep)).data 0 (clampI torn (gI s.wait (maxI keep)).data.length)), .str ((gI s.wait (maxI keep)).to)]), (r, rObjK (keptQ s keep torn) s)])
  have hNd2 : ([r] : List Nat).Nodup := drop_nodup (L := [(b1, .cells [.int .i64 ((gI s.wait (maxI keep)).kind), .str ((gI s.wait (maxI keep)).name), .str (sub (gI s.wait (maxI keep)).data 0 (clampI torn (gI s.wait (maxI keep)).data.length)), .str ((gI s.wait (maxI keep)).to)]), (r, rObjK (keptQ s keep torn) s)]) hNb1 (pick_perm [0] _)
  refine awp_dropP [(b1, .cells [.int .i64 ((gI s.wait (maxI keep)).kind), .str ((gI s.wait (maxI keep)).name), .str (sub (gI s.wait (maxI keep)).data 0 (clampI torn (gI s.wait (maxI keep)).data.length)), .str ((gI s.wait (maxI keep)).to)])] [(r, rObjK (keptQ s keep torn) s)] hNb1 (pick_perm [0] _) (by simp only [List.map_cons, List.map_nil, List.forall_mem_cons]; exact ⟨hFb1, fun _ h => by cases h⟩) ?_
  refine awp_reg2_seq [] [0] (by decide) ?_
  intro K1 hK1
  refine ⟨trivial, trivial, trivial, ⟨rfl, by decide⟩, ?_⟩
  refine ar_loadp rfl (v := .slice false ((keptQ s keep torn).map fileAV)) rfl (wth_get 0 hNd2 rfl) rfl (apartOk_one rfl rfl (Nat.le_of_ble_eq_true rfl)) rfl ?_
  refine ar_append0 rfl fileAV (keptQ s keep torn) rfl rfl rfl rfl (Nat.le_of_ble_eq_true rfl) rfl (by (simp only [show Try.prog.bytesOf 118 = 32 from rfl, List.length_append, List.length_cons, List.length_nil]; omega)) (fun _ => ⟨rfl, rfl⟩) ?_
  refine ⟨trivial, ⟨rfl, by decide⟩, ?_⟩
  refine ar_storep rfl 0 (v := .slice true ((keptQ s keep torn).map fileAV)) (l' := [.slice true ((keptQ s keep torn).map fileAV), .slice true ((keptQ s keep torn).map fileAV), .slice true (s.wait.map trnAV), .int .i64 s.fuse, .bool s.down, .int .i64 s.steps]) rfl rfl hNd2 rfl rfl rfl rfl rfl (Nat.le_of_ble_eq_true rfl) rfl ?_
  show K1 [(0, .ptr ⟨r, 0, none⟩)] (AMem.wth m [(r, .cells [.slice true ((keptQ s keep torn).map fileAV), .slice true ((keptQ s keep torn).map fileAV), .slice true (s.wait.map trnAV), .int .i64 s.fuse, .bool s.down, .int .i64 s.steps])])
  refine hK1 _ _ ?_; clear hK1 K1
  refine awp_reg2_seq [] [0] (by decide) ?_
  intro K1 hK1
  refine ⟨trivial, trivial, ⟨rfl, by decide⟩, ?_⟩
  refine ar_storep rfl 0 (v := .slice true []) (l' := [.slice true ((keptQ s keep torn).map fileAV), .slice true ((keptQ s keep torn).map fileAV), .slice true [], .int .i64 s.fuse, .bool s.down, .int .i64 s.steps]) rfl rfl hNd2 rfl rfl rfl rfl rfl (Nat.le_of_ble_eq_true rfl) rfl ?_
  show K1 [(0, .ptr ⟨r, 0, none⟩)] (AMem.wth m [(r, .cells [.slice true ((keptQ s keep torn).map fileAV), .slice true ((keptQ s keep torn).map fileAV), .slice true [], .int .i64 s.fuse, .bool s.down, .int .i64 s.steps])])
  refine hK1 _ _ ?_; clear hK1 K1
  refine awp_reg2_seq [] [0] (by decide) ?_
  intro K1 hK1
  refine ⟨trivial, trivial, ⟨rfl, by decide⟩, ?_⟩
  refine ar_storep rfl 0 (v := .bool false) (l' := [.slice true ((keptQ s keep torn).map fileAV), .slice true ((keptQ s keep torn).map fileAV), .slice true [], .int .i64 s.fuse, .bool false, .int .i64 s.steps]) rfl rfl hNd2 rfl rfl rfl rfl rfl (Nat.le_of_ble_eq_true rfl) rfl ?_
  show K1 [(0, .ptr ⟨r, 0, none⟩)] (AMem.wth m [(r, .cells [.slice true ((keptQ s keep torn).map fileAV), .slice true ((keptQ s keep torn).map fileAV), .slice true [], .int .i64 s.fuse, .bool false, .int .i64 s.steps])])
  refine hK1 _ _ ?_; clear hK1 K1
  refine awp_reg2 [] [] (by decide) ?_
  intro K1 hK1
  refine ⟨trivial, trivial, ⟨rfl, by decide⟩, ?_⟩
  refine ar_storep rfl 0 (v := .int .i64 (-1)) (l' := [.slice true ((keptQ s keep torn).map fileAV), .slice true ((keptQ s keep torn).map fileAV), .slice true [], .int .i64 (-1), .bool false, .int .i64 s.steps]) rfl rfl hNd2 rfl rfl rfl rfl rfl (Nat.le_of_ble_eq_true rfl) rfl ?_
  show K1 [] (AMem.wth m [(r, .cells [.slice true ((keptQ s keep torn).map fileAV), .slice true ((keptQ s keep torn).map fileAV), .slice true [], .int .i64 (-1), .bool false, .int .i64 s.steps])])
  refine hK1 _ _ ?_; clear hK1 K1
  refine ⟨(AMem.wth m [(r, .cells [.slice true ((keptQ s keep torn).map fileAV), .slice true ((keptQ s keep torn).map fileAV), .slice true [], .int .i64 (-1), .bool false, .int .i64 s.steps])]), fun _ _ h => h, ?_⟩
  show K (.tuple []) (AMem.wth m [(r, .cells [.slice true ((keptQ s keep torn).map fileAV), .slice true ((keptQ s keep torn).map fileAV), .slice true [], .int .i64 (-1), .bool false, .int .i64 s.steps])])
 
  exact hK
 replace h4 : ((s.wait.length : Int) ≤ maxI keep) ∨ (4 ≤ (gI s.wait (maxI keep)).kind) := ((bandF h4).imp (fun q => (Int.not_lt.1 (of_decide_eq_false q))) (fun q => (Int.not_lt.1 (of_decide_eq_false q))))
 refine awp_skip ?_
 refine hK5 _ _ ?_; clear hK5
 have hr : keptQ s keep torn = kp := by
  unfold keptQ; rw [← hkp]
  first | (rw [if_pos ⟨by omega, by omega, by omega⟩]; done) | (rw [if_neg (by omega)]; done)
 rw [← hr]
 show AWP _ _ _ _ [(0, .ptr ⟨r, 0, none⟩), (2, .int .i64 torn), (7, .int .i64 (maxI keep)), (58, .bool ((decide (maxI keep < (s.wait.length : Int))) && (decide ((gI s.wait (maxI keep)).kind < 4))))] (AMem.wth m [(r, rObjK (keptQ s keep torn) s)])
 refine awp_reg2_seq [] [0] (by decide) ?_
 intro K1 hK1
 refine ⟨trivial, trivial, trivial, ⟨rfl, by decide⟩, ?_⟩
 refine ar_loadp rfl (v := .slice false ((keptQ s keep torn).map fileAV)) rfl (wth_get 0 (nodup_1 r) rfl) rfl (apartOk_one rfl rfl (Nat.le_of_ble_eq_true rfl)) rfl ?_
 refine ar_append0 rfl fileAV (keptQ s keep torn) rfl rfl rfl rfl (Nat.le_of_ble_eq_true rfl) rfl (by (simp only [show Try.prog.bytesOf 118 = 32 from rfl, List.length_append, List.length_cons, List.length_nil]; omega)) (fun _ => ⟨rfl, rfl⟩) ?_
 refine ⟨trivial, ⟨rfl, by decide⟩, ?_⟩
 refine ar_storep rfl 0 (v := .slice true ((keptQ s keep torn).map fileAV)) (l' := [.slice true ((keptQ s keep torn).map fileAV), .slice true ((keptQ s keep torn).map fileAV), .slice true (s.wait.map trnAV), .int .i64 s.fuse, .bool s.down, .int .i64 s.steps]) rfl rfl (nodup_1 r) rfl rfl rfl rfl rfl (Nat.le_of_ble_eq_true rfl) rfl ?_
 show K1 [(0, .ptr ⟨r, 0, none⟩)] (AMem.wth m [(r, .cells [.slice true ((keptQ s keep torn).map fileAV), .slice true ((keptQ s keep torn).map fileAV), .slice true (s.wait.map trnAV), .int .i64 s.fuse, .bool s.down, .int .i64 s.steps])])
 refine hK1 _ _ ?_; clear hK1 K1
 refine awp_reg2_seq [] [0] (by decide) ?_
 intro K1 hK1
 refine ⟨trivial, trivial, ⟨rfl, by decide⟩, ?_⟩
 refine ar_storep rfl 0 (v := .slice true []) (l' := [.slice true ((keptQ s keep torn).map fileAV), .slice true ((keptQ s keep torn).map fileAV), .slice true [], .int .i64 s.fuse, .bool s.down, .int .i64 s.steps]) rfl rfl (nodup_1 r) rfl rfl rfl rfl rfl (Nat.le_of_ble_eq_true rfl) rfl ?_
 show K1 [(0, .ptr ⟨r, 0, none⟩)] (AMem.wth m [(r, .cells [.slice true ((keptQ s keep torn).map fileAV), .slice true ((keptQ s keep torn).map fileAV), .slice true [], .int .i64 s.fuse, .bool s.down, .int .i64 s.steps])])
 refine hK1 _ _ ?_; clear hK1 K1
 refine awp_reg2_seq [] [0] (by decide) ?_
 intro K1 hK1
 refine ⟨trivial, trivial, ⟨rfl, by decide⟩, ?_⟩
 refine ar_storep rfl 0 (v := .bool false) (l' := [.slice true ((keptQ s keep torn).map fileAV), .slice true ((keptQ s keep torn).map fileAV), .slice true [], .int .i64 s.fuse, .bool false, .int .i64 s.steps]) rfl rfl (nodup_1 r) rfl rfl rfl rfl rfl (Nat.le_of_ble_eq_true rfl) rfl ?_
 show K1 [(0, .ptr ⟨r, 0, none⟩)] (AMem.wth m [(r, .cells [.slice true ((keptQ s keep torn).map fileAV), .slice true ((keptQ s keep torn).map fileAV), .slice true [], .int .i64 s.fuse, .bool false, .int .i64 s.steps])])
 refine hK1 _ _ ?_; clear hK1 K1
 refine awp_reg2 [] [] (by decide) ?_
 intro K1 hK1
 refine ⟨trivial, trivial, ⟨rfl, by decide⟩, ?_⟩
 refine ar_storep rfl 0 (v := .int .i64 (-1)) (l' := [.slice true ((keptQ s keep torn).map fileAV), .slice true ((keptQ s keep torn).map fileAV), .slice true [], .int .i64 (-1), .bool false, .int .i64 s.steps]) rfl rfl (nodup_1 r) rfl rfl rfl rfl rfl (Nat.le_of_ble_eq_true rfl) rfl ?_
 show K1 [] (AMem.wth m [(r, .cells [.slice true ((keptQ s keep torn).map fileAV), .slice true ((keptQ s keep torn).map fileAV), .slice true [], .int .i64 (-1), .bool false, .int .i64 s.steps])])
 refine hK1 _ _ ?_; clear hK1 K1
 refine ⟨(AMem.wth m [(r, .cells [.slice true ((keptQ s keep torn).map fileAV), .slice true ((keptQ s keep torn).map fileAV), .slice true [], .int .i64 (-1), .bool false, .int .i64 s.steps])]), fun _ _ h => h, ?_⟩
 show K (.tuple []) (AMem.wth m [(r, .cells [.slice true ((keptQ s keep torn).map fileAV), .slice true ((keptQ s keep torn).map fileAV), .slice true [], .int .i64 (-1), .bool false, .int .i64 s.steps])])

 exact hK

end Go.Proofs
