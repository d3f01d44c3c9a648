/-
  Stacks that a law is handed read as typed data.
-/
import Derived.Test.YtaeknjhnpmhcmaaCk13
import Derived.Test.YtaeknjhnpmhcmaaWxz
section
namespace Go.Proofs
open Go Go.Aw Go.Sx
set_option maxRecDepth 100000
def rho (n : Nat) (x : Int) : Int := n - 1 - x
theorem gI_rev {α : Type} [Inhabited α] {l : List α} {k : Int} (h0 : 0 ≤ k) (hk : k < l.length) : gI l.reverse k = gI l (rho l.length k) := by
  have h1 : k.toNat < l.length := by omega
  have h2 : (rho l.length k).toNat = l.length - 1 - k.toNat := by unfold rho; omega
  simp only [gI, h2]
  rw [List.getD_eq_getElem?_getD, List.getD_eq_getElem?_getD, List.getElem?_reverse h1]
theorem gI_inj {α : Type} [Inhabited α] {l : List α} (hn : l.Nodup) {a b : Int} (ha : 0 ≤ a ∧ a < l.length) (hb : 0 ≤ b ∧ b < l.length) (h : gI l a = gI l b) : a = b := by
  have h1 : a.toNat < l.length := by omega
  have h2 : b.toNat < l.length := by omega
  simp only [gI, List.getD_eq_getElem?_getD, List.getElem?_eq_getElem h1, List.getElem?_eq_getElem h2, Option.getD_some] at h
  have := (List.getElem_inj hn).1 h
  omega
theorem idxF_rev {l : List Str} (hn : l.Nodup) (s : Str) : idxF l.reverse s = if idxF l s < 0 then -1 else rho l.length (idxF l s) := by
  split
  · rename_i h
    have h1 : s ∉ l.reverse := fun q => idxF_no.1 h (List.mem_reverse.1 q)
    have h2 := idxF_no.2 h1
    rcases idxF_ge (l := l.reverse) (s := s) with h3 | h3
    · exact h3
    · omega
  · rename_i h
    have hm : s ∈ l := Classical.not_not.1 fun q => h (idxF_no.2 q)
    have h1 : ¬ idxF l.reverse s < 0 := fun q => idxF_no.1 q (List.mem_reverse.2 hm)
    have h2 := idxF_at (l := l) (s := s) (by omega)
    have h3 := idxF_at (l := l.reverse) (s := s) (by omega)
    have h4 := (idxF_ge (l := l) (s := s)).resolve_left (by omega)
    have h5 := (idxF_ge (l := l.reverse) (s := s)).resolve_left (by omega)
    rw [List.length_reverse] at h5
    rw [gI_rev h5.1 h5.2] at h3
    have := gI_inj hn (a := rho l.length (idxF l.reverse s)) (b := idxF l s) (by unfold rho; omega) h4 (h3.trans h2.symm)
    unfold rho at this ⊢; omega
theorem once_rho (n : Nat) (st : List Int) (a : Int) : (onceF st a).map (rho n) = onceF (st.map (rho n)) (rho n a) := by
  have hi : rho n a ∈ st.map (rho n) ↔ a ∈ st := by
    constructor
    · intro h
      obtain ⟨b, hb, e⟩ := List.mem_map.1 h
      have : b = a := by unfold rho at e; omega
      exact this ▸ hb
    · exact fun h => List.mem_map.2 ⟨a, h, rfl⟩
  unfold onceF
  by_cases c : a ∈ st
  · rw [if_pos c, if_pos (hi.2 c)]
  · rw [if_neg c, if_neg (fun q => c (hi.1 q)), List.map_append]; rfl
structure Rv (n : Nat) (σ τ : Lk3) : Prop where
  e : τ.er = σ.er
  s : τ.st = σ.st.map (rho n)
  z : τ.zs = σ.zs
theorem lk_rev {W : List StkT} (hn : (W.map StkT.name).Nodup) (s : Str) : idxF (W.reverse.map StkT.name) s = if idxF (W.map StkT.name) s < 0 then -1 else rho W.length (idxF (W.map StkT.name) s) := by
  have := idxF_rev hn s
  rw [← List.map_reverse, List.length_map] at this
  exact this
theorem lk_lt {W : List StkT} {s : Str} (h : ¬ idxF (W.map StkT.name) s < 0) : 0 ≤ idxF (W.map StkT.name) s ∧ idxF (W.map StkT.name) s < W.length := by
  have := (idxF_ge (l := W.map StkT.name) (s := s)).resolve_left (by omega)
  rwa [List.length_map] at this
theorem Rv.look {W : List StkT} (hn : (W.map StkT.name).Nodup) {σ τ : Lk3} (h : Rv W.length σ τ) (S : StkT) (inn : Int) (e : Exp) : Rv W.length (look S W inn σ e) (look S W.reverse inn τ e) := by
  have hl := lk_rev hn e.s
  have hat : (lkAt S W.reverse e < 0 ↔ lkAt S W e < 0) := by
    unfold lkAt
    split
    · exact Iff.rfl
    · split
      · exact Iff.rfl
      · split
        · rw [hl]
          by_cases c : idxF (W.map StkT.name) e.s < 0
          · rw [if_pos c, if_neg (by omega), if_neg (by omega)]; omega
          · have hb := lk_lt c
            have hr : 0 ≤ rho W.length (idxF (W.map StkT.name) e.s) := by unfold rho; omega
            rw [if_neg c, if_pos hr, if_pos hb.1]
            have hg : gI W.reverse (rho W.length (idxF (W.map StkT.name) e.s)) = gI W (idxF (W.map StkT.name) e.s) := by
              rw [gI_rev hr (by unfold rho; omega)]
              congr 1; unfold rho; omega
            rw [hg]
            split
            · exact Iff.rfl
            · omega
        · exact Iff.rfl
  refine ⟨?_, ?_, ?_⟩
  · show (if lkAt S W.reverse e < 0 ∧ τ.er = 0 then (7 : Int) else τ.er) = if lkAt S W e < 0 ∧ σ.er = 0 then 7 else σ.er
    rw [h.e]
    by_cases c : lkAt S W e < 0 ∧ σ.er = 0
    · rw [if_pos c, if_pos ⟨hat.2 c.1, c.2⟩]
    · rw [if_neg c, if_neg fun q => c ⟨hat.1 q.1, q.2⟩]
  · show (if e.kind = 4 ∧ 0 ≤ idxF (W.reverse.map StkT.name) e.s then onceF τ.st (idxF (W.reverse.map StkT.name) e.s) else τ.st) = (if e.kind = 4 ∧ 0 ≤ idxF (W.map StkT.name) e.s then onceF σ.st (idxF (W.map StkT.name) e.s) else σ.st).map (rho W.length)
    rw [hl, h.s]
    by_cases c : idxF (W.map StkT.name) e.s < 0
    · rw [if_pos c, if_neg (by omega), if_neg (by omega)]
    · have hb := lk_lt c
      have hr : 0 ≤ rho W.length (idxF (W.map StkT.name) e.s) := by unfold rho; omega
      rw [if_neg c]
      by_cases k : e.kind = 4
      · rw [if_pos ⟨k, hr⟩, if_pos ⟨k, by omega⟩, once_rho]
      · rw [if_neg (fun q => k q.1), if_neg (fun q => k q.1)]
  · show (if e.kind = 3 ∧ 0 ≤ idxF (S.res.map ResT.name) e.s ∧ 0 ≤ inn then τ.zs.set inn.toNat (onceF (gI τ.zs inn) (idxF (S.res.map ResT.name) e.s)) else τ.zs) = (if e.kind = 3 ∧ 0 ≤ idxF (S.res.map ResT.name) e.s ∧ 0 ≤ inn then σ.zs.set inn.toNat (onceF (gI σ.zs inn) (idxF (S.res.map ResT.name) e.s)) else σ.zs)
    rw [h.z]
theorem Rv.walk {W : List StkT} (hn : (W.map StkT.name).Nodup) (S : StkT) (inn : Int) : ∀ (l : List Exp) {σ τ : Lk3}, Rv W.length σ τ → Rv W.length (l.foldl (Go.Proofs.look S W inn) σ) (l.foldl (Go.Proofs.look S W.reverse inn) τ)
  | [], _, _, h => h
  | e :: r, _, _, h => Rv.walk hn S inn r (h.look hn S inn e)
theorem Rv.each {W : List StkT} (hn : (W.map StkT.name).Nodup) (S : StkT) : ∀ (l : List (Int × Exp)) {σ τ : Lk3}, Rv W.length σ τ → Rv W.length (l.foldl (eachS S W) σ) (l.foldl (eachS S W.reverse) τ)
  | [], _, _, h => h
  | q :: r, _, _, h => Rv.each hn S r (Rv.walk hn S q.1 (subsE q.2) h)
theorem exprs_rev {W : List StkT} (hn : (W.map StkT.name).Nodup) (S : StkT) : Rv W.length (exprsS S W (sig0 S)) (exprsS S W.reverse (sig0 S)) :=
  Rv.each hn S (occ S) ⟨rfl, rfl, rfl⟩
theorem stackE_rev {W : List StkT} (hn : (W.map StkT.name).Nodup) (S : StkT) : stackE S W.reverse = stackE S W := by
  have h := exprs_rev hn S
  unfold stackE; rw [h.e, h.z]
theorem needN_rev {W : List StkT} (hn : (W.map StkT.name).Nodup) (S : StkT) : needN W.reverse S = (needN W S).map (rho W.length) := (exprs_rev hn S).s
theorem ordN_rev {W : List StkT} (hn : (W.map StkT.name).Nodup) (S : StkT) : ordN W.reverse S = ordN W S := by
  unfold ordN; rw [(exprs_rev hn S).z]
theorem rho_rho (n : Nat) (x : Int) : rho n (rho n x) = x := by unfold rho; omega
theorem needs_rev {W : List StkT} (hn : (W.map StkT.name).Nodup) {i : Int} (h0 : 0 ≤ i) (hi : i < W.length) : gI (needsL W.reverse) (rho W.length i) = (gI (needsL W) i).map (rho W.length) := by
  have hr : 0 ≤ rho W.length i ∧ rho W.length i < W.length := by unfold rho; omega
  rw [needsL, gI_mapS hr.1 (by rw [List.length_reverse]; exact hr.2), gI_rev hr.1 hr.2, rho_rho, needN_rev hn, needsL, gI_mapS h0 hi]
theorem ords_rev {W : List StkT} (hn : (W.map StkT.name).Nodup) {i : Int} (h0 : 0 ≤ i) (hi : i < W.length) : gI (ordsL W.reverse) (rho W.length i) = gI (ordsL W) i := by
  have hr : 0 ≤ rho W.length i ∧ rho W.length i < W.length := by unfold rho; omega
  rw [ordsL, gI_mapS hr.1 (by rw [List.length_reverse]; exact hr.2), gI_rev hr.1 hr.2, rho_rho, ordN_rev hn, ordsL, gI_mapS h0 hi]
theorem no_both {needs : List (List Int)} {D : Int → Int} {U : Int → Prop} (hD : IsDepth needs D) (hU : IsCyc needs U) : ∀ (n : Nat) (j : Int), D j ≤ n → ¬ U j
  | 0, j, h, hj => by
    have := (hD j (hU j hj).1).1
    omega
  | n + 1, j, h, hj => by
    obtain ⟨h1, k, hk, hu⟩ := hU j hj
    have := (hD j h1).2.2.1 k hk
    exact no_both hD hU n k (by omega) hu
theorem wav_zero {needs : List (List Int)} (h : (wavR needs).2 = 0) : newE needs = 0 ∧ ∃ D, IsDepth needs D := by
  unfold wavR at h
  split at h
  · rename_i c; exact absurd h c
  · rename_i c
    have hz : newE needs = 0 := by simpa using c
    refine ⟨hz, ?_⟩
    rcases wavesR_cases (newE_zero hz).2 with ⟨D, hD, _⟩ | ⟨_, hw⟩
    · exact ⟨D, hD⟩
    · rw [hw] at h; cases h
theorem wav_of {needs : List (List Int)} (h : newE needs = 0) (hc : ¬ ∃ U j, IsCyc needs U ∧ U j) : (wavR needs).2 = 0 := by
  unfold wavR
  rw [if_neg (not_not_intro h)]
  rcases wavesR_cases (newE_zero h).2 with ⟨D, _, hw⟩ | ⟨hu, _⟩
  · show (wavesR needs).2 = 0
    rw [hw]
  · exact absurd hu hc
theorem wav_rev {W : List StkT} (hn : (W.map StkT.name).Nodup) (h : (wavR (needsL W)).2 = 0) : (wavR (needsL W.reverse)).2 = 0 := by
  obtain ⟨hz, D, hD⟩ := wav_zero h
  have hz2 := newE_zero hz
  have hl : (needsL W).length = W.length := by simp [needsL]
  have hlr : (needsL W.reverse).length = W.length := by simp [needsL]
  have hel : ∀ w ∈ needsL W, ∀ x ∈ w, 0 ≤ x ∧ x < (W.length : Int) := fun w hw x hx => by
    have h1 := List.all_eq_true.1 (List.all_eq_true.1 hz2.2 w hw) x hx
    rw [hl] at h1
    simpa using h1
  have hok : okN (needsL W.reverse) = true := by
    refine List.all_eq_true.2 fun w hw => List.all_eq_true.2 fun x hx => ?_
    obtain ⟨s, hs, rfl⟩ := List.mem_map.1 hw
    rw [needN_rev hn] at hx
    obtain ⟨y, hy, rfl⟩ := List.mem_map.1 hx
    have := hel _ (List.mem_map.2 ⟨s, List.mem_reverse.1 hs, rfl⟩) y hy
    rw [hlr]
    simp only [Bool.and_eq_true, decide_eq_true_eq]; unfold rho; omega
  refine wav_of ?_ ?_
  · unfold newE
    rw [if_neg (by rw [hlr]; have := hz2.1; rw [hl] at this; omega), if_pos hok]
  · rintro ⟨U, j, hU, hj⟩
    have hV : IsCyc (needsL W) fun i => U (rho W.length i) := fun i hi => by
      obtain ⟨h1, k, hk, hu⟩ := hU _ hi
      have h2 : 0 ≤ rho W.length i ∧ rho W.length i < W.length := by
        obtain ⟨a, b⟩ := h1; rw [hlr] at b; exact ⟨a, b⟩
      have h3 : 0 ≤ i ∧ i < W.length := by unfold rho at h2; omega
      rw [needs_rev hn h3.1 h3.2] at hk
      obtain ⟨y, hy, rfl⟩ := List.mem_map.1 hk
      exact ⟨⟨h3.1, by rw [hl]; exact h3.2⟩, y, hy, hu⟩
    exact no_both hD hV (D (rho W.length j)).toNat (rho W.length j) (by omega) (by show U _; rw [rho_rho]; exact hj)
theorem chkE_zero {l : List StkT} : chkE l = 0 ↔ (l.length : Int) ≤ 8 ∧ (∀ s ∈ l, stkE s = 0) ∧ (l.map StkT.name).Nodup ∧ l.any agn = false ∧ (∀ s ∈ l, stackE s l = 0) ∧ (wavR (needsL l)).2 = 0 := by
  unfold chkE
  by_cases c1 : 8 < (l.length : Int)
  · rw [if_pos c1]; constructor
    · intro h; cases h
    · intro h; omega
  rw [if_neg c1]
  unfold ck1
  by_cases c2 : fstE stkE l = 0
  · rw [if_neg (not_not_intro c2)]
    have a2 := fstE_all.1 c2
    by_cases c3 : (l.map StkT.name).Nodup
    · rw [if_neg (not_not_intro c3)]
      unfold ck2
      cases c4 : l.any agn
      · rw [if_neg (by decide)]
        unfold ck3
        by_cases c5 : fstE (fun s => stackE s l) l = 0
        · rw [if_neg (not_not_intro c5)]
          exact ⟨fun h => ⟨by omega, a2, c3, rfl, fstE_all.1 c5, h⟩, fun h => h.2.2.2.2.2⟩
        · rw [if_pos c5]
          exact ⟨fun h => absurd h c5, fun h => absurd (fstE_all.2 h.2.2.2.2.1) c5⟩
      · rw [if_pos rfl]
        exact ⟨fun h => absurd h (by decide), fun h => absurd h.2.2.2.1 (by decide)⟩
    · rw [if_pos c3]
      exact ⟨fun h => absurd h (by decide), fun h => absurd h.2.2.1 c3⟩
  · rw [if_pos c2]
    exact ⟨fun h => absurd h c2, fun h => absurd (fstE_all.2 h.2.1) c2⟩
theorem chk_rev1 {l : List StkT} (h : chkE l = 0) : chkE l.reverse = 0 := by
  obtain ⟨h1, h2, h3, h4, h5, h6⟩ := chkE_zero.1 h
  refine chkE_zero.2 ⟨by rw [List.length_reverse]; exact h1, fun s hs => h2 s (List.mem_reverse.1 hs), ?_, ?_, fun s hs => ?_, wav_rev h3 h6⟩
  · rw [List.map_reverse]; exact (List.reverse_perm _).nodup_iff.2 h3
  · rw [List.any_reverse]; exact h4
  · rw [stackE_rev h3]; exact h5 s (List.mem_reverse.1 hs)
theorem chk_rev {l : List StkT} : chkE l.reverse = 0 ↔ chkE l = 0 :=
  ⟨fun h => by have := chk_rev1 h; rwa [List.reverse_reverse] at this, chk_rev1⟩
theorem ordN_len (l : List StkT) (s : StkT) : (ordN l s).length ≤ 4160 := by
  unfold ordN wavR
  split
  · simp
  · rename_i c
    exact flatW_len (newE_zero (by simpa using c)).1
theorem need_rng {l : List StkT} (h : (wavR (needsL l)).2 = 0) {i : Int} (h0 : 0 ≤ i) (hi : i < l.length) : ∀ x ∈ gI (needsL l) i, 0 ≤ x ∧ x < (l.length : Int) := fun x hx => by
  have hl : (needsL l).length = l.length := by simp [needsL]
  have h1 := List.all_eq_true.1 (List.all_eq_true.1 (newE_zero (wav_zero h).1).2 _ (gI_mem h0 (by rw [hl]; exact hi))) x hx
  rw [hl] at h1
  simpa using h1
def oneS : StkT := ⟨[97], [], [], []⟩
theorem chk_one : chkE [oneS] = 0 := by
  have e1 : stkE oneS = 0 := by
    rw [stkE, if_neg (by decide), if_neg (by decide)]; rfl
  have e2 : ∀ W, exprsS oneS W (sig0 oneS) = ⟨0, [], []⟩ := fun W => rfl
  have e3 : stackE oneS [oneS] = 0 := by
    rw [stackE, e2, if_neg (by decide)]; decide
  refine chkE_zero.2 ⟨by decide, fun s hs => by rw [List.mem_singleton.1 hs]; exact e1, by simp, by decide, fun s hs => by rw [List.mem_singleton.1 hs]; exact e3, ?_⟩
  show (wavR [(exprsS oneS [oneS] (sig0 oneS)).st]).2 = 0
  rw [e2]; decide
end Go.Proofs
end
section
namespace Go.Proofs
open Go Go.Aw Go.Sx
set_option maxRecDepth 100000
set_option maxHeartbeats 4000000 in
theorem u_TopCheckE (l : List StkT) (hE : chkE l ≠ 0) (m : AMem)  (K : AV → AMem → Prop) (hK : K (.bool true) m) : ACalls Try.prog 3 [.slice false (l.map stkAV)] m K := by
 have hR : chkE l.reverse ≠ 0 := fun h => hE (chk_rev.1 h)
 refine enter (c := cf [] [0] [2] [] [] []) (vs := [.av (.slice false (l.map stkAV))]) (L := []) (m := m) false tbOk Try.mixed Try.func3 rfl (k := 1) (by show fnOk [] _ _ _ = true; decide +kernel) rfl (Good.nil m) ?_
 refine ⟨fun F0 => ?_⟩
 have hbd0_0 : l.length ≤ 140737488355328 := bd_map (o := false) (F0 0).1
 refine call0 (fun _ => fun m K hK => u_CCheck [oneS] m K (fun h => absurd chk_one h) (fun _ => hK)) rfl ?_
 refine sq ?_
 refine mg [0] 30 ((!(0 == 0)) || (!(((needsL [oneS]).length : Int) == 1))) ?_ ?_
 · repeat' first
    | exact ⟨⟨_, rfl, by grind [SB.val]⟩, rfl⟩
    | refine an (fun _ => ?_) (fun _ => ?_)
    | refine ln ?_
 refine an (fun h1 => ?_) (fun h1 => ?_)
 · replace h1 : (0 ≠ 0) ∨ (((needsL [oneS]).length : Int) ≠ 1) := ((borT h1).imp (fun q => (ne_of_beq_false (bnT q))) (fun q => (ne_of_beq_false (bnT q))))
   refine rt0 rfl fun _ => ?_
   show K (.bool false) m
   rcases h1 with h | h
   · exact absurd rfl h
   · exact absurd rfl h
 replace h1 : (0 = 0) ∧ (((needsL [oneS]).length : Int) = 1) := ⟨(eq_of_beq (bnF (borL h1))), (eq_of_beq (bnF (borR h1)))⟩
 refine sq ?_
 refine callY 61 [] (σ := Bool) (fun lb1 => lb1 = true → (l.length : Int) ≤ 12) (fun lb1 => vB lb1) (fun lb1 => []) rfl (fun _ => rfl) (fun bs mm gd ht K hK => u_LightStacks l mm K (fun b hb => hK b hb)) ?_
 rintro lb1 hx1
 refine an (fun h2 => ?_) (fun h2 => ?_)
 · have hl12 := hx1 h2
   refine call0 (fun _ => fun m K hK => u_CCheck l m K (fun _ => hK) (fun h => absurd h hE)) rfl ?_
   refine sq ?_
   refine ln ?_
   refine an (by omega) ?_
   refine lp (σ := (List StkT) × Int) [] [0, 4, 5, 6, 7] 2 (fun ⟨back, i⟩ => ([(0, vL (l.map stkAV)), (4, .av (.err 61 (chkE l))), (5, .loc 1 0), (6, .own (back.map stkAV)), (7, vI i)], [.cells [vL (([oneS]).map stkAV), vL ((needsL [oneS]).map (lstAV intAV)), vL ((ordsL [oneS]).map (lstAV intAV))], .cells [vL [], vL [], vL []]], m)) (fun ⟨back, i⟩ => -1 ≤ i ∧ i < l.length ∧ back = (l.drop (i + 1).toNat).reverse) (fun ⟨back, i⟩ => (i + 1).toNat) ([], (l.length : Int) - 1) ⟨rfl, rfl⟩ ?_ ?_
   · try dsimp only
     exact ⟨by omega, by omega, by rw [List.drop_eq_nil_of_le (by omega)]; rfl⟩
   rintro ⟨back, i⟩ hI
   dsimp only at hI
   have hbl : (back.length : Int) ≤ l.length := by rw [hI.2.2, List.length_reverse, List.length_drop]; omega
   refine sq ?_
   refine an (fun h3 => ?_) (fun h3 => ?_)
   · refine sq ?_
     refine ix (by omega) ?_
     refine ap stkAV back ([gI l i] : List StkT) rfl rfl (fun _ => ⟨rfl, rfl⟩) (by (simp only [List.length_append, List.length_cons, List.length_nil]; omega)) ?_
     refine an (by omega) ?_
     refine ⟨(back ++ ([gI l i] : List StkT), i - 1), ⟨rfl, rfl⟩, ?_, ?_⟩
     · try dsimp only
       refine ⟨by omega, by omega, ?_⟩
       rw [show i - 1 + 1 = i from by omega, drop_gI (by omega) hI.2.1, List.reverse_cons, ← hI.2.2]
     try dsimp only
     omega
   obtain rfl : back = l.reverse := by rw [hI.2.2, show (i + 1).toNat = 0 from by omega]; rfl
   refine call0 (fun _ => fun m K hK => u_CCheck l.reverse m K (fun _ => hK) (fun h => absurd h hR)) rfl ?_
   refine sq ?_
   refine an (fun h4 => ?_) (fun h4 => ?_)
   · refine sq ?_
     refine an (fun h5 => ?_) (fun h5 => ?_)
     · exact absurd h5 hE
     exact rt0 rfl fun _ => hK
   refine rt0 rfl fun _ => ?_
   show K (.bool false) m
   exact absurd (show (chkE l == 0) = (chkE l.reverse == 0) by rw [beq_eq_false_iff_ne.2 hE, beq_eq_false_iff_ne.2 hR]) h4
 exact rt0 rfl fun _ => hK
set_option maxHeartbeats 8000000 in
theorem u_TopCheck0 (l : List StkT) (hE : chkE l = 0) (m : AMem)  (K : AV → AMem → Prop) (hK : K (.bool true) m) : ACalls Try.prog 3 [.slice false (l.map stkAV)] m K := by
 have hR : chkE l.reverse = 0 := chk_rev.2 hE
 obtain ⟨_, hS, hN, _, _, hW⟩ := chkE_zero.1 hE
 have hnl : (needsL l).length = l.length := by simp [needsL]
 have hol : (ordsL l).length = l.length := by simp [ordsL]
 have hnr : (needsL l.reverse).length = l.length := by simp [needsL]
 have hor : (ordsL l.reverse).length = l.length := by simp [ordsL]
 refine enter (c := cf [] [0] [2, 23, 32] [] [] []) (vs := [.av (.slice false (l.map stkAV))]) (L := []) (m := m) false tbOk Try.mixed Try.func3 rfl (k := 1) (by show fnOk [] _ _ _ = true; decide +kernel) rfl (Good.nil m) ?_
 refine ⟨fun F0 => ?_⟩
 have hbd0_0 : l.length ≤ 140737488355328 := bd_map (o := false) (F0 0).1
 refine call0 (fun _ => fun m K hK => u_CCheck [oneS] m K (fun h => absurd chk_one h) (fun _ => hK)) rfl ?_
 refine sq ?_
 refine mg [0] 30 ((!(0 == 0)) || (!(((needsL [oneS]).length : Int) == 1))) ?_ ?_
 · repeat' first
    | exact ⟨⟨_, rfl, by grind [SB.val]⟩, rfl⟩
    | refine an (fun _ => ?_) (fun _ => ?_)
    | refine ln ?_
 refine an (fun h1 => ?_) (fun h1 => ?_)
 · replace h1 : (0 ≠ 0) ∨ (((needsL [oneS]).length : Int) ≠ 1) := ((borT h1).imp (fun q => (ne_of_beq_false (bnT q))) (fun q => (ne_of_beq_false (bnT q))))
   refine rt0 rfl fun _ => ?_
   show K (.bool false) m
   rcases h1 with h | h
   · exact absurd rfl h
   · exact absurd rfl h
 replace h1 : (0 = 0) ∧ (((needsL [oneS]).length : Int) = 1) := ⟨(eq_of_beq (bnF (borL h1))), (eq_of_beq (bnF (borR h1)))⟩
 refine sq ?_
 refine callY 61 [] (σ := Bool) (fun lb1 => lb1 = true → (l.length : Int) ≤ 12) (fun lb1 => vB lb1) (fun lb1 => []) rfl (fun _ => rfl) (fun bs mm gd ht K hK => u_LightStacks l mm K (fun b hb => hK b hb)) ?_
 rintro lb1 hx1
 refine an (fun h2 => ?_) (fun h2 => ?_)
 · have hl12 := hx1 h2
   refine call0 (fun _ => fun m K hK => u_CCheck l m K (fun h => absurd hE h) (fun _ => hK)) rfl ?_
   refine sq ?_
   refine ln ?_
   refine an (by omega) ?_
   refine lp (σ := (List StkT) × Int) [] [0, 4, 5, 6, 7] 2 (fun ⟨back, i⟩ => ([(0, vL (l.map stkAV)), (4, .av (.err 61 0)), (5, .loc 1 0), (6, .own (back.map stkAV)), (7, vI i)], [.cells [vL (([oneS]).map stkAV), vL ((needsL [oneS]).map (lstAV intAV)), vL ((ordsL [oneS]).map (lstAV intAV))], .cells [vL (l.map stkAV), vL ((needsL l).map (lstAV intAV)), vL ((ordsL l).map (lstAV intAV))]], m)) (fun ⟨back, i⟩ => -1 ≤ i ∧ i < l.length ∧ back = (l.drop (i + 1).toNat).reverse) (fun ⟨back, i⟩ => (i + 1).toNat) ([], (l.length : Int) - 1) ⟨rfl, rfl⟩ ?_ ?_
   · try dsimp only
     exact ⟨by omega, by omega, by rw [List.drop_eq_nil_of_le (by omega)]; rfl⟩
   rintro ⟨back, i⟩ hI
   dsimp only at hI
   have hbl : (back.length : Int) ≤ l.length := by rw [hI.2.2, List.length_reverse, List.length_drop]; omega
   refine sq ?_
   refine an (fun h3 => ?_) (fun h3 => ?_)
   · refine sq ?_
     refine ix (by omega) ?_
     refine ap stkAV back ([gI l i] : List StkT) rfl rfl (fun _ => ⟨rfl, rfl⟩) (by (simp only [List.length_append, List.length_cons, List.length_nil]; omega)) ?_
     refine an (by omega) ?_
     refine ⟨(back ++ ([gI l i] : List StkT), i - 1), ⟨rfl, rfl⟩, ?_, ?_⟩
     · try dsimp only
       refine ⟨by omega, by omega, ?_⟩
       rw [show i - 1 + 1 = i from by omega, drop_gI (by omega) hI.2.1, List.reverse_cons, ← hI.2.2]
     try dsimp only
     omega
   obtain rfl : back = l.reverse := by rw [hI.2.2, show (i + 1).toNat = 0 from by omega]; rfl
   refine call0 (fun _ => fun m K hK => u_CCheck l.reverse m K (fun h => absurd hR h) (fun _ => hK)) rfl ?_
   refine sq ?_
   refine an (fun h4 => ?_) (fun h4 => ?_)
   · refine sq ?_
     refine an (fun h5 => ?_) (fun h5 => ?_)
     · refine ln ?_
       refine sq ?_
       refine lp (σ := Int) [] [5, 8, 10, 11] 3 (fun i2 => ([(5, .loc 1 0), (8, .loc 2 0), (10, vI (l.length : Int)), (11, vI i2)], [.cells [vL (([oneS]).map stkAV), vL ((needsL [oneS]).map (lstAV intAV)), vL ((ordsL [oneS]).map (lstAV intAV))], .cells [vL (l.map stkAV), vL ((needsL l).map (lstAV intAV)), vL ((ordsL l).map (lstAV intAV))], .cells [vL (l.reverse.map stkAV), vL ((needsL l.reverse).map (lstAV intAV)), vL ((ordsL l.reverse).map (lstAV intAV))]], m)) (fun i2 => 0 ≤ i2 ∧ i2 ≤ l.length) (fun i2 => l.length - i2.toNat) (0) ⟨rfl, rfl⟩ ?_ ?_
       · try dsimp only
         first | omega | (refine ⟨?_, ?_⟩ <;> first | omega | simp) | simp
       rintro i2 hI2
       refine sq ?_
       refine an (fun h6 => ?_) (fun h6 => ?_)
       · have hb : gI (needsL l.reverse) ((l.length : Int) - 1 - i2) = (gI (needsL l) i2).map (rho l.length) := needs_rev hN hI2.1 h6
         have ho : gI (ordsL l.reverse) ((l.length : Int) - 1 - i2) = gI (ordsL l) i2 := ords_rev hN hI2.1 h6
         have hin := need_rng hW hI2.1 h6
         have ha1 : ((gI (needsL l) i2).length : Int) ≤ 10000 := by
           rw [needsL, gI_mapS hI2.1 h6]; exact need_len (stk_ok (hS _ (gI_mem hI2.1 h6)))
         have ho1 : (gI (ordsL l) i2).length ≤ 4160 := by
           rw [ordsL, gI_mapS hI2.1 h6]; exact ordN_len _ _
         have hbl : (gI (needsL l.reverse) ((l.length : Int) - 1 - i2)).length = (gI (needsL l) i2).length := by rw [hb, List.length_map]
         refine sq ?_
         refine ix (by omega) ?_
         refine an (by omega) ?_
         refine an (by omega) ?_
         refine ix (by omega) ?_
         refine sq ?_
         refine mg [5, 8, 10, 11, 12, 13] 106 ((!(((gI (needsL l) i2).length : Int) == ((gI (needsL l.reverse) (((l.length : Int) - 1) - i2)).length : Int))) || (!(decide (gI (ordsL l) i2 = gI (ordsL l.reverse) (((l.length : Int) - 1) - i2))))) ?_ ?_
         · repeat' first
            | exact ⟨⟨_, rfl, by grind [SB.val]⟩, rfl⟩
            | refine an (fun _ => ?_) (fun _ => ?_)
            | refine ln ?_
            | refine ix (by omega) ?_
            | refine an (by omega) ?_
            | refine pure0 (fun _ => u_SameNumbers (gI (ordsL l) i2) (gI (ordsL l.reverse) (((l.length : Int) - 1) - i2)) (by omega)) ?_
         refine an (fun h7 => ?_) (fun h7 => ?_)
         · replace h7 : (((gI (needsL l) i2).length : Int) ≠ ((gI (needsL l.reverse) (((l.length : Int) - 1) - i2)).length : Int)) ∨ (decide (gI (ordsL l) i2 = gI (ordsL l.reverse) (((l.length : Int) - 1) - i2)) = false) := ((borT h7).imp (fun q => (ne_of_beq_false (bnT q))) (fun q => (bnT q)))
           refine rt0 rfl fun _ => ?_
           show K (.bool false) m
           rcases h7 with h | h
           · exact absurd (by rw [hbl]) h
           · rw [ho] at h; simp at h
         replace h7 : (((gI (needsL l) i2).length : Int) = ((gI (needsL l.reverse) (((l.length : Int) - 1) - i2)).length : Int)) ∧ (decide (gI (ordsL l) i2 = gI (ordsL l.reverse) (((l.length : Int) - 1) - i2)) = true) := ⟨(eq_of_beq (bnF (borL h7))), (bnF (borR h7))⟩
         refine lp (σ := Int) [] [5, 8, 10, 11, 12, 13, 14] 3 (fun k => ([(5, .loc 1 0), (8, .loc 2 0), (10, vI (l.length : Int)), (11, vI i2), (12, vL ((gI (needsL l) i2).map intAV)), (13, vL ((gI (needsL l.reverse) (((l.length : Int) - 1) - i2)).map intAV)), (14, vI k)], [.cells [vL (([oneS]).map stkAV), vL ((needsL [oneS]).map (lstAV intAV)), vL ((ordsL [oneS]).map (lstAV intAV))], .cells [vL (l.map stkAV), vL ((needsL l).map (lstAV intAV)), vL ((ordsL l).map (lstAV intAV))], .cells [vL (l.reverse.map stkAV), vL ((needsL l.reverse).map (lstAV intAV)), vL ((ordsL l.reverse).map (lstAV intAV))]], m)) (fun k => 0 ≤ k ∧ k ≤ (gI (needsL l) i2).length) (fun k => (gI (needsL l) i2).length - k.toNat) (0) ⟨rfl, rfl⟩ ?_ ?_
         · try dsimp only
           first | omega | (refine ⟨?_, ?_⟩ <;> first | omega | simp) | simp
         rintro k hI3
         refine sq ?_
         refine ln ?_
         refine an (fun h8 => ?_) (fun h8 => ?_)
         · have hak := hin _ (gI_mem hI3.1 h8)
           refine sq ?_
           refine sq ?_
           refine lp (σ := Bool × Int) [(15, 0)] [5, 8, 10, 11, 12, 13, 14, 15, 16] 3 (fun ⟨th, j⟩ => ([(5, .loc 1 0), (8, .loc 2 0), (10, vI (l.length : Int)), (11, vI i2), (12, vL ((gI (needsL l) i2).map intAV)), (13, vL ((gI (needsL l.reverse) (((l.length : Int) - 1) - i2)).map intAV)), (14, vI k), (15, vB th), (16, vI j)], [.cells [vL (([oneS]).map stkAV), vL ((needsL [oneS]).map (lstAV intAV)), vL ((ordsL [oneS]).map (lstAV intAV))], .cells [vL (l.map stkAV), vL ((needsL l).map (lstAV intAV)), vL ((ordsL l).map (lstAV intAV))], .cells [vL (l.reverse.map stkAV), vL ((needsL l.reverse).map (lstAV intAV)), vL ((ordsL l.reverse).map (lstAV intAV))]], m)) (fun ⟨th, j⟩ => 0 ≤ j ∧ j ≤ (gI (needsL l.reverse) ((l.length : Int) - 1 - i2)).length ∧ (k < j → th = true)) (fun ⟨th, j⟩ => (gI (needsL l.reverse) ((l.length : Int) - 1 - i2)).length - j.toNat) (false, 0) ⟨rfl, rfl⟩ ?_ ?_
           · try dsimp only
             first | omega | (refine ⟨?_, ?_⟩ <;> first | omega | simp) | simp
           rintro ⟨th, j⟩ hI4
           dsimp only at hI4
           refine sq ?_
           refine ln ?_
           refine an (fun h9 => ?_) (fun h9 => ?_)
           · refine sq ?_
             refine mg [5, 8, 10, 11, 12, 13, 14, 16] 15 (th || ((gI (gI (needsL l.reverse) (((l.length : Int) - 1) - i2)) j) == (((l.length : Int) - 1) - (gI (gI (needsL l) i2) k)))) ?_ ?_
             · repeat' first
                | exact ⟨⟨_, rfl, by grind [SB.val]⟩, rfl⟩
                | refine an (fun _ => ?_) (fun _ => ?_)
                | refine ix (by omega) ?_
                | refine an (by omega) ?_
             refine an (by omega) ?_
             refine ⟨((th || ((gI (gI (needsL l.reverse) (((l.length : Int) - 1) - i2)) j) == (((l.length : Int) - 1) - (gI (gI (needsL l) i2) k)))), j + 1), ⟨rfl, rfl⟩, ?_, ?_⟩
             · try dsimp only
               refine ⟨by omega, by omega, fun hkj => ?_⟩
               by_cases c : k < j
               · rw [hI4.2.2 c]; rfl
               · obtain rfl : j = k := by omega
                 have hq : gI (gI (needsL l.reverse) ((l.length : Int) - 1 - i2)) j = rho l.length (gI (gI (needsL l) i2) j) := by
                   rw [hb, gI_mapS hI4.1 h8]
                 rw [hq]; unfold rho; simp
             try dsimp only
             omega
           refine an (fun h10 => ?_) (fun h10 => ?_)
           · refine an (by omega) ?_
             refine ⟨(k + 1), ⟨rfl, rfl⟩, ?_, ?_⟩
             · try dsimp only
               (first | omega | (simp_all; done) | (simp_all; omega))
             try dsimp only
             omega
           refine rt0 rfl fun _ => ?_
           show K (.bool false) m
           have h := hI4.2.2 (by omega)
           rw [h] at h10; cases h10
         refine an (by omega) ?_
         refine ⟨(i2 + 1), ⟨rfl, rfl⟩, ?_, ?_⟩
         · try dsimp only
           (first | omega | (simp_all; done) | (simp_all; omega))
         try dsimp only
         omega
       exact rt0 rfl fun _ => hK
     exact rt0 rfl fun _ => hK
   refine rt0 rfl fun _ => ?_
   show K (.bool false) m
   exact absurd rfl h4
 exact rt0 rfl fun _ => hK
end Go.Proofs
end
section
namespace Go.Proofs
open Go Go.Aw Go.RowKit Go.WideShapes Go.ChangeShapes
set_option maxRecDepth 100000
theorem valIn_len (v : Val) : (valIn v).cells.length = 5 := by cases v; rfl
theorem fldIn_len (v : Str × Val) : (fldIn v).cells.length = 6 := by
  obtain ⟨s, v⟩ := v
  cases v; rfl
theorem rd_fld {n : Nat} (ih : ∀ k, k < n → Rd Try.prog k 46 valIn) : Rd Try.prog n 75 fldIn := by
  intro H enc W sp cs d ps h hw
  obtain ⟨hl, hf⟩ := rd_fields Try.underlying75 h hw
  obtain ⟨s, _, hs⟩ := hf 0 _ strAV rfl (fun _ _ => rd_string (by rfl)) (by decide)
  obtain ⟨v, _, hv⟩ := hf 1 _ valIn rfl (fun k hk => ih k hk) (by decide)
  refine ⟨(s, v), by rw [fldIn_len, hl]; rfl, fun i hi => ?_⟩
  rw [hl] at hi
  replace hi : i < 6 := hi
  cases v with
  | mk k n t l f =>
    match i, hi with
    | 0, _ => exact hs 0 (by decide)
    | 1, _ => exact hv 0 (by decide)
    | 2, _ => exact hv 1 (by decide)
    | 3, _ => exact hv 2 (by decide)
    | 4, _ => exact hv 3 (by decide)
    | 5, _ => exact hv 4 (by decide)
theorem rd_val (n : Nat) : Rd Try.prog n 46 valIn := by
  induction n using Nat.strongRecOn with
  | ind n ih =>
    intro H enc W sp cs d ps h hw
    obtain ⟨hl, hf⟩ := rd_fields Try.underlying46 h hw
    obtain ⟨k, _, hk⟩ := hf 0 _ intAV rfl (fun _ _ => rd_int (by rfl)) (by decide)
    obtain ⟨m, _, hm⟩ := hf 1 _ intAV rfl (fun _ _ => rd_int (by rfl)) (by decide)
    obtain ⟨s, _, hs⟩ := hf 2 _ strAV rfl (fun _ _ => rd_string (by rfl)) (by decide)
    obtain ⟨l, _, hll⟩ := hf 3 _ (lstAV valIn) rfl (fun j hj => rd_slice (by rfl) (by rfl) (by decide) (by decide) valIn_len (fun i hi => ih i (by omega))) (by decide)
    obtain ⟨f, _, hff⟩ := hf 4 _ (lstAV fldIn) rfl (fun j hj => rd_slice (by rfl) (by rfl) (by decide) (by decide) fldIn_len (fun i hi => rd_fld (fun q hq => ih q (by omega)))) (by decide)
    refine ⟨.mk k m s l f, by rw [valIn_len, hl]; rfl, fun i hi => ?_⟩
    rw [hl] at hi
    replace hi : i < 5 := hi
    rw [valIn_eq]
    match i, hi with
    | 0, _ => exact hk 0 (by decide)
    | 1, _ => exact hm 0 (by decide)
    | 2, _ => exact hs 0 (by decide)
    | 3, _ => exact hll 0 (by decide)
    | 4, _ => exact hff 0 (by decide)
theorem expIn_len (e : Exp) : (expIn e).cells.length = 10 := by cases e; rfl
theorem rd_exp (n : Nat) : Rd Try.prog n 56 expIn := by
  induction n using Nat.strongRecOn with
  | ind n ih =>
    intro H enc W sp cs d ps h hw
    obtain ⟨hl, hf⟩ := rd_fields Try.underlying56 h hw
    obtain ⟨k, _, hk⟩ := hf 0 _ intAV rfl (fun _ _ => rd_int (by rfl)) (by decide)
    obtain ⟨v, _, hv⟩ := hf 1 _ valIn rfl (fun _ _ => rd_val _) (by decide)
    obtain ⟨s, _, hs⟩ := hf 2 _ strAV rfl (fun _ _ => rd_string (by rfl)) (by decide)
    obtain ⟨t, _, ht⟩ := hf 3 _ strAV rfl (fun _ _ => rd_string (by rfl)) (by decide)
    obtain ⟨a, _, ha⟩ := hf 4 _ (lstAV expIn) rfl (fun j hj => rd_slice (by rfl) (by rfl) (by decide) (by decide) expIn_len (fun i hi => ih i (by omega))) (by decide)
    obtain ⟨ns, _, hns⟩ := hf 5 _ (lstAV strAV) rfl (fun _ _ => rd_slice (by rfl) (by rfl) (by decide) (by decide) (fun _ => rfl) (fun _ _ => rd_string (by rfl))) (by decide)
    refine ⟨.mk k v s t a ns, by rw [expIn_len, hl]; rfl, fun i hi => ?_⟩
    rw [hl] at hi
    replace hi : i < 10 := hi
    rw [expIn_eq]
    rw [valIn_eq] at hv
    match i, hi with
    | 0, _ => exact hk 0 (by decide)
    | 1, _ => exact hv 0 (by decide)
    | 2, _ => exact hv 1 (by decide)
    | 3, _ => exact hv 2 (by decide)
    | 4, _ => exact hv 3 (by decide)
    | 5, _ => exact hv 4 (by decide)
    | 6, _ => exact hs 0 (by decide)
    | 7, _ => exact ht 0 (by decide)
    | 8, _ => exact ha 0 (by decide)
    | 9, _ => exact hns 0 (by decide)
theorem rd_inp (n : Nat) : Rd Try.prog n 48 inAV := by
  intro H enc W sp cs d ps h hw
  obtain ⟨hl, hf⟩ := rd_fields Try.underlying48 h hw
  obtain ⟨s, _, h0⟩ := hf 0 _ strAV rfl (fun _ _ => rd_string (by rfl)) (by decide)
  obtain ⟨v, _, h1⟩ := hf 1 _ valIn rfl (fun _ _ => rd_val _) (by decide)
  rw [valIn_eq] at h1
  refine ⟨(s, v), hl.symm, fun i hi => ?_⟩
  rw [hl] at hi
  replace hi : i < 6 := hi
  match i, hi with
  | 0, _ => exact h0 0 (by decide)
  | 1, _ => exact h1 0 (by decide)
  | 2, _ => exact h1 1 (by decide)
  | 3, _ => exact h1 2 (by decide)
  | 4, _ => exact h1 3 (by decide)
  | 5, _ => exact h1 4 (by decide)
theorem rd_prt (n : Nat) : Rd Try.prog n 58 prtAV := by
  intro H enc W sp cs d ps h hw
  obtain ⟨hl, hf⟩ := rd_fields Try.underlying58 h hw
  obtain ⟨s, _, h0⟩ := hf 0 _ strAV rfl (fun _ _ => rd_string (by rfl)) (by decide)
  obtain ⟨e, _, h1⟩ := hf 1 _ expIn rfl (fun _ _ => rd_exp _) (by decide)
  rw [expIn_eq] at h1
  refine ⟨(s, e), hl.symm, fun i hi => ?_⟩
  rw [hl] at hi
  replace hi : i < 11 := hi
  match i, hi with
  | 0, _ => exact h0 0 (by decide)
  | 1, _ => exact h1 0 (by decide)
  | 2, _ => exact h1 1 (by decide)
  | 3, _ => exact h1 2 (by decide)
  | 4, _ => exact h1 3 (by decide)
  | 5, _ => exact h1 4 (by decide)
  | 6, _ => exact h1 5 (by decide)
  | 7, _ => exact h1 6 (by decide)
  | 8, _ => exact h1 7 (by decide)
  | 9, _ => exact h1 8 (by decide)
  | 10, _ => exact h1 9 (by decide)
theorem rd_out (n : Nat) : Rd Try.prog n 60 prtAV := by
  intro H enc W sp cs d ps h hw
  obtain ⟨hl, hf⟩ := rd_fields Try.underlying60 h hw
  obtain ⟨s, _, h0⟩ := hf 0 _ strAV rfl (fun _ _ => rd_string (by rfl)) (by decide)
  obtain ⟨e, _, h1⟩ := hf 1 _ expIn rfl (fun _ _ => rd_exp _) (by decide)
  rw [expIn_eq] at h1
  refine ⟨(s, e), hl.symm, fun i hi => ?_⟩
  rw [hl] at hi
  replace hi : i < 11 := hi
  match i, hi with
  | 0, _ => exact h0 0 (by decide)
  | 1, _ => exact h1 0 (by decide)
  | 2, _ => exact h1 1 (by decide)
  | 3, _ => exact h1 2 (by decide)
  | 4, _ => exact h1 3 (by decide)
  | 5, _ => exact h1 4 (by decide)
  | 6, _ => exact h1 5 (by decide)
  | 7, _ => exact h1 6 (by decide)
  | 8, _ => exact h1 7 (by decide)
  | 9, _ => exact h1 8 (by decide)
  | 10, _ => exact h1 9 (by decide)
theorem rd_res (n : Nat) : Rd Try.prog n 52 resAV := by
  intro H enc W sp cs d ps h hw
  obtain ⟨hl, hf⟩ := rd_fields Try.underlying52 h hw
  obtain ⟨k, _, h0⟩ := hf 0 _ strAV rfl (fun _ _ => rd_string (by rfl)) (by decide)
  obtain ⟨s, _, h1⟩ := hf 1 _ strAV rfl (fun _ _ => rd_string (by rfl)) (by decide)
  obtain ⟨p, _, h2⟩ := hf 2 _ (lstAV prtAV) rfl (fun _ _ => rd_slice (by rfl) (by rfl) (by decide) (by decide) (fun _ => rfl) (fun _ _ => rd_prt _)) (by decide)
  refine ⟨⟨k, s, p⟩, hl.symm, fun i hi => ?_⟩
  rw [hl] at hi
  replace hi : i < 3 := hi
  match i, hi with
  | 0, _ => exact h0 0 (by decide)
  | 1, _ => exact h1 0 (by decide)
  | 2, _ => exact h2 0 (by decide)
theorem rd_stk (n : Nat) : Rd Try.prog n 34 stkAV := by
  intro H enc W sp cs d ps h hw
  obtain ⟨hl, hf⟩ := rd_fields Try.underlying34 h hw
  obtain ⟨s, _, h0⟩ := hf 0 _ strAV rfl (fun _ _ => rd_string (by rfl)) (by decide)
  obtain ⟨a, _, h1⟩ := hf 1 _ (lstAV inAV) rfl (fun _ _ => rd_slice (by rfl) (by rfl) (by decide) (by decide) (fun _ => rfl) (fun _ _ => rd_inp _)) (by decide)
  obtain ⟨b, _, h2⟩ := hf 2 _ (lstAV resAV) rfl (fun _ _ => rd_slice (by rfl) (by rfl) (by decide) (by decide) (fun _ => rfl) (fun _ _ => rd_res _)) (by decide)
  obtain ⟨c, _, h3⟩ := hf 3 _ (lstAV prtAV) rfl (fun _ _ => rd_slice (by rfl) (by rfl) (by decide) (by decide) (fun _ => rfl) (fun _ _ => rd_out _)) (by decide)
  refine ⟨⟨s, a, b, c⟩, hl.symm, fun i hi => ?_⟩
  rw [hl] at hi
  replace hi : i < 4 := hi
  match i, hi with
  | 0, _ => exact h0 0 (by decide)
  | 1, _ => exact h1 0 (by decide)
  | 2, _ => exact h2 0 (by decide)
  | 3, _ => exact h3 0 (by decide)
end Go.Proofs
end
