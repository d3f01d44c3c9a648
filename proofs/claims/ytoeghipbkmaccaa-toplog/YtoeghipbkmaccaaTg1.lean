import Derived.Test.YtoeghipbkmaccaaProg
import Derived.Test.YtoeghipbkmaccaaMix
import Derived.Test.YtoeghipbkmaccaaWxh
import Derived.Test.YtoeghipbkmaccaaDk1
namespace Go.Proofs
open Go Go.Aw
set_option maxRecDepth 100000


abbrev LN : Str := [108, 111, 103]
theorem ln_ok : nameF LN = true := by decide
theorem mget_perm {l l' : List (Str × Str)} (hp : l.Perm l') (hn : (l'.map Prod.fst).Nodup) (k : Str) : mget l k = mget l' k := by
  have hi : ∀ {l : List (Str × Str)} {k v : Str}, (l.map Prod.fst).Nodup → ((k, v) ∈ l ↔ mget l k = some v) := fun {l k v} hn => by
    induction l with
    | nil => simp [mget]
    | cons p r ih =>
      obtain ⟨a, b⟩ := p
      simp only [List.map_cons, List.nodup_cons] at hn
      simp only [List.mem_cons, mget]
      split
      · rename_i h; subst h
        constructor
        · rintro (h | h)
          · injection h with _ h; rw [h]
          · exact absurd (List.mem_map_of_mem (f := Prod.fst) h) hn.1
        · intro h; injection h with h; subst h; exact .inl rfl
      · rename_i h
        rw [← ih hn.2]
        constructor
        · rintro (h2 | h2)
          · injection h2 with h2 _; exact absurd h2.symm h
          · exact h2
        · exact .inr
  have hn' : (l.map Prod.fst).Nodup := ((hp.map Prod.fst).nodup_iff).2 hn
  cases h : mget l' k with
  | none =>
    cases h2 : mget l k with
    | none => rfl
    | some v =>
      have := (hi hn).1 ((hp.mem_iff).1 ((hi hn').2 h2))
      rw [h] at this; cases this
  | some v => exact (hi hn').1 ((hp.mem_iff).2 ((hi hn).2 h))
def restS (s : DSt) (keep torn : Int) (nw : List (Str × Str)) : DSt := ⟨restR s keep torn, nw, [], -1, false, s.steps⟩
theorem restR_bnd {s : DSt} {N : Nat} (h : DInv N s) (keep torn : Int) : ∀ p ∈ restR s keep torn, p.2.length ≤ 4000 * N := by
  have hc := clampI_b keep s.wait.length
  have ht := clampI_b torn (gI s.wait (clampI keep s.wait.length)).data.length
  have hb := fun B (hB : ∀ p ∈ s.kept, p.2.length ≤ B) => applyL_bnd (cs := s.wait.take (clampI keep s.wait.length).toNat) (fun c hc => h.cd c (List.mem_of_mem_take hc)) (l := s.kept) (B := B) hB
  have hN : s.wait.length ≤ N := by have := h.kl; omega
  have hb1 := hb (4000 * N - 4000 * s.wait.length) (fun p hp => by have := h.kb p hp; omega)
  rw [List.length_take] at hb1
  unfold restR restK
  split
  · rename_i h1
    have hcd := h.cd _ (gI_mem (l := s.wait) hc.1 h1.1)
    refine fun p hp => ?_
    have := applyC_bnd hb1.2 (c := { gI s.wait (clampI keep s.wait.length) with data := sub (gI s.wait (clampI keep s.wait.length)).data 0 (tornOf s keep torn) }) (by
      show (sub (gI s.wait (clampI keep s.wait.length)).data 0 (tornOf s keep torn)).length ≤ 4000
      rw [sub0_take]; simp; omega) p hp
    omega
  · intro p hp
    have := hb1.2 p hp
    omega
theorem restS_inv {s : DSt} {N : Nat} (h : DInv N s) {keep torn : Int} {nw : List (Str × Str)} (hp : nw.Perm (restR s keep torn)) : DInv (N + 1) (restS s keep torn nw) := by
  have hb := restR_bnd h keep torn
  have hl := restR_len s keep torn
  have hk := h.kl
  refine ⟨h.st0, by have := h.st1; show s.steps ≤ _; omega, by show (-1 : Int) ≤ -1; omega, by show (-1 : Int) ≤ _; omega, by show (restR s keep torn).length + 0 ≤ _; omega, fun p hq => ?_, (fun c hc => by cases hc), by show nw.length ≤ _; rw [hp.length_eq]; omega, fun p hq => ?_⟩
  · have := hb p hq
    show p.2.length + 4000 * 0 ≤ _; omega
  · have := hb p (hp.mem_iff.1 hq)
    omega
theorem allF_bnd {l : List Str} (h : ∀ r ∈ l, r.length ≤ 300) : (allF l).length ≤ 306 * l.length := by
  induction l with
  | nil => simp [allF]
  | cons t l ih =>
    have e : allF (t :: l) = framedL t ++ allF l := by simp [allF]
    have h1 := h t (by simp)
    have h2 := ih (fun r hr => h r (by simp [hr]))
    rw [e, List.length_append, framedL_len, List.length_cons]; omega
/-- What an open log has while its disk may fall. -/
structure JL (s : DSt) (want : List Str) (z : Int) (N : Nat) : Prop where
  dn : s.down = false
  wt : s.wait = []
  now : mget s.now LN = some (allF want)
  kep : mget s.kept LN = some (allF want)
  siz : z = (allF want).length
  rcs : ∀ r ∈ want, r.length ≤ 300
  nd : (s.kept.map Prod.fst).Nodup
  inv : DInv N s
/-- .. behind which it may have fallen. -/
structure Fell (s : DSt) (want last : List Str) (N : Nat) : Prop where
  kep : mget s.kept LN = some (allF want)
  wt : s.wait = [] ∨ ∃ t, s.wait = [⟨LN, framedL t, [], 2⟩] ∧ last = want ++ [t] ∧ t.length ≤ 300 ∧ (allF want).length + t.length + 6 ≤ 4000
  sm : (allF want).length ≤ 4000
  rcs : ∀ r ∈ want, r.length ≤ 300
  nd : (s.kept.map Prod.fst).Nodup
  inv : DInv N s
theorem JL.fell {s : DSt} {want last : List Str} {z : Int} {N : Nat} (h : JL s want z N) (hz : z ≤ 4000) : Fell s want last N := ⟨h.kep, .inl h.wt, by have := h.siz; omega, h.rcs, h.nd, h.inv⟩
theorem mget_mput_eq (l : List (Str × Str)) (k v : Str) : mget (mput l k v) k = some v := mget_mput l k v
theorem stepF_or {s : DSt} (h : s.down = false) : ((stepF s).2 = 10 ∧ (stepF s).1.down = true) ∨ ((stepF s).2 = 0 ∧ (stepF s).1.down = false) := by
  unfold stepF
  rw [if_neg (by simp [h])]
  split
  · exact .inl ⟨rfl, rfl⟩
  · exact .inr ⟨rfl, h⟩
theorem JL.add {s : DSt} {want : List Str} {z : Int} {N : Nat} {t : Str} (h : JL s want z N) (ht : t.length ≤ 300) (hz : z + t.length + 6 ≤ 4000) :
    ((addR s LN want z t).2.1 = 0 ∧ JL (addR s LN want z t).1 (want ++ [t]) (addR s LN want z t).2.2.2 (N + 2) ∧ (addR s LN want z t).2.2.1 = want ++ [t] ∧ (addR s LN want z t).2.2.2 = z + t.length + 6) ∨
    ((addR s LN want z t).2.1 = 10 ∧ Fell (addR s LN want z t).1 want (want ++ [t]) (N + 2)) := by
  have hfl := framedL_len t
  have hsz := h.siz
  have hsn : allF (want ++ [t]) = allF want ++ framedL t := allF_snoc want t
  have hrc : ∀ r ∈ want ++ [t], r.length ≤ 300 := fun r hr => by
    rcases List.mem_append.1 hr with hr | hr
    · exact h.rcs r hr
    · simp at hr; subst hr; exact ht
  have hm : mayR s LN (((mget s.now LN).getD []).length + (framedL t).length) = 0 := mayR_ok ln_ok (by rw [h.now]; simp; omega) (.inl (by rw [h.now]; rfl))
  have hinv : DInv (N + 2) (addR s LN want z t).1 := addR_inv h.inv
  have hk := stepF_keep s
  unfold addR at hinv ⊢
  rw [if_neg (by omega)] at hinv ⊢
  have ha : appR s LN (framedL t) = doF s ⟨LN, framedL t, [], 2⟩ := by
    unfold appR; rw [if_neg (by omega), if_neg (by rw [hm]; simp)]
  rw [ha] at hinv ⊢
  rcases stepF_or h.dn with h1 | h1
  · have hd : doF s ⟨LN, framedL t, [], 2⟩ = stepF s := by unfold doF; rw [if_pos (by rw [h1.1]; decide)]
    rw [hd] at hinv ⊢
    rw [if_pos (by rw [h1.1]; decide)] at hinv ⊢
    exact .inr ⟨h1.1, by rw [hk.1]; exact h.kep, .inl (by rw [hk.2.2.1]; exact h.wt), by omega, h.rcs, by rw [hk.1]; exact h.nd, hinv⟩
  · have hd : doF s ⟨LN, framedL t, [], 2⟩ = ({ (stepF s).1 with now := applyC s.now ⟨LN, framedL t, [], 2⟩, wait := s.wait ++ [⟨LN, framedL t, [], 2⟩] }, 0) := by unfold doF; rw [if_neg (by rw [h1.1]; decide)]
    rw [hd] at hinv ⊢
    rw [if_neg (by simp)] at hinv ⊢
    generalize hs' : ({ (stepF s).1 with now := applyC s.now ⟨LN, framedL t, [], 2⟩, wait := s.wait ++ [⟨LN, framedL t, [], 2⟩] } : DSt) = s' at hinv ⊢
    have e1 : s'.kept = s.kept := by rw [← hs']; exact hk.1
    have e2 : s'.wait = [⟨LN, framedL t, [], 2⟩] := by rw [← hs', h.wt]; rfl
    have e3 : s'.down = false := by rw [← hs']; exact h1.2
    have e4 : mget s'.now LN = some (allF want ++ framedL t) := by
      rw [← hs']
      show mget (applyC s.now ⟨LN, framedL t, [], 2⟩) LN = _
      rw [applyC, if_neg (by simp), if_pos rfl]
      show mget (mput s.now LN ((mget s.now LN).getD [] ++ framedL t)) LN = _
      rw [mget_mput_eq, h.now]; rfl
    have hk' := stepF_keep s'
    rcases stepF_or e3 with h2 | h2
    · have hy : syncF s' = stepF s' := by unfold syncF; rw [if_pos (by rw [h2.1]; decide)]
      rw [hy] at hinv ⊢
      rw [if_pos (by rw [h2.1]; decide)] at hinv ⊢
      exact .inr ⟨h2.1, by rw [hk'.1, e1]; exact h.kep, .inr ⟨t, by rw [hk'.2.2.1, e2], rfl, ht, by omega⟩, by omega, h.rcs, by rw [hk'.1, e1]; exact h.nd, hinv⟩
    · have hy : (syncF s').2 = 0 ∧ (syncF s').1.now = s'.now ∧ (syncF s').1.wait = [] ∧ (syncF s').1.kept = applyL s'.kept s'.wait ∧ (syncF s').1.down = false := by
        have hz : ¬ (stepF s').2 ≠ 0 := by rw [h2.1]; simp
        refine ⟨?_, syncF_now s', ?_, ?_, ?_⟩ <;> (unfold syncF; rw [if_neg hz])
        exact h2.2
      rw [if_neg (by rw [hy.1]; simp)] at hinv ⊢
      have ek : (syncF s').1.kept = applyC s.kept ⟨LN, framedL t, [], 2⟩ := by rw [hy.2.2.2.1, e1, e2]; rfl
      refine .inl ⟨rfl, ⟨hy.2.2.2.2, hy.2.2.1, by show mget (syncF s').1.now LN = _; rw [hy.2.1, e4, hsn], ?_, ?_, hrc, ?_, hinv⟩, rfl, by show z + (t.length + 6) = _; omega⟩
      · show mget (syncF s').1.kept LN = _
        rw [ek, applyC, if_neg (by simp), if_pos rfl]
        show mget (mput s.kept LN ((mget s.kept LN).getD [] ++ framedL t)) LN = _
        rw [mget_mput_eq, h.kep, hsn]; rfl
      · show z + (t.length + 6) = _
        rw [hsn, List.length_append]; omega
      · show ((syncF s').1.kept.map Prod.fst).Nodup
        rw [ek]; exact applyC_nd h.nd
theorem splitF_torn {s : Str} {t : Str} (ht : t.length ≤ 400) : ∀ (l : List Str) (n : Nat) (a : Int) (out : List Str) (k : Nat), 0 ≤ a → a ≤ s.length → k < (framedL t).length → s.drop a.toNat = allF l ++ (framedL t).take k → (∀ r ∈ l, r.length ≤ 400) → s.length - a < n → (splitF n s a out).1 = out ++ l
  | [], n, a, out, k, h0, h1, hk, hd, _, hn => by
    have hfl := framedL_len t
    have hd' : s.drop a.toNat = (framedL t).take k := by simpa [allF] using hd
    have hlen : (s.length : Int) = a + k := by
      have := congrArg List.length hd'
      rw [List.length_drop, List.length_take] at this; omega
    cases n with
    | zero => omega
    | succ n =>
      rw [splitF]
      by_cases h6 : (s.length : Int) < a + 6
      · rw [if_pos (by omega)]; simp
      · rw [if_neg (by omega)]
        have hL : lenAt s a = t.length := by
          have e0 : gI s a = u8n t.length := by
            have := gI_drop (s := s) (a := a) (k := 0) h0 (by omega)
            rw [Int.add_zero] at this
            rw [← this, hd']
            have hk1 : ∃ j, k = j + 6 := ⟨k - 6, by omega⟩
            obtain ⟨j, rfl⟩ := hk1
            rfl
          have e1 : gI s (a + 1) = u8n (t.length / 256) := by
            have := gI_drop (s := s) (a := a) (k := 1) h0 (by omega)
            rw [← this, hd']
            have hk1 : ∃ j, k = j + 6 := ⟨k - 6, by omega⟩
            obtain ⟨j, rfl⟩ := hk1
            rfl
          unfold lenAt
          rw [e0, e1]
          simp [u8n]
          omega
        rw [if_pos (by rw [hL]; omega)]; simp
  | r :: l, n, a, out, k, h0, h1, hk, hd, hl, hn => by
    have ht := hl r (by simp)
    have hd' : s.drop a.toNat = framedL r ++ (allF l ++ (framedL t).take k) := by rw [hd]; simp [allF]
    have hfl := framedL_len r
    have hlen : (s.length : Int) = a + (r.length + 6) + (allF l ++ (framedL t).take k).length := by
      have := congrArg List.length hd'
      rw [List.length_drop, List.length_append, hfl] at this; omega
    have hL : lenAt s a = r.length := by
      have e0 : gI s a = u8n r.length := by
        have := gI_drop (s := s) (a := a) (k := 0) h0 (by omega)
        rw [Int.add_zero] at this
        rw [← this, hd']; rfl
      have e1 : gI s (a + 1) = u8n (r.length / 256) := by
        have := gI_drop (s := s) (a := a) (k := 1) h0 (by omega)
        rw [← this, hd']; rfl
      unfold lenAt
      rw [e0, e1]
      simp [u8n]
      omega
    have hs1 : sub s a (a + 6 + r.length) = framedL r := by
      unfold sub
      rw [hd', show (a + 6 + (r.length : Int) - a).toNat = (framedL r).length by omega]
      simp
    have hs2 : sub s (a + 6) (a + 6 + r.length) = r := by
      unfold sub
      have e : (a + 6).toNat = a.toNat + 6 := by omega
      rw [e, ← List.drop_drop, hd', show (a + 6 + (r.length : Int) - (a + 6)).toNat = r.length by omega]
      simp [framedL]
    obtain ⟨n, rfl⟩ : ∃ k, n = k + 1 := ⟨n - 1, by omega⟩
    rw [splitF, if_neg (by omega), hL, if_neg (by omega), hs1, hs2, if_neg (by simp)]
    rw [splitF_torn ‹t.length ≤ 400› l n (a + 6 + r.length) (out ++ [r]) k (by omega) (by omega) hk ?_ (fun r hr => hl r (by simp [hr])) (by omega)]
    · simp
    · have e : (a + 6 + (r.length : Int)).toNat = a.toNat + (framedL r).length := by omega
      rw [e, ← List.drop_drop, hd']; simp
theorem splitR_torn {l : List Str} {t : Str} (ht : t.length ≤ 400) (h : ∀ r ∈ l, r.length ≤ 400) {k : Nat} (hk : k < (framedL t).length) : (splitR (allF l ++ (framedL t).take k)).1 = l := by
  have := splitF_torn (s := allF l ++ (framedL t).take k) ht l ((allF l ++ (framedL t).take k).length + 1) 0 [] k (by omega) (by omega) hk (by simp) h (by omega)
  simpa [splitR] using this
theorem Fell.rest {s : DSt} {want last : List Str} {N : Nat} (h : Fell s want last N) {keep torn : Int} {nw : List (Str × Str)} (hp : nw.Perm (restR s keep torn)) :
    ∃ a, mget (restS s keep torn nw).now LN = some a ∧ ((splitR a).1 = want ∨ (splitR a).1 = last) ∧ a.length ≤ 4000 ∧ Okd (restS s keep torn nw) ∧ DInv (N + 1) (restS s keep torn nw) := by
  have hinv := restS_inv h.inv hp
  have hok : Okd (restS s keep torn nw) := ⟨rfl, rfl⟩
  have hg : mget (restS s keep torn nw).now LN = mget (restR s keep torn) LN := mget_perm hp (restR_nd h.nd _ _) LN
  have hsm := h.sm
  have hr4 : ∀ r ∈ want, r.length ≤ 400 := fun r hr => by have := h.rcs r hr; omega
  have hsame : (splitR (allF want)).1 = want := by rw [splitR_back hr4]
  rcases h.wt with hw | ⟨t, hw, hl, ht, hts⟩
  · refine ⟨allF want, ?_, .inl hsame, by omega, hok, hinv⟩
    rw [hg]
    unfold restR restK
    rw [hw, if_neg (by rintro ⟨h1, _⟩; have := clampI_b keep 0; exact absurd h1 (by show ¬ clampI keep 0 < ((0 : Nat) : Int); omega))]
    simpa [applyL] using h.kep
  · have hfl := framedL_len t
    have happ : ∀ x : Str, mget (applyC s.kept ⟨LN, x, [], 2⟩) LN = some (allF want ++ x) := fun x => by
      rw [applyC, if_neg (by simp), if_pos rfl]
      show mget (mput s.kept LN ((mget s.kept LN).getD [] ++ x)) LN = _
      rw [mget_mput_eq, h.kep]; rfl
    have hcl := clampI_b keep 1
    have hw1 : s.wait.length = 1 := by rw [hw]; rfl
    by_cases hk : clampI keep 1 = 0
    · have hg0 : gI s.wait (clampI keep s.wait.length) = ⟨LN, framedL t, [], 2⟩ := by rw [hw1, hk, hw]; rfl
      have htb := clampI_b torn (framedL t).length
      have hT : tornOf s keep torn = clampI torn (framedL t).length := by unfold tornOf; rw [hg0]
      have hR : restR s keep torn = if sub (framedL t) 0 (clampI torn (framedL t).length) ≠ [] then applyC s.kept ⟨LN, sub (framedL t) 0 (clampI torn (framedL t).length), [], 2⟩ else s.kept := by
        unfold restR restK
        rw [hT, hg0, hw1, hk]
        by_cases he : sub (framedL t) 0 (clampI torn (framedL t).length) = []
        · rw [if_neg (by rintro ⟨_, _, h3⟩; exact h3 he), if_neg (by simp [he])]; simp [applyL]
        · rw [if_pos ⟨by omega, by simp, he⟩, if_pos he]; simp [applyL]
      rw [hR] at hg
      rw [sub0_take] at hg
      by_cases he : (framedL t).take (clampI torn (framedL t).length).toNat = []
      · rw [if_neg (by simp [he])] at hg
        exact ⟨allF want, by rw [hg]; exact h.kep, .inl hsame, by omega, hok, hinv⟩
      · rw [if_pos he, happ] at hg
        refine ⟨_, hg, ?_, by rw [List.length_append, List.length_take]; omega, hok, hinv⟩
        by_cases hf : (clampI torn (framedL t).length).toNat < (framedL t).length
        · exact .inl (splitR_torn (by omega) hr4 hf)
        · rw [List.take_of_length_le (by omega), ← allF_snoc, ← hl]
          refine .inr ?_
          rw [splitR_back (fun r hr => by
            rw [hl] at hr
            rcases List.mem_append.1 hr with hr | hr
            · exact hr4 r hr
            · simp at hr; subst hr; omega)]
    · have hk1 : clampI keep 1 = 1 := by omega
      have hR : restR s keep torn = applyC s.kept ⟨LN, framedL t, [], 2⟩ := by
        unfold restR restK
        rw [hw1, hk1, hw, if_neg (by simp)]; rfl
      rw [hR, happ] at hg
      refine ⟨_, hg, .inr ?_, by rw [List.length_append]; omega, hok, hinv⟩
      rw [← allF_snoc, ← hl, splitR_back (fun r hr => by
        rw [hl] at hr
        rcases List.mem_append.1 hr with hr | hr
        · exact hr4 r hr
        · simp at hr; subst hr; omega)]
theorem openG {s : DSt} {n a : Str} {N : Nat} (h : Okd s) (hn : nameF n = true) (ha : mget s.now n = some a) (hz : a.length ≤ 4000) (hd : DInv N s) : openR s n = ((openR s n).1, 0, ((splitR a).1, (splitR a).2)) ∧ LogI (openR s n).1 n (splitR a).1 (splitR a).2 ∧ DInv (N + 2) (openR s n).1 := by
  have k := openR_ok h hn ha hz
  have k2 := k.2.1
  rw [k.2.2] at k2
  exact ⟨Prod.ext rfl (Prod.ext k.1 k.2.2), k2, openR_inv hd⟩
theorem openG2 {s : DSt} {n : Str} {l : List Str} {z : Int} {N : Nat} (h : LogI s n l z) (hn : nameF n = true) (hd : DInv N s) : openR s n = ((openR s n).1, 0, (l, z)) ∧ LogI (openR s n).1 n l z ∧ DInv (N + 2) (openR s n).1 := by
  have k := openR_again h hn
  exact ⟨Prod.ext rfl (Prod.ext k.1 k.2.2), k.2.1, openR_inv hd⟩

end Go.Proofs
