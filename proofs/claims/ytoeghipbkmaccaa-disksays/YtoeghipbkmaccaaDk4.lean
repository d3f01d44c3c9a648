/-
  DERIVED: THE SHELF's CONTRACTS AT THIS DUMP, IN PLAIN WORDS (tools/lay-plain.mjs out of 'YtoeSortL.lean', which tools/lay-shelf.mjs wrote): THE SAME DECLARATIONS UNDER THE SAME NAMES: 'import', 'namespace', 'open', 'def', 'theorem' AND NOTHING ELSE: no command of the shelf's: FOR A HAND-IN. Each laying: the table of numbers ('.._ren') and one theorem, a field a fact of the dump's own or the kernel's comparison; each contract: ONE APPLICATION.
-/
import Derived.Test.YtoeghipbkmaccaaProg
import Derived.Test.YtoeghipbkmaccaaWl1
import Derived.Test.YtoeghipbkmaccaaWl8
import Derived.Shelf.Sort.Plain
import Derived.Shelf.Slices.In.SortNone
section
namespace Go.Proofs
open Go Go.Aw
set_option maxRecDepth 100000


abbrev LN : Str := [108, 111, 103]
theorem ln_ok : nameF LN = true := by decide
theorem mget_perm {l l' : List (Str × Str)} (hp : l.Perm l') (hn : (l'.map Prod.fst).Nodup) (k : Str) : mget l k = mget l' k := by
  have hi : ∀ {l : List (Str × Str)} {k v : Str}, (l.map Prod.fst).Nodup → ((k, v) ∈ l ↔ mget l k = some v) := fun {l k v} hn => by
    induction l with
    | nil => simp [mget]
    | cons p r ih =>
      obtain ⟨a, b⟩ := p
      simp only [List.map_cons, List.nodup_cons] at hn
      simp only [List.mem_cons, mget]
      split
      · rename_i h; subst h
        constructor
        · rintro (h | h)
          · injection h with _ h; rw [h]
          · exact absurd (List.mem_map_of_mem (f := Prod.fst) h) hn.1
        · intro h; injection h with h; subst h; exact .inl rfl
      · rename_i h
        rw [← ih hn.2]
        constructor
        · rintro (h2 | h2)
          · injection h2 with h2 _; exact absurd h2.symm h
          · exact h2
        · exact .inr
  have hn' : (l.map Prod.fst).Nodup := ((hp.map Prod.fst).nodup_iff).2 hn
  cases h : mget l' k with
  | none =>
    cases h2 : mget l k with
    | none => rfl
    | some v =>
      have := (hi hn).1 ((hp.mem_iff).1 ((hi hn').2 h2))
      rw [h] at this; cases this
  | some v => exact (hi hn').1 ((hp.mem_iff).2 ((hi hn).2 h))
def restS (s : DSt) (keep torn : Int) (nw : List (Str × Str)) : DSt := ⟨restR s keep torn, nw, [], -1, false, s.steps⟩
theorem restR_bnd {s : DSt} {N : Nat} (h : DInv N s) (keep torn : Int) : ∀ p ∈ restR s keep torn, p.2.length ≤ 4000 * N := by
  have hc := clampI_b keep s.wait.length
  have ht := clampI_b torn (gI s.wait (clampI keep s.wait.length)).data.length
  have hb := fun B (hB : ∀ p ∈ s.kept, p.2.length ≤ B) => applyL_bnd (cs := s.wait.take (clampI keep s.wait.length).toNat) (fun c hc => h.cd c (List.mem_of_mem_take hc)) (l := s.kept) (B := B) hB
  have hN : s.wait.length ≤ N := by have := h.kl; omega
  have hb1 := hb (4000 * N - 4000 * s.wait.length) (fun p hp => by have := h.kb p hp; omega)
  rw [List.length_take] at hb1
  unfold restR restK
  split
  · rename_i h1
    have hcd := h.cd _ (gI_mem (l := s.wait) hc.1 h1.1)
    refine fun p hp => ?_
    have := applyC_bnd hb1.2 (c := { gI s.wait (clampI keep s.wait.length) with data := sub (gI s.wait (clampI keep s.wait.length)).data 0 (tornOf s keep torn) }) (by
      show (sub (gI s.wait (clampI keep s.wait.length)).data 0 (tornOf s keep torn)).length ≤ 4000
      rw [sub0_take]; simp; omega) p hp
    omega
  · intro p hp
    have := hb1.2 p hp
    omega
theorem restS_inv {s : DSt} {N : Nat} (h : DInv N s) {keep torn : Int} {nw : List (Str × Str)} (hp : nw.Perm (restR s keep torn)) : DInv (N + 1) (restS s keep torn nw) := by
  have hb := restR_bnd h keep torn
  have hl := restR_len s keep torn
  have hk := h.kl
  refine ⟨h.st0, by have := h.st1; show s.steps ≤ _; omega, by show (-1 : Int) ≤ -1; omega, by show (-1 : Int) ≤ _; omega, by show (restR s keep torn).length + 0 ≤ _; omega, fun p hq => ?_, (fun c hc => by cases hc), by show nw.length ≤ _; rw [hp.length_eq]; omega, fun p hq => ?_⟩
  · have := hb p hq
    show p.2.length + 4000 * 0 ≤ _; omega
  · have := hb p (hp.mem_iff.1 hq)
    omega
/-- What an open log has while its disk may fall. -/
structure JL (s : DSt) (want : List Str) (z : Int) (N : Nat) : Prop where
  dn : s.down = false
  wt : s.wait = []
  now : mget s.now LN = some (allF want)
  kep : mget s.kept LN = some (allF want)
  siz : z = (allF want).length
  rcs : ∀ r ∈ want, r.length ≤ 300
  nd : (s.kept.map Prod.fst).Nodup
  inv : DInv N s
/-- .. behind which it may have fallen. -/
structure Fell (s : DSt) (want last : List Str) (N : Nat) : Prop where
  kep : mget s.kept LN = some (allF want)
  wt : s.wait = [] ∨ ∃ t, s.wait = [⟨LN, framedL t, [], 2⟩] ∧ last = want ++ [t] ∧ t.length ≤ 300 ∧ (allF want).length + t.length + 6 ≤ 4000
  sm : (allF want).length ≤ 4000
  rcs : ∀ r ∈ want, r.length ≤ 300
  nd : (s.kept.map Prod.fst).Nodup
  inv : DInv N s
theorem mget_mput_eq (l : List (Str × Str)) (k v : Str) : mget (mput l k v) k = some v := mget_mput l k v
theorem stepF_or {s : DSt} (h : s.down = false) : ((stepF s).2 = 10 ∧ (stepF s).1.down = true) ∨ ((stepF s).2 = 0 ∧ (stepF s).1.down = false) := by
  unfold stepF
  rw [if_neg (by simp [h])]
  split
  · exact .inl ⟨rfl, rfl⟩
  · exact .inr ⟨rfl, h⟩
theorem JL.add {s : DSt} {want : List Str} {z : Int} {N : Nat} {t : Str} (h : JL s want z N) (ht : t.length ≤ 300) (hz : z + t.length + 6 ≤ 4000) :
    ((addR s LN want z t).2.1 = 0 ∧ JL (addR s LN want z t).1 (want ++ [t]) (addR s LN want z t).2.2.2 (N + 2) ∧ (addR s LN want z t).2.2.1 = want ++ [t] ∧ (addR s LN want z t).2.2.2 = z + t.length + 6) ∨
    ((addR s LN want z t).2.1 = 10 ∧ Fell (addR s LN want z t).1 want (want ++ [t]) (N + 2)) := by
  have hfl := framedL_len t
  have hsz := h.siz
  have hsn : allF (want ++ [t]) = allF want ++ framedL t := allF_snoc want t
  have hrc : ∀ r ∈ want ++ [t], r.length ≤ 300 := fun r hr => by
    rcases List.mem_append.1 hr with hr | hr
    · exact h.rcs r hr
    · simp at hr; subst hr; exact ht
  have hm : mayR s LN (((mget s.now LN).getD []).length + (framedL t).length) = 0 := mayR_ok ln_ok (by rw [h.now]; simp; omega) (.inl (by rw [h.now]; rfl))
  have hinv : DInv (N + 2) (addR s LN want z t).1 := addR_inv h.inv
  have hk := stepF_keep s
  unfold addR at hinv ⊢
  rw [if_neg (by omega)] at hinv ⊢
  have ha : appR s LN (framedL t) = doF s ⟨LN, framedL t, [], 2⟩ := by
    unfold appR; rw [if_neg (by omega), if_neg (by rw [hm]; simp)]
  rw [ha] at hinv ⊢
  rcases stepF_or h.dn with h1 | h1
  · have hd : doF s ⟨LN, framedL t, [], 2⟩ = stepF s := by unfold doF; rw [if_pos (by rw [h1.1]; decide)]
    rw [hd] at hinv ⊢
    rw [if_pos (by rw [h1.1]; decide)] at hinv ⊢
    exact .inr ⟨h1.1, by rw [hk.1]; exact h.kep, .inl (by rw [hk.2.2.1]; exact h.wt), by omega, h.rcs, by rw [hk.1]; exact h.nd, hinv⟩
  · have hd : doF s ⟨LN, framedL t, [], 2⟩ = ({ (stepF s).1 with now := applyC s.now ⟨LN, framedL t, [], 2⟩, wait := s.wait ++ [⟨LN, framedL t, [], 2⟩] }, 0) := by unfold doF; rw [if_neg (by rw [h1.1]; decide)]
    rw [hd] at hinv ⊢
    rw [if_neg (by simp)] at hinv ⊢
    generalize hs' : ({ (stepF s).1 with now := applyC s.now ⟨LN, framedL t, [], 2⟩, wait := s.wait ++ [⟨LN, framedL t, [], 2⟩] } : DSt) = s' at hinv ⊢
    have e1 : s'.kept = s.kept := by rw [← hs']; exact hk.1
    have e2 : s'.wait = [⟨LN, framedL t, [], 2⟩] := by rw [← hs', h.wt]; rfl
    have e3 : s'.down = false := by rw [← hs']; exact h1.2
    have e4 : mget s'.now LN = some (allF want ++ framedL t) := by
      rw [← hs']
      show mget (applyC s.now ⟨LN, framedL t, [], 2⟩) LN = _
      rw [applyC, if_neg (by simp), if_pos rfl]
      show mget (mput s.now LN ((mget s.now LN).getD [] ++ framedL t)) LN = _
      rw [mget_mput_eq, h.now]; rfl
    have hk' := stepF_keep s'
    rcases stepF_or e3 with h2 | h2
    · have hy : syncF s' = stepF s' := by unfold syncF; rw [if_pos (by rw [h2.1]; decide)]
      rw [hy] at hinv ⊢
      rw [if_pos (by rw [h2.1]; decide)] at hinv ⊢
      exact .inr ⟨h2.1, by rw [hk'.1, e1]; exact h.kep, .inr ⟨t, by rw [hk'.2.2.1, e2], rfl, ht, by omega⟩, by omega, h.rcs, by rw [hk'.1, e1]; exact h.nd, hinv⟩
    · have hy : (syncF s').2 = 0 ∧ (syncF s').1.now = s'.now ∧ (syncF s').1.wait = [] ∧ (syncF s').1.kept = applyL s'.kept s'.wait ∧ (syncF s').1.down = false := by
        have hz : ¬ (stepF s').2 ≠ 0 := by rw [h2.1]; simp
        refine ⟨?_, syncF_now s', ?_, ?_, ?_⟩ <;> (unfold syncF; rw [if_neg hz])
        exact h2.2
      rw [if_neg (by rw [hy.1]; simp)] at hinv ⊢
      have ek : (syncF s').1.kept = applyC s.kept ⟨LN, framedL t, [], 2⟩ := by rw [hy.2.2.2.1, e1, e2]; rfl
      refine .inl ⟨rfl, ⟨hy.2.2.2.2, hy.2.2.1, by show mget (syncF s').1.now LN = _; rw [hy.2.1, e4, hsn], ?_, ?_, hrc, ?_, hinv⟩, rfl, by show z + (t.length + 6) = _; omega⟩
      · show mget (syncF s').1.kept LN = _
        rw [ek, applyC, if_neg (by simp), if_pos rfl]
        show mget (mput s.kept LN ((mget s.kept LN).getD [] ++ framedL t)) LN = _
        rw [mget_mput_eq, h.kep, hsn]; rfl
      · show z + (t.length + 6) = _
        rw [hsn, List.length_append]; omega
      · show ((syncF s').1.kept.map Prod.fst).Nodup
        rw [ek]; exact applyC_nd h.nd
theorem splitF_torn {s : Str} {t : Str} (ht : t.length ≤ 400) : ∀ (l : List Str) (n : Nat) (a : Int) (out : List Str) (k : Nat), 0 ≤ a → a ≤ s.length → k < (framedL t).length → s.drop a.toNat = allF l ++ (framedL t).take k → (∀ r ∈ l, r.length ≤ 400) → s.length - a < n → (splitF n s a out).1 = out ++ l
  | [], n, a, out, k, h0, h1, hk, hd, _, hn => by
    have hfl := framedL_len t
    have hd' : s.drop a.toNat = (framedL t).take k := by simpa [allF] using hd
    have hlen : (s.length : Int) = a + k := by
      have := congrArg List.length hd'
      rw [List.length_drop, List.length_take] at this; omega
    cases n with
    | zero => omega
    | succ n =>
      rw [splitF]
      by_cases h6 : (s.length : Int) < a + 6
      · rw [if_pos (by omega)]; simp
      · rw [if_neg (by omega)]
        have hL : lenAt s a = t.length := by
          have e0 : gI s a = u8n t.length := by
            have := gI_drop (s := s) (a := a) (k := 0) h0 (by omega)
            rw [Int.add_zero] at this
            rw [← this, hd']
            have hk1 : ∃ j, k = j + 6 := ⟨k - 6, by omega⟩
            obtain ⟨j, rfl⟩ := hk1
            rfl
          have e1 : gI s (a + 1) = u8n (t.length / 256) := by
            have := gI_drop (s := s) (a := a) (k := 1) h0 (by omega)
            rw [← this, hd']
            have hk1 : ∃ j, k = j + 6 := ⟨k - 6, by omega⟩
            obtain ⟨j, rfl⟩ := hk1
            rfl
          unfold lenAt
          rw [e0, e1]
          simp [u8n]
          omega
        rw [if_pos (by rw [hL]; omega)]; simp
  | r :: l, n, a, out, k, h0, h1, hk, hd, hl, hn => by
    have ht := hl r (by simp)
    have hd' : s.drop a.toNat = framedL r ++ (allF l ++ (framedL t).take k) := by rw [hd]; simp [allF]
    have hfl := framedL_len r
    have hlen : (s.length : Int) = a + (r.length + 6) + (allF l ++ (framedL t).take k).length := by
      have := congrArg List.length hd'
      rw [List.length_drop, List.length_append, hfl] at this; omega
    have hL : lenAt s a = r.length := by
      have e0 : gI s a = u8n r.length := by
        have := gI_drop (s := s) (a := a) (k := 0) h0 (by omega)
        rw [Int.add_zero] at this
        rw [← this, hd']; rfl
      have e1 : gI s (a + 1) = u8n (r.length / 256) := by
        have := gI_drop (s := s) (a := a) (k := 1) h0 (by omega)
        rw [← this, hd']; rfl
      unfold lenAt
      rw [e0, e1]
      simp [u8n]
      omega
    have hs1 : sub s a (a + 6 + r.length) = framedL r := by
      unfold sub
      rw [hd', show (a + 6 + (r.length : Int) - a).toNat = (framedL r).length by omega]
      simp
    have hs2 : sub s (a + 6) (a + 6 + r.length) = r := by
      unfold sub
      have e : (a + 6).toNat = a.toNat + 6 := by omega
      rw [e, ← List.drop_drop, hd', show (a + 6 + (r.length : Int) - (a + 6)).toNat = r.length by omega]
      simp [framedL]
    obtain ⟨n, rfl⟩ : ∃ k, n = k + 1 := ⟨n - 1, by omega⟩
    rw [splitF, if_neg (by omega), hL, if_neg (by omega), hs1, hs2, if_neg (by simp)]
    rw [splitF_torn ‹t.length ≤ 400› l n (a + 6 + r.length) (out ++ [r]) k (by omega) (by omega) hk ?_ (fun r hr => hl r (by simp [hr])) (by omega)]
    · simp
    · have e : (a + 6 + (r.length : Int)).toNat = a.toNat + (framedL r).length := by omega
      rw [e, ← List.drop_drop, hd']; simp
theorem splitR_torn {l : List Str} {t : Str} (ht : t.length ≤ 400) (h : ∀ r ∈ l, r.length ≤ 400) {k : Nat} (hk : k < (framedL t).length) : (splitR (allF l ++ (framedL t).take k)).1 = l := by
  have := splitF_torn (s := allF l ++ (framedL t).take k) ht l ((allF l ++ (framedL t).take k).length + 1) 0 [] k (by omega) (by omega) hk (by simp) h (by omega)
  simpa [splitR] using this
theorem Fell.rest {s : DSt} {want last : List Str} {N : Nat} (h : Fell s want last N) {keep torn : Int} {nw : List (Str × Str)} (hp : nw.Perm (restR s keep torn)) :
    ∃ a, mget (restS s keep torn nw).now LN = some a ∧ ((splitR a).1 = want ∨ (splitR a).1 = last) ∧ a.length ≤ 4000 ∧ Okd (restS s keep torn nw) ∧ DInv (N + 1) (restS s keep torn nw) := by
  have hinv := restS_inv h.inv hp
  have hok : Okd (restS s keep torn nw) := ⟨rfl, rfl⟩
  have hg : mget (restS s keep torn nw).now LN = mget (restR s keep torn) LN := mget_perm hp (restR_nd h.nd _ _) LN
  have hsm := h.sm
  have hr4 : ∀ r ∈ want, r.length ≤ 400 := fun r hr => by have := h.rcs r hr; omega
  have hsame : (splitR (allF want)).1 = want := by rw [splitR_back hr4]
  rcases h.wt with hw | ⟨t, hw, hl, ht, hts⟩
  · refine ⟨allF want, ?_, .inl hsame, by omega, hok, hinv⟩
    rw [hg]
    unfold restR restK
    rw [hw, if_neg (by rintro ⟨h1, _⟩; have := clampI_b keep 0; exact absurd h1 (by show ¬ clampI keep 0 < ((0 : Nat) : Int); omega))]
    simpa [applyL] using h.kep
  · have hfl := framedL_len t
    have happ : ∀ x : Str, mget (applyC s.kept ⟨LN, x, [], 2⟩) LN = some (allF want ++ x) := fun x => by
      rw [applyC, if_neg (by simp), if_pos rfl]
      show mget (mput s.kept LN ((mget s.kept LN).getD [] ++ x)) LN = _
      rw [mget_mput_eq, h.kep]; rfl
    have hcl := clampI_b keep 1
    have hw1 : s.wait.length = 1 := by rw [hw]; rfl
    by_cases hk : clampI keep 1 = 0
    · have hg0 : gI s.wait (clampI keep s.wait.length) = ⟨LN, framedL t, [], 2⟩ := by rw [hw1, hk, hw]; rfl
      have htb := clampI_b torn (framedL t).length
      have hT : tornOf s keep torn = clampI torn (framedL t).length := by unfold tornOf; rw [hg0]
      have hR : restR s keep torn = if sub (framedL t) 0 (clampI torn (framedL t).length) ≠ [] then applyC s.kept ⟨LN, sub (framedL t) 0 (clampI torn (framedL t).length), [], 2⟩ else s.kept := by
        unfold restR restK
        rw [hT, hg0, hw1, hk]
        by_cases he : sub (framedL t) 0 (clampI torn (framedL t).length) = []
        · rw [if_neg (by rintro ⟨_, _, h3⟩; exact h3 he), if_neg (by simp [he])]; simp [applyL]
        · rw [if_pos ⟨by omega, by simp, he⟩, if_pos he]; simp [applyL]
      rw [hR] at hg
      rw [sub0_take] at hg
      by_cases he : (framedL t).take (clampI torn (framedL t).length).toNat = []
      · rw [if_neg (by simp [he])] at hg
        exact ⟨allF want, by rw [hg]; exact h.kep, .inl hsame, by omega, hok, hinv⟩
      · rw [if_pos he, happ] at hg
        refine ⟨_, hg, ?_, by rw [List.length_append, List.length_take]; omega, hok, hinv⟩
        by_cases hf : (clampI torn (framedL t).length).toNat < (framedL t).length
        · exact .inl (splitR_torn (by omega) hr4 hf)
        · rw [List.take_of_length_le (by omega), ← allF_snoc, ← hl]
          refine .inr ?_
          rw [splitR_back (fun r hr => by
            rw [hl] at hr
            rcases List.mem_append.1 hr with hr | hr
            · exact hr4 r hr
            · simp at hr; subst hr; omega)]
    · have hk1 : clampI keep 1 = 1 := by omega
      have hR : restR s keep torn = applyC s.kept ⟨LN, framedL t, [], 2⟩ := by
        unfold restR restK
        rw [hw1, hk1, hw, if_neg (by simp)]; rfl
      rw [hR, happ] at hg
      refine ⟨_, hg, .inr ?_, by rw [List.length_append]; omega, hok, hinv⟩
      rw [← allF_snoc, ← hl, splitR_back (fun r hr => by
        rw [hl] at hr
        rcases List.mem_append.1 hr with hr | hr
        · exact hr4 r hr
        · simp at hr; subst hr; omega)]
end Go.Proofs
end
section
namespace Go.Proofs
open Go.Shelf
def Try.lays190_ren : Go.Shelf.Ren := ⟨fun | 190 => 93 | 125 => 97 | 258 => 98 | 128 => 111 | 129 => 112 | 302 => 113 | 303 => 114 | 304 => 115 | 305 => 116 | 306 => 117 | 307 => 118 | 308 => 119 | 309 => 120 | 310 => 121 | 333 => 127 | 329 => 123 | 330 => 124 | 334 => 128 | 335 => 129 | 336 => 130 | 344 => 132 | n => n, fun | 31 => 34 | 9 => 9 | 3 => 3 | 46 => 148 | 0 => 0 | 51 => 169 | 53 => 113 | 4 => 4 | 183 => 162 | 182 => 161 | 131 => 166 | 5 => 5 | 218 => 177 | 222 => 157 | 228 => 184 | 229 => 75 | n => n, fun | n => n⟩
theorem Try.lays190 : Go.Proofs.Lays.n190 Try.prog Try.lays190_ren := {
  mixed := by kernel_rfl
  f125 := Try.func97.trans (congrArg some (by kernel_rfl))
  f128 := Try.func111.trans (congrArg some (by kernel_rfl))
  f129 := Try.func112.trans (congrArg some (by kernel_rfl))
  f190 := Try.func93.trans (congrArg some (by kernel_rfl))
  f258 := Try.func98.trans (congrArg some (by kernel_rfl))
  f302 := Try.func113.trans (congrArg some (by kernel_rfl))
  f303 := Try.func114.trans (congrArg some (by kernel_rfl))
  f304 := Try.func115.trans (congrArg some (by kernel_rfl))
  f305 := Try.func116.trans (congrArg some (by kernel_rfl))
  f306 := Try.func117.trans (congrArg some (by kernel_rfl))
  f307 := Try.func118.trans (congrArg some (by kernel_rfl))
  f308 := Try.func119.trans (congrArg some (by kernel_rfl))
  f309 := Try.func120.trans (congrArg some (by kernel_rfl))
  f310 := Try.func121.trans (congrArg some (by kernel_rfl))
  f329 := Try.func123.trans (congrArg some (by kernel_rfl))
  f330 := Try.func124.trans (congrArg some (by kernel_rfl))
  f333 := Try.func127.trans (congrArg some (by kernel_rfl))
  f334 := Try.func128.trans (congrArg some (by kernel_rfl))
  f335 := Try.func129.trans (congrArg some (by kernel_rfl))
  f336 := Try.func130.trans (congrArg some (by kernel_rfl))
  f344 := Try.func132.trans (congrArg some (by kernel_rfl))
  t0 := Try.underlying0
  a0 := Try.isAgg0
  z0 := Try.sizeOf0
  v0 := Try.zeroValue0
  t3 := Try.underlying3
  a3 := Try.isAgg3
  z3 := Try.sizeOf3
  v3 := Try.zeroValue3
  t4 := Try.underlying4
  a4 := Try.isAgg4
  z4 := Try.sizeOf4
  v4 := Try.zeroValue4
  t5 := Try.underlying5
  a5 := Try.isAgg5
  z5 := Try.sizeOf5
  v5 := Try.zeroValue5
  t9 := Try.underlying9
  a9 := Try.isAgg9
  z9 := Try.sizeOf9
  v9 := Try.zeroValue9
  t31 := Try.underlying34
  a31 := Try.isAgg34
  z31 := Try.sizeOf34
  v31 := Try.zeroValue34
  t46 := Try.underlying148
  a46 := Try.isAgg148
  z46 := Try.sizeOf148
  v46 := Try.zeroValue148
  t51 := Try.underlying169
  a51 := Try.isAgg169
  z51 := Try.sizeOf169
  v51 := Try.zeroValue169
  t53 := Try.underlying113
  a53 := Try.isAgg113
  z53 := Try.sizeOf113
  v53 := Try.zeroValue113
  t131 := Try.underlying166
  a131 := Try.isAgg166
  z131 := Try.sizeOf166
  v131 := Try.zeroValue166
  t182 := Try.underlying161
  a182 := Try.isAgg161
  z182 := Try.sizeOf161
  v182 := Try.zeroValue161
  t183 := Try.underlying162
  a183 := Try.isAgg162
  z183 := Try.sizeOf162
  v183 := Try.zeroValue162
  t218 := Try.underlying177
  a218 := Try.isAgg177
  z218 := Try.sizeOf177
  v218 := Try.zeroValue177
  t222 := Try.underlying157
  a222 := Try.isAgg157
  z222 := Try.sizeOf157
  v222 := Try.zeroValue157
  t228 := Try.underlying184
  a228 := Try.isAgg184
  z228 := Try.sizeOf184
  v228 := Try.zeroValue184
  t229 := Try.underlying75
  a229 := Try.isAgg75
  z229 := Try.sizeOf75
  v229 := Try.zeroValue75 }
open Go.Sort Go.RowKit in
theorem Try.slices_Sort_string (blk off cap : Nat) (ss : List (List UInt8)) (w : World) (hH : Holds encStr w blk off ss.toArray) (hblk : blk < w.heap.size) (hsz : ss.length < 4611686018427387904) :
    Calls Try.prog 93 #[.slice (some ⟨blk, off, none⟩) ss.length cap] w fun e w' =>
      e = .returned (.tuple #[]) ∧ ∃ n os, w' = grow (putRow encStr (Sort.ahead w n) blk off (ss.mergeSort fun x y => decide (x ≤ y)).toArray) os := Any.slices_Sort_string Try.lays190 blk off cap ss w hH hblk hsz
open Go.RowKit Go.Sort in
/-- .. and plain. (LAID: no walk: one application.) -/
theorem Try.slices_Sort_string_none (p : Option Addr) (cap : Nat) (w : World) :
    Calls Try.prog 93 #[.slice p 0 cap] w fun e w' => e = .returned (.tuple #[]) ∧ w' = w := Any.slices_Sort_string_none Try.lays190 p cap w
end Go.Proofs
end
section
namespace Go.Proofs
open Go Go.Aw
set_option maxRecDepth 100000


/-- Strings, rising. -/
theorem sortL_of_perm {l l' : List Str} (h : l.Perm l') : sortL l = sortL l' := by
  have to : ∀ a b : Str, (decide (a ≤ b) || decide (b ≤ a)) = true := fun a b => by
    rcases List.le_total a b with h | h <;> simp [h]
  have tr : ∀ a b c : Str, decide (a ≤ b) = true → decide (b ≤ c) = true → decide (a ≤ c) = true := fun a b c h1 h2 => by
    simp only [decide_eq_true_eq] at *; exact List.le_trans h1 h2
  refine List.Perm.eq_of_pairwise (le := fun a b => decide (a ≤ b) = true) (fun a b _ _ h1 h2 => ?_) (List.pairwise_mergeSort tr to l) (List.pairwise_mergeSort tr to l') (((List.mergeSort_perm l _).trans h).trans (List.mergeSort_perm l' _).symm)
  simp only [decide_eq_true_eq] at h1 h2
  exact List.le_antisymm h1 h2
def keysAt (l : List (Str × Str)) (seen : List Nat) : List Str := seen.map fun i => (l.getD i ([], [])).1
theorem keysAt_perm {l : List (Str × Str)} {seen : List Nat} (hn : seen.Nodup) (hb : ∀ i ∈ seen, i < l.length) (ha : ∀ i, i < l.length → i ∈ seen) : (keysAt l seen).Perm (l.map Prod.fst) := by
  have hp : seen.Perm (List.range l.length) := (List.perm_ext_iff_of_nodup hn List.nodup_range).2 fun i => ⟨fun h => List.mem_range.2 (hb i h), fun h => ha i (List.mem_range.1 h)⟩
  refine (hp.map _).trans ?_
  have e : (List.range l.length).map (fun i => (l.getD i ([], [])).1) = l.map Prod.fst := by
    refine List.ext_getElem (by simp) fun i h1 h2 => ?_
    simp only [List.length_map] at h2
    simp [h2]
  show ((List.range l.length).map (fun i => (l.getD i ([], [])).1)).Perm (l.map Prod.fst)
  rw [e]
theorem keysAt_snoc {l : List (Str × Str)} {seen : List Nat} {k : Nat} {a b : Str} (hp : l[k]? = some (a, b)) : keysAt l (seen ++ [k]) = keysAt l seen ++ [a] := by
  unfold keysAt
  rw [List.map_append]
  simp [List.getD_eq_getElem?_getD, hp]
def listR (s : DSt) : List Str × Int := if s.down = true then ([], 10) else (sortL (s.now.map Prod.fst), 0)
theorem listR_nil {s : DSt} (h : s.down = false) (hE : ∀ k, k < s.now.length → k ∈ ([] : List Nat)) : listR s = ([], 0) := by
  have hz : s.now = [] := by
    rcases hq : s.now with _ | ⟨p, r⟩
    · rfl
    · exact absurd (hE 0 (by rw [hq]; simp)) (by simp)
  unfold listR
  rw [if_neg (by simp [h]), hz]
  simp [sortL]
theorem sort_take {zs : List Str} {k : Nat} (h : k ≤ zs.length) : (sortL (zs.take k) ++ zs.drop k).take k = sortL (zs.take k) := by
  have hl : (sortL (zs.take k)).length = k := by rw [sortL_len, List.length_take]; omega
  rw [List.take_append_of_le_length (by omega), List.take_of_length_le (by omega)]
theorem sort_len {zs : List Str} {k : Nat} (h : k ≤ zs.length) : (sortL (zs.take k) ++ zs.drop k).length = zs.length := by
  rw [List.length_append, sortL_len, List.length_take, List.length_drop]; omega
theorem sstep {l : List (Str × Str)} {seen : List Nat} {k : Nat} {p : Str × Str} (h1 : seen.Nodup) (h2 : ∀ i ∈ seen, i < l.length) (hp : l[k]? = some p) (hn : ¬ k ∈ seen) : (seen ++ [k]).Nodup ∧ (∀ i ∈ seen ++ [k], i < l.length) := by
  have := rstep (nw := rebuild l seen) h1 h2 rfl (a := p.1) (b := p.2) hp hn
  exact ⟨this.1, this.2.1⟩
theorem u_Sort0 (m : AMem) (K : AV → AMem → Prop) (hK : K (.tuple []) m) : ACalls Try.prog 93 [.nils] m K := acalls_sort1 ⟨_, Try.func93, rfl, rfl⟩ Try.slices_Sort_string_none m K hK
theorem u_Sort (b k cap : Nat) (zs : List Str) (hk : k ≤ zs.length) (hkb : k ≤ 140737488355328) (m : AMem) (K : AV → AMem → Prop) (hK : K (.tuple []) (m.wth [(b, .cells ((sortL (zs.take k) ++ zs.drop k).map strAV))])) : ACalls Try.prog 93 [.ms ⟨b, 0, none⟩ k cap] (m.wth [(b, .cells (zs.map strAV))]) K :=
  acalls_sort ⟨_, Try.func93, rfl, rfl⟩ Try.slices_Sort_string b k cap zs hk hkb m K hK

set_option maxHeartbeats 4000000 in
theorem u_List (d kb nb : Nat) (s : DSt) (N : Nat) (hN : [d, nb].Nodup) (hD : DInv N s) (hNN : N ≤ 100000) (m : AMem)  (K : AV → AMem → Prop) (hK : K (.tuple [.slice false ((listR s).1.map strAV), .err 108 (listR s).2]) (AMem.wth m [(d, dObj kb nb s), (nb, mObj s.now)])) : ACalls Try.prog 77 [.ptr ⟨d, 0, none⟩] (AMem.wth m [(d, dObj kb nb s), (nb, mObj s.now)]) K := by
 have hnl := hD.nl
 refine acalls_enter Try.func77 rfl (by decide) (Nat.le_of_ble_eq_true rfl) ?_
 show AWP _ _ _ _ [(0, .ptr ⟨d, 0, none⟩)] (AMem.wth m [(d, dObj kb nb s), (nb, mObj s.now)])
 refine awp_reg2_seq [] [0] (by decide) ?_
 intro K1 hK1
 refine ⟨trivial, trivial, ?_⟩
 show K1 [(0, .ptr ⟨d, 0, none⟩)] (AMem.wth m [(d, dObj kb nb s), (nb, mObj s.now)])
 refine hK1 _ _ ?_; clear hK1 K1
 refine awp_seq_k ?_; intro K2 hK2
 refine awp_reg2_seq [] [0, 9] (by decide) ?_
 intro K1 hK1
 refine ⟨trivial, trivial, ⟨rfl, by decide⟩, ?_⟩
 refine ar_loadp rfl (v := .bool s.down) rfl (wth_get 0 hN rfl) rfl (apartOk_one rfl rfl (Nat.le_of_ble_eq_true rfl)) rfl ?_
 show K1 [(0, .ptr ⟨d, 0, none⟩), (9, .bool s.down)] (AMem.wth m [(d, dObj kb nb s), (nb, mObj s.now)])
 refine hK1 _ _ ?_; clear hK1 K1
 refine awp_cond rfl rfl (fun h1 => ?_) (fun h1 => ?_)
 ·
  replace h1 : s.down = true := h1
  refine awp_reg2_seq [] [2, 3] (by decide) ?_
  intro K1 hK1
  refine ⟨trivial, trivial, trivial, ?_⟩
  show K1 [(2, .slice true []), (3, .iface 108 (.int .i64 10))] (AMem.wth m [(d, dObj kb nb s), (nb, mObj s.now)])
  refine hK1 _ _ ?_; clear hK1 K1
  refine awp_toErr 108 [3] ?_
  show AWP _ _ _ _ [(2, .slice true []), (3, .err 108 10)] (AMem.wth m [(d, dObj kb nb s), (nb, mObj s.now)])
  refine awp_strip 2 rfl ?_
  refine awp_keep [2, 3] (by decide) ?_
  show AWP _ _ _ _ [(2, .slice false []), (3, .err 108 10)] (AMem.wth m [(d, dObj kb nb s), (nb, mObj s.now)])
  refine awp_ret ?_
  refine ⟨trivial, trivial, (AMem.wth m [(d, dObj kb nb s), (nb, mObj s.now)]), fun _ _ h => h, ?_⟩
  show K (.tuple [.slice false [], .err 108 10]) (AMem.wth m [(d, dObj kb nb s), (nb, mObj s.now)])
 
  have e0 : listR s = (([], 10) : List Str × Int) := by
   first | (rw [listR, if_pos h1]; done) | (exact listR_nil h1 hE1) | (rw [listR, if_neg (by simp [h1]), hs3, sortL_of_perm (keysAt_perm hs1 hs2 hE2)]; done)
  rw [e0] at hK
  exact hK
 replace h1 : s.down = false := h1
 refine awp_skip ?_
 refine hK2 _ _ ?_; clear hK2
 refine awp_reg2_seq [] [0, 4] (by decide) ?_
 intro K1 hK1
 refine ⟨trivial, ?_⟩
 show K1 [(0, .ptr ⟨d, 0, none⟩), (4, .slice true [])] (AMem.wth m [(d, dObj kb nb s), (nb, mObj s.now)])
 refine hK1 _ _ ?_; clear hK1 K1
 refine awp_seq_k ?_; intro K3 hK3
 refine awp_reg2_seq [] [4, 15] (by decide) ?_
 intro K1 hK1
 refine ⟨trivial, trivial, ⟨rfl, by decide⟩, ?_⟩
 refine ar_loadp rfl (v := .map nb) rfl (wth_get 0 hN rfl) rfl (apartOk_one rfl rfl (Nat.le_of_ble_eq_true rfl)) rfl ?_
 refine ar_range rfl (m := m) (L := [(d, dObj kb nb s), (nb, mObj s.now)]) 1 rfl rfl rfl hN ?_
 intro q1 _
 show K1 [(4, .slice true []), (15, .ptr ⟨q1, 0, none⟩)] (AMem.wth m [(d, dObj kb nb s), (nb, AObj.iter q1 (List.map (mapAV strAV strAV) s.now) [])])
 refine hK1 _ _ ?_; clear hK1 K1
 refine awp_block ?_
 refine awp_conv1 4 (.slice true []) .nils rfl nils_of_own ?_
 refine awp_keep [4, 15] (by decide) ?_
 refine awp_loop_st (σ := (Unit) ⊕ (Nat × List Nat × List (List UInt8))) (Sum.elim (fun _ => [(4, .nils), (15, .ptr ⟨q1, 0, none⟩)]) (fun ⟨b, seen, zs⟩ => [(4, .ms ⟨b, 0, none⟩ seen.length zs.length), (15, .ptr ⟨q1, 0, none⟩)])) (Sum.elim (fun _ => (AMem.wth m [(d, dObj kb nb s), (nb, AObj.iter q1 (List.map (mapAV strAV strAV) s.now) [])])) (fun ⟨b, seen, zs⟩ => (AMem.wth m [(b, .cells (zs.map strAV)), (d, dObj kb nb s), (nb, AObj.iter q1 (List.map (mapAV strAV strAV) s.now) seen)]))) (Sum.elim (fun _ => True) (fun ⟨b, seen, zs⟩ => ([b, d, nb] : List Nat).Nodup ∧ m b = none ∧ (seen).Nodup ∧ (∀ i ∈ seen, i < s.now.length) ∧ (zs).take (seen).length = keysAt s.now seen ∧ (seen).length ≤ (zs).length)) (Sum.elim (fun _ => s.now.length + 1) (fun ⟨b, seen, zs⟩ => s.now.length - (seen).length)) (.inl ()) rfl rfl ?_ ?_
 ·
  show True
  trivial
 ·
  rintro (_ | ⟨b, seen, zs⟩) hI
  ·
   replace hI : True := hI
   show AWP _ _ _ _ [(4, .nils), (15, .ptr ⟨q1, 0, none⟩)] (AMem.wth m [(d, dObj kb nb s), (nb, AObj.iter q1 (List.map (mapAV strAV strAV) s.now) [])])
   refine awp_reg2_seq [] [4, 15, 17] (by decide) ?_
   intro K1 hK1
   refine ar_nextT rfl (m := m) (L := [(d, dObj kb nb s), (nb, AObj.iter q1 (List.map (mapAV strAV strAV) s.now) [])]) 1 strAV strAV s.now [] rfl rfl hN ?_ ?_
   ·
    intro hE1
    refine ⟨(Nat.le_of_ble_eq_true rfl), ?_⟩
    show K1 [(4, .nils), (15, .ptr ⟨q1, 0, none⟩), (17, .bool false)] (AMem.wth m [(d, dObj kb nb s), (nb, AObj.iter q1 (List.map (mapAV strAV strAV) s.now) [])])
    refine hK1 _ _ ?_; clear hK1 K1
    refine awp_unrange (m := m) (L := [(d, dObj kb nb s), (nb, AObj.iter q1 (List.map (mapAV strAV strAV) s.now) [])]) 1 hN rfl ?_
    show AWP _ _ _ _ [(4, .nils), (15, .ptr ⟨q1, 0, none⟩), (17, .bool false)] (AMem.wth m [(d, dObj kb nb s), (nb, mObj s.now)])
    refine awp_seq_k ?_; intro K4 hK4
    refine awp_cond rfl rfl (fun hcz => ?_) (fun hcz => ?_)
    ·
     cases hcz
    clear hcz
    refine awp_exit ?_
    refine hK3 _ _ ?_; clear hK3
    refine awp_reg2_seq [] [4] (by decide) ?_
    intro K1 hK1
    refine ⟨trivial, ?_⟩
    refine u_Sort0 _ _ ?_
    show K1 [(4, .nils)] (AMem.wth m [(d, dObj kb nb s), (nb, mObj s.now)])
    refine hK1 _ _ ?_; clear hK1 K1
    refine awp_conv1 4 .nils (.slice false []) rfl own_of_nils ?_
    show AWP _ _ _ _ [(4, .slice false [])] (AMem.wth m [(d, dObj kb nb s), (nb, mObj s.now)])
    refine awp_reg2_seq [] [2, 3] (by decide) ?_
    intro K1 hK1
    refine ⟨trivial, trivial, trivial, ?_⟩
    show K1 [(2, .slice false []), (3, .nilIface)] (AMem.wth m [(d, dObj kb nb s), (nb, mObj s.now)])
    refine hK1 _ _ ?_; clear hK1 K1
    refine awp_toErr 108 [3] ?_
    show AWP _ _ _ _ [(2, .slice false []), (3, .err 108 0)] (AMem.wth m [(d, dObj kb nb s), (nb, mObj s.now)])
    refine awp_ret ?_
    refine ⟨trivial, trivial, (AMem.wth m [(d, dObj kb nb s), (nb, mObj s.now)]), fun _ _ h => h, ?_⟩
    show K (.tuple [.slice false [], .err 108 0]) (AMem.wth m [(d, dObj kb nb s), (nb, mObj s.now)])
   
    have e0 : listR s = (([], 0) : List Str × Int) := by
     first | (rw [listR, if_pos h1]; done) | (exact listR_nil h1 hE1) | (rw [listR, if_neg (by simp [h1]), hs3, sortL_of_perm (keysAt_perm hs1 hs2 hE2)]; done)
    rw [e0] at hK
    exact hK
   ·
    rintro k1 ⟨ek1, ev1⟩ hp1 hn1
    refine ⟨(Nat.le_of_ble_eq_true rfl), ?_⟩
    show K1 [(4, .nils), (15, .ptr ⟨q1, 0, none⟩), (17, .bool true)] (AMem.wth m [(d, dObj kb nb s), (nb, AObj.iter q1 (List.map (mapAV strAV strAV) s.now) ([] ++ [k1]))])
    refine hK1 _ _ ?_; clear hK1 K1
    refine awp_seq_k ?_; intro K5 hK5
    refine awp_cond rfl rfl (fun hcz => ?_) (fun hcz => ?_)
    rotate_left; · cases hcz
    clear hcz
    refine awp_skip ?_
    refine hK5 _ _ ?_; clear hK5
    refine awp_block ?_
    refine awp_reg2_seq [] [4, 5, 15] (by decide) ?_
    intro K1 hK1
    refine ar_entryT rfl (m := m) (L := [(d, dObj kb nb s), (nb, AObj.iter q1 (List.map (mapAV strAV strAV) s.now) ([] ++ [k1]))]) 1 strAV strAV s.now [] hp1 rfl rfl hN ?_
    refine ⟨(Nat.le_of_ble_eq_true rfl), trivial, ?_⟩
    show K1 [(4, .nils), (5, .str ek1), (15, .ptr ⟨q1, 0, none⟩)] (AMem.wth m [(d, dObj kb nb s), (nb, AObj.iter q1 (List.map (mapAV strAV strAV) s.now) ([] ++ [k1]))])
    refine hK1 _ _ ?_; clear hK1 K1
    refine awp_reg2 [20] [4, 15] (by decide) ?_
    intro K1 hK1
    refine ⟨trivial, trivial, ⟨rfl, Nat.le_of_ble_eq_true rfl, rfl, Nat.le_of_ble_eq_true rfl, rfl, by simp only [List.forall_mem_cons]; exact ⟨⟨rfl, rfl⟩, fun _ h => by cases h⟩⟩, ?_⟩
    refine ar_append0Ms rfl strAV ([ek1] : List (List UInt8)) [] rfl rfl rfl rfl rfl rfl rfl hN (fun _ => rfl) (fun _ => rfl) rfl (by simp) (by (simp only [show Try.prog.bytesOf 9 = 16 from rfl, List.length_cons, List.length_nil]; omega)) (by simp) ?_
    intro b1 zs1 hFb1 hNb1 htb1 hlb1
    replace hNb1 : ([b1, d, nb] : List Nat).Nodup := hNb1
    refine ⟨trivial, ?_⟩
    show K1 [(4, .ms ⟨b1, 0, none⟩ (([ek1] : List (List UInt8)).length) zs1.length), (15, .ptr ⟨q1, 0, none⟩)] (AMem.wth m [(b1, .cells (zs1.map strAV)), (d, dObj kb nb s), (nb, AObj.iter q1 (List.map (mapAV strAV strAV) s.now) ([] ++ [k1]))])
    refine hK1 _ _ ?_; clear hK1 K1
    refine ⟨.inr (b1, [k1], zs1), rfl, rfl, ?_, ?_⟩
    ·
     show ([b1, d, nb] : List Nat).Nodup ∧ m b1 = none ∧ ([k1]).Nodup ∧ (∀ i ∈ ([k1]), i < s.now.length) ∧ (zs1).take ([k1]).length = keysAt s.now ([k1]) ∧ ([k1]).length ≤ (zs1).length
     exact ⟨hNb1, hFb1, by simp, fun i hi => by simp at hi; subst hi; exact (List.getElem?_eq_some_iff.1 hp1).1, by rw [show ([k1] : List Nat) = [] ++ [k1] from rfl, keysAt_snoc hp1]; exact htb1, hlb1⟩
    ·
     show s.now.length - ([k1]).length < s.now.length + 1
     simp; omega
  ·
   replace hI : ([b, d, nb] : List Nat).Nodup ∧ m b = none ∧ (seen).Nodup ∧ (∀ i ∈ seen, i < s.now.length) ∧ (zs).take (seen).length = keysAt s.now seen ∧ (seen).length ≤ (zs).length := hI
   obtain ⟨hNb, hFb, hs1, hs2, hs3, hs4⟩ := hI
   have hsl := seen_len hs1 hs2
   show AWP _ _ _ _ [(4, .ms ⟨b, 0, none⟩ seen.length zs.length), (15, .ptr ⟨q1, 0, none⟩)] (AMem.wth m [(b, .cells (zs.map strAV)), (d, dObj kb nb s), (nb, AObj.iter q1 (List.map (mapAV strAV strAV) s.now) seen)])
   refine awp_reg2_seq [] [4, 15, 17] (by decide) ?_
   intro K1 hK1
   refine ar_nextT rfl (m := m) (L := [(b, .cells (zs.map strAV)), (d, dObj kb nb s), (nb, AObj.iter q1 (List.map (mapAV strAV strAV) s.now) seen)]) 2 strAV strAV s.now seen rfl rfl hNb ?_ ?_
   ·
    intro hE2
    refine ⟨(Nat.le_of_ble_eq_true rfl), ?_⟩
    show K1 [(4, .ms ⟨b, 0, none⟩ seen.length zs.length), (15, .ptr ⟨q1, 0, none⟩), (17, .bool false)] (AMem.wth m [(b, .cells (zs.map strAV)), (d, dObj kb nb s), (nb, AObj.iter q1 (List.map (mapAV strAV strAV) s.now) seen)])
    refine hK1 _ _ ?_; clear hK1 K1
    refine awp_unrange (m := m) (L := [(b, .cells (zs.map strAV)), (d, dObj kb nb s), (nb, AObj.iter q1 (List.map (mapAV strAV strAV) s.now) seen)]) 2 hNb rfl ?_
    show AWP _ _ _ _ [(4, .ms ⟨b, 0, none⟩ seen.length zs.length), (15, .ptr ⟨q1, 0, none⟩), (17, .bool false)] (AMem.wth m [(b, .cells (zs.map strAV)), (d, dObj kb nb s), (nb, mObj s.now)])
    refine awp_seq_k ?_; intro K6 hK6
    refine awp_cond rfl rfl (fun hcz => ?_) (fun hcz => ?_)
    ·
     cases hcz
    clear hcz
    refine awp_exit ?_
    refine hK3 _ _ ?_; clear hK3
    refine awp_reg2_seq [] [4] (by decide) ?_
    intro K1 hK1
    refine ⟨trivial, ?_⟩
    refine ar_mem (wth_split hNb (pick_perm [0] _)) ?_
    refine u_Sort b seen.length zs.length zs hs4 (by have := hD.nl; omega) _ _ ?_
    show aopsR _ _ _ _ _ _ (AMem.wth (AMem.wth m [(d, dObj kb nb s), (nb, mObj s.now)]) [(b, .cells ((sortL (zs.take seen.length) ++ zs.drop seen.length).map strAV))])
    refine ar_mem (wth_split (m := m) (L := [(b, .cells ((sortL (zs.take seen.length) ++ zs.drop seen.length).map strAV)), (d, dObj kb nb s), (nb, mObj s.now)]) hNb (pick_perm [0] _)).symm ?_
    show K1 [(4, .ms ⟨b, 0, none⟩ seen.length zs.length)] (AMem.wth m [(b, .cells ((sortL (zs.take seen.length) ++ zs.drop seen.length).map strAV)), (d, dObj kb nb s), (nb, mObj s.now)])
    refine hK1 _ _ ?_; clear hK1 K1
    refine awp_freeze 4 0 (sortL (zs.take seen.length) ++ zs.drop seen.length) rfl rfl hNb hFb (by rw [sort_len hs4]; exact hs4) (by have := hD.nl; omega) ?_
    rw [sort_take hs4]
    have hNd1 : ([d, nb] : List Nat).Nodup := drop_nodup (L := [(b, .cells ((sortL (zs.take seen.length) ++ zs.drop seen.length).map strAV)), (d, dObj kb nb s), (nb, mObj s.now)]) hNb (pick_perm [0] _)
    show AWP _ _ _ _ [(4, .slice false ((sortL (zs.take seen.length)).map strAV))] (AMem.wth m [(d, dObj kb nb s), (nb, mObj s.now)])
    refine awp_reg2_seq [] [2, 3] (by decide) ?_
    intro K1 hK1
    refine ⟨trivial, trivial, trivial, ?_⟩
    show K1 [(2, .slice false ((sortL (zs.take seen.length)).map strAV)), (3, .nilIface)] (AMem.wth m [(d, dObj kb nb s), (nb, mObj s.now)])
    refine hK1 _ _ ?_; clear hK1 K1
    refine awp_toErr 108 [3] ?_
    show AWP _ _ _ _ [(2, .slice false ((sortL (zs.take seen.length)).map strAV)), (3, .err 108 0)] (AMem.wth m [(d, dObj kb nb s), (nb, mObj s.now)])
    refine awp_ret ?_
    refine ⟨trivial, trivial, (AMem.wth m [(d, dObj kb nb s), (nb, mObj s.now)]), fun _ _ h => h, ?_⟩
    show K (.tuple [.slice false ((sortL (zs.take seen.length)).map strAV), .err 108 0]) (AMem.wth m [(d, dObj kb nb s), (nb, mObj s.now)])
   
    have e0 : listR s = ((sortL (zs.take seen.length), 0) : List Str × Int) := by
     first | (rw [listR, if_pos h1]; done) | (exact listR_nil h1 hE1) | (rw [listR, if_neg (by simp [h1]), hs3, sortL_of_perm (keysAt_perm hs1 hs2 hE2)]; done)
    rw [e0] at hK
    exact hK
   ·
    rintro k2 ⟨ek2, ev2⟩ hp2 hn2
    refine ⟨(Nat.le_of_ble_eq_true rfl), ?_⟩
    show K1 [(4, .ms ⟨b, 0, none⟩ seen.length zs.length), (15, .ptr ⟨q1, 0, none⟩), (17, .bool true)] (AMem.wth m [(b, .cells (zs.map strAV)), (d, dObj kb nb s), (nb, AObj.iter q1 (List.map (mapAV strAV strAV) s.now) (seen ++ [k2]))])
    refine hK1 _ _ ?_; clear hK1 K1
    refine awp_seq_k ?_; intro K7 hK7
    refine awp_cond rfl rfl (fun hcz => ?_) (fun hcz => ?_)
    rotate_left; · cases hcz
    clear hcz
    refine awp_skip ?_
    refine hK7 _ _ ?_; clear hK7
    refine awp_block ?_
    refine awp_reg2_seq [] [4, 5, 15] (by decide) ?_
    intro K1 hK1
    refine ar_entryT rfl (m := m) (L := [(b, .cells (zs.map strAV)), (d, dObj kb nb s), (nb, AObj.iter q1 (List.map (mapAV strAV strAV) s.now) (seen ++ [k2]))]) 2 strAV strAV s.now seen hp2 rfl rfl hNb ?_
    refine ⟨(Nat.le_of_ble_eq_true rfl), trivial, ?_⟩
    show K1 [(4, .ms ⟨b, 0, none⟩ seen.length zs.length), (5, .str ek2), (15, .ptr ⟨q1, 0, none⟩)] (AMem.wth m [(b, .cells (zs.map strAV)), (d, dObj kb nb s), (nb, AObj.iter q1 (List.map (mapAV strAV strAV) s.now) (seen ++ [k2]))])
    refine hK1 _ _ ?_; clear hK1 K1
    refine awp_reg2 [20] [4, 15] (by decide) ?_
    intro K1 hK1
    refine ⟨trivial, trivial, ⟨rfl, Nat.le_of_ble_eq_true rfl, rfl, Nat.le_of_ble_eq_true rfl, rfl, by simp only [List.forall_mem_cons]; exact ⟨⟨rfl, rfl⟩, fun _ h => by cases h⟩⟩, ?_⟩
    refine ar_appendMs rfl 0 strAV zs ([ek2] : List (List UInt8)) [] seen.length rfl rfl rfl rfl rfl rfl rfl rfl hNb hFb (fun _ => rfl) rfl (fun _ => rfl) (fun _ => rfl) (by (first | omega | (simp only [List.length_append, List.length_cons, List.length_nil]; omega))) (by (simp only [show Try.prog.bytesOf 9 = 16 from rfl, List.length_append, List.length_cons, List.length_nil]; omega)) (by (first | omega | (simp only [List.length_append, List.length_cons, List.length_nil]; omega))) ?_
    intro b2 zs2 hFb2 hNb2 htb2 hlb2
    replace htb2 : zs2.take (seen.length + ([ek2] : List (List UInt8)).length) = zs.take seen.length ++ ([ek2] : List (List UInt8)) := htb2
    replace hlb2 : seen.length + ([ek2] : List (List UInt8)).length ≤ zs2.length := hlb2
    refine ⟨trivial, ?_⟩
    show K1 [(4, .ms ⟨b2, 0, none⟩ (seen.length + ([ek2] : List (List UInt8)).length) zs2.length), (15, .ptr ⟨q1, 0, none⟩)] (AMem.wth m [(b2, .cells (zs2.map strAV)), (d, dObj kb nb s), (nb, AObj.iter q1 (List.map (mapAV strAV strAV) s.now) (seen ++ [k2]))])
    refine hK1 _ _ ?_; clear hK1 K1
    refine ⟨.inr (b2, seen ++ [k2], zs2), (by simp), rfl, ?_, ?_⟩
    ·
     show ([b2, d, nb] : List Nat).Nodup ∧ m b2 = none ∧ (seen ++ [k2]).Nodup ∧ (∀ i ∈ (seen ++ [k2]), i < s.now.length) ∧ (zs2).take (seen ++ [k2]).length = keysAt s.now (seen ++ [k2]) ∧ (seen ++ [k2]).length ≤ (zs2).length
     have hss := sstep hs1 hs2 hp2 hn2
     exact ⟨hNb2, hFb2, hss.1, hss.2, by rw [keysAt_snoc hp2, ← hs3, List.length_append]; exact htb2, by rw [List.length_append]; exact hlb2⟩
    ·
     show s.now.length - (seen ++ [k2]).length < s.now.length - (seen).length
     have hss := sstep hs1 hs2 hp2 hn2
     have := seen_len hss.1 hss.2
     rw [List.length_append, List.length_singleton] at *
     omega

theorem u_Down (d kb nb : Nat) (s : DSt)  (m : AMem)  (K : AV → AMem → Prop) (hK : K (.bool s.down) (AMem.wth m [(d, dObj kb nb s)])) : ACalls Try.prog 42 [.ptr ⟨d, 0, none⟩] (AMem.wth m [(d, dObj kb nb s)]) K := by
 refine acalls_enter Try.func42 rfl (by decide) (Nat.le_of_ble_eq_true rfl) ?_
 show AWP _ _ _ _ [(0, .ptr ⟨d, 0, none⟩)] (AMem.wth m [(d, dObj kb nb s)])
 refine awp_reg2_seq [] [0] (by decide) ?_
 intro K1 hK1
 refine ⟨trivial, ?_⟩
 show K1 [(0, .ptr ⟨d, 0, none⟩)] (AMem.wth m [(d, dObj kb nb s)])
 refine hK1 _ _ ?_; clear hK1 K1
 refine awp_reg2_seq [] [2] (by decide) ?_
 intro K1 hK1
 refine ⟨trivial, trivial, ⟨rfl, by decide⟩, ?_⟩
 refine ar_loadp rfl (v := .bool s.down) rfl (wth_get 0 (nodup_1 d) rfl) rfl (apartOk_one rfl rfl (Nat.le_of_ble_eq_true rfl)) rfl ?_
 refine ⟨trivial, ?_⟩
 show K1 [(2, .bool s.down)] (AMem.wth m [(d, dObj kb nb s)])
 refine hK1 _ _ ?_; clear hK1 K1
 refine awp_ret ?_
 refine ⟨trivial, (AMem.wth m [(d, dObj kb nb s)]), fun _ _ h => h, ?_⟩
 show K (.bool s.down) (AMem.wth m [(d, dObj kb nb s)])

 exact hK

theorem u_Steps (d kb nb : Nat) (s : DSt)  (m : AMem)  (K : AV → AMem → Prop) (hK : K (.int .i64 s.steps) (AMem.wth m [(d, dObj kb nb s)])) : ACalls Try.prog 43 [.ptr ⟨d, 0, none⟩] (AMem.wth m [(d, dObj kb nb s)]) K := by
 refine acalls_enter Try.func43 rfl (by decide) (Nat.le_of_ble_eq_true rfl) ?_
 show AWP _ _ _ _ [(0, .ptr ⟨d, 0, none⟩)] (AMem.wth m [(d, dObj kb nb s)])
 refine awp_reg2_seq [] [0] (by decide) ?_
 intro K1 hK1
 refine ⟨trivial, ?_⟩
 show K1 [(0, .ptr ⟨d, 0, none⟩)] (AMem.wth m [(d, dObj kb nb s)])
 refine hK1 _ _ ?_; clear hK1 K1
 refine awp_reg2_seq [] [2] (by decide) ?_
 intro K1 hK1
 refine ⟨trivial, trivial, ⟨rfl, by decide⟩, ?_⟩
 refine ar_loadp rfl (v := .int .i64 s.steps) rfl (wth_get 0 (nodup_1 d) rfl) rfl (apartOk_one rfl rfl (Nat.le_of_ble_eq_true rfl)) rfl ?_
 refine ⟨trivial, ?_⟩
 show K1 [(2, .int .i64 s.steps)] (AMem.wth m [(d, dObj kb nb s)])
 refine hK1 _ _ ?_; clear hK1 K1
 refine awp_ret ?_
 refine ⟨trivial, (AMem.wth m [(d, dObj kb nb s)]), fun _ _ h => h, ?_⟩
 show K (.int .i64 s.steps) (AMem.wth m [(d, dObj kb nb s)])

 exact hK

end Go.Proofs
end
section
namespace Go.Proofs
open Go Go.Aw
set_option maxRecDepth 100000


def makeR (s : DSt) (n x : Str) : DSt × Int := if mayR s n x.length ≠ 0 then (s, mayR s n x.length) else if (mget s.now n).isSome = true then (s, 6) else doF s ⟨n, x, [], 3⟩
def moveR (s : DSt) (n t : Str) : DSt × Int :=
  if nameF n = false ∨ nameF t = false then (s, 3) else if (mget s.now n).isSome = false then (s, 7) else if n = t then stepF s else doF s ⟨n, [], t, 4⟩
def remR (s : DSt) (n : Str) : DSt × Int := if (mget s.now n).isSome = false then (s, 7) else doF s ⟨n, [], [], 5⟩

set_option maxHeartbeats 2000000 in
theorem u_Make (d kb nb : Nat) (s : DSt) (name data : Str) (N : Nat) (hN : [d, nb].Nodup) (hD : DInv N s) (hNN : N ≤ 100000) (hn : name.length ≤ 140737488355328) (hd : data.length ≤ 140737488355328) (m : AMem)  (K : AV → AMem → Prop) (hK : K (.err 108 (makeR s name data).2) (AMem.wth m [(d, dObj kb nb (makeR s name data).1), (nb, mObj (makeR s name data).1.now)])) : ACalls Try.prog 27 [.ptr ⟨d, 0, none⟩, .str name, .str data] (AMem.wth m [(d, dObj kb nb s), (nb, mObj s.now)]) K := by
 refine acalls_enter Try.func27 rfl (by decide) (Nat.le_of_ble_eq_true rfl) ?_
 show AWP _ _ _ _ [(0, .ptr ⟨d, 0, none⟩), (1, .str name), (2, .str data)] (AMem.wth m [(d, dObj kb nb s), (nb, mObj s.now)])
 refine awp_reg2_seq [] [0, 1, 2] (by decide) ?_
 intro K1 hK1
 refine ⟨trivial, ?_⟩
 show K1 [(0, .ptr ⟨d, 0, none⟩), (1, .str name), (2, .str data)] (AMem.wth m [(d, dObj kb nb s), (nb, mObj s.now)])
 refine hK1 _ _ ?_; clear hK1 K1
 refine awp_reg2_seq [] [0, 1, 2, 7] (by decide) ?_
 intro K1 hK1
 refine ⟨trivial, trivial, trivial, trivial, ?_⟩
 refine u_may d kb nb s name (data.length : Int) N hN hD hNN (by first | assumption | omega) _ _ ?_
 show aopsR _ _ _ _ _ _ (AMem.wth m [(d, dObj kb nb s), (nb, mObj s.now)])
 refine ⟨trivial, ?_⟩
 show K1 [(0, .ptr ⟨d, 0, none⟩), (1, .str name), (2, .str data), (7, .err 108 (mayR s name (data.length : Int)))] (AMem.wth m [(d, dObj kb nb s), (nb, mObj s.now)])
 refine hK1 _ _ ?_; clear hK1 K1
 refine awp_seq_k ?_; intro K2 hK2
 refine awp_reg2_seq [] [0, 1, 2, 7, 16] (by decide) ?_
 intro K1 hK1
 refine ⟨trivial, ⟨rfl, rfl⟩, ?_⟩
 show K1 [(0, .ptr ⟨d, 0, none⟩), (1, .str name), (2, .str data), (7, .err 108 (mayR s name (data.length : Int))), (16, .bool (!((mayR s name (data.length : Int)) == 0)))] (AMem.wth m [(d, dObj kb nb s), (nb, mObj s.now)])
 refine hK1 _ _ ?_; clear hK1 K1
 refine awp_cond rfl rfl (fun h1 => ?_) (fun h1 => ?_)
 ·
  replace h1 : (mayR s name (data.length : Int)) ≠ 0 := (ne_of_beq_false (bnT h1))
  refine awp_reg2_seq [] [6] (by decide) ?_
  intro K1 hK1
  refine ⟨trivial, trivial, ?_⟩
  show K1 [(6, .err 108 (mayR s name (data.length : Int)))] (AMem.wth m [(d, dObj kb nb s), (nb, mObj s.now)])
  refine hK1 _ _ ?_; clear hK1 K1
  refine awp_ret ?_
  refine ⟨trivial, (AMem.wth m [(d, dObj kb nb s), (nb, mObj s.now)]), fun _ _ h => h, ?_⟩
  show K (.err 108 (mayR s name (data.length : Int))) (AMem.wth m [(d, dObj kb nb s), (nb, mObj s.now)])
 
  have e0 : makeR s name data = ((s, (mayR s name (data.length : Int))) : DSt × Int) := by
   first | (rw [makeR, if_pos h1]; done) | (rw [makeR, if_neg (by omega), if_pos h2]; done) | (rw [makeR, if_neg (by omega), if_neg (by simp [h2])]; done)
  rw [e0] at hK
  exact hK
 replace h1 : (mayR s name (data.length : Int)) = 0 := (eq_of_beq (bnF h1))
 have hms := mayR_size h1
 refine awp_skip ?_
 refine hK2 _ _ ?_; clear hK2
 refine awp_reg2_seq [] [0, 1, 2, 9] (by decide) ?_
 intro K1 hK1
 refine ⟨trivial, trivial, ⟨rfl, by decide⟩, ?_⟩
 refine ar_loadp rfl (v := .map nb) rfl (wth_get 0 hN rfl) rfl (apartOk_one rfl rfl (Nat.le_of_ble_eq_true rfl)) rfl ?_
 refine ⟨trivial, ?_⟩
 refine ar_lookupOk rfl (m := m) (L := [(d, dObj kb nb s), (nb, mObj s.now)]) strAV strAV strKey_ok s.now name [] rfl rfl rfl rfl rfl (wth_get 1 hN rfl) rfl ?_
 refine ⟨trivial, (Nat.le_of_ble_eq_true rfl), (Nat.le_of_ble_eq_true rfl), trivial, trivial, ?_⟩
 show K1 [(0, .ptr ⟨d, 0, none⟩), (1, .str name), (2, .str data), (9, .bool ((mget s.now name).isSome))] (AMem.wth m [(d, dObj kb nb s), (nb, mObj s.now)])
 refine hK1 _ _ ?_; clear hK1 K1
 refine awp_seq_k ?_; intro K3 hK3
 refine awp_reg2_seq [] [0, 1, 2, 27] (by decide) ?_
 intro K1 hK1
 refine ⟨trivial, ?_⟩
 show K1 [(0, .ptr ⟨d, 0, none⟩), (1, .str name), (2, .str data), (27, .bool ((mget s.now name).isSome))] (AMem.wth m [(d, dObj kb nb s), (nb, mObj s.now)])
 refine hK1 _ _ ?_; clear hK1 K1
 refine awp_cond rfl rfl (fun h2 => ?_) (fun h2 => ?_)
 ·
  replace h2 : (mget s.now name).isSome = true := h2
  refine awp_reg2_seq [] [6] (by decide) ?_
  intro K1 hK1
  refine ⟨trivial, trivial, ?_⟩
  show K1 [(6, .iface 108 (.int .i64 6))] (AMem.wth m [(d, dObj kb nb s), (nb, mObj s.now)])
  refine hK1 _ _ ?_; clear hK1 K1
  refine awp_toErr 108 [6] ?_
  show AWP _ _ _ _ [(6, .err 108 6)] (AMem.wth m [(d, dObj kb nb s), (nb, mObj s.now)])
  refine awp_ret ?_
  refine ⟨trivial, (AMem.wth m [(d, dObj kb nb s), (nb, mObj s.now)]), fun _ _ h => h, ?_⟩
  show K (.err 108 6) (AMem.wth m [(d, dObj kb nb s), (nb, mObj s.now)])
 
  have e0 : makeR s name data = ((s, 6) : DSt × Int) := by
   first | (rw [makeR, if_pos h1]; done) | (rw [makeR, if_neg (by omega), if_pos h2]; done) | (rw [makeR, if_neg (by omega), if_neg (by simp [h2])]; done)
  rw [e0] at hK
  exact hK
 replace h2 : (mget s.now name).isSome = false := h2
 refine awp_skip ?_
 refine hK3 _ _ ?_; clear hK3
 refine awp_reg2_seq [] [6] (by decide) ?_
 intro K1 hK1
 refine ⟨trivial, trivial, trivial, ⟨rfl, by simp only [List.forall_mem_cons]; exact ⟨rfl, rfl, rfl, rfl, fun _ h => by cases h⟩, by simp only [List.forall_mem_cons]; exact ⟨rfl, rfl, rfl, fun _ h => by cases h⟩⟩, ?_⟩
 refine u_do d kb nb s (⟨name, data, [], 3⟩ : Chg) N hN hD hNN (by first | assumption | (dsimp only; omega) | simp) _ _ ?_
 show aopsR _ _ _ _ _ _ (AMem.wth m [(d, dObj kb nb ((doF s (⟨name, data, [], 3⟩ : Chg)).1)), (nb, mObj ((doF s (⟨name, data, [], 3⟩ : Chg)).1.now))])
 refine ⟨trivial, ?_⟩
 show K1 [(6, .err 108 ((doF s (⟨name, data, [], 3⟩ : Chg)).2))] (AMem.wth m [(d, dObj kb nb ((doF s (⟨name, data, [], 3⟩ : Chg)).1)), (nb, mObj ((doF s (⟨name, data, [], 3⟩ : Chg)).1.now))])
 refine hK1 _ _ ?_; clear hK1 K1
 refine awp_ret ?_
 refine ⟨trivial, (AMem.wth m [(d, dObj kb nb ((doF s (⟨name, data, [], 3⟩ : Chg)).1)), (nb, mObj ((doF s (⟨name, data, [], 3⟩ : Chg)).1.now))]), fun _ _ h => h, ?_⟩
 show K (.err 108 ((doF s (⟨name, data, [], 3⟩ : Chg)).2)) (AMem.wth m [(d, dObj kb nb ((doF s (⟨name, data, [], 3⟩ : Chg)).1)), (nb, mObj ((doF s (⟨name, data, [], 3⟩ : Chg)).1.now))])

 have e0 : makeR s name data = (((doF s (⟨name, data, [], 3⟩ : Chg)).1, (doF s (⟨name, data, [], 3⟩ : Chg)).2) : DSt × Int) := by
  first | (rw [makeR, if_pos h1]; done) | (rw [makeR, if_neg (by omega), if_pos h2]; done) | (rw [makeR, if_neg (by omega), if_neg (by simp [h2])]; done)
 rw [e0] at hK
 exact hK

set_option maxHeartbeats 2000000 in
theorem u_Move (d kb nb : Nat) (s : DSt) (name to : Str) (N : Nat) (hN : [d, nb].Nodup) (hD : DInv N s) (hNN : N ≤ 100000) (hn : name.length ≤ 140737488355328) (hd : to.length ≤ 140737488355328) (m : AMem)  (K : AV → AMem → Prop) (hK : K (.err 108 (moveR s name to).2) (AMem.wth m [(d, dObj kb nb (moveR s name to).1), (nb, mObj (moveR s name to).1.now)])) : ACalls Try.prog 28 [.ptr ⟨d, 0, none⟩, .str name, .str to] (AMem.wth m [(d, dObj kb nb s), (nb, mObj s.now)]) K := by
 have hkn := (stepF_keep s).2.1
 refine acalls_enter Try.func28 rfl (by decide) (Nat.le_of_ble_eq_true rfl) ?_
 show AWP _ _ _ _ [(0, .ptr ⟨d, 0, none⟩), (1, .str name), (2, .str to)] (AMem.wth m [(d, dObj kb nb s), (nb, mObj s.now)])
 refine awp_reg2_seq [] [0, 1, 2] (by decide) ?_
 intro K1 hK1
 refine ⟨trivial, ?_⟩
 show K1 [(0, .ptr ⟨d, 0, none⟩), (1, .str name), (2, .str to)] (AMem.wth m [(d, dObj kb nb s), (nb, mObj s.now)])
 refine hK1 _ _ ?_; clear hK1 K1
 refine awp_seq_k ?_; intro K2 hK2
 refine awp_reg2_seq [] [0, 1, 2, 16] (by decide) ?_
 intro K1 hK1
 suffices key : K1 [(0, .ptr ⟨d, 0, none⟩), (1, .str name), (2, .str to), (16, .bool ((!(nameF name)) || (!(nameF to))))] (AMem.wth m [(d, dObj kb nb s), (nb, mObj s.now)]) by
  refine ⟨trivial, ?_⟩
  refine u_Name name (by first | assumption | omega) _ _ ?_
  refine ⟨trivial, trivial, ?_⟩
  show aopsR _ _ _ _ _ [(12, .bool (!(nameF name))), (11, .bool (!(nameF name))), (10, .bool (nameF name)), (9, .str name), (0, .ptr ⟨d, 0, none⟩), (1, .str name), (2, .str to)] _
  revert key
  cases h1 : (nameF name)
  ·
   replace h1 : nameF name = false := h1
   intro key
   refine ar_off rfl (ar_off rfl (ar_off rfl ?_))
   exact key
  ·
   replace h1 : nameF name = true := h1
   intro key
   refine ⟨trivial, ?_⟩
   refine u_Name to (by first | assumption | omega) _ _ ?_
   refine ⟨trivial, ?_⟩
   exact key
 refine hK1 _ _ ?_; clear hK1 K1
 refine awp_cond rfl rfl (fun h2 => ?_) (fun h2 => ?_)
 ·
  replace h2 : (nameF name = false) ∨ (nameF to = false) := ((borT h2).imp (fun q => (bnT q)) (fun q => (bnT q)))
  refine awp_reg2_seq [] [6] (by decide) ?_
  intro K1 hK1
  refine ⟨trivial, trivial, ?_⟩
  show K1 [(6, .iface 108 (.int .i64 3))] (AMem.wth m [(d, dObj kb nb s), (nb, mObj s.now)])
  refine hK1 _ _ ?_; clear hK1 K1
  refine awp_toErr 108 [6] ?_
  show AWP _ _ _ _ [(6, .err 108 3)] (AMem.wth m [(d, dObj kb nb s), (nb, mObj s.now)])
  refine awp_ret ?_
  refine ⟨trivial, (AMem.wth m [(d, dObj kb nb s), (nb, mObj s.now)]), fun _ _ h => h, ?_⟩
  show K (.err 108 3) (AMem.wth m [(d, dObj kb nb s), (nb, mObj s.now)])
 
  have e0 : moveR s name to = ((s, 3) : DSt × Int) := by
   first | (rw [moveR, if_pos (by assumption)]; done) | (rw [moveR, if_neg (by simp_all), if_pos (by simp_all)]; done) | (rw [moveR, if_neg (by simp_all), if_neg (by simp_all), if_pos (by assumption), ← hkn]; done) | (rw [moveR, if_neg (by simp_all), if_neg (by simp_all), if_neg (by assumption)]; done)
  rw [e0] at hK
  exact hK
 replace h2 : (nameF name = true) ∧ (nameF to = true) := ⟨(bnF (borL h2)), (bnF (borR h2))⟩
 refine awp_skip ?_
 refine hK2 _ _ ?_; clear hK2
 refine awp_reg2_seq [] [0, 1, 2, 8] (by decide) ?_
 intro K1 hK1
 refine ⟨trivial, trivial, ⟨rfl, by decide⟩, ?_⟩
 refine ar_loadp rfl (v := .map nb) rfl (wth_get 0 hN rfl) rfl (apartOk_one rfl rfl (Nat.le_of_ble_eq_true rfl)) rfl ?_
 refine ⟨trivial, ?_⟩
 refine ar_lookupOk rfl (m := m) (L := [(d, dObj kb nb s), (nb, mObj s.now)]) strAV strAV strKey_ok s.now name [] rfl rfl rfl rfl rfl (wth_get 1 hN rfl) rfl ?_
 refine ⟨trivial, (Nat.le_of_ble_eq_true rfl), (Nat.le_of_ble_eq_true rfl), trivial, trivial, ?_⟩
 show K1 [(0, .ptr ⟨d, 0, none⟩), (1, .str name), (2, .str to), (8, .bool ((mget s.now name).isSome))] (AMem.wth m [(d, dObj kb nb s), (nb, mObj s.now)])
 refine hK1 _ _ ?_; clear hK1 K1
 refine awp_seq_k ?_; intro K3 hK3
 refine awp_reg2_seq [] [0, 1, 2, 28] (by decide) ?_
 intro K1 hK1
 refine ⟨trivial, trivial, ?_⟩
 show K1 [(0, .ptr ⟨d, 0, none⟩), (1, .str name), (2, .str to), (28, .bool (!((mget s.now name).isSome)))] (AMem.wth m [(d, dObj kb nb s), (nb, mObj s.now)])
 refine hK1 _ _ ?_; clear hK1 K1
 refine awp_cond rfl rfl (fun h3 => ?_) (fun h3 => ?_)
 ·
  replace h3 : (mget s.now name).isSome = false := (bnT h3)
  refine awp_reg2_seq [] [6] (by decide) ?_
  intro K1 hK1
  refine ⟨trivial, trivial, ?_⟩
  show K1 [(6, .iface 108 (.int .i64 7))] (AMem.wth m [(d, dObj kb nb s), (nb, mObj s.now)])
  refine hK1 _ _ ?_; clear hK1 K1
  refine awp_toErr 108 [6] ?_
  show AWP _ _ _ _ [(6, .err 108 7)] (AMem.wth m [(d, dObj kb nb s), (nb, mObj s.now)])
  refine awp_ret ?_
  refine ⟨trivial, (AMem.wth m [(d, dObj kb nb s), (nb, mObj s.now)]), fun _ _ h => h, ?_⟩
  show K (.err 108 7) (AMem.wth m [(d, dObj kb nb s), (nb, mObj s.now)])
 
  have e0 : moveR s name to = ((s, 7) : DSt × Int) := by
   first | (rw [moveR, if_pos (by assumption)]; done) | (rw [moveR, if_neg (by simp_all), if_pos (by simp_all)]; done) | (rw [moveR, if_neg (by simp_all), if_neg (by simp_all), if_pos (by assumption), ← hkn]; done) | (rw [moveR, if_neg (by simp_all), if_neg (by simp_all), if_neg (by assumption)]; done)
  rw [e0] at hK
  exact hK
 replace h3 : (mget s.now name).isSome = true := (bnF h3)
 refine awp_skip ?_
 refine hK3 _ _ ?_; clear hK3
 refine awp_seq_k ?_; intro K4 hK4
 refine awp_reg2_seq [] [0, 1, 2, 32] (by decide) ?_
 intro K1 hK1
 refine ⟨trivial, trivial, trivial, ?_⟩
 show K1 [(0, .ptr ⟨d, 0, none⟩), (1, .str name), (2, .str to), (32, .bool (name == to))] (AMem.wth m [(d, dObj kb nb s), (nb, mObj s.now)])
 refine hK1 _ _ ?_; clear hK1 K1
 refine awp_cond rfl rfl (fun h4 => ?_) (fun h4 => ?_)
 ·
  replace h4 : name = to := (eq_of_beq h4)
  refine awp_reg2_seq [] [6] (by decide) ?_
  intro K1 hK1
  refine ⟨trivial, ?_⟩
  refine ar_mem (wth_split hN (pick_perm [0] _)) ?_
  refine u_Step d kb nb s hD.st0 (by have := hD.st1; omega) hD.fu0 hD.fu1 _ _ ?_
  show aopsR _ _ _ _ _ _ (AMem.wth (AMem.wth m [(nb, mObj s.now)]) [(d, dObj kb nb ((stepF s).1))])
  refine ar_mem (wth_split (m := m) (L := [(d, dObj kb nb ((stepF s).1)), (nb, mObj s.now)]) hN (pick_perm [0] _)).symm ?_
  refine ⟨trivial, ?_⟩
  show K1 [(6, .err 108 ((stepF s).2))] (AMem.wth m [(d, dObj kb nb ((stepF s).1)), (nb, mObj s.now)])
  refine hK1 _ _ ?_; clear hK1 K1
  refine awp_ret ?_
  refine ⟨trivial, (AMem.wth m [(d, dObj kb nb ((stepF s).1)), (nb, mObj s.now)]), fun _ _ h => h, ?_⟩
  show K (.err 108 ((stepF s).2)) (AMem.wth m [(d, dObj kb nb ((stepF s).1)), (nb, mObj s.now)])
 
  have e0 : moveR s name to = (((⟨((stepF s).1).kept, s.now, ((stepF s).1).wait, ((stepF s).1).fuse, (((stepF s).1).down), ((stepF s).1).steps⟩ : DSt), (stepF s).2) : DSt × Int) := by
   first | (rw [moveR, if_pos (by assumption)]; done) | (rw [moveR, if_neg (by simp_all), if_pos (by simp_all)]; done) | (rw [moveR, if_neg (by simp_all), if_neg (by simp_all), if_pos (by assumption), ← hkn]; done) | (rw [moveR, if_neg (by simp_all), if_neg (by simp_all), if_neg (by assumption)]; done)
  rw [e0] at hK
  exact hK
 replace h4 : name ≠ to := (ne_of_beq_false h4)
 refine awp_skip ?_
 refine hK4 _ _ ?_; clear hK4
 refine awp_reg2_seq [] [6] (by decide) ?_
 intro K1 hK1
 refine ⟨trivial, trivial, trivial, ⟨rfl, by simp only [List.forall_mem_cons]; exact ⟨rfl, rfl, rfl, rfl, fun _ h => by cases h⟩, by simp only [List.forall_mem_cons]; exact ⟨rfl, rfl, rfl, fun _ h => by cases h⟩⟩, ?_⟩
 refine u_do d kb nb s (⟨name, [], to, 4⟩ : Chg) N hN hD hNN (by first | assumption | (dsimp only; omega) | simp) _ _ ?_
 show aopsR _ _ _ _ _ _ (AMem.wth m [(d, dObj kb nb ((doF s (⟨name, [], to, 4⟩ : Chg)).1)), (nb, mObj ((doF s (⟨name, [], to, 4⟩ : Chg)).1.now))])
 refine ⟨trivial, ?_⟩
 show K1 [(6, .err 108 ((doF s (⟨name, [], to, 4⟩ : Chg)).2))] (AMem.wth m [(d, dObj kb nb ((doF s (⟨name, [], to, 4⟩ : Chg)).1)), (nb, mObj ((doF s (⟨name, [], to, 4⟩ : Chg)).1.now))])
 refine hK1 _ _ ?_; clear hK1 K1
 refine awp_ret ?_
 refine ⟨trivial, (AMem.wth m [(d, dObj kb nb ((doF s (⟨name, [], to, 4⟩ : Chg)).1)), (nb, mObj ((doF s (⟨name, [], to, 4⟩ : Chg)).1.now))]), fun _ _ h => h, ?_⟩
 show K (.err 108 ((doF s (⟨name, [], to, 4⟩ : Chg)).2)) (AMem.wth m [(d, dObj kb nb ((doF s (⟨name, [], to, 4⟩ : Chg)).1)), (nb, mObj ((doF s (⟨name, [], to, 4⟩ : Chg)).1.now))])

 have e0 : moveR s name to = (((doF s (⟨name, [], to, 4⟩ : Chg)).1, (doF s (⟨name, [], to, 4⟩ : Chg)).2) : DSt × Int) := by
  first | (rw [moveR, if_pos (by assumption)]; done) | (rw [moveR, if_neg (by simp_all), if_pos (by simp_all)]; done) | (rw [moveR, if_neg (by simp_all), if_neg (by simp_all), if_pos (by assumption), ← hkn]; done) | (rw [moveR, if_neg (by simp_all), if_neg (by simp_all), if_neg (by assumption)]; done)
 rw [e0] at hK
 exact hK

set_option maxHeartbeats 2000000 in
theorem u_Remove (d kb nb : Nat) (s : DSt) (name : Str) (N : Nat) (hN : [d, nb].Nodup) (hD : DInv N s) (hNN : N ≤ 100000) (hn : name.length ≤ 140737488355328) (m : AMem)  (K : AV → AMem → Prop) (hK : K (.err 108 (remR s name).2) (AMem.wth m [(d, dObj kb nb (remR s name).1), (nb, mObj (remR s name).1.now)])) : ACalls Try.prog 30 [.ptr ⟨d, 0, none⟩, .str name] (AMem.wth m [(d, dObj kb nb s), (nb, mObj s.now)]) K := by
 refine acalls_enter Try.func30 rfl (by decide) (Nat.le_of_ble_eq_true rfl) ?_
 show AWP _ _ _ _ [(0, .ptr ⟨d, 0, none⟩), (1, .str name)] (AMem.wth m [(d, dObj kb nb s), (nb, mObj s.now)])
 refine awp_reg2_seq [] [0, 1] (by decide) ?_
 intro K1 hK1
 refine ⟨trivial, ?_⟩
 show K1 [(0, .ptr ⟨d, 0, none⟩), (1, .str name)] (AMem.wth m [(d, dObj kb nb s), (nb, mObj s.now)])
 refine hK1 _ _ ?_; clear hK1 K1
 refine awp_reg2_seq [] [0, 1, 6] (by decide) ?_
 intro K1 hK1
 refine ⟨trivial, trivial, ⟨rfl, by decide⟩, ?_⟩
 refine ar_loadp rfl (v := .map nb) rfl (wth_get 0 hN rfl) rfl (apartOk_one rfl rfl (Nat.le_of_ble_eq_true rfl)) rfl ?_
 refine ⟨trivial, ?_⟩
 refine ar_lookupOk rfl (m := m) (L := [(d, dObj kb nb s), (nb, mObj s.now)]) strAV strAV strKey_ok s.now name [] rfl rfl rfl rfl rfl (wth_get 1 hN rfl) rfl ?_
 refine ⟨trivial, (Nat.le_of_ble_eq_true rfl), (Nat.le_of_ble_eq_true rfl), trivial, trivial, ?_⟩
 show K1 [(0, .ptr ⟨d, 0, none⟩), (1, .str name), (6, .bool ((mget s.now name).isSome))] (AMem.wth m [(d, dObj kb nb s), (nb, mObj s.now)])
 refine hK1 _ _ ?_; clear hK1 K1
 refine awp_seq_k ?_; intro K2 hK2
 refine awp_reg2_seq [] [0, 1, 17] (by decide) ?_
 intro K1 hK1
 refine ⟨trivial, trivial, ?_⟩
 show K1 [(0, .ptr ⟨d, 0, none⟩), (1, .str name), (17, .bool (!((mget s.now name).isSome)))] (AMem.wth m [(d, dObj kb nb s), (nb, mObj s.now)])
 refine hK1 _ _ ?_; clear hK1 K1
 refine awp_cond rfl rfl (fun h1 => ?_) (fun h1 => ?_)
 ·
  replace h1 : (mget s.now name).isSome = false := (bnT h1)
  refine awp_reg2_seq [] [4] (by decide) ?_
  intro K1 hK1
  refine ⟨trivial, trivial, ?_⟩
  show K1 [(4, .iface 108 (.int .i64 7))] (AMem.wth m [(d, dObj kb nb s), (nb, mObj s.now)])
  refine hK1 _ _ ?_; clear hK1 K1
  refine awp_toErr 108 [4] ?_
  show AWP _ _ _ _ [(4, .err 108 7)] (AMem.wth m [(d, dObj kb nb s), (nb, mObj s.now)])
  refine awp_ret ?_
  refine ⟨trivial, (AMem.wth m [(d, dObj kb nb s), (nb, mObj s.now)]), fun _ _ h => h, ?_⟩
  show K (.err 108 7) (AMem.wth m [(d, dObj kb nb s), (nb, mObj s.now)])
 
  have e0 : remR s name = ((s, 7) : DSt × Int) := by
   first | (rw [remR, if_pos h1]; done) | (rw [remR, if_neg (by simp [h1])]; done)
  rw [e0] at hK
  exact hK
 replace h1 : (mget s.now name).isSome = true := (bnF h1)
 refine awp_skip ?_
 refine hK2 _ _ ?_; clear hK2
 refine awp_reg2_seq [] [4] (by decide) ?_
 intro K1 hK1
 refine ⟨trivial, trivial, ⟨rfl, by simp only [List.forall_mem_cons]; exact ⟨rfl, rfl, rfl, rfl, fun _ h => by cases h⟩, by simp only [List.forall_mem_cons]; exact ⟨rfl, rfl, fun _ h => by cases h⟩⟩, ?_⟩
 refine u_do d kb nb s (⟨name, [], [], 5⟩ : Chg) N hN hD hNN (by first | assumption | (dsimp only; omega) | simp) _ _ ?_
 show aopsR _ _ _ _ _ _ (AMem.wth m [(d, dObj kb nb ((doF s (⟨name, [], [], 5⟩ : Chg)).1)), (nb, mObj ((doF s (⟨name, [], [], 5⟩ : Chg)).1.now))])
 refine ⟨trivial, ?_⟩
 show K1 [(4, .err 108 ((doF s (⟨name, [], [], 5⟩ : Chg)).2))] (AMem.wth m [(d, dObj kb nb ((doF s (⟨name, [], [], 5⟩ : Chg)).1)), (nb, mObj ((doF s (⟨name, [], [], 5⟩ : Chg)).1.now))])
 refine hK1 _ _ ?_; clear hK1 K1
 refine awp_ret ?_
 refine ⟨trivial, (AMem.wth m [(d, dObj kb nb ((doF s (⟨name, [], [], 5⟩ : Chg)).1)), (nb, mObj ((doF s (⟨name, [], [], 5⟩ : Chg)).1.now))]), fun _ _ h => h, ?_⟩
 show K (.err 108 ((doF s (⟨name, [], [], 5⟩ : Chg)).2)) (AMem.wth m [(d, dObj kb nb ((doF s (⟨name, [], [], 5⟩ : Chg)).1)), (nb, mObj ((doF s (⟨name, [], [], 5⟩ : Chg)).1.now))])

 have e0 : remR s name = (((doF s (⟨name, [], [], 5⟩ : Chg)).1, (doF s (⟨name, [], [], 5⟩ : Chg)).2) : DSt × Int) := by
  first | (rw [remR, if_pos h1]; done) | (rw [remR, if_neg (by simp [h1])]; done)
 rw [e0] at hK
 exact hK

end Go.Proofs
end
section
namespace Go.Proofs
open Go Go.Aw
set_option maxRecDepth 100000


def fileAV (p : Str × Str) : AV := .agg [.str p.1, .str p.2]
structure Trn where
  kind : Int
  name : Str
  data : Str
  to : Str
instance : Inhabited Trn := ⟨⟨0, [], [], []⟩⟩
def trnAV (c : Trn) : AV := .agg [.int .i64 c.kind, .str c.name, .str c.data, .str c.to]
def hasR : List (Str × Str) → Str → Int
  | [], _ => -1
  | p :: r, n => if p.1 = n then 0 else if hasR r n < 0 then -1 else hasR r n + 1
theorem hasR_none {l : List (Str × Str)} {n : Str} (h : ∀ p ∈ l, p.1 ≠ n) : hasR l n = -1 := by
  induction l with
  | nil => rfl
  | cons p r ih => rw [hasR, if_neg (h p (by simp)), ih (fun q hq => h q (by simp [hq]))]; rfl
theorem hasR_at {l : List (Str × Str)} {n : Str} : ∀ {i : Nat}, (∀ p ∈ l.take i, p.1 ≠ n) → i < l.length → (l.getD i default).1 = n → hasR l n = i := by
  induction l with
  | nil => intro i _ h; simp at h
  | cons p r ih =>
    intro i h1 h2 h3
    cases i with
    | zero => rw [hasR, if_pos (by simpa using h3)]; rfl
    | succ i =>
      have := ih (i := i) (fun q hq => h1 q (by simp [hq])) (by simpa using h2) (by simpa using h3)
      rw [hasR, if_neg (h1 p (by simp)), this, if_neg (by omega)]; rfl
theorem hasR_spec (l : List (Str × Str)) (n : Str) : (hasR l n = -1 ∧ mget l n = none) ∨ (0 ≤ hasR l n ∧ hasR l n < l.length ∧ ∃ v, mget l n = some v ∧ gI l (hasR l n) = (n, v)) := by
  induction l with
  | nil => exact .inl ⟨rfl, rfl⟩
  | cons p r ih =>
    obtain ⟨a, b⟩ := p
    by_cases h : a = n
    · subst h
      refine .inr ⟨by simp [hasR], by simp [hasR], b, by simp [mget], by simp [hasR, gI]⟩
    · simp only [hasR, mget, if_neg h]
      rcases ih with ⟨h1, h2⟩ | ⟨h1, h2, v, h3, h4⟩
      · exact .inl ⟨by rw [h1]; rfl, h2⟩
      · rw [if_neg (by omega)]
        refine .inr ⟨by omega, by simp; omega, v, h3, ?_⟩
        have e : (hasR r n + 1).toNat = (hasR r n).toNat + 1 := by omega
        simp only [gI, e, List.getD_cons_succ]
        exact h4
def putS (f : Str × Str) (st : List (Str × Str) × Bool) (x : Str × Str) : List (Str × Str) × Bool :=
  if st.2 = false ∧ (Op.bytesLess f.1 x.1 = true ∨ f.1 = x.1) then (if x.1 ≠ f.1 then (st.1 ++ [f] ++ [x], true) else (st.1 ++ [f], true))
  else (if x.1 ≠ f.1 then (st.1 ++ [x], st.2) else st)
def putR (l : List (Str × Str)) (f : Str × Str) : List (Str × Str) := if (l.foldl (putS f) ([], false)).2 = true then (l.foldl (putS f) ([], false)).1 else (l.foldl (putS f) ([], false)).1 ++ [f]
theorem putS_step {l : List (Str × Str)} {f : Str × Str} {i : Int} {st : List (Str × Str) × Bool} (h0 : 0 ≤ i) (hi : i < l.length) (h : st = (l.take i.toNat).foldl (putS f) ([], false)) : (l.take (i + 1).toNat).foldl (putS f) ([], false) = putS f st (gI l i) := by
  rw [take_succ_gI h0 hi, List.foldl_append, ← h]; rfl
def woR (l : List (Str × Str)) (n : Str) : List (Str × Str) := l.filter fun p => decide (p.1 ≠ n)
def turnR (l : List (Str × Str)) (t : Trn) : List (Str × Str) :=
  if t.kind = 1 then putR l (t.name, t.data)
  else if t.kind = 2 then putR l (t.name, (mget l t.name).getD [] ++ t.data)
  else if t.kind = 4 then putR (woR l t.name) (t.to, (mget l t.name).getD [])
  else woR l t.name

def trnObj (t : Trn) : AObj := .cells [.int .i64 t.kind, .str t.name, .str t.data, .str t.to]

theorem u_Has (l : List (Str × Str)) (n : Str)  (m : AMem)  (K : AV → AMem → Prop) (hK : K (.int .i64 (hasR l n)) m) : ACalls Try.prog 73 [.slice false (l.map fileAV), .str n] m K := by
 refine acalls_enter Try.func73 rfl (by decide) (Nat.le_of_ble_eq_true rfl) ?_
 refine awp_bd 0 (x := .slice false (l.map fileAV)) rfl (fun hbd0 => ?_)
 have hbd0_0 : l.length ≤ 140737488355328 := bd_map (o := false) hbd0
 show AWP _ _ _ _ [(0, .slice false (l.map fileAV)), (1, .str n)] m
 refine awp_reg2_seq [] [0, 1] (by decide) ?_
 intro K1 hK1
 refine ⟨trivial, ?_⟩
 show K1 [(0, .slice false (l.map fileAV)), (1, .str n)] m
 refine hK1 _ _ ?_; clear hK1 K1
 refine awp_seq_k ?_; intro K2 hK2
 refine awp_reg2_seq [] [0, 1, 5] (by decide) ?_
 intro K1 hK1
 refine ⟨trivial, ?_⟩
 show K1 [(0, .slice false (l.map fileAV)), (1, .str n), (5, .int .i64 0)] m
 refine hK1 _ _ ?_; clear hK1 K1
 refine awp_block ?_
 refine awp_keep [0, 1, 5] (by decide) ?_
 refine awp_loop_st (σ := Int) (fun i => [(0, .slice false (l.map fileAV)), (1, .str n), (5, .int .i64 i)]) (fun _ => m) (fun i => 0 ≤ i ∧ i ≤ l.length ∧ ∀ p ∈ l.take i.toNat, p.1 ≠ n) (fun i => l.length - i.toNat) (0) rfl rfl ?_ ?_
 ·
  show 0 ≤ ((0 : Int)) ∧ ((0 : Int)) ≤ l.length ∧ ∀ p ∈ l.take ((0 : Int)).toNat, p.1 ≠ n
  exact ⟨by omega, by omega, by simp⟩
 rintro i hI
 replace hI : 0 ≤ i ∧ i ≤ l.length ∧ ∀ p ∈ l.take i.toNat, p.1 ≠ n := hI
 show AWP _ _ _ _ [(0, .slice false (l.map fileAV)), (1, .str n), (5, .int .i64 i)] m
 refine awp_seq_k ?_; intro K3 hK3
 refine awp_reg2_seq [] [0, 1, 5, 9] (by decide) ?_
 intro K1 hK1
 refine ⟨trivial, trivial, ?_⟩
 refine ar_len rfl fileAV l rfl rfl rfl ?_
 refine ⟨trivial, ?_⟩
 show K1 [(0, .slice false (l.map fileAV)), (1, .str n), (5, .int .i64 i), (9, .bool (decide (i < (l.length : Int))))] m
 refine hK1 _ _ ?_; clear hK1 K1
 refine awp_cond rfl rfl (fun h1 => ?_) (fun h1 => ?_)
 ·
  replace h1 : i < (l.length : Int) := (of_decide_eq_true h1)
  refine awp_skip ?_
  refine hK3 _ _ ?_; clear hK3
  refine awp_seq_k ?_; intro K4 hK4
  refine awp_block ?_
  refine awp_reg2_seq [] [0, 1, 5, 18] (by decide) ?_
  intro K1 hK1
  refine ⟨trivial, trivial, ?_⟩
  refine ar_index rfl fileAV l i rfl rfl rfl rfl rfl (by decide) (fun _ => rfl) (by omega) (by omega) ?_
  refine ⟨⟨rfl, by decide, (Nat.le_of_ble_eq_true rfl)⟩, (apartOk_one rfl rfl (Nat.le_of_ble_eq_true rfl)), trivial, trivial, ?_⟩
  show K1 [(0, .slice false (l.map fileAV)), (1, .str n), (5, .int .i64 i), (18, .bool (((gI l i).1) == n))] m
  refine hK1 _ _ ?_; clear hK1 K1
  refine awp_cond rfl rfl (fun h2 => ?_) (fun h2 => ?_)
  ·
   replace h2 : (gI l i).1 = n := (eq_of_beq h2)
   refine awp_reg2_seq [] [4] (by decide) ?_
   intro K1 hK1
   refine ⟨trivial, trivial, ?_⟩
   show K1 [(4, .int .i64 i)] m
   refine hK1 _ _ ?_; clear hK1 K1
   refine awp_ret ?_
   refine ⟨trivial, m, fun _ _ h => h, ?_⟩
   show K (.int .i64 i) m
  
   refine K_eq hK (congrArg (AV.int .i64) ?_)
   have := hasR_at (i := i.toNat) hI.2.2 (by omega) h2; omega
  replace h2 : (gI l i).1 ≠ n := (ne_of_beq_false h2)
  refine awp_skip ?_
  refine hK4 _ _ ?_; clear hK4
  refine awp_reg2 [] [0, 1, 5] (by decide) ?_
  intro K1 hK1
  refine ⟨trivial, ?_⟩
  refine ar_add rfl (a := i) (b := 1) rfl rfl (by omega) (by omega) ?_
  refine ⟨trivial, ?_⟩
  show K1 [(0, .slice false (l.map fileAV)), (1, .str n), (5, .int .i64 (i + 1))] m
  refine hK1 _ _ ?_; clear hK1 K1
  refine ⟨(i + 1), rfl, rfl, ?_, ?_⟩
  ·
   show 0 ≤ ((i + 1 : Int)) ∧ ((i + 1 : Int)) ≤ l.length ∧ ∀ p ∈ l.take ((i + 1 : Int)).toNat, p.1 ≠ n
   refine ⟨by omega, by omega, fun p hp => ?_⟩
   rw [take_succ_gI hI.1 h1] at hp
   rcases List.mem_append.1 hp with hp | hp
   ·
    exact hI.2.2 p hp
   ·
    simp at hp; subst hp; exact h2
  ·
   show l.length - ((i + 1 : Int)).toNat < l.length - i.toNat
   omega
 replace h1 : (l.length : Int) ≤ i := (Int.not_lt.1 (of_decide_eq_false h1))
 refine awp_exit ?_
 refine hK2 _ _ ?_; clear hK2
 refine awp_reg2_seq [] [4] (by decide) ?_
 intro K1 hK1
 refine ⟨trivial, ?_⟩
 show K1 [(4, .int .i64 (-1))] m
 refine hK1 _ _ ?_; clear hK1 K1
 refine awp_ret ?_
 refine ⟨trivial, m, fun _ _ h => h, ?_⟩
 show K (.int .i64 (-1)) m

 refine K_eq hK (congrArg (AV.int .i64) ?_)
 exact hasR_none (by have := hI.2.2; rwa [take_full h1] at this)

set_option maxHeartbeats 4000000 in
theorem u_put (l : List (Str × Str)) (f : Str × Str) (hl : l.length ≤ 1000000) (m : AMem)  (K : AV → AMem → Prop) (hK : K (.slice true ((putR l f).map fileAV)) m) : ACalls Try.prog 91 [.slice false (l.map fileAV), fileAV f] m K := by
 refine acalls_enter Try.func91 rfl (by decide) (Nat.le_of_ble_eq_true rfl) ?_
 refine awp_bd 0 (x := .slice false (l.map fileAV)) rfl (fun hbd0 => ?_)
 have hbd0_0 : l.length ≤ 140737488355328 := bd_map (o := false) hbd0
 show AWP _ _ _ _ [(0, .slice false (l.map fileAV)), (1, fileAV f)] m
 refine awp_reg2_seq [] [0, 3] (by decide) ?_
 intro K1 hK1
 refine ar_box rfl (m := m) (L := []) (v := fileAV f) (by rfl) rfl ?_
 intro b1 hb1
 have hFb1 : m b1 = none := wth_none (m := m) (L := []) hb1
 have hNb1 : ([b1] : List Nat).Nodup := wth_nodup (m := m) (L := []) hb1 List.nodup_nil
 refine ⟨trivial, ?_⟩
 show K1 [(0, .slice false (l.map fileAV)), (3, .ptr ⟨b1, 0, none⟩)] (AMem.wth m [(b1, .cells [.str f.1, .str f.2])])
 refine hK1 _ _ ?_; clear hK1 K1
 refine awp_reg2_seq [] [0, 3, 5] (by decide) ?_
 intro K1 hK1
 refine ⟨trivial, ?_⟩
 show K1 [(0, .slice false (l.map fileAV)), (3, .ptr ⟨b1, 0, none⟩), (5, .slice true [])] (AMem.wth m [(b1, .cells [.str f.1, .str f.2])])
 refine hK1 _ _ ?_; clear hK1 K1
 refine awp_reg2_seq [] [0, 3, 5, 6] (by decide) ?_
 intro K1 hK1
 refine ⟨trivial, ?_⟩
 show K1 [(0, .slice false (l.map fileAV)), (3, .ptr ⟨b1, 0, none⟩), (5, .slice true []), (6, .bool false)] (AMem.wth m [(b1, .cells [.str f.1, .str f.2])])
 refine hK1 _ _ ?_; clear hK1 K1
 refine awp_seq_k ?_; intro K2 hK2
 refine awp_reg2_seq [] [0, 3, 5, 6, 7] (by decide) ?_
 intro K1 hK1
 refine ⟨trivial, ?_⟩
 show K1 [(0, .slice false (l.map fileAV)), (3, .ptr ⟨b1, 0, none⟩), (5, .slice true []), (6, .bool false), (7, .int .i64 0)] (AMem.wth m [(b1, .cells [.str f.1, .str f.2])])
 refine hK1 _ _ ?_; clear hK1 K1
 refine awp_block ?_
 refine awp_keep [0, 3, 5, 6, 7] (by decide) ?_
 refine awp_loop_st (σ := (List (Str × Str)) × Bool × Int) (fun ⟨out, laid, i⟩ => [(0, .slice false (l.map fileAV)), (3, .ptr ⟨b1, 0, none⟩), (5, .slice true (out.map fileAV)), (6, .bool laid), (7, .int .i64 i)]) (fun _ => (AMem.wth m [(b1, .cells [.str f.1, .str f.2])])) (fun ⟨out, laid, i⟩ => 0 ≤ i ∧ i ≤ l.length ∧ (out.length : Int) ≤ 2 * i ∧ (out, laid) = (l.take i.toNat).foldl (putS f) ([], false)) (fun ⟨out, laid, i⟩ => l.length - i.toNat) ([], false, 0) rfl rfl ?_ ?_
 ·
  show 0 ≤ ((0 : Int)) ∧ ((0 : Int)) ≤ l.length ∧ ((([] : (List (Str × Str)))).length : Int) ≤ 2 * ((0 : Int)) ∧ ((([] : (List (Str × Str)))), ((false : Bool))) = (l.take ((0 : Int)).toNat).foldl (putS f) ([], false)
  exact ⟨by omega, by omega, by simp, by simp⟩
 rintro ⟨out, laid, i⟩ hI
 replace hI : 0 ≤ i ∧ i ≤ l.length ∧ (out.length : Int) ≤ 2 * i ∧ (out, laid) = (l.take i.toNat).foldl (putS f) ([], false) := hI
 show AWP _ _ _ _ [(0, .slice false (l.map fileAV)), (3, .ptr ⟨b1, 0, none⟩), (5, .slice true (out.map fileAV)), (6, .bool laid), (7, .int .i64 i)] (AMem.wth m [(b1, .cells [.str f.1, .str f.2])])
 refine awp_seq_k ?_; intro K3 hK3
 refine awp_reg2_seq [] [0, 3, 5, 6, 7, 11] (by decide) ?_
 intro K1 hK1
 refine ⟨trivial, trivial, ?_⟩
 refine ar_len rfl fileAV l rfl rfl rfl ?_
 refine ⟨trivial, ?_⟩
 show K1 [(0, .slice false (l.map fileAV)), (3, .ptr ⟨b1, 0, none⟩), (5, .slice true (out.map fileAV)), (6, .bool laid), (7, .int .i64 i), (11, .bool (decide (i < (l.length : Int))))] (AMem.wth m [(b1, .cells [.str f.1, .str f.2])])
 refine hK1 _ _ ?_; clear hK1 K1
 refine awp_cond rfl rfl (fun h1 => ?_) (fun h1 => ?_)
 ·
  replace h1 : i < (l.length : Int) := (of_decide_eq_true h1)
  refine awp_skip ?_
  refine hK3 _ _ ?_; clear hK3
  refine awp_seq_k ?_; intro K4 hK4
  refine awp_block ?_
  refine awp_seq_k ?_; intro K5 hK5
  refine awp_draw_seq Try.mixed [] [0, 3, 5, 6, 7, 25] (by decide) (by decide) ?_
  intro K1 hK1
  suffices key : K1 [(0, .slice false (l.map fileAV)), (3, .ptr ⟨b1, 0, none⟩), (5, .slice true (out.map fileAV)), (6, .bool laid), (7, .int .i64 i), (25, .bool ((!laid) && ((Op.bytesLess f.1 ((gI l i).1)) || (f.1 == ((gI l i).1)))))] (AMem.wth m [(b1, .cells [.str f.1, .str f.2])]) by
   refine ⟨trivial, trivial, trivial, ?_⟩
   show pseq _ _ _ _ _ [(16, .bool (!laid)), (15, .bool (!laid)), (14, .bool laid), (0, .slice false (l.map fileAV)), (3, .ptr ⟨b1, 0, none⟩), (5, .slice true (out.map fileAV)), (6, .bool laid), (7, .int .i64 i), (11, .bool (decide (i < (l.length : Int))))] _
   revert key
   cases h2 : laid
   ·
    replace h2 : laid = false := h2
    intro key
    refine ⟨⟨rfl, by decide⟩, ?_⟩
    refine pq_loadp rfl (v := .str f.1) rfl (wth_get 0 hNb1 rfl) (apartOk_one rfl rfl (Nat.le_of_ble_eq_true rfl)) rfl ?_
    refine ⟨trivial, trivial, ?_⟩
    refine pq_index rfl fileAV l i rfl rfl rfl rfl rfl (by decide) (fun _ => rfl) (by omega) (by omega) ?_
    refine ⟨⟨rfl, by decide, (Nat.le_of_ble_eq_true rfl)⟩, (apartOk_one rfl rfl (Nat.le_of_ble_eq_true rfl)), trivial, trivial, ?_⟩
    exact key
   ·
    replace h2 : laid = true := h2
    intro key
    refine pq_off rfl rfl ?_
    refine pq_off rfl rfl ?_
    refine pq_off rfl rfl ?_
    refine pq_off rfl rfl ?_
    refine pq_off rfl rfl ?_
    refine pq_off rfl rfl ?_
    refine pq_off rfl rfl ?_
    refine pq_off rfl rfl ?_
    refine ⟨trivial, ?_⟩
    exact key
  refine hK1 _ _ ?_; clear hK1 K1
  refine awp_cond rfl rfl (fun h3 => ?_) (fun h3 => ?_)
  ·
   replace h3 : (laid = false) ∧ ((Op.bytesLess f.1 ((gI l i).1) = true) ∨ (f.1 = (gI l i).1)) := ⟨(bnT (bandL h3)), ((borT (bandR h3)).imp (fun q => q) (fun q => (eq_of_beq q)))⟩
   refine awp_reg2_seq [26] [0, 3, 5, 7] (by decide) ?_
   intro K1 hK1
   refine ⟨trivial, ?_⟩
   refine ar_loadp rfl (v := .agg [.str f.1, .str f.2]) rfl (wth_get 0 hNb1 rfl) rfl (apartOk_agg rfl rfl (Nat.le_of_ble_eq_true rfl)) rfl ?_
   refine ⟨⟨rfl, Nat.le_of_ble_eq_true rfl, rfl, Nat.le_of_ble_eq_true rfl, rfl, by simp only [List.forall_mem_cons]; exact ⟨⟨rfl, rfl⟩, fun _ h => by cases h⟩⟩, ?_⟩
   refine ar_append rfl fileAV out ([f] : List (Str × Str)) rfl rfl rfl rfl rfl rfl (Nat.le_of_ble_eq_true rfl) rfl (by (simp only [show Try.prog.bytesOf 118 = 32 from rfl, List.length_append, List.length_cons, List.length_nil]; omega)) (by (first | omega | (simp only [List.length_append, List.length_cons, List.length_nil]; omega))) (fun _ => ⟨rfl, rfl⟩) ?_
   refine ⟨trivial, ?_⟩
   show K1 [(0, .slice false (l.map fileAV)), (3, .ptr ⟨b1, 0, none⟩), (5, .slice true ((out ++ ([f] : List (Str × Str))).map fileAV)), (7, .int .i64 i)] (AMem.wth m [(b1, .cells [.str f.1, .str f.2])])
   refine hK1 _ _ ?_; clear hK1 K1
   refine awp_reg2 [] [0, 3, 5, 6, 7] (by decide) ?_
   intro K1 hK1
   refine ⟨trivial, ?_⟩
   show K1 [(0, .slice false (l.map fileAV)), (3, .ptr ⟨b1, 0, none⟩), (5, .slice true ((out ++ ([f] : List (Str × Str))).map fileAV)), (6, .bool true), (7, .int .i64 i)] (AMem.wth m [(b1, .cells [.str f.1, .str f.2])])
   refine hK1 _ _ ?_; clear hK1 K1
   refine hK5 _ _ ?_; clear hK5
   refine awp_draw_seq Try.mixed [] [0, 3, 5, 6, 7, 37] (by decide) (by decide) ?_
   intro K1 hK1
   refine ⟨trivial, trivial, ?_⟩
   refine pq_index rfl fileAV l i rfl rfl rfl rfl rfl (by decide) (fun _ => rfl) (by omega) (by omega) ?_
   refine ⟨⟨rfl, by decide, (Nat.le_of_ble_eq_true rfl)⟩, (apartOk_one rfl rfl (Nat.le_of_ble_eq_true rfl)), ⟨rfl, by decide⟩, ?_⟩
   refine pq_loadp rfl (v := .str f.1) rfl (wth_get 0 hNb1 rfl) (apartOk_one rfl rfl (Nat.le_of_ble_eq_true rfl)) rfl ?_
   refine ⟨trivial, ?_⟩
   show K1 [(0, .slice false (l.map fileAV)), (3, .ptr ⟨b1, 0, none⟩), (5, .slice true ((out ++ ([f] : List (Str × Str))).map fileAV)), (6, .bool true), (7, .int .i64 i), (37, .bool (!(((gI l i).1) == f.1)))] (AMem.wth m [(b1, .cells [.str f.1, .str f.2])])
   refine hK1 _ _ ?_; clear hK1 K1
   refine awp_cond rfl rfl (fun h4 => ?_) (fun h4 => ?_)
   ·
    replace h4 : (gI l i).1 ≠ f.1 := (ne_of_beq_false (bnT h4))
    refine awp_reg2 [38] [0, 3, 5, 6, 7] (by decide) ?_
    intro K1 hK1
    refine ⟨trivial, trivial, trivial, ?_⟩
    refine ar_index rfl fileAV l i rfl rfl rfl rfl rfl (by decide) (fun _ => rfl) (by omega) (by omega) ?_
    refine ⟨(apartOk_agg rfl rfl (Nat.le_of_ble_eq_true rfl)), ⟨rfl, Nat.le_of_ble_eq_true rfl, rfl, Nat.le_of_ble_eq_true rfl, rfl, by simp only [List.forall_mem_cons]; exact ⟨⟨rfl, rfl⟩, fun _ h => by cases h⟩⟩, ?_⟩
    refine ar_append rfl fileAV (out ++ ([f] : List (Str × Str))) ([gI l i] : List (Str × Str)) rfl rfl rfl rfl rfl rfl (Nat.le_of_ble_eq_true rfl) rfl (by (simp only [show Try.prog.bytesOf 118 = 32 from rfl, List.length_append, List.length_cons, List.length_nil]; omega)) (by (first | omega | (simp only [List.length_append, List.length_cons, List.length_nil]; omega))) (fun _ => ⟨rfl, rfl⟩) ?_
    refine ⟨trivial, ?_⟩
    show K1 [(0, .slice false (l.map fileAV)), (3, .ptr ⟨b1, 0, none⟩), (5, .slice true (((out ++ ([f] : List (Str × Str))) ++ ([gI l i] : List (Str × Str))).map fileAV)), (6, .bool true), (7, .int .i64 i)] (AMem.wth m [(b1, .cells [.str f.1, .str f.2])])
    refine hK1 _ _ ?_; clear hK1 K1
    refine hK4 _ _ ?_; clear hK4
    refine awp_reg2 [] [0, 3, 5, 6, 7] (by decide) ?_
    intro K1 hK1
    refine ⟨trivial, ?_⟩
    refine ar_add rfl (a := i) (b := 1) rfl rfl (by omega) (by omega) ?_
    refine ⟨trivial, ?_⟩
    show K1 [(0, .slice false (l.map fileAV)), (3, .ptr ⟨b1, 0, none⟩), (5, .slice true (((out ++ ([f] : List (Str × Str))) ++ ([gI l i] : List (Str × Str))).map fileAV)), (6, .bool true), (7, .int .i64 (i + 1))] (AMem.wth m [(b1, .cells [.str f.1, .str f.2])])
    refine hK1 _ _ ?_; clear hK1 K1
    refine ⟨((out ++ ([f] : List (Str × Str))) ++ ([gI l i] : List (Str × Str)), true, i + 1), rfl, rfl, ?_, ?_⟩
    ·
     show 0 ≤ ((i + 1 : Int)) ∧ ((i + 1 : Int)) ≤ l.length ∧ ((((out ++ ([f] : List (Str × Str))) ++ ([gI l i] : List (Str × Str)) : (List (Str × Str)))).length : Int) ≤ 2 * ((i + 1 : Int)) ∧ ((((out ++ ([f] : List (Str × Str))) ++ ([gI l i] : List (Str × Str)) : (List (Str × Str)))), ((true : Bool))) = (l.take ((i + 1 : Int)).toNat).foldl (putS f) ([], false)
     have hps := putS_step (f := f) hI.1 h1 hI.2.2.2
     refine ⟨by omega, by omega, by (first | omega | (simp only [List.length_append, List.length_cons, List.length_nil]; omega)), ?_⟩
     rw [hps]
     unfold putS
     split <;> (try split) <;> first | rfl | (exfalso; simp_all; done)
    ·
     show l.length - ((i + 1 : Int)).toNat < l.length - i.toNat
     omega
   replace h4 : (gI l i).1 = f.1 := (eq_of_beq (bnF h4))
   refine awp_skip ?_
   refine hK4 _ _ ?_; clear hK4
   refine awp_reg2 [] [0, 3, 5, 6, 7] (by decide) ?_
   intro K1 hK1
   refine ⟨trivial, ?_⟩
   refine ar_add rfl (a := i) (b := 1) rfl rfl (by omega) (by omega) ?_
   refine ⟨trivial, ?_⟩
   show K1 [(0, .slice false (l.map fileAV)), (3, .ptr ⟨b1, 0, none⟩), (5, .slice true ((out ++ ([f] : List (Str × Str))).map fileAV)), (6, .bool true), (7, .int .i64 (i + 1))] (AMem.wth m [(b1, .cells [.str f.1, .str f.2])])
   refine hK1 _ _ ?_; clear hK1 K1
   refine ⟨(out ++ ([f] : List (Str × Str)), true, i + 1), rfl, rfl, ?_, ?_⟩
   ·
    show 0 ≤ ((i + 1 : Int)) ∧ ((i + 1 : Int)) ≤ l.length ∧ (((out ++ ([f] : List (Str × Str)) : (List (Str × Str)))).length : Int) ≤ 2 * ((i + 1 : Int)) ∧ (((out ++ ([f] : List (Str × Str)) : (List (Str × Str)))), ((true : Bool))) = (l.take ((i + 1 : Int)).toNat).foldl (putS f) ([], false)
    have hps := putS_step (f := f) hI.1 h1 hI.2.2.2
    refine ⟨by omega, by omega, by (first | omega | (simp only [List.length_append, List.length_cons, List.length_nil]; omega)), ?_⟩
    rw [hps]
    unfold putS
    split <;> (try split) <;> first | rfl | (exfalso; simp_all; done)
   ·
    show l.length - ((i + 1 : Int)).toNat < l.length - i.toNat
    omega
  replace h3 : (laid = true) ∨ ((Op.bytesLess f.1 ((gI l i).1) = false) ∧ (f.1 ≠ (gI l i).1)) := ((bandF h3).imp (fun q => (bnF q)) (fun q => ⟨(borL q), (ne_of_beq_false (borR q))⟩))
  refine awp_skip ?_
  refine hK5 _ _ ?_; clear hK5
  refine awp_draw_seq Try.mixed [] [0, 3, 5, 6, 7, 37] (by decide) (by decide) ?_
  intro K1 hK1
  refine ⟨trivial, trivial, ?_⟩
  refine pq_index rfl fileAV l i rfl rfl rfl rfl rfl (by decide) (fun _ => rfl) (by omega) (by omega) ?_
  refine ⟨⟨rfl, by decide, (Nat.le_of_ble_eq_true rfl)⟩, (apartOk_one rfl rfl (Nat.le_of_ble_eq_true rfl)), ⟨rfl, by decide⟩, ?_⟩
  refine pq_loadp rfl (v := .str f.1) rfl (wth_get 0 hNb1 rfl) (apartOk_one rfl rfl (Nat.le_of_ble_eq_true rfl)) rfl ?_
  refine ⟨trivial, ?_⟩
  show K1 [(0, .slice false (l.map fileAV)), (3, .ptr ⟨b1, 0, none⟩), (5, .slice true (out.map fileAV)), (6, .bool laid), (7, .int .i64 i), (37, .bool (!(((gI l i).1) == f.1)))] (AMem.wth m [(b1, .cells [.str f.1, .str f.2])])
  refine hK1 _ _ ?_; clear hK1 K1
  refine awp_cond rfl rfl (fun h5 => ?_) (fun h5 => ?_)
  ·
   replace h5 : (gI l i).1 ≠ f.1 := (ne_of_beq_false (bnT h5))
   refine awp_reg2 [38] [0, 3, 5, 6, 7] (by decide) ?_
   intro K1 hK1
   refine ⟨trivial, trivial, trivial, ?_⟩
   refine ar_index rfl fileAV l i rfl rfl rfl rfl rfl (by decide) (fun _ => rfl) (by omega) (by omega) ?_
   refine ⟨(apartOk_agg rfl rfl (Nat.le_of_ble_eq_true rfl)), ⟨rfl, Nat.le_of_ble_eq_true rfl, rfl, Nat.le_of_ble_eq_true rfl, rfl, by simp only [List.forall_mem_cons]; exact ⟨⟨rfl, rfl⟩, fun _ h => by cases h⟩⟩, ?_⟩
   refine ar_append rfl fileAV out ([gI l i] : List (Str × Str)) rfl rfl rfl rfl rfl rfl (Nat.le_of_ble_eq_true rfl) rfl (by (simp only [show Try.prog.bytesOf 118 = 32 from rfl, List.length_append, List.length_cons, List.length_nil]; omega)) (by (first | omega | (simp only [List.length_append, List.length_cons, List.length_nil]; omega))) (fun _ => ⟨rfl, rfl⟩) ?_
   refine ⟨trivial, ?_⟩
   show K1 [(0, .slice false (l.map fileAV)), (3, .ptr ⟨b1, 0, none⟩), (5, .slice true ((out ++ ([gI l i] : List (Str × Str))).map fileAV)), (6, .bool laid), (7, .int .i64 i)] (AMem.wth m [(b1, .cells [.str f.1, .str f.2])])
   refine hK1 _ _ ?_; clear hK1 K1
   refine hK4 _ _ ?_; clear hK4
   refine awp_reg2 [] [0, 3, 5, 6, 7] (by decide) ?_
   intro K1 hK1
   refine ⟨trivial, ?_⟩
   refine ar_add rfl (a := i) (b := 1) rfl rfl (by omega) (by omega) ?_
   refine ⟨trivial, ?_⟩
   show K1 [(0, .slice false (l.map fileAV)), (3, .ptr ⟨b1, 0, none⟩), (5, .slice true ((out ++ ([gI l i] : List (Str × Str))).map fileAV)), (6, .bool laid), (7, .int .i64 (i + 1))] (AMem.wth m [(b1, .cells [.str f.1, .str f.2])])
   refine hK1 _ _ ?_; clear hK1 K1
   refine ⟨(out ++ ([gI l i] : List (Str × Str)), laid, i + 1), rfl, rfl, ?_, ?_⟩
   ·
    show 0 ≤ ((i + 1 : Int)) ∧ ((i + 1 : Int)) ≤ l.length ∧ (((out ++ ([gI l i] : List (Str × Str)) : (List (Str × Str)))).length : Int) ≤ 2 * ((i + 1 : Int)) ∧ (((out ++ ([gI l i] : List (Str × Str)) : (List (Str × Str)))), laid) = (l.take ((i + 1 : Int)).toNat).foldl (putS f) ([], false)
    have hps := putS_step (f := f) hI.1 h1 hI.2.2.2
    refine ⟨by omega, by omega, by (first | omega | (simp only [List.length_append, List.length_cons, List.length_nil]; omega)), ?_⟩
    rw [hps]
    unfold putS
    split <;> (try split) <;> first | rfl | (exfalso; simp_all; done)
   ·
    show l.length - ((i + 1 : Int)).toNat < l.length - i.toNat
    omega
  replace h5 : (gI l i).1 = f.1 := (eq_of_beq (bnF h5))
  refine awp_skip ?_
  refine hK4 _ _ ?_; clear hK4
  refine awp_reg2 [] [0, 3, 5, 6, 7] (by decide) ?_
  intro K1 hK1
  refine ⟨trivial, ?_⟩
  refine ar_add rfl (a := i) (b := 1) rfl rfl (by omega) (by omega) ?_
  refine ⟨trivial, ?_⟩
  show K1 [(0, .slice false (l.map fileAV)), (3, .ptr ⟨b1, 0, none⟩), (5, .slice true (out.map fileAV)), (6, .bool laid), (7, .int .i64 (i + 1))] (AMem.wth m [(b1, .cells [.str f.1, .str f.2])])
  refine hK1 _ _ ?_; clear hK1 K1
  refine ⟨(out, laid, i + 1), rfl, rfl, ?_, ?_⟩
  ·
   show 0 ≤ ((i + 1 : Int)) ∧ ((i + 1 : Int)) ≤ l.length ∧ (out.length : Int) ≤ 2 * ((i + 1 : Int)) ∧ (out, laid) = (l.take ((i + 1 : Int)).toNat).foldl (putS f) ([], false)
   have hps := putS_step (f := f) hI.1 h1 hI.2.2.2
   refine ⟨by omega, by omega, by (first | omega | (simp only [List.length_append, List.length_cons, List.length_nil]; omega)), ?_⟩
   rw [hps]
   unfold putS
   split <;> (try split) <;> first | rfl | (exfalso; simp_all; done)
  ·
   show l.length - ((i + 1 : Int)).toNat < l.length - i.toNat
   omega
 replace h1 : (l.length : Int) ≤ i := (Int.not_lt.1 (of_decide_eq_false h1))
 refine awp_exit ?_
 refine hK2 _ _ ?_; clear hK2
 refine awp_seq_k ?_; intro K6 hK6
 refine awp_reg2_seq [] [3, 5, 46] (by decide) ?_
 intro K1 hK1
 refine ⟨trivial, trivial, ?_⟩
 show K1 [(3, .ptr ⟨b1, 0, none⟩), (5, .slice true (out.map fileAV)), (46, .bool (!laid))] (AMem.wth m [(b1, .cells [.str f.1, .str f.2])])
 refine hK1 _ _ ?_; clear hK1 K1
 refine awp_cond rfl rfl (fun h6 => ?_) (fun h6 => ?_)
 ·
  replace h6 : laid = false := (bnT h6)
  refine awp_reg2 [47] [5] (by decide) ?_
  intro K1 hK1
  refine ⟨trivial, ?_⟩
  refine ar_loadp rfl (v := .agg [.str f.1, .str f.2]) rfl (wth_get 0 hNb1 rfl) rfl (apartOk_agg rfl rfl (Nat.le_of_ble_eq_true rfl)) rfl ?_
  refine ⟨⟨rfl, Nat.le_of_ble_eq_true rfl, rfl, Nat.le_of_ble_eq_true rfl, rfl, by simp only [List.forall_mem_cons]; exact ⟨⟨rfl, rfl⟩, fun _ h => by cases h⟩⟩, ?_⟩
  refine ar_append rfl fileAV out ([f] : List (Str × Str)) rfl rfl rfl rfl rfl rfl (Nat.le_of_ble_eq_true rfl) rfl (by (simp only [show Try.prog.bytesOf 118 = 32 from rfl, List.length_append, List.length_cons, List.length_nil]; omega)) (by (first | omega | (simp only [List.length_append, List.length_cons, List.length_nil]; omega))) (fun _ => ⟨rfl, rfl⟩) ?_
  refine ⟨trivial, ?_⟩
  show K1 [(5, .slice true ((out ++ ([f] : List (Str × Str))).map fileAV))] (AMem.wth m [(b1, .cells [.str f.1, .str f.2])])
  refine hK1 _ _ ?_; clear hK1 K1
  refine hK6 _ _ ?_; clear hK6
  refine awp_reg2_seq [51] [4] (by decide) ?_
  intro K1 hK1
  refine ⟨trivial, trivial, ?_⟩
  show K1 [(4, .slice true ((out ++ ([f] : List (Str × Str))).map fileAV))] (AMem.wth m [(b1, .cells [.str f.1, .str f.2])])
  refine hK1 _ _ ?_; clear hK1 K1
  refine awp_ret ?_
  refine ⟨trivial, m, (wth_sub2 (m := m) [(b1, .cells [.str f.1, .str f.2])] [] hNb1 (by simp only [List.map_cons, List.map_nil, List.forall_mem_cons]; exact ⟨hFb1, fun _ h => by cases h⟩)), ?_⟩
  show K (.slice true ((out ++ ([f] : List (Str × Str))).map fileAV)) m
 
  refine K_eq hK ?_
  have := hI.2.2.2; rw [take_full h1] at this; unfold putR; rw [← this, if_neg (by simp_all)]
 replace h6 : laid = true := (bnF h6)
 refine awp_skip ?_
 refine hK6 _ _ ?_; clear hK6
 refine awp_reg2_seq [51] [4] (by decide) ?_
 intro K1 hK1
 refine ⟨trivial, trivial, ?_⟩
 show K1 [(4, .slice true (out.map fileAV))] (AMem.wth m [(b1, .cells [.str f.1, .str f.2])])
 refine hK1 _ _ ?_; clear hK1 K1
 refine awp_ret ?_
 refine ⟨trivial, m, (wth_sub2 (m := m) [(b1, .cells [.str f.1, .str f.2])] [] hNb1 (by simp only [List.map_cons, List.map_nil, List.forall_mem_cons]; exact ⟨hFb1, fun _ h => by cases h⟩)), ?_⟩
 show K (.slice true (out.map fileAV)) m

 refine K_eq hK ?_
 have := hI.2.2.2; rw [take_full h1] at this; unfold putR; rw [← this, if_pos (by simp_all)]

theorem u_without (l : List (Str × Str)) (n : Str) (hl : l.length ≤ 1000000) (m : AMem)  (K : AV → AMem → Prop) (hK : K (.slice true ((woR l n).map fileAV)) m) : ACalls Try.prog 92 [.slice false (l.map fileAV), .str n] m K := by
 refine acalls_enter Try.func92 rfl (by decide) (Nat.le_of_ble_eq_true rfl) ?_
 refine awp_bd 0 (x := .slice false (l.map fileAV)) rfl (fun hbd0 => ?_)
 have hbd0_0 : l.length ≤ 140737488355328 := bd_map (o := false) hbd0
 show AWP _ _ _ _ [(0, .slice false (l.map fileAV)), (1, .str n)] m
 refine awp_reg2_seq [] [0, 1] (by decide) ?_
 intro K1 hK1
 refine ⟨trivial, ?_⟩
 show K1 [(0, .slice false (l.map fileAV)), (1, .str n)] m
 refine hK1 _ _ ?_; clear hK1 K1
 refine awp_reg2_seq [] [0, 1, 5] (by decide) ?_
 intro K1 hK1
 refine ⟨trivial, ?_⟩
 show K1 [(0, .slice false (l.map fileAV)), (1, .str n), (5, .slice true [])] m
 refine hK1 _ _ ?_; clear hK1 K1
 refine awp_seq_k ?_; intro K2 hK2
 refine awp_reg2_seq [] [0, 1, 5, 6] (by decide) ?_
 intro K1 hK1
 refine ⟨trivial, ?_⟩
 show K1 [(0, .slice false (l.map fileAV)), (1, .str n), (5, .slice true []), (6, .int .i64 0)] m
 refine hK1 _ _ ?_; clear hK1 K1
 refine awp_block ?_
 refine awp_keep [0, 1, 5, 6] (by decide) ?_
 refine awp_loop_st (σ := (List (Str × Str)) × Int) (fun ⟨out, i⟩ => [(0, .slice false (l.map fileAV)), (1, .str n), (5, .slice true (out.map fileAV)), (6, .int .i64 i)]) (fun _ => m) (fun ⟨out, i⟩ => 0 ≤ i ∧ i ≤ l.length ∧ out.length ≤ i ∧ out = woR (l.take i.toNat) n) (fun ⟨out, i⟩ => l.length - i.toNat) ([], 0) rfl rfl ?_ ?_
 ·
  show 0 ≤ ((0 : Int)) ∧ ((0 : Int)) ≤ l.length ∧ (([] : (List (Str × Str)))).length ≤ ((0 : Int)) ∧ (([] : (List (Str × Str)))) = woR (l.take ((0 : Int)).toNat) n
  exact ⟨by omega, by omega, by simp, by simp [woR]⟩
 rintro ⟨out, i⟩ hI
 replace hI : 0 ≤ i ∧ i ≤ l.length ∧ out.length ≤ i ∧ out = woR (l.take i.toNat) n := hI
 show AWP _ _ _ _ [(0, .slice false (l.map fileAV)), (1, .str n), (5, .slice true (out.map fileAV)), (6, .int .i64 i)] m
 refine awp_seq_k ?_; intro K3 hK3
 refine awp_reg2_seq [] [0, 1, 5, 6, 10] (by decide) ?_
 intro K1 hK1
 refine ⟨trivial, trivial, ?_⟩
 refine ar_len rfl fileAV l rfl rfl rfl ?_
 refine ⟨trivial, ?_⟩
 show K1 [(0, .slice false (l.map fileAV)), (1, .str n), (5, .slice true (out.map fileAV)), (6, .int .i64 i), (10, .bool (decide (i < (l.length : Int))))] m
 refine hK1 _ _ ?_; clear hK1 K1
 refine awp_cond rfl rfl (fun h1 => ?_) (fun h1 => ?_)
 ·
  replace h1 : i < (l.length : Int) := (of_decide_eq_true h1)
  refine awp_skip ?_
  refine hK3 _ _ ?_; clear hK3
  refine awp_seq_k ?_; intro K4 hK4
  refine awp_block ?_
  refine awp_reg2_seq [] [0, 1, 5, 6, 19] (by decide) ?_
  intro K1 hK1
  refine ⟨trivial, trivial, ?_⟩
  refine ar_index rfl fileAV l i rfl rfl rfl rfl rfl (by decide) (fun _ => rfl) (by omega) (by omega) ?_
  refine ⟨⟨rfl, by decide, (Nat.le_of_ble_eq_true rfl)⟩, (apartOk_one rfl rfl (Nat.le_of_ble_eq_true rfl)), trivial, trivial, ?_⟩
  show K1 [(0, .slice false (l.map fileAV)), (1, .str n), (5, .slice true (out.map fileAV)), (6, .int .i64 i), (19, .bool (!(((gI l i).1) == n)))] m
  refine hK1 _ _ ?_; clear hK1 K1
  refine awp_cond rfl rfl (fun h2 => ?_) (fun h2 => ?_)
  ·
   replace h2 : (gI l i).1 ≠ n := (ne_of_beq_false (bnT h2))
   refine awp_reg2 [20] [0, 1, 5, 6] (by decide) ?_
   intro K1 hK1
   refine ⟨trivial, trivial, trivial, ?_⟩
   refine ar_index rfl fileAV l i rfl rfl rfl rfl rfl (by decide) (fun _ => rfl) (by omega) (by omega) ?_
   refine ⟨(apartOk_agg rfl rfl (Nat.le_of_ble_eq_true rfl)), ⟨rfl, Nat.le_of_ble_eq_true rfl, rfl, Nat.le_of_ble_eq_true rfl, rfl, by simp only [List.forall_mem_cons]; exact ⟨⟨rfl, rfl⟩, fun _ h => by cases h⟩⟩, ?_⟩
   refine ar_append rfl fileAV out ([gI l i] : List (Str × Str)) rfl rfl rfl rfl rfl rfl (Nat.le_of_ble_eq_true rfl) rfl (by (simp only [show Try.prog.bytesOf 118 = 32 from rfl, List.length_append, List.length_cons, List.length_nil]; omega)) (by (first | omega | (simp only [List.length_append, List.length_cons, List.length_nil]; omega))) (fun _ => ⟨rfl, rfl⟩) ?_
   refine ⟨trivial, ?_⟩
   show K1 [(0, .slice false (l.map fileAV)), (1, .str n), (5, .slice true ((out ++ ([gI l i] : List (Str × Str))).map fileAV)), (6, .int .i64 i)] m
   refine hK1 _ _ ?_; clear hK1 K1
   refine hK4 _ _ ?_; clear hK4
   refine awp_reg2 [] [0, 1, 5, 6] (by decide) ?_
   intro K1 hK1
   refine ⟨trivial, ?_⟩
   refine ar_add rfl (a := i) (b := 1) rfl rfl (by omega) (by omega) ?_
   refine ⟨trivial, ?_⟩
   show K1 [(0, .slice false (l.map fileAV)), (1, .str n), (5, .slice true ((out ++ ([gI l i] : List (Str × Str))).map fileAV)), (6, .int .i64 (i + 1))] m
   refine hK1 _ _ ?_; clear hK1 K1
   refine ⟨(out ++ ([gI l i] : List (Str × Str)), i + 1), rfl, rfl, ?_, ?_⟩
   ·
    show 0 ≤ ((i + 1 : Int)) ∧ ((i + 1 : Int)) ≤ l.length ∧ ((out ++ ([gI l i] : List (Str × Str)) : (List (Str × Str)))).length ≤ ((i + 1 : Int)) ∧ ((out ++ ([gI l i] : List (Str × Str)) : (List (Str × Str)))) = woR (l.take ((i + 1 : Int)).toNat) n
    refine ⟨by omega, by omega, by (first | omega | (simp only [List.length_append, List.length_cons, List.length_nil]; omega)), ?_⟩
    unfold woR
    rw [take_succ_gI hI.1 h1, List.filter_append, hI.2.2.2]
    unfold woR
    simp_all
   ·
    show l.length - ((i + 1 : Int)).toNat < l.length - i.toNat
    omega
  replace h2 : (gI l i).1 = n := (eq_of_beq (bnF h2))
  refine awp_skip ?_
  refine hK4 _ _ ?_; clear hK4
  refine awp_reg2 [] [0, 1, 5, 6] (by decide) ?_
  intro K1 hK1
  refine ⟨trivial, ?_⟩
  refine ar_add rfl (a := i) (b := 1) rfl rfl (by omega) (by omega) ?_
  refine ⟨trivial, ?_⟩
  show K1 [(0, .slice false (l.map fileAV)), (1, .str n), (5, .slice true (out.map fileAV)), (6, .int .i64 (i + 1))] m
  refine hK1 _ _ ?_; clear hK1 K1
  refine ⟨(out, i + 1), rfl, rfl, ?_, ?_⟩
  ·
   show 0 ≤ ((i + 1 : Int)) ∧ ((i + 1 : Int)) ≤ l.length ∧ out.length ≤ ((i + 1 : Int)) ∧ out = woR (l.take ((i + 1 : Int)).toNat) n
   refine ⟨by omega, by omega, by (first | omega | (simp only [List.length_append, List.length_cons, List.length_nil]; omega)), ?_⟩
   unfold woR
   rw [take_succ_gI hI.1 h1, List.filter_append, hI.2.2.2]
   unfold woR
   simp_all
  ·
   show l.length - ((i + 1 : Int)).toNat < l.length - i.toNat
   omega
 replace h1 : (l.length : Int) ≤ i := (Int.not_lt.1 (of_decide_eq_false h1))
 refine awp_exit ?_
 refine hK2 _ _ ?_; clear hK2
 refine awp_reg2_seq [27] [4] (by decide) ?_
 intro K1 hK1
 refine ⟨trivial, trivial, ?_⟩
 show K1 [(4, .slice true (out.map fileAV))] m
 refine hK1 _ _ ?_; clear hK1 K1
 refine awp_ret ?_
 refine ⟨trivial, m, fun _ _ h => h, ?_⟩
 show K (.slice true (out.map fileAV)) m

 refine K_eq hK ?_
 have := hI.2.2.2; rw [take_full h1] at this; rw [this]


theorem woR_len (l : List (Str × Str)) (n : Str) : (woR l n).length ≤ l.length := List.length_filter_le _ _
theorem hasR_get {l : List (Str × Str)} {n : Str} (h : 0 ≤ hasR l n) : hasR l n < l.length ∧ (gI l (hasR l n)).2 = (mget l n).getD [] := by
  rcases hasR_spec l n with ⟨h1, _⟩ | ⟨_, h2, v, h3, h4⟩
  · omega
  · exact ⟨h2, by rw [h4, h3]; rfl⟩
theorem hasR_no {l : List (Str × Str)} {n : Str} (h : hasR l n < 0) : mget l n = none := by
  rcases hasR_spec l n with ⟨_, h1⟩ | ⟨h2, _⟩
  · exact h1
  · omega

set_option maxHeartbeats 4000000 in
theorem u_turned (l : List (Str × Str)) (t : Trn) (hl : l.length ≤ 1000000) (hb : ∀ p ∈ l, p.2.length ≤ 1000000) (ht : t.data.length ≤ 1000000) (m : AMem)  (K : AV → AMem → Prop) (hK : K (.slice true ((turnR l t).map fileAV)) m) : ACalls Try.prog 76 [.slice false (l.map fileAV), trnAV t] m K := by
 have hgl := mget_le (k := t.name) hb
 refine acalls_enter Try.func76 rfl (by decide) (Nat.le_of_ble_eq_true rfl) ?_
 show AWP _ _ _ _ [(0, .slice false (l.map fileAV)), (1, trnAV t)] m
 refine awp_reg2_seq [] [0, 3] (by decide) ?_
 intro K1 hK1
 refine ar_box rfl (m := m) (L := []) (v := trnAV t) (by rfl) rfl ?_
 intro b1 hb1
 have hFb1 : m b1 = none := wth_none (m := m) (L := []) hb1
 have hNb1 : ([b1] : List Nat).Nodup := wth_nodup (m := m) (L := []) hb1 List.nodup_nil
 refine ⟨trivial, ?_⟩
 show K1 [(0, .slice false (l.map fileAV)), (3, .ptr ⟨b1, 0, none⟩)] (AMem.wth m [(b1, trnObj t)])
 refine hK1 _ _ ?_; clear hK1 K1
 refine awp_reg2_seq [] [0, 3, 5] (by decide) ?_
 intro K1 hK1
 refine ⟨trivial, ⟨rfl, by decide⟩, ?_⟩
 refine ar_loadp rfl (v := .str t.name) rfl (wth_get 0 hNb1 rfl) rfl (apartOk_one rfl rfl (Nat.le_of_ble_eq_true rfl)) rfl ?_
 refine u_Has l t.name _ _ ?_
 refine ⟨trivial, ?_⟩
 show K1 [(0, .slice false (l.map fileAV)), (3, .ptr ⟨b1, 0, none⟩), (5, .int .i64 (hasR l t.name))] (AMem.wth m [(b1, trnObj t)])
 refine hK1 _ _ ?_; clear hK1 K1
 refine awp_seq_k ?_; intro K2 hK2
 refine awp_reg2_seq [] [0, 3, 5, 12] (by decide) ?_
 intro K1 hK1
 refine ⟨⟨rfl, by decide⟩, ?_⟩
 refine ar_loadp rfl (v := .int .i64 t.kind) rfl (wth_get 0 hNb1 rfl) rfl (apartOk_one rfl rfl (Nat.le_of_ble_eq_true rfl)) rfl ?_
 show K1 [(0, .slice false (l.map fileAV)), (3, .ptr ⟨b1, 0, none⟩), (5, .int .i64 (hasR l t.name)), (12, .int .i64 t.kind)] (AMem.wth m [(b1, trnObj t)])
 refine hK1 _ _ ?_; clear hK1 K1
 refine awp_block ?_
 refine awp_reg2_seq [] [0, 3, 5, 12, 13] (by decide) ?_
 intro K1 hK1
 refine ⟨trivial, trivial, ?_⟩
 show K1 [(0, .slice false (l.map fileAV)), (3, .ptr ⟨b1, 0, none⟩), (5, .int .i64 (hasR l t.name)), (12, .int .i64 t.kind), (13, .bool (t.kind == 1))] (AMem.wth m [(b1, trnObj t)])
 refine hK1 _ _ ?_; clear hK1 K1
 refine awp_cond rfl rfl (fun h1 => ?_) (fun h1 => ?_)
 ·
  replace h1 : t.kind = 1 := (eq_of_beq h1)
  refine awp_reg2_seq [] [4] (by decide) ?_
  intro K1 hK1
  refine ⟨trivial, ⟨rfl, by decide⟩, ?_⟩
  refine ar_loadp rfl (v := .str t.name) rfl (wth_get 0 hNb1 rfl) rfl (apartOk_one rfl rfl (Nat.le_of_ble_eq_true rfl)) rfl ?_
  refine ⟨⟨rfl, by decide⟩, ?_⟩
  refine ar_loadp rfl (v := .str t.data) rfl (wth_get 0 hNb1 rfl) rfl (apartOk_one rfl rfl (Nat.le_of_ble_eq_true rfl)) rfl ?_
  refine ⟨⟨rfl, by simp only [List.forall_mem_cons]; exact ⟨rfl, rfl, fun _ h => by cases h⟩, by simp only [List.forall_mem_cons]; exact ⟨rfl, rfl, fun _ h => by cases h⟩⟩, ?_⟩
  refine u_put l (⟨t.name, t.data⟩ : (Str × Str)) (by first | omega | (have := woR_len l t.name; omega)) _ _ ?_
  refine ⟨trivial, ?_⟩
  show K1 [(4, .slice true ((putR l (⟨t.name, t.data⟩ : (Str × Str))).map fileAV))] (AMem.wth m [(b1, trnObj t)])
  refine hK1 _ _ ?_; clear hK1 K1
  refine awp_ret ?_
  refine ⟨trivial, m, (wth_sub2 (m := m) [(b1, trnObj t)] [] hNb1 (by simp only [List.map_cons, List.map_nil, List.forall_mem_cons]; exact ⟨hFb1, fun _ h => by cases h⟩)), ?_⟩
  show K (.slice true ((putR l (⟨t.name, t.data⟩ : (Str × Str))).map fileAV)) m
 
  have e0 : turnR l t = (putR l (⟨t.name, t.data⟩ : (Str × Str)) : List (Str × Str)) := by
   first | (rw [turnR, if_pos (by assumption)]; done) | (rw [turnR, if_neg (by omega), if_pos (by assumption), ← (hasR_get (by assumption)).2]; done) | (rw [turnR, if_neg (by omega), if_pos (by assumption), hasR_no (by omega)]; rfl) | (rw [turnR, if_neg (by omega), if_neg (by omega), if_pos (by assumption), ← (hasR_get (by assumption)).2]; done) | (rw [turnR, if_neg (by omega), if_neg (by omega), if_pos (by assumption), hasR_no (by omega)]; rfl) | (rw [turnR, if_neg (by omega), if_neg (by omega), if_neg (by omega)]; done)
  rw [e0] at hK
  exact hK
 replace h1 : t.kind ≠ 1 := (ne_of_beq_false h1)
 refine awp_reg2_seq [] [0, 3, 5, 12, 22] (by decide) ?_
 intro K1 hK1
 refine ⟨trivial, trivial, ?_⟩
 show K1 [(0, .slice false (l.map fileAV)), (3, .ptr ⟨b1, 0, none⟩), (5, .int .i64 (hasR l t.name)), (12, .int .i64 t.kind), (22, .bool (t.kind == 2))] (AMem.wth m [(b1, trnObj t)])
 refine hK1 _ _ ?_; clear hK1 K1
 refine awp_cond rfl rfl (fun h2 => ?_) (fun h2 => ?_)
 ·
  replace h2 : t.kind = 2 := (eq_of_beq h2)
  refine awp_seq_k ?_; intro K3 hK3
  refine awp_reg2_seq [] [0, 3, 5, 25] (by decide) ?_
  intro K1 hK1
  refine ⟨trivial, trivial, ?_⟩
  show K1 [(0, .slice false (l.map fileAV)), (3, .ptr ⟨b1, 0, none⟩), (5, .int .i64 (hasR l t.name)), (25, .bool (decide (0 ≤ hasR l t.name)))] (AMem.wth m [(b1, trnObj t)])
  refine hK1 _ _ ?_; clear hK1 K1
  refine awp_cond rfl rfl (fun h3 => ?_) (fun h3 => ?_)
  ·
   replace h3 : 0 ≤ hasR l t.name := (of_decide_eq_true h3)
   refine awp_draw_tail2_seq Try.mixed 12 [] [] [] [4] (by decide) (by decide) ?_
   intro K1 hK1
   refine ⟨trivial, ⟨rfl, by decide⟩, ?_⟩
   refine pq_loadp rfl (v := .str t.name) rfl (wth_get 0 hNb1 rfl) (apartOk_one rfl rfl (Nat.le_of_ble_eq_true rfl)) rfl ?_
   refine ⟨trivial, trivial, ?_⟩
   refine pq_index rfl fileAV l (hasR l t.name) rfl rfl rfl rfl rfl (by decide) (fun _ => rfl) (by omega) (by exact (hasR_get (by omega)).1) ?_
   refine ⟨⟨rfl, by decide, (Nat.le_of_ble_eq_true rfl)⟩, (apartOk_one rfl rfl (Nat.le_of_ble_eq_true rfl)), ⟨rfl, by decide⟩, ?_⟩
   refine pq_loadp rfl (v := .str t.data) rfl (wth_get 0 hNb1 rfl) (apartOk_one rfl rfl (Nat.le_of_ble_eq_true rfl)) rfl ?_
   refine ⟨(by have := (hasR_get (by assumption)).2; rw [this]; omega), ⟨rfl, by simp only [List.forall_mem_cons]; exact ⟨rfl, rfl, fun _ h => by cases h⟩, by simp only [List.forall_mem_cons]; exact ⟨rfl, rfl, fun _ h => by cases h⟩⟩, ?_⟩
   show aopsR _ _ _ _ _ [(37, .agg [.str t.name, .str (((gI l (hasR l t.name)).2) ++ t.data)]), (36, .str (((gI l (hasR l t.name)).2) ++ t.data)), (35, .str t.data), (34, .ptr ⟨b1, 2, none⟩), (33, .str ((gI l (hasR l t.name)).2)), (32, .ref [.str ((gI l (hasR l t.name)).2)]), (31, .ref (AV.cells (fileAV (gI l (hasR l t.name))))), (30, .int .i64 (hasR l t.name)), (29, .slice false (l.map fileAV)), (28, .str t.name), (27, .ptr ⟨b1, 1, none⟩), (26, .slice false (l.map fileAV)), (0, .slice false (l.map fileAV)), (3, .ptr ⟨b1, 0, none⟩), (5, .int .i64 (hasR l t.name)), (25, .bool (decide (0 ≤ hasR l t.name)))] _
   refine u_put l (⟨t.name, ((gI l (hasR l t.name)).2) ++ t.data⟩ : (Str × Str)) (by first | omega | (have := woR_len l t.name; omega)) _ _ ?_
   refine ⟨trivial, ?_⟩
   show K1 [(4, .slice true ((putR l (⟨t.name, ((gI l (hasR l t.name)).2) ++ t.data⟩ : (Str × Str))).map fileAV))] (AMem.wth m [(b1, trnObj t)])
   refine hK1 _ _ ?_; clear hK1 K1
   refine awp_ret ?_
   refine ⟨trivial, m, (wth_sub2 (m := m) [(b1, trnObj t)] [] hNb1 (by simp only [List.map_cons, List.map_nil, List.forall_mem_cons]; exact ⟨hFb1, fun _ h => by cases h⟩)), ?_⟩
   show K (.slice true ((putR l (⟨t.name, ((gI l (hasR l t.name)).2) ++ t.data⟩ : (Str × Str))).map fileAV)) m
  
   have e0 : turnR l t = (putR l (⟨t.name, ((gI l (hasR l t.name)).2) ++ t.data⟩ : (Str × Str)) : List (Str × Str)) := by
    first | (rw [turnR, if_pos (by assumption)]; done) | (rw [turnR, if_neg (by omega), if_pos (by assumption), ← (hasR_get (by assumption)).2]; done) | (rw [turnR, if_neg (by omega), if_pos (by assumption), hasR_no (by omega)]; rfl) | (rw [turnR, if_neg (by omega), if_neg (by omega), if_pos (by assumption), ← (hasR_get (by assumption)).2]; done) | (rw [turnR, if_neg (by omega), if_neg (by omega), if_pos (by assumption), hasR_no (by omega)]; rfl) | (rw [turnR, if_neg (by omega), if_neg (by omega), if_neg (by omega)]; done)
   rw [e0] at hK
   exact hK
  replace h3 : hasR l t.name < 0 := (Int.not_le.1 (of_decide_eq_false h3))
  refine awp_skip ?_
  refine hK3 _ _ ?_; clear hK3
  refine awp_reg2_seq [] [4] (by decide) ?_
  intro K1 hK1
  refine ⟨trivial, ⟨rfl, by decide⟩, ?_⟩
  refine ar_loadp rfl (v := .str t.name) rfl (wth_get 0 hNb1 rfl) rfl (apartOk_one rfl rfl (Nat.le_of_ble_eq_true rfl)) rfl ?_
  refine ⟨⟨rfl, by decide⟩, ?_⟩
  refine ar_loadp rfl (v := .str t.data) rfl (wth_get 0 hNb1 rfl) rfl (apartOk_one rfl rfl (Nat.le_of_ble_eq_true rfl)) rfl ?_
  refine ⟨⟨rfl, by simp only [List.forall_mem_cons]; exact ⟨rfl, rfl, fun _ h => by cases h⟩, by simp only [List.forall_mem_cons]; exact ⟨rfl, rfl, fun _ h => by cases h⟩⟩, ?_⟩
  refine u_put l (⟨t.name, t.data⟩ : (Str × Str)) (by first | omega | (have := woR_len l t.name; omega)) _ _ ?_
  refine ⟨trivial, ?_⟩
  show K1 [(4, .slice true ((putR l (⟨t.name, t.data⟩ : (Str × Str))).map fileAV))] (AMem.wth m [(b1, trnObj t)])
  refine hK1 _ _ ?_; clear hK1 K1
  refine awp_ret ?_
  refine ⟨trivial, m, (wth_sub2 (m := m) [(b1, trnObj t)] [] hNb1 (by simp only [List.map_cons, List.map_nil, List.forall_mem_cons]; exact ⟨hFb1, fun _ h => by cases h⟩)), ?_⟩
  show K (.slice true ((putR l (⟨t.name, t.data⟩ : (Str × Str))).map fileAV)) m
 
  have e0 : turnR l t = (putR l (⟨t.name, t.data⟩ : (Str × Str)) : List (Str × Str)) := by
   first | (rw [turnR, if_pos (by assumption)]; done) | (rw [turnR, if_neg (by omega), if_pos (by assumption), ← (hasR_get (by assumption)).2]; done) | (rw [turnR, if_neg (by omega), if_pos (by assumption), hasR_no (by omega)]; rfl) | (rw [turnR, if_neg (by omega), if_neg (by omega), if_pos (by assumption), ← (hasR_get (by assumption)).2]; done) | (rw [turnR, if_neg (by omega), if_neg (by omega), if_pos (by assumption), hasR_no (by omega)]; rfl) | (rw [turnR, if_neg (by omega), if_neg (by omega), if_neg (by omega)]; done)
  rw [e0] at hK
  exact hK
 replace h2 : t.kind ≠ 2 := (ne_of_beq_false h2)
 refine awp_reg2_seq [] [0, 3, 5, 46] (by decide) ?_
 intro K1 hK1
 refine ⟨trivial, trivial, ?_⟩
 show K1 [(0, .slice false (l.map fileAV)), (3, .ptr ⟨b1, 0, none⟩), (5, .int .i64 (hasR l t.name)), (46, .bool (t.kind == 4))] (AMem.wth m [(b1, trnObj t)])
 refine hK1 _ _ ?_; clear hK1 K1
 refine awp_cond rfl rfl (fun h4 => ?_) (fun h4 => ?_)
 ·
  replace h4 : t.kind = 4 := (eq_of_beq h4)
  refine awp_reg2_seq [] [0, 3, 5, 6] (by decide) ?_
  intro K1 hK1
  refine ⟨trivial, ?_⟩
  show K1 [(0, .slice false (l.map fileAV)), (3, .ptr ⟨b1, 0, none⟩), (5, .int .i64 (hasR l t.name)), (6, .str ([]))] (AMem.wth m [(b1, trnObj t)])
  refine hK1 _ _ ?_; clear hK1 K1
  refine awp_seq_k ?_; intro K4 hK4
  refine awp_reg2_seq [] [0, 3, 5, 6, 49] (by decide) ?_
  intro K1 hK1
  refine ⟨trivial, trivial, ?_⟩
  show K1 [(0, .slice false (l.map fileAV)), (3, .ptr ⟨b1, 0, none⟩), (5, .int .i64 (hasR l t.name)), (6, .str ([])), (49, .bool (decide (0 ≤ hasR l t.name)))] (AMem.wth m [(b1, trnObj t)])
  refine hK1 _ _ ?_; clear hK1 K1
  refine awp_cond rfl rfl (fun h5 => ?_) (fun h5 => ?_)
  ·
   replace h5 : 0 ≤ hasR l t.name := (of_decide_eq_true h5)
   refine awp_reg2 [] [0, 3, 6] (by decide) ?_
   intro K1 hK1
   refine ⟨trivial, trivial, ?_⟩
   refine ar_index rfl fileAV l (hasR l t.name) rfl rfl rfl rfl rfl (by decide) (fun _ => rfl) (by omega) (by exact (hasR_get (by omega)).1) ?_
   refine ⟨⟨rfl, by decide, (Nat.le_of_ble_eq_true rfl)⟩, (apartOk_one rfl rfl (Nat.le_of_ble_eq_true rfl)), trivial, ?_⟩
   show K1 [(0, .slice false (l.map fileAV)), (3, .ptr ⟨b1, 0, none⟩), (6, .str ((gI l (hasR l t.name)).2))] (AMem.wth m [(b1, trnObj t)])
   refine hK1 _ _ ?_; clear hK1 K1
   refine hK4 _ _ ?_; clear hK4
   refine awp_draw_tail2_seq Try.mixed 8 [] [(.slice true ((woR l t.name).map fileAV))] [] [4] (by decide) (by decide) ?_
   intro K1 hK1
   refine ⟨trivial, ⟨rfl, by decide⟩, ?_⟩
   refine pq_loadp rfl (v := .str t.name) rfl (wth_get 0 hNb1 rfl) (apartOk_one rfl rfl (Nat.le_of_ble_eq_true rfl)) rfl ?_
   refine ⟨(fun Kc hKc => u_without l t.name (by omega) _ Kc hKc), ⟨rfl, by decide⟩, ?_⟩
   refine pq_loadp rfl (v := .str t.to) rfl (wth_get 0 hNb1 rfl) (apartOk_one rfl rfl (Nat.le_of_ble_eq_true rfl)) rfl ?_
   refine ⟨trivial, ⟨rfl, by simp only [List.forall_mem_cons]; exact ⟨rfl, rfl, fun _ h => by cases h⟩, by simp only [List.forall_mem_cons]; exact ⟨rfl, rfl, fun _ h => by cases h⟩⟩, ?_⟩
   show aopsR _ _ _ _ _ [(62, .agg [.str t.to, .str ((gI l (hasR l t.name)).2)]), (61, .str ((gI l (hasR l t.name)).2)), (60, .str t.to), (59, .ptr ⟨b1, 3, none⟩), (58, .slice false ((woR l t.name).map fileAV)), (57, .str t.name), (56, .ptr ⟨b1, 1, none⟩), (55, .slice false (l.map fileAV)), (0, .slice false (l.map fileAV)), (3, .ptr ⟨b1, 0, none⟩), (6, .str ((gI l (hasR l t.name)).2))] _
   refine u_put (woR l t.name) (⟨t.to, (gI l (hasR l t.name)).2⟩ : (Str × Str)) (by first | omega | (have := woR_len l t.name; omega)) _ _ ?_
   refine ⟨trivial, ?_⟩
   show K1 [(4, .slice true ((putR (woR l t.name) (⟨t.to, (gI l (hasR l t.name)).2⟩ : (Str × Str))).map fileAV))] (AMem.wth m [(b1, trnObj t)])
   refine hK1 _ _ ?_; clear hK1 K1
   refine awp_ret ?_
   refine ⟨trivial, m, (wth_sub2 (m := m) [(b1, trnObj t)] [] hNb1 (by simp only [List.map_cons, List.map_nil, List.forall_mem_cons]; exact ⟨hFb1, fun _ h => by cases h⟩)), ?_⟩
   show K (.slice true ((putR (woR l t.name) (⟨t.to, (gI l (hasR l t.name)).2⟩ : (Str × Str))).map fileAV)) m
  
   have e0 : turnR l t = (putR (woR l t.name) (⟨t.to, (gI l (hasR l t.name)).2⟩ : (Str × Str)) : List (Str × Str)) := by
    first | (rw [turnR, if_pos (by assumption)]; done) | (rw [turnR, if_neg (by omega), if_pos (by assumption), ← (hasR_get (by assumption)).2]; done) | (rw [turnR, if_neg (by omega), if_pos (by assumption), hasR_no (by omega)]; rfl) | (rw [turnR, if_neg (by omega), if_neg (by omega), if_pos (by assumption), ← (hasR_get (by assumption)).2]; done) | (rw [turnR, if_neg (by omega), if_neg (by omega), if_pos (by assumption), hasR_no (by omega)]; rfl) | (rw [turnR, if_neg (by omega), if_neg (by omega), if_neg (by omega)]; done)
   rw [e0] at hK
   exact hK
  replace h5 : hasR l t.name < 0 := (Int.not_le.1 (of_decide_eq_false h5))
  refine awp_skip ?_
  refine hK4 _ _ ?_; clear hK4
  refine awp_draw_tail2_seq Try.mixed 8 [] [(.slice true ((woR l t.name).map fileAV))] [] [4] (by decide) (by decide) ?_
  intro K1 hK1
  refine ⟨trivial, ⟨rfl, by decide⟩, ?_⟩
  refine pq_loadp rfl (v := .str t.name) rfl (wth_get 0 hNb1 rfl) (apartOk_one rfl rfl (Nat.le_of_ble_eq_true rfl)) rfl ?_
  refine ⟨(fun Kc hKc => u_without l t.name (by omega) _ Kc hKc), ⟨rfl, by decide⟩, ?_⟩
  refine pq_loadp rfl (v := .str t.to) rfl (wth_get 0 hNb1 rfl) (apartOk_one rfl rfl (Nat.le_of_ble_eq_true rfl)) rfl ?_
  refine ⟨trivial, ⟨rfl, by simp only [List.forall_mem_cons]; exact ⟨rfl, rfl, fun _ h => by cases h⟩, by simp only [List.forall_mem_cons]; exact ⟨rfl, rfl, fun _ h => by cases h⟩⟩, ?_⟩
  show aopsR _ _ _ _ _ [(62, .agg [.str t.to, .str ([])]), (61, .str ([])), (60, .str t.to), (59, .ptr ⟨b1, 3, none⟩), (58, .slice false ((woR l t.name).map fileAV)), (57, .str t.name), (56, .ptr ⟨b1, 1, none⟩), (55, .slice false (l.map fileAV)), (0, .slice false (l.map fileAV)), (3, .ptr ⟨b1, 0, none⟩), (5, .int .i64 (hasR l t.name)), (6, .str ([])), (49, .bool (decide (0 ≤ hasR l t.name)))] _
  refine u_put (woR l t.name) (⟨t.to, []⟩ : (Str × Str)) (by first | omega | (have := woR_len l t.name; omega)) _ _ ?_
  refine ⟨trivial, ?_⟩
  show K1 [(4, .slice true ((putR (woR l t.name) (⟨t.to, []⟩ : (Str × Str))).map fileAV))] (AMem.wth m [(b1, trnObj t)])
  refine hK1 _ _ ?_; clear hK1 K1
  refine awp_ret ?_
  refine ⟨trivial, m, (wth_sub2 (m := m) [(b1, trnObj t)] [] hNb1 (by simp only [List.map_cons, List.map_nil, List.forall_mem_cons]; exact ⟨hFb1, fun _ h => by cases h⟩)), ?_⟩
  show K (.slice true ((putR (woR l t.name) (⟨t.to, []⟩ : (Str × Str))).map fileAV)) m
 
  have e0 : turnR l t = (putR (woR l t.name) (⟨t.to, []⟩ : (Str × Str)) : List (Str × Str)) := by
   first | (rw [turnR, if_pos (by assumption)]; done) | (rw [turnR, if_neg (by omega), if_pos (by assumption), ← (hasR_get (by assumption)).2]; done) | (rw [turnR, if_neg (by omega), if_pos (by assumption), hasR_no (by omega)]; rfl) | (rw [turnR, if_neg (by omega), if_neg (by omega), if_pos (by assumption), ← (hasR_get (by assumption)).2]; done) | (rw [turnR, if_neg (by omega), if_neg (by omega), if_pos (by assumption), hasR_no (by omega)]; rfl) | (rw [turnR, if_neg (by omega), if_neg (by omega), if_neg (by omega)]; done)
  rw [e0] at hK
  exact hK
 replace h4 : t.kind ≠ 4 := (ne_of_beq_false h4)
 refine awp_skip ?_
 refine hK2 _ _ ?_; clear hK2
 refine awp_reg2_seq [] [4] (by decide) ?_
 intro K1 hK1
 refine ⟨trivial, ⟨rfl, by decide⟩, ?_⟩
 refine ar_loadp rfl (v := .str t.name) rfl (wth_get 0 hNb1 rfl) rfl (apartOk_one rfl rfl (Nat.le_of_ble_eq_true rfl)) rfl ?_
 refine u_without l t.name (by omega) _ _ ?_
 refine ⟨trivial, ?_⟩
 show K1 [(4, .slice true ((woR l t.name).map fileAV))] (AMem.wth m [(b1, trnObj t)])
 refine hK1 _ _ ?_; clear hK1 K1
 refine awp_ret ?_
 refine ⟨trivial, m, (wth_sub2 (m := m) [(b1, trnObj t)] [] hNb1 (by simp only [List.map_cons, List.map_nil, List.forall_mem_cons]; exact ⟨hFb1, fun _ h => by cases h⟩)), ?_⟩
 show K (.slice true ((woR l t.name).map fileAV)) m

 have e0 : turnR l t = (woR l t.name : List (Str × Str)) := by
  first | (rw [turnR, if_pos (by assumption)]; done) | (rw [turnR, if_neg (by omega), if_pos (by assumption), ← (hasR_get (by assumption)).2]; done) | (rw [turnR, if_neg (by omega), if_pos (by assumption), hasR_no (by omega)]; rfl) | (rw [turnR, if_neg (by omega), if_neg (by omega), if_pos (by assumption), ← (hasR_get (by assumption)).2]; done) | (rw [turnR, if_neg (by omega), if_neg (by omega), if_pos (by assumption), hasR_no (by omega)]; rfl) | (rw [turnR, if_neg (by omega), if_neg (by omega), if_neg (by omega)]; done)
 rw [e0] at hK
 exact hK

end Go.Proofs
end
