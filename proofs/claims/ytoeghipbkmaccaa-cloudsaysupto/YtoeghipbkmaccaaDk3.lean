import Derived.Test.YtoeghipbkmaccaaProg
import Derived.Test.YtoeghipbkmaccaaWl5
import Derived.Test.YtoeghipbkmaccaaWxr
import Derived.Shelf.Sort.Plain
import Derived.Shelf.Slices.In.SortNone
section
namespace Go.Proofs
open Go Go.Aw
set_option maxRecDepth 100000


def addR (s : DSt) (name : Str) (l : List Str) (z : Int) (t : Str) : DSt × Int × (List Str × Int) :=
  if 400 < (t.length : Int) ∨ 4000 < z + t.length + 6 then (s, 2, (l, z))
  else if (appR s name (framedL t)).2 ≠ 0 then ((appR s name (framedL t)).1, (appR s name (framedL t)).2, (l, z))
  else if (syncF (appR s name (framedL t)).1).2 ≠ 0 then ((syncF (appR s name (framedL t)).1).1, (syncF (appR s name (framedL t)).1).2, (l, z))
  else ((syncF (appR s name (framedL t)).1).1, 0, (l ++ [t], z + (t.length + 6)))
theorem u_same (e f : Int) (he : 0 ≤ e) (m : AMem)  (K : AV → AMem → Prop) (hK : K (.bool (e == f)) m) : ACalls Try.prog 14 [.err 108 e, .int .i64 f] m K := by
 refine acalls_enter Try.func14 rfl (by decide) (Nat.le_of_ble_eq_true rfl) ?_
 show AWP _ _ _ _ [(0, .err 108 e), (1, .int .i64 f)] m
 refine awp_reg2_seq [] [0, 1] (by decide) ?_
 intro K1 hK1
 refine ⟨trivial, ?_⟩
 show K1 [(0, .err 108 e), (1, .int .i64 f)] m
 refine hK1 _ _ ?_; clear hK1 K1
 refine awp_seq_k ?_; intro K2 hK2
 refine awp_reg2_seq [] [0, 1, 8] (by decide) ?_
 intro K1 hK1
 refine ⟨trivial, ⟨rfl, rfl⟩, ?_⟩
 show K1 [(0, .err 108 e), (1, .int .i64 f), (8, .bool (e == 0))] m
 refine hK1 _ _ ?_; clear hK1 K1
 refine awp_cond rfl rfl (fun h1 => ?_) (fun h1 => ?_)
 ·
  replace h1 : e = 0 := (eq_of_beq h1)
  refine awp_reg2_seq [] [4] (by decide) ?_
  intro K1 hK1
  refine ⟨trivial, trivial, trivial, ?_⟩
  show K1 [(4, .bool (f == 0))] m
  refine hK1 _ _ ?_; clear hK1 K1
  refine awp_ret ?_
  refine ⟨trivial, m, fun _ _ h => h, ?_⟩
  show K (.bool (f == 0)) m
 
  refine K_eq hK (congrArg AV.bool ?_)
  rw [Bool.eq_iff_iff]; simp; omega
 replace h1 : e ≠ 0 := (ne_of_beq_false h1)
 refine awp_skip ?_
 refine hK2 _ _ ?_; clear hK2
 refine awp_reg2_seq [] [1, 5, 6] (by decide) ?_
 intro K1 hK1
 refine ⟨trivial, rfl, trivial, (Nat.le_of_ble_eq_true rfl), (Nat.le_of_ble_eq_true rfl), trivial, trivial, ?_⟩
 show K1 [(1, .int .i64 f), (5, .int .i64 e), (6, .bool (!(e == 0)))] m
 refine hK1 _ _ ?_; clear hK1 K1
 refine awp_reg2_seq [] [4] (by decide) ?_
 intro K1 hK1
 suffices key : K1 [(4, .bool (((!(e == 0)) && (decide (0 < f))) && (e == f)))] m by
  refine ⟨trivial, trivial, ?_⟩
  show aopsR _ _ _ _ _ [(17, .bool (!(e == 0))), (16, .bool (!(e == 0))), (1, .int .i64 f), (5, .int .i64 e), (6, .bool (!(e == 0)))] _
  revert key
  cases h2 : (e == 0)
  ·
   replace h2 : e ≠ 0 := (ne_of_beq_false h2)
   intro key
   refine ⟨trivial, trivial, ?_⟩
   refine ⟨trivial, ?_⟩
   show aopsR _ _ _ _ _ [(21, .bool (decide (0 < f))), (20, .bool (decide (0 < f))), (19, .bool (decide (0 < f))), (18, .int .i64 f), (17, .bool true), (16, .bool true), (1, .int .i64 f), (5, .int .i64 e), (6, .bool true)] _
   revert key
   cases h3 : (decide (0 < f))
   ·
    replace h3 : f ≤ 0 := (Int.not_lt.1 (of_decide_eq_false h3))
    intro key
    refine ar_off rfl (ar_off rfl (ar_off rfl ?_))
    refine ⟨trivial, ?_⟩
    exact key
   ·
    replace h3 : 0 < f := (of_decide_eq_true h3)
    intro key
    refine ⟨trivial, trivial, trivial, ?_⟩
    refine ⟨trivial, ?_⟩
    exact key
  ·
   replace h2 : e = 0 := (eq_of_beq h2)
   intro key
   refine ar_off rfl (ar_off rfl ?_)
   refine ⟨trivial, ?_⟩
   refine ar_off rfl (ar_off rfl (ar_off rfl ?_))
   refine ⟨trivial, ?_⟩
   exact key
 refine hK1 _ _ ?_; clear hK1 K1
 refine awp_ret ?_
 refine ⟨trivial, m, fun _ _ h => h, ?_⟩
 show K (.bool (((!(e == 0)) && (decide (0 < f))) && (e == f))) m

 refine K_eq hK (congrArg AV.bool ?_)
 rw [Bool.eq_iff_iff]; simp; omega

end Go.Proofs
end
section
namespace Go.Proofs
open Go Go.Aw
set_option maxRecDepth 100000


/-- A disk that does not fall. -/
def Okd (s : DSt) : Prop := s.down = false ∧ s.fuse = -1
theorem stepF_ok {s : DSt} (h : Okd s) : (stepF s).2 = 0 ∧ Okd (stepF s).1 := by
  unfold stepF
  rw [if_neg (by simp [h.1]), if_neg (by rw [h.2]; decide)]
  refine ⟨rfl, h.1, ?_⟩
  show (if 0 < s.fuse then s.fuse - 1 else s.fuse) = -1
  rw [h.2]; rfl
theorem mget_mput (l : List (Str × Str)) (k v : Str) : mget (mput l k v) k = some v := by
  induction l with
  | nil => simp [mput, mget]
  | cons p r ih =>
    obtain ⟨a, b⟩ := p
    simp only [mput]
    split
    · simp [mget]
    · rename_i h; simp [mget, h, ih]
theorem mayR_ok {s : DSt} {n : Str} {z : Int} (hn : nameF n = true) (hz : z ≤ 4000) (hr : (mget s.now n).isSome = true ∨ (s.now.length : Int) < 40) : mayR s n z = 0 := by
  unfold mayR
  rw [if_neg (by simp [hn]), if_neg (by omega), if_neg]
  rintro ⟨a, b⟩
  rcases hr with hr | hr
  · rw [a] at hr; cases hr
  · omega
def allF (l : List Str) : Str := l.flatMap framedL
theorem allF_snoc (l : List Str) (t : Str) : allF (l ++ [t]) = allF l ++ framedL t := by simp [allF]
theorem gI_drop {s : Str} {a k : Int} (h0 : 0 ≤ a) (hk : 0 ≤ k) : gI (s.drop a.toNat) k = gI s (a + k) := by
  simp only [gI, List.getD_eq_getElem?_getD, List.getElem?_drop]
  congr 2; omega
theorem splitF_back {s : Str} : ∀ (l : List Str) (n : Nat) (a : Int) (out : List Str), 0 ≤ a → a ≤ s.length → s.drop a.toNat = allF l → (∀ r ∈ l, r.length ≤ 400) → s.length - a < n → splitF n s a out = (out ++ l, (s.length : Int))
  | [], n, a, out, h0, h1, hd, _, hn => by
    have : (s.length : Int) = a := by
      have := congrArg List.length hd
      simp [allF] at this; omega
    cases n with
    | zero => omega
    | succ n => rw [splitF, if_pos (by omega)]; simp; omega
  | t :: l, n, a, out, h0, h1, hd, hl, hn => by
    have ht := hl t (by simp)
    have hd' : s.drop a.toNat = framedL t ++ allF l := by rw [hd]; simp [allF]
    have hfl := framedL_len t
    have hlen : (s.length : Int) = a + (t.length + 6) + (allF l).length := by
      have := congrArg List.length hd'
      rw [List.length_drop, List.length_append, hfl] at this; omega
    have hL : lenAt s a = t.length := by
      have e0 : gI s a = u8n t.length := by
        have := gI_drop (s := s) (a := a) (k := 0) h0 (by omega)
        rw [Int.add_zero] at this
        rw [← this, hd']; rfl
      have e1 : gI s (a + 1) = u8n (t.length / 256) := by
        have := gI_drop (s := s) (a := a) (k := 1) h0 (by omega)
        rw [← this, hd']; rfl
      unfold lenAt
      rw [e0, e1]
      simp [u8n]
      omega
    have hs1 : sub s a (a + 6 + t.length) = framedL t := by
      unfold sub
      rw [hd', show (a + 6 + (t.length : Int) - a).toNat = (framedL t).length by omega]
      simp
    have hs2 : sub s (a + 6) (a + 6 + t.length) = t := by
      unfold sub
      have e : (a + 6).toNat = a.toNat + 6 := by omega
      rw [e, ← List.drop_drop, hd', show (a + 6 + (t.length : Int) - (a + 6)).toNat = t.length by omega]
      simp [framedL]
    obtain ⟨n, rfl⟩ : ∃ k, n = k + 1 := ⟨n - 1, by omega⟩
    rw [splitF, if_neg (by omega), hL, if_neg (by omega), hs1, hs2, if_neg (by simp)]
    rw [splitF_back l n (a + 6 + t.length) (out ++ [t]) (by omega) (by omega) ?_ (fun r hr => hl r (by simp [hr])) (by omega)]
    · simp
    · have e : (a + 6 + (t.length : Int)).toNat = a.toNat + (framedL t).length := by omega
      rw [e, ← List.drop_drop, hd']; simp
theorem splitR_back {l : List Str} (h : ∀ r ∈ l, r.length ≤ 400) : splitR (allF l) = (l, ((allF l).length : Int)) := by
  have := splitF_back (s := allF l) l ((allF l).length + 1) 0 [] (by omega) (by omega) (by simp) h (by omega)
  simpa [splitR] using this
/-- What a log in a disk that does not fall has. -/
structure LogI (s : DSt) (n : Str) (l : List Str) (z : Int) : Prop where
  ok : Okd s
  txt : mget s.now n = some (allF l)
  siz : z = (allF l).length
  sml : z ≤ 4000
  rcs : ∀ r ∈ l, r.length ≤ 400
theorem LogI.len {s : DSt} {n : Str} {l : List Str} {z : Int} (h : LogI s n l z) : l.length ≤ 4000 := by
  have h1 := h.siz
  have h2 := h.sml
  have : ∀ l : List Str, l.length ≤ (allF l).length := fun l => by
    induction l with
    | nil => simp
    | cons t l ih =>
      have e : allF (t :: l) = framedL t ++ allF l := by simp [allF]
      rw [e, List.length_append, framedL_len, List.length_cons]; omega
  have := this l
  omega
theorem DInv.start : DInv 0 ⟨[], [], [], -1, false, 0⟩ := ⟨by simp, by simp, by simp, by simp, by simp, by simp, by simp, by simp, by simp⟩
theorem addR_inv {N : Nat} {s : DSt} {n t : Str} {l : List Str} {z : Int} (h : DInv N s) : DInv (N + 2) (addR s n l z t).1 := by
  unfold addR
  split
  · exact h.mono (by omega)
  · split
    · exact (appR_inv h).mono (by omega)
    · split
      · exact (appR_inv h).sync
      · exact (appR_inv h).sync
end Go.Proofs
end
section
namespace Go.Proofs
open Go Go.Aw
set_option maxRecDepth 100000


def s0 : DSt := ⟨[], [], [], -1, false, 0⟩
theorem u_New0 (m : AMem) (K : AV → AMem → Prop) (hK : ∀ d nb kb, ([d, nb, kb] : List Nat).Nodup → m d = none → m nb = none → m kb = none → K (.ptr ⟨d, 0, none⟩) (AMem.wth m [(d, dObj kb nb s0), (nb, mObj s0.now), (kb, mObj s0.kept)])) : ACalls Try.prog 11 [] m K := u_New m K hK
theorem u_same_eq (e : Int) (he : 0 ≤ e) (m : AMem) (K : AV → AMem → Prop) (hK : K (.bool true) m) : ACalls Try.prog 14 [.err 108 e, .int .i64 e] m K := u_same e e he m K (by rw [show (e == e) = true from by simp]; exact hK)

end Go.Proofs
end
section
namespace Go.Proofs
open Go Go.Aw
set_option maxRecDepth 100000


abbrev LN : Str := [108, 111, 103]
theorem ln_ok : nameF LN = true := by decide
theorem mget_perm {l l' : List (Str × Str)} (hp : l.Perm l') (hn : (l'.map Prod.fst).Nodup) (k : Str) : mget l k = mget l' k := by
  have hi : ∀ {l : List (Str × Str)} {k v : Str}, (l.map Prod.fst).Nodup → ((k, v) ∈ l ↔ mget l k = some v) := fun {l k v} hn => by
    induction l with
    | nil => simp [mget]
    | cons p r ih =>
      obtain ⟨a, b⟩ := p
      simp only [List.map_cons, List.nodup_cons] at hn
      simp only [List.mem_cons, mget]
      split
      · rename_i h; subst h
        constructor
        · rintro (h | h)
          · injection h with _ h; rw [h]
          · exact absurd (List.mem_map_of_mem (f := Prod.fst) h) hn.1
        · intro h; injection h with h; subst h; exact .inl rfl
      · rename_i h
        rw [← ih hn.2]
        constructor
        · rintro (h2 | h2)
          · injection h2 with h2 _; exact absurd h2.symm h
          · exact h2
        · exact .inr
  have hn' : (l.map Prod.fst).Nodup := ((hp.map Prod.fst).nodup_iff).2 hn
  cases h : mget l' k with
  | none =>
    cases h2 : mget l k with
    | none => rfl
    | some v =>
      have := (hi hn).1 ((hp.mem_iff).1 ((hi hn').2 h2))
      rw [h] at this; cases this
  | some v => exact (hi hn').1 ((hp.mem_iff).2 ((hi hn).2 h))
def restS (s : DSt) (keep torn : Int) (nw : List (Str × Str)) : DSt := ⟨restR s keep torn, nw, [], -1, false, s.steps⟩
theorem restR_bnd {s : DSt} {N : Nat} (h : DInv N s) (keep torn : Int) : ∀ p ∈ restR s keep torn, p.2.length ≤ 4000 * N := by
  have hc := clampI_b keep s.wait.length
  have ht := clampI_b torn (gI s.wait (clampI keep s.wait.length)).data.length
  have hb := fun B (hB : ∀ p ∈ s.kept, p.2.length ≤ B) => applyL_bnd (cs := s.wait.take (clampI keep s.wait.length).toNat) (fun c hc => h.cd c (List.mem_of_mem_take hc)) (l := s.kept) (B := B) hB
  have hN : s.wait.length ≤ N := by have := h.kl; omega
  have hb1 := hb (4000 * N - 4000 * s.wait.length) (fun p hp => by have := h.kb p hp; omega)
  rw [List.length_take] at hb1
  unfold restR restK
  split
  · rename_i h1
    have hcd := h.cd _ (gI_mem (l := s.wait) hc.1 h1.1)
    refine fun p hp => ?_
    have := applyC_bnd hb1.2 (c := { gI s.wait (clampI keep s.wait.length) with data := sub (gI s.wait (clampI keep s.wait.length)).data 0 (tornOf s keep torn) }) (by
      show (sub (gI s.wait (clampI keep s.wait.length)).data 0 (tornOf s keep torn)).length ≤ 4000
      rw [sub0_take]; simp; omega) p hp
    omega
  · intro p hp
    have := hb1.2 p hp
    omega
theorem restS_inv {s : DSt} {N : Nat} (h : DInv N s) {keep torn : Int} {nw : List (Str × Str)} (hp : nw.Perm (restR s keep torn)) : DInv (N + 1) (restS s keep torn nw) := by
  have hb := restR_bnd h keep torn
  have hl := restR_len s keep torn
  have hk := h.kl
  refine ⟨h.st0, by have := h.st1; show s.steps ≤ _; omega, by show (-1 : Int) ≤ -1; omega, by show (-1 : Int) ≤ _; omega, by show (restR s keep torn).length + 0 ≤ _; omega, fun p hq => ?_, (fun c hc => by cases hc), by show nw.length ≤ _; rw [hp.length_eq]; omega, fun p hq => ?_⟩
  · have := hb p hq
    show p.2.length + 4000 * 0 ≤ _; omega
  · have := hb p (hp.mem_iff.1 hq)
    omega
/-- What an open log has while its disk may fall. -/
structure JL (s : DSt) (want : List Str) (z : Int) (N : Nat) : Prop where
  dn : s.down = false
  wt : s.wait = []
  now : mget s.now LN = some (allF want)
  kep : mget s.kept LN = some (allF want)
  siz : z = (allF want).length
  rcs : ∀ r ∈ want, r.length ≤ 300
  nd : (s.kept.map Prod.fst).Nodup
  inv : DInv N s
/-- .. behind which it may have fallen. -/
structure Fell (s : DSt) (want last : List Str) (N : Nat) : Prop where
  kep : mget s.kept LN = some (allF want)
  wt : s.wait = [] ∨ ∃ t, s.wait = [⟨LN, framedL t, [], 2⟩] ∧ last = want ++ [t] ∧ t.length ≤ 300 ∧ (allF want).length + t.length + 6 ≤ 4000
  sm : (allF want).length ≤ 4000
  rcs : ∀ r ∈ want, r.length ≤ 300
  nd : (s.kept.map Prod.fst).Nodup
  inv : DInv N s
theorem mget_mput_eq (l : List (Str × Str)) (k v : Str) : mget (mput l k v) k = some v := mget_mput l k v
theorem stepF_or {s : DSt} (h : s.down = false) : ((stepF s).2 = 10 ∧ (stepF s).1.down = true) ∨ ((stepF s).2 = 0 ∧ (stepF s).1.down = false) := by
  unfold stepF
  rw [if_neg (by simp [h])]
  split
  · exact .inl ⟨rfl, rfl⟩
  · exact .inr ⟨rfl, h⟩
theorem JL.add {s : DSt} {want : List Str} {z : Int} {N : Nat} {t : Str} (h : JL s want z N) (ht : t.length ≤ 300) (hz : z + t.length + 6 ≤ 4000) :
    ((addR s LN want z t).2.1 = 0 ∧ JL (addR s LN want z t).1 (want ++ [t]) (addR s LN want z t).2.2.2 (N + 2) ∧ (addR s LN want z t).2.2.1 = want ++ [t] ∧ (addR s LN want z t).2.2.2 = z + t.length + 6) ∨
    ((addR s LN want z t).2.1 = 10 ∧ Fell (addR s LN want z t).1 want (want ++ [t]) (N + 2)) := by
  have hfl := framedL_len t
  have hsz := h.siz
  have hsn : allF (want ++ [t]) = allF want ++ framedL t := allF_snoc want t
  have hrc : ∀ r ∈ want ++ [t], r.length ≤ 300 := fun r hr => by
    rcases List.mem_append.1 hr with hr | hr
    · exact h.rcs r hr
    · simp at hr; subst hr; exact ht
  have hm : mayR s LN (((mget s.now LN).getD []).length + (framedL t).length) = 0 := mayR_ok ln_ok (by rw [h.now]; simp; omega) (.inl (by rw [h.now]; rfl))
  have hinv : DInv (N + 2) (addR s LN want z t).1 := addR_inv h.inv
  have hk := stepF_keep s
  unfold addR at hinv ⊢
  rw [if_neg (by omega)] at hinv ⊢
  have ha : appR s LN (framedL t) = doF s ⟨LN, framedL t, [], 2⟩ := by
    unfold appR; rw [if_neg (by omega), if_neg (by rw [hm]; simp)]
  rw [ha] at hinv ⊢
  rcases stepF_or h.dn with h1 | h1
  · have hd : doF s ⟨LN, framedL t, [], 2⟩ = stepF s := by unfold doF; rw [if_pos (by rw [h1.1]; decide)]
    rw [hd] at hinv ⊢
    rw [if_pos (by rw [h1.1]; decide)] at hinv ⊢
    exact .inr ⟨h1.1, by rw [hk.1]; exact h.kep, .inl (by rw [hk.2.2.1]; exact h.wt), by omega, h.rcs, by rw [hk.1]; exact h.nd, hinv⟩
  · have hd : doF s ⟨LN, framedL t, [], 2⟩ = ({ (stepF s).1 with now := applyC s.now ⟨LN, framedL t, [], 2⟩, wait := s.wait ++ [⟨LN, framedL t, [], 2⟩] }, 0) := by unfold doF; rw [if_neg (by rw [h1.1]; decide)]
    rw [hd] at hinv ⊢
    rw [if_neg (by simp)] at hinv ⊢
    generalize hs' : ({ (stepF s).1 with now := applyC s.now ⟨LN, framedL t, [], 2⟩, wait := s.wait ++ [⟨LN, framedL t, [], 2⟩] } : DSt) = s' at hinv ⊢
    have e1 : s'.kept = s.kept := by rw [← hs']; exact hk.1
    have e2 : s'.wait = [⟨LN, framedL t, [], 2⟩] := by rw [← hs', h.wt]; rfl
    have e3 : s'.down = false := by rw [← hs']; exact h1.2
    have e4 : mget s'.now LN = some (allF want ++ framedL t) := by
      rw [← hs']
      show mget (applyC s.now ⟨LN, framedL t, [], 2⟩) LN = _
      rw [applyC, if_neg (by simp), if_pos rfl]
      show mget (mput s.now LN ((mget s.now LN).getD [] ++ framedL t)) LN = _
      rw [mget_mput_eq, h.now]; rfl
    have hk' := stepF_keep s'
    rcases stepF_or e3 with h2 | h2
    · have hy : syncF s' = stepF s' := by unfold syncF; rw [if_pos (by rw [h2.1]; decide)]
      rw [hy] at hinv ⊢
      rw [if_pos (by rw [h2.1]; decide)] at hinv ⊢
      exact .inr ⟨h2.1, by rw [hk'.1, e1]; exact h.kep, .inr ⟨t, by rw [hk'.2.2.1, e2], rfl, ht, by omega⟩, by omega, h.rcs, by rw [hk'.1, e1]; exact h.nd, hinv⟩
    · have hy : (syncF s').2 = 0 ∧ (syncF s').1.now = s'.now ∧ (syncF s').1.wait = [] ∧ (syncF s').1.kept = applyL s'.kept s'.wait ∧ (syncF s').1.down = false := by
        have hz : ¬ (stepF s').2 ≠ 0 := by rw [h2.1]; simp
        refine ⟨?_, syncF_now s', ?_, ?_, ?_⟩ <;> (unfold syncF; rw [if_neg hz])
        exact h2.2
      rw [if_neg (by rw [hy.1]; simp)] at hinv ⊢
      have ek : (syncF s').1.kept = applyC s.kept ⟨LN, framedL t, [], 2⟩ := by rw [hy.2.2.2.1, e1, e2]; rfl
      refine .inl ⟨rfl, ⟨hy.2.2.2.2, hy.2.2.1, by show mget (syncF s').1.now LN = _; rw [hy.2.1, e4, hsn], ?_, ?_, hrc, ?_, hinv⟩, rfl, by show z + (t.length + 6) = _; omega⟩
      · show mget (syncF s').1.kept LN = _
        rw [ek, applyC, if_neg (by simp), if_pos rfl]
        show mget (mput s.kept LN ((mget s.kept LN).getD [] ++ framedL t)) LN = _
        rw [mget_mput_eq, h.kep, hsn]; rfl
      · show z + (t.length + 6) = _
        rw [hsn, List.length_append]; omega
      · show ((syncF s').1.kept.map Prod.fst).Nodup
        rw [ek]; exact applyC_nd h.nd
theorem splitF_torn {s : Str} {t : Str} (ht : t.length ≤ 400) : ∀ (l : List Str) (n : Nat) (a : Int) (out : List Str) (k : Nat), 0 ≤ a → a ≤ s.length → k < (framedL t).length → s.drop a.toNat = allF l ++ (framedL t).take k → (∀ r ∈ l, r.length ≤ 400) → s.length - a < n → (splitF n s a out).1 = out ++ l
  | [], n, a, out, k, h0, h1, hk, hd, _, hn => by
    have hfl := framedL_len t
    have hd' : s.drop a.toNat = (framedL t).take k := by simpa [allF] using hd
    have hlen : (s.length : Int) = a + k := by
      have := congrArg List.length hd'
      rw [List.length_drop, List.length_take] at this; omega
    cases n with
    | zero => omega
    | succ n =>
      rw [splitF]
      by_cases h6 : (s.length : Int) < a + 6
      · rw [if_pos (by omega)]; simp
      · rw [if_neg (by omega)]
        have hL : lenAt s a = t.length := by
          have e0 : gI s a = u8n t.length := by
            have := gI_drop (s := s) (a := a) (k := 0) h0 (by omega)
            rw [Int.add_zero] at this
            rw [← this, hd']
            have hk1 : ∃ j, k = j + 6 := ⟨k - 6, by omega⟩
            obtain ⟨j, rfl⟩ := hk1
            rfl
          have e1 : gI s (a + 1) = u8n (t.length / 256) := by
            have := gI_drop (s := s) (a := a) (k := 1) h0 (by omega)
            rw [← this, hd']
            have hk1 : ∃ j, k = j + 6 := ⟨k - 6, by omega⟩
            obtain ⟨j, rfl⟩ := hk1
            rfl
          unfold lenAt
          rw [e0, e1]
          simp [u8n]
          omega
        rw [if_pos (by rw [hL]; omega)]; simp
  | r :: l, n, a, out, k, h0, h1, hk, hd, hl, hn => by
    have ht := hl r (by simp)
    have hd' : s.drop a.toNat = framedL r ++ (allF l ++ (framedL t).take k) := by rw [hd]; simp [allF]
    have hfl := framedL_len r
    have hlen : (s.length : Int) = a + (r.length + 6) + (allF l ++ (framedL t).take k).length := by
      have := congrArg List.length hd'
      rw [List.length_drop, List.length_append, hfl] at this; omega
    have hL : lenAt s a = r.length := by
      have e0 : gI s a = u8n r.length := by
        have := gI_drop (s := s) (a := a) (k := 0) h0 (by omega)
        rw [Int.add_zero] at this
        rw [← this, hd']; rfl
      have e1 : gI s (a + 1) = u8n (r.length / 256) := by
        have := gI_drop (s := s) (a := a) (k := 1) h0 (by omega)
        rw [← this, hd']; rfl
      unfold lenAt
      rw [e0, e1]
      simp [u8n]
      omega
    have hs1 : sub s a (a + 6 + r.length) = framedL r := by
      unfold sub
      rw [hd', show (a + 6 + (r.length : Int) - a).toNat = (framedL r).length by omega]
      simp
    have hs2 : sub s (a + 6) (a + 6 + r.length) = r := by
      unfold sub
      have e : (a + 6).toNat = a.toNat + 6 := by omega
      rw [e, ← List.drop_drop, hd', show (a + 6 + (r.length : Int) - (a + 6)).toNat = r.length by omega]
      simp [framedL]
    obtain ⟨n, rfl⟩ : ∃ k, n = k + 1 := ⟨n - 1, by omega⟩
    rw [splitF, if_neg (by omega), hL, if_neg (by omega), hs1, hs2, if_neg (by simp)]
    rw [splitF_torn ‹t.length ≤ 400› l n (a + 6 + r.length) (out ++ [r]) k (by omega) (by omega) hk ?_ (fun r hr => hl r (by simp [hr])) (by omega)]
    · simp
    · have e : (a + 6 + (r.length : Int)).toNat = a.toNat + (framedL r).length := by omega
      rw [e, ← List.drop_drop, hd']; simp
theorem splitR_torn {l : List Str} {t : Str} (ht : t.length ≤ 400) (h : ∀ r ∈ l, r.length ≤ 400) {k : Nat} (hk : k < (framedL t).length) : (splitR (allF l ++ (framedL t).take k)).1 = l := by
  have := splitF_torn (s := allF l ++ (framedL t).take k) ht l ((allF l ++ (framedL t).take k).length + 1) 0 [] k (by omega) (by omega) hk (by simp) h (by omega)
  simpa [splitR] using this
theorem Fell.rest {s : DSt} {want last : List Str} {N : Nat} (h : Fell s want last N) {keep torn : Int} {nw : List (Str × Str)} (hp : nw.Perm (restR s keep torn)) :
    ∃ a, mget (restS s keep torn nw).now LN = some a ∧ ((splitR a).1 = want ∨ (splitR a).1 = last) ∧ a.length ≤ 4000 ∧ Okd (restS s keep torn nw) ∧ DInv (N + 1) (restS s keep torn nw) := by
  have hinv := restS_inv h.inv hp
  have hok : Okd (restS s keep torn nw) := ⟨rfl, rfl⟩
  have hg : mget (restS s keep torn nw).now LN = mget (restR s keep torn) LN := mget_perm hp (restR_nd h.nd _ _) LN
  have hsm := h.sm
  have hr4 : ∀ r ∈ want, r.length ≤ 400 := fun r hr => by have := h.rcs r hr; omega
  have hsame : (splitR (allF want)).1 = want := by rw [splitR_back hr4]
  rcases h.wt with hw | ⟨t, hw, hl, ht, hts⟩
  · refine ⟨allF want, ?_, .inl hsame, by omega, hok, hinv⟩
    rw [hg]
    unfold restR restK
    rw [hw, if_neg (by rintro ⟨h1, _⟩; have := clampI_b keep 0; exact absurd h1 (by show ¬ clampI keep 0 < ((0 : Nat) : Int); omega))]
    simpa [applyL] using h.kep
  · have hfl := framedL_len t
    have happ : ∀ x : Str, mget (applyC s.kept ⟨LN, x, [], 2⟩) LN = some (allF want ++ x) := fun x => by
      rw [applyC, if_neg (by simp), if_pos rfl]
      show mget (mput s.kept LN ((mget s.kept LN).getD [] ++ x)) LN = _
      rw [mget_mput_eq, h.kep]; rfl
    have hcl := clampI_b keep 1
    have hw1 : s.wait.length = 1 := by rw [hw]; rfl
    by_cases hk : clampI keep 1 = 0
    · have hg0 : gI s.wait (clampI keep s.wait.length) = ⟨LN, framedL t, [], 2⟩ := by rw [hw1, hk, hw]; rfl
      have htb := clampI_b torn (framedL t).length
      have hT : tornOf s keep torn = clampI torn (framedL t).length := by unfold tornOf; rw [hg0]
      have hR : restR s keep torn = if sub (framedL t) 0 (clampI torn (framedL t).length) ≠ [] then applyC s.kept ⟨LN, sub (framedL t) 0 (clampI torn (framedL t).length), [], 2⟩ else s.kept := by
        unfold restR restK
        rw [hT, hg0, hw1, hk]
        by_cases he : sub (framedL t) 0 (clampI torn (framedL t).length) = []
        · rw [if_neg (by rintro ⟨_, _, h3⟩; exact h3 he), if_neg (by simp [he])]; simp [applyL]
        · rw [if_pos ⟨by omega, by simp, he⟩, if_pos he]; simp [applyL]
      rw [hR] at hg
      rw [sub0_take] at hg
      by_cases he : (framedL t).take (clampI torn (framedL t).length).toNat = []
      · rw [if_neg (by simp [he])] at hg
        exact ⟨allF want, by rw [hg]; exact h.kep, .inl hsame, by omega, hok, hinv⟩
      · rw [if_pos he, happ] at hg
        refine ⟨_, hg, ?_, by rw [List.length_append, List.length_take]; omega, hok, hinv⟩
        by_cases hf : (clampI torn (framedL t).length).toNat < (framedL t).length
        · exact .inl (splitR_torn (by omega) hr4 hf)
        · rw [List.take_of_length_le (by omega), ← allF_snoc, ← hl]
          refine .inr ?_
          rw [splitR_back (fun r hr => by
            rw [hl] at hr
            rcases List.mem_append.1 hr with hr | hr
            · exact hr4 r hr
            · simp at hr; subst hr; omega)]
    · have hk1 : clampI keep 1 = 1 := by omega
      have hR : restR s keep torn = applyC s.kept ⟨LN, framedL t, [], 2⟩ := by
        unfold restR restK
        rw [hw1, hk1, hw, if_neg (by simp)]; rfl
      rw [hR, happ] at hg
      refine ⟨_, hg, .inr ?_, by rw [List.length_append]; omega, hok, hinv⟩
      rw [← allF_snoc, ← hl, splitR_back (fun r hr => by
        rw [hl] at hr
        rcases List.mem_append.1 hr with hr | hr
        · exact hr4 r hr
        · simp at hr; subst hr; omega)]
end Go.Proofs
end
section
namespace Go.Proofs
open Go Go.Aw
set_option maxRecDepth 100000


def rebuild (l : List (Str × Str)) (seen : List Nat) : List (Str × Str) := seen.foldl (fun n i => match l[i]? with | some p => mput n p.1 p.2 | none => n) []
theorem rebuild_snoc {l : List (Str × Str)} {seen : List Nat} {k : Nat} {a b : Str} (h : l[k]? = some (a, b)) : rebuild l (seen ++ [k]) = mput (rebuild l seen) a b := by
  unfold rebuild; rw [List.foldl_append]; simp [h]
theorem mput_keys {l : List (Str × Str)} {k v : Str} : (mput l k v).map Prod.fst = if k ∈ l.map Prod.fst then l.map Prod.fst else l.map Prod.fst ++ [k] := by
  induction l with
  | nil => rfl
  | cons p r ih =>
    obtain ⟨a, b⟩ := p
    simp only [mput]
    split
    · rename_i h; subst h; simp
    · rename_i h
      simp only [List.map_cons, ih, List.mem_cons]
      by_cases hm : k ∈ r.map Prod.fst
      · rw [if_pos hm, if_pos (.inr hm)]
      · rw [if_neg hm, if_neg (by rintro (e | e); exact h e.symm; exact hm e)]; rfl
theorem mdel_sub (l : List (Str × Str)) (k : Str) : (mdel l k).Sublist l := by
  induction l with
  | nil => exact List.Sublist.refl _
  | cons p r ih =>
    obtain ⟨a, b⟩ := p
    simp only [mdel]
    split
    · exact List.sublist_cons_self _ _
    · exact ih.cons_cons _
theorem mput_nd {l : List (Str × Str)} {k v : Str} (h : (l.map Prod.fst).Nodup) : ((mput l k v).map Prod.fst).Nodup := by
  rw [mput_keys]
  split
  · exact h
  · rename_i hm
    exact List.nodup_append.2 ⟨h, by simp, fun a ha b hb e => by simp at hb; subst hb; subst e; exact hm ha⟩
theorem mdel_nd {l : List (Str × Str)} {k : Str} (h : (l.map Prod.fst).Nodup) : ((mdel l k).map Prod.fst).Nodup := h.sublist ((mdel_sub l k).map _)
theorem applyC_nd {l : List (Str × Str)} {c : Chg} (h : (l.map Prod.fst).Nodup) : ((applyC l c).map Prod.fst).Nodup := by
  unfold applyC
  split
  · exact mput_nd h
  · split
    · exact mput_nd h
    · split
      · exact mdel_nd (mput_nd h)
      · split
        · exact mdel_nd h
        · exact h
theorem applyL_len (l : List (Str × Str)) (cs : List Chg) : (applyL l cs).length ≤ l.length + cs.length := by
  induction cs generalizing l with
  | nil => simp [applyL]
  | cons c cs ih =>
    have h1 := ih (applyC l c)
    have h2 := applyC_len l c
    show (applyL (applyC l c) cs).length ≤ _
    simp only [List.length_cons]; omega
/-- What is kept behind a fall. -/
def restK (s : DSt) (keep torn : Int) : List (Str × Str) :=
  if keep < (s.wait.length : Int) ∧ (gI s.wait keep).kind ≤ 3 ∧ sub (gI s.wait keep).data 0 torn ≠ [] then applyC (applyL s.kept (s.wait.take keep.toNat)) { gI s.wait keep with data := sub (gI s.wait keep).data 0 torn }
  else applyL s.kept (s.wait.take keep.toNat)
def clampI (a : Int) (n : Nat) : Int := if (n : Int) < (if 0 > a then 0 else a) then n else (if 0 > a then 0 else a)
theorem clampI_b (a : Int) (n : Nat) : 0 ≤ clampI a n ∧ clampI a n ≤ n := by unfold clampI; split <;> (try split) <;> omega
theorem sub0_take {α : Type} (l : List α) (k : Int) : sub l 0 k = l.take k.toNat := by unfold sub; simp
theorem take_lenI {α : Type} {l : List α} {k : Int} (h0 : 0 ≤ k) (h1 : k ≤ l.length) : ((l.take k.toNat).length : Int) = k := by rw [List.length_take]; omega
def tornOf (s : DSt) (keep torn : Int) : Int := clampI torn (gI s.wait (clampI keep s.wait.length)).data.length
def restR (s : DSt) (keep torn : Int) : List (Str × Str) := restK s (clampI keep s.wait.length) (tornOf s keep torn)
theorem rev_ind {α : Type} {p : List α → Prop} (h0 : p []) (h1 : ∀ l a, p l → p (l ++ [a])) (l : List α) : p l := by
  have h : ∀ l : List α, p l.reverse := fun l => by
    induction l with
    | nil => exact h0
    | cons a l ih => rw [List.reverse_cons]; exact h1 _ _ ih
  have := h l.reverse
  rwa [List.reverse_reverse] at this
theorem nat_pigeon : ∀ (n : Nat) (l : List Nat), l.Nodup → (∀ i ∈ l, i < n) → l.length ≤ n
  | 0, [], _, _ => Nat.le_refl _
  | 0, a :: l, _, h => absurd (h a (by simp)) (by omega)
  | n + 1, l, hn, h => by
    have := nat_pigeon n (l.erase n) (hn.erase n) (fun i hi => by
      have h1 := (hn.mem_erase_iff).1 hi
      have := h i h1.2
      omega)
    by_cases hm : n ∈ l
    · have := List.length_erase_of_mem hm; omega
    · rw [List.erase_of_not_mem hm] at this; omega
theorem mget_none {l : List (Str × Str)} {k : Str} : mget l k = none ↔ k ∉ l.map Prod.fst := by
  induction l with
  | nil => simp [mget]
  | cons p r ih =>
    obtain ⟨a, b⟩ := p
    simp only [mget, List.map_cons, List.mem_cons]
    split
    · rename_i h; simp [h]
    · rename_i h; rw [ih]; simp [Ne.symm h]
theorem mput_fresh {l : List (Str × Str)} {k v : Str} (h : k ∉ l.map Prod.fst) : mput l k v = l ++ [(k, v)] := by
  induction l with
  | nil => rfl
  | cons p r ih =>
    obtain ⟨a, b⟩ := p
    simp only [List.map_cons, List.mem_cons, not_or] at h
    simp only [mput]
    rw [if_neg (Ne.symm h.1), ih h.2]; rfl
theorem rebuild_eq {l : List (Str × Str)} (hl : (l.map Prod.fst).Nodup) : ∀ (seen pre : List Nat), (pre ++ seen).Nodup → (∀ i ∈ pre ++ seen, i < l.length) → rebuild l (pre ++ seen) = rebuild l pre ++ seen.map (fun i => l.getD i ([], []))
  | [], pre, _, _ => by simp
  | k :: seen, pre, hn, hb => by
    have e : pre ++ k :: seen = (pre ++ [k]) ++ seen := by simp
    have hk : k < l.length := hb k (by simp)
    rw [e] at hn hb ⊢
    rw [rebuild_eq hl seen (pre ++ [k]) hn hb]
    have hp : ∀ (pre : List Nat), pre.Nodup → (∀ i ∈ pre, i < l.length) → rebuild l pre = pre.map (fun i => l.getD i ([], [])) := fun pre => by
      intro h1 h2
      revert h1 h2
      refine rev_ind (p := fun pre => pre.Nodup → (∀ i ∈ pre, i < l.length) → rebuild l pre = pre.map (fun i => l.getD i ([], []))) (fun _ _ => rfl) (fun pre j ih h1 h2 => ?_) pre
      · have hj : j < l.length := h2 j (by simp)
        rw [rebuild_snoc (a := l[j].1) (b := l[j].2) (by simp [hj]), ih (List.nodup_append.1 h1).1 (fun i hi => h2 i (by simp [hi]))]
        rw [mput_fresh]
        · simp [hj]
        · intro hc
          simp only [List.map_map, List.mem_map, Function.comp] at hc
          obtain ⟨i, hi, he⟩ := hc
          have hil : i < l.length := h2 i (by simp [hi])
          simp only [List.getD_eq_getElem?_getD, List.getElem?_eq_getElem hil, Option.getD_some] at he
          have : i = j := by
            have h3 := (List.nodup_iff_pairwise_ne.1 hl)
            rw [List.pairwise_iff_getElem] at h3
            rcases Nat.lt_trichotomy i j with h4 | h4 | h4
            · exact absurd (by rw [List.getElem_map, List.getElem_map]; simpa using he) (h3 i j (by simpa using hil) (by simpa using hj) h4)
            · exact h4
            · exact absurd (by rw [List.getElem_map, List.getElem_map]; simpa using he.symm) (h3 j i (by simpa using hj) (by simpa using hil) h4)
          subst this
          exact (List.nodup_append.1 h1).2.2 i hi i (by simp) rfl
    have hn2 := (List.nodup_append.1 hn).1
    rw [hp _ hn2 (fun i hi => hb i (by simp at hi ⊢; rcases hi with h | h <;> simp [h])), hp pre (List.nodup_append.1 hn2).1 (fun i hi => hb i (by simp [hi]))]
    simp
theorem rebuild_perm {l : List (Str × Str)} {seen : List Nat} (hl : (l.map Prod.fst).Nodup) (hn : seen.Nodup) (hb : ∀ i ∈ seen, i < l.length) (ha : ∀ i, i < l.length → i ∈ seen) : (rebuild l seen).Perm l := by
  have := rebuild_eq hl seen [] (by simpa using hn) (by simpa using hb)
  simp only [List.nil_append] at this
  rw [this]
  have hp : seen.Perm (List.range l.length) := (List.perm_ext_iff_of_nodup hn List.nodup_range).2 fun i => ⟨fun h => List.mem_range.2 (hb i h), fun h => ha i (List.mem_range.1 h)⟩
  refine (hp.map _).trans ?_
  have e : (List.range l.length).map (fun i => l.getD i ([], [])) = l := by
    refine List.ext_getElem (by simp) fun i h1 h2 => ?_
    simp only [List.getElem_map, List.getElem_range]
    simp [h2]
  show ((List.range l.length).map (fun i => l.getD i ([], []))).Perm l
  rw [e]
theorem seen_len {l : List (Str × Str)} {seen : List Nat} (hn : seen.Nodup) (hb : ∀ i ∈ seen, i < l.length) : seen.length ≤ l.length := by
  exact nat_pigeon _ _ hn hb
theorem rebuild_len (l : List (Str × Str)) (seen : List Nat) : (rebuild l seen).length ≤ seen.length := by
  refine rev_ind (p := fun seen => (rebuild l seen).length ≤ seen.length) (by simp [rebuild]) (fun pre j ih => ?_) seen
  · cases h : l[j]? with
    | none => unfold rebuild at ih ⊢; rw [List.foldl_append]; simp [h]; omega
    | some p =>
      rw [rebuild_snoc (a := p.1) (b := p.2) h]
      have := mput_len (rebuild l pre) p.1 p.2
      simp; omega
theorem applyL_nd {l : List (Str × Str)} {cs : List Chg} (h : (l.map Prod.fst).Nodup) : ((applyL l cs).map Prod.fst).Nodup := by
  induction cs generalizing l with
  | nil => exact h
  | cons c cs ih => exact ih (applyC_nd h)
theorem restR_len (s : DSt) (keep torn : Int) : (restR s keep torn).length ≤ s.kept.length + s.wait.length + 1 := by
  have h := applyL_len s.kept (s.wait.take (clampI keep s.wait.length).toNat)
  rw [List.length_take] at h
  unfold restR restK
  split
  · refine Nat.le_trans (applyC_len _ _) ?_
    omega
  · omega
theorem restR_nd {s : DSt} (h : (s.kept.map Prod.fst).Nodup) (keep torn : Int) : ((restR s keep torn).map Prod.fst).Nodup := by
  unfold restR restK
  split
  · exact applyC_nd (applyL_nd h)
  · exact applyL_nd h
theorem rstep {l nw : List (Str × Str)} {seen : List Nat} {k : Nat} {a b : Str} (h1 : seen.Nodup) (h2 : ∀ i ∈ seen, i < l.length) (h3 : nw = rebuild l seen) (hp : l[k]? = some (a, b)) (hn : ¬ k ∈ seen) : (seen ++ [k]).Nodup ∧ (∀ i ∈ seen ++ [k], i < l.length) ∧ mput nw a b = rebuild l (seen ++ [k]) := by
  have hk := (List.getElem?_eq_some_iff.1 hp).1
  refine ⟨List.nodup_append.2 ⟨h1, by simp, fun i hi j hj e => by simp at hj; subst hj; subst e; exact hn hi⟩, fun i hi => ?_, by rw [rebuild_snoc hp, h3]⟩
  rcases List.mem_append.1 hi with h | h
  · exact h2 i h
  · simp at h; omega
theorem rdec {l : List (Str × Str)} {seen : List Nat} {k : Nat} {p : Str × Str} (h1 : seen.Nodup) (h2 : ∀ i ∈ seen, i < l.length) (hp : l[k]? = some p) (hn : ¬ k ∈ seen) : l.length - (seen ++ [k]).length < l.length - seen.length := by
  have h := (rstep (nw := rebuild l seen) h1 h2 rfl (a := p.1) (b := p.2) hp hn)
  have := seen_len h.1 h.2.1
  simp at this ⊢
  omega

theorem u_Arm (d kb nb : Nat) (s : DSt) (n : Int)  (m : AMem)  (K : AV → AMem → Prop) (hK : K (.tuple []) (AMem.wth m [(d, dObj kb nb { s with fuse := if -1 > n then -1 else n })])) : ACalls Try.prog 37 [.ptr ⟨d, 0, none⟩, .int .i64 n] (AMem.wth m [(d, dObj kb nb s)]) K := by
 refine acalls_enter Try.func37 rfl (by decide) (Nat.le_of_ble_eq_true rfl) ?_
 show AWP _ _ _ _ [(0, .ptr ⟨d, 0, none⟩), (1, .int .i64 n)] (AMem.wth m [(d, dObj kb nb s)])
 refine awp_reg2 [] [] (by decide) ?_
 intro K1 hK1
 refine ⟨trivial, trivial, trivial, trivial, ⟨rfl, by decide⟩, ?_⟩
 refine ar_storep rfl 0 (v := .int .i64 (if -1 > n then -1 else n)) (l' := [.map kb, .map nb, .slice true (s.wait.map chgAV), .int .i64 (if -1 > n then -1 else n), .bool s.down, .int .i64 s.steps]) rfl rfl (nodup_1 d) rfl rfl rfl rfl rfl (Nat.le_of_ble_eq_true rfl) rfl ?_
 show K1 [] (AMem.wth m [(d, .cells [.map kb, .map nb, .slice true (s.wait.map chgAV), .int .i64 (if -1 > n then -1 else n), .bool s.down, .int .i64 s.steps])])
 refine hK1 _ _ ?_; clear hK1 K1
 refine ⟨(AMem.wth m [(d, .cells [.map kb, .map nb, .slice true (s.wait.map chgAV), .int .i64 (if -1 > n then -1 else n), .bool s.down, .int .i64 s.steps])]), fun _ _ h => h, ?_⟩
 show K (.tuple []) (AMem.wth m [(d, .cells [.map kb, .map nb, .slice true (s.wait.map chgAV), .int .i64 (if -1 > n then -1 else n), .bool s.down, .int .i64 s.steps])])

 exact hK

set_option maxHeartbeats 16000000 in
theorem u_Restart (d kb nb : Nat) (s : DSt) (keep torn : Int) (N : Nat) (hN : [d, kb].Nodup) (hD : DInv N s) (hNN : N ≤ 100000) (hk : (s.kept.map Prod.fst).Nodup) (m : AMem)  (K : AV → AMem → Prop) (hK : ∀ q, ([q, d, kb] : List Nat).Nodup → m q = none → ∀ nw, nw.Perm (restR s keep torn) → K (.tuple []) (AMem.wth m [(q, mObj nw), (d, dObj kb q ⟨restR s keep torn, nw, [], -1, false, s.steps⟩), (kb, mObj (restR s keep torn))])) : ACalls Try.prog 38 [.ptr ⟨d, 0, none⟩, .int .i64 keep, .int .i64 torn] (AMem.wth m [(d, dObj kb nb s), (kb, mObj s.kept)]) K := by
 have hcl := clampI_b keep s.wait.length
 have hwl := hD.kl
 have hrl := restR_len s keep torn
 refine acalls_enter Try.func38 rfl (by decide) (Nat.le_of_ble_eq_true rfl) ?_
 show AWP _ _ _ _ [(0, .ptr ⟨d, 0, none⟩), (1, .int .i64 keep), (2, .int .i64 torn)] (AMem.wth m [(d, dObj kb nb s), (kb, mObj s.kept)])
 refine awp_reg2_seq [] [0, 1, 2] (by decide) ?_
 intro K1 hK1
 refine ⟨trivial, trivial, trivial, trivial, ⟨rfl, by decide⟩, ?_⟩
 refine ar_loadp rfl (v := .slice false (s.wait.map chgAV)) rfl (wth_get 0 hN rfl) rfl (apartOk_one rfl rfl (Nat.le_of_ble_eq_true rfl)) rfl ?_
 refine ar_len rfl chgAV s.wait rfl rfl rfl ?_
 refine ⟨trivial, trivial, ?_⟩
 show K1 [(0, .ptr ⟨d, 0, none⟩), (1, .int .i64 (if (s.wait.length : Int) < if 0 > keep then 0 else keep then (s.wait.length : Int) else if 0 > keep then 0 else keep)), (2, .int .i64 torn)] (AMem.wth m [(d, dObj kb nb s), (kb, mObj s.kept)])
 refine hK1 _ _ ?_; clear hK1 K1
 
 show AWP _ _ _ _ [(0, .ptr ⟨d, 0, none⟩), (1, .int .i64 (clampI keep s.wait.length)), (2, .int .i64 torn)] (AMem.wth m [(d, dObj kb nb s), (kb, mObj s.kept)])
 refine awp_seq_k ?_; intro K2 hK2
 refine awp_reg2_seq [] [0, 1, 2, 24, 25, 26] (by decide) ?_
 intro K1 hK1
 refine ⟨trivial, trivial, ⟨rfl, by decide⟩, ?_⟩
 refine ar_loadp rfl (v := .slice false (s.wait.map chgAV)) rfl (wth_get 0 hN rfl) rfl (apartOk_one rfl rfl (Nat.le_of_ble_eq_true rfl)) rfl ?_
 refine ⟨trivial, ?_⟩
 refine ar_slice rfl chgAV s.wait 0 (clampI keep s.wait.length) rfl rfl rfl rfl rfl rfl (fun _ => rfl) (by omega) (by omega) (by omega) ?_
 refine ar_len rfl chgAV (sub s.wait 0 (clampI keep s.wait.length)) rfl rfl rfl ?_
 refine ⟨trivial, ?_⟩
 show K1 [(0, .ptr ⟨d, 0, none⟩), (1, .int .i64 (clampI keep s.wait.length)), (2, .int .i64 torn), (24, .slice false ((sub s.wait 0 (clampI keep s.wait.length)).map chgAV)), (25, .int .i64 ((sub s.wait 0 (clampI keep s.wait.length)).length : Int)), (26, .int .i64 0)] (AMem.wth m [(d, dObj kb nb s), (kb, mObj s.kept)])
 refine hK1 _ _ ?_; clear hK1 K1
 rw [sub0_take, take_lenI hcl.1 hcl.2]
 show AWP _ _ _ _ [(0, .ptr ⟨d, 0, none⟩), (1, .int .i64 (clampI keep s.wait.length)), (2, .int .i64 torn), (24, .slice false ((s.wait.take (clampI keep s.wait.length).toNat).map chgAV)), (25, .int .i64 (clampI keep s.wait.length)), (26, .int .i64 0)] (AMem.wth m [(d, dObj kb nb s), (kb, mObj s.kept)])
 refine awp_block ?_
 refine awp_keep [0, 1, 2, 24, 25, 26] (by decide) ?_
 refine awp_loop_st (σ := Int × (List (Str × Str))) (fun ⟨i, kp⟩ => [(0, .ptr ⟨d, 0, none⟩), (1, .int .i64 (clampI keep s.wait.length)), (2, .int .i64 torn), (24, .slice false ((s.wait.take (clampI keep s.wait.length).toNat).map chgAV)), (25, .int .i64 (clampI keep s.wait.length)), (26, .int .i64 i)]) (fun ⟨i, kp⟩ => (AMem.wth m [(d, dObj kb nb s), (kb, mObj kp)])) (fun ⟨i, kp⟩ => 0 ≤ i ∧ i ≤ clampI keep s.wait.length ∧ kp = applyL s.kept ((s.wait.take (clampI keep s.wait.length).toNat).take i.toNat)) (fun ⟨i, kp⟩ => (clampI keep s.wait.length - i).toNat) (0, s.kept) rfl rfl ?_ ?_
 ·
  show 0 ≤ ((0 : Int)) ∧ ((0 : Int)) ≤ clampI keep s.wait.length ∧ ((s.kept : (List (Str × Str)))) = applyL s.kept ((s.wait.take (clampI keep s.wait.length).toNat).take ((0 : Int)).toNat)
  exact ⟨by omega, hcl.1, rfl⟩
 rintro ⟨i, kp⟩ hI
 replace hI : 0 ≤ i ∧ i ≤ clampI keep s.wait.length ∧ kp = applyL s.kept ((s.wait.take (clampI keep s.wait.length).toNat).take i.toNat) := hI
 show AWP _ _ _ _ [(0, .ptr ⟨d, 0, none⟩), (1, .int .i64 (clampI keep s.wait.length)), (2, .int .i64 torn), (24, .slice false ((s.wait.take (clampI keep s.wait.length).toNat).map chgAV)), (25, .int .i64 (clampI keep s.wait.length)), (26, .int .i64 i)] (AMem.wth m [(d, dObj kb nb s), (kb, mObj kp)])
 refine awp_reg2_seq [] [0, 1, 2, 24, 25, 26, 27] (by decide) ?_
 intro K1 hK1
 refine ⟨trivial, ?_⟩
 show K1 [(0, .ptr ⟨d, 0, none⟩), (1, .int .i64 (clampI keep s.wait.length)), (2, .int .i64 torn), (24, .slice false ((s.wait.take (clampI keep s.wait.length).toNat).map chgAV)), (25, .int .i64 (clampI keep s.wait.length)), (26, .int .i64 i), (27, .bool (decide (i < clampI keep s.wait.length)))] (AMem.wth m [(d, dObj kb nb s), (kb, mObj kp)])
 refine hK1 _ _ ?_; clear hK1 K1
 refine awp_seq_k ?_; intro K3 hK3
 refine awp_cond rfl rfl (fun h1 => ?_) (fun h1 => ?_)
 ·
  replace h1 : i < clampI keep s.wait.length := (of_decide_eq_true h1)
  have hwm : gI (s.wait.take (clampI keep s.wait.length).toNat) i ∈ s.wait := List.mem_of_mem_take (gI_mem hI.1 (by rw [take_lenI hcl.1 hcl.2]; exact h1))
  have hcd := hD.cd _ hwm
  have hap := applyL_bnd (cs := (s.wait.take (clampI keep s.wait.length).toNat).take i.toNat) (fun c hc => hD.cd c (List.mem_of_mem_take (List.mem_of_mem_take hc))) (l := s.kept) (B := 400000000) (fun p hp => by have := hD.kb p hp; omega)
  rw [← hI.2.2, List.length_take, List.length_take] at hap
  refine awp_skip ?_
  refine hK3 _ _ ?_; clear hK3
  refine awp_seq_k ?_; intro K4 hK4
  refine awp_block ?_
  refine awp_reg2_seq [] [0, 1, 2, 7, 24, 25, 26] (by decide) ?_
  intro K1 hK1
  refine ar_index rfl chgAV (s.wait.take (clampI keep s.wait.length).toNat) i rfl rfl rfl rfl rfl (by decide) (fun _ => rfl) (by omega) (by first | omega | (rw [take_lenI hcl.1 hcl.2]; omega)) ?_
  refine ⟨(apartOk_agg rfl rfl (Nat.le_of_ble_eq_true rfl)), ?_⟩
  refine ar_alloc rfl (z := .agg [.str ([]), .str ([]), .str ([]), .int .i64 0]) rfl rfl ?_
  intro b1 hb1
  have hFb1 : m b1 = none := wth_none hb1
  have hNb1 : ([b1, d, kb] : List Nat).Nodup := wth_nodup hb1 hN
  refine ar_storep rfl 0 (v := chgAV (gI (s.wait.take (clampI keep s.wait.length).toNat) i)) (l' := [.str ((gI (s.wait.take (clampI keep s.wait.length).toNat) i).name), .str ((gI (s.wait.take (clampI keep s.wait.length).toNat) i).data), .str ((gI (s.wait.take (clampI keep s.wait.length).toNat) i).to), .int .i64 ((gI (s.wait.take (clampI keep s.wait.length).toNat) i).kind)]) rfl (by rfl) hNb1 rfl rfl rfl rfl rfl (Nat.le_of_ble_eq_true rfl) rfl ?_
  show K1 [(0, .ptr ⟨d, 0, none⟩), (1, .int .i64 (clampI keep s.wait.length)), (2, .int .i64 torn), (7, .ptr ⟨b1, 0, none⟩), (24, .slice false ((s.wait.take (clampI keep s.wait.length).toNat).map chgAV)), (25, .int .i64 (clampI keep s.wait.length)), (26, .int .i64 i)] (AMem.wth m [(b1, .cells [.str ((gI (s.wait.take (clampI keep s.wait.length).toNat) i).name), .str ((gI (s.wait.take (clampI keep s.wait.length).toNat) i).data), .str ((gI (s.wait.take (clampI keep s.wait.length).toNat) i).to), .int .i64 ((gI (s.wait.take (clampI keep s.wait.length).toNat) i).kind)]), (d, dObj kb nb s), (kb, mObj kp)])
  refine hK1 _ _ ?_; clear hK1 K1
  refine awp_draw_memP Try.mixed [(5, 35)] [(5, 35, .tuple [])] [(AMem.wth m [(b1, .cells [.str ((gI (s.wait.take (clampI keep s.wait.length).toNat) i).name), .str ((gI (s.wait.take (clampI keep s.wait.length).toNat) i).data), .str ((gI (s.wait.take (clampI keep s.wait.length).toNat) i).to), .int .i64 ((gI (s.wait.take (clampI keep s.wait.length).toNat) i).kind)]), (d, dObj kb nb s), (kb, mObj kp)]), (AMem.wth m [(b1, .cells [.str ((gI (s.wait.take (clampI keep s.wait.length).toNat) i).name), .str ((gI (s.wait.take (clampI keep s.wait.length).toNat) i).data), .str ((gI (s.wait.take (clampI keep s.wait.length).toNat) i).to), .int .i64 ((gI (s.wait.take (clampI keep s.wait.length).toNat) i).kind)]), (d, dObj kb nb s), (kb, mObj (applyC kp (gI (s.wait.take (clampI keep s.wait.length).toNat) i)))])] [] [0, 1, 2, 24, 25, 26] [(34, .agg [.str ((gI (s.wait.take (clampI keep s.wait.length).toNat) i).name), .str ((gI (s.wait.take (clampI keep s.wait.length).toNat) i).data), .str ((gI (s.wait.take (clampI keep s.wait.length).toNat) i).to), .int .i64 ((gI (s.wait.take (clampI keep s.wait.length).toNat) i).kind)]), (33, .map kb), (32, .ptr ⟨d, 0, none⟩), (31, .ptr ⟨d, 0, none⟩), (30, .ptr ⟨d, 0, none⟩), (35, .tuple []), (0, .ptr ⟨d, 0, none⟩), (1, .int .i64 (clampI keep s.wait.length)), (2, .int .i64 torn), (7, .ptr ⟨b1, 0, none⟩), (24, .slice false ((s.wait.take (clampI keep s.wait.length).toNat).map chgAV)), (25, .int .i64 (clampI keep s.wait.length)), (26, .int .i64 i)] (AMem.wth m [(b1, .cells [.str ((gI (s.wait.take (clampI keep s.wait.length).toNat) i).name), .str ((gI (s.wait.take (clampI keep s.wait.length).toNat) i).data), .str ((gI (s.wait.take (clampI keep s.wait.length).toNat) i).to), .int .i64 ((gI (s.wait.take (clampI keep s.wait.length).toNat) i).kind)]), (d, dObj kb nb s), (kb, mObj (applyC kp (gI (s.wait.take (clampI keep s.wait.length).toNat) i)))]) (by decide) (by decide) (by decide) rfl rfl rfl rfl ?_ ?_ ?_
  ·
   refine ⟨?_, trivial⟩
   ·
    exact mem_call (wth_split (m := m) (L := [(b1, .cells [.str ((gI (s.wait.take (clampI keep s.wait.length).toNat) i).name), .str ((gI (s.wait.take (clampI keep s.wait.length).toNat) i).data), .str ((gI (s.wait.take (clampI keep s.wait.length).toNat) i).to), .int .i64 ((gI (s.wait.take (clampI keep s.wait.length).toNat) i).kind)]), (d, dObj kb nb s), (kb, mObj kp)]) hNb1 (pick_perm [2] _)) (wth_split (m := m) (L := [(b1, .cells [.str ((gI (s.wait.take (clampI keep s.wait.length).toNat) i).name), .str ((gI (s.wait.take (clampI keep s.wait.length).toNat) i).data), .str ((gI (s.wait.take (clampI keep s.wait.length).toNat) i).to), .int .i64 ((gI (s.wait.take (clampI keep s.wait.length).toNat) i).kind)]), (d, dObj kb nb s), (kb, mObj (applyC kp (gI (s.wait.take (clampI keep s.wait.length).toNat) i)))]) hNb1 (pick_perm [2] _)) (fun Kc hKc => u_apply kb kp (gI (s.wait.take (clampI keep s.wait.length).toNat) i) (by have := hap.1; omega) (fun p hp => by have := hap.2 p hp; omega) (by first | omega | (dsimp only; omega)) _ Kc hKc)
  ·
   refine ⟨?_, ?_, trivial⟩
   ·
    show pseq _ _ _ _ _ [(35, .tuple []), (0, .ptr ⟨d, 0, none⟩), (1, .int .i64 (clampI keep s.wait.length)), (2, .int .i64 torn), (7, .ptr ⟨b1, 0, none⟩), (24, .slice false ((s.wait.take (clampI keep s.wait.length).toNat).map chgAV)), (25, .int .i64 (clampI keep s.wait.length)), (26, .int .i64 i)] _
    refine ⟨trivial, trivial, ⟨rfl, by decide⟩, ?_⟩
    refine pq_loadp rfl (v := .map kb) rfl (wth_get 1 hNb1 rfl) (apartOk_one rfl rfl (Nat.le_of_ble_eq_true rfl)) rfl ?_
    refine pq_loadp rfl (v := .agg [.str ((gI (s.wait.take (clampI keep s.wait.length).toNat) i).name), .str ((gI (s.wait.take (clampI keep s.wait.length).toNat) i).data), .str ((gI (s.wait.take (clampI keep s.wait.length).toNat) i).to), .int .i64 ((gI (s.wait.take (clampI keep s.wait.length).toNat) i).kind)]) rfl (wth_get 0 hNb1 rfl) (apartOk_agg rfl rfl (Nat.le_of_ble_eq_true rfl)) rfl ?_
    exact rfl
   ·
    show pseq _ _ _ _ _ [(35, .tuple []), (0, .ptr ⟨d, 0, none⟩), (1, .int .i64 (clampI keep s.wait.length)), (2, .int .i64 torn), (7, .ptr ⟨b1, 0, none⟩), (24, .slice false ((s.wait.take (clampI keep s.wait.length).toNat).map chgAV)), (25, .int .i64 (clampI keep s.wait.length)), (26, .int .i64 i)] _
    refine ⟨trivial, trivial, ⟨rfl, by decide⟩, ?_⟩
    refine pq_loadp rfl (v := .map kb) rfl (wth_get 1 hNb1 rfl) (apartOk_one rfl rfl (Nat.le_of_ble_eq_true rfl)) rfl ?_
    refine pq_loadp rfl (v := .agg [.str ((gI (s.wait.take (clampI keep s.wait.length).toNat) i).name), .str ((gI (s.wait.take (clampI keep s.wait.length).toNat) i).data), .str ((gI (s.wait.take (clampI keep s.wait.length).toNat) i).to), .int .i64 ((gI (s.wait.take (clampI keep s.wait.length).toNat) i).kind)]) rfl (wth_get 0 hNb1 rfl) (apartOk_agg rfl rfl (Nat.le_of_ble_eq_true rfl)) rfl ?_
    exact rfl
  intro K1 hK1
  show K1 [(0, .ptr ⟨d, 0, none⟩), (1, .int .i64 (clampI keep s.wait.length)), (2, .int .i64 torn), (24, .slice false ((s.wait.take (clampI keep s.wait.length).toNat).map chgAV)), (25, .int .i64 (clampI keep s.wait.length)), (26, .int .i64 i)] (AMem.wth m [(b1, .cells [.str ((gI (s.wait.take (clampI keep s.wait.length).toNat) i).name), .str ((gI (s.wait.take (clampI keep s.wait.length).toNat) i).data), .str ((gI (s.wait.take (clampI keep s.wait.length).toNat) i).to), .int .i64 ((gI (s.wait.take (clampI keep s.wait.length).toNat) i).kind)]), (d, dObj kb nb s), (kb, mObj (applyC kp (gI (s.wait.take (clampI keep s.wait.length).toNat) i)))])
  refine hK1 _ _ ?_; clear hK1 K1
  refine hK4 _ _ ?_; clear hK4
  have hNd1 : ([d, kb] : List Nat).Nodup := drop_nodup (L := [(b1, .cells [.str ((gI (s.wait.take (clampI keep s.wait.length).toNat) i).name), .str ((gI (s.wait.take (clampI keep s.wait.length).toNat) i).data), .str ((gI (s.wait.take (clampI keep s.wait.length).toNat) i).to), .int .i64 ((gI (s.wait.take (clampI keep s.wait.length).toNat) i).kind)]), (d, dObj kb nb s), (kb, mObj (applyC kp (gI (s.wait.take (clampI keep s.wait.length).toNat) i)))]) hNb1 (pick_perm [0] _)
  refine awp_dropP [(b1, .cells [.str ((gI (s.wait.take (clampI keep s.wait.length).toNat) i).name), .str ((gI (s.wait.take (clampI keep s.wait.length).toNat) i).data), .str ((gI (s.wait.take (clampI keep s.wait.length).toNat) i).to), .int .i64 ((gI (s.wait.take (clampI keep s.wait.length).toNat) i).kind)])] [(d, dObj kb nb s), (kb, mObj (applyC kp (gI (s.wait.take (clampI keep s.wait.length).toNat) i)))] hNb1 (pick_perm [0] _) (by simp only [List.map_cons, List.map_nil, List.forall_mem_cons]; exact ⟨hFb1, fun _ h => by cases h⟩) ?_
  refine awp_reg2 [] [0, 1, 2, 24, 25, 26] (by decide) ?_
  intro K1 hK1
  refine ar_add rfl (a := i) (b := 1) rfl rfl (by omega) (by omega) ?_
  refine ⟨trivial, ?_⟩
  show K1 [(0, .ptr ⟨d, 0, none⟩), (1, .int .i64 (clampI keep s.wait.length)), (2, .int .i64 torn), (24, .slice false ((s.wait.take (clampI keep s.wait.length).toNat).map chgAV)), (25, .int .i64 (clampI keep s.wait.length)), (26, .int .i64 (i + 1))] (AMem.wth m [(d, dObj kb nb s), (kb, mObj (applyC kp (gI (s.wait.take (clampI keep s.wait.length).toNat) i)))])
  refine hK1 _ _ ?_; clear hK1 K1
  refine ⟨(i + 1, applyC kp (gI (s.wait.take (clampI keep s.wait.length).toNat) i)), rfl, rfl, ?_, ?_⟩
  ·
   show 0 ≤ ((i + 1 : Int)) ∧ ((i + 1 : Int)) ≤ clampI keep s.wait.length ∧ ((applyC kp (gI (s.wait.take (clampI keep s.wait.length).toNat) i) : (List (Str × Str)))) = applyL s.kept ((s.wait.take (clampI keep s.wait.length).toNat).take ((i + 1 : Int)).toNat)
   exact ⟨by omega, by omega, by rw [hI.2.2]; exact applyL_step hI.1 (by rw [take_lenI hcl.1 hcl.2]; exact h1)⟩
  ·
   show (clampI keep s.wait.length - ((i + 1 : Int))).toNat < (clampI keep s.wait.length - i).toNat
   omega
 replace h1 : clampI keep s.wait.length ≤ i := (Int.not_lt.1 (of_decide_eq_false h1))
 have hkp : kp = applyL s.kept (s.wait.take (clampI keep s.wait.length).toNat) := by have := hI.2.2; rwa [take_full (by rw [take_lenI hcl.1 hcl.2]; exact h1)] at this
 have hap := applyL_bnd (cs := s.wait.take (clampI keep s.wait.length).toNat) (fun c hc => hD.cd c (List.mem_of_mem_take hc)) (l := s.kept) (B := 400000000) (fun p hp => by have := hD.kb p hp; omega)
 rw [← hkp, List.length_take] at hap
 refine awp_exit ?_
 refine hK2 _ _ ?_; clear hK2
 refine awp_seq_k ?_; intro K5 hK5
 refine awp_reg2_seq [] [0, 1, 2, 54] (by decide) ?_
 intro K1 hK1
 suffices key : K1 [(0, .ptr ⟨d, 0, none⟩), (1, .int .i64 (clampI keep s.wait.length)), (2, .int .i64 torn), (54, .bool ((decide (clampI keep s.wait.length < (s.wait.length : Int))) && (decide ((gI s.wait (clampI keep s.wait.length)).kind ≤ 3))))] (AMem.wth m [(d, dObj kb nb s), (kb, mObj kp)]) by
  refine ⟨trivial, trivial, trivial, ⟨rfl, by decide⟩, ?_⟩
  refine ar_loadp rfl (v := .slice false (s.wait.map chgAV)) rfl (wth_get 0 hN rfl) rfl (apartOk_one rfl rfl (Nat.le_of_ble_eq_true rfl)) rfl ?_
  refine ar_len rfl chgAV s.wait rfl rfl rfl ?_
  refine ⟨trivial, trivial, ?_⟩
  show aopsR _ _ _ _ _ [(44, .bool (decide (clampI keep s.wait.length < (s.wait.length : Int)))), (43, .bool (decide (clampI keep s.wait.length < (s.wait.length : Int)))), (42, .int .i64 (s.wait.length : Int)), (41, .slice false (s.wait.map chgAV)), (40, .ptr ⟨d, 2, none⟩), (39, .ptr ⟨d, 0, none⟩), (38, .ptr ⟨d, 0, none⟩), (37, .int .i64 (clampI keep s.wait.length)), (0, .ptr ⟨d, 0, none⟩), (1, .int .i64 (clampI keep s.wait.length)), (2, .int .i64 torn), (24, .slice false ((s.wait.take (clampI keep s.wait.length).toNat).map chgAV)), (25, .int .i64 (clampI keep s.wait.length)), (26, .int .i64 i), (27, .bool (decide (i < clampI keep s.wait.length)))] _
  revert key
  cases h2 : (decide (clampI keep s.wait.length < (s.wait.length : Int)))
  ·
   replace h2 : (s.wait.length : Int) ≤ clampI keep s.wait.length := (Int.not_lt.1 (of_decide_eq_false h2))
   intro key
   refine ar_off rfl (ar_off rfl (ar_off rfl (ar_off rfl (ar_off rfl (ar_off rfl (ar_off rfl (ar_off rfl (ar_off rfl ?_))))))))
   exact key
  ·
   replace h2 : clampI keep s.wait.length < (s.wait.length : Int) := (of_decide_eq_true h2)
   intro key
   refine ⟨trivial, trivial, ⟨rfl, by decide⟩, ?_⟩
   refine ar_loadp rfl (v := .slice false (s.wait.map chgAV)) rfl (wth_get 0 hN rfl) rfl (apartOk_one rfl rfl (Nat.le_of_ble_eq_true rfl)) rfl ?_
   refine ⟨trivial, ?_⟩
   refine ar_index rfl chgAV s.wait (clampI keep s.wait.length) rfl rfl rfl rfl rfl (by decide) (fun _ => rfl) (by omega) (by first | omega | (rw [take_lenI hcl.1 hcl.2]; omega)) ?_
   refine ⟨⟨rfl, by decide, (Nat.le_of_ble_eq_true rfl)⟩, (apartOk_one rfl rfl (Nat.le_of_ble_eq_true rfl)), trivial, ?_⟩
   exact key
 refine hK1 _ _ ?_; clear hK1 K1
 refine awp_cond rfl rfl (fun h3 => ?_) (fun h3 => ?_)
 ·
  replace h3 : (clampI keep s.wait.length < (s.wait.length : Int)) ∧ ((gI s.wait (clampI keep s.wait.length)).kind ≤ 3) := ⟨(of_decide_eq_true (bandL h3)), (of_decide_eq_true (bandR h3))⟩
  have hcd := hD.cd _ (gI_mem (l := s.wait) hcl.1 h3.1)
  have hsl : (sub (gI s.wait (clampI keep s.wait.length)).data 0 (tornOf s keep torn)).length ≤ 4000 := by have := clampI_b torn (gI s.wait (clampI keep s.wait.length)).data.length; rw [sub0_take]; simp; omega
  refine awp_reg2_seq [] [0, 2, 8] (by decide) ?_
  intro K1 hK1
  refine ⟨trivial, trivial, ⟨rfl, by decide⟩, ?_⟩
  refine ar_loadp rfl (v := .slice false (s.wait.map chgAV)) rfl (wth_get 0 hN rfl) rfl (apartOk_one rfl rfl (Nat.le_of_ble_eq_true rfl)) rfl ?_
  refine ⟨trivial, ?_⟩
  refine ar_index rfl chgAV s.wait (clampI keep s.wait.length) rfl rfl rfl rfl rfl (by decide) (fun _ => rfl) (by omega) (by first | omega | (rw [take_lenI hcl.1 hcl.2]; omega)) ?_
  refine ⟨(apartOk_agg rfl rfl (Nat.le_of_ble_eq_true rfl)), ?_⟩
  refine ar_alloc rfl (z := .agg [.str ([]), .str ([]), .str ([]), .int .i64 0]) rfl rfl ?_
  intro b2 hb2
  have hFb2 : m b2 = none := wth_none hb2
  have hNb2 : ([b2, d, kb] : List Nat).Nodup := wth_nodup hb2 hN
  refine ar_storep rfl 0 (v := chgAV (gI s.wait (clampI keep s.wait.length))) (l' := [.str ((gI s.wait (clampI keep s.wait.length)).name), .str ((gI s.wait (clampI keep s.wait.length)).data), .str ((gI s.wait (clampI keep s.wait.length)).to), .int .i64 ((gI s.wait (clampI keep s.wait.length)).kind)]) rfl (by rfl) hNb2 rfl rfl rfl rfl rfl (Nat.le_of_ble_eq_true rfl) rfl ?_
  show K1 [(0, .ptr ⟨d, 0, none⟩), (2, .int .i64 torn), (8, .ptr ⟨b2, 0, none⟩)] (AMem.wth m [(b2, .cells [.str ((gI s.wait (clampI keep s.wait.length)).name), .str ((gI s.wait (clampI keep s.wait.length)).data), .str ((gI s.wait (clampI keep s.wait.length)).to), .int .i64 ((gI s.wait (clampI keep s.wait.length)).kind)]), (d, dObj kb nb s), (kb, mObj kp)])
  refine hK1 _ _ ?_; clear hK1 K1
  refine awp_reg2_seq [] [0, 8] (by decide) ?_
  intro K1 hK1
  refine ⟨⟨rfl, by decide⟩, ?_⟩
  refine ar_loadp rfl (v := .str ((gI s.wait (clampI keep s.wait.length)).data)) rfl (wth_get 0 hNb2 rfl) rfl (apartOk_one rfl rfl (Nat.le_of_ble_eq_true rfl)) rfl ?_
  refine ⟨trivial, trivial, ⟨rfl, by decide⟩, ?_⟩
  refine ar_loadp rfl (v := .str ((gI s.wait (clampI keep s.wait.length)).data)) rfl (wth_get 0 hNb2 rfl) rfl (apartOk_one rfl rfl (Nat.le_of_ble_eq_true rfl)) rfl ?_
  refine ⟨trivial, trivial, ⟨(by omega), (by omega), (by omega)⟩, ⟨rfl, by decide⟩, ?_⟩
  refine ar_storep rfl 0 (v := .str (sub ((gI s.wait (clampI keep s.wait.length)).data) 0 (if (((gI s.wait (clampI keep s.wait.length)).data).length : Int) < if 0 > torn then 0 else torn then (((gI s.wait (clampI keep s.wait.length)).data).length : Int) else if 0 > torn then 0 else torn))) (l' := [.str ((gI s.wait (clampI keep s.wait.length)).name), .str (sub ((gI s.wait (clampI keep s.wait.length)).data) 0 (if (((gI s.wait (clampI keep s.wait.length)).data).length : Int) < if 0 > torn then 0 else torn then (((gI s.wait (clampI keep s.wait.length)).data).length : Int) else if 0 > torn then 0 else torn)), .str ((gI s.wait (clampI keep s.wait.length)).to), .int .i64 ((gI s.wait (clampI keep s.wait.length)).kind)]) rfl rfl hNb2 rfl rfl rfl rfl rfl (Nat.le_of_ble_eq_true rfl) rfl ?_
  show K1 [(0, .ptr ⟨d, 0, none⟩), (8, .ptr ⟨b2, 0, none⟩)] (AMem.wth m [(b2, .cells [.str ((gI s.wait (clampI keep s.wait.length)).name), .str (sub ((gI s.wait (clampI keep s.wait.length)).data) 0 (if (((gI s.wait (clampI keep s.wait.length)).data).length : Int) < if 0 > torn then 0 else torn then (((gI s.wait (clampI keep s.wait.length)).data).length : Int) else if 0 > torn then 0 else torn)), .str ((gI s.wait (clampI keep s.wait.length)).to), .int .i64 ((gI s.wait (clampI keep s.wait.length)).kind)]), (d, dObj kb nb s), (kb, mObj kp)])
  refine hK1 _ _ ?_; clear hK1 K1
  show AWP _ _ _ _ [(0, .ptr ⟨d, 0, none⟩), (8, .ptr ⟨b2, 0, none⟩)] (AMem.wth m [(b2, .cells [.str ((gI s.wait (clampI keep s.wait.length)).name), .str (sub (gI s.wait (clampI keep s.wait.length)).data 0 (tornOf s keep torn)), .str ((gI s.wait (clampI keep s.wait.length)).to), .int .i64 ((gI s.wait (clampI keep s.wait.length)).kind)]), (d, dObj kb nb s), (kb, mObj kp)])
  refine awp_reg2_seq [] [0, 8, 74] (by decide) ?_
  intro K1 hK1
  refine ⟨⟨rfl, by decide⟩, ?_⟩
  refine ar_loadp rfl (v := .str (sub (gI s.wait (clampI keep s.wait.length)).data 0 (tornOf s keep torn))) rfl (wth_get 0 hNb2 rfl) rfl (apartOk_one rfl rfl (Nat.le_of_ble_eq_true rfl)) rfl ?_
  refine ⟨trivial, ?_⟩
  show K1 [(0, .ptr ⟨d, 0, none⟩), (8, .ptr ⟨b2, 0, none⟩), (74, .bool (!((sub (gI s.wait (clampI keep s.wait.length)).data 0 (tornOf s keep torn)) == ([]))))] (AMem.wth m [(b2, .cells [.str ((gI s.wait (clampI keep s.wait.length)).name), .str (sub (gI s.wait (clampI keep s.wait.length)).data 0 (tornOf s keep torn)), .str ((gI s.wait (clampI keep s.wait.length)).to), .int .i64 ((gI s.wait (clampI keep s.wait.length)).kind)]), (d, dObj kb nb s), (kb, mObj kp)])
  refine hK1 _ _ ?_; clear hK1 K1
  refine awp_cond rfl rfl (fun h4 => ?_) (fun h4 => ?_)
  ·
   replace h4 : sub (gI s.wait (clampI keep s.wait.length)).data 0 (tornOf s keep torn) ≠ [] := (ne_of_beq_false (bnT h4))
   refine awp_draw_memP Try.mixed [(5, 80)] [(5, 80, .tuple [])] [(AMem.wth m [(b2, .cells [.str ((gI s.wait (clampI keep s.wait.length)).name), .str (sub (gI s.wait (clampI keep s.wait.length)).data 0 (tornOf s keep torn)), .str ((gI s.wait (clampI keep s.wait.length)).to), .int .i64 ((gI s.wait (clampI keep s.wait.length)).kind)]), (d, dObj kb nb s), (kb, mObj kp)]), (AMem.wth m [(b2, .cells [.str ((gI s.wait (clampI keep s.wait.length)).name), .str (sub (gI s.wait (clampI keep s.wait.length)).data 0 (tornOf s keep torn)), .str ((gI s.wait (clampI keep s.wait.length)).to), .int .i64 ((gI s.wait (clampI keep s.wait.length)).kind)]), (d, dObj kb nb s), (kb, mObj (applyC kp (⟨(gI s.wait (clampI keep s.wait.length)).name, sub (gI s.wait (clampI keep s.wait.length)).data 0 (tornOf s keep torn), (gI s.wait (clampI keep s.wait.length)).to, (gI s.wait (clampI keep s.wait.length)).kind⟩ : Chg)))])] [] [0] [(79, .agg [.str ((gI s.wait (clampI keep s.wait.length)).name), .str (sub (gI s.wait (clampI keep s.wait.length)).data 0 (tornOf s keep torn)), .str ((gI s.wait (clampI keep s.wait.length)).to), .int .i64 ((gI s.wait (clampI keep s.wait.length)).kind)]), (78, .map kb), (77, .ptr ⟨d, 0, none⟩), (76, .ptr ⟨d, 0, none⟩), (75, .ptr ⟨d, 0, none⟩), (80, .tuple []), (0, .ptr ⟨d, 0, none⟩), (8, .ptr ⟨b2, 0, none⟩), (74, .bool (!((sub (gI s.wait (clampI keep s.wait.length)).data 0 (tornOf s keep torn)) == ([]))))] (AMem.wth m [(b2, .cells [.str ((gI s.wait (clampI keep s.wait.length)).name), .str (sub (gI s.wait (clampI keep s.wait.length)).data 0 (tornOf s keep torn)), .str ((gI s.wait (clampI keep s.wait.length)).to), .int .i64 ((gI s.wait (clampI keep s.wait.length)).kind)]), (d, dObj kb nb s), (kb, mObj (applyC kp (⟨(gI s.wait (clampI keep s.wait.length)).name, sub (gI s.wait (clampI keep s.wait.length)).data 0 (tornOf s keep torn), (gI s.wait (clampI keep s.wait.length)).to, (gI s.wait (clampI keep s.wait.length)).kind⟩ : Chg)))]) (by decide) (by decide) (by decide) rfl rfl rfl rfl ?_ ?_ ?_
   ·
    refine ⟨?_, trivial⟩
    ·
     exact mem_call (wth_split (m := m) (L := [(b2, .cells [.str ((gI s.wait (clampI keep s.wait.length)).name), .str (sub (gI s.wait (clampI keep s.wait.length)).data 0 (tornOf s keep torn)), .str ((gI s.wait (clampI keep s.wait.length)).to), .int .i64 ((gI s.wait (clampI keep s.wait.length)).kind)]), (d, dObj kb nb s), (kb, mObj kp)]) hNb2 (pick_perm [2] _)) (wth_split (m := m) (L := [(b2, .cells [.str ((gI s.wait (clampI keep s.wait.length)).name), .str (sub (gI s.wait (clampI keep s.wait.length)).data 0 (tornOf s keep torn)), .str ((gI s.wait (clampI keep s.wait.length)).to), .int .i64 ((gI s.wait (clampI keep s.wait.length)).kind)]), (d, dObj kb nb s), (kb, mObj (applyC kp (⟨(gI s.wait (clampI keep s.wait.length)).name, sub (gI s.wait (clampI keep s.wait.length)).data 0 (tornOf s keep torn), (gI s.wait (clampI keep s.wait.length)).to, (gI s.wait (clampI keep s.wait.length)).kind⟩ : Chg)))]) hNb2 (pick_perm [2] _)) (fun Kc hKc => u_apply kb kp (⟨(gI s.wait (clampI keep s.wait.length)).name, sub (gI s.wait (clampI keep s.wait.length)).data 0 (tornOf s keep torn), (gI s.wait (clampI keep s.wait.length)).to, (gI s.wait (clampI keep s.wait.length)).kind⟩ : Chg) (by have := hap.1; omega) (fun p hp => by have := hap.2 p hp; omega) (by first | omega | (dsimp only; omega)) _ Kc hKc)
   ·
    refine ⟨?_, ?_, trivial⟩
    ·
     show pseq _ _ _ _ _ [(80, .tuple []), (0, .ptr ⟨d, 0, none⟩), (8, .ptr ⟨b2, 0, none⟩), (74, .bool (!((sub (gI s.wait (clampI keep s.wait.length)).data 0 (tornOf s keep torn)) == ([]))))] _
     refine ⟨trivial, trivial, ⟨rfl, by decide⟩, ?_⟩
     refine pq_loadp rfl (v := .map kb) rfl (wth_get 1 hNb2 rfl) (apartOk_one rfl rfl (Nat.le_of_ble_eq_true rfl)) rfl ?_
     refine pq_loadp rfl (v := .agg [.str ((gI s.wait (clampI keep s.wait.length)).name), .str (sub (gI s.wait (clampI keep s.wait.length)).data 0 (tornOf s keep torn)), .str ((gI s.wait (clampI keep s.wait.length)).to), .int .i64 ((gI s.wait (clampI keep s.wait.length)).kind)]) rfl (wth_get 0 hNb2 rfl) (apartOk_agg rfl rfl (Nat.le_of_ble_eq_true rfl)) rfl ?_
     exact rfl
    ·
     show pseq _ _ _ _ _ [(80, .tuple []), (0, .ptr ⟨d, 0, none⟩), (8, .ptr ⟨b2, 0, none⟩), (74, .bool (!((sub (gI s.wait (clampI keep s.wait.length)).data 0 (tornOf s keep torn)) == ([]))))] _
     refine ⟨trivial, trivial, ⟨rfl, by decide⟩, ?_⟩
     refine pq_loadp rfl (v := .map kb) rfl (wth_get 1 hNb2 rfl) (apartOk_one rfl rfl (Nat.le_of_ble_eq_true rfl)) rfl ?_
     refine pq_loadp rfl (v := .agg [.str ((gI s.wait (clampI keep s.wait.length)).name), .str (sub (gI s.wait (clampI keep s.wait.length)).data 0 (tornOf s keep torn)), .str ((gI s.wait (clampI keep s.wait.length)).to), .int .i64 ((gI s.wait (clampI keep s.wait.length)).kind)]) rfl (wth_get 0 hNb2 rfl) (apartOk_agg rfl rfl (Nat.le_of_ble_eq_true rfl)) rfl ?_
     exact rfl
   intro K1 hK1
   show K1 [(0, .ptr ⟨d, 0, none⟩)] (AMem.wth m [(b2, .cells [.str ((gI s.wait (clampI keep s.wait.length)).name), .str (sub (gI s.wait (clampI keep s.wait.length)).data 0 (tornOf s keep torn)), .str ((gI s.wait (clampI keep s.wait.length)).to), .int .i64 ((gI s.wait (clampI keep s.wait.length)).kind)]), (d, dObj kb nb s), (kb, mObj (applyC kp (⟨(gI s.wait (clampI keep s.wait.length)).name, sub (gI s.wait (clampI keep s.wait.length)).data 0 (tornOf s keep torn), (gI s.wait (clampI keep s.wait.length)).to, (gI s.wait (clampI keep s.wait.length)).kind⟩ : Chg)))])
   refine hK1 _ _ ?_; clear hK1 K1
   refine hK5 _ _ ?_; clear hK5
   have hNd2 : ([d, kb] : List Nat).Nodup := drop_nodup (L := [(b2, .cells [.str ((gI s.wait (clampI keep s.wait.length)).name), .str (sub (gI s.wait (clampI keep s.wait.length)).data 0 (tornOf s keep torn)), .str ((gI s.wait (clampI keep s.wait.length)).to), .int .i64 ((gI s.wait (clampI keep s.wait.length)).kind)]), (d, dObj kb nb s), (kb, mObj (applyC kp (⟨(gI s.wait (clampI keep s.wait.length)).name, sub (gI s.wait (clampI keep s.wait.length)).data 0 (tornOf s keep torn), (gI s.wait (clampI keep s.wait.length)).to, (gI s.wait (clampI keep s.wait.length)).kind⟩ : Chg)))]) hNb2 (pick_perm [0] _)
   refine awp_dropP [(b2, .cells [.str ((gI s.wait (clampI keep s.wait.length)).name), .str (sub (gI s.wait (clampI keep s.wait.length)).data 0 (tornOf s keep torn)), .str ((gI s.wait (clampI keep s.wait.length)).to), .int .i64 ((gI s.wait (clampI keep s.wait.length)).kind)])] [(d, dObj kb nb s), (kb, mObj (applyC kp (⟨(gI s.wait (clampI keep s.wait.length)).name, sub (gI s.wait (clampI keep s.wait.length)).data 0 (tornOf s keep torn), (gI s.wait (clampI keep s.wait.length)).to, (gI s.wait (clampI keep s.wait.length)).kind⟩ : Chg)))] hNb2 (pick_perm [0] _) (by simp only [List.map_cons, List.map_nil, List.forall_mem_cons]; exact ⟨hFb2, fun _ h => by cases h⟩) ?_
   refine awp_reg2_seq [] [0] (by decide) ?_
   intro K1 hK1
   refine ⟨trivial, trivial, trivial, trivial, ⟨rfl, by decide⟩, ?_⟩
   refine ar_storep rfl 0 (v := .slice true []) (l' := [.map kb, .map nb, .slice true [], .int .i64 s.fuse, .bool s.down, .int .i64 s.steps]) rfl rfl hNd2 rfl rfl rfl rfl rfl (Nat.le_of_ble_eq_true rfl) rfl ?_
   refine ⟨trivial, ⟨rfl, by decide⟩, ?_⟩
   refine ar_storep rfl 0 (v := .bool false) (l' := [.map kb, .map nb, .slice true [], .int .i64 s.fuse, .bool false, .int .i64 s.steps]) rfl rfl hNd2 rfl rfl rfl rfl rfl (Nat.le_of_ble_eq_true rfl) rfl ?_
   refine ⟨trivial, ⟨rfl, by decide⟩, ?_⟩
   refine ar_storep rfl 0 (v := .int .i64 (-1)) (l' := [.map kb, .map nb, .slice true [], .int .i64 (-1), .bool false, .int .i64 s.steps]) rfl rfl hNd2 rfl rfl rfl rfl rfl (Nat.le_of_ble_eq_true rfl) rfl ?_
   show K1 [(0, .ptr ⟨d, 0, none⟩)] (AMem.wth m [(d, .cells [.map kb, .map nb, .slice true [], .int .i64 (-1), .bool false, .int .i64 s.steps]), (kb, mObj (applyC kp (⟨(gI s.wait (clampI keep s.wait.length)).name, sub (gI s.wait (clampI keep s.wait.length)).data 0 (tornOf s keep torn), (gI s.wait (clampI keep s.wait.length)).to, (gI s.wait (clampI keep s.wait.length)).kind⟩ : Chg)))])
   refine hK1 _ _ ?_; clear hK1 K1
   have hr : restR s keep torn = applyC kp (⟨(gI s.wait (clampI keep s.wait.length)).name, sub (gI s.wait (clampI keep s.wait.length)).data 0 (tornOf s keep torn), (gI s.wait (clampI keep s.wait.length)).to, (gI s.wait (clampI keep s.wait.length)).kind⟩ : Chg) := by
    unfold restR restK tornOf; rw [hkp]
    first | (rw [if_pos ⟨by omega, by omega, by assumption⟩]; done) | (rw [if_neg (by rintro ⟨a, b, c⟩; first | omega | exact c ‹_›)]; done)
   rw [← hr]
   have hra := hrl
   show AWP _ _ _ _ [(0, .ptr ⟨d, 0, none⟩)] (AMem.wth m [(d, .cells [.map kb, .map nb, .slice true [], .int .i64 (-1), .bool false, .int .i64 s.steps]), (kb, mObj (restR s keep torn))])
   refine awp_reg2_seq [] [0] (by decide) ?_
   intro K1 hK1
   refine ⟨trivial, ?_⟩
   refine ar_makeMap rfl (m := m) (L := [(d, .cells [.map kb, .map nb, .slice true [], .int .i64 (-1), .bool false, .int .i64 s.steps]), (kb, mObj (restR s keep torn))]) rfl ?_
   intro b3 hb3
   have hFb3 : m b3 = none := wth_none hb3
   have hNb3 : ([b3, d, kb] : List Nat).Nodup := wth_nodup hb3 hNd2
   refine ⟨trivial, ⟨rfl, by decide⟩, ?_⟩
   refine ar_storep rfl 1 (v := .map b3) (l' := [.map kb, .map b3, .slice true [], .int .i64 (-1), .bool false, .int .i64 s.steps]) rfl rfl hNb3 rfl rfl rfl rfl rfl (Nat.le_of_ble_eq_true rfl) rfl ?_
   show K1 [(0, .ptr ⟨d, 0, none⟩)] (AMem.wth m [(b3, mObj ([] : List ((List UInt8) × (List UInt8)))), (d, .cells [.map kb, .map b3, .slice true [], .int .i64 (-1), .bool false, .int .i64 s.steps]), (kb, mObj (restR s keep torn))])
   refine hK1 _ _ ?_; clear hK1 K1
   refine awp_reg2_seq [] [0, 98] (by decide) ?_
   intro K1 hK1
   refine ⟨trivial, trivial, ⟨rfl, by decide⟩, ?_⟩
   refine ar_loadp rfl (v := .map kb) rfl (wth_get 1 hNb3 rfl) rfl (apartOk_one rfl rfl (Nat.le_of_ble_eq_true rfl)) rfl ?_
   refine ar_range rfl (m := m) (L := [(b3, mObj ([] : List ((List UInt8) × (List UInt8)))), (d, .cells [.map kb, .map b3, .slice true [], .int .i64 (-1), .bool false, .int .i64 s.steps]), (kb, mObj (restR s keep torn))]) 2 rfl rfl rfl hNb3 ?_
   intro q1 _
   show K1 [(0, .ptr ⟨d, 0, none⟩), (98, .ptr ⟨q1, 0, none⟩)] (AMem.wth m [(b3, mObj ([] : List ((List UInt8) × (List UInt8)))), (d, .cells [.map kb, .map b3, .slice true [], .int .i64 (-1), .bool false, .int .i64 s.steps]), (kb, AObj.iter q1 (List.map (mapAV strAV strAV) (restR s keep torn)) [])])
   refine hK1 _ _ ?_; clear hK1 K1
   refine awp_block ?_
   refine awp_keep [0, 98] (by decide) ?_
   refine awp_loop_st (σ := (List (Str × Str)) × (List Nat)) (fun ⟨nw, seen⟩ => [(0, .ptr ⟨d, 0, none⟩), (98, .ptr ⟨q1, 0, none⟩)]) (fun ⟨nw, seen⟩ => (AMem.wth m [(b3, mObj nw), (d, .cells [.map kb, .map b3, .slice true [], .int .i64 (-1), .bool false, .int .i64 s.steps]), (kb, AObj.iter q1 (List.map (mapAV strAV strAV) (restR s keep torn)) seen)])) (fun ⟨nw, seen⟩ => seen.Nodup ∧ (∀ i ∈ seen, i < (restR s keep torn).length) ∧ nw = rebuild (restR s keep torn) seen) (fun ⟨nw, seen⟩ => (restR s keep torn).length - seen.length) (([] : List ((List UInt8) × (List UInt8))), []) rfl rfl ?_ ?_
   ·
    show (([] : (List Nat))).Nodup ∧ (∀ i ∈ (([] : (List Nat))), i < (restR s keep torn).length) ∧ ((([] : List ((List UInt8) × (List UInt8))) : (List (Str × Str)))) = rebuild (restR s keep torn) (([] : (List Nat)))
    exact ⟨List.nodup_nil, by simp, rfl⟩
   rintro ⟨nw, seen⟩ hI2
   replace hI2 : seen.Nodup ∧ (∀ i ∈ seen, i < (restR s keep torn).length) ∧ nw = rebuild (restR s keep torn) seen := hI2
   show AWP _ _ _ _ [(0, .ptr ⟨d, 0, none⟩), (98, .ptr ⟨q1, 0, none⟩)] (AMem.wth m [(b3, mObj nw), (d, .cells [.map kb, .map b3, .slice true [], .int .i64 (-1), .bool false, .int .i64 s.steps]), (kb, AObj.iter q1 (List.map (mapAV strAV strAV) (restR s keep torn)) seen)])
   refine awp_reg2_seq [] [0, 98, 100] (by decide) ?_
   intro K1 hK1
   refine ar_nextT rfl (m := m) (L := [(b3, mObj nw), (d, .cells [.map kb, .map b3, .slice true [], .int .i64 (-1), .bool false, .int .i64 s.steps]), (kb, AObj.iter q1 (List.map (mapAV strAV strAV) (restR s keep torn)) seen)]) 2 strAV strAV (restR s keep torn) seen rfl rfl hNb3 ?_ ?_
   ·
    intro hE1
    refine ⟨(Nat.le_of_ble_eq_true rfl), ?_⟩
    show K1 [(0, .ptr ⟨d, 0, none⟩), (98, .ptr ⟨q1, 0, none⟩), (100, .bool false)] (AMem.wth m [(b3, mObj nw), (d, .cells [.map kb, .map b3, .slice true [], .int .i64 (-1), .bool false, .int .i64 s.steps]), (kb, AObj.iter q1 (List.map (mapAV strAV strAV) (restR s keep torn)) seen)])
    refine hK1 _ _ ?_; clear hK1 K1
    refine awp_unrange (m := m) (L := [(b3, mObj nw), (d, .cells [.map kb, .map b3, .slice true [], .int .i64 (-1), .bool false, .int .i64 s.steps]), (kb, AObj.iter q1 (List.map (mapAV strAV strAV) (restR s keep torn)) seen)]) 2 hNb3 rfl ?_
    show AWP _ _ _ _ [(0, .ptr ⟨d, 0, none⟩), (98, .ptr ⟨q1, 0, none⟩), (100, .bool false)] (AMem.wth m [(b3, mObj nw), (d, .cells [.map kb, .map b3, .slice true [], .int .i64 (-1), .bool false, .int .i64 s.steps]), (kb, mObj (restR s keep torn))])
    refine awp_seq_k ?_; intro K6 hK6
    refine awp_cond rfl rfl (fun hcz => ?_) (fun hcz => ?_)
    ·
     cases hcz
    clear hcz
    refine awp_exit ?_
    refine ⟨(AMem.wth m [(b3, mObj nw), (d, .cells [.map kb, .map b3, .slice true [], .int .i64 (-1), .bool false, .int .i64 s.steps]), (kb, mObj (restR s keep torn))]), fun _ _ h => h, ?_⟩
    show K (.tuple []) (AMem.wth m [(b3, mObj nw), (d, .cells [.map kb, .map b3, .slice true [], .int .i64 (-1), .bool false, .int .i64 s.steps]), (kb, mObj (restR s keep torn))])
   
    exact hK b3 hNb3 hFb3 nw (hI2.2.2 ▸ rebuild_perm (restR_nd hk keep torn) hI2.1 hI2.2.1 hE1)
   ·
    rintro k1 ⟨ek1, ev1⟩ hp1 hn1
    refine ⟨(Nat.le_of_ble_eq_true rfl), ?_⟩
    show K1 [(0, .ptr ⟨d, 0, none⟩), (98, .ptr ⟨q1, 0, none⟩), (100, .bool true)] (AMem.wth m [(b3, mObj nw), (d, .cells [.map kb, .map b3, .slice true [], .int .i64 (-1), .bool false, .int .i64 s.steps]), (kb, AObj.iter q1 (List.map (mapAV strAV strAV) (restR s keep torn)) (seen ++ [k1]))])
    refine hK1 _ _ ?_; clear hK1 K1
    refine awp_seq_k ?_; intro K7 hK7
    refine awp_cond rfl rfl (fun hcz => ?_) (fun hcz => ?_)
    rotate_left; · cases hcz
    clear hcz
    refine awp_skip ?_
    refine hK7 _ _ ?_; clear hK7
    refine awp_block ?_
    refine awp_reg2_seq [] [0, 9, 10, 98] (by decide) ?_
    intro K1 hK1
    refine ar_entryT rfl (m := m) (L := [(b3, mObj nw), (d, .cells [.map kb, .map b3, .slice true [], .int .i64 (-1), .bool false, .int .i64 s.steps]), (kb, AObj.iter q1 (List.map (mapAV strAV strAV) (restR s keep torn)) (seen ++ [k1]))]) 2 strAV strAV (restR s keep torn) seen hp1 rfl rfl hNb3 ?_
    refine ⟨(Nat.le_of_ble_eq_true rfl), (Nat.le_of_ble_eq_true rfl), trivial, trivial, ?_⟩
    show K1 [(0, .ptr ⟨d, 0, none⟩), (9, .str ek1), (10, .str ev1), (98, .ptr ⟨q1, 0, none⟩)] (AMem.wth m [(b3, mObj nw), (d, .cells [.map kb, .map b3, .slice true [], .int .i64 (-1), .bool false, .int .i64 s.steps]), (kb, AObj.iter q1 (List.map (mapAV strAV strAV) (restR s keep torn)) (seen ++ [k1]))])
    refine hK1 _ _ ?_; clear hK1 K1
    refine awp_reg2 [] [0, 98] (by decide) ?_
    intro K1 hK1
    refine ⟨trivial, trivial, ⟨rfl, by decide⟩, ?_⟩
    refine ar_loadp rfl (v := .map b3) rfl (wth_get 1 hNb3 rfl) rfl (apartOk_one rfl rfl (Nat.le_of_ble_eq_true rfl)) rfl ?_
    refine ⟨trivial, trivial, ?_⟩
    refine ar_mapUpdate rfl (m := m) (L := [(b3, mObj nw), (d, .cells [.map kb, .map b3, .slice true [], .int .i64 (-1), .bool false, .int .i64 s.steps]), (kb, AObj.iter q1 (List.map (mapAV strAV strAV) (restR s keep torn)) (seen ++ [k1]))]) 0 strAV strAV strKey_ok nw ek1 ev1 rfl rfl rfl rfl rfl rfl hNb3 (by have := rebuild_len (restR s keep torn) seen; have := seen_len hI2.1 hI2.2.1; rw [← hI2.2.2] at *; refine Nat.le_trans (mput_len _ _ _) (by omega)) ?_
    show K1 [(0, .ptr ⟨d, 0, none⟩), (98, .ptr ⟨q1, 0, none⟩)] (AMem.wth m [(b3, mObj (mput nw ek1 ev1)), (d, .cells [.map kb, .map b3, .slice true [], .int .i64 (-1), .bool false, .int .i64 s.steps]), (kb, AObj.iter q1 (List.map (mapAV strAV strAV) (restR s keep torn)) (seen ++ [k1]))])
    refine hK1 _ _ ?_; clear hK1 K1
    refine ⟨(mput nw ek1 ev1, seen ++ [k1]), rfl, rfl, ?_, ?_⟩
    ·
     show ((seen ++ [k1] : (List Nat))).Nodup ∧ (∀ i ∈ ((seen ++ [k1] : (List Nat))), i < (restR s keep torn).length) ∧ ((mput nw ek1 ev1 : (List (Str × Str)))) = rebuild (restR s keep torn) ((seen ++ [k1] : (List Nat)))
     exact rstep hI2.1 hI2.2.1 hI2.2.2 hp1 hn1
    ·
     show (restR s keep torn).length - ((seen ++ [k1] : (List Nat))).length < (restR s keep torn).length - seen.length
     exact rdec hI2.1 hI2.2.1 hp1 hn1
  replace h4 : sub (gI s.wait (clampI keep s.wait.length)).data 0 (tornOf s keep torn) = [] := (eq_of_beq (bnF h4))
  refine awp_skip ?_
  refine hK5 _ _ ?_; clear hK5
  have hNd3 : ([d, kb] : List Nat).Nodup := drop_nodup (L := [(b2, .cells [.str ((gI s.wait (clampI keep s.wait.length)).name), .str (sub (gI s.wait (clampI keep s.wait.length)).data 0 (tornOf s keep torn)), .str ((gI s.wait (clampI keep s.wait.length)).to), .int .i64 ((gI s.wait (clampI keep s.wait.length)).kind)]), (d, dObj kb nb s), (kb, mObj kp)]) hNb2 (pick_perm [0] _)
  refine awp_dropP [(b2, .cells [.str ((gI s.wait (clampI keep s.wait.length)).name), .str (sub (gI s.wait (clampI keep s.wait.length)).data 0 (tornOf s keep torn)), .str ((gI s.wait (clampI keep s.wait.length)).to), .int .i64 ((gI s.wait (clampI keep s.wait.length)).kind)])] [(d, dObj kb nb s), (kb, mObj kp)] hNb2 (pick_perm [0] _) (by simp only [List.map_cons, List.map_nil, List.forall_mem_cons]; exact ⟨hFb2, fun _ h => by cases h⟩) ?_
  refine awp_reg2_seq [] [0] (by decide) ?_
  intro K1 hK1
  refine ⟨trivial, trivial, trivial, trivial, ⟨rfl, by decide⟩, ?_⟩
  refine ar_storep rfl 0 (v := .slice true []) (l' := [.map kb, .map nb, .slice true [], .int .i64 s.fuse, .bool s.down, .int .i64 s.steps]) rfl rfl hNd3 rfl rfl rfl rfl rfl (Nat.le_of_ble_eq_true rfl) rfl ?_
  refine ⟨trivial, ⟨rfl, by decide⟩, ?_⟩
  refine ar_storep rfl 0 (v := .bool false) (l' := [.map kb, .map nb, .slice true [], .int .i64 s.fuse, .bool false, .int .i64 s.steps]) rfl rfl hNd3 rfl rfl rfl rfl rfl (Nat.le_of_ble_eq_true rfl) rfl ?_
  refine ⟨trivial, ⟨rfl, by decide⟩, ?_⟩
  refine ar_storep rfl 0 (v := .int .i64 (-1)) (l' := [.map kb, .map nb, .slice true [], .int .i64 (-1), .bool false, .int .i64 s.steps]) rfl rfl hNd3 rfl rfl rfl rfl rfl (Nat.le_of_ble_eq_true rfl) rfl ?_
  show K1 [(0, .ptr ⟨d, 0, none⟩)] (AMem.wth m [(d, .cells [.map kb, .map nb, .slice true [], .int .i64 (-1), .bool false, .int .i64 s.steps]), (kb, mObj kp)])
  refine hK1 _ _ ?_; clear hK1 K1
  have hr : restR s keep torn = kp := by
   unfold restR restK tornOf; rw [hkp]
   first | (rw [if_pos ⟨by omega, by omega, by assumption⟩]; done) | (rw [if_neg (by rintro ⟨a, b, c⟩; first | omega | exact c ‹_›)]; done)
  rw [← hr]
  have hra := hrl
  show AWP _ _ _ _ [(0, .ptr ⟨d, 0, none⟩)] (AMem.wth m [(d, .cells [.map kb, .map nb, .slice true [], .int .i64 (-1), .bool false, .int .i64 s.steps]), (kb, mObj (restR s keep torn))])
  refine awp_reg2_seq [] [0] (by decide) ?_
  intro K1 hK1
  refine ⟨trivial, ?_⟩
  refine ar_makeMap rfl (m := m) (L := [(d, .cells [.map kb, .map nb, .slice true [], .int .i64 (-1), .bool false, .int .i64 s.steps]), (kb, mObj (restR s keep torn))]) rfl ?_
  intro b4 hb4
  have hFb4 : m b4 = none := wth_none hb4
  have hNb4 : ([b4, d, kb] : List Nat).Nodup := wth_nodup hb4 hNd3
  refine ⟨trivial, ⟨rfl, by decide⟩, ?_⟩
  refine ar_storep rfl 1 (v := .map b4) (l' := [.map kb, .map b4, .slice true [], .int .i64 (-1), .bool false, .int .i64 s.steps]) rfl rfl hNb4 rfl rfl rfl rfl rfl (Nat.le_of_ble_eq_true rfl) rfl ?_
  show K1 [(0, .ptr ⟨d, 0, none⟩)] (AMem.wth m [(b4, mObj ([] : List ((List UInt8) × (List UInt8)))), (d, .cells [.map kb, .map b4, .slice true [], .int .i64 (-1), .bool false, .int .i64 s.steps]), (kb, mObj (restR s keep torn))])
  refine hK1 _ _ ?_; clear hK1 K1
  refine awp_reg2_seq [] [0, 98] (by decide) ?_
  intro K1 hK1
  refine ⟨trivial, trivial, ⟨rfl, by decide⟩, ?_⟩
  refine ar_loadp rfl (v := .map kb) rfl (wth_get 1 hNb4 rfl) rfl (apartOk_one rfl rfl (Nat.le_of_ble_eq_true rfl)) rfl ?_
  refine ar_range rfl (m := m) (L := [(b4, mObj ([] : List ((List UInt8) × (List UInt8)))), (d, .cells [.map kb, .map b4, .slice true [], .int .i64 (-1), .bool false, .int .i64 s.steps]), (kb, mObj (restR s keep torn))]) 2 rfl rfl rfl hNb4 ?_
  intro q2 _
  show K1 [(0, .ptr ⟨d, 0, none⟩), (98, .ptr ⟨q2, 0, none⟩)] (AMem.wth m [(b4, mObj ([] : List ((List UInt8) × (List UInt8)))), (d, .cells [.map kb, .map b4, .slice true [], .int .i64 (-1), .bool false, .int .i64 s.steps]), (kb, AObj.iter q2 (List.map (mapAV strAV strAV) (restR s keep torn)) [])])
  refine hK1 _ _ ?_; clear hK1 K1
  refine awp_block ?_
  refine awp_keep [0, 98] (by decide) ?_
  refine awp_loop_st (σ := (List (Str × Str)) × (List Nat)) (fun ⟨nw, seen⟩ => [(0, .ptr ⟨d, 0, none⟩), (98, .ptr ⟨q2, 0, none⟩)]) (fun ⟨nw, seen⟩ => (AMem.wth m [(b4, mObj nw), (d, .cells [.map kb, .map b4, .slice true [], .int .i64 (-1), .bool false, .int .i64 s.steps]), (kb, AObj.iter q2 (List.map (mapAV strAV strAV) (restR s keep torn)) seen)])) (fun ⟨nw, seen⟩ => seen.Nodup ∧ (∀ i ∈ seen, i < (restR s keep torn).length) ∧ nw = rebuild (restR s keep torn) seen) (fun ⟨nw, seen⟩ => (restR s keep torn).length - seen.length) (([] : List ((List UInt8) × (List UInt8))), []) rfl rfl ?_ ?_
  ·
   show (([] : (List Nat))).Nodup ∧ (∀ i ∈ (([] : (List Nat))), i < (restR s keep torn).length) ∧ ((([] : List ((List UInt8) × (List UInt8))) : (List (Str × Str)))) = rebuild (restR s keep torn) (([] : (List Nat)))
   exact ⟨List.nodup_nil, by simp, rfl⟩
  rintro ⟨nw, seen⟩ hI2
  replace hI2 : seen.Nodup ∧ (∀ i ∈ seen, i < (restR s keep torn).length) ∧ nw = rebuild (restR s keep torn) seen := hI2
  show AWP _ _ _ _ [(0, .ptr ⟨d, 0, none⟩), (98, .ptr ⟨q2, 0, none⟩)] (AMem.wth m [(b4, mObj nw), (d, .cells [.map kb, .map b4, .slice true [], .int .i64 (-1), .bool false, .int .i64 s.steps]), (kb, AObj.iter q2 (List.map (mapAV strAV strAV) (restR s keep torn)) seen)])
  refine awp_reg2_seq [] [0, 98, 100] (by decide) ?_
  intro K1 hK1
  refine ar_nextT rfl (m := m) (L := [(b4, mObj nw), (d, .cells [.map kb, .map b4, .slice true [], .int .i64 (-1), .bool false, .int .i64 s.steps]), (kb, AObj.iter q2 (List.map (mapAV strAV strAV) (restR s keep torn)) seen)]) 2 strAV strAV (restR s keep torn) seen rfl rfl hNb4 ?_ ?_
  ·
   intro hE2
   refine ⟨(Nat.le_of_ble_eq_true rfl), ?_⟩
   show K1 [(0, .ptr ⟨d, 0, none⟩), (98, .ptr ⟨q2, 0, none⟩), (100, .bool false)] (AMem.wth m [(b4, mObj nw), (d, .cells [.map kb, .map b4, .slice true [], .int .i64 (-1), .bool false, .int .i64 s.steps]), (kb, AObj.iter q2 (List.map (mapAV strAV strAV) (restR s keep torn)) seen)])
   refine hK1 _ _ ?_; clear hK1 K1
   refine awp_unrange (m := m) (L := [(b4, mObj nw), (d, .cells [.map kb, .map b4, .slice true [], .int .i64 (-1), .bool false, .int .i64 s.steps]), (kb, AObj.iter q2 (List.map (mapAV strAV strAV) (restR s keep torn)) seen)]) 2 hNb4 rfl ?_
   show AWP _ _ _ _ [(0, .ptr ⟨d, 0, none⟩), (98, .ptr ⟨q2, 0, none⟩), (100, .bool false)] (AMem.wth m [(b4, mObj nw), (d, .cells [.map kb, .map b4, .slice true [], .int .i64 (-1), .bool false, .int .i64 s.steps]), (kb, mObj (restR s keep torn))])
   refine awp_seq_k ?_; intro K8 hK8
   refine awp_cond rfl rfl (fun hcz => ?_) (fun hcz => ?_)
   ·
    cases hcz
   clear hcz
   refine awp_exit ?_
   refine ⟨(AMem.wth m [(b4, mObj nw), (d, .cells [.map kb, .map b4, .slice true [], .int .i64 (-1), .bool false, .int .i64 s.steps]), (kb, mObj (restR s keep torn))]), fun _ _ h => h, ?_⟩
   show K (.tuple []) (AMem.wth m [(b4, mObj nw), (d, .cells [.map kb, .map b4, .slice true [], .int .i64 (-1), .bool false, .int .i64 s.steps]), (kb, mObj (restR s keep torn))])
  
   exact hK b4 hNb4 hFb4 nw (hI2.2.2 ▸ rebuild_perm (restR_nd hk keep torn) hI2.1 hI2.2.1 hE2)
  ·
   rintro k2 ⟨ek2, ev2⟩ hp2 hn2
   refine ⟨(Nat.le_of_ble_eq_true rfl), ?_⟩
   show K1 [(0, .ptr ⟨d, 0, none⟩), (98, .ptr ⟨q2, 0, none⟩), (100, .bool true)] (AMem.wth m [(b4, mObj nw), (d, .cells [.map kb, .map b4, .slice true [], .int .i64 (-1), .bool false, .int .i64 s.steps]), (kb, AObj.iter q2 (List.map (mapAV strAV strAV) (restR s keep torn)) (seen ++ [k2]))])
   refine hK1 _ _ ?_; clear hK1 K1
   refine awp_seq_k ?_; intro K9 hK9
   refine awp_cond rfl rfl (fun hcz => ?_) (fun hcz => ?_)
   rotate_left; · cases hcz
   clear hcz
   refine awp_skip ?_
   refine hK9 _ _ ?_; clear hK9
   refine awp_block ?_
   refine awp_reg2_seq [] [0, 9, 10, 98] (by decide) ?_
   intro K1 hK1
   refine ar_entryT rfl (m := m) (L := [(b4, mObj nw), (d, .cells [.map kb, .map b4, .slice true [], .int .i64 (-1), .bool false, .int .i64 s.steps]), (kb, AObj.iter q2 (List.map (mapAV strAV strAV) (restR s keep torn)) (seen ++ [k2]))]) 2 strAV strAV (restR s keep torn) seen hp2 rfl rfl hNb4 ?_
   refine ⟨(Nat.le_of_ble_eq_true rfl), (Nat.le_of_ble_eq_true rfl), trivial, trivial, ?_⟩
   show K1 [(0, .ptr ⟨d, 0, none⟩), (9, .str ek2), (10, .str ev2), (98, .ptr ⟨q2, 0, none⟩)] (AMem.wth m [(b4, mObj nw), (d, .cells [.map kb, .map b4, .slice true [], .int .i64 (-1), .bool false, .int .i64 s.steps]), (kb, AObj.iter q2 (List.map (mapAV strAV strAV) (restR s keep torn)) (seen ++ [k2]))])
   refine hK1 _ _ ?_; clear hK1 K1
   refine awp_reg2 [] [0, 98] (by decide) ?_
   intro K1 hK1
   refine ⟨trivial, trivial, ⟨rfl, by decide⟩, ?_⟩
   refine ar_loadp rfl (v := .map b4) rfl (wth_get 1 hNb4 rfl) rfl (apartOk_one rfl rfl (Nat.le_of_ble_eq_true rfl)) rfl ?_
   refine ⟨trivial, trivial, ?_⟩
   refine ar_mapUpdate rfl (m := m) (L := [(b4, mObj nw), (d, .cells [.map kb, .map b4, .slice true [], .int .i64 (-1), .bool false, .int .i64 s.steps]), (kb, AObj.iter q2 (List.map (mapAV strAV strAV) (restR s keep torn)) (seen ++ [k2]))]) 0 strAV strAV strKey_ok nw ek2 ev2 rfl rfl rfl rfl rfl rfl hNb4 (by have := rebuild_len (restR s keep torn) seen; have := seen_len hI2.1 hI2.2.1; rw [← hI2.2.2] at *; refine Nat.le_trans (mput_len _ _ _) (by omega)) ?_
   show K1 [(0, .ptr ⟨d, 0, none⟩), (98, .ptr ⟨q2, 0, none⟩)] (AMem.wth m [(b4, mObj (mput nw ek2 ev2)), (d, .cells [.map kb, .map b4, .slice true [], .int .i64 (-1), .bool false, .int .i64 s.steps]), (kb, AObj.iter q2 (List.map (mapAV strAV strAV) (restR s keep torn)) (seen ++ [k2]))])
   refine hK1 _ _ ?_; clear hK1 K1
   refine ⟨(mput nw ek2 ev2, seen ++ [k2]), rfl, rfl, ?_, ?_⟩
   ·
    show ((seen ++ [k2] : (List Nat))).Nodup ∧ (∀ i ∈ ((seen ++ [k2] : (List Nat))), i < (restR s keep torn).length) ∧ ((mput nw ek2 ev2 : (List (Str × Str)))) = rebuild (restR s keep torn) ((seen ++ [k2] : (List Nat)))
    exact rstep hI2.1 hI2.2.1 hI2.2.2 hp2 hn2
   ·
    show (restR s keep torn).length - ((seen ++ [k2] : (List Nat))).length < (restR s keep torn).length - seen.length
    exact rdec hI2.1 hI2.2.1 hp2 hn2
 replace h3 : ((s.wait.length : Int) ≤ clampI keep s.wait.length) ∨ (3 < (gI s.wait (clampI keep s.wait.length)).kind) := ((bandF h3).imp (fun q => (Int.not_lt.1 (of_decide_eq_false q))) (fun q => (Int.not_le.1 (of_decide_eq_false q))))
 refine awp_skip ?_
 refine hK5 _ _ ?_; clear hK5
 refine awp_reg2_seq [] [0] (by decide) ?_
 intro K1 hK1
 refine ⟨trivial, trivial, trivial, trivial, ⟨rfl, by decide⟩, ?_⟩
 refine ar_storep rfl 0 (v := .slice true []) (l' := [.map kb, .map nb, .slice true [], .int .i64 s.fuse, .bool s.down, .int .i64 s.steps]) rfl rfl hN rfl rfl rfl rfl rfl (Nat.le_of_ble_eq_true rfl) rfl ?_
 refine ⟨trivial, ⟨rfl, by decide⟩, ?_⟩
 refine ar_storep rfl 0 (v := .bool false) (l' := [.map kb, .map nb, .slice true [], .int .i64 s.fuse, .bool false, .int .i64 s.steps]) rfl rfl hN rfl rfl rfl rfl rfl (Nat.le_of_ble_eq_true rfl) rfl ?_
 refine ⟨trivial, ⟨rfl, by decide⟩, ?_⟩
 refine ar_storep rfl 0 (v := .int .i64 (-1)) (l' := [.map kb, .map nb, .slice true [], .int .i64 (-1), .bool false, .int .i64 s.steps]) rfl rfl hN rfl rfl rfl rfl rfl (Nat.le_of_ble_eq_true rfl) rfl ?_
 show K1 [(0, .ptr ⟨d, 0, none⟩)] (AMem.wth m [(d, .cells [.map kb, .map nb, .slice true [], .int .i64 (-1), .bool false, .int .i64 s.steps]), (kb, mObj kp)])
 refine hK1 _ _ ?_; clear hK1 K1
 have hr : restR s keep torn = kp := by
  unfold restR restK tornOf; rw [hkp]
  first | (rw [if_pos ⟨by omega, by omega, by assumption⟩]; done) | (rw [if_neg (by rintro ⟨a, b, c⟩; first | omega | exact c ‹_›)]; done)
 rw [← hr]
 have hra := hrl
 show AWP _ _ _ _ [(0, .ptr ⟨d, 0, none⟩)] (AMem.wth m [(d, .cells [.map kb, .map nb, .slice true [], .int .i64 (-1), .bool false, .int .i64 s.steps]), (kb, mObj (restR s keep torn))])
 refine awp_reg2_seq [] [0] (by decide) ?_
 intro K1 hK1
 refine ⟨trivial, ?_⟩
 refine ar_makeMap rfl (m := m) (L := [(d, .cells [.map kb, .map nb, .slice true [], .int .i64 (-1), .bool false, .int .i64 s.steps]), (kb, mObj (restR s keep torn))]) rfl ?_
 intro b5 hb5
 have hFb5 : m b5 = none := wth_none hb5
 have hNb5 : ([b5, d, kb] : List Nat).Nodup := wth_nodup hb5 hN
 refine ⟨trivial, ⟨rfl, by decide⟩, ?_⟩
 refine ar_storep rfl 1 (v := .map b5) (l' := [.map kb, .map b5, .slice true [], .int .i64 (-1), .bool false, .int .i64 s.steps]) rfl rfl hNb5 rfl rfl rfl rfl rfl (Nat.le_of_ble_eq_true rfl) rfl ?_
 show K1 [(0, .ptr ⟨d, 0, none⟩)] (AMem.wth m [(b5, mObj ([] : List ((List UInt8) × (List UInt8)))), (d, .cells [.map kb, .map b5, .slice true [], .int .i64 (-1), .bool false, .int .i64 s.steps]), (kb, mObj (restR s keep torn))])
 refine hK1 _ _ ?_; clear hK1 K1
 refine awp_reg2_seq [] [0, 98] (by decide) ?_
 intro K1 hK1
 refine ⟨trivial, trivial, ⟨rfl, by decide⟩, ?_⟩
 refine ar_loadp rfl (v := .map kb) rfl (wth_get 1 hNb5 rfl) rfl (apartOk_one rfl rfl (Nat.le_of_ble_eq_true rfl)) rfl ?_
 refine ar_range rfl (m := m) (L := [(b5, mObj ([] : List ((List UInt8) × (List UInt8)))), (d, .cells [.map kb, .map b5, .slice true [], .int .i64 (-1), .bool false, .int .i64 s.steps]), (kb, mObj (restR s keep torn))]) 2 rfl rfl rfl hNb5 ?_
 intro q3 _
 show K1 [(0, .ptr ⟨d, 0, none⟩), (98, .ptr ⟨q3, 0, none⟩)] (AMem.wth m [(b5, mObj ([] : List ((List UInt8) × (List UInt8)))), (d, .cells [.map kb, .map b5, .slice true [], .int .i64 (-1), .bool false, .int .i64 s.steps]), (kb, AObj.iter q3 (List.map (mapAV strAV strAV) (restR s keep torn)) [])])
 refine hK1 _ _ ?_; clear hK1 K1
 refine awp_block ?_
 refine awp_keep [0, 98] (by decide) ?_
 refine awp_loop_st (σ := (List (Str × Str)) × (List Nat)) (fun ⟨nw, seen⟩ => [(0, .ptr ⟨d, 0, none⟩), (98, .ptr ⟨q3, 0, none⟩)]) (fun ⟨nw, seen⟩ => (AMem.wth m [(b5, mObj nw), (d, .cells [.map kb, .map b5, .slice true [], .int .i64 (-1), .bool false, .int .i64 s.steps]), (kb, AObj.iter q3 (List.map (mapAV strAV strAV) (restR s keep torn)) seen)])) (fun ⟨nw, seen⟩ => seen.Nodup ∧ (∀ i ∈ seen, i < (restR s keep torn).length) ∧ nw = rebuild (restR s keep torn) seen) (fun ⟨nw, seen⟩ => (restR s keep torn).length - seen.length) (([] : List ((List UInt8) × (List UInt8))), []) rfl rfl ?_ ?_
 ·
  show (([] : (List Nat))).Nodup ∧ (∀ i ∈ (([] : (List Nat))), i < (restR s keep torn).length) ∧ ((([] : List ((List UInt8) × (List UInt8))) : (List (Str × Str)))) = rebuild (restR s keep torn) (([] : (List Nat)))
  exact ⟨List.nodup_nil, by simp, rfl⟩
 rintro ⟨nw, seen⟩ hI2
 replace hI2 : seen.Nodup ∧ (∀ i ∈ seen, i < (restR s keep torn).length) ∧ nw = rebuild (restR s keep torn) seen := hI2
 show AWP _ _ _ _ [(0, .ptr ⟨d, 0, none⟩), (98, .ptr ⟨q3, 0, none⟩)] (AMem.wth m [(b5, mObj nw), (d, .cells [.map kb, .map b5, .slice true [], .int .i64 (-1), .bool false, .int .i64 s.steps]), (kb, AObj.iter q3 (List.map (mapAV strAV strAV) (restR s keep torn)) seen)])
 refine awp_reg2_seq [] [0, 98, 100] (by decide) ?_
 intro K1 hK1
 refine ar_nextT rfl (m := m) (L := [(b5, mObj nw), (d, .cells [.map kb, .map b5, .slice true [], .int .i64 (-1), .bool false, .int .i64 s.steps]), (kb, AObj.iter q3 (List.map (mapAV strAV strAV) (restR s keep torn)) seen)]) 2 strAV strAV (restR s keep torn) seen rfl rfl hNb5 ?_ ?_
 ·
  intro hE3
  refine ⟨(Nat.le_of_ble_eq_true rfl), ?_⟩
  show K1 [(0, .ptr ⟨d, 0, none⟩), (98, .ptr ⟨q3, 0, none⟩), (100, .bool false)] (AMem.wth m [(b5, mObj nw), (d, .cells [.map kb, .map b5, .slice true [], .int .i64 (-1), .bool false, .int .i64 s.steps]), (kb, AObj.iter q3 (List.map (mapAV strAV strAV) (restR s keep torn)) seen)])
  refine hK1 _ _ ?_; clear hK1 K1
  refine awp_unrange (m := m) (L := [(b5, mObj nw), (d, .cells [.map kb, .map b5, .slice true [], .int .i64 (-1), .bool false, .int .i64 s.steps]), (kb, AObj.iter q3 (List.map (mapAV strAV strAV) (restR s keep torn)) seen)]) 2 hNb5 rfl ?_
  show AWP _ _ _ _ [(0, .ptr ⟨d, 0, none⟩), (98, .ptr ⟨q3, 0, none⟩), (100, .bool false)] (AMem.wth m [(b5, mObj nw), (d, .cells [.map kb, .map b5, .slice true [], .int .i64 (-1), .bool false, .int .i64 s.steps]), (kb, mObj (restR s keep torn))])
  refine awp_seq_k ?_; intro K10 hK10
  refine awp_cond rfl rfl (fun hcz => ?_) (fun hcz => ?_)
  ·
   cases hcz
  clear hcz
  refine awp_exit ?_
  refine ⟨(AMem.wth m [(b5, mObj nw), (d, .cells [.map kb, .map b5, .slice true [], .int .i64 (-1), .bool false, .int .i64 s.steps]), (kb, mObj (restR s keep torn))]), fun _ _ h => h, ?_⟩
  show K (.tuple []) (AMem.wth m [(b5, mObj nw), (d, .cells [.map kb, .map b5, .slice true [], .int .i64 (-1), .bool false, .int .i64 s.steps]), (kb, mObj (restR s keep torn))])
 
  exact hK b5 hNb5 hFb5 nw (hI2.2.2 ▸ rebuild_perm (restR_nd hk keep torn) hI2.1 hI2.2.1 hE3)
 ·
  rintro k3 ⟨ek3, ev3⟩ hp3 hn3
  refine ⟨(Nat.le_of_ble_eq_true rfl), ?_⟩
  show K1 [(0, .ptr ⟨d, 0, none⟩), (98, .ptr ⟨q3, 0, none⟩), (100, .bool true)] (AMem.wth m [(b5, mObj nw), (d, .cells [.map kb, .map b5, .slice true [], .int .i64 (-1), .bool false, .int .i64 s.steps]), (kb, AObj.iter q3 (List.map (mapAV strAV strAV) (restR s keep torn)) (seen ++ [k3]))])
  refine hK1 _ _ ?_; clear hK1 K1
  refine awp_seq_k ?_; intro K11 hK11
  refine awp_cond rfl rfl (fun hcz => ?_) (fun hcz => ?_)
  rotate_left; · cases hcz
  clear hcz
  refine awp_skip ?_
  refine hK11 _ _ ?_; clear hK11
  refine awp_block ?_
  refine awp_reg2_seq [] [0, 9, 10, 98] (by decide) ?_
  intro K1 hK1
  refine ar_entryT rfl (m := m) (L := [(b5, mObj nw), (d, .cells [.map kb, .map b5, .slice true [], .int .i64 (-1), .bool false, .int .i64 s.steps]), (kb, AObj.iter q3 (List.map (mapAV strAV strAV) (restR s keep torn)) (seen ++ [k3]))]) 2 strAV strAV (restR s keep torn) seen hp3 rfl rfl hNb5 ?_
  refine ⟨(Nat.le_of_ble_eq_true rfl), (Nat.le_of_ble_eq_true rfl), trivial, trivial, ?_⟩
  show K1 [(0, .ptr ⟨d, 0, none⟩), (9, .str ek3), (10, .str ev3), (98, .ptr ⟨q3, 0, none⟩)] (AMem.wth m [(b5, mObj nw), (d, .cells [.map kb, .map b5, .slice true [], .int .i64 (-1), .bool false, .int .i64 s.steps]), (kb, AObj.iter q3 (List.map (mapAV strAV strAV) (restR s keep torn)) (seen ++ [k3]))])
  refine hK1 _ _ ?_; clear hK1 K1
  refine awp_reg2 [] [0, 98] (by decide) ?_
  intro K1 hK1
  refine ⟨trivial, trivial, ⟨rfl, by decide⟩, ?_⟩
  refine ar_loadp rfl (v := .map b5) rfl (wth_get 1 hNb5 rfl) rfl (apartOk_one rfl rfl (Nat.le_of_ble_eq_true rfl)) rfl ?_
  refine ⟨trivial, trivial, ?_⟩
  refine ar_mapUpdate rfl (m := m) (L := [(b5, mObj nw), (d, .cells [.map kb, .map b5, .slice true [], .int .i64 (-1), .bool false, .int .i64 s.steps]), (kb, AObj.iter q3 (List.map (mapAV strAV strAV) (restR s keep torn)) (seen ++ [k3]))]) 0 strAV strAV strKey_ok nw ek3 ev3 rfl rfl rfl rfl rfl rfl hNb5 (by have := rebuild_len (restR s keep torn) seen; have := seen_len hI2.1 hI2.2.1; rw [← hI2.2.2] at *; refine Nat.le_trans (mput_len _ _ _) (by omega)) ?_
  show K1 [(0, .ptr ⟨d, 0, none⟩), (98, .ptr ⟨q3, 0, none⟩)] (AMem.wth m [(b5, mObj (mput nw ek3 ev3)), (d, .cells [.map kb, .map b5, .slice true [], .int .i64 (-1), .bool false, .int .i64 s.steps]), (kb, AObj.iter q3 (List.map (mapAV strAV strAV) (restR s keep torn)) (seen ++ [k3]))])
  refine hK1 _ _ ?_; clear hK1 K1
  refine ⟨(mput nw ek3 ev3, seen ++ [k3]), rfl, rfl, ?_, ?_⟩
  ·
   show ((seen ++ [k3] : (List Nat))).Nodup ∧ (∀ i ∈ ((seen ++ [k3] : (List Nat))), i < (restR s keep torn).length) ∧ ((mput nw ek3 ev3 : (List (Str × Str)))) = rebuild (restR s keep torn) ((seen ++ [k3] : (List Nat)))
   exact rstep hI2.1 hI2.2.1 hI2.2.2 hp3 hn3
  ·
   show (restR s keep torn).length - ((seen ++ [k3] : (List Nat))).length < (restR s keep torn).length - seen.length
   exact rdec hI2.1 hI2.2.1 hp3 hn3

end Go.Proofs
end
section
namespace Go.Proofs
open Go Go.Aw
set_option maxRecDepth 100000


/-- Strings, rising. -/
theorem sortL_of_perm {l l' : List Str} (h : l.Perm l') : sortL l = sortL l' := by
  have to : ∀ a b : Str, (decide (a ≤ b) || decide (b ≤ a)) = true := fun a b => by
    rcases List.le_total a b with h | h <;> simp [h]
  have tr : ∀ a b c : Str, decide (a ≤ b) = true → decide (b ≤ c) = true → decide (a ≤ c) = true := fun a b c h1 h2 => by
    simp only [decide_eq_true_eq] at *; exact List.le_trans h1 h2
  refine List.Perm.eq_of_pairwise (le := fun a b => decide (a ≤ b) = true) (fun a b _ _ h1 h2 => ?_) (List.pairwise_mergeSort tr to l) (List.pairwise_mergeSort tr to l') (((List.mergeSort_perm l _).trans h).trans (List.mergeSort_perm l' _).symm)
  simp only [decide_eq_true_eq] at h1 h2
  exact List.le_antisymm h1 h2
def listR (s : DSt) : List Str × Int := if s.down = true then ([], 10) else (sortL (s.now.map Prod.fst), 0)
theorem u_Down (d kb nb : Nat) (s : DSt)  (m : AMem)  (K : AV → AMem → Prop) (hK : K (.bool s.down) (AMem.wth m [(d, dObj kb nb s)])) : ACalls Try.prog 42 [.ptr ⟨d, 0, none⟩] (AMem.wth m [(d, dObj kb nb s)]) K := by
 refine acalls_enter Try.func42 rfl (by decide) (Nat.le_of_ble_eq_true rfl) ?_
 show AWP _ _ _ _ [(0, .ptr ⟨d, 0, none⟩)] (AMem.wth m [(d, dObj kb nb s)])
 refine awp_reg2_seq [] [0] (by decide) ?_
 intro K1 hK1
 refine ⟨trivial, ?_⟩
 show K1 [(0, .ptr ⟨d, 0, none⟩)] (AMem.wth m [(d, dObj kb nb s)])
 refine hK1 _ _ ?_; clear hK1 K1
 refine awp_reg2_seq [] [2] (by decide) ?_
 intro K1 hK1
 refine ⟨trivial, trivial, ⟨rfl, by decide⟩, ?_⟩
 refine ar_loadp rfl (v := .bool s.down) rfl (wth_get 0 (nodup_1 d) rfl) rfl (apartOk_one rfl rfl (Nat.le_of_ble_eq_true rfl)) rfl ?_
 refine ⟨trivial, ?_⟩
 show K1 [(2, .bool s.down)] (AMem.wth m [(d, dObj kb nb s)])
 refine hK1 _ _ ?_; clear hK1 K1
 refine awp_ret ?_
 refine ⟨trivial, (AMem.wth m [(d, dObj kb nb s)]), fun _ _ h => h, ?_⟩
 show K (.bool s.down) (AMem.wth m [(d, dObj kb nb s)])

 exact hK

end Go.Proofs
end
section
namespace Go.Proofs
open Go Go.Aw
set_option maxRecDepth 100000


def makeR (s : DSt) (n x : Str) : DSt × Int := if mayR s n x.length ≠ 0 then (s, mayR s n x.length) else if (mget s.now n).isSome = true then (s, 6) else doF s ⟨n, x, [], 3⟩
def moveR (s : DSt) (n t : Str) : DSt × Int :=
  if nameF n = false ∨ nameF t = false then (s, 3) else if (mget s.now n).isSome = false then (s, 7) else if n = t then stepF s else doF s ⟨n, [], t, 4⟩
def remR (s : DSt) (n : Str) : DSt × Int := if (mget s.now n).isSome = false then (s, 7) else doF s ⟨n, [], [], 5⟩

end Go.Proofs
end
