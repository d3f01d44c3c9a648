import Derived.Test.YtoeghipbkmaccaaProg
import Derived.Test.YtoeghipbkmaccaaMix
import Derived.Test.YtoeghipbkmaccaaWxe
import Derived.Test.YtoeghipbkmaccaaWl6
namespace Go.Proofs
open Go Go.Aw
set_option maxRecDepth 100000


/-- A disk that does not fall. -/
def Okd (s : DSt) : Prop := s.down = false ∧ s.fuse = -1
theorem stepF_ok {s : DSt} (h : Okd s) : (stepF s).2 = 0 ∧ Okd (stepF s).1 := by
  unfold stepF
  rw [if_neg (by simp [h.1]), if_neg (by rw [h.2]; decide)]
  refine ⟨rfl, h.1, ?_⟩
  show (if 0 < s.fuse then s.fuse - 1 else s.fuse) = -1
  rw [h.2]; rfl
theorem doF_ok {s : DSt} {c : Chg} (h : Okd s) : (doF s c).2 = 0 ∧ Okd (doF s c).1 ∧ (doF s c).1.now = applyC s.now c := by
  have k := stepF_ok h
  unfold doF
  rw [if_neg (by rw [k.1]; simp)]
  exact ⟨rfl, k.2, rfl⟩
theorem syncF_ok {s : DSt} (h : Okd s) : (syncF s).2 = 0 ∧ Okd (syncF s).1 ∧ (syncF s).1.now = s.now := by
  have k := stepF_ok h
  have e := syncF_now s
  unfold syncF at e ⊢
  rw [if_neg (by rw [k.1]; simp)] at e ⊢
  exact ⟨rfl, k.2, e⟩
theorem mget_mput (l : List (Str × Str)) (k v : Str) : mget (mput l k v) k = some v := by
  induction l with
  | nil => simp [mput, mget]
  | cons p r ih =>
    obtain ⟨a, b⟩ := p
    simp only [mput]
    split
    · simp [mget]
    · rename_i h; simp [mget, h, ih]
theorem mayR_ok {s : DSt} {n : Str} {z : Int} (hn : nameF n = true) (hz : z ≤ 4000) (hr : (mget s.now n).isSome = true ∨ (s.now.length : Int) < 40) : mayR s n z = 0 := by
  unfold mayR
  rw [if_neg (by simp [hn]), if_neg (by omega), if_neg]
  rintro ⟨a, b⟩
  rcases hr with hr | hr
  · rw [a] at hr; cases hr
  · omega
theorem writeR_ok {s : DSt} {n x : Str} (h : Okd s) (hn : nameF n = true) (hz : (x.length : Int) ≤ 4000) (hr : (mget s.now n).isSome = true ∨ (s.now.length : Int) < 40) : (writeR s n x).2 = 0 ∧ Okd (writeR s n x).1 ∧ mget (writeR s n x).1.now n = some x := by
  unfold writeR
  rw [if_neg (by rw [mayR_ok hn hz hr]; simp)]
  have k := doF_ok (c := ⟨n, x, [], 1⟩) h
  refine ⟨k.1, k.2.1, ?_⟩
  rw [k.2.2, applyC, if_pos (.inl rfl)]
  exact mget_mput _ _ _
theorem appR_ok {s : DSt} {n x a : Str} (h : Okd s) (hn : nameF n = true) (ha : mget s.now n = some a) (hz : (a.length : Int) + x.length ≤ 4000) : (appR s n x).2 = 0 ∧ Okd (appR s n x).1 ∧ mget (appR s n x).1.now n = some (a ++ x) := by
  unfold appR
  rw [if_neg (by omega), if_neg (by rw [mayR_ok hn (by rw [ha]; exact hz) (.inl (by rw [ha]; rfl))]; simp)]
  have k := doF_ok (c := ⟨n, x, [], 2⟩) h
  refine ⟨k.1, k.2.1, ?_⟩
  rw [k.2.2, applyC, if_neg (by simp), if_pos rfl]
  rw [mget_mput, ha]; rfl
theorem readR_ok {s : DSt} {n a : Str} (h : Okd s) (ha : mget s.now n = some a) : readR s n = (a, 0) := by
  unfold readR
  rw [if_neg (by simp [h.1]), if_neg (by simp [ha]), ha]; rfl
def allF (l : List Str) : Str := l.flatMap framedL
theorem allF_snoc (l : List Str) (t : Str) : allF (l ++ [t]) = allF l ++ framedL t := by simp [allF]
theorem sub_take {s : Str} {a b : Int} (h0 : 0 ≤ a) (h1 : a ≤ b) : s.take b.toNat = s.take a.toNat ++ sub s a b := by
  unfold sub
  obtain ⟨k, hk⟩ : ∃ k : Nat, b = a + k := ⟨(b - a).toNat, by omega⟩
  subst hk
  have e1 : (a + (k : Int) - a).toNat = k := by omega
  have e2 : (a + (k : Int)).toNat = a.toNat + k := by omega
  rw [e1, e2, List.take_add]
theorem splitF_all (s : Str) : ∀ (n : Nat) (a : Int) (l : List Str), 0 ≤ a → a ≤ s.length → s.take a.toNat = allF l → (∀ r ∈ l, r.length ≤ 400) → s.take (splitF n s a l).2.toNat = allF (splitF n s a l).1 ∧ ∀ r ∈ (splitF n s a l).1, r.length ≤ 400
  | 0, a, l, _, _, h, h2 => ⟨h, h2⟩
  | n + 1, a, l, h0, h1, h, h2 => by
    rw [splitF]
    split
    · exact ⟨h, h2⟩
    · split
      · exact ⟨h, h2⟩
      · rename_i h3 h4
        split
        · exact ⟨h, h2⟩
        · rename_i h5
          have hl : lenAt s a = ((gI s a).toNat : Int) + 256 * ((gI s (a + 1)).toNat : Int) := rfl
          refine splitF_all s n _ _ (by omega) (by omega) ?_ (fun r hr => ?_)
          · rw [allF_snoc, sub_take (a := a) h0 (by omega), h, Classical.not_not.1 h5]
          · rcases List.mem_append.1 hr with hr | hr
            · exact h2 r hr
            · simp at hr; subst hr
              have := sub_len s (a + 6) (a + 6 + lenAt s a) (by omega) (by omega) (by omega)
              omega
theorem splitR_all (s : Str) : sub s 0 (splitR s).2 = allF (splitR s).1 ∧ ∀ r ∈ (splitR s).1, r.length ≤ 400 := by
  have := splitF_all s (s.length + 1) 0 [] (by omega) (by omega) (by simp [allF]) (by simp)
  refine ⟨?_, this.2⟩
  show sub s 0 (splitF (s.length + 1) s 0 []).2 = allF (splitF (s.length + 1) s 0 []).1
  rw [← this.1]
  unfold sub
  simp
theorem gI_app_left {s t : Str} {i : Int} (h0 : 0 ≤ i) (hi : i < s.length) : gI (s ++ t) i = gI s i := by
  simp only [gI, List.getD_eq_getElem?_getD]
  rw [List.getElem?_append_left (by omega)]
theorem gI_drop {s : Str} {a k : Int} (h0 : 0 ≤ a) (hk : 0 ≤ k) : gI (s.drop a.toNat) k = gI s (a + k) := by
  simp only [gI, List.getD_eq_getElem?_getD, List.getElem?_drop]
  congr 2; omega
theorem splitF_back {s : Str} : ∀ (l : List Str) (n : Nat) (a : Int) (out : List Str), 0 ≤ a → a ≤ s.length → s.drop a.toNat = allF l → (∀ r ∈ l, r.length ≤ 400) → s.length - a < n → splitF n s a out = (out ++ l, (s.length : Int))
  | [], n, a, out, h0, h1, hd, _, hn => by
    have : (s.length : Int) = a := by
      have := congrArg List.length hd
      simp [allF] at this; omega
    cases n with
    | zero => omega
    | succ n => rw [splitF, if_pos (by omega)]; simp; omega
  | t :: l, n, a, out, h0, h1, hd, hl, hn => by
    have ht := hl t (by simp)
    have hd' : s.drop a.toNat = framedL t ++ allF l := by rw [hd]; simp [allF]
    have hfl := framedL_len t
    have hlen : (s.length : Int) = a + (t.length + 6) + (allF l).length := by
      have := congrArg List.length hd'
      rw [List.length_drop, List.length_append, hfl] at this; omega
    have hL : lenAt s a = t.length := by
      have e0 : gI s a = u8n t.length := by
        have := gI_drop (s := s) (a := a) (k := 0) h0 (by omega)
        rw [Int.add_zero] at this
        rw [← this, hd']; rfl
      have e1 : gI s (a + 1) = u8n (t.length / 256) := by
        have := gI_drop (s := s) (a := a) (k := 1) h0 (by omega)
        rw [← this, hd']; rfl
      unfold lenAt
      rw [e0, e1]
      simp [u8n]
      omega
    have hs1 : sub s a (a + 6 + t.length) = framedL t := by
      unfold sub
      rw [hd', show (a + 6 + (t.length : Int) - a).toNat = (framedL t).length by omega]
      simp
    have hs2 : sub s (a + 6) (a + 6 + t.length) = t := by
      unfold sub
      have e : (a + 6).toNat = a.toNat + 6 := by omega
      rw [e, ← List.drop_drop, hd', show (a + 6 + (t.length : Int) - (a + 6)).toNat = t.length by omega]
      simp [framedL]
    obtain ⟨n, rfl⟩ : ∃ k, n = k + 1 := ⟨n - 1, by omega⟩
    rw [splitF, if_neg (by omega), hL, if_neg (by omega), hs1, hs2, if_neg (by simp)]
    rw [splitF_back l n (a + 6 + t.length) (out ++ [t]) (by omega) (by omega) ?_ (fun r hr => hl r (by simp [hr])) (by omega)]
    · simp
    · have e : (a + 6 + (t.length : Int)).toNat = a.toNat + (framedL t).length := by omega
      rw [e, ← List.drop_drop, hd']; simp
theorem splitR_back {l : List Str} (h : ∀ r ∈ l, r.length ≤ 400) : splitR (allF l) = (l, ((allF l).length : Int)) := by
  have := splitF_back (s := allF l) l ((allF l).length + 1) 0 [] (by omega) (by omega) (by simp) h (by omega)
  simpa [splitR] using this
/-- What a log in a disk that does not fall has. -/
structure LogI (s : DSt) (n : Str) (l : List Str) (z : Int) : Prop where
  ok : Okd s
  txt : mget s.now n = some (allF l)
  siz : z = (allF l).length
  sml : z ≤ 4000
  rcs : ∀ r ∈ l, r.length ≤ 400
theorem LogI.len {s : DSt} {n : Str} {l : List Str} {z : Int} (h : LogI s n l z) : l.length ≤ 4000 := by
  have h1 := h.siz
  have h2 := h.sml
  have : ∀ l : List Str, l.length ≤ (allF l).length := fun l => by
    induction l with
    | nil => simp
    | cons t l ih =>
      have e : allF (t :: l) = framedL t ++ allF l := by simp [allF]
      rw [e, List.length_append, framedL_len, List.length_cons]; omega
  have := this l
  omega
theorem openR_ok {s : DSt} {n a : Str} (h : Okd s) (hn : nameF n = true) (ha : mget s.now n = some a) (hz : a.length ≤ 4000) : (openR s n).2.1 = 0 ∧ LogI (openR s n).1 n (openR s n).2.2.1 (openR s n).2.2.2 ∧ (openR s n).2.2 = splitR a := by
  have hr := readR_ok h ha
  have hs := splitR_all a
  have he := splitR_end a
  unfold openR
  rw [if_neg (by simp [hn]), hr, if_neg (by simp), if_neg (by simp)]
  show (openB s n a).2.1 = 0 ∧ LogI (openB s n a).1 n (openB s n a).2.2.1 (openB s n a).2.2.2 ∧ (openB s n a).2.2 = splitR a
  unfold openB
  split
  · have hsl := sub_len a 0 (splitR a).2 (by omega) he.1 he.2
    have kw := writeR_ok (x := sub a 0 (splitR a).2) h hn (by omega) (.inl (by rw [ha]; rfl))
    have ks := syncF_ok kw.2.1
    rw [if_neg (by rw [kw.1]; simp), if_neg (by rw [ks.1]; simp)]
    refine ⟨rfl, ⟨ks.2.1, ?_, ?_, ?_, hs.2⟩, rfl⟩
    · show mget (syncF _).1.now n = _
      rw [ks.2.2, kw.2.2, hs.1]
    · show (splitR a).2 = _
      rw [← hs.1]; omega
    · show (splitR a).2 ≤ _
      omega
  · rename_i h1
    have e : (splitR a).2 = a.length := by omega
    have e2 : allF (splitR a).1 = a := by
      rw [← hs.1, e]; unfold sub; simp
    refine ⟨rfl, ⟨h, by rw [e2]; exact ha, by rw [e2]; exact e, ?_, hs.2⟩, rfl⟩
    show (splitR a).2 ≤ 4000
    omega
theorem openR_again {s : DSt} {n : Str} {l : List Str} {z : Int} (h : LogI s n l z) (hn : nameF n = true) : (openR s n).2.1 = 0 ∧ LogI (openR s n).1 n l z ∧ (openR s n).2.2 = (l, z) := by
  have hb := splitR_back h.rcs
  have := openR_ok h.ok hn h.txt (by have := h.siz; have := h.sml; omega)
  rw [hb] at this
  have e : (openR s n).2.2 = (l, z) := by rw [this.2.2, h.siz]
  refine ⟨this.1, ?_, e⟩
  have k := this.2.1
  rw [e] at k
  exact k
theorem addR_ok {s : DSt} {n t : Str} {l : List Str} {z : Int} (h : LogI s n l z) (hn : nameF n = true) : (addR s n l z t).2.1 = (if 400 < (t.length : Int) ∨ 4000 < z + t.length + 6 then 2 else 0) ∧ LogI (addR s n l z t).1 n (addR s n l z t).2.2.1 (addR s n l z t).2.2.2 ∧ (addR s n l z t).2.2 = if 400 < (t.length : Int) ∨ 4000 < z + t.length + 6 then (l, z) else (l ++ [t], z + (t.length + 6)) := by
  unfold addR
  by_cases h1 : 400 < (t.length : Int) ∨ 4000 < z + t.length + 6
  · rw [if_pos h1, if_pos h1, if_pos h1]
    exact ⟨rfl, h, rfl⟩
  · rw [if_neg h1, if_neg h1, if_neg h1]
    have hfl := framedL_len t
    have hsz := h.siz
    have ka := appR_ok (x := framedL t) h.ok hn h.txt (by omega)
    have ks := syncF_ok ka.2.1
    rw [if_neg (by rw [ka.1]; simp), if_neg (by rw [ks.1]; simp)]
    refine ⟨rfl, ⟨ks.2.1, ?_, ?_, ?_, fun r hr => ?_⟩, rfl⟩
    · show mget (syncF _).1.now n = _
      rw [ks.2.2, ka.2.2, allF_snoc]
    · show z + (t.length + 6) = _
      rw [allF_snoc, List.length_append]; omega
    · show z + (t.length + 6) ≤ 4000
      omega
    · rcases List.mem_append.1 hr with hr | hr
      · exact h.rcs r hr
      · simp at hr; subst hr; omega
theorem clearR_ok {s : DSt} {n : Str} {l : List Str} {z : Int} (h : LogI s n l z) (hn : nameF n = true) : (clearR s n l z).2.1 = 0 ∧ LogI (clearR s n l z).1 n [] 0 ∧ (clearR s n l z).2.2 = ([], 0) := by
  unfold clearR
  have kw := writeR_ok (x := []) h.ok hn (by simp) (.inl (by rw [h.txt]; rfl))
  have ks := syncF_ok kw.2.1
  rw [if_neg (by rw [kw.1]; simp), if_neg (by rw [ks.1]; simp)]
  exact ⟨rfl, ⟨ks.2.1, by show mget (syncF _).1.now n = _; rw [ks.2.2, kw.2.2]; rfl, rfl, by simp, by simp⟩, rfl⟩
theorem DInv.start : DInv 0 ⟨[], [], [], -1, false, 0⟩ := ⟨by simp, by simp, by simp, by simp, by simp, by simp, by simp, by simp, by simp⟩
theorem openR_inv {N : Nat} {s : DSt} {n : Str} (h : DInv N s) : DInv (N + 2) (openR s n).1 := by
  have hb : ∀ t, DInv (N + 2) (openB s n t).1 := fun t => by
    unfold openB
    split
    · split
      · exact (writeR_inv h).mono (by omega)
      · split
        · exact (writeR_inv h).sync
        · exact (writeR_inv h).sync
    · exact h.mono (by omega)
  unfold openR
  split
  · exact h.mono (by omega)
  · split
    · exact hb _
    · split
      · exact h.mono (by omega)
      · exact hb _
theorem addR_inv {N : Nat} {s : DSt} {n t : Str} {l : List Str} {z : Int} (h : DInv N s) : DInv (N + 2) (addR s n l z t).1 := by
  unfold addR
  split
  · exact h.mono (by omega)
  · split
    · exact (appR_inv h).mono (by omega)
    · split
      · exact (appR_inv h).sync
      · exact (appR_inv h).sync
theorem clearR_inv {N : Nat} {s : DSt} {n : Str} {l : List Str} {z : Int} (h : DInv N s) : DInv (N + 2) (clearR s n l z).1 := by
  unfold clearR
  split
  · exact (writeR_inv h).mono (by omega)
  · split
    · exact (writeR_inv h).sync
    · exact (writeR_inv h).sync

end Go.Proofs
