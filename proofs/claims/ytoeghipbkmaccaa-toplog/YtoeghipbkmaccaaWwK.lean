/-
  The abstract layer, part 11: append; a slice's literal; a struct's literal.
-/
import Derived.Test.YtoeghipbkmaccaaWwJ
namespace Go.Aw
open Go

section
variable {P : Program} {F : Nat → Prop} {lim : Nat → Nat} {w : World} {n : Nat} {fr : Fr} {m : AMem} {ca : Act} {fl : List Nat}

theorem one_cell_of {v : Value} {x : AV} {os : List Nat} {k : Nat} (hx : (x.cells.all AV.one) = true) (hk : k < x.cells.length) (h : Rep w lim v (x.cells.getD k .junk) os) : v.oneCell' = true := by
  refine rep_one h ?_
  rw [List.all_eq_true] at hx
  exact hx _ (by simp [List.getD_eq_getElem?_getD, hk])

theorem getD_append_lt {l l' : List AV} {i : Nat} (h : i < l.length) : (l ++ l').getD i .junk = l.getD i .junk := by
  simp [List.getD_eq_getElem?_getD, List.getElem?_append_left h]

theorem getD_append_ge {l l' : List AV} {i : Nat} (h : l.length ≤ i) : (l ++ l').getD i .junk = l'.getD (i - l.length) .junk := by
  simp [List.getD_eq_getElem?_getD, List.getElem?_append_right h]

theorem mul_lt_of (i j k s : Nat) (hi : i < k) (hj : j < s) : i * s + j < k * s := by
  have : i * s + s ≤ k * s := by rw [← Nat.succ_mul]; exact Nat.mul_le_mul_right _ hi
  omega

theorem grown_list {a b : Nat} {sz : Nat} {A B C : List Value} {fa fb : Nat → Nat → Value} (hA : A.length = a * sz) (hB : B.length = b * sz) (hfa : ∀ i j, i < a → j < sz → A[i * sz + j]? = some (fa i j)) (hfb : ∀ i j, i < b → j < sz → B[i * sz + j]? = some (fb i j)) :
    ∀ i j, i < a + b → j < sz → (A ++ B ++ C)[i * sz + j]? = some (if i < a then fa i j else fb (i - a) j) := by
  intro i j hi hj
  by_cases h : i < a
  · rw [if_pos h, List.append_assoc, List.getElem?_append_left (by rw [hA]; exact mul_lt_of _ _ _ _ h hj)]
    exact hfa i j h hj
  · have hge : a * sz ≤ i * sz := Nat.mul_le_mul_right _ (by omega)
    have hsub : i * sz + j - a * sz = (i - a) * sz + j := by rw [Nat.sub_mul]; omega
    have hlt : (i - a) * sz + j < b * sz := mul_lt_of _ _ _ _ (by omega) hj
    rw [if_neg h, List.getElem?_append_left (by simp [hA, hB]; omega), List.getElem?_append_right (by omega), hA, hsub]
    exact hfb (i - a) j (by omega) hj

set_option maxHeartbeats 1000000 in
theorem append_sound (st : St F lim w n fr m ca fl) {t e ty : TypeId} (ht : P.underlying t = some (.slice e)) (hz : zOk P e = true) (hpos : 0 < P.cellsOf e) {vb vy : Value} {l l' : List AV} (hb : Rep w lim vb (.slice true l) fl) (hy : Rep w lim vy (.slice false l') [])
    (hbytes : (l.length + l'.length) * P.bytesOf e ≤ 140737488355328) (hbig : l.length + l'.length ≤ 140737488355328) (hl : ∀ x ∈ l, x.cells.length = P.cellsOf e) (hl' : ∀ x ∈ l', x.cells.length = P.cellsOf e ∧ x.cells.all AV.one = true) :
    ∃ v' w' lim' os', (Builtin.append_ #[t, t] ty #[vb, vy]).run P w = .ok v' w' ∧ St F lim' w' n fr m ca os' ∧ Rep w' lim' v' (.slice true (l ++ l')) os' ∧ Pres F w lim w' lim' := by
  obtain ⟨i, z, hi, hiz, hck, hzA, hzc⟩ := info_of_zOk hz
  obtain ⟨hcs, hbs⟩ := cellsOf_info hi
  have hmx : ∀ k : Nat, k ≤ 140737488355328 → k ≤ maxLen := fun k hk => by simp only [maxLen]; omega
  have hgl : ∀ (l : List AV) i, i < l.length → l.getD i .junk ∈ l := fun l i hi => by simp [List.getD_eq_getElem?_getD, hi]
  -- nothing comes
  by_cases hnil : l' = []
  · subst hnil
    have hvy : ∃ a c, vy = .slice a 0 c := by
      obtain ⟨a, c, rfl, _⟩ := rep_slice_len hy
      exact ⟨a, c, rfl⟩
    obtain ⟨a, c, rfl⟩ := hvy
    refine ⟨vb, w, lim, fl, ?_, st, by simpa using hb, .refl _ _ _⟩
    cases hb with
    | nils own => exact run_append_zero t e ty i ht hi none 0 0 (Nat.le_refl _) a c
    | own b cnt cap sz l cv cur e' h1 h2 h3 h4 h5 h6 h7 h8 h9 h10 h11 => exact run_append_zero t e ty i ht hi _ cnt cap h2 a c
  have hpos' : 0 < l'.length := List.length_pos_iff.2 hnil
  rcases rep_slice_cases hy with ⟨rfl, _⟩ | ⟨rfl, _⟩ | ⟨yb, yoff, ycap, ysz, ycv, rfl, hycap, hym, hybig, hysz, hylim, hyc, hyr⟩
  · exact (hnil rfl).elim
  · exact (hnil rfl).elim
  have hys : ysz = i.size := by rw [← hysz 0 hpos', (hl' _ (hgl l' 0 hpos')).1, hcs]
  subst hys
  rw [hcs] at hpos
  have hnews := flatVals_cells (w := w) hpos hyc
  have hnl : (flatVals ycv l'.length i.size).length = l'.length * i.size := by simp [flatVals]
  have hget' : ∀ a b, a < l'.length → b < i.size → (flatVals ycv l'.length i.size)[a * i.size + b]? = some (ycv a b) := fun a b ha hb => flatVals_get ha hb
  have hone : ∀ u ∈ flatVals ycv l'.length i.size, u.oneCell' = true := fun u hu => by
    obtain ⟨k, hk, rfl⟩ := List.mem_map.1 hu
    have hk' : k < l'.length * i.size := by simpa using hk
    have hia : k / i.size < l'.length := Nat.div_lt_of_lt_mul (by rw [Nat.mul_comm]; exact hk')
    have hja := Nat.mod_lt k hpos
    exact one_cell_of (hl' _ (hgl l' _ hia)).2 (by rw [hysz _ hia]; exact hja) (hyr _ _ hia hja)
  rw [hbs] at hbytes
  -- the new block of a slice that was moved
  have moved : ∀ (olds : List Value) (k cap' : Nat) (fa : Nat → Nat → Value), olds.length = k * i.size → k = l.length → l.length + l'.length ≤ cap' → cap' ≤ maxLen →
      (∀ a b, a < k → b < i.size → olds[a * i.size + b]? = some (fa a b)) → (∀ a b, a < k → b < i.size → Rep w lim (fa a b) ((l.getD a .junk).cells.getD b .junk) []) →
      (olds.toArray ++ (flatVals ycv l'.length i.size).toArray ++ Builtin.zeroCells z.cells (cap' - (l.length + l'.length))).size = cap' * i.size →
      ∃ lim' os', St F lim' (w.drew.alloc (.cells (olds.toArray ++ (flatVals ycv l'.length i.size).toArray ++ Builtin.zeroCells z.cells (cap' - (l.length + l'.length))) e)) n fr m ca os' ∧
        Rep (w.drew.alloc (.cells (olds.toArray ++ (flatVals ycv l'.length i.size).toArray ++ Builtin.zeroCells z.cells (cap' - (l.length + l'.length))) e)) lim' (.slice (some ⟨w.heap.size, 0, none⟩) (l.length + l'.length) cap') (.slice true (l ++ l')) os' ∧
        Pres F w lim (w.drew.alloc (.cells (olds.toArray ++ (flatVals ycv l'.length i.size).toArray ++ Builtin.zeroCells z.cells (cap' - (l.length + l'.length))) e)) lim' := by
    intro olds k cap' fa ho hk hcap hm hfa hra hsize
    subst hk
    have hP := Pres.allocUp (w' := w.drew) st rfl rfl rfl rfl (.cells (olds.toArray ++ (flatVals ycv l'.length i.size).toArray ++ Builtin.zeroCells z.cells (cap' - (l.length + l'.length))) e) ((l.length + l'.length) * i.size)
    refine ⟨_, _, st.allocFly (w' := w.drew) rfl _ ((l.length + l'.length) * i.size), ?_, hP⟩
    have hG := grown_list (C := (Builtin.zeroCells z.cells (cap' - (l.length + l'.length))).toList) ho hnl hfa hget'
    refine rep_own_new (sz := i.size) (cv := fun a b => if a < l.length then fa a b else ycv (a - l.length) b) (by simp) hcap hm hbig (.inl (by omega)) (heapNew w.drew _) hsize (fun a ha => ?_) (by rw [limUp_same]) (fun a b ha hb => ?_) (fun a b ha hb => ?_)
    · by_cases h : a < l.length
      · rw [getD_append_lt h, hl _ (hgl l a h), hcs]
      · rw [getD_append_ge (by omega), hysz _ (by omega)]
    · rw [← Array.getElem?_toList]
      simp only [Array.toList_append]
      exact hG a b ha hb
    · by_cases h : a < l.length
      · simp only [if_pos h]
        rw [getD_append_lt h]
        exact (hra a b h hb).stable hP.mono hP.cell (by simp)
      · simp only [if_neg h]
        rw [getD_append_ge (by omega)]
        exact (hyr _ b (by omega) hb).stable hP.mono hP.cell (by simp)
  have hzsz : ∀ cap', l.length + l'.length ≤ cap' → ∀ olds : List Value, olds.length = l.length * i.size → (olds.toArray ++ (flatVals ycv l'.length i.size).toArray ++ Builtin.zeroCells z.cells (cap' - (l.length + l'.length))).size = cap' * i.size := fun cap' hc olds ho => by
    simp only [Array.size_append, List.size_toArray, size_zeroCells, hzc, ho, hnl, ← Nat.add_mul]
    congr 1; omega
  have hh63 : ((l.length + l'.length : Nat) : Int) ≤ 9223372036854775807 := by omega
  cases hb with
  | nils own =>
    simp only [List.length_nil, Nat.zero_add] at *
    have hrun := run_append_nil (P := P) w t ty e i z ht hi hiz ⟨yb, yoff, none⟩ l'.length ycap _ hnl hnews hpos' hh63 (by omega)
    have hcap := grownCap_ge w l'.length 0 e
    have hcapm := grownCap_le_maxLen w l'.length 0 e (hmx _ hbig)
    obtain ⟨lim', os', h1, h2, h3⟩ := moved [] 0 (grownCap w l'.length 0 e) (fun _ _ => undef) (by simp) rfl hcap hcapm (fun a b ha => absurd ha (Nat.not_lt_zero _)) (fun a b ha => absurd ha (Nat.not_lt_zero _)) (hzsz _ hcap [] (by simp))
    simp only [List.nil_append] at h1 h2 h3
    exact ⟨_, _, lim', os', hrun, by simpa using h1, by simpa using h2, by simpa using h3⟩
  | own b cnt cap sz l cv cur e' h1 h2 h3 h4 h5 h6 h7 h8 h9 h10 h11 =>
    subst h1
    have hszE : l.length = 0 ∨ sz = i.size := by
      rcases Nat.eq_zero_or_pos l.length with h | h
      · exact .inl h
      · exact .inr (by rw [← h8 0 h, hl _ (hgl l 0 h), hcs])
    have hc' : ∀ a b', a < l.length → b' < i.size → w.cell? ⟨b, a * i.size + b', none⟩ = some (cv a b') := fun a b' ha hb => by
      rcases hszE with h | h
      · omega
      · subst h; exact h10 a b' ha hb
    have hr' : ∀ a b', a < l.length → b' < i.size → Rep w lim (cv a b') ((l.getD a .junk).cells.getD b' .junk) [] := fun a b' ha hb => by
      rcases hszE with h | h
      · omega
      · subst h; exact h11 a b' ha hb
    by_cases hroom : l.length + l'.length ≤ cap
    · have hsz : sz = i.size := by
        rcases hszE with h | h
        · rcases h5 with h5 | h5 <;> omega
        · exact h
      subst hsz
      have hfit : l.length * i.size + (flatVals ycv l'.length i.size).length ≤ cur.size := by
        rw [hnl, h7, ← Nat.add_mul]; exact Nat.mul_le_mul_right _ hroom
      have hrun := run_append_room' (P := P) (w := w) t e ty i ht hi b l.length cap cur e' h6 ⟨yb, yoff, none⟩ l'.length ycap _ hnl hnews hone hroom hfit
      generalize hA : (cur.toList.take (l.length * i.size) ++ flatVals ycv l'.length i.size ++ cur.toList.drop (l.length * i.size + (flatVals ycv l'.length i.size).length)).toArray = A at hrun
      have hself : (w.setRow b A).heap[b]? = some (.cells A e' (0, 0)) := setRow_heap w b cur A e' (0, 0) h6
      have hcur : ∀ k, k < l.length * i.size → A[k]? = cur[k]? := fun k hk => by
        rw [← hA]
        have hle : l.length * i.size ≤ cur.size := by omega
        rw [List.getElem?_toArray, List.append_assoc, List.getElem?_append_left (by simp; omega), List.getElem?_take, if_pos hk, Array.getElem?_toList]
      obtain ⟨s1, s2⟩ := st.growFly (w' := w.setRow b A) (by simp) (fun c hc => setRow_other w b c A hc) ((l.length + l'.length) * i.size) (by rw [← h9, Nat.add_mul]; omega) (fun o ho => by
        rw [← h9] at ho
        simp [World.cell?, hself, h6, hcur o ho]) rfl rfl rfl
      refine ⟨_, _, _, [b], hrun, s1, ?_, s2⟩
      refine rep_own_new (sz := i.size) (cv := fun a b => if a < l.length then cv a b else ycv (a - l.length) b) (by simp) hroom h3 hbig (.inl (by omega)) hself (by rw [← hA]; simp; omega) (fun a ha => ?_) (by rw [limUp_same]) (fun a b' ha hb => ?_) (fun a b' ha hb => ?_)
      · by_cases h : a < l.length
        · rw [getD_append_lt h]; exact h8 a h
        · rw [getD_append_ge (by omega), hysz _ (by omega)]
      · rw [← hA, List.getElem?_toArray]
        refine grown_list (by simp; omega) hnl (fun a b' ha hb => ?_) hget' a b' ha hb
        have := hc' a b' ha hb
        simp only [World.cell?, h6] at this
        rw [List.getElem?_take, if_pos (mul_lt_of _ _ _ _ ha hb), Array.getElem?_toList]
        exact this
      · by_cases h : a < l.length
        · simp only [if_pos h]
          rw [getD_append_lt h]
          exact (hr' a b' h hb).stable s2.mono s2.cell (by simp)
        · simp only [if_neg h]
          rw [getD_append_ge (by omega)]
          exact (hyr _ b' (by omega) hb).stable s2.mono s2.cell (by simp)
    · have holds := flatVals_cells (w := w) (cv := cv) (n := l.length) (sz := i.size) (b := b) (off := 0) hpos (fun a b' ha hb => by rw [Nat.zero_add]; exact hc' a b' ha hb)
      have hol : (flatVals cv l.length i.size).length = l.length * i.size := by simp [flatVals]
      have hfits := growslice_fits (need := l.length + l'.length) (old := cap) (bytes := i.bytes) (by omega) hbytes
      have hrun := run_append_grow (P := P) w t ty e i z ht hi hiz ⟨b, 0, none⟩ l.length cap _ hol holds ⟨yb, yoff, none⟩ l'.length ycap _ hnl hnews (by omega) hh63 hfits
      have hcap := grownCap_ge w (l.length + l'.length) cap e
      have hcapm := grownCap_le_maxLen w (l.length + l'.length) cap e (hmx _ hbig)
      obtain ⟨lim', os', s1, s2, s3⟩ := moved (flatVals cv l.length i.size) l.length (grownCap w (l.length + l'.length) cap e) cv hol rfl hcap hcapm (fun a b' ha hb => flatVals_get ha hb) hr' (hzsz _ hcap _ hol)
      exact ⟨_, _, lim', os', hrun, s1, s2, s3⟩

end
end Go.Aw
