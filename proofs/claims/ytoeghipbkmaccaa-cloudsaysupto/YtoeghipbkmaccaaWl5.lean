/-
  The abstract layer, part 45: a slice of structs is sorted by its first cells; then it is read as a list.
-/
import Derived.Test.YtoeghipbkmaccaaWxr
import Derived.Shelf.SlSortCmp.WholeK
import Derived.Test.YtoeghipbkmaccaaWxc
import Derived.Test.YtoeghipbkmaccaaProg
section
namespace Go.Aw
open Go Go.Sort
open Go.Proofs (sortWorldK ltOf)

/-- The cells of a struct whose first one is a number that is not too great. -/
def rawOk (s : Nat) (vs : List Value) : Prop := vs.length = s + 1 ∧ (∀ v ∈ vs, v.oneCell' = true) ∧ ∃ z : Int, vs.head? = some (.int .i64 z) ∧ 0 ≤ z ∧ z ≤ 1000000000
abbrev RawK (s : Nat) := { vs : List Value // rawOk s vs }
def rawKey {s : Nat} (x : RawK s) : Int := match x.1 with | .int _ z :: _ => z | _ => 0
instance (s : Nat) : Inhabited (RawK s) := ⟨⟨.int .i64 0 :: List.replicate s (.int .i64 0), by simp, by simp [Value.oneCell'], 0, rfl, by omega, by omega⟩⟩
theorem swoRaw (s : Nat) : SWO (ltOf fun x y : RawK s => rawKey x - rawKey y) where
  irrefl x := by simp [ltOf]
  trans x y z h1 h2 := by simp [ltOf] at *; omega
  ntrans x y z h1 h2 := by simp [ltOf] at *; omega

theorem perm_lift {α β : Type} {g : α → β} {R R' : List β} (h : R.Perm R') : ∀ l : List α, l.map g = R → ∃ l', l.Perm l' ∧ l'.map g = R' := by
  induction h with
  | nil => exact fun l hl => ⟨l, .refl _, hl⟩
  | cons x _ ih =>
    intro l hl
    cases l with
    | nil => simp at hl
    | cons a l =>
      simp at hl
      obtain ⟨l', h1, h2⟩ := ih l hl.2
      exact ⟨a :: l', h1.cons a, by simp [h2, hl.1]⟩
  | swap x y r =>
    intro l hl
    match l, hl with
    | a :: b :: l, hl =>
      simp at hl
      exact ⟨b :: a :: l, .swap _ _ _, by simp [hl]⟩
  | trans _ _ ih1 ih2 =>
    intro l hl
    obtain ⟨l1, h1, h2⟩ := ih1 l hl
    obtain ⟨l2, h3, h4⟩ := ih2 l1 h2
    exact ⟨l2, h1.trans h3, h4⟩

section
variable {P : Program} {F : Nat → Prop} {lim : Nat → Nat} {w w' : World} {n : Nat} {fr : Fr} {m : AMem} {ca : Act} {fl : List Nat}

/-- A run of cells, others laid ahead. -/
theorem St.putVals (st : St F lim w n fr m ca []) {b : Nat} {L xs : List AV} {vs : List Value} (hm : m b = some (.cells L)) (hs : xs.length ≤ L.length) (hv : vs.length = xs.length) (hr : ∀ i, i < xs.length → Rep w lim (vs.getD i undef) (xs.getD i .junk) []) (k : Nat) (os : Array Obj) :
    St F lim (grow (putRow id (Go.Sort.ahead w k) b 0 vs.toArray) os) n fr (m.upd b (some (.cells (xs ++ L.drop xs.length)))) ca [] ∧ Pres F w lim (grow (putRow id (Go.Sort.ahead w k) b 0 vs.toArray) os) lim := by
  have hex : ∃ cs e, w.heap[b]? = some (.cells cs e (0, 0)) ∧ cs.size = L.length := by
    obtain ⟨os, om, ow, h⟩ := st
    have hM := (h.mem b _ hm).1
    cases hM with
    | cells cs e l _ hb hs hr => exact ⟨cs, e, hb, hs⟩
  obtain ⟨cs, e, hbk, hcs⟩ := hex
  obtain ⟨s1, s2⟩ := st.storeMem (off := 0) (xs := xs) (vs := vs) (oss := fun _ => []) hm hbk (by simpa using hs) hv hr (by rw [flatMap_nil])
  have e1 : (cs.toList.take 0 ++ vs ++ cs.toList.drop (0 + vs.length)).toArray = putCells id 0 vs.toArray cs := by
    apply Array.ext_getElem?
    intro i
    simp only [putCells, Array.getElem?_mapIdx, List.take_zero, List.nil_append, Nat.zero_add, List.getElem?_toArray, List.size_toArray, Nat.zero_le, true_and, Nat.sub_zero]
    by_cases hi : i < vs.length
    · rw [List.getElem?_append_left hi]
      have : i < cs.size := by omega
      simp [hi, this]
    · rw [List.getElem?_append_right (Nat.le_of_not_lt hi)]
      simp only [List.getElem?_drop, hi, if_false]
      rw [show vs.length + (i - vs.length) = i by omega]
      simp
  rw [e1] at s1 s2
  have e2 : (putRow id (Go.Sort.ahead w k) b 0 vs.toArray).heap = (w.setRow b (putCells id 0 vs.toArray cs)).heap := by
    show w.heap.modify b (onCells (putCells id 0 vs.toArray)) = (w.setRow b (putCells id 0 vs.toArray cs)).heap
    apply Array.ext_getElem?
    intro i
    by_cases hi : b = i
    · subst hi
      rw [setRow_heap w b cs _ e (0, 0) hbk]
      simp [Array.getElem?_modify, hbk, onCells]
    · rw [setRow_other w b i _ (Ne.symm hi)]
      simp [Array.getElem?_modify, hi]
  generalize hw1 : w.setRow b (putCells id 0 vs.toArray cs) = w1 at s1 s2 e2
  generalize hw2 : grow (putRow id (Go.Sort.ahead w k) b 0 vs.toArray) os = w2
  have hh : w2.heap = w1.heap ++ os := by rw [← hw2]; show (putRow id (Go.Sort.ahead w k) b 0 vs.toArray).heap ++ os = _; rw [e2]
  have hold : ∀ c, c < w1.heap.size → w2.heap[c]? = w1.heap[c]? := fun c hc => by rw [hh, Array.getElem?_append_left hc]
  have hcell : ∀ c o, o < lim c → w2.cell? ⟨c, o, none⟩ = w1.cell? ⟨c, o, none⟩ := fun c o ho => by
    simp [World.cell?, hold c (s1.lt_of_lim ho)]
  have hfr : ∀ c, w1.heap.size ≤ c → lim c = 0 := fun c hc => by
    obtain ⟨_, _, _, h⟩ := s1
    exact (h.fresh c hc).1
  rw [List.take_zero, List.nil_append, Nat.zero_add] at s1
  refine ⟨?_, s2.trans ?_⟩
  · exact s1.world (w' := w2) (lim' := lim) (by rw [hh]; simp) (fun _ => Nat.le_refl _) hcell (fun c hc => .inr ⟨hold c hc, rfl⟩) (fun c hc => ⟨hold c (s1.lt_of_mem hc), rfl⟩) (fun c hc => hfr c (by rw [hh] at hc; simp at hc; omega))
  · refine ⟨?_, ?_, ?_, by rw [hh]; simp, fun c hc => ⟨hold c (s1.lt_of_F hc), rfl⟩, fun _ => Nat.le_refl _, hcell⟩ <;> (rw [← hw2, ← hw1]; rfl)

theorem func_inv {v : Value} {g : FuncId} {os : List Nat} (h : Rep w lim v (.func (.func g) [] []) os) : v = .func (.func g) #[] #[] := by
  generalize hx : AV.func (.func g) [] [] = x at h
  cases h <;> first | (cases hx; done) | skip
  rename_i f c fl cl hf hc _ _
  cases hx
  have e1 : f = #[] := by simpa using hf
  have e2 : c = #[] := by simpa using hc
  rw [e1, e2]

theorem int_inv {v : Value} {z : Int} {os : List Nat} (h : Rep w lim v (.int .i64 z) os) : v = .int .i64 z := by
  generalize hx : AV.int .i64 z = x at h
  cases h <;> first | (cases hx; done) | skip
  cases hx; rfl
set_option maxHeartbeats 2000000 in
/-- slices.SortFunc at a row of structs that memory tells of, by their first cells. -/
theorem acalls_sortK {f g : FuncId} {s : Nat} {α : Type} [Inhabited α] {fA : α → AV} (key : α → Int) (hex : ∃ fn, P.funcs[f]? = some fn ∧ fn.body.isSome = true ∧ (fn.name == "runtime.NumGoroutine") = false)
    (hC : ∀ (blk off cap : Nat) (d : Array (RawK s)) (w : World), HoldsK (fun x : RawK s => x.1) (s + 1) w blk off d → blk < w.heap.size → d.size < 4611686018427387904 →
      Calls P f #[.slice (some ⟨blk, off, none⟩) d.size cap, .func (.func g) #[] #[]] w fun e w' => e = .returned (.tuple #[]) ∧ ∃ d' n os, PermIn 0 d.size d d' ∧ SortedIn (ltOf fun x y : RawK s => rawKey x - rawKey y) 0 d.size d' ∧ w' = sortWorldK (fun x : RawK s => x.1) (s + 1) w blk off n d' os)
    (hf : ∀ a, (fA a).cells.length = s + 1) (hf1 : ∀ a, (fA a).cells.all AV.one = true) (hp : ∀ a, (fA a).plain = fA a) (hkey : ∀ a, (fA a).cells.getD 0 .junk = .int .i64 (key a))
    (b k cap : Nat) (zs : List α) (hk : k ≤ zs.length) (hkb : k ≤ 140737488355328) (hks : ∀ a ∈ zs.take k, 0 ≤ key a ∧ key a ≤ 1000000000) (m : AMem) (K : AV → AMem → Prop)
    (hK : ∀ zs', zs'.Perm (zs.take k) → zs'.Pairwise (fun a b => key a ≤ key b) → K (.tuple []) (m.wth [(b, .cells (flatK fA (zs' ++ zs.drop k)))])) :
    ACalls P f [.ms ⟨b, 0, none⟩ k cap, .func (.func g) [] []] (m.wth [(b, .cells (flatK fA zs))]) K := by
  refine ⟨hex, fun F lim w cargs hs hr st => ?_⟩
  have h0 := hr 0 (by simp)
  have h1 := hr 1 (by simp)
  simp only [List.getD_cons_zero] at h0
  simp only [List.getD_cons_succ, List.getD_cons_zero] at h1
  obtain ⟨e0, _, hcm⟩ := rep_ms_inv h0
  have e1 := func_inv h1
  have ec : cargs = #[.slice (some ⟨b, 0, none⟩) k cap, .func (.func g) #[] #[]] := by
    apply Array.ext (by simp [hs])
    intro i hi hi'
    have : cargs.getD i undef = cargs[i] := by simp [Array.getD, hi]
    rw [← this]
    have hi2 : i < 2 := by simpa [hs] using hi
    match i, hi2 with
    | 0, _ => rw [e0]; rfl
    | 1, _ => rw [e1]; rfl
  have hm : (m.wth [(b, .cells (flatK fA zs))]) b = some (.cells (flatK fA zs)) := wth_get (L := [(b, .cells (flatK fA zs))]) 0 (by simp) rfl
  have hzl := flatK_len hf zs
  have hcells : ∃ cs e, w.heap[b]? = some (.cells cs e (0, 0)) ∧ cs.size = zs.length * (s + 1) ∧ ∀ q, q < zs.length * (s + 1) → Rep w lim (cs.getD q undef) ((flatK fA zs).getD q .junk) [] := by
    obtain ⟨os, om, ow, h⟩ := st
    have hM := (h.mem b _ hm).1
    cases hM with
    | cells cs e l _ hb hs hr =>
      refine ⟨cs, e, hb, by rw [hs, hzl], fun q hq => ?_⟩
      have h2 := (hr q (by rw [hzl]; exact hq)).plain
      have h3 := flatK_mem_plain hp zs ((flatK fA zs).getD q .junk) (by
        have : q < (flatK fA zs).length := by rw [hzl]; exact hq
        simp [List.getD_eq_getElem?_getD, this])
      rwa [h3] at h2
  obtain ⟨cs, e, hb, hsz, hcv⟩ := hcells
  have hlt : b < w.heap.size := (Array.getElem?_eq_some_iff.1 hb).1
  have hdm : ∀ i j, i < k → j < s + 1 → i * (s + 1) + j < zs.length * (s + 1) ∧ (i * (s + 1) + j) / (s + 1) = i ∧ (i * (s + 1) + j) % (s + 1) = j := fun i j hi hj => by
    have h3 : i * (s + 1) + (s + 1) ≤ zs.length * (s + 1) := by rw [← Nat.succ_mul]; exact Nat.mul_le_mul_right _ (by omega)
    refine ⟨by omega, ?_, ?_⟩
    · rw [Nat.mul_comm, Nat.mul_add_div (by omega), Nat.div_eq_of_lt hj, Nat.add_zero]
    · rw [Nat.mul_comm, Nat.mul_add_mod, Nat.mod_eq_of_lt hj]
  have hget : ∀ i j, i < k → j < s + 1 → (flatK fA zs).getD (i * (s + 1) + j) .junk = (fA (zs.getD i default)).cells.getD j .junk := fun i j hi hj => by
    obtain ⟨q1, q2, q3⟩ := hdm i j hi hj
    rw [flatK_get hf (by omega) zs _ q1, q2, q3]
    have : i < zs.length := by omega
    simp [List.getD_eq_getElem?_getD, this]
  have hcell : ∀ i j, i < k → j < s + 1 → Rep w lim (cs.getD (i * (s + 1) + j) undef) ((fA (zs.getD i default)).cells.getD j .junk) [] := fun i j hi hj => by
    have := hcv _ (hdm i j hi hj).1
    rwa [hget i j hi hj] at this
  let raw : Nat → List Value := fun i => (List.range (s + 1)).map fun j => cs.getD (i * (s + 1) + j) undef
  have hrawl : ∀ i, (raw i).length = s + 1 := fun i => by simp [raw]
  have hmem : ∀ i, i < k → zs.getD i default ∈ zs.take k := fun i hi => by
    have h3 : i < (zs.take k).length := by simp; omega
    have h4 : (zs.take k)[i] = zs.getD i default := by
      have : i < zs.length := by omega
      simp [List.getD_eq_getElem?_getD, this]
    rw [← h4]; exact List.getElem_mem h3
  have hraw0 : ∀ i, i < k → (raw i).head? = some (.int .i64 (key (zs.getD i default))) := fun i hi => by
    have h3 := hcell i 0 hi (by omega)
    rw [hkey] at h3
    have h4 := int_inv h3
    rw [Nat.add_zero] at h4
    simp only [raw, List.range_succ_eq_map, List.map_cons, List.head?_cons, Nat.add_zero, h4]
  have hok : ∀ i, i < k → rawOk s (raw i) := fun i hi => by
    refine ⟨hrawl i, fun v hv => ?_, _, hraw0 i hi, (hks _ (hmem i hi)).1, (hks _ (hmem i hi)).2⟩
    obtain ⟨j, hj, rfl⟩ := List.mem_map.1 hv
    have hj' : j < s + 1 := by simpa using hj
    exact one_cell_of (hf1 (zs.getD i default)) (by rw [hf]; exact hj') (hcell i j hi hj')
  have : ∀ i, ∃ x : RawK s, i < k → x.1 = raw i := fun i => by
    by_cases hi : i < k
    · exact ⟨⟨raw i, hok i hi⟩, fun _ => rfl⟩
    · exact ⟨default, fun h => absurd h hi⟩
  obtain ⟨mk, hmk⟩ := Classical.axiomOfChoice this
  have hkeyr : ∀ i, i < k → rawKey (mk i) = key (zs.getD i default) := fun i hi => by
    have h3 := hraw0 i hi
    rw [← hmk i hi] at h3
    unfold rawKey
    cases hx : (mk i).1 with
    | nil => rw [hx] at h3; cases h3
    | cons a r =>
      rw [hx] at h3
      simp only [List.head?_cons, Option.some.injEq] at h3
      subst h3; rfl
  let R : List (RawK s) := (List.range k).map mk
  have hRl : R.length = k := by simp [R]
  have hRg : ∀ i, i < k → R.toArray[i]! = mk i := fun i hi => by
    have : i < R.toArray.size := by simpa [hRl] using hi
    rw [getElem!_pos R.toArray i this]; simp [R]
  have hH : HoldsK (fun x : RawK s => x.1) (s + 1) w b 0 R.toArray := fun j hj => by
    have hj' : j < k * (s + 1) := by simpa [hRl] using hj
    have hi : j / (s + 1) < k := Nat.div_lt_of_lt_mul (by rw [Nat.mul_comm]; exact hj')
    have hjm := Nat.mod_lt j (show 0 < s + 1 by omega)
    have h4 : j / (s + 1) * (s + 1) + j % (s + 1) = j := by rw [Nat.mul_comm]; exact Nat.div_add_mod j (s + 1)
    refine ⟨?_, by simp [World.frozen?, hb]⟩
    rw [get_flatK _ _ _ j (by simpa [hRl] using hj'), hRg _ hi, hmk _ hi]
    have h5 : (raw (j / (s + 1)))[j % (s + 1)]! = cs.getD j undef := by
      rw [getElem!_pos (raw (j / (s + 1))) (j % (s + 1)) (by rw [hrawl]; exact hjm)]
      simp only [raw, List.getElem_map, List.getElem_range]
      rw [h4]
    rw [h5]
    have hjc : j < cs.size := by rw [hsz]; exact Nat.lt_of_lt_of_le hj' (Nat.mul_le_mul_right _ hk)
    simp [World.cell?, hb, Array.getD, hjc]
  have hC0 := hC b 0 cap R.toArray w hH hlt (by simp [hRl]; omega)
  simp only [List.size_toArray, hRl] at hC0
  rw [ec]
  refine hC0.mono fun e w' ⟨he, d', nn, os, ⟨hp1, _, hp3⟩, hso, hw⟩ => ?_
  have hd's : d'.size = k := by rw [hp1]; simp [hRl]
  have hperm : d'.toList.Perm R := by
    have e2 : d'.extract 0 k = d' := by rw [← hd's]; simp
    have e3 : R.toArray.extract 0 k = R.toArray := by
      have : k = R.toArray.size := by simp [hRl]
      rw [this]; simp
    rw [e2, e3] at hp3
    exact hp3
  obtain ⟨I, hI1, hI2⟩ := perm_lift hperm.symm (List.range k) rfl
  have hIl : I.length = k := by rw [← hI1.length_eq]; simp
  have hIk : ∀ i, i < k → I.getD i 0 < k := fun i hi => by
    have : i < I.length := by omega
    have h3 : I[i] ∈ List.range k := hI1.mem_iff.2 (List.getElem_mem this)
    simpa [List.getD_eq_getElem?_getD, this] using h3
  have hdg : ∀ i, i < k → d'[i]! = mk (I.getD i 0) := fun i hi => by
    have h3 : i < d'.size := by omega
    have h4 : i < I.length := by omega
    rw [getElem!_pos d' i h3]
    have h5 : d'.toList[i]'(by simpa using h3) = (I.map mk)[i]'(by simpa using h4) := by simp only [hI2]
    simpa [List.getD_eq_getElem?_getD, h4] using h5
  let zs' : List α := I.map fun i => zs.getD i default
  have hzs'l : zs'.length = k := by simp [zs', hIl]
  have hzg : ∀ i, i < k → (zs'.map fA).getD i .junk = fA (zs.getD (I.getD i 0) default) := fun i hi => by
    have h4 : i < I.length := by omega
    simp [zs', List.getD_eq_getElem?_getD, h4]
  have hzp : zs'.Perm (zs.take k) := by
    have h3 : (List.range k).map (fun i => zs.getD i default) = zs.take k := by
      apply List.ext_getElem (by simp; omega)
      intro i h4 h5
      have : i < zs.length := by simp at h5; omega
      simp [List.getD_eq_getElem?_getD, this]
    rw [← h3]
    exact (hI1.map _).symm
  have hzo : zs'.Pairwise (fun a b => key a ≤ key b) := by
    rw [List.pairwise_iff_getElem]
    intro i j hi hj hij
    have hj' : j < k := by omega
    have hi' : i < k := by omega
    have h3 := hso i j (Nat.zero_le _) hij hj'
    rw [hdg i hi', hdg j hj'] at h3
    simp only [ltOf, decide_eq_false_iff_not] at h3
    rw [hkeyr _ (hIk i hi'), hkeyr _ (hIk j hj')] at h3
    have h4 : i < I.length := by omega
    have h5 : j < I.length := by omega
    simp only [zs', List.getElem_map]
    simp only [List.getD_eq_getElem?_getD, List.getElem?_eq_getElem h4, List.getElem?_eq_getElem h5, Option.getD_some] at h3
    simp only [List.getD_eq_getElem?_getD]
    omega
  have hfl := flatK_len hf zs'
  obtain ⟨s1, s2⟩ := st.putVals hm (xs := flatK fA zs') (vs := (Go.Sort.flatK (fun x : RawK s => x.1) (s + 1) d').toList) (by rw [hfl, hzl, hzs'l]; exact Nat.mul_le_mul_right _ hk) (by simp [hfl, hzs'l, hd's]) (fun q hq => by
    rw [hfl, hzs'l] at hq
    have hi : q / (s + 1) < k := Nat.div_lt_of_lt_mul (by rw [Nat.mul_comm]; exact hq)
    have hjm := Nat.mod_lt q (show 0 < s + 1 by omega)
    rw [flatK_get hf (by omega) zs' q (by rw [hzs'l]; exact hq), hzg _ hi]
    have h5 : (Go.Sort.flatK (fun x : RawK s => x.1) (s + 1) d').toList.getD q undef = cs.getD (I.getD (q / (s + 1)) 0 * (s + 1) + q % (s + 1)) undef := by
      have h6 : q < (Go.Sort.flatK (fun x : RawK s => x.1) (s + 1) d').size := by simpa [hd's] using hq
      have h7 := get_flatK (fun x : RawK s => x.1) (s + 1) d' q (by rw [hd's]; exact hq)
      rw [getElem!_pos (Go.Sort.flatK (fun x : RawK s => x.1) (s + 1) d') q h6, hdg _ hi, hmk _ (hIk _ hi), getElem!_pos (raw (I.getD (q / (s + 1)) 0)) (q % (s + 1)) (by rw [hrawl]; exact hjm)] at h7
      have h8 : (Go.Sort.flatK (fun x : RawK s => x.1) (s + 1) d').toList.getD q undef = (Go.Sort.flatK (fun x : RawK s => x.1) (s + 1) d')[q] := by
        rw [List.getD_eq_getElem?_getD, Array.getElem?_toList, Array.getElem?_eq_getElem h6]; rfl
      rw [h8, h7]
      simp [raw]
    rw [h5]
    exact hcell _ _ (hIk _ hi) hjm) nn os
  have ew : w' = grow (putRow id (Go.Sort.ahead w nn) b 0 (Go.Sort.flatK (fun x : RawK s => x.1) (s + 1) d').toList.toArray) os := by
    rw [hw]; simp [sortWorldK, putRowK]
  have eu : (m.wth [(b, .cells (flatK fA zs))]).upd b (some (.cells (flatK fA zs' ++ (flatK fA zs).drop (flatK fA zs').length))) = m.wth [(b, .cells (flatK fA (zs' ++ zs.drop k)))] := by
    rw [hfl, hzs'l, flatK_drop hf, flatK_append]
    exact wth_set (L := [(b, .cells (flatK fA zs))]) 0 (by simp) rfl
  rw [eu, ← ew] at s1
  rw [← ew] at s2
  refine ⟨.tuple #[], .tuple [], lim, _, [], he, hK zs' hzp hzo, ?_, s1, s2⟩
  have := Rep.tuple (w := w') (lim := lim) #[] [] (fun _ => []) rfl (fun i hi => by simp at hi)
  rwa [flatMap_nil] at this

/-- What nobody writes any more reads as a list of structs. -/
theorem St.freezeK {α : Type} {f : α → AV} {sz : Nat} (st : St F lim w n fr m ca []) {b : Nat} {zs : List α} (hf : ∀ a, (f a).cells.length = sz) (hpos : 0 < sz) (hp : ∀ a, (f a).plain = f a) (hm : m b = some (.cells (flatK f zs))) :
    St F (fun c => if c = b then zs.length * sz else lim c) w n fr (m.upd b none) ca [] ∧ Pres F w lim w (fun c => if c = b then zs.length * sz else lim c) ∧
    ∀ k cap v, k ≤ zs.length → k ≤ 140737488355328 → Rep w lim v (.ms ⟨b, 0, none⟩ k cap) [] → Rep w (fun c => if c = b then zs.length * sz else lim c) v (.slice false ((zs.take k).map f)) [] := by
  obtain ⟨os, om, ow, h⟩ := st
  obtain ⟨hM, hl, hF⟩ := h.mem b _ hm
  have hlim : ∀ c, lim c ≤ if c = b then zs.length * sz else lim c := fun c => by split <;> simp_all
  have hown : ∀ c, ow c ≠ .none → c ≠ b := fun c hc e => by subst e; have := (h.free c hc).2.1; rw [hm] at this; cases this
  have hst : ∀ {v x os'}, Rep w lim v x os' → (∀ c ∈ os', ow c ≠ .none) → Rep w (fun c => if c = b then zs.length * sz else lim c) v x os' := fun hR ho => hR.stable hlim (fun _ _ _ => rfl) (fun c hc => ⟨rfl, if_neg (hown c (ho c hc))⟩)
  have hblt : b < w.heap.size := by
    rcases Nat.lt_or_ge b w.heap.size with h3 | h3
    · exact h3
    · rw [(h.fresh b h3).2.2] at hm; cases hm
  refine ⟨⟨os, om, ow, h.size, h.defers, fun t x hx => ⟨(h.slots t x hx).1, hst (h.slots t x hx).2 (fun c hc => by rw [(h.ownS t x hx).2 c hc]; simp)⟩, fun c o hc => ?_, h.ownS, fun c o hc i => ?_, h.ownF, fun c hc => ⟨(h.free c hc).1, ?_, (h.free c hc).2.2⟩, fun c hc => ?_⟩, ⟨rfl, rfl, rfl, Nat.le_refl _, fun c hc => ⟨rfl, ?_⟩, hlim, fun _ _ _ => rfl⟩, fun k cap v hk hz hv => ?_⟩
  · have hcb : c ≠ b := fun e => by subst e; simp [AMem.upd] at hc
    simp only [AMem.upd, if_neg hcb] at hc
    have := h.mem c o hc
    refine ⟨this.1.stable rfl hlim (fun _ _ _ => rfl) (fun i q hq => ⟨rfl, if_neg (hown q (by rw [(h.ownM c o hc i).2 q hq]; simp))⟩), by rw [if_neg hcb]; exact this.2.1, this.2.2⟩
  · have hcb : c ≠ b := fun e => by subst e; simp [AMem.upd] at hc
    simp only [AMem.upd, if_neg hcb] at hc
    exact h.ownM c o hc i
  · have := (h.free c hc).2.1
    simp only [AMem.upd]; split
    · rfl
    · exact this
  · have := h.fresh c hc
    have hcb : c ≠ b := by omega
    refine ⟨by rw [if_neg hcb]; exact this.1, this.2.1, ?_⟩
    simp only [AMem.upd, if_neg hcb]; exact this.2.2
  · exact if_neg (fun e => hF (by rw [← e]; exact hc))
  · obtain ⟨rfl, hkc, hcm⟩ := rep_ms_inv hv
    rcases Nat.eq_zero_or_pos k with h0 | h0
    · subst h0
      exact .empty _ cap hcm
    cases hM with
    | cells cs e l _ hb hs hr =>
      have hsz : cs.size = zs.length * sz := by rw [hs, flatK_len hf]
      have hq : ∀ i j, i < k → j < sz → i * sz + j < zs.length * sz ∧ (i * sz + j) / sz = i ∧ (i * sz + j) % sz = j := fun i j hi hj => by
        have h3 : i * sz + sz ≤ zs.length * sz := by rw [← Nat.succ_mul]; exact Nat.mul_le_mul_right _ (by omega)
        refine ⟨by omega, ?_, ?_⟩
        · rw [Nat.mul_comm, Nat.mul_add_div (by omega), Nat.div_eq_of_lt hj, Nat.add_zero]
        · rw [Nat.mul_comm, Nat.mul_add_mod, Nat.mod_eq_of_lt hj]
      refine Rep.slice b 0 k cap sz _ (fun i j => cs.getD (i * sz + j) undef) (by simp; omega) hkc hcm hz (fun i hi => ?_) (by simp; exact Nat.mul_le_mul_right _ hk) (fun i j hi hj => ?_) (fun i j hi hj => ?_)
      · have hiz : i < zs.length := by omega
        simp [List.getD_eq_getElem?_getD, hi, hiz, hf]
      · have hic : i * sz + j < cs.size := by rw [hsz]; exact (hq i j hi hj).1
        simp [World.cell?, hb, Array.getD, hic]
      · have hiz : i < zs.length := by omega
        obtain ⟨q1, q2, q3⟩ := hq i j hi hj
        have h1 := (hr (i * sz + j) (by rw [flatK_len hf]; exact q1)).plain
        have h2 := flatK_mem_plain hp zs ((flatK f zs).getD (i * sz + j) .junk) (by
          have : i * sz + j < (flatK f zs).length := by rw [flatK_len hf]; exact q1
          simp [List.getD_eq_getElem?_getD, this])
        rw [h2, flatK_get hf hpos zs _ q1, q2, q3] at h1
        have e3 : ((zs.take k).map f).getD i .junk = (zs.map f).getD i .junk := by simp [List.getD_eq_getElem?_getD, hi, hiz]
        rw [e3]
        exact h1.stable hlim (fun _ _ _ => rfl) (by simp)

theorem awp_freezeK {α : Type} {f : α → AV} {sz : Nat} {c : Code} {Q : Exit → Fr → AMem → Prop} {L : List (Nat × AObj)} (t i : Nat) {b k cap : Nat} (zs : List α) (hf : ∀ a, (f a).cells.length = sz) (hpos : 0 < sz) (hp : ∀ a, (f a).plain = f a) (hx : fr.get t = some (.ms ⟨b, 0, none⟩ k cap)) (hi : L[i]? = some (b, .cells (flatK f zs))) (hN : (L.map Prod.fst).Nodup) (hF : m b = none) (hk : k ≤ zs.length) (hz : k ≤ 140737488355328)
    (h : AWP P n c Q (fr.conv1 t (.slice false ((zs.take k).map f))) (m.wth (L.eraseIdx i))) : AWP P n c Q fr (m.wth L) := fun F lim w ca st => by
  have hm := wth_get (m := m) i hN hi
  obtain ⟨s1, s2, s3⟩ := st.freezeK hf hpos hp hm
  have hrep : ∀ v, Rep w lim v (.ms ⟨b, 0, none⟩ k cap) [] → Rep w (fun c => if c = b then zs.length * sz else lim c) v (.slice false ((zs.take k).map f)) [] := fun v => s3 k cap v hk hz
  have hslot : ∃ v, ca.tmps.getD t undef = v ∧ Rep w lim v (.ms ⟨b, 0, none⟩ k cap) [] := by
    obtain ⟨os, om, ow, h0⟩ := st
    have := (h0.slots t _ hx).2
    have ho2 : os t = [] := ms_none this
    rw [ho2] at this
    exact ⟨_, rfl, this⟩
  obtain ⟨v, hv, hv2⟩ := hslot
  have hperm := eraseIdx_split hi
  have em : (m.wth L).upd b none = m.wth (L.eraseIdx i) := by
    rw [wth_perm hN hperm]
    have hnb : b ∉ (L.eraseIdx i).map Prod.fst := by
      have := (hperm.map Prod.fst).nodup_iff.1 hN
      exact (List.nodup_cons.1 (by simpa using this)).1
    funext q
    simp only [AMem.upd]
    split
    · rename_i e; subst e
      rw [wth_other hnb, hF]
    · rename_i e
      show (if q = b then _ else (m.wth (L.eraseIdx i)) q) = _
      rw [if_neg e]
  rw [em] at s1
  have st2 : St F (fun c => if c = b then zs.length * sz else lim c) w n (fr.conv1 t (.slice false ((zs.take k).map f))) (m.wth (L.eraseIdx i)) ca [] := by
    obtain ⟨os, om, ow, h0⟩ := s1
    have hos : os t = [] := by
      exact ms_none (h0.slots t _ hx).2
    refine ⟨os, om, ow, h0.size, h0.defers, fun s x hx2 => ?_, h0.mem, fun s x hx2 => ?_, h0.ownM, h0.ownF, h0.free, h0.fresh⟩
    · rw [Fr.get_conv1] at hx2
      by_cases hs : s = t
      · subst hs
        rw [if_pos rfl, hx] at hx2
        obtain rfl : AV.slice false ((zs.take k).map f) = x := by simpa using hx2
        refine ⟨(h0.slots s _ hx).1, ?_⟩
        rw [hos, hv]; exact hrep v hv2
      · rw [if_neg hs] at hx2
        exact h0.slots s x hx2
    · rw [Fr.get_conv1] at hx2
      by_cases hs : s = t
      · subst hs
        rw [hos]; simp
      · rw [if_neg hs] at hx2
        exact h0.ownS s x hx2
  exact wp_mono (h F _ w ca st2) fun e a w' ⟨l, f, m', q, st', pr⟩ => ⟨l, f, m', q, st', s2.trans pr⟩
end
end Go.Aw
end
section
namespace Go.Aw
open Go

section
variable {P : Program}
theorem resK_cell3 {fr : Fr} {m : AMem} {fn : Func} {K : AV → AMem → Prop} {a t s u b off : Nat} {l : List AV} (hr : fn.results.toList = [.cell a t, .tmp s, .tmp u]) (hraw : rawOf fr a = .ptr ⟨b, off, none⟩) (hm : m b = some (.cells l)) (hok : apartOk P t l off) (x y y' : AV) (hx : (apart P t l off).plain = x)
    (hy : resOf P fr m (.tmp s) = some (True, y)) (hy' : resOf P fr m (.tmp u) = some (True, y')) (z z' : AV) (hz : y.plain = z) (hz' : y'.plain = z') (m' : AMem) (hs : ∀ b o, m' b = some o → m b = some o) (hK : K (.tuple [x, z, z']) m') : resK P fn fr m K := by
  unfold resK
  rw [hr]
  simp only [resOf_cell hraw hm, hy, hy']
  rw [hx, hz, hz']
  exact ⟨hok, trivial, trivial, m', hs, hK⟩
end

section
variable {P : Program} {fr : Fr} {m : AMem} {ops : Array Oper} {cs : List AV} {r : List Oper} {KK : Fr → Prop} {d : Nat} {ty : TypeId} {pos : String} {af : Array Edge} {gd : Option (Nat × Bool)} {L : List (Nat × AObj)}
/-- How much a map holds, in an open region. -/
theorem pq_lenMap (hg : gOn ops fr gd = some true) {α : Type} (f : α → AV × AV) (l : List α) {t ke ve : TypeId} {x : Operand} {b : Nat} (ht : P.underlying t = some (.map ke ve)) (hx : evP (rawOf fr) x = .map b) (hm : m.wth L b = some (.map (l.map f)))
    (h : pseq P ops (m.wth L) cs r (fr.put d (.int .i64 l.length)) KK) : pseq P ops (m.wth L) cs (⟨some d, .call ⟨.builtin .len, #[x], #[t]⟩, ty, pos, af, gd⟩ :: r) fr KK :=
  pq_qv hg (side := True) (x := .int .i64 (l.map f).length) rfl (by simp [qv, ht, hx, hm]) trivial (by simp) h

/-- What is behind may know less of the memory. -/
theorem awp_subQ {P : Program} {n : Nat} {c : Code} {Q : Exit → Fr → AMem → Prop} {fr : Fr} {m : AMem} (h : AWP P n c (fun e fr m => ∃ m', (∀ b o, m' b = some o → m b = some o) ∧ Q e fr m') fr m) : AWP P n c Q fr m := fun F lim w ca st =>
  wp_mono (h F lim w ca st) fun _ _ _ ⟨l, f, _, ⟨m2, hs, q⟩, st', pr⟩ => ⟨l, f, m2, q, st'.memSub hs, pr⟩
end
end Go.Aw
end
section
namespace Go.Aw
section
variable {κ ν : Type} [DecidableEq κ]
theorem mget_memG : ∀ {l : List (κ × ν)} {k : κ} {v : ν}, mget l k = some v → (k, v) ∈ l
  | [], _, _, h => by cases h
  | (a, b) :: r, k, v, h => by
    rw [mget] at h
    split at h
    · rename_i e
      cases h; rw [e]; exact List.mem_cons_self ..
    · exact List.mem_cons_of_mem _ (mget_memG h)
theorem mget_noneG : ∀ {l : List (κ × ν)} {k : κ}, mget l k = none ↔ k ∉ l.map Prod.fst
  | [], k => by simp [mget]
  | (a, b) :: r, k => by
    rw [mget]
    split
    · rename_i e; simp [e]
    · rename_i e
      rw [mget_noneG, List.map_cons, List.mem_cons, not_or]
      exact ⟨fun h => ⟨fun e' => e e'.symm, h⟩, fun h => h.2⟩
theorem mget_mputG : ∀ (l : List (κ × ν)) (k k' : κ) (v : ν), mget (mput l k v) k' = if k = k' then some v else mget l k'
  | [], k, k', v => by rw [mput, mget, mget, mget]
  | (a, b) :: r, k, k', v => by
    rw [mput]
    split
    · rename_i e
      subst e
      rw [mget, mget]
      split <;> rfl
    · rename_i e
      rw [mget, mget, mget_mputG r k k' v]
      by_cases h : a = k'
      · rw [if_pos h, if_neg (by rintro rfl; exact e h), if_pos h]
      · rw [if_neg h, if_neg h]
theorem mput_memG : ∀ {l : List (κ × ν)} {k : κ} {v : ν} {q : κ × ν}, q ∈ mput l k v → q = (k, v) ∨ q ∈ l
  | [], k, v, q, h => by simpa [mput] using h
  | (a, b) :: r, k, v, q, h => by
    rw [mput] at h
    split at h
    · rcases List.mem_cons.1 h with h | h
      · exact .inl h
      · exact .inr (List.mem_cons_of_mem _ h)
    · rcases List.mem_cons.1 h with h | h
      · exact .inr (h ▸ List.mem_cons_self ..)
      · exact (mput_memG h).imp id (List.mem_cons_of_mem _)
theorem mput_keysG : ∀ (l : List (κ × ν)) (k : κ) (v : ν), (mput l k v).map Prod.fst = if k ∈ l.map Prod.fst then l.map Prod.fst else l.map Prod.fst ++ [k]
  | [], k, v => by simp [mput]
  | (a, b) :: r, k, v => by
    rw [mput]
    split
    · rename_i e; subst e; simp
    · rename_i e
      rw [List.map_cons, mput_keysG r k v, List.map_cons]
      have e' : k ≠ a := fun h => e h.symm
      by_cases h : k ∈ r.map Prod.fst
      · rw [if_pos h, if_pos (List.mem_cons_of_mem _ h)]
      · rw [if_neg h, if_neg (by rw [List.mem_cons, not_or]; exact ⟨e', h⟩)]; rfl
theorem mput_ndG {l : List (κ × ν)} {k : κ} {v : ν} (h : (l.map Prod.fst).Nodup) : ((mput l k v).map Prod.fst).Nodup := by
  rw [mput_keysG]
  split
  · exact h
  · rename_i hk
    refine List.nodup_append.2 ⟨h, by simp, fun a ha b hb e => ?_⟩
    rw [List.mem_singleton] at hb
    exact hk (hb ▸ e ▸ ha)
theorem mdel_subG : ∀ (l : List (κ × ν)) (k : κ), (mdel l k).Sublist l
  | [], _ => List.Sublist.refl _
  | (a, b) :: r, k => by
    rw [mdel]
    split
    · exact List.sublist_cons_self _ _
    · exact (mdel_subG r k).cons_cons _
theorem mdel_ndG {l : List (κ × ν)} {k : κ} (h : (l.map Prod.fst).Nodup) : ((mdel l k).map Prod.fst).Nodup := h.sublist ((mdel_subG l k).map _)
/-- A putting under a key that is there keeps the length. -/
theorem mput_len_some {l : List (κ × ν)} {k : κ} {v : ν} (h : (mget l k).isSome = true) : (mput l k v).length = l.length := by
  have e := mput_keysG l k v
  have hk : k ∈ l.map Prod.fst := by
    refine Classical.byContradiction fun hn => ?_
    rw [mget_noneG.2 hn] at h; cases h
  rw [if_pos hk] at e
  have := congrArg List.length e
  simpa using this
end
end Go.Aw
end
section
namespace Go.Aw
open Go

section
variable {α : Type} [Inhabited α] {f : α → AV} {sz : Nat}
theorem flatK_split (f : α → AV) (xs : List α) (k : Nat) (hk : k < xs.length) : flatK f xs = flatK f (xs.take k) ++ ((f (xs.getD k default)).cells ++ flatK f (xs.drop (k + 1))) := by
  rw [← flatK_cons, ← flatK_append]
  congr 1
  have e : xs.getD k default = xs[k] := by simp [hk]
  rw [e, ← List.drop_eq_getElem_cons hk, List.take_append_drop]
theorem flatK_drop_at (hf : ∀ a, (f a).cells.length = sz) (xs : List α) (k : Nat) (hk : k < xs.length) (j : Nat) (hj : j ≤ sz) : (flatK f xs).drop (k * sz + j) = (f (xs.getD k default)).cells.drop j ++ flatK f (xs.drop (k + 1)) := by
  have hl : (flatK f (xs.take k)).length = k * sz := by rw [flatK_len hf, List.length_take, Nat.min_eq_left (Nat.le_of_lt hk)]
  rw [flatK_split f xs k hk, ← hl, List.drop_length_add_append, List.drop_append_of_le_length (by rw [hf]; exact hj)]
theorem flatK_take_at (hf : ∀ a, (f a).cells.length = sz) (xs : List α) (k : Nat) (hk : k < xs.length) (j : Nat) (hj : j ≤ sz) : (flatK f xs).take (k * sz + j) = flatK f (xs.take k) ++ (f (xs.getD k default)).cells.take j := by
  have hl : (flatK f (xs.take k)).length = k * sz := by rw [flatK_len hf, List.length_take, Nat.min_eq_left (Nat.le_of_lt hk)]
  rw [flatK_split f xs k hk, ← hl, List.take_length_add_append, List.take_append_of_le_length (by rw [hf]; exact hj)]
theorem flatK_set (xs : List α) (y : α) (k : Nat) (hk : k < xs.length) : flatK f (xs.set k y) = flatK f (xs.take k) ++ ((f y).cells ++ flatK f (xs.drop (k + 1))) := by
  rw [List.set_eq_take_append_cons_drop, if_pos hk, flatK_append, flatK_cons]
theorem flatK_at_le (hf : ∀ a, (f a).cells.length = sz) (xs : List α) {k j n : Nat} (hk : k < xs.length) (hj : j + n ≤ sz) : k * sz + j + n ≤ (flatK f xs).length := by
  rw [flatK_len hf]
  have : (k + 1) * sz ≤ xs.length * sz := Nat.mul_le_mul_right _ hk
  rw [Nat.add_mul, Nat.one_mul] at this
  omega
/-- What a part of a struct in a row reads as. -/
def partK (P : Program) (t : TypeId) (l : List AV) (j : Nat) : AV := if aggT P t then .agg ((l.drop j).take (P.cellsOf t)) else l.getD j .junk
theorem apart_flatK {P : Program} {t : TypeId} (hf : ∀ a, (f a).cells.length = sz) (xs : List α) {k j : Nat} (hk : k < xs.length) (hj : j + P.cellsOf t ≤ sz) (hc : aggT P t = true ∨ j < sz) : apart P t (flatK f xs) (k * sz + j) = partK P t (f (xs.getD k default)).cells j := by
  unfold apart partK
  split
  · rw [flatK_drop_at hf xs k hk j (by omega), List.take_append_of_le_length (by rw [List.length_drop, hf]; omega)]
  · rename_i ha
    have hj' : j < sz := hc.resolve_left ha
    have h1 : (flatK f xs).getD (k * sz + j) .junk = ((flatK f xs).drop (k * sz + j)).getD 0 .junk := by simp [List.getD_eq_getElem?_getD]
    rw [h1, flatK_drop_at hf xs k hk j (by omega)]
    simp only [List.getD_eq_getElem?_getD]
    rw [List.getElem?_append_left (by rw [List.length_drop, hf]; omega)]
    simp
end

section
variable {P : Program} {n : Nat} {fr : Fr} {m : AMem} {ops : Array Oper} {stl : List Nat} {r : List Oper} {K : Fr → AMem → Prop} {d : Nat} {ty : TypeId} {pos : String} {af : Array Edge} {gd : Option (Nat × Bool)} {L : List (Nat × AObj)} {cs : List AV} {KK : Fr → Prop}
variable {α : Type} [Inhabited α] {sz : Nat}

theorem okK {f : α → AV} {t : TypeId} (hf : ∀ a, (f a).cells.length = sz) (xs : List α) {k j : Nat} (hU : isU P t = true) (hk : k < xs.length) (hj : j + P.cellsOf t ≤ sz) (hj2 : j < sz) : apartOk P t (flatK f xs) (k * sz + j) := by
  refine ⟨hU, ?_⟩
  have h1 := flatK_at_le hf xs hk hj
  have h2 := flatK_at_le (n := 1) hf xs hk (show j + 1 ≤ sz by omega)
  split
  · exact h1
  · omega

theorem ar_loadk (hg : gOn ops fr gd = some true) (f : α → AV) (xs : List α) (k : Int) (j : Nat) {t : TypeId} {x : Operand} {b o : Nat} {v : AV} (hx : evP (rawOf fr) x = .ptr ⟨b, o, none⟩) (ho : o = k.toNat * sz + j) (hm : m.wth L b = some (.cells (flatK f xs))) (hst : stl.contains d = false)
    (hf : ∀ a, (f a).cells.length = sz) (hU : isU P t = true) (hj : j + P.cellsOf t ≤ sz) (hj2 : j < sz) (hv : (partK P t (f (gI xs k)).cells j).plain = v) (h0 : 0 ≤ k) (h1 : k < xs.length) (h : aopsR P ops stl r K (fr.put d v) (m.wth L)) :
    aopsR P ops stl (⟨some d, .load t x, ty, pos, af, gd⟩ :: r) K fr (m.wth L) := by
  subst ho
  have hk : k.toNat < xs.length := by omega
  refine ar_loadp hg hx hm hst (okK hf xs hU hk hj hj2) ?_ h
  rw [apart_flatK hf xs hk hj (.inr hj2)]
  exact hv

theorem pq_loadk (hg : gOn ops fr gd = some true) (f : α → AV) (xs : List α) (k : Int) (j : Nat) {t : TypeId} {x : Operand} {b o : Nat} {v : AV} (hx : evP (rawOf fr) x = .ptr ⟨b, o, none⟩) (ho : o = k.toNat * sz + j) (hm : m.wth L b = some (.cells (flatK f xs)))
    (hf : ∀ a, (f a).cells.length = sz) (hU : isU P t = true) (hj : j + P.cellsOf t ≤ sz) (hj2 : j < sz) (hv : (partK P t (f (gI xs k)).cells j).plain = v) (h0 : 0 ≤ k) (h1 : k < xs.length) (h : pseq P ops (m.wth L) cs r (fr.put d v) KK) :
    pseq P ops (m.wth L) cs (⟨some d, .load t x, ty, pos, af, gd⟩ :: r) fr KK := by
  subst ho
  have hk : k.toNat < xs.length := by omega
  refine pq_loadp hg hx hm (okK hf xs hU hk hj hj2) ?_ h
  rw [apart_flatK hf xs hk hj (.inr hj2)]
  exact hv

theorem ar_storek (hg : gOn ops fr gd = some true) (i : Nat) (f : α → AV) (xs : List α) (y : α) (k : Int) (j : Nat) {t : TypeId} {a x : Operand} {b o : Nat} {v : AV} (ha : evP (rawOf fr) a = .ptr ⟨b, o, none⟩) (ho : o = k.toNat * sz + j) (hx : evR (rawOf fr) x = v) (hN : (L.map Prod.fst).Nodup) (hi : L[i]? = some (b, .cells (flatK f xs)))
    (hf : ∀ a, (f a).cells.length = sz) (h1 : v.topOk = true) (h2 : v.cells.all AV.one = true) (h3 : v.cells.length = P.cellsOf t) (hU : isU P t = true) (hj : j + P.cellsOf t ≤ sz) (hy : (f (gI xs k)).cells.take j ++ v.cells ++ (f (gI xs k)).cells.drop (j + P.cellsOf t) = (f y).cells) (h0 : 0 ≤ k) (hk : k < xs.length)
    (h : aopsR P ops stl r K (fr.strip (slotOf x)) (m.wth (L.set i (b, .cells (flatK f (xs.set k.toNat y)))))) : aopsR P ops stl (⟨none, .store t a x, ty, pos, af, gd⟩ :: r) K fr (m.wth L) := by
  subst ho
  have hk' : k.toNat < xs.length := by omega
  refine ar_storep hg i ha hx hN hi h1 h2 h3 hU (flatK_at_le hf xs hk' hj) ?_ h
  rw [flatK_set xs y k.toNat hk', flatK_take_at hf xs k.toNat hk' j (by omega), Nat.add_assoc, flatK_drop_at hf xs k.toNat hk' _ hj, ← hy]
  simp only [gI, List.append_assoc]
end
end Go.Aw
end
section
namespace Go.Aw
open Go

/-- A row of structs, nil or in a block of its own: H tells that block, av how the slice reads, l the row. -/
structure HidR {α : Type} (f : α → AV) (m : AMem) (keys : List Nat) (H : List (Nat × AObj)) (av : AV) (l : List α) : Prop where
  nd : (H.map Prod.fst).Nodup
  fr : ∀ c ∈ H.map Prod.fst, m c = none ∧ c ∉ keys
  sh : (H = [] ∧ av = .nils ∧ l = []) ∨ ∃ b zs, H = [(b, .cells (flatK f zs))] ∧ av = .ms ⟨b, 0, none⟩ l.length zs.length ∧ l.length ≤ zs.length ∧ zs.take l.length = l

section
variable {α : Type} {f : α → AV} {m : AMem} {keys : List Nat} {H : List (Nat × AObj)} {av : AV} {l : List α}

theorem HidR.nil (m : AMem) (keys : List Nat) : HidR f m keys [] .nils [] := ⟨List.nodup_nil, (fun c h => by cases h), .inl ⟨rfl, rfl, rfl⟩⟩
theorem HidR.row {b : Nat} {zs : List α} {k : Nat} (hm : m b = none) (hb : b ∉ keys) (hk : k ≤ zs.length) (hl : zs.take k = l) : HidR f m keys [(b, .cells (flatK f zs))] (.ms ⟨b, 0, none⟩ k zs.length) l := by
  have e : l.length = k := by rw [← hl, List.length_take, Nat.min_eq_left hk]
  refine ⟨by simp, fun c hc => ?_, .inr ⟨b, zs, rfl, by rw [e], by omega, by rw [e]; exact hl⟩⟩
  simp at hc; subst hc; exact ⟨hm, hb⟩
theorem hid_nin {c : Nat} (h : m.wth H c = none) : c ∉ H.map Prod.fst := (wth_fresh h).1
theorem hid_swap {R : List (Nat × AObj)} (hN : ((R ++ H).map Prod.fst).Nodup) : (m.wth H).wth R = (m.wth R).wth H := by
  rw [← wth_append, ← wth_append]
  exact wth_perm hN List.perm_append_comm
theorem hid_call {L L1 L2 : List (Nat × AObj)} (hN : (L.map Prod.fst).Nodup) (hp : L.Perm (L1 ++ L2)) (hH : (H.map Prod.fst).Nodup) (hD : ∀ c ∈ L.map Prod.fst, c ∉ H.map Prod.fst) : (m.wth H).wth L = ((m.wth L2).wth H).wth L1 := by
  rw [wth_split hN hp]
  congr 1
  refine hid_swap ?_
  have hN2 := ((hp.map Prod.fst).nodup_iff.1 hN)
  rw [List.map_append] at hN2
  rw [List.map_append, List.nodup_append]
  refine ⟨(List.nodup_append.1 hN2).2.1, hH, fun a ha b hb e => ?_⟩
  subst e
  exact hD a ((hp.map Prod.fst).mem_iff.2 (by rw [List.map_append]; exact List.mem_append_right _ ha)) hb
theorem HidR.call {L L1 L2 : List (Nat × AObj)} (h : HidR f m keys H av l) (hp : L.Perm (L1 ++ L2)) (hD : ∀ c ∈ L.map Prod.fst, c ∉ H.map Prod.fst) : HidR f (m.wth L2) (L1.map Prod.fst) H av l := by
  refine ⟨h.nd, fun c hc => ?_, h.sh⟩
  have hin : ∀ a ∈ L.map Prod.fst, a ≠ c := fun a ha e => hD a ha (e ▸ hc)
  refine ⟨?_, fun k => hin c ((hp.map Prod.fst).mem_iff.2 (by rw [List.map_append]; exact List.mem_append_left _ k)) rfl⟩
  rw [wth_other (fun k => hin c ((hp.map Prod.fst).mem_iff.2 (by rw [List.map_append]; exact List.mem_append_right _ k)) rfl)]
  exact (h.fr c hc).1
theorem HidR.nin {c : Nat} (h : HidR f m keys H av l) (hc : c ∈ keys) : c ∉ H.map Prod.fst := fun k => (h.fr c k).2 hc
theorem HidR.back {L L1 L2 : List (Nat × AObj)} {K1 : List Nat} (h : HidR f (m.wth L2) K1 H av l) (hK : K1 = L1.map Prod.fst) (hp : L.Perm (L1 ++ L2)) : HidR f m (L.map Prod.fst) H av l := by
  subst hK
  refine ⟨h.nd, fun c hc => ⟨(wth_fresh (h.fr c hc).1).2, fun k => ?_⟩, h.sh⟩
  have := (hp.map Prod.fst).mem_iff.1 k
  rw [List.map_append, List.mem_append] at this
  rcases this with q | q
  · exact (h.fr c hc).2 q
  · exact (wth_fresh (h.fr c hc).1).1 q
theorem HidR.keep {K' : List Nat} (h : HidR f m keys H av l) (hs : ∀ c ∈ K', c ∈ keys) : HidR f m K' H av l := ⟨h.nd, fun c hc => ⟨(h.fr c hc).1, fun k => (h.fr c hc).2 (hs c k)⟩, h.sh⟩
theorem HidR.loc {c : Nat} (h : HidR f m keys H av l) (hm : m c = none) (hc : c ∈ keys) : m.wth H c = none := by rw [wth_other (fun k => (h.fr c k).2 hc)]; exact hm
theorem hid_base {c : Nat} (h : m.wth H c = none) : m c = none := (wth_fresh h).2
theorem HidR.out (h : HidR f m keys H av l) : ∀ c ∈ H.map Prod.fst, m c = none := fun c hc => (h.fr c hc).1
theorem hid_two {a b : Nat} {x y : AObj} (h : a ≠ b) (m : AMem) : m.wth [(a, x), (b, y)] = (m.wth [(a, x)]).wth [(b, y)] := by
  funext c
  show (if c = a then some x else if c = b then some y else m c) = (if c = b then some y else if c = a then some x else m c)
  by_cases h1 : c = a
  · subst h1; rw [if_pos rfl, if_neg h, if_pos rfl]
  · rw [if_neg h1]
    by_cases h2 : c = b
    · rw [if_pos h2, if_pos h2]
    · rw [if_neg h2, if_neg h2, if_neg h1]
end
end Go.Aw
end
section
namespace Go.Aw
open Go

section
variable {P : Program} {F : Nat → Prop} {lim : Nat → Nat} {w : World} {n : Nat} {fr : Fr} {m : AMem} {ca : Act} {fl : List Nat}

theorem St.convMem (st : St F lim w n fr m ca fl) {b : Nat} {L : List AV} (hm : m b = some (.cells L)) (j : Nat) (y : AV) (hj : j < L.length) (hc : ∀ w lim v os, Rep w lim v (L.getD j .junk) os → Rep w lim v y []) : St F lim w n fr (m.upd b (some (.cells (L.set j y)))) ca fl := by
  obtain ⟨os, om, ow, h⟩ := st
  refine ⟨os, fun c => if c = b then (fun i => if i = j then [] else om b i) else om c, ow, h.size, h.defers, h.slots, fun c o hc' => ?_, h.ownS, fun c o hc' i => ?_, h.ownF, fun c hc' => ?_, fun c hc' => ?_⟩
  · by_cases e : c = b
    · subst e
      simp only [AMem.upd, if_true] at hc'
      obtain rfl := Option.some.inj hc'
      obtain ⟨hM, hl, hF⟩ := h.mem c _ hm
      refine ⟨?_, hl, hF⟩
      cases hM with
      | cells cs e l os hb hs hr =>
        refine .cells cs e _ _ hb (by simpa using hs) fun i hi => ?_
        have hi' : i < L.length := by simpa using hi
        simp only [if_true]
        by_cases hij : i = j
        · subst hij
          rw [if_pos rfl]
          have := hc _ _ _ _ (hr i hi')
          simpa [List.getD_eq_getElem?_getD, hi'] using this
        · rw [if_neg hij]
          have := hr i hi'
          simpa [List.getD_eq_getElem?_getD, List.getElem?_set_ne (Ne.symm hij)] using this
    · simp only [AMem.upd, if_neg e] at hc'
      simp only [if_neg e]
      exact h.mem c o hc'
  · by_cases e : c = b
    · subst e
      simp only [if_true]
      by_cases hij : i = j
      · simp [hij]
      · simp only [if_neg hij]
        exact h.ownM c _ hm i
    · simp only [AMem.upd, if_neg e] at hc'
      simp only [if_neg e]
      exact h.ownM c o hc' i
  · have := h.free c hc'
    refine ⟨this.1, ?_, this.2.2⟩
    simp only [AMem.upd]
    by_cases e : c = b
    · subst e; rw [hm] at this; cases this.2.1
    · rw [if_neg e]; exact this.2.1
  · have := h.fresh c hc'
    refine ⟨this.1, this.2.1, ?_⟩
    simp only [AMem.upd]
    by_cases e : c = b
    · subst e; rw [hm] at this; cases this.2.2
    · rw [if_neg e]; exact this.2.2

/-- A cell of memory reads otherwise. -/
theorem awp_convM {c : Code} {Q : Exit → Fr → AMem → Prop} {L0 : List (Nat × AObj)} (i : Nat) {b : Nat} {L : List AV} (j : Nat) (y : AV) (hN : (L0.map Prod.fst).Nodup) (hi : L0[i]? = some (b, .cells L)) (hj : j < L.length) (hc : ∀ w lim v os, Rep w lim v (L.getD j .junk) os → Rep w lim v y [])
    (h : AWP P n c Q fr (m.wth (L0.set i (b, .cells (L.set j y))))) : AWP P n c Q fr (m.wth L0) := fun F lim w ca st => by
  have st2 := st.convMem (wth_get i hN hi) j y hj hc
  rw [← wth_set i hN hi] at h
  exact h F lim w ca st2
theorem awp_memEq {c : Code} {Q : Exit → Fr → AMem → Prop} {m' : AMem} (e : m = m') (h : AWP P n c Q fr m') : AWP P n c Q fr m := e ▸ h
end
end Go.Aw
end
section
namespace Go.Aw
open Go Go.RowKit Go.WideShapes Go.ChangeShapes

/-- A measure of data that counts every part. -/
structure BulkOk (bk : {H : Type} → DataW H → Nat) (bkA : {H : Type} → List (DataW H) → Nat) : Prop where
  cons : ∀ {H : Type} (d : DataW H) (l : List (DataW H)), bkA (d :: l) = bk d + bkA l
  slice : ∀ {H : Type} (e s : List (DataW H)), bkA e + 1 ≤ bk (.slice e s)
  agg : ∀ {H : Type} (p : List (DataW H)), bkA p + 1 ≤ bk (.agg p)

/-- What stands at type 't', so deep, reads as an α that is no greater than the data. -/
def RdB (bk : {H : Type} → DataW H → Nat) (P : Program) (fuel : Nat) (t : TypeId) {α : Type} (f : α → AV) (sz : α → Nat) : Prop :=
  ∀ (H : Type) (enc : TypeId × Value → H) (W : World) (sp : Nat → Bool) (cs : List Value) (d : DataW H) (ps : List MemPlace), DataW.trod enc P W 0 sp true fuel t cs = some (d, ps) → (∀ n ∈ d.weights P t, n ≤ reachBytes) →
    ∃ x : α, sz x ≤ bk d ∧ (f x).cells.length = cs.length ∧ ∀ i, i < cs.length → Rep W (limOf W) (cs.getD i undef) ((f x).cells.getD i .junk) []

section
variable {bk : {H : Type} → DataW H → Nat} {bkA : {H : Type} → List (DataW H) → Nat} {P : Program} {fuel : Nat} {t e : TypeId}

theorem Rd.toB {α : Type} {f : α → AV} (h : Rd P fuel t f) : RdB bk P fuel t f (fun _ => 0) := by
  intro H enc W sp cs d ps h1 h2
  obtain ⟨x, h3, h4⟩ := h H enc W sp cs d ps h1 h2
  exact ⟨x, Nat.zero_le _, h3, h4⟩

theorem BulkOk.at (hB : BulkOk bk bkA) {H : Type} : ∀ {p : List (DataW H)} {i : Nat} {d : DataW H}, p[i]? = some d → bk d ≤ bkA p
  | a :: p, 0, d, h => by
    simp only [List.getElem?_cons_zero, Option.some.injEq] at h
    subst h; rw [hB.cons]; omega
  | a :: p, i + 1, d, h => by
    simp only [List.getElem?_cons_succ] at h
    have := hB.at h
    rw [hB.cons]; omega
  | [], i, d, h => by simp at h
theorem BulkOk.two (hB : BulkOk bk bkA) {H : Type} : ∀ {p : List (DataW H)} {i j : Nat} {d d' : DataW H}, i < j → p[i]? = some d → p[j]? = some d' → bk d + bk d' ≤ bkA p
  | a :: p, 0, j + 1, d, d', _, h, h' => by
    simp only [List.getElem?_cons_zero, Option.some.injEq, List.getElem?_cons_succ] at h h'
    subst h
    have := hB.at h'
    rw [hB.cons]; omega
  | a :: p, i + 1, j + 1, d, d', hij, h, h' => by
    simp only [List.getElem?_cons_succ] at h h'
    have := hB.two (by omega) h h'
    rw [hB.cons]; omega
  | a :: p, i, 0, d, d', hij, h, h' => by omega
  | [], i, j, d, d', _, h, _ => by simp at h
theorem bulk_sum (hB : BulkOk bk bkA) {H : Type} : ∀ (ds : List (DataW H)) (g : Nat → Nat) (n : Nat), n ≤ ds.length → (∀ i d, i < n → ds[i]? = some d → g i ≤ bk d) → ((List.range n).map g).sum ≤ bkA ds
  | ds, g, 0, _, _ => by simp
  | [], g, n + 1, h, _ => by simp at h
  | d :: ds, g, n + 1, h, hg => by
    have h0 := hg 0 d (by omega) rfl
    have ih := bulk_sum hB ds (fun i => g (i + 1)) n (by simp at h; omega) (fun i d' hi hd => hg (i + 1) d' (by omega) (by simpa using hd))
    have e : (List.range (n + 1)).map g = g 0 :: (List.range n).map (fun i => g (i + 1)) := by
      rw [List.range_succ_eq_map, List.map_cons, List.map_map]; rfl
    rw [e, List.sum_cons, hB.cons]; omega

theorem rdB_slice (hB : BulkOk bk bkA) {α : Type} [Inhabited α] {f : α → AV} {z : α → Nat} {sz : Nat} (ht : P.underlying t = some (.slice e)) (hsz : P.cellsOf e = sz) (hpos : 0 < sz) (hby : 0 < P.bytesOf e) (hf : ∀ x, (f x).cells.length = sz) (hr : ∀ n, n < fuel → RdB bk P n e f z) : RdB bk P fuel t (lstAV f) (fun l => (l.map z).sum) := by
  intro H enc W sp cs d ps h hw
  rcases DataW.trod_slice ht h with ⟨rfl, _⟩ | ⟨a, len, cap, elems, rest, n, rfl, rfl, hx, hb, hl, hm, hlen, hel, hsp, hns⟩
  · refine ⟨[], by simp, rfl, fun i hi => ?_⟩
    obtain rfl : i = 0 := by simpa using hi
    exact .nils false
  simp only [Prod.mk.injEq] at hx
  obtain ⟨rfl, rfl⟩ := hx
  simp only [DataW.weights, ht] at hw
  have hw0 := hw _ (List.mem_cons_self ..)
  simp only [List.length_map] at hw0
  have hlen2 : len ≤ 140737488355328 := by
    have h1 : len * 1 ≤ (elems.length + rest.length) * P.bytesOf e := Nat.mul_le_mul (by omega) hby
    unfold reachBytes at hw0; omega
  rcases Nat.eq_zero_or_pos len with h0 | h0
  · subst h0
    refine ⟨[], by simp, rfl, fun i hi => ?_⟩
    obtain rfl : i = 0 := by simpa using hi
    exact .empty a cap hm
  have each : ∀ i (hi : i < len), ∃ (x : α) (cs' : List Value), z x ≤ bk (elems[i]'(by omega)).1 ∧ W.cells? 0 (a.add (i * sz)) sz = some cs' ∧ (∀ j, j < sz → Rep W (limOf W) (cs'.getD j undef) ((f x).cells.getD j .junk) []) := fun i hi => by
    have h1 := hel i hi
    rw [hsz, List.getElem?_eq_getElem (show i < elems.length by omega), Option.bind_eq_some_iff] at h1
    obtain ⟨cs', h2, h3⟩ := h1
    have h3' : DataW.trod enc P W 0 sp true n e cs' = some ((elems[i]'(by omega)).1, (elems[i]'(by omega)).2) := h3
    obtain ⟨x, hx0, hx1, hx2⟩ := hr n (Nat.lt_succ_self n) H enc W sp cs' _ _ h3' (fun k hk => hw k (List.mem_cons_of_mem _ (List.mem_append_left _ (weightsAll_mem (List.mem_map.2 ⟨_, List.getElem_mem (show i < elems.length by omega), rfl⟩) k hk))))
    have hl2 : cs'.length = sz := by rw [← hx1, hf]
    exact ⟨x, cs', hx0, h2, fun j hj => hx2 j (by omega)⟩
  have hsp : a.spot = none := by
    obtain ⟨x, cs', _, h1, _⟩ := each 0 h0
    have := (World.cells?_some h1).2.2 0 hpos
    obtain ⟨b, off, spot⟩ := a
    cases spot with
    | none => rfl
    | some s =>
      have hl2 := (World.cells?_some h1).2.1
      rw [List.getElem?_eq_getElem (by omega)] at this
      unfold World.cell? at this
      simp [Addr.add] at this
      split at this <;> simp_all
  obtain ⟨b, off, spot⟩ := a
  simp only at hsp
  subst hsp
  have hg : ∀ i : Nat, ∃ x : α × List Value, ∀ (hi : i < len), z x.1 ≤ bk (elems[i]'(by omega)).1 ∧ W.cells? 0 ((⟨b, off, none⟩ : Addr).add (i * sz)) sz = some x.2 ∧ (∀ j, j < sz → Rep W (limOf W) (x.2.getD j undef) ((f x.1).cells.getD j .junk) []) := fun i => by
    by_cases hi : i < len
    · obtain ⟨x, cs', h0, h1, h2⟩ := each i hi
      exact ⟨(x, cs'), fun _ => ⟨h0, h1, h2⟩⟩
    · exact ⟨(default, []), fun h => absurd h hi⟩
  obtain ⟨g, hg⟩ := Classical.axiomOfChoice hg
  have hcell : ∀ i j, i < len → j < sz → W.cell? ⟨b, off + i * sz + j, none⟩ = some ((g i).2.getD j undef) := fun i j hi hj => by
    have h1 := (hg i hi).2.1
    have h2 := (World.cells?_some h1).2.2 j hj
    have h3 := (World.cells?_some h1).2.1
    rw [Addr.add_lit, Addr.add_lit] at h2
    rw [h2, List.getD_eq_getElem?_getD, List.getElem?_eq_getElem (by omega)]; rfl
  refine ⟨(List.range len).map fun i => (g i).1, ?_, rfl, fun i hi => ?_⟩
  · have h1 := bulk_sum hB (elems.map Prod.fst) (fun i => z (g i).1) len (by rw [List.length_map]; omega) (fun i d hi hd => by
      have hi2 : i < elems.length := by omega
      rw [List.getElem?_map, List.getElem?_eq_getElem hi2] at hd
      simp only [Option.map_some, Option.some.injEq] at hd
      subst hd
      exact (hg i hi).1)
    have h2 := hB.slice (elems.map Prod.fst) (rest.map Prod.fst)
    simp only [List.map_map]
    have e : ((List.range len).map (z ∘ fun i => (g i).1)).sum = ((List.range len).map fun i => z (g i).1).sum := rfl
    show ((List.range len).map (z ∘ fun i => (g i).1)).sum ≤ _
    rw [e]
    have h3 : ∀ s : List (DataW H), bkA (elems.map Prod.fst) + 1 ≤ bk (DataW.slice (elems.map Prod.fst) s) := fun s => hB.slice _ s
    exact Nat.le_trans h1 (Nat.le_trans (Nat.le_succ _) (h3 _))
  obtain rfl : i = 0 := by simpa using hi
  have hgd : ∀ i, i < len → (((List.range len).map fun i => (g i).1).map f).getD i .junk = f (g i).1 := fun i hi => by
    simp [List.getD_eq_getElem?_getD, hi]
  refine Rep.slice b off len cap sz _ (fun i j => (g i).2.getD j undef) (by simp) hl hm hlen2 (fun i hi => by rw [hgd i hi]; exact hf _) ?_ hcell (fun i j hi hj => by rw [hgd i hi]; exact (hg i hi).2.2 j hj)
  have h1 := limOf_cell (hcell (len - 1) (sz - 1) (by omega) (by omega))
  have h2 : len * sz = (len - 1) * sz + sz := by rw [← Nat.succ_mul]; congr 1; omega
  omega

/-- The fields of what reads as a struct. -/
theorem rdB_fields (hB : BulkOk bk bkA) {fs : Array Field} (ht : P.underlying t = some (.struct fs)) {H : Type} {enc : TypeId × Value → H} {W : World} {sp : Nat → Bool} {cs : List Value} {d : DataW H} {ps : List MemPlace} (h : DataW.trod enc P W 0 sp true fuel t cs = some (d, ps)) (hw : ∀ n ∈ d.weights P t, n ≤ reachBytes) :
    cs.length = P.cellsOf t ∧ ∃ p : List (DataW H), bkA p + 1 ≤ bk d ∧ ∀ (i : Nat) (f : Field) {α : Type} (g : α → AV) (z : α → Nat), fs[i]? = some f → (∀ n, n < fuel → RdB bk P n f.type g z) → f.offset + P.cellsOf f.type ≤ P.cellsOf t →
      ∃ (x : α) (di : DataW H), p[i]? = some di ∧ z x ≤ bk di ∧ (g x).cells.length = P.cellsOf f.type ∧ ∀ j, j < P.cellsOf f.type → Rep W (limOf W) (cs.getD (f.offset + j) undef) ((g x).cells.getD j .junk) [] := by
  obtain ⟨xs, n, rfl, hx, hl, hxl, hf⟩ := DataW.trod_struct ht h
  simp only [Prod.mk.injEq] at hx
  obtain ⟨rfl, rfl⟩ := hx
  refine ⟨hl, _, hB.agg _, fun i f α g z hi hr ho => ?_⟩
  have h1 := hf i f hi
  have hi2 : i < xs.length := by
    rw [hxl]; exact (Array.getElem?_eq_some_iff.1 hi).1
  rw [List.getElem?_eq_getElem hi2] at h1
  have h1' : DataW.trod enc P W 0 sp true n f.type ((cs.drop f.offset).take (P.cellsOf f.type)) = some ((xs[i]).1, (xs[i]).2) := h1
  simp only [DataW.weights, ht] at hw
  obtain ⟨x, hx0, hx1, hx2⟩ := hr n (Nat.lt_succ_self n) H enc W sp _ _ _ h1' (fun k hk => hw k (weightsEach_mem (i := i) (t := f.type) (by simp [hi]) (by simp [hi2]) k hk))
  have hlen : ((cs.drop f.offset).take (P.cellsOf f.type)).length = P.cellsOf f.type := by
    rw [List.length_take, List.length_drop]; omega
  refine ⟨x, xs[i].1, by simp [hi2], hx0, by rw [hx1, hlen], fun j hj => ?_⟩
  have h2 := hx2 j (by omega)
  have e : ((cs.drop f.offset).take (P.cellsOf f.type)).getD j undef = cs.getD (f.offset + j) undef := by
    simp [List.getD_eq_getElem?_getD, hj]
  rwa [e] at h2

/-- .. as an argument. -/
theorem RdB.arg {α : Type} {f : α → AV} {z : α → Nat} {H : Type} {enc : TypeId × Value → H} {W : World} {sp : Nat → Bool} {v : Value} {d : DataW H} {ps : List MemPlace} (hr : ∀ n, RdB bk P n t f z) (hf : ∀ x, (f x).cells = [f x]) (hv : v.cells.toList = [v]) (hd : DataW.Trod enc P W 0 sp true t v d ps) (hw : ∀ n ∈ d.weights P t, n ≤ reachBytes) :
    ∃ x : α, z x ≤ bk d ∧ Rep W (limOf W) v (f x) [] := by
  obtain ⟨n, hn⟩ := hd
  obtain ⟨x, h0, h1, h2⟩ := hr n H enc W sp _ d ps hn hw
  refine ⟨x, h0, ?_⟩
  rw [hv] at h2
  have := h2 0 (by simp)
  rw [hf] at this
  exact this
end
end Go.Aw
end
section
namespace Go.Proofs
open Go Go.Aw
theorem Try.mixed : Try.prog.follows .mixedOrders = true := by kernel_rfl
end Go.Proofs
end
section
namespace Go.Proofs
open Go Go.Aw
set_option maxRecDepth 100000


theorem take_succ_gI {α : Type} [Inhabited α] {l : List α} {i : Int} (h0 : 0 ≤ i) (hi : i < l.length) : l.take (i + 1).toNat = l.take i.toNat ++ [gI l i] := by
  have e : (i + 1).toNat = i.toNat + 1 := by omega
  have hn : i.toNat < l.length := by omega
  rw [e, List.take_succ_eq_append_getElem hn]
  simp [gI, List.getD_eq_getElem?_getD, hn]
theorem gI_mem {α : Type} [Inhabited α] {l : List α} {i : Int} (h0 : 0 ≤ i) (hi : i < l.length) : gI l i ∈ l := by
  simp only [gI, List.getD_eq_getElem?_getD, List.getElem?_eq_getElem (show i.toNat < l.length by omega), Option.getD_some]
  exact List.getElem_mem _
theorem take_full {α : Type} {l : List α} {i : Int} (hi : l.length ≤ i) : l.take i.toNat = l := List.take_of_length_le (by omega)
def fnv (h : Int) (c : UInt8) : Int := IntKind.u64.wrap (IntKind.u64.wrap ((BitVec.ofInt IntKind.u64.bits h ^^^ BitVec.ofInt IntKind.u64.bits (IntKind.u64.wrap c.toNat)).toNat) * 1099511628211)
def sumI (s : List UInt8) : Int := s.foldl fnv 14695981039346656037
def u8n (n : Nat) : UInt8 := UInt8.ofNat n
def framedL (s : List UInt8) : List UInt8 := [u8n s.length, u8n (s.length / 256), u8n (sumI s).toNat, u8n ((sumI s).toNat / 256), u8n ((sumI s).toNat / 65536), u8n ((sumI s).toNat / 16777216)] ++ s
theorem framedL_len (s : List UInt8) : (framedL s).length = s.length + 6 := by simp [framedL]
def lenAt (s : List UInt8) (a : Int) : Int := ((gI s a).toNat : Int) + 256 * ((gI s (a + 1)).toNat : Int)
def splitF : Nat → List UInt8 → Int → List (List UInt8) → List (List UInt8) × Int
  | 0, _, a, l => (l, a)
  | n + 1, s, a, l =>
    if s.length - a < 6 then (l, a)
    else if 400 < lenAt s a ∨ s.length - a - 6 < lenAt s a then (l, a)
    else if framedL (sub s (a + 6) (a + 6 + lenAt s a)) ≠ sub s a (a + 6 + lenAt s a) then (l, a)
    else splitF n s (a + 6 + lenAt s a) (l ++ [sub s (a + 6) (a + 6 + lenAt s a)])
def splitR (s : List UInt8) : List (List UInt8) × Int := splitF (s.length + 1) s 0 []
end Go.Proofs
end
section
namespace Go.Proofs
open Go Go.Aw
set_option maxRecDepth 100000


abbrev Str := List UInt8
structure Chg where
  name : Str
  data : Str
  to : Str
  kind : Int
instance : Inhabited Chg := ⟨⟨[], [], [], 0⟩⟩
def chgAV (c : Chg) : AV := .agg [.str c.name, .str c.data, .str c.to, .int .i64 c.kind]
structure DSt where
  kept : List (Str × Str)
  now : List (Str × Str)
  wait : List Chg
  fuse : Int
  down : Bool
  steps : Int
def applyC (l : List (Str × Str)) (c : Chg) : List (Str × Str) :=
  if c.kind = 1 ∨ c.kind = 3 then mput l c.name c.data
  else if c.kind = 2 then mput l c.name ((mget l c.name).getD [] ++ c.data)
  else if c.kind = 4 then mdel (mput l c.to ((mget l c.name).getD [])) c.name
  else if c.kind = 5 then mdel l c.name
  else l
def stepF (s : DSt) : DSt × Int :=
  if s.down = true then (s, 10)
  else if s.fuse = 0 then ({ s with down := true, fuse := -1 }, 10)
  else ({ s with fuse := if 0 < s.fuse then s.fuse - 1 else s.fuse, steps := s.steps + 1 }, 0)
def doF (s : DSt) (c : Chg) : DSt × Int :=
  if (stepF s).2 ≠ 0 then stepF s
  else ({ (stepF s).1 with now := applyC s.now c, wait := s.wait ++ [c] }, 0)
theorem mget_le {l : List (Str × Str)} {k : Str} {B : Nat} (h : ∀ p ∈ l, p.2.length ≤ B) : ((mget l k).getD []).length ≤ B := by
  induction l with
  | nil => simp [mget]
  | cons p r ih =>
    obtain ⟨a, b⟩ := p
    simp only [mget]
    split
    · exact h (a, b) (by simp)
    · exact ih (fun p hp => h p (by simp [hp]))

theorem nodup_1 (d : Nat) : [d].Nodup := by simp

def dObj (kb nb : Nat) (s : DSt) : AObj := .cells [.map kb, .map nb, .slice true (s.wait.map chgAV), .int .i64 s.fuse, .bool s.down, .int .i64 s.steps]
def mObj (l : List (Str × Str)) : AObj := .map (l.map (mapAV strAV strAV))

set_option maxHeartbeats 2000000 in
theorem u_apply (b : Nat) (l : List (Str × Str)) (c : Chg) (hl : l.length ≤ 1099511627776) (hb : ∀ p ∈ l, p.2.length ≤ 1099511627776) (hc : c.data.length ≤ 1099511627776) (m : AMem)  (K : AV → AMem → Prop) (hK : K (.tuple []) (AMem.wth m [(b, mObj (applyC l c))])) : ACalls Try.prog 75 [.map b, chgAV c] (AMem.wth m [(b, mObj l)]) K := by
 have hg := mget_le (k := c.name) hb
 refine acalls_enter Try.func75 rfl (by decide) (Nat.le_of_ble_eq_true rfl) ?_
 show AWP _ _ _ _ [(0, .map b), (1, chgAV c)] (AMem.wth m [(b, mObj l)])
 refine awp_reg2_seq [] [0, 3] (by decide) ?_
 intro K1 hK1
 refine ar_box rfl (m := m) (L := [(b, mObj l)]) (v := chgAV c) (by rfl) rfl ?_
 intro b1 hb1
 have hFb1 : m b1 = none := wth_none hb1
 have hNb1 : ([b1, b] : List Nat).Nodup := wth_nodup hb1 (nodup_1 b)
 show K1 [(0, .map b), (3, .ptr ⟨b1, 0, none⟩)] (AMem.wth m [(b1, .cells [.str c.name, .str c.data, .str c.to, .int .i64 c.kind]), (b, mObj l)])
 refine hK1 _ _ ?_; clear hK1 K1
 refine awp_reg2_seq [] [0, 3, 5] (by decide) ?_
 intro K1 hK1
 refine ⟨⟨rfl, by decide⟩, ?_⟩
 refine ar_loadp rfl (v := .int .i64 c.kind) rfl (wth_get 0 hNb1 rfl) rfl (apartOk_one rfl rfl (Nat.le_of_ble_eq_true rfl)) rfl ?_
 show K1 [(0, .map b), (3, .ptr ⟨b1, 0, none⟩), (5, .int .i64 c.kind)] (AMem.wth m [(b1, .cells [.str c.name, .str c.data, .str c.to, .int .i64 c.kind]), (b, mObj l)])
 refine hK1 _ _ ?_; clear hK1 K1
 refine awp_block ?_
 refine awp_seq_k ?_; intro K2 hK2
 refine awp_reg2_seq [] [0, 3, 5, 6] (by decide) ?_
 intro K1 hK1
 refine ⟨trivial, trivial, ?_⟩
 show K1 [(0, .map b), (3, .ptr ⟨b1, 0, none⟩), (5, .int .i64 c.kind), (6, .bool (c.kind == 1))] (AMem.wth m [(b1, .cells [.str c.name, .str c.data, .str c.to, .int .i64 c.kind]), (b, mObj l)])
 refine hK1 _ _ ?_; clear hK1 K1
 refine awp_cond rfl rfl (fun h1 => ?_) (fun h1 => ?_)
 ·
  replace h1 : c.kind = 1 := (eq_of_beq h1)
  refine awp_skip ?_
  refine hK2 _ _ ?_; clear hK2
  refine awp_cond rfl rfl (fun h2 => ?_) (fun h2 => ?_)
  ·
   replace h2 : c.kind = 1 := (eq_of_beq h2)
   refine awp_reg2 [] [] (by decide) ?_
   intro K1 hK1
   refine ⟨trivial, ⟨rfl, by decide⟩, ?_⟩
   refine ar_loadp rfl (v := .str c.name) rfl (wth_get 0 hNb1 rfl) rfl (apartOk_one rfl rfl (Nat.le_of_ble_eq_true rfl)) rfl ?_
   refine ⟨⟨rfl, by decide⟩, ?_⟩
   refine ar_loadp rfl (v := .str c.data) rfl (wth_get 0 hNb1 rfl) rfl (apartOk_one rfl rfl (Nat.le_of_ble_eq_true rfl)) rfl ?_
   refine ar_mapUpdate rfl (m := m) (L := [(b1, .cells [.str c.name, .str c.data, .str c.to, .int .i64 c.kind]), (b, mObj l)]) 1 strAV strAV strKey_ok l c.name c.data rfl rfl rfl rfl rfl rfl hNb1 (by refine Nat.le_trans (mput_len _ _ _) (by omega)) ?_
   show K1 [] (AMem.wth m [(b1, .cells [.str c.name, .str c.data, .str c.to, .int .i64 c.kind]), (b, mObj (mput l c.name c.data))])
   refine hK1 _ _ ?_; clear hK1 K1
   refine ⟨(AMem.wth m [(b, mObj (mput l c.name c.data))]), (wth_sub2 (m := m) [(b1, .cells [.str c.name, .str c.data, .str c.to, .int .i64 c.kind])] [(b, mObj (mput l c.name c.data))] hNb1 (by simp only [List.map_cons, List.map_nil, List.forall_mem_cons]; exact ⟨hFb1, fun _ h => by cases h⟩)), ?_⟩
   show K (.tuple []) (AMem.wth m [(b, mObj (mput l c.name c.data))])
  
   have e0 : applyC l c = (mput l c.name c.data : List (Str × Str)) := by
    unfold applyC; simp_all
   rw [e0] at hK
   exact hK
  replace h2 : c.kind ≠ 1 := (ne_of_beq_false h2)
  refine awp_reg2_seq [] [0, 3, 5, 14] (by decide) ?_
  intro K1 hK1
  refine ⟨trivial, trivial, ?_⟩
  show K1 [(0, .map b), (3, .ptr ⟨b1, 0, none⟩), (5, .int .i64 c.kind), (14, .bool (c.kind == 2))] (AMem.wth m [(b1, .cells [.str c.name, .str c.data, .str c.to, .int .i64 c.kind]), (b, mObj l)])
  refine hK1 _ _ ?_; clear hK1 K1
  refine awp_cond rfl rfl (fun h3 => ?_) (fun h3 => ?_)
  ·
   replace h3 : c.kind = 2 := (eq_of_beq h3)
   refine awp_reg2 [] [] (by decide) ?_
   intro K1 hK1
   refine ⟨trivial, ⟨rfl, by decide⟩, ?_⟩
   refine ar_loadp rfl (v := .str c.name) rfl (wth_get 0 hNb1 rfl) rfl (apartOk_one rfl rfl (Nat.le_of_ble_eq_true rfl)) rfl ?_
   refine ar_lookup rfl (m := m) (L := [(b1, .cells [.str c.name, .str c.data, .str c.to, .int .i64 c.kind]), (b, mObj l)]) strAV strAV strKey_ok l c.name [] rfl rfl rfl rfl rfl (wth_get 1 hNb1 rfl) rfl ?_
   refine ⟨⟨rfl, by decide⟩, ?_⟩
   refine ar_loadp rfl (v := .str c.data) rfl (wth_get 0 hNb1 rfl) rfl (apartOk_one rfl rfl (Nat.le_of_ble_eq_true rfl)) rfl ?_
   refine ⟨(by omega), ?_⟩
   refine ar_mapUpdate rfl (m := m) (L := [(b1, .cells [.str c.name, .str c.data, .str c.to, .int .i64 c.kind]), (b, mObj l)]) 1 strAV strAV strKey_ok l c.name (((mget l c.name).getD []) ++ c.data) rfl rfl rfl rfl rfl rfl hNb1 (by refine Nat.le_trans (mput_len _ _ _) (by omega)) ?_
   show K1 [] (AMem.wth m [(b1, .cells [.str c.name, .str c.data, .str c.to, .int .i64 c.kind]), (b, mObj (mput l c.name (((mget l c.name).getD []) ++ c.data)))])
   refine hK1 _ _ ?_; clear hK1 K1
   refine ⟨(AMem.wth m [(b, mObj (mput l c.name (((mget l c.name).getD []) ++ c.data)))]), (wth_sub2 (m := m) [(b1, .cells [.str c.name, .str c.data, .str c.to, .int .i64 c.kind])] [(b, mObj (mput l c.name (((mget l c.name).getD []) ++ c.data)))] hNb1 (by simp only [List.map_cons, List.map_nil, List.forall_mem_cons]; exact ⟨hFb1, fun _ h => by cases h⟩)), ?_⟩
   show K (.tuple []) (AMem.wth m [(b, mObj (mput l c.name (((mget l c.name).getD []) ++ c.data)))])
  
   have e0 : applyC l c = (mput l c.name (((mget l c.name).getD []) ++ c.data) : List (Str × Str)) := by
    unfold applyC; simp_all
   rw [e0] at hK
   exact hK
  replace h3 : c.kind ≠ 2 := (ne_of_beq_false h3)
  refine awp_reg2_seq [] [0, 3, 5, 23] (by decide) ?_
  intro K1 hK1
  refine ⟨trivial, trivial, ?_⟩
  show K1 [(0, .map b), (3, .ptr ⟨b1, 0, none⟩), (5, .int .i64 c.kind), (23, .bool (c.kind == 4))] (AMem.wth m [(b1, .cells [.str c.name, .str c.data, .str c.to, .int .i64 c.kind]), (b, mObj l)])
  refine hK1 _ _ ?_; clear hK1 K1
  refine awp_cond rfl rfl (fun h4 => ?_) (fun h4 => ?_)
  ·
   replace h4 : c.kind = 4 := (eq_of_beq h4)
   refine awp_reg2_seq [] [0, 3] (by decide) ?_
   intro K1 hK1
   refine ⟨trivial, ⟨rfl, by decide⟩, ?_⟩
   refine ar_loadp rfl (v := .str c.to) rfl (wth_get 0 hNb1 rfl) rfl (apartOk_one rfl rfl (Nat.le_of_ble_eq_true rfl)) rfl ?_
   refine ⟨trivial, ⟨rfl, by decide⟩, ?_⟩
   refine ar_loadp rfl (v := .str c.name) rfl (wth_get 0 hNb1 rfl) rfl (apartOk_one rfl rfl (Nat.le_of_ble_eq_true rfl)) rfl ?_
   refine ar_lookup rfl (m := m) (L := [(b1, .cells [.str c.name, .str c.data, .str c.to, .int .i64 c.kind]), (b, mObj l)]) strAV strAV strKey_ok l c.name [] rfl rfl rfl rfl rfl (wth_get 1 hNb1 rfl) rfl ?_
   refine ar_mapUpdate rfl (m := m) (L := [(b1, .cells [.str c.name, .str c.data, .str c.to, .int .i64 c.kind]), (b, mObj l)]) 1 strAV strAV strKey_ok l c.to ((mget l c.name).getD []) rfl rfl rfl rfl rfl rfl hNb1 (by refine Nat.le_trans (mput_len _ _ _) (by omega)) ?_
   show K1 [(0, .map b), (3, .ptr ⟨b1, 0, none⟩)] (AMem.wth m [(b1, .cells [.str c.name, .str c.data, .str c.to, .int .i64 c.kind]), (b, mObj (mput l c.to ((mget l c.name).getD [])))])
   refine hK1 _ _ ?_; clear hK1 K1
   refine awp_reg2 [] [] (by decide) ?_
   intro K1 hK1
   refine ⟨trivial, ⟨rfl, by decide⟩, ?_⟩
   refine ar_loadp rfl (v := .str c.name) rfl (wth_get 0 hNb1 rfl) rfl (apartOk_one rfl rfl (Nat.le_of_ble_eq_true rfl)) rfl ?_
   refine ar_delete rfl (m := m) (L := [(b1, .cells [.str c.name, .str c.data, .str c.to, .int .i64 c.kind]), (b, mObj (mput l c.to ((mget l c.name).getD [])))]) 1 strAV strAV strKey_ok (mput l c.to ((mget l c.name).getD [])) c.name rfl rfl rfl rfl rfl hNb1 ?_
   show K1 [] (AMem.wth m [(b1, .cells [.str c.name, .str c.data, .str c.to, .int .i64 c.kind]), (b, mObj (mdel (mput l c.to ((mget l c.name).getD [])) c.name))])
   refine hK1 _ _ ?_; clear hK1 K1
   refine ⟨(AMem.wth m [(b, mObj (mdel (mput l c.to ((mget l c.name).getD [])) c.name))]), (wth_sub2 (m := m) [(b1, .cells [.str c.name, .str c.data, .str c.to, .int .i64 c.kind])] [(b, mObj (mdel (mput l c.to ((mget l c.name).getD [])) c.name))] hNb1 (by simp only [List.map_cons, List.map_nil, List.forall_mem_cons]; exact ⟨hFb1, fun _ h => by cases h⟩)), ?_⟩
   show K (.tuple []) (AMem.wth m [(b, mObj (mdel (mput l c.to ((mget l c.name).getD [])) c.name))])
  
   have e0 : applyC l c = (mdel (mput l c.to ((mget l c.name).getD [])) c.name : List (Str × Str)) := by
    unfold applyC; simp_all
   rw [e0] at hK
   exact hK
  replace h4 : c.kind ≠ 4 := (ne_of_beq_false h4)
  refine awp_reg2_seq [] [0, 3, 35] (by decide) ?_
  intro K1 hK1
  refine ⟨trivial, trivial, ?_⟩
  show K1 [(0, .map b), (3, .ptr ⟨b1, 0, none⟩), (35, .bool (c.kind == 5))] (AMem.wth m [(b1, .cells [.str c.name, .str c.data, .str c.to, .int .i64 c.kind]), (b, mObj l)])
  refine hK1 _ _ ?_; clear hK1 K1
  refine awp_cond rfl rfl (fun h5 => ?_) (fun h5 => ?_)
  ·
   replace h5 : c.kind = 5 := (eq_of_beq h5)
   refine awp_reg2 [] [] (by decide) ?_
   intro K1 hK1
   refine ⟨trivial, ⟨rfl, by decide⟩, ?_⟩
   refine ar_loadp rfl (v := .str c.name) rfl (wth_get 0 hNb1 rfl) rfl (apartOk_one rfl rfl (Nat.le_of_ble_eq_true rfl)) rfl ?_
   refine ar_delete rfl (m := m) (L := [(b1, .cells [.str c.name, .str c.data, .str c.to, .int .i64 c.kind]), (b, mObj l)]) 1 strAV strAV strKey_ok l c.name rfl rfl rfl rfl rfl hNb1 ?_
   show K1 [] (AMem.wth m [(b1, .cells [.str c.name, .str c.data, .str c.to, .int .i64 c.kind]), (b, mObj (mdel l c.name))])
   refine hK1 _ _ ?_; clear hK1 K1
   refine ⟨(AMem.wth m [(b, mObj (mdel l c.name))]), (wth_sub2 (m := m) [(b1, .cells [.str c.name, .str c.data, .str c.to, .int .i64 c.kind])] [(b, mObj (mdel l c.name))] hNb1 (by simp only [List.map_cons, List.map_nil, List.forall_mem_cons]; exact ⟨hFb1, fun _ h => by cases h⟩)), ?_⟩
   show K (.tuple []) (AMem.wth m [(b, mObj (mdel l c.name))])
  
   have e0 : applyC l c = (mdel l c.name : List (Str × Str)) := by
    unfold applyC; simp_all
   rw [e0] at hK
   exact hK
  replace h5 : c.kind ≠ 5 := (ne_of_beq_false h5)
  refine awp_skip ?_
  refine ⟨(AMem.wth m [(b, mObj l)]), (wth_sub2 (m := m) [(b1, .cells [.str c.name, .str c.data, .str c.to, .int .i64 c.kind])] [(b, mObj l)] hNb1 (by simp only [List.map_cons, List.map_nil, List.forall_mem_cons]; exact ⟨hFb1, fun _ h => by cases h⟩)), ?_⟩
  show K (.tuple []) (AMem.wth m [(b, mObj l)])
 
  have e0 : applyC l c = (l : List (Str × Str)) := by
   unfold applyC; simp_all
  rw [e0] at hK
  exact hK
 replace h1 : c.kind ≠ 1 := (ne_of_beq_false h1)
 refine awp_reg2 [] [0, 3, 5, 6] (by decide) ?_
 intro K1 hK1
 refine ⟨trivial, trivial, ?_⟩
 show K1 [(0, .map b), (3, .ptr ⟨b1, 0, none⟩), (5, .int .i64 c.kind), (6, .bool (c.kind == 3))] (AMem.wth m [(b1, .cells [.str c.name, .str c.data, .str c.to, .int .i64 c.kind]), (b, mObj l)])
 refine hK1 _ _ ?_; clear hK1 K1
 refine hK2 _ _ ?_; clear hK2
 refine awp_cond rfl rfl (fun h6 => ?_) (fun h6 => ?_)
 ·
  replace h6 : c.kind = 3 := (eq_of_beq h6)
  refine awp_reg2 [] [] (by decide) ?_
  intro K1 hK1
  refine ⟨trivial, ⟨rfl, by decide⟩, ?_⟩
  refine ar_loadp rfl (v := .str c.name) rfl (wth_get 0 hNb1 rfl) rfl (apartOk_one rfl rfl (Nat.le_of_ble_eq_true rfl)) rfl ?_
  refine ⟨⟨rfl, by decide⟩, ?_⟩
  refine ar_loadp rfl (v := .str c.data) rfl (wth_get 0 hNb1 rfl) rfl (apartOk_one rfl rfl (Nat.le_of_ble_eq_true rfl)) rfl ?_
  refine ar_mapUpdate rfl (m := m) (L := [(b1, .cells [.str c.name, .str c.data, .str c.to, .int .i64 c.kind]), (b, mObj l)]) 1 strAV strAV strKey_ok l c.name c.data rfl rfl rfl rfl rfl rfl hNb1 (by refine Nat.le_trans (mput_len _ _ _) (by omega)) ?_
  show K1 [] (AMem.wth m [(b1, .cells [.str c.name, .str c.data, .str c.to, .int .i64 c.kind]), (b, mObj (mput l c.name c.data))])
  refine hK1 _ _ ?_; clear hK1 K1
  refine ⟨(AMem.wth m [(b, mObj (mput l c.name c.data))]), (wth_sub2 (m := m) [(b1, .cells [.str c.name, .str c.data, .str c.to, .int .i64 c.kind])] [(b, mObj (mput l c.name c.data))] hNb1 (by simp only [List.map_cons, List.map_nil, List.forall_mem_cons]; exact ⟨hFb1, fun _ h => by cases h⟩)), ?_⟩
  show K (.tuple []) (AMem.wth m [(b, mObj (mput l c.name c.data))])
 
  have e0 : applyC l c = (mput l c.name c.data : List (Str × Str)) := by
   unfold applyC; simp_all
  rw [e0] at hK
  exact hK
 replace h6 : c.kind ≠ 3 := (ne_of_beq_false h6)
 refine awp_reg2_seq [] [0, 3, 5, 14] (by decide) ?_
 intro K1 hK1
 refine ⟨trivial, trivial, ?_⟩
 show K1 [(0, .map b), (3, .ptr ⟨b1, 0, none⟩), (5, .int .i64 c.kind), (14, .bool (c.kind == 2))] (AMem.wth m [(b1, .cells [.str c.name, .str c.data, .str c.to, .int .i64 c.kind]), (b, mObj l)])
 refine hK1 _ _ ?_; clear hK1 K1
 refine awp_cond rfl rfl (fun h7 => ?_) (fun h7 => ?_)
 ·
  replace h7 : c.kind = 2 := (eq_of_beq h7)
  refine awp_reg2 [] [] (by decide) ?_
  intro K1 hK1
  refine ⟨trivial, ⟨rfl, by decide⟩, ?_⟩
  refine ar_loadp rfl (v := .str c.name) rfl (wth_get 0 hNb1 rfl) rfl (apartOk_one rfl rfl (Nat.le_of_ble_eq_true rfl)) rfl ?_
  refine ar_lookup rfl (m := m) (L := [(b1, .cells [.str c.name, .str c.data, .str c.to, .int .i64 c.kind]), (b, mObj l)]) strAV strAV strKey_ok l c.name [] rfl rfl rfl rfl rfl (wth_get 1 hNb1 rfl) rfl ?_
  refine ⟨⟨rfl, by decide⟩, ?_⟩
  refine ar_loadp rfl (v := .str c.data) rfl (wth_get 0 hNb1 rfl) rfl (apartOk_one rfl rfl (Nat.le_of_ble_eq_true rfl)) rfl ?_
  refine ⟨(by omega), ?_⟩
  refine ar_mapUpdate rfl (m := m) (L := [(b1, .cells [.str c.name, .str c.data, .str c.to, .int .i64 c.kind]), (b, mObj l)]) 1 strAV strAV strKey_ok l c.name (((mget l c.name).getD []) ++ c.data) rfl rfl rfl rfl rfl rfl hNb1 (by refine Nat.le_trans (mput_len _ _ _) (by omega)) ?_
  show K1 [] (AMem.wth m [(b1, .cells [.str c.name, .str c.data, .str c.to, .int .i64 c.kind]), (b, mObj (mput l c.name (((mget l c.name).getD []) ++ c.data)))])
  refine hK1 _ _ ?_; clear hK1 K1
  refine ⟨(AMem.wth m [(b, mObj (mput l c.name (((mget l c.name).getD []) ++ c.data)))]), (wth_sub2 (m := m) [(b1, .cells [.str c.name, .str c.data, .str c.to, .int .i64 c.kind])] [(b, mObj (mput l c.name (((mget l c.name).getD []) ++ c.data)))] hNb1 (by simp only [List.map_cons, List.map_nil, List.forall_mem_cons]; exact ⟨hFb1, fun _ h => by cases h⟩)), ?_⟩
  show K (.tuple []) (AMem.wth m [(b, mObj (mput l c.name (((mget l c.name).getD []) ++ c.data)))])
 
  have e0 : applyC l c = (mput l c.name (((mget l c.name).getD []) ++ c.data) : List (Str × Str)) := by
   unfold applyC; simp_all
  rw [e0] at hK
  exact hK
 replace h7 : c.kind ≠ 2 := (ne_of_beq_false h7)
 refine awp_reg2_seq [] [0, 3, 5, 23] (by decide) ?_
 intro K1 hK1
 refine ⟨trivial, trivial, ?_⟩
 show K1 [(0, .map b), (3, .ptr ⟨b1, 0, none⟩), (5, .int .i64 c.kind), (23, .bool (c.kind == 4))] (AMem.wth m [(b1, .cells [.str c.name, .str c.data, .str c.to, .int .i64 c.kind]), (b, mObj l)])
 refine hK1 _ _ ?_; clear hK1 K1
 refine awp_cond rfl rfl (fun h8 => ?_) (fun h8 => ?_)
 ·
  replace h8 : c.kind = 4 := (eq_of_beq h8)
  refine awp_reg2_seq [] [0, 3] (by decide) ?_
  intro K1 hK1
  refine ⟨trivial, ⟨rfl, by decide⟩, ?_⟩
  refine ar_loadp rfl (v := .str c.to) rfl (wth_get 0 hNb1 rfl) rfl (apartOk_one rfl rfl (Nat.le_of_ble_eq_true rfl)) rfl ?_
  refine ⟨trivial, ⟨rfl, by decide⟩, ?_⟩
  refine ar_loadp rfl (v := .str c.name) rfl (wth_get 0 hNb1 rfl) rfl (apartOk_one rfl rfl (Nat.le_of_ble_eq_true rfl)) rfl ?_
  refine ar_lookup rfl (m := m) (L := [(b1, .cells [.str c.name, .str c.data, .str c.to, .int .i64 c.kind]), (b, mObj l)]) strAV strAV strKey_ok l c.name [] rfl rfl rfl rfl rfl (wth_get 1 hNb1 rfl) rfl ?_
  refine ar_mapUpdate rfl (m := m) (L := [(b1, .cells [.str c.name, .str c.data, .str c.to, .int .i64 c.kind]), (b, mObj l)]) 1 strAV strAV strKey_ok l c.to ((mget l c.name).getD []) rfl rfl rfl rfl rfl rfl hNb1 (by refine Nat.le_trans (mput_len _ _ _) (by omega)) ?_
  show K1 [(0, .map b), (3, .ptr ⟨b1, 0, none⟩)] (AMem.wth m [(b1, .cells [.str c.name, .str c.data, .str c.to, .int .i64 c.kind]), (b, mObj (mput l c.to ((mget l c.name).getD [])))])
  refine hK1 _ _ ?_; clear hK1 K1
  refine awp_reg2 [] [] (by decide) ?_
  intro K1 hK1
  refine ⟨trivial, ⟨rfl, by decide⟩, ?_⟩
  refine ar_loadp rfl (v := .str c.name) rfl (wth_get 0 hNb1 rfl) rfl (apartOk_one rfl rfl (Nat.le_of_ble_eq_true rfl)) rfl ?_
  refine ar_delete rfl (m := m) (L := [(b1, .cells [.str c.name, .str c.data, .str c.to, .int .i64 c.kind]), (b, mObj (mput l c.to ((mget l c.name).getD [])))]) 1 strAV strAV strKey_ok (mput l c.to ((mget l c.name).getD [])) c.name rfl rfl rfl rfl rfl hNb1 ?_
  show K1 [] (AMem.wth m [(b1, .cells [.str c.name, .str c.data, .str c.to, .int .i64 c.kind]), (b, mObj (mdel (mput l c.to ((mget l c.name).getD [])) c.name))])
  refine hK1 _ _ ?_; clear hK1 K1
  refine ⟨(AMem.wth m [(b, mObj (mdel (mput l c.to ((mget l c.name).getD [])) c.name))]), (wth_sub2 (m := m) [(b1, .cells [.str c.name, .str c.data, .str c.to, .int .i64 c.kind])] [(b, mObj (mdel (mput l c.to ((mget l c.name).getD [])) c.name))] hNb1 (by simp only [List.map_cons, List.map_nil, List.forall_mem_cons]; exact ⟨hFb1, fun _ h => by cases h⟩)), ?_⟩
  show K (.tuple []) (AMem.wth m [(b, mObj (mdel (mput l c.to ((mget l c.name).getD [])) c.name))])
 
  have e0 : applyC l c = (mdel (mput l c.to ((mget l c.name).getD [])) c.name : List (Str × Str)) := by
   unfold applyC; simp_all
  rw [e0] at hK
  exact hK
 replace h8 : c.kind ≠ 4 := (ne_of_beq_false h8)
 refine awp_reg2_seq [] [0, 3, 35] (by decide) ?_
 intro K1 hK1
 refine ⟨trivial, trivial, ?_⟩
 show K1 [(0, .map b), (3, .ptr ⟨b1, 0, none⟩), (35, .bool (c.kind == 5))] (AMem.wth m [(b1, .cells [.str c.name, .str c.data, .str c.to, .int .i64 c.kind]), (b, mObj l)])
 refine hK1 _ _ ?_; clear hK1 K1
 refine awp_cond rfl rfl (fun h9 => ?_) (fun h9 => ?_)
 ·
  replace h9 : c.kind = 5 := (eq_of_beq h9)
  refine awp_reg2 [] [] (by decide) ?_
  intro K1 hK1
  refine ⟨trivial, ⟨rfl, by decide⟩, ?_⟩
  refine ar_loadp rfl (v := .str c.name) rfl (wth_get 0 hNb1 rfl) rfl (apartOk_one rfl rfl (Nat.le_of_ble_eq_true rfl)) rfl ?_
  refine ar_delete rfl (m := m) (L := [(b1, .cells [.str c.name, .str c.data, .str c.to, .int .i64 c.kind]), (b, mObj l)]) 1 strAV strAV strKey_ok l c.name rfl rfl rfl rfl rfl hNb1 ?_
  show K1 [] (AMem.wth m [(b1, .cells [.str c.name, .str c.data, .str c.to, .int .i64 c.kind]), (b, mObj (mdel l c.name))])
  refine hK1 _ _ ?_; clear hK1 K1
  refine ⟨(AMem.wth m [(b, mObj (mdel l c.name))]), (wth_sub2 (m := m) [(b1, .cells [.str c.name, .str c.data, .str c.to, .int .i64 c.kind])] [(b, mObj (mdel l c.name))] hNb1 (by simp only [List.map_cons, List.map_nil, List.forall_mem_cons]; exact ⟨hFb1, fun _ h => by cases h⟩)), ?_⟩
  show K (.tuple []) (AMem.wth m [(b, mObj (mdel l c.name))])
 
  have e0 : applyC l c = (mdel l c.name : List (Str × Str)) := by
   unfold applyC; simp_all
  rw [e0] at hK
  exact hK
 replace h9 : c.kind ≠ 5 := (ne_of_beq_false h9)
 refine awp_skip ?_
 refine ⟨(AMem.wth m [(b, mObj l)]), (wth_sub2 (m := m) [(b1, .cells [.str c.name, .str c.data, .str c.to, .int .i64 c.kind])] [(b, mObj l)] hNb1 (by simp only [List.map_cons, List.map_nil, List.forall_mem_cons]; exact ⟨hFb1, fun _ h => by cases h⟩)), ?_⟩
 show K (.tuple []) (AMem.wth m [(b, mObj l)])

 have e0 : applyC l c = (l : List (Str × Str)) := by
  unfold applyC; simp_all
 rw [e0] at hK
 exact hK


theorem stepF_keep (s : DSt) : (stepF s).1.kept = s.kept ∧ (stepF s).1.now = s.now ∧ (stepF s).1.wait = s.wait ∧ 0 ≤ (stepF s).2 := by
  unfold stepF; split
  · exact ⟨rfl, rfl, rfl, by simp⟩
  · split
    · exact ⟨rfl, rfl, rfl, by simp⟩
    · exact ⟨rfl, rfl, rfl, by simp⟩
theorem stepF_steps (s : DSt) : s.steps ≤ (stepF s).1.steps ∧ (stepF s).1.steps ≤ s.steps + 1 := by
  unfold stepF; split
  · exact ⟨by simp; try omega, by simp; try omega⟩
  · split
    · exact ⟨by simp; try omega, by simp; try omega⟩
    · exact ⟨by simp; try omega, by simp; try omega⟩

set_option maxHeartbeats 2000000 in
theorem u_Step (d kb nb : Nat) (s : DSt) (hst : 0 ≤ s.steps) (hst2 : s.steps ≤ 4611686018427387904) (hfu : -1 ≤ s.fuse) (hfu2 : s.fuse ≤ 9223372036854775807) (m : AMem)  (K : AV → AMem → Prop) (hK : K (.err 108 (stepF s).2) (AMem.wth m [(d, dObj kb nb (stepF s).1)])) : ACalls Try.prog 35 [.ptr ⟨d, 0, none⟩] (AMem.wth m [(d, dObj kb nb s)]) K := by
 refine acalls_enter Try.func35 rfl (by decide) (Nat.le_of_ble_eq_true rfl) ?_
 show AWP _ _ _ _ [(0, .ptr ⟨d, 0, none⟩)] (AMem.wth m [(d, dObj kb nb s)])
 refine awp_reg2_seq [] [0] (by decide) ?_
 intro K1 hK1
 refine ⟨trivial, ?_⟩
 show K1 [(0, .ptr ⟨d, 0, none⟩)] (AMem.wth m [(d, dObj kb nb s)])
 refine hK1 _ _ ?_; clear hK1 K1
 refine awp_seq_k ?_; intro K2 hK2
 refine awp_reg2_seq [] [0, 6] (by decide) ?_
 intro K1 hK1
 refine ⟨trivial, trivial, ⟨rfl, by decide⟩, ?_⟩
 refine ar_loadp rfl (v := .bool s.down) rfl (wth_get 0 (nodup_1 d) rfl) rfl (apartOk_one rfl rfl (Nat.le_of_ble_eq_true rfl)) rfl ?_
 show K1 [(0, .ptr ⟨d, 0, none⟩), (6, .bool s.down)] (AMem.wth m [(d, dObj kb nb s)])
 refine hK1 _ _ ?_; clear hK1 K1
 refine awp_cond rfl rfl (fun h1 => ?_) (fun h1 => ?_)
 ·
  replace h1 : s.down = true := h1
  refine awp_reg2_seq [] [2] (by decide) ?_
  intro K1 hK1
  refine ⟨trivial, trivial, ?_⟩
  show K1 [(2, .iface 108 (.int .i64 10))] (AMem.wth m [(d, dObj kb nb s)])
  refine hK1 _ _ ?_; clear hK1 K1
  refine awp_toErr 108 [2] ?_
  show AWP _ _ _ _ [(2, .err 108 10)] (AMem.wth m [(d, dObj kb nb s)])
  refine awp_ret ?_
  refine ⟨trivial, (AMem.wth m [(d, dObj kb nb s)]), fun _ _ h => h, ?_⟩
  show K (.err 108 10) (AMem.wth m [(d, dObj kb nb s)])
 
  have e0 : stepF s = ((s, 10) : DSt × Int) := by
   obtain ⟨kept, now, wait, fuse, down, steps⟩ := s
   simp_all [stepF] <;> omega
  rw [e0] at hK
  exact hK
 replace h1 : s.down = false := h1
 refine awp_skip ?_
 refine hK2 _ _ ?_; clear hK2
 refine awp_seq_k ?_; intro K3 hK3
 refine awp_reg2_seq [] [0, 12] (by decide) ?_
 intro K1 hK1
 refine ⟨trivial, trivial, ⟨rfl, by decide⟩, ?_⟩
 refine ar_loadp rfl (v := .int .i64 s.fuse) rfl (wth_get 0 (nodup_1 d) rfl) rfl (apartOk_one rfl rfl (Nat.le_of_ble_eq_true rfl)) rfl ?_
 refine ⟨trivial, ?_⟩
 show K1 [(0, .ptr ⟨d, 0, none⟩), (12, .bool (s.fuse == 0))] (AMem.wth m [(d, dObj kb nb s)])
 refine hK1 _ _ ?_; clear hK1 K1
 refine awp_cond rfl rfl (fun h2 => ?_) (fun h2 => ?_)
 ·
  replace h2 : s.fuse = 0 := (eq_of_beq h2)
  refine awp_reg2_seq [] [0] (by decide) ?_
  intro K1 hK1
  refine ⟨trivial, trivial, ⟨rfl, by decide⟩, ?_⟩
  refine ar_storep rfl 0 (v := .bool true) (l' := [.map kb, .map nb, .slice true (s.wait.map chgAV), .int .i64 s.fuse, .bool true, .int .i64 s.steps]) rfl rfl (nodup_1 d) rfl rfl rfl rfl rfl (Nat.le_of_ble_eq_true rfl) rfl ?_
  show K1 [(0, .ptr ⟨d, 0, none⟩)] (AMem.wth m [(d, .cells [.map kb, .map nb, .slice true (s.wait.map chgAV), .int .i64 s.fuse, .bool true, .int .i64 s.steps])])
  refine hK1 _ _ ?_; clear hK1 K1
  refine awp_reg2_seq [] [] (by decide) ?_
  intro K1 hK1
  refine ⟨trivial, trivial, ⟨rfl, by decide⟩, ?_⟩
  refine ar_storep rfl 0 (v := .int .i64 (-1)) (l' := [.map kb, .map nb, .slice true (s.wait.map chgAV), .int .i64 (-1), .bool true, .int .i64 s.steps]) rfl rfl (nodup_1 d) rfl rfl rfl rfl rfl (Nat.le_of_ble_eq_true rfl) rfl ?_
  show K1 [] (AMem.wth m [(d, .cells [.map kb, .map nb, .slice true (s.wait.map chgAV), .int .i64 (-1), .bool true, .int .i64 s.steps])])
  refine hK1 _ _ ?_; clear hK1 K1
  refine awp_reg2_seq [] [2] (by decide) ?_
  intro K1 hK1
  refine ⟨trivial, trivial, ?_⟩
  show K1 [(2, .iface 108 (.int .i64 10))] (AMem.wth m [(d, .cells [.map kb, .map nb, .slice true (s.wait.map chgAV), .int .i64 (-1), .bool true, .int .i64 s.steps])])
  refine hK1 _ _ ?_; clear hK1 K1
  refine awp_toErr 108 [2] ?_
  show AWP _ _ _ _ [(2, .err 108 10)] (AMem.wth m [(d, .cells [.map kb, .map nb, .slice true (s.wait.map chgAV), .int .i64 (-1), .bool true, .int .i64 s.steps])])
  refine awp_ret ?_
  refine ⟨trivial, (AMem.wth m [(d, .cells [.map kb, .map nb, .slice true (s.wait.map chgAV), .int .i64 (-1), .bool true, .int .i64 s.steps])]), fun _ _ h => h, ?_⟩
  show K (.err 108 10) (AMem.wth m [(d, .cells [.map kb, .map nb, .slice true (s.wait.map chgAV), .int .i64 (-1), .bool true, .int .i64 s.steps])])
 
  have e0 : stepF s = (((⟨s.kept, s.now, s.wait, -1, true, s.steps⟩ : DSt), 10) : DSt × Int) := by
   obtain ⟨kept, now, wait, fuse, down, steps⟩ := s
   simp_all [stepF] <;> omega
  rw [e0] at hK
  exact hK
 replace h2 : s.fuse ≠ 0 := (ne_of_beq_false h2)
 refine awp_skip ?_
 refine hK3 _ _ ?_; clear hK3
 refine awp_seq_k ?_; intro K4 hK4
 refine awp_reg2_seq [] [0, 24] (by decide) ?_
 intro K1 hK1
 refine ⟨trivial, trivial, ⟨rfl, by decide⟩, ?_⟩
 refine ar_loadp rfl (v := .int .i64 s.fuse) rfl (wth_get 0 (nodup_1 d) rfl) rfl (apartOk_one rfl rfl (Nat.le_of_ble_eq_true rfl)) rfl ?_
 refine ⟨trivial, ?_⟩
 show K1 [(0, .ptr ⟨d, 0, none⟩), (24, .bool (decide (0 < s.fuse)))] (AMem.wth m [(d, dObj kb nb s)])
 refine hK1 _ _ ?_; clear hK1 K1
 refine awp_cond rfl rfl (fun h3 => ?_) (fun h3 => ?_)
 ·
  replace h3 : 0 < s.fuse := (of_decide_eq_true h3)
  refine awp_reg2 [] [0] (by decide) ?_
  intro K1 hK1
  refine ⟨trivial, trivial, ⟨rfl, by decide⟩, ?_⟩
  refine ar_loadp rfl (v := .int .i64 s.fuse) rfl (wth_get 0 (nodup_1 d) rfl) rfl (apartOk_one rfl rfl (Nat.le_of_ble_eq_true rfl)) rfl ?_
  refine ar_sub rfl (a := s.fuse) (b := 1) rfl rfl (by omega) (by omega) ?_
  refine ⟨trivial, ⟨rfl, by decide⟩, ?_⟩
  refine ar_storep rfl 0 (v := .int .i64 (s.fuse - 1)) (l' := [.map kb, .map nb, .slice true (s.wait.map chgAV), .int .i64 (s.fuse - 1), .bool s.down, .int .i64 s.steps]) rfl rfl (nodup_1 d) rfl rfl rfl rfl rfl (Nat.le_of_ble_eq_true rfl) rfl ?_
  show K1 [(0, .ptr ⟨d, 0, none⟩)] (AMem.wth m [(d, .cells [.map kb, .map nb, .slice true (s.wait.map chgAV), .int .i64 (s.fuse - 1), .bool s.down, .int .i64 s.steps])])
  refine hK1 _ _ ?_; clear hK1 K1
  refine hK4 _ _ ?_; clear hK4
  refine awp_reg2_seq [] [] (by decide) ?_
  intro K1 hK1
  refine ⟨trivial, trivial, ⟨rfl, by decide⟩, ?_⟩
  refine ar_loadp rfl (v := .int .i64 s.steps) rfl (wth_get 0 (nodup_1 d) rfl) rfl (apartOk_one rfl rfl (Nat.le_of_ble_eq_true rfl)) rfl ?_
  refine ar_add rfl (a := s.steps) (b := 1) rfl rfl (by omega) (by omega) ?_
  refine ⟨trivial, ⟨rfl, by decide⟩, ?_⟩
  refine ar_storep rfl 0 (v := .int .i64 (s.steps + 1)) (l' := [.map kb, .map nb, .slice true (s.wait.map chgAV), .int .i64 (s.fuse - 1), .bool s.down, .int .i64 (s.steps + 1)]) rfl rfl (nodup_1 d) rfl rfl rfl rfl rfl (Nat.le_of_ble_eq_true rfl) rfl ?_
  show K1 [] (AMem.wth m [(d, .cells [.map kb, .map nb, .slice true (s.wait.map chgAV), .int .i64 (s.fuse - 1), .bool s.down, .int .i64 (s.steps + 1)])])
  refine hK1 _ _ ?_; clear hK1 K1
  refine awp_reg2_seq [] [2] (by decide) ?_
  intro K1 hK1
  refine ⟨trivial, ?_⟩
  show K1 [(2, .nilIface)] (AMem.wth m [(d, .cells [.map kb, .map nb, .slice true (s.wait.map chgAV), .int .i64 (s.fuse - 1), .bool s.down, .int .i64 (s.steps + 1)])])
  refine hK1 _ _ ?_; clear hK1 K1
  refine awp_toErr 108 [2] ?_
  show AWP _ _ _ _ [(2, .err 108 0)] (AMem.wth m [(d, .cells [.map kb, .map nb, .slice true (s.wait.map chgAV), .int .i64 (s.fuse - 1), .bool s.down, .int .i64 (s.steps + 1)])])
  refine awp_ret ?_
  refine ⟨trivial, (AMem.wth m [(d, .cells [.map kb, .map nb, .slice true (s.wait.map chgAV), .int .i64 (s.fuse - 1), .bool s.down, .int .i64 (s.steps + 1)])]), fun _ _ h => h, ?_⟩
  show K (.err 108 0) (AMem.wth m [(d, .cells [.map kb, .map nb, .slice true (s.wait.map chgAV), .int .i64 (s.fuse - 1), .bool s.down, .int .i64 (s.steps + 1)])])
 
  have e0 : stepF s = (((⟨s.kept, s.now, s.wait, s.fuse - 1, s.down, s.steps + 1⟩ : DSt), 0) : DSt × Int) := by
   obtain ⟨kept, now, wait, fuse, down, steps⟩ := s
   simp_all [stepF] <;> omega
  rw [e0] at hK
  exact hK
 replace h3 : s.fuse ≤ 0 := (Int.not_lt.1 (of_decide_eq_false h3))
 refine awp_skip ?_
 refine hK4 _ _ ?_; clear hK4
 refine awp_reg2_seq [] [] (by decide) ?_
 intro K1 hK1
 refine ⟨trivial, trivial, ⟨rfl, by decide⟩, ?_⟩
 refine ar_loadp rfl (v := .int .i64 s.steps) rfl (wth_get 0 (nodup_1 d) rfl) rfl (apartOk_one rfl rfl (Nat.le_of_ble_eq_true rfl)) rfl ?_
 refine ar_add rfl (a := s.steps) (b := 1) rfl rfl (by omega) (by omega) ?_
 refine ⟨trivial, ⟨rfl, by decide⟩, ?_⟩
 refine ar_storep rfl 0 (v := .int .i64 (s.steps + 1)) (l' := [.map kb, .map nb, .slice true (s.wait.map chgAV), .int .i64 s.fuse, .bool s.down, .int .i64 (s.steps + 1)]) rfl rfl (nodup_1 d) rfl rfl rfl rfl rfl (Nat.le_of_ble_eq_true rfl) rfl ?_
 show K1 [] (AMem.wth m [(d, .cells [.map kb, .map nb, .slice true (s.wait.map chgAV), .int .i64 s.fuse, .bool s.down, .int .i64 (s.steps + 1)])])
 refine hK1 _ _ ?_; clear hK1 K1
 refine awp_reg2_seq [] [2] (by decide) ?_
 intro K1 hK1
 refine ⟨trivial, ?_⟩
 show K1 [(2, .nilIface)] (AMem.wth m [(d, .cells [.map kb, .map nb, .slice true (s.wait.map chgAV), .int .i64 s.fuse, .bool s.down, .int .i64 (s.steps + 1)])])
 refine hK1 _ _ ?_; clear hK1 K1
 refine awp_toErr 108 [2] ?_
 show AWP _ _ _ _ [(2, .err 108 0)] (AMem.wth m [(d, .cells [.map kb, .map nb, .slice true (s.wait.map chgAV), .int .i64 s.fuse, .bool s.down, .int .i64 (s.steps + 1)])])
 refine awp_ret ?_
 refine ⟨trivial, (AMem.wth m [(d, .cells [.map kb, .map nb, .slice true (s.wait.map chgAV), .int .i64 s.fuse, .bool s.down, .int .i64 (s.steps + 1)])]), fun _ _ h => h, ?_⟩
 show K (.err 108 0) (AMem.wth m [(d, .cells [.map kb, .map nb, .slice true (s.wait.map chgAV), .int .i64 s.fuse, .bool s.down, .int .i64 (s.steps + 1)])])

 have e0 : stepF s = (((⟨s.kept, s.now, s.wait, s.fuse, s.down, s.steps + 1⟩ : DSt), 0) : DSt × Int) := by
  obtain ⟨kept, now, wait, fuse, down, steps⟩ := s
  simp_all [stepF] <;> omega
 rw [e0] at hK
 exact hK


structure DInv (N : Nat) (s : DSt) : Prop where
  st0 : 0 ≤ s.steps
  st1 : s.steps ≤ N
  fu0 : -1 ≤ s.fuse
  fu1 : s.fuse ≤ 9223372036854775807
  kl : s.kept.length + s.wait.length ≤ N
  kb : ∀ p ∈ s.kept, p.2.length + 4000 * s.wait.length ≤ 4000 * N
  cd : ∀ c ∈ s.wait, c.data.length ≤ 4000
  nl : s.now.length ≤ N
  nb : ∀ p ∈ s.now, p.2.length ≤ 4000 * N
theorem mput_mem {l : List (Str × Str)} {k v : Str} {p : Str × Str} (h : p ∈ mput l k v) : p ∈ l ∨ p = (k, v) := by
  induction l with
  | nil => simp [mput] at h; exact .inr h
  | cons q r ih =>
    obtain ⟨a, b⟩ := q
    simp only [mput] at h
    split at h
    · rcases List.mem_cons.1 h with h | h
      · exact .inr h
      · exact .inl (by simp [h])
    · rcases List.mem_cons.1 h with h | h
      · exact .inl (by simp [h])
      · rcases ih h with h | h
        · exact .inl (by simp [h])
        · exact .inr h
theorem mdel_mem {l : List (Str × Str)} {k : Str} {p : Str × Str} (h : p ∈ mdel l k) : p ∈ l := by
  induction l with
  | nil => simp [mdel] at h
  | cons q r ih =>
    obtain ⟨a, b⟩ := q
    simp only [mdel] at h
    split at h
    · simp [h]
    · rcases List.mem_cons.1 h with h | h
      · simp [h]
      · simp [ih h]
theorem applyC_len (l : List (Str × Str)) (c : Chg) : (applyC l c).length ≤ l.length + 1 := by
  unfold applyC
  split
  · exact mput_len _ _ _
  · split
    · exact mput_len _ _ _
    · split
      · have h1 := mdel_len (mput l c.to ((mget l c.name).getD [])) c.name
        have h2 := mput_len l c.to ((mget l c.name).getD [])
        omega
      · split
        · have := mdel_len l c.name; omega
        · omega
theorem applyC_bnd {l : List (Str × Str)} {c : Chg} {B : Nat} (h : ∀ p ∈ l, p.2.length ≤ B) (hc : c.data.length ≤ 4000) : ∀ p ∈ applyC l c, p.2.length ≤ B + 4000 := by
  intro p hp
  have hg := mget_le (k := c.name) h
  unfold applyC at hp
  split at hp
  · rcases mput_mem hp with hp | rfl
    · have := h p hp; omega
    · simp; omega
  · split at hp
    · rcases mput_mem hp with hp | rfl
      · have := h p hp; omega
      · simp; omega
    · split at hp
      · rcases mput_mem (mdel_mem hp) with hp | rfl
        · have := h p hp; omega
        · simp; omega
      · split at hp
        · have := h p (mdel_mem hp); omega
        · have := h p hp; omega
def applyL (l : List (Str × Str)) (cs : List Chg) : List (Str × Str) := cs.foldl applyC l
theorem applyL_bnd {cs : List Chg} (hc : ∀ c ∈ cs, c.data.length ≤ 4000) : ∀ {l : List (Str × Str)} {B : Nat}, (∀ p ∈ l, p.2.length ≤ B) → (applyL l cs).length ≤ l.length + cs.length ∧ ∀ p ∈ applyL l cs, p.2.length ≤ B + 4000 * cs.length := by
  induction cs with
  | nil => intro l B h; exact ⟨by simp [applyL], fun p hp => by have := h p hp; simp; omega⟩
  | cons c cs ih =>
    intro l B h
    have h1 := applyC_len l c
    have h2 := ih (fun c hc' => hc c (by simp [hc'])) (applyC_bnd h (hc c (by simp)))
    have e : applyL l (c :: cs) = applyL (applyC l c) cs := rfl
    rw [e, List.length_cons]
    exact ⟨by omega, fun p hp => by have := h2.2 p hp; omega⟩
theorem DInv.step {N : Nat} {s : DSt} (h : DInv N s) : DInv (N + 1) (stepF s).1 := by
  have k := stepF_keep s
  have q := stepF_steps s
  have hf : -1 ≤ (stepF s).1.fuse ∧ (stepF s).1.fuse ≤ 9223372036854775807 := by
    have := h.fu0; have := h.fu1
    unfold stepF; split
    · exact ⟨by assumption, by assumption⟩
    · split
      · exact ⟨by simp, by simp⟩
      · simp only; split <;> omega
  have := h.st0; have := h.st1; have := h.kl
  refine ⟨by omega, by omega, hf.1, hf.2, by rw [k.1, k.2.2.1]; omega, fun p hp => ?_, fun c hc => ?_, ?_, fun p hp => ?_⟩
  · rw [k.1] at hp; rw [k.2.2.1]; have := h.kb p hp; omega
  · rw [k.2.2.1] at hc; exact h.cd c hc
  · rw [k.2.1]; have := h.nl; omega
  · rw [k.2.1] at hp; have := h.nb p hp; omega
theorem DInv.do {N : Nat} {s : DSt} {c : Chg} (h : DInv N s) (hc : c.data.length ≤ 4000) : DInv (N + 1) (doF s c).1 := by
  unfold doF
  split
  · exact h.step
  · have k := stepF_keep s
    have g := h.step
    have := h.kl; have := h.nl; have := applyC_len s.now c
    refine ⟨g.st0, g.st1, g.fu0, g.fu1, by rw [k.1]; simp; omega, fun p hp => ?_, fun c' hc' => ?_, by simp; omega, fun p hp => ?_⟩
    · rw [k.1] at hp; have := h.kb p hp; simp; omega
    · rcases List.mem_append.1 hc' with hc' | hc'
      · exact h.cd c' hc'
      · simp at hc'; subst hc'; exact hc
    · have := applyC_bnd h.nb hc p hp; omega
def syncF (s : DSt) : DSt × Int :=
  if (stepF s).2 ≠ 0 then stepF s else ({ (stepF s).1 with kept := applyL s.kept s.wait, wait := [] }, 0)
theorem DInv.sync {N : Nat} {s : DSt} (h : DInv N s) : DInv (N + 1) (syncF s).1 := by
  unfold syncF
  split
  · exact h.step
  · have k := stepF_keep s
    have g := h.step
    have := h.kl; have := h.nl
    have a := applyL_bnd h.cd (l := s.kept) (B := 4000 * N - 4000 * s.wait.length) (fun p hp => by have := h.kb p hp; omega)
    refine ⟨g.st0, g.st1, g.fu0, g.fu1, by simp; omega, fun p hp => ?_, by simp, by rw [k.2.1]; omega, fun p hp => ?_⟩
    · have := a.2 p hp; simp; omega
    · rw [k.2.1] at hp; have := h.nb p hp; omega
theorem DInv.mono {N M : Nat} {s : DSt} (h : DInv N s) (hm : N ≤ M) : DInv M s :=
  ⟨h.st0, by have := h.st1; omega, h.fu0, h.fu1, by have := h.kl; omega, fun p hp => by have := h.kb p hp; omega, h.cd, by have := h.nl; omega, fun p hp => by have := h.nb p hp; omega⟩

end Go.Proofs
end
section
namespace Go.Proofs
open Go Go.Aw
set_option maxRecDepth 100000


def nameC (c : UInt8) : Bool := (decide (97 ≤ (c.toNat : Int)) && decide ((c.toNat : Int) ≤ 122)) || (decide (48 ≤ (c.toNat : Int)) && decide ((c.toNat : Int) ≤ 57)) || ((c.toNat : Int) == 46)
def nameF (s : Str) : Bool := s.all nameC && !(s == []) && decide ((s.length : Int) ≤ 24)
def mayR (s : DSt) (name : Str) (size : Int) : Int :=
  if nameF name = false then 3 else if 4000 < size then 2 else if (mget s.now name).isSome = false ∧ 40 ≤ (s.now.length : Int) then 2 else 0
def writeR (s : DSt) (name data : Str) : DSt × Int := if mayR s name data.length ≠ 0 then (s, mayR s name data.length) else doF s ⟨name, data, [], 1⟩
def appR (s : DSt) (name data : Str) : DSt × Int :=
  if 4000 < (data.length : Int) then (s, 2)
  else if mayR s name (((mget s.now name).getD []).length + data.length) ≠ 0 then (s, mayR s name (((mget s.now name).getD []).length + data.length))
  else doF s ⟨name, data, [], 2⟩
def readR (s : DSt) (name : Str) : Str × Int := if s.down = true then ([], 10) else if (mget s.now name).isSome = false then ([], 7) else ((mget s.now name).getD [], 0)
theorem mayR_size {s : DSt} {n : Str} {z : Int} (h : mayR s n z = 0) : z ≤ 4000 := by
  unfold mayR at h
  split at h
  · cases h
  · split at h
    · cases h
    · omega
theorem applyL_step {l : List (Str × Str)} {cs : List Chg} {i : Int} (h0 : 0 ≤ i) (hi : i < cs.length) : applyC (applyL l (cs.take i.toNat)) (gI cs i) = applyL l (cs.take (i + 1).toNat) := by
  rw [take_succ_gI h0 hi, applyL, applyL, List.foldl_append]; rfl

theorem u_New   (m : AMem)  (K : AV → AMem → Prop) (hK : ∀ d nb kb, ([d, nb, kb] : List Nat).Nodup → m d = none → m nb = none → m kb = none → K (.ptr ⟨d, 0, none⟩) (AMem.wth m [(d, dObj kb nb ⟨[], [], [], -1, false, 0⟩), (nb, mObj []), (kb, mObj [])])) : ACalls Try.prog 11 [] m K := by
 refine acalls_enter Try.func11 rfl (by decide) (Nat.le_of_ble_eq_true rfl) ?_
 show AWP _ _ _ _ [] m
 refine awp_reg2_seq [] [] (by decide) ?_
 intro K1 hK1
 refine ⟨trivial, ?_⟩
 show K1 [] m
 refine hK1 _ _ ?_; clear hK1 K1
 refine awp_reg2_seq [] [0] (by decide) ?_
 intro K1 hK1
 refine ar_makeMap rfl (m := m) (L := []) rfl ?_
 intro b1 hb1
 have hFb1 : m b1 = none := wth_none (m := m) (L := []) hb1
 have hNb1 : ([b1] : List Nat).Nodup := wth_nodup (m := m) (L := []) hb1 List.nodup_nil
 refine ar_makeMap rfl (m := m) (L := [(b1, mObj ([] : List ((List UInt8) × (List UInt8))))]) rfl ?_
 intro b2 hb2
 have hFb2 : m b2 = none := wth_none hb2
 have hNb2 : ([b2, b1] : List Nat).Nodup := wth_nodup hb2 hNb1
 refine ⟨⟨rfl, by simp only [List.forall_mem_cons]; exact ⟨rfl, rfl, rfl, rfl, rfl, rfl, fun _ h => by cases h⟩, by simp only [List.forall_mem_cons]; exact ⟨rfl, rfl, rfl, fun _ h => by cases h⟩⟩, ?_⟩
 refine ar_box rfl (m := m) (L := [(b2, mObj ([] : List ((List UInt8) × (List UInt8)))), (b1, mObj ([] : List ((List UInt8) × (List UInt8))))]) (v := .agg [.map b1, .map b2, .slice true [], .int .i64 (-1), .bool false, .int .i64 0]) rfl rfl ?_
 intro b3 hb3
 have hFb3 : m b3 = none := wth_none hb3
 have hNb3 : ([b3, b2, b1] : List Nat).Nodup := wth_nodup hb3 hNb2
 refine ⟨trivial, ?_⟩
 show K1 [(0, .ptr ⟨b3, 0, none⟩)] (AMem.wth m [(b3, .cells [.map b1, .map b2, .slice true [], .int .i64 (-1), .bool false, .int .i64 0]), (b2, mObj ([] : List ((List UInt8) × (List UInt8)))), (b1, mObj ([] : List ((List UInt8) × (List UInt8))))])
 refine hK1 _ _ ?_; clear hK1 K1
 refine awp_ret ?_
 refine ⟨trivial, (AMem.wth m [(b3, .cells [.map b1, .map b2, .slice true [], .int .i64 (-1), .bool false, .int .i64 0]), (b2, mObj ([] : List ((List UInt8) × (List UInt8)))), (b1, mObj ([] : List ((List UInt8) × (List UInt8))))]), fun _ _ h => h, ?_⟩
 show K (.ptr ⟨b3, 0, none⟩) (AMem.wth m [(b3, .cells [.map b1, .map b2, .slice true [], .int .i64 (-1), .bool false, .int .i64 0]), (b2, mObj ([] : List ((List UInt8) × (List UInt8)))), (b1, mObj ([] : List ((List UInt8) × (List UInt8))))])

 exact hK b3 b2 b1 hNb3 hFb3 hFb2 hFb1

end Go.Proofs
end
section
namespace Go.Proofs
open Go Go.Aw
set_option maxRecDepth 100000


/-- A value, as data. -/
inductive Val where
  | mk (kind n : Int) (s : Str) (l : List Val) (f : List (Str × Val))
instance : Inhabited Val := ⟨.mk 0 0 [] [] []⟩
def Val.kind : Val → Int | .mk k _ _ _ _ => k
def Val.n : Val → Int | .mk _ n _ _ _ => n
def Val.s : Val → Str | .mk _ _ s _ _ => s
def Val.l : Val → List Val | .mk _ _ _ l _ => l
def Val.f : Val → List (Str × Val) | .mk _ _ _ _ f => f
mutual
def valIn : Val → AV
  | .mk k n s l f => .agg [.int .i64 k, .int .i64 n, .str s, .slice false (valsIn l), .slice false (fldsIn f)]
def valsIn : List Val → List AV
  | [] => []
  | v :: r => valIn v :: valsIn r
def fldsIn : List (Str × Val) → List AV
  | [] => []
  | (s, .mk k n t l f) :: r => .agg [.str s, .int .i64 k, .int .i64 n, .str t, .slice false (valsIn l), .slice false (fldsIn f)] :: fldsIn r
end
def fldIn (p : Str × Val) : AV := .agg (.str p.1 :: (valIn p.2).cells)
theorem valsIn_eq (l : List Val) : valsIn l = l.map valIn := by
  induction l with
  | nil => rfl
  | cons v r ih => simp only [valsIn, List.map_cons, ih]
theorem fldsIn_eq (l : List (Str × Val)) : fldsIn l = l.map fldIn := by
  induction l with
  | nil => rfl
  | cons v r ih =>
    obtain ⟨s, v⟩ := v
    cases v with
    | mk k n t l f => simp only [fldsIn, List.map_cons, ih, fldIn, valIn, AV.cells]
def valTop (v : Val) : AV := .agg [.int .i64 v.kind, .int .i64 v.n, .str v.s, .slice false (v.l.map valIn), .slice false (v.f.map fldIn)]
def fldTop (p : Str × Val) : AV := .agg [.str p.1, .int .i64 p.2.kind, .int .i64 p.2.n, .str p.2.s, .slice false (p.2.l.map valIn), .slice false (p.2.f.map fldIn)]
theorem valIn_eq (v : Val) : valIn v = valTop v := by
  cases v with
  | mk k n s l f => simp only [valIn, valTop, valsIn_eq, fldsIn_eq, Val.kind, Val.n, Val.s, Val.l, Val.f]
theorem fldIn_eq (p : Str × Val) : fldIn p = fldTop p := by
  rw [fldIn, valIn_eq]; rfl
theorem valMap (l : List Val) : l.map valIn = l.map valTop := List.map_congr_left fun v _ => valIn_eq v
theorem fldMap (l : List (Str × Val)) : l.map fldIn = l.map fldTop := List.map_congr_left fun v _ => fldIn_eq v
mutual
def weightV (most : Int) : Val → Int
  | .mk _ _ s l f => weightF most f (weightL most l (1 + s.length))
def weightL (most : Int) : List Val → Int → Int
  | [], n => n
  | v :: r, n => if n ≤ most then weightL most r (IntKind.i64.wrap (n + weightV most v)) else n
def weightF (most : Int) : List (Str × Val) → Int → Int
  | [], n => n
  | (s, .mk _ _ t l f) :: r, n => if n ≤ most then weightF most r (IntKind.i64.wrap (IntKind.i64.wrap (n + s.length) + weightF most f (weightL most l (1 + t.length)))) else n
end
theorem weightV_eq (most : Int) (v : Val) : weightV most v = weightF most v.f (weightL most v.l (1 + v.s.length)) := by
  cases v with
  | mk k n s l f => simp only [weightV, Val.f, Val.l, Val.s]
theorem weightF_cons (most : Int) (p : Str × Val) (r : List (Str × Val)) (n : Int) : weightF most (p :: r) n = if n ≤ most then weightF most r (IntKind.i64.wrap (IntKind.i64.wrap (n + p.1.length) + weightV most p.2)) else n := by
  obtain ⟨s, v⟩ := p
  cases v with
  | mk k n t l f => simp only [weightF, weightV]
theorem weightL_stop (most : Int) (l : List Val) (n : Int) (h : most < n) : weightL most l n = n := by
  cases l with
  | nil => simp only [weightL]
  | cons v r => simp only [weightL]; rw [if_neg (by omega)]
theorem weightF_stop (most : Int) (l : List (Str × Val)) (n : Int) (h : most < n) : weightF most l n = n := by
  cases l with
  | nil => simp only [weightF]
  | cons v r => rw [weightF_cons, if_neg (by omega)]
theorem drop_gI {α : Type} [Inhabited α] {l : List α} {i : Int} (h0 : 0 ≤ i) (hi : i < l.length) : l.drop i.toNat = gI l i :: l.drop (i + 1).toNat := by
  have h : i.toNat < l.length := by omega
  have e : (i + 1).toNat = i.toNat + 1 := by omega
  rw [List.drop_eq_getElem_cons h, e]
  simp [gI, List.getD_eq_getElem?_getD, h]
mutual
def depV : Val → Nat
  | .mk _ _ _ l f => depL l + depF f + 1
def depL : List Val → Nat
  | [] => 0
  | v :: r => depV v + depL r
def depF : List (Str × Val) → Nat
  | [] => 0
  | (_, .mk _ _ _ l f) :: r => depL l + depF f + 1 + depF r
end
theorem depL_mem {l : List Val} {v : Val} (h : v ∈ l) : depV v ≤ depL l := by
  induction l with
  | nil => cases h
  | cons a r ih =>
    simp only [depL]
    rcases List.mem_cons.1 h with rfl | h
    · omega
    · have := ih h; omega
theorem depF_mem {l : List (Str × Val)} {p : Str × Val} (h : p ∈ l) : depV p.2 ≤ depF l := by
  induction l with
  | nil => cases h
  | cons a r ih =>
    obtain ⟨s, v⟩ := a
    cases v with
    | mk k n t l f =>
      simp only [depF]
      rcases List.mem_cons.1 h with rfl | h
      · simp only [depV]; omega
      · have := ih h; omega
theorem depV_eq (v : Val) : depV v = depL v.l + depF v.f + 1 := by
  cases v with
  | mk k n s l f => simp only [depV, Val.l, Val.f]

set_option maxHeartbeats 4000000 in
theorem u_weight1 (v : Val) (most : Int) (ih : ∀ w : Val, depV w < depV v → ∀ (m : AMem) (K : AV → AMem → Prop), K (.int .i64 (weightV most w)) m → ACalls Try.prog 67 [valTop w, .int .i64 most] m K) (m : AMem)  (K : AV → AMem → Prop) (hK : K (.int .i64 (weightV most v)) m) : ACalls Try.prog 67 [valTop v, .int .i64 most] m K := by
 refine acalls_enter Try.func67 rfl (by decide) (Nat.le_of_ble_eq_true rfl) ?_
 refine awp_bd 0 (x := valTop v) rfl (fun hbd0 => ?_)
 have hbd0_2 : v.s.length ≤ 140737488355328 := (hbd0 2 (Nat.le_of_ble_eq_true rfl))
 have hbd0_3 : v.l.length ≤ 140737488355328 := bd_map (hbd0 3 (Nat.le_of_ble_eq_true rfl))
 have hbd0_4 : v.f.length ≤ 140737488355328 := bd_map (hbd0 4 (Nat.le_of_ble_eq_true rfl))
 show AWP _ _ _ _ [(0, valTop v), (1, .int .i64 most)] m
 refine awp_reg2_seq [] [1, 2] (by decide) ?_
 intro K1 hK1
 refine ar_box rfl (m := m) (L := []) (v := valTop v) (by rfl) rfl ?_
 intro b1 hb1
 have hFb1 : m b1 = none := wth_none (m := m) (L := []) hb1
 have hNb1 : ([b1] : List Nat).Nodup := wth_nodup (m := m) (L := []) hb1 List.nodup_nil
 refine ⟨trivial, ?_⟩
 show K1 [(1, .int .i64 most), (2, .ptr ⟨b1, 0, none⟩)] (AMem.wth m [(b1, .cells [.int .i64 v.kind, .int .i64 v.n, .str v.s, .slice false (v.l.map valIn), .slice false (v.f.map fldIn)])])
 refine hK1 _ _ ?_; clear hK1 K1
 refine awp_reg2_seq [] [1, 2, 5] (by decide) ?_
 intro K1 hK1
 refine ⟨⟨rfl, by decide⟩, ?_⟩
 refine ar_loadp rfl (v := .str v.s) rfl (wth_get 0 hNb1 rfl) rfl (apartOk_one rfl rfl (Nat.le_of_ble_eq_true rfl)) rfl ?_
 refine ⟨trivial, ?_⟩
 refine ar_add rfl (a := 1) (b := (v.s.length : Int)) rfl rfl (by omega) (by omega) ?_
 refine ⟨trivial, ?_⟩
 show K1 [(1, .int .i64 most), (2, .ptr ⟨b1, 0, none⟩), (5, .int .i64 (1 + (v.s.length : Int)))] (AMem.wth m [(b1, .cells [.int .i64 v.kind, .int .i64 v.n, .str v.s, .slice false (v.l.map valIn), .slice false (v.f.map fldIn)])])
 refine hK1 _ _ ?_; clear hK1 K1
 refine awp_seq_k ?_; intro K2 hK2
 refine awp_reg2_seq [] [1, 2, 5, 6] (by decide) ?_
 intro K1 hK1
 refine ⟨trivial, ?_⟩
 show K1 [(1, .int .i64 most), (2, .ptr ⟨b1, 0, none⟩), (5, .int .i64 (1 + (v.s.length : Int))), (6, .int .i64 0)] (AMem.wth m [(b1, .cells [.int .i64 v.kind, .int .i64 v.n, .str v.s, .slice false (v.l.map valIn), .slice false (v.f.map fldIn)])])
 refine hK1 _ _ ?_; clear hK1 K1
 refine awp_block ?_
 refine awp_keep [1, 2, 5, 6] (by decide) ?_
 refine awp_loop_st (σ := Int × Int) (fun ⟨n_, i⟩ => [(1, .int .i64 most), (2, .ptr ⟨b1, 0, none⟩), (5, .int .i64 n_), (6, .int .i64 i)]) (fun _ => (AMem.wth m [(b1, .cells [.int .i64 v.kind, .int .i64 v.n, .str v.s, .slice false (v.l.map valIn), .slice false (v.f.map fldIn)])])) (fun ⟨n_, i⟩ => 0 ≤ i ∧ i ≤ v.l.length ∧ weightL most v.l (1 + v.s.length) = weightL most (v.l.drop i.toNat) n_) (fun ⟨n_, i⟩ => v.l.length - i.toNat) (1 + (v.s.length : Int), 0) rfl rfl ?_ ?_
 ·
  show 0 ≤ ((0 : Int)) ∧ ((0 : Int)) ≤ v.l.length ∧ weightL most v.l (1 + v.s.length) = weightL most (v.l.drop ((0 : Int)).toNat) ((1 + (v.s.length : Int) : Int))
  exact ⟨by omega, by omega, rfl⟩
 rintro ⟨n_, i⟩ hI
 replace hI : 0 ≤ i ∧ i ≤ v.l.length ∧ weightL most v.l (1 + v.s.length) = weightL most (v.l.drop i.toNat) n_ := hI
 show AWP _ _ _ _ [(1, .int .i64 most), (2, .ptr ⟨b1, 0, none⟩), (5, .int .i64 n_), (6, .int .i64 i)] (AMem.wth m [(b1, .cells [.int .i64 v.kind, .int .i64 v.n, .str v.s, .slice false (v.l.map valIn), .slice false (v.f.map fldIn)])])
 refine awp_seq_k ?_; intro K3 hK3
 refine awp_reg2_seq [] [1, 2, 5, 6, 21] (by decide) ?_
 intro K1 hK1
 suffices key : K1 [(1, .int .i64 most), (2, .ptr ⟨b1, 0, none⟩), (5, .int .i64 n_), (6, .int .i64 i), (21, .bool ((decide (i < (v.l.length : Int))) && (decide (n_ ≤ most))))] (AMem.wth m [(b1, .cells [.int .i64 v.kind, .int .i64 v.n, .str v.s, .slice false (v.l.map valIn), .slice false (v.f.map fldIn)])]) by
  refine ⟨trivial, ⟨rfl, by decide⟩, ?_⟩
  refine ar_loadp rfl (v := .slice false (v.l.map valIn)) rfl (wth_get 0 hNb1 rfl) rfl (apartOk_one rfl rfl (Nat.le_of_ble_eq_true rfl)) rfl ?_
  refine ar_len rfl valIn v.l rfl rfl rfl ?_
  refine ⟨trivial, trivial, ?_⟩
  show aopsR _ _ _ _ _ [(17, .bool (decide (i < (v.l.length : Int)))), (16, .bool (decide (i < (v.l.length : Int)))), (15, .int .i64 (v.l.length : Int)), (14, .slice false (v.l.map valIn)), (13, .ptr ⟨b1, 3, none⟩), (12, .int .i64 i), (1, .int .i64 most), (2, .ptr ⟨b1, 0, none⟩), (5, .int .i64 n_), (6, .int .i64 i)] _
  revert key
  cases h1 : (decide (i < (v.l.length : Int)))
  ·
   replace h1 : (v.l.length : Int) ≤ i := (Int.not_lt.1 (of_decide_eq_false h1))
   intro key
   refine ar_off rfl (ar_off rfl (ar_off rfl ?_))
   exact key
  ·
   replace h1 : i < (v.l.length : Int) := (of_decide_eq_true h1)
   intro key
   refine ⟨trivial, trivial, trivial, ?_⟩
   exact key
 refine hK1 _ _ ?_; clear hK1 K1
 refine awp_cond rfl rfl (fun h2 => ?_) (fun h2 => ?_)
 ·
  replace h2 : (i < (v.l.length : Int)) ∧ (n_ ≤ most) := ⟨(of_decide_eq_true (bandL h2)), (of_decide_eq_true (bandR h2))⟩
  refine awp_skip ?_
  refine hK3 _ _ ?_; clear hK3
  refine awp_seq_k ?_; intro K4 hK4
  refine awp_block ?_
  refine awp_reg2 [] [1, 2, 5, 6] (by decide) ?_
  intro K1 hK1
  refine ⟨trivial, ⟨rfl, by decide⟩, ?_⟩
  refine ar_loadp rfl (v := .slice false (v.l.map valIn)) rfl (wth_get 0 hNb1 rfl) rfl (apartOk_one rfl rfl (Nat.le_of_ble_eq_true rfl)) rfl ?_
  refine ⟨trivial, ?_⟩
  refine ar_index rfl valTop v.l i rfl rfl (valMap v.l) rfl rfl (by decide) (fun _ => rfl) (by omega) (by omega) ?_
  refine ⟨(apartOk_agg rfl rfl (Nat.le_of_ble_eq_true rfl)), trivial, ?_⟩
  refine ih (gI v.l i) (by have := depV_eq v; first | (have := depL_mem (gI_mem (l := v.l) (i := i) hI.1 h2.1); omega) | (have := depF_mem (gI_mem (l := v.f) (i := k) hI2.1 h4.1); omega)) _ _ ?_
  refine ⟨trivial, trivial, ?_⟩
  show K1 [(1, .int .i64 most), (2, .ptr ⟨b1, 0, none⟩), (5, .int .i64 (IntKind.i64.wrap (n_ + (weightV most (gI v.l i))))), (6, .int .i64 i)] (AMem.wth m [(b1, .cells [.int .i64 v.kind, .int .i64 v.n, .str v.s, .slice false (v.l.map valIn), .slice false (v.f.map fldIn)])])
  refine hK1 _ _ ?_; clear hK1 K1
  refine hK4 _ _ ?_; clear hK4
  refine awp_reg2 [] [1, 2, 5, 6] (by decide) ?_
  intro K1 hK1
  refine ⟨trivial, ?_⟩
  refine ar_add rfl (a := i) (b := 1) rfl rfl (by omega) (by omega) ?_
  refine ⟨trivial, ?_⟩
  show K1 [(1, .int .i64 most), (2, .ptr ⟨b1, 0, none⟩), (5, .int .i64 (IntKind.i64.wrap (n_ + (weightV most (gI v.l i))))), (6, .int .i64 (i + 1))] (AMem.wth m [(b1, .cells [.int .i64 v.kind, .int .i64 v.n, .str v.s, .slice false (v.l.map valIn), .slice false (v.f.map fldIn)])])
  refine hK1 _ _ ?_; clear hK1 K1
  refine ⟨(IntKind.i64.wrap (n_ + (weightV most (gI v.l i))), i + 1), rfl, rfl, ?_, ?_⟩
  ·
   show 0 ≤ ((i + 1 : Int)) ∧ ((i + 1 : Int)) ≤ v.l.length ∧ weightL most v.l (1 + v.s.length) = weightL most (v.l.drop ((i + 1 : Int)).toNat) ((IntKind.i64.wrap (n_ + (weightV most (gI v.l i))) : Int))
   refine ⟨by omega, by omega, ?_⟩
   rw [hI.2.2, drop_gI hI.1 h2.1]
   simp only [weightL]
   rw [if_pos h2.2]
  ·
   show v.l.length - ((i + 1 : Int)).toNat < v.l.length - i.toNat
   omega
 replace h2 : ((v.l.length : Int) ≤ i) ∨ (most < n_) := ((bandF h2).imp (fun q => (Int.not_lt.1 (of_decide_eq_false q))) (fun q => (Int.not_le.1 (of_decide_eq_false q))))
 refine awp_exit ?_
 refine hK2 _ _ ?_; clear hK2
 refine awp_seq_k ?_; intro K5 hK5
 refine awp_reg2_seq [] [1, 2, 5, 7] (by decide) ?_
 intro K1 hK1
 refine ⟨trivial, ?_⟩
 show K1 [(1, .int .i64 most), (2, .ptr ⟨b1, 0, none⟩), (5, .int .i64 n_), (7, .int .i64 0)] (AMem.wth m [(b1, .cells [.int .i64 v.kind, .int .i64 v.n, .str v.s, .slice false (v.l.map valIn), .slice false (v.f.map fldIn)])])
 refine hK1 _ _ ?_; clear hK1 K1
 refine awp_block ?_
 refine awp_keep [1, 2, 5, 7] (by decide) ?_
 refine awp_loop_st (σ := Int × Int) (fun ⟨n2, k⟩ => [(1, .int .i64 most), (2, .ptr ⟨b1, 0, none⟩), (5, .int .i64 n2), (7, .int .i64 k)]) (fun _ => (AMem.wth m [(b1, .cells [.int .i64 v.kind, .int .i64 v.n, .str v.s, .slice false (v.l.map valIn), .slice false (v.f.map fldIn)])])) (fun ⟨n2, k⟩ => 0 ≤ k ∧ k ≤ v.f.length ∧ weightV most v = weightF most (v.f.drop k.toNat) n2) (fun ⟨n2, k⟩ => v.f.length - k.toNat) (n_, 0) rfl rfl ?_ ?_
 ·
  show 0 ≤ ((0 : Int)) ∧ ((0 : Int)) ≤ v.f.length ∧ weightV most v = weightF most (v.f.drop ((0 : Int)).toNat) ((n_ : Int))
  refine ⟨by omega, by omega, ?_⟩
  have e : weightL most (v.l.drop i.toNat) n_ = n_ := by
   by_cases hn : most < n_
   ·
    exact weightL_stop _ _ _ hn
   ·
    have hi : (v.l.length : Int) ≤ i := by
     rcases h2 with h | h <;> omega
    rw [List.drop_eq_nil_of_le (by omega)]; simp only [weightL]
  rw [weightV_eq, hI.2.2, e]; rfl
 rintro ⟨n2, k⟩ hI2
 replace hI2 : 0 ≤ k ∧ k ≤ v.f.length ∧ weightV most v = weightF most (v.f.drop k.toNat) n2 := hI2
 show AWP _ _ _ _ [(1, .int .i64 most), (2, .ptr ⟨b1, 0, none⟩), (5, .int .i64 n2), (7, .int .i64 k)] (AMem.wth m [(b1, .cells [.int .i64 v.kind, .int .i64 v.n, .str v.s, .slice false (v.l.map valIn), .slice false (v.f.map fldIn)])])
 refine awp_seq_k ?_; intro K6 hK6
 refine awp_reg2_seq [] [1, 2, 5, 7, 42] (by decide) ?_
 intro K1 hK1
 suffices key : K1 [(1, .int .i64 most), (2, .ptr ⟨b1, 0, none⟩), (5, .int .i64 n2), (7, .int .i64 k), (42, .bool ((decide (k < (v.f.length : Int))) && (decide (n2 ≤ most))))] (AMem.wth m [(b1, .cells [.int .i64 v.kind, .int .i64 v.n, .str v.s, .slice false (v.l.map valIn), .slice false (v.f.map fldIn)])]) by
  refine ⟨trivial, ⟨rfl, by decide⟩, ?_⟩
  refine ar_loadp rfl (v := .slice false (v.f.map fldIn)) rfl (wth_get 0 hNb1 rfl) rfl (apartOk_one rfl rfl (Nat.le_of_ble_eq_true rfl)) rfl ?_
  refine ar_len rfl fldIn v.f rfl rfl rfl ?_
  refine ⟨trivial, trivial, ?_⟩
  show aopsR _ _ _ _ _ [(38, .bool (decide (k < (v.f.length : Int)))), (37, .bool (decide (k < (v.f.length : Int)))), (36, .int .i64 (v.f.length : Int)), (35, .slice false (v.f.map fldIn)), (34, .ptr ⟨b1, 4, none⟩), (33, .int .i64 k), (1, .int .i64 most), (2, .ptr ⟨b1, 0, none⟩), (5, .int .i64 n2), (7, .int .i64 k)] _
  revert key
  cases h3 : (decide (k < (v.f.length : Int)))
  ·
   replace h3 : (v.f.length : Int) ≤ k := (Int.not_lt.1 (of_decide_eq_false h3))
   intro key
   refine ar_off rfl (ar_off rfl (ar_off rfl ?_))
   exact key
  ·
   replace h3 : k < (v.f.length : Int) := (of_decide_eq_true h3)
   intro key
   refine ⟨trivial, trivial, trivial, ?_⟩
   exact key
 refine hK1 _ _ ?_; clear hK1 K1
 refine awp_cond rfl rfl (fun h4 => ?_) (fun h4 => ?_)
 ·
  replace h4 : (k < (v.f.length : Int)) ∧ (n2 ≤ most) := ⟨(of_decide_eq_true (bandL h4)), (of_decide_eq_true (bandR h4))⟩
  refine awp_skip ?_
  refine hK6 _ _ ?_; clear hK6
  refine awp_seq_k ?_; intro K7 hK7
  refine awp_block ?_
  refine awp_draw_k Try.mixed [(.int .i64 (weightV most ((gI v.f k).2)))] [1, 2, 5, 7] (by decide) (by decide) ?_
  intro K1 hK1
  refine ⟨trivial, ⟨rfl, by decide⟩, ?_⟩
  refine pq_loadp rfl (v := .slice false (v.f.map fldIn)) rfl (wth_get 0 hNb1 rfl) (apartOk_one rfl rfl (Nat.le_of_ble_eq_true rfl)) rfl ?_
  refine ⟨trivial, ?_⟩
  refine pq_index rfl fldTop v.f k rfl rfl (fldMap v.f) rfl rfl (by decide) (fun _ => rfl) (by omega) (by omega) ?_
  refine ⟨⟨rfl, by decide, (Nat.le_of_ble_eq_true rfl)⟩, (apartOk_one rfl rfl (Nat.le_of_ble_eq_true rfl)), trivial, trivial, ⟨rfl, by decide⟩, ?_⟩
  refine pq_loadp rfl (v := .slice false (v.f.map fldIn)) rfl (wth_get 0 hNb1 rfl) (apartOk_one rfl rfl (Nat.le_of_ble_eq_true rfl)) rfl ?_
  refine ⟨trivial, ?_⟩
  refine pq_index rfl fldTop v.f k rfl rfl (fldMap v.f) rfl rfl (by decide) (fun _ => rfl) (by omega) (by omega) ?_
  refine ⟨⟨rfl, by decide, (Nat.le_of_ble_eq_true rfl)⟩, (apartOk_agg rfl rfl (Nat.le_of_ble_eq_true rfl)), trivial, (fun Kc hKc => ih ((gI v.f k).2) (by have := depV_eq v; first | (have := depL_mem (gI_mem (l := v.l) (i := i) hI.1 h2.1); omega) | (have := depF_mem (gI_mem (l := v.f) (i := k) hI2.1 h4.1); omega)) _ Kc hKc), trivial, trivial, ?_⟩
  show K1 [(1, .int .i64 most), (2, .ptr ⟨b1, 0, none⟩), (5, .int .i64 (IntKind.i64.wrap ((IntKind.i64.wrap (n2 + (((gI v.f k).1).length : Int))) + (weightV most ((gI v.f k).2))))), (7, .int .i64 k)] (AMem.wth m [(b1, .cells [.int .i64 v.kind, .int .i64 v.n, .str v.s, .slice false (v.l.map valIn), .slice false (v.f.map fldIn)])])
  refine hK1 _ _ ?_; clear hK1 K1
  refine hK7 _ _ ?_; clear hK7
  refine awp_reg2 [] [1, 2, 5, 7] (by decide) ?_
  intro K1 hK1
  refine ⟨trivial, ?_⟩
  refine ar_add rfl (a := k) (b := 1) rfl rfl (by omega) (by omega) ?_
  refine ⟨trivial, ?_⟩
  show K1 [(1, .int .i64 most), (2, .ptr ⟨b1, 0, none⟩), (5, .int .i64 (IntKind.i64.wrap ((IntKind.i64.wrap (n2 + (((gI v.f k).1).length : Int))) + (weightV most ((gI v.f k).2))))), (7, .int .i64 (k + 1))] (AMem.wth m [(b1, .cells [.int .i64 v.kind, .int .i64 v.n, .str v.s, .slice false (v.l.map valIn), .slice false (v.f.map fldIn)])])
  refine hK1 _ _ ?_; clear hK1 K1
  refine ⟨(IntKind.i64.wrap ((IntKind.i64.wrap (n2 + (((gI v.f k).1).length : Int))) + (weightV most ((gI v.f k).2))), k + 1), rfl, rfl, ?_, ?_⟩
  ·
   show 0 ≤ ((k + 1 : Int)) ∧ ((k + 1 : Int)) ≤ v.f.length ∧ weightV most v = weightF most (v.f.drop ((k + 1 : Int)).toNat) ((IntKind.i64.wrap ((IntKind.i64.wrap (n2 + (((gI v.f k).1).length : Int))) + (weightV most ((gI v.f k).2))) : Int))
   exact ⟨by omega, by omega, by rw [hI2.2.2, drop_gI hI2.1 h4.1, weightF_cons, if_pos h4.2]⟩
  ·
   show v.f.length - ((k + 1 : Int)).toNat < v.f.length - k.toNat
   omega
 replace h4 : ((v.f.length : Int) ≤ k) ∨ (most < n2) := ((bandF h4).imp (fun q => (Int.not_lt.1 (of_decide_eq_false q))) (fun q => (Int.not_le.1 (of_decide_eq_false q))))
 refine awp_exit ?_
 refine hK5 _ _ ?_; clear hK5
 refine awp_reg2_seq [] [4] (by decide) ?_
 intro K1 hK1
 refine ⟨trivial, trivial, ?_⟩
 show K1 [(4, .int .i64 n2)] (AMem.wth m [(b1, .cells [.int .i64 v.kind, .int .i64 v.n, .str v.s, .slice false (v.l.map valIn), .slice false (v.f.map fldIn)])])
 refine hK1 _ _ ?_; clear hK1 K1
 refine awp_ret ?_
 refine ⟨trivial, m, (wth_sub2 (m := m) [(b1, .cells [.int .i64 v.kind, .int .i64 v.n, .str v.s, .slice false (v.l.map valIn), .slice false (v.f.map fldIn)])] [] hNb1 (by simp only [List.map_cons, List.map_nil, List.forall_mem_cons]; exact ⟨hFb1, fun _ h => by cases h⟩)), ?_⟩
 show K (.int .i64 n2) m

 have e : weightV most v = n2 := by
  rw [hI2.2.2]
  by_cases hn : most < n2
  ·
   exact weightF_stop _ _ _ hn
  ·
   have hi : (v.f.length : Int) ≤ k := by
    rcases h4 with h | h <;> omega
   rw [List.drop_eq_nil_of_le (by omega)]; simp only [weightF]
 rw [e] at hK; exact hK


theorem u_weight (most : Int) : ∀ (n : Nat) (v : Val), depV v < n → ∀ (m : AMem) (K : AV → AMem → Prop), K (.int .i64 (weightV most v)) m → ACalls Try.prog 67 [valTop v, .int .i64 most] m K
  | 0, _, h => absurd h (Nat.not_lt_zero _)
  | n + 1, v, h => fun m K hK => u_weight1 v most (fun w hw => u_weight most n w (by omega)) m K hK


structure ActT where
  kind : Str
  s : Str
  t : Str
  a : Int
  b : Int
  v : Val
  names : List Str
instance : Inhabited ActT := ⟨⟨[], [], [], 0, 0, default, []⟩⟩
def actAV (x : ActT) : AV := .agg [.str x.kind, .str x.s, .str x.t, .int .i64 x.a, .int .i64 x.b, .int .i64 x.v.kind, .int .i64 x.v.n, .str x.v.s, .slice false (x.v.l.map valIn), .slice false (x.v.f.map fldIn), .slice false (x.names.map strAV)]
def actW (most : Int) (n : Int) (x : ActT) : Int := IntKind.i64.wrap (IntKind.i64.wrap (IntKind.i64.wrap (n + x.s.length) + x.t.length) + weightV most x.v)
def namesW (n : Int) (l : List Str) : Int := l.foldl (fun n s => IntKind.i64.wrap (n + s.length)) n
def lightF (size : Int) : List ActT → Int → Bool
  | [], n => decide (n ≤ size)
  | x :: r, n => if size < actW size n x ∨ 12 < (x.names.length : Int) then false else lightF size r (namesW (actW size n x) x.names)
def lightA (l : List ActT) (most size : Int) : Bool := if most < (l.length : Int) then false else lightF size l 0
theorem lightA_len {l : List ActT} {most size : Int} (h : lightA l most size = true) : (l.length : Int) ≤ most := by
  unfold lightA at h; split at h
  · cases h
  · omega

set_option maxHeartbeats 4000000 in
theorem u_LightActs (l : List ActT) (most size : Int)  (m : AMem)  (K : AV → AMem → Prop) (hK : K (.bool (lightA l most size)) m) : ACalls Try.prog 10 [.slice false (l.map actAV), .int .i64 most, .int .i64 size] m K := by
 refine acalls_enter Try.func10 rfl (by decide) (Nat.le_of_ble_eq_true rfl) ?_
 refine awp_bd 0 (x := .slice false (l.map actAV)) rfl (fun hbd0 => ?_)
 have hbd0_0 : l.length ≤ 140737488355328 := bd_map (o := false) hbd0
 show AWP _ _ _ _ [(0, .slice false (l.map actAV)), (1, .int .i64 most), (2, .int .i64 size)] m
 refine awp_reg2_seq [] [0, 1, 2] (by decide) ?_
 intro K1 hK1
 refine ⟨trivial, ?_⟩
 show K1 [(0, .slice false (l.map actAV)), (1, .int .i64 most), (2, .int .i64 size)] m
 refine hK1 _ _ ?_; clear hK1 K1
 refine awp_seq_k ?_; intro K2 hK2
 refine awp_reg2_seq [] [0, 2, 13] (by decide) ?_
 intro K1 hK1
 refine ⟨trivial, ?_⟩
 refine ar_len rfl actAV l rfl rfl rfl ?_
 refine ⟨trivial, trivial, ?_⟩
 show K1 [(0, .slice false (l.map actAV)), (2, .int .i64 size), (13, .bool (decide (most < (l.length : Int))))] m
 refine hK1 _ _ ?_; clear hK1 K1
 refine awp_cond rfl rfl (fun h1 => ?_) (fun h1 => ?_)
 ·
  replace h1 : most < (l.length : Int) := (of_decide_eq_true h1)
  refine awp_reg2_seq [] [6] (by decide) ?_
  intro K1 hK1
  refine ⟨trivial, ?_⟩
  show K1 [(6, .bool false)] m
  refine hK1 _ _ ?_; clear hK1 K1
  refine awp_ret ?_
  refine ⟨trivial, m, fun _ _ h => h, ?_⟩
  show K (.bool false) m
 
  refine K_eq hK (congrArg AV.bool ?_)
  rw [lightA, if_pos h1]
 replace h1 : (l.length : Int) ≤ most := (Int.not_lt.1 (of_decide_eq_false h1))
 refine awp_skip ?_
 refine hK2 _ _ ?_; clear hK2
 refine awp_reg2_seq [] [0, 2, 7] (by decide) ?_
 intro K1 hK1
 refine ⟨trivial, ?_⟩
 show K1 [(0, .slice false (l.map actAV)), (2, .int .i64 size), (7, .int .i64 0)] m
 refine hK1 _ _ ?_; clear hK1 K1
 refine awp_seq_k ?_; intro K3 hK3
 refine awp_reg2_seq [] [0, 2, 7, 8] (by decide) ?_
 intro K1 hK1
 refine ⟨trivial, ?_⟩
 show K1 [(0, .slice false (l.map actAV)), (2, .int .i64 size), (7, .int .i64 0), (8, .int .i64 0)] m
 refine hK1 _ _ ?_; clear hK1 K1
 refine awp_block ?_
 refine awp_keep [0, 2, 7, 8] (by decide) ?_
 refine awp_loop_st (σ := Int × Int) (fun ⟨n_, i⟩ => [(0, .slice false (l.map actAV)), (2, .int .i64 size), (7, .int .i64 n_), (8, .int .i64 i)]) (fun _ => m) (fun ⟨n_, i⟩ => 0 ≤ i ∧ i ≤ l.length ∧ lightA l most size = lightF size (l.drop i.toNat) n_) (fun ⟨n_, i⟩ => l.length - i.toNat) (0, 0) rfl rfl ?_ ?_
 ·
  show 0 ≤ ((0 : Int)) ∧ ((0 : Int)) ≤ l.length ∧ lightA l most size = lightF size (l.drop ((0 : Int)).toNat) ((0 : Int))
  exact ⟨by omega, by omega, by rw [lightA, if_neg (by omega)]; rfl⟩
 rintro ⟨n_, i⟩ hI
 replace hI : 0 ≤ i ∧ i ≤ l.length ∧ lightA l most size = lightF size (l.drop i.toNat) n_ := hI
 show AWP _ _ _ _ [(0, .slice false (l.map actAV)), (2, .int .i64 size), (7, .int .i64 n_), (8, .int .i64 i)] m
 refine awp_seq_k ?_; intro K4 hK4
 refine awp_reg2_seq [] [0, 2, 7, 8, 17] (by decide) ?_
 intro K1 hK1
 refine ⟨trivial, trivial, ?_⟩
 refine ar_len rfl actAV l rfl rfl rfl ?_
 refine ⟨trivial, ?_⟩
 show K1 [(0, .slice false (l.map actAV)), (2, .int .i64 size), (7, .int .i64 n_), (8, .int .i64 i), (17, .bool (decide (i < (l.length : Int))))] m
 refine hK1 _ _ ?_; clear hK1 K1
 refine awp_cond rfl rfl (fun h2 => ?_) (fun h2 => ?_)
 ·
  replace h2 : i < (l.length : Int) := (of_decide_eq_true h2)
  refine awp_skip ?_
  refine hK4 _ _ ?_; clear hK4
  refine awp_seq_k ?_; intro K5 hK5
  refine awp_block ?_
  refine awp_draw_seq Try.mixed [(.int .i64 (weightV size ((gI l i).v)))] [0, 2, 7, 8] (by decide) (by decide) ?_
  intro K1 hK1
  refine ⟨trivial, trivial, trivial, ?_⟩
  refine pq_index rfl actAV l i rfl rfl rfl rfl rfl (by decide) (fun _ => rfl) (by omega) (by omega) ?_
  refine ⟨⟨rfl, by decide, (Nat.le_of_ble_eq_true rfl)⟩, (apartOk_one rfl rfl (Nat.le_of_ble_eq_true rfl)), trivial, trivial, trivial, trivial, ?_⟩
  refine pq_index rfl actAV l i rfl rfl rfl rfl rfl (by decide) (fun _ => rfl) (by omega) (by omega) ?_
  refine ⟨⟨rfl, by decide, (Nat.le_of_ble_eq_true rfl)⟩, (apartOk_one rfl rfl (Nat.le_of_ble_eq_true rfl)), trivial, trivial, trivial, trivial, ?_⟩
  refine pq_index rfl actAV l i rfl rfl rfl rfl rfl (by decide) (fun _ => rfl) (by omega) (by omega) ?_
  refine ⟨⟨rfl, by decide, (Nat.le_of_ble_eq_true rfl)⟩, (apartOk_agg rfl rfl (Nat.le_of_ble_eq_true rfl)), trivial, (fun Kc hKc => u_weight size (depV ((gI l i).v) + 1) ((gI l i).v) (Nat.lt_succ_self _) _ Kc hKc), trivial, trivial, ?_⟩
  show K1 [(0, .slice false (l.map actAV)), (2, .int .i64 size), (7, .int .i64 (IntKind.i64.wrap ((IntKind.i64.wrap ((IntKind.i64.wrap (n_ + (((gI l i).s).length : Int))) + (((gI l i).t).length : Int))) + (weightV size ((gI l i).v))))), (8, .int .i64 i)] m
  refine hK1 _ _ ?_; clear hK1 K1
  refine awp_seq_k ?_; intro K6 hK6
  refine awp_reg2_seq [] [0, 2, 7, 8, 54] (by decide) ?_
  intro K1 hK1
  suffices key : K1 [(0, .slice false (l.map actAV)), (2, .int .i64 size), (7, .int .i64 (IntKind.i64.wrap ((IntKind.i64.wrap ((IntKind.i64.wrap (n_ + (((gI l i).s).length : Int))) + (((gI l i).t).length : Int))) + (weightV size ((gI l i).v))))), (8, .int .i64 i), (54, .bool ((decide (size < IntKind.i64.wrap ((IntKind.i64.wrap ((IntKind.i64.wrap (n_ + (((gI l i).s).length : Int))) + (((gI l i).t).length : Int))) + (weightV size ((gI l i).v))))) || (decide (12 < (((gI l i).names).length : Int)))))] m by
   refine ⟨trivial, trivial, trivial, trivial, ?_⟩
   show aopsR _ _ _ _ _ [(46, .bool (decide (size < IntKind.i64.wrap ((IntKind.i64.wrap ((IntKind.i64.wrap (n_ + (((gI l i).s).length : Int))) + (((gI l i).t).length : Int))) + (weightV size ((gI l i).v)))))), (45, .bool (decide (size < IntKind.i64.wrap ((IntKind.i64.wrap ((IntKind.i64.wrap (n_ + (((gI l i).s).length : Int))) + (((gI l i).t).length : Int))) + (weightV size ((gI l i).v)))))), (44, .int .i64 size), (43, .int .i64 (IntKind.i64.wrap ((IntKind.i64.wrap ((IntKind.i64.wrap (n_ + (((gI l i).s).length : Int))) + (((gI l i).t).length : Int))) + (weightV size ((gI l i).v))))), (0, .slice false (l.map actAV)), (2, .int .i64 size), (7, .int .i64 (IntKind.i64.wrap ((IntKind.i64.wrap ((IntKind.i64.wrap (n_ + (((gI l i).s).length : Int))) + (((gI l i).t).length : Int))) + (weightV size ((gI l i).v))))), (8, .int .i64 i)] _
   revert key
   cases h3 : (decide (size < IntKind.i64.wrap ((IntKind.i64.wrap ((IntKind.i64.wrap (n_ + (((gI l i).s).length : Int))) + (((gI l i).t).length : Int))) + (weightV size ((gI l i).v)))))
   ·
    replace h3 : IntKind.i64.wrap ((IntKind.i64.wrap ((IntKind.i64.wrap (n_ + (((gI l i).s).length : Int))) + (((gI l i).t).length : Int))) + (weightV size ((gI l i).v))) ≤ size := (Int.not_lt.1 (of_decide_eq_false h3))
    intro key
    refine ⟨trivial, trivial, ?_⟩
    refine ar_index rfl actAV l i rfl rfl rfl rfl rfl (by decide) (fun _ => rfl) (by omega) (by omega) ?_
    refine ⟨⟨rfl, by decide, (Nat.le_of_ble_eq_true rfl)⟩, (apartOk_one rfl rfl (Nat.le_of_ble_eq_true rfl)), ?_⟩
    refine ar_len rfl strAV ((gI l i).names) rfl rfl rfl ?_
    refine ⟨trivial, ?_⟩
    exact key
   ·
    replace h3 : size < IntKind.i64.wrap ((IntKind.i64.wrap ((IntKind.i64.wrap (n_ + (((gI l i).s).length : Int))) + (((gI l i).t).length : Int))) + (weightV size ((gI l i).v))) := (of_decide_eq_true h3)
    intro key
    refine ar_off rfl (ar_off rfl (ar_off rfl (ar_off rfl (ar_off rfl (ar_off rfl (ar_off rfl ?_))))))
    exact key
  refine hK1 _ _ ?_; clear hK1 K1
  refine awp_cond rfl rfl (fun h4 => ?_) (fun h4 => ?_)
  ·
   replace h4 : (size < IntKind.i64.wrap ((IntKind.i64.wrap ((IntKind.i64.wrap (n_ + (((gI l i).s).length : Int))) + (((gI l i).t).length : Int))) + (weightV size ((gI l i).v)))) ∨ (12 < (((gI l i).names).length : Int)) := ((borT h4).imp (fun q => (of_decide_eq_true q)) (fun q => (of_decide_eq_true q)))
   refine awp_reg2_seq [] [6] (by decide) ?_
   intro K1 hK1
   refine ⟨trivial, ?_⟩
   show K1 [(6, .bool false)] m
   refine hK1 _ _ ?_; clear hK1 K1
   refine awp_ret ?_
   refine ⟨trivial, m, fun _ _ h => h, ?_⟩
   show K (.bool false) m
  
   refine K_eq hK (congrArg AV.bool ?_)
   rw [hI.2.2, drop_gI hI.1 h2, lightF, if_pos (by first | exact h4 | simpa [actW] using h4)]
  replace h4 : (IntKind.i64.wrap ((IntKind.i64.wrap ((IntKind.i64.wrap (n_ + (((gI l i).s).length : Int))) + (((gI l i).t).length : Int))) + (weightV size ((gI l i).v))) ≤ size) ∧ ((((gI l i).names).length : Int) ≤ 12) := ⟨(Int.not_lt.1 (of_decide_eq_false (borL h4))), (Int.not_lt.1 (of_decide_eq_false (borR h4)))⟩
  refine awp_skip ?_
  refine hK6 _ _ ?_; clear hK6
  refine awp_reg2_seq [] [0, 2, 7, 8, 9] (by decide) ?_
  intro K1 hK1
  refine ⟨trivial, ?_⟩
  show K1 [(0, .slice false (l.map actAV)), (2, .int .i64 size), (7, .int .i64 (IntKind.i64.wrap ((IntKind.i64.wrap ((IntKind.i64.wrap (n_ + (((gI l i).s).length : Int))) + (((gI l i).t).length : Int))) + (weightV size ((gI l i).v))))), (8, .int .i64 i), (9, .int .i64 0)] m
  refine hK1 _ _ ?_; clear hK1 K1
  refine awp_block ?_
  refine awp_keep [0, 2, 7, 8, 9] (by decide) ?_
  refine awp_loop_st (σ := Int × Int) (fun ⟨n2, k⟩ => [(0, .slice false (l.map actAV)), (2, .int .i64 size), (7, .int .i64 n2), (8, .int .i64 i), (9, .int .i64 k)]) (fun _ => m) (fun ⟨n2, k⟩ => 0 ≤ k ∧ k ≤ (gI l i).names.length ∧ n2 = namesW (actW size n_ (gI l i)) ((gI l i).names.take k.toNat)) (fun ⟨n2, k⟩ => (gI l i).names.length - k.toNat) (IntKind.i64.wrap ((IntKind.i64.wrap ((IntKind.i64.wrap (n_ + (((gI l i).s).length : Int))) + (((gI l i).t).length : Int))) + (weightV size ((gI l i).v))), 0) rfl rfl ?_ ?_
  ·
   show 0 ≤ ((0 : Int)) ∧ ((0 : Int)) ≤ (gI l i).names.length ∧ ((IntKind.i64.wrap ((IntKind.i64.wrap ((IntKind.i64.wrap (n_ + (((gI l i).s).length : Int))) + (((gI l i).t).length : Int))) + (weightV size ((gI l i).v))) : Int)) = namesW (actW size n_ (gI l i)) ((gI l i).names.take ((0 : Int)).toNat)
   exact ⟨by omega, by omega, rfl⟩
  rintro ⟨n2, k⟩ hI2
  replace hI2 : 0 ≤ k ∧ k ≤ (gI l i).names.length ∧ n2 = namesW (actW size n_ (gI l i)) ((gI l i).names.take k.toNat) := hI2
  show AWP _ _ _ _ [(0, .slice false (l.map actAV)), (2, .int .i64 size), (7, .int .i64 n2), (8, .int .i64 i), (9, .int .i64 k)] m
  refine awp_seq_k ?_; intro K7 hK7
  refine awp_reg2_seq [] [0, 2, 7, 8, 9, 62] (by decide) ?_
  intro K1 hK1
  refine ⟨trivial, trivial, trivial, ?_⟩
  refine ar_index rfl actAV l i rfl rfl rfl rfl rfl (by decide) (fun _ => rfl) (by omega) (by omega) ?_
  refine ⟨⟨rfl, by decide, (Nat.le_of_ble_eq_true rfl)⟩, (apartOk_one rfl rfl (Nat.le_of_ble_eq_true rfl)), ?_⟩
  refine ar_len rfl strAV ((gI l i).names) rfl rfl rfl ?_
  refine ⟨trivial, ?_⟩
  show K1 [(0, .slice false (l.map actAV)), (2, .int .i64 size), (7, .int .i64 n2), (8, .int .i64 i), (9, .int .i64 k), (62, .bool (decide (k < (((gI l i).names).length : Int))))] m
  refine hK1 _ _ ?_; clear hK1 K1
  refine awp_cond rfl rfl (fun h5 => ?_) (fun h5 => ?_)
  ·
   replace h5 : k < (((gI l i).names).length : Int) := (of_decide_eq_true h5)
   refine awp_skip ?_
   refine hK7 _ _ ?_; clear hK7
   refine awp_seq_k ?_; intro K8 hK8
   refine awp_block ?_
   refine awp_reg2 [] [0, 2, 7, 8, 9] (by decide) ?_
   intro K1 hK1
   refine ⟨trivial, trivial, trivial, ?_⟩
   refine ar_index rfl actAV l i rfl rfl rfl rfl rfl (by decide) (fun _ => rfl) (by omega) (by omega) ?_
   refine ⟨⟨rfl, by decide, (Nat.le_of_ble_eq_true rfl)⟩, (apartOk_one rfl rfl (Nat.le_of_ble_eq_true rfl)), trivial, ?_⟩
   refine ar_index rfl strAV ((gI l i).names) k rfl rfl rfl rfl rfl (by decide) (fun _ => rfl) (by omega) (by omega) ?_
   refine ⟨(apartOk_one rfl rfl (Nat.le_of_ble_eq_true rfl)), trivial, trivial, trivial, ?_⟩
   show K1 [(0, .slice false (l.map actAV)), (2, .int .i64 size), (7, .int .i64 (IntKind.i64.wrap (n2 + ((gI ((gI l i).names) k).length : Int)))), (8, .int .i64 i), (9, .int .i64 k)] m
   refine hK1 _ _ ?_; clear hK1 K1
   refine hK8 _ _ ?_; clear hK8
   refine awp_reg2 [] [0, 2, 7, 8, 9] (by decide) ?_
   intro K1 hK1
   refine ⟨trivial, ?_⟩
   refine ar_add rfl (a := k) (b := 1) rfl rfl (by omega) (by omega) ?_
   refine ⟨trivial, ?_⟩
   show K1 [(0, .slice false (l.map actAV)), (2, .int .i64 size), (7, .int .i64 (IntKind.i64.wrap (n2 + ((gI ((gI l i).names) k).length : Int)))), (8, .int .i64 i), (9, .int .i64 (k + 1))] m
   refine hK1 _ _ ?_; clear hK1 K1
   refine ⟨(IntKind.i64.wrap (n2 + ((gI ((gI l i).names) k).length : Int)), k + 1), rfl, rfl, ?_, ?_⟩
   ·
    show 0 ≤ ((k + 1 : Int)) ∧ ((k + 1 : Int)) ≤ (gI l i).names.length ∧ ((IntKind.i64.wrap (n2 + ((gI ((gI l i).names) k).length : Int)) : Int)) = namesW (actW size n_ (gI l i)) ((gI l i).names.take ((k + 1 : Int)).toNat)
    exact ⟨by omega, by omega, by rw [take_succ_gI hI2.1 h5, namesW, List.foldl_append, hI2.2.2]; rfl⟩
   ·
    show (gI l i).names.length - ((k + 1 : Int)).toNat < (gI l i).names.length - k.toNat
    omega
  replace h5 : (((gI l i).names).length : Int) ≤ k := (Int.not_lt.1 (of_decide_eq_false h5))
  refine awp_exit ?_
  refine hK5 _ _ ?_; clear hK5
  refine awp_reg2 [] [0, 2, 7, 8] (by decide) ?_
  intro K1 hK1
  refine ⟨trivial, ?_⟩
  refine ar_add rfl (a := i) (b := 1) rfl rfl (by omega) (by omega) ?_
  refine ⟨trivial, ?_⟩
  show K1 [(0, .slice false (l.map actAV)), (2, .int .i64 size), (7, .int .i64 n2), (8, .int .i64 (i + 1))] m
  refine hK1 _ _ ?_; clear hK1 K1
  refine ⟨(n2, i + 1), rfl, rfl, ?_, ?_⟩
  ·
   show 0 ≤ ((i + 1 : Int)) ∧ ((i + 1 : Int)) ≤ l.length ∧ lightA l most size = lightF size (l.drop ((i + 1 : Int)).toNat) ((n2 : Int))
   refine ⟨by omega, by omega, ?_⟩
   rw [hI.2.2, drop_gI hI.1 h2, lightF, if_neg (by intro hh; rcases hh with hh | hh <;> first | omega | (unfold actW at hh; omega)), hI2.2.2, take_full h5]
  ·
   show l.length - ((i + 1 : Int)).toNat < l.length - i.toNat
   omega
 replace h2 : (l.length : Int) ≤ i := (Int.not_lt.1 (of_decide_eq_false h2))
 refine awp_exit ?_
 refine hK3 _ _ ?_; clear hK3
 refine awp_reg2_seq [] [6] (by decide) ?_
 intro K1 hK1
 refine ⟨trivial, trivial, trivial, trivial, ?_⟩
 show K1 [(6, .bool (decide (n_ ≤ size)))] m
 refine hK1 _ _ ?_; clear hK1 K1
 refine awp_ret ?_
 refine ⟨trivial, m, fun _ _ h => h, ?_⟩
 show K (.bool (decide (n_ ≤ size))) m

 refine K_eq hK (congrArg AV.bool ?_)
 rw [hI.2.2, List.drop_eq_nil_of_le (by omega)]; rfl

end Go.Proofs
end
section
namespace Go.Proofs
open Go Go.Aw
set_option maxRecDepth 100000


theorem appR_inv {N : Nat} {s : DSt} {name data : Str} (h : DInv N s) : DInv (N + 1) (appR s name data).1 := by
  unfold appR
  split
  · exact h.mono (by omega)
  · split
    · exact h.mono (by omega)
    · exact h.do (by show data.length ≤ 4000; omega)


theorem syncF_now (s : DSt) : (syncF s).1.now = s.now := by
  unfold syncF; split
  · exact (stepF_keep s).2.1
  · exact (stepF_keep s).2.1
end Go.Proofs
end
