import Derived.Test.YtkgpejbkiacbmaaDoorDk3
import Derived.Test.YtkgpejbkiacbmaaDoorSv4
import Derived.Test.YtkgpejbkiacbmaaDoorProg
import Derived.Test.YtkgpejbkiacbmaaDoorWxz
section
namespace Go.Proofs
open Go Go.Aw Go.Sx
set_option maxRecDepth 100000
def pre5 : Str := [108, 111, 99, 107, 46]
def lkN (n : Str) : Str := pre5 ++ n
def lockM (M : List (Str × Str)) : List (Str × Str) := M.map fun p => (lkN p.1, p.2)
theorem lkN_inj {a b : Str} : lkN a = lkN b ↔ a = b := ⟨fun h => List.append_cancel_left h, fun h => by rw [h]⟩
theorem mget_lock (M : List (Str × Str)) (n : Str) : mget (lockM M) (lkN n) = mget M n := by
  induction M with
  | nil => rfl
  | cons p r ih =>
    obtain ⟨a, b⟩ := p
    simp only [lockM, List.map_cons, mget] at ih ⊢
    by_cases h : a = n
    · subst h; simp
    · rw [if_neg (fun e => h (lkN_inj.1 e)), if_neg h]; exact ih
theorem mput_lock (M : List (Str × Str)) (n x : Str) : mput (lockM M) (lkN n) x = lockM (mput M n x) := by
  induction M with
  | nil => rfl
  | cons p r ih =>
    obtain ⟨a, b⟩ := p
    simp only [lockM, List.map_cons, mput] at ih ⊢
    by_cases h : a = n
    · subst h; simp
    · rw [if_neg (fun e => h (lkN_inj.1 e)), if_neg h, ih]; rfl
theorem mdel_lock (M : List (Str × Str)) (n : Str) : mdel (lockM M) (lkN n) = lockM (mdel M n) := by
  induction M with
  | nil => rfl
  | cons p r ih =>
    obtain ⟨a, b⟩ := p
    simp only [lockM, List.map_cons, mdel] at ih ⊢
    by_cases h : a = n
    · subst h; simp
    · rw [if_neg (fun e => h (lkN_inj.1 e)), if_neg h, ih]; rfl
theorem nmF_all : ∀ (s : Str) (b : Bool), nmF s b = true → s.all nameC = true
  | [], _, _ => rfl
  | c :: r, b, h => by
    rw [nmF, Bool.and_eq_true] at h
    rw [List.all_cons, nmF_all r _ h.2, Bool.and_true]
    have h1 := h.1
    simp only [letC, digC, Bool.or_eq_true, Bool.and_eq_true, decide_eq_true_eq] at h1
    simp only [nameC, Bool.or_eq_true, Bool.and_eq_true, decide_eq_true_eq]
    omega
theorem nameF_lk {n : Str} (h : nameV n = true) : nameF (lkN n) = true := by
  simp only [nameV, Bool.and_eq_true, decide_eq_true_eq] at h
  have h1 := nmF_all n true h.1.1
  simp only [nameF, lkN, List.all_append, h1, Bool.and_true, Bool.and_eq_true, decide_eq_true_eq]
  refine ⟨⟨by decide, by simp [pre5]⟩, ?_⟩
  have := h.2
  refine decide_eq_true ?_
  have e : (pre5 ++ n).length = 5 + n.length := List.length_append
  show (((pre5 ++ n).length : Nat) : Int) ≤ 24
  omega
structure Lk (N : Nat) (s : DSt) (M : List (Str × Str)) : Prop where
  d : DInv N s
  u : s.down = false
  f : s.fuse = -1
  n : s.now = lockM M
  v : ∀ p ∈ M, nameV p.1 = true
  z : ∀ p ∈ M, p.2.length ≤ 4000
  nd : (M.map Prod.fst).Nodup
theorem Lk.step {N : Nat} {s : DSt} {M : List (Str × Str)} (h : Lk N s M) : (stepF s).2 = 0 ∧ (stepF s).1.down = false ∧ (stepF s).1.fuse = -1 := by
  unfold stepF
  rw [if_neg (by rw [h.u]; simp), if_neg (by rw [h.f]; decide)]
  refine ⟨rfl, h.u, ?_⟩
  show (if 0 < s.fuse then s.fuse - 1 else s.fuse) = -1
  rw [h.f]; rfl
theorem Lk.do {N : Nat} {s : DSt} {M M' : List (Str × Str)} (h : Lk N s M) {c : Chg} (hc : c.data.length ≤ 4000) (ha : applyC s.now c = lockM M') (hv : ∀ p ∈ M', nameV p.1 = true) (hz : ∀ p ∈ M', p.2.length ≤ 4000) (hnd : (M'.map Prod.fst).Nodup) : (doF s c).2 = 0 ∧ Lk (N + 1) (doF s c).1 M' := by
  have h1 := h.step
  have hd := h.d.do hc
  unfold doF at hd ⊢
  rw [if_neg (by rw [h1.1]; simp)] at hd ⊢
  exact ⟨rfl, hd, h1.2.1, h1.2.2, ha, hv, hz, hnd⟩
theorem mput_memP {l : List (Str × Str)} {k v : Str} {p : Str × Str} (h : p ∈ mput l k v) : p ∈ l ∨ p = (k, v) := mput_mem h
theorem Lk.write {N : Nat} {s : DSt} {M : List (Str × Str)} (h : Lk N s M) {n x : Str} (hn : nameV n = true) (hx : x.length ≤ 4000) (hr : (mget M n).isSome = true ∨ M.length < 40) : (writeR s (lkN n) x).2 = 0 ∧ Lk (N + 1) (writeR s (lkN n) x).1 (mput M n x) := by
  have hm : mayR s (lkN n) x.length = 0 := by
    unfold mayR
    rw [if_neg (by rw [nameF_lk hn]; simp), if_neg (by omega), if_neg]
    rw [h.n, mget_lock]
    rintro ⟨h1, h2⟩
    rcases hr with hr | hr
    · rw [h1] at hr; cases hr
    · simp [lockM] at h2; omega
  unfold writeR
  rw [if_neg (by rw [hm]; simp)]
  refine h.do hx ?_ (fun p hp => ?_) (fun p hp => ?_) (mput_nd h.nd)
  · rw [applyC, if_pos (.inl rfl), h.n]; exact mput_lock ..
  · rcases mput_memP hp with hp | rfl
    · exact h.v p hp
    · exact hn
  · rcases mput_memP hp with hp | rfl
    · exact h.z p hp
    · exact hx
theorem Lk.rem {N : Nat} {s : DSt} {M : List (Str × Str)} (h : Lk N s M) {n : Str} (hr : (mget M n).isSome = true) : (remR s (lkN n)).2 = 0 ∧ Lk (N + 1) (remR s (lkN n)).1 (mdel M n) := by
  unfold remR
  rw [if_neg (by rw [h.n, mget_lock, hr]; simp)]
  refine h.do (by simp) ?_ (fun p hp => h.v p (mdel_mem hp)) (fun p hp => h.z p (mdel_mem hp)) (h.nd.sublist ((mdel_sub M n).map _))
  rw [applyC, if_neg (by simp), if_neg (by simp), if_neg (by simp), if_pos rfl, h.n]; exact mdel_lock ..
theorem Lk.sync {N : Nat} {s : DSt} {M : List (Str × Str)} (h : Lk N s M) : (syncF s).2 = 0 ∧ Lk (N + 1) (syncF s).1 M := by
  have h1 := h.step
  have k := stepF_keep s
  have hd := h.d.sync
  unfold syncF at hd ⊢
  rw [if_neg (by rw [h1.1]; simp)] at hd ⊢
  exact ⟨rfl, hd, h1.2.1, h1.2.2, by show (stepF s).1.now = _; rw [k.2.1]; exact h.n, h.v, h.z, h.nd⟩
theorem Lk.read {N : Nat} {s : DSt} {M : List (Str × Str)} (h : Lk N s M) (n : Str) : readR s (lkN n) = ((mget M n).getD [], if (mget M n).isSome = true then 0 else 7) := by
  unfold readR
  rw [if_neg (by rw [h.u]; simp), h.n, mget_lock]
  cases e : mget M n with
  | none => simp
  | some v => simp
theorem Lk.list {N : Nat} {s : DSt} {M : List (Str × Str)} (h : Lk N s M) : listR s = (sortL ((M.map Prod.fst).map lkN), 0) := by
  unfold listR
  rw [if_neg (by rw [h.u]; simp), h.n, lockM, List.map_map, List.map_map]; rfl
theorem Lk.new : Lk 0 ⟨[], [], [], -1, false, 0⟩ [] :=
  ⟨⟨by decide, by decide, by decide, by decide, by decide, fun p hp => (by cases hp), fun p hp => (by cases hp), by decide, fun p hp => (by cases hp)⟩, rfl, rfl, rfl, fun p hp => (by cases hp), fun p hp => (by cases hp), List.nodup_nil⟩
theorem lkN_len (n : Str) : (lkN n).length = n.length + 5 := by simp [lkN, pre5]
theorem nameV_len {n : Str} (h : nameV n = true) : n.length ≤ 12 := by
  simp only [nameV, Bool.and_eq_true, decide_eq_true_eq] at h
  omega
section
variable (d kb nb : Nat) {N : Nat} {s : DSt} {M : List (Str × Str)}
theorem doF_kept (s : DSt) (c : Chg) : (doF s c).1.kept = s.kept := by
  unfold doF; split
  · exact (stepF_keep s).1
  · exact (stepF_keep s).1
theorem writeR_kept (s : DSt) (n x : Str) : (writeR s n x).1.kept = s.kept := by
  unfold writeR; split
  · rfl
  · exact doF_kept _ _
theorem remR_kept (s : DSt) (n : Str) : (remR s n).1.kept = s.kept := by
  unfold remR; split
  · rfl
  · exact doF_kept _ _
theorem syncF_now (s : DSt) : (syncF s).1.now = s.now := by
  unfold syncF; split
  · exact (stepF_keep s).2.1
  · exact (stepF_keep s).2.1
theorem swap3 {m : AMem} {a b c : Nat} {x y z : AObj} (h : [a, b, c].Nodup) : m.wth [(a, x), (b, y), (c, z)] = m.wth [(a, x), (c, z), (b, y)] := by
  funext q
  simp only [List.nodup_cons, List.mem_cons, List.not_mem_nil, or_false, not_or] at h
  simp only [AMem.wth, AMem.upd]
  split
  · rfl
  · split
    · rename_i e1 e2; subst e2; rw [if_neg h.2.1]
    · rfl
theorem u_WriteL (h : Lk N s M) (hN : [d, nb, kb].Nodup) (hNN : N ≤ 100000) {n x : Str} (hn : nameV n = true) (hx : x.length ≤ 4000) (hr : (mget M n).isSome = true ∨ M.length < 40) (m : AMem) (K : AV → AMem → Prop)
    (hK : ∀ s', Lk (N + 1) s' (mput M n x) → K (.err 60 0) (AMem.wth m [(d, dObj kb nb s'), (nb, mObj s'.now), (kb, mObj s'.kept)])) : ACalls Tryd.prog 15 [.ptr ⟨d, 0, none⟩, .str (lkN n), .str x] (AMem.wth m [(d, dObj kb nb s), (nb, mObj s.now), (kb, mObj s.kept)]) K := by
  have hw := h.write hn hx hr
  have hl := nameV_len hn
  refine u_Write d kb nb s (lkN n) x N (hN.sublist (by simp)) h.d hNN (by rw [lkN_len]; omega) (by omega) (m.wth [(kb, mObj s.kept)]) K ?_
  have := hK _ hw.2
  rw [writeR_kept] at this
  rw [hw.1]; exact this
theorem u_RemoveL (h : Lk N s M) (hN : [d, nb, kb].Nodup) (hNN : N ≤ 100000) {n : Str} (hn : n.length ≤ 1000000) (hr : (mget M n).isSome = true) (m : AMem) (K : AV → AMem → Prop)
    (hK : ∀ s', Lk (N + 1) s' (mdel M n) → K (.err 60 0) (AMem.wth m [(d, dObj kb nb s'), (nb, mObj s'.now), (kb, mObj s'.kept)])) : ACalls Tryd.prog 35 [.ptr ⟨d, 0, none⟩, .str (lkN n)] (AMem.wth m [(d, dObj kb nb s), (nb, mObj s.now), (kb, mObj s.kept)]) K := by
  have hw := h.rem hr
  refine u_Remove d kb nb s (lkN n) N (hN.sublist (by simp)) h.d hNN (by rw [lkN_len]; omega) (m.wth [(kb, mObj s.kept)]) K ?_
  have := hK _ hw.2
  rw [remR_kept] at this
  rw [hw.1]; exact this
theorem u_SyncL (h : Lk N s M) (hN : [d, nb, kb].Nodup) (hNN : N ≤ 100000) (m : AMem) (K : AV → AMem → Prop)
    (hK : ∀ s', Lk (N + 1) s' M → K (.err 60 0) (AMem.wth m [(d, dObj kb nb s'), (nb, mObj s'.now), (kb, mObj s'.kept)])) : ACalls Tryd.prog 31 [.ptr ⟨d, 0, none⟩] (AMem.wth m [(d, dObj kb nb s), (nb, mObj s.now), (kb, mObj s.kept)]) K := by
  have hw := h.sync
  rw [swap3 hN]
  refine u_Sync d kb nb s N (hN.sublist (by simp)) h.d hNN (m.wth [(nb, mObj s.now)]) K ?_
  have := hK _ hw.2
  rw [swap3 hN, syncF_now] at this
  rw [hw.1]; exact this
theorem u_ReadL (h : Lk N s M) (hN : [d, nb].Nodup) {n : Str} (m : AMem) (K : AV → AMem → Prop)
    (hK : K (.tuple [.str ((mget M n).getD []), .err 60 (if (mget M n).isSome = true then 0 else 7)]) (AMem.wth m [(d, dObj kb nb s), (nb, mObj s.now)])) : ACalls Tryd.prog 39 [.ptr ⟨d, 0, none⟩, .str (lkN n)] (AMem.wth m [(d, dObj kb nb s), (nb, mObj s.now)]) K :=
  u_Read d kb nb s (lkN n) hN m K (by rw [h.read]; exact hK)
theorem u_ListL (h : Lk N s M) (hN : [d, nb].Nodup) (hNN : N ≤ 100000) (m : AMem) (K : AV → AMem → Prop)
    (hK : K (.tuple [.slice false ((sortL ((M.map Prod.fst).map lkN)).map strAV), .err 60 0]) (AMem.wth m [(d, dObj kb nb s), (nb, mObj s.now)])) : ACalls Tryd.prog 41 [.ptr ⟨d, 0, none⟩] (AMem.wth m [(d, dObj kb nb s), (nb, mObj s.now)]) K :=
  u_List d kb nb s N hN h.d hNN m K (by rw [h.list]; exact hK)
end
def ownT (x : Str) : Int × Bool × Int := if x = [48] then (0, true, 0) else if x = [49] then (1, true, 0) else if x = [50] then (2, true, 0) else if x = [51] then (3, true, 0) else (0, false, 5)
def ownR (M : List (Str × Str)) (n : Str) : Int × Bool × Int := if nameV n = false then (0, false, 3) else if (mget M n).isSome = false then (0, false, 0) else ownT ((mget M n).getD [])
theorem itoa_4 : Lib.itoa 0 = [48] ∧ Lib.itoa 1 = [49] ∧ Lib.itoa 2 = [50] ∧ Lib.itoa 3 = [51] := by
  refine ⟨?_, ?_, ?_, ?_⟩ <;> rw [Lib.itoa, if_neg (by decide), Lib.decDigits_one (by decide)] <;> rfl
theorem ownT_ok {x : Str} (h1 : atoiE x = false) (h2 : 0 ≤ atoiV x) (h3 : atoiV x < 4) (h4 : Lib.itoa (atoiV x) = x) : ownT x = (atoiV x, true, 0) := by
  have q := itoa_4
  generalize atoiV x = v at *
  have : v = 0 ∨ v = 1 ∨ v = 2 ∨ v = 3 := by omega
  rcases this with rfl | rfl | rfl | rfl
  · rw [q.1] at h4; subst h4; rfl
  · rw [q.2.1] at h4; subst h4; rfl
  · rw [q.2.2.1] at h4; subst h4; rfl
  · rw [q.2.2.2] at h4; subst h4; rfl
theorem ownT_no {x : Str} (h : atoiE x = true ∨ atoiV x < 0 ∨ 4 ≤ atoiV x ∨ Lib.itoa (atoiV x) ≠ x) : ownT x = (0, false, 5) := by
  have q := itoa_4
  have a0 : atoiE [48] = false ∧ atoiV [48] = 0 := by decide +kernel
  have a1 : atoiE [49] = false ∧ atoiV [49] = 1 := by decide +kernel
  have a2 : atoiE [50] = false ∧ atoiV [50] = 2 := by decide +kernel
  have a3 : atoiE [51] = false ∧ atoiV [51] = 3 := by decide +kernel
  unfold ownT
  split
  · rename_i e; subst e; rw [a0.1, a0.2, q.1] at h; simp at h
  split
  · rename_i e; subst e; rw [a1.1, a1.2, q.2.1] at h; simp at h
  split
  · rename_i e; subst e; rw [a2.1, a2.2, q.2.2.1] at h; simp at h
  split
  · rename_i e; subst e; rw [a3.1, a3.2, q.2.2.2] at h; simp at h
  rfl
theorem u_Atoi (s : Str) (m : AMem) (hT : Tabs m) (K : AV → AMem → Prop) (hK : K (.tuple [.int .i64 (atoiV s), .opt (atoiE s)]) m) : ACalls Tryd.prog 40 [.str s] m K :=
  have ⟨_, _, _, _, _, _, _, _, _, _, _, h2, h3⟩ := hT
  atoi_any ⟨_, Tryd.func40, rfl, by kernel_rfl⟩ (fun s h v hv w => Tryd.strconv_Atoi_ok s h v hv w)
    (fun s h hv ev w hc he => (Tryd.strconv_Atoi_syntax s h hv ev w hc he).mono fun _ _ ⟨N, a, _, _, b⟩ => ⟨N, a, b⟩)
    (fun s h hv ev w hc he => (Tryd.strconv_Atoi_range s h hv ev w hc he).mono fun _ _ ⟨N, a, _, _, b⟩ => ⟨N, a, b⟩) h2 h3 hK
theorem u_CutPrefix (s p : Str) (m : AMem) (K : AV → AMem → Prop) (hK : K (.tuple [.str (Lib.trimPrefix s p), .bool (Lib.hasPrefix s p)]) m) : ACalls Tryd.prog 42 [.str s, .str p] m K :=
  cutPrefix_calls ⟨_, Tryd.func42, rfl, by kernel_rfl⟩ Tryd.strings_CutPrefix hK
theorem u_Contains (l : List Str) (s : Str) (m : AMem) (K : AV → AMem → Prop) (hK : K (.bool (decide (s ∈ l))) m) : ACalls Tryd.prog 34 [.slice false (l.map strAV), .str s] m K :=
  contains_calls ⟨_, Tryd.func34, rfl, by kernel_rfl⟩ Tryd.slices_Contains_string Tryd.slices_Contains_string_empty hK
theorem u_Clone (l : List Str) (hne : l ≠ []) (hl : l.length * 16 ≤ 140737488355328) (m : AMem) (K : AV → AMem → Prop) (hK : ∀ b cap t, m b = none → l.length ≤ cap → K (.ms ⟨b, 0, none⟩ l.length cap) (m.upd b (some (rowJ l t)))) : ACalls Tryd.prog 26 [.slice false (l.map strAV)] m K :=
  clone_calls ⟨_, Tryd.func26, rfl, by kernel_rfl⟩ Tryd.slices_Clone_string hne hl hK
theorem u_Clone0 (m : AMem) (K : AV → AMem → Prop) (hK : K (.slice false []) m) : ACalls Tryd.prog 26 [.slice false []] m K :=
  clone_calls0 ⟨_, Tryd.func26, rfl, by kernel_rfl⟩ Tryd.slices_Clone_string_nil Tryd.slices_Clone_string_zero hK
theorem u_SortJ (b cap t : Nat) (l : List Str) (hl : l.length ≤ 140737488355328) (m : AMem) (K : AV → AMem → Prop) (hK : K (.tuple []) (m.wth [(b, rowJ (sortL l) t)])) : ACalls Tryd.prog 27 [.ms ⟨b, 0, none⟩ l.length cap] (m.wth [(b, rowJ l t)]) K :=
  sort_callsT ⟨_, Tryd.func27, rfl, by kernel_rfl⟩ Tryd.slices_Sort_string b l.length cap l (List.replicate t .junk) (Nat.le_refl _) hl m K (by rw [List.take_length, List.drop_length, List.append_nil]; exact hK)
theorem u_SortJ0 (m : AMem) (K : AV → AMem → Prop) (hK : K (.tuple []) m) : ACalls Tryd.prog 27 [.slice false []] m K :=
  acalls_sort0 ⟨_, Tryd.func27, rfl, by kernel_rfl⟩ Tryd.slices_Sort_string_none m K hK
theorem u_CompactJ (b cap t : Nat) (l : List Str) (hl : l.length ≤ 140737488355328) (m : AMem) (K : AV → AMem → Prop) (hK : K (.ms ⟨b, 0, none⟩ (Lib.compact l).length cap) (m.wth [(b, rowJ (Lib.compact l ++ List.replicate (l.length - (Lib.compact l).length) []) t)])) : ACalls Tryd.prog 28 [.ms ⟨b, 0, none⟩ l.length cap] (m.wth [(b, rowJ l t)]) K :=
  compact_callsT ⟨_, Tryd.func28, rfl, by kernel_rfl⟩ Tryd.slices_Compact_string b cap l (List.replicate t .junk) hl m K hK
end Go.Proofs
end
section
namespace Go.Proofs
open Go Go.Aw Go.Sx
set_option maxRecDepth 100000
theorem u_file (n : Str) (hn : n.length + 5 ≤ 140737488355328) (m : AMem)  (K : AV → AMem → Prop) (hK : K (.str (lkN n)) m) : ACalls Tryd.prog 29 [.str n] m K := by
 refine enter (c := cf [] [] [] [] [] []) (vs := [.av (.str n)]) (L := []) (m := m) false tbOk Tryd.mixed Tryd.func29 rfl (k := 1) (by show fnOk [] _ _ _ = true; decide +kernel) rfl (Good.nil m) ?_
 refine an (by (first | omega | (simp only [List.length_append, List.length_cons, List.length_nil]; omega))) ?_
 exact rt0 rfl fun _ => hK
theorem u_owner (n : Int)  (m : AMem)  (K : AV → AMem → Prop) (hK : K (.err 60 (if n < 0 ∨ 4 ≤ n then 1 else 0)) m) : ACalls Tryd.prog 25 [.int .i64 n] m K := by
 refine enter (c := cf [] [] [1] [] [] []) (vs := [.av (.int .i64 n)]) (L := []) (m := m) true tbOk Tryd.mixed Tryd.func25 rfl (k := 1) (by show fnOk [] _ _ _ = true; decide +kernel) rfl (Good.nil m) ?_
 refine sq ?_
 refine mg [] 8 ((decide (n < 0)) || (decide (4 ≤ n))) ?_ ?_
 · repeat' first
    | exact ⟨⟨_, rfl, by grind [SB.val]⟩, rfl⟩
    | refine an (fun _ => ?_) (fun _ => ?_)
 refine an (fun h1 => ?_) (fun h1 => ?_)
 · replace h1 : (n < 0) ∨ (4 ≤ n) := ((borT h1).imp (fun q => (of_decide_eq_true q)) (fun q => (of_decide_eq_true q)))
   have e0 : (if n < 0 ∨ 4 ≤ n then 1 else 0 : Int) = (1 : Int) := by
    first | (rw [if_pos (by omega)]; done) | (rw [if_neg (by omega)]; done)
   rw [e0] at hK
   exact rt0 rfl fun _ => hK
 replace h1 : (0 ≤ n) ∧ (n < 4) := ⟨(Int.not_lt.1 (of_decide_eq_false (borL h1))), (Int.not_le.1 (of_decide_eq_false (borR h1)))⟩
 have e0 : (if n < 0 ∨ 4 ≤ n then 1 else 0 : Int) = (0 : Int) := by
  first | (rw [if_pos (by omega)]; done) | (rw [if_neg (by omega)]; done)
 rw [e0] at hK
 exact rt0 rfl fun _ => hK
set_option maxHeartbeats 2000000 in
theorem u_Owner (d nb kb : Nat) (s : DSt) (M : List (Str × Str)) (N : Nat) (n : Str) (hL : Lk N s M) (hNN : N ≤ 100000) (m : AMem) (gd : Gd [d, nb, kb] m) (K : AV → AMem → Prop) (hT : Tabs m) (hK : K (.tuple [.int .i64 (ownR M n).1, .bool (ownR M n).2.1, .err 60 (ownR M n).2.2]) (AMem.wth m [(d, dObj kb nb s), (nb, mObj s.now), (kb, mObj s.kept)])) : ACalls Tryd.prog 16 [.ptr ⟨d, 0, none⟩, .str n] (AMem.wth m [(d, dObj kb nb s), (nb, mObj s.now), (kb, mObj s.kept)]) K := by
 have hab := atoiV_bounds ((mget M n).getD [])
 refine enter (c := cf [] [0] [9] [] [] [d, nb, kb]) (vs := [.loc 0 0, .av (.str n)]) (L := [.cells [.mp 2, .mp 1, .own (s.wait.map chgAV), vI s.fuse, vB s.down, vI s.steps], .obj (mObj s.now), .obj (mObj s.kept)]) (m := m) true tbOk Tryd.mixed Tryd.func16 rfl (k := 2) (by show fnOk [] _ _ _ = true; decide +kernel) rfl (gd.good rfl) ?_
 refine ⟨fun F0 => ?_⟩
 have hbd1_0 : n.length ≤ 140737488355328 := F0 1
 refine sq ?_
 refine call0 (fun _ => u_VName n (by omega)) rfl ?_
 refine an (fun h1 => ?_) (fun h1 => ?_)
 · refine call0 (fun _ => u_file n (by first | omega | (have := nameV_len (by assumption); omega))) rfl ?_
   refine callM [0, 1] [.cells [.mp 2, .mp 1, .own (s.wait.map chgAV), vI s.fuse, vB s.down, vI s.steps], .obj (mObj s.now)] (.av (.tuple [.str ((mget M n).getD []), .err 60 (if (mget M n).isSome = true then 0 else 7)])) rfl (fun bs mm gd => u_ReadL (bs.getD 0 0) (bs.getD 2 0) (bs.getD 1 0) hL gd.nd mm) ?_
   refine sq ?_
   refine an (by decide) ?_
   refine an (fun h2 => ?_) (fun h2 => ?_)
   · have e0 : ownR M n = ((0, false, 0) : Int × Bool × Int) := by
      first | (rw [ownR, if_pos (by simp_all)]; done) | (rw [ownR, if_neg (by simp_all), if_pos (by simp_all)]; done) | (exfalso; simp_all; done) | (rw [ownR, if_neg (by simp_all), if_neg (by simp_all)]; exact ownT_no (by grind)) | (rw [ownR, if_neg (by simp_all), if_neg (by simp_all)]; exact ownT_ok (by grind) (by grind) (by grind) (by grind))
     rw [e0] at hK
     exact rt rfl fun _ => hK
   refine sq ?_
   refine an (fun h3 => ?_) (fun h3 => ?_)
   · refine callT [] [] (.av (.tuple [.int .i64 (atoiV ((mget M n).getD [])), .opt (atoiE ((mget M n).getD []))])) rfl (fun bs mm gd ht => fun K hK => u_Atoi ((mget M n).getD []) mm (Tabs.up ht hT) K hK) ?_
     refine sq ?_
     refine mg [9] 47 ((((!(!(atoiE ((mget M n).getD [])))) || (decide (atoiV ((mget M n).getD []) < 0))) || (decide (4 ≤ atoiV ((mget M n).getD [])))) || (!((Lib.itoa (atoiV ((mget M n).getD []))) == ((mget M n).getD [])))) ?_ ?_
     · repeat' first
        | exact ⟨⟨_, rfl, by grind [SB.val]⟩, rfl⟩
        | refine an (fun _ => ?_) (fun _ => ?_)
        | refine callT [] [] (vS (Lib.itoa (atoiV ((mget M n).getD [])))) rfl (fun bs mm gd ht => fun K hK => u_Itoa (atoiV ((mget M n).getD [])) (by omega) (by omega) mm (Tabs.up ht hT) K hK) ?_
     refine an (fun h4 => ?_) (fun h4 => ?_)
     · replace h4 : (((atoiE ((mget M n).getD []) = true) ∨ (atoiV ((mget M n).getD []) < 0)) ∨ (4 ≤ atoiV ((mget M n).getD []))) ∨ (Lib.itoa (atoiV ((mget M n).getD [])) ≠ ((mget M n).getD [])) := ((borT h4).imp (fun q => ((borT q).imp (fun q => ((borT q).imp (fun q => (bnF (bnT q))) (fun q => (of_decide_eq_true q)))) (fun q => (of_decide_eq_true q)))) (fun q => (ne_of_beq_false (bnT q))))
       have e0 : ownR M n = ((0, false, 5) : Int × Bool × Int) := by
        first | (rw [ownR, if_pos (by simp_all)]; done) | (rw [ownR, if_neg (by simp_all), if_pos (by simp_all)]; done) | (exfalso; simp_all; done) | (rw [ownR, if_neg (by simp_all), if_neg (by simp_all)]; exact ownT_no (by grind)) | (rw [ownR, if_neg (by simp_all), if_neg (by simp_all)]; exact ownT_ok (by grind) (by grind) (by grind) (by grind))
       rw [e0] at hK
       exact rt rfl fun _ => hK
     replace h4 : (((atoiE ((mget M n).getD []) = false) ∧ (0 ≤ atoiV ((mget M n).getD []))) ∧ (atoiV ((mget M n).getD []) < 4)) ∧ (Lib.itoa (atoiV ((mget M n).getD [])) = ((mget M n).getD [])) := ⟨⟨⟨(bnT (bnF (borL (borL (borL h4))))), (Int.not_lt.1 (of_decide_eq_false (borR (borL (borL h4)))))⟩, (Int.not_le.1 (of_decide_eq_false (borR (borL h4))))⟩, (eq_of_beq (bnF (borR h4)))⟩
     have e0 : ownR M n = ((atoiV ((mget M n).getD []), true, 0) : Int × Bool × Int) := by
      first | (rw [ownR, if_pos (by simp_all)]; done) | (rw [ownR, if_neg (by simp_all), if_pos (by simp_all)]; done) | (exfalso; simp_all; done) | (rw [ownR, if_neg (by simp_all), if_neg (by simp_all)]; exact ownT_no (by grind)) | (rw [ownR, if_neg (by simp_all), if_neg (by simp_all)]; exact ownT_ok (by grind) (by grind) (by grind) (by grind))
     rw [e0] at hK
     exact rt rfl fun _ => hK
   have e0 : ownR M n = ((0, false, (if (mget M n).isSome = true then 0 else 7)) : Int × Bool × Int) := by
    first | (rw [ownR, if_pos (by simp_all)]; done) | (rw [ownR, if_neg (by simp_all), if_pos (by simp_all)]; done) | (exfalso; simp_all; done) | (rw [ownR, if_neg (by simp_all), if_neg (by simp_all)]; exact ownT_no (by grind)) | (rw [ownR, if_neg (by simp_all), if_neg (by simp_all)]; exact ownT_ok (by grind) (by grind) (by grind) (by grind))
   rw [e0] at hK
   exact rt rfl fun _ => hK
 have e0 : ownR M n = ((0, false, 3) : Int × Bool × Int) := by
  first | (rw [ownR, if_pos (by simp_all)]; done) | (rw [ownR, if_neg (by simp_all), if_pos (by simp_all)]; done) | (exfalso; simp_all; done) | (rw [ownR, if_neg (by simp_all), if_neg (by simp_all)]; exact ownT_no (by grind)) | (rw [ownR, if_neg (by simp_all), if_neg (by simp_all)]; exact ownT_ok (by grind) (by grind) (by grind) (by grind))
 rw [e0] at hK
 exact rt rfl fun _ => hK
def cutF (s : Str) : List Str := if Lib.hasPrefix s pre5 = true ∧ nameV (Lib.trimPrefix s pre5) = true then [Lib.trimPrefix s pre5] else []
def cutL (l : List Str) : List Str := l.flatMap cutF
theorem cutL_step {l : List Str} {i : Int} (h0 : 0 ≤ i) (hi : i < l.length) : cutL (l.take (i + 1).toNat) = cutL (l.take i.toNat) ++ cutF (gI l i) := by
  rw [take_succ_gI h0 hi, cutL, List.flatMap_append]; simp [cutL]
theorem cutF_len (s : Str) : (cutF s).length ≤ 1 := by unfold cutF; split <;> simp
theorem cutL_len (l : List Str) : (cutL l).length ≤ l.length := by
  induction l with
  | nil => simp [cutL]
  | cons x r ih =>
    have := cutF_len x
    simp only [cutL, List.flatMap_cons, List.length_append, List.length_cons] at ih ⊢; omega
theorem trim_lk (k : Str) : Lib.hasPrefix (lkN k) pre5 = true ∧ Lib.trimPrefix (lkN k) pre5 = k := by
  have h : Lib.hasPrefix (lkN k) pre5 = true := by simp [Lib.hasPrefix, lkN]
  refine ⟨h, ?_⟩
  rw [Lib.trimPrefix, if_pos h, lkN, List.drop_left]
theorem cons_le (c : UInt8) (a b : Str) : c :: a ≤ c :: b ↔ a ≤ b := by
  rw [List.cons_le_cons_iff]; simp
theorem lkN_le {a b : Str} : lkN a ≤ lkN b ↔ a ≤ b := by
  show 108 :: 111 :: 99 :: 107 :: 46 :: a ≤ 108 :: 111 :: 99 :: 107 :: 46 :: b ↔ a ≤ b
  simp only [cons_le]
theorem sortL_lk (l : List Str) : sortL (l.map lkN) = (sortL l).map lkN := by
  unfold sortL
  refine (List.map_mergeSort fun a _ b _ => ?_).symm
  rw [Bool.eq_iff_iff, decide_eq_true_eq, decide_eq_true_eq]; exact lkN_le.symm
theorem cutL_lk {l : List Str} (h : ∀ k ∈ l, nameV k = true) : cutL (l.map lkN) = l := by
  induction l with
  | nil => rfl
  | cons k r ih =>
    have h1 := trim_lk k
    rw [List.map_cons, cutL, List.flatMap_cons, cutF, h1.2, if_pos ⟨h1.1, h k (List.mem_cons_self ..)⟩]
    rw [show List.flatMap cutF (r.map lkN) = r from ih fun x hx => h x (List.mem_cons_of_mem _ hx)]; rfl
theorem Lk.all {N : Nat} {s : DSt} {M : List (Str × Str)} (h : Lk N s M) : cutL (sortL ((M.map Prod.fst).map lkN)) = sortL (M.map Prod.fst) := by
  rw [sortL_lk]
  refine cutL_lk fun k hk => ?_
  obtain ⟨p, hp, rfl⟩ := List.mem_map.1 ((sortL_perm _).mem_iff.1 hk)
  exact h.v p hp
theorem Lk.short {N : Nat} {s : DSt} {M : List (Str × Str)} (h : Lk N s M) : ∀ x ∈ sortL ((M.map Prod.fst).map lkN), x.length ≤ 17 := by
  intro x hx
  obtain ⟨q, hq, rfl⟩ := List.mem_map.1 ((sortL_perm _).mem_iff.1 hx)
  obtain ⟨p, hp, rfl⟩ := List.mem_map.1 hq
  have := nameV_len (h.v p hp)
  rw [lkN_len]; omega
theorem Lk.len {N : Nat} {s : DSt} {M : List (Str × Str)} (h : Lk N s M) : M.length ≤ N := by
  have := h.d.nl
  rw [h.n] at this
  simpa [lockM] using this
set_option maxHeartbeats 2000000 in
theorem u_All (d nb kb : Nat) (s : DSt) (M : List (Str × Str)) (N : Nat) (hL : Lk N s M) (hNN : N ≤ 100000) (m : AMem) (gd : Gd [d, nb, kb] m) (K : AV → AMem → Prop) (hK : K (.tuple [.slice false ((sortL (M.map Prod.fst)).map strAV), .err 60 0]) (AMem.wth m [(d, dObj kb nb s), (nb, mObj s.now), (kb, mObj s.kept)])) : ACalls Tryd.prog 18 [.ptr ⟨d, 0, none⟩] (AMem.wth m [(d, dObj kb nb s), (nb, mObj s.now), (kb, mObj s.kept)]) K := by
 refine ACalls.pl ?_
 have hML := hL.len
 have hSL : (sortL ((M.map Prod.fst).map lkN)).length = M.length := by rw [sortL_len, List.length_map, List.length_map]
 refine enter (c := cf [] [] [7] [] [] [d, nb, kb]) (vs := [.loc 0 0]) (L := [.cells [.mp 2, .mp 1, .own (s.wait.map chgAV), vI s.fuse, vB s.down, vI s.steps], .obj (mObj s.now), .obj (mObj s.kept)]) (m := m) true tbOk Tryd.mixed Tryd.func18 rfl (k := 1) (by show fnOk [] _ _ _ = true; decide +kernel) rfl (gd.good rfl) ?_
 refine callM [0, 1] [.cells [.mp 2, .mp 1, .own (s.wait.map chgAV), vI s.fuse, vB s.down, vI s.steps], .obj (mObj s.now)] (.av (.tuple [.slice false ((sortL ((M.map Prod.fst).map lkN)).map strAV), .err 60 0])) rfl (fun bs mm gd => u_ListL (bs.getD 0 0) (bs.getD 2 0) (bs.getD 1 0) hL gd.nd hNN mm) ?_
 refine sq ?_
 refine ln ?_
 refine lp (σ := (List (List UInt8)) × Int) [] [5, 6, 16, 17, 18] 3 (fun ⟨o, i⟩ => ([(5, .av (.err 60 0)), (6, .own (o.map strAV)), (16, vL ((sortL ((M.map Prod.fst).map lkN)).map strAV)), (17, vI ((sortL ((M.map Prod.fst).map lkN)).length : Int)), (18, vI i)], [.cells [.mp 2, .mp 1, .own (s.wait.map chgAV), vI s.fuse, vB s.down, vI s.steps], .obj (mObj s.now), .obj (mObj s.kept)], m)) (fun ⟨o, i⟩ => 0 ≤ i ∧ i ≤ (sortL ((M.map Prod.fst).map lkN)).length ∧ o = cutL ((sortL ((M.map Prod.fst).map lkN)).take i.toNat)) (fun ⟨o, i⟩ => (sortL ((M.map Prod.fst).map lkN)).length - i.toNat) ([], 0) ⟨rfl, rfl⟩ ?_ ?_
 · try dsimp only
   exact ⟨by omega, by omega, rfl⟩
 rintro ⟨o, i⟩ hI
 dsimp only at hI
 have hol : (o.length : Int) ≤ i := by have := cutL_len ((sortL ((M.map Prod.fst).map lkN)).take i.toNat); rw [← hI.2.2, List.length_take] at this; omega
 refine sq ?_
 refine an (fun h1 => ?_) (fun h1 => ?_)
 · refine sq ?_
   refine ix (by omega) ?_
   refine call0 (fun _ => u_CutPrefix (gI (sortL ((M.map Prod.fst).map lkN)) i) pre5) rfl ?_
   refine mg [5, 6, 9, 16, 17, 18] 31 ((Lib.hasPrefix (gI (sortL ((M.map Prod.fst).map lkN)) i) pre5) && (nameV (Lib.trimPrefix (gI (sortL ((M.map Prod.fst).map lkN)) i) pre5))) ?_ ?_
   · repeat' first
      | exact ⟨⟨_, rfl, by grind [SB.val]⟩, rfl⟩
      | refine an (fun _ => ?_) (fun _ => ?_)
      | refine call0 (fun _ => u_VName (Lib.trimPrefix (gI (sortL ((M.map Prod.fst).map lkN)) i) pre5) (by have := trimPrefix_len (gI (sortL ((M.map Prod.fst).map lkN)) i) pre5; have := hL.short _ (gI_mem hI.1 h1); omega)) rfl ?_
   refine an (fun h2 => ?_) (fun h2 => ?_)
   · replace h2 : (Lib.hasPrefix (gI (sortL ((M.map Prod.fst).map lkN)) i) pre5 = true) ∧ (nameV (Lib.trimPrefix (gI (sortL ((M.map Prod.fst).map lkN)) i) pre5) = true) := ⟨(bandL h2), (bandR h2)⟩
     refine ap strAV o ([(Lib.trimPrefix (gI (sortL ((M.map Prod.fst).map lkN)) i) pre5)] : List (List UInt8)) rfl rfl (fun _ => ⟨rfl, rfl⟩) (by (simp only [List.length_append, List.length_cons, List.length_nil]; omega)) ?_
     refine an (by omega) ?_
     refine ⟨(o ++ ([(Lib.trimPrefix (gI (sortL ((M.map Prod.fst).map lkN)) i) pre5)] : List (List UInt8)), i + 1), ⟨rfl, rfl⟩, ?_, ?_⟩
     · try dsimp only
       exact ⟨by omega, by omega, by rw [cutL_step hI.1 h1, ← hI.2.2, cutF]; first | (rw [if_pos ⟨by grind, by grind⟩]; done) | (rw [if_neg (by grind), List.append_nil])⟩
     try dsimp only
     omega
   replace h2 : (Lib.hasPrefix (gI (sortL ((M.map Prod.fst).map lkN)) i) pre5 = false) ∨ (nameV (Lib.trimPrefix (gI (sortL ((M.map Prod.fst).map lkN)) i) pre5) = false) := ((bandF h2).imp (fun q => q) (fun q => q))
   refine an (by omega) ?_
   refine ⟨(o, i + 1), ⟨rfl, rfl⟩, ?_, ?_⟩
   · try dsimp only
     exact ⟨by omega, by omega, by rw [cutL_step hI.1 h1, ← hI.2.2, cutF]; first | (rw [if_pos ⟨by grind, by grind⟩]; done) | (rw [if_neg (by grind), List.append_nil])⟩
   try dsimp only
   omega
 refine rt rfl fun _ => ?_
 show K (.tuple [.slice false (o.map strAV), .err 60 0]) (AMem.wth m [(d, dObj kb nb s), (nb, mObj s.now), (kb, mObj s.kept)])
 have q : o = sortL (M.map Prod.fst) := by rw [hI.2.2, List.take_of_length_le (by omega), hL.all]
 rw [q]; exact hK
end Go.Proofs
end
section
namespace Go.Proofs
open Go Go.Aw Go.Sx
set_option maxRecDepth 100000
theorem mpSS : Go.Sx.MpOk tb 27 9 9 .string (strAV []) := ⟨⟨rfl, rfl⟩, rfl, ⟨trivial, rfl⟩⟩
theorem ownT_hit {x : Str} {i : Int} (h0 : 0 ≤ i) (h4 : i < 4) (hx : x = Lib.itoa i) : ownT x = (i, true, 0) := by
  have q := itoa_4
  have : i = 0 ∨ i = 1 ∨ i = 2 ∨ i = 3 := by omega
  rcases this with rfl | rfl | rfl | rfl
  · rw [q.1] at hx; subst hx; rfl
  · rw [q.2.1] at hx; subst hx; rfl
  · rw [q.2.2.1] at hx; subst hx; rfl
  · rw [q.2.2.2] at hx; subst hx; rfl
theorem ownT_miss {x : Str} (h : ∀ j : Int, 0 ≤ j → j < 4 → x ≠ Lib.itoa j) : ownT x = (0, false, 5) := by
  have q := itoa_4
  have h0 := h 0 (by decide) (by decide)
  have h1 := h 1 (by decide) (by decide)
  have h2 := h 2 (by decide) (by decide)
  have h3 := h 3 (by decide) (by decide)
  rw [q.1] at h0
  rw [q.2.1] at h1
  rw [q.2.2.1] at h2
  rw [q.2.2.2] at h3
  rw [ownT, if_neg h0, if_neg h1, if_neg h2, if_neg h3]
theorem ownR_nn (M : List (Str × Str)) (n : Str) : 0 ≤ (ownR M n).2.2 := by
  unfold ownR ownT
  split
  · decide
  split
  · decide
  split
  · decide
  split
  · decide
  split
  · decide
  split <;> decide
def firstE (M : List (Str × Str)) : List Str → Int
  | [] => 0
  | n :: r => if (ownR M n).2.2 = 0 then firstE M r else (ownR M n).2.2
theorem firstE_drop {M : List (Str × Str)} {l : List Str} {i : Int} (h0 : 0 ≤ i) (hi : i < l.length) : firstE M (l.drop i.toNat) = if (ownR M (gI l i)).2.2 = 0 then firstE M (l.drop (i + 1).toNat) else (ownR M (gI l i)).2.2 := by
  rw [drop_gI h0 hi, firstE]
theorem firstE_nn (M : List (Str × Str)) (l : List Str) : 0 ≤ firstE M l := by
  induction l with
  | nil => exact Int.le_refl _
  | cons n r ih => rw [firstE]; split; exact ih; exact ownR_nn M n
def unlF (who : Int) : List (Str × Str) → List Str → List (Str × Str)
  | M, [] => M
  | M, n :: r => unlF who (if (mget M n).getD [] = Lib.itoa who then mdel M n else M) r
theorem unlF_drop {who : Int} {M : List (Str × Str)} {l : List Str} {i : Int} (h0 : 0 ≤ i) (hi : i < l.length) : unlF who M (l.drop i.toNat) = unlF who (if (mget M (gI l i)).getD [] = Lib.itoa who then mdel M (gI l i) else M) (l.drop (i + 1).toNat) := by
  rw [drop_gI h0 hi, unlF]
def unlR (M : List (Str × Str)) (who : Int) (l : List Str) : List (Str × Str) × Int := if who < 0 ∨ 3 < who then (M, 1) else if firstE M l ≠ 0 then (M, firstE M l) else (unlF who M l, 0)
def takeE (M : List (Str × Str)) (who : Int) (av : Int → Bool) : List Str → Int
  | [] => 0
  | n :: r => if (ownR M n).2.2 ≠ 0 then (ownR M n).2.2 else if ((ownR M n).2.1 = true ∧ (ownR M n).1 ≠ who) ∧ av (ownR M n).1 = true then 14 else takeE M who av r
theorem takeE_drop {M : List (Str × Str)} {who : Int} {av : Int → Bool} {l : List Str} {i : Int} (h0 : 0 ≤ i) (hi : i < l.length) : takeE M who av (l.drop i.toNat) = if (ownR M (gI l i)).2.2 ≠ 0 then (ownR M (gI l i)).2.2 else if ((ownR M (gI l i)).2.1 = true ∧ (ownR M (gI l i)).1 ≠ who) ∧ av (ownR M (gI l i)).1 = true then 14 else takeE M who av (l.drop (i + 1).toNat) := by
  rw [drop_gI h0 hi, takeE]
theorem takeE_nn (M : List (Str × Str)) (who : Int) (av : Int → Bool) (l : List Str) : 0 ≤ takeE M who av l := by
  induction l with
  | nil => exact Int.le_refl _
  | cons n r ih =>
    rw [takeE]
    split
    · exact ownR_nn M n
    split
    · decide
    · exact ih
def lkF (who : Int) (M : List (Str × Str)) (l : List Str) : List (Str × Str) := l.foldl (fun M n => mput M n (Lib.itoa who)) M
theorem lkF_step {who : Int} {M : List (Str × Str)} {l : List Str} {i : Int} (h0 : 0 ≤ i) (hi : i < l.length) : lkF who M (l.take (i + 1).toNat) = mput (lkF who M (l.take i.toNat)) (gI l i) (Lib.itoa who) := by
  rw [take_succ_gI h0 hi, lkF, List.foldl_append]; rfl
theorem lkF_len (who : Int) (l : List Str) : ∀ (M : List (Str × Str)), (lkF who M l).length ≤ M.length + l.length := by
  induction l with
  | nil => intro M; exact Nat.le_refl _
  | cons n r ih =>
    intro M
    have h1 := ih (mput M n (Lib.itoa who))
    have h2 := mput_len M n (Lib.itoa who)
    rw [lkF, List.foldl_cons, List.length_cons]
    rw [lkF] at h1
    omega
set_option maxHeartbeats 2000000 in
theorem u_OwnerOf (M : List (Str × Str)) (n : Str) (b : Nat)  (m : AMem) (gd : Gd [b] m) (K : AV → AMem → Prop) (hK : K (.tuple [.int .i64 (ownR M n).1, .bool (ownR M n).2.1, .int .i64 (ownR M n).2.2]) (AMem.wth m [(b, mObj M)])) : ACalls Tryd.prog 17 [.map b, .str n] (AMem.wth m [(b, mObj M)]) K := by
 refine enter (c := cf [] [] [] [] [] [b]) (vs := [.mp 0, .av (.str n)]) (L := [.obj (mObj M)]) (m := m) false tbOk Tryd.mixed Tryd.func17 rfl (k := 2) (by show fnOk [] _ _ _ = true; decide +kernel) rfl (gd.good rfl) ?_
 refine call0 (fun _ => u_NameMay n) rfl ?_
 refine sq ?_
 refine an (fun h1 => ?_) (fun h1 => ?_)
 · refine mlo tbOk (dk := .string) strAV strAV strKey_ok M n [] (t := 27) (ke := 9) (ve := 9) mpSS rfl rfl rfl rfl rfl ?_ rfl
   refine sq ?_
   refine an (fun h2 => ?_) (fun h2 => ?_)
   · refine sq ?_
     refine lp (σ := Int) [] [8, 10] 1 (fun i => ([(8, vS ((mget M n).getD [])), (10, vI i)], [.obj (mObj M)], m)) (fun i => 0 ≤ i ∧ i ≤ 4 ∧ ∀ j : Int, 0 ≤ j → j < i → (mget M n).getD [] ≠ Lib.itoa j) (fun i => (4 - i).toNat) (0) ⟨rfl, rfl⟩ ?_ ?_
     · try dsimp only
       exact ⟨by omega, by omega, fun j h1 h2 => by omega⟩
     rintro i hI
     refine sq ?_
     refine an (fun h3 => ?_) (fun h3 => ?_)
     · refine sq ?_
       refine call0 (fun _ => u_Decimal i (by omega) (by omega)) rfl ?_
       refine an (fun h4 => ?_) (fun h4 => ?_)
       · have e0 : ownR M n = ((i, true, 0) : Int × Bool × Int) := by
          first | (rw [ownR, if_pos (by simp_all)]; done) | (rw [ownR, if_neg (by simp_all), if_pos (by simp_all)]; done) | (rw [ownR, if_neg (by simp_all), if_neg (by simp_all)]; exact ownT_hit hI.1 (by omega) (by assumption)) | (rw [ownR, if_neg (by simp_all), if_neg (by simp_all)]; exact ownT_miss fun j h5 h6 => hI.2.2 j h5 (by omega))
         rw [e0] at hK
         exact rt rfl fun _ => hK
       refine an (by omega) ?_
       refine ⟨(i + 1), ⟨rfl, rfl⟩, ?_, ?_⟩
       · try dsimp only
         exact ⟨by omega, by omega, fun j h5 h6 => (by rcases Int.lt_or_le j i with h | h; exact hI.2.2 j h5 h; rw [show j = i by omega]; assumption)⟩
       try dsimp only
       omega
     have e0 : ownR M n = ((0, false, 5) : Int × Bool × Int) := by
      first | (rw [ownR, if_pos (by simp_all)]; done) | (rw [ownR, if_neg (by simp_all), if_pos (by simp_all)]; done) | (rw [ownR, if_neg (by simp_all), if_neg (by simp_all)]; exact ownT_hit hI.1 (by omega) (by assumption)) | (rw [ownR, if_neg (by simp_all), if_neg (by simp_all)]; exact ownT_miss fun j h5 h6 => hI.2.2 j h5 (by omega))
     rw [e0] at hK
     exact rt rfl fun _ => hK
   have e0 : ownR M n = ((0, false, 0) : Int × Bool × Int) := by
    first | (rw [ownR, if_pos (by simp_all)]; done) | (rw [ownR, if_neg (by simp_all), if_pos (by simp_all)]; done) | (rw [ownR, if_neg (by simp_all), if_neg (by simp_all)]; exact ownT_hit hI.1 (by omega) (by assumption)) | (rw [ownR, if_neg (by simp_all), if_neg (by simp_all)]; exact ownT_miss fun j h5 h6 => hI.2.2 j h5 (by omega))
   rw [e0] at hK
   exact rt rfl fun _ => hK
 have e0 : ownR M n = ((0, false, 3) : Int × Bool × Int) := by
  first | (rw [ownR, if_pos (by simp_all)]; done) | (rw [ownR, if_neg (by simp_all), if_pos (by simp_all)]; done) | (rw [ownR, if_neg (by simp_all), if_neg (by simp_all)]; exact ownT_hit hI.1 (by omega) (by assumption)) | (rw [ownR, if_neg (by simp_all), if_neg (by simp_all)]; exact ownT_miss fun j h5 h6 => hI.2.2 j h5 (by omega))
 rw [e0] at hK
 exact rt rfl fun _ => hK
set_option maxHeartbeats 2000000 in
theorem u_UnlockAll (M : List (Str × Str)) (who : Int) (l : List Str) (b : Nat)  (m : AMem) (gd : Gd [b] m) (K : AV → AMem → Prop) (hK : K (.int .i64 (unlR M who l).2) (AMem.wth m [(b, mObj (unlR M who l).1)])) : ACalls Tryd.prog 13 [.map b, .int .i64 who, .slice false (l.map strAV)] (AMem.wth m [(b, mObj M)]) K := by
 refine enter (c := cf [] [0] [1] [12999] [12] [b]) (vs := [.mp 0, .av (.int .i64 who), .av (.slice false (l.map strAV))]) (L := [.obj (mObj M)]) (m := m) false tbOk Tryd.mixed Tryd.func13 rfl (k := 3) (by show fnOk [12999] _ _ _ = true; decide +kernel) rfl (gd.good rfl) ?_
 refine ⟨fun F0 => ?_⟩
 have hbd2_0 : l.length ≤ 140737488355328 := bd_map (o := false) (F0 2).1
 refine sq ?_
 refine mg [0, 1, 2] 17 ((decide (who < 0)) || (decide (3 < who))) ?_ ?_
 · repeat' first
    | exact ⟨⟨_, rfl, by grind [SB.val]⟩, rfl⟩
    | refine an (fun _ => ?_) (fun _ => ?_)
 refine an (fun h1 => ?_) (fun h1 => ?_)
 · replace h1 : (who < 0) ∨ (3 < who) := ((borT h1).imp (fun q => (of_decide_eq_true q)) (fun q => (of_decide_eq_true q)))
   have e0 : unlR M who l = ((M, 1) : List (Str × Str) × Int) := by
    first | (rw [unlR, if_pos (by omega)]; done) | (rw [unlR, if_neg (by omega), if_pos (by rw [hI.2.2, firstE_drop hI.1 h2, if_neg (by omega)]; omega), hI.2.2, firstE_drop hI.1 h2, if_neg (by omega)]; done) | (rw [unlR, if_neg (by omega), if_neg (by rw [hI.2.2, List.drop_eq_nil_of_le (by omega)]; simp [firstE]), hI2.2.2, List.drop_eq_nil_of_le (by omega)]; rfl)
   rw [e0] at hK
   exact rt rfl fun _ => hK
 replace h1 : (0 ≤ who) ∧ (who ≤ 3) := ⟨(Int.not_lt.1 (of_decide_eq_false (borL h1))), (Int.not_lt.1 (of_decide_eq_false (borR h1)))⟩
 refine sq ?_
 refine lp (σ := Int) [] [0, 1, 2, 7] 1 (fun i => ([(0, .mp 0), (1, vI who), (2, vL (l.map strAV)), (7, vI i)], [.obj (mObj M)], m)) (fun i => 0 ≤ i ∧ i ≤ l.length ∧ firstE M l = firstE M (l.drop i.toNat)) (fun i => l.length - i.toNat) (0) ⟨rfl, rfl⟩ ?_ ?_
 · try dsimp only
   exact ⟨by omega, by omega, rfl⟩
 rintro i hI
 refine sq ?_
 refine ln ?_
 refine an (fun h2 => ?_) (fun h2 => ?_)
 · refine sq ?_
   refine ix (by omega) ?_
   refine callM [0] [.obj (mObj M)] (.av (.tuple [.int .i64 ((ownR M (gI l i)).1), .bool ((ownR M (gI l i)).2.1), .int .i64 ((ownR M (gI l i)).2.2)])) rfl (fun bs mm gd => u_OwnerOf M (gI l i) (bs.getD 0 0) mm gd) ?_
   refine an (fun h3 => ?_) (fun h3 => ?_)
   · have e0 : unlR M who l = ((M, (ownR M (gI l i)).2.2) : List (Str × Str) × Int) := by
      first | (rw [unlR, if_pos (by omega)]; done) | (rw [unlR, if_neg (by omega), if_pos (by rw [hI.2.2, firstE_drop hI.1 h2, if_neg (by omega)]; omega), hI.2.2, firstE_drop hI.1 h2, if_neg (by omega)]; done) | (rw [unlR, if_neg (by omega), if_neg (by rw [hI.2.2, List.drop_eq_nil_of_le (by omega)]; simp [firstE]), hI2.2.2, List.drop_eq_nil_of_le (by omega)]; rfl)
     rw [e0] at hK
     exact rt rfl fun _ => hK
   refine an (by omega) ?_
   refine ⟨(i + 1), ⟨rfl, rfl⟩, ?_, ?_⟩
   · try dsimp only
     have hnn := ownR_nn M (gI l i)
     exact ⟨by omega, by omega, by rw [hI.2.2, firstE_drop hI.1 h2, if_pos (by omega)]⟩
   try dsimp only
   omega
 refine sq ?_
 refine lp (σ := Int × List (Str × Str)) [] [0, 1, 2, 11] 1 (fun ⟨j, X⟩ => ([(0, .mp 0), (1, vI who), (2, vL (l.map strAV)), (11, vI j)], [.obj (mObj X)], m)) (fun ⟨j, X⟩ => 0 ≤ j ∧ j ≤ l.length ∧ unlF who M l = unlF who X (l.drop j.toNat)) (fun ⟨j, X⟩ => l.length - j.toNat) (0, M) ⟨rfl, rfl⟩ ?_ ?_
 · try dsimp only
   exact ⟨by omega, by omega, rfl⟩
 rintro ⟨j, X⟩ hI2
 dsimp only at hI2
 refine sq ?_
 refine ln ?_
 refine an (fun h4 => ?_) (fun h4 => ?_)
 · refine sq ?_
   refine rgA tbOk Tryd.mixed (σ := Unit) (.f 0 (.f 1 (.f 2 (.f 6 (.o 3 (.o 4 (.o 5 (.s 7 (.s 8 .d)) (.o 7 (.s 5 (.s 8 .d)) .z)) (.o 7 (.s 4 (.s 5 (.s 8 .d))) .z)) (.o 7 (.s 3 (.s 4 (.s 5 (.s 8 .d)))) .z)))))) [] [0, 1, 2, 11, 51] 1 (fun _ => ([(0, .mp 0), (1, vI who), (2, vL (l.map strAV)), (11, vI j), (51, vB (((mget X (gI l j)).getD []) == (Lib.itoa who)))], [.obj (mObj X)], m)) (fun _ => True) (by decide +kernel) ?_ ?_
   · rintro _ hy12
     try dsimp only at hy12
     refine an (fun h5 => ?_) (fun h5 => ?_)
     · refine ix (by omega) ?_
       refine mdl' tbOk (dk := .string) strAV strAV strKey_ok X (gI l j) mpSS rfl rfl rfl rfl ?_
       refine an (by omega) ?_
       refine ⟨(j + 1, mdel X (gI l j)), ⟨rfl, rfl⟩, ?_, ?_⟩
       · try dsimp only
         exact ⟨by omega, by omega, by rw [hI2.2.2, unlF_drop hI2.1 h4]; first | rw [if_pos (by simpa using h5)] | rw [if_neg (by simpa using h5)]⟩
       try dsimp only
       omega
     refine an (by omega) ?_
     refine ⟨(j + 1, X), ⟨rfl, rfl⟩, ?_, ?_⟩
     · try dsimp only
       exact ⟨by omega, by omega, by rw [hI2.2.2, unlF_drop hI2.1 h4]; first | rw [if_pos (by simpa using h5)] | rw [if_neg (by simpa using h5)]⟩
     try dsimp only
     omega
   repeat' first
    | refine ⟨(), ⟨rfl, rfl⟩, trivial⟩
    | refine mlk tbOk (dk := .string) strAV strAV strKey_ok X (gI l j) [] (t := 27) (ke := 9) (ve := 9) mpSS rfl rfl rfl rfl rfl rfl ?_
    | refine call0 (fun _ => u_Decimal who (by omega) (by omega)) rfl ?_
    | refine ix (by omega) ?_
    | refine ⟨?_, ?_, trivial⟩
 have e0 : unlR M who l = ((X, 0) : List (Str × Str) × Int) := by
  first | (rw [unlR, if_pos (by omega)]; done) | (rw [unlR, if_neg (by omega), if_pos (by rw [hI.2.2, firstE_drop hI.1 h2, if_neg (by omega)]; omega), hI.2.2, firstE_drop hI.1 h2, if_neg (by omega)]; done) | (rw [unlR, if_neg (by omega), if_neg (by rw [hI.2.2, List.drop_eq_nil_of_le (by omega)]; simp [firstE]), hI2.2.2, List.drop_eq_nil_of_le (by omega)]; rfl)
 rw [e0] at hK
 exact rt rfl fun _ => hK
end Go.Proofs
end
section
namespace Go.Proofs
open Go Go.Aw Go.Sx
set_option maxRecDepth 100000
theorem Lk.mono {N N' : Nat} {s : DSt} {M : List (Str × Str)} (h : Lk N s M) (hn : N ≤ N') : Lk N' s M := ⟨h.d.mono hn, h.u, h.f, h.n, h.v, h.z, h.nd⟩
theorem mget_mdel {l : List (Str × Str)} {k s : Str} (hn : (l.map Prod.fst).Nodup) : mget (mdel l k) s = if s = k then none else mget l s := by
  induction l with
  | nil => simp [mdel, mget]
  | cons p r ih =>
    obtain ⟨a, b⟩ := p
    simp only [List.map_cons, List.nodup_cons] at hn
    rw [mdel]
    by_cases h : a = k
    · subst h
      rw [if_pos rfl]
      by_cases e : s = a
      · subst e; rw [if_pos rfl]; exact mget_none.2 hn.1
      · rw [if_neg e, mget, if_neg (fun q => e q.symm)]
    · rw [if_neg h, mget, mget]
      by_cases e : a = s
      · subst e; rw [if_pos rfl, if_pos rfl, if_neg h]
      · rw [if_neg e, if_neg e]; exact ih hn.2
theorem mget_dels : ∀ (acc : List Str) {M : List (Str × Str)} {s : Str}, (M.map Prod.fst).Nodup → mget (acc.foldl mdel M) s = if s ∈ acc then none else mget M s
  | [], _, _, _ => by simp
  | k :: r, M, s, h => by
    rw [List.foldl_cons, mget_dels r (mdel_nd h), mget_mdel h]
    by_cases h1 : s ∈ r
    · simp [h1]
    · by_cases h2 : s = k
      · simp [h2]
      · simp [h1, h2]
def giveS (M : List (Str × Str)) (who : Int) (acc : List Str) (n : Str) : List Str := if ((ownR M n).2.1 = true ∧ (ownR M n).1 = who) ∧ n ∉ acc then acc ++ [n] else acc
def giveL (M : List (Str × Str)) (who : Int) (l : List Str) : List Str := l.foldl (giveS M who) []
theorem giveL_step {M : List (Str × Str)} {who : Int} {l : List Str} {i : Int} (h0 : 0 ≤ i) (hi : i < l.length) : giveL M who (l.take (i + 1).toNat) = giveS M who (giveL M who (l.take i.toNat)) (gI l i) := by
  rw [take_succ_gI h0 hi, giveL, List.foldl_append]; rfl
theorem giveS_len (M : List (Str × Str)) (who : Int) (acc : List Str) (n : Str) : (giveS M who acc n).length ≤ acc.length + 1 := by unfold giveS; split <;> simp
theorem gives_len (M : List (Str × Str)) (who : Int) : ∀ (l acc : List Str), (l.foldl (giveS M who) acc).length ≤ acc.length + l.length
  | [], _ => Nat.le_refl _
  | n :: r, acc => by
    have h1 := gives_len M who r (giveS M who acc n)
    have h2 := giveS_len M who acc n
    rw [List.foldl_cons, List.length_cons]; omega
theorem giveL_len (M : List (Str × Str)) (who : Int) (l : List Str) : (giveL M who l).length ≤ l.length := by
  have := gives_len M who l []
  simpa [giveL] using this
theorem gives_nd (M : List (Str × Str)) (who : Int) : ∀ (l acc : List Str), acc.Nodup → (l.foldl (giveS M who) acc).Nodup
  | [], _, h => h
  | n :: r, acc, h => gives_nd M who r _ (by
    unfold giveS; split
    · rename_i c; exact List.nodup_append.2 ⟨h, by simp, fun a ha b hb e => by simp at hb; subst hb; subst e; exact c.2 ha⟩
    · exact h)
theorem gives_mem (M : List (Str × Str)) (who : Int) : ∀ (l acc : List Str) {x : Str}, x ∈ l.foldl (giveS M who) acc → x ∈ acc ∨ (x ∈ l ∧ (ownR M x).2.1 = true)
  | [], _, _, h => .inl h
  | n :: r, acc, x, h => by
    rcases gives_mem M who r _ h with h | h
    · unfold giveS at h
      split at h
      · rename_i c
        rcases List.mem_append.1 h with h | h
        · exact .inl h
        · rw [List.mem_singleton.1 h]; exact .inr ⟨List.mem_cons_self .., c.1.1⟩
      · exact .inl h
    · exact .inr ⟨List.mem_cons_of_mem _ h.1, h.2⟩
theorem own_some {M : List (Str × Str)} {n : Str} (h : (ownR M n).2.1 = true) : (mget M n).isSome = true := by
  unfold ownR at h
  split at h
  · cases h
  · split at h
    · cases h
    · rename_i q; cases e : mget M n with
      | none => rw [e] at q; exact absurd rfl q
      | some v => rfl
theorem own_nm {M : List (Str × Str)} {n : Str} (h : (ownR M n).2.1 = true) : nameV n = true := by
  unfold ownR at h
  split at h
  · cases h
  · rename_i c; simpa using c
theorem own_iff {M : List (Str × Str)} {n : Str} {who : Int} (h : (ownR M n).2.2 = 0) (h0 : 0 ≤ who) (h3 : who ≤ 3) : ((ownR M n).2.1 = true ∧ (ownR M n).1 = who) ↔ (mget M n).getD [] = Lib.itoa who := by
  have q := itoa_4
  have hw : who = 0 ∨ who = 1 ∨ who = 2 ∨ who = 3 := by omega
  unfold ownR at h ⊢
  split
  · rename_i c; rw [if_pos c] at h; simp at h
  split
  · rename_i c
    have e : mget M n = none := by simpa using c
    rw [e]
    refine ⟨fun hh => by simp at hh, fun hh => ?_⟩
    rcases hw with rfl | rfl | rfl | rfl <;> simp [q] at hh
  · rename_i c1 c2
    rw [if_neg c1, if_neg c2] at h
    generalize (mget M n).getD [] = x at h ⊢
    unfold ownT at h ⊢
    rcases hw with rfl | rfl | rfl | rfl <;> by_cases e0 : x = [48] <;> by_cases e1 : x = [49] <;> by_cases e2 : x = [50] <;> by_cases e3 : x = [51] <;> simp_all
theorem firstE_all {M : List (Str × Str)} : ∀ {l : List Str}, firstE M l = 0 → ∀ n ∈ l, (ownR M n).2.2 = 0
  | [], _, n, hn => by cases hn
  | x :: r, h, n, hn => by
    rw [firstE] at h
    split at h
    · rename_i c
      rcases List.mem_cons.1 hn with rfl | hn
      · exact c
      · exact firstE_all h n hn
    · rename_i c; exact absurd h c
theorem unl_gives {M : List (Str × Str)} {who : Int} (hn : (M.map Prod.fst).Nodup) (h0 : 0 ≤ who) (h3 : who ≤ 3) : ∀ (l acc : List Str), (∀ n ∈ l, (ownR M n).2.2 = 0) → unlF who (acc.foldl mdel M) l = (l.foldl (giveS M who) acc).foldl mdel M
  | [], _, _ => rfl
  | n :: r, acc, h => by
    have hr := unl_gives hn h0 h3 r
    have hi := own_iff (h n (List.mem_cons_self ..)) h0 h3
    rw [unlF, List.foldl_cons, mget_dels acc hn]
    by_cases hm : n ∈ acc
    · have q := itoa_4
      have hw : who = 0 ∨ who = 1 ∨ who = 2 ∨ who = 3 := by omega
      rw [if_pos hm, if_neg (by rcases hw with rfl | rfl | rfl | rfl <;> simp [q]), giveS, if_neg (fun c => c.2 hm)]
      exact hr acc fun x hx => h x (List.mem_cons_of_mem _ hx)
    · rw [if_neg hm]
      by_cases c : (mget M n).getD [] = Lib.itoa who
      · rw [if_pos c, giveS, if_pos ⟨hi.2 c, hm⟩, ← hr (acc ++ [n]) fun x hx => h x (List.mem_cons_of_mem _ hx), List.foldl_append]; rfl
      · rw [if_neg c, giveS, if_neg (fun d => c (hi.1 d.1))]
        exact hr acc fun x hx => h x (List.mem_cons_of_mem _ hx)
theorem unl_give {M : List (Str × Str)} {who : Int} (hn : (M.map Prod.fst).Nodup) (h0 : 0 ≤ who) (h3 : who ≤ 3) {l : List Str} (h : firstE M l = 0) : unlF who M l = (giveL M who l).foldl mdel M := unl_gives hn h0 h3 l [] (firstE_all h)
theorem dels_step {M : List (Str × Str)} {g : List Str} {i : Int} (h0 : 0 ≤ i) (hi : i < g.length) : (g.take (i + 1).toNat).foldl mdel M = mdel ((g.take i.toNat).foldl mdel M) (gI g i) := by
  rw [take_succ_gI h0 hi, List.foldl_append]; rfl
theorem del_there {M : List (Str × Str)} {who : Int} {l : List Str} (hn : (M.map Prod.fst).Nodup) {i : Int} (h0 : 0 ≤ i) (hi : i < (giveL M who l).length) : (mget (((giveL M who l).take i.toNat).foldl mdel M) (gI (giveL M who l) i)).isSome = true := by
  have hnd : (giveL M who l).Nodup := gives_nd M who l [] List.nodup_nil
  have hm := gI_mem h0 hi
  have hs : (ownR M (gI (giveL M who l) i)).2.1 = true := by
    rcases gives_mem M who l [] hm with h | h
    · cases h
    · exact h.2
  rw [mget_dels _ hn, if_neg]
  · exact own_some hs
  · intro hc
    generalize giveL M who l = g at *
    obtain ⟨k, hk, e⟩ := List.getElem_of_mem hc
    rw [List.length_take] at hk
    rw [List.getElem_take] at e
    have h2 : gI g i = g[i.toNat]'(by omega) := by simp [gI, List.getD_eq_getElem?_getD, List.getElem?_eq_getElem (show i.toNat < g.length by omega)]
    rw [h2] at e
    have := (List.getElem_inj hnd).1 e
    omega
set_option maxHeartbeats 4000000 in
theorem u_Give (d nb kb : Nat) (s : DSt) (M : List (Str × Str)) (N : Nat) (who : Int) (l : List Str) (hL : Lk N s M) (hNN : N + l.length + 1 ≤ 100000) (m : AMem) (gd : Gd [d, nb, kb] m) (K : AV → AMem → Prop) (hT : Tabs m) (hK : ∀ s1, Lk (N + l.length + 1) s1 (unlR M who l).1 → K (.err 60 (unlR M who l).2) (AMem.wth m [(d, dObj kb nb s1), (nb, mObj s1.now), (kb, mObj s1.kept)])) : ACalls Tryd.prog 12 [.ptr ⟨d, 0, none⟩, .int .i64 who, .slice false (l.map strAV)] (AMem.wth m [(d, dObj kb nb s), (nb, mObj s.now), (kb, mObj s.kept)]) K := by
 refine enter (c := cf [] [0] [11] [] [] [d, nb, kb]) (vs := [.loc 0 0, .av (.int .i64 who), .av (.slice false (l.map strAV))]) (L := [.cells [.mp 2, .mp 1, .own (s.wait.map chgAV), vI s.fuse, vB s.down, vI s.steps], .obj (mObj s.now), .obj (mObj s.kept)]) (m := m) true tbOk Tryd.mixed Tryd.func12 rfl (k := 3) (by show fnOk [] _ _ _ = true; decide +kernel) rfl (gd.good rfl) ?_
 refine ⟨fun F0 => ?_⟩
 have hbd2_0 : l.length ≤ 140737488355328 := bd_map (o := false) (F0 2).1
 refine call0 (fun _ => u_owner who) rfl ?_
 refine sq ?_
 refine an (fun h1 => ?_) (fun h1 => ?_)
 · refine sq ?_
   refine ln ?_
   refine lp (σ := (List (List UInt8)) × Int) [] [0, 1, 8, 21, 22, 23] 3 (fun ⟨g, i⟩ => ([(0, .loc 0 0), (1, vI who), (8, .own (g.map strAV)), (21, vL (l.map strAV)), (22, vI (l.length : Int)), (23, vI i)], [.cells [.mp 2, .mp 1, .own (s.wait.map chgAV), vI s.fuse, vB s.down, vI s.steps], .obj (mObj s.now), .obj (mObj s.kept)], m)) (fun ⟨g, i⟩ => 0 ≤ i ∧ i ≤ l.length ∧ firstE M l = firstE M (l.drop i.toNat) ∧ g = giveL M who (l.take i.toNat)) (fun ⟨g, i⟩ => l.length - i.toNat) ([], 0) ⟨rfl, rfl⟩ ?_ ?_
   · try dsimp only
     exact ⟨by omega, by omega, rfl, rfl⟩
   rintro ⟨g, i⟩ hI
   dsimp only at hI
   have hgl : (g.length : Int) ≤ i := by rw [hI.2.2.2]; have := giveL_len M who (l.take i.toNat); rw [List.length_take] at this; omega
   refine sq ?_
   refine an (fun h2 => ?_) (fun h2 => ?_)
   · refine sq ?_
     refine ix (by omega) ?_
     refine callT [0, 1, 2] [.cells [.mp 2, .mp 1, .own (s.wait.map chgAV), vI s.fuse, vB s.down, vI s.steps], .obj (mObj s.now), .obj (mObj s.kept)] (.av (.tuple [.int .i64 ((ownR M (gI l i)).1), .bool ((ownR M (gI l i)).2.1), .err 60 ((ownR M (gI l i)).2.2)])) rfl (fun bs mm gd ht => fun K hK => u_Owner (bs.getD 0 0) (bs.getD 1 0) (bs.getD 2 0) s M N (gI l i) hL (by omega) mm gd K (Tabs.up ht hT) hK) ?_
     refine sq ?_
     refine an (fun h3 => ?_) (fun h3 => ?_)
     · refine mg [0, 1, 8, 10, 21, 22, 23] 48 ((((ownR M (gI l i)).2.1) && (((ownR M (gI l i)).1) == who)) && (!(decide (gI l i ∈ g)))) ?_ ?_
       · repeat' first
          | exact ⟨⟨_, rfl, by grind [SB.val]⟩, rfl⟩
          | refine an (fun _ => ?_) (fun _ => ?_)
          | refine call0 (fun _ => u_Contains g (gI l i)) rfl ?_
       refine an (fun h4 => ?_) (fun h4 => ?_)
       · replace h4 : (((ownR M (gI l i)).2.1 = true) ∧ ((ownR M (gI l i)).1 = who)) ∧ (decide (gI l i ∈ g) = false) := ⟨⟨(bandL (bandL h4)), (eq_of_beq (bandR (bandL h4)))⟩, (bnT (bandR h4))⟩
         refine ap strAV g ([gI l i] : List (List UInt8)) rfl rfl (fun _ => ⟨rfl, rfl⟩) (by (simp only [List.length_append, List.length_cons, List.length_nil]; omega)) ?_
         refine an (by omega) ?_
         refine ⟨(g ++ ([gI l i] : List (List UInt8)), i + 1), ⟨rfl, rfl⟩, ?_, ?_⟩
         · try dsimp only
           exact ⟨by omega, by omega, by rw [hI.2.2.1, firstE_drop hI.1 h2, if_pos (by omega)], by rw [giveL_step hI.1 h2, ← hI.2.2.2, giveS]; first | (rw [if_pos (by grind)]; done) | (rw [if_neg (by grind)]; done)⟩
         try dsimp only
         omega
       replace h4 : (((ownR M (gI l i)).2.1 = false) ∨ ((ownR M (gI l i)).1 ≠ who)) ∨ (decide (gI l i ∈ g) = true) := ((bandF h4).imp (fun q => ((bandF q).imp (fun q => q) (fun q => (ne_of_beq_false q)))) (fun q => (bnF q)))
       refine an (by omega) ?_
       refine ⟨(g, i + 1), ⟨rfl, rfl⟩, ?_, ?_⟩
       · try dsimp only
         exact ⟨by omega, by omega, by rw [hI.2.2.1, firstE_drop hI.1 h2, if_pos (by omega)], by rw [giveL_step hI.1 h2, ← hI.2.2.2, giveS]; first | (rw [if_pos (by grind)]; done) | (rw [if_neg (by grind)]; done)⟩
       try dsimp only
       omega
     refine rt rfl fun _ => ?_
     show K (.err 60 ((ownR M (gI l i)).2.2)) (AMem.wth m [(d, dObj kb nb s), (nb, mObj s.now), (kb, mObj s.kept)])
     have hw : ¬(who < 0 ∨ 4 ≤ who) := by grind
     have he : firstE M l = (ownR M (gI l i)).2.2 := by rw [hI.2.2.1, firstE_drop hI.1 h2, if_neg h3]
     rw [unlR, if_neg (by omega), if_pos (by rw [he]; exact h3), he] at hK
     exact hK s (hL.mono (by omega))
   have hw : ¬(who < 0 ∨ 4 ≤ who) := by grind
   have hf0 : firstE M l = 0 := by rw [hI.2.2.1, List.drop_eq_nil_of_le (by omega)]; rfl
   have hg : g = giveL M who l := by rw [hI.2.2.2, List.take_of_length_le (by omega)]
   have hgn : g.length ≤ l.length := by rw [hg]; exact giveL_len ..
   have hgm : ∀ x ∈ g, x.length ≤ 1000000 := fun x hx => by
     rw [hg] at hx
     rcases gives_mem M who l [] hx with h | h
     · cases h
     · have := nameV_len (own_nm h.2)
       omega
   refine sq ?_
   refine ln ?_
   refine lp (σ := Int × DSt) [] [0, 8, 54, 55, 56] 3 (fun ⟨j, t1⟩ => ([(0, .loc 0 0), (8, .own (g.map strAV)), (54, vL (g.map strAV)), (55, vI (g.length : Int)), (56, vI j)], [.cells [.mp 2, .mp 1, .own (t1.wait.map chgAV), vI t1.fuse, vB t1.down, vI t1.steps], .obj (mObj t1.now), .obj (mObj t1.kept)], m)) (fun ⟨j, t1⟩ => 0 ≤ j ∧ j ≤ g.length ∧ Lk (N + j.toNat) t1 ((g.take j.toNat).foldl mdel M)) (fun ⟨j, t1⟩ => g.length - j.toNat) (0, s) ⟨rfl, rfl⟩ ?_ ?_
   · try dsimp only
     exact ⟨by omega, by omega, hL⟩
   rintro ⟨j, t1⟩ hI2
   dsimp only at hI2
   refine sq ?_
   refine an (fun h5 => ?_) (fun h5 => ?_)
   · refine sq ?_
     refine ix (by omega) ?_
     refine call0 (fun _ => u_file (gI g j) (by have := hgm _ (gI_mem (l := g) (i := j) (by omega) (by omega)); omega)) rfl ?_
     refine callY 60 [0, 1, 2] (σ := DSt) (fun s1 => Lk (N + j.toNat + 1) s1 (mdel ((g.take j.toNat).foldl mdel M) (gI g j))) (fun s1 => .av (.err 60 0)) (fun s1 => [.cells [.mp 2, .mp 1, .own (s1.wait.map chgAV), vI s1.fuse, vB s1.down, vI s1.steps], .obj (mObj s1.now), .obj (mObj s1.kept)]) rfl (fun _ => rfl) (fun bs mm gd ht K hK => u_RemoveL (bs.getD 0 0) (bs.getD 2 0) (bs.getD 1 0) hI2.2.2 gd.nd (by omega) (hgm _ (gI_mem (by omega) (by omega))) (by have := del_there (M := M) (who := who) (l := l) hL.nd (i := j) hI2.1 (by rw [← hg]; exact h5); rw [← hg] at this; exact this) mm K (fun s_ hh => hK s_ hh)) ?_
     rintro s1 hx1
     refine an (fun h6 => ?_) (fun h6 => ?_)
     · refine an (by omega) ?_
       refine ⟨(j + 1, s1), ⟨rfl, rfl⟩, ?_, ?_⟩
       · try dsimp only
         exact ⟨by omega, by omega, by rw [dels_step hI2.1 h5, show (j + 1).toNat = j.toNat + 1 from by omega]; exact hx1⟩
       try dsimp only
       omega
     refine rt rfl fun _ => ?_
     show K (.err 60 0) (AMem.wth m [(d, dObj kb nb s1), (nb, mObj s1.now), (kb, mObj s1.kept)])
     exact absurd rfl h6
   refine sq ?_
   refine ln ?_
   refine an (fun h7 => ?_) (fun h7 => ?_)
   · refine rt rfl fun _ => ?_
     show K (.err 60 0) (AMem.wth m [(d, dObj kb nb t1), (nb, mObj t1.now), (kb, mObj t1.kept)])
     have hu : unlR M who l = ((giveL M who l).foldl mdel M, 0) := by rw [unlR, if_neg (by omega), if_neg (not_not_intro hf0), unl_give hL.nd (by omega) (by omega) hf0]
     rw [hu] at hK
     have hq := hI2.2.2
     rw [take_full (by omega), hg] at hq
     refine hK t1 ?_
     exact hq.mono (by omega)
   refine callY 60 [0, 1, 2] (σ := DSt) (fun s2 => Lk (N + j.toNat + 1) s2 ((g.take j.toNat).foldl mdel M)) (fun s2 => .av (.err 60 0)) (fun s2 => [.cells [.mp 2, .mp 1, .own (s2.wait.map chgAV), vI s2.fuse, vB s2.down, vI s2.steps], .obj (mObj s2.now), .obj (mObj s2.kept)]) rfl (fun _ => rfl) (fun bs mm gd ht K hK => u_SyncL (bs.getD 0 0) (bs.getD 2 0) (bs.getD 1 0) hI2.2.2 gd.nd (by omega) mm K (fun s_ hh => hK s_ hh)) ?_
   rintro s2 hx2
   refine rt rfl fun _ => ?_
   show K (.err 60 0) (AMem.wth m [(d, dObj kb nb s2), (nb, mObj s2.now), (kb, mObj s2.kept)])
   have hu : unlR M who l = ((giveL M who l).foldl mdel M, 0) := by rw [unlR, if_neg (by omega), if_neg (not_not_intro hf0), unl_give hL.nd (by omega) (by omega) hf0]
   rw [hu] at hK
   have hq := hx2
   rw [take_full (by omega), hg] at hq
   refine hK s2 ?_
   exact hq.mono (by omega)
 refine rt rfl fun _ => ?_
 show K (.err 60 (if who < 0 ∨ 4 ≤ who then 1 else 0)) (AMem.wth m [(d, dObj kb nb s), (nb, mObj s.now), (kb, mObj s.kept)])
 have hw : who < 0 ∨ 4 ≤ who := by grind
 rw [unlR, if_pos (by omega)] at hK
 rw [if_pos hw]
 exact hK s (hL.mono (by omega))
end Go.Proofs
end
section
namespace Go.Proofs
open Go Go.Aw Go.Sx
set_option maxRecDepth 100000
noncomputable def ordL (l : List Str) : List Str := Lib.compact (sortL l)
theorem ordL_len (l : List Str) : (ordL l).length ≤ l.length := by
  have := Lib.compact_length_le (sortL l)
  rw [sortL_len] at this; exact this
theorem ordL_mem {x : Str} {l : List Str} (h : x ∈ ordL l) : x ∈ l := (sortL_perm l).mem_iff.1 (compact_mem h)
theorem u_CloneE (l : List Str) (h : l = []) (m : AMem) (K : AV → AMem → Prop) (hK : K (.slice false (([] : List Str).map strAV)) m) : ACalls Tryd.prog 26 [.slice false (l.map strAV)] m K := by
  subst h; exact u_Clone0 m K hK
theorem u_CompactE (l : List Str) (h : l = []) (m : AMem) (K : AV → AMem → Prop) (hK : K (.slice false ((ordL l).map strAV)) m) : ACalls Tryd.prog 28 [.slice false (([] : List Str).map strAV)] m K := by
  subst h
  have e : ordL [] = [] := by rw [ordL, show sortL ([] : List Str) = [] from by simp [sortL]]; rfl
  rw [e] at hK
  refine ⟨⟨_, Tryd.func28, rfl, by kernel_rfl⟩, fun F lim w cargs hsz hr st => ?_⟩
  obtain ⟨x, rfl⟩ := one_arg hsz
  have h0 : Rep w lim x (.slice false []) [] := hr 0 (by simp)
  rcases rep_slice_len h0 with ⟨a, c, rfl, _⟩
  refine (Tryd.slices_Compact_string_empty a c w).mono fun e1 w3 ⟨he, hw⟩ => ?_
  subst hw
  exact ⟨_, _, lim, _, [], he, hK, h0, st, .refl _ _ _⟩
theorem u_CompactN (b n cap t : Nat) (l : List Str) (hn : n = l.length) (hl : l.length ≤ 140737488355328) (m : AMem) (K : AV → AMem → Prop) (hK : K (.ms ⟨b, 0, none⟩ (Lib.compact l).length cap) (m.wth [(b, rowJ (Lib.compact l ++ List.replicate (l.length - (Lib.compact l).length) []) t)])) : ACalls Tryd.prog 28 [.ms ⟨b, 0, none⟩ n cap] (m.wth [(b, rowJ l t)]) K := by
  subst hn; exact u_CompactJ b cap t l hl m K hK
theorem takeE_all {M : List (Str × Str)} {who : Int} {av : Int → Bool} : ∀ {l : List Str}, takeE M who av l = 0 → ∀ n ∈ l, (ownR M n).2.2 = 0
  | [], _, n, hn => by cases hn
  | x :: r, h, n, hn => by
    rw [takeE] at h
    split at h
    · rename_i c; exact absurd h c
    · rename_i c
      split at h
      · cases h
      · rcases List.mem_cons.1 hn with rfl | hn
        · simpa using c
        · exact takeE_all h n hn
theorem own_name {M : List (Str × Str)} {n : Str} (h : (ownR M n).2.2 = 0) : nameV n = true := by
  unfold ownR at h
  split at h
  · cases h
  · rename_i c; simpa using c
theorem itoa_w {who : Int} (h0 : 0 ≤ who) (h3 : who ≤ 3) : (Lib.itoa who).length ≤ 4000 := by
  have q := itoa_4
  have hw : who = 0 ∨ who = 1 ∨ who = 2 ∨ who = 3 := by omega
  rcases hw with rfl | rfl | rfl | rfl <;> simp [q]
noncomputable def takeR (M : List (Str × Str)) (who : Int) (av : Int → Bool) (l : List Str) : List (Str × Str) × Int := if who < 0 ∨ 3 < who then (M, 1) else if takeE M who av (ordL l) ≠ 0 then (M, takeE M who av (ordL l)) else (lkF who M (ordL l), 0)
def avF (lo hi n : Int) : Bool := decide (lo ≤ n) && decide (n ≤ hi)
theorem u_alive (n lo hi : Int) (p1 p2 : Nat)  (m : AMem) (gd : Gd [p1, p2] m) (K : AV → AMem → Prop) (hK : K (.bool (avF lo hi n)) (AMem.wth m [(p1, .cells [.int .i64 lo]), (p2, .cells [.int .i64 hi])])) : ACalls Tryd.prog 8 [.int .i64 n, .ptr ⟨p1, 0, none⟩, .ptr ⟨p2, 0, none⟩] (AMem.wth m [(p1, .cells [.int .i64 lo]), (p2, .cells [.int .i64 hi])]) K := by
 refine enter (c := cf [] [] [1] [] [] [p1, p2]) (vs := [.av (.int .i64 n), .loc 0 0, .loc 1 0]) (L := [.cells [vI lo], .cells [vI hi]]) (m := m) false tbOk Tryd.mixed Tryd.func8 rfl (k := 3) (by show fnOk [] _ _ _ = true; decide +kernel) rfl (gd.good rfl) ?_
 refine mg [] 4 ((decide (lo ≤ n)) && (decide (n ≤ hi))) ?_ ?_
 · repeat' first
    | exact ⟨⟨_, rfl, by grind [SB.val]⟩, rfl⟩
    | refine an (fun _ => ?_) (fun _ => ?_)
 have e0 : avF lo hi n = (((decide (lo ≤ n)) && (decide (n ≤ hi))) : Bool) := by
  rfl
 rw [e0] at hK
 exact rt rfl fun _ => hK
theorem u_always (n : Int)  (m : AMem)  (K : AV → AMem → Prop) (hK : K (.bool ((fun _ => true) n)) m) : ACalls Tryd.prog 23 [.int .i64 n] m K := by
 refine enter (c := cf [] [] [] [] [] []) (vs := [.av (.int .i64 n)]) (L := []) (m := m) false tbOk Tryd.mixed Tryd.func23 rfl (k := 1) (by show fnOk [] _ _ _ = true; decide +kernel) rfl (Good.nil m) ?_
 exact rt0 rfl fun _ => hK
set_option maxHeartbeats 4000000 in
theorem u_TakeA (d nb kb : Nat) (s : DSt) (M : List (Str × Str)) (N : Nat) (who : Int) (l : List Str) (p1 p2 : Nat) (lo hi : Int)  (hL : Lk N s M) (hNN : N + l.length + 1 ≤ 100000) (hR : M.length + l.length ≤ 40) (m : AMem) (gd : Gd [d, nb, kb, p1, p2] m) (K : AV → AMem → Prop) (hT : Tabs m) (hK : ∀ s1, Lk (N + l.length + 1) s1 (takeR M who (avF lo hi) l).1 → K (.err 60 (takeR M who (avF lo hi) l).2) (AMem.wth m [(d, dObj kb nb s1), (nb, mObj s1.now), (kb, mObj s1.kept), (p1, .cells [.int .i64 lo]), (p2, .cells [.int .i64 hi])])) : ACalls Tryd.prog 10 [.ptr ⟨d, 0, none⟩, .int .i64 who, .slice false (l.map strAV), .func (.func 8) [] [.ptr ⟨p1, 0, none⟩, .ptr ⟨p2, 0, none⟩]] (AMem.wth m [(d, dObj kb nb s), (nb, mObj s.now), (kb, mObj s.kept), (p1, .cells [.int .i64 lo]), (p2, .cells [.int .i64 hi])]) K := by
 have hod := ordL_len l
 refine enter (c := cf [] [0, 4] [13] [] [7] [d, nb, kb, p1, p2]) (vs := [.loc 0 0, .av (.int .i64 who), .av (.slice false (l.map strAV)), .fn 8 [] [.loc 3 0, .loc 4 0]]) (L := [.cells [.mp 2, .mp 1, .own (s.wait.map chgAV), vI s.fuse, vB s.down, vI s.steps], .obj (mObj s.now), .obj (mObj s.kept), .cells [vI lo], .cells [vI hi]]) (m := m) true tbOk Tryd.mixed Tryd.func10 rfl (k := 4) (by show fnOk [] _ _ _ = true; decide +kernel) rfl (gd.good rfl) ?_
 refine ⟨fun F0 => ?_⟩
 have hbd2_0 : l.length ≤ 140737488355328 := bd_map (o := false) (F0 2).1
 refine call0 (fun _ => u_owner who) rfl ?_
 refine sq ?_
 refine an (fun h1 => ?_) (fun h1 => ?_)
 · refine ⟨fun _ => ?_⟩
   rcases Classical.em (l = []) with hnil | hnil
   · refine call0 (fun _ => u_CloneE l hnil) rfl ?_
     refine call0 (fun _ => u_SortJ0) rfl ?_
     refine call0 (fun _ => u_CompactE l hnil) rfl ?_
     refine sq ?_
     refine cv0 ?_
     refine ln ?_
     refine lp (σ := Int) [] [0, 1, 3, 10, 29, 30, 31] 5 (fun i => ([(0, .loc 0 0), (1, vI who), (3, .fn 8 [] [.loc 3 0, .loc 4 0]), (10, vL ((ordL l).map strAV)), (29, vL ((ordL l).map strAV)), (30, vI ((ordL l).length : Int)), (31, vI i)], [.cells [.mp 2, .mp 1, .own (s.wait.map chgAV), vI s.fuse, vB s.down, vI s.steps], .obj (mObj s.now), .obj (mObj s.kept), .cells [vI lo], .cells [vI hi]], m)) (fun i => 0 ≤ i ∧ i ≤ (ordL l).length ∧ takeE M who (avF lo hi) (ordL l) = takeE M who (avF lo hi) ((ordL l).drop i.toNat)) (fun i => (ordL l).length - i.toNat) (0) ⟨rfl, rfl⟩ ?_ ?_
     · try dsimp only
       exact ⟨by omega, by omega, rfl⟩
     rintro i hI
     refine sq ?_
     refine an (fun h2 => ?_) (fun h2 => ?_)
     · refine sq ?_
       refine ix (by omega) ?_
       refine callT [0, 1, 2] [.cells [.mp 2, .mp 1, .own (s.wait.map chgAV), vI s.fuse, vB s.down, vI s.steps], .obj (mObj s.now), .obj (mObj s.kept)] (.av (.tuple [.int .i64 ((ownR M (gI (ordL l) i)).1), .bool ((ownR M (gI (ordL l) i)).2.1), .err 60 ((ownR M (gI (ordL l) i)).2.2)])) rfl (fun bs mm gd ht => fun K hK => u_Owner (bs.getD 0 0) (bs.getD 1 0) (bs.getD 2 0) s M N (gI (ordL l) i) hL (by omega) mm gd K (Tabs.up ht hT) hK) ?_
       refine sq ?_
       refine an (fun h3 => ?_) (fun h3 => ?_)
       · refine mg [0, 1, 3, 10, 29, 30, 31] 55 ((((ownR M (gI (ordL l) i)).2.1) && (!(((ownR M (gI (ordL l) i)).1) == who))) && (avF lo hi ((ownR M (gI (ordL l) i)).1))) ?_ ?_
         · repeat' first
            | exact ⟨⟨_, rfl, by grind [SB.val]⟩, rfl⟩
            | refine an (fun _ => ?_) (fun _ => ?_)
            | refine callM [3, 4] [.cells [vI lo], .cells [vI hi]] (vB (avF lo hi ((ownR M (gI (ordL l) i)).1))) rfl (fun bs mm gd => u_alive ((ownR M (gI (ordL l) i)).1) lo hi (bs.getD 3 0) (bs.getD 4 0) mm gd) ?_
         refine an (fun h4 => ?_) (fun h4 => ?_)
         · replace h4 : (((ownR M (gI (ordL l) i)).2.1 = true) ∧ ((ownR M (gI (ordL l) i)).1 ≠ who)) ∧ (avF lo hi ((ownR M (gI (ordL l) i)).1) = true) := ⟨⟨(bandL (bandL h4)), (ne_of_beq_false (bnT (bandR (bandL h4))))⟩, (bandR h4)⟩
           refine rt rfl fun _ => ?_
           show K (.err 60 14) (AMem.wth m [(d, dObj kb nb s), (nb, mObj s.now), (kb, mObj s.kept), (p1, .cells [.int .i64 lo]), (p2, .cells [.int .i64 hi])])
           have hw : ¬(who < 0 ∨ 4 ≤ who) := by grind
           have he : takeE M who (avF lo hi) (ordL l) = 14 := by rw [hI.2.2, takeE_drop hI.1 h2, if_neg (not_not_intro h3), if_pos (by grind)]
           rw [takeR, if_neg (by omega), if_pos (by rw [he]; decide), he] at hK
           exact hK s (hL.mono (by omega))
         replace h4 : (((ownR M (gI (ordL l) i)).2.1 = false) ∨ ((ownR M (gI (ordL l) i)).1 = who)) ∨ (avF lo hi ((ownR M (gI (ordL l) i)).1) = false) := ((bandF h4).imp (fun q => ((bandF q).imp (fun q => q) (fun q => (eq_of_beq (bnF q))))) (fun q => q))
         refine an (by omega) ?_
         refine ⟨(i + 1), ⟨rfl, rfl⟩, ?_, ?_⟩
         · try dsimp only
           exact ⟨by omega, by omega, by rw [hI.2.2, takeE_drop hI.1 h2, if_neg (not_not_intro h3), if_neg (by grind)]⟩
         try dsimp only
         omega
       refine rt rfl fun _ => ?_
       show K (.err 60 ((ownR M (gI (ordL l) i)).2.2)) (AMem.wth m [(d, dObj kb nb s), (nb, mObj s.now), (kb, mObj s.kept), (p1, .cells [.int .i64 lo]), (p2, .cells [.int .i64 hi])])
       have hw : ¬(who < 0 ∨ 4 ≤ who) := by grind
       have he : takeE M who (avF lo hi) (ordL l) = (ownR M (gI (ordL l) i)).2.2 := by rw [hI.2.2, takeE_drop hI.1 h2, if_pos h3]
       rw [takeR, if_neg (by omega), if_pos (by rw [he]; exact h3), he] at hK
       exact hK s (hL.mono (by omega))
     have hw : ¬(who < 0 ∨ 4 ≤ who) := by grind
     have hf0 : takeE M who (avF lo hi) (ordL l) = 0 := by rw [hI.2.2, List.drop_eq_nil_of_le (by omega)]; rfl
     refine sq ?_
     refine ln ?_
     refine lp (σ := Int × DSt) [] [0, 1, 10, 58, 59, 60] 5 (fun ⟨j, t1⟩ => ([(0, .loc 0 0), (1, vI who), (10, vL ((ordL l).map strAV)), (58, vL ((ordL l).map strAV)), (59, vI ((ordL l).length : Int)), (60, vI j)], [.cells [.mp 2, .mp 1, .own (t1.wait.map chgAV), vI t1.fuse, vB t1.down, vI t1.steps], .obj (mObj t1.now), .obj (mObj t1.kept), .cells [vI lo], .cells [vI hi]], m)) (fun ⟨j, t1⟩ => 0 ≤ j ∧ j ≤ (ordL l).length ∧ Lk (N + j.toNat) t1 (lkF who M ((ordL l).take j.toNat))) (fun ⟨j, t1⟩ => (ordL l).length - j.toNat) (0, s) ⟨rfl, rfl⟩ ?_ ?_
     · try dsimp only
       exact ⟨by omega, by omega, hL⟩
     rintro ⟨j, t1⟩ hI2
     dsimp only at hI2
     refine sq ?_
     refine an (fun h5 => ?_) (fun h5 => ?_)
     · refine sq ?_
       refine ix (by omega) ?_
       refine call0 (fun _ => u_file (gI (ordL l) j) (by have := nameV_len (own_name (takeE_all hf0 _ (gI_mem (i := j) (by omega) (by omega)))); omega)) rfl ?_
       refine callT [] [] (vS (Lib.itoa who)) rfl (fun bs mm gd ht => fun K hK => u_Itoa who (by omega) (by omega) mm (Tabs.up ht hT) K hK) ?_
       refine callY 60 [0, 1, 2] (σ := DSt) (fun s1 => Lk (N + j.toNat + 1) s1 (mput (lkF who M ((ordL l).take j.toNat)) (gI (ordL l) j) (Lib.itoa who))) (fun s1 => .av (.err 60 0)) (fun s1 => [.cells [.mp 2, .mp 1, .own (s1.wait.map chgAV), vI s1.fuse, vB s1.down, vI s1.steps], .obj (mObj s1.now), .obj (mObj s1.kept)]) rfl (fun _ => rfl) (fun bs mm gd ht K hK => u_WriteL (bs.getD 0 0) (bs.getD 2 0) (bs.getD 1 0) hI2.2.2 gd.nd (by omega) (own_name (takeE_all hf0 _ (gI_mem (by omega) (by omega)))) (itoa_w (by omega) (by omega)) (.inr (by have := lkF_len who ((ordL l).take j.toNat) M; rw [List.length_take] at this; omega)) mm K (fun s_ hh => hK s_ hh)) ?_
       rintro s1 hx1
       refine an (fun h6 => ?_) (fun h6 => ?_)
       · refine an (by omega) ?_
         refine ⟨(j + 1, s1), ⟨rfl, rfl⟩, ?_, ?_⟩
         · try dsimp only
           exact ⟨by omega, by omega, by rw [lkF_step hI2.1 h5, show (j + 1).toNat = j.toNat + 1 from by omega]; exact hx1⟩
         try dsimp only
         omega
       refine rt rfl fun _ => ?_
       show K (.err 60 0) (AMem.wth m [(d, dObj kb nb s1), (nb, mObj s1.now), (kb, mObj s1.kept), (p1, .cells [.int .i64 lo]), (p2, .cells [.int .i64 hi])])
       exact absurd rfl h6
     refine sq ?_
     refine ln ?_
     refine an (fun h7 => ?_) (fun h7 => ?_)
     · refine rt rfl fun _ => ?_
       show K (.err 60 0) (AMem.wth m [(d, dObj kb nb t1), (nb, mObj t1.now), (kb, mObj t1.kept), (p1, .cells [.int .i64 lo]), (p2, .cells [.int .i64 hi])])
       have hu : takeR M who (avF lo hi) l = (lkF who M (ordL l), 0) := by rw [takeR, if_neg (by omega), if_neg (not_not_intro hf0)]
       rw [hu] at hK
       have hq := hI2.2.2
       rw [take_full (by omega)] at hq
       refine hK t1 ?_
       exact hq.mono (by omega)
     refine callY 60 [0, 1, 2] (σ := DSt) (fun s2 => Lk (N + j.toNat + 1) s2 (lkF who M ((ordL l).take j.toNat))) (fun s2 => .av (.err 60 0)) (fun s2 => [.cells [.mp 2, .mp 1, .own (s2.wait.map chgAV), vI s2.fuse, vB s2.down, vI s2.steps], .obj (mObj s2.now), .obj (mObj s2.kept)]) rfl (fun _ => rfl) (fun bs mm gd ht K hK => u_SyncL (bs.getD 0 0) (bs.getD 2 0) (bs.getD 1 0) hI2.2.2 gd.nd (by omega) mm K (fun s_ hh => hK s_ hh)) ?_
     rintro s2 hx2
     refine rt rfl fun _ => ?_
     show K (.err 60 0) (AMem.wth m [(d, dObj kb nb s2), (nb, mObj s2.now), (kb, mObj s2.kept), (p1, .cells [.int .i64 lo]), (p2, .cells [.int .i64 hi])])
     have hu : takeR M who (avF lo hi) l = (lkF who M (ordL l), 0) := by rw [takeR, if_neg (by omega), if_neg (not_not_intro hf0)]
     rw [hu] at hK
     have hq := hx2
     rw [take_full (by omega)] at hq
     refine hK s2 ?_
     exact hq.mono (by omega)
   · refine callClone l (fun _ => rfl) rfl (fun m K hK => u_Clone l hnil (by omega) m K hK) ?_
     rintro cp tl hcp
     refine callM [5] [.obj (rowJ (sortL l) tl)] (.tup []) rfl (fun bs mm gd => u_SortJ (bs.getD 5 0) cp tl l (by omega) mm) ?_
     refine callM [5] [.obj (rowJ (Lib.compact (sortL l) ++ List.replicate ((sortL l).length - (Lib.compact (sortL l)).length) []) tl)] (.ms 5 ((Lib.compact (sortL l)).length) cp) rfl (fun bs mm gd => u_CompactN (bs.getD 5 0) l.length cp tl (sortL l) (sortL_len l).symm (by rw [sortL_len]; omega) mm) ?_
     refine sq ?_
     refine cvT (Lib.compact (sortL l) ++ List.replicate ((sortL l).length - (Lib.compact (sortL l)).length) []) tl (ordL l) 10 rfl rfl rfl ⟨by simp, by have := ordL_len l; show (ordL l).length ≤ _; omega⟩ (by exact List.take_left) ?_
     refine ln ?_
     refine lp (σ := Int) [] [0, 1, 3, 10, 29, 30, 31] 5 (fun i => ([(0, .loc 0 0), (1, vI who), (3, .fn 8 [] [.loc 3 0, .loc 4 0]), (10, vL ((ordL l).map strAV)), (29, vL ((ordL l).map strAV)), (30, vI ((ordL l).length : Int)), (31, vI i)], [.cells [.mp 2, .mp 1, .own (s.wait.map chgAV), vI s.fuse, vB s.down, vI s.steps], .obj (mObj s.now), .obj (mObj s.kept), .cells [vI lo], .cells [vI hi]], m)) (fun i => 0 ≤ i ∧ i ≤ (ordL l).length ∧ takeE M who (avF lo hi) (ordL l) = takeE M who (avF lo hi) ((ordL l).drop i.toNat)) (fun i => (ordL l).length - i.toNat) (0) ⟨rfl, rfl⟩ ?_ ?_
     · try dsimp only
       exact ⟨by omega, by omega, rfl⟩
     rintro i hI
     refine sq ?_
     refine an (fun h8 => ?_) (fun h8 => ?_)
     · refine sq ?_
       refine ix (by omega) ?_
       refine callT [0, 1, 2] [.cells [.mp 2, .mp 1, .own (s.wait.map chgAV), vI s.fuse, vB s.down, vI s.steps], .obj (mObj s.now), .obj (mObj s.kept)] (.av (.tuple [.int .i64 ((ownR M (gI (ordL l) i)).1), .bool ((ownR M (gI (ordL l) i)).2.1), .err 60 ((ownR M (gI (ordL l) i)).2.2)])) rfl (fun bs mm gd ht => fun K hK => u_Owner (bs.getD 0 0) (bs.getD 1 0) (bs.getD 2 0) s M N (gI (ordL l) i) hL (by omega) mm gd K (Tabs.up ht hT) hK) ?_
       refine sq ?_
       refine an (fun h9 => ?_) (fun h9 => ?_)
       · refine mg [0, 1, 3, 10, 29, 30, 31] 55 ((((ownR M (gI (ordL l) i)).2.1) && (!(((ownR M (gI (ordL l) i)).1) == who))) && (avF lo hi ((ownR M (gI (ordL l) i)).1))) ?_ ?_
         · repeat' first
            | exact ⟨⟨_, rfl, by grind [SB.val]⟩, rfl⟩
            | refine an (fun _ => ?_) (fun _ => ?_)
            | refine callM [3, 4] [.cells [vI lo], .cells [vI hi]] (vB (avF lo hi ((ownR M (gI (ordL l) i)).1))) rfl (fun bs mm gd => u_alive ((ownR M (gI (ordL l) i)).1) lo hi (bs.getD 3 0) (bs.getD 4 0) mm gd) ?_
         refine an (fun h10 => ?_) (fun h10 => ?_)
         · replace h10 : (((ownR M (gI (ordL l) i)).2.1 = true) ∧ ((ownR M (gI (ordL l) i)).1 ≠ who)) ∧ (avF lo hi ((ownR M (gI (ordL l) i)).1) = true) := ⟨⟨(bandL (bandL h10)), (ne_of_beq_false (bnT (bandR (bandL h10))))⟩, (bandR h10)⟩
           refine rt rfl fun _ => ?_
           show K (.err 60 14) (AMem.wth m [(d, dObj kb nb s), (nb, mObj s.now), (kb, mObj s.kept), (p1, .cells [.int .i64 lo]), (p2, .cells [.int .i64 hi])])
           have hw : ¬(who < 0 ∨ 4 ≤ who) := by grind
           have he : takeE M who (avF lo hi) (ordL l) = 14 := by rw [hI.2.2, takeE_drop hI.1 h8, if_neg (not_not_intro h9), if_pos (by grind)]
           rw [takeR, if_neg (by omega), if_pos (by rw [he]; decide), he] at hK
           exact hK s (hL.mono (by omega))
         replace h10 : (((ownR M (gI (ordL l) i)).2.1 = false) ∨ ((ownR M (gI (ordL l) i)).1 = who)) ∨ (avF lo hi ((ownR M (gI (ordL l) i)).1) = false) := ((bandF h10).imp (fun q => ((bandF q).imp (fun q => q) (fun q => (eq_of_beq (bnF q))))) (fun q => q))
         refine an (by omega) ?_
         refine ⟨(i + 1), ⟨rfl, rfl⟩, ?_, ?_⟩
         · try dsimp only
           exact ⟨by omega, by omega, by rw [hI.2.2, takeE_drop hI.1 h8, if_neg (not_not_intro h9), if_neg (by grind)]⟩
         try dsimp only
         omega
       refine rt rfl fun _ => ?_
       show K (.err 60 ((ownR M (gI (ordL l) i)).2.2)) (AMem.wth m [(d, dObj kb nb s), (nb, mObj s.now), (kb, mObj s.kept), (p1, .cells [.int .i64 lo]), (p2, .cells [.int .i64 hi])])
       have hw : ¬(who < 0 ∨ 4 ≤ who) := by grind
       have he : takeE M who (avF lo hi) (ordL l) = (ownR M (gI (ordL l) i)).2.2 := by rw [hI.2.2, takeE_drop hI.1 h8, if_pos h9]
       rw [takeR, if_neg (by omega), if_pos (by rw [he]; exact h9), he] at hK
       exact hK s (hL.mono (by omega))
     have hw : ¬(who < 0 ∨ 4 ≤ who) := by grind
     have hf0 : takeE M who (avF lo hi) (ordL l) = 0 := by rw [hI.2.2, List.drop_eq_nil_of_le (by omega)]; rfl
     refine sq ?_
     refine ln ?_
     refine lp (σ := Int × DSt) [] [0, 1, 10, 58, 59, 60] 5 (fun ⟨j, t1⟩ => ([(0, .loc 0 0), (1, vI who), (10, vL ((ordL l).map strAV)), (58, vL ((ordL l).map strAV)), (59, vI ((ordL l).length : Int)), (60, vI j)], [.cells [.mp 2, .mp 1, .own (t1.wait.map chgAV), vI t1.fuse, vB t1.down, vI t1.steps], .obj (mObj t1.now), .obj (mObj t1.kept), .cells [vI lo], .cells [vI hi]], m)) (fun ⟨j, t1⟩ => 0 ≤ j ∧ j ≤ (ordL l).length ∧ Lk (N + j.toNat) t1 (lkF who M ((ordL l).take j.toNat))) (fun ⟨j, t1⟩ => (ordL l).length - j.toNat) (0, s) ⟨rfl, rfl⟩ ?_ ?_
     · try dsimp only
       exact ⟨by omega, by omega, hL⟩
     rintro ⟨j, t1⟩ hI2
     dsimp only at hI2
     refine sq ?_
     refine an (fun h11 => ?_) (fun h11 => ?_)
     · refine sq ?_
       refine ix (by omega) ?_
       refine call0 (fun _ => u_file (gI (ordL l) j) (by have := nameV_len (own_name (takeE_all hf0 _ (gI_mem (i := j) (by omega) (by omega)))); omega)) rfl ?_
       refine callT [] [] (vS (Lib.itoa who)) rfl (fun bs mm gd ht => fun K hK => u_Itoa who (by omega) (by omega) mm (Tabs.up ht hT) K hK) ?_
       refine callY 60 [0, 1, 2] (σ := DSt) (fun s4 => Lk (N + j.toNat + 1) s4 (mput (lkF who M ((ordL l).take j.toNat)) (gI (ordL l) j) (Lib.itoa who))) (fun s4 => .av (.err 60 0)) (fun s4 => [.cells [.mp 2, .mp 1, .own (s4.wait.map chgAV), vI s4.fuse, vB s4.down, vI s4.steps], .obj (mObj s4.now), .obj (mObj s4.kept)]) rfl (fun _ => rfl) (fun bs mm gd ht K hK => u_WriteL (bs.getD 0 0) (bs.getD 2 0) (bs.getD 1 0) hI2.2.2 gd.nd (by omega) (own_name (takeE_all hf0 _ (gI_mem (by omega) (by omega)))) (itoa_w (by omega) (by omega)) (.inr (by have := lkF_len who ((ordL l).take j.toNat) M; rw [List.length_take] at this; omega)) mm K (fun s_ hh => hK s_ hh)) ?_
       rintro s4 hx4
       refine an (fun h12 => ?_) (fun h12 => ?_)
       · refine an (by omega) ?_
         refine ⟨(j + 1, s4), ⟨rfl, rfl⟩, ?_, ?_⟩
         · try dsimp only
           exact ⟨by omega, by omega, by rw [lkF_step hI2.1 h11, show (j + 1).toNat = j.toNat + 1 from by omega]; exact hx4⟩
         try dsimp only
         omega
       refine rt rfl fun _ => ?_
       show K (.err 60 0) (AMem.wth m [(d, dObj kb nb s4), (nb, mObj s4.now), (kb, mObj s4.kept), (p1, .cells [.int .i64 lo]), (p2, .cells [.int .i64 hi])])
       exact absurd rfl h12
     refine sq ?_
     refine ln ?_
     refine an (fun h13 => ?_) (fun h13 => ?_)
     · refine rt rfl fun _ => ?_
       show K (.err 60 0) (AMem.wth m [(d, dObj kb nb t1), (nb, mObj t1.now), (kb, mObj t1.kept), (p1, .cells [.int .i64 lo]), (p2, .cells [.int .i64 hi])])
       have hu : takeR M who (avF lo hi) l = (lkF who M (ordL l), 0) := by rw [takeR, if_neg (by omega), if_neg (not_not_intro hf0)]
       rw [hu] at hK
       have hq := hI2.2.2
       rw [take_full (by omega)] at hq
       refine hK t1 ?_
       exact hq.mono (by omega)
     refine callY 60 [0, 1, 2] (σ := DSt) (fun s5 => Lk (N + j.toNat + 1) s5 (lkF who M ((ordL l).take j.toNat))) (fun s5 => .av (.err 60 0)) (fun s5 => [.cells [.mp 2, .mp 1, .own (s5.wait.map chgAV), vI s5.fuse, vB s5.down, vI s5.steps], .obj (mObj s5.now), .obj (mObj s5.kept)]) rfl (fun _ => rfl) (fun bs mm gd ht K hK => u_SyncL (bs.getD 0 0) (bs.getD 2 0) (bs.getD 1 0) hI2.2.2 gd.nd (by omega) mm K (fun s_ hh => hK s_ hh)) ?_
     rintro s5 hx5
     refine rt rfl fun _ => ?_
     show K (.err 60 0) (AMem.wth m [(d, dObj kb nb s5), (nb, mObj s5.now), (kb, mObj s5.kept), (p1, .cells [.int .i64 lo]), (p2, .cells [.int .i64 hi])])
     have hu : takeR M who (avF lo hi) l = (lkF who M (ordL l), 0) := by rw [takeR, if_neg (by omega), if_neg (not_not_intro hf0)]
     rw [hu] at hK
     have hq := hx5
     rw [take_full (by omega)] at hq
     refine hK s5 ?_
     exact hq.mono (by omega)
 refine rt rfl fun _ => ?_
 show K (.err 60 (if who < 0 ∨ 4 ≤ who then 1 else 0)) (AMem.wth m [(d, dObj kb nb s), (nb, mObj s.now), (kb, mObj s.kept), (p1, .cells [.int .i64 lo]), (p2, .cells [.int .i64 hi])])
 have hw : who < 0 ∨ 4 ≤ who := by grind
 rw [takeR, if_pos (by omega)] at hK
 rw [if_pos hw]
 exact hK s (hL.mono (by omega))
end Go.Proofs
end
section
namespace Go.Proofs
open Go Go.Aw Go.Sx
set_option maxRecDepth 100000
theorem bl_iff {a b : Str} : Op.bytesLess a b = true ↔ a < b := by
  induction a generalizing b with
  | nil => cases b with
    | nil => simp [Op.bytesLess]
    | cons y b => simp [Op.bytesLess]
  | cons x a ih => cases b with
    | nil => simp [Op.bytesLess]
    | cons y b =>
      rw [Op.bytesLess, List.cons_lt_cons_iff]
      simp [ih]
theorem bl_f {a b : Str} (h : Op.bytesLess a b = false) : ¬ a < b := fun hh => by rw [bl_iff.2 hh] at h; cases h
theorem lt_irr (a : Str) : ¬ a < a := List.lt_irrefl a
theorem lt_tri {a b : Str} (h1 : ¬ a < b) (h2 : a ≠ b) : b < a := by
  rcases Classical.em (b < a) with h | h
  · exact h
  · exact absurd (List.le_antisymm (show a ≤ b from h) (show b ≤ a from h1)) h2
theorem gI_at {α : Type} [Inhabited α] {l : List α} {i : Int} {x : α} (h0 : 0 ≤ i) (h : l[i.toNat]? = some x) : gI l i = x := by
  simp [gI, List.getD_eq_getElem?_getD, h]
abbrev SrtS (l : List Str) : Prop := l.Pairwise (· < ·)
structure SetOf (l s : List Str) : Prop where
  srt : SrtS s
  mem : ∀ x, x ∈ s ↔ x ∈ l
theorem srt_uniq : ∀ {a b : List Str}, SrtS a → SrtS b → (∀ x, x ∈ a ↔ x ∈ b) → a = b
  | [], [], _, _, _ => rfl
  | [], y :: b, _, _, h => absurd ((h y).2 (List.mem_cons_self ..)) (by simp)
  | x :: a, [], _, _, h => absurd ((h x).1 (List.mem_cons_self ..)) (by simp)
  | x :: a, y :: b, ha, hb, h => by
    have h1 := List.pairwise_cons.1 ha
    have h2 := List.pairwise_cons.1 hb
    have e : x = y := by
      rcases List.mem_cons.1 ((h x).1 (List.mem_cons_self ..)) with e | hx
      · exact e
      · rcases List.mem_cons.1 ((h y).2 (List.mem_cons_self ..)) with e | hy
        · exact e.symm
        · exact absurd (List.lt_trans (h1.1 y hy) (h2.1 x hx)) (lt_irr x)
    subst e
    rw [srt_uniq h1.2 h2.2 fun z => ⟨fun hz => ?_, fun hz => ?_⟩]
    · rcases List.mem_cons.1 ((h z).1 (List.mem_cons_of_mem _ hz)) with e | h3
      · subst e; exact absurd (h1.1 z hz) (lt_irr z)
      · exact h3
    · rcases List.mem_cons.1 ((h z).2 (List.mem_cons_of_mem _ hz)) with e | h3
      · subst e; exact absurd (h2.1 z hz) (lt_irr z)
      · exact h3
theorem compact_srt {d : Array Str} (hd : ∀ i j, i ≤ j → j < d.size → d[i]! ≤ d[j]!) : ∀ m, m ≤ d.size → SrtS (Lib.compactUpTo d m) ∧ (∀ x ∈ Lib.compactUpTo d m, ∀ j, m ≤ j + 1 → j < d.size → x ≤ d[j]!) ∧ ∀ i, i < m → d[i]! ∈ Lib.compactUpTo d m
  | 0, _ => ⟨by simp [Lib.compactUpTo], by simp [Lib.compactUpTo], fun i hi => absurd hi (Nat.not_lt_zero _)⟩
  | m + 1, hm => by
    obtain ⟨h1, h2, h3⟩ := compact_srt hd m (by omega)
    rw [Lib.compactUpTo_succ]
    have hle : ∀ x ∈ Lib.compactUpTo d m, x ≤ d[m]! := fun x hx => h2 x hx m (by omega) (by omega)
    cases hk : Lib.keeps d m with
    | true =>
      rw [if_pos rfl]
      refine ⟨List.pairwise_append.2 ⟨h1, by simp, fun x hx y hy => ?_⟩, fun x hx j hj hj2 => ?_, fun i hi => ?_⟩
      · rw [List.mem_singleton.1 hy]
        rcases Nat.eq_zero_or_pos m with h0 | h0
        · subst h0; simp [Lib.compactUpTo] at hx
        · have hne : d[m]! ≠ d[m - 1]! := by
            intro e
            rw [Lib.keeps_neg h0 e] at hk; cases hk
          have q1 := h2 x hx (m - 1) (by omega) (by omega)
          have q2 := hd (m - 1) m (by omega) (by omega)
          have q3 : d[m - 1]! < d[m]! := lt_tri (fun h => q2 h) hne
          rcases Classical.em (x < d[m]!) with h | h
          · exact h
          · exact absurd (List.le_antisymm (hle x hx) h) (fun e => by rw [e] at q1; exact q1 q3)
      · rcases List.mem_append.1 hx with hx | hx
        · exact h2 x hx j (by omega) hj2
        · rw [List.mem_singleton.1 hx]; exact hd m j (by omega) hj2
      · rcases Nat.lt_or_ge i m with h | h
        · exact List.mem_append_left _ (h3 i h)
        · have : i = m := by omega
          subst this; exact List.mem_append_right _ (List.mem_cons_self ..)
    | false =>
      rw [if_neg (by simp), List.append_nil]
      refine ⟨h1, fun x hx j hj hj2 => h2 x hx j (by omega) hj2, fun i hi => ?_⟩
      rcases Nat.lt_or_ge i m with h | h
      · exact h3 i h
      · have e : i = m := by omega
        subst e
        rcases Nat.eq_zero_or_pos i with h0 | h0
        · subst h0; simp [Lib.keeps] at hk
        · have hq : d[i]! = d[i - 1]! := by
            rcases Classical.em (d[i]! = d[i - 1]!) with h | h
            · exact h
            · rw [Lib.keeps_pos h] at hk; cases hk
          rw [hq]; exact h3 (i - 1) (by omega)
theorem sortL_srt (l : List Str) : (sortL l).Pairwise fun a b => a ≤ b := by
  have to : ∀ a b : Str, (decide (a ≤ b) || decide (b ≤ a)) = true := fun a b => by
    rcases List.le_total a b with h | h <;> simp [h]
  have tr : ∀ a b c : Str, decide (a ≤ b) = true → decide (b ≤ c) = true → decide (a ≤ c) = true := fun a b c h1 h2 => by
    simp only [decide_eq_true_eq] at *; exact List.le_trans h1 h2
  exact (List.pairwise_mergeSort tr to l).imp fun h => of_decide_eq_true h
theorem ordL_set (l : List Str) : SetOf l (ordL l) := by
  have hs := List.pairwise_iff_getElem.1 (sortL_srt l)
  have hd : ∀ i j, i ≤ j → j < (sortL l).toArray.size → (sortL l).toArray[i]! ≤ (sortL l).toArray[j]! := fun i j hij hj => by
    have hj' : j < (sortL l).length := by simpa using hj
    have hi' : i < (sortL l).length := by omega
    have e1 : (sortL l).toArray[i]! = (sortL l)[i] := by simp [getElem!_def, hi']
    have e2 : (sortL l).toArray[j]! = (sortL l)[j] := by simp [getElem!_def, hj']
    rw [e1, e2]
    rcases Nat.lt_or_eq_of_le hij with h | h
    · exact hs i j hi' hj' h
    · subst h; exact List.le_refl _
  obtain ⟨h1, _, h3⟩ := compact_srt hd (sortL l).length (by simp)
  refine ⟨h1, fun x => ⟨ordL_mem, fun hx => ?_⟩⟩
  have hx2 : x ∈ sortL l := (sortL_perm l).mem_iff.2 hx
  obtain ⟨i, hi, rfl⟩ := List.getElem_of_mem hx2
  have := h3 i hi
  rwa [show (sortL l).toArray[i]! = (sortL l)[i] from by simp [getElem!_def, hi]] at this
theorem set_ord {l s : List Str} (h : SetOf l s) : s = ordL l :=
  srt_uniq h.srt (ordL_set l).srt fun x => (h.mem x).trans ((ordL_set l).mem x).symm
structure SwS (base : List Str) (x : Str) (ys : List Str) (n : Nat) (k : Int) : Prop where
  h : ∃ A B, ys.take n = A ++ x :: B ∧ A.length = k.toNat ∧ A ++ B = base ∧ ∀ y ∈ B, x < y
theorem gI_mid {A C zs : List Str} {n : Nat} {x : Str} {k : Int} (h0 : 0 ≤ k) (h : zs.take n = A ++ x :: C) (hA : A.length = k.toNat) : gI zs k = x := by
  have h1 : (zs.take n)[k.toNat]? = some x := by rw [h, List.getElem?_append_right (by omega), hA, Nat.sub_self]; rfl
  have h2 : k.toNat < n := by
    rcases Nat.lt_or_ge k.toNat n with h | h
    · exact h
    · rw [List.getElem?_eq_none (by rw [List.length_take]; omega)] at h1; cases h1
  rw [List.getElem?_take_of_lt h2] at h1
  exact gI_at h0 h1
theorem snoc_of {A : List Str} {k : Int} (hA : A.length = k.toNat) (h : 0 < k) : ∃ A' a, A = A' ++ [a] ∧ A'.length = (k - 1).toNat := by
  have hne : A ≠ [] := fun e => by rw [e] at hA; simp at hA; omega
  exact ⟨A.dropLast, A.getLast hne, (List.dropLast_concat_getLast hne).symm, by rw [List.length_dropLast]; omega⟩
theorem sws_step {base ys : List Str} {x : Str} {n : Nat} {k : Int} (h : SwS base x ys n k) (h0 : 0 < k) (h1 : Op.bytesLess (gI ys k) (gI ys (k - 1)) = true) : SwS base x ((ys.set k.toNat (gI ys (k - 1))).set (k - 1).toNat (gI ys k)) n (k - 1) := by
  obtain ⟨A, B, h2, h3, h4, h5⟩ := h
  obtain ⟨A', a, rfl, hA'⟩ := snoc_of h3 h0
  have e1 := gI_mid (k := k) (by omega) h2 h3
  have e2 : gI ys (k - 1) = a := gI_mid (k := k - 1) (A := A') (C := x :: B) (by omega) (by rw [h2]; simp) hA'
  rw [e1, e2] at h1 ⊢
  refine ⟨A', a :: B, ?_, hA', by rw [List.append_assoc] at h4; exact h4, fun y hy => ?_⟩
  · rw [List.take_set, List.take_set, h2, List.append_assoc, List.set_append_right _ _ (by omega), List.set_append_right _ _ (by omega), hA', show k.toNat - (k - 1).toNat = 1 by omega, Nat.sub_self]
    rfl
  · rcases List.mem_cons.1 hy with rfl | hy
    · exact bl_iff.1 h1
    · exact h5 y hy
theorem sws_end {l base ys : List Str} {x : Str} {n : Nat} {k : Int} (h : SwS base x ys n k) (hb : SetOf l base) (hx : x ∉ l) (h0 : 0 ≤ k) (h1 : k ≤ 0 ∨ Op.bytesLess (gI ys k) (gI ys (k - 1)) = false) : SetOf (l ++ [x]) (ys.take n) := by
  obtain ⟨A, B, h2, h3, h4, h5⟩ := h
  have hs := hb.srt
  rw [← h4] at hs
  have hs2 := List.pairwise_append.1 hs
  have hA : ∀ a ∈ A, a < x := by
    intro y hy
    have hk : 0 < k := by
      rcases Int.lt_or_le 0 k with h | h
      · exact h
      · rw [List.eq_nil_of_length_eq_zero (l := A) (by omega)] at hy; cases hy
    obtain ⟨A', a, rfl, hA'⟩ := snoc_of h3 hk
    have q1 := gI_mid (k := k) h0 h2 h3
    have q2 : gI ys (k - 1) = a := gI_mid (k := k - 1) (A := A') (C := x :: B) (by omega) (by rw [h2]; simp) hA'
    have q3 := bl_f (h1.resolve_left (by omega))
    rw [q1, q2] at q3
    have hne : x ≠ a := fun e => hx ((hb.mem x).1 (by rw [← h4, e]; simp))
    have hlt : a < x := lt_tri q3 hne
    rcases List.mem_append.1 hy with hy | hy
    · exact List.lt_trans ((List.pairwise_append.1 hs2.1).2.2 y hy a (by simp)) hlt
    · rw [List.mem_singleton.1 hy]; exact hlt
  refine ⟨?_, fun z => ?_⟩
  · rw [h2]
    refine List.pairwise_append.2 ⟨hs2.1, List.pairwise_cons.2 ⟨h5, hs2.2.1⟩, fun a ha b hb2 => ?_⟩
    rcases List.mem_cons.1 hb2 with rfl | hb2
    · exact hA a ha
    · exact hs2.2.2 a ha b hb2
  · rw [h2, List.mem_append, List.mem_append, List.mem_cons, List.mem_singleton, ← hb.mem z, ← h4, List.mem_append]
    constructor
    · rintro (h | h | h)
      · exact .inl (.inl h)
      · exact .inr h
      · exact .inl (.inr h)
    · rintro ((h | h) | h)
      · exact .inl h
      · exact .inr (.inr h)
      · exact .inr (.inl h)
theorem set_dup {l s : List Str} {x : Str} (h : SetOf l s) (hx : x ∈ l) : SetOf (l ++ [x]) s :=
  ⟨h.srt, fun z => by rw [h.mem z, List.mem_append, List.mem_singleton]; exact ⟨.inl, fun q => q.elim id fun e => e ▸ hx⟩⟩
theorem th_step {zs : List Str} {x : Str} {k : Int} (h0 : 0 ≤ k) (hk : k < zs.length) : (decide (x ∈ zs.take k.toNat) || (gI zs k == x)) = decide (x ∈ zs.take (k + 1).toNat) := by
  rw [take_succ_gI h0 hk, Bool.eq_iff_iff]
  simp only [Bool.or_eq_true, decide_eq_true_eq, beq_iff_eq, List.mem_append, List.mem_singleton]
  exact ⟨fun h => h.imp id fun e => e.symm, fun h => h.imp id fun e => e.symm⟩
theorem ordL_nil : ordL [] = [] := by rw [ordL, show sortL ([] : List Str) = [] from by simp [sortL]]; rfl
theorem set_nil : SetOf [] [] := ⟨List.Pairwise.nil, fun _ => Iff.rfl⟩
set_option maxHeartbeats 4000000 in
theorem u_inOrder (l : List Str) (hl : l.length ≤ 1000000) (m : AMem)  (K : AV → AMem → Prop) (hK : K (.slice false ((ordL l).map strAV)) m) : ACalls Tryd.prog 32 [.slice false (l.map strAV)] m K := by
 refine enter (c := cf [] [] [9, 13] [] [18] []) (vs := [.av (.slice false (l.map strAV))]) (L := []) (m := m) false tbOk Tryd.mixed Tryd.func32 rfl (k := 1) (by show fnOk [] _ _ _ = true; decide +kernel) rfl (Good.nil m) ?_
 refine sq ?_
 refine lps (σ := (Unit) ⊕ (Int × List (List UInt8) × Nat × Nat)) [] [0, 3, 4] (Sum.elim (fun _ => 0) (fun ⟨i, zs, n, cp⟩ => 1)) (Sum.elim (fun _ => ([(0, vL (l.map strAV)), (3, .own []), (4, vI 0)], [], m)) (fun ⟨i, zs, n, cp⟩ => ([(0, vL (l.map strAV)), (3, .ms 0 n cp), (4, vI i)], [.obj (.cells (flatK strAV zs))], m))) (Sum.elim (fun _ => True) (fun ⟨i, zs, n, cp⟩ => cp = zs.length ∧ 1 ≤ i ∧ i ≤ l.length ∧ n ≤ zs.length ∧ (n : Int) ≤ i ∧ SetOf (l.take i.toNat) (zs.take n))) (Sum.elim (fun _ => l.length + 1) (fun ⟨i, zs, n, cp⟩ => l.length - i.toNat)) (.inl ()) ⟨rfl, rfl⟩ ?_ ?_
 · try dsimp only [Sum.elim_inl, Sum.elim_inr]
   all_goals trivial
 rintro (_ | ⟨i, zs, n, cp⟩) hI
 · try dsimp only [Sum.elim_inl, Sum.elim_inr] at hI
   refine sq ?_
   refine ln ?_
   refine an (fun h1 => ?_) (fun h1 => ?_)
   · refine sq ?_
     refine sq ?_
     refine lp (σ := Bool × Int) [(5, 0)] [0, 3, 4, 5, 6] 0 (fun ⟨th, k⟩ => ([(0, vL (l.map strAV)), (3, .own []), (4, vI 0), (5, vB th), (6, vI k)], [], m)) (fun ⟨th, k⟩ => k = 0 ∧ th = false) (fun ⟨th, k⟩ => 0) (false, 0) ⟨rfl, rfl⟩ ?_ ?_
     · try dsimp only
       first | exact ⟨rfl, rfl⟩ | exact ⟨by omega, by omega, by simp⟩
     rintro ⟨th, k⟩ hI2
     dsimp only at hI2
     refine sq ?_
     refine ⟨?_⟩
     refine an (fun h2 => ?_) (fun h2 => ?_)
     · exfalso
       simp only [List.length_nil] at h2
       omega
     refine sq ?_
     refine an (fun h3 => ?_) (fun h3 => ?_)
     · rw [hI2.2] at h3; cases h3
     have hl1 : ([gI l 0] : List (List UInt8)).length = 1 := rfl
     refine ix (by omega) ?_
     refine apm0 tbOk strAV ([gI l 0] : List (List UInt8)) ([] : (List UInt8)) rfl rfl rfl ⟨rfl, ⟨rfl, rfl, trivial, rfl⟩⟩ (fun _ => rfl) (fun _ => rfl) (fun _ => rfl) (by simp) (by (simp only [List.length_append, List.length_cons, List.length_nil]; omega)) rfl ?_
     intro zs1 hzzs1 hlzs1
     refine an (by omega) ?_
     refine an (by omega) ?_
     refine lp (σ := Int × List (List UInt8)) [] [0, 3, 4, 7] 1 (fun ⟨q, ys⟩ => ([(0, vL (l.map strAV)), (3, .ms 0 ((([gI l 0] : List (List UInt8))).length) zs1.length), (4, vI 0), (7, vI q)], [.obj (.cells (flatK strAV ys))], m)) (fun ⟨q, ys⟩ => q = 0 ∧ ys.length = zs1.length ∧ SwS [] (gI l 0) ys 1 0) (fun ⟨q, ys⟩ => 0) ((((([gI l 0] : List (List UInt8))).length : Nat) : Int) - 1, zs1) ⟨rfl, rfl⟩ ?_ ?_
     · try dsimp only
       exact ⟨rfl, rfl, ⟨⟨[], [], hzzs1, rfl, rfl, by simp⟩⟩⟩
     rintro ⟨q, ys⟩ hI3
     dsimp only at hI3
     refine sq ?_
     refine mg [0, 3, 4, 7] 57 ((decide (0 < q)) && (Op.bytesLess (gI ys q) (gI ys (q - 1)))) ?_ ?_
     · repeat' first
        | exact ⟨⟨_, rfl, by grind [SB.val]⟩, rfl⟩
        | refine an (fun _ => ?_) (fun _ => ?_)
        | refine an (by omega) ?_
        | refine ldk (k := q) (w := 1) (j := 0) strAV ys (by omega) (fun _ => rfl) rfl ?_
        | refine ldk (k := q - 1) (w := 1) (j := 0) strAV ys (by omega) (fun _ => rfl) rfl ?_
     refine an (fun h4 => ?_) (fun h4 => ?_)
     · replace h4 : (0 < q) ∧ (Op.bytesLess (gI ys q) (gI ys (q - 1)) = true) := ⟨(of_decide_eq_true (bandL h4)), (bandR h4)⟩
       exact absurd h4.1 (by omega)
     replace h4 : (q ≤ 0) ∨ (Op.bytesLess (gI ys q) (gI ys (q - 1)) = false) := ((bandF h4).imp (fun q => (Int.not_lt.1 (of_decide_eq_false q))) (fun q => q))
     refine an (by omega) ?_
     refine ⟨.inr (0 + 1, ys, (([gI l 0] : List (List UInt8))).length, zs1.length), ⟨rfl, rfl⟩, ?_, ?_⟩
     · try dsimp only [Sum.elim_inl, Sum.elim_inr]
       refine ⟨hI3.2.1.symm, by omega, by omega, by omega, by omega, ?_⟩
       rw [take_succ_gI (by omega) (by omega)]
       exact sws_end hI3.2.2 set_nil (by simp) (Int.le_refl _) (.inl (Int.le_refl _))
     try dsimp only [Sum.elim_inl, Sum.elim_inr]
     omega
   refine cv0 ?_
   refine rt0 rfl fun _ => ?_
   show K (.slice false []) m
   rw [List.eq_nil_of_length_eq_zero (l := l) (by omega), ordL_nil] at hK; exact hK
 · try dsimp only [Sum.elim_inl, Sum.elim_inr] at hI
   obtain ⟨rfl, hI⟩ := hI
   refine sq ?_
   refine ln ?_
   refine an (fun h5 => ?_) (fun h5 => ?_)
   · refine sq ?_
     refine sq ?_
     refine lp (σ := Bool × Int) [(5, 0)] [0, 3, 4, 5, 6] 1 (fun ⟨th, k⟩ => ([(0, vL (l.map strAV)), (3, .ms 0 n zs.length), (4, vI i), (5, vB th), (6, vI k)], [.obj (.cells (flatK strAV zs))], m)) (fun ⟨th, k⟩ => 0 ≤ k ∧ k ≤ n ∧ th = decide (gI l i ∈ zs.take k.toNat)) (fun ⟨th, k⟩ => n - k.toNat) (false, 0) ⟨rfl, rfl⟩ ?_ ?_
     · try dsimp only
       first | exact ⟨rfl, rfl⟩ | exact ⟨by omega, by omega, by simp⟩
     rintro ⟨th, k⟩ hI2
     dsimp only at hI2
     refine sq ?_
     refine an (by omega) ?_
     refine an (fun h6 => ?_) (fun h6 => ?_)
     · refine sq ?_
       refine mg [0, 3, 4, 6] 5 (th || ((gI zs k) == (gI l i))) ?_ ?_
       · repeat' first
          | exact ⟨⟨_, rfl, by grind [SB.val]⟩, rfl⟩
          | refine an (fun _ => ?_) (fun _ => ?_)
          | refine an (by omega) ?_
          | refine ldk (k := k) (w := 1) (j := 0) strAV zs (by omega) (fun _ => rfl) rfl ?_
          | refine ix (by omega) ?_
       refine an (by omega) ?_
       refine ⟨((th || ((gI zs k) == (gI l i))), k + 1), ⟨rfl, rfl⟩, ?_, ?_⟩
       · try dsimp only
         exact ⟨by omega, by omega, by rw [hI2.2.2]; exact th_step hI2.1 (by omega)⟩
       try dsimp only
       omega
     refine sq ?_
     refine an (fun h7 => ?_) (fun h7 => ?_)
     · have hkn : k.toNat = n := by omega
       rw [hI2.2.2, hkn] at h7
       refine an (by omega) ?_
       refine ⟨.inr (i + 1, zs, n, zs.length), ⟨rfl, rfl⟩, ?_, ?_⟩
       · try dsimp only [Sum.elim_inl, Sum.elim_inr]
         refine ⟨rfl, by omega, by omega, by omega, by omega, ?_⟩
         rw [take_succ_gI (by omega) (by omega)]
         exact set_dup hI.2.2.2.2 ((hI.2.2.2.2.mem _).1 (of_decide_eq_true h7))
       try dsimp only [Sum.elim_inl, Sum.elim_inr]
       omega
     have hl1 : ([gI l i] : List (List UInt8)).length = 1 := rfl
     have hkn : k.toNat = n := by omega
     rw [hI2.2.2, hkn] at h7
     have hnx : gI l i ∉ l.take i.toNat := fun hc => by simp [(hI.2.2.2.2.mem _).2 hc] at h7
     refine ix (by omega) ?_
     refine apm tbOk strAV zs ([gI l i] : List (List UInt8)) ([] : (List UInt8)) rfl rfl rfl ⟨rfl, ⟨rfl, rfl, trivial, rfl⟩⟩ rfl rfl (fun _ => rfl) (fun _ => rfl) (fun _ => rfl) (by omega) (by (simp only [List.length_append, List.length_cons, List.length_nil]; omega)) ?_
     intro zs1 hzzs1 hlzs1
     refine an (by omega) ?_
     refine an (by omega) ?_
     refine lp (σ := Int × List (List UInt8)) [] [0, 3, 4, 7] 1 (fun ⟨q, ys⟩ => ([(0, vL (l.map strAV)), (3, .ms 0 (n + (([gI l i] : List (List UInt8))).length) zs1.length), (4, vI i), (7, vI q)], [.obj (.cells (flatK strAV ys))], m)) (fun ⟨q, ys⟩ => 0 ≤ q ∧ q ≤ n ∧ ys.length = zs1.length ∧ SwS (zs.take n) (gI l i) ys (n + 1) q) (fun ⟨q, ys⟩ => q.toNat) (((n + (([gI l i] : List (List UInt8))).length : Nat) : Int) - 1, zs1) ⟨rfl, rfl⟩ ?_ ?_
     · try dsimp only
       exact ⟨by omega, by omega, rfl, ⟨⟨zs.take n, [], hzzs1, by rw [List.length_take]; omega, by simp, by simp⟩⟩⟩
     rintro ⟨q, ys⟩ hI3
     dsimp only at hI3
     refine sq ?_
     refine mg [0, 3, 4, 7] 57 ((decide (0 < q)) && (Op.bytesLess (gI ys q) (gI ys (q - 1)))) ?_ ?_
     · repeat' first
        | exact ⟨⟨_, rfl, by grind [SB.val]⟩, rfl⟩
        | refine an (fun _ => ?_) (fun _ => ?_)
        | refine an (by omega) ?_
        | refine ldk (k := q) (w := 1) (j := 0) strAV ys (by omega) (fun _ => rfl) rfl ?_
        | refine ldk (k := q - 1) (w := 1) (j := 0) strAV ys (by omega) (fun _ => rfl) rfl ?_
     refine an (fun h8 => ?_) (fun h8 => ?_)
     · replace h8 : (0 < q) ∧ (Op.bytesLess (gI ys q) (gI ys (q - 1)) = true) := ⟨(of_decide_eq_true (bandL h8)), (bandR h8)⟩
       refine sq ?_
       refine an (by omega) ?_
       refine ldk (k := q) (w := 1) (j := 0) strAV ys (by omega) (fun _ => rfl) rfl ?_
       refine an (by omega) ?_
       refine an (by omega) ?_
       refine ldk (k := q - 1) (w := 1) (j := 0) strAV ys (by omega) (fun _ => rfl) rfl ?_
       refine an (by omega) ?_
       refine stk tbOk strAV ys (gI ys (q - 1)) rfl rfl rfl rfl rfl (fun _ => rfl) rfl (fun _ => rfl) ⟨by omega, by first | omega | (rw [List.length_set]; omega)⟩ ?_
       refine an (by omega) ?_
       refine an (by omega) ?_
       refine stk tbOk strAV (ys.set (q).toNat (gI ys (q - 1))) (gI ys q) rfl rfl rfl rfl rfl (fun _ => rfl) rfl (fun _ => rfl) ⟨by omega, by first | omega | (rw [List.length_set]; omega)⟩ ?_
       refine an (by omega) ?_
       refine ⟨(q - 1, (ys.set (q).toNat (gI ys (q - 1))).set (q - 1).toNat (gI ys q)), ⟨rfl, rfl⟩, ?_, ?_⟩
       · try dsimp only
         refine ⟨by omega, by omega, ?_, sws_step hI3.2.2.2 h8.1 h8.2⟩
         rw [List.length_set, List.length_set]; exact hI3.2.2.1
       try dsimp only
       omega
     replace h8 : (q ≤ 0) ∨ (Op.bytesLess (gI ys q) (gI ys (q - 1)) = false) := ((bandF h8).imp (fun q => (Int.not_lt.1 (of_decide_eq_false q))) (fun q => q))
     refine an (by omega) ?_
     refine ⟨.inr (i + 1, ys, n + (([gI l i] : List (List UInt8))).length, zs1.length), ⟨rfl, rfl⟩, ?_, ?_⟩
     · try dsimp only [Sum.elim_inl, Sum.elim_inr]
       refine ⟨hI3.2.2.1.symm, by omega, by omega, by omega, by omega, ?_⟩
       rw [take_succ_gI (by omega) (by omega)]
       exact sws_end hI3.2.2.2 hI.2.2.2.2 hnx hI3.1 h8
     try dsimp only [Sum.elim_inl, Sum.elim_inr]
     omega
   refine cvfS (i := 0) (w := 1) (f := strAV) zs ((zs.take n).map strAV) 3 rfl rfl rfl (fun _ => rfl) (by decide) (fun _ => rfl) (by exact ⟨by omega, by omega⟩) (by rfl) ?_
   refine rt0 rfl fun _ => ?_
   show K (.slice false ((zs.take n).map strAV)) m
   have hs := hI.2.2.2.2
   rw [List.take_of_length_le (l := l) (by omega)] at hs
   rw [set_ord hs]; exact hK
end Go.Proofs
end
section
namespace Go.Proofs
open Go Go.Aw
set_option maxRecDepth 100000
theorem ordL_empty {M : List (Str × Str)} (hE : ∀ k, k < M.length → k ∈ ([] : List Nat)) : ordL (M.map Prod.fst) = ordL [] := by
  rcases hq : M with _ | ⟨p, r⟩
  · rfl
  · exact absurd (hE 0 (by rw [hq]; simp)) (by simp)
theorem ordL_of_perm {a b : List Str} (h : a.Perm b) : ordL a = ordL b := by rw [ordL, ordL, sortL_of_perm h]
set_option maxHeartbeats 4000000 in
theorem u_Sorted (b : Nat) (M : List (Str × Str)) (hML : M.length ≤ 1000000) (m : AMem)  (K : AV → AMem → Prop) (hK : K (sF ((ordL (M.map Prod.fst)).map strAV)) (mW m [(b, mObj M)])) : ACalls Tryd.prog 20 [.map b] (mW m [(b, mObj M)]) K := by
 refine acalls_enter Tryd.func20 rfl (by decide) (nB rfl) ?_
 show AWP _ _ _ _ [(0, .map b)] (mW m [(b, mObj M)])
 refine rS [] [0] (by decide) ?_
 intro K1 hK1
 refine ⟨tv, ?_⟩
 show K1 [(0, .map b)] _
 refine hK1 _ _ ?_; clear hK1 K1
 refine rS [] [0, 3] (by decide) ?_
 intro K1 hK1
 refine ⟨tv, ?_⟩
 show K1 [(0, .map b), (3, .slice true [])] _
 refine hK1 _ _ ?_; clear hK1 K1
 refine sK ?_; intro K2 hK2
 refine rS [] [3, 6] (by decide) ?_
 intro K1 hK1
 refine ⟨tv, ?_⟩
 refine ar_range rfl (m := m) (L := [(b, mObj M)]) 0 rfl rfl rfl (nodup_1 b) ?_
 intro q1 _
 show K1 [(3, .slice true []), (6, pT q1)] (mW m [(b, AObj.iter q1 (List.map (mapAV strAV strAV) M) [])])
 refine hK1 _ _ ?_; clear hK1 K1
 refine awp_block ?_
 refine awp_conv1 3 (.slice true []) .nils rfl nils_of_own ?_
 refine awp_keep [3, 6] (by decide) ?_
 refine awp_loop_st (σ := (Unit) ⊕ (Nat × List Nat × List (List UInt8))) (Sum.elim (fun _ => [(3, .nils), (6, pT q1)]) (fun ⟨r, seen, zs⟩ => [(3, .ms ⟨r, 0, none⟩ seen.length zs.length), (6, pT q1)])) (Sum.elim (fun _ => (mW m [(b, AObj.iter q1 (List.map (mapAV strAV strAV) M) [])])) (fun ⟨r, seen, zs⟩ => (mW m [(r, .cells (zs.map strAV)), (b, AObj.iter q1 (List.map (mapAV strAV strAV) M) seen)]))) (Sum.elim (fun _ => True) (fun ⟨r, seen, zs⟩ => ([r, b] : List Nat).Nodup ∧ m r = none ∧ (seen).Nodup ∧ (∀ i ∈ seen, i < M.length) ∧ (zs).take (seen).length = keysAt M seen ∧ (seen).length ≤ (zs).length)) (Sum.elim (fun _ => M.length + 1) (fun ⟨r, seen, zs⟩ => M.length - (seen).length)) (.inl ()) rfl rfl ?_ ?_
 ·
  show True
  trivial
 ·
  rintro (_ | ⟨r, seen, zs⟩) hI
  ·
   replace hI : True := hI
   show AWP _ _ _ _ [(3, .nils), (6, pT q1)] (mW m [(b, AObj.iter q1 (List.map (mapAV strAV strAV) M) [])])
   refine rS [] [3, 6, 8] (by decide) ?_
   intro K1 hK1
   refine ar_nextT rfl (m := m) (L := [(b, AObj.iter q1 (List.map (mapAV strAV strAV) M) [])]) 0 strAV strAV M [] rfl rfl (nodup_1 b) ?_ ?_
   ·
    intro hE1
    refine ⟨(nB rfl), ?_⟩
    show K1 [(3, .nils), (6, pT q1), (8, .bool false)] (mW m [(b, AObj.iter q1 (List.map (mapAV strAV strAV) M) [])])
    refine hK1 _ _ ?_; clear hK1 K1
    refine awp_unrange (m := m) (L := [(b, AObj.iter q1 (List.map (mapAV strAV strAV) M) [])]) 0 (nodup_1 b) rfl ?_
    show AWP _ _ _ _ [(3, .nils), (6, pT q1), (8, .bool false)] (mW m [(b, mObj M)])
    refine sK ?_; intro K3 hK3
    refine cD rfl rfl (fun hcz => ?_) (fun hcz => ?_)
    ·
     cases hcz
    clear hcz
    refine awp_exit ?_
    refine hK2 _ _ ?_; clear hK2
    refine awp_conv1 3 .nils (.slice false []) rfl own_of_nils ?_
    show AWP _ _ _ _ [(3, .slice false []), (6, pT q1), (8, .bool false)] (mW m [(b, mObj M)])
    refine rS [] [2] (by decide) ?_
    intro K1 hK1
    refine ⟨tv, ?_⟩
    refine u_inOrder [] (by decide) _ _ ?_
    refine ⟨tv, ?_⟩
    show K1 [(2, sF ((ordL []).map strAV))] _
    refine hK1 _ _ ?_; clear hK1 K1
    refine awp_ret ?_
    refine ⟨tv, (mW m [(b, mObj M)]), fun _ _ h => h, ?_⟩
    show K (sF ((ordL []).map strAV)) _
   
    have e0 : ordL (M.map Prod.fst) = ((ordL []) : List Str) := by
     first | (rw [hs3]; exact (ordL_of_perm (keysAt_perm hs1 hs2 hE2)).symm) | exact ordL_empty hE1
    rw [e0] at hK
    exact hK
   ·
    rintro k1 ⟨ek1, ev1⟩ hp1 hn1
    refine ⟨(nB rfl), ?_⟩
    show K1 [(3, .nils), (6, pT q1), (8, .bool true)] (mW m [(b, AObj.iter q1 (List.map (mapAV strAV strAV) M) ([] ++ [k1]))])
    refine hK1 _ _ ?_; clear hK1 K1
    refine sK ?_; intro K4 hK4
    refine cD rfl rfl (fun hcz => ?_) (fun hcz => ?_)
    rotate_left; · cases hcz
    clear hcz
    refine awp_skip ?_
    refine hK4 _ _ ?_; clear hK4
    refine awp_block ?_
    refine rS [] [3, 4, 6] (by decide) ?_
    intro K1 hK1
    refine ar_entryT rfl (m := m) (L := [(b, AObj.iter q1 (List.map (mapAV strAV strAV) M) ([] ++ [k1]))]) 0 strAV strAV M [] hp1 rfl rfl (nodup_1 b) ?_
    refine ⟨(nB rfl), tv, ?_⟩
    show K1 [(3, .nils), (4, .str ek1), (6, pT q1)] _
    refine hK1 _ _ ?_; clear hK1 K1
    refine awp_reg2 [11] [3, 6] (by decide) ?_
    intro K1 hK1
    refine ⟨tv, tv, ⟨rfl, nB rfl, rfl, nB rfl, rfl, by simp only [List.forall_mem_cons]; exact ⟨⟨rfl, rfl⟩, nfA⟩⟩, ?_⟩
    refine ar_append0Ms rfl strAV ([ek1] : List (List UInt8)) [] rfl rfl rfl rfl rfl rfl rfl (nodup_1 b) (fun _ => rfl) (fun _ => rfl) rfl (by simp) (by (simp only [show Tryd.prog.bytesOf 9 = 16 from rfl, List.length_cons, List.length_nil]; omega)) (by simp) ?_
    intro b1 zs1 hFb1 hNb1 htb1 hlb1
    replace hNb1 : ([b1, b] : List Nat).Nodup := hNb1
    refine ⟨tv, ?_⟩
    show K1 [(3, .ms ⟨b1, 0, none⟩ (([ek1] : List (List UInt8)).length) zs1.length), (6, pT q1)] (mW m [(b1, .cells (zs1.map strAV)), (b, AObj.iter q1 (List.map (mapAV strAV strAV) M) ([] ++ [k1]))])
    refine hK1 _ _ ?_; clear hK1 K1
    refine ⟨.inr (b1, [k1], zs1), rfl, rfl, ?_, ?_⟩
    ·
     show ([b1, b] : List Nat).Nodup ∧ m b1 = none ∧ ([k1]).Nodup ∧ (∀ i ∈ ([k1]), i < M.length) ∧ (zs1).take ([k1]).length = keysAt M ([k1]) ∧ ([k1]).length ≤ (zs1).length
     exact ⟨hNb1, hFb1, by simp, fun i hi => by simp at hi; subst hi; exact (List.getElem?_eq_some_iff.1 hp1).1, by rw [show ([k1] : List Nat) = [] ++ [k1] from rfl, keysAt_snoc hp1]; exact htb1, hlb1⟩
    ·
     show M.length - ([k1]).length < M.length + 1
     simp; omega
  ·
   replace hI : ([r, b] : List Nat).Nodup ∧ m r = none ∧ (seen).Nodup ∧ (∀ i ∈ seen, i < M.length) ∧ (zs).take (seen).length = keysAt M seen ∧ (seen).length ≤ (zs).length := hI
   obtain ⟨hNb, hFb, hs1, hs2, hs3, hs4⟩ := hI
   have hsl := seen_len hs1 hs2
   show AWP _ _ _ _ [(3, .ms ⟨r, 0, none⟩ seen.length zs.length), (6, pT q1)] (mW m [(r, .cells (zs.map strAV)), (b, AObj.iter q1 (List.map (mapAV strAV strAV) M) seen)])
   refine rS [] [3, 6, 8] (by decide) ?_
   intro K1 hK1
   refine ar_nextT rfl (m := m) (L := [(r, .cells (zs.map strAV)), (b, AObj.iter q1 (List.map (mapAV strAV strAV) M) seen)]) 1 strAV strAV M seen rfl rfl hNb ?_ ?_
   ·
    intro hE2
    refine ⟨(nB rfl), ?_⟩
    show K1 [(3, .ms ⟨r, 0, none⟩ seen.length zs.length), (6, pT q1), (8, .bool false)] (mW m [(r, .cells (zs.map strAV)), (b, AObj.iter q1 (List.map (mapAV strAV strAV) M) seen)])
    refine hK1 _ _ ?_; clear hK1 K1
    refine awp_unrange (m := m) (L := [(r, .cells (zs.map strAV)), (b, AObj.iter q1 (List.map (mapAV strAV strAV) M) seen)]) 1 hNb rfl ?_
    show AWP _ _ _ _ [(3, .ms ⟨r, 0, none⟩ seen.length zs.length), (6, pT q1), (8, .bool false)] (mW m [(r, .cells (zs.map strAV)), (b, mObj M)])
    refine sK ?_; intro K5 hK5
    refine cD rfl rfl (fun hcz => ?_) (fun hcz => ?_)
    ·
     cases hcz
    clear hcz
    refine awp_exit ?_
    refine hK2 _ _ ?_; clear hK2
    refine awp_freeze 3 0 (zs) rfl rfl hNb hFb hs4 (by omega) ?_
    have hNd1 : ([b] : List Nat).Nodup := drop_nodup (L := [(r, .cells (zs.map strAV)), (b, mObj M)]) hNb (pick_perm [0] _)
    show AWP _ _ _ _ [(3, sF ((zs.take seen.length).map strAV)), (6, pT q1), (8, .bool false)] (mW m [(b, mObj M)])
    refine rS [] [2] (by decide) ?_
    intro K1 hK1
    refine ⟨tv, ?_⟩
    refine u_inOrder (zs.take seen.length) (by rw [List.length_take]; omega) _ _ ?_
    refine ⟨tv, ?_⟩
    show K1 [(2, sF ((ordL (zs.take seen.length)).map strAV))] _
    refine hK1 _ _ ?_; clear hK1 K1
    refine awp_ret ?_
    refine ⟨tv, (mW m [(b, mObj M)]), fun _ _ h => h, ?_⟩
    show K (sF ((ordL (zs.take seen.length)).map strAV)) _
   
    have e0 : ordL (M.map Prod.fst) = ((ordL (zs.take seen.length)) : List Str) := by
     first | (rw [hs3]; exact (ordL_of_perm (keysAt_perm hs1 hs2 hE2)).symm) | exact ordL_empty hE1
    rw [e0] at hK
    exact hK
   ·
    rintro k2 ⟨ek2, ev2⟩ hp2 hn2
    refine ⟨(nB rfl), ?_⟩
    show K1 [(3, .ms ⟨r, 0, none⟩ seen.length zs.length), (6, pT q1), (8, .bool true)] (mW m [(r, .cells (zs.map strAV)), (b, AObj.iter q1 (List.map (mapAV strAV strAV) M) (seen ++ [k2]))])
    refine hK1 _ _ ?_; clear hK1 K1
    refine sK ?_; intro K6 hK6
    refine cD rfl rfl (fun hcz => ?_) (fun hcz => ?_)
    rotate_left; · cases hcz
    clear hcz
    refine awp_skip ?_
    refine hK6 _ _ ?_; clear hK6
    refine awp_block ?_
    refine rS [] [3, 4, 6] (by decide) ?_
    intro K1 hK1
    refine ar_entryT rfl (m := m) (L := [(r, .cells (zs.map strAV)), (b, AObj.iter q1 (List.map (mapAV strAV strAV) M) (seen ++ [k2]))]) 1 strAV strAV M seen hp2 rfl rfl hNb ?_
    refine ⟨(nB rfl), tv, ?_⟩
    show K1 [(3, .ms ⟨r, 0, none⟩ seen.length zs.length), (4, .str ek2), (6, pT q1)] _
    refine hK1 _ _ ?_; clear hK1 K1
    refine awp_reg2 [11] [3, 6] (by decide) ?_
    intro K1 hK1
    refine ⟨tv, tv, ⟨rfl, nB rfl, rfl, nB rfl, rfl, by simp only [List.forall_mem_cons]; exact ⟨⟨rfl, rfl⟩, nfA⟩⟩, ?_⟩
    refine ar_appendMs rfl 0 strAV zs ([ek2] : List (List UInt8)) [] seen.length rfl rfl rfl rfl rfl rfl rfl rfl hNb hFb (fun _ => rfl) rfl (fun _ => rfl) (fun _ => rfl) (by (first | omega | (simp only [List.length_append, List.length_cons, List.length_nil]; omega))) (by (simp only [show Tryd.prog.bytesOf 9 = 16 from rfl, List.length_append, List.length_cons, List.length_nil]; omega)) (by (first | omega | (simp only [List.length_append, List.length_cons, List.length_nil]; omega))) ?_
    intro b2 zs2 hFb2 hNb2 htb2 hlb2
    replace htb2 : zs2.take (seen.length + ([ek2] : List (List UInt8)).length) = zs.take seen.length ++ ([ek2] : List (List UInt8)) := htb2
    replace hlb2 : seen.length + ([ek2] : List (List UInt8)).length ≤ zs2.length := hlb2
    refine ⟨tv, ?_⟩
    show K1 [(3, .ms ⟨b2, 0, none⟩ (seen.length + ([ek2] : List (List UInt8)).length) zs2.length), (6, pT q1)] (mW m [(b2, .cells (zs2.map strAV)), (b, AObj.iter q1 (List.map (mapAV strAV strAV) M) (seen ++ [k2]))])
    refine hK1 _ _ ?_; clear hK1 K1
    refine ⟨.inr (b2, seen ++ [k2], zs2), (by simp), rfl, ?_, ?_⟩
    ·
     show ([b2, b] : List Nat).Nodup ∧ m b2 = none ∧ (seen ++ [k2]).Nodup ∧ (∀ i ∈ (seen ++ [k2]), i < M.length) ∧ (zs2).take (seen ++ [k2]).length = keysAt M (seen ++ [k2]) ∧ (seen ++ [k2]).length ≤ (zs2).length
     have hss := sstep hs1 hs2 hp2 hn2
     exact ⟨hNb2, hFb2, hss.1, hss.2, by rw [keysAt_snoc hp2, ← hs3, List.length_append]; exact htb2, by rw [List.length_append]; exact hlb2⟩
    ·
     show M.length - (seen ++ [k2]).length < M.length - (seen).length
     have hss := sstep hs1 hs2 hp2 hn2
     have := seen_len hss.1 hss.2
     rw [List.length_append, List.length_singleton] at *
     omega
end Go.Proofs
end
section
namespace Go.Proofs
open Go Go.Aw Go.Sx
set_option maxRecDepth 100000
set_option maxHeartbeats 4000000 in
theorem u_LockAllA (M : List (Str × Str)) (who : Int) (l : List Str) (b : Nat) (p1 p2 : Nat) (lo hi : Int)  (hll : l.length ≤ 1000000) (hML : M.length ≤ 1000000) (m : AMem) (gd : Gd [b, p1, p2] m) (K : AV → AMem → Prop) (hK : K (.int .i64 (takeR M who (avF lo hi) l).2) (AMem.wth m [(b, mObj (takeR M who (avF lo hi) l).1), (p1, .cells [.int .i64 lo]), (p2, .cells [.int .i64 hi])])) : ACalls Tryd.prog 11 [.map b, .int .i64 who, .slice false (l.map strAV), .func (.func 8) [] [.ptr ⟨p1, 0, none⟩, .ptr ⟨p2, 0, none⟩]] (AMem.wth m [(b, mObj M), (p1, .cells [.int .i64 lo]), (p2, .cells [.int .i64 hi])]) K := by
 have hod := ordL_len l
 refine enter (c := cf [] [] [1, 10] [] [] [b, p1, p2]) (vs := [.mp 0, .av (.int .i64 who), .av (.slice false (l.map strAV)), .fn 8 [] [.loc 1 0, .loc 2 0]]) (L := [.obj (mObj M), .cells [vI lo], .cells [vI hi]]) (m := m) false tbOk Tryd.mixed Tryd.func11 rfl (k := 4) (by show fnOk [] _ _ _ = true; decide +kernel) rfl (gd.good rfl) ?_
 refine sq ?_
 refine mg [0, 1, 2, 3] 20 ((decide (who < 0)) || (decide (3 < who))) ?_ ?_
 · repeat' first
    | exact ⟨⟨_, rfl, by grind [SB.val]⟩, rfl⟩
    | refine an (fun _ => ?_) (fun _ => ?_)
 refine an (fun h1 => ?_) (fun h1 => ?_)
 · replace h1 : (who < 0) ∨ (3 < who) := ((borT h1).imp (fun q => (of_decide_eq_true q)) (fun q => (of_decide_eq_true q)))
   have e0 : takeR M who (avF lo hi) l = ((M, 1) : List (Str × Str) × Int) := by
    first | (rw [takeR, if_pos (by omega)]; done) | (rw [takeR, if_neg (by omega), if_neg (not_not_intro hf0), hI2.2.2, take_full (by omega)]; done) | (have he : takeE M who (avF lo hi) (ordL l) = (ownR M (gI (ordL l) i)).2.2 := (by rw [hI.2.2, takeE_drop hI.1 h2, if_pos (by omega)]); rw [takeR, if_neg (by omega), if_pos (by rw [he]; omega), he]; done) | (have he : takeE M who (avF lo hi) (ordL l) = 14 := (by rw [hI.2.2, takeE_drop hI.1 h2, if_neg (by have := ownR_nn M (gI (ordL l) i); omega), if_pos (by simpa using h4)]); rw [takeR, if_neg (by omega), if_pos (by rw [he]; decide), he])
   rw [e0] at hK
   exact rt rfl fun _ => hK
 replace h1 : (0 ≤ who) ∧ (who ≤ 3) := ⟨(Int.not_lt.1 (of_decide_eq_false (borL h1))), (Int.not_lt.1 (of_decide_eq_false (borR h1)))⟩
 refine call0 (fun _ => u_inOrder l (by omega)) rfl ?_
 refine sq ?_
 refine lp (σ := Int) [] [0, 1, 3, 9, 10] 3 (fun i => ([(0, .mp 0), (1, vI who), (3, .fn 8 [] [.loc 1 0, .loc 2 0]), (9, vL ((ordL l).map strAV)), (10, vI i)], [.obj (mObj M), .cells [vI lo], .cells [vI hi]], m)) (fun i => 0 ≤ i ∧ i ≤ (ordL l).length ∧ takeE M who (avF lo hi) (ordL l) = takeE M who (avF lo hi) ((ordL l).drop i.toNat)) (fun i => (ordL l).length - i.toNat) (0) ⟨rfl, rfl⟩ ?_ ?_
 · try dsimp only
   exact ⟨by omega, by omega, rfl⟩
 rintro i hI
 refine sq ?_
 refine ln ?_
 refine an (fun h2 => ?_) (fun h2 => ?_)
 · refine sq ?_
   refine ix (by omega) ?_
   refine callM [0] [.obj (mObj M)] (.av (.tuple [.int .i64 ((ownR M (gI (ordL l) i)).1), .bool ((ownR M (gI (ordL l) i)).2.1), .int .i64 ((ownR M (gI (ordL l) i)).2.2)])) rfl (fun bs mm gd => u_OwnerOf M (gI (ordL l) i) (bs.getD 0 0) mm gd) ?_
   refine sq ?_
   refine an (fun h3 => ?_) (fun h3 => ?_)
   · have e0 : takeR M who (avF lo hi) l = ((M, (ownR M (gI (ordL l) i)).2.2) : List (Str × Str) × Int) := by
      first | (rw [takeR, if_pos (by omega)]; done) | (rw [takeR, if_neg (by omega), if_neg (not_not_intro hf0), hI2.2.2, take_full (by omega)]; done) | (have he : takeE M who (avF lo hi) (ordL l) = (ownR M (gI (ordL l) i)).2.2 := (by rw [hI.2.2, takeE_drop hI.1 h2, if_pos (by omega)]); rw [takeR, if_neg (by omega), if_pos (by rw [he]; omega), he]; done) | (have he : takeE M who (avF lo hi) (ordL l) = 14 := (by rw [hI.2.2, takeE_drop hI.1 h2, if_neg (by have := ownR_nn M (gI (ordL l) i); omega), if_pos (by simpa using h4)]); rw [takeR, if_neg (by omega), if_pos (by rw [he]; decide), he])
     rw [e0] at hK
     exact rt rfl fun _ => hK
   refine mg [0, 1, 3, 9, 10] 52 ((((ownR M (gI (ordL l) i)).2.1) && (!(((ownR M (gI (ordL l) i)).1) == who))) && (avF lo hi ((ownR M (gI (ordL l) i)).1))) ?_ ?_
   · repeat' first
      | exact ⟨⟨_, rfl, by grind [SB.val]⟩, rfl⟩
      | refine an (fun _ => ?_) (fun _ => ?_)
      | refine callM [1, 2] [.cells [vI lo], .cells [vI hi]] (vB (avF lo hi ((ownR M (gI (ordL l) i)).1))) rfl (fun bs mm gd => u_alive ((ownR M (gI (ordL l) i)).1) lo hi (bs.getD 1 0) (bs.getD 2 0) mm gd) ?_
   refine an (fun h4 => ?_) (fun h4 => ?_)
   · replace h4 : (((ownR M (gI (ordL l) i)).2.1 = true) ∧ ((ownR M (gI (ordL l) i)).1 ≠ who)) ∧ (avF lo hi ((ownR M (gI (ordL l) i)).1) = true) := ⟨⟨(bandL (bandL h4)), (ne_of_beq_false (bnT (bandR (bandL h4))))⟩, (bandR h4)⟩
     have e0 : takeR M who (avF lo hi) l = ((M, 14) : List (Str × Str) × Int) := by
      first | (rw [takeR, if_pos (by omega)]; done) | (rw [takeR, if_neg (by omega), if_neg (not_not_intro hf0), hI2.2.2, take_full (by omega)]; done) | (have he : takeE M who (avF lo hi) (ordL l) = (ownR M (gI (ordL l) i)).2.2 := (by rw [hI.2.2, takeE_drop hI.1 h2, if_pos (by omega)]); rw [takeR, if_neg (by omega), if_pos (by rw [he]; omega), he]; done) | (have he : takeE M who (avF lo hi) (ordL l) = 14 := (by rw [hI.2.2, takeE_drop hI.1 h2, if_neg (by have := ownR_nn M (gI (ordL l) i); omega), if_pos (by simpa using h4)]); rw [takeR, if_neg (by omega), if_pos (by rw [he]; decide), he])
     rw [e0] at hK
     exact rt rfl fun _ => hK
   replace h4 : (((ownR M (gI (ordL l) i)).2.1 = false) ∨ ((ownR M (gI (ordL l) i)).1 = who)) ∨ (avF lo hi ((ownR M (gI (ordL l) i)).1) = false) := ((bandF h4).imp (fun q => ((bandF q).imp (fun q => q) (fun q => (eq_of_beq (bnF q))))) (fun q => q))
   refine an (by omega) ?_
   refine ⟨(i + 1), ⟨rfl, rfl⟩, ?_, ?_⟩
   · try dsimp only
     have hnn := ownR_nn M (gI (ordL l) i)
     exact ⟨by omega, by omega, by rw [hI.2.2, takeE_drop hI.1 h2, if_neg (by omega), if_neg (by grind)]⟩
   try dsimp only
   omega
 have hf0 : takeE M who (avF lo hi) (ordL l) = 0 := by rw [hI.2.2, List.drop_eq_nil_of_le (by omega)]; rfl
 refine sq ?_
 refine lp (σ := Int × List (Str × Str)) [] [0, 1, 9, 14] 3 (fun ⟨j, X⟩ => ([(0, .mp 0), (1, vI who), (9, vL ((ordL l).map strAV)), (14, vI j)], [.obj (mObj X), .cells [vI lo], .cells [vI hi]], m)) (fun ⟨j, X⟩ => 0 ≤ j ∧ j ≤ (ordL l).length ∧ X = lkF who M ((ordL l).take j.toNat)) (fun ⟨j, X⟩ => (ordL l).length - j.toNat) (0, M) ⟨rfl, rfl⟩ ?_ ?_
 · try dsimp only
   exact ⟨by omega, by omega, rfl⟩
 rintro ⟨j, X⟩ hI2
 dsimp only at hI2
 have hXl : X.length ≤ 2000000 := by
   have := lkF_len who ((ordL l).take j.toNat) M
   rw [← hI2.2.2, List.length_take] at this
   omega
 refine sq ?_
 refine ln ?_
 refine an (fun h5 => ?_) (fun h5 => ?_)
 · refine sq ?_
   refine ix (by omega) ?_
   refine pure0 (fun _ => u_Decimal who (by omega) (by omega)) ?_
   refine mup tbOk (dk := .string) strAV strAV strKey_ok X (gI (ordL l) j) (Lib.itoa who) (t := 27) (ke := 9) (ve := 9) mpSS rfl rfl rfl rfl rfl (fun _ => rfl) (by (have := mput_len X (gI (ordL l) j) (Lib.itoa who); (try simp only [List.length_nil] at this); omega)) ?_
   refine an (by omega) ?_
   refine ⟨(j + 1, mput X (gI (ordL l) j) (Lib.itoa who)), ⟨rfl, rfl⟩, ?_, ?_⟩
   · try dsimp only
     exact ⟨by omega, by omega, by rw [lkF_step hI2.1 (by omega), ← hI2.2.2]⟩
   try dsimp only
   omega
 have e0 : takeR M who (avF lo hi) l = ((X, 0) : List (Str × Str) × Int) := by
  first | (rw [takeR, if_pos (by omega)]; done) | (rw [takeR, if_neg (by omega), if_neg (not_not_intro hf0), hI2.2.2, take_full (by omega)]; done) | (have he : takeE M who (avF lo hi) (ordL l) = (ownR M (gI (ordL l) i)).2.2 := (by rw [hI.2.2, takeE_drop hI.1 h2, if_pos (by omega)]); rw [takeR, if_neg (by omega), if_pos (by rw [he]; omega), he]; done) | (have he : takeE M who (avF lo hi) (ordL l) = 14 := (by rw [hI.2.2, takeE_drop hI.1 h2, if_neg (by have := ownR_nn M (gI (ordL l) i); omega), if_pos (by simpa using h4)]); rw [takeR, if_neg (by omega), if_pos (by rw [he]; decide), he])
 rw [e0] at hK
 exact rt rfl fun _ => hK
set_option maxHeartbeats 1000000 in
theorem u_SameTexts (a b : List Str)  (m : AMem)  (K : AV → AMem → Prop) (hK : K (.bool (decide (a = b))) m) : ACalls Tryd.prog 19 [.slice false (a.map strAV), .slice false (b.map strAV)] m K := by
 refine enter (c := cf [] [0] [] [] [] []) (vs := [.av (.slice false (a.map strAV)), .av (.slice false (b.map strAV))]) (L := []) (m := m) false tbOk Tryd.mixed Tryd.func19 rfl (k := 2) (by show fnOk [] _ _ _ = true; decide +kernel) rfl (Good.nil m) ?_
 refine ⟨fun F0 => ?_⟩
 have hbd0_0 : a.length ≤ 140737488355328 := bd_map (o := false) (F0 0).1
 have hbd1_0 : b.length ≤ 140737488355328 := bd_map (o := false) (F0 1).1
 refine sq ?_
 refine ln ?_
 refine ln ?_
 refine an (fun h1 => ?_) (fun h1 => ?_)
 · refine sq ?_
   refine lp (σ := Int) [] [0, 1, 5] 0 (fun i => ([(0, vL (a.map strAV)), (1, vL (b.map strAV)), (5, vI i)], [], m)) (fun i => 0 ≤ i ∧ i ≤ a.length ∧ a.take i.toNat = b.take i.toNat) (fun i => a.length - i.toNat) (0) ⟨rfl, rfl⟩ ?_ ?_
   · try dsimp only
     exact ⟨by omega, by omega, rfl⟩
   rintro i hI
   refine sq ?_
   refine ln ?_
   refine an (fun h2 => ?_) (fun h2 => ?_)
   · refine sq ?_
     refine ix (by omega) ?_
     refine ix (by omega) ?_
     refine an (fun h3 => ?_) (fun h3 => ?_)
     · refine an (by omega) ?_
       refine ⟨(i + 1), ⟨rfl, rfl⟩, ?_, ?_⟩
       · try dsimp only
         exact ⟨by omega, by omega, by rw [take_succ_gI hI.1 h2, take_succ_gI hI.1 (by omega), hI.2.2, h3]⟩
       try dsimp only
       omega
     refine rt0 rfl fun _ => ?_
     show K (.bool false) m
     rw [decide_eq_false (by intro hh; subst hh; exact h3 rfl)] at hK; exact hK
   refine rt0 rfl fun _ => ?_
   show K (.bool true) m
   rw [decide_eq_true (by have := hI.2.2; rwa [take_full (by omega), take_full (by omega)] at this)] at hK; exact hK
 refine rt0 rfl fun _ => ?_
 show K (.bool false) m
 rw [decide_eq_false (by intro hh; subst hh; exact h1 rfl)] at hK; exact hK
theorem ordL_one (x : Str) : ordL [x] = [x] :=
  (set_ord (l := [x]) (s := [x]) ⟨List.pairwise_singleton .., fun _ => Iff.rfl⟩).symm
theorem sortL_ord {l : List Str} (h : l.Nodup) : sortL l = ordL l := by
  refine set_ord ⟨?_, fun x => (sortL_perm l).mem_iff⟩
  have h2 : (sortL l).Nodup := (sortL_perm l).nodup_iff.2 h
  refine List.Pairwise.imp ?_ ((sortL_srt l).and h2)
  rintro a b ⟨h1, h3⟩
  exact lt_tri (fun h => h1 h) (Ne.symm h3)
theorem lightF_names {size : Int} : ∀ {l : List ActT} {n : Int}, lightF size l n = true → ∀ a ∈ l, a.names.length ≤ 12
  | [], _, _, a, ha => by cases ha
  | x :: r, n, h, a, ha => by
    rw [lightF] at h
    split at h
    · cases h
    · rename_i c
      rcases List.mem_cons.1 ha with rfl | ha
      · omega
      · exact lightF_names h a ha
theorem lightA_names {size most : Int} {l : List ActT} (h : lightA l most size = true) : ∀ a ∈ l, a.names.length ≤ 12 := by
  unfold lightA at h
  split at h
  · cases h
  · exact lightF_names h
theorem own_new {n : Str} {w : Int} (hn : nameV n = true) (h0 : 0 ≤ w) (h3 : w ≤ 3) : ownR [(n, Lib.itoa w)] n = (w, true, 0) := by
  have e : mget [(n, Lib.itoa w)] n = some (Lib.itoa w) := by simp [mget]
  rw [ownR, if_neg (by rw [hn]; simp), e, if_neg (by simp)]
  exact ownT_hit h0 (by omega) rfl
theorem take_one {n : Str} {w : Int} {av : Int → Bool} (hn : nameV n = true) (h0 : 0 ≤ w) (h3 : w ≤ 3) : takeR [] w av [n] = ([(n, Lib.itoa w)], 0) := by
  have e : ownR [] n = (0, false, 0) := by rw [ownR, if_neg (by rw [hn]; simp), if_pos (show (mget [] n).isSome = false from rfl)]
  have q : takeE [] w av [n] = 0 := by rw [takeE, e, if_neg (by simp), if_neg (by simp)]; rfl
  rw [takeR, if_neg (by omega), ordL_one, q, if_neg (by simp)]; rfl
theorem takeR_len (M : List (Str × Str)) (who : Int) (av : Int → Bool) (l : List Str) : (takeR M who av l).1.length ≤ M.length + l.length := by
  unfold takeR
  split
  · simp
  · split
    · simp
    · have h1 := lkF_len who (ordL l) M
      have h2 := ordL_len l
      show (lkF who M (ordL l)).length ≤ _
      omega
theorem unlF_len (who : Int) : ∀ (l : List Str) (M : List (Str × Str)), (unlF who M l).length ≤ M.length
  | [], _ => Nat.le_refl _
  | n :: r, M => by
    have h1 := unlF_len who r (if (mget M n).getD [] = Lib.itoa who then mdel M n else M)
    have h2 := (mdel_sub M n).length_le
    rw [unlF]
    split at h1 <;> rename_i c
    · rw [if_pos c]; omega
    · rw [if_neg c]; exact h1
theorem unlR_len (M : List (Str × Str)) (who : Int) (l : List Str) : (unlR M who l).1.length ≤ M.length := by
  unfold unlR
  split
  · exact Nat.le_refl _
  · split
    · exact Nat.le_refl _
    · exact unlF_len who l M
abbrev d0 : DSt := ⟨[], [], [], -1, false, 0⟩
theorem dObj3 {bs : List Nat} {n : Nat} (d nb kb : Nat) (h : bs.length = n) : Go.Sx.denO (bs ++ [kb] ++ [nb] ++ [d]) (.cells [.mp n, .mp (n + 1), .own ([].map chgAV), vI (-1), vB false, vI 0]) = dObj kb nb d0 := by
  have hg := get3 (x := kb) (y := nb) (z := d) h
  simp only [Go.Sx.denO, Go.Sx.denL, Go.Sx.den, hg.1, hg.2.1]
  rfl
theorem u_same_eq (x : Int) (hx : 0 ≤ x) (m : AMem) (K : AV → AMem → Prop) (hK : K (.bool true) m) : ACalls Tryd.prog 9 [.err 60 x, .int .i64 x] m K :=
  u_same x x hx m K (by rw [show ((x : Int) == x) = true from by simp]; exact hK)
theorem u_SameTexts_eq (xs ys : List Str) (h : xs = ys) (m : AMem) (K : AV → AMem → Prop) (hK : K (.bool true) m) : ACalls Tryd.prog 19 [.slice false (xs.map strAV), .slice false (ys.map strAV)] m K := u_SameTexts xs ys m K (by rw [decide_eq_true h]; exact hK)
end Go.Proofs
end
