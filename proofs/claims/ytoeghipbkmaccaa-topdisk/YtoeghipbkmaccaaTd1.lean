import Derived.Test.YtoeghipbkmaccaaProg
import Derived.Test.YtoeghipbkmaccaaWl2
import Derived.Test.YtoeghipbkmaccaaDk8
namespace Go.Proofs
open Go Go.Aw
set_option maxRecDepth 100000

def sixteenL : List UInt8 := [48, 49, 50, 51, 52, 53, 54, 55, 56, 57, 97, 98, 99, 100, 101, 102]

def hexD (n : Nat) : UInt8 := sixteenL.getD n 0
def escB (c : UInt8) : List UInt8 := if c.toNat = 34 ∨ c.toNat = 92 then [92, c] else if c.toNat < 32 ∨ 126 < c.toNat then [92, 120, hexD (c.toNat / 16), hexD (c.toNat % 16)] else [c]
def quoteS (s : List UInt8) : List UInt8 := 34 :: s.flatMap escB ++ [34]
theorem byte_all {p : UInt8 → Bool} (h : ∀ n : Fin 256, p (UInt8.ofNat n.1) = true) (c : UInt8) : p c = true := by
  have := h ⟨c.toNat, c.toNat_lt⟩
  simpa using this
theorem shr_four (c : UInt8) : Int.fdiv (c.toNat : Int) (2 ^ (min (Int.toNat 4) IntKind.u8.bits)) = ((c.toNat / 16 : Nat) : Int) := by
  have h := byte_all (p := fun c => decide (Int.fdiv (c.toNat : Int) (2 ^ (min (Int.toNat 4) IntKind.u8.bits)) = ((c.toNat / 16 : Nat) : Int))) (by decide +kernel) c
  simpa using h
theorem and_low (c : UInt8) : IntKind.u8.wrap (BitVec.ofInt IntKind.u8.bits (c.toNat : Int) &&& BitVec.ofInt IntKind.u8.bits 15).toNat = ((c.toNat % 16 : Nat) : Int) := by
  have h := byte_all (p := fun c => decide (IntKind.u8.wrap (BitVec.ofInt IntKind.u8.bits (c.toNat : Int) &&& BitVec.ofInt IntKind.u8.bits 15).toNat = ((c.toNat % 16 : Nat) : Int))) (by decide +kernel) c
  simpa using h
theorem escB_len (c : UInt8) : (escB c).length ≤ 4 := by unfold escB; split <;> (try split) <;> simp
theorem esc_len (s : List UInt8) : (s.flatMap escB).length ≤ 4 * s.length := by
  induction s with
  | nil => simp
  | cons c s ih => have := escB_len c; rw [List.flatMap_cons, List.length_append, List.length_cons]; omega
theorem take_succ_gI' {α : Type} [Inhabited α] {l : List α} {i : Int} (h0 : 0 ≤ i) (hi : i < l.length) : l.take (i + 1).toNat = l.take i.toNat ++ [gI l i] := by
  have e : (i + 1).toNat = i.toNat + 1 := by omega
  have hn : i.toNat < l.length := by omega
  rw [e, List.take_succ_eq_append_getElem hn]
  simp [gI, List.getD_eq_getElem?_getD, hn]
theorem esc_step {s : List UInt8} {i : Int} {b : List UInt8} (h0 : 0 ≤ i) (hi : i < s.length) (hb : b = 34 :: (s.take i.toNat).flatMap escB) : b ++ escB (gI s i) = 34 :: (s.take (i + 1).toNat).flatMap escB := by
  rw [take_succ_gI' h0 hi, List.flatMap_append, hb]; simp
theorem quoteS_len (s : List UInt8) : (quoteS s).length ≤ 4 * s.length + 2 := by
  have := esc_len s
  unfold quoteS; simp only [List.length_cons, List.length_append, List.length_nil]; omega
def ftxt (now : List (Str × Str)) (ns : List Str) : Str := ns.flatMap fun n => n ++ quoteS ((mget now n).getD []) ++ [47]
def filesT (now : List (Str × Str)) : Str := ftxt now (sortL (now.map Prod.fst))
theorem filesT_congr {a b : List (Str × Str)} (ha : (a.map Prod.fst).Nodup) (hb : (b.map Prod.fst).Nodup) (h : ∀ k, mget a k = mget b k) : filesT a = filesT b := by
  have hk : (a.map Prod.fst).Perm (b.map Prod.fst) := by
    refine (List.perm_ext_iff_of_nodup ha hb).2 fun k => ?_
    have h1 := mget_none (l := a) (k := k)
    have h2 := mget_none (l := b) (k := k)
    rw [h] at h1
    have := h1.symm.trans h2
    exact ⟨fun h => Classical.byContradiction fun c => this.2 c h, fun h => Classical.byContradiction fun c => this.1 c h⟩
  unfold filesT ftxt
  rw [sortL_of_perm hk]
  simp only [h]
theorem ftxt_step {now : List (Str × Str)} {ns : List Str} {i : Int} (h0 : 0 ≤ i) (hi : i < ns.length) : ftxt now (ns.take (i + 1).toNat) = ((ftxt now (ns.take i.toNat) ++ gI ns i) ++ quoteS ((mget now (gI ns i)).getD [])) ++ [47] := by
  rw [take_succ_gI h0 hi]; unfold ftxt; rw [List.flatMap_append]; simp
theorem ftxt_len {now : List (Str × Str)} {V : Nat} (hv : ∀ p ∈ now, p.2.length ≤ V) : ∀ (ns : List Str), (∀ n ∈ ns, n.length ≤ 24) → (ftxt now ns).length ≤ ns.length * (4 * V + 27) := by
  intro ns
  induction ns with
  | nil => intro _; simp [ftxt]
  | cons n ns ih =>
    intro h
    have h1 := ih (fun n hn => h n (by simp [hn]))
    have h2 := h n (by simp)
    have h3 := quoteS_len ((mget now n).getD [])
    have h4 := mget_le (k := n) hv
    have e : ftxt now (n :: ns) = (n ++ quoteS ((mget now n).getD []) ++ [47]) ++ ftxt now ns := by simp [ftxt]
    rw [e]
    have e2 : (n :: ns).length * (4 * V + 27) = ns.length * (4 * V + 27) + (4 * V + 27) := by rw [List.length_cons, Nat.add_mul, Nat.one_mul]
    rw [e2]
    simp only [List.length_append, List.length_cons, List.length_nil]
    omega
def NmL (l : List (Str × Str)) : Prop := ∀ p ∈ l, nameF p.1 = true
theorem nameF_len {n : Str} (h : nameF n = true) : n.length ≤ 24 := by
  unfold nameF at h
  simp only [Bool.and_eq_true, decide_eq_true_eq] at h
  omega
def NmC (c : Chg) : Prop := nameF c.name = true ∧ (c.kind = 4 → nameF c.to = true)
theorem NmL.app {l : List (Str × Str)} (h : NmL l) {c : Chg} (hc : NmC c) : NmL (applyC l c) := by
  intro p hp
  unfold applyC at hp
  split at hp
  · rcases mput_mem hp with hp | rfl
    · exact h p hp
    · exact hc.1
  · split at hp
    · rcases mput_mem hp with hp | rfl
      · exact h p hp
      · exact hc.1
    · split at hp
      · rename_i h4
        rcases mput_mem (mdel_mem hp) with hp | rfl
        · exact h p hp
        · exact hc.2 h4
      · split at hp
        · exact h p (mdel_mem hp)
        · exact h p hp
theorem NmL.appL {cs : List Chg} (hc : ∀ c ∈ cs, NmC c) : ∀ {l : List (Str × Str)}, NmL l → NmL (applyL l cs) := by
  induction cs with
  | nil => intro l h; exact h
  | cons c cs ih => intro l h; exact ih (fun c hc' => hc c (by simp [hc'])) (h.app (hc c (by simp)))
def actR (s : DSt) (a : ActT) : DSt × Int :=
  if a.kind = ([119, 114, 105, 116, 101] : List UInt8) then writeR s a.s a.t else if a.kind = ([97, 112, 112, 101, 110, 100] : List UInt8) then appR s a.s a.t else if a.kind = ([109, 97, 107, 101] : List UInt8) then makeR s a.s a.t
  else if a.kind = ([109, 111, 118, 101] : List UInt8) then moveR s a.s a.t else if a.kind = ([114, 101, 109, 111, 118, 101] : List UInt8) then remR s a.s else if a.kind = ([115, 121, 110, 99] : List UInt8) then syncF s else (s, 0)
def chgB (k : Str) : Bool := (k == ([119, 114, 105, 116, 101] : List UInt8)) || ((k == ([97, 112, 112, 101, 110, 100] : List UInt8)) || ((k == ([109, 97, 107, 101] : List UInt8)) || ((k == ([109, 111, 118, 101] : List UInt8)) || (k == ([114, 101, 109, 111, 118, 101] : List UInt8)))))
/-- What is known of a disk that nobody arms. -/
structure TI (s : DSt) (N : Nat) : Prop where
  two : ∃ r, Two s r N
  ok : Okd s
  nk : NmL s.kept
  nn : NmL s.now
  nw : ∀ c ∈ s.wait, NmC c
theorem TI.inv {s : DSt} {N : Nat} (h : TI s N) : DInv N s := h.two.elim fun _ h => h.inv
theorem TI.mono {s : DSt} {N M : Nat} (h : TI s N) (hm : N ≤ M) : TI s M := ⟨h.two.elim fun r h => ⟨r, h.mono hm⟩, h.ok, h.nk, h.nn, h.nw⟩
theorem TI.step {s : DSt} {N : Nat} (h : TI s N) : TI (stepF s).1 (N + 1) := by
  have k := stepF_keep s
  exact ⟨h.two.elim fun r h => ⟨r, h.of_step⟩, (stepF_ok h.ok).2, by rw [k.1]; exact h.nk, by rw [k.2.1]; exact h.nn, by rw [k.2.2.1]; exact h.nw⟩
theorem doF_eq {s : DSt} {c : Chg} (h : Okd s) : (doF s c).2 = 0 ∧ (doF s c).1.kept = s.kept ∧ (doF s c).1.wait = s.wait ++ [c] ∧ (doF s c).1.now = applyC s.now c := by
  have k := stepF_keep s
  have h0 := (stepF_ok h).1
  unfold doF; rw [if_neg (by simp [h0])]
  exact ⟨rfl, k.1, rfl, rfl⟩
theorem TI.doo {s : DSt} {N : Nat} (h : TI s N) {c : Chg} (hc : OkC c) (hn : NmC c) (hd : c.data.length ≤ 4000) : TI (doF s c).1 (N + 1) := by
  have e := doF_eq (c := c) h.ok
  refine ⟨h.two.elim fun r h => ⟨_, (h.doo hc hd).t⟩, (doF_ok h.ok).2.1, by rw [e.2.1]; exact h.nk, by rw [e.2.2.2]; exact h.nn.app hn, by rw [e.2.2.1]; intro c' hc'; rcases List.mem_append.1 hc' with hc' | hc'; exact h.nw c' hc'; simp at hc'; subst hc'; exact hn⟩
/-- What an act comes to: it changes nothing that is kept or waits; or one thing more waits. -/
def ActE (s : DSt) (p : DSt × Int) (ch : Prop) : Prop := (p.1.kept = s.kept ∧ p.1.wait = s.wait ∧ ¬ (p.2 = 0 ∧ ch)) ∨ (∃ c, p.1.kept = s.kept ∧ p.1.wait = s.wait ++ [c] ∧ p.2 = 0 ∧ ch)
theorem mayR_name {s : DSt} {n : Str} {z : Int} (h : mayR s n z = 0) : nameF n = true := by
  unfold mayR at h
  split at h
  · cases h
  · rename_i c; simpa using c
theorem TI.refuse {s : DSt} {N : Nat} (h : TI s N) {e : Int} (he : e ≠ 0) (ch : Prop) : TI (s, e).1 (N + 1) ∧ ActE s (s, e) ch := ⟨h.mono (Nat.le_succ _), .inl ⟨rfl, rfl, fun c => he c.1⟩⟩
theorem TI.didd {s : DSt} {N : Nat} (h : TI s N) {c : Chg} (hc : OkC c) (hn : NmC c) (hd : c.data.length ≤ 4000) {ch : Prop} (hch : ch) : TI (doF s c).1 (N + 1) ∧ ActE s (doF s c) ch :=
  ⟨h.doo hc hn hd, .inr ⟨c, (doF_eq h.ok).2.1, (doF_eq h.ok).2.2.1, (doF_eq h.ok).1, hch⟩⟩
theorem TI.write {s : DSt} {N : Nat} (h : TI s N) (n x : Str) {ch : Prop} (hch : ch) : TI (writeR s n x).1 (N + 1) ∧ ActE s (writeR s n x) ch := by
  unfold writeR
  split
  · rename_i e; exact h.refuse e ch
  · rename_i e; rw [Classical.not_not] at e
    have := mayR_size e
    exact h.didd ⟨by simp, by simp, by simp⟩ ⟨mayR_name e, by simp⟩ (by show x.length ≤ 4000; omega) hch
theorem TI.append {s : DSt} {N : Nat} (h : TI s N) (n x : Str) {ch : Prop} (hch : ch) : TI (appR s n x).1 (N + 1) ∧ ActE s (appR s n x) ch := by
  unfold appR
  split
  · exact h.refuse (by decide) ch
  · split
    · rename_i e; exact h.refuse e ch
    · rename_i e; rw [Classical.not_not] at e
      exact h.didd ⟨by simp, by simp, by simp⟩ ⟨mayR_name e, by simp⟩ (by show x.length ≤ 4000; omega) hch
theorem TI.make {s : DSt} {N : Nat} (h : TI s N) (n x : Str) {ch : Prop} (hch : ch) : TI (makeR s n x).1 (N + 1) ∧ ActE s (makeR s n x) ch := by
  unfold makeR
  split
  · rename_i e; exact h.refuse e ch
  · rename_i e; rw [Classical.not_not] at e
    have := mayR_size e
    split
    · exact h.refuse (by decide) ch
    · exact h.didd ⟨by simp, by simp, by simp⟩ ⟨mayR_name e, by simp⟩ (by show x.length ≤ 4000; omega) hch
theorem TI.move {s : DSt} {N : Nat} (h : TI s N) (n t : Str) {ch : Prop} (hch : ch ↔ n ≠ t) : TI (moveR s n t).1 (N + 1) ∧ ActE s (moveR s n t) ch := by
  unfold moveR
  split
  · exact h.refuse (by decide) ch
  · rename_i hn
    split
    · exact h.refuse (by decide) ch
    · split
      · rename_i e
        exact ⟨h.step, .inl ⟨(stepF_keep s).1, (stepF_keep s).2.2.1, fun c => hch.1 c.2 e⟩⟩
      · rename_i e
        refine h.didd ⟨by simp, by simp, fun _ => e⟩ ⟨?_, fun _ => ?_⟩ (by simp) (hch.2 e)
        · cases q : nameF n
          · exact absurd (.inl q) hn
          · rfl
        · cases q : nameF t
          · exact absurd (.inr q) hn
          · rfl
theorem TI.remove {s : DSt} {N : Nat} (h : TI s N) (n : Str) {ch : Prop} (hch : ch) : TI (remR s n).1 (N + 1) ∧ ActE s (remR s n) ch := by
  unfold remR
  split
  · exact h.refuse (by decide) ch
  · rename_i e
    have hm : nameF n = true := by
      cases q : mget s.now n with
      | none => rw [q] at e; exact absurd rfl e
      | some v => exact h.nn _ (mget_mem q)
    exact h.didd ⟨by simp, by simp, by simp⟩ ⟨hm, by simp⟩ (by simp) hch
theorem TI.sync {s : DSt} {N : Nat} (h : TI s N) : TI (syncF s).1 (N + 1) ∧ (syncF s).2 = 0 ∧ (syncF s).1.wait = [] := by
  have k := stepF_keep s
  have h0 := (stepF_ok h.ok)
  have g := syncF_ok h.ok
  have ht : ∃ r, Two (syncF s).1 r (N + 1) := h.two.elim fun r h => ⟨_, h.sync.t⟩
  unfold syncF at *
  rw [if_neg (by simp [h0.1])] at *
  exact ⟨⟨ht, g.2.1, h.nk.appL h.nw, by show NmL (stepF s).1.now; rw [k.2.1]; exact h.nn, fun c hc => by cases hc⟩, rfl, rfl⟩
theorem TI.act {s : DSt} {N : Nat} (h : TI s N) (a : ActT) : TI (actR s a).1 (N + 1) := by
  unfold actR
  split
  · exact (h.write _ _ trivial).1
  · split
    · exact (h.append _ _ trivial).1
    · split
      · exact (h.make _ _ trivial).1
      · split
        · exact (h.move a.s a.t Iff.rfl).1
        · split
          · exact (h.remove _ trivial).1
          · split
            · exact h.sync.1
            · exact h.mono (Nat.le_succ _)
/-- What is told of an act that is no sync. -/
def Chs (a : ActT) : Prop := (a.kind ≠ ([109, 111, 118, 101] : List UInt8) ∨ a.s ≠ a.t) ∧ chgB a.kind = true
theorem TI.actE {s : DSt} {N : Nat} (h : TI s N) {a : ActT} (hs : a.kind ≠ ([115, 121, 110, 99] : List UInt8)) : ActE s (actR s a) (Chs a) := by
  have ch : ∀ k : Str, a.kind = k → k ≠ ([109, 111, 118, 101] : List UInt8) → chgB k = true → Chs a := fun k e h1 h2 => ⟨.inl (e ▸ h1), by rw [e]; exact h2⟩
  unfold actR
  split
  · rename_i e; exact (h.write _ _ (ch _ e (by decide) (by decide))).2
  · split
    · rename_i e; exact (h.append _ _ (ch _ e (by decide) (by decide))).2
    · split
      · rename_i e; exact (h.make _ _ (ch _ e (by decide) (by decide))).2
      · split
        · rename_i e
          exact (h.move a.s a.t ⟨fun c => c.1.elim (fun q => absurd e q) id, fun q => ⟨.inr q, by rw [e]; decide⟩⟩).2
        · split
          · rename_i e; exact (h.remove _ (ch _ e (by decide) (by decide))).2
          · rename_i n1 n2 n3 n4 n5
            first | rw [if_neg hs] | skip
            refine .inl ⟨rfl, rfl, fun c => ?_⟩
            have := c.2.2
            simp [chgB, n1, n2, n3, n4, n5] at this
/-- The texts that the law has gathered. -/
structure TL (s : DSt) (was : List Str) (N : Nat) : Prop where
  ti : TI s N
  len : was.length = s.wait.length + 1
  at_ : ∀ k, k ≤ s.wait.length → was.getD k [] = filesT (applyL s.kept (s.wait.take k))
theorem TI.filesA {s : DSt} {N : Nat} (h : TI s N) : filesT (applyL s.kept s.wait) = filesT s.now := by
  obtain ⟨r, h⟩ := h.two
  exact filesT_congr (applyL_nd h.k.nd) h.n.nd h.ap
theorem TL.start {s : DSt} {N : Nat} (h : TI s N) (hw : s.wait = []) : TL s [filesT s.now] N := by
  refine ⟨h, by rw [hw]; rfl, fun k hk => ?_⟩
  have e := h.filesA
  rw [hw] at hk e ⊢
  have : k = 0 := by simpa using hk
  subst this
  exact e.symm
theorem TL.skip {s : DSt} {was : List Str} {N : Nat} (h : TL s was N) {a : ActT} (hs : a.kind ≠ ([115, 121, 110, 99] : List UInt8)) (hn : ¬ ((actR s a).2 = 0 ∧ Chs a)) : TL (actR s a).1 was (N + 1) := by
  have t := h.ti.act a
  rcases h.ti.actE hs with ⟨h1, h2, _⟩ | ⟨c, _, _, h3, h4⟩
  · exact ⟨t, by rw [h2]; exact h.len, by rw [h1, h2]; exact h.at_⟩
  · exact absurd ⟨h3, h4⟩ hn
theorem TL.app {s : DSt} {was : List Str} {N : Nat} (h : TL s was N) {a : ActT} (hs : a.kind ≠ ([115, 121, 110, 99] : List UInt8)) (hn : (actR s a).2 = 0 ∧ Chs a) : TL (actR s a).1 (was ++ [filesT (actR s a).1.now]) (N + 1) := by
  have t := h.ti.act a
  rcases h.ti.actE hs with ⟨_, _, h3⟩ | ⟨c, h1, h2, _, _⟩
  · exact absurd hn h3
  · have e := t.filesA
    refine ⟨t, by rw [h2]; simp [h.len], fun k hk => ?_⟩
    rw [h2] at hk
    simp only [List.length_append, List.length_cons, List.length_nil] at hk
    by_cases hk2 : k ≤ s.wait.length
    · rw [h1, h2, List.take_append_of_le_length hk2, ← h.at_ k hk2]
      have : k < was.length := by have := h.len; omega
      simp [List.getD_eq_getElem?_getD, List.getElem?_append_left this]
    · have hkk : k = was.length := by have := h.len; omega
      have : (actR s a).1.wait.take k = (actR s a).1.wait := List.take_of_length_le (by rw [h2]; simp; omega)
      rw [this, e, hkk]
      simp [List.getD_eq_getElem?_getD]
theorem clampI_zero (n : Nat) : clampI 0 n = 0 := by unfold clampI; (repeat' split) <;> omega
theorem TL.fin {s : DSt} {was : List Str} {N : Nat} (h : TL s was N) (keep : Int) {nw : List (Str × Str)} (hp : nw.Perm (restR s keep 0)) : filesT nw = gI was (clampI keep s.wait.length) ∧ NmL nw ∧ DInv (N + 1) (restS s keep 0 nw) := by
  have hc := clampI_b keep s.wait.length
  obtain ⟨r, tw⟩ := h.ti.two
  have hr : restR s keep 0 = applyL s.kept (s.wait.take (clampI keep s.wait.length).toNat) := by
    have ht : tornOf s keep 0 = 0 := clampI_zero _
    unfold restR restK
    rw [ht, if_neg]
    rintro ⟨_, _, c⟩
    exact c (by simp [sub])
  have hnd : ((restR s keep 0).map Prod.fst).Nodup := by rw [hr]; exact applyL_nd tw.k.nd
  refine ⟨?_, fun p hq => ?_, restS_inv h.ti.inv hp⟩
  · rw [filesT_congr (((hp.map Prod.fst).nodup_iff).2 hnd) hnd (mget_perm hp hnd), hr, ← h.at_ _ (by omega)]; rfl
  · have := hp.mem_iff.1 hq
    rw [hr] at this
    exact (h.ti.nk.appL (fun c hc => h.ti.nw c (List.mem_of_mem_take hc))) p this
theorem readR_nd {s : DSt} (h : s.down = false) (n : Str) : (readR s n).1 = (mget s.now n).getD [] := by
  unfold readR
  rw [if_neg (by simp [h])]
  split
  · rename_i e
    rw [Option.isSome_eq_false_iff, Option.isNone_iff_eq_none] at e
    rw [e]; rfl
  · rfl
theorem u_ReadF (d kb nb : Nat) (s : DSt) (n : Str) (h : s.down = false) (hN : [d, nb].Nodup) (m : AMem) (K : AV → AMem → Prop) (hK : K (.tuple [.str ((mget s.now n).getD []), .err 108 (readR s n).2]) (AMem.wth m [(d, dObj kb nb s), (nb, mObj s.now)])) :
    ACalls Try.prog 16 [.ptr ⟨d, 0, none⟩, .str n] (AMem.wth m [(d, dObj kb nb s), (nb, mObj s.now)]) K :=
  u_Read d kb nb s n hN m K (by rw [readR_nd h]; exact hK)
theorem list_keys {s : DSt} (h : s.down = false) : (listR s).1 = sortL (s.now.map Prod.fst) := by unfold listR; rw [if_neg (by simp [h])]
theorem list_small {s : DSt} (h : s.down = false) (hn : NmL s.now) : ∀ n ∈ (listR s).1, n.length ≤ 24 := by
  intro n hm
  rw [list_keys h, (sortL_perm _).mem_iff] at hm
  obtain ⟨p, hp, rfl⟩ := List.mem_map.1 hm
  exact nameF_len (hn p hp)

set_option maxHeartbeats 2000000 in
theorem u_Quote (s : List UInt8) (hs : s.length ≤ 16777216) (m : AMem)  (K : AV → AMem → Prop) (hK : K (.str (quoteS s)) m) : ACalls Try.prog 89 [.str s] m K := by
 refine acalls_enter Try.func89 rfl (by decide) (Nat.le_of_ble_eq_true rfl) ?_
 show AWP _ _ _ _ [(0, .str s)] m
 refine awp_reg2_seq [] [0] (by decide) ?_
 intro K1 hK1
 refine ⟨trivial, ?_⟩
 show K1 [(0, .str s)] m
 refine hK1 _ _ ?_; clear hK1 K1
 refine awp_reg2_seq [] [0, 3] (by decide) ?_
 intro K1 hK1
 refine ⟨⟨rfl, Nat.le_of_ble_eq_true rfl, rfl, Nat.le_of_ble_eq_true rfl, rfl, by simp only [List.forall_mem_cons]; exact ⟨⟨rfl, rfl⟩, fun _ h => by cases h⟩⟩, trivial, ?_⟩
 show K1 [(0, .str s), (3, .slice true [.int .u8 34])] m
 refine hK1 _ _ ?_; clear hK1 K1
 refine awp_seq_k ?_; intro K2 hK2
 refine awp_reg2_seq [] [0, 3, 8, 9] (by decide) ?_
 intro K1 hK1
 refine ⟨trivial, trivial, trivial, ?_⟩
 show K1 [(0, .str s), (3, .slice true [.int .u8 34]), (8, .int .i64 (s.length : Int)), (9, .int .i64 0)] m
 refine hK1 _ _ ?_; clear hK1 K1
 refine awp_block ?_
 refine awp_keep [0, 3, 8, 9] (by decide) ?_
 refine awp_loop_st (σ := (List UInt8) × Int) (fun ⟨b, i⟩ => [(0, .str s), (3, .slice true (b.map byteAV)), (8, .int .i64 (s.length : Int)), (9, .int .i64 i)]) (fun _ => m) (fun ⟨b, i⟩ => 0 ≤ i ∧ i ≤ s.length ∧ b = 34 :: (s.take i.toNat).flatMap escB) (fun ⟨b, i⟩ => s.length - i.toNat) ([34], 0) rfl rfl ?_ ?_
 ·
  show 0 ≤ ((0 : Int)) ∧ ((0 : Int)) ≤ s.length ∧ (([34] : (List UInt8))) = 34 :: (s.take ((0 : Int)).toNat).flatMap escB
  exact ⟨by omega, by omega, rfl⟩
 rintro ⟨b, i⟩ hI
 replace hI : 0 ≤ i ∧ i ≤ s.length ∧ b = 34 :: (s.take i.toNat).flatMap escB := hI
 have hbl : b.length ≤ 1 + 4 * s.length := by
  have h1 := esc_len (s.take i.toNat)
  have h2 : (s.take i.toNat).length ≤ s.length := by rw [List.length_take]; omega
  rw [hI.2.2, List.length_cons]; omega
 have hq1 := shr_four (gI s i)
 have hq2 := and_low (gI s i)
 have hq3 := (gI s i).toNat_lt
 show AWP _ _ _ _ [(0, .str s), (3, .slice true (b.map byteAV)), (8, .int .i64 (s.length : Int)), (9, .int .i64 i)] m
 refine awp_reg2_seq [] [0, 3, 8, 9, 10] (by decide) ?_
 intro K1 hK1
 refine ⟨trivial, ?_⟩
 show K1 [(0, .str s), (3, .slice true (b.map byteAV)), (8, .int .i64 (s.length : Int)), (9, .int .i64 i), (10, .bool (decide (i < (s.length : Int))))] m
 refine hK1 _ _ ?_; clear hK1 K1
 refine awp_seq_k ?_; intro K3 hK3
 refine awp_cond rfl rfl (fun h1 => ?_) (fun h1 => ?_)
 ·
  replace h1 : i < (s.length : Int) := (of_decide_eq_true h1)
  refine awp_skip ?_
  refine hK3 _ _ ?_; clear hK3
  refine awp_seq_k ?_; intro K4 hK4
  refine awp_block ?_
  refine awp_reg2_seq [] [0, 3, 4, 8, 9] (by decide) ?_
  intro K1 hK1
  refine ⟨trivial, trivial, ?_⟩
  show K1 [(0, .str s), (3, .slice true (b.map byteAV)), (4, .int .i64 i), (8, .int .i64 (s.length : Int)), (9, .int .i64 i)] m
  refine hK1 _ _ ?_; clear hK1 K1
  refine awp_reg2_seq [] [0, 3, 5, 8, 9] (by decide) ?_
  intro K1 hK1
  refine ⟨trivial, trivial, ⟨(by omega), (by first | omega | (show _ < (16 : Int); omega))⟩, trivial, ?_⟩
  show K1 [(0, .str s), (3, .slice true (b.map byteAV)), (5, .int .u8 ((gI s i).toNat)), (8, .int .i64 (s.length : Int)), (9, .int .i64 i)] m
  refine hK1 _ _ ?_; clear hK1 K1
  refine awp_block ?_
  refine awp_reg2_seq [] [0, 3, 5, 8, 9, 19] (by decide) ?_
  intro K1 hK1
  suffices key : K1 [(0, .str s), (3, .slice true (b.map byteAV)), (5, .int .u8 ((gI s i).toNat)), (8, .int .i64 (s.length : Int)), (9, .int .i64 i), (19, .bool ((((gI s i).toNat : Int) == 34) || (((gI s i).toNat : Int) == 92)))] m by
   refine ⟨trivial, trivial, trivial, ?_⟩
   show aopsR _ _ _ _ _ [(22, .bool (((gI s i).toNat : Int) == 34)), (21, .bool (((gI s i).toNat : Int) == 34)), (20, .int .u8 ((gI s i).toNat)), (0, .str s), (3, .slice true (b.map byteAV)), (5, .int .u8 ((gI s i).toNat)), (8, .int .i64 (s.length : Int)), (9, .int .i64 i)] _
   revert key
   cases h2 : (((gI s i).toNat : Int) == 34)
   ·
    replace h2 : ((gI s i).toNat : Int) ≠ 34 := (ne_of_beq_false h2)
    intro key
    refine ⟨trivial, trivial, ?_⟩
    refine ⟨trivial, ?_⟩
    exact key
   ·
    replace h2 : ((gI s i).toNat : Int) = 34 := (eq_of_beq h2)
    intro key
    refine ar_off rfl (ar_off rfl ?_)
    refine ⟨trivial, ?_⟩
    exact key
  refine hK1 _ _ ?_; clear hK1 K1
  refine awp_cond rfl rfl (fun h3 => ?_) (fun h3 => ?_)
  ·
   replace h3 : (((gI s i).toNat : Int) = 34) ∨ (((gI s i).toNat : Int) = 92) := ((borT h3).imp (fun q => (eq_of_beq q)) (fun q => (eq_of_beq q)))
   refine awp_reg2 [26] [0, 3, 8, 9] (by decide) ?_
   intro K1 hK1
   refine ⟨trivial, trivial, ⟨rfl, Nat.le_of_ble_eq_true rfl, rfl, Nat.le_of_ble_eq_true rfl, rfl, by simp only [List.forall_mem_cons]; exact ⟨⟨rfl, rfl⟩, ⟨rfl, rfl⟩, fun _ h => by cases h⟩⟩, ?_⟩
   refine ar_append rfl byteAV b ([92, gI s i] : List UInt8) rfl rfl rfl rfl rfl rfl (Nat.le_of_ble_eq_true rfl) rfl (by (simp only [show Try.prog.bytesOf 5 = 1 from rfl, List.length_append, List.length_cons, List.length_nil]; omega)) (by (first | omega | (simp only [List.length_append, List.length_cons, List.length_nil]; omega))) (fun _ => ⟨rfl, rfl⟩) ?_
   refine ⟨trivial, ?_⟩
   show K1 [(0, .str s), (3, .slice true ((b ++ ([92, gI s i] : List UInt8)).map byteAV)), (8, .int .i64 (s.length : Int)), (9, .int .i64 i)] m
   refine hK1 _ _ ?_; clear hK1 K1
   refine hK4 _ _ ?_; clear hK4
   refine awp_reg2 [] [0, 3, 8, 9] (by decide) ?_
   intro K1 hK1
   refine ar_add rfl (a := i) (b := 1) rfl rfl (by omega) (by omega) ?_
   refine ⟨trivial, ?_⟩
   show K1 [(0, .str s), (3, .slice true ((b ++ ([92, gI s i] : List UInt8)).map byteAV)), (8, .int .i64 (s.length : Int)), (9, .int .i64 (i + 1))] m
   refine hK1 _ _ ?_; clear hK1 K1
   refine ⟨(b ++ ([92, gI s i] : List UInt8), i + 1), rfl, rfl, ?_, ?_⟩
   ·
    show 0 ≤ ((i + 1 : Int)) ∧ ((i + 1 : Int)) ≤ s.length ∧ ((b ++ ([92, gI s i] : List UInt8) : (List UInt8))) = 34 :: (s.take ((i + 1 : Int)).toNat).flatMap escB
    exact ⟨by omega, by omega, by rw [← esc_step hI.1 h1 hI.2.2]; congr 1; unfold escB; rw [if_pos (by omega)]⟩
   ·
    show s.length - ((i + 1 : Int)).toNat < s.length - i.toNat
    omega
  replace h3 : (((gI s i).toNat : Int) ≠ 34) ∧ (((gI s i).toNat : Int) ≠ 92) := ⟨(ne_of_beq_false (borL h3)), (ne_of_beq_false (borR h3))⟩
  refine awp_reg2_seq [] [0, 3, 5, 8, 9, 30] (by decide) ?_
  intro K1 hK1
  suffices key : K1 [(0, .str s), (3, .slice true (b.map byteAV)), (5, .int .u8 ((gI s i).toNat)), (8, .int .i64 (s.length : Int)), (9, .int .i64 i), (30, .bool ((decide (((gI s i).toNat : Int) < 32)) || (decide (126 < ((gI s i).toNat : Int)))))] m by
   refine ⟨trivial, trivial, trivial, ?_⟩
   show aopsR _ _ _ _ _ [(33, .bool (decide (((gI s i).toNat : Int) < 32))), (32, .bool (decide (((gI s i).toNat : Int) < 32))), (31, .int .u8 ((gI s i).toNat)), (0, .str s), (3, .slice true (b.map byteAV)), (5, .int .u8 ((gI s i).toNat)), (8, .int .i64 (s.length : Int)), (9, .int .i64 i), (19, .bool ((((gI s i).toNat : Int) == 34) || (((gI s i).toNat : Int) == 92)))] _
   revert key
   cases h4 : (decide (((gI s i).toNat : Int) < 32))
   ·
    replace h4 : 32 ≤ ((gI s i).toNat : Int) := (Int.not_lt.1 (of_decide_eq_false h4))
    intro key
    refine ⟨trivial, trivial, ?_⟩
    refine ⟨trivial, ?_⟩
    exact key
   ·
    replace h4 : ((gI s i).toNat : Int) < 32 := (of_decide_eq_true h4)
    intro key
    refine ar_off rfl (ar_off rfl ?_)
    refine ⟨trivial, ?_⟩
    exact key
  refine hK1 _ _ ?_; clear hK1 K1
  refine awp_cond rfl rfl (fun h5 => ?_) (fun h5 => ?_)
  ·
   replace h5 : (((gI s i).toNat : Int) < 32) ∨ (126 < ((gI s i).toNat : Int)) := ((borT h5).imp (fun q => (of_decide_eq_true q)) (fun q => (of_decide_eq_true q)))
   refine awp_anyA Try.mixed [0, 3, 8, 9] (by decide) ?_
   intro K1 hK1
   intro A hA
   suffices key : ∀ (_ : True), K1 [(0, .str s), (3, .slice true ((b ++ ([92, 120, gI ([48, 49, 50, 51, 52, 53, 54, 55, 56, 57, 97, 98, 99, 100, 101, 102] : List UInt8) (Int.fdiv ((gI s i).toNat) (2 ^ (min (Int.toNat 4) IntKind.u8.bits))), gI ([48, 49, 50, 51, 52, 53, 54, 55, 56, 57, 97, 98, 99, 100, 101, 102] : List UInt8) (IntKind.u8.wrap (BitVec.ofInt IntKind.u8.bits ((gI s i).toNat) &&& BitVec.ofInt IntKind.u8.bits 15).toNat)] : List UInt8)).map byteAV)), (8, .int .i64 (s.length : Int)), (9, .int .i64 i)] m by
    have s0 : ∀ (_ : True), A 0 #[true, true, true, true, true, true, true, true, true, true] (fun fr m => K1 (fr.keep [0, 3, 8, 9]) m) [(0, .str s), (3, .slice true ((b ++ ([92, 120, gI ([48, 49, 50, 51, 52, 53, 54, 55, 56, 57, 97, 98, 99, 100, 101, 102] : List UInt8) (Int.fdiv ((gI s i).toNat) (2 ^ (min (Int.toNat 4) IntKind.u8.bits))), gI ([48, 49, 50, 51, 52, 53, 54, 55, 56, 57, 97, 98, 99, 100, 101, 102] : List UInt8) (IntKind.u8.wrap (BitVec.ofInt IntKind.u8.bits ((gI s i).toNat) &&& BitVec.ofInt IntKind.u8.bits 15).toNat)] : List UInt8)).map byteAV)), (8, .int .i64 (s.length : Int)), (9, .int .i64 i)] m := by
     intro _
     subst hA
     exact AAny.done (by decide +kernel) (key trivial)
    have s1 : ∀ (_ : True), A 1 #[true, true, true, true, true, true, true, true, true, false] (fun fr m => K1 (fr.keep [0, 3, 8, 9]) m) [(0, .str s), (3, .slice false (b.map byteAV)), (8, .int .i64 (s.length : Int)), (9, .int .i64 i), (45, .slice true ((b ++ ([92, 120, gI ([48, 49, 50, 51, 52, 53, 54, 55, 56, 57, 97, 98, 99, 100, 101, 102] : List UInt8) (Int.fdiv ((gI s i).toNat) (2 ^ (min (Int.toNat 4) IntKind.u8.bits))), gI ([48, 49, 50, 51, 52, 53, 54, 55, 56, 57, 97, 98, 99, 100, 101, 102] : List UInt8) (IntKind.u8.wrap (BitVec.ofInt IntKind.u8.bits ((gI s i).toNat) &&& BitVec.ofInt IntKind.u8.bits 15).toNat)] : List UInt8)).map byteAV))] m := by
     intro _
     subst hA
     refine AAny.step [37] [9] (by decide +kernel) (by simp) (by decide) ⟨?_, trivial⟩
     ·
      show aopsR _ _ _ [_] _ _ _
      refine ⟨trivial, ?_⟩
      refine AAny.keep [0, 3, 8, 9] (by decide) ?_
      exact s0 trivial
    have s2 : ∀ (_ : True), A 2 #[true, true, true, true, true, true, true, true, false, false] (fun fr m => K1 (fr.keep [0, 3, 8, 9]) m) [(0, .str s), (3, .slice false (b.map byteAV)), (8, .int .i64 (s.length : Int)), (9, .int .i64 i), (37, .slice true (b.map byteAV)), (44, .slice true [.int .u8 92, .int .u8 120, .int .u8 ((gI ([48, 49, 50, 51, 52, 53, 54, 55, 56, 57, 97, 98, 99, 100, 101, 102] : List UInt8) (Int.fdiv ((gI s i).toNat) (2 ^ (min (Int.toNat 4) IntKind.u8.bits)))).toNat), .int .u8 ((gI ([48, 49, 50, 51, 52, 53, 54, 55, 56, 57, 97, 98, 99, 100, 101, 102] : List UInt8) (IntKind.u8.wrap (BitVec.ofInt IntKind.u8.bits ((gI s i).toNat) &&& BitVec.ofInt IntKind.u8.bits 15).toNat)).toNat)])] m := by
     intro _
     subst hA
     refine AAny.step [37] [8] (by decide +kernel) (by simp) (by decide) ⟨?_, trivial⟩
     ·
      show aopsR _ _ _ [_] _ _ _
      refine ar_append rfl byteAV b ([92, 120, gI ([48, 49, 50, 51, 52, 53, 54, 55, 56, 57, 97, 98, 99, 100, 101, 102] : List UInt8) (Int.fdiv ((gI s i).toNat) (2 ^ (min (Int.toNat 4) IntKind.u8.bits))), gI ([48, 49, 50, 51, 52, 53, 54, 55, 56, 57, 97, 98, 99, 100, 101, 102] : List UInt8) (IntKind.u8.wrap (BitVec.ofInt IntKind.u8.bits ((gI s i).toNat) &&& BitVec.ofInt IntKind.u8.bits 15).toNat)] : List UInt8) rfl rfl rfl rfl rfl rfl (Nat.le_of_ble_eq_true rfl) rfl (by (simp only [show Try.prog.bytesOf 5 = 1 from rfl, List.length_append, List.length_cons, List.length_nil]; omega)) (by (first | omega | (simp only [List.length_append, List.length_cons, List.length_nil]; omega))) (fun _ => ⟨rfl, rfl⟩) ?_
      refine AAny.keep [0, 3, 8, 9, 45] (by decide) ?_
      exact s1 trivial
    have s3 : ∀ (_ : True), A 3 #[true, true, true, true, true, true, true, false, false, false] (fun fr m => K1 (fr.keep [0, 3, 8, 9]) m) [(0, .str s), (3, .slice false (b.map byteAV)), (8, .int .i64 (s.length : Int)), (9, .int .i64 i), (37, .slice true (b.map byteAV)), (40, .int .u8 ((gI ([48, 49, 50, 51, 52, 53, 54, 55, 56, 57, 97, 98, 99, 100, 101, 102] : List UInt8) (Int.fdiv ((gI s i).toNat) (2 ^ (min (Int.toNat 4) IntKind.u8.bits)))).toNat)), (43, .int .u8 ((gI ([48, 49, 50, 51, 52, 53, 54, 55, 56, 57, 97, 98, 99, 100, 101, 102] : List UInt8) (IntKind.u8.wrap (BitVec.ofInt IntKind.u8.bits ((gI s i).toNat) &&& BitVec.ofInt IntKind.u8.bits 15).toNat)).toNat))] m := by
     intro _
     subst hA
     refine AAny.step [37] [7] (by decide +kernel) (by simp) (by decide) ⟨?_, trivial⟩
     ·
      show aopsR _ _ _ [_] _ _ _
      refine ⟨⟨rfl, Nat.le_of_ble_eq_true rfl, rfl, Nat.le_of_ble_eq_true rfl, rfl, by simp only [List.forall_mem_cons]; exact ⟨⟨rfl, rfl⟩, ⟨rfl, rfl⟩, ⟨rfl, rfl⟩, ⟨rfl, rfl⟩, fun _ h => by cases h⟩⟩, ?_⟩
      refine AAny.keep [0, 3, 8, 9, 37, 44] (by decide) ?_
      exact s2 trivial
    have s4 : ∀ (_ : True), A 3 #[false, true, true, true, true, true, true, true, false, false] (fun fr m => K1 (fr.keep [0, 3, 8, 9]) m) [(0, .str s), (3, .slice true (b.map byteAV)), (8, .int .i64 (s.length : Int)), (9, .int .i64 i), (44, .slice true [.int .u8 92, .int .u8 120, .int .u8 ((gI ([48, 49, 50, 51, 52, 53, 54, 55, 56, 57, 97, 98, 99, 100, 101, 102] : List UInt8) (Int.fdiv ((gI s i).toNat) (2 ^ (min (Int.toNat 4) IntKind.u8.bits)))).toNat), .int .u8 ((gI ([48, 49, 50, 51, 52, 53, 54, 55, 56, 57, 97, 98, 99, 100, 101, 102] : List UInt8) (IntKind.u8.wrap (BitVec.ofInt IntKind.u8.bits ((gI s i).toNat) &&& BitVec.ofInt IntKind.u8.bits 15).toNat)).toNat)])] m := by
     intro _
     subst hA
     refine AAny.step [37] [0] (by decide +kernel) (by simp) (by decide) ⟨?_, trivial⟩
     ·
      show aopsR _ _ _ [_] _ _ _
      refine ⟨trivial, ?_⟩
      refine AAny.keep [0, 3, 8, 9, 37, 44] (by decide) ?_
      exact s2 trivial
    have s5 : ∀ (_ : True), A 4 #[true, true, true, true, true, true, false, false, false, false] (fun fr m => K1 (fr.keep [0, 3, 8, 9]) m) [(0, .str s), (3, .slice false (b.map byteAV)), (8, .int .i64 (s.length : Int)), (9, .int .i64 i), (37, .slice true (b.map byteAV)), (40, .int .u8 ((gI ([48, 49, 50, 51, 52, 53, 54, 55, 56, 57, 97, 98, 99, 100, 101, 102] : List UInt8) (Int.fdiv ((gI s i).toNat) (2 ^ (min (Int.toNat 4) IntKind.u8.bits)))).toNat)), (42, .int .u8 (IntKind.u8.wrap (BitVec.ofInt IntKind.u8.bits ((gI s i).toNat) &&& BitVec.ofInt IntKind.u8.bits 15).toNat))] m := by
     intro _
     subst hA
     refine AAny.step [37] [6] (by decide +kernel) (by simp) (by decide) ⟨?_, trivial⟩
     ·
      show aopsR _ _ _ [_] _ _ _
      refine ⟨⟨(by omega), (by first | omega | (show _ < (16 : Int); omega))⟩, ?_⟩
      refine AAny.keep [0, 3, 8, 9, 37, 40, 43] (by decide) ?_
      exact s3 trivial
    have s6 : ∀ (_ : True), A 4 #[true, true, true, false, true, true, true, false, false, false] (fun fr m => K1 (fr.keep [0, 3, 8, 9]) m) [(0, .str s), (3, .slice false (b.map byteAV)), (8, .int .i64 (s.length : Int)), (9, .int .i64 i), (37, .slice true (b.map byteAV)), (39, .int .u8 (Int.fdiv ((gI s i).toNat) (2 ^ (min (Int.toNat 4) IntKind.u8.bits)))), (43, .int .u8 ((gI ([48, 49, 50, 51, 52, 53, 54, 55, 56, 57, 97, 98, 99, 100, 101, 102] : List UInt8) (IntKind.u8.wrap (BitVec.ofInt IntKind.u8.bits ((gI s i).toNat) &&& BitVec.ofInt IntKind.u8.bits 15).toNat)).toNat))] m := by
     intro _
     subst hA
     refine AAny.step [37] [3] (by decide +kernel) (by simp) (by decide) ⟨?_, trivial⟩
     ·
      show aopsR _ _ _ [_] _ _ _
      refine ⟨⟨(by omega), (by first | omega | (show _ < (16 : Int); omega))⟩, ?_⟩
      refine AAny.keep [0, 3, 8, 9, 37, 40, 43] (by decide) ?_
      exact s3 trivial
    have s7 : ∀ (_ : True), A 4 #[false, true, true, true, true, true, true, false, false, false] (fun fr m => K1 (fr.keep [0, 3, 8, 9]) m) [(0, .str s), (3, .slice true (b.map byteAV)), (8, .int .i64 (s.length : Int)), (9, .int .i64 i), (40, .int .u8 ((gI ([48, 49, 50, 51, 52, 53, 54, 55, 56, 57, 97, 98, 99, 100, 101, 102] : List UInt8) (Int.fdiv ((gI s i).toNat) (2 ^ (min (Int.toNat 4) IntKind.u8.bits)))).toNat)), (43, .int .u8 ((gI ([48, 49, 50, 51, 52, 53, 54, 55, 56, 57, 97, 98, 99, 100, 101, 102] : List UInt8) (IntKind.u8.wrap (BitVec.ofInt IntKind.u8.bits ((gI s i).toNat) &&& BitVec.ofInt IntKind.u8.bits 15).toNat)).toNat))] m := by
     intro _
     subst hA
     refine AAny.step [37] [0, 7] (by decide +kernel) (by simp) (by decide) ⟨?_, ?_, trivial⟩
     ·
      show aopsR _ _ _ [_] _ _ _
      refine ⟨trivial, ?_⟩
      refine AAny.keep [0, 3, 8, 9, 37, 40, 43] (by decide) ?_
      exact s3 trivial
     ·
      show aopsR _ _ _ [_] _ _ _
      refine ⟨⟨rfl, Nat.le_of_ble_eq_true rfl, rfl, Nat.le_of_ble_eq_true rfl, rfl, by simp only [List.forall_mem_cons]; exact ⟨⟨rfl, rfl⟩, ⟨rfl, rfl⟩, ⟨rfl, rfl⟩, ⟨rfl, rfl⟩, fun _ h => by cases h⟩⟩, ?_⟩
      refine AAny.keep [0, 3, 8, 9, 44] (by decide) ?_
      exact s4 trivial
    have s8 : ∀ (_ : True), A 5 #[true, true, true, true, true, false, false, false, false, false] (fun fr m => K1 (fr.keep [0, 3, 8, 9]) m) [(0, .str s), (3, .slice false (b.map byteAV)), (8, .int .i64 (s.length : Int)), (9, .int .i64 i), (37, .slice true (b.map byteAV)), (40, .int .u8 ((gI ([48, 49, 50, 51, 52, 53, 54, 55, 56, 57, 97, 98, 99, 100, 101, 102] : List UInt8) (Int.fdiv ((gI s i).toNat) (2 ^ (min (Int.toNat 4) IntKind.u8.bits)))).toNat)), (41, .int .u8 ((gI s i).toNat))] m := by
     intro _
     subst hA
     refine AAny.step [37] [5] (by decide +kernel) (by simp) (by decide) ⟨?_, trivial⟩
     ·
      show aopsR _ _ _ [_] _ _ _
      refine ⟨trivial, ?_⟩
      refine AAny.keep [0, 3, 8, 9, 37, 40, 42] (by decide) ?_
      exact s5 trivial
    have s9 : ∀ (_ : True), A 5 #[true, true, true, false, true, true, false, false, false, false] (fun fr m => K1 (fr.keep [0, 3, 8, 9]) m) [(0, .str s), (3, .slice false (b.map byteAV)), (8, .int .i64 (s.length : Int)), (9, .int .i64 i), (37, .slice true (b.map byteAV)), (39, .int .u8 (Int.fdiv ((gI s i).toNat) (2 ^ (min (Int.toNat 4) IntKind.u8.bits)))), (42, .int .u8 (IntKind.u8.wrap (BitVec.ofInt IntKind.u8.bits ((gI s i).toNat) &&& BitVec.ofInt IntKind.u8.bits 15).toNat))] m := by
     intro _
     subst hA
     refine AAny.step [37] [3, 6] (by decide +kernel) (by simp) (by decide) ⟨?_, ?_, trivial⟩
     ·
      show aopsR _ _ _ [_] _ _ _
      refine ⟨⟨(by omega), (by first | omega | (show _ < (16 : Int); omega))⟩, ?_⟩
      refine AAny.keep [0, 3, 8, 9, 37, 40, 42] (by decide) ?_
      exact s5 trivial
     ·
      show aopsR _ _ _ [_] _ _ _
      refine ⟨⟨(by omega), (by first | omega | (show _ < (16 : Int); omega))⟩, ?_⟩
      refine AAny.keep [0, 3, 8, 9, 37, 39, 43] (by decide) ?_
      exact s6 trivial
    have s10 : ∀ (_ : True), A 5 #[true, true, false, false, true, true, true, false, false, false] (fun fr m => K1 (fr.keep [0, 3, 8, 9]) m) [(0, .str s), (3, .slice false (b.map byteAV)), (8, .int .i64 (s.length : Int)), (9, .int .i64 i), (37, .slice true (b.map byteAV)), (38, .int .u8 ((gI s i).toNat)), (43, .int .u8 ((gI ([48, 49, 50, 51, 52, 53, 54, 55, 56, 57, 97, 98, 99, 100, 101, 102] : List UInt8) (IntKind.u8.wrap (BitVec.ofInt IntKind.u8.bits ((gI s i).toNat) &&& BitVec.ofInt IntKind.u8.bits 15).toNat)).toNat))] m := by
     intro _
     subst hA
     refine AAny.step [37] [2] (by decide +kernel) (by simp) (by decide) ⟨?_, trivial⟩
     ·
      show aopsR _ _ _ [_] _ _ _
      refine ⟨(by refine ⟨by decide, ?_, ?_⟩ <;> first | (show (0 : Int) ≤ _; omega) | (show _ ≤ (255 : Int); omega)), ?_⟩
      refine AAny.keep [0, 3, 8, 9, 37, 39, 43] (by decide) ?_
      exact s6 trivial
    have s11 : ∀ (_ : True), A 5 #[false, true, true, true, true, true, false, false, false, false] (fun fr m => K1 (fr.keep [0, 3, 8, 9]) m) [(0, .str s), (3, .slice true (b.map byteAV)), (8, .int .i64 (s.length : Int)), (9, .int .i64 i), (40, .int .u8 ((gI ([48, 49, 50, 51, 52, 53, 54, 55, 56, 57, 97, 98, 99, 100, 101, 102] : List UInt8) (Int.fdiv ((gI s i).toNat) (2 ^ (min (Int.toNat 4) IntKind.u8.bits)))).toNat)), (42, .int .u8 (IntKind.u8.wrap (BitVec.ofInt IntKind.u8.bits ((gI s i).toNat) &&& BitVec.ofInt IntKind.u8.bits 15).toNat))] m := by
     intro _
     subst hA
     refine AAny.step [37] [0, 6] (by decide +kernel) (by simp) (by decide) ⟨?_, ?_, trivial⟩
     ·
      show aopsR _ _ _ [_] _ _ _
      refine ⟨trivial, ?_⟩
      refine AAny.keep [0, 3, 8, 9, 37, 40, 42] (by decide) ?_
      exact s5 trivial
     ·
      show aopsR _ _ _ [_] _ _ _
      refine ⟨⟨(by omega), (by first | omega | (show _ < (16 : Int); omega))⟩, ?_⟩
      refine AAny.keep [0, 3, 8, 9, 40, 43] (by decide) ?_
      exact s7 trivial
    have s12 : ∀ (_ : True), A 5 #[false, true, true, false, true, true, true, false, false, false] (fun fr m => K1 (fr.keep [0, 3, 8, 9]) m) [(0, .str s), (3, .slice true (b.map byteAV)), (8, .int .i64 (s.length : Int)), (9, .int .i64 i), (39, .int .u8 (Int.fdiv ((gI s i).toNat) (2 ^ (min (Int.toNat 4) IntKind.u8.bits)))), (43, .int .u8 ((gI ([48, 49, 50, 51, 52, 53, 54, 55, 56, 57, 97, 98, 99, 100, 101, 102] : List UInt8) (IntKind.u8.wrap (BitVec.ofInt IntKind.u8.bits ((gI s i).toNat) &&& BitVec.ofInt IntKind.u8.bits 15).toNat)).toNat))] m := by
     intro _
     subst hA
     refine AAny.step [37] [0, 3] (by decide +kernel) (by simp) (by decide) ⟨?_, ?_, trivial⟩
     ·
      show aopsR _ _ _ [_] _ _ _
      refine ⟨trivial, ?_⟩
      refine AAny.keep [0, 3, 8, 9, 37, 39, 43] (by decide) ?_
      exact s6 trivial
     ·
      show aopsR _ _ _ [_] _ _ _
      refine ⟨⟨(by omega), (by first | omega | (show _ < (16 : Int); omega))⟩, ?_⟩
      refine AAny.keep [0, 3, 8, 9, 40, 43] (by decide) ?_
      exact s7 trivial
    have s13 : ∀ (_ : True), A 6 #[true, true, true, true, false, false, false, false, false, false] (fun fr m => K1 (fr.keep [0, 3, 8, 9]) m) [(0, .str s), (3, .slice false (b.map byteAV)), (5, .int .u8 ((gI s i).toNat)), (8, .int .i64 (s.length : Int)), (9, .int .i64 i), (37, .slice true (b.map byteAV)), (40, .int .u8 ((gI ([48, 49, 50, 51, 52, 53, 54, 55, 56, 57, 97, 98, 99, 100, 101, 102] : List UInt8) (Int.fdiv ((gI s i).toNat) (2 ^ (min (Int.toNat 4) IntKind.u8.bits)))).toNat))] m := by
     intro _
     subst hA
     refine AAny.step [37] [4] (by decide +kernel) (by simp) (by decide) ⟨?_, trivial⟩
     ·
      show aopsR _ _ _ [_] _ _ _
      refine ⟨trivial, ?_⟩
      refine AAny.keep [0, 3, 8, 9, 37, 40, 41] (by decide) ?_
      exact s8 trivial
    have s14 : ∀ (_ : True), A 6 #[true, true, true, false, true, false, false, false, false, false] (fun fr m => K1 (fr.keep [0, 3, 8, 9]) m) [(0, .str s), (3, .slice false (b.map byteAV)), (8, .int .i64 (s.length : Int)), (9, .int .i64 i), (37, .slice true (b.map byteAV)), (39, .int .u8 (Int.fdiv ((gI s i).toNat) (2 ^ (min (Int.toNat 4) IntKind.u8.bits)))), (41, .int .u8 ((gI s i).toNat))] m := by
     intro _
     subst hA
     refine AAny.step [37] [3, 5] (by decide +kernel) (by simp) (by decide) ⟨?_, ?_, trivial⟩
     ·
      show aopsR _ _ _ [_] _ _ _
      refine ⟨⟨(by omega), (by first | omega | (show _ < (16 : Int); omega))⟩, ?_⟩
      refine AAny.keep [0, 3, 8, 9, 37, 40, 41] (by decide) ?_
      exact s8 trivial
     ·
      show aopsR _ _ _ [_] _ _ _
      refine ⟨trivial, ?_⟩
      refine AAny.keep [0, 3, 8, 9, 37, 39, 42] (by decide) ?_
      exact s9 trivial
    have s15 : ∀ (_ : True), A 6 #[true, true, false, false, true, true, false, false, false, false] (fun fr m => K1 (fr.keep [0, 3, 8, 9]) m) [(0, .str s), (3, .slice false (b.map byteAV)), (8, .int .i64 (s.length : Int)), (9, .int .i64 i), (37, .slice true (b.map byteAV)), (38, .int .u8 ((gI s i).toNat)), (42, .int .u8 (IntKind.u8.wrap (BitVec.ofInt IntKind.u8.bits ((gI s i).toNat) &&& BitVec.ofInt IntKind.u8.bits 15).toNat))] m := by
     intro _
     subst hA
     refine AAny.step [37] [2, 6] (by decide +kernel) (by simp) (by decide) ⟨?_, ?_, trivial⟩
     ·
      show aopsR _ _ _ [_] _ _ _
      refine ⟨(by refine ⟨by decide, ?_, ?_⟩ <;> first | (show (0 : Int) ≤ _; omega) | (show _ ≤ (255 : Int); omega)), ?_⟩
      refine AAny.keep [0, 3, 8, 9, 37, 39, 42] (by decide) ?_
      exact s9 trivial
     ·
      show aopsR _ _ _ [_] _ _ _
      refine ⟨⟨(by omega), (by first | omega | (show _ < (16 : Int); omega))⟩, ?_⟩
      refine AAny.keep [0, 3, 8, 9, 37, 38, 43] (by decide) ?_
      exact s10 trivial
    have s16 : ∀ (_ : True), A 6 #[true, false, false, false, true, true, true, false, false, false] (fun fr m => K1 (fr.keep [0, 3, 8, 9]) m) [(0, .str s), (3, .slice false (b.map byteAV)), (5, .int .u8 ((gI s i).toNat)), (8, .int .i64 (s.length : Int)), (9, .int .i64 i), (37, .slice true (b.map byteAV)), (43, .int .u8 ((gI ([48, 49, 50, 51, 52, 53, 54, 55, 56, 57, 97, 98, 99, 100, 101, 102] : List UInt8) (IntKind.u8.wrap (BitVec.ofInt IntKind.u8.bits ((gI s i).toNat) &&& BitVec.ofInt IntKind.u8.bits 15).toNat)).toNat))] m := by
     intro _
     subst hA
     refine AAny.step [37] [1] (by decide +kernel) (by simp) (by decide) ⟨?_, trivial⟩
     ·
      show aopsR _ _ _ [_] _ _ _
      refine ⟨trivial, ?_⟩
      refine AAny.keep [0, 3, 8, 9, 37, 38, 43] (by decide) ?_
      exact s10 trivial
    have s17 : ∀ (_ : True), A 6 #[false, true, true, true, true, false, false, false, false, false] (fun fr m => K1 (fr.keep [0, 3, 8, 9]) m) [(0, .str s), (3, .slice true (b.map byteAV)), (8, .int .i64 (s.length : Int)), (9, .int .i64 i), (40, .int .u8 ((gI ([48, 49, 50, 51, 52, 53, 54, 55, 56, 57, 97, 98, 99, 100, 101, 102] : List UInt8) (Int.fdiv ((gI s i).toNat) (2 ^ (min (Int.toNat 4) IntKind.u8.bits)))).toNat)), (41, .int .u8 ((gI s i).toNat))] m := by
     intro _
     subst hA
     refine AAny.step [37] [0, 5] (by decide +kernel) (by simp) (by decide) ⟨?_, ?_, trivial⟩
     ·
      show aopsR _ _ _ [_] _ _ _
      refine ⟨trivial, ?_⟩
      refine AAny.keep [0, 3, 8, 9, 37, 40, 41] (by decide) ?_
      exact s8 trivial
     ·
      show aopsR _ _ _ [_] _ _ _
      refine ⟨trivial, ?_⟩
      refine AAny.keep [0, 3, 8, 9, 40, 42] (by decide) ?_
      exact s11 trivial
    have s18 : ∀ (_ : True), A 6 #[false, true, true, false, true, true, false, false, false, false] (fun fr m => K1 (fr.keep [0, 3, 8, 9]) m) [(0, .str s), (3, .slice true (b.map byteAV)), (8, .int .i64 (s.length : Int)), (9, .int .i64 i), (39, .int .u8 (Int.fdiv ((gI s i).toNat) (2 ^ (min (Int.toNat 4) IntKind.u8.bits)))), (42, .int .u8 (IntKind.u8.wrap (BitVec.ofInt IntKind.u8.bits ((gI s i).toNat) &&& BitVec.ofInt IntKind.u8.bits 15).toNat))] m := by
     intro _
     subst hA
     refine AAny.step [37] [0, 3, 6] (by decide +kernel) (by simp) (by decide) ⟨?_, ?_, ?_, trivial⟩
     ·
      show aopsR _ _ _ [_] _ _ _
      refine ⟨trivial, ?_⟩
      refine AAny.keep [0, 3, 8, 9, 37, 39, 42] (by decide) ?_
      exact s9 trivial
     ·
      show aopsR _ _ _ [_] _ _ _
      refine ⟨⟨(by omega), (by first | omega | (show _ < (16 : Int); omega))⟩, ?_⟩
      refine AAny.keep [0, 3, 8, 9, 40, 42] (by decide) ?_
      exact s11 trivial
     ·
      show aopsR _ _ _ [_] _ _ _
      refine ⟨⟨(by omega), (by first | omega | (show _ < (16 : Int); omega))⟩, ?_⟩
      refine AAny.keep [0, 3, 8, 9, 39, 43] (by decide) ?_
      exact s12 trivial
    have s19 : ∀ (_ : True), A 6 #[false, true, false, false, true, true, true, false, false, false] (fun fr m => K1 (fr.keep [0, 3, 8, 9]) m) [(0, .str s), (3, .slice true (b.map byteAV)), (8, .int .i64 (s.length : Int)), (9, .int .i64 i), (38, .int .u8 ((gI s i).toNat)), (43, .int .u8 ((gI ([48, 49, 50, 51, 52, 53, 54, 55, 56, 57, 97, 98, 99, 100, 101, 102] : List UInt8) (IntKind.u8.wrap (BitVec.ofInt IntKind.u8.bits ((gI s i).toNat) &&& BitVec.ofInt IntKind.u8.bits 15).toNat)).toNat))] m := by
     intro _
     subst hA
     refine AAny.step [37] [0, 2] (by decide +kernel) (by simp) (by decide) ⟨?_, ?_, trivial⟩
     ·
      show aopsR _ _ _ [_] _ _ _
      refine ⟨trivial, ?_⟩
      refine AAny.keep [0, 3, 8, 9, 37, 38, 43] (by decide) ?_
      exact s10 trivial
     ·
      show aopsR _ _ _ [_] _ _ _
      refine ⟨(by refine ⟨by decide, ?_, ?_⟩ <;> first | (show (0 : Int) ≤ _; omega) | (show _ ≤ (255 : Int); omega)), ?_⟩
      refine AAny.keep [0, 3, 8, 9, 39, 43] (by decide) ?_
      exact s12 trivial
    have s20 : ∀ (_ : True), A 7 #[true, true, true, false, false, false, false, false, false, false] (fun fr m => K1 (fr.keep [0, 3, 8, 9]) m) [(0, .str s), (3, .slice false (b.map byteAV)), (5, .int .u8 ((gI s i).toNat)), (8, .int .i64 (s.length : Int)), (9, .int .i64 i), (37, .slice true (b.map byteAV)), (39, .int .u8 (Int.fdiv ((gI s i).toNat) (2 ^ (min (Int.toNat 4) IntKind.u8.bits))))] m := by
     intro _
     subst hA
     refine AAny.step [37] [3, 4] (by decide +kernel) (by simp) (by decide) ⟨?_, ?_, trivial⟩
     ·
      show aopsR _ _ _ [_] _ _ _
      refine ⟨⟨(by omega), (by first | omega | (show _ < (16 : Int); omega))⟩, ?_⟩
      refine AAny.keep [0, 3, 5, 8, 9, 37, 40] (by decide) ?_
      exact s13 trivial
     ·
      show aopsR _ _ _ [_] _ _ _
      refine ⟨trivial, ?_⟩
      refine AAny.keep [0, 3, 8, 9, 37, 39, 41] (by decide) ?_
      exact s14 trivial
    have s21 : ∀ (_ : True), A 7 #[true, true, false, false, true, false, false, false, false, false] (fun fr m => K1 (fr.keep [0, 3, 8, 9]) m) [(0, .str s), (3, .slice false (b.map byteAV)), (8, .int .i64 (s.length : Int)), (9, .int .i64 i), (37, .slice true (b.map byteAV)), (38, .int .u8 ((gI s i).toNat)), (41, .int .u8 ((gI s i).toNat))] m := by
     intro _
     subst hA
     refine AAny.step [37] [2, 5] (by decide +kernel) (by simp) (by decide) ⟨?_, ?_, trivial⟩
     ·
      show aopsR _ _ _ [_] _ _ _
      refine ⟨(by refine ⟨by decide, ?_, ?_⟩ <;> first | (show (0 : Int) ≤ _; omega) | (show _ ≤ (255 : Int); omega)), ?_⟩
      refine AAny.keep [0, 3, 8, 9, 37, 39, 41] (by decide) ?_
      exact s14 trivial
     ·
      show aopsR _ _ _ [_] _ _ _
      refine ⟨trivial, ?_⟩
      refine AAny.keep [0, 3, 8, 9, 37, 38, 42] (by decide) ?_
      exact s15 trivial
    have s22 : ∀ (_ : True), A 7 #[true, false, false, false, true, true, false, false, false, false] (fun fr m => K1 (fr.keep [0, 3, 8, 9]) m) [(0, .str s), (3, .slice false (b.map byteAV)), (5, .int .u8 ((gI s i).toNat)), (8, .int .i64 (s.length : Int)), (9, .int .i64 i), (37, .slice true (b.map byteAV)), (42, .int .u8 (IntKind.u8.wrap (BitVec.ofInt IntKind.u8.bits ((gI s i).toNat) &&& BitVec.ofInt IntKind.u8.bits 15).toNat))] m := by
     intro _
     subst hA
     refine AAny.step [37] [1, 6] (by decide +kernel) (by simp) (by decide) ⟨?_, ?_, trivial⟩
     ·
      show aopsR _ _ _ [_] _ _ _
      refine ⟨trivial, ?_⟩
      refine AAny.keep [0, 3, 8, 9, 37, 38, 42] (by decide) ?_
      exact s15 trivial
     ·
      show aopsR _ _ _ [_] _ _ _
      refine ⟨⟨(by omega), (by first | omega | (show _ < (16 : Int); omega))⟩, ?_⟩
      refine AAny.keep [0, 3, 5, 8, 9, 37, 43] (by decide) ?_
      exact s16 trivial
    have s23 : ∀ (_ : True), A 7 #[false, true, true, true, false, false, false, false, false, false] (fun fr m => K1 (fr.keep [0, 3, 8, 9]) m) [(0, .str s), (3, .slice true (b.map byteAV)), (5, .int .u8 ((gI s i).toNat)), (8, .int .i64 (s.length : Int)), (9, .int .i64 i), (40, .int .u8 ((gI ([48, 49, 50, 51, 52, 53, 54, 55, 56, 57, 97, 98, 99, 100, 101, 102] : List UInt8) (Int.fdiv ((gI s i).toNat) (2 ^ (min (Int.toNat 4) IntKind.u8.bits)))).toNat))] m := by
     intro _
     subst hA
     refine AAny.step [37] [0, 4] (by decide +kernel) (by simp) (by decide) ⟨?_, ?_, trivial⟩
     ·
      show aopsR _ _ _ [_] _ _ _
      refine ⟨trivial, ?_⟩
      refine AAny.keep [0, 3, 5, 8, 9, 37, 40] (by decide) ?_
      exact s13 trivial
     ·
      show aopsR _ _ _ [_] _ _ _
      refine ⟨trivial, ?_⟩
      refine AAny.keep [0, 3, 8, 9, 40, 41] (by decide) ?_
      exact s17 trivial
    have s24 : ∀ (_ : True), A 7 #[false, true, true, false, true, false, false, false, false, false] (fun fr m => K1 (fr.keep [0, 3, 8, 9]) m) [(0, .str s), (3, .slice true (b.map byteAV)), (8, .int .i64 (s.length : Int)), (9, .int .i64 i), (39, .int .u8 (Int.fdiv ((gI s i).toNat) (2 ^ (min (Int.toNat 4) IntKind.u8.bits)))), (41, .int .u8 ((gI s i).toNat))] m := by
     intro _
     subst hA
     refine AAny.step [37] [0, 3, 5] (by decide +kernel) (by simp) (by decide) ⟨?_, ?_, ?_, trivial⟩
     ·
      show aopsR _ _ _ [_] _ _ _
      refine ⟨trivial, ?_⟩
      refine AAny.keep [0, 3, 8, 9, 37, 39, 41] (by decide) ?_
      exact s14 trivial
     ·
      show aopsR _ _ _ [_] _ _ _
      refine ⟨⟨(by omega), (by first | omega | (show _ < (16 : Int); omega))⟩, ?_⟩
      refine AAny.keep [0, 3, 8, 9, 40, 41] (by decide) ?_
      exact s17 trivial
     ·
      show aopsR _ _ _ [_] _ _ _
      refine ⟨trivial, ?_⟩
      refine AAny.keep [0, 3, 8, 9, 39, 42] (by decide) ?_
      exact s18 trivial
    have s25 : ∀ (_ : True), A 7 #[false, true, false, false, true, true, false, false, false, false] (fun fr m => K1 (fr.keep [0, 3, 8, 9]) m) [(0, .str s), (3, .slice true (b.map byteAV)), (8, .int .i64 (s.length : Int)), (9, .int .i64 i), (38, .int .u8 ((gI s i).toNat)), (42, .int .u8 (IntKind.u8.wrap (BitVec.ofInt IntKind.u8.bits ((gI s i).toNat) &&& BitVec.ofInt IntKind.u8.bits 15).toNat))] m := by
     intro _
     subst hA
     refine AAny.step [37] [0, 2, 6] (by decide +kernel) (by simp) (by decide) ⟨?_, ?_, ?_, trivial⟩
     ·
      show aopsR _ _ _ [_] _ _ _
      refine ⟨trivial, ?_⟩
      refine AAny.keep [0, 3, 8, 9, 37, 38, 42] (by decide) ?_
      exact s15 trivial
     ·
      show aopsR _ _ _ [_] _ _ _
      refine ⟨(by refine ⟨by decide, ?_, ?_⟩ <;> first | (show (0 : Int) ≤ _; omega) | (show _ ≤ (255 : Int); omega)), ?_⟩
      refine AAny.keep [0, 3, 8, 9, 39, 42] (by decide) ?_
      exact s18 trivial
     ·
      show aopsR _ _ _ [_] _ _ _
      refine ⟨⟨(by omega), (by first | omega | (show _ < (16 : Int); omega))⟩, ?_⟩
      refine AAny.keep [0, 3, 8, 9, 38, 43] (by decide) ?_
      exact s19 trivial
    have s26 : ∀ (_ : True), A 7 #[false, false, false, false, true, true, true, false, false, false] (fun fr m => K1 (fr.keep [0, 3, 8, 9]) m) [(0, .str s), (3, .slice true (b.map byteAV)), (5, .int .u8 ((gI s i).toNat)), (8, .int .i64 (s.length : Int)), (9, .int .i64 i), (43, .int .u8 ((gI ([48, 49, 50, 51, 52, 53, 54, 55, 56, 57, 97, 98, 99, 100, 101, 102] : List UInt8) (IntKind.u8.wrap (BitVec.ofInt IntKind.u8.bits ((gI s i).toNat) &&& BitVec.ofInt IntKind.u8.bits 15).toNat)).toNat))] m := by
     intro _
     subst hA
     refine AAny.step [37] [0, 1] (by decide +kernel) (by simp) (by decide) ⟨?_, ?_, trivial⟩
     ·
      show aopsR _ _ _ [_] _ _ _
      refine ⟨trivial, ?_⟩
      refine AAny.keep [0, 3, 5, 8, 9, 37, 43] (by decide) ?_
      exact s16 trivial
     ·
      show aopsR _ _ _ [_] _ _ _
      refine ⟨trivial, ?_⟩
      refine AAny.keep [0, 3, 8, 9, 38, 43] (by decide) ?_
      exact s19 trivial
    have s27 : ∀ (_ : True), A 8 #[true, true, false, false, false, false, false, false, false, false] (fun fr m => K1 (fr.keep [0, 3, 8, 9]) m) [(0, .str s), (3, .slice false (b.map byteAV)), (5, .int .u8 ((gI s i).toNat)), (8, .int .i64 (s.length : Int)), (9, .int .i64 i), (37, .slice true (b.map byteAV)), (38, .int .u8 ((gI s i).toNat))] m := by
     intro _
     subst hA
     refine AAny.step [37] [2, 4] (by decide +kernel) (by simp) (by decide) ⟨?_, ?_, trivial⟩
     ·
      show aopsR _ _ _ [_] _ _ _
      refine ⟨(by refine ⟨by decide, ?_, ?_⟩ <;> first | (show (0 : Int) ≤ _; omega) | (show _ ≤ (255 : Int); omega)), ?_⟩
      refine AAny.keep [0, 3, 5, 8, 9, 37, 39] (by decide) ?_
      exact s20 trivial
     ·
      show aopsR _ _ _ [_] _ _ _
      refine ⟨trivial, ?_⟩
      refine AAny.keep [0, 3, 8, 9, 37, 38, 41] (by decide) ?_
      exact s21 trivial
    have s28 : ∀ (_ : True), A 8 #[true, false, false, false, true, false, false, false, false, false] (fun fr m => K1 (fr.keep [0, 3, 8, 9]) m) [(0, .str s), (3, .slice false (b.map byteAV)), (5, .int .u8 ((gI s i).toNat)), (8, .int .i64 (s.length : Int)), (9, .int .i64 i), (37, .slice true (b.map byteAV)), (41, .int .u8 ((gI s i).toNat))] m := by
     intro _
     subst hA
     refine AAny.step [37] [1, 5] (by decide +kernel) (by simp) (by decide) ⟨?_, ?_, trivial⟩
     ·
      show aopsR _ _ _ [_] _ _ _
      refine ⟨trivial, ?_⟩
      refine AAny.keep [0, 3, 8, 9, 37, 38, 41] (by decide) ?_
      exact s21 trivial
     ·
      show aopsR _ _ _ [_] _ _ _
      refine ⟨trivial, ?_⟩
      refine AAny.keep [0, 3, 5, 8, 9, 37, 42] (by decide) ?_
      exact s22 trivial
    have s29 : ∀ (_ : True), A 8 #[false, true, true, false, false, false, false, false, false, false] (fun fr m => K1 (fr.keep [0, 3, 8, 9]) m) [(0, .str s), (3, .slice true (b.map byteAV)), (5, .int .u8 ((gI s i).toNat)), (8, .int .i64 (s.length : Int)), (9, .int .i64 i), (39, .int .u8 (Int.fdiv ((gI s i).toNat) (2 ^ (min (Int.toNat 4) IntKind.u8.bits))))] m := by
     intro _
     subst hA
     refine AAny.step [37] [0, 3, 4] (by decide +kernel) (by simp) (by decide) ⟨?_, ?_, ?_, trivial⟩
     ·
      show aopsR _ _ _ [_] _ _ _
      refine ⟨trivial, ?_⟩
      refine AAny.keep [0, 3, 5, 8, 9, 37, 39] (by decide) ?_
      exact s20 trivial
     ·
      show aopsR _ _ _ [_] _ _ _
      refine ⟨⟨(by omega), (by first | omega | (show _ < (16 : Int); omega))⟩, ?_⟩
      refine AAny.keep [0, 3, 5, 8, 9, 40] (by decide) ?_
      exact s23 trivial
     ·
      show aopsR _ _ _ [_] _ _ _
      refine ⟨trivial, ?_⟩
      refine AAny.keep [0, 3, 8, 9, 39, 41] (by decide) ?_
      exact s24 trivial
    have s30 : ∀ (_ : True), A 8 #[false, true, false, false, true, false, false, false, false, false] (fun fr m => K1 (fr.keep [0, 3, 8, 9]) m) [(0, .str s), (3, .slice true (b.map byteAV)), (8, .int .i64 (s.length : Int)), (9, .int .i64 i), (38, .int .u8 ((gI s i).toNat)), (41, .int .u8 ((gI s i).toNat))] m := by
     intro _
     subst hA
     refine AAny.step [37] [0, 2, 5] (by decide +kernel) (by simp) (by decide) ⟨?_, ?_, ?_, trivial⟩
     ·
      show aopsR _ _ _ [_] _ _ _
      refine ⟨trivial, ?_⟩
      refine AAny.keep [0, 3, 8, 9, 37, 38, 41] (by decide) ?_
      exact s21 trivial
     ·
      show aopsR _ _ _ [_] _ _ _
      refine ⟨(by refine ⟨by decide, ?_, ?_⟩ <;> first | (show (0 : Int) ≤ _; omega) | (show _ ≤ (255 : Int); omega)), ?_⟩
      refine AAny.keep [0, 3, 8, 9, 39, 41] (by decide) ?_
      exact s24 trivial
     ·
      show aopsR _ _ _ [_] _ _ _
      refine ⟨trivial, ?_⟩
      refine AAny.keep [0, 3, 8, 9, 38, 42] (by decide) ?_
      exact s25 trivial
    have s31 : ∀ (_ : True), A 8 #[false, false, false, false, true, true, false, false, false, false] (fun fr m => K1 (fr.keep [0, 3, 8, 9]) m) [(0, .str s), (3, .slice true (b.map byteAV)), (5, .int .u8 ((gI s i).toNat)), (8, .int .i64 (s.length : Int)), (9, .int .i64 i), (42, .int .u8 (IntKind.u8.wrap (BitVec.ofInt IntKind.u8.bits ((gI s i).toNat) &&& BitVec.ofInt IntKind.u8.bits 15).toNat))] m := by
     intro _
     subst hA
     refine AAny.step [37] [0, 1, 6] (by decide +kernel) (by simp) (by decide) ⟨?_, ?_, ?_, trivial⟩
     ·
      show aopsR _ _ _ [_] _ _ _
      refine ⟨trivial, ?_⟩
      refine AAny.keep [0, 3, 5, 8, 9, 37, 42] (by decide) ?_
      exact s22 trivial
     ·
      show aopsR _ _ _ [_] _ _ _
      refine ⟨trivial, ?_⟩
      refine AAny.keep [0, 3, 8, 9, 38, 42] (by decide) ?_
      exact s25 trivial
     ·
      show aopsR _ _ _ [_] _ _ _
      refine ⟨⟨(by omega), (by first | omega | (show _ < (16 : Int); omega))⟩, ?_⟩
      refine AAny.keep [0, 3, 5, 8, 9, 43] (by decide) ?_
      exact s26 trivial
    have s32 : ∀ (_ : True), A 9 #[true, false, false, false, false, false, false, false, false, false] (fun fr m => K1 (fr.keep [0, 3, 8, 9]) m) [(0, .str s), (3, .slice false (b.map byteAV)), (5, .int .u8 ((gI s i).toNat)), (8, .int .i64 (s.length : Int)), (9, .int .i64 i), (37, .slice true (b.map byteAV))] m := by
     intro _
     subst hA
     refine AAny.step [37] [1, 4] (by decide +kernel) (by simp) (by decide) ⟨?_, ?_, trivial⟩
     ·
      show aopsR _ _ _ [_] _ _ _
      refine ⟨trivial, ?_⟩
      refine AAny.keep [0, 3, 5, 8, 9, 37, 38] (by decide) ?_
      exact s27 trivial
     ·
      show aopsR _ _ _ [_] _ _ _
      refine ⟨trivial, ?_⟩
      refine AAny.keep [0, 3, 5, 8, 9, 37, 41] (by decide) ?_
      exact s28 trivial
    have s33 : ∀ (_ : True), A 9 #[false, true, false, false, false, false, false, false, false, false] (fun fr m => K1 (fr.keep [0, 3, 8, 9]) m) [(0, .str s), (3, .slice true (b.map byteAV)), (5, .int .u8 ((gI s i).toNat)), (8, .int .i64 (s.length : Int)), (9, .int .i64 i), (38, .int .u8 ((gI s i).toNat))] m := by
     intro _
     subst hA
     refine AAny.step [37] [0, 2, 4] (by decide +kernel) (by simp) (by decide) ⟨?_, ?_, ?_, trivial⟩
     ·
      show aopsR _ _ _ [_] _ _ _
      refine ⟨trivial, ?_⟩
      refine AAny.keep [0, 3, 5, 8, 9, 37, 38] (by decide) ?_
      exact s27 trivial
     ·
      show aopsR _ _ _ [_] _ _ _
      refine ⟨(by refine ⟨by decide, ?_, ?_⟩ <;> first | (show (0 : Int) ≤ _; omega) | (show _ ≤ (255 : Int); omega)), ?_⟩
      refine AAny.keep [0, 3, 5, 8, 9, 39] (by decide) ?_
      exact s29 trivial
     ·
      show aopsR _ _ _ [_] _ _ _
      refine ⟨trivial, ?_⟩
      refine AAny.keep [0, 3, 8, 9, 38, 41] (by decide) ?_
      exact s30 trivial
    have s34 : ∀ (_ : True), A 9 #[false, false, false, false, true, false, false, false, false, false] (fun fr m => K1 (fr.keep [0, 3, 8, 9]) m) [(0, .str s), (3, .slice true (b.map byteAV)), (5, .int .u8 ((gI s i).toNat)), (8, .int .i64 (s.length : Int)), (9, .int .i64 i), (41, .int .u8 ((gI s i).toNat))] m := by
     intro _
     subst hA
     refine AAny.step [37] [0, 1, 5] (by decide +kernel) (by simp) (by decide) ⟨?_, ?_, ?_, trivial⟩
     ·
      show aopsR _ _ _ [_] _ _ _
      refine ⟨trivial, ?_⟩
      refine AAny.keep [0, 3, 5, 8, 9, 37, 41] (by decide) ?_
      exact s28 trivial
     ·
      show aopsR _ _ _ [_] _ _ _
      refine ⟨trivial, ?_⟩
      refine AAny.keep [0, 3, 8, 9, 38, 41] (by decide) ?_
      exact s30 trivial
     ·
      show aopsR _ _ _ [_] _ _ _
      refine ⟨trivial, ?_⟩
      refine AAny.keep [0, 3, 5, 8, 9, 42] (by decide) ?_
      exact s31 trivial
    have s35 : ∀ (_ : True), A 10 #[false, false, false, false, false, false, false, false, false, false] (fun fr m => K1 (fr.keep [0, 3, 8, 9]) m) [(0, .str s), (3, .slice true (b.map byteAV)), (5, .int .u8 ((gI s i).toNat)), (8, .int .i64 (s.length : Int)), (9, .int .i64 i), (30, .bool ((decide (((gI s i).toNat : Int) < 32)) || (decide (126 < ((gI s i).toNat : Int)))))] m := by
     intro _
     subst hA
     refine AAny.step [37] [0, 1, 4] (by decide +kernel) (by simp) (by decide) ⟨?_, ?_, ?_, trivial⟩
     ·
      show aopsR _ _ _ [_] _ _ _
      refine ⟨trivial, ?_⟩
      refine AAny.keep [0, 3, 5, 8, 9, 37] (by decide) ?_
      exact s32 trivial
     ·
      show aopsR _ _ _ [_] _ _ _
      refine ⟨trivial, ?_⟩
      refine AAny.keep [0, 3, 5, 8, 9, 38] (by decide) ?_
      exact s33 trivial
     ·
      show aopsR _ _ _ [_] _ _ _
      refine ⟨trivial, ?_⟩
      refine AAny.keep [0, 3, 5, 8, 9, 41] (by decide) ?_
      exact s34 trivial
    exact s35 trivial
   intro _
   refine hK1 _ _ ?_; clear hK1 K1
   refine hK4 _ _ ?_; clear hK4
   refine awp_reg2 [] [0, 3, 8, 9] (by decide) ?_
   intro K1 hK1
   refine ar_add rfl (a := i) (b := 1) rfl rfl (by omega) (by omega) ?_
   refine ⟨trivial, ?_⟩
   show K1 [(0, .str s), (3, .slice true ((b ++ ([92, 120, gI ([48, 49, 50, 51, 52, 53, 54, 55, 56, 57, 97, 98, 99, 100, 101, 102] : List UInt8) (Int.fdiv ((gI s i).toNat) (2 ^ (min (Int.toNat 4) IntKind.u8.bits))), gI ([48, 49, 50, 51, 52, 53, 54, 55, 56, 57, 97, 98, 99, 100, 101, 102] : List UInt8) (IntKind.u8.wrap (BitVec.ofInt IntKind.u8.bits ((gI s i).toNat) &&& BitVec.ofInt IntKind.u8.bits 15).toNat)] : List UInt8)).map byteAV)), (8, .int .i64 (s.length : Int)), (9, .int .i64 (i + 1))] m
   refine hK1 _ _ ?_; clear hK1 K1
   refine ⟨(b ++ ([92, 120, gI ([48, 49, 50, 51, 52, 53, 54, 55, 56, 57, 97, 98, 99, 100, 101, 102] : List UInt8) (Int.fdiv ((gI s i).toNat) (2 ^ (min (Int.toNat 4) IntKind.u8.bits))), gI ([48, 49, 50, 51, 52, 53, 54, 55, 56, 57, 97, 98, 99, 100, 101, 102] : List UInt8) (IntKind.u8.wrap (BitVec.ofInt IntKind.u8.bits ((gI s i).toNat) &&& BitVec.ofInt IntKind.u8.bits 15).toNat)] : List UInt8), i + 1), rfl, rfl, ?_, ?_⟩
   ·
    show 0 ≤ ((i + 1 : Int)) ∧ ((i + 1 : Int)) ≤ s.length ∧ ((b ++ ([92, 120, gI ([48, 49, 50, 51, 52, 53, 54, 55, 56, 57, 97, 98, 99, 100, 101, 102] : List UInt8) (Int.fdiv ((gI s i).toNat) (2 ^ (min (Int.toNat 4) IntKind.u8.bits))), gI ([48, 49, 50, 51, 52, 53, 54, 55, 56, 57, 97, 98, 99, 100, 101, 102] : List UInt8) (IntKind.u8.wrap (BitVec.ofInt IntKind.u8.bits ((gI s i).toNat) &&& BitVec.ofInt IntKind.u8.bits 15).toNat)] : List UInt8) : (List UInt8))) = 34 :: (s.take ((i + 1 : Int)).toNat).flatMap escB
    exact ⟨by omega, by omega, by rw [← esc_step hI.1 h1 hI.2.2]; congr 1; unfold escB; rw [if_neg (by omega), if_pos (by omega), hq1, hq2]; rfl⟩
   ·
    show s.length - ((i + 1 : Int)).toNat < s.length - i.toNat
    omega
  replace h5 : (32 ≤ ((gI s i).toNat : Int)) ∧ (((gI s i).toNat : Int) ≤ 126) := ⟨(Int.not_lt.1 (of_decide_eq_false (borL h5))), (Int.not_lt.1 (of_decide_eq_false (borR h5)))⟩
  refine awp_reg2 [15] [0, 3, 8, 9] (by decide) ?_
  intro K1 hK1
  refine ⟨trivial, trivial, ⟨rfl, Nat.le_of_ble_eq_true rfl, rfl, Nat.le_of_ble_eq_true rfl, rfl, by simp only [List.forall_mem_cons]; exact ⟨⟨rfl, rfl⟩, fun _ h => by cases h⟩⟩, ?_⟩
  refine ar_append rfl byteAV b ([gI s i] : List UInt8) rfl rfl rfl rfl rfl rfl (Nat.le_of_ble_eq_true rfl) rfl (by (simp only [show Try.prog.bytesOf 5 = 1 from rfl, List.length_append, List.length_cons, List.length_nil]; omega)) (by (first | omega | (simp only [List.length_append, List.length_cons, List.length_nil]; omega))) (fun _ => ⟨rfl, rfl⟩) ?_
  refine ⟨trivial, ?_⟩
  show K1 [(0, .str s), (3, .slice true ((b ++ ([gI s i] : List UInt8)).map byteAV)), (8, .int .i64 (s.length : Int)), (9, .int .i64 i)] m
  refine hK1 _ _ ?_; clear hK1 K1
  refine hK4 _ _ ?_; clear hK4
  refine awp_reg2 [] [0, 3, 8, 9] (by decide) ?_
  intro K1 hK1
  refine ar_add rfl (a := i) (b := 1) rfl rfl (by omega) (by omega) ?_
  refine ⟨trivial, ?_⟩
  show K1 [(0, .str s), (3, .slice true ((b ++ ([gI s i] : List UInt8)).map byteAV)), (8, .int .i64 (s.length : Int)), (9, .int .i64 (i + 1))] m
  refine hK1 _ _ ?_; clear hK1 K1
  refine ⟨(b ++ ([gI s i] : List UInt8), i + 1), rfl, rfl, ?_, ?_⟩
  ·
   show 0 ≤ ((i + 1 : Int)) ∧ ((i + 1 : Int)) ≤ s.length ∧ ((b ++ ([gI s i] : List UInt8) : (List UInt8))) = 34 :: (s.take ((i + 1 : Int)).toNat).flatMap escB
   exact ⟨by omega, by omega, by rw [← esc_step hI.1 h1 hI.2.2]; congr 1; unfold escB; rw [if_neg (by omega), if_neg (by omega)]⟩
  ·
   show s.length - ((i + 1 : Int)).toNat < s.length - i.toNat
   omega
 replace h1 : (s.length : Int) ≤ i := (Int.not_lt.1 (of_decide_eq_false h1))
 refine awp_exit ?_
 refine hK2 _ _ ?_; clear hK2
 refine awp_reg2_seq [47] [2] (by decide) ?_
 intro K1 hK1
 refine ⟨trivial, ⟨rfl, Nat.le_of_ble_eq_true rfl, rfl, Nat.le_of_ble_eq_true rfl, rfl, by simp only [List.forall_mem_cons]; exact ⟨⟨rfl, rfl⟩, fun _ h => by cases h⟩⟩, ?_⟩
 refine ar_append rfl byteAV b ([34] : List UInt8) rfl rfl rfl rfl rfl rfl (Nat.le_of_ble_eq_true rfl) rfl (by (simp only [show Try.prog.bytesOf 5 = 1 from rfl, List.length_append, List.length_cons, List.length_nil]; omega)) (by (first | omega | (simp only [List.length_append, List.length_cons, List.length_nil]; omega))) (fun _ => ⟨rfl, rfl⟩) ?_
 refine ar_toStr rfl (b ++ ([34] : List UInt8)) rfl rfl rfl rfl rfl ?_
 refine ⟨trivial, ?_⟩
 show K1 [(2, .str (b ++ ([34] : List UInt8)))] m
 refine hK1 _ _ ?_; clear hK1 K1
 refine awp_ret ?_
 refine ⟨trivial, m, fun _ _ h => h, ?_⟩
 show K (.str (b ++ ([34] : List UInt8))) m

 refine K_eq hK (congrArg AV.str ?_)
 rw [hI.2.2, quoteS, List.take_of_length_le (by omega)]

set_option maxHeartbeats 4000000 in
theorem u_files (d kb nb : Nat) (s : DSt) (N : Nat) (hN : [d, nb].Nodup) (hD : DInv N s) (hNN : N ≤ 200) (hdn : s.down = false) (hnm : NmL s.now) (m : AMem)  (K : AV → AMem → Prop) (hK : K (.str (filesT s.now)) (AMem.wth m [(d, dObj kb nb s), (nb, mObj s.now)])) : ACalls Try.prog 65 [.ptr ⟨d, 0, none⟩] (AMem.wth m [(d, dObj kb nb s), (nb, mObj s.now)]) K := by
 have hll := listR_len hD
 have hls := list_small hdn hnm
 have hvb : ∀ p ∈ s.now, p.2.length ≤ 800000 := fun p hp => by have := hD.nb p hp; omega
 refine acalls_enter Try.func65 rfl (by decide) (Nat.le_of_ble_eq_true rfl) ?_
 show AWP _ _ _ _ [(0, .ptr ⟨d, 0, none⟩)] (AMem.wth m [(d, dObj kb nb s), (nb, mObj s.now)])
 refine awp_reg2_seq [] [0] (by decide) ?_
 intro K1 hK1
 refine ⟨trivial, ?_⟩
 show K1 [(0, .ptr ⟨d, 0, none⟩)] (AMem.wth m [(d, dObj kb nb s), (nb, mObj s.now)])
 refine hK1 _ _ ?_; clear hK1 K1
 refine awp_reg2_seq [] [0, 3] (by decide) ?_
 intro K1 hK1
 refine ⟨trivial, ?_⟩
 refine u_List d kb nb s N hN hD (by omega) _ _ ?_
 show aopsR _ _ _ _ _ _ (AMem.wth m [(d, dObj kb nb s), (nb, mObj s.now)])
 refine ⟨trivial, (Nat.le_of_ble_eq_true rfl), (Nat.le_of_ble_eq_true rfl), trivial, trivial, ?_⟩
 show K1 [(0, .ptr ⟨d, 0, none⟩), (3, .slice false (((listR s).1).map strAV))] (AMem.wth m [(d, dObj kb nb s), (nb, mObj s.now)])
 refine hK1 _ _ ?_; clear hK1 K1
 refine awp_reg2_seq [] [0, 3, 5] (by decide) ?_
 intro K1 hK1
 refine ⟨trivial, ?_⟩
 show K1 [(0, .ptr ⟨d, 0, none⟩), (3, .slice false (((listR s).1).map strAV)), (5, .str ([]))] (AMem.wth m [(d, dObj kb nb s), (nb, mObj s.now)])
 refine hK1 _ _ ?_; clear hK1 K1
 refine awp_seq_k ?_; intro K2 hK2
 refine awp_reg2_seq [] [0, 3, 5, 6] (by decide) ?_
 intro K1 hK1
 refine ⟨trivial, ?_⟩
 show K1 [(0, .ptr ⟨d, 0, none⟩), (3, .slice false (((listR s).1).map strAV)), (5, .str ([])), (6, .int .i64 0)] (AMem.wth m [(d, dObj kb nb s), (nb, mObj s.now)])
 refine hK1 _ _ ?_; clear hK1 K1
 refine awp_block ?_
 refine awp_keep [0, 3, 5, 6] (by decide) ?_
 refine awp_loop_st (σ := (List UInt8) × Int) (fun ⟨t, i⟩ => [(0, .ptr ⟨d, 0, none⟩), (3, .slice false (((listR s).1).map strAV)), (5, .str t), (6, .int .i64 i)]) (fun _ => (AMem.wth m [(d, dObj kb nb s), (nb, mObj s.now)])) (fun ⟨t, i⟩ => 0 ≤ i ∧ i ≤ (listR s).1.length ∧ t = ftxt s.now ((listR s).1.take i.toNat)) (fun ⟨t, i⟩ => (listR s).1.length - i.toNat) ([], 0) rfl rfl ?_ ?_
 ·
  show 0 ≤ ((0 : Int)) ∧ ((0 : Int)) ≤ (listR s).1.length ∧ (([] : (List UInt8))) = ftxt s.now ((listR s).1.take ((0 : Int)).toNat)
  exact ⟨by omega, by omega, rfl⟩
 rintro ⟨t, i⟩ hI
 replace hI : 0 ≤ i ∧ i ≤ (listR s).1.length ∧ t = ftxt s.now ((listR s).1.take i.toNat) := hI
 have htl := ftxt_len hvb ((listR s).1.take i.toNat) (fun n hn => hls n (List.mem_of_mem_take hn))
 rw [← hI.2.2, List.length_take] at htl
 have htl2 : t.length ≤ 640006000 := Nat.le_trans htl (by omega)
 show AWP _ _ _ _ [(0, .ptr ⟨d, 0, none⟩), (3, .slice false (((listR s).1).map strAV)), (5, .str t), (6, .int .i64 i)] (AMem.wth m [(d, dObj kb nb s), (nb, mObj s.now)])
 refine awp_seq_k ?_; intro K3 hK3
 refine awp_reg2_seq [] [0, 3, 5, 6, 17] (by decide) ?_
 intro K1 hK1
 refine ⟨trivial, trivial, ?_⟩
 refine ar_len rfl strAV ((listR s).1) rfl rfl rfl ?_
 refine ⟨trivial, ?_⟩
 show K1 [(0, .ptr ⟨d, 0, none⟩), (3, .slice false (((listR s).1).map strAV)), (5, .str t), (6, .int .i64 i), (17, .bool (decide (i < (((listR s).1).length : Int))))] (AMem.wth m [(d, dObj kb nb s), (nb, mObj s.now)])
 refine hK1 _ _ ?_; clear hK1 K1
 refine awp_cond rfl rfl (fun h1 => ?_) (fun h1 => ?_)
 ·
  replace h1 : i < (((listR s).1).length : Int) := (of_decide_eq_true h1)
  have hn24 := hls _ (gI_mem hI.1 h1)
  have hgl := mget_le (k := gI (listR s).1 i) hvb
  have hql := quoteS_len ((mget s.now (gI (listR s).1 i)).getD [])
  refine awp_skip ?_
  refine hK3 _ _ ?_; clear hK3
  refine awp_seq_k ?_; intro K4 hK4
  refine awp_block ?_
  refine awp_reg2_seq [] [0, 3, 5, 6, 7] (by decide) ?_
  intro K1 hK1
  refine ⟨trivial, trivial, trivial, ?_⟩
  refine ar_index rfl strAV ((listR s).1) i rfl rfl rfl rfl rfl (by decide) (fun _ => rfl) (by omega) (by omega) ?_
  refine ⟨(apartOk_one rfl rfl (Nat.le_of_ble_eq_true rfl)), ?_⟩
  refine u_ReadF d kb nb s (gI ((listR s).1) i) hdn hN _ _ ?_
  show aopsR _ _ _ _ _ _ (AMem.wth m [(d, dObj kb nb s), (nb, mObj s.now)])
  refine ⟨trivial, (Nat.le_of_ble_eq_true rfl), (Nat.le_of_ble_eq_true rfl), trivial, trivial, ?_⟩
  show K1 [(0, .ptr ⟨d, 0, none⟩), (3, .slice false (((listR s).1).map strAV)), (5, .str t), (6, .int .i64 i), (7, .str ((mget s.now (gI ((listR s).1) i)).getD []))] (AMem.wth m [(d, dObj kb nb s), (nb, mObj s.now)])
  refine hK1 _ _ ?_; clear hK1 K1
  refine awp_draw_k Try.mixed [(.str (quoteS ((mget s.now (gI ((listR s).1) i)).getD [])))] [0, 3, 5, 6] (by decide) (by decide) ?_
  intro K1 hK1
  refine ⟨trivial, trivial, trivial, ?_⟩
  refine pq_index rfl strAV ((listR s).1) i rfl rfl rfl rfl rfl (by decide) (fun _ => rfl) (by omega) (by omega) ?_
  refine ⟨(apartOk_one rfl rfl (Nat.le_of_ble_eq_true rfl)), (by first | omega | (simp only [List.length_append, List.length_cons, List.length_nil]; omega)), trivial, (fun Kc hKc => u_Quote ((mget s.now (gI ((listR s).1) i)).getD []) (by first | omega | assumption) _ Kc hKc), (by first | omega | (simp only [List.length_append, List.length_cons, List.length_nil]; omega)), (by first | omega | (simp only [List.length_append, List.length_cons, List.length_nil]; omega)), trivial, ?_⟩
  show K1 [(0, .ptr ⟨d, 0, none⟩), (3, .slice false (((listR s).1).map strAV)), (5, .str (((t ++ (gI ((listR s).1) i)) ++ (quoteS ((mget s.now (gI ((listR s).1) i)).getD []))) ++ ([47] : List UInt8))), (6, .int .i64 i)] (AMem.wth m [(d, dObj kb nb s), (nb, mObj s.now)])
  refine hK1 _ _ ?_; clear hK1 K1
  refine hK4 _ _ ?_; clear hK4
  refine awp_reg2 [] [0, 3, 5, 6] (by decide) ?_
  intro K1 hK1
  refine ⟨trivial, ?_⟩
  refine ar_add rfl (a := i) (b := 1) rfl rfl (by omega) (by omega) ?_
  refine ⟨trivial, ?_⟩
  show K1 [(0, .ptr ⟨d, 0, none⟩), (3, .slice false (((listR s).1).map strAV)), (5, .str (((t ++ (gI ((listR s).1) i)) ++ (quoteS ((mget s.now (gI ((listR s).1) i)).getD []))) ++ ([47] : List UInt8))), (6, .int .i64 (i + 1))] (AMem.wth m [(d, dObj kb nb s), (nb, mObj s.now)])
  refine hK1 _ _ ?_; clear hK1 K1
  refine ⟨(((t ++ (gI ((listR s).1) i)) ++ (quoteS ((mget s.now (gI ((listR s).1) i)).getD []))) ++ ([47] : List UInt8), i + 1), rfl, rfl, ?_, ?_⟩
  ·
   show 0 ≤ ((i + 1 : Int)) ∧ ((i + 1 : Int)) ≤ (listR s).1.length ∧ ((((t ++ (gI ((listR s).1) i)) ++ (quoteS ((mget s.now (gI ((listR s).1) i)).getD []))) ++ ([47] : List UInt8) : (List UInt8))) = ftxt s.now ((listR s).1.take ((i + 1 : Int)).toNat)
   exact ⟨by omega, by omega, by rw [ftxt_step hI.1 h1, ← hI.2.2]⟩
  ·
   show (listR s).1.length - ((i + 1 : Int)).toNat < (listR s).1.length - i.toNat
   omega
 replace h1 : (((listR s).1).length : Int) ≤ i := (Int.not_lt.1 (of_decide_eq_false h1))
 refine awp_exit ?_
 refine hK2 _ _ ?_; clear hK2
 refine awp_reg2_seq [] [2] (by decide) ?_
 intro K1 hK1
 refine ⟨trivial, trivial, ?_⟩
 show K1 [(2, .str t)] (AMem.wth m [(d, dObj kb nb s), (nb, mObj s.now)])
 refine hK1 _ _ ?_; clear hK1 K1
 refine awp_ret ?_
 refine ⟨trivial, (AMem.wth m [(d, dObj kb nb s), (nb, mObj s.now)]), fun _ _ h => h, ?_⟩
 show K (.str t) (AMem.wth m [(d, dObj kb nb s), (nb, mObj s.now)])

 refine K_eq hK (congrArg AV.str ?_)
 rw [hI.2.2, List.take_of_length_le (by omega), filesT, list_keys hdn]

theorem u_changes (k : Str)  (m : AMem)  (K : AV → AMem → Prop) (hK : K (.bool (chgB k)) m) : ACalls Try.prog 66 [.str k] m K := by
 refine acalls_enter Try.func66 rfl (by decide) (Nat.le_of_ble_eq_true rfl) ?_
 show AWP _ _ _ _ [(0, .str k)] m
 refine awp_reg2_seq [] [0] (by decide) ?_
 intro K1 hK1
 refine ⟨trivial, ?_⟩
 show K1 [(0, .str k)] m
 refine hK1 _ _ ?_; clear hK1 K1
 refine awp_reg2_seq [] [2] (by decide) ?_
 intro K1 hK1
 suffices key : K1 [(2, .bool (((((k == ([119, 114, 105, 116, 101] : List UInt8)) || (k == ([97, 112, 112, 101, 110, 100] : List UInt8))) || (k == ([109, 97, 107, 101] : List UInt8))) || (k == ([109, 111, 118, 101] : List UInt8))) || (k == ([114, 101, 109, 111, 118, 101] : List UInt8))))] m by
  refine ⟨trivial, trivial, trivial, ?_⟩
  show aopsR _ _ _ _ _ [(5, .bool (k == ([119, 114, 105, 116, 101] : List UInt8))), (4, .bool (k == ([119, 114, 105, 116, 101] : List UInt8))), (3, .str k), (0, .str k)] _
  revert key
  cases h1 : (k == ([119, 114, 105, 116, 101] : List UInt8))
  ·
   replace h1 : k ≠ ([119, 114, 105, 116, 101] : List UInt8) := (ne_of_beq_false h1)
   intro key
   refine ⟨trivial, trivial, ?_⟩
   refine ⟨trivial, ?_⟩
   show aopsR _ _ _ _ _ [(9, .bool (k == ([97, 112, 112, 101, 110, 100] : List UInt8))), (8, .bool (k == ([97, 112, 112, 101, 110, 100] : List UInt8))), (7, .bool (k == ([97, 112, 112, 101, 110, 100] : List UInt8))), (6, .str k), (5, .bool false), (4, .bool false), (3, .str k), (0, .str k)] _
   revert key
   cases h2 : (k == ([97, 112, 112, 101, 110, 100] : List UInt8))
   ·
    replace h2 : k ≠ ([97, 112, 112, 101, 110, 100] : List UInt8) := (ne_of_beq_false h2)
    intro key
    refine ⟨trivial, trivial, ?_⟩
    refine ⟨trivial, ?_⟩
    show aopsR _ _ _ _ _ [(13, .bool (k == ([109, 97, 107, 101] : List UInt8))), (12, .bool (k == ([109, 97, 107, 101] : List UInt8))), (11, .bool (k == ([109, 97, 107, 101] : List UInt8))), (10, .str k), (9, .bool false), (8, .bool false), (7, .bool false), (6, .str k), (5, .bool false), (4, .bool false), (3, .str k), (0, .str k)] _
    revert key
    cases h3 : (k == ([109, 97, 107, 101] : List UInt8))
    ·
     replace h3 : k ≠ ([109, 97, 107, 101] : List UInt8) := (ne_of_beq_false h3)
     intro key
     refine ⟨trivial, trivial, ?_⟩
     refine ⟨trivial, ?_⟩
     show aopsR _ _ _ _ _ [(17, .bool (k == ([109, 111, 118, 101] : List UInt8))), (16, .bool (k == ([109, 111, 118, 101] : List UInt8))), (15, .bool (k == ([109, 111, 118, 101] : List UInt8))), (14, .str k), (13, .bool false), (12, .bool false), (11, .bool false), (10, .str k), (9, .bool false), (8, .bool false), (7, .bool false), (6, .str k), (5, .bool false), (4, .bool false), (3, .str k), (0, .str k)] _
     revert key
     cases h4 : (k == ([109, 111, 118, 101] : List UInt8))
     ·
      replace h4 : k ≠ ([109, 111, 118, 101] : List UInt8) := (ne_of_beq_false h4)
      intro key
      refine ⟨trivial, trivial, ?_⟩
      refine ⟨trivial, ?_⟩
      exact key
     ·
      replace h4 : k = ([109, 111, 118, 101] : List UInt8) := (eq_of_beq h4)
      intro key
      refine ar_off rfl (ar_off rfl ?_)
      refine ⟨trivial, ?_⟩
      exact key
    ·
     replace h3 : k = ([109, 97, 107, 101] : List UInt8) := (eq_of_beq h3)
     intro key
     refine ar_off rfl (ar_off rfl ?_)
     refine ⟨trivial, ?_⟩
     refine ar_off rfl (ar_off rfl ?_)
     refine ⟨trivial, ?_⟩
     exact key
   ·
    replace h2 : k = ([97, 112, 112, 101, 110, 100] : List UInt8) := (eq_of_beq h2)
    intro key
    refine ar_off rfl (ar_off rfl ?_)
    refine ⟨trivial, ?_⟩
    refine ar_off rfl (ar_off rfl ?_)
    refine ⟨trivial, ?_⟩
    refine ar_off rfl (ar_off rfl ?_)
    refine ⟨trivial, ?_⟩
    exact key
  ·
   replace h1 : k = ([119, 114, 105, 116, 101] : List UInt8) := (eq_of_beq h1)
   intro key
   refine ar_off rfl (ar_off rfl ?_)
   refine ⟨trivial, ?_⟩
   refine ar_off rfl (ar_off rfl ?_)
   refine ⟨trivial, ?_⟩
   refine ar_off rfl (ar_off rfl ?_)
   refine ⟨trivial, ?_⟩
   refine ar_off rfl (ar_off rfl ?_)
   refine ⟨trivial, ?_⟩
   exact key
 refine hK1 _ _ ?_; clear hK1 K1
 refine awp_ret ?_
 refine ⟨trivial, m, fun _ _ h => h, ?_⟩
 show K (.bool (((((k == ([119, 114, 105, 116, 101] : List UInt8)) || (k == ([97, 112, 112, 101, 110, 100] : List UInt8))) || (k == ([109, 97, 107, 101] : List UInt8))) || (k == ([109, 111, 118, 101] : List UInt8))) || (k == ([114, 101, 109, 111, 118, 101] : List UInt8)))) m

 refine K_eq hK (congrArg AV.bool ?_)
 simp [chgB, Bool.or_assoc]

set_option maxHeartbeats 4000000 in
theorem u_act (d kb nb : Nat) (s : DSt) (a : ActT) (N : Nat) (hN : [d, nb, kb].Nodup) (hD : DInv N s) (hNN : N ≤ 100000) (hb : a.s.length ≤ 140737488355328 ∧ a.t.length ≤ 140737488355328) (m : AMem)  (K : AV → AMem → Prop) (hK : K (.err 108 (actR s a).2) (AMem.wth m [(d, dObj kb nb (actR s a).1), (nb, mObj (actR s a).1.now), (kb, mObj (actR s a).1.kept)])) : ACalls Try.prog 64 [.ptr ⟨d, 0, none⟩, actAV a] (AMem.wth m [(d, dObj kb nb s), (nb, mObj s.now), (kb, mObj s.kept)]) K := by
 refine acalls_enter Try.func64 rfl (by decide) (Nat.le_of_ble_eq_true rfl) ?_
 show AWP _ _ _ _ [(0, .ptr ⟨d, 0, none⟩), (1, actAV a)] (AMem.wth m [(d, dObj kb nb s), (nb, mObj s.now), (kb, mObj s.kept)])
 refine awp_reg2_seq [] [0, 3] (by decide) ?_
 intro K1 hK1
 refine ar_box rfl (m := m) (L := [(d, dObj kb nb s), (nb, mObj s.now), (kb, mObj s.kept)]) (v := actAV a) (by rfl) rfl ?_
 intro b1 hb1
 have hFb1 : m b1 = none := wth_none (m := m) (L := [(d, dObj kb nb s), (nb, mObj s.now), (kb, mObj s.kept)]) hb1
 have hNb1 : ([b1, d, nb, kb] : List Nat).Nodup := wth_nodup (m := m) (L := [(d, dObj kb nb s), (nb, mObj s.now), (kb, mObj s.kept)]) hb1 hN
 refine ⟨trivial, ?_⟩
 show K1 [(0, .ptr ⟨d, 0, none⟩), (3, .ptr ⟨b1, 0, none⟩)] (AMem.wth m [(b1, .cells [.str a.kind, .str a.s, .str a.t, .int .i64 a.a, .int .i64 a.b, .int .i64 a.v.kind, .int .i64 a.v.n, .str a.v.s, .slice false (a.v.l.map valIn), .slice false (a.v.f.map fldIn), .slice false (a.names.map strAV)]), (d, dObj kb nb s), (nb, mObj s.now), (kb, mObj s.kept)])
 refine hK1 _ _ ?_; clear hK1 K1
 refine awp_seq_k ?_; intro K2 hK2
 refine awp_reg2_seq [] [0, 3, 6] (by decide) ?_
 intro K1 hK1
 refine ⟨⟨rfl, by decide⟩, ?_⟩
 refine ar_loadp rfl (v := .str a.kind) rfl (wth_get 0 hNb1 rfl) rfl (apartOk_one rfl rfl (Nat.le_of_ble_eq_true rfl)) rfl ?_
 show K1 [(0, .ptr ⟨d, 0, none⟩), (3, .ptr ⟨b1, 0, none⟩), (6, .str a.kind)] (AMem.wth m [(b1, .cells [.str a.kind, .str a.s, .str a.t, .int .i64 a.a, .int .i64 a.b, .int .i64 a.v.kind, .int .i64 a.v.n, .str a.v.s, .slice false (a.v.l.map valIn), .slice false (a.v.f.map fldIn), .slice false (a.names.map strAV)]), (d, dObj kb nb s), (nb, mObj s.now), (kb, mObj s.kept)])
 refine hK1 _ _ ?_; clear hK1 K1
 refine awp_block ?_
 refine awp_reg2_seq [] [0, 3, 6, 7] (by decide) ?_
 intro K1 hK1
 refine ⟨trivial, trivial, ?_⟩
 show K1 [(0, .ptr ⟨d, 0, none⟩), (3, .ptr ⟨b1, 0, none⟩), (6, .str a.kind), (7, .bool (a.kind == ([119, 114, 105, 116, 101] : List UInt8)))] (AMem.wth m [(b1, .cells [.str a.kind, .str a.s, .str a.t, .int .i64 a.a, .int .i64 a.b, .int .i64 a.v.kind, .int .i64 a.v.n, .str a.v.s, .slice false (a.v.l.map valIn), .slice false (a.v.f.map fldIn), .slice false (a.names.map strAV)]), (d, dObj kb nb s), (nb, mObj s.now), (kb, mObj s.kept)])
 refine hK1 _ _ ?_; clear hK1 K1
 refine awp_cond rfl rfl (fun h1 => ?_) (fun h1 => ?_)
 ·
  replace h1 : a.kind = ([119, 114, 105, 116, 101] : List UInt8) := (eq_of_beq h1)
  refine awp_reg2_seq [] [4] (by decide) ?_
  intro K1 hK1
  refine ⟨trivial, ⟨rfl, by decide⟩, ?_⟩
  refine ar_loadp rfl (v := .str a.s) rfl (wth_get 0 hNb1 rfl) rfl (apartOk_one rfl rfl (Nat.le_of_ble_eq_true rfl)) rfl ?_
  refine ⟨⟨rfl, by decide⟩, ?_⟩
  refine ar_loadp rfl (v := .str a.t) rfl (wth_get 0 hNb1 rfl) rfl (apartOk_one rfl rfl (Nat.le_of_ble_eq_true rfl)) rfl ?_
  refine ar_mem (wth_split hNb1 (pick_perm [1, 1, 1] _)) ?_
  refine u_Write3 d kb nb s a.s a.t N (by have q := hNb1; simp at q ⊢; omega) hD (by omega) hb.1 hb.2 _ _ ?_
  show aopsR _ _ _ _ _ _ (AMem.wth (AMem.wth m [(b1, .cells [.str a.kind, .str a.s, .str a.t, .int .i64 a.a, .int .i64 a.b, .int .i64 a.v.kind, .int .i64 a.v.n, .str a.v.s, .slice false (a.v.l.map valIn), .slice false (a.v.f.map fldIn), .slice false (a.names.map strAV)])]) [(d, dObj kb nb ((writeR s a.s a.t).1)), (nb, mObj ((writeR s a.s a.t).1.now)), (kb, mObj ((writeR s a.s a.t).1.kept))])
  refine ar_mem (wth_split (m := m) (L := [(b1, .cells [.str a.kind, .str a.s, .str a.t, .int .i64 a.a, .int .i64 a.b, .int .i64 a.v.kind, .int .i64 a.v.n, .str a.v.s, .slice false (a.v.l.map valIn), .slice false (a.v.f.map fldIn), .slice false (a.names.map strAV)]), (d, dObj kb nb ((writeR s a.s a.t).1)), (nb, mObj ((writeR s a.s a.t).1.now)), (kb, mObj ((writeR s a.s a.t).1.kept))]) hNb1 (pick_perm [1, 1, 1] _)).symm ?_
  refine ⟨trivial, ?_⟩
  show K1 [(4, .err 108 ((writeR s a.s a.t).2))] (AMem.wth m [(b1, .cells [.str a.kind, .str a.s, .str a.t, .int .i64 a.a, .int .i64 a.b, .int .i64 a.v.kind, .int .i64 a.v.n, .str a.v.s, .slice false (a.v.l.map valIn), .slice false (a.v.f.map fldIn), .slice false (a.names.map strAV)]), (d, dObj kb nb ((writeR s a.s a.t).1)), (nb, mObj ((writeR s a.s a.t).1.now)), (kb, mObj ((writeR s a.s a.t).1.kept))])
  refine hK1 _ _ ?_; clear hK1 K1
  refine awp_ret ?_
  refine ⟨trivial, (AMem.wth m [(d, dObj kb nb ((writeR s a.s a.t).1)), (nb, mObj ((writeR s a.s a.t).1.now)), (kb, mObj ((writeR s a.s a.t).1.kept))]), (wth_sub2 (m := m) [(b1, .cells [.str a.kind, .str a.s, .str a.t, .int .i64 a.a, .int .i64 a.b, .int .i64 a.v.kind, .int .i64 a.v.n, .str a.v.s, .slice false (a.v.l.map valIn), .slice false (a.v.f.map fldIn), .slice false (a.names.map strAV)])] [(d, dObj kb nb ((writeR s a.s a.t).1)), (nb, mObj ((writeR s a.s a.t).1.now)), (kb, mObj ((writeR s a.s a.t).1.kept))] hNb1 (by simp only [List.map_cons, List.map_nil, List.forall_mem_cons]; exact ⟨hFb1, fun _ h => by cases h⟩)), ?_⟩
  show K (.err 108 ((writeR s a.s a.t).2)) (AMem.wth m [(d, dObj kb nb ((writeR s a.s a.t).1)), (nb, mObj ((writeR s a.s a.t).1.now)), (kb, mObj ((writeR s a.s a.t).1.kept))])
 
  have e0 : actR s a = (((writeR s a.s a.t).1, (writeR s a.s a.t).2) : DSt × Int) := by
   first | (rw [actR, if_pos h1]; done) | (rw [actR, if_neg h1, if_pos h2]; done) | (rw [actR, if_neg h1, if_neg h2, if_pos h3]; done) | (rw [actR, if_neg h1, if_neg h2, if_neg h3, if_pos h4]; done) | (rw [actR, if_neg h1, if_neg h2, if_neg h3, if_neg h4, if_pos h5]; done) | (rw [actR, if_neg h1, if_neg h2, if_neg h3, if_neg h4, if_neg h5, if_pos h6]; done) | (rw [actR, if_neg h1, if_neg h2, if_neg h3, if_neg h4, if_neg h5, if_neg h6]; done)
  rw [e0] at hK
  exact hK
 replace h1 : a.kind ≠ ([119, 114, 105, 116, 101] : List UInt8) := (ne_of_beq_false h1)
 refine awp_reg2_seq [] [0, 3, 6, 15] (by decide) ?_
 intro K1 hK1
 refine ⟨trivial, trivial, ?_⟩
 show K1 [(0, .ptr ⟨d, 0, none⟩), (3, .ptr ⟨b1, 0, none⟩), (6, .str a.kind), (15, .bool (a.kind == ([97, 112, 112, 101, 110, 100] : List UInt8)))] (AMem.wth m [(b1, .cells [.str a.kind, .str a.s, .str a.t, .int .i64 a.a, .int .i64 a.b, .int .i64 a.v.kind, .int .i64 a.v.n, .str a.v.s, .slice false (a.v.l.map valIn), .slice false (a.v.f.map fldIn), .slice false (a.names.map strAV)]), (d, dObj kb nb s), (nb, mObj s.now), (kb, mObj s.kept)])
 refine hK1 _ _ ?_; clear hK1 K1
 refine awp_cond rfl rfl (fun h2 => ?_) (fun h2 => ?_)
 ·
  replace h2 : a.kind = ([97, 112, 112, 101, 110, 100] : List UInt8) := (eq_of_beq h2)
  refine awp_reg2_seq [] [4] (by decide) ?_
  intro K1 hK1
  refine ⟨trivial, ⟨rfl, by decide⟩, ?_⟩
  refine ar_loadp rfl (v := .str a.s) rfl (wth_get 0 hNb1 rfl) rfl (apartOk_one rfl rfl (Nat.le_of_ble_eq_true rfl)) rfl ?_
  refine ⟨⟨rfl, by decide⟩, ?_⟩
  refine ar_loadp rfl (v := .str a.t) rfl (wth_get 0 hNb1 rfl) rfl (apartOk_one rfl rfl (Nat.le_of_ble_eq_true rfl)) rfl ?_
  refine ar_mem (wth_split hNb1 (pick_perm [1, 1, 1] _)) ?_
  refine u_App3 d kb nb s a.s a.t N (by have q := hNb1; simp at q ⊢; omega) hD (by omega) hb.1 hb.2 _ _ ?_
  show aopsR _ _ _ _ _ _ (AMem.wth (AMem.wth m [(b1, .cells [.str a.kind, .str a.s, .str a.t, .int .i64 a.a, .int .i64 a.b, .int .i64 a.v.kind, .int .i64 a.v.n, .str a.v.s, .slice false (a.v.l.map valIn), .slice false (a.v.f.map fldIn), .slice false (a.names.map strAV)])]) [(d, dObj kb nb ((appR s a.s a.t).1)), (nb, mObj ((appR s a.s a.t).1.now)), (kb, mObj ((appR s a.s a.t).1.kept))])
  refine ar_mem (wth_split (m := m) (L := [(b1, .cells [.str a.kind, .str a.s, .str a.t, .int .i64 a.a, .int .i64 a.b, .int .i64 a.v.kind, .int .i64 a.v.n, .str a.v.s, .slice false (a.v.l.map valIn), .slice false (a.v.f.map fldIn), .slice false (a.names.map strAV)]), (d, dObj kb nb ((appR s a.s a.t).1)), (nb, mObj ((appR s a.s a.t).1.now)), (kb, mObj ((appR s a.s a.t).1.kept))]) hNb1 (pick_perm [1, 1, 1] _)).symm ?_
  refine ⟨trivial, ?_⟩
  show K1 [(4, .err 108 ((appR s a.s a.t).2))] (AMem.wth m [(b1, .cells [.str a.kind, .str a.s, .str a.t, .int .i64 a.a, .int .i64 a.b, .int .i64 a.v.kind, .int .i64 a.v.n, .str a.v.s, .slice false (a.v.l.map valIn), .slice false (a.v.f.map fldIn), .slice false (a.names.map strAV)]), (d, dObj kb nb ((appR s a.s a.t).1)), (nb, mObj ((appR s a.s a.t).1.now)), (kb, mObj ((appR s a.s a.t).1.kept))])
  refine hK1 _ _ ?_; clear hK1 K1
  refine awp_ret ?_
  refine ⟨trivial, (AMem.wth m [(d, dObj kb nb ((appR s a.s a.t).1)), (nb, mObj ((appR s a.s a.t).1.now)), (kb, mObj ((appR s a.s a.t).1.kept))]), (wth_sub2 (m := m) [(b1, .cells [.str a.kind, .str a.s, .str a.t, .int .i64 a.a, .int .i64 a.b, .int .i64 a.v.kind, .int .i64 a.v.n, .str a.v.s, .slice false (a.v.l.map valIn), .slice false (a.v.f.map fldIn), .slice false (a.names.map strAV)])] [(d, dObj kb nb ((appR s a.s a.t).1)), (nb, mObj ((appR s a.s a.t).1.now)), (kb, mObj ((appR s a.s a.t).1.kept))] hNb1 (by simp only [List.map_cons, List.map_nil, List.forall_mem_cons]; exact ⟨hFb1, fun _ h => by cases h⟩)), ?_⟩
  show K (.err 108 ((appR s a.s a.t).2)) (AMem.wth m [(d, dObj kb nb ((appR s a.s a.t).1)), (nb, mObj ((appR s a.s a.t).1.now)), (kb, mObj ((appR s a.s a.t).1.kept))])
 
  have e0 : actR s a = (((appR s a.s a.t).1, (appR s a.s a.t).2) : DSt × Int) := by
   first | (rw [actR, if_pos h1]; done) | (rw [actR, if_neg h1, if_pos h2]; done) | (rw [actR, if_neg h1, if_neg h2, if_pos h3]; done) | (rw [actR, if_neg h1, if_neg h2, if_neg h3, if_pos h4]; done) | (rw [actR, if_neg h1, if_neg h2, if_neg h3, if_neg h4, if_pos h5]; done) | (rw [actR, if_neg h1, if_neg h2, if_neg h3, if_neg h4, if_neg h5, if_pos h6]; done) | (rw [actR, if_neg h1, if_neg h2, if_neg h3, if_neg h4, if_neg h5, if_neg h6]; done)
  rw [e0] at hK
  exact hK
 replace h2 : a.kind ≠ ([97, 112, 112, 101, 110, 100] : List UInt8) := (ne_of_beq_false h2)
 refine awp_reg2_seq [] [0, 3, 6, 23] (by decide) ?_
 intro K1 hK1
 refine ⟨trivial, trivial, ?_⟩
 show K1 [(0, .ptr ⟨d, 0, none⟩), (3, .ptr ⟨b1, 0, none⟩), (6, .str a.kind), (23, .bool (a.kind == ([109, 97, 107, 101] : List UInt8)))] (AMem.wth m [(b1, .cells [.str a.kind, .str a.s, .str a.t, .int .i64 a.a, .int .i64 a.b, .int .i64 a.v.kind, .int .i64 a.v.n, .str a.v.s, .slice false (a.v.l.map valIn), .slice false (a.v.f.map fldIn), .slice false (a.names.map strAV)]), (d, dObj kb nb s), (nb, mObj s.now), (kb, mObj s.kept)])
 refine hK1 _ _ ?_; clear hK1 K1
 refine awp_cond rfl rfl (fun h3 => ?_) (fun h3 => ?_)
 ·
  replace h3 : a.kind = ([109, 97, 107, 101] : List UInt8) := (eq_of_beq h3)
  refine awp_reg2_seq [] [4] (by decide) ?_
  intro K1 hK1
  refine ⟨trivial, ⟨rfl, by decide⟩, ?_⟩
  refine ar_loadp rfl (v := .str a.s) rfl (wth_get 0 hNb1 rfl) rfl (apartOk_one rfl rfl (Nat.le_of_ble_eq_true rfl)) rfl ?_
  refine ⟨⟨rfl, by decide⟩, ?_⟩
  refine ar_loadp rfl (v := .str a.t) rfl (wth_get 0 hNb1 rfl) rfl (apartOk_one rfl rfl (Nat.le_of_ble_eq_true rfl)) rfl ?_
  refine ar_mem (wth_split hNb1 (pick_perm [1, 1, 1] _)) ?_
  refine u_Make3 d kb nb s a.s a.t N (by have q := hNb1; simp at q ⊢; omega) hD (by omega) hb.1 hb.2 _ _ ?_
  show aopsR _ _ _ _ _ _ (AMem.wth (AMem.wth m [(b1, .cells [.str a.kind, .str a.s, .str a.t, .int .i64 a.a, .int .i64 a.b, .int .i64 a.v.kind, .int .i64 a.v.n, .str a.v.s, .slice false (a.v.l.map valIn), .slice false (a.v.f.map fldIn), .slice false (a.names.map strAV)])]) [(d, dObj kb nb ((makeR s a.s a.t).1)), (nb, mObj ((makeR s a.s a.t).1.now)), (kb, mObj ((makeR s a.s a.t).1.kept))])
  refine ar_mem (wth_split (m := m) (L := [(b1, .cells [.str a.kind, .str a.s, .str a.t, .int .i64 a.a, .int .i64 a.b, .int .i64 a.v.kind, .int .i64 a.v.n, .str a.v.s, .slice false (a.v.l.map valIn), .slice false (a.v.f.map fldIn), .slice false (a.names.map strAV)]), (d, dObj kb nb ((makeR s a.s a.t).1)), (nb, mObj ((makeR s a.s a.t).1.now)), (kb, mObj ((makeR s a.s a.t).1.kept))]) hNb1 (pick_perm [1, 1, 1] _)).symm ?_
  refine ⟨trivial, ?_⟩
  show K1 [(4, .err 108 ((makeR s a.s a.t).2))] (AMem.wth m [(b1, .cells [.str a.kind, .str a.s, .str a.t, .int .i64 a.a, .int .i64 a.b, .int .i64 a.v.kind, .int .i64 a.v.n, .str a.v.s, .slice false (a.v.l.map valIn), .slice false (a.v.f.map fldIn), .slice false (a.names.map strAV)]), (d, dObj kb nb ((makeR s a.s a.t).1)), (nb, mObj ((makeR s a.s a.t).1.now)), (kb, mObj ((makeR s a.s a.t).1.kept))])
  refine hK1 _ _ ?_; clear hK1 K1
  refine awp_ret ?_
  refine ⟨trivial, (AMem.wth m [(d, dObj kb nb ((makeR s a.s a.t).1)), (nb, mObj ((makeR s a.s a.t).1.now)), (kb, mObj ((makeR s a.s a.t).1.kept))]), (wth_sub2 (m := m) [(b1, .cells [.str a.kind, .str a.s, .str a.t, .int .i64 a.a, .int .i64 a.b, .int .i64 a.v.kind, .int .i64 a.v.n, .str a.v.s, .slice false (a.v.l.map valIn), .slice false (a.v.f.map fldIn), .slice false (a.names.map strAV)])] [(d, dObj kb nb ((makeR s a.s a.t).1)), (nb, mObj ((makeR s a.s a.t).1.now)), (kb, mObj ((makeR s a.s a.t).1.kept))] hNb1 (by simp only [List.map_cons, List.map_nil, List.forall_mem_cons]; exact ⟨hFb1, fun _ h => by cases h⟩)), ?_⟩
  show K (.err 108 ((makeR s a.s a.t).2)) (AMem.wth m [(d, dObj kb nb ((makeR s a.s a.t).1)), (nb, mObj ((makeR s a.s a.t).1.now)), (kb, mObj ((makeR s a.s a.t).1.kept))])
 
  have e0 : actR s a = (((makeR s a.s a.t).1, (makeR s a.s a.t).2) : DSt × Int) := by
   first | (rw [actR, if_pos h1]; done) | (rw [actR, if_neg h1, if_pos h2]; done) | (rw [actR, if_neg h1, if_neg h2, if_pos h3]; done) | (rw [actR, if_neg h1, if_neg h2, if_neg h3, if_pos h4]; done) | (rw [actR, if_neg h1, if_neg h2, if_neg h3, if_neg h4, if_pos h5]; done) | (rw [actR, if_neg h1, if_neg h2, if_neg h3, if_neg h4, if_neg h5, if_pos h6]; done) | (rw [actR, if_neg h1, if_neg h2, if_neg h3, if_neg h4, if_neg h5, if_neg h6]; done)
  rw [e0] at hK
  exact hK
 replace h3 : a.kind ≠ ([109, 97, 107, 101] : List UInt8) := (ne_of_beq_false h3)
 refine awp_reg2_seq [] [0, 3, 6, 31] (by decide) ?_
 intro K1 hK1
 refine ⟨trivial, trivial, ?_⟩
 show K1 [(0, .ptr ⟨d, 0, none⟩), (3, .ptr ⟨b1, 0, none⟩), (6, .str a.kind), (31, .bool (a.kind == ([109, 111, 118, 101] : List UInt8)))] (AMem.wth m [(b1, .cells [.str a.kind, .str a.s, .str a.t, .int .i64 a.a, .int .i64 a.b, .int .i64 a.v.kind, .int .i64 a.v.n, .str a.v.s, .slice false (a.v.l.map valIn), .slice false (a.v.f.map fldIn), .slice false (a.names.map strAV)]), (d, dObj kb nb s), (nb, mObj s.now), (kb, mObj s.kept)])
 refine hK1 _ _ ?_; clear hK1 K1
 refine awp_cond rfl rfl (fun h4 => ?_) (fun h4 => ?_)
 ·
  replace h4 : a.kind = ([109, 111, 118, 101] : List UInt8) := (eq_of_beq h4)
  refine awp_reg2_seq [] [4] (by decide) ?_
  intro K1 hK1
  refine ⟨trivial, ⟨rfl, by decide⟩, ?_⟩
  refine ar_loadp rfl (v := .str a.s) rfl (wth_get 0 hNb1 rfl) rfl (apartOk_one rfl rfl (Nat.le_of_ble_eq_true rfl)) rfl ?_
  refine ⟨⟨rfl, by decide⟩, ?_⟩
  refine ar_loadp rfl (v := .str a.t) rfl (wth_get 0 hNb1 rfl) rfl (apartOk_one rfl rfl (Nat.le_of_ble_eq_true rfl)) rfl ?_
  refine ar_mem (wth_split hNb1 (pick_perm [1, 1, 1] _)) ?_
  refine u_Move3 d kb nb s a.s a.t N (by have q := hNb1; simp at q ⊢; omega) hD (by omega) hb.1 hb.2 _ _ ?_
  show aopsR _ _ _ _ _ _ (AMem.wth (AMem.wth m [(b1, .cells [.str a.kind, .str a.s, .str a.t, .int .i64 a.a, .int .i64 a.b, .int .i64 a.v.kind, .int .i64 a.v.n, .str a.v.s, .slice false (a.v.l.map valIn), .slice false (a.v.f.map fldIn), .slice false (a.names.map strAV)])]) [(d, dObj kb nb ((moveR s a.s a.t).1)), (nb, mObj ((moveR s a.s a.t).1.now)), (kb, mObj ((moveR s a.s a.t).1.kept))])
  refine ar_mem (wth_split (m := m) (L := [(b1, .cells [.str a.kind, .str a.s, .str a.t, .int .i64 a.a, .int .i64 a.b, .int .i64 a.v.kind, .int .i64 a.v.n, .str a.v.s, .slice false (a.v.l.map valIn), .slice false (a.v.f.map fldIn), .slice false (a.names.map strAV)]), (d, dObj kb nb ((moveR s a.s a.t).1)), (nb, mObj ((moveR s a.s a.t).1.now)), (kb, mObj ((moveR s a.s a.t).1.kept))]) hNb1 (pick_perm [1, 1, 1] _)).symm ?_
  refine ⟨trivial, ?_⟩
  show K1 [(4, .err 108 ((moveR s a.s a.t).2))] (AMem.wth m [(b1, .cells [.str a.kind, .str a.s, .str a.t, .int .i64 a.a, .int .i64 a.b, .int .i64 a.v.kind, .int .i64 a.v.n, .str a.v.s, .slice false (a.v.l.map valIn), .slice false (a.v.f.map fldIn), .slice false (a.names.map strAV)]), (d, dObj kb nb ((moveR s a.s a.t).1)), (nb, mObj ((moveR s a.s a.t).1.now)), (kb, mObj ((moveR s a.s a.t).1.kept))])
  refine hK1 _ _ ?_; clear hK1 K1
  refine awp_ret ?_
  refine ⟨trivial, (AMem.wth m [(d, dObj kb nb ((moveR s a.s a.t).1)), (nb, mObj ((moveR s a.s a.t).1.now)), (kb, mObj ((moveR s a.s a.t).1.kept))]), (wth_sub2 (m := m) [(b1, .cells [.str a.kind, .str a.s, .str a.t, .int .i64 a.a, .int .i64 a.b, .int .i64 a.v.kind, .int .i64 a.v.n, .str a.v.s, .slice false (a.v.l.map valIn), .slice false (a.v.f.map fldIn), .slice false (a.names.map strAV)])] [(d, dObj kb nb ((moveR s a.s a.t).1)), (nb, mObj ((moveR s a.s a.t).1.now)), (kb, mObj ((moveR s a.s a.t).1.kept))] hNb1 (by simp only [List.map_cons, List.map_nil, List.forall_mem_cons]; exact ⟨hFb1, fun _ h => by cases h⟩)), ?_⟩
  show K (.err 108 ((moveR s a.s a.t).2)) (AMem.wth m [(d, dObj kb nb ((moveR s a.s a.t).1)), (nb, mObj ((moveR s a.s a.t).1.now)), (kb, mObj ((moveR s a.s a.t).1.kept))])
 
  have e0 : actR s a = (((moveR s a.s a.t).1, (moveR s a.s a.t).2) : DSt × Int) := by
   first | (rw [actR, if_pos h1]; done) | (rw [actR, if_neg h1, if_pos h2]; done) | (rw [actR, if_neg h1, if_neg h2, if_pos h3]; done) | (rw [actR, if_neg h1, if_neg h2, if_neg h3, if_pos h4]; done) | (rw [actR, if_neg h1, if_neg h2, if_neg h3, if_neg h4, if_pos h5]; done) | (rw [actR, if_neg h1, if_neg h2, if_neg h3, if_neg h4, if_neg h5, if_pos h6]; done) | (rw [actR, if_neg h1, if_neg h2, if_neg h3, if_neg h4, if_neg h5, if_neg h6]; done)
  rw [e0] at hK
  exact hK
 replace h4 : a.kind ≠ ([109, 111, 118, 101] : List UInt8) := (ne_of_beq_false h4)
 refine awp_reg2_seq [] [0, 3, 6, 39] (by decide) ?_
 intro K1 hK1
 refine ⟨trivial, trivial, ?_⟩
 show K1 [(0, .ptr ⟨d, 0, none⟩), (3, .ptr ⟨b1, 0, none⟩), (6, .str a.kind), (39, .bool (a.kind == ([114, 101, 109, 111, 118, 101] : List UInt8)))] (AMem.wth m [(b1, .cells [.str a.kind, .str a.s, .str a.t, .int .i64 a.a, .int .i64 a.b, .int .i64 a.v.kind, .int .i64 a.v.n, .str a.v.s, .slice false (a.v.l.map valIn), .slice false (a.v.f.map fldIn), .slice false (a.names.map strAV)]), (d, dObj kb nb s), (nb, mObj s.now), (kb, mObj s.kept)])
 refine hK1 _ _ ?_; clear hK1 K1
 refine awp_cond rfl rfl (fun h5 => ?_) (fun h5 => ?_)
 ·
  replace h5 : a.kind = ([114, 101, 109, 111, 118, 101] : List UInt8) := (eq_of_beq h5)
  refine awp_reg2_seq [] [4] (by decide) ?_
  intro K1 hK1
  refine ⟨trivial, ⟨rfl, by decide⟩, ?_⟩
  refine ar_loadp rfl (v := .str a.s) rfl (wth_get 0 hNb1 rfl) rfl (apartOk_one rfl rfl (Nat.le_of_ble_eq_true rfl)) rfl ?_
  refine ar_mem (wth_split hNb1 (pick_perm [1, 1, 1] _)) ?_
  refine u_Remove3 d kb nb s a.s N (by have q := hNb1; simp at q ⊢; omega) hD (by omega) hb.1 _ _ ?_
  show aopsR _ _ _ _ _ _ (AMem.wth (AMem.wth m [(b1, .cells [.str a.kind, .str a.s, .str a.t, .int .i64 a.a, .int .i64 a.b, .int .i64 a.v.kind, .int .i64 a.v.n, .str a.v.s, .slice false (a.v.l.map valIn), .slice false (a.v.f.map fldIn), .slice false (a.names.map strAV)])]) [(d, dObj kb nb ((remR s a.s).1)), (nb, mObj ((remR s a.s).1.now)), (kb, mObj ((remR s a.s).1.kept))])
  refine ar_mem (wth_split (m := m) (L := [(b1, .cells [.str a.kind, .str a.s, .str a.t, .int .i64 a.a, .int .i64 a.b, .int .i64 a.v.kind, .int .i64 a.v.n, .str a.v.s, .slice false (a.v.l.map valIn), .slice false (a.v.f.map fldIn), .slice false (a.names.map strAV)]), (d, dObj kb nb ((remR s a.s).1)), (nb, mObj ((remR s a.s).1.now)), (kb, mObj ((remR s a.s).1.kept))]) hNb1 (pick_perm [1, 1, 1] _)).symm ?_
  refine ⟨trivial, ?_⟩
  show K1 [(4, .err 108 ((remR s a.s).2))] (AMem.wth m [(b1, .cells [.str a.kind, .str a.s, .str a.t, .int .i64 a.a, .int .i64 a.b, .int .i64 a.v.kind, .int .i64 a.v.n, .str a.v.s, .slice false (a.v.l.map valIn), .slice false (a.v.f.map fldIn), .slice false (a.names.map strAV)]), (d, dObj kb nb ((remR s a.s).1)), (nb, mObj ((remR s a.s).1.now)), (kb, mObj ((remR s a.s).1.kept))])
  refine hK1 _ _ ?_; clear hK1 K1
  refine awp_ret ?_
  refine ⟨trivial, (AMem.wth m [(d, dObj kb nb ((remR s a.s).1)), (nb, mObj ((remR s a.s).1.now)), (kb, mObj ((remR s a.s).1.kept))]), (wth_sub2 (m := m) [(b1, .cells [.str a.kind, .str a.s, .str a.t, .int .i64 a.a, .int .i64 a.b, .int .i64 a.v.kind, .int .i64 a.v.n, .str a.v.s, .slice false (a.v.l.map valIn), .slice false (a.v.f.map fldIn), .slice false (a.names.map strAV)])] [(d, dObj kb nb ((remR s a.s).1)), (nb, mObj ((remR s a.s).1.now)), (kb, mObj ((remR s a.s).1.kept))] hNb1 (by simp only [List.map_cons, List.map_nil, List.forall_mem_cons]; exact ⟨hFb1, fun _ h => by cases h⟩)), ?_⟩
  show K (.err 108 ((remR s a.s).2)) (AMem.wth m [(d, dObj kb nb ((remR s a.s).1)), (nb, mObj ((remR s a.s).1.now)), (kb, mObj ((remR s a.s).1.kept))])
 
  have e0 : actR s a = (((remR s a.s).1, (remR s a.s).2) : DSt × Int) := by
   first | (rw [actR, if_pos h1]; done) | (rw [actR, if_neg h1, if_pos h2]; done) | (rw [actR, if_neg h1, if_neg h2, if_pos h3]; done) | (rw [actR, if_neg h1, if_neg h2, if_neg h3, if_pos h4]; done) | (rw [actR, if_neg h1, if_neg h2, if_neg h3, if_neg h4, if_pos h5]; done) | (rw [actR, if_neg h1, if_neg h2, if_neg h3, if_neg h4, if_neg h5, if_pos h6]; done) | (rw [actR, if_neg h1, if_neg h2, if_neg h3, if_neg h4, if_neg h5, if_neg h6]; done)
  rw [e0] at hK
  exact hK
 replace h5 : a.kind ≠ ([114, 101, 109, 111, 118, 101] : List UInt8) := (ne_of_beq_false h5)
 refine awp_reg2_seq [] [0, 45] (by decide) ?_
 intro K1 hK1
 refine ⟨trivial, trivial, ?_⟩
 show K1 [(0, .ptr ⟨d, 0, none⟩), (45, .bool (a.kind == ([115, 121, 110, 99] : List UInt8)))] (AMem.wth m [(b1, .cells [.str a.kind, .str a.s, .str a.t, .int .i64 a.a, .int .i64 a.b, .int .i64 a.v.kind, .int .i64 a.v.n, .str a.v.s, .slice false (a.v.l.map valIn), .slice false (a.v.f.map fldIn), .slice false (a.names.map strAV)]), (d, dObj kb nb s), (nb, mObj s.now), (kb, mObj s.kept)])
 refine hK1 _ _ ?_; clear hK1 K1
 refine awp_cond rfl rfl (fun h6 => ?_) (fun h6 => ?_)
 ·
  replace h6 : a.kind = ([115, 121, 110, 99] : List UInt8) := (eq_of_beq h6)
  refine awp_reg2_seq [] [4] (by decide) ?_
  intro K1 hK1
  refine ⟨trivial, ?_⟩
  refine ar_mem (wth_split hNb1 (pick_perm [1, 2, 1] _)) ?_
  refine u_Sync3 d kb nb s N (by have q := hNb1; simp at q ⊢; omega) hD (by omega) _ _ ?_
  show aopsR _ _ _ _ _ _ (AMem.wth (AMem.wth m [(b1, .cells [.str a.kind, .str a.s, .str a.t, .int .i64 a.a, .int .i64 a.b, .int .i64 a.v.kind, .int .i64 a.v.n, .str a.v.s, .slice false (a.v.l.map valIn), .slice false (a.v.f.map fldIn), .slice false (a.names.map strAV)])]) [(d, dObj kb nb ((syncF s).1)), (kb, mObj ((syncF s).1.kept)), (nb, mObj ((syncF s).1.now))])
  refine ar_mem (wth_split (m := m) (L := [(b1, .cells [.str a.kind, .str a.s, .str a.t, .int .i64 a.a, .int .i64 a.b, .int .i64 a.v.kind, .int .i64 a.v.n, .str a.v.s, .slice false (a.v.l.map valIn), .slice false (a.v.f.map fldIn), .slice false (a.names.map strAV)]), (d, dObj kb nb ((syncF s).1)), (nb, mObj ((syncF s).1.now)), (kb, mObj ((syncF s).1.kept))]) hNb1 (pick_perm [1, 2, 1] _)).symm ?_
  refine ⟨trivial, ?_⟩
  show K1 [(4, .err 108 ((syncF s).2))] (AMem.wth m [(b1, .cells [.str a.kind, .str a.s, .str a.t, .int .i64 a.a, .int .i64 a.b, .int .i64 a.v.kind, .int .i64 a.v.n, .str a.v.s, .slice false (a.v.l.map valIn), .slice false (a.v.f.map fldIn), .slice false (a.names.map strAV)]), (d, dObj kb nb ((syncF s).1)), (nb, mObj ((syncF s).1.now)), (kb, mObj ((syncF s).1.kept))])
  refine hK1 _ _ ?_; clear hK1 K1
  refine awp_ret ?_
  refine ⟨trivial, (AMem.wth m [(d, dObj kb nb ((syncF s).1)), (nb, mObj ((syncF s).1.now)), (kb, mObj ((syncF s).1.kept))]), (wth_sub2 (m := m) [(b1, .cells [.str a.kind, .str a.s, .str a.t, .int .i64 a.a, .int .i64 a.b, .int .i64 a.v.kind, .int .i64 a.v.n, .str a.v.s, .slice false (a.v.l.map valIn), .slice false (a.v.f.map fldIn), .slice false (a.names.map strAV)])] [(d, dObj kb nb ((syncF s).1)), (nb, mObj ((syncF s).1.now)), (kb, mObj ((syncF s).1.kept))] hNb1 (by simp only [List.map_cons, List.map_nil, List.forall_mem_cons]; exact ⟨hFb1, fun _ h => by cases h⟩)), ?_⟩
  show K (.err 108 ((syncF s).2)) (AMem.wth m [(d, dObj kb nb ((syncF s).1)), (nb, mObj ((syncF s).1.now)), (kb, mObj ((syncF s).1.kept))])
 
  have e0 : actR s a = (((syncF s).1, (syncF s).2) : DSt × Int) := by
   first | (rw [actR, if_pos h1]; done) | (rw [actR, if_neg h1, if_pos h2]; done) | (rw [actR, if_neg h1, if_neg h2, if_pos h3]; done) | (rw [actR, if_neg h1, if_neg h2, if_neg h3, if_pos h4]; done) | (rw [actR, if_neg h1, if_neg h2, if_neg h3, if_neg h4, if_pos h5]; done) | (rw [actR, if_neg h1, if_neg h2, if_neg h3, if_neg h4, if_neg h5, if_pos h6]; done) | (rw [actR, if_neg h1, if_neg h2, if_neg h3, if_neg h4, if_neg h5, if_neg h6]; done)
  rw [e0] at hK
  exact hK
 replace h6 : a.kind ≠ ([115, 121, 110, 99] : List UInt8) := (ne_of_beq_false h6)
 refine awp_skip ?_
 refine hK2 _ _ ?_; clear hK2
 refine awp_reg2_seq [] [4] (by decide) ?_
 intro K1 hK1
 refine ⟨trivial, ?_⟩
 show K1 [(4, .nilIface)] (AMem.wth m [(b1, .cells [.str a.kind, .str a.s, .str a.t, .int .i64 a.a, .int .i64 a.b, .int .i64 a.v.kind, .int .i64 a.v.n, .str a.v.s, .slice false (a.v.l.map valIn), .slice false (a.v.f.map fldIn), .slice false (a.names.map strAV)]), (d, dObj kb nb s), (nb, mObj s.now), (kb, mObj s.kept)])
 refine hK1 _ _ ?_; clear hK1 K1
 refine awp_toErr 108 [4] ?_
 show AWP _ _ _ _ [(4, .err 108 0)] (AMem.wth m [(b1, .cells [.str a.kind, .str a.s, .str a.t, .int .i64 a.a, .int .i64 a.b, .int .i64 a.v.kind, .int .i64 a.v.n, .str a.v.s, .slice false (a.v.l.map valIn), .slice false (a.v.f.map fldIn), .slice false (a.names.map strAV)]), (d, dObj kb nb s), (nb, mObj s.now), (kb, mObj s.kept)])
 refine awp_ret ?_
 refine ⟨trivial, (AMem.wth m [(d, dObj kb nb s), (nb, mObj s.now), (kb, mObj s.kept)]), (wth_sub2 (m := m) [(b1, .cells [.str a.kind, .str a.s, .str a.t, .int .i64 a.a, .int .i64 a.b, .int .i64 a.v.kind, .int .i64 a.v.n, .str a.v.s, .slice false (a.v.l.map valIn), .slice false (a.v.f.map fldIn), .slice false (a.names.map strAV)])] [(d, dObj kb nb s), (nb, mObj s.now), (kb, mObj s.kept)] hNb1 (by simp only [List.map_cons, List.map_nil, List.forall_mem_cons]; exact ⟨hFb1, fun _ h => by cases h⟩)), ?_⟩
 show K (.err 108 0) (AMem.wth m [(d, dObj kb nb s), (nb, mObj s.now), (kb, mObj s.kept)])

 have e0 : actR s a = ((s, 0) : DSt × Int) := by
  first | (rw [actR, if_pos h1]; done) | (rw [actR, if_neg h1, if_pos h2]; done) | (rw [actR, if_neg h1, if_neg h2, if_pos h3]; done) | (rw [actR, if_neg h1, if_neg h2, if_neg h3, if_pos h4]; done) | (rw [actR, if_neg h1, if_neg h2, if_neg h3, if_neg h4, if_pos h5]; done) | (rw [actR, if_neg h1, if_neg h2, if_neg h3, if_neg h4, if_neg h5, if_pos h6]; done) | (rw [actR, if_neg h1, if_neg h2, if_neg h3, if_neg h4, if_neg h5, if_neg h6]; done)
 rw [e0] at hK
 exact hK

end Go.Proofs
