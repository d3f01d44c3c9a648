import Derived.Test.YtoeghipbkmaccaaProg
import Derived.Test.YtoeghipbkmaccaaWl5
import Derived.Test.YtoeghipbkmaccaaWxr
import Derived.Test.YtoeghipbkmaccaaDk6
import Derived.Test.YtoeghipbkmaccaaDk3
section
namespace Go.Proofs
open Go Go.Aw
set_option maxRecDepth 100000


theorem bl_iff {a b : Str} : Op.bytesLess a b = true ↔ a < b := by
  induction a generalizing b with
  | nil => cases b with
    | nil => simp [Op.bytesLess]
    | cons y b => simp [Op.bytesLess]
  | cons x a ih => cases b with
    | nil => simp [Op.bytesLess]
    | cons y b =>
      rw [Op.bytesLess, List.cons_lt_cons_iff]
      simp [ih]
theorem lt_irr (a : Str) : ¬ a < a := List.lt_irrefl a
/-- Files of the model: rising. -/
def Srt (l : List (Str × Str)) : Prop := l.Pairwise fun a b => a.1 < b.1
theorem Srt.nd {l : List (Str × Str)} (h : Srt l) : (l.map Prod.fst).Nodup := by
  rw [List.nodup_iff_pairwise_ne, List.pairwise_map]
  exact h.imp fun {a b} h (e : a.1 = b.1) => lt_irr b.1 (by rw [e] at h; exact h)
theorem lt_tri {a b : Str} (h1 : ¬ a < b) (h2 : a ≠ b) : b < a := by
  rcases Classical.em (b < a) with h | h
  · exact h
  · exact absurd (List.le_antisymm (show a ≤ b from h) (show b ≤ a from h1)) h2
def putI : List (Str × Str) → Str × Str → List (Str × Str)
  | [], f => [f]
  | x :: r, f => if Op.bytesLess f.1 x.1 = true ∨ f.1 = x.1 then f :: woR (x :: r) f.1 else x :: putI r f
theorem putS_true (f : Str × Str) (l o : List (Str × Str)) : l.foldl (putS f) (o, true) = (o ++ woR l f.1, true) := by
  induction l generalizing o with
  | nil => simp [woR]
  | cons x r ih =>
    rw [List.foldl_cons]
    by_cases h : x.1 = f.1
    · have e : putS f (o, true) x = (o, true) := by simp [putS, h]
      rw [e, ih]; simp [woR, h]
    · have e : putS f (o, true) x = (o ++ [x], true) := by simp [putS, h]
      rw [e, ih]; simp [woR, h]
theorem putS_false (f : Str × Str) (l : List (Str × Str)) : ∀ (o : List (Str × Str)), (if (l.foldl (putS f) (o, false)).2 = true then (l.foldl (putS f) (o, false)).1 else (l.foldl (putS f) (o, false)).1 ++ [f]) = o ++ putI l f := by
  induction l with
  | nil => intro o; simp [putI]
  | cons x r ih =>
    intro o
    rw [List.foldl_cons, putI]
    by_cases h : Op.bytesLess f.1 x.1 = true ∨ f.1 = x.1
    · rw [if_pos h]
      by_cases h2 : x.1 = f.1
      · have e : putS f (o, false) x = (o ++ [f], true) := by simp [putS, h2]
        rw [e, putS_true]; simp [woR, h2]
      · have e : putS f (o, false) x = (o ++ [f] ++ [x], true) := by
          unfold putS; rw [if_pos ⟨rfl, h⟩, if_pos h2]
        rw [e, putS_true]; simp [woR, h2]
    · rw [if_neg h]
      have h2 : x.1 ≠ f.1 := fun e => h (.inr e.symm)
      have e : putS f (o, false) x = (o ++ [x], false) := by
        unfold putS; rw [if_neg (fun c => h c.2), if_pos h2]
      rw [e, ih]; simp
theorem putR_I (l : List (Str × Str)) (f : Str × Str) : putR l f = putI l f := by
  have := putS_false f l []
  simpa [putR] using this
theorem mget_wo (l : List (Str × Str)) (n k : Str) : mget (woR l n) k = if n = k then none else mget l k := by
  induction l with
  | nil => simp [woR, mget]
  | cons p r ih =>
    obtain ⟨a, b⟩ := p
    by_cases h : a = n
    · subst h
      have e : woR ((a, b) :: r) a = woR r a := by simp [woR]
      rw [e, ih]; simp only [mget]
      split <;> rfl
    · have e : woR ((a, b) :: r) n = (a, b) :: woR r n := by simp [woR, h]
      rw [e]; simp only [mget, ih]
      split
      · rename_i h2; subst h2; rw [if_neg (Ne.symm h)]
      · rfl
theorem mget_putI (l : List (Str × Str)) (f : Str × Str) (k : Str) : mget (putI l f) k = if f.1 = k then some f.2 else mget l k := by
  induction l with
  | nil => obtain ⟨a, b⟩ := f; simp [putI, mget]
  | cons p r ih =>
    rw [putI]
    split
    · obtain ⟨a, b⟩ := f
      simp only [mget, mget_wo]
      split <;> rfl
    · rename_i h
      obtain ⟨a, b⟩ := p
      simp only [mget, ih]
      split
      · rename_i h2; subst h2; rw [if_neg (fun e => h (.inr e))]
      · rfl
theorem wo_mem {l : List (Str × Str)} {n : Str} {p : Str × Str} (h : p ∈ woR l n) : p ∈ l ∧ p.1 ≠ n := by
  have := List.mem_filter.1 h
  exact ⟨this.1, by simpa using this.2⟩
theorem putI_mem {l : List (Str × Str)} {f p : Str × Str} (h : p ∈ putI l f) : p ∈ l ∨ p = f := by
  induction l with
  | nil => simp [putI] at h; exact .inr h
  | cons x r ih =>
    rw [putI] at h
    split at h
    · rcases List.mem_cons.1 h with h | h
      · exact .inr h
      · exact .inl (wo_mem h).1
    · rcases List.mem_cons.1 h with h | h
      · exact .inl (by simp [h])
      · rcases ih h with h | h
        · exact .inl (by simp [h])
        · exact .inr h
theorem Srt.wo {l : List (Str × Str)} (h : Srt l) (n : Str) : Srt (woR l n) := List.Pairwise.filter _ h
theorem srt_putI {l : List (Str × Str)} (h : Srt l) (f : Str × Str) : Srt (putI l f) := by
  induction l with
  | nil => simp [putI, Srt]
  | cons x r ih =>
    have h1 := List.pairwise_cons.1 h
    rw [putI]
    split
    · rename_i hc
      refine List.pairwise_cons.2 ⟨fun y hy => ?_, h.wo _⟩
      have := wo_mem hy
      rcases List.mem_cons.1 this.1 with e | hr
      · subst e
        rcases hc with hc | hc
        · exact bl_iff.1 hc
        · exact absurd hc.symm this.2
      · have h2 := h1.1 y hr
        rcases hc with hc | hc
        · exact List.lt_trans (bl_iff.1 hc) h2
        · rw [hc]; exact h2
    · rename_i hc
      have hx : x.1 < f.1 := lt_tri (fun e => hc (.inl (bl_iff.2 e))) (fun e => hc (.inr e))
      refine List.pairwise_cons.2 ⟨fun y hy => ?_, ih h1.2⟩
      rcases putI_mem hy with hy | hy
      · exact h1.1 y hy
      · subst hy; exact hx
theorem mget_mput2 (l : List (Str × Str)) (k v k' : Str) : mget (mput l k v) k' = if k = k' then some v else mget l k' := by
  induction l with
  | nil => simp [mput, mget]
  | cons p r ih =>
    obtain ⟨a, b⟩ := p
    simp only [mput]
    split
    · rename_i h; subst h; simp only [mget]; split <;> rfl
    · rename_i h
      simp only [mget, ih]
      split
      · rename_i h2; subst h2; rw [if_neg (Ne.symm h)]
      · rfl
theorem mget_mdel2 {l : List (Str × Str)} (hn : (l.map Prod.fst).Nodup) (k k' : Str) : mget (mdel l k) k' = if k = k' then none else mget l k' := by
  induction l with
  | nil => simp [mdel, mget]
  | cons p r ih =>
    obtain ⟨a, b⟩ := p
    simp only [List.map_cons, List.nodup_cons] at hn
    simp only [mdel]
    split
    · rename_i h; subst h
      split
      · rename_i h2; subst h2; exact mget_none.2 hn.1
      · rename_i h2; simp only [mget]; rw [if_neg h2]
    · rename_i h
      simp only [mget, ih hn.2]
      split
      · rename_i h2; subst h2; rw [if_neg (Ne.symm h)]
      · rfl
/-- Two tellings of the same files. -/
structure Same2 (a b : List (Str × Str)) : Prop where
  nd : (a.map Prod.fst).Nodup
  srt : Srt b
  eq : ∀ k, mget a k = mget b k
def normC (c : Chg) : Trn := ⟨if c.kind = 3 then 1 else c.kind, c.name, c.data, c.to⟩
def OkC (c : Chg) : Prop := 1 ≤ c.kind ∧ c.kind ≤ 5 ∧ (c.kind = 4 → c.name ≠ c.to)
theorem Same2.app {a b : List (Str × Str)} (h : Same2 a b) {c : Chg} (hc : OkC c) : Same2 (applyC a c) (turnR b (normC c)) := by
  refine ⟨applyC_nd h.nd, ?_, fun k => ?_⟩
  · unfold turnR
    split
    · rw [putR_I]; exact srt_putI h.srt _
    · split
      · rw [putR_I]; exact srt_putI h.srt _
      · split
        · rw [putR_I]; exact srt_putI (h.srt.wo _) _
        · exact h.srt.wo _
  · obtain ⟨h1, h2, h3⟩ := hc
    unfold applyC turnR normC
    by_cases e13 : c.kind = 1 ∨ c.kind = 3
    · rw [if_pos e13]
      simp only
      rw [if_pos (by split <;> omega), putR_I, mget_mput2, mget_putI, h.eq]
    · have hkd : (if c.kind = 3 then 1 else c.kind) = c.kind := if_neg (fun w => e13 (.inr w))
      simp only [hkd]
      rw [if_neg e13, if_neg (show ¬ c.kind = 1 from fun w => e13 (.inl w))]
      by_cases e2 : c.kind = 2
      · rw [if_pos e2, if_pos e2, putR_I, mget_mput2, mget_putI, h.eq, h.eq]
      · rw [if_neg e2, if_neg e2]
        by_cases e4 : c.kind = 4
        · have hne := h3 e4
          rw [if_pos e4, if_pos e4, putR_I, mget_mdel2 (mput_nd h.nd), mget_mput2, mget_putI, mget_wo, h.eq, h.eq]
          by_cases hk : c.name = k
          · subst hk; rw [if_pos rfl, if_neg (Ne.symm hne), if_pos rfl]
          · rw [if_neg hk, if_neg hk]
        · rw [if_neg e4, if_neg e4, if_pos (by omega), mget_mdel2 h.nd, mget_wo, h.eq]
theorem Same2.appL {cs : List Chg} (hc : ∀ c ∈ cs, OkC c) : ∀ {a b : List (Str × Str)}, Same2 a b → Same2 (applyL a cs) (turnL b (cs.map normC)) := by
  induction cs with
  | nil => intro a b h; exact h
  | cons c cs ih => intro a b h; exact ih (fun c hc' => hc c (by simp [hc'])) (h.app (hc c (by simp)))
theorem mem_mget {l : List (Str × Str)} (hn : (l.map Prod.fst).Nodup) {p : Str × Str} (h : p ∈ l) : mget l p.1 = some p.2 := by
  induction l with
  | nil => cases h
  | cons q r ih =>
    obtain ⟨a, b⟩ := q
    simp only [List.map_cons, List.nodup_cons] at hn
    rcases List.mem_cons.1 h with h | h
    · subst h; simp [mget]
    · simp only [mget]
      rw [if_neg (fun (e : a = p.1) => hn.1 (by rw [e]; exact List.mem_map_of_mem (f := Prod.fst) h)), ih hn.2 h]
theorem mget_mem {l : List (Str × Str)} {k v : Str} (h : mget l k = some v) : (k, v) ∈ l := by
  induction l with
  | nil => cases h
  | cons q r ih =>
    obtain ⟨a, b⟩ := q
    simp only [mget] at h
    split at h
    · rename_i e; subst e; injection h with h; subst h; simp
    · exact List.mem_cons_of_mem _ (ih h)
theorem Same2.keys {a b : List (Str × Str)} (h : Same2 a b) : (a.map Prod.fst).Perm (b.map Prod.fst) := by
  refine (List.perm_ext_iff_of_nodup h.nd h.srt.nd).2 fun k => ?_
  have h1 := mget_none (l := a) (k := k)
  have h2 := mget_none (l := b) (k := k)
  rw [h.eq] at h1
  have := h1.symm.trans h2
  exact ⟨fun h => Classical.byContradiction fun c => this.2 c h, fun h => Classical.byContradiction fun c => this.1 c h⟩
theorem Same2.len {a b : List (Str × Str)} (h : Same2 a b) : a.length = b.length := by
  have := h.keys.length_eq
  simpa using this
theorem Same2.mem {a b : List (Str × Str)} (h : Same2 a b) {p : Str × Str} (hp : p ∈ b) : p ∈ a := by
  have := mem_mget h.srt.nd hp
  rw [← h.eq] at this
  exact mget_mem this
theorem Same2.perm {a b c : List (Str × Str)} (h : Same2 a b) (hp : c.Perm a) : Same2 c b :=
  ⟨((hp.map Prod.fst).nodup_iff).2 h.nd, h.srt, fun k => by rw [mget_perm hp h.nd]; exact h.eq k⟩
theorem sorted_eq {l : List Str} (h : l.Pairwise (· < ·)) : sortL l = l := by
  refine List.mergeSort_of_pairwise (h.imp fun {a b} h => ?_)
  simp only [decide_eq_true_eq]
  exact List.le_of_lt h
/-- What the disk and its model have. -/
structure Two (s : DSt) (r : RSt) (N : Nat) : Prop where
  inv : DInv N s
  k : Same2 s.kept r.kept
  n : Same2 s.now r.now
  w : r.wait = s.wait.map normC
  ap : ∀ k, mget (applyL s.kept s.wait) k = mget s.now k
  ok : ∀ c ∈ s.wait, OkC c
/-- The model, with the numbers of the disk. -/
def rT (r : RSt) (s : DSt) : RSt := ⟨r.kept, r.now, r.wait, s.fuse, s.down, s.steps⟩
theorem Two.start : Two s0 ⟨[], [], [], -1, false, 0⟩ 0 := ⟨DInv.start, ⟨by simp [s0], by simp [Srt], fun _ => rfl⟩, ⟨by simp [s0], by simp [Srt], fun _ => rfl⟩, rfl, fun _ => rfl, fun c h => by cases h⟩
theorem Two.rinv {s : DSt} {r : RSt} {N : Nat} (h : Two s r N) (hN : N ≤ 200) : RInv 0 (rT r s) := by
  have i := h.inv
  have := h.k.len; have := h.n.len; have := i.kl; have := i.nl; have := i.st1
  have hw : r.wait.length = s.wait.length := by rw [h.w]; simp
  refine ⟨i.st0, by show s.steps ≤ _; omega, i.fu0, i.fu1, by show r.kept.length ≤ _; omega, by show r.now.length ≤ _; omega, by show r.wait.length ≤ _; omega, fun p hp => ?_, fun p hp => ?_, fun t ht => ?_⟩
  · have := i.kb p (h.k.mem hp); omega
  · have := i.nb p (h.n.mem hp); omega
  · have ht' : t ∈ r.wait := ht
    rw [h.w] at ht'
    obtain ⟨c, hc, rfl⟩ := List.mem_map.1 ht'
    exact i.cd c hc
theorem Two.mono {s : DSt} {r : RSt} {N M : Nat} (h : Two s r N) (hm : N ≤ M) : Two s r M := ⟨h.inv.mono hm, h.k, h.n, h.w, h.ap, h.ok⟩
theorem step_eq (s : DSt) (r : RSt) : stepQ (rT r s) = (rT r (stepF s).1, (stepF s).2) := by
  obtain ⟨k, n, w, f, d, t⟩ := s
  unfold stepQ stepF rT
  cases d
  · by_cases h : f = 0
    · simp [h]
    · simp [h]
  · simp
theorem Two.of_step {s : DSt} {r : RSt} {N : Nat} (h : Two s r N) : Two (stepF s).1 r (N + 1) := by
  have k := stepF_keep s
  exact ⟨h.inv.step, by rw [k.1]; exact h.k, by rw [k.2.1]; exact h.n, by rw [k.2.2.1]; exact h.w, by rw [k.1, k.2.1, k.2.2.1]; exact h.ap, by rw [k.2.2.1]; exact h.ok⟩
/-- What an act of both makes. -/
structure Both (p : DSt × Int) (q : RSt × Int) (N : Nat) : Prop where
  e : q.2 = p.2
  c : q.1 = rT q.1 p.1
  t : Two p.1 q.1 N
theorem Two.addT {s s' : DSt} {r : RSt} {N : Nat} (h : Two s r N) : Two s (rT r s') N := ⟨h.inv, h.k, h.n, h.w, h.ap, h.ok⟩
theorem Two.step {s : DSt} {r : RSt} {N : Nat} (h : Two s r N) : Both (stepF s) (stepQ (rT r s)) (N + 1) := by
  rw [step_eq]; exact ⟨rfl, rfl, h.of_step.addT⟩
theorem Two.refuse {s : DSt} {r : RSt} {N : Nat} (h : Two s r N) (e : Int) : Both (s, e) (rT r s, e) (N + 1) := ⟨rfl, rfl, (h.mono (by omega)).addT⟩
theorem Two.doo {s : DSt} {r : RSt} {N : Nat} (h : Two s r N) {c : Chg} (hc : OkC c) (hd : c.data.length ≤ 4000) : Both (doF s c) (doQ (rT r s) (normC c)) (N + 1) := by
  have k := stepF_keep s
  have hi := h.inv.do hd
  unfold doF at hi ⊢
  unfold doQ
  rw [step_eq]
  by_cases h0 : (stepF s).2 = 0
  · rw [if_pos h0, if_neg (by simp [h0])]
    rw [if_neg (by simp [h0])] at hi
    refine ⟨h0, rfl, hi, ?_, ?_, ?_, ?_, ?_⟩
    · show Same2 (stepF s).1.kept r.kept; rw [k.1]; exact h.k
    · exact h.n.app hc
    · show r.wait ++ [normC c] = (s.wait ++ [c]).map normC; rw [h.w]; simp
    · intro q
      show mget (applyL (stepF s).1.kept (s.wait ++ [c])) q = mget (applyC s.now c) q
      have e : applyL (stepF s).1.kept (s.wait ++ [c]) = applyC (applyL s.kept s.wait) c := by rw [k.1]; simp [applyL]
      have s1 : Same2 (applyL s.kept s.wait) r.now := ⟨applyL_nd h.k.nd, h.n.srt, fun q => by rw [h.ap]; exact h.n.eq q⟩
      rw [e, (s1.app hc).eq, (h.n.app hc).eq]
    · intro c' hc'
      rcases List.mem_append.1 hc' with hc' | hc'
      · exact h.ok c' hc'
      · simp at hc'; subst hc'; exact hc
  · rw [if_neg h0, if_pos h0]
    exact ⟨rfl, rfl, h.of_step.addT⟩
theorem hasR_iff (l : List (Str × Str)) (n : Str) : (hasR l n < 0) ↔ (mget l n).isSome = false := by
  rcases hasR_spec l n with ⟨h1, h2⟩ | ⟨h1, _, v, h2, _⟩
  · rw [h1, h2]; simp
  · rw [h2]; simp; omega
theorem putQ_eq {s : DSt} {r : RSt} {N : Nat} (h : Two s r N) (how : Int) (n x : Str) (z : Int) (hz : z = if how = 2 then (((mget s.now n).getD []).length : Int) + x.length else x.length) :
    putQ (rT r s) how n x = if how = 2 ∧ 4000 < (x.length : Int) then (rT r s, 2) else if mayR s n z ≠ 0 then (rT r s, mayR s n z) else if how = 3 ∧ (mget s.now n).isSome = true then (rT r s, 6) else doQ (rT r s) ⟨if how = 3 then 1 else how, n, x, []⟩ := by
  have hh : (hasR r.now n < 0) ↔ (mget s.now n).isSome = false := by rw [hasR_iff, h.n.eq]
  have hl := h.n.len
  have hz2 : (if how = 2 ∧ 0 ≤ hasR (rT r s).now n then (x.length : Int) + ((mget (rT r s).now n).getD []).length else x.length) = z := by
    show (if how = 2 ∧ 0 ≤ hasR r.now n then (x.length : Int) + ((mget r.now n).getD []).length else x.length) = z
    rw [hz, h.n.eq]
    by_cases e : how = 2
    · rw [if_pos e]
      by_cases g : 0 ≤ hasR r.now n
      · rw [if_pos ⟨e, g⟩]; omega
      · have : mget r.now n = none := hasR_no (by omega)
        rw [if_neg (fun w => g w.2), this]; simp
    · rw [if_neg e, if_neg (fun w => e w.1)]
  have c3 : (4000 < z ∨ hasR (rT r s).now n < 0 ∧ 40 ≤ ((rT r s).now.length : Int)) ↔ (4000 < z ∨ (mget s.now n).isSome = false ∧ 40 ≤ (s.now.length : Int)) := by
    show (4000 < z ∨ hasR r.now n < 0 ∧ 40 ≤ (r.now.length : Int)) ↔ _
    rw [hh, hl]
  have c4 : (how = 3 ∧ 0 ≤ hasR (rT r s).now n) ↔ (how = 3 ∧ (mget s.now n).isSome = true) := by
    show (how = 3 ∧ 0 ≤ hasR r.now n) ↔ _
    constructor
    · rintro ⟨a, b⟩
      refine ⟨a, ?_⟩
      cases q : (mget s.now n).isSome
      · have := hh.2 q; omega
      · rfl
    · rintro ⟨a, b⟩
      refine ⟨a, ?_⟩
      have : ¬ hasR r.now n < 0 := fun w => by have := hh.1 w; rw [b] at this; cases this
      omega
  unfold putQ
  rw [hz2]
  by_cases g : how = 2 ∧ 4000 < (x.length : Int)
  · rw [if_pos g, if_pos g]
  · rw [if_neg g, if_neg g]
    by_cases a : nameF n = false
    · have hm : mayR s n z = 3 := by unfold mayR; rw [if_pos a]
      rw [if_pos a, if_pos (show mayR s n z ≠ 0 by rw [hm]; decide), hm]
    · rw [if_neg a]
      by_cases w : 4000 < z ∨ (mget s.now n).isSome = false ∧ 40 ≤ (s.now.length : Int)
      · have hm : mayR s n z = 2 := by
          unfold mayR; rw [if_neg a]
          by_cases q : 4000 < z
          · rw [if_pos q]
          · rw [if_neg q, if_pos (w.resolve_left q)]
        rw [if_pos (c3.2 w), if_pos (show mayR s n z ≠ 0 by rw [hm]; decide), hm]
      · have hm : mayR s n z = 0 := by
          unfold mayR; rw [if_neg a, if_neg (fun q => w (.inl q)), if_neg (fun q => w (.inr q))]
        rw [if_neg (fun q => w (c3.1 q)), if_neg (show ¬ mayR s n z ≠ 0 from fun q => q hm)]
        by_cases i : how = 3 ∧ (mget s.now n).isSome = true
        · rw [if_pos i, if_pos (c4.2 i)]
        · rw [if_neg i, if_neg (fun q => i (c4.1 q))]
theorem Two.write {s : DSt} {r : RSt} {N : Nat} (h : Two s r N) (n x : Str) : Both (writeR s n x) (putQ (rT r s) 1 n x) (N + 1) := by
  have g : ¬ ((1 : Int) = 2 ∧ 4000 < (x.length : Int)) := fun w => absurd w.1 (by decide)
  have g3 : ¬ ((1 : Int) = 3 ∧ (mget s.now n).isSome = true) := fun w => absurd w.1 (by decide)
  rw [putQ_eq h 1 n x x.length (by rw [if_neg (by decide)]), if_neg g]
  unfold writeR
  by_cases hm : mayR s n x.length ≠ 0
  · rw [if_pos hm, if_pos hm]; exact h.refuse _
  · rw [if_neg hm, if_neg hm, if_neg g3]
    have hz := mayR_size (Classical.not_not.1 hm)
    exact h.doo (c := ⟨n, x, [], 1⟩) ⟨by simp, by simp, by simp⟩ (by show x.length ≤ 4000; omega)
theorem Two.make {s : DSt} {r : RSt} {N : Nat} (h : Two s r N) (n x : Str) : Both (makeR s n x) (putQ (rT r s) 3 n x) (N + 1) := by
  have g : ¬ ((3 : Int) = 2 ∧ 4000 < (x.length : Int)) := fun w => absurd w.1 (by decide)
  rw [putQ_eq h 3 n x x.length (by rw [if_neg (by decide)]), if_neg g]
  unfold makeR
  by_cases hm : mayR s n x.length ≠ 0
  · rw [if_pos hm, if_pos hm]; exact h.refuse _
  · rw [if_neg hm, if_neg hm]
    have hz := mayR_size (Classical.not_not.1 hm)
    by_cases i : (mget s.now n).isSome = true
    · rw [if_pos i, if_pos (show (3 : Int) = 3 ∧ (mget s.now n).isSome = true from ⟨rfl, i⟩)]; exact h.refuse _
    · rw [if_neg i, if_neg (show ¬ ((3 : Int) = 3 ∧ (mget s.now n).isSome = true) from fun w => i w.2)]
      exact h.doo (c := ⟨n, x, [], 3⟩) ⟨by simp, by simp, by simp⟩ (by show x.length ≤ 4000; omega)
theorem Two.append {s : DSt} {r : RSt} {N : Nat} (h : Two s r N) (n x : Str) : Both (appR s n x) (putQ (rT r s) 2 n x) (N + 1) := by
  have g3 : ¬ ((2 : Int) = 3 ∧ (mget s.now n).isSome = true) := fun w => absurd w.1 (by decide)
  rw [putQ_eq h 2 n x ((((mget s.now n).getD []).length : Int) + x.length) (by rw [if_pos rfl])]
  unfold appR
  by_cases g : 4000 < (x.length : Int)
  · rw [if_pos g, if_pos (show (2 : Int) = 2 ∧ 4000 < (x.length : Int) from ⟨rfl, g⟩)]; exact h.refuse _
  · rw [if_neg g, if_neg (show ¬ ((2 : Int) = 2 ∧ 4000 < (x.length : Int)) from fun w => g w.2)]
    by_cases hm : mayR s n ((((mget s.now n).getD []).length : Int) + x.length) ≠ 0
    · rw [if_pos hm, if_pos hm]; exact h.refuse _
    · rw [if_neg hm, if_neg hm, if_neg g3]
      exact h.doo (c := ⟨n, x, [], 2⟩) ⟨by simp, by simp, by simp⟩ (by show x.length ≤ 4000; omega)
theorem Two.move {s : DSt} {r : RSt} {N : Nat} (h : Two s r N) (n t : Str) : Both (moveR s n t) (moveQ (rT r s) n t) (N + 1) := by
  have hh : (hasR r.now n < 0) ↔ (mget s.now n).isSome = false := by rw [hasR_iff, h.n.eq]
  unfold moveR moveQ
  by_cases a : nameF n = false ∨ nameF t = false
  · rw [if_pos a, if_pos a]; exact h.refuse 3
  · rw [if_neg a, if_neg a]
    by_cases b : (mget s.now n).isSome = false
    · rw [if_pos b, if_pos (show hasR (rT r s).now n < 0 from hh.2 b)]; exact h.refuse 7
    · rw [if_neg b, if_neg (show ¬ hasR (rT r s).now n < 0 from fun c => b (hh.1 c))]
      by_cases e : n = t
      · rw [if_pos e, if_pos e]; exact h.step
      · rw [if_neg e, if_neg e]
        exact h.doo (c := ⟨n, [], t, 4⟩) ⟨by simp, by simp, fun _ => e⟩ (by simp)
theorem Two.remove {s : DSt} {r : RSt} {N : Nat} (h : Two s r N) (n : Str) : Both (remR s n) (remQ (rT r s) n) (N + 1) := by
  have hh : (hasR r.now n < 0) ↔ (mget s.now n).isSome = false := by rw [hasR_iff, h.n.eq]
  unfold remR remQ
  by_cases b : (mget s.now n).isSome = false
  · rw [if_pos b, if_pos (show hasR (rT r s).now n < 0 from hh.2 b)]; exact h.refuse 7
  · rw [if_neg b, if_neg (show ¬ hasR (rT r s).now n < 0 from fun c => b (hh.1 c))]
    exact h.doo (c := ⟨n, [], [], 5⟩) ⟨by simp, by simp, by simp⟩ (by simp)
theorem Two.sync {s : DSt} {r : RSt} {N : Nat} (h : Two s r N) : Both (syncF s) (syncQ (rT r s)) (N + 1) := by
  have k := stepF_keep s
  have hi := h.inv.sync
  unfold syncF at hi ⊢
  unfold syncQ
  rw [step_eq]
  by_cases h0 : (stepF s).2 = 0
  · rw [if_pos h0, if_neg (by simp [h0])]
    rw [if_neg (by simp [h0])] at hi
    refine ⟨h0, rfl, hi, ?_, ?_, rfl, ?_, fun c hc => by cases hc⟩
    · exact ⟨applyL_nd h.k.nd, h.n.srt, fun q => by rw [h.ap]; exact h.n.eq q⟩
    · show Same2 (stepF s).1.now r.now; rw [k.2.1]; exact h.n
    · intro q
      show mget (applyL s.kept s.wait) q = mget (stepF s).1.now q
      rw [k.2.1]; exact h.ap q
  · rw [if_neg h0, if_pos h0]
    exact ⟨rfl, rfl, h.of_step.addT⟩
theorem Two.read {s : DSt} {r : RSt} {N : Nat} (h : Two s r N) (n : Str) : readQ (rT r s) n = readR s n := by
  have hh : (hasR r.now n < 0) ↔ (mget s.now n).isSome = false := by rw [hasR_iff, h.n.eq]
  unfold readQ readR
  by_cases d : s.down = true
  · rw [if_pos d, if_pos (show (rT r s).down = true from d)]
  · rw [if_neg d, if_neg (show ¬ (rT r s).down = true from d)]
    by_cases b : (mget s.now n).isSome = false
    · rw [if_pos b, if_pos (show hasR (rT r s).now n < 0 from hh.2 b)]
    · rw [if_neg b, if_neg (show ¬ hasR (rT r s).now n < 0 from fun c => b (hh.1 c)), h.n.eq]; rfl
theorem Two.list {s : DSt} {r : RSt} {N : Nat} (h : Two s r N) : listQ (rT r s) = listR s := by
  unfold listQ listR
  by_cases d : s.down = true
  · rw [if_pos d, if_pos (show (rT r s).down = true from d)]
  · rw [if_neg d, if_neg (show ¬ (rT r s).down = true from d)]
    rw [sortL_of_perm h.n.keys, sorted_eq (by rw [List.pairwise_map]; exact h.n.srt)]; rfl
theorem maxI_clamp (keep : Int) (n : Nat) : (maxI keep < n → clampI keep n = maxI keep) ∧ (¬ maxI keep < n → clampI keep n = n) := by
  unfold maxI clampI
  constructor
  · intro h; rw [if_neg (by omega)]
  · intro h; split <;> split <;> omega
theorem Two.rest {s : DSt} {r : RSt} {N : Nat} (h : Two s r N) (keep torn : Int) {nw : List (Str × Str)} (hp : nw.Perm (restR s keep torn)) : restQ (rT r s) keep torn = rT (restQ (rT r s) keep torn) (restS s keep torn nw) ∧ Two (restS s keep torn nw) (restQ (rT r s) keep torn) (N + 1) := by
  have hw : r.wait.length = s.wait.length := by rw [h.w]; simp
  have hK : Same2 (restR s keep torn) (keptQ (rT r s) keep torn) := by
    have hm := maxI_clamp keep s.wait.length
    have hm0 := maxI_b keep
    have htk : (r.wait.take (maxI keep).toNat) = (s.wait.take (clampI keep s.wait.length).toNat).map normC := by
      rw [h.w, List.map_take]
      by_cases c : maxI keep < s.wait.length
      · rw [hm.1 c]
      · rw [hm.2 c, List.take_of_length_le (by simp; omega), List.take_of_length_le (by simp)]
    have hb : Same2 (applyL s.kept (s.wait.take (clampI keep s.wait.length).toNat)) (turnL r.kept (r.wait.take (maxI keep).toNat)) := by
      rw [htk]; exact h.k.appL (fun c hc => h.ok c (List.mem_of_mem_take hc))
    unfold restR restK keptQ
    by_cases c : maxI keep < s.wait.length
    · have hg : gI r.wait (maxI keep) = normC (gI s.wait (maxI keep)) := by
        have hlt : (maxI keep).toNat < s.wait.length := by omega
        rw [h.w]; simp [gI, List.getD_eq_getElem?_getD, hlt]
      have hmem : gI s.wait (maxI keep) ∈ s.wait := gI_mem hm0.1 c
      have hoc := h.ok _ hmem
      have hT : tornOf s keep torn = clampI torn (gI s.wait (maxI keep)).data.length := by unfold tornOf; rw [hm.1 c]
      have hkd : ((normC (gI s.wait (maxI keep))).kind < 4) ↔ (gI s.wait (maxI keep)).kind ≤ 3 := by
        simp only [normC]; split <;> omega
      have hcl := clampI_b torn (gI s.wait (maxI keep)).data.length
      have hne : (0 < clampI torn (gI s.wait (maxI keep)).data.length) ↔ sub (gI s.wait (maxI keep)).data 0 (clampI torn (gI s.wait (maxI keep)).data.length) ≠ [] := by
        rw [sub0_take, ne_eq, ← List.length_eq_zero_iff, List.length_take]; omega
      show Same2 _ (if maxI keep < (r.wait.length : Int) ∧ (gI r.wait (maxI keep)).kind < 4 ∧ 0 < clampI torn (gI r.wait (maxI keep)).data.length then _ else _)
      have hgr := hg
      rw [hT, hm.1 c, hw, hg]
      rw [hm.1 c] at hb
      by_cases q : (gI s.wait (maxI keep)).kind ≤ 3 ∧ sub (gI s.wait (maxI keep)).data 0 (clampI torn (gI s.wait (maxI keep)).data.length) ≠ []
      · rw [if_pos ⟨c, q.1, q.2⟩, if_pos ⟨c, hkd.2 q.1, hne.2 q.2⟩]
        have := hb.app (c := { gI s.wait (maxI keep) with data := sub (gI s.wait (maxI keep)).data 0 (clampI torn (gI s.wait (maxI keep)).data.length) }) hoc
        have e : turnR (turnL r.kept (r.wait.take (maxI keep).toNat)) (normC { gI s.wait (maxI keep) with data := sub (gI s.wait (maxI keep)).data 0 (clampI torn (gI s.wait (maxI keep)).data.length) }) = turnR (turnL (rT r s).kept ((rT r s).wait.take (maxI keep).toNat)) { gI (rT r s).wait (maxI keep) with data := sub (gI (rT r s).wait (maxI keep)).data 0 (clampI torn (gI (rT r s).wait (maxI keep)).data.length) } := by
          show _ = turnR (turnL r.kept (r.wait.take (maxI keep).toNat)) { gI r.wait (maxI keep) with data := sub (gI r.wait (maxI keep)).data 0 (clampI torn (gI r.wait (maxI keep)).data.length) }
          rw [hgr]; rfl
        rw [← e]; exact this
      · rw [if_neg (fun w => q w.2), if_neg (fun w => q ⟨hkd.1 w.2.1, hne.1 w.2.2⟩)]
        exact hb
    · show Same2 _ (if maxI keep < (r.wait.length : Int) ∧ (gI r.wait (maxI keep)).kind < 4 ∧ 0 < clampI torn (gI r.wait (maxI keep)).data.length then _ else _)
      rw [if_neg (by rw [hm.2 c]; rintro ⟨w, _⟩; omega), if_neg (by rw [hw]; exact fun w => c w.1)]
      exact hb
  exact ⟨rfl, restS_inv h.inv hp, hK, hK.perm hp, rfl, fun q => by
    show mget (restR s keep torn) q = mget nw q
    rw [mget_perm hp hK.nd], fun c hc => by cases hc⟩
theorem Two.arm {s : DSt} {r : RSt} {N : Nat} (h : Two s r N) (f : Int) (hf : f ≤ 9223372036854775807) : Two { s with fuse := if -1 > f then -1 else f } r (N + 1) := by
  have i := h.inv.mono (show N ≤ N + 1 by omega)
  exact ⟨⟨i.st0, i.st1, by show -1 ≤ if -1 > f then -1 else f; split <;> omega, by show (if -1 > f then -1 else f) ≤ 9223372036854775807; split <;> omega, i.kl, i.kb, i.cd, i.nl, i.nb⟩, h.k, h.n, h.w, h.ap, h.ok⟩

end Go.Proofs
end
section
namespace Go.Proofs
open Go Go.Aw
set_option maxRecDepth 100000


def armD (s : DSt) (f : Int) : DSt := { s with fuse := if -1 > f then -1 else f }
theorem u_RestartD (d kb nb : Nat) (s : DSt) (keep torn : Int) (N : Nat) (hN : [d, kb].Nodup) (hD : DInv N s) (hNN : N ≤ 100000) (hk : (s.kept.map Prod.fst).Nodup) (m : AMem) (K : AV → AMem → Prop)
    (hK : ∀ q, ([q, d, kb] : List Nat).Nodup → m q = none → ∀ nw, nw.Perm (restR s keep torn) → K (.tuple []) (AMem.wth m [(q, mObj (restS s keep torn nw).now), (d, dObj kb q (restS s keep torn nw)), (kb, mObj (restS s keep torn nw).kept)])) :
    ACalls Try.prog 38 [.ptr ⟨d, 0, none⟩, .int .i64 keep, .int .i64 torn] (AMem.wth m [(d, dObj kb nb s), (kb, mObj s.kept)]) K :=
  u_Restart d kb nb s keep torn N hN hD hNN hk m K hK
/- the model -/
def r0 : RSt := ⟨[], [], [], -1, false, 0⟩
theorem Two.start0 : Two s0 r0 0 := Two.start
theorem u_QNewT (m : AMem) (K : AV → AMem → Prop) (hK : ∀ r, m r = none → K (.ptr ⟨r, 0, none⟩) (AMem.wth m [(r, rObj (rT r0 s0))])) : ACalls Try.prog 24 [] m K := u_QNew m K hK
theorem u_QRestartT (a : Nat) {s : DSt} {r : RSt} {N : Nat} (h : Two s r N) (hN : N ≤ 200) (keep torn : Int) (nw : List (Str × Str)) (hp : nw.Perm (restR s keep torn)) (m : AMem) (K : AV → AMem → Prop)
    (hK : K (.tuple []) (AMem.wth m [(a, rObj (rT (restQ (rT r s) keep torn) (restS s keep torn nw)))])) : ACalls Try.prog 39 [.ptr ⟨a, 0, none⟩, .int .i64 keep, .int .i64 torn] (AMem.wth m [(a, rObj (rT r s))]) K := by
  have hr := h.rinv hN
  have hi := h.inv
  have hw : r.wait.length = s.wait.length := by rw [h.w]; simp
  have hkl := h.k.len
  have h1 := hi.kl
  refine u_QRestart a (rT r s) keep torn hr (by show r.kept.length + r.wait.length ≤ 1000; omega) (by show r.wait.length ≤ 200; omega) (fun p hp => ?_) m K (by rw [(h.rest keep torn hp).1]; exact hK)
  have := hi.kb p (h.k.mem hp)
  show p.2.length + 4000 * r.wait.length ≤ 900000
  omega
end Go.Proofs
end
