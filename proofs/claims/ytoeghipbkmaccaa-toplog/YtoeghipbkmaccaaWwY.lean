/-
  The abstract layer, part 25: memory told block by block; rules for what is made, read and written in it.
-/
import Derived.Test.YtoeghipbkmaccaaWwX
namespace Go.Aw
open Go

/-- Memory with some blocks told anew. -/
def AMem.wth (m : AMem) : List (Nat × AObj) → AMem
  | [] => m
  | (b, o) :: r => (AMem.wth m r).upd b (some o)

theorem wth_other {m : AMem} {b : Nat} : ∀ {L : List (Nat × AObj)}, b ∉ L.map Prod.fst → m.wth L b = m b := by
  intro L
  induction L with
  | nil => intro _; rfl
  | cons p L ih =>
    obtain ⟨c, o⟩ := p
    intro h
    simp only [List.map_cons, List.mem_cons, not_or] at h
    show (if b = c then some o else m.wth L b) = m b
    rw [if_neg h.1, ih h.2]

theorem wth_get {m : AMem} {b : Nat} {o : AObj} : ∀ {L : List (Nat × AObj)} (i : Nat), (L.map Prod.fst).Nodup → L[i]? = some (b, o) → m.wth L b = some o := by
  intro L
  induction L with
  | nil => intro i _ h; simp at h
  | cons p L ih =>
    obtain ⟨c, o'⟩ := p
    intro i hN h
    simp only [List.map_cons, List.nodup_cons] at hN
    cases i with
    | zero =>
      simp at h
      obtain ⟨rfl, rfl⟩ := h
      show (if c = c then some o' else _) = _
      rw [if_pos rfl]
    | succ i =>
      simp at h
      have hb : b ∈ L.map Prod.fst := List.mem_map.2 ⟨(b, o), List.mem_of_getElem? h, rfl⟩
      show (if b = c then some o' else m.wth L b) = _
      rw [if_neg (fun (e : b = c) => hN.1 (e ▸ hb)), ih i hN.2 h]

theorem wth_set {m : AMem} {b : Nat} {o o' : AObj} : ∀ {L : List (Nat × AObj)} (i : Nat), (L.map Prod.fst).Nodup → L[i]? = some (b, o) → (m.wth L).upd b (some o') = m.wth (L.set i (b, o')) := by
  intro L
  induction L with
  | nil => intro i _ h; simp at h
  | cons p L ih =>
    obtain ⟨c, o''⟩ := p
    intro i hN h
    simp only [List.map_cons, List.nodup_cons] at hN
    cases i with
    | zero =>
      simp at h
      obtain ⟨rfl, rfl⟩ := h
      funext x
      show (if x = c then some o' else if x = c then some o'' else m.wth L x) = (if x = c then some o' else m.wth L x)
      by_cases hx : x = c <;> simp [hx]
    | succ i =>
      simp at h
      have hb : b ∈ L.map Prod.fst := List.mem_map.2 ⟨(b, o), List.mem_of_getElem? h, rfl⟩
      have hbc : b ≠ c := fun (e : b = c) => hN.1 (e ▸ hb)
      funext x
      have := congrFun (ih i hN.2 h) x
      show (if x = b then some o' else if x = c then some o'' else m.wth L x) = (if x = c then some o'' else m.wth (L.set i (b, o')) x)
      rw [← this]
      show _ = (if x = c then some o'' else if x = b then some o' else m.wth L x)
      by_cases hx : x = b
      · subst hx; simp [hbc]
      · simp [hx]

/-- A block that is new. -/
theorem wth_fresh {m : AMem} {b : Nat} : ∀ {L : List (Nat × AObj)}, m.wth L b = none → b ∉ L.map Prod.fst ∧ m b = none := by
  intro L
  induction L with
  | nil => intro h; exact ⟨by simp, h⟩
  | cons p L ih =>
    obtain ⟨c, o⟩ := p
    intro h
    have h' : (if b = c then some o else m.wth L b) = none := h
    by_cases hb : b = c
    · rw [if_pos hb] at h'; cases h'
    · rw [if_neg hb] at h'
      have := ih h'
      exact ⟨by simp [hb]; simpa using this.1, this.2⟩

theorem wth_nodup {m : AMem} {b : Nat} {L : List (Nat × AObj)} (h : m.wth L b = none) (hN : (L.map Prod.fst).Nodup) : (b :: L.map Prod.fst).Nodup :=
  List.nodup_cons.2 ⟨(wth_fresh h).1, hN⟩

theorem wth_none {m : AMem} {b : Nat} {L : List (Nat × AObj)} (h : m.wth L b = none) : m b = none := (wth_fresh h).2

/-- What was told before is told still. -/
theorem wth_old {m : AMem} {b : Nat} {o : AObj} {L : List (Nat × AObj)} (hb : m b = some o) (hF : ∀ c ∈ L.map Prod.fst, m c = none) : m.wth L b = some o := by
  rw [wth_other (fun h => by rw [hF b h] at hb; cases hb), hb]

/-- New blocks are let go. -/
theorem wth_sub {m : AMem} {L : List (Nat × AObj)} (hF : ∀ c ∈ L.map Prod.fst, m c = none) : ∀ b o, m b = some o → m.wth L b = some o := fun _ _ hb => wth_old hb hF

/-- New blocks are let go, others kept. -/
theorem wth_sub2 {m : AMem} (L1 L2 : List (Nat × AObj)) (hN : ((L1 ++ L2).map Prod.fst).Nodup) (hF : ∀ c ∈ L1.map Prod.fst, m c = none) : ∀ b o, m.wth L2 b = some o → m.wth (L1 ++ L2) b = some o := by
  induction L1 with
  | nil => exact fun _ _ h => h
  | cons p L1 ih =>
    obtain ⟨c, o'⟩ := p
    intro b o hb
    simp only [List.cons_append, List.map_cons, List.nodup_cons] at hN
    have h := ih hN.2 (fun x hx => hF x (by simp [hx])) b o hb
    have hbc : b ≠ c := by
      rintro rfl
      have h1 : b ∉ L2.map Prod.fst := fun hx => hN.1 (by simp only [List.map_append, List.mem_append]; exact .inr hx)
      rw [wth_other h1, hF b (by simp)] at hb
      cases hb
    show (if b = c then some o' else m.wth (L1 ++ L2) b) = some o
    rw [if_neg hbc, h]

theorem wth_append (m : AMem) (L L' : List (Nat × AObj)) : m.wth (L ++ L') = (m.wth L').wth L := by
  induction L with
  | nil => rfl
  | cons p L ih => obtain ⟨c, o⟩ := p; show (AMem.wth m (L ++ L')).upd c (some o) = ((m.wth L').wth L).upd c (some o); rw [ih]

/-- The order in which blocks are told tells nothing. -/
theorem wth_perm {m : AMem} {L L' : List (Nat × AObj)} (hN : (L.map Prod.fst).Nodup) (hp : L.Perm L') : m.wth L = m.wth L' := by
  have hN' : (L'.map Prod.fst).Nodup := (hp.map Prod.fst).nodup_iff.1 hN
  funext x
  by_cases hx : x ∈ L.map Prod.fst
  · obtain ⟨⟨c, o⟩, hm, rfl⟩ := List.mem_map.1 hx
    obtain ⟨i, hi⟩ := List.mem_iff_getElem?.1 hm
    obtain ⟨j, hj⟩ := List.mem_iff_getElem?.1 (hp.mem_iff.1 hm)
    rw [wth_get i hN hi, wth_get j hN' hj]
  · have hx' : x ∉ L'.map Prod.fst := fun h => hx ((hp.map Prod.fst).mem_iff.2 h)
    rw [wth_other hx, wth_other hx']

theorem wth_split {m : AMem} {L L1 L2 : List (Nat × AObj)} (hN : (L.map Prod.fst).Nodup) (hp : L.Perm (L1 ++ L2)) : m.wth L = (m.wth L2).wth L1 := by
  rw [wth_perm hN hp, wth_append]

/-- What is there is told. -/
theorem wth_self {m : AMem} : ∀ {L : List (Nat × AObj)}, (∀ p ∈ L, m p.1 = some p.2) → m.wth L = m := by
  intro L
  induction L with
  | nil => intro _; rfl
  | cons p L ih =>
    obtain ⟨c, o⟩ := p
    intro h
    funext x
    show (if x = c then some o else m.wth L x) = m x
    rw [ih (fun q hq => h q (by simp [hq]))]
    by_cases hx : x = c
    · subst hx; rw [if_pos rfl]; exact (h (x, o) (by simp)).symm
    · rw [if_neg hx]

section
variable {P : Program} {n : Nat} {fr : Fr} {m : AMem} {ops : Array Oper} {stl : List Nat} {r : List Oper} {K : Fr → AMem → Prop} {d : Nat} {ty : TypeId} {pos : String} {af : Array Edge} {gd : Option (Nat × Bool)} {L : List (Nat × AObj)}

theorem ar_box (hg : gOn ops fr gd = some true) {t : TypeId} {x : Operand} {v : AV} (hx : evR (rawOf fr) x = v) (ht : v.topOk = true) (h : ∀ b, m.wth L b = none → aopsR P ops stl r K ((fr.strip (slotOf x)).put d (.ptr ⟨b, 0, none⟩)) (m.wth ((b, .cells v.cells) :: L))) :
    aopsR P ops stl (⟨some d, .box t x, ty, pos, af, gd⟩ :: r) K fr (m.wth L) := by
  subst hx
  simp only [aopsR, aopR, hg]
  exact ⟨ht, h⟩

theorem ar_alloc (hg : gOn ops fr gd = some true) {t : TypeId} {z : AV} (hz : zeroA P t = some z) (ht : z.topOk = true) (h : ∀ b, m.wth L b = none → aopsR P ops stl r K (fr.put d (.ptr ⟨b, 0, none⟩)) (m.wth ((b, .cells z.cells) :: L))) :
    aopsR P ops stl (⟨some d, .alloc t, ty, pos, af, gd⟩ :: r) K fr (m.wth L) := by
  simp only [aopsR, aopR, hg, ares, hz]
  exact ⟨ht, h⟩

theorem flatten_one {α : Type} (f : α → AV) (z : α) (hf : (f z).cells = [f z]) (k : Nat) : (List.replicate k (f z).cells).flatten = (List.replicate k z).map f := by
  rw [hf]
  induction k with
  | zero => rfl
  | succ k ih => simp [List.replicate_succ, ih]

theorem ar_makeSlice (hg : gOn ops fr gd = some true) {α : Type} (f : α → AV) (z : α) (k : Int) {t e : TypeId} {x y : Operand} (ht : P.underlying t = some (.slice e)) (hx : evP (rawOf fr) x = .int .i64 k) (hy : evP (rawOf fr) y = .int .i64 k) (hz : zeroA P e = some (f z)) (hf : (f z).cells = [f z])
    (htop : (f z).topOk = true) (hU : isU P e = true) (hc : P.cellsOf e = 1) (h0 : 0 ≤ k) (hb : k * P.bytesOf e ≤ 140737488355328) (hk : k ≤ 140737488355328)
    (h : ∀ b, m.wth L b = none → aopsR P ops stl r K (fr.put d (.ms ⟨b, 0, none⟩ k.toNat k.toNat)) (m.wth ((b, .cells ((List.replicate k.toNat z).map f)) :: L))) :
    aopsR P ops stl (⟨some d, .makeSlice t x y, ty, pos, af, gd⟩ :: r) K fr (m.wth L) := by
  simp only [aopsR, aopR, hg, ares, ht, hx, hy, hz]
  refine ⟨⟨htop, hU, by rw [hf, hc]; rfl, by rw [hc]; exact Nat.one_pos, by trivial, h0, hb, hk⟩, fun b hb' => ?_⟩
  have := h b hb'
  rw [flatten_one f z hf]
  exact this

/-- A part of a block is read. -/
theorem ar_loadp (hg : gOn ops fr gd = some true) {t : TypeId} {x : Operand} {b off : Nat} {l : List AV} {v : AV} (hx : evP (rawOf fr) x = .ptr ⟨b, off, none⟩) (hm : m.wth L b = some (.cells l)) (hst : stl.contains d = false) (hok : apartOk P t l off) (hv : (apart P t l off).plain = v)
    (h : aopsR P ops stl r K (fr.put d v) (m.wth L)) : aopsR P ops stl (⟨some d, .load t x, ty, pos, af, gd⟩ :: r) K fr (m.wth L) := by
  subst hv
  simp only [aopsR, aopR, hg, ares, Option.map_some, Option.getD_some, hst, qv, hx, hm]
  exact ⟨hok, h⟩

/-- .. and what it owns is taken over. -/
theorem ar_loads (hg : gOn ops fr gd = some true) {t : TypeId} {x : Operand} {b off i : Nat} {l : List AV} (hx : evP (rawOf fr) x = .ptr ⟨b, off, none⟩) (hN : (L.map Prod.fst).Nodup) (hi : L[i]? = some (b, .cells l)) (hst : stl.contains d = true) (hU : isU P t = true) (ha : aggT P t = false) (ho : off < l.length)
    (h : aopsR P ops stl r K (fr.put d (l.getD off .junk)) (m.wth (L.set i (b, .cells (l.set off (l.getD off .junk).plain))))) : aopsR P ops stl (⟨some d, .load t x, ty, pos, af, gd⟩ :: r) K fr (m.wth L) := by
  have hm := wth_get (m := m) i hN hi
  simp only [aopsR, aopR, hg, ares, Option.map_some, Option.getD_some, hst, hx, hm, if_true]
  refine ⟨⟨hU, ha, ho⟩, ?_⟩
  rw [wth_set i hN hi]
  exact h

/-- A part of a block is written. -/
theorem ar_storep (hg : gOn ops fr gd = some true) (i : Nat) {t : TypeId} {a x : Operand} {b off : Nat} {l l' : List AV} {v : AV} (ha : evP (rawOf fr) a = .ptr ⟨b, off, none⟩) (hx : evR (rawOf fr) x = v) (hN : (L.map Prod.fst).Nodup) (hi : L[i]? = some (b, .cells l))
    (h1 : v.topOk = true) (h2 : v.cells.all AV.one = true) (h3 : v.cells.length = P.cellsOf t) (hU : isU P t = true) (ho : off + P.cellsOf t ≤ l.length) (hl : l.take off ++ v.cells ++ l.drop (off + P.cellsOf t) = l')
    (h : aopsR P ops stl r K (fr.strip (slotOf x)) (m.wth (L.set i (b, .cells l')))) : aopsR P ops stl (⟨none, .store t a x, ty, pos, af, gd⟩ :: r) K fr (m.wth L) := by
  subst hl
  have hm := wth_get (m := m) i hN hi
  simp only [aopsR, aopR, hg, ares, ha, hm]
  refine ⟨⟨by rw [hx]; exact h1, by rw [hx]; exact h2, by rw [hx]; exact h3, hU, ho⟩, ?_⟩
  rw [wth_set i hN hi, hx]
  exact h

theorem ar_loadm (hg : gOn ops fr gd = some true) {α : Type} [Inhabited α] (f : α → AV) (xs : List α) (k : Int) {t : TypeId} {x : Operand} {b : Nat} {c : Nat} (hx : evP (rawOf fr) x = .ptr ⟨b, 0 + k.toNat * c, none⟩) (hc : c = 1) (hm : m.wth L b = some (.cells (xs.map f))) (hst : stl.contains d = false) (hU : isU P t = true) (hA : aggT P t = false)
    (hp : ∀ a, (f a).plain = f a) (h0 : 0 ≤ k) (h1 : k < xs.length) (h : aopsR P ops stl r K (fr.put d (f (gI xs k))) (m.wth L)) : aopsR P ops stl (⟨some d, .load t x, ty, pos, af, gd⟩ :: r) K fr (m.wth L) := by
  subst hc
  have e : 0 + k.toNat * 1 = k.toNat := by omega
  rw [e] at hx
  refine ar_loadp hg hx hm hst (apartOk_one hU hA (by simp; omega)) ?_ h
  simp only [apart, hA]
  rw [show (if false = true then AV.agg (List.take (P.cellsOf t) (List.drop k.toNat (List.map f xs))) else (List.map f xs).getD k.toNat AV.junk) = (List.map f xs).getD k.toNat AV.junk from if_neg (by simp), idx_eq f xs k h0 h1, hp]

theorem ar_storem (hg : gOn ops fr gd = some true) (i : Nat) {α : Type} (f : α → AV) (xs : List α) (y : α) (k : Int) {t : TypeId} {a x : Operand} {b c : Nat} (ha : evP (rawOf fr) a = .ptr ⟨b, 0 + k.toNat * c, none⟩) (hc : c = 1) (hx : evR (rawOf fr) x = f y) (hN : (L.map Prod.fst).Nodup) (hi : L[i]? = some (b, .cells (xs.map f)))
    (h1 : (f y).topOk = true) (h2 : (f y).cells = [f y]) (h2' : (f y).one = true) (h3 : P.cellsOf t = 1) (hU : isU P t = true) (h0 : 0 ≤ k) (hk : k < xs.length)
    (h : aopsR P ops stl r K (fr.strip (slotOf x)) (m.wth (L.set i (b, .cells ((xs.set k.toNat y).map f))))) : aopsR P ops stl (⟨none, .store t a x, ty, pos, af, gd⟩ :: r) K fr (m.wth L) := by
  subst hc
  have e : 0 + k.toNat * 1 = k.toNat := by omega
  rw [e] at ha
  refine ar_storep hg i ha hx hN hi h1 (by rw [h2]; simp [h2']) (by rw [h2, h3]; rfl) hU (by rw [h3]; simp; omega) ?_ h
  rw [h2, h3, List.map_set, ← List.map_take, ← List.map_drop]
  have hlt : k.toNat < (xs.map f).length := by simp; omega
  rw [List.set_eq_take_append_cons_drop, if_pos hlt]
  simp

theorem ar_mem {m' m'' : AMem} {l : List Oper} (e : m' = m'') (h : aopsR P ops stl l K fr m'') : aopsR P ops stl l K fr m' := e ▸ h

end
end Go.Aw
