/-
  The executor, part 7: an operation, a region.
-/
import Derived.Test.YtaeknjhnpmhcmaaWyF
import Derived.Lib.AppendStr
import Derived.Lib.LaidTab
import Derived.Lib.ItoaNum
import Derived.Sort.Grow
import Derived.Test.YtaeknjhnpmhcmaaWxz
section
namespace Go.Sx
open Go Go.Aw
section
variable {c : Cfg} {n : Nat} {bs : List Nat} {fr : SFr} {L : List SObj} {m : AMem} {K : Fr → AMem → Prop} {ops : Array Oper} {l : List Oper} {ty : TypeId} {pos : String} {af : Array Edge}
def Nx (P : Program) (n : Nat) (ops : Array Oper) (l : List Oper) (K : Fr → AMem → Prop) (b0 bs : List Nat) (k : SK) : Prop :=
  b0 <+: bs ∧ ∀ fr' L' m' bs', b0 <+: bs' → Good bs' L' m' → k fr' L' m' → AOps P n ops l K (denF bs' fr') (memD bs' L' m')
theorem Nx.same {P : Program} {b0 : List Nat} {k : SK} (h : Nx P n ops l K b0 bs k) {fr' : SFr} {L' : List SObj} {m' : AMem} (g : Good bs L' m') (hk : k fr' L' m') : AOps P n ops l K (denF bs fr') (memD bs L' m') := h.2 fr' L' m' bs h.1 g hk
theorem Nx.more {P : Program} {b0 : List Nat} {k : SK} (h : Nx P n ops l K b0 bs k) (nw : List Nat) {fr' : SFr} {L' : List SObj} {m' : AMem} (g : Good (bs ++ nw) L' m') (hk : k fr' L' m') : AOps P n ops l K (denF (bs ++ nw) fr') (memD (bs ++ nw) L' m') := h.2 fr' L' m' _ (h.1.trans (List.prefix_append _ _)) g hk
theorem putK_sound {d : Option Nat} {v : SV} {fr : SFr} {k : SFr → Prop} (h : putK d v fr k) : ∃ fr', k fr' ∧ denF bs fr' = putO (denF bs fr) d (den bs v) := by
  cases d with
  | some d => exact ⟨_, h, rfl⟩
  | none => exact ⟨_, h, rfl⟩
theorem Le.put {f' f : Fr} (h : Le f' f) (d : Option Nat) {x' x : AV} (hx : LeV x' x) : Le (putO f' d x') (putO f d x) := by
  cases d with
  | some d => exact h.cons d hx
  | none => exact h
theorem has_nil (d : Nat) : ((some d).map ([] : List Nat).contains).getD false = false := rfl
theorem has_one (d : Nat) : ((some d).map ([d] : List Nat).contains).getD false = true := by simp
theorem quiet_sound (hT : tabOk c.P c.T = true) (g : Good bs L m) {d : Nat} {op : Op} {k : SK} (hk : okOper n ⟨some d, op, ty, pos, af, none⟩ = true) (hK : Nx c.P n ops l K c.bs bs k) {w : Bool} (h : sqv c.T w fr L op fun u => k ((d, u) :: fr) L m) :
    AOps c.P n ops (⟨some d, op, ty, pos, af, none⟩ :: l) K (denF bs fr) (memD bs L m) := by
  obtain ⟨side, z, u, hq, hs, rfl, h⟩ := sqv_sound (P := c.P) (bs := bs) (m := m) hT g h
  exact AOps.qv hk hq hs (hK.same g h)
theorem quietO_sound (g : Good bs L m) {d : Nat} {op : Op} {k : SK} (hk : okOper n ⟨some d, op, ty, pos, af, none⟩ = true) (hK : Nx c.P n ops l K c.bs bs k) (h : QO (qv c.P (memD bs L m) (evP (rawOf (denF bs fr))) op) bs fun u => k ((d, u) :: fr) L m) :
    AOps c.P n ops (⟨some d, op, ty, pos, af, none⟩ :: l) K (denF bs fr) (memD bs L m) := by
  obtain ⟨side, z, u, hq, hs, rfl, h⟩ := h
  exact AOps.qv hk hq hs (hK.same g h)
theorem assign_sound (g : Good bs L m) {dst : Option Nat} {t : Nat} {k : SK} (hk : okOper n ⟨dst, .assign (.tmp t), ty, pos, af, none⟩ = true) (hn : tmpsOk n ⟨dst, .assign (.tmp t), ty, pos, af, none⟩ = true) (hK : Nx c.P n ops l K c.bs bs k) {sl : List Nat} (h : sop c sl dst (.assign (.tmp t)) fr L m k) :
    AOps c.P n ops (⟨dst, .assign (.tmp t), ty, pos, af, none⟩ :: l) K (denF bs fr) (memD bs L m) := by
  simp only [sop] at h
  rw [sgK_eq] at h
  obtain ⟨hnt, h⟩ := chk_iff.1 h
  obtain ⟨u, h, hu⟩ := splK_sound bs hnt h
  obtain ⟨fr', h, hle, _⟩ := leftK_sound (bs := bs) h (fun t e => by cases e; rfl)
  refine AOps.val (stl := []) hk hn (by simp only [ares]; rfl) trivial ?_
  have hr := rawOf_denF bs fr t
  split at h
  · rename_i q hv
    obtain ⟨fr2, h, e2⟩ := putK_sound (bs := bs) h
    refine AOps.less ?_ (hK.same g h)
    rw [e2]
    exact hle.put dst (.inl (by rw [hr, hv]))
  · obtain ⟨fr2, h, e2⟩ := putK_sound (bs := bs) h
    refine AOps.less ?_ (hK.same g h)
    rw [e2]
    exact hle.put dst (.pl (by rw [hr, hu]))
theorem move_sound (g : Good bs L m) {dst : Option Nat} {t : Nat} {k : SK} (hk : okOper n ⟨dst, .move (.tmp t), ty, pos, af, none⟩ = true) (hn : tmpsOk n ⟨dst, .move (.tmp t), ty, pos, af, none⟩ = true) (hK : Nx c.P n ops l K c.bs bs k) {sl : List Nat} (h : sop c sl dst (.move (.tmp t)) fr L m k) :
    AOps c.P n ops (⟨dst, .move (.tmp t), ty, pos, af, none⟩ :: l) K (denF bs fr) (memD bs L m) := by
  simp only [sop] at h
  rw [sgK_eq] at h
  obtain ⟨u, h2, hu⟩ := movK_sound (bs := bs) h
  clear h
  have hr := rawOf_denF bs fr t
  have gen : putK dst u fr (fun fr => k fr L m) → AOps c.P n ops (⟨dst, .move (.tmp t), ty, pos, af, none⟩ :: l) K (denF bs fr) (memD bs L m) := fun h0 => by
    obtain ⟨fr2, h1, e2⟩ := putK_sound (bs := bs) h0
    cases dst with
    | none =>
      refine AOps.val (stl := []) hk hn (by simp only [ares]; rfl) trivial ?_
      have := hK.same g h1
      rw [e2] at this
      exact this
    | some d =>
      refine AOps.val (stl := []) hk hn (by simp only [ares, has_nil]; rfl) trivial ?_
      have := hK.same g h1
      rw [e2, hu] at this
      simp only [Fr.strip, Fr.put, putO, hr] at this ⊢
      exact this
  cases dst with
  | none =>
    refine gen ?_
    split at h2
    · rename_i e; cases e
    · exact h2
  | some d =>
    cases hv : sg fr t with
    | own q =>
      rw [hv] at h2
      simp only at h2
      cases hs : tks c sl d with
      | true =>
        rw [hs] at h2
        refine AOps.val (stl := [d]) hk hn (by simp only [ares, has_one, if_true]; rfl) trivial ?_
        have := hK.same g h2
        simp only [denF, hu] at this
        simp only [Fr.strip, Fr.put, putO, hr]
        rw [← hv] at this
        exact this
      | false =>
        rw [hs] at h2
        exact gen h2
    | _ => rw [hv] at h2; exact gen h2
theorem extract_sound (g : Good bs L m) {dst : Option Nat} {t i : Nat} {k : SK} (hk : okOper n ⟨dst, .extract (.tmp t) i, ty, pos, af, none⟩ = true) (hn : tmpsOk n ⟨dst, .extract (.tmp t) i, ty, pos, af, none⟩ = true) (hK : Nx c.P n ops l K c.bs bs k) {sl : List Nat} (h : sop c sl dst (.extract (.tmp t) i) fr L m k) :
    AOps c.P n ops (⟨dst, .extract (.tmp t) i, ty, pos, af, none⟩ :: l) K (denF bs fr) (memD bs L m) := by
  simp only [sop] at h
  rw [sgK_eq] at h
  have hr := rawOf_denF bs fr t
  cases dst with
  | none => cases hv : sg fr t <;> rw [hv] at h <;> exact h.elim
  | some d =>
    have gen : extK (sg fr t) i (fun u => k ((d, u) :: fr) L m) → AOps c.P n ops (⟨some d, .extract (.tmp t) i, ty, pos, af, none⟩ :: l) K (denF bs fr) (memD bs L m) := fun h =>
      quietO_sound g hk hK (extK_sound (P := c.P) h (by rw [evP, hr]))
    cases hv : sg fr t with
    | tup q =>
      rw [hv] at h hr gen
      simp only [den] at h hr
      cases hx : nth q i with
      | none => rw [hx] at h; exact h.elim
      | some x =>
        rw [hx] at h
        obtain ⟨e2, hlt⟩ := denL_getD (bs := bs) hx
        cases x with
        | own y =>
          simp only at h
          obtain ⟨l', h1, hl'⟩ := tplK_sound (bs := bs) h
          cases hs : tks c sl d with
          | true =>
            rw [hs] at h1
            refine AOps.val (stl := [d]) (ss := [t]) (side := i < (denL bs q).length) (m' := memD bs L m) (x := (denL bs q).getD i .junk) hk hn (by simp only [ares, hr, has_one, if_true]) hlt ?_
            have := hK.same g h1
            simp only [denF, den, hl'] at this
            simp only [Fr.strip, Fr.put, putO, hr, AV.plain, e2, den]
            exact this
          | false =>
            rw [hs] at h1
            refine AOps.val (stl := []) (ss := []) (side := i < (denL bs q).length) (m' := memD bs L m) (x := ((denL bs q).getD i .junk).plain) hk hn (by simp only [ares, hr, has_nil]; rfl) hlt ?_
            have := hK.same g h1
            simp only [denF, den, AV.plain] at this
            simp only [Fr.strip, Fr.put, putO, e2, den, AV.plain]
            exact this
        | _ => exact gen (by simp only [extK, hx]; exact h)
    | _ => rw [hv] at h gen; exact gen h
theorem load_sound (hT : tabOk c.P c.T = true) {b0 : List Nat} {new : List Nat} (hb : bs = b0 ++ new) (hb0 : c.bs = b0) (g : Good bs L m) {dst : Option Nat} {t : Nat} {x : Operand} {k : SK} (hk : okOper n ⟨dst, .load t x, ty, pos, af, none⟩ = true) (hn : tmpsOk n ⟨dst, .load t x, ty, pos, af, none⟩ = true) (hK : Nx c.P n ops l K c.bs bs k) {sl : List Nat} (h : sop c sl dst (.load t x) fr L m k) :
    AOps c.P n ops (⟨dst, .load t x, ty, pos, af, none⟩ :: l) K (denF bs fr) (memD bs L m) := by
  simp only [sop] at h
  obtain ⟨v, h, e⟩ := opK_sound bs h
  obtain ⟨i, tf, h⟩ := tg hT h
  cases dst with
  | none => exact h.elim
  | some d =>
    have key : loadK L i v (fun u => k ((d, u) :: fr) L m) → AOps c.P n ops (⟨some d, .load t x, ty, pos, af, none⟩ :: l) K (denF bs fr) (memD bs L m) := fun h =>
      quietO_sound g hk hK (loadK_sound tf g h e)
    have hSO : SOp c.P c.bs (some d) (.load t x) fr L m k → AOps c.P n ops (⟨some d, .load t x, ty, pos, af, none⟩ :: l) K (denF bs fr) (memD bs L m) := fun h => by
      subst hb0
      subst hb
      exact h.h new g n ops ty pos af l K hk hn hK.2
    cases v with
    | loc b off =>
      simp only at h
      cases hcl : nth L b with
      | none => rw [hcl] at h; exact key h
      | some o =>
        rw [hcl] at h
        cases o with
        | obj o => exact key h
        | cells cl =>
          simp only at h
          cases hq : nth cl off with
          | none => rw [hq] at h; exact key h
          | some y =>
            rw [hq] at h
            cases y with
            | own q =>
              simp only at h
              cases hs : tks c sl d with
              | false => rw [hs] at h; exact key h
              | true =>
                cases hst : i.k.isSt with
                | true => rw [hs, hst] at h; exact key h
                | false =>
                  rw [hs, hst] at h
                  rw [nth_eq] at hcl
                  have hm := mem_get g hcl
                  obtain ⟨e2, hlt⟩ := denL_getD (bs := bs) hq
                  refine AOps.val (stl := [d]) (ss := []) (side := isU c.P t = true ∧ aggT c.P t = false ∧ off < (denL bs cl).length) (m' := (memD bs L m).upd (bs.getD b 0) (some (.cells ((denL bs cl).set off ((denL bs cl).getD off .junk).plain)))) (x := (denL bs cl).getD off .junk) hk hn ?_ ⟨tf.is, tf.ag.trans hst, hlt⟩ ?_
                  · have e3 : evP (rawOf (denF bs fr)) x = .ptr ⟨bs.getD b 0, off, none⟩ := by rw [← e]; simp only [den]
                    simp only [ares, has_one, if_true, e3, hm, denO]
                  · have := hK.same (g.set b (.cells (cl.set off (.av (.slice false q))))) h
                    rw [← mem_set g hcl] at this
                    have e4 : denL bs (cl.set off (.av (.slice false q))) = (denL bs cl).set off (.slice false q) := by simp only [denL_eq, List.map_set, den, AV.plain]
                    simp only [denF, denO, e4] at this
                    simp only [Fr.strip, Fr.put, putO, e2, den, AV.plain]
                    exact this
            | _ => exact key h
    | av y => exact key h
    | elt b q w j =>
      cases bw : takes c (some d) with
      | true => simp only [bw] at h; exact hSO h
      | false => simp only [bw] at h; exact key h
    | _ => exact hSO h
theorem wrlen {bs : List Nat} {u : List SV} {x : AV} (h : denL bs u = x.cells) : u.length = x.cells.length := by rw [← h, denL_len]
theorem store_sound (hT : tabOk c.P c.T = true) {b0 : List Nat} {new : List Nat} (hb : bs = b0 ++ new) (hb0 : c.bs = b0) (g : Good bs L m) {dst : Option Nat} {t : Nat} {a x : Operand} {k : SK} (hd : dst = none) (hk : okOper n ⟨dst, .store t a x, ty, pos, af, none⟩ = true) (hn : tmpsOk n ⟨dst, .store t a x, ty, pos, af, none⟩ = true) (hK : Nx c.P n ops l K c.bs bs k) {sl : List Nat} (h : sop c sl dst (.store t a x) fr L m k) :
    AOps c.P n ops (⟨dst, .store t a x, ty, pos, af, none⟩ :: l) K (denF bs fr) (memD bs L m) := by
  have hSO : SOp c.P c.bs dst (.store t a x) fr L m k → AOps c.P n ops (⟨dst, .store t a x, ty, pos, af, none⟩ :: l) K (denF bs fr) (memD bs L m) := fun h => by
    subst hb0; subst hb
    exact h.h new g n ops ty pos af l K hk hn hK.2
  subst hd
  simp only [sop] at h
  obtain ⟨p, h, e⟩ := opK_sound bs h
  split at h
  · rename_i b off
    obtain ⟨v, h, e2, hraw⟩ := rwK_raw (bs := bs) h
    obtain ⟨i, tf, h⟩ := tg hT h
    split at h
    · rename_i cl hcl
      obtain ⟨cs, h, hcs, htop, hall⟩ := wrK_sound (bs := bs) h
      obtain ⟨hb1, h⟩ := chk_iff.1 h
      obtain ⟨hb2, h⟩ := chk_iff.1 h
      obtain ⟨fr', h, hle, _⟩ := leftK_sound (bs := bs) h hraw
      rw [flK_eq, flK_eq] at h
      rw [nth_eq] at hcl
      have hm := mem_get g hcl
      have hlen := wrlen hcs
      rw [e2] at hcs htop hall hlen
      have hb1' := Nat.eq_of_beq_eq_true hb1
      have hb2' := Nat.le_of_ble_eq_true hb2
      refine AOps.eff (stl := []) (ss := slotOf x) (side := (evR (rawOf (denF bs fr)) x).topOk = true ∧ ((evR (rawOf (denF bs fr)) x).cells.all AV.one) = true ∧ (evR (rawOf (denF bs fr)) x).cells.length = c.P.cellsOf t ∧ isU c.P t = true ∧ off + c.P.cellsOf t ≤ (denL bs cl).length)
        (m' := (memD bs L m).upd (bs.getD b 0) (some (.cells ((denL bs cl).take off ++ (evR (rawOf (denF bs fr)) x).cells ++ (denL bs cl).drop (off + c.P.cellsOf t))))) hk hn ?_ ⟨htop, hall, by rw [← hlen, hb1', tf.cells], tf.is, by rw [tf.cells, denL_len]; exact hb2'⟩ ?_
      · have e3 : evP (rawOf (denF bs fr)) a = .ptr ⟨bs.getD b 0, off, none⟩ := by rw [← e]; simp only [den]
        simp only [ares, e3, hm, denO]
      · have := hK.same (g.set b (.cells (splice cl cs off i.n))) h
        rw [← mem_set g hcl] at this
        simp only [denO, denL_splice, hcs] at this
        rw [tf.cells]
        exact AOps.less hle this
    · exact hSO h
  · exact hSO h
theorem newK_sound {o : SObj} (g : Good bs L m) {k : Nat → List SObj → Prop} (h : newK fr L o k) {b : Nat} (hb : memD bs L m b = none) : k L.length (L ++ [o]) ∧ Good (bs ++ [b]) (L ++ [o]) m ∧ memD (bs ++ [b]) (L ++ [o]) m = (memD bs L m).upd b (some (denO (bs ++ [b]) o)) ∧ denF (bs ++ [b]) fr = denF bs fr ∧ (bs ++ [b]).getD L.length 0 = b ∧ scM bs.length L = true := by
  obtain ⟨h1, h⟩ := chk_iff.1 h
  obtain ⟨h2, h⟩ := chk_iff.1 h
  rw [← g.len] at h1 h2
  obtain ⟨g', e⟩ := mem_new g h2 hb o
  exact ⟨h, g', e, scF_den h1, by rw [← g.len, List.getD_eq_getElem?_getD, List.getElem?_append_right (Nat.le_refl _)]; simp, h2⟩
theorem zCells_den (bs bs' : List Nat) (z : List Z) : denL bs (zCells z) = denL bs' (zCells z) := by
  induction z with
  | nil => simp only [zCells, denL]
  | cons a r ih =>
    simp only [zCells, denL, ih]
    cases a <;> simp only [Z.sv, den]
theorem alloc_sound (hT : tabOk c.P c.T = true) {b0 : List Nat} {new : List Nat} (hb : bs = b0 ++ new) (hb0 : c.bs = b0) (g : Good bs L m) {dst : Option Nat} {t : Nat} {k : SK} (hk : okOper n ⟨dst, .alloc t, ty, pos, af, none⟩ = true) (hn : tmpsOk n ⟨dst, .alloc t, ty, pos, af, none⟩ = true) (hK : Nx c.P n ops l K c.bs bs k) {sl : List Nat} (h : sop c sl dst (.alloc t) fr L m k) :
    AOps c.P n ops (⟨dst, .alloc t, ty, pos, af, none⟩ :: l) K (denF bs fr) (memD bs L m) := by
  simp only [sop] at h
  obtain ⟨i, tf, h⟩ := tg hT h
  split at h
  · subst hb0; subst hb
    exact h.h new g n ops ty pos af l K hk hn hK.2
  · rename_i hne
    rw [flK_eq] at h
    obtain ⟨z, hz1, hz2, hz3, _⟩ := tf.zeroA (fun e => hne e)
    refine AOps.new (stl := []) (ss := []) (side := z.topOk = true) (mk := fun b => .ptr ⟨b, 0, none⟩) (o := .cells z.cells) hk hn (by simp only [ares, hz1]) hz3 fun b hb => ?_
    obtain ⟨h, g', e1, e2, e3, _⟩ := newK_sound g h hb
    rw [flK_eq] at h
    obtain ⟨fr', h, e4⟩ := putK_sound (bs := bs ++ [b]) h
    have := hK.more _ g' h
    rw [e1, e4, e2] at this
    simp only [denO, den, e3] at this
    rw [zCells_den (bs ++ [b]) bs, ← hz2] at this
    exact this
theorem box_sound (g : Good bs L m) {dst : Option Nat} {t : Nat} {x : Operand} {k : SK} (hk : okOper n ⟨dst, .box t x, ty, pos, af, none⟩ = true) (hn : tmpsOk n ⟨dst, .box t x, ty, pos, af, none⟩ = true) (hK : Nx c.P n ops l K c.bs bs k) {sl : List Nat} (h : sop c sl dst (.box t x) fr L m k) :
    AOps c.P n ops (⟨dst, .box t x, ty, pos, af, none⟩ :: l) K (denF bs fr) (memD bs L m) := by
  simp only [sop] at h
  obtain ⟨v, h1, e2, hraw⟩ := rwK_raw (bs := bs) h
  obtain ⟨cs, h2, hcs, htop, hall⟩ := wrK_sound (bs := bs) h1
  obtain ⟨fr', h3, hle, _⟩ := leftK_sound (bs := bs) h2 hraw
  obtain ⟨hsc, h4⟩ := chk_iff.1 h3
  refine aopR_sound (stl := []) hk hn ?_
  simp only [aopR, gOn]
  refine ⟨by rw [← e2]; exact htop, fun b hb => ?_⟩
  obtain ⟨h5, g', e1, e3, e4, _⟩ := newK_sound g h4 hb
  rw [flK_eq] at h5
  obtain ⟨fr2, h6, e5⟩ := putK_sound (bs := bs ++ [b]) h5
  have := hK.more _ g' h6
  rw [← g.len] at hsc
  rw [e1, e5, e3] at this
  simp only [denO, den, e4, scAll_den (x := [b]) hsc, hcs, e2] at this
  exact AOps.less (hle.put dst (.inl rfl)) this
theorem makeMap_sound (hT : tabOk c.P c.T = true) (g : Good bs L m) {dst : Option Nat} {t : Nat} {k : SK} (hk : okOper n ⟨dst, .makeMap t none, ty, pos, af, none⟩ = true) (hn : tmpsOk n ⟨dst, .makeMap t none, ty, pos, af, none⟩ = true) (hK : Nx c.P n ops l K c.bs bs k) {sl : List Nat} (h : sop c sl dst (.makeMap t none) fr L m k) :
    AOps c.P n ops (⟨dst, .makeMap t none, ty, pos, af, none⟩ :: l) K (denF bs fr) (memD bs L m) := by
  simp only [sop] at h
  obtain ⟨i, tf, h1⟩ := tg hT h
  obtain ⟨hz, h2⟩ := chk_iff.1 h1
  obtain ⟨ke, ee, hk'⟩ : ∃ ke ee, i.k = .mp ke ee := by cases hj : i.k <;> rw [hj] at hz <;> first | exact ⟨_, _, rfl⟩ | cases hz
  refine AOps.new (stl := []) (ss := []) (side := True) (mk := fun b => .map b) (o := .map []) hk hn (by simp only [ares, tf.mp hk']; rfl) trivial fun b hb => ?_
  obtain ⟨h5, g', e1, e3, e4, _⟩ := newK_sound g h2 hb
  rw [flK_eq] at h5
  obtain ⟨fr2, h6, e5⟩ := putK_sound (bs := bs ++ [b]) h5
  have := hK.more _ g' h6
  rw [e1, e5, e3] at this
  simp only [denO, den, e4] at this
  exact this
theorem toK_go : ∀ {l : List SV} {k : List AV → Prop}, toK.go l k → k (denL bs l)
  | [], _, h => by simp only [denL]; exact h
  | .av x :: r, k, h => by
    obtain ⟨e0, h1⟩ := fpK_sound (k := fun x' => toK.go r fun r' => k (x' :: r')) h
    have := toK_go (l := r) h1
    simp only [denL, den, e0]
    exact this
  | .b q :: r, k, h => by
    have := toK_go (l := r) (k := fun r' => k (.bool q.val :: r')) h
    simp only [denL, den]
    exact this
  | .own _ :: _, _, h | .loc _ _ :: _, _, h | .ms _ _ _ :: _, _, h | .mp _ :: _, _, h | .elt _ _ _ _ :: _, _, h | .sl _ _ _ _ :: _, _, h | .agg _ :: _, _, h | .tup _ :: _, _, h | .fn _ _ _ :: _, _, h | .off :: _, _, h => h.elim
theorem fqK_top {x : AV} {k : AV → Prop} (h : fqK x k) : x.topOk = true := by
  cases x with
  | tuple l => exact h.elim
  | lazy g x => exact h.elim
  | junk => exact h.elim
  | _ => rfl
theorem toK_sound {v : SV} {k : AV → Prop} (h : toK v k) : k (den bs v) ∧ (den bs v).topOk = true := by
  cases v with
  | av x =>
    have ht := fqK_top h
    obtain ⟨e, h⟩ := fqK_sound h
    simp only [den, e]
    exact ⟨h, ht⟩
  | b q => simp only [den]; exact ⟨h, rfl⟩
  | agg l =>
    have h1 := toK_go (bs := bs) (l := l) (k := fun l' => k (.agg l')) h
    simp only [den]
    exact ⟨h1, rfl⟩
  | _ => exact h.elim
theorem toLK_sound : ∀ {l : List SV} {k : List AV → Prop}, toLK l k → k (denL bs l) ∧ ∀ x ∈ denL bs l, x.topOk = true
  | [], _, h => ⟨by simp only [denL]; exact h, by simp only [denL]; simp⟩
  | v :: r, k, h => by
    obtain ⟨h1, ht⟩ := toK_sound (bs := bs) h
    obtain ⟨h2, hr⟩ := toLK_sound h1
    refine ⟨by simp only [denL]; exact h2, fun x hx => ?_⟩
    simp only [denL, List.mem_cons] at hx
    rcases hx with rfl | hx
    · exact ht
    · exact hr x hx
theorem partsK_sound : ∀ {ps : List (Nat × Operand)} {k : List (Nat × SV) → Prop}, partsK fr ps k → ∃ us, k us ∧ us.map (fun p => (p.1, den bs p.2)) = ps.map (fun p => (p.1, evP (rawOf (denF bs fr)) p.2))
  | [], _, h => ⟨_, h, rfl⟩
  | (i, x) :: r, k, h => by
    obtain ⟨v, h1, e⟩ := opK_sound bs h
    obtain ⟨us, h2, e2⟩ := partsK_sound h1
    exact ⟨_, h2, by simp only [List.map_cons, e, e2]⟩
theorem idxFrom_sound : ∀ {ps : List (Nat × SV)} {n : Nat}, idxFrom n ps = true → ps.map (·.1) = (List.range ps.length).map (n + ·)
  | [], _, _ => rfl
  | (i, v) :: r, n, h => by
    simp only [idxFrom] at h
    cases hb : Nat.beq n i with
    | false => rw [hb] at h; cases h
    | true =>
      rw [hb] at h
      have := idxFrom_sound (ps := r) (n := n + 1) h
      simp only [List.map_cons, List.length_cons, List.range_succ_eq_map, List.map_map, this, Nat.eq_of_beq_eq_true hb, Nat.add_zero]
      congr 1
      apply List.map_congr_left
      intro a _
      simp only [Function.comp]
      omega
theorem vals_eq : ∀ (ps : List (Nat × SV)), vals ps = ps.map (·.2)
  | [] => rfl
  | (_, v) :: r => by simp only [vals, List.map_cons, vals_eq r]
theorem buildSlice_facts (hT : tabOk c.P c.T = true) {t e : Nat} {i j : TI} (ti : TF c.P t i) (hi : i.k = .sl e) (tj : TF c.P e j) {nn : Nat} {parts : Array (Nat × Operand)} {us : List (Nat × SV)} (he : us.map (fun p => (p.1, den bs p.2)) = parts.toList.map (fun p => (p.1, evP (rawOf (denF bs fr)) p.2)))
    (h1 : idxFrom 0 us = true) (h2 : Nat.beq us.length nn = true) (h3 : Nat.ble (nn * j.n) 16777216 = true) (h4 : ∀ x ∈ denL bs (vals us), x.topOk = true) (h5 : ((denL bs (vals us)).all fun x => Nat.beq x.cells.length j.n) = true) {d : Option Nat} {stl : List Nat} (hs : (d.map stl.contains).getD false = false) :
    ares c.P m (rawOf (denF bs fr)) stl d (.buildSlice t nn parts) = .val (isU c.P e = true ∧ 0 < c.P.cellsOf e ∧ zOk c.P e = true ∧ nn * c.P.cellsOf e ≤ 16777216 ∧ parts.toList.map (·.1) = List.range nn ∧ ∀ p ∈ parts.toList, (evP (rawOf (denF bs fr)) p.2).topOk = true ∧ (evP (rawOf (denF bs fr)) p.2).cells.length = c.P.cellsOf e) [] m (.slice true (denL bs (vals us))) ∧
    (isU c.P e = true ∧ 0 < c.P.cellsOf e ∧ zOk c.P e = true ∧ nn * c.P.cellsOf e ≤ 16777216 ∧ parts.toList.map (·.1) = List.range nn ∧ ∀ p ∈ parts.toList, (evP (rawOf (denF bs fr)) p.2).topOk = true ∧ (evP (rawOf (denF bs fr)) p.2).cells.length = c.P.cellsOf e) := by
  obtain ⟨u1, u2, u3, u4⟩ := ti.sl hi
  have hv : denL bs (vals us) = parts.toList.map fun p => evP (rawOf (denF bs fr)) p.2 := by
    have := congrArg (List.map Prod.snd) he
    simp only [List.map_map] at this
    rw [denL_eq, vals_eq, List.map_map]
    exact this
  have hfst : parts.toList.map (·.1) = us.map (·.1) := by
    have := congrArg (List.map Prod.fst) he
    simp only [List.map_map] at this
    exact this.symm
  refine ⟨by simp only [ares, hs, u1, hv]; rfl, u2, u3, u4, by rw [tj.cells]; exact Nat.le_of_ble_eq_true h3, ?_, fun p hp => ?_⟩
  · rw [hfst, idxFrom_sound h1, ← Nat.eq_of_beq_eq_true h2]
    simp
  · have hm : evP (rawOf (denF bs fr)) p.2 ∈ denL bs (vals us) := by rw [hv]; exact List.mem_map_of_mem (f := fun p => evP (rawOf (denF bs fr)) p.2) hp
    refine ⟨h4 _ hm, ?_⟩
    rw [List.all_eq_true] at h5
    rw [tj.cells]
    exact Nat.eq_of_beq_eq_true (h5 _ hm)
theorem bldK_sound {v : SV} {k : List SV → Prop} (h : fillK.bldK v k) : ∃ u, k u ∧ denL bs u = (den bs v).cells ∧ (den bs v).topOk = true := by
  cases v with
  | agg l => exact ⟨_, h, by simp only [den, AV.cells], rfl⟩
  | av x =>
    cases x with
    | agg l =>
      simp only [fillK.bldK] at h
      rw [flK_eq] at h
      exact ⟨_, h, by simp only [den, AV.plain, AV.cells, avL_den], by simp only [den, AV.plain, AV.topOk]⟩
    | tuple l => exact h.elim
    | lazy g x => exact h.elim
    | junk => exact h.elim
    | slice o l =>
      obtain ⟨e, h⟩ := fpK_sound (k := fun x' => k [.av x']) h
      exact ⟨_, h, by simp only [den, denL, AV.plain, AV.cells], by simp only [den, AV.plain, AV.topOk]⟩
    | _ => exact ⟨_, h, by simp only [den, denL, AV.plain, AV.cells], by simp only [den, AV.plain, AV.topOk]⟩
  | tup l => exact h.elim
  | off => exact h.elim
  | _ => exact ⟨_, h, by simp only [den, denL, AV.cells], by simp only [den, AV.topOk]⟩
theorem fillK_sound (hT : tabOk c.P c.T = true) {fs : List (Nat × Nat)} {fa : Array Field} (hfs : fa.toList.map (fun f => (f.offset, f.type)) = fs) : ∀ {us : List (Nat × SV)} {cs : List SV} {k : List SV → Prop}, fillK c.T fs us cs k →
    ∃ cells, k cells ∧ fillA (fun i => (fa[i]?).map fun f => (f.offset, c.P.cellsOf f.type)) (denL bs cs) (us.map fun p => (p.1, den bs p.2)) = some (denL bs cells) ∧ ∀ p ∈ us, (den bs p.2).topOk = true
  | [], cs, k, h => ⟨_, h, rfl, by simp⟩
  | (i, v) :: r, cs, k, h => by
    simp only [fillK] at h
    cases hn : nth fs i with
    | none => rw [hn] at h; exact h.elim
    | some q =>
      obtain ⟨off, t⟩ := q
      rw [hn] at h
      obtain ⟨j, tj, h1⟩ := tg hT h
      obtain ⟨vs, h2, hvs, htop⟩ := bldK_sound (bs := bs) h1
      obtain ⟨hb1, h3⟩ := chk_iff.1 h2
      obtain ⟨hb2, h4⟩ := chk_iff.1 h3
      rw [flK_eq] at h4
      obtain ⟨cells, h5, e, ht⟩ := fillK_sound hT hfs h4
      have hf : (fa[i]?).map (fun f => (f.offset, c.P.cellsOf f.type)) = some (off, j.n) := by
        rw [nth_eq, ← hfs, List.getElem?_map] at hn
        cases hq : fa.toList[i]? with
        | none => rw [hq] at hn; cases hn
        | some fd =>
          rw [hq] at hn
          simp only [Option.map_some, Option.some.injEq, Prod.mk.injEq] at hn
          obtain ⟨rfl, rfl⟩ := hn
          have : fa[i]? = some fd := by simpa using hq
          rw [this]
          simp only [Option.map_some, tj.cells]
      refine ⟨cells, h5, ?_, fun p hp => ?_⟩
      · simp only [List.map_cons, fillA, hf]
        have hl : (den bs v).cells.length = j.n := by rw [← hvs, denL_len]; exact Nat.eq_of_beq_eq_true hb1
        rw [if_pos ⟨hl, by rw [denL_len]; exact Nat.le_of_ble_eq_true hb2⟩, ← hvs, ← denL_splice]
        exact e
      · rcases List.mem_cons.1 hp with rfl | hp
        · exact htop
        · exact ht p hp
theorem build_facts (hT : tabOk c.P c.T = true) {t : Nat} {i : TI} (ti : TF c.P t i) {fs : List (Nat × Nat)} (hi : i.k = .st fs) (hz : i.z ≠ []) {parts : Array (Nat × Operand)} {k : List SV → Prop} (h : partsK fr parts.toList fun ps => fillK c.T fs ps (zCells i.z) k) {d : Option Nat} {stl : List Nat} (hs : (d.map stl.contains).getD false = false) :
    ∃ cells side, k cells ∧ ares c.P m (rawOf (denF bs fr)) stl d (.build t parts) = .val side [] m (.agg (denL bs cells)) ∧ side := by
  obtain ⟨fa, u1, u2, u3⟩ := ti.st hi
  obtain ⟨z, z1, z2, z3, _⟩ := ti.zeroA (bs := bs) hz
  obtain ⟨us, h1, e⟩ := partsK_sound (bs := bs) h
  obtain ⟨cells, h2, e2, ht⟩ := fillK_sound (bs := bs) hT u2 h1
  refine ⟨cells, z.topOk = true ∧ (∀ f ∈ fa.toList, isU c.P f.type = true) ∧ ∀ p ∈ parts.toList, (evP (rawOf (denF bs fr)) p.2).topOk = true, h2, ?_, ?_⟩
  · rw [e, ← z2] at e2
    simp only [ares, hs, u1, z1, e2]
    rfl
  · refine ⟨z3, fun f hf => (u3 f hf).1, fun p hp => ?_⟩
    have hm : (p.1, evP (rawOf (denF bs fr)) p.2) ∈ us.map (fun p => (p.1, den bs p.2)) := by rw [e]; exact List.mem_map_of_mem (f := fun p => (p.1, evP (rawOf (denF bs fr)) p.2)) hp
    obtain ⟨q, hq, hqe⟩ := List.mem_map.1 hm
    have := ht q hq
    simp only [Prod.mk.injEq] at hqe
    rw [← hqe.2]; exact this
end
end Go.Sx
end
section
namespace Go.Sx
open Go Go.Aw
section
variable {c : Cfg} {n : Nat} {fr : SFr} {L : List SObj} {m : AMem} {K : Fr → AMem → Prop} {ops : Array Oper} {l : List Oper} {ty : TypeId} {pos : String} {af : Array Edge}
theorem build_sound' {bs : List Nat} (hT : tabOk c.P c.T = true) (g : Good bs L m) {dst : Option Nat} {t : Nat} {parts : Array (Nat × Operand)} {k : SK} (hk : okOper n ⟨dst, .build t parts, ty, pos, af, none⟩ = true) (hn : tmpsOk n ⟨dst, .build t parts, ty, pos, af, none⟩ = true) (hK : Nx c.P n ops l K c.bs bs k) {sl : List Nat} (hSO : SOp c.P c.bs dst (.build t parts) fr L m k → AOps c.P n ops (⟨dst, .build t parts, ty, pos, af, none⟩ :: l) K (denF bs fr) (memD bs L m)) (h : sop c sl dst (.build t parts) fr L m k) :
    AOps c.P n ops (⟨dst, .build t parts, ty, pos, af, none⟩ :: l) K (denF bs fr) (memD bs L m) := by
  simp only [sop] at h
  cases bw : takes c dst with
  | true => rw [bw] at h; exact hSO h
  | false =>
  rw [bw] at h
  obtain ⟨i, ti, h1⟩ := tg hT h
  cases hi : i.k with
  | st fs =>
    rw [hi] at h1
    obtain ⟨hz, h2⟩ := chk_iff.1 h1
    rw [flK_eq] at h2
    obtain ⟨cells, side, h3, ha, hs⟩ := build_facts (bs := bs) (m := memD bs L m) (stl := []) (d := dst) hT ti hi (by intro e; rw [e] at hz; cases hz) h2 (by cases dst <;> rfl)
    obtain ⟨fr', h4, e⟩ := putK_sound (bs := bs) h3
    refine AOps.val (stl := []) hk hn ha hs ?_
    have := hK.same g h4
    rw [e] at this
    simp only [den] at this
    exact this
  | _ => rw [hi] at h1; exact h1.elim
theorem buildSlice_sound' {b0 new : List Nat} (hT : tabOk c.P c.T = true) (hb0 : c.bs = b0) (g : Good (b0 ++ new) L m) {dst : Option Nat} {t nn : Nat} {parts : Array (Nat × Operand)} {k : SK} (hk : okOper n ⟨dst, .buildSlice t nn parts, ty, pos, af, none⟩ = true) (hn : tmpsOk n ⟨dst, .buildSlice t nn parts, ty, pos, af, none⟩ = true) (hK : Nx c.P n ops l K c.bs (b0 ++ new) k) {sl : List Nat} (h : sop c sl dst (.buildSlice t nn parts) fr L m k) :
    AOps c.P n ops (⟨dst, .buildSlice t nn parts, ty, pos, af, none⟩ :: l) K (denF (b0 ++ new) fr) (memD (b0 ++ new) L m) := by
  simp only [sop] at h
  cases dst with
  | none => exact h.elim
  | some d =>
    simp only at h
    cases hs : has sl d with
    | true =>
      rw [hs] at h
      subst hb0
      exact h.h new g n ops ty pos af l K hk hn hK.2
    | false =>
      rw [hs] at h
      obtain ⟨i, ti, h1⟩ := tg hT h
      unfold slK at h1
      cases hi : i.k with
      | sl e =>
        rw [hi] at h1
        obtain ⟨j, tj, h2⟩ := tg hT h1
        obtain ⟨us, h3, he⟩ := partsK_sound (bs := b0 ++ new) h2
        obtain ⟨c1, h4⟩ := chk_iff.1 h3
        obtain ⟨c2, h5⟩ := chk_iff.1 h4
        obtain ⟨c3, h6⟩ := chk_iff.1 h5
        obtain ⟨h7, ht⟩ := toLK_sound (bs := b0 ++ new) h6
        obtain ⟨c4, h8⟩ := chk_iff.1 h7
        obtain ⟨ha, hside⟩ := buildSlice_facts (bs := b0 ++ new) (m := memD (b0 ++ new) L m) (stl := []) (d := some d) hT ti hi tj he c1 c2 c3 ht c4 rfl
        refine AOps.val (stl := []) hk hn ha hside ?_
        have := hK.same g h8
        simp only [denF, den] at this
        exact this
      | _ => rw [hi] at h1; exact h1.elim
theorem call_sound' {b0 new : List Nat} (hb0 : c.bs = b0) (g : Good (b0 ++ new) L m) {dst : Option Nat} {op : Op} {f : FuncId} {vs : List SV} {k : SK} (hk : okOper n ⟨dst, op, ty, pos, af, none⟩ = true) (hn : tmpsOk n ⟨dst, op, ty, pos, af, none⟩ = true) (hK : Nx c.P n ops l K c.bs (b0 ++ new) k)
    (ha : ares c.P (memD (b0 ++ new) L m) (rawOf (denF (b0 ++ new) fr)) [] dst op = .call f (denL (b0 ++ new) vs)) (h : SCall c.P c.bs f vs fr L m fun y L' m' => putK dst y fr fun fr => k fr L' m') :
    AOps c.P n ops (⟨dst, op, ty, pos, af, none⟩ :: l) K (denF (b0 ++ new) fr) (memD (b0 ++ new) L m) := by
  subst hb0
  obtain ⟨σ, I, yy, LL, mmm, h1, h2', h3'⟩ := h
  refine aop_sound (stl := []) hk hn ?_
  simp only [aop, ha]
  refine h1 new g _ fun x hx nw g' => ?_
  have h2 := h2' x
  have h3 := h3' x hx
  generalize yy x = y at h3 ⊢
  generalize LL x = L' at h2 h3 g' ⊢
  generalize mmm x = mm at h3 g' ⊢
  obtain ⟨fr', h4, e⟩ := putK_sound (bs := c.bs ++ new ++ nw) h3
  have := hK.more nw g' h4
  rw [e] at this
  have e2 : denF (c.bs ++ new ++ nw) fr = denF (c.bs ++ new) fr := by
    cases hb : Nat.beq L'.length L.length with
    | true =>
      have hl : L'.length = L.length := Nat.eq_of_beq_eq_true hb
      have h5 := g'.len
      have h6 := g.len
      have : nw = [] := by
        apply List.eq_nil_of_length_eq_zero
        simp only [List.length_append] at h5 h6
        omega
      rw [this, List.append_nil]
    | false =>
      rw [hb] at h2
      rw [← g.len] at h2
      exact scF_den h2
  rw [e2] at this
  cases dst with
  | none => exact this
  | some d => exact this
theorem append_sound' {b0 new : List Nat} (hT : tabOk c.P c.T = true) (hb0 : c.bs = b0) (g : Good (b0 ++ new) L m) {dst : Option Nat} {args : Array Operand} {ts : Array TypeId} {k : SK} (hk : okOper n ⟨dst, .call ⟨.builtin .append, args, ts⟩, ty, pos, af, none⟩ = true) (hn : tmpsOk n ⟨dst, .call ⟨.builtin .append, args, ts⟩, ty, pos, af, none⟩ = true) (hK : Nx c.P n ops l K c.bs (b0 ++ new) k) {sl : List Nat} (h : sop c sl dst (.call ⟨.builtin .append, args, ts⟩) fr L m k) :
    AOps c.P n ops (⟨dst, .call ⟨.builtin .append, args, ts⟩, ty, pos, af, none⟩ :: l) K (denF (b0 ++ new) fr) (memD (b0 ++ new) L m) := by
  have hSO : SOp c.P c.bs dst (.call ⟨.builtin .append, args, ts⟩) fr L m k → AOps c.P n ops (⟨dst, .call ⟨.builtin .append, args, ts⟩, ty, pos, af, none⟩ :: l) K (denF (b0 ++ new) fr) (memD (b0 ++ new) L m) := fun h => by
    subst hb0
    exact h.h new g n ops ty pos af l K hk hn hK.2
  simp only [sop] at h
  split at h
  · rename_i s y t u d ha ht
    rw [sgK_eq] at h
    obtain ⟨w, h1, e⟩ := opK_sound (b0 ++ new) h
    split at h1
    · rename_i ll o l' hv
      obtain ⟨i, ti, h2⟩ := tg hT h1
      unfold slK at h2
      cases hi : i.k with
      | sl ee =>
        rw [hi] at h2
        obtain ⟨j, tj, h3⟩ := tg hT h2
        obtain ⟨c1, h4⟩ := chk_iff.1 h3
        refine h4.h.elim (fun h4 => ?_) hSO
        clear h3
        obtain ⟨⟨q1, q2, q3, q4⟩, h5⟩ := h4
        obtain rfl := Nat.eq_of_beq_eq_true c1
        obtain ⟨u1, u2, u3, u4⟩ := ti.sl hi
        have hr := rawOf_denF (b0 ++ new) fr s
        rw [hv] at hr
        simp only [den, AV.plain] at hr e
        refine AOps.val (stl := []) (ss := [s]) (side := t = t ∧ isU c.P ee = true ∧ 0 < c.P.cellsOf ee ∧ zOk c.P ee = true ∧ (ll.length + l'.length) * c.P.bytesOf ee ≤ 140737488355328 ∧ ll.length + l'.length ≤ 140737488355328 ∧ (∀ x ∈ ll, x.cells.length = c.P.cellsOf ee) ∧ ∀ x ∈ l', x.cells.length = c.P.cellsOf ee ∧ x.cells.all AV.one = true) (m' := memD (b0 ++ new) L m) (x := .slice true (ll ++ l')) hk hn ?_ ?_ ?_
        · simp only [ares, ha, ht, u1, hr, ← e]
        · rw [tj.bytes, tj.cells]
          exact ⟨rfl, u2, tj.cells ▸ u3, u4, q1, q2, q3, q4⟩
        · have := hK.same g h5
          simp only [denF, den, AV.plain] at this
          simp only [Fr.strip, Fr.put, putO, hr, AV.plain]
          exact this
      | _ => rw [hi] at h2; exact h2.elim
    · exact hSO h1
  · rename_i y t u d ha ht
    obtain ⟨w, h1, e⟩ := opK_sound (b0 ++ new) h
    split at h1
    · rename_i o l'
      obtain ⟨i, ti, h2⟩ := tg hT h1
      unfold slK at h2
      cases hi : i.k with
      | sl ee =>
        rw [hi] at h2
        obtain ⟨j, tj, h3⟩ := tg hT h2
        obtain ⟨c1, h4⟩ := chk_iff.1 h3
        refine h4.h.elim (fun h4 => ?_) hSO
        clear h3
        obtain ⟨⟨q1, q2, q3, q4⟩, h5⟩ := h4
        obtain rfl := Nat.eq_of_beq_eq_true c1
        obtain ⟨u1, u2, u3, u4⟩ := ti.sl hi
        simp only [den, AV.plain] at e
        refine AOps.val (stl := []) (ss := []) (side := t = t ∧ isU c.P ee = true ∧ 0 < c.P.cellsOf ee ∧ zOk c.P ee = true ∧ l'.length * c.P.bytesOf ee ≤ 140737488355328 ∧ ∀ x ∈ l', x.cells.length = c.P.cellsOf ee ∧ x.cells.all AV.one = true) (m' := memD (b0 ++ new) L m) (x := .slice true l') hk hn ?_ ?_ ?_
        · simp only [ares, ha, ht, u1, ← e]
        · rw [tj.bytes, tj.cells]
          simp only [List.length_nil, Nat.zero_add] at q1
          exact ⟨rfl, u2, tj.cells ▸ u3, u4, q1, q4⟩
        · have := hK.same g h5
          simp only [denF, den, List.nil_append] at this
          exact this
      | _ => rw [hi] at h2; exact h2.elim
    · exact hSO h1
  · exact h.elim
set_option maxHeartbeats 4000000 in
theorem sop_sound {b0 new : List Nat} (hT : tabOk c.P c.T = true) (hb0 : c.bs = b0) (g : Good (b0 ++ new) L m) {dst : Option Nat} {op : Op} {k : SK} (hd : ∀ t a x, op = .store t a x → dst = none) (hk : okOper n ⟨dst, op, ty, pos, af, none⟩ = true) (hn : tmpsOk n ⟨dst, op, ty, pos, af, none⟩ = true) (hK : Nx c.P n ops l K c.bs (b0 ++ new) k) {sl : List Nat} (h : sop c sl dst op fr L m k) :
    AOps c.P n ops (⟨dst, op, ty, pos, af, none⟩ :: l) K (denF (b0 ++ new) fr) (memD (b0 ++ new) L m) := by
  have hSO : SOp c.P c.bs dst op fr L m k → AOps c.P n ops (⟨dst, op, ty, pos, af, none⟩ :: l) K (denF (b0 ++ new) fr) (memD (b0 ++ new) L m) := fun h => by
    subst hb0
    exact h.h new g n ops ty pos af l K hk hn hK.2
  have hh := h
  unfold sop at h
  split at h
  · exact assign_sound g hk hn hK hh
  · exact move_sound g hk hn hK hh
  · exact extract_sound g hk hn hK hh
  · exact load_sound hT rfl hb0 g hk hn hK hh
  · exact store_sound hT rfl hb0 g (hd _ _ _ rfl) hk hn hK hh
  · exact alloc_sound hT rfl hb0 g hk hn hK hh
  · exact box_sound g hk hn hK hh
  · exact makeMap_sound hT g hk hn hK hh
  · exact build_sound' hT g hk hn hK hSO hh
  · exact buildSlice_sound' hT hb0 g hk hn hK hh
  · -- a function value
    obtain ⟨us, h1, e1⟩ := opLK_sound (b0 ++ new) h
    obtain ⟨vs, h2, e2⟩ := opLK_sound (b0 ++ new) h1
    cases dst with
    | none => exact h2.elim
    | some d =>
      have hq := hK.same g h2
      simp only [denF, den, e1, e2] at hq
      have := ar_makeFunc (P := c.P) (ops := ops) (stl := []) (r := []) (K := AOps c.P n ops l K) (fr := denF (b0 ++ new) fr) (m := memD (b0 ++ new) L m) (d := d) (ty := ty) (pos := pos) (af := af) (gd := none) rfl rfl rfl hq
      exact aopR_sound hk hn this
  · obtain ⟨q, h1, e1⟩ := opK_sound (b0 ++ new) h
    refine aopR_sound (stl := []) hk hn ?_
    split at h1
    · obtain ⟨u, h2, e2⟩ := opK_sound (b0 ++ new) h1
      obtain ⟨fr', h3, e3⟩ := putK_sound (bs := b0 ++ new) h2
      have hq := hK.same g h3
      rw [e3, e2] at hq
      simp only [den, SB.val] at e1
      simp only [aopR, gOn, ← e1]
      exact hq
    · obtain ⟨u, h2, e2⟩ := opK_sound (b0 ++ new) h1
      obtain ⟨fr', h3, e3⟩ := putK_sound (bs := b0 ++ new) h2
      have hq := hK.same g h3
      rw [e3, e2] at hq
      simp only [den, SB.val] at e1
      simp only [aopR, gOn, ← e1]
      exact hq
    · exact h1.elim
  · exact append_sound' hT hb0 g hk hn hK hh
  · cases bw : takes c dst with
    | true => simp only [bw] at h; exact hSO h
    | false =>
      simp only [bw] at h
      obtain ⟨us, h1, e1⟩ := opLK_sound (b0 ++ new) h
      exact call_sound' hb0 g hk hn hK (by simp only [ares, e1]) h1
  · rw [sgK_eq] at h
    split at h
    · rename_i t args _ _ f a cp hv
      obtain ⟨us, h1, e1⟩ := opLK_sound (b0 ++ new) h
      rw [flK_eq] at h1
      refine call_sound' hb0 g hk hn hK ?_ h1
      have hr := rawOf_denF (b0 ++ new) fr t
      rw [hv] at hr
      simp only [den] at hr
      simp only [ares, hr, denL_eq, List.map_append]
      rw [denL_eq] at e1
      rw [e1]
    · exact hSO h
  all_goals first | exact hSO h | skip
  · cases bw : takes c dst with
    | true => simp only [bw] at h; exact hSO h
    | false =>
      simp only [bw] at h
      cases dst with
      | none => exact h.elim
      | some d => exact quiet_sound hT g hk hK h
  cases dst with
  | none => exact h.elim
  | some d => exact quiet_sound hT g hk hK h
end
end Go.Sx
end
section
namespace Go.Sx
open Go Go.Aw
section
variable {c : Cfg} {n : Nat} {L : List SObj} {m : AMem} {K : Fr → AMem → Prop} {ops : Array Oper} {l : List Oper} {bs : List Nat}
theorem rpK_sound {t : Nat} {v : SV} : ∀ {fr : SFr} {k : SFr → Prop}, rpK fr t v k → den bs v = den bs (sg fr t) → ∃ fr', k fr' ∧ denF bs fr' = denF bs fr
  | [], _, h, _ => ⟨_, h, rfl⟩
  | (s, x) :: r, k, h, e => by
    simp only [rpK] at h
    simp only [sg] at e
    cases hb : Nat.beq s t with
    | true =>
      rw [hb] at h e
      exact ⟨_, h, by simp only [denF]; rw [show den bs v = den bs x from e]⟩
    | false =>
      rw [hb] at h e
      obtain ⟨fr', h', e'⟩ := rpK_sound (fr := r) h e
      exact ⟨_, h', by simp only [denF, e']⟩
theorem sgd_sound {gd : Option (Nat × Bool)} {fr : SFr} {on off : SFr → Prop} (h : sgd ops.toList gd fr on off) :
    (gOn ops (denF bs fr) gd = some true ∧ ∃ fr', on fr' ∧ denF bs fr' = denF bs fr) ∨ (gOn ops (denF bs fr) gd = some false ∧ ∃ fr', off fr' ∧ denF bs fr' = denF bs fr) := by
  cases gd with
  | none => exact .inl ⟨rfl, _, h, rfl⟩
  | some jb =>
    obtain ⟨j, b⟩ := jb
    simp only [sgd] at h
    rw [nth_eq, Array.getElem?_toList] at h
    cases hg : (ops[j]?).bind (·.dst) with
    | none => rw [hg] at h; exact h.elim
    | some g =>
      rw [hg] at h
      simp only at h
      rw [sgK_eq] at h
      have hr := rawOf_denF bs fr g
      have hgo : ∀ x, rawOf (denF bs fr) g = x → gOn ops (denF bs fr) (some (j, b)) = gLit x b := fun x e => by simp only [gOn, hg, e]
      have key : ∀ (q : SB), sg fr g = .b q → (b = true → q.ways (rpK fr g (.b (.lit true)) on) (rpK fr g (.b (.lit false)) off)) → (b = false → q.ways (rpK fr g (.b (.lit true)) off) (rpK fr g (.b (.lit false)) on)) →
          (gOn ops (denF bs fr) (some (j, b)) = some true ∧ ∃ fr', on fr' ∧ denF bs fr' = denF bs fr) ∨ (gOn ops (denF bs fr) (some (j, b)) = some false ∧ ∃ fr', off fr' ∧ denF bs fr' = denF bs fr) := fun q hq k1 k2 => by
        have hd : den bs (sg fr g) = .bool q.val := by rw [hq]; simp only [den]
        rw [hgo (.bool q.val) (hr.trans hd)]
        cases hb : b with
        | true =>
          obtain ⟨w1, w2⟩ := q.ways_sound (k1 hb)
          cases hv : q.val with
          | true => exact .inl ⟨rfl, rpK_sound (w1 hv) (by rw [hd, hv]; simp only [den, SB.val])⟩
          | false => exact .inr ⟨rfl, rpK_sound (w2 hv) (by rw [hd, hv]; simp only [den, SB.val])⟩
        | false =>
          obtain ⟨w1, w2⟩ := q.ways_sound (k2 hb)
          cases hv : q.val with
          | true => exact .inr ⟨rfl, rpK_sound (w1 hv) (by rw [hd, hv]; simp only [den, SB.val])⟩
          | false => exact .inl ⟨rfl, rpK_sound (w2 hv) (by rw [hd, hv]; simp only [den, SB.val])⟩
      cases hs : sg fr g with
      | b q =>
        rw [hs] at h
        cases q with
        | lit z =>
          have hd : rawOf (denF bs fr) g = .bool z := by rw [hr, hs]; simp only [den, SB.val]
          rw [hgo _ hd]
          cases z <;> cases b <;> first | exact .inl ⟨rfl, _, h, rfl⟩ | exact .inr ⟨rfl, _, h, rfl⟩
        | _ => exact key _ hs (fun e => by subst e; exact h) (fun e => by subst e; exact h)
      | off =>
        rw [hs] at h
        have hd : rawOf (denF bs fr) g = .lazy false .junk := by rw [hr, hs]; simp only [den]
        rw [hgo _ hd]
        refine .inr ⟨?_, _, h, rfl⟩
        cases b <;> rfl
      | _ => rw [hs] at h; exact h.elim
def stOk (o : Oper) : Bool :=
  match o.op, o.dst with
  | .store _ _ _, some _ => false
  | _, _ => true
theorem stOk_none {o : Oper} (h : stOk o = true) : ∀ t a x, o.op = .store t a x → o.dst = none := by
  intro t a x e
  unfold stOk at h
  rw [e] at h
  cases hd : o.dst with
  | none => rfl
  | some d => rw [hd] at h; cases h
theorem sops_sound {b0 : List Nat} (hT : tabOk c.P c.T = true) (hb0 : c.bs = b0) {sl : List Nat} : ∀ (l : List Oper) {fr : SFr} {L : List SObj} {m : AMem} {new : List Nat} {k : SK}, (∀ o ∈ l, okOper n o = true ∧ tmpsOk n o = true ∧ stOk o = true) → Good (b0 ++ new) L m →
    sops c ops.toList sl l fr L m k → (∀ fr' L' m' nw, Good (b0 ++ nw) L' m' → k fr' L' m' → K (denF (b0 ++ nw) fr') (memD (b0 ++ nw) L' m')) → AOps c.P n ops l K (denF (b0 ++ new) fr) (memD (b0 ++ new) L m)
  | [], fr, L, m, new, k, _, g, h, hK => AOps.nil (hK fr L m new g h)
  | o :: r, fr, L, m, new, k, hok, g, h, hK => by
    obtain ⟨dst, op, ty, pos, af, gd⟩ := o
    obtain ⟨h1, h2, h3⟩ := hok _ (List.mem_cons_self ..)
    rw [sops_cons] at h
    rcases sgd_sound (bs := b0 ++ new) h with ⟨hg, fr', h, e⟩ | ⟨hg, fr', h, e⟩
    · refine AOps.guardOn hg ?_
      rw [← e]
      refine sop_sound hT hb0 g (stOk_none (o := ⟨dst, op, ty, pos, af, gd⟩) h3) h1 h2 ⟨by rw [hb0]; exact List.prefix_append _ _, fun fr2 L2 m2 bs2 hp g2 h => ?_⟩ h
      obtain ⟨nw, rfl⟩ := hp
      rw [hb0] at g2 ⊢
      exact sops_sound hT hb0 r (new := nw) (fun o ho => hok o (List.mem_cons_of_mem _ ho)) g2 h hK
    · refine AOps.guardOff hg h1 ?_
      rw [← e]
      obtain ⟨fr2, h, e2⟩ := putK_sound (bs := b0 ++ new) h
      have := sops_sound hT hb0 r (new := new) (fun o ho => hok o (List.mem_cons_of_mem _ ho)) g h hK
      rw [e2] at this
      simp only [den] at this
      exact this
theorem spure_sound {b0 new : List Nat} (hT : tabOk c.P c.T = true) (hb0 : c.bs = b0) (g : Good (b0 ++ new) L m) {o : Oper} {fr : SFr} {k : SFr → Prop} (h : spure c o.dst o.op fr L m k) :
    ∃ cv side x, pv0 c.P (memD (b0 ++ new) L m) cv (rawOf (denF (b0 ++ new) fr)) o = some (side, x) ∧ side ∧ ∃ fr', k fr' ∧ denF (b0 ++ new) fr' = putO (denF (b0 ++ new) fr) o.dst x := by
  obtain ⟨dst, op, ty, pos, af, gd⟩ := o
  cases dst with
  | none => exact h.elim
  | some d =>
    simp only [spure] at h
    split at h
    · subst hb0
      obtain ⟨us, h1, e⟩ := opLK_sound (c.bs ++ new) h
      obtain ⟨y, h2, h3⟩ := h1
      obtain ⟨cv, h4, h5⟩ := h2 new g
      refine ⟨cv, _, _, by simp only [pv0]; rfl, ?_, _, h3, ?_⟩
      · rw [← e]; exact h4
      · simp only [denF, putO, Fr.put, h5]
    · rename_i t parts
      obtain ⟨i, ti, h1⟩ := tg hT h
      cases hi : i.k with
      | st fs =>
        rw [hi] at h1
        obtain ⟨hz, h2⟩ := chk_iff.1 h1
        rw [flK_eq] at h2
        obtain ⟨cells, side, h3, ha, hs⟩ := build_facts (bs := b0 ++ new) (m := memD (b0 ++ new) L m) (stl := []) (d := some d) hT ti hi (by intro e; rw [e] at hz; cases hz) h2 rfl
        obtain ⟨u, h4, e⟩ := cellsK_sound (b0 ++ new) h3
        refine ⟨.junk, side, (AV.agg (denL (b0 ++ new) cells)).plain, by simp only [pv0, ha], hs, _, h4, ?_⟩
        simp only [denF, den, putO, Fr.put, AV.plain, e]
      | _ => rw [hi] at h1; exact h1.elim
    · rename_i t nn parts
      obtain ⟨i, ti, h1⟩ := tg hT h
      unfold slK at h1
      cases hi : i.k with
      | sl e =>
        rw [hi] at h1
        obtain ⟨j, tj, h2⟩ := tg hT h1
        obtain ⟨us, h3, he⟩ := partsK_sound (bs := b0 ++ new) h2
        obtain ⟨c1, h4⟩ := chk_iff.1 h3
        obtain ⟨c2, h5⟩ := chk_iff.1 h4
        obtain ⟨c3, h6⟩ := chk_iff.1 h5
        obtain ⟨h7, ht⟩ := toLK_sound (bs := b0 ++ new) h6
        obtain ⟨c4, h8⟩ := chk_iff.1 h7
        obtain ⟨ha, hside⟩ := buildSlice_facts (bs := b0 ++ new) (m := memD (b0 ++ new) L m) (stl := []) (d := some d) hT ti hi tj he c1 c2 c3 ht c4 rfl
        refine ⟨.junk, _, (AV.slice true (denL (b0 ++ new) (vals us))).plain, by simp only [pv0, ha], hside, _, h8, ?_⟩
        simp only [denF, den, putO, Fr.put, AV.plain]
      | _ => rw [hi] at h1; exact h1.elim
    · obtain ⟨q, h1, e1⟩ := opK_sound (b0 ++ new) h
      split at h1
      · obtain ⟨u, h2, e2⟩ := opK_sound (b0 ++ new) h1
        simp only [den, SB.val] at e1
        exact ⟨.junk, True, _, by simp only [pv0, ← e1]; rfl, trivial, _, h2, by simp only [denF, putO, Fr.put, e2]⟩
      · obtain ⟨u, h2, e2⟩ := opK_sound (b0 ++ new) h1
        simp only [den, SB.val] at e1
        exact ⟨.junk, True, _, by simp only [pv0, ← e1]; rfl, trivial, _, h2, by simp only [denF, putO, Fr.put, e2]⟩
      · exact h1.elim
    · rename_i n1 n2 n3 n4
      obtain ⟨side, z, u, hq, hs, rfl, h1⟩ := sqv_sound (P := c.P) (bs := b0 ++ new) (m := m) hT g h
      refine ⟨.junk, side, _, ?_, hs, _, h1, rfl⟩
      rw [← hq]
      unfold pv0
      split
      · rename_i e; exact (n1 _ _ _ e).elim
      · rename_i e; exact (n3 _ _ _ e).elim
      · rename_i e; exact (n2 _ _ e).elim
      · rename_i e; exact (n4 _ _ _ e).elim
      · rfl
theorem spures_sound {b0 new : List Nat} (hT : tabOk c.P c.T = true) (hb0 : c.bs = b0) (g : Good (b0 ++ new) L m) : ∀ (l : List Oper) {fr : SFr} {k : SFr → Prop}, spures c ops.toList l fr L m k →
    ∃ cs, pseq c.P ops (memD (b0 ++ new) L m) cs l (denF (b0 ++ new) fr) (fun f => ∃ fr', f = denF (b0 ++ new) fr' ∧ k fr')
  | [], fr, k, h => ⟨[], _, rfl, h⟩
  | o :: r, fr, k, h => by
    rw [spures_cons] at h
    rcases sgd_sound (bs := b0 ++ new) h with ⟨hg, fr', h, e⟩ | ⟨hg, fr', h, e⟩
    · obtain ⟨cv, side, x, h1, h2, fr2, h3, e2⟩ := spure_sound hT hb0 g h
      obtain ⟨cs, h4⟩ := spures_sound hT hb0 g r h3
      rw [e2, e] at h4
      rw [e] at h1
      by_cases hc : ∃ f args ts, o.op = .call ⟨.value (.func f), args, ts⟩
      · obtain ⟨f, args, ts, e3⟩ := hc
        refine ⟨cv :: cs, ?_⟩
        simp only [pseq, List.headD_cons]
        rw [pv_on hg, h1]
        simp only [e3, List.tail_cons]
        exact ⟨h2, h4⟩
      · have h1' : pv0 c.P (memD (b0 ++ new) L m) (cs.headD .junk) (rawOf (denF (b0 ++ new) fr)) o = some (side, x) := by
          rw [← h1]
          unfold pv0
          split
          · rename_i e3; exact absurd ⟨_, _, _, e3⟩ hc
          all_goals rfl
        refine ⟨cs, ?_⟩
        simp only [pseq]
        rw [pv_on hg, h1']
        refine ⟨h2, ?_⟩
        split
        · rename_i e3; exact absurd ⟨_, _, _, e3⟩ hc
        · exact h4
    · obtain ⟨fr2, h3, e2⟩ := putK_sound (bs := b0 ++ new) h
      obtain ⟨cs, h4⟩ := spures_sound hT hb0 g r h3
      rw [e2, e] at h4
      simp only [den] at h4
      by_cases hc : ∃ f args ts, o.op = .call ⟨.value (.func f), args, ts⟩
      · obtain ⟨f, args, ts, e3⟩ := hc
        refine ⟨.junk :: cs, ?_⟩
        simp only [pseq]
        rw [pv_off hg]
        simp only [e3, List.tail_cons]
        exact ⟨trivial, h4⟩
      · refine ⟨cs, ?_⟩
        simp only [pseq]
        rw [pv_off hg]
        refine ⟨trivial, ?_⟩
        split
        · rename_i e3; exact absurd ⟨_, _, _, e3⟩ hc
        · exact h4
theorem aliasK_sound : ∀ {al : List (Nat × Nat)} {fr : SFr} {k : SFr → Prop}, aliasK al fr k → ∃ fr', k fr' ∧ denF bs fr' = (denF bs fr).alias al
  | [], _, _, h => ⟨_, h, rfl⟩
  | (d, s) :: r, fr, k, h => by
    simp only [aliasK] at h
    rw [sgK_eq] at h
    obtain ⟨hn, h1⟩ := chk_iff.1 h
    obtain ⟨u, h2, e⟩ := splK_sound bs hn h1
    obtain ⟨fr', h3, e2⟩ := aliasK_sound h2
    refine ⟨fr', h3, ?_⟩
    rw [e2]
    simp only [denF, Fr.alias, Fr.put, rawOf_denF, e]
section
variable {P : Program} {fr : Fr} {Q Q' : Exit → Fr → AMem → Prop} {cd : Code}
theorem AWP.weak (hq : ∀ e fr m, Q e fr m → ∃ fr' m', Le fr' fr ∧ (∀ b o, m' b = some o → m b = some o) ∧ Q' e fr' m') (h : AWP P n cd Q fr m) : AWP P n cd Q' fr m := fun F lim w ca st =>
  wp_mono (h F lim w ca st) fun e _ _ ⟨l, f, mm, q, st', pr⟩ => by
    obtain ⟨f', m', h1, h2, h3⟩ := hq e f mm q
    exact ⟨l, f', m', h3, (St.less st' h1).memSub h2, pr⟩
theorem AWP.memLess {m' : AMem} (hs : ∀ b o, m' b = some o → m b = some o) (h : AWP P n cd Q fr m') : AWP P n cd Q fr m := fun F lim w ca st => h F lim w ca (st.memSub hs)
theorem AOps.slots (h : AOps P n ops l K fr m) : AOps P n ops l (fun f m => (∀ t x, f.get t = some x → t < n) ∧ K f m) fr m := fun F lim w ca QQ st hq =>
  h F lim w ca QQ st fun lim' w' f m' ca' hk st' pr => hq lim' w' f m' ca' ⟨fun t x hx => by obtain ⟨_, _, _, s⟩ := st'; exact (s.slots t x hx).1, hk⟩ st' pr
theorem get_keep_mem {f : Fr} {t : Nat} : ∀ {ks : List Nat}, t ∈ ks → (Fr.keep ks f).get t = some ((f.get t).getD .junk)
  | s :: r, h => by
    simp only [Fr.keep, List.map_cons, Fr.get]
    by_cases e : s = t
    · subst e; rw [if_pos rfl]
    · rw [if_neg e]
      rcases List.mem_cons.1 h with rfl | h
      · exact absurd rfl e
      · exact get_keep_mem (f := f) h
theorem keep_le {f : Fr} (hf : ∀ t x, f.get t = some x → t < n) : Le f (f.keep (List.range n)) := fun t x hx => by
  refine ⟨x, ?_, .inl rfl⟩
  rw [get_keep_mem (List.mem_range.2 (hf t x hx)), hx]; rfl
theorem okAll_range (h : okAll n ops [] = true) : okAll n ops (List.range n) = true := by
  simp only [okAll, Bool.and_eq_true, List.all_eq_true] at h ⊢
  exact ⟨h.1, fun t ht => by simpa using ht⟩
theorem awp_regX {id : Nat} (hk : okAll n ops [] = true) (h : AOps P n ops ops.toList (fun fr m => Q .normal fr m) fr m) : AWP P n (.region id ops false) Q fr m := by
  have := okAll_range hk
  simp only [okAll, Bool.and_eq_true] at this
  refine AWP.weak (Q := fun e f m => ∃ f', Le f' f ∧ Q e f' m) (fun e f m ⟨f', h1, h2⟩ => ⟨f', m, h1, fun _ _ h => h, h2⟩) (awp_region (List.range n) this.2 ?_)
  intro F lim w ca QQ st hq
  exact (AOps.slots h) F lim w ca QQ st fun lim' w' f m' ca' hk st' pr => hq lim' w' f m' ca' ⟨f, keep_le hk.1, hk.2⟩ st' pr
theorem awp_drawX {id : Nat} (hm : P.follows .mixedOrders = true) (p : Nat) (al : List (Nat × Nat)) (hk : okAll n ops [] = true) (hd : drawTail ops p al = true)
    (h : ∃ cs, pseq P ops m cs (ops.toList.take p) fr (fun fr' => AOps P n ops (ops.toList.drop p) (fun fr m => Q .normal fr m) (fr'.alias al) m)) : AWP P n (.region id ops true) Q fr m := by
  obtain ⟨cs, h⟩ := h
  refine AWP.weak (Q := fun e f m => ∃ f', Le f' f ∧ Q e f' m) (fun e f m ⟨f', h1, h2⟩ => ⟨f', m, h1, fun _ _ h => h, h2⟩) (awp_draw_tail0 hm p al cs (List.range n) (okAll_range hk) hd (pseq_mono _ (fun f h => ?_) h))
  intro F lim w ca QQ st hq
  exact (AOps.slots h) F lim w ca QQ st fun lim' w' f m' ca' hk st' pr => hq lim' w' f m' ca' ⟨f, keep_le hk.1, hk.2⟩ st' pr
end
def regOk (xs : List Nat) (n id : Nat) (ops : Array Oper) (draw : Bool) : Bool :=
  okAll n ops [] && (ops.toList.all stOk) && (!draw || has xs (id * 1000 + 999) || drawTail ops (pureN xs id ops.toList 0) (alOf (apSl ops.toList) (ops.toList.take (pureN xs id ops.toList 0))))
theorem sreg_sound {b0 new : List Nat} (hT : tabOk c.P c.T = true) (hm : c.P.follows .mixedOrders = true) (hb0 : c.bs = b0) (g : Good (b0 ++ new) L m) {id : Nat} {draw : Bool} (hr : regOk c.xs n id ops draw = true) {fr : SFr} {k : SK} {Q : Exit → Fr → AMem → Prop}
    (h : sreg c id ops.toList draw k fr L m) (hK : ∀ fr' L' m' nw, Good (b0 ++ nw) L' m' → k fr' L' m' → Q .normal (denF (b0 ++ nw) fr') (memD (b0 ++ nw) L' m')) : AWP c.P n (.region id ops draw) Q (denF (b0 ++ new) fr) (memD (b0 ++ new) L m) := by
  simp only [regOk, Bool.and_eq_true] at hr
  obtain ⟨⟨h1, h2⟩, h3⟩ := hr
  have hok : ∀ o ∈ ops.toList, okOper n o = true ∧ tmpsOk n o = true ∧ stOk o = true := fun o ho => by
    simp only [okAll, Bool.and_eq_true, List.all_eq_true] at h1
    rw [List.all_eq_true] at h2
    exact ⟨(h1.1 o ho).1, (h1.1 o ho).2, h2 o ho⟩
  cases draw with
  | false => exact awp_regX h1 (sops_sound hT hb0 _ hok g h hK)
  | true =>
    simp only [sreg] at h
    cases hx : has c.xs (id * 1000 + 999) with
    | true => rw [hx] at h; exact h.elim
    | false =>
    rw [hx] at h h3
    simp only [flK_eq] at h
    refine awp_drawX hm (pureN c.xs id ops.toList 0) (alOf (apSl ops.toList) (ops.toList.take (pureN c.xs id ops.toList 0))) h1 (by simpa using h3) ?_
    obtain ⟨cs, h4⟩ := spures_sound hT hb0 g _ h
    refine ⟨cs, pseq_mono _ (fun f hf => ?_) h4⟩
    obtain ⟨fr', rfl, h5⟩ := hf
    obtain ⟨fr2, h6, e⟩ := aliasK_sound (bs := b0 ++ new) h5
    rw [← e]
    exact sops_sound hT hb0 _ (fun o ho => hok o (List.mem_of_mem_drop ho)) g h6 hK
end
end Go.Sx
end
section
namespace Go.Sx
open Go Go.Aw
def cdOk (c : List Nat) (n : Nat) : Code → Bool
  | .region id ops draw => regOk c n id ops draw
  | .seq a b => cdOk c n a && cdOk c n b
  | .cond q x y => opdOk q && cdOk c n x && cdOk c n y
  | .block _ b => cdOk c n b
  | .loop b => cdOk c n b
  | .skip | .ret | .exit _ => true
  | _ => false
def SPost (bs : List Nat) (kn : SK) (kx : Nat → SK) (kr : SK) (e : Exit) (f : Fr) (mm : AMem) : Prop :=
  ∃ fr L m nw, Good (bs ++ nw) L m ∧ f = denF (bs ++ nw) fr ∧ mm = memD (bs ++ nw) L m ∧
    match e with
    | .normal => kn fr L m
    | .exit id => kx id fr L m
    | .ret => kr fr L m
    | _ => False
section
variable {c : Cfg} {n : Nat} {b0 : List Nat}
theorem SPost.mk0 {b0 new : List Nat} {kn : SK} {kx : Nat → SK} {kr : SK} {e : Exit} {fr : SFr} {L : List SObj} {m : AMem} (g : Good (b0 ++ new) L m) (h : match e with | .normal => kn fr L m | .exit id => kx id fr L m | .ret => kr fr L m | _ => False) : SPost b0 kn kx kr e (denF (b0 ++ new) fr) (memD (b0 ++ new) L m) :=
  ⟨fr, L, m, new, g, rfl, rfl, h⟩
theorem take_split {b0 new : List Nat} {n : Nat} (h : b0.length ≤ n) : (b0 ++ new).take n = b0 ++ new.take (n - b0.length) := by
  rw [List.take_append, List.take_of_length_le h]
theorem sgO_get (bs : List Nat) : ∀ {fr : SFr} {t : Nat} {v : SV}, sgO fr t = some v → (denF bs fr).get t = some (den bs v)
  | [], _, _, h => by cases h
  | (s, x) :: r, t, v, h => by
    simp only [sgO] at h
    simp only [denF, Fr.get]
    cases hb : Nat.beq s t with
    | true =>
      rw [hb] at h
      rw [if_pos (Nat.eq_of_beq_eq_true hb)]
      simp only [cond_true, Option.some.injEq] at h
      rw [h]
    | false =>
      rw [hb] at h
      have : ¬ s = t := by
        intro e
        subst e
        have : Nat.beq s s = true := Nat.beq_refl s
        rw [this] at hb
        cases hb
      rw [if_neg this]
      exact sgO_get bs h
theorem errS_den (bs : List Nat) (E : Nat) (v : SV) : den bs (errS E v) = (den bs v).toErr E := by
  unfold errS
  split
  · simp only [den, AV.plain, AV.toErr]
  · rename_i u e
    simp only [den, AV.plain, AV.toErr]
    cases hb : Nat.beq u E with
    | true =>
      obtain rfl := Nat.eq_of_beq_eq_true hb
      by_cases he : e = 0
      · subst he; simp [den, AV.plain]
      · simp [he, den, AV.plain]
    | false =>
      have : ¬ u = E := fun e => by subst e; rw [Nat.beq_refl] at hb; cases hb
      simp [this, den, AV.plain]
  · rename_i h1 h2
    cases v with
    | av x =>
      cases x with
      | nilIface => exact absurd rfl h1
      | iface u y =>
        simp only [den, AV.plain]
        cases y with
        | int k z => cases k <;> first | exact absurd rfl (h2 _ _) | simp only [AV.toErr]
        | _ => simp only [AV.toErr]
      | _ => simp only [den, AV.plain, AV.toErr]
    | _ => simp only [den, AV.toErr]
theorem errS_le (bs : List Nat) (E : Nat) (v : SV) : LeV (den bs (errS E v)) (den bs v) := by
  rw [errS_den]
  by_cases h : (den bs v).toErr E = den bs v
  · exact .inl h
  · right
    intro w lim u os hr
    have h2 := toErr_rep E hr
    have h3 := h2.plain
    have h4 : ((den bs v).toErr E).plain = (den bs v).toErr E := by
      generalize den bs v = x at h ⊢
      cases x with
      | nilIface => simp only [AV.toErr, AV.plain]
      | iface u y =>
        cases y with
        | int k z =>
          cases k <;> simp only [AV.toErr] at h ⊢ <;> first | (split <;> simp only [AV.plain]) | (simp only [AV.plain]; done) | exact absurd rfl h
        | _ => exact absurd rfl h
      | _ => exact absurd rfl h
    rw [h4] at h3
    exact h3
theorem nrm_le (bs : List Nat) (E : Nat) (md : List (Nat × Nat)) (t : Nat) (v : SV) : LeV (den bs (nrm E md t v)) (den bs v) := by
  unfold nrm
  split
  · cases md.any (fun p => Nat.beq p.1 t) with
    | true => exact .inl (by simp only [cond_true, den, SB.val])
    | false => exact .inl rfl
  · exact .inl (by simp only [den, SB.val])
  · cases md.any (fun p => Nat.beq p.1 t) with
    | true => exact .pl (by simp only [cond_true, den, AV.plain])
    | false => exact .inl rfl
  · exact .inl (by simp only [den, AV.plain, avL_den])
  · cases md.any (fun p => Nat.beq p.1 t) with
    | true => exact errS_le bs E _
    | false => exact .inl rfl
theorem kp_le (bs : List Nat) (E : Nat) (md : List (Nat × Nat)) : ∀ (ks : List Nat) (fr : SFr), Le (denF bs (kp E md ks fr)) (denF bs fr)
  | [], fr, t, x, h => by simp only [kp, denF, Fr.get] at h; cases h
  | s :: r, fr, t, x, h => by
    simp only [kp] at h
    cases hs : sgO fr s with
    | none => rw [hs] at h; exact kp_le bs E md r fr t x h
    | some v =>
      rw [hs] at h
      simp only [denF, Fr.get] at h
      by_cases e : s = t
      · subst e
        rw [if_pos rfl] at h
        refine ⟨_, sgO_get bs hs, ?_⟩
        have : den bs (nrm E md s v) = x := by simpa using h
        rw [← this]
        exact nrm_le bs E md s v
      · rw [if_neg e] at h
        exact kp_le bs E md r fr t x h
theorem nrmC_den (bs : List Nat) : ∀ (l : List SV), denL bs (nrmC l) = denL bs l
  | [] => rfl
  | v :: r => by cases v <;> simp only [nrmC, denL, den, SB.val, nrmC_den bs r]
theorem nrmO_den (bs : List Nat) (o : SObj) : denO bs (nrmO o) = denO bs o := by
  cases o with
  | cells l => simp only [nrmO, denO, nrmC_den]
  | obj o => rfl
theorem nrmM_den (bs : List Nat) : ∀ (L : List SObj), (nrmM L).map (denO bs) = L.map (denO bs)
  | [] => rfl
  | o :: r => by simp only [nrmM, List.map_cons, nrmO_den, nrmM_den bs r]
theorem nrmC_sc (n : Nat) : ∀ (l : List SV), scAll n (nrmC l) = scAll n l
  | [] => rfl
  | v :: r => by cases v <;> simp only [nrmC, scAll, sc1, nrmC_sc n r]
theorem nrmM_sc (n : Nat) : ∀ (L : List SObj), scM n (nrmM L) = scM n L
  | [] => rfl
  | .cells l :: r => by simp only [nrmM, nrmO, scM, scO, nrmC_sc, nrmM_sc n r]
  | .obj o :: r => by simp only [nrmM, nrmO, scM, scO, nrmM_sc n r]
theorem nrmM_len : ∀ (L : List SObj), (nrmM L).length = L.length
  | [] => rfl
  | o :: r => by simp only [nrmM, List.length_cons, nrmM_len r]
theorem fits_sound {md : List (Nat × Nat)} {ks : List Nat} {k : Nat} {fr : SFr} {L : List SObj} {m : AMem} {s : SS} {new : List Nat} (hb0 : c.bs = b0) (g : Good (b0 ++ new) L m) (h : fits c md ks k fr L m s) :
    Good (b0 ++ new.take (k - b0.length)) s.2.1 s.2.2 ∧ Le (denF (b0 ++ new.take (k - b0.length)) s.1) (denF (b0 ++ new) fr) ∧ (∀ b o, memD (b0 ++ new.take (k - b0.length)) s.2.1 s.2.2 b = some o → memD (b0 ++ new) L m b = some o) ∧ (b0 ++ new.take (k - b0.length)).length = k := by
  obtain ⟨h1, h2⟩ := h
  subst h1
  subst hb0
  simp only [Bool.and_eq_true] at h2
  obtain ⟨⟨⟨q1, q2⟩, q3⟩, q4⟩ := h2
  have l1 := Nat.le_of_ble_eq_true q3
  have l2 := Nat.le_of_ble_eq_true q4
  have hl := g.len
  have htk := take_split (new := new) l2
  have hlen : ((c.bs ++ new).take k).length = k := by rw [List.length_take]; omega
  rw [← htk]
  have hsplit : (c.bs ++ new) = (c.bs ++ new).take k ++ (c.bs ++ new).drop k := (List.take_append_drop _ _).symm
  have hmem : memD ((c.bs ++ new).take k) (nrmM (L.take k)) m = memD ((c.bs ++ new).take k) (L.take k) m := by simp only [memD, denM, nrmM_den]
  rw [nrmM_sc] at q2
  refine ⟨⟨?_, by rw [hlen, nrmM_len, List.length_take]; omega, fun b hb => g.fresh b (List.mem_of_mem_take hb)⟩, ?_, fun b o hb => ?_, hlen⟩
  · exact g.nd.sublist (List.take_sublist _ _)
  · have e : denF (c.bs ++ new) (kp c.E md ks fr) = denF ((c.bs ++ new).take k) (kp c.E md ks fr) := by
      conv => lhs; rw [hsplit]
      exact scF_den (by rw [hlen]; exact q1)
    rw [← e]
    exact kp_le _ _ _ ks fr
  · simp only at hb
    rw [hmem] at hb
    have hsub : ∀ (A : List (Nat × AObj)) (mm : AMem), (A.map Prod.fst).Nodup → ∀ b o, mm.wth A b = some o → (∃ i, A[i]? = some (b, o)) ∨ (b ∉ A.map Prod.fst ∧ mm b = some o) := fun A mm hN b o hb => by
      by_cases hm : b ∈ A.map Prod.fst
      · left
        obtain ⟨i, hi⟩ := List.getElem?_of_mem hm
        rw [List.getElem?_map] at hi
        cases hA : A[i]? with
        | none => rw [hA] at hi; cases hi
        | some p =>
          rw [hA] at hi
          obtain ⟨b', o'⟩ := p
          simp only [Option.map_some, Option.some.injEq] at hi
          subst hi
          have := wth_get (m := mm) i hN hA
          rw [this] at hb
          simp only [Option.some.injEq] at hb
          subst hb
          exact ⟨i, hA⟩
      · right
        rw [wth_other hm] at hb
        exact ⟨hm, hb⟩
    have hN2 : ((denM ((c.bs ++ new).take k) (L.take k)).map Prod.fst).Nodup := by
      rw [denM_fst (by rw [hlen, List.length_take]; omega)]
      exact g.nd.sublist (List.take_sublist _ _)
    rcases hsub _ m hN2 b o hb with ⟨i, hi⟩ | ⟨h3, h4⟩
    · have hik : i < k := by
        rcases Nat.lt_or_ge i k with h | h
        · exact h
        · rw [List.getElem?_eq_none] at hi
          · cases hi
          · simp only [denM, List.length_zip, hlen, List.length_map, List.length_take]; omega
      refine wth_get i g.nodup ?_
      have e : (L.take k).map (denO (c.bs ++ new)) = (L.take k).map (denO ((c.bs ++ new).take k)) := by
        conv => lhs; rw [hsplit]
        exact scM_den (by rw [hlen]; exact q2)
      have hz : denM ((c.bs ++ new).take k) (L.take k) = (denM (c.bs ++ new) L).take k := by
        simp only [denM, ← e, List.map_take, List.zip, List.take_zipWith]
      rw [hz, List.getElem?_take_of_lt hik] at hi
      exact hi
    · by_cases hm : b ∈ (c.bs ++ new)
      · rw [g.fresh b hm] at h4; cases h4
      · rw [memD, wth_other (by rw [denM_fst g.len]; exact hm)]
        exact h4
theorem sg_none {bs : List Nat} {t : Nat} : ∀ {fr : SFr}, (denF bs fr).get t = none → sg fr t = .av .junk
  | [], _ => rfl
  | (s, x) :: r, hg => by
    simp only [denF, Fr.get] at hg
    by_cases e : s = t
    · rw [if_pos e] at hg; cases hg
    · rw [if_neg e] at hg
      have hb : Nat.beq s t = false := by
        cases hb : Nat.beq s t with
        | false => rfl
        | true => exact absurd (Nat.eq_of_beq_eq_true hb) e
      simp only [sg, hb, cond_false]
      exact sg_none hg
set_option maxHeartbeats 2000000 in
theorem wreg_sound (hT : tabOk c.P c.T = true) (hm : c.P.follows .mixedOrders = true) (hb0 : c.bs = b0) {id : Nat} {ops : Array Oper} {draw : Bool} {kn : SK} {kx : Nat → SK} {kr : SK} {fr : SFr} {L : List SObj} {m : AMem} {new : List Nat} (g : Good (b0 ++ new) L m) (hk : regOk c.xs n id ops draw = true)
    (h : wreg c id ops.toList draw kn fr L m) : AWP c.P n (.region id ops draw) (SPost b0 kn kx kr) (denF (b0 ++ new) fr) (memD (b0 ++ new) L m) := by
  simp only [wreg] at h
  have key : sreg c id ops.toList draw kn fr L m → AWP c.P n (.region id ops draw) (SPost b0 kn kx kr) (denF (b0 ++ new) fr) (memD (b0 ++ new) L m) := fun h =>
    sreg_sound hT hm hb0 g hk h fun fr' L' m' nw g' hk => ⟨fr', L', m', nw, g', rfl, rfl, hk⟩
  have keyJ : SJoin (fun kn fr L m => sreg c id ops.toList draw kn fr L m) kn fr L m → AWP c.P n (.region id ops draw) (SPost b0 kn kx kr) (denF (b0 ++ new) fr) (memD (b0 ++ new) L m) := fun h => by
    obtain ⟨J, h1, h2⟩ := h
    refine AWP.weak (fun e f mm hp => ?_) (sreg_sound (Q := SPost b0 J kx kr) hT hm hb0 g hk h2 fun fr' L' m' nw g' hk => ⟨fr', L', m', nw, g', rfl, rfl, hk⟩)
    obtain ⟨fr', L', m', nw, g', rfl, rfl, h'⟩ := hp
    cases e with
    | normal =>
      obtain ⟨md, t, e, ks, ⟨q, hq, he⟩, hB⟩ := h1 _ _ _ h'
      refine ⟨denF (b0 ++ nw) ((t, .b (.raw e)) :: kp 0 md ks fr'), _, ?_, fun _ _ h => h, SPost.mk0 (kn := kn) (kx := kx) (kr := kr) (e := .normal) g' hB⟩
      intro s x hx
      simp only [denF, Fr.get] at hx
      by_cases es : t = s
      · subst es
        rw [if_pos rfl] at hx
        refine ⟨_, sgO_get _ hq, .inl ?_⟩
        have : den (b0 ++ nw) (.b (.raw e)) = x := by simpa using hx
        rw [← this]
        simp only [den, SB.val, he]
      · rw [if_neg es] at hx
        exact kp_le _ 0 md ks fr' s x hx
    | exit id => exact ⟨_, _, Le.refl _, fun _ _ h => h, SPost.mk0 (kn := kn) (kx := kx) (kr := kr) (e := .exit id) g' h'⟩
    | ret => exact ⟨_, _, Le.refl _, fun _ _ h => h, SPost.mk0 (kn := kn) (kx := kx) (kr := kr) (e := .ret) g' h'⟩
    | _ => exact h'.elim
  have keyT : ∀ p : Prop, (p → AWP c.P n (.region id ops draw) (SPost b0 kn kx kr) (denF (b0 ++ new) fr) (memD (b0 ++ new) L m)) → Told fr p → AWP c.P n (.region id ops draw) (SPost b0 kn kx kr) (denF (b0 ++ new) fr) (memD (b0 ++ new) L m) := fun p hp h => by
    intro F lim w ca st
    refine hp (h.h fun t => ?_) F lim w ca st
    clear hp h keyJ key hk
    cases hg : (denF (b0 ++ new) fr).get t with
    | none =>
      have : sg fr t = .av .junk := sg_none hg
      rw [this]
      simp only [bdS, AV.plain, bdA, bd1]
    | some x =>
      have hx : den (b0 ++ new) (sg fr t) = x := by rw [← rawOf_denF, rawOf, hg]; rfl
      obtain ⟨os, om, ow, hs⟩ := st
      have hr := (hs.slots t x hg).2
      rw [← hx] at hr
      cases hv : sg fr t with
      | av y =>
        rw [hv] at hr
        cases y with
        | int kd z =>
          simp only [den, AV.plain] at hr
          exact (rep_int_inv hr).2
        | slice o l =>
          simp only [den, AV.plain] at hr
          exact ⟨rep_bdA hr, rep_bdL hr⟩
        | _ =>
          have hb := rep_bdA hr
          simp only [den] at hb
          exact hb
      | own l =>
        rw [hv] at hr
        simp only [den] at hr
        exact ⟨rep_bdA hr, rep_bdL hr⟩
      | _ => simp only [bdS]
  cases hs : has c.st id with
  | false =>
    cases hj : has c.jr id with
    | false => rw [hs, hj] at h; exact key h
    | true => rw [hs, hj] at h; exact keyJ h
  | true =>
    cases hj : has c.jr id with
    | false => rw [hs, hj] at h; exact keyT _ key h
    | true => rw [hs, hj] at h; exact keyT _ keyJ h
set_option maxHeartbeats 2000000 in
theorem wpc_sound (hT : tabOk c.P c.T = true) (hm : c.P.follows .mixedOrders = true) (hb0 : c.bs = b0) : ∀ (cd : Code) {kn : SK} {kx : Nat → SK} {kr : SK} {fr : SFr} {L : List SObj} {m : AMem} {new : List Nat}, Good (b0 ++ new) L m → cdOk c.xs n cd = true →
    wpc c cd kn kx kr fr L m → AWP c.P n cd (SPost b0 kn kx kr) (denF (b0 ++ new) fr) (memD (b0 ++ new) L m)
  | .skip, kn, kx, kr, fr, L, m, new, g, _, h => awp_skip (SPost.mk0 g h)
  | .ret, kn, kx, kr, fr, L, m, new, g, _, h => awp_ret (SPost.mk0 g h)
  | .exit id, kn, kx, kr, fr, L, m, new, g, _, h => awp_exit (SPost.mk0 g h)
  | .region id ops draw, kn, kx, kr, fr, L, m, new, g, hk, h => by
    simp only [cdOk] at hk
    rw [wpc_region] at h
    cases hv : has c.cv id with
    | false =>
      rw [hv] at h
      exact wreg_sound hT hm hb0 g hk h
    | true =>
      rw [hv] at h
      subst hb0
      rcases h.h with h | h
      · refine h.h new g n _ _ fun fr' L' m' bs' hp g' h' => ?_
        obtain ⟨nw, rfl⟩ := hp
        exact wreg_sound hT hm rfl g' hk h'
      · simp only [regOk, Bool.and_eq_true] at hk
        refine h.h new g n _ hk.1.1 fun fr' L' m' bs' hp g' h' => ?_
        obtain ⟨nw, rfl⟩ := hp
        exact SPost.mk0 (kn := kn) (kx := kx) (kr := kr) (e := .normal) g' h'
  | .seq a b, kn, kx, kr, fr, L, m, new, g, hk, h => by
    simp only [cdOk, Bool.and_eq_true] at hk
    rw [wpc_seq] at h
    refine awp_seq ?_
    cases hi : isReg a with
    | true =>
      rw [hi] at h
      refine AWP.mono (wpc_sound hT hm hb0 a g hk.1 h) fun e f mm hp => ?_
      obtain ⟨fr', L', m', nw, g', rfl, rfl, h'⟩ := hp
      cases e with
      | normal =>
        exact wpc_sound hT hm hb0 b g' hk.2 h'
      | exit id => exact SPost.mk0 (kn := kn) (kx := kx) (kr := kr) (e := .exit id) g' h'
      | ret => exact SPost.mk0 (kn := kn) (kx := kx) (kr := kr) (e := .ret) g' h'
      | _ => exact h'.elim
    | false =>
      rw [hi] at h
      obtain ⟨J, h1, h2⟩ := h
      refine AWP.mono (wpc_sound hT hm hb0 a g hk.1 h2) fun e f mm hp => ?_
      obtain ⟨fr', L', m', nw, g', rfl, rfl, h'⟩ := hp
      cases e with
      | normal =>
        rcases h1 _ _ _ h' with h3 | ⟨md, ks, k, s, h3, h4⟩
        · exact wpc_sound hT hm hb0 b g' hk.2 h3
        · obtain ⟨g1, hle, hsub, _⟩ := fits_sound hb0 g' h3
          exact AWP.less hle (AWP.memLess hsub (wpc_sound hT hm hb0 b g1 hk.2 h4))
      | exit id => exact SPost.mk0 (kn := kn) (kx := kx) (kr := kr) (e := .exit id) g' h'
      | ret => exact SPost.mk0 (kn := kn) (kx := kx) (kr := kr) (e := .ret) g' h'
      | _ => exact h'.elim
  | .cond q x y, kn, kx, kr, fr, L, m, new, g, hk, h => by
    simp only [cdOk, Bool.and_eq_true] at hk
    rw [wpc_cond] at h
    obtain ⟨v, h1, e⟩ := opK_sound (b0 ++ new) h
    split at h1
    · rename_i s
      obtain ⟨w1, w2⟩ := s.ways_sound h1
      simp only [den] at e
      exact awp_cond (b := s.val) (by rw [← evP_eq, ← e]) hk.1.1 (fun hv => wpc_sound hT hm hb0 x g hk.1.2 (w1 hv)) (fun hv => wpc_sound hT hm hb0 y g hk.2 (w2 hv))
    · exact h1.elim
  | .block id body, kn, kx, kr, fr, L, m, new, g, hk, h => by
    simp only [cdOk] at hk
    rw [wpc_block] at h
    refine awp_block ?_
    refine AWP.mono (wpc_sound hT hm hb0 body g hk h) fun e f mm hp => ?_
    obtain ⟨fr', L', m', nw, g', rfl, rfl, h'⟩ := hp
    cases e with
    | normal => exact SPost.mk0 (kn := kn) (kx := kx) (kr := kr) (e := .normal) g' h'
    | exit j =>
      simp only [AInBlock]
      simp only at h'
      by_cases ej : j = id
      · subst ej
        rw [Nat.beq_refl] at h'
        rw [if_pos rfl]
        exact SPost.mk0 (kn := kn) (kx := kx) (kr := kr) (e := .normal) g' h'
      · rw [if_neg ej]
        have : Nat.beq j id = false := by
          cases hb : Nat.beq j id with
          | false => rfl
          | true => exact absurd (Nat.eq_of_beq_eq_true hb) ej
        rw [this] at h'
        exact SPost.mk0 (kn := kn) (kx := kx) (kr := kr) (e := .exit j) g' h'
    | ret => exact SPost.mk0 (kn := kn) (kx := kx) (kr := kr) (e := .ret) g' h'
    | _ => exact h'.elim
  | .loop body, kn, kx, kr, fr, L, m, new, g, hk, h => by
    simp only [cdOk] at hk
    rw [wpc_loop] at h
    obtain ⟨σ, S, I, μ, md, ks, k, x0, h0, hI, h1⟩ := h
    obtain ⟨g1, hle, hsub, hlen⟩ := fits_sound hb0 g h0
    refine AWP.less hle (AWP.memLess hsub ?_)
    · refine awp_loop_st (σ := σ × List Nat) (fun x => denF (b0 ++ x.2) (S x.1).1) (fun x => memD (b0 ++ x.2) (S x.1).2.1 (S x.1).2.2) (fun x => I x.1 ∧ Good (b0 ++ x.2) (S x.1).2.1 (S x.1).2.2) (fun x => μ x.1) ⟨x0, new.take (k x0 - b0.length)⟩ rfl rfl ⟨hI, g1⟩ fun x hx => ?_
      have h2 := h1 x.1 hx.1
      rw [flK_eq, flK_eq] at h2
      refine AWP.weak (fun e f mm hp => ?_) (wpc_sound hT hm hb0 body hx.2 hk h2)
      obtain ⟨fr', L', m', nw, g', rfl, rfl, h'⟩ := hp
      cases e with
      | normal =>
        obtain ⟨x', f1, f2, f3⟩ := h'
        obtain ⟨g2, hle2, hsub2, hlen2⟩ := fits_sound hb0 g' f1
        exact ⟨_, _, hle2, hsub2, ⟨x', nw.take (k x' - b0.length)⟩, rfl, rfl, ⟨f2, g2⟩, f3⟩
      | exit id => exact ⟨_, _, Le.refl _, fun _ _ h => h, SPost.mk0 (kn := kn) (kx := kx) (kr := kr) (e := .exit id) g' h'⟩
      | ret => exact ⟨_, _, Le.refl _, fun _ _ h => h, SPost.mk0 (kn := kn) (kx := kx) (kr := kr) (e := .ret) g' h'⟩
      | _ => exact h'.elim
  | .scope _, _, _, _, _, _, _, _, _, hk, _ => by cases hk
  | .label _, _, _, _, _, _, _, _, _, hk, _ => by cases hk
  | .goto _, _, _, _, _, _, _, _, _, hk, _ => by cases hk
  | .refuse _, _, _, _, _, _, _, _, _, hk, _ => by cases hk
  | .rangeFunc _ _ _ _, _, _, _, _, _, _, _, _, hk, _ => by cases hk
end
end Go.Sx
end
section
namespace Go.Sx
open Go Go.Aw
section
variable {c : Cfg} {n : Nat} {b : List Nat} {fr : SFr} {L : List SObj} {m : AMem}
theorem resK1_sound (hT : tabOk c.P c.T = true) (g : Good b L m) {r : ResultVar} {k : SV → Prop} (h : resK1 c.T fr L r k) : ∃ v side x, k v ∧ resOf c.P (denF b fr) (memD b L m) r = some (side, x) ∧ side ∧ x = den b v := by
  cases r with
  | tmp t =>
    simp only [resK1] at h
    rw [sgK_eq] at h
    exact ⟨_, True, _, h, by simp only [resOf, rawOf_denF], trivial, rfl⟩
  | cell a t =>
    simp only [resK1] at h
    rw [sgK_eq] at h
    have hr := rawOf_denF b fr a
    cases hv : sg fr a with
    | loc i off =>
      rw [hv] at h hr
      simp only [den] at h hr
      cases ho : nth L i with
      | none => rw [ho] at h; exact h.elim
      | some o =>
        rw [ho] at h
        cases o with
        | obj o => exact h.elim
        | cells l =>
          obtain ⟨ti, tf, h⟩ := tg hT h
          rw [nth_eq] at ho
          have hm := mem_get g ho
          have hq : resOf c.P (denF b fr) (memD b L m) (.cell a t) = some (apartOk c.P t (denL b l) off, (apart c.P t (denL b l) off).plain) := by simp only [resOf, hr, hm, denO]
          cases hst : ti.k.isSt with
          | true =>
            rw [hst] at h
            obtain ⟨hb, h⟩ := chk_iff.1 h
            obtain ⟨u, h, hu⟩ := cellsK_sound b h
            exact ⟨_, _, _, h, hq, apartOk_st tf hst (by rw [denL_len]; exact Nat.le_of_ble_eq_true hb), by rw [apart_st tf hst]; simp only [den, AV.plain, hu, denL_take, denL_drop]⟩
          | false =>
            rw [hst] at h
            simp only at h
            cases hn : nth l off with
            | none => rw [hn] at h; exact h.elim
            | some v =>
              rw [hn] at h
              obtain ⟨u, h, hu⟩ := cellK_sound b h
              obtain ⟨e2, hlt⟩ := denL_getD (bs := b) hn
              exact ⟨_, _, _, h, hq, apartOk_1 tf hst hlt, by rw [apart_one tf hst, e2, hu]⟩
    | _ => rw [hv] at h; exact h.elim
theorem resKL_sound (hT : tabOk c.P c.T = true) {b0 new : List Nat} (hb0 : c.bs = b0) (g : Good (b0 ++ new) L m) {fn : Func} (h4 : fn.results.toList.length ≤ 4) {K : AV → AMem → Prop} (h : resKL c.T fr L fn.results.toList fun vs => SRet c K vs L m) : resK c.P fn (denF (b0 ++ new) fr) (memD (b0 ++ new) L m) K := by
  subst hb0
  unfold resK
  generalize fn.results.toList = rs at h h4 ⊢
  match rs, h with
  | [], h =>
    obtain ⟨m', h1, h2⟩ := h.h new g
    exact ⟨m', h1, h2⟩
  | [r], h =>
    obtain ⟨v, sd, x, h, e1, s1, rfl⟩ := resK1_sound hT g h
    obtain ⟨m', h1, h2⟩ := h.h new g
    simp only [e1]
    exact ⟨s1, m', h1, h2⟩
  | [r, s], h =>
    obtain ⟨v, sd, x, h, e1, s1, rfl⟩ := resK1_sound hT g h
    obtain ⟨v2, sd2, x2, h, e2, s2, rfl⟩ := resK1_sound hT g h
    obtain ⟨m', h1, h2⟩ := h.h new g
    simp only [e1, e2]
    exact ⟨s1, s2, m', h1, h2⟩
  | [r, s, t], h =>
    obtain ⟨v, sd, x, h, e1, s1, rfl⟩ := resK1_sound hT g h
    obtain ⟨v2, sd2, x2, h, e2, s2, rfl⟩ := resK1_sound hT g h
    obtain ⟨v3, sd3, x3, h, e3, s3, rfl⟩ := resK1_sound hT g h
    obtain ⟨m', h1, h2⟩ := h.h new g
    simp only [e1, e2, e3]
    exact ⟨s1, s2, s3, m', h1, h2⟩
  | [r, s, t, u], h =>
    obtain ⟨v, sd, x, h, e1, s1, rfl⟩ := resK1_sound hT g h
    obtain ⟨v2, sd2, x2, h, e2, s2, rfl⟩ := resK1_sound hT g h
    obtain ⟨v3, sd3, x3, h, e3, s3, rfl⟩ := resK1_sound hT g h
    obtain ⟨v4, sd4, x4, h, e4, s4, rfl⟩ := resK1_sound hT g h
    obtain ⟨m', h1, h2⟩ := h.h new g
    simp only [e1, e2, e3, e4]
    exact ⟨s1, s2, s3, s4, m', h1, h2⟩
  | r :: s :: t :: u :: q :: rest, h => simp at h4
theorem has_contains : ∀ (l : List Nat) (t : Nat), has l t = l.contains t
  | [], t => rfl
  | x :: r, t => by
    simp only [has, List.contains_cons]
    cases hb : Nat.beq x t with
    | true => obtain rfl := Nat.eq_of_beq_eq_true hb; simp
    | false =>
      have : ¬ t = x := fun e => by subst e; rw [Nat.beq_refl] at hb; cases hb
      simp [this, has_contains r t]
theorem errF_den (E : Nat) (ts : List Nat) : ∀ (fr : SFr), denF b (errF E ts fr) = Fr.toErr E ts (denF b fr)
  | [] => rfl
  | (t, v) :: r => by
    simp only [errF, denF, Fr.toErr, List.map_cons, has_contains]
    have := errF_den E ts r
    simp only [Fr.toErr] at this
    rw [this]
    cases hc : ts.contains t <;> simp [errS_den]
theorem awp_postErr {P : Program} {cd : Code} {Q Q' : Exit → Fr → AMem → Prop} {f : Fr} {mm : AMem} (E : Nat) (ts : List Nat) (hq : ∀ e f m, Q e f m → Q' e f m ∨ Q' e (f.toErr E ts) m) (h : AWP P n cd Q f mm) : AWP P n cd Q' f mm := fun F lim w ca st =>
  wp_mono (h F lim w ca st) fun e _ _ ⟨l, f, mm, q, st', pr⟩ => by
    rcases hq e f mm q with q | q
    · exact ⟨l, f, mm, q, st', pr⟩
    · refine ⟨l, _, mm, q, st'.conv fun t x' hx => ?_, pr⟩
      rw [Fr.get_toErr] at hx
      cases hc : ts.contains t with
      | false => rw [hc] at hx; exact ⟨x', by simpa using hx, fun _ _ h => h⟩
      | true =>
        rw [hc] at hx
        simp only [if_true] at hx
        cases hg : f.get t with
        | none => rw [hg] at hx; cases hx
        | some y =>
          rw [hg] at hx
          simp only [Option.map_some, Option.some.injEq] at hx
          subst hx
          exact ⟨y, rfl, fun v os h => toErr_rep E h⟩
def fnOk (c : List Nat) (fn : Func) (cd : Code) (k : Nat) : Bool := !(fn.name == "runtime.NumGoroutine") && Nat.ble k fn.ntmps && cdOk c fn.ntmps cd && Nat.ble fn.results.size 4
theorem initF_den (b : List Nat) : ∀ (i : Nat) (vs : List SV), denF b (initF i vs) = Fr.init i (denL b vs)
  | _, [] => by simp only [initF, denF, denL, Fr.init]
  | i, v :: r => by simp only [initF, denF, denL, Fr.init, initF_den b (i + 1) r]
theorem enter {f : FuncId} {fn : Func} {cd : Code} {vs : List SV} {K : AV → AMem → Prop} (e : Bool) (hT : tabOk c.P c.T = true) (hm : c.P.follows .mixedOrders = true) (hf : c.P.funcs[f]? = some fn) (hb : fn.body = some cd) {k : Nat} (hok : fnOk c.xs fn cd k = true) (hl : vs.length = k) (g : Good c.bs L m)
    (h : wpc c cd (sret c false fn.results.toList K) (fun _ _ _ _ => False) (sret c e fn.results.toList K) (initF 0 vs) L m) : ACalls c.P f (denL c.bs vs) (memD c.bs L m) K := by
  simp only [fnOk, Bool.and_eq_true, Bool.not_eq_true'] at hok
  obtain ⟨⟨⟨o1, o2⟩, o3⟩, o4⟩ := hok
  refine acalls_enter hf hb o1 (by rw [denL_len, hl]; exact Nat.le_of_ble_eq_true o2) ?_
  have := wpc_sound (b0 := c.bs) (new := []) hT hm rfl cd (by rw [List.append_nil]; exact g) o3 h
  rw [List.append_nil, initF_den] at this
  refine awp_postErr c.E (resT fn.results.toList) (fun ex f mm hp => ?_) this
  obtain ⟨fr', L', m', nw, g', rfl, rfl, h'⟩ := hp
  cases ex with
  | normal => exact .inl (resKL_sound hT rfl g' (by simpa using Nat.le_of_ble_eq_true o4) h')
  | exit id => exact h'.elim
  | ret =>
    simp only [sret] at h'
    cases e with
    | false => exact .inl (resKL_sound hT rfl g' (by simpa using Nat.le_of_ble_eq_true o4) h')
    | true =>
      simp only at h'
      rw [flK_eq] at h'
      right
      rw [← errF_den]
      exact resKL_sound hT rfl g' (by simpa using Nat.le_of_ble_eq_true o4) h'
  | _ => exact h'.elim
theorem rt {K : AV → AMem → Prop} {vs : List SV} (hs : (scM c.bs.length (L.take c.bs.length) && Nat.ble c.bs.length L.length) = true) (h : ∀ new, K (retV (c.bs ++ new) vs) (memD c.bs (L.take c.bs.length) m)) : SRet c K vs L m := ⟨fun new g => by
  simp only [Bool.and_eq_true] at hs
  have := fits_sound (c := c) (md := []) (ks := []) (k := c.bs.length) (fr := []) (s := ([], nrmM (L.take c.bs.length), m)) rfl g ⟨rfl, by simp only [scF, Bool.true_and, Bool.and_eq_true, nrmM_sc]; exact ⟨⟨hs.1, hs.2⟩, Nat.ble_eq_true_of_le (Nat.le_refl _)⟩⟩
  simp only [Nat.sub_self, List.take_zero, List.append_nil] at this
  have hmem : memD c.bs (nrmM (L.take c.bs.length)) m = memD c.bs (L.take c.bs.length) m := by simp only [memD, denM, nrmM_den]
  rw [hmem] at this
  exact ⟨_, this.2.2.1, h new⟩⟩
theorem rt0 {K : AV → AMem → Prop} {vs : List SV} (hb : c.bs = []) (h : ∀ new, K (retV new vs) m) : SRet c K vs L m := ⟨fun new g => by
  rw [hb, List.nil_append] at g ⊢
  refine ⟨m, fun b o hbo => ?_, h new⟩
  by_cases hm : b ∈ new
  · rw [g.fresh b hm] at hbo; cases hbo
  · rw [memD, wth_other (by rw [denM_fst g.len]; exact hm)]
    exact hbo⟩
theorem rtk {K : AV → AMem → Prop} {vs : List SV} (h : ∀ new, Good (c.bs ++ new) L m → K (retV (c.bs ++ new) vs) (memD (c.bs ++ new) L m)) : SRet c K vs L m := ⟨fun new g => ⟨_, fun _ _ h => h, h new g⟩⟩
theorem call0 {b0 : List Nat} {P : Program} {f : FuncId} {vs : List SV} {x : AV} {Q : SV → List SObj → AMem → Prop} (h : ∀ bs (mm : AMem) (K : AV → AMem → Prop), K x mm → ACalls P f (denL bs vs) mm K) (hp : x.plain = x) (hQ : Q (svOf x) L m) : SCall P b0 f vs fr L m Q :=
  .one (svOf x) L m (fun new _ K hK => h _ _ K (by
    have := hK []
    simp only [List.append_nil, den_svOf, hp] at this
    exact this (by assumption))) (by rw [Nat.beq_refl]; rfl) hQ
theorem pure0 {b0 : List Nat} {P : Program} {f : FuncId} {vs : List SV} {x : AV} {Q : SV → Prop} (h : ∀ bs (mm : AMem) (K : AV → AMem → Prop), K x mm → ACalls P f (denL bs vs) mm K) (hQ : Q (svOf x)) : SPure P b0 f vs L m Q :=
  ⟨svOf x, fun new _ => ⟨x, fun K hK => h _ _ K hK, by rw [den_svOf]⟩, hQ⟩
theorem an {p q : Prop} (hp : p) (hq : q) : p ∧ q := ⟨hp, hq⟩
theorem Good.nil (m : AMem) : Good [] [] m := ⟨List.nodup_nil, rfl, fun _ h => by cases h⟩
structure Gd (bs : List Nat) (m : AMem) : Prop where
  nd : bs.Nodup
  fresh : ∀ b ∈ bs, m b = none
theorem Gd.good {bs : List Nat} (g : Gd bs m) (h : bs.length = L.length) : Good bs L m := ⟨g.nd, h, g.fresh⟩
theorem Gd.nil (m : AMem) : Gd [] m := ⟨List.nodup_nil, fun _ h => by cases h⟩
def blks (bs : List Nat) : List Nat → List Nat
  | [] => []
  | i :: r => bs.getD i 0 :: blks bs r
def getL (L : List SObj) : List Nat → List SObj
  | [] => []
  | i :: r =>
    match nth L i with
    | some o => o :: getL L r
    | none => .obj (.cells []) :: getL L r
def setL : List SObj → List Nat → List SObj → List SObj
  | L, [], _ => L
  | L, _ :: _, [] => L
  | L, i :: r, o :: os => setL (L.set i o) r os
def pk (bs : List Nat) (is : List Nat) (os : List SObj) : List (Nat × AObj) := (blks bs is).zip (os.map (denO bs))
def isOk (n : Nat) : List Nat → Bool
  | [] => true
  | i :: r => Nat.ble (i + 1) n && !(has r i) && isOk n r
theorem has_mem : ∀ {l : List Nat} {t : Nat}, has l t = true ↔ t ∈ l
  | [], t => by simp [has]
  | x :: r, t => by
    simp only [has, List.mem_cons]
    cases hb : Nat.beq x t with
    | true => obtain rfl := Nat.eq_of_beq_eq_true hb; simp
    | false =>
      have : ¬ t = x := fun e => by subst e; rw [Nat.beq_refl] at hb; cases hb
      simp [this, has_mem (l := r)]
theorem blks_len (bs : List Nat) : ∀ (is : List Nat), (blks bs is).length = is.length
  | [] => rfl
  | i :: r => by simp only [blks, List.length_cons, blks_len bs r]
theorem getL_len (L : List SObj) : ∀ (is : List Nat), (getL L is).length = is.length
  | [] => rfl
  | i :: r => by
    simp only [getL]
    split <;> simp only [List.length_cons, getL_len L r]
theorem getD_inj {bs : List Nat} (h : bs.Nodup) {i j : Nat} (hi : i < bs.length) (hj : j < bs.length) (e : bs.getD i 0 = bs.getD j 0) : i = j := by
  rw [List.getD_eq_getElem?_getD, List.getD_eq_getElem?_getD, List.getElem?_eq_getElem hi, List.getElem?_eq_getElem hj] at e
  exact (List.getElem_inj h).1 e
theorem blks_mem {bs : List Nat} : ∀ {is : List Nat} {b : Nat}, b ∈ blks bs is → ∃ i ∈ is, b = bs.getD i 0
  | [], _, h => by cases h
  | i :: r, b, h => by
    simp only [blks, List.mem_cons] at h
    rcases h with rfl | h
    · exact ⟨i, List.mem_cons_self .., rfl⟩
    · obtain ⟨j, hj, e⟩ := blks_mem h
      exact ⟨j, List.mem_cons_of_mem _ hj, e⟩
theorem mem_blks {bs : List Nat} : ∀ {is : List Nat} {i : Nat}, i ∈ is → bs.getD i 0 ∈ blks bs is
  | [], _, h => by cases h
  | a :: r, i, h => by
    simp only [blks, List.mem_cons]
    rcases List.mem_cons.1 h with rfl | h
    · exact .inl rfl
    · exact .inr (mem_blks h)
theorem isOk_lt {n : Nat} : ∀ {is : List Nat}, isOk n is = true → (∀ i ∈ is, i < n) ∧ is.Nodup
  | [], _ => ⟨by simp, List.nodup_nil⟩
  | i :: r, h => by
    simp only [isOk, Bool.and_eq_true, Bool.not_eq_true'] at h
    obtain ⟨⟨h1, h2⟩, h3⟩ := h
    obtain ⟨h4, h5⟩ := isOk_lt h3
    refine ⟨fun j hj => ?_, ?_⟩
    · rcases List.mem_cons.1 hj with rfl | hj
      · exact Nat.le_of_ble_eq_true h1
      · exact h4 j hj
    · rw [List.nodup_cons]
      refine ⟨fun hm => ?_, h5⟩
      rw [has_mem.2 hm] at h2; cases h2
theorem blks_nodup {bs : List Nat} (hn : bs.Nodup) : ∀ {is : List Nat}, isOk bs.length is = true → (blks bs is).Nodup
  | [], _ => List.nodup_nil
  | i :: r, h => by
    have h0 := isOk_lt h
    simp only [isOk, Bool.and_eq_true, Bool.not_eq_true'] at h
    obtain ⟨⟨h1, h2⟩, h3⟩ := h
    simp only [blks, List.nodup_cons]
    refine ⟨fun hm => ?_, blks_nodup hn h3⟩
    obtain ⟨j, hj, e⟩ := blks_mem hm
    have := getD_inj hn (h0.1 i (List.mem_cons_self ..)) (h0.1 j (List.mem_cons_of_mem _ hj)) e
    subst this
    exact (List.nodup_cons.1 h0.2).1 hj
theorem setL_len : ∀ {is : List Nat} {L os : List SObj}, (setL L is os).length = L.length
  | [], _, _ => by simp only [setL]
  | _ :: _, _, [] => by simp only [setL]
  | i :: r, L, o :: os => by rw [setL, setL_len, List.length_set]
def restM (mm : AMem) (S : List Nat) : AMem := fun b => if b ∈ S then none else mm b
theorem pk_get {bs : List Nat} {is : List Nat} {os : List SObj} {mm : AMem} (hN : (blks bs is).Nodup) (hl : is.length = os.length) {j i : Nat} {o : SObj} (hj : is[j]? = some i) (ho : os[j]? = some o) : mm.wth (pk bs is os) (bs.getD i 0) = some (denO bs o) := by
  have hb : (blks bs is)[j]? = some (bs.getD i 0) := by
    clear hN hl ho
    induction is generalizing j with
    | nil => cases hj
    | cons a r ih =>
      cases j with
      | zero => simp only [List.getElem?_cons_zero, Option.some.injEq] at hj; subst hj; rfl
      | succ j => simp only [blks, List.getElem?_cons_succ] at hj ⊢; exact ih hj
  refine wth_get j ?_ ?_
  · rw [pk, List.map_fst_zip (by rw [blks_len, List.length_map]; omega)]; exact hN
  · simp only [pk, List.zip, List.getElem?_zipWith, hb, List.getElem?_map, ho, Option.map_some]
theorem pk_other {bs : List Nat} {is : List Nat} {os : List SObj} {mm : AMem} {b : Nat} (h : b ∉ blks bs is) : mm.wth (pk bs is os) b = mm b := by
  refine wth_other fun hm => h ?_
  obtain ⟨p, hp, rfl⟩ := List.mem_map.1 hm
  exact (List.of_mem_zip hp).1
theorem setL_get : ∀ {is : List Nat} {L os : List SObj}, is.Nodup → (∀ i ∈ is, i < L.length) → is.length = os.length → (∀ (j i : Nat) (o : SObj), is[j]? = some i → os[j]? = some o → (setL L is os)[i]? = some o) ∧ ∀ (i : Nat), i ∉ is → (setL L is os)[i]? = L[i]?
  | [], L, os, _, _, _ => ⟨fun j i o h => (by simp at h), fun _ _ => by simp only [setL]⟩
  | _ :: _, _, [], _, _, hl => by cases hl
  | a :: r, L, p :: os, hn, hlt, hl => by
    obtain ⟨h1, h2⟩ := setL_get (is := r) (L := L.set a p) (os := os) (List.nodup_cons.1 hn).2 (fun i hi => by rw [List.length_set]; exact hlt i (List.mem_cons_of_mem _ hi)) (by simpa using hl)
    refine ⟨fun j i o hj ho => ?_, fun i hi => ?_⟩
    · cases j with
      | zero =>
        simp only [List.getElem?_cons_zero, Option.some.injEq] at hj ho
        subst hj; subst ho
        rw [setL, h2 a (List.nodup_cons.1 hn).1]
        simp [hlt a (List.mem_cons_self ..)]
      | succ j => exact h1 j i o hj ho
    · rw [setL, h2 i (fun h => hi (List.mem_cons_of_mem _ h))]
      have : a ≠ i := fun e => hi (e ▸ List.mem_cons_self ..)
      simp [this]
theorem getL_get (L : List SObj) : ∀ {is : List Nat} {j i : Nat}, is[j]? = some i → i < L.length → (getL L is)[j]? = L[i]?
  | [], _, _, h, _ => by cases h
  | a :: r, j, i, h, hi => by
    have hn : nth L a = L[a]? := nth_eq L a
    cases j with
    | zero =>
      simp only [List.getElem?_cons_zero, Option.some.injEq] at h
      subst h
      simp only [getL, hn, List.getElem?_eq_getElem hi, List.getElem?_cons_zero]
    | succ j =>
      simp only [List.getElem?_cons_succ] at h
      have := getL_get L h hi
      simp only [getL]
      split <;> simpa using this
theorem mem_pk {bs : List Nat} {os : List SObj} (g : Good bs L m) {is : List Nat} (hi : isOk L.length is = true) (hl : is.length = os.length) : memD bs (setL L is os) m = (restM (memD bs L m) (blks bs is)).wth (pk bs is os) := by
  obtain ⟨h1, h2⟩ := isOk_lt hi
  have hN := blks_nodup g.nd (by rw [g.len]; exact hi)
  obtain ⟨s1, s2⟩ := setL_get (L := L) h2 h1 hl
  have g2 : Good bs (setL L is os) m := ⟨g.nd, by rw [setL_len]; exact g.len, g.fresh⟩
  funext b
  by_cases hb : b ∈ blks bs is
  · obtain ⟨i, him, rfl⟩ := blks_mem hb
    obtain ⟨j, hj⟩ := List.getElem?_of_mem him
    have hjl : j < os.length := by
      rcases Nat.lt_or_ge j is.length with h | h
      · omega
      · rw [List.getElem?_eq_none h] at hj; cases hj
    rw [pk_get hN hl hj (List.getElem?_eq_getElem hjl), mem_get g2 (s1 j i _ hj (List.getElem?_eq_getElem hjl))]
  · rw [pk_other hb, restM, if_neg hb]
    by_cases hbb : b ∈ bs
    · obtain ⟨i, hi2⟩ := List.getElem?_of_mem hbb
      have hib : i < bs.length := by
        rcases Nat.lt_or_ge i bs.length with h | h
        · exact h
        · rw [List.getElem?_eq_none h] at hi2; cases hi2
      have e : b = bs.getD i 0 := by rw [List.getD_eq_getElem?_getD, hi2]; rfl
      subst e
      have hni : i ∉ is := fun h => hb (mem_blks h)
      have hiL : i < L.length := by rw [← g.len]; exact hib
      rw [mem_get g (List.getElem?_eq_getElem hiL), mem_get g2 (by rw [s2 i hni]; exact List.getElem?_eq_getElem hiL)]
    · rw [memD, wth_other (by rw [denM_fst g2.len]; exact hbb), memD, wth_other (by rw [denM_fst g.len]; exact hbb)]
theorem setL_get_self : ∀ {is : List Nat} {L : List SObj}, isOk L.length is = true → setL L is (getL L is) = L := fun {is L} hi => by
  obtain ⟨h1, h2⟩ := isOk_lt hi
  obtain ⟨s1, s2⟩ := setL_get (L := L) h2 h1 (getL_len L is).symm
  apply List.ext_getElem?
  intro i
  by_cases h : i ∈ is
  · obtain ⟨j, hj⟩ := List.getElem?_of_mem h
    have e := getL_get L hj (h1 i h)
    rw [List.getElem?_eq_getElem (h1 i h)] at e
    rw [s1 j i _ hj e, List.getElem?_eq_getElem (h1 i h)]
  · exact s2 i h
theorem callM {b0 : List Nat} {P : Program} {f : FuncId} {vs : List SV} {Q : SV → List SObj → AMem → Prop} (is : List Nat) (os : List SObj) (y : SV) (hi : (isOk L.length is && Nat.beq is.length os.length) = true)
    (h : ∀ bs (mm : AMem), Gd (blks bs is) mm → ∀ (K : AV → AMem → Prop), K (den bs y) (mm.wth (pk bs is os)) → ACalls P f (denL bs vs) (mm.wth (pk bs is (getL L is))) K) (hQ : Q y (setL L is os) m) : SCall P b0 f vs fr L m Q := by
  simp only [Bool.and_eq_true] at hi
  refine .one y (setL L is os) m (fun new g K hK => ?_) (by rw [setL_len, Nat.beq_refl]; rfl) hQ
  have hN := blks_nodup g.nd (by rw [g.len]; exact hi.1)
  have e1 := mem_pk g hi.1 (getL_len L is).symm
  rw [setL_get_self hi.1] at e1
  rw [e1]
  refine h (b0 ++ new) _ ⟨hN, fun b hb => by simp [restM, hb]⟩ K ?_
  have := hK [] (by rw [List.append_nil]; exact ⟨g.nd, by rw [setL_len]; exact g.len, g.fresh⟩)
  rw [List.append_nil, mem_pk g hi.1 (Nat.eq_of_beq_eq_true hi.2)] at this
  exact this
abbrev vI (n : Int) : SV := .av (.int .i64 n)
abbrev vS (s : List UInt8) : SV := .av (.str s)
abbrev vB (b : Bool) : SV := .b (.raw b)
abbrev vL (l : List AV) : SV := .av (.slice false l)
end
end Go.Sx
end
section
namespace Go.Aw
open Go
section
variable {P : Program} {F : Nat → Prop} {lim : Nat → Nat} {w : World} {n : Nat} {fr : Fr} {m : AMem} {ca : Act} {fl : List Nat}
theorem St.drew (st : St F lim w n fr m ca fl) : St F lim w.drew n fr m ca fl := st.heap rfl
set_option maxHeartbeats 1000000 in
end
end Go.Aw
end
section
namespace Go.Sx
open Go Go.Aw
section
variable {c : Cfg} {L : List SObj} {fr : SFr} {m : AMem}
end
end Go.Sx
namespace Go.Aw
open Go
section
variable {P : Program} {F : Nat → Prop} {lim : Nat → Nat} {w : World} {n : Nat} {fr : Fr} {m : AMem} {ca : Act} {fl : List Nat}
theorem St.grow (st : St F lim w n fr m ca fl) (os : Array Obj) (k : Nat) : St F lim (Sort.grow (w.drewN k) os) n fr m ca fl := by
  have hh : (w.drewN k).heap = w.heap := by simp
  have hl : ∀ c, c < w.heap.size → (Sort.grow (w.drewN k) os).heap[c]? = w.heap[c]? := fun c hc => by
    simp only [Sort.grow, hh]
    rw [Array.getElem?_append_left hc]
  have hf : ∀ c, w.heap.size ≤ c → lim c = 0 := fun c hc => by
    obtain ⟨_, _, _, s⟩ := st
    exact (s.fresh c hc).1
  have hm : ∀ b, m b ≠ none → b < w.heap.size := fun b hb => st.lt_of_mem hb
  have hcell : ∀ b o, o < lim b → b < w.heap.size := fun b o ho => st.lt_of_lim ho
  refine st.world (by simp [Sort.grow]) (fun _ => Nat.le_refl _) (fun b o ho => by simp [World.cell?, hl b (hcell b o ho)]) (fun c hc => .inr ⟨hl c hc, rfl⟩) (fun b hb => ⟨hl b (hm b hb), rfl⟩) (fun c hc => hf c (by simp [Sort.grow] at hc; omega))
end
end Go.Aw
end
section
namespace Go.Aw
open Go
inductive OkT : AV → Prop
  | bool (b : Bool) : OkT (.bool b)
  | int (k : IntKind) (n : Int) (h : k ≠ .u64) : OkT (.int k n)
  | str (s : List UInt8) : OkT (.str s)
  | slice (l : List AV) (h1 : ∀ x ∈ l, x.cells ≠ []) (h : ∀ x ∈ l, ∀ y ∈ x.cells, OkT y) : OkT (.slice false l)
  | agg (l : List AV) (h : ∀ y ∈ l, OkT y) : OkT (.agg l)
section
variable {P : Program}
end
end Go.Aw
end
section
namespace Go.Sx
open Go Go.Aw
def MLe (m' m : AMem) : Prop := ∀ b o', m' b = some o' → ∃ o, m b = some o ∧ (o' = o ∨ ∃ l l', o = .cells l ∧ o' = .cells l' ∧ l'.length = l.length ∧ ∀ i, LeV (l'.getD i .junk) (l.getD i .junk))
section
variable {P : Program} {F : Nat → Prop} {lim : Nat → Nat} {w : World} {n : Nat} {fr : Fr} {m m' : AMem} {ca : Act} {fl : List Nat}
theorem St.lessM (st : Aw.St F lim w n fr m ca fl) (hs : MLe m' m) : Aw.St F lim w n fr m' ca fl := by
  classical
  obtain ⟨os, om, ow, h⟩ := st
  let p : Nat → Nat → Prop := fun b i => m' b = m b ∨ ∃ l l', m b = some (.cells l) ∧ m' b = some (.cells l') ∧ l'.getD i .junk = l.getD i .junk
  have hn : ∀ b, m b = none → m' b = none := fun b hb => by
    cases hb' : m' b with
    | none => rfl
    | some o => obtain ⟨o2, h2, _⟩ := hs b o hb'; rw [hb] at h2; cases h2
  refine ⟨os, fun b i => if p b i then om b i else [], ow, h.size, h.defers, h.slots, fun b o' hb => ?_, h.ownS, fun b o' hb i => ?_, h.ownF, fun c hc => ⟨(h.free c hc).1, hn c (h.free c hc).2.1, (h.free c hc).2.2⟩, fun b hb => ⟨(h.fresh b hb).1, (h.fresh b hb).2.1, hn b (h.fresh b hb).2.2⟩⟩
  · obtain ⟨o, ho, hr⟩ := hs b o' hb
    obtain ⟨hM, h2, h3⟩ := h.mem b o ho
    refine ⟨?_, h2, h3⟩
    rcases hr with rfl | ⟨l, l', rfl, rfl, hlen, hle⟩
    · have : (fun i => if p b i then om b i else []) = om b := by
        funext i
        exact if_pos (.inl (hb.trans ho.symm))
      rw [this]; exact hM
    · cases hM with
      | cells cs e _ _ hbk hsz hrr =>
        refine .cells cs e l' _ hbk (hsz.trans hlen.symm) fun i hi => ?_
        have hi' : i < l.length := hlen ▸ hi
        by_cases hp : p b i
        · rw [if_pos hp]
          have e : l'.getD i .junk = l.getD i .junk := by
            rcases hp with hp | ⟨a, a', h4, h5, h6⟩
            · rw [hb, ho] at hp
              simp only [Option.some.injEq, AObj.cells.injEq] at hp
              rw [hp]
            · rw [ho] at h4; rw [hb] at h5
              simp only [Option.some.injEq, AObj.cells.injEq] at h4 h5
              rw [h4, h5]; exact h6
          rw [e]; exact hrr i hi'
        · rw [if_neg hp]
          rcases hle i with e | e
          · exact absurd (.inr ⟨l, l', ho, hb, e⟩) hp
          · exact e _ _ _ _ (hrr i hi')
  · obtain ⟨o, ho, _⟩ := hs b o' hb
    show (if p b i then om b i else []).Nodup ∧ ∀ c ∈ (if p b i then om b i else []), _
    split
    · exact h.ownM b o ho i
    · exact ⟨List.nodup_nil, fun c hc => by cases hc⟩
end
section
variable {P : Program} {n : Nat} {fr : Fr} {m m' : AMem} {ops : Array Oper} {l : List Oper} {K : Fr → AMem → Prop}
theorem AOps.lessM (hs : MLe m' m) (h : AOps P n ops l K fr m') : AOps P n ops l K fr m := fun F lim w ca Q st hq => h F lim w ca Q (St.lessM st hs) hq
theorem AWP.lessM {c : Code} {Q : Exit → Fr → AMem → Prop} (hs : MLe m' m) (h : AWP P n c Q fr m') : AWP P n c Q fr m := fun F lim w ca st => h F lim w ca (St.lessM st hs)
end
theorem LeV.junk (x : AV) : LeV .junk x := .inr fun _ _ _ _ _ => .junk _
theorem LeV.nils : LeV .nils (.slice true []) := .inr fun w lim v os h => by
  generalize hx : AV.slice true [] = x at h
  cases h with
  | nils o => exact .nilS _
  | own b n cap sz l cv cur e hn hcap hm hbig h0 hb hcur hsz hlim hc hr =>
    cases hx
    simp only [List.length_nil] at hn
    subst hn
    rcases h0 with h0 | h0
    · omega
    · subst h0; exact .nilS _
  | _ => cases hx
mutual
def mn (i : Nat) : SV → Bool
  | .loc j _ | .ms j _ _ | .mp j | .elt j _ _ _ | .sl j _ _ _ => Nat.beq i j
  | .agg l | .tup l => mnL i l
  | .fn _ a c => bif mnL i a then true else mnL i c
  | _ => false
def mnL (i : Nat) : List SV → Bool
  | [] => false
  | v :: r => bif mn i v then true else mnL i r
end
def fgF (i : Nat) : SFr → (SFr → Prop) → Prop
  | [], k => k []
  | (t, v) :: r, k => bif mn i v then fgF i r fun r' => k ((t, .av .junk) :: r') else fgF i r fun r' => k ((t, v) :: r')
def fgC (i : Nat) : List SV → (List SV → Prop) → Prop
  | [], k => k []
  | v :: r, k => bif mn i v then fgC i r fun r' => k (.av .junk :: r') else fgC i r fun r' => k (v :: r')
def fgM (i : Nat) : List SObj → (List SObj → Prop) → Prop
  | [], k => k []
  | .cells l :: r, k => fgC i l fun l' => fgM i r fun r' => k (.cells l' :: r')
  | .obj o :: r, k => fgM i r fun r' => k (.obj o :: r')
theorem getD_set_ne {bs : List Nat} {i j b : Nat} (h : Nat.beq i j = false) : (bs.set i b).getD j 0 = bs.getD j 0 := by
  have : i ≠ j := fun e => by subst e; rw [Nat.beq_refl] at h; cases h
  simp [List.getD_eq_getElem?_getD, List.getElem?_set_ne this]
mutual
theorem mn_den {bs : List Nat} {i b : Nat} : ∀ {v : SV}, mn i v = false → den (bs.set i b) v = den bs v
  | .av _, _ => by simp only [den]
  | .own _, _ => by simp only [den]
  | .b _, _ => by simp only [den]
  | .loc j o, h => by simp only [mn] at h; simp only [den, getD_set_ne h]
  | .ms j o c, h => by simp only [mn] at h; simp only [den, getD_set_ne h]
  | .mp j, h => by simp only [mn] at h; simp only [den, getD_set_ne h]
  | .elt j k w q, h => by simp only [mn] at h; simp only [den, getD_set_ne h]
  | .sl j k w q, h => by simp only [mn] at h; simp only [den, getD_set_ne h]
  | .agg l, h => by simp only [mn] at h; simp only [den, mnL_den h]
  | .tup l, h => by simp only [mn] at h; simp only [den, mnL_den h]
  | .fn f a c, h => by
    simp only [mn] at h
    cases ha : mnL i a with
    | true => rw [ha] at h; cases h
    | false => rw [ha] at h; simp only [den, mnL_den ha, mnL_den (l := c) h]
  | .off, _ => by simp only [den]
theorem mnL_den {bs : List Nat} {i b : Nat} : ∀ {l : List SV}, mnL i l = false → denL (bs.set i b) l = denL bs l
  | [], _ => by simp only [denL]
  | v :: r, h => by
    simp only [mnL] at h
    cases hv : mn i v with
    | true => rw [hv] at h; cases h
    | false => rw [hv] at h; simp only [denL, mn_den hv, mnL_den (l := r) h]
end
theorem fgF_sound {i : Nat} : ∀ {fr : SFr} {k : SFr → Prop}, fgF i fr k → ∃ fr', k fr' ∧ ∀ bs b, Le (denF (bs.set i b) fr') (denF bs fr)
  | [], k, h => ⟨[], h, fun bs b => Le.refl _⟩
  | (t, v) :: r, k, h => by
    simp only [fgF] at h
    cases hv : mn i v with
    | true =>
      rw [hv] at h
      obtain ⟨r', h1, h2⟩ := fgF_sound (fr := r) h
      exact ⟨_, h1, fun bs b => (h2 bs b).cons t (by simp only [den, AV.plain]; exact LeV.junk _)⟩
    | false =>
      rw [hv] at h
      obtain ⟨r', h1, h2⟩ := fgF_sound (fr := r) h
      exact ⟨_, h1, fun bs b => (h2 bs b).cons t (.inl (mn_den hv))⟩
theorem fgC_sound {i : Nat} : ∀ {l : List SV} {k : List SV → Prop}, fgC i l k → ∃ l', k l' ∧ l'.length = l.length ∧ ∀ bs b q, LeV ((denL (bs.set i b) l').getD q .junk) ((denL bs l).getD q .junk)
  | [], k, h => ⟨[], h, rfl, fun bs b q => .inl rfl⟩
  | v :: r, k, h => by
    simp only [fgC] at h
    cases hv : mn i v with
    | true =>
      rw [hv] at h
      obtain ⟨r', h1, h2, h3⟩ := fgC_sound (l := r) h
      refine ⟨_, h1, by simp [h2], fun bs b q => ?_⟩
      cases q with
      | zero => simp only [denL, List.getD_cons_zero, den, AV.plain]; exact LeV.junk _
      | succ q => simp only [denL, List.getD_cons_succ]; exact h3 bs b q
    | false =>
      rw [hv] at h
      obtain ⟨r', h1, h2, h3⟩ := fgC_sound (l := r) h
      refine ⟨_, h1, by simp [h2], fun bs b q => ?_⟩
      cases q with
      | zero => simp only [denL, List.getD_cons_zero]; exact .inl (mn_den hv)
      | succ q => simp only [denL, List.getD_cons_succ]; exact h3 bs b q
def OLe (o' o : AObj) : Prop := o' = o ∨ ∃ l l', o = .cells l ∧ o' = .cells l' ∧ l'.length = l.length ∧ ∀ i, LeV (l'.getD i .junk) (l.getD i .junk)
theorem fgM_sound {i : Nat} : ∀ {L : List SObj} {k : List SObj → Prop}, fgM i L k → ∃ L', k L' ∧ L'.length = L.length ∧ ∀ bs b (q : Nat) o', L'[q]? = some o' → ∃ o, L[q]? = some o ∧ OLe (denO (bs.set i b) o') (denO bs o)
  | [], k, h => ⟨[], h, rfl, fun bs b q o' h => by simp at h⟩
  | .obj o :: r, k, h => by
    obtain ⟨r', h1, h2, h3⟩ := fgM_sound (L := r) h
    refine ⟨_, h1, by simp [h2], fun bs b q o' ho => ?_⟩
    cases q with
    | zero =>
      simp only [List.getElem?_cons_zero, Option.some.injEq] at ho
      subst ho
      exact ⟨_, rfl, .inl (by simp only [denO])⟩
    | succ q => exact h3 bs b q o' (by simpa using ho)
  | .cells l :: r, k, h => by
    simp only [fgM] at h
    obtain ⟨l', h0, e1, e2⟩ := fgC_sound h
    obtain ⟨r', h1, h2, h3⟩ := fgM_sound (L := r) h0
    refine ⟨_, h1, by simp [h2], fun bs b q o' ho => ?_⟩
    cases q with
    | zero =>
      simp only [List.getElem?_cons_zero, Option.some.injEq] at ho
      subst ho
      exact ⟨_, rfl, .inr ⟨_, _, rfl, rfl, by rw [denL_len, denL_len, e1], e2 bs b⟩⟩
    | succ q => exact h3 bs b q o' (by simpa using ho)
section
variable {bs : List Nat} {L L' : List SObj} {m : AMem}
theorem memD_get {b : Nat} (g : Good bs L m) {o : AObj} (h : memD bs L m b = some o) : (∃ (q : Nat) (x : SObj), bs[q]? = some b ∧ L[q]? = some x ∧ o = denO bs x) ∨ (b ∉ bs ∧ m b = some o) := by
  by_cases hb : b ∈ bs
  · left
    obtain ⟨q, hq⟩ := List.getElem?_of_mem hb
    have hlt : q < bs.length := by
      rcases Nat.lt_or_ge q bs.length with h | h
      · exact h
      · rw [List.getElem?_eq_none h] at hq; cases hq
    have hL : q < L.length := by rw [← g.len]; exact hlt
    have hx : L[q]? = some L[q] := List.getElem?_eq_getElem hL
    have := mem_get g hx
    have e : bs.getD q 0 = b := by rw [List.getD_eq_getElem?_getD, hq]; rfl
    rw [e, h] at this
    exact ⟨q, _, hq, hx, Option.some.inj this⟩
  · right
    rw [memD, wth_other (by rw [denM_fst g.len]; exact hb)] at h
    exact ⟨hb, h⟩
end
end Go.Sx
end
section
namespace Go.Sx
open Go Go.Aw
section
variable {P : Program} {T : Tab} {b0 : List Nat} {fr : SFr} {L : List SObj} {m : AMem} {K : SK}
theorem sgK_get {bs : List Nat} {s : Nat} {v : SV} (h : sgK fr s fun u => u = v) (hv : v ≠ .av .junk) : (denF bs fr).get s = some (den bs v) := by
  rw [sgK_eq] at h
  cases hg : (denF bs fr).get s with
  | none => exact absurd (h.symm.trans (sg_none hg)) hv
  | some x =>
    have := rawOf_denF bs fr s
    rw [rawOf, hg] at this
    rw [← h, ← this]; rfl
structure ElOk (T : Tab) (t e w y : Nat) (zc : List AV) : Prop where
  t : tgK T t fun i => slK i fun e' => e' = e
  e : tgK T e fun j => j.n = w ∧ j.y = y ∧ (match j.z with | [] => False | _ => True) ∧ AV.plainL (denL [] (zCells j.z)) = zc
theorem ElOk.get (hT : tabOk P T = true) {t e w y : Nat} {zc : List AV} (h : ElOk T t e w y zc) : P.underlying t = some (.slice e) ∧ isU P e = true ∧ 0 < w ∧ zOk P e = true ∧ P.cellsOf e = w ∧ P.bytesOf e = y ∧ ∃ z, zeroA P e = some z ∧ z.cells.map AV.plain = zc ∧ z.topOk = true := by
  obtain ⟨i, ti, h1⟩ := tg hT h.t
  unfold slK at h1
  split at h1
  · rename_i e2 hs
    subst h1
    obtain ⟨u1, u2, u3, u4⟩ := ti.sl hs
    obtain ⟨j, tj, h2, h3, h4, h5⟩ := tg hT h.e
    have hz : j.z ≠ [] := fun e => by rw [e] at h4; exact h4
    obtain ⟨z, z1, z2, z3, _⟩ := tj.zeroA (bs := []) hz
    refine ⟨u1, u2, by rw [← h2, ← tj.cells]; exact u3, u4, by rw [tj.cells, h2], by rw [tj.bytes, h3], z, z1, ?_, z3⟩
    rw [z2, ← AV.plainL_eq]; exact h5
  · exact h1.elim
end
end Go.Sx
end
section
namespace Go.Aw
open Go
section
variable {P : Program} {F : Nat → Prop} {lim : Nat → Nat} {w : World} {n : Nat} {fr : Fr} {m : AMem} {ca : Act} {fl : List Nat}
theorem St.convMemW (st : St F lim w n fr m ca fl) {b : Nat} {L : List AV} (hm : m b = some (.cells L)) (j : Nat) (y : AV) (hj : j < L.length) (hc : ∀ v os, Rep w lim v (L.getD j .junk) os → Rep w lim v y []) : St F lim w n fr (m.upd b (some (.cells (L.set j y)))) ca fl := by
  obtain ⟨os, om, ow, h⟩ := st
  refine ⟨os, fun c => if c = b then (fun i => if i = j then [] else om b i) else om c, ow, h.size, h.defers, h.slots, fun c o hc' => ?_, h.ownS, fun c o hc' i => ?_, h.ownF, fun c hc' => ?_, fun c hc' => ?_⟩
  · by_cases e : c = b
    · subst e
      simp only [AMem.upd, if_true] at hc'
      obtain rfl := Option.some.inj hc'
      obtain ⟨hM, hl, hF⟩ := h.mem c _ hm
      refine ⟨?_, hl, hF⟩
      cases hM with
      | cells cs e l os hb hs hr =>
        refine .cells cs e _ _ hb (by simpa using hs) fun i hi => ?_
        have hi' : i < L.length := by simpa using hi
        simp only [if_true]
        by_cases hij : i = j
        · subst hij
          rw [if_pos rfl]
          have := hc _ _ (hr i hi')
          simpa [List.getD_eq_getElem?_getD, hi'] using this
        · rw [if_neg hij]
          have := hr i hi'
          simpa [List.getD_eq_getElem?_getD, List.getElem?_set_ne (Ne.symm hij)] using this
    · simp only [AMem.upd, if_neg e] at hc'
      simp only [if_neg e]
      exact h.mem c o hc'
  · by_cases e : c = b
    · subst e
      simp only [if_true]
      by_cases hij : i = j
      · simp [hij]
      · simp only [if_neg hij]
        exact h.ownM c _ hm i
    · simp only [AMem.upd, if_neg e] at hc'
      simp only [if_neg e]
      exact h.ownM c o hc' i
  · have := h.free c hc'
    refine ⟨this.1, ?_, this.2.2⟩
    simp only [AMem.upd]
    by_cases e : c = b
    · subst e; rw [hm] at this; cases this.2.1
    · rw [if_neg e]; exact this.2.1
  · have := h.fresh c hc'
    refine ⟨this.1, this.2.1, ?_⟩
    simp only [AMem.upd]
    by_cases e : c = b
    · subst e; rw [hm] at this; cases this.2.2
    · rw [if_neg e]; exact this.2.2
end
end Go.Aw
namespace Go.Sx
open Go Go.Aw
mutual
theorem den_congr {bs bs' : List Nat} (h : ∀ j, bs.getD j 0 = bs'.getD j 0) : ∀ (v : SV), den bs v = den bs' v
  | .av _ | .own _ | .b _ | .off => by simp only [den]
  | .loc j o | .ms j o c | .mp j | .elt j k w q | .sl j k w q => by simp only [den, h]
  | .agg l => by simp only [den, denL_congr h l]
  | .tup l => by simp only [den, denL_congr h l]
  | .fn f a c => by simp only [den, denL_congr h a, denL_congr h c]
theorem denL_congr {bs bs' : List Nat} (h : ∀ j, bs.getD j 0 = bs'.getD j 0) : ∀ (l : List SV), denL bs l = denL bs' l
  | [] => by simp only [denL]
  | v :: r => by simp only [denL, den_congr h v, denL_congr h r]
end
theorem denF_congr {bs bs' : List Nat} (h : ∀ j, bs.getD j 0 = bs'.getD j 0) : ∀ (fr : SFr), denF bs fr = denF bs' fr
  | [] => rfl
  | (t, v) :: r => by simp only [denF, den_congr h v, denF_congr h r]
theorem denO_congr {bs bs' : List Nat} (h : ∀ j, bs.getD j 0 = bs'.getD j 0) (o : SObj) : denO bs o = denO bs' o := by
  cases o with
  | cells l => simp only [denO, denL_congr h l]
  | obj o => rfl
section
variable {bs : List Nat} {L L' : List SObj} {m : AMem} {fr : SFr}
theorem good_take {i : Nat} (g : Good bs L m) (hi : i + 1 = L.length) (hl : L'.length = i) : Good (bs.take i) L' m := by
  have := g.len
  exact ⟨g.nd.sublist (List.take_sublist _ _), by rw [List.length_take, hl]; omega, fun b hb => g.fresh b (List.mem_of_mem_take hb)⟩
theorem take_getD {i : Nat} (hi : bs.length = i + 1) : ∀ j, (bs.take i).getD j 0 = (bs.set i 0).getD j 0 := fun j => by
  simp only [List.getD_eq_getElem?_getD, List.getElem?_take, List.getElem?_set]
  by_cases h : j < i
  · rw [if_pos h, if_neg (by omega)]
  · rw [if_neg h]
    by_cases e : i = j
    · subst e; rw [if_pos rfl, if_pos (by omega)]; rfl
    · rw [if_neg e, List.getElem?_eq_none (by omega)]
theorem denL_setC (bs : List Nat) (v : SV) : ∀ (l : List SV) (j : Nat), denL bs (l.set j v) = (denL bs l).set j (den bs v)
  | [], j => by simp only [List.set_nil, denL]
  | x :: r, 0 => by simp only [List.set_cons_zero, denL]
  | x :: r, j + 1 => by simp only [List.set_cons_succ, denL, denL_setC bs v r j]
theorem cvfM {c : Cfg} {A : SK} {R : Prop} {α : Type} (f : α → AV) (zs : List α) (ys : List AV) {i a j k cap w : Nat} {cl : List SV} (hL : nth L i = some (.obj (.cells (flatK f zs)))) (hi : (Nat.beq (i + 1) L.length && Nat.ble c.bs.length i) = true) (ha : nth L a = some (.cells cl)) (hj : nth cl j = some (.ms i k cap))
    (hf : ∀ a, (f a).cells.length = w) (hpos : 0 < w) (hp : ∀ a, (f a).plain = f a) (hk : k ≤ zs.length ∧ k ≤ 140737488355328) (hy : (zs.take k).map f = ys)
    (h : fgF i fr fun fr' => fgM i ((L.set a (.cells (cl.set j (.av (.slice false ys))))).take i) fun L' => A fr' L' m) : SOr (SCv c A fr L m) R := ⟨.inl ⟨fun new g n cd Q hQ F lim wd ca st => by
  simp only [Bool.and_eq_true] at hi
  have hi1 := Nat.eq_of_beq_eq_true hi.1
  have hi2 := Nat.le_of_ble_eq_true hi.2
  rw [nth_eq] at hL ha hj
  obtain ⟨fr', h1, hF⟩ := fgF_sound h
  obtain ⟨L', h2, hl2, hM⟩ := fgM_sound h1
  generalize hB : c.bs ++ new = B at g st
  have hBl := g.len
  have hL2 : L'.length = i := by rw [hl2, List.length_take, List.length_set]; omega
  have hm := mem_get g hL
  simp only [denO] at hm
  obtain ⟨s1, s2, s3⟩ := Aw.St.freezeK st hf hpos hp hm
  have hma := mem_get g ha
  simp only [denO] at hma
  have hla : a < B.length := by
    rw [hBl]
    rcases Nat.lt_or_ge a L.length with h | h
    · exact h
    · rw [List.getElem?_eq_none h] at ha; cases ha
  have hlj : j < cl.length := by
    rcases Nat.lt_or_ge j cl.length with h | h
    · exact h
    · rw [List.getElem?_eq_none h] at hj; cases hj
  have hai : a ≠ i := fun e => by rw [e, hL] at ha; cases ha
  have hne : B.getD a 0 ≠ B.getD i 0 := fun e => hai (getD_inj g.nd hla (by omega) e)
  have hma2 : (memD B L m).upd (B.getD i 0) none (B.getD a 0) = some (.cells (denL B cl)) := by
    simp only [AMem.upd, if_neg hne]; exact hma
  have hcell : (denL B cl).getD j .junk = .ms ⟨B.getD i 0, 0, none⟩ k cap := by
    have := (denL_getD (bs := B) (n := j) (l := cl) (v := .ms i k cap) (by rw [nth_eq]; exact hj)).1
    rw [this]; simp only [den]
  have st2 := Aw.St.convMemW s1 hma2 j (.slice false ys) (by rw [denL_len]; exact hlj) (fun v os hr => by
    rw [hcell] at hr
    have e := ms_none hr
    subst e
    obtain ⟨e1, e2, e3⟩ := rep_ms_inv hr
    rw [← hy]
    exact s3 k cap v hk.1 hk.2 (by rw [e1]; exact .ms _ _ _ e2 e3))
  have g' : Good (B.take i) L' m := good_take g hi1 hL2
  have hpre : c.bs <+: B.take i := by
    rw [← hB, List.take_append, List.take_of_length_le hi2]
    exact List.prefix_append _ _
  have hmle : MLe (memD (B.take i) L' m) (((memD B L m).upd (B.getD i 0) none).upd (B.getD a 0) (some (.cells ((denL B cl).set j (.slice false ys))))) := by
    intro b o' hb
    rcases memD_get g' hb with ⟨q, x, q1, q2, rfl⟩ | ⟨q1, q2⟩
    · obtain ⟨o, q3, q4⟩ := hM B 0 q x q2
      have hqi : q < i := by
        rcases Nat.lt_or_ge q i with h | h
        · exact h
        · rw [List.getElem?_eq_none (by omega)] at q2; cases q2
      rw [List.getElem?_take_of_lt hqi] at q1 q3
      rw [← denO_congr (take_getD (bs := B) (i := i) (by omega)) x] at q4
      have eb : B.getD q 0 = b := by rw [List.getD_eq_getElem?_getD, q1]; rfl
      have hqn : b ≠ B.getD i 0 := fun e => by
        have := getD_inj g.nd (by omega) (by omega) (eb.trans e)
        omega
      by_cases e : a = q
      · subst e
        rw [List.getElem?_set_self (by omega)] at q3
        obtain rfl := Option.some.inj q3
        simp only [denO, denL_setC] at q4
        refine ⟨.cells ((denL B cl).set j (.slice false ys)), by simp only [AMem.upd, ← eb, if_true], ?_⟩
        have ed : den B (.av (.slice false ys)) = .slice false ys := by simp only [den, AV.plain]
        rw [ed] at q4
        exact q4
      · rw [List.getElem?_set_ne e] at q3
        have hqa : b ≠ B.getD a 0 := fun e2 => e (getD_inj g.nd (by omega) hla (eb.trans e2)).symm
        have hg := mem_get g q3
        rw [eb] at hg
        exact ⟨denO B o, by simp only [AMem.upd, if_neg hqa, if_neg hqn]; exact hg, q4⟩
    · have hbB : b ∉ B := fun hb2 => by rw [g.fresh b hb2] at q2; cases q2
      have h5 : b ≠ B.getD i 0 := fun e => hbB (by rw [e, List.getD_eq_getElem?_getD, List.getElem?_eq_getElem (by omega)]; exact List.getElem_mem _)
      have h6 : b ≠ B.getD a 0 := fun e => hbB (by rw [e, List.getD_eq_getElem?_getD, List.getElem?_eq_getElem (by omega)]; exact List.getElem_mem _)
      refine ⟨o', ?_, .inl rfl⟩
      simp only [AMem.upd, if_neg h5, if_neg h6, memD]
      rw [wth_other (by rw [denM_fst g.len]; exact hbB)]
      exact q2
  have hle : Le (denF (B.take i) fr') (denF B fr) := by
    rw [denF_congr (take_getD (bs := B) (i := i) (by omega))]
    exact hF B 0
  have hA := AWP.less hle (AWP.lessM hmle (hQ fr' L' m (B.take i) hpre g' h2))
  exact wp_mono (hA F _ wd ca st2) fun e a w' ⟨l, f, m', q, st', pr⟩ => ⟨l, f, m', q, st', s2.trans pr⟩⟩⟩
theorem cv0 {c : Cfg} {A : SK} {R : Prop} (h : A fr L m) : SOr (SCv c A fr L m) R := ⟨.inl ⟨fun new g n cd Q hQ => hQ fr L m (c.bs ++ new) (List.prefix_append _ _) g h⟩⟩
end
end Go.Sx
end
section
namespace Go.Sx
open Go Go.Aw
def errC (E : Nat) : List SV → List SV
  | [] => []
  | v :: r => errS E v :: errC E r
def errO (E : Nat) : SObj → SObj
  | .cells l => .cells (errC E l)
  | .obj o => .obj o
def errL (E : Nat) : List SObj → List SObj
  | [] => []
  | o :: r => errO E o :: errL E r
section
variable {fr : SFr} {L : List SObj} {m : AMem}
theorem errC_len (E : Nat) : ∀ (l : List SV), (errC E l).length = l.length
  | [] => rfl
  | v :: r => by simp only [errC, List.length_cons, errC_len E r]
theorem errL_len (E : Nat) : ∀ (l : List SObj), (errL E l).length = l.length
  | [] => rfl
  | v :: r => by simp only [errL, List.length_cons, errL_len E r]
theorem errC_le (bs : List Nat) (E : Nat) : ∀ (l : List SV) (i : Nat), LeV ((denL bs (errC E l)).getD i .junk) ((denL bs l).getD i .junk)
  | [], i => .inl rfl
  | v :: r, 0 => by simp only [errC, denL, List.getD_cons_zero]; exact errS_le bs E v
  | v :: r, i + 1 => by simp only [errC, denL, List.getD_cons_succ]; exact errC_le bs E r i
theorem errO_le (bs : List Nat) (E : Nat) (o : SObj) : OLe (denO bs (errO E o)) (denO bs o) := by
  cases o with
  | obj o => exact .inl rfl
  | cells l => exact .inr ⟨_, _, rfl, rfl, by rw [denL_len, denL_len, errC_len], errC_le bs E l⟩
theorem errL_get (E : Nat) : ∀ (l : List SObj) (i : Nat), (errL E l)[i]? = (l[i]?).map (errO E)
  | [], i => by simp [errL]
  | v :: r, 0 => by simp [errL]
  | v :: r, i + 1 => by simp [errL, errL_get E r i]
theorem ACalls.lessM {P : Program} {f : FuncId} {args : List AV} {K : AV → AMem → Prop} {m' : AMem} (hs : MLe m' m) (h : ACalls P f args m' K) : ACalls P f args m K :=
  ⟨h.1, fun F lim w cargs hsz hr st => h.2 F lim w cargs hsz hr (St.lessM st hs)⟩
theorem MLe.wth {bs : List Nat} {is : List Nat} {os os' : List SObj} {mm : AMem} (hN : (blks bs is).Nodup) (hl : is.length = os.length) (hl' : os'.length = os.length) (h : ∀ (i : Nat) o', os'[i]? = some o' → ∃ o, os[i]? = some o ∧ OLe (denO bs o') (denO bs o)) : MLe (mm.wth (pk bs is os')) (mm.wth (pk bs is os)) := by
  intro b o' hb
  by_cases hm : b ∈ blks bs is
  · obtain ⟨i, him, rfl⟩ := blks_mem hm
    obtain ⟨j, hj⟩ := List.getElem?_of_mem him
    have hjl : j < os'.length := by
      rcases Nat.lt_or_ge j is.length with h | h
      · omega
      · rw [List.getElem?_eq_none h] at hj; cases hj
    have ho' := List.getElem?_eq_getElem hjl
    obtain ⟨o, ho, hle⟩ := h j _ ho'
    rw [pk_get hN (by omega) hj ho'] at hb
    obtain rfl := Option.some.inj hb
    exact ⟨_, pk_get hN hl hj ho, hle⟩
  · rw [pk_other hm] at hb
    exact ⟨o', by rw [pk_other hm]; exact hb, .inl rfl⟩
theorem callX {b0 : List Nat} {P : Program} {f : FuncId} {vs : List SV} {Q : SV → List SObj → AMem → Prop} {σ : Type} (E : Nat) (is : List Nat) (I : σ → Prop) (y : σ → SV) (os : σ → List SObj) (hi : isOk L.length is = true) (hl : ∀ x, (os x).length = is.length)
    (h : ∀ bs (mm : AMem), Gd (blks bs is) mm → (∀ b o, m b = some o → mm b = some o) → ∀ (K : AV → AMem → Prop), (∀ x, I x → K (den bs (y x)) (mm.wth (pk bs is (os x)))) → ACalls P f (denL bs vs) (mm.wth (pk bs is (errL E (getL L is)))) K)
    (hQ : ∀ x, I x → flK (setL L is (os x)) fun L' => Q (y x) L' m) : SCall P b0 f vs fr L m Q := by
  refine ⟨σ, I, y, fun x => setL L is (os x), fun _ => m, fun new g K hK => ?_, fun x => by rw [setL_len, Nat.beq_refl]; rfl, fun x hx => by have := hQ x hx; rwa [flK_eq] at this⟩
  have hN := blks_nodup g.nd (by rw [g.len]; exact hi)
  have e1 := mem_pk g hi (getL_len L is).symm
  rw [setL_get_self hi] at e1
  rw [e1]
  refine ACalls.lessM (MLe.wth hN (getL_len L is).symm (errL_len E _) fun i o' ho' => ?_) (h (b0 ++ new) _ ⟨hN, fun b hb => by simp [restM, hb]⟩ (fun b o hb => ?_) K fun x hx => ?_)
  · rw [errL_get] at ho'
    cases hg : (getL L is)[i]? with
    | none => rw [hg] at ho'; cases ho'
    | some o =>
      rw [hg] at ho'
      obtain rfl := Option.some.inj ho'
      exact ⟨o, rfl, errO_le _ E o⟩
  · have h1 : b ∉ b0 ++ new := fun hm => by rw [g.fresh b hm] at hb; cases hb
    have h2 : b ∉ blks (b0 ++ new) is := fun hm => by
      obtain ⟨i, hi2, e⟩ := blks_mem hm
      have hlt := (isOk_lt hi).1 i hi2
      rw [← g.len] at hlt
      apply h1
      rw [e, List.getD_eq_getElem?_getD, List.getElem?_eq_getElem hlt]
      exact List.getElem_mem _
    simp only [restM, if_neg h2, memD]
    rw [wth_other (by rw [denM_fst g.len]; exact h1)]
    exact hb
  · have := hK x hx [] (by rw [List.append_nil]; exact ⟨g.nd, by rw [setL_len]; exact g.len, g.fresh⟩)
    rw [List.append_nil, mem_pk g hi (hl x).symm] at this
    exact this
end
end Go.Sx
end
section
namespace Go.Sx
open Go Go.Aw
def zA (st : Bool) (z : List Z) : AV := bif st then .agg (AV.plainL (denL [] (zCells z))) else ((denL [] (zCells z)).getD 0 .junk).plain
theorem TF.zeroV {P : Program} {t : Nat} {i : TI} (tf : TF P t i) (hz : i.z ≠ []) : ∃ z, Aw.zeroA P t = some z ∧ z.plain = zA i.k.isSt i.z := by
  obtain ⟨v, h1, h2, h3, h4⟩ := tf.zero hz
  refine ⟨cval v, by simp only [Aw.zeroA, h1, h2, if_true], ?_⟩
  unfold zIs at h3
  split at h3
  · simp only [Bool.and_eq_true] at h3
    rw [zA, h3.1, cond_true, zEqs_den h3.2]
    simp only [cval, AV.plain]
  · rename_i hv
    simp only [Bool.and_eq_true, Bool.not_eq_true'] at h3
    have hcv : cval v = cval1 v := by
      cases v with
      | agg cs => exact absurd rfl (hv cs)
      | iface t u =>
        cases hzz : i.z with
        | nil => exact absurd hzz hz
        | cons a r => rw [hzz] at h3; simp [zEqs, zEq] at h3
      | _ => rfl
    rw [zA, h3.1, cond_false, zEqs_den h3.2, hcv]
    rfl
def tkD : TK → Option TypeDesc
  | .str => some .string
  | .int .i64 => some (.int .i64)
  | _ => none
structure MpOk (T : Tab) (t k e : Nat) (dk : TypeDesc) (z : AV) : Prop where
  t : tgK T t fun i => match i.k with | .mp k' e' => k' = k ∧ e' = e | _ => False
  k : tgK T k fun i => tkD i.k = some dk
  e : tgK T e fun i => (match i.z with | [] => False | _ => True) ∧ zA i.k.isSt i.z = z
section
variable {P : Program} {T : Tab} {b0 : List Nat} {fr : SFr} {L : List SObj} {m : AMem} {K : SK}
theorem MpOk.get (hT : tabOk P T = true) {t k e : Nat} {dk : TypeDesc} {z : AV} (h : MpOk T t k e dk z) : P.underlying t = some (.map k e) ∧ P.underlying k = some dk ∧ ∃ z0, zeroA P e = some z0 ∧ z0.plain = z := by
  obtain ⟨i, ti, h1⟩ := tg hT h.t
  obtain ⟨j, tj, h2⟩ := tg hT h.k
  obtain ⟨l, tl, h3, h4⟩ := tg hT h.e
  have hz : l.z ≠ [] := fun e => by rw [e] at h3; exact h3
  refine ⟨?_, ?_, ?_⟩
  · split at h1
    · rename_i hk
      obtain ⟨rfl, rfl⟩ := h1
      exact ti.mp hk
    · exact h1.elim
  · unfold tkD at h2
    split at h2
    · rename_i hk
      rw [← Option.some.inj h2]; exact tj.str hk
    · rename_i hk
      rw [← Option.some.inj h2]; exact tj.int hk
    · cases h2
  · obtain ⟨z0, z1, z2⟩ := tl.zeroV hz
    exact ⟨z0, z1, z2.trans h4⟩
end
end Go.Sx
end
section
namespace Go.Sx
open Go Go.Aw
theorem ACalls.lessA {P : Program} {f : FuncId} {a a' : List AV} {m : AMem} {K : AV → AMem → Prop} (hl : a'.length = a.length) (hs : ∀ i, LeV (a'.getD i .junk) (a.getD i .junk)) (h : ACalls P f a' m K) : ACalls P f a m K :=
  ⟨h.1, fun F lim w cargs hsz hr st => h.2 F lim w cargs (by omega) (fun i hi => by
    rcases hs i with e | e
    · rw [e]; exact hr i (by omega)
    · exact e _ _ _ _ (hr i (by omega))) st⟩
section
variable {fr : SFr} {L : List SObj} {m : AMem}
theorem callY {b0 : List Nat} {P : Program} {f : FuncId} {vs : List SV} {Q : SV → List SObj → AMem → Prop} {σ : Type} (E : Nat) (is : List Nat) (I : σ → Prop) (y : σ → SV) (os : σ → List SObj) (hi : isOk L.length is = true) (hl : ∀ x, (os x).length = is.length)
    (h : ∀ bs (mm : AMem), Gd (blks bs is) mm → (∀ b o, m b = some o → mm b = some o) → ∀ (K : AV → AMem → Prop), (∀ x, I x → K (den bs (y x)) (mm.wth (pk bs is (os x)))) → ACalls P f (denL bs (errC E vs)) (mm.wth (pk bs is (errL E (getL L is)))) K)
    (hQ : ∀ x, I x → flK (setL L is (os x)) fun L' => Q (y x) L' m) : SCall P b0 f vs fr L m Q :=
  callX E is I y os hi hl (fun bs mm gd ht K hK => ACalls.lessA (by rw [denL_len, denL_len, errC_len]) (errC_le bs E vs) (h bs mm gd ht K hK)) hQ
end
end Go.Sx
end
