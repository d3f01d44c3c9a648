/-
  The executor, part 9: regions in their text's order; open orders.
-/
import Derived.Test.YtkgpejbkiacbmaaDoorWyH
import Derived.Lib.AppendStr
import Derived.Lib.LaidTab
import Derived.Lib.ItoaNum
import Derived.Sort.Grow
import Derived.Test.YtkgpejbkiacbmaaDoorWwS
import Derived.Test.YtkgpejbkiacbmaaDoorWyA
import Derived.Test.YtkgpejbkiacbmaaDoorWxf
import Derived.Lib.AtoiErrMem
import Derived.Lib.Atoi
import Derived.Below
import Derived.Lib.AtoiAllCases
import Derived.Shelf.Strconv.AtoiAll
import Derived.Shelf.Strings.Prefix
import Derived.Shelf.Slices.Clone
import Derived.Shelf.Slices.CompactS
import Derived.Shelf.Slices.Turned
import Derived.Shelf.Small.Wraps
section
namespace Go.Sx
open Go Go.Aw
section
variable {c : Cfg} {n : Nat} {L : List SObj} {m : AMem} {K : Fr → AMem → Prop} {ops : Array Oper} {l : List Oper} {bs : List Nat}
theorem rpK_sound {t : Nat} {v : SV} : ∀ {fr : SFr} {k : SFr → Prop}, rpK fr t v k → den bs v = den bs (sg fr t) → ∃ fr', k fr' ∧ denF bs fr' = denF bs fr
  | [], _, h, _ => ⟨_, h, rfl⟩
  | (s, x) :: r, k, h, e => by
    simp only [rpK] at h
    simp only [sg] at e
    cases hb : Nat.beq s t with
    | true =>
      rw [hb] at h e
      exact ⟨_, h, by simp only [denF]; rw [show den bs v = den bs x from e]⟩
    | false =>
      rw [hb] at h e
      obtain ⟨fr', h', e'⟩ := rpK_sound (fr := r) h e
      exact ⟨_, h', by simp only [denF, e']⟩
theorem sgd_sound {gd : Option (Nat × Bool)} {fr : SFr} {on off : SFr → Prop} (h : sgd ops.toList gd fr on off) :
    (gOn ops (denF bs fr) gd = some true ∧ ∃ fr', on fr' ∧ denF bs fr' = denF bs fr) ∨ (gOn ops (denF bs fr) gd = some false ∧ ∃ fr', off fr' ∧ denF bs fr' = denF bs fr) := by
  cases gd with
  | none => exact .inl ⟨rfl, _, h, rfl⟩
  | some jb =>
    obtain ⟨j, b⟩ := jb
    simp only [sgd] at h
    rw [nth_eq, Array.getElem?_toList] at h
    cases hg : (ops[j]?).bind (·.dst) with
    | none => rw [hg] at h; exact h.elim
    | some g =>
      rw [hg] at h
      simp only at h
      rw [sgK_eq] at h
      have hr := rawOf_denF bs fr g
      have hgo : ∀ x, rawOf (denF bs fr) g = x → gOn ops (denF bs fr) (some (j, b)) = gLit x b := fun x e => by simp only [gOn, hg, e]
      have key : ∀ (q : SB), sg fr g = .b q → (b = true → q.ways (rpK fr g (.b (.lit true)) on) (rpK fr g (.b (.lit false)) off)) → (b = false → q.ways (rpK fr g (.b (.lit true)) off) (rpK fr g (.b (.lit false)) on)) →
          (gOn ops (denF bs fr) (some (j, b)) = some true ∧ ∃ fr', on fr' ∧ denF bs fr' = denF bs fr) ∨ (gOn ops (denF bs fr) (some (j, b)) = some false ∧ ∃ fr', off fr' ∧ denF bs fr' = denF bs fr) := fun q hq k1 k2 => by
        have hd : den bs (sg fr g) = .bool q.val := by rw [hq]; simp only [den]
        rw [hgo (.bool q.val) (hr.trans hd)]
        cases hb : b with
        | true =>
          obtain ⟨w1, w2⟩ := q.ways_sound (k1 hb)
          cases hv : q.val with
          | true => exact .inl ⟨rfl, rpK_sound (w1 hv) (by rw [hd, hv]; simp only [den, SB.val])⟩
          | false => exact .inr ⟨rfl, rpK_sound (w2 hv) (by rw [hd, hv]; simp only [den, SB.val])⟩
        | false =>
          obtain ⟨w1, w2⟩ := q.ways_sound (k2 hb)
          cases hv : q.val with
          | true => exact .inr ⟨rfl, rpK_sound (w1 hv) (by rw [hd, hv]; simp only [den, SB.val])⟩
          | false => exact .inl ⟨rfl, rpK_sound (w2 hv) (by rw [hd, hv]; simp only [den, SB.val])⟩
      cases hs : sg fr g with
      | b q =>
        rw [hs] at h
        cases q with
        | lit z =>
          have hd : rawOf (denF bs fr) g = .bool z := by rw [hr, hs]; simp only [den, SB.val]
          rw [hgo _ hd]
          cases z <;> cases b <;> first | exact .inl ⟨rfl, _, h, rfl⟩ | exact .inr ⟨rfl, _, h, rfl⟩
        | _ => exact key _ hs (fun e => by subst e; exact h) (fun e => by subst e; exact h)
      | off =>
        rw [hs] at h
        have hd : rawOf (denF bs fr) g = .lazy false .junk := by rw [hr, hs]; simp only [den]
        rw [hgo _ hd]
        refine .inr ⟨?_, _, h, rfl⟩
        cases b <;> rfl
      | _ => rw [hs] at h; exact h.elim
def stOk (o : Oper) : Bool :=
  match o.op, o.dst with
  | .store _ _ _, some _ => false
  | _, _ => true
theorem stOk_none {o : Oper} (h : stOk o = true) : ∀ t a x, o.op = .store t a x → o.dst = none := by
  intro t a x e
  unfold stOk at h
  rw [e] at h
  cases hd : o.dst with
  | none => rfl
  | some d => rw [hd] at h; cases h
theorem sops_sound {b0 : List Nat} (hT : tabOk c.P c.T = true) (hb0 : c.bs = b0) {sl : List Nat} : ∀ (l : List Oper) {fr : SFr} {L : List SObj} {m : AMem} {new : List Nat} {k : SK}, (∀ o ∈ l, okOper n o = true ∧ tmpsOk n o = true ∧ stOk o = true) → Good (b0 ++ new) L m →
    sops c ops.toList sl l fr L m k → (∀ fr' L' m' nw, Good (b0 ++ nw) L' m' → k fr' L' m' → K (denF (b0 ++ nw) fr') (memD (b0 ++ nw) L' m')) → AOps c.P n ops l K (denF (b0 ++ new) fr) (memD (b0 ++ new) L m)
  | [], fr, L, m, new, k, _, g, h, hK => AOps.nil (hK fr L m new g h)
  | o :: r, fr, L, m, new, k, hok, g, h, hK => by
    obtain ⟨dst, op, ty, pos, af, gd⟩ := o
    obtain ⟨h1, h2, h3⟩ := hok _ (List.mem_cons_self ..)
    rw [sops_cons] at h
    rcases sgd_sound (bs := b0 ++ new) h with ⟨hg, fr', h, e⟩ | ⟨hg, fr', h, e⟩
    · refine AOps.guardOn hg ?_
      rw [← e]
      refine sop_sound hT hb0 g (stOk_none (o := ⟨dst, op, ty, pos, af, gd⟩) h3) h1 h2 ⟨by rw [hb0]; exact List.prefix_append _ _, fun fr2 L2 m2 bs2 hp g2 h => ?_⟩ h
      obtain ⟨nw, rfl⟩ := hp
      rw [hb0] at g2 ⊢
      exact sops_sound hT hb0 r (new := nw) (fun o ho => hok o (List.mem_cons_of_mem _ ho)) g2 h hK
    · refine AOps.guardOff hg h1 ?_
      rw [← e]
      obtain ⟨fr2, h, e2⟩ := putK_sound (bs := b0 ++ new) h
      have := sops_sound hT hb0 r (new := new) (fun o ho => hok o (List.mem_cons_of_mem _ ho)) g h hK
      rw [e2] at this
      simp only [den] at this
      exact this
theorem spure_sound {b0 new : List Nat} (hT : tabOk c.P c.T = true) (hb0 : c.bs = b0) (g : Good (b0 ++ new) L m) {o : Oper} {fr : SFr} {k : SFr → Prop} (h : spure c o.dst o.op fr L m k) :
    ∃ cv side x, pv0 c.P (memD (b0 ++ new) L m) cv (rawOf (denF (b0 ++ new) fr)) o = some (side, x) ∧ side ∧ ∃ fr', k fr' ∧ denF (b0 ++ new) fr' = putO (denF (b0 ++ new) fr) o.dst x := by
  obtain ⟨dst, op, ty, pos, af, gd⟩ := o
  cases dst with
  | none => exact h.elim
  | some d =>
    simp only [spure] at h
    split at h
    · subst hb0
      obtain ⟨us, h1, e⟩ := opLK_sound (c.bs ++ new) h
      obtain ⟨y, h2, h3⟩ := h1
      obtain ⟨cv, h4, h5⟩ := h2 new g
      refine ⟨cv, _, _, by simp only [pv0]; rfl, ?_, _, h3, ?_⟩
      · rw [← e]; exact h4
      · simp only [denF, putO, Fr.put, h5]
    · rename_i t parts
      obtain ⟨i, ti, h1⟩ := tg hT h
      cases hi : i.k with
      | st fs =>
        rw [hi] at h1
        obtain ⟨hz, h2⟩ := chk_iff.1 h1
        rw [flK_eq] at h2
        obtain ⟨cells, side, h3, ha, hs⟩ := build_facts (bs := b0 ++ new) (m := memD (b0 ++ new) L m) (stl := []) (d := some d) hT ti hi (by intro e; rw [e] at hz; cases hz) h2 rfl
        obtain ⟨u, h4, e⟩ := cellsK_sound (b0 ++ new) h3
        refine ⟨.junk, side, (AV.agg (denL (b0 ++ new) cells)).plain, by simp only [pv0, ha], hs, _, h4, ?_⟩
        simp only [denF, den, putO, Fr.put, AV.plain, e]
      | _ => rw [hi] at h1; exact h1.elim
    · rename_i t nn parts
      obtain ⟨i, ti, h1⟩ := tg hT h
      unfold slK at h1
      cases hi : i.k with
      | sl e =>
        rw [hi] at h1
        obtain ⟨j, tj, h2⟩ := tg hT h1
        obtain ⟨us, h3, he⟩ := partsK_sound (bs := b0 ++ new) h2
        obtain ⟨c1, h4⟩ := chk_iff.1 h3
        obtain ⟨c2, h5⟩ := chk_iff.1 h4
        obtain ⟨c3, h6⟩ := chk_iff.1 h5
        obtain ⟨h7, ht⟩ := toLK_sound (bs := b0 ++ new) h6
        obtain ⟨c4, h8⟩ := chk_iff.1 h7
        obtain ⟨ha, hside⟩ := buildSlice_facts (bs := b0 ++ new) (m := memD (b0 ++ new) L m) (stl := []) (d := some d) hT ti hi tj he c1 c2 c3 ht c4 rfl
        refine ⟨.junk, _, (AV.slice true (denL (b0 ++ new) (vals us))).plain, by simp only [pv0, ha], hside, _, h8, ?_⟩
        simp only [denF, den, putO, Fr.put, AV.plain]
      | _ => rw [hi] at h1; exact h1.elim
    · obtain ⟨q, h1, e1⟩ := opK_sound (b0 ++ new) h
      split at h1
      · obtain ⟨u, h2, e2⟩ := opK_sound (b0 ++ new) h1
        simp only [den, SB.val] at e1
        exact ⟨.junk, True, _, by simp only [pv0, ← e1]; rfl, trivial, _, h2, by simp only [denF, putO, Fr.put, e2]⟩
      · obtain ⟨u, h2, e2⟩ := opK_sound (b0 ++ new) h1
        simp only [den, SB.val] at e1
        exact ⟨.junk, True, _, by simp only [pv0, ← e1]; rfl, trivial, _, h2, by simp only [denF, putO, Fr.put, e2]⟩
      · exact h1.elim
    · rename_i n1 n2 n3 n4
      obtain ⟨side, z, u, hq, hs, rfl, h1⟩ := sqv_sound (P := c.P) (bs := b0 ++ new) (m := m) hT g h
      refine ⟨.junk, side, _, ?_, hs, _, h1, rfl⟩
      rw [← hq]
      unfold pv0
      split
      · rename_i e; exact (n1 _ _ _ e).elim
      · rename_i e; exact (n3 _ _ _ e).elim
      · rename_i e; exact (n2 _ _ e).elim
      · rename_i e; exact (n4 _ _ _ e).elim
      · rfl
theorem spures_sound {b0 new : List Nat} (hT : tabOk c.P c.T = true) (hb0 : c.bs = b0) (g : Good (b0 ++ new) L m) : ∀ (l : List Oper) {fr : SFr} {k : SFr → Prop}, spures c ops.toList l fr L m k →
    ∃ cs, pseq c.P ops (memD (b0 ++ new) L m) cs l (denF (b0 ++ new) fr) (fun f => ∃ fr', f = denF (b0 ++ new) fr' ∧ k fr')
  | [], fr, k, h => ⟨[], _, rfl, h⟩
  | o :: r, fr, k, h => by
    rw [spures_cons] at h
    rcases sgd_sound (bs := b0 ++ new) h with ⟨hg, fr', h, e⟩ | ⟨hg, fr', h, e⟩
    · obtain ⟨cv, side, x, h1, h2, fr2, h3, e2⟩ := spure_sound hT hb0 g h
      obtain ⟨cs, h4⟩ := spures_sound hT hb0 g r h3
      rw [e2, e] at h4
      rw [e] at h1
      by_cases hc : ∃ f args ts, o.op = .call ⟨.value (.func f), args, ts⟩
      · obtain ⟨f, args, ts, e3⟩ := hc
        refine ⟨cv :: cs, ?_⟩
        simp only [pseq, List.headD_cons]
        rw [pv_on hg, h1]
        simp only [e3, List.tail_cons]
        exact ⟨h2, h4⟩
      · have h1' : pv0 c.P (memD (b0 ++ new) L m) (cs.headD .junk) (rawOf (denF (b0 ++ new) fr)) o = some (side, x) := by
          rw [← h1]
          unfold pv0
          split
          · rename_i e3; exact absurd ⟨_, _, _, e3⟩ hc
          all_goals rfl
        refine ⟨cs, ?_⟩
        simp only [pseq]
        rw [pv_on hg, h1']
        refine ⟨h2, ?_⟩
        split
        · rename_i e3; exact absurd ⟨_, _, _, e3⟩ hc
        · exact h4
    · obtain ⟨fr2, h3, e2⟩ := putK_sound (bs := b0 ++ new) h
      obtain ⟨cs, h4⟩ := spures_sound hT hb0 g r h3
      rw [e2, e] at h4
      simp only [den] at h4
      by_cases hc : ∃ f args ts, o.op = .call ⟨.value (.func f), args, ts⟩
      · obtain ⟨f, args, ts, e3⟩ := hc
        refine ⟨.junk :: cs, ?_⟩
        simp only [pseq]
        rw [pv_off hg]
        simp only [e3, List.tail_cons]
        exact ⟨trivial, h4⟩
      · refine ⟨cs, ?_⟩
        simp only [pseq]
        rw [pv_off hg]
        refine ⟨trivial, ?_⟩
        split
        · rename_i e3; exact absurd ⟨_, _, _, e3⟩ hc
        · exact h4
theorem aliasK_sound : ∀ {al : List (Nat × Nat)} {fr : SFr} {k : SFr → Prop}, aliasK al fr k → ∃ fr', k fr' ∧ denF bs fr' = (denF bs fr).alias al
  | [], _, _, h => ⟨_, h, rfl⟩
  | (d, s) :: r, fr, k, h => by
    simp only [aliasK] at h
    rw [sgK_eq] at h
    obtain ⟨hn, h1⟩ := chk_iff.1 h
    obtain ⟨u, h2, e⟩ := splK_sound bs hn h1
    obtain ⟨fr', h3, e2⟩ := aliasK_sound h2
    refine ⟨fr', h3, ?_⟩
    rw [e2]
    simp only [denF, Fr.alias, Fr.put, rawOf_denF, e]
section
variable {P : Program} {fr : Fr} {Q Q' : Exit → Fr → AMem → Prop} {cd : Code}
theorem AWP.weak (hq : ∀ e fr m, Q e fr m → ∃ fr' m', Le fr' fr ∧ (∀ b o, m' b = some o → m b = some o) ∧ Q' e fr' m') (h : AWP P n cd Q fr m) : AWP P n cd Q' fr m := fun F lim w ca st =>
  wp_mono (h F lim w ca st) fun e _ _ ⟨l, f, mm, q, st', pr⟩ => by
    obtain ⟨f', m', h1, h2, h3⟩ := hq e f mm q
    exact ⟨l, f', m', h3, (St.less st' h1).memSub h2, pr⟩
theorem AWP.memLess {m' : AMem} (hs : ∀ b o, m' b = some o → m b = some o) (h : AWP P n cd Q fr m') : AWP P n cd Q fr m := fun F lim w ca st => h F lim w ca (st.memSub hs)
theorem AOps.slots (h : AOps P n ops l K fr m) : AOps P n ops l (fun f m => (∀ t x, f.get t = some x → t < n) ∧ K f m) fr m := fun F lim w ca QQ st hq =>
  h F lim w ca QQ st fun lim' w' f m' ca' hk st' pr => hq lim' w' f m' ca' ⟨fun t x hx => by obtain ⟨_, _, _, s⟩ := st'; exact (s.slots t x hx).1, hk⟩ st' pr
theorem get_keep_mem {f : Fr} {t : Nat} : ∀ {ks : List Nat}, t ∈ ks → (Fr.keep ks f).get t = some ((f.get t).getD .junk)
  | s :: r, h => by
    simp only [Fr.keep, List.map_cons, Fr.get]
    by_cases e : s = t
    · subst e; rw [if_pos rfl]
    · rw [if_neg e]
      rcases List.mem_cons.1 h with rfl | h
      · exact absurd rfl e
      · exact get_keep_mem (f := f) h
theorem keep_le {f : Fr} (hf : ∀ t x, f.get t = some x → t < n) : Le f (f.keep (List.range n)) := fun t x hx => by
  refine ⟨x, ?_, .inl rfl⟩
  rw [get_keep_mem (List.mem_range.2 (hf t x hx)), hx]; rfl
theorem okAll_range (h : okAll n ops [] = true) : okAll n ops (List.range n) = true := by
  simp only [okAll, Bool.and_eq_true, List.all_eq_true] at h ⊢
  exact ⟨h.1, fun t ht => by simpa using ht⟩
theorem awp_regX {id : Nat} (hk : okAll n ops [] = true) (h : AOps P n ops ops.toList (fun fr m => Q .normal fr m) fr m) : AWP P n (.region id ops false) Q fr m := by
  have := okAll_range hk
  simp only [okAll, Bool.and_eq_true] at this
  refine AWP.weak (Q := fun e f m => ∃ f', Le f' f ∧ Q e f' m) (fun e f m ⟨f', h1, h2⟩ => ⟨f', m, h1, fun _ _ h => h, h2⟩) (awp_region (List.range n) this.2 ?_)
  intro F lim w ca QQ st hq
  exact (AOps.slots h) F lim w ca QQ st fun lim' w' f m' ca' hk st' pr => hq lim' w' f m' ca' ⟨f, keep_le hk.1, hk.2⟩ st' pr
theorem awp_drawX {id : Nat} (hm : P.follows .mixedOrders = true) (p : Nat) (al : List (Nat × Nat)) (hk : okAll n ops [] = true) (hd : drawTail ops p al = true)
    (h : ∃ cs, pseq P ops m cs (ops.toList.take p) fr (fun fr' => AOps P n ops (ops.toList.drop p) (fun fr m => Q .normal fr m) (fr'.alias al) m)) : AWP P n (.region id ops true) Q fr m := by
  obtain ⟨cs, h⟩ := h
  refine AWP.weak (Q := fun e f m => ∃ f', Le f' f ∧ Q e f' m) (fun e f m ⟨f', h1, h2⟩ => ⟨f', m, h1, fun _ _ h => h, h2⟩) (awp_draw_tail0 hm p al cs (List.range n) (okAll_range hk) hd (pseq_mono _ (fun f h => ?_) h))
  intro F lim w ca QQ st hq
  exact (AOps.slots h) F lim w ca QQ st fun lim' w' f m' ca' hk st' pr => hq lim' w' f m' ca' ⟨f, keep_le hk.1, hk.2⟩ st' pr
end
def regOk (xs : List Nat) (n id : Nat) (ops : Array Oper) (draw : Bool) : Bool :=
  okAll n ops [] && (ops.toList.all stOk) && (!draw || has xs (id * 1000 + 999) || drawTail ops (pureN xs id ops.toList 0) (alOf (apSl ops.toList) (ops.toList.take (pureN xs id ops.toList 0))))
theorem sreg_sound {b0 new : List Nat} (hT : tabOk c.P c.T = true) (hm : c.P.follows .mixedOrders = true) (hb0 : c.bs = b0) (g : Good (b0 ++ new) L m) {id : Nat} {draw : Bool} (hr : regOk c.xs n id ops draw = true) {fr : SFr} {k : SK} {Q : Exit → Fr → AMem → Prop}
    (h : sreg c id ops.toList draw k fr L m) (hK : ∀ fr' L' m' nw, Good (b0 ++ nw) L' m' → k fr' L' m' → Q .normal (denF (b0 ++ nw) fr') (memD (b0 ++ nw) L' m')) : AWP c.P n (.region id ops draw) Q (denF (b0 ++ new) fr) (memD (b0 ++ new) L m) := by
  simp only [regOk, Bool.and_eq_true] at hr
  obtain ⟨⟨h1, h2⟩, h3⟩ := hr
  have hok : ∀ o ∈ ops.toList, okOper n o = true ∧ tmpsOk n o = true ∧ stOk o = true := fun o ho => by
    simp only [okAll, Bool.and_eq_true, List.all_eq_true] at h1
    rw [List.all_eq_true] at h2
    exact ⟨(h1.1 o ho).1, (h1.1 o ho).2, h2 o ho⟩
  cases draw with
  | false => exact awp_regX h1 (sops_sound hT hb0 _ hok g h hK)
  | true =>
    simp only [sreg] at h
    cases hx : has c.xs (id * 1000 + 999) with
    | true => rw [hx] at h; exact h.elim
    | false =>
    rw [hx] at h h3
    simp only [flK_eq] at h
    refine awp_drawX hm (pureN c.xs id ops.toList 0) (alOf (apSl ops.toList) (ops.toList.take (pureN c.xs id ops.toList 0))) h1 (by simpa using h3) ?_
    obtain ⟨cs, h4⟩ := spures_sound hT hb0 g _ h
    refine ⟨cs, pseq_mono _ (fun f hf => ?_) h4⟩
    obtain ⟨fr', rfl, h5⟩ := hf
    obtain ⟨fr2, h6, e⟩ := aliasK_sound (bs := b0 ++ new) h5
    rw [← e]
    exact sops_sound hT hb0 _ (fun o ho => hok o (List.mem_of_mem_drop ho)) g h6 hK
end
end Go.Sx
end
section
namespace Go.Sx
open Go Go.Aw
def cdOk (c : List Nat) (n : Nat) : Code → Bool
  | .region id ops draw => regOk c n id ops draw
  | .seq a b => cdOk c n a && cdOk c n b
  | .cond q x y => opdOk q && cdOk c n x && cdOk c n y
  | .block _ b => cdOk c n b
  | .loop b => cdOk c n b
  | .skip | .ret | .exit _ => true
  | _ => false
def SPost (bs : List Nat) (kn : SK) (kx : Nat → SK) (kr : SK) (e : Exit) (f : Fr) (mm : AMem) : Prop :=
  ∃ fr L m nw, Good (bs ++ nw) L m ∧ f = denF (bs ++ nw) fr ∧ mm = memD (bs ++ nw) L m ∧
    match e with
    | .normal => kn fr L m
    | .exit id => kx id fr L m
    | .ret => kr fr L m
    | _ => False
section
variable {c : Cfg} {n : Nat} {b0 : List Nat}
theorem SPost.mk0 {b0 new : List Nat} {kn : SK} {kx : Nat → SK} {kr : SK} {e : Exit} {fr : SFr} {L : List SObj} {m : AMem} (g : Good (b0 ++ new) L m) (h : match e with | .normal => kn fr L m | .exit id => kx id fr L m | .ret => kr fr L m | _ => False) : SPost b0 kn kx kr e (denF (b0 ++ new) fr) (memD (b0 ++ new) L m) :=
  ⟨fr, L, m, new, g, rfl, rfl, h⟩
theorem take_split {b0 new : List Nat} {n : Nat} (h : b0.length ≤ n) : (b0 ++ new).take n = b0 ++ new.take (n - b0.length) := by
  rw [List.take_append, List.take_of_length_le h]
theorem sgO_get (bs : List Nat) : ∀ {fr : SFr} {t : Nat} {v : SV}, sgO fr t = some v → (denF bs fr).get t = some (den bs v)
  | [], _, _, h => by cases h
  | (s, x) :: r, t, v, h => by
    simp only [sgO] at h
    simp only [denF, Fr.get]
    cases hb : Nat.beq s t with
    | true =>
      rw [hb] at h
      rw [if_pos (Nat.eq_of_beq_eq_true hb)]
      simp only [cond_true, Option.some.injEq] at h
      rw [h]
    | false =>
      rw [hb] at h
      have : ¬ s = t := by
        intro e
        subst e
        have : Nat.beq s s = true := Nat.beq_refl s
        rw [this] at hb
        cases hb
      rw [if_neg this]
      exact sgO_get bs h
theorem errS_den (bs : List Nat) (E : Nat) (v : SV) : den bs (errS E v) = (den bs v).toErr E := by
  unfold errS
  split
  · simp only [den, AV.plain, AV.toErr]
  · rename_i u e
    simp only [den, AV.plain, AV.toErr]
    cases hb : Nat.beq u E with
    | true =>
      obtain rfl := Nat.eq_of_beq_eq_true hb
      by_cases he : e = 0
      · subst he; simp [den, AV.plain]
      · simp [he, den, AV.plain]
    | false =>
      have : ¬ u = E := fun e => by subst e; rw [Nat.beq_refl] at hb; cases hb
      simp [this, den, AV.plain]
  · rename_i h1 h2
    cases v with
    | av x =>
      cases x with
      | nilIface => exact absurd rfl h1
      | iface u y =>
        simp only [den, AV.plain]
        cases y with
        | int k z => cases k <;> first | exact absurd rfl (h2 _ _) | simp only [AV.toErr]
        | _ => simp only [AV.toErr]
      | _ => simp only [den, AV.plain, AV.toErr]
    | _ => simp only [den, AV.toErr]
theorem errS_le (bs : List Nat) (E : Nat) (v : SV) : LeV (den bs (errS E v)) (den bs v) := by
  rw [errS_den]
  by_cases h : (den bs v).toErr E = den bs v
  · exact .inl h
  · right
    intro w lim u os hr
    have h2 := toErr_rep E hr
    have h3 := h2.plain
    have h4 : ((den bs v).toErr E).plain = (den bs v).toErr E := by
      generalize den bs v = x at h ⊢
      cases x with
      | nilIface => simp only [AV.toErr, AV.plain]
      | iface u y =>
        cases y with
        | int k z =>
          cases k <;> simp only [AV.toErr] at h ⊢ <;> first | (split <;> simp only [AV.plain]) | (simp only [AV.plain]; done) | exact absurd rfl h
        | _ => exact absurd rfl h
      | _ => exact absurd rfl h
    rw [h4] at h3
    exact h3
theorem nrm_le (bs : List Nat) (E : Nat) (md : List (Nat × Nat)) (t : Nat) (v : SV) : LeV (den bs (nrm E md t v)) (den bs v) := by
  unfold nrm
  split
  · cases md.any (fun p => Nat.beq p.1 t) with
    | true => exact .inl (by simp only [cond_true, den, SB.val])
    | false => exact .inl rfl
  · exact .inl (by simp only [den, SB.val])
  · cases md.any (fun p => Nat.beq p.1 t) with
    | true => exact .pl (by simp only [cond_true, den, AV.plain])
    | false => exact .inl rfl
  · exact .inl (by simp only [den, AV.plain, avL_den])
  · cases md.any (fun p => Nat.beq p.1 t) with
    | true => exact errS_le bs E _
    | false => exact .inl rfl
theorem kp_le (bs : List Nat) (E : Nat) (md : List (Nat × Nat)) : ∀ (ks : List Nat) (fr : SFr), Le (denF bs (kp E md ks fr)) (denF bs fr)
  | [], fr, t, x, h => by simp only [kp, denF, Fr.get] at h; cases h
  | s :: r, fr, t, x, h => by
    simp only [kp] at h
    cases hs : sgO fr s with
    | none => rw [hs] at h; exact kp_le bs E md r fr t x h
    | some v =>
      rw [hs] at h
      simp only [denF, Fr.get] at h
      by_cases e : s = t
      · subst e
        rw [if_pos rfl] at h
        refine ⟨_, sgO_get bs hs, ?_⟩
        have : den bs (nrm E md s v) = x := by simpa using h
        rw [← this]
        exact nrm_le bs E md s v
      · rw [if_neg e] at h
        exact kp_le bs E md r fr t x h
theorem nrmC_den (bs : List Nat) : ∀ (l : List SV), denL bs (nrmC l) = denL bs l
  | [] => rfl
  | v :: r => by cases v <;> simp only [nrmC, denL, den, SB.val, nrmC_den bs r]
theorem nrmO_den (bs : List Nat) (o : SObj) : denO bs (nrmO o) = denO bs o := by
  cases o with
  | cells l => simp only [nrmO, denO, nrmC_den]
  | obj o => rfl
theorem nrmM_den (bs : List Nat) : ∀ (L : List SObj), (nrmM L).map (denO bs) = L.map (denO bs)
  | [] => rfl
  | o :: r => by simp only [nrmM, List.map_cons, nrmO_den, nrmM_den bs r]
theorem nrmC_sc (n : Nat) : ∀ (l : List SV), scAll n (nrmC l) = scAll n l
  | [] => rfl
  | v :: r => by cases v <;> simp only [nrmC, scAll, sc1, nrmC_sc n r]
theorem nrmM_sc (n : Nat) : ∀ (L : List SObj), scM n (nrmM L) = scM n L
  | [] => rfl
  | .cells l :: r => by simp only [nrmM, nrmO, scM, scO, nrmC_sc, nrmM_sc n r]
  | .obj o :: r => by simp only [nrmM, nrmO, scM, scO, nrmM_sc n r]
theorem nrmM_len : ∀ (L : List SObj), (nrmM L).length = L.length
  | [] => rfl
  | o :: r => by simp only [nrmM, List.length_cons, nrmM_len r]
theorem fits_sound {md : List (Nat × Nat)} {ks : List Nat} {k : Nat} {fr : SFr} {L : List SObj} {m : AMem} {s : SS} {new : List Nat} (hb0 : c.bs = b0) (g : Good (b0 ++ new) L m) (h : fits c md ks k fr L m s) :
    Good (b0 ++ new.take (k - b0.length)) s.2.1 s.2.2 ∧ Le (denF (b0 ++ new.take (k - b0.length)) s.1) (denF (b0 ++ new) fr) ∧ (∀ b o, memD (b0 ++ new.take (k - b0.length)) s.2.1 s.2.2 b = some o → memD (b0 ++ new) L m b = some o) ∧ (b0 ++ new.take (k - b0.length)).length = k := by
  obtain ⟨h1, h2⟩ := h
  subst h1
  subst hb0
  simp only [Bool.and_eq_true] at h2
  obtain ⟨⟨⟨q1, q2⟩, q3⟩, q4⟩ := h2
  have l1 := Nat.le_of_ble_eq_true q3
  have l2 := Nat.le_of_ble_eq_true q4
  have hl := g.len
  have htk := take_split (new := new) l2
  have hlen : ((c.bs ++ new).take k).length = k := by rw [List.length_take]; omega
  rw [← htk]
  have hsplit : (c.bs ++ new) = (c.bs ++ new).take k ++ (c.bs ++ new).drop k := (List.take_append_drop _ _).symm
  have hmem : memD ((c.bs ++ new).take k) (nrmM (L.take k)) m = memD ((c.bs ++ new).take k) (L.take k) m := by simp only [memD, denM, nrmM_den]
  rw [nrmM_sc] at q2
  refine ⟨⟨?_, by rw [hlen, nrmM_len, List.length_take]; omega, fun b hb => g.fresh b (List.mem_of_mem_take hb)⟩, ?_, fun b o hb => ?_, hlen⟩
  · exact g.nd.sublist (List.take_sublist _ _)
  · have e : denF (c.bs ++ new) (kp c.E md ks fr) = denF ((c.bs ++ new).take k) (kp c.E md ks fr) := by
      conv => lhs; rw [hsplit]
      exact scF_den (by rw [hlen]; exact q1)
    rw [← e]
    exact kp_le _ _ _ ks fr
  · simp only at hb
    rw [hmem] at hb
    have hsub : ∀ (A : List (Nat × AObj)) (mm : AMem), (A.map Prod.fst).Nodup → ∀ b o, mm.wth A b = some o → (∃ i, A[i]? = some (b, o)) ∨ (b ∉ A.map Prod.fst ∧ mm b = some o) := fun A mm hN b o hb => by
      by_cases hm : b ∈ A.map Prod.fst
      · left
        obtain ⟨i, hi⟩ := List.getElem?_of_mem hm
        rw [List.getElem?_map] at hi
        cases hA : A[i]? with
        | none => rw [hA] at hi; cases hi
        | some p =>
          rw [hA] at hi
          obtain ⟨b', o'⟩ := p
          simp only [Option.map_some, Option.some.injEq] at hi
          subst hi
          have := wth_get (m := mm) i hN hA
          rw [this] at hb
          simp only [Option.some.injEq] at hb
          subst hb
          exact ⟨i, hA⟩
      · right
        rw [wth_other hm] at hb
        exact ⟨hm, hb⟩
    have hN2 : ((denM ((c.bs ++ new).take k) (L.take k)).map Prod.fst).Nodup := by
      rw [denM_fst (by rw [hlen, List.length_take]; omega)]
      exact g.nd.sublist (List.take_sublist _ _)
    rcases hsub _ m hN2 b o hb with ⟨i, hi⟩ | ⟨h3, h4⟩
    · have hik : i < k := by
        rcases Nat.lt_or_ge i k with h | h
        · exact h
        · rw [List.getElem?_eq_none] at hi
          · cases hi
          · simp only [denM, List.length_zip, hlen, List.length_map, List.length_take]; omega
      refine wth_get i g.nodup ?_
      have e : (L.take k).map (denO (c.bs ++ new)) = (L.take k).map (denO ((c.bs ++ new).take k)) := by
        conv => lhs; rw [hsplit]
        exact scM_den (by rw [hlen]; exact q2)
      have hz : denM ((c.bs ++ new).take k) (L.take k) = (denM (c.bs ++ new) L).take k := by
        simp only [denM, ← e, List.map_take, List.zip, List.take_zipWith]
      rw [hz, List.getElem?_take_of_lt hik] at hi
      exact hi
    · by_cases hm : b ∈ (c.bs ++ new)
      · rw [g.fresh b hm] at h4; cases h4
      · rw [memD, wth_other (by rw [denM_fst g.len]; exact hm)]
        exact h4
theorem sg_none {bs : List Nat} {t : Nat} : ∀ {fr : SFr}, (denF bs fr).get t = none → sg fr t = .av .junk
  | [], _ => rfl
  | (s, x) :: r, hg => by
    simp only [denF, Fr.get] at hg
    by_cases e : s = t
    · rw [if_pos e] at hg; cases hg
    · rw [if_neg e] at hg
      have hb : Nat.beq s t = false := by
        cases hb : Nat.beq s t with
        | false => rfl
        | true => exact absurd (Nat.eq_of_beq_eq_true hb) e
      simp only [sg, hb, cond_false]
      exact sg_none hg
set_option maxHeartbeats 2000000 in
theorem wreg_sound (hT : tabOk c.P c.T = true) (hm : c.P.follows .mixedOrders = true) (hb0 : c.bs = b0) {id : Nat} {ops : Array Oper} {draw : Bool} {kn : SK} {kx : Nat → SK} {kr : SK} {fr : SFr} {L : List SObj} {m : AMem} {new : List Nat} (g : Good (b0 ++ new) L m) (hk : regOk c.xs n id ops draw = true)
    (h : wreg c id ops.toList draw kn fr L m) : AWP c.P n (.region id ops draw) (SPost b0 kn kx kr) (denF (b0 ++ new) fr) (memD (b0 ++ new) L m) := by
  simp only [wreg] at h
  have key : sreg c id ops.toList draw kn fr L m → AWP c.P n (.region id ops draw) (SPost b0 kn kx kr) (denF (b0 ++ new) fr) (memD (b0 ++ new) L m) := fun h =>
    sreg_sound hT hm hb0 g hk h fun fr' L' m' nw g' hk => ⟨fr', L', m', nw, g', rfl, rfl, hk⟩
  have keyJ : SJoin (fun kn fr L m => sreg c id ops.toList draw kn fr L m) kn fr L m → AWP c.P n (.region id ops draw) (SPost b0 kn kx kr) (denF (b0 ++ new) fr) (memD (b0 ++ new) L m) := fun h => by
    obtain ⟨J, h1, h2⟩ := h
    refine AWP.weak (fun e f mm hp => ?_) (sreg_sound (Q := SPost b0 J kx kr) hT hm hb0 g hk h2 fun fr' L' m' nw g' hk => ⟨fr', L', m', nw, g', rfl, rfl, hk⟩)
    obtain ⟨fr', L', m', nw, g', rfl, rfl, h'⟩ := hp
    cases e with
    | normal =>
      obtain ⟨md, t, e, ks, ⟨q, hq, he⟩, hB⟩ := h1 _ _ _ h'
      refine ⟨denF (b0 ++ nw) ((t, .b (.raw e)) :: kp 0 md ks fr'), _, ?_, fun _ _ h => h, SPost.mk0 (kn := kn) (kx := kx) (kr := kr) (e := .normal) g' hB⟩
      intro s x hx
      simp only [denF, Fr.get] at hx
      by_cases es : t = s
      · subst es
        rw [if_pos rfl] at hx
        refine ⟨_, sgO_get _ hq, .inl ?_⟩
        have : den (b0 ++ nw) (.b (.raw e)) = x := by simpa using hx
        rw [← this]
        simp only [den, SB.val, he]
      · rw [if_neg es] at hx
        exact kp_le _ 0 md ks fr' s x hx
    | exit id => exact ⟨_, _, Le.refl _, fun _ _ h => h, SPost.mk0 (kn := kn) (kx := kx) (kr := kr) (e := .exit id) g' h'⟩
    | ret => exact ⟨_, _, Le.refl _, fun _ _ h => h, SPost.mk0 (kn := kn) (kx := kx) (kr := kr) (e := .ret) g' h'⟩
    | _ => exact h'.elim
  have keyT : ∀ p : Prop, (p → AWP c.P n (.region id ops draw) (SPost b0 kn kx kr) (denF (b0 ++ new) fr) (memD (b0 ++ new) L m)) → Told fr p → AWP c.P n (.region id ops draw) (SPost b0 kn kx kr) (denF (b0 ++ new) fr) (memD (b0 ++ new) L m) := fun p hp h => by
    intro F lim w ca st
    refine hp (h.h fun t => ?_) F lim w ca st
    clear hp h keyJ key hk
    cases hg : (denF (b0 ++ new) fr).get t with
    | none =>
      have : sg fr t = .av .junk := sg_none hg
      rw [this]
      simp only [bdS, AV.plain, bdA, bd1]
    | some x =>
      have hx : den (b0 ++ new) (sg fr t) = x := by rw [← rawOf_denF, rawOf, hg]; rfl
      obtain ⟨os, om, ow, hs⟩ := st
      have hr := (hs.slots t x hg).2
      rw [← hx] at hr
      cases hv : sg fr t with
      | av y =>
        rw [hv] at hr
        cases y with
        | int kd z =>
          simp only [den, AV.plain] at hr
          exact (rep_int_inv hr).2
        | slice o l =>
          simp only [den, AV.plain] at hr
          exact ⟨rep_bdA hr, rep_bdL hr⟩
        | _ =>
          have hb := rep_bdA hr
          simp only [den] at hb
          exact hb
      | own l =>
        rw [hv] at hr
        simp only [den] at hr
        exact ⟨rep_bdA hr, rep_bdL hr⟩
      | _ => simp only [bdS]
  cases hs : has c.st id with
  | false =>
    cases hj : has c.jr id with
    | false => rw [hs, hj] at h; exact key h
    | true => rw [hs, hj] at h; exact keyJ h
  | true =>
    cases hj : has c.jr id with
    | false => rw [hs, hj] at h; exact keyT _ key h
    | true => rw [hs, hj] at h; exact keyT _ keyJ h
set_option maxHeartbeats 2000000 in
theorem wpc_sound (hT : tabOk c.P c.T = true) (hm : c.P.follows .mixedOrders = true) (hb0 : c.bs = b0) : ∀ (cd : Code) {kn : SK} {kx : Nat → SK} {kr : SK} {fr : SFr} {L : List SObj} {m : AMem} {new : List Nat}, Good (b0 ++ new) L m → cdOk c.xs n cd = true →
    wpc c cd kn kx kr fr L m → AWP c.P n cd (SPost b0 kn kx kr) (denF (b0 ++ new) fr) (memD (b0 ++ new) L m)
  | .skip, kn, kx, kr, fr, L, m, new, g, _, h => awp_skip (SPost.mk0 g h)
  | .ret, kn, kx, kr, fr, L, m, new, g, _, h => awp_ret (SPost.mk0 g h)
  | .exit id, kn, kx, kr, fr, L, m, new, g, _, h => awp_exit (SPost.mk0 g h)
  | .region id ops draw, kn, kx, kr, fr, L, m, new, g, hk, h => by
    simp only [cdOk] at hk
    rw [wpc_region] at h
    cases hv : has c.cv id with
    | false =>
      rw [hv] at h
      exact wreg_sound hT hm hb0 g hk h
    | true =>
      rw [hv] at h
      subst hb0
      rcases h.h with h | h
      · refine h.h new g n _ _ fun fr' L' m' bs' hp g' h' => ?_
        obtain ⟨nw, rfl⟩ := hp
        exact wreg_sound hT hm rfl g' hk h'
      · simp only [regOk, Bool.and_eq_true] at hk
        refine h.h new g n _ hk.1.1 fun fr' L' m' bs' hp g' h' => ?_
        obtain ⟨nw, rfl⟩ := hp
        exact SPost.mk0 (kn := kn) (kx := kx) (kr := kr) (e := .normal) g' h'
  | .seq a b, kn, kx, kr, fr, L, m, new, g, hk, h => by
    simp only [cdOk, Bool.and_eq_true] at hk
    rw [wpc_seq] at h
    refine awp_seq ?_
    cases hi : isReg a with
    | true =>
      rw [hi] at h
      refine AWP.mono (wpc_sound hT hm hb0 a g hk.1 h) fun e f mm hp => ?_
      obtain ⟨fr', L', m', nw, g', rfl, rfl, h'⟩ := hp
      cases e with
      | normal =>
        exact wpc_sound hT hm hb0 b g' hk.2 h'
      | exit id => exact SPost.mk0 (kn := kn) (kx := kx) (kr := kr) (e := .exit id) g' h'
      | ret => exact SPost.mk0 (kn := kn) (kx := kx) (kr := kr) (e := .ret) g' h'
      | _ => exact h'.elim
    | false =>
      rw [hi] at h
      obtain ⟨J, h1, h2⟩ := h
      refine AWP.mono (wpc_sound hT hm hb0 a g hk.1 h2) fun e f mm hp => ?_
      obtain ⟨fr', L', m', nw, g', rfl, rfl, h'⟩ := hp
      cases e with
      | normal =>
        rcases h1 _ _ _ h' with h3 | ⟨md, ks, k, s, h3, h4⟩
        · exact wpc_sound hT hm hb0 b g' hk.2 h3
        · obtain ⟨g1, hle, hsub, _⟩ := fits_sound hb0 g' h3
          exact AWP.less hle (AWP.memLess hsub (wpc_sound hT hm hb0 b g1 hk.2 h4))
      | exit id => exact SPost.mk0 (kn := kn) (kx := kx) (kr := kr) (e := .exit id) g' h'
      | ret => exact SPost.mk0 (kn := kn) (kx := kx) (kr := kr) (e := .ret) g' h'
      | _ => exact h'.elim
  | .cond q x y, kn, kx, kr, fr, L, m, new, g, hk, h => by
    simp only [cdOk, Bool.and_eq_true] at hk
    rw [wpc_cond] at h
    obtain ⟨v, h1, e⟩ := opK_sound (b0 ++ new) h
    split at h1
    · rename_i s
      obtain ⟨w1, w2⟩ := s.ways_sound h1
      simp only [den] at e
      exact awp_cond (b := s.val) (by rw [← evP_eq, ← e]) hk.1.1 (fun hv => wpc_sound hT hm hb0 x g hk.1.2 (w1 hv)) (fun hv => wpc_sound hT hm hb0 y g hk.2 (w2 hv))
    · exact h1.elim
  | .block id body, kn, kx, kr, fr, L, m, new, g, hk, h => by
    simp only [cdOk] at hk
    rw [wpc_block] at h
    refine awp_block ?_
    refine AWP.mono (wpc_sound hT hm hb0 body g hk h) fun e f mm hp => ?_
    obtain ⟨fr', L', m', nw, g', rfl, rfl, h'⟩ := hp
    cases e with
    | normal => exact SPost.mk0 (kn := kn) (kx := kx) (kr := kr) (e := .normal) g' h'
    | exit j =>
      simp only [AInBlock]
      simp only at h'
      by_cases ej : j = id
      · subst ej
        rw [Nat.beq_refl] at h'
        rw [if_pos rfl]
        exact SPost.mk0 (kn := kn) (kx := kx) (kr := kr) (e := .normal) g' h'
      · rw [if_neg ej]
        have : Nat.beq j id = false := by
          cases hb : Nat.beq j id with
          | false => rfl
          | true => exact absurd (Nat.eq_of_beq_eq_true hb) ej
        rw [this] at h'
        exact SPost.mk0 (kn := kn) (kx := kx) (kr := kr) (e := .exit j) g' h'
    | ret => exact SPost.mk0 (kn := kn) (kx := kx) (kr := kr) (e := .ret) g' h'
    | _ => exact h'.elim
  | .loop body, kn, kx, kr, fr, L, m, new, g, hk, h => by
    simp only [cdOk] at hk
    rw [wpc_loop] at h
    obtain ⟨σ, S, I, μ, md, ks, k, x0, h0, hI, h1⟩ := h
    obtain ⟨g1, hle, hsub, hlen⟩ := fits_sound hb0 g h0
    refine AWP.less hle (AWP.memLess hsub ?_)
    · refine awp_loop_st (σ := σ × List Nat) (fun x => denF (b0 ++ x.2) (S x.1).1) (fun x => memD (b0 ++ x.2) (S x.1).2.1 (S x.1).2.2) (fun x => I x.1 ∧ Good (b0 ++ x.2) (S x.1).2.1 (S x.1).2.2) (fun x => μ x.1) ⟨x0, new.take (k x0 - b0.length)⟩ rfl rfl ⟨hI, g1⟩ fun x hx => ?_
      have h2 := h1 x.1 hx.1
      rw [flK_eq, flK_eq] at h2
      refine AWP.weak (fun e f mm hp => ?_) (wpc_sound hT hm hb0 body hx.2 hk h2)
      obtain ⟨fr', L', m', nw, g', rfl, rfl, h'⟩ := hp
      cases e with
      | normal =>
        obtain ⟨x', f1, f2, f3⟩ := h'
        obtain ⟨g2, hle2, hsub2, hlen2⟩ := fits_sound hb0 g' f1
        exact ⟨_, _, hle2, hsub2, ⟨x', nw.take (k x' - b0.length)⟩, rfl, rfl, ⟨f2, g2⟩, f3⟩
      | exit id => exact ⟨_, _, Le.refl _, fun _ _ h => h, SPost.mk0 (kn := kn) (kx := kx) (kr := kr) (e := .exit id) g' h'⟩
      | ret => exact ⟨_, _, Le.refl _, fun _ _ h => h, SPost.mk0 (kn := kn) (kx := kx) (kr := kr) (e := .ret) g' h'⟩
      | _ => exact h'.elim
  | .scope _, _, _, _, _, _, _, _, _, hk, _ => by cases hk
  | .label _, _, _, _, _, _, _, _, _, hk, _ => by cases hk
  | .goto _, _, _, _, _, _, _, _, _, hk, _ => by cases hk
  | .refuse _, _, _, _, _, _, _, _, _, hk, _ => by cases hk
  | .rangeFunc _ _ _ _, _, _, _, _, _, _, _, _, hk, _ => by cases hk
end
end Go.Sx
end
section
namespace Go.Sx
open Go Go.Aw
section
variable {c : Cfg} {n : Nat} {b : List Nat} {fr : SFr} {L : List SObj} {m : AMem}
theorem resK1_sound (hT : tabOk c.P c.T = true) (g : Good b L m) {r : ResultVar} {k : SV → Prop} (h : resK1 c.T fr L r k) : ∃ v side x, k v ∧ resOf c.P (denF b fr) (memD b L m) r = some (side, x) ∧ side ∧ x = den b v := by
  cases r with
  | tmp t =>
    simp only [resK1] at h
    rw [sgK_eq] at h
    exact ⟨_, True, _, h, by simp only [resOf, rawOf_denF], trivial, rfl⟩
  | cell a t =>
    simp only [resK1] at h
    rw [sgK_eq] at h
    have hr := rawOf_denF b fr a
    cases hv : sg fr a with
    | loc i off =>
      rw [hv] at h hr
      simp only [den] at h hr
      cases ho : nth L i with
      | none => rw [ho] at h; exact h.elim
      | some o =>
        rw [ho] at h
        cases o with
        | obj o => exact h.elim
        | cells l =>
          obtain ⟨ti, tf, h⟩ := tg hT h
          rw [nth_eq] at ho
          have hm := mem_get g ho
          have hq : resOf c.P (denF b fr) (memD b L m) (.cell a t) = some (apartOk c.P t (denL b l) off, (apart c.P t (denL b l) off).plain) := by simp only [resOf, hr, hm, denO]
          cases hst : ti.k.isSt with
          | true =>
            rw [hst] at h
            obtain ⟨hb, h⟩ := chk_iff.1 h
            obtain ⟨u, h, hu⟩ := cellsK_sound b h
            exact ⟨_, _, _, h, hq, apartOk_st tf hst (by rw [denL_len]; exact Nat.le_of_ble_eq_true hb), by rw [apart_st tf hst]; simp only [den, AV.plain, hu, denL_take, denL_drop]⟩
          | false =>
            rw [hst] at h
            simp only at h
            cases hn : nth l off with
            | none => rw [hn] at h; exact h.elim
            | some v =>
              rw [hn] at h
              obtain ⟨u, h, hu⟩ := cellK_sound b h
              obtain ⟨e2, hlt⟩ := denL_getD (bs := b) hn
              exact ⟨_, _, _, h, hq, apartOk_1 tf hst hlt, by rw [apart_one tf hst, e2, hu]⟩
    | _ => rw [hv] at h; exact h.elim
theorem resKL_sound (hT : tabOk c.P c.T = true) {b0 new : List Nat} (hb0 : c.bs = b0) (g : Good (b0 ++ new) L m) {fn : Func} (h4 : fn.results.toList.length ≤ 4) {K : AV → AMem → Prop} (h : resKL c.T fr L fn.results.toList fun vs => SRet c K vs L m) : resK c.P fn (denF (b0 ++ new) fr) (memD (b0 ++ new) L m) K := by
  subst hb0
  unfold resK
  generalize fn.results.toList = rs at h h4 ⊢
  match rs, h with
  | [], h =>
    obtain ⟨m', h1, h2⟩ := h.h new g
    exact ⟨m', h1, h2⟩
  | [r], h =>
    obtain ⟨v, sd, x, h, e1, s1, rfl⟩ := resK1_sound hT g h
    obtain ⟨m', h1, h2⟩ := h.h new g
    simp only [e1]
    exact ⟨s1, m', h1, h2⟩
  | [r, s], h =>
    obtain ⟨v, sd, x, h, e1, s1, rfl⟩ := resK1_sound hT g h
    obtain ⟨v2, sd2, x2, h, e2, s2, rfl⟩ := resK1_sound hT g h
    obtain ⟨m', h1, h2⟩ := h.h new g
    simp only [e1, e2]
    exact ⟨s1, s2, m', h1, h2⟩
  | [r, s, t], h =>
    obtain ⟨v, sd, x, h, e1, s1, rfl⟩ := resK1_sound hT g h
    obtain ⟨v2, sd2, x2, h, e2, s2, rfl⟩ := resK1_sound hT g h
    obtain ⟨v3, sd3, x3, h, e3, s3, rfl⟩ := resK1_sound hT g h
    obtain ⟨m', h1, h2⟩ := h.h new g
    simp only [e1, e2, e3]
    exact ⟨s1, s2, s3, m', h1, h2⟩
  | [r, s, t, u], h =>
    obtain ⟨v, sd, x, h, e1, s1, rfl⟩ := resK1_sound hT g h
    obtain ⟨v2, sd2, x2, h, e2, s2, rfl⟩ := resK1_sound hT g h
    obtain ⟨v3, sd3, x3, h, e3, s3, rfl⟩ := resK1_sound hT g h
    obtain ⟨v4, sd4, x4, h, e4, s4, rfl⟩ := resK1_sound hT g h
    obtain ⟨m', h1, h2⟩ := h.h new g
    simp only [e1, e2, e3, e4]
    exact ⟨s1, s2, s3, s4, m', h1, h2⟩
  | r :: s :: t :: u :: q :: rest, h => simp at h4
theorem has_contains : ∀ (l : List Nat) (t : Nat), has l t = l.contains t
  | [], t => rfl
  | x :: r, t => by
    simp only [has, List.contains_cons]
    cases hb : Nat.beq x t with
    | true => obtain rfl := Nat.eq_of_beq_eq_true hb; simp
    | false =>
      have : ¬ t = x := fun e => by subst e; rw [Nat.beq_refl] at hb; cases hb
      simp [this, has_contains r t]
theorem errF_den (E : Nat) (ts : List Nat) : ∀ (fr : SFr), denF b (errF E ts fr) = Fr.toErr E ts (denF b fr)
  | [] => rfl
  | (t, v) :: r => by
    simp only [errF, denF, Fr.toErr, List.map_cons, has_contains]
    have := errF_den E ts r
    simp only [Fr.toErr] at this
    rw [this]
    cases hc : ts.contains t <;> simp [errS_den]
theorem awp_postErr {P : Program} {cd : Code} {Q Q' : Exit → Fr → AMem → Prop} {f : Fr} {mm : AMem} (E : Nat) (ts : List Nat) (hq : ∀ e f m, Q e f m → Q' e f m ∨ Q' e (f.toErr E ts) m) (h : AWP P n cd Q f mm) : AWP P n cd Q' f mm := fun F lim w ca st =>
  wp_mono (h F lim w ca st) fun e _ _ ⟨l, f, mm, q, st', pr⟩ => by
    rcases hq e f mm q with q | q
    · exact ⟨l, f, mm, q, st', pr⟩
    · refine ⟨l, _, mm, q, st'.conv fun t x' hx => ?_, pr⟩
      rw [Fr.get_toErr] at hx
      cases hc : ts.contains t with
      | false => rw [hc] at hx; exact ⟨x', by simpa using hx, fun _ _ h => h⟩
      | true =>
        rw [hc] at hx
        simp only [if_true] at hx
        cases hg : f.get t with
        | none => rw [hg] at hx; cases hx
        | some y =>
          rw [hg] at hx
          simp only [Option.map_some, Option.some.injEq] at hx
          subst hx
          exact ⟨y, rfl, fun v os h => toErr_rep E h⟩
def fnOk (c : List Nat) (fn : Func) (cd : Code) (k : Nat) : Bool := !(fn.name == "runtime.NumGoroutine") && Nat.ble k fn.ntmps && cdOk c fn.ntmps cd && Nat.ble fn.results.size 4
theorem initF_den (b : List Nat) : ∀ (i : Nat) (vs : List SV), denF b (initF i vs) = Fr.init i (denL b vs)
  | _, [] => by simp only [initF, denF, denL, Fr.init]
  | i, v :: r => by simp only [initF, denF, denL, Fr.init, initF_den b (i + 1) r]
theorem enter {f : FuncId} {fn : Func} {cd : Code} {vs : List SV} {K : AV → AMem → Prop} (e : Bool) (hT : tabOk c.P c.T = true) (hm : c.P.follows .mixedOrders = true) (hf : c.P.funcs[f]? = some fn) (hb : fn.body = some cd) {k : Nat} (hok : fnOk c.xs fn cd k = true) (hl : vs.length = k) (g : Good c.bs L m)
    (h : wpc c cd (sret c false fn.results.toList K) (fun _ _ _ _ => False) (sret c e fn.results.toList K) (initF 0 vs) L m) : ACalls c.P f (denL c.bs vs) (memD c.bs L m) K := by
  simp only [fnOk, Bool.and_eq_true, Bool.not_eq_true'] at hok
  obtain ⟨⟨⟨o1, o2⟩, o3⟩, o4⟩ := hok
  refine acalls_enter hf hb o1 (by rw [denL_len, hl]; exact Nat.le_of_ble_eq_true o2) ?_
  have := wpc_sound (b0 := c.bs) (new := []) hT hm rfl cd (by rw [List.append_nil]; exact g) o3 h
  rw [List.append_nil, initF_den] at this
  refine awp_postErr c.E (resT fn.results.toList) (fun ex f mm hp => ?_) this
  obtain ⟨fr', L', m', nw, g', rfl, rfl, h'⟩ := hp
  cases ex with
  | normal => exact .inl (resKL_sound hT rfl g' (by simpa using Nat.le_of_ble_eq_true o4) h')
  | exit id => exact h'.elim
  | ret =>
    simp only [sret] at h'
    cases e with
    | false => exact .inl (resKL_sound hT rfl g' (by simpa using Nat.le_of_ble_eq_true o4) h')
    | true =>
      simp only at h'
      rw [flK_eq] at h'
      right
      rw [← errF_den]
      exact resKL_sound hT rfl g' (by simpa using Nat.le_of_ble_eq_true o4) h'
  | _ => exact h'.elim
theorem rt {K : AV → AMem → Prop} {vs : List SV} (hs : (scM c.bs.length (L.take c.bs.length) && Nat.ble c.bs.length L.length) = true) (h : ∀ new, K (retV (c.bs ++ new) vs) (memD c.bs (L.take c.bs.length) m)) : SRet c K vs L m := ⟨fun new g => by
  simp only [Bool.and_eq_true] at hs
  have := fits_sound (c := c) (md := []) (ks := []) (k := c.bs.length) (fr := []) (s := ([], nrmM (L.take c.bs.length), m)) rfl g ⟨rfl, by simp only [scF, Bool.true_and, Bool.and_eq_true, nrmM_sc]; exact ⟨⟨hs.1, hs.2⟩, Nat.ble_eq_true_of_le (Nat.le_refl _)⟩⟩
  simp only [Nat.sub_self, List.take_zero, List.append_nil] at this
  have hmem : memD c.bs (nrmM (L.take c.bs.length)) m = memD c.bs (L.take c.bs.length) m := by simp only [memD, denM, nrmM_den]
  rw [hmem] at this
  exact ⟨_, this.2.2.1, h new⟩⟩
theorem rt0 {K : AV → AMem → Prop} {vs : List SV} (hb : c.bs = []) (h : ∀ new, K (retV new vs) m) : SRet c K vs L m := ⟨fun new g => by
  rw [hb, List.nil_append] at g ⊢
  refine ⟨m, fun b o hbo => ?_, h new⟩
  by_cases hm : b ∈ new
  · rw [g.fresh b hm] at hbo; cases hbo
  · rw [memD, wth_other (by rw [denM_fst g.len]; exact hm)]
    exact hbo⟩
theorem call0 {b0 : List Nat} {P : Program} {f : FuncId} {vs : List SV} {x : AV} {Q : SV → List SObj → AMem → Prop} (h : ∀ bs (mm : AMem) (K : AV → AMem → Prop), K x mm → ACalls P f (denL bs vs) mm K) (hp : x.plain = x) (hQ : Q (svOf x) L m) : SCall P b0 f vs fr L m Q :=
  .one (svOf x) L m (fun new _ K hK => h _ _ K (by
    have := hK []
    simp only [List.append_nil, den_svOf, hp] at this
    exact this (by assumption))) (by rw [Nat.beq_refl]; rfl) hQ
theorem pure0 {b0 : List Nat} {P : Program} {f : FuncId} {vs : List SV} {x : AV} {Q : SV → Prop} (h : ∀ bs (mm : AMem) (K : AV → AMem → Prop), K x mm → ACalls P f (denL bs vs) mm K) (hQ : Q (svOf x)) : SPure P b0 f vs L m Q :=
  ⟨svOf x, fun new _ => ⟨x, fun K hK => h _ _ K hK, by rw [den_svOf]⟩, hQ⟩
theorem an {p q : Prop} (hp : p) (hq : q) : p ∧ q := ⟨hp, hq⟩
theorem Good.nil (m : AMem) : Good [] [] m := ⟨List.nodup_nil, rfl, fun _ h => by cases h⟩
structure Gd (bs : List Nat) (m : AMem) : Prop where
  nd : bs.Nodup
  fresh : ∀ b ∈ bs, m b = none
theorem Gd.good {bs : List Nat} (g : Gd bs m) (h : bs.length = L.length) : Good bs L m := ⟨g.nd, h, g.fresh⟩
theorem Gd.nil (m : AMem) : Gd [] m := ⟨List.nodup_nil, fun _ h => by cases h⟩
def blks (bs : List Nat) : List Nat → List Nat
  | [] => []
  | i :: r => bs.getD i 0 :: blks bs r
def getL (L : List SObj) : List Nat → List SObj
  | [] => []
  | i :: r =>
    match nth L i with
    | some o => o :: getL L r
    | none => .obj (.cells []) :: getL L r
def setL : List SObj → List Nat → List SObj → List SObj
  | L, [], _ => L
  | L, _ :: _, [] => L
  | L, i :: r, o :: os => setL (L.set i o) r os
def pk (bs : List Nat) (is : List Nat) (os : List SObj) : List (Nat × AObj) := (blks bs is).zip (os.map (denO bs))
def isOk (n : Nat) : List Nat → Bool
  | [] => true
  | i :: r => Nat.ble (i + 1) n && !(has r i) && isOk n r
theorem has_mem : ∀ {l : List Nat} {t : Nat}, has l t = true ↔ t ∈ l
  | [], t => by simp [has]
  | x :: r, t => by
    simp only [has, List.mem_cons]
    cases hb : Nat.beq x t with
    | true => obtain rfl := Nat.eq_of_beq_eq_true hb; simp
    | false =>
      have : ¬ t = x := fun e => by subst e; rw [Nat.beq_refl] at hb; cases hb
      simp [this, has_mem (l := r)]
theorem blks_len (bs : List Nat) : ∀ (is : List Nat), (blks bs is).length = is.length
  | [] => rfl
  | i :: r => by simp only [blks, List.length_cons, blks_len bs r]
theorem getL_len (L : List SObj) : ∀ (is : List Nat), (getL L is).length = is.length
  | [] => rfl
  | i :: r => by
    simp only [getL]
    split <;> simp only [List.length_cons, getL_len L r]
theorem getD_inj {bs : List Nat} (h : bs.Nodup) {i j : Nat} (hi : i < bs.length) (hj : j < bs.length) (e : bs.getD i 0 = bs.getD j 0) : i = j := by
  rw [List.getD_eq_getElem?_getD, List.getD_eq_getElem?_getD, List.getElem?_eq_getElem hi, List.getElem?_eq_getElem hj] at e
  exact (List.getElem_inj h).1 e
theorem blks_mem {bs : List Nat} : ∀ {is : List Nat} {b : Nat}, b ∈ blks bs is → ∃ i ∈ is, b = bs.getD i 0
  | [], _, h => by cases h
  | i :: r, b, h => by
    simp only [blks, List.mem_cons] at h
    rcases h with rfl | h
    · exact ⟨i, List.mem_cons_self .., rfl⟩
    · obtain ⟨j, hj, e⟩ := blks_mem h
      exact ⟨j, List.mem_cons_of_mem _ hj, e⟩
theorem mem_blks {bs : List Nat} : ∀ {is : List Nat} {i : Nat}, i ∈ is → bs.getD i 0 ∈ blks bs is
  | [], _, h => by cases h
  | a :: r, i, h => by
    simp only [blks, List.mem_cons]
    rcases List.mem_cons.1 h with rfl | h
    · exact .inl rfl
    · exact .inr (mem_blks h)
theorem isOk_lt {n : Nat} : ∀ {is : List Nat}, isOk n is = true → (∀ i ∈ is, i < n) ∧ is.Nodup
  | [], _ => ⟨by simp, List.nodup_nil⟩
  | i :: r, h => by
    simp only [isOk, Bool.and_eq_true, Bool.not_eq_true'] at h
    obtain ⟨⟨h1, h2⟩, h3⟩ := h
    obtain ⟨h4, h5⟩ := isOk_lt h3
    refine ⟨fun j hj => ?_, ?_⟩
    · rcases List.mem_cons.1 hj with rfl | hj
      · exact Nat.le_of_ble_eq_true h1
      · exact h4 j hj
    · rw [List.nodup_cons]
      refine ⟨fun hm => ?_, h5⟩
      rw [has_mem.2 hm] at h2; cases h2
theorem blks_nodup {bs : List Nat} (hn : bs.Nodup) : ∀ {is : List Nat}, isOk bs.length is = true → (blks bs is).Nodup
  | [], _ => List.nodup_nil
  | i :: r, h => by
    have h0 := isOk_lt h
    simp only [isOk, Bool.and_eq_true, Bool.not_eq_true'] at h
    obtain ⟨⟨h1, h2⟩, h3⟩ := h
    simp only [blks, List.nodup_cons]
    refine ⟨fun hm => ?_, blks_nodup hn h3⟩
    obtain ⟨j, hj, e⟩ := blks_mem hm
    have := getD_inj hn (h0.1 i (List.mem_cons_self ..)) (h0.1 j (List.mem_cons_of_mem _ hj)) e
    subst this
    exact (List.nodup_cons.1 h0.2).1 hj
theorem setL_len : ∀ {is : List Nat} {L os : List SObj}, (setL L is os).length = L.length
  | [], _, _ => by simp only [setL]
  | _ :: _, _, [] => by simp only [setL]
  | i :: r, L, o :: os => by rw [setL, setL_len, List.length_set]
def restM (mm : AMem) (S : List Nat) : AMem := fun b => if b ∈ S then none else mm b
theorem pk_get {bs : List Nat} {is : List Nat} {os : List SObj} {mm : AMem} (hN : (blks bs is).Nodup) (hl : is.length = os.length) {j i : Nat} {o : SObj} (hj : is[j]? = some i) (ho : os[j]? = some o) : mm.wth (pk bs is os) (bs.getD i 0) = some (denO bs o) := by
  have hb : (blks bs is)[j]? = some (bs.getD i 0) := by
    clear hN hl ho
    induction is generalizing j with
    | nil => cases hj
    | cons a r ih =>
      cases j with
      | zero => simp only [List.getElem?_cons_zero, Option.some.injEq] at hj; subst hj; rfl
      | succ j => simp only [blks, List.getElem?_cons_succ] at hj ⊢; exact ih hj
  refine wth_get j ?_ ?_
  · rw [pk, List.map_fst_zip (by rw [blks_len, List.length_map]; omega)]; exact hN
  · simp only [pk, List.zip, List.getElem?_zipWith, hb, List.getElem?_map, ho, Option.map_some]
theorem pk_other {bs : List Nat} {is : List Nat} {os : List SObj} {mm : AMem} {b : Nat} (h : b ∉ blks bs is) : mm.wth (pk bs is os) b = mm b := by
  refine wth_other fun hm => h ?_
  obtain ⟨p, hp, rfl⟩ := List.mem_map.1 hm
  exact (List.of_mem_zip hp).1
theorem setL_get : ∀ {is : List Nat} {L os : List SObj}, is.Nodup → (∀ i ∈ is, i < L.length) → is.length = os.length → (∀ (j i : Nat) (o : SObj), is[j]? = some i → os[j]? = some o → (setL L is os)[i]? = some o) ∧ ∀ (i : Nat), i ∉ is → (setL L is os)[i]? = L[i]?
  | [], L, os, _, _, _ => ⟨fun j i o h => (by simp at h), fun _ _ => by simp only [setL]⟩
  | _ :: _, _, [], _, _, hl => by cases hl
  | a :: r, L, p :: os, hn, hlt, hl => by
    obtain ⟨h1, h2⟩ := setL_get (is := r) (L := L.set a p) (os := os) (List.nodup_cons.1 hn).2 (fun i hi => by rw [List.length_set]; exact hlt i (List.mem_cons_of_mem _ hi)) (by simpa using hl)
    refine ⟨fun j i o hj ho => ?_, fun i hi => ?_⟩
    · cases j with
      | zero =>
        simp only [List.getElem?_cons_zero, Option.some.injEq] at hj ho
        subst hj; subst ho
        rw [setL, h2 a (List.nodup_cons.1 hn).1]
        simp [hlt a (List.mem_cons_self ..)]
      | succ j => exact h1 j i o hj ho
    · rw [setL, h2 i (fun h => hi (List.mem_cons_of_mem _ h))]
      have : a ≠ i := fun e => hi (e ▸ List.mem_cons_self ..)
      simp [this]
theorem getL_get (L : List SObj) : ∀ {is : List Nat} {j i : Nat}, is[j]? = some i → i < L.length → (getL L is)[j]? = L[i]?
  | [], _, _, h, _ => by cases h
  | a :: r, j, i, h, hi => by
    have hn : nth L a = L[a]? := nth_eq L a
    cases j with
    | zero =>
      simp only [List.getElem?_cons_zero, Option.some.injEq] at h
      subst h
      simp only [getL, hn, List.getElem?_eq_getElem hi, List.getElem?_cons_zero]
    | succ j =>
      simp only [List.getElem?_cons_succ] at h
      have := getL_get L h hi
      simp only [getL]
      split <;> simpa using this
theorem mem_pk {bs : List Nat} {os : List SObj} (g : Good bs L m) {is : List Nat} (hi : isOk L.length is = true) (hl : is.length = os.length) : memD bs (setL L is os) m = (restM (memD bs L m) (blks bs is)).wth (pk bs is os) := by
  obtain ⟨h1, h2⟩ := isOk_lt hi
  have hN := blks_nodup g.nd (by rw [g.len]; exact hi)
  obtain ⟨s1, s2⟩ := setL_get (L := L) h2 h1 hl
  have g2 : Good bs (setL L is os) m := ⟨g.nd, by rw [setL_len]; exact g.len, g.fresh⟩
  funext b
  by_cases hb : b ∈ blks bs is
  · obtain ⟨i, him, rfl⟩ := blks_mem hb
    obtain ⟨j, hj⟩ := List.getElem?_of_mem him
    have hjl : j < os.length := by
      rcases Nat.lt_or_ge j is.length with h | h
      · omega
      · rw [List.getElem?_eq_none h] at hj; cases hj
    rw [pk_get hN hl hj (List.getElem?_eq_getElem hjl), mem_get g2 (s1 j i _ hj (List.getElem?_eq_getElem hjl))]
  · rw [pk_other hb, restM, if_neg hb]
    by_cases hbb : b ∈ bs
    · obtain ⟨i, hi2⟩ := List.getElem?_of_mem hbb
      have hib : i < bs.length := by
        rcases Nat.lt_or_ge i bs.length with h | h
        · exact h
        · rw [List.getElem?_eq_none h] at hi2; cases hi2
      have e : b = bs.getD i 0 := by rw [List.getD_eq_getElem?_getD, hi2]; rfl
      subst e
      have hni : i ∉ is := fun h => hb (mem_blks h)
      have hiL : i < L.length := by rw [← g.len]; exact hib
      rw [mem_get g (List.getElem?_eq_getElem hiL), mem_get g2 (by rw [s2 i hni]; exact List.getElem?_eq_getElem hiL)]
    · rw [memD, wth_other (by rw [denM_fst g2.len]; exact hbb), memD, wth_other (by rw [denM_fst g.len]; exact hbb)]
theorem setL_get_self : ∀ {is : List Nat} {L : List SObj}, isOk L.length is = true → setL L is (getL L is) = L := fun {is L} hi => by
  obtain ⟨h1, h2⟩ := isOk_lt hi
  obtain ⟨s1, s2⟩ := setL_get (L := L) h2 h1 (getL_len L is).symm
  apply List.ext_getElem?
  intro i
  by_cases h : i ∈ is
  · obtain ⟨j, hj⟩ := List.getElem?_of_mem h
    have e := getL_get L hj (h1 i h)
    rw [List.getElem?_eq_getElem (h1 i h)] at e
    rw [s1 j i _ hj e, List.getElem?_eq_getElem (h1 i h)]
  · exact s2 i h
theorem callM {b0 : List Nat} {P : Program} {f : FuncId} {vs : List SV} {Q : SV → List SObj → AMem → Prop} (is : List Nat) (os : List SObj) (y : SV) (hi : (isOk L.length is && Nat.beq is.length os.length) = true)
    (h : ∀ bs (mm : AMem), Gd (blks bs is) mm → ∀ (K : AV → AMem → Prop), K (den bs y) (mm.wth (pk bs is os)) → ACalls P f (denL bs vs) (mm.wth (pk bs is (getL L is))) K) (hQ : Q y (setL L is os) m) : SCall P b0 f vs fr L m Q := by
  simp only [Bool.and_eq_true] at hi
  refine .one y (setL L is os) m (fun new g K hK => ?_) (by rw [setL_len, Nat.beq_refl]; rfl) hQ
  have hN := blks_nodup g.nd (by rw [g.len]; exact hi.1)
  have e1 := mem_pk g hi.1 (getL_len L is).symm
  rw [setL_get_self hi.1] at e1
  rw [e1]
  refine h (b0 ++ new) _ ⟨hN, fun b hb => by simp [restM, hb]⟩ K ?_
  have := hK [] (by rw [List.append_nil]; exact ⟨g.nd, by rw [setL_len]; exact g.len, g.fresh⟩)
  rw [List.append_nil, mem_pk g hi.1 (Nat.eq_of_beq_eq_true hi.2)] at this
  exact this
abbrev vI (n : Int) : SV := .av (.int .i64 n)
abbrev vS (s : List UInt8) : SV := .av (.str s)
abbrev vB (b : Bool) : SV := .b (.raw b)
abbrev vL (l : List AV) : SV := .av (.slice false l)
end
end Go.Sx
end
section
namespace Go.Aw
open Go
section
variable {P : Program} {F : Nat → Prop} {lim : Nat → Nat} {w : World} {n : Nat} {fr : Fr} {m : AMem} {ca : Act} {fl : List Nat}
theorem two_args {cargs : Array Value} (h : cargs.size = 2) : ∃ x y, cargs = #[x, y] := by
  match cargs, h with
  | ⟨[x, y]⟩, _ => exact ⟨x, y, rfl⟩
theorem one_arg {cargs : Array Value} (h : cargs.size = 1) : ∃ x, cargs = #[x] := by
  match cargs, h with
  | ⟨[x]⟩, _ => exact ⟨x, rfl⟩
set_option maxHeartbeats 1000000 in
end
end Go.Aw
end
section
namespace Go.Aw
open Go
section
variable {P : Program} {F : Nat → Prop} {lim : Nat → Nat} {w : World} {n : Nat} {fr : Fr} {m : AMem} {ca : Act} {fl : List Nat}
theorem St.drew (st : St F lim w n fr m ca fl) : St F lim w.drew n fr m ca fl := st.heap rfl
set_option maxHeartbeats 1000000 in
theorem alloc_bld {ops : Array Oper} {l : List Oper} {K : Fr → AMem → Prop} {d : Nat} {t eb : TypeId} {ty : TypeId} {pos : String} {af : Array Edge} {i : TypeInfo} (hi : P.info? t = some i) (hz : i.zero = some (.agg #[.pointer none, .slice none 0 0]))
    (hk : okOper n ⟨some d, .alloc t, ty, pos, af, none⟩ = true) (h : ∀ b, m b = none → AOps P n ops l K (fr.put d (.ptr ⟨b, 0, none⟩)) (m.upd b (some (.bld t eb [])))) : AOps P n ops (⟨some d, .alloc t, ty, pos, af, none⟩ :: l) K fr m := by
  refine AOps.step rfl fun F lim w ca st next Q hn => ?_
  have hrun : (execOp ca.eval ⟨some d, .alloc t, ty, pos, af, none⟩).run P w = .ok (.value (.pointer (some ⟨w.heap.size, 0, none⟩))) (w.alloc (.cells #[.pointer none, .slice none 0 0] t)) := by
    simp [execOp, Instr.alloc, newVar, newRow, zeroValue, typeInfo, hi, hz, Value.cells]
  obtain ⟨h1, h2⟩ := st.allocMem #[.pointer none, .slice none 0 0] t [.nilptr, .slice true []] rfl (fun i hi => by
    match i, hi with
    | 0, _ => exact .nilptr
    | 1, _ => exact .nils true)
  have hnb : w.heap[w.heap.size]? = none := by simp
  have st2 : St F lim (w.alloc (.cells #[.pointer none, .slice none 0 0] t)) n fr (m.upd w.heap.size (some (.bld t eb []))) ca [] := by
    obtain ⟨os, om, ow, s⟩ := h2
    have hup : ∀ (c : Nat) (x : Option AObj), c ≠ w.heap.size → (m.upd w.heap.size x) c = m c := fun c x h => by simp only [AMem.upd, if_neg h]
    refine ⟨os, fun c => if c = w.heap.size then (fun _ => []) else om c, ow, s.size, s.defers, s.slots, fun c o h => ?_, s.ownS, fun c o h i => ?_, s.ownF, fun c hc => ?_, fun c hc => ?_⟩
    · by_cases e1 : c = w.heap.size
      · subst e1
        simp only [AMem.upd, if_true] at h
        obtain rfl := Option.some.inj h
        have := s.mem w.heap.size (.cells [.nilptr, .slice true []]) (by simp only [AMem.upd, if_true])
        refine ⟨?_, this.2⟩
        simp only [if_true]
        exact .bld _ _ _ _ _ _ (heapNew w _) (.inl rfl) (.nils true) (.inl rfl)
      · rw [hup c _ e1] at h
        simp only [if_neg e1]
        exact s.mem c o (by rw [hup c _ e1]; exact h)
    · by_cases e1 : c = w.heap.size
      · simp [e1]
      · rw [hup c _ e1] at h
        simp only [if_neg e1]
        exact s.ownM c o (by rw [hup c _ e1]; exact h) i
    · have := s.free c hc
      refine ⟨this.1, ?_, this.2.2⟩
      have e1 : c ≠ w.heap.size := fun e1 => by
        have h2 := this.2.1
        rw [e1] at h2
        simp [AMem.upd] at h2
      rw [hup c _ e1]
      have h2 := this.2.1
      rwa [hup c _ e1] at h2
    · have := s.fresh c hc
      refine ⟨this.1, this.2.1, ?_⟩
      have e1 : c ≠ w.heap.size := fun e1 => by
        have h2 := this.2.2
        rw [e1] at h2
        simp [AMem.upd] at h2
      rw [hup c _ e1]
      have h2 := this.2.2
      rwa [hup c _ e1] at h2
  have hP := pres_new st (.cells #[.pointer none, .slice none 0 0] t)
  exact wp_of_value hrun (hn lim _ _ _ _ (h _ h1) (st2.set (okOper_dst hk rfl) (.ptr _)) hP)
end
end Go.Aw
end
section
namespace Go.Sx
open Go Go.Aw
section
variable {c : Cfg} {L : List SObj} {fr : SFr} {m : AMem}
theorem nb {P : Program} {b0 : List Nat} {d : Nat} {t eb : TypeId} {i : TypeInfo} {k : SK} (hi : P.info? t = some i) (hz : i.zero = some (.agg #[.pointer none, .slice none 0 0])) (hs : (scF L.length fr && scM L.length L) = true)
    (h : k ((d, .loc L.length 0) :: fr) (L ++ [.obj (.bld t eb [])]) m) : SOp P b0 (some d) (.alloc t) fr L m k :=
  ⟨fun new g n ops ty pos af l K hk hn hK => alloc_bld (eb := eb) hi hz hk fun b hb => by
    simp only [Bool.and_eq_true] at hs
    have hn : newK fr L (.obj (.bld t eb [])) (fun b L' => k ((d, .loc b 0) :: fr) L' m) := chk_iff.2 ⟨hs.1, chk_iff.2 ⟨hs.2, h⟩⟩
    obtain ⟨h, g', e1, e2, e3, _⟩ := newK_sound g hn hb
    have := hK _ _ _ (b0 ++ new ++ [b]) (by rw [List.append_assoc]; exact List.prefix_append _ _) g' h
    rw [e1] at this
    simp only [denF, denO, den, e3] at this
    rw [e2] at this
    exact this⟩
theorem callT {b0 : List Nat} {P : Program} {f : FuncId} {vs : List SV} {Q : SV → List SObj → AMem → Prop} (is : List Nat) (os : List SObj) (y : SV) (hi : (isOk L.length is && Nat.beq is.length os.length) = true)
    (h : ∀ bs (mm : AMem), Gd (blks bs is) mm → (∀ b o, m b = some o → mm b = some o) → ∀ (K : AV → AMem → Prop), K (den bs y) (mm.wth (pk bs is os)) → ACalls P f (denL bs vs) (mm.wth (pk bs is (getL L is))) K) (hQ : Q y (setL L is os) m) : SCall P b0 f vs fr L m Q := by
  simp only [Bool.and_eq_true] at hi
  refine .one y (setL L is os) m (fun new g K hK => ?_) (by rw [setL_len, Nat.beq_refl]; rfl) hQ
  have hN := blks_nodup g.nd (by rw [g.len]; exact hi.1)
  have e1 := mem_pk g hi.1 (getL_len L is).symm
  rw [setL_get_self hi.1] at e1
  rw [e1]
  refine h (b0 ++ new) _ ⟨hN, fun b hb => by simp [restM, hb]⟩ (fun b o hb => ?_) K ?_
  · have h1 : b ∉ b0 ++ new := fun hm => by rw [g.fresh b hm] at hb; cases hb
    have h2 : b ∉ blks (b0 ++ new) is := fun hm => by
      obtain ⟨i, hi2, e⟩ := blks_mem hm
      have hlt := (isOk_lt hi.1).1 i hi2
      rw [← g.len] at hlt
      apply h1
      rw [e, List.getD_eq_getElem?_getD, List.getElem?_eq_getElem hlt]
      exact List.getElem_mem _
    simp only [restM, if_neg h2, memD]
    rw [wth_other (by rw [denM_fst g.len]; exact h1)]
    exact hb
  · have := hK [] (by rw [List.append_nil]; exact ⟨g.nd, by rw [setL_len]; exact g.len, g.fresh⟩)
    rw [List.append_nil, mem_pk g hi.1 (Nat.eq_of_beq_eq_true hi.2)] at this
    exact this
end
end Go.Sx
namespace Go.Aw
open Go
section
variable {P : Program} {F : Nat → Prop} {lim : Nat → Nat} {w : World} {n : Nat} {fr : Fr} {m : AMem} {ca : Act} {fl : List Nat}
theorem St.grow (st : St F lim w n fr m ca fl) (os : Array Obj) (k : Nat) : St F lim (Sort.grow (w.drewN k) os) n fr m ca fl := by
  have hh : (w.drewN k).heap = w.heap := by simp
  have hl : ∀ c, c < w.heap.size → (Sort.grow (w.drewN k) os).heap[c]? = w.heap[c]? := fun c hc => by
    simp only [Sort.grow, hh]
    rw [Array.getElem?_append_left hc]
  have hf : ∀ c, w.heap.size ≤ c → lim c = 0 := fun c hc => by
    obtain ⟨_, _, _, s⟩ := st
    exact (s.fresh c hc).1
  have hm : ∀ b, m b ≠ none → b < w.heap.size := fun b hb => st.lt_of_mem hb
  have hcell : ∀ b o, o < lim b → b < w.heap.size := fun b o ho => st.lt_of_lim ho
  refine st.world (by simp [Sort.grow]) (fun _ => Nat.le_refl _) (fun b o ho => by simp [World.cell?, hl b (hcell b o ho)]) (fun c hc => .inr ⟨hl c hc, rfl⟩) (fun b hb => ⟨hl b (hm b hb), rfl⟩) (fun c hc => hf c (by simp [Sort.grow] at hc; omega))
theorem pres_grow (st : St F lim w n fr m ca fl) (os : Array Obj) (k : Nat) : Pres F w lim (Sort.grow (w.drewN k) os) lim := by
  have hh : (w.drewN k).heap = w.heap := by simp
  have hl : ∀ c, c < w.heap.size → (Sort.grow (w.drewN k) os).heap[c]? = w.heap[c]? := fun c hc => by
    simp only [Sort.grow, hh]
    rw [Array.getElem?_append_left hc]
  refine ⟨rfl, rfl, rfl, by simp [Sort.grow], fun b hb => ⟨hl b (st.lt_of_F hb), rfl⟩, fun _ => Nat.le_refl _, fun b o ho => by simp [World.cell?, hl b (st.lt_of_lim ho)]⟩
def tabObj (e : TypeId) (z : Nat × Nat) (k : IntKind) (zs : List Int) : AObj := .tab e z (zs.map (Value.int k)).toArray
theorem tab_var {e : TypeId} {z : Nat × Nat} {k : IntKind} {zs : List Int} {b : Nat} {os : Nat → List Nat} {name : String} (h : MRep w lim b (tabObj e z k zs) os) (hg : P.globalNamed name = some b) : Lib.TabIs P w name k zs := by
  unfold tabObj at h
  cases h with
  | tab _ _ _ _ hb => simp only [Lib.TabIs, World.var?, hg, Option.bind_some, hb]
theorem itoa_calls {f : FuncId} {name : String} {bT : Nat} {e : TypeId} {z : Nat × Nat} (hf : ∃ fn, P.funcs[f]? = some fn ∧ fn.body.isSome = true ∧ (fn.name == "runtime.NumGoroutine") = false) (hg : P.globalNamed name = some bT)
    (hrun : ∀ (n : Int), -9223372036854775808 ≤ n → n ≤ 9223372036854775807 → ∀ w, Lib.TabIs P w name .u64 Lib.pow10Tab → Calls P f #[.int .i64 n] w fun e w' => e = .returned (.string ⟨(Lib.itoa n).toArray⟩) ∧ ∃ k os, w' = Sort.grow (w.drewN k) os)
    {n : Int} {K : AV → AMem → Prop} (hm : m bT = some (tabObj e z .u64 Lib.pow10Tab)) (hlen : (Lib.itoa n).length ≤ 140737488355328) (hK : K (.str (Lib.itoa n)) m) : ACalls P f [.int .i64 n] m K := by
  refine ⟨hf, fun F lim w cargs hs hr st => ?_⟩
  obtain ⟨x, rfl⟩ := one_arg hs
  have r0 : Rep w lim x (.int .i64 n) [] := hr 0 (by simp)
  obtain ⟨rfl, lo, hi⟩ : x = .int .i64 n ∧ -9223372036854775808 ≤ n ∧ n ≤ 9223372036854775807 := by
    cases r0 with
    | int _ _ lo hi => exact ⟨rfl, lo, hi⟩
  have htab : Lib.TabIs P w name .u64 Lib.pow10Tab := by
    obtain ⟨os, om, ow, s⟩ := st
    exact tab_var (s.mem bT _ hm).1 hg
  refine (hrun n lo hi w htab).mono fun e1 w3 ⟨he, k, os, hw3⟩ => ?_
  subst he; subst hw3
  exact ⟨_, _, lim, _, [], rfl, hK, .str ⟨(Lib.itoa n).toArray⟩ (by rw [show (⟨(Lib.itoa n).toArray⟩ : ByteArray).size = (Lib.itoa n).length from rfl]; exact hlen), st.grow os k, pres_grow st os k⟩
end
end Go.Aw
end
section
namespace Go.Aw
open Go
inductive OkT : AV → Prop
  | bool (b : Bool) : OkT (.bool b)
  | int (k : IntKind) (n : Int) (h : k ≠ .u64) : OkT (.int k n)
  | str (s : List UInt8) : OkT (.str s)
  | slice (l : List AV) (h1 : ∀ x ∈ l, x.cells ≠ []) (h : ∀ x ∈ l, ∀ y ∈ x.cells, OkT y) : OkT (.slice false l)
  | agg (l : List AV) (h : ∀ y ∈ l, OkT y) : OkT (.agg l)
theorem okT_u64 {w : World} {lim : Nat → Nat} {n : Int} {x : AV} {os : List Nat} (h : Rep w lim (.int .u64 n) x os) (hx : OkT x) : False := by
  cases hx with
  | bool b => cases h
  | int k m hk =>
    cases h with
    | int => exact hk rfl
  | str s => cases h
  | slice l hl1 hl => cases h
  | agg l hl => cases h
section
variable {P : Program}
end
end Go.Aw
end
section
namespace Go.Sx
open Go Go.Aw
def MLe (m' m : AMem) : Prop := ∀ b o', m' b = some o' → ∃ o, m b = some o ∧ (o' = o ∨ ∃ l l', o = .cells l ∧ o' = .cells l' ∧ l'.length = l.length ∧ ∀ i, LeV (l'.getD i .junk) (l.getD i .junk))
section
variable {P : Program} {F : Nat → Prop} {lim : Nat → Nat} {w : World} {n : Nat} {fr : Fr} {m m' : AMem} {ca : Act} {fl : List Nat}
theorem St.lessM (st : Aw.St F lim w n fr m ca fl) (hs : MLe m' m) : Aw.St F lim w n fr m' ca fl := by
  classical
  obtain ⟨os, om, ow, h⟩ := st
  let p : Nat → Nat → Prop := fun b i => m' b = m b ∨ ∃ l l', m b = some (.cells l) ∧ m' b = some (.cells l') ∧ l'.getD i .junk = l.getD i .junk
  have hn : ∀ b, m b = none → m' b = none := fun b hb => by
    cases hb' : m' b with
    | none => rfl
    | some o => obtain ⟨o2, h2, _⟩ := hs b o hb'; rw [hb] at h2; cases h2
  refine ⟨os, fun b i => if p b i then om b i else [], ow, h.size, h.defers, h.slots, fun b o' hb => ?_, h.ownS, fun b o' hb i => ?_, h.ownF, fun c hc => ⟨(h.free c hc).1, hn c (h.free c hc).2.1, (h.free c hc).2.2⟩, fun b hb => ⟨(h.fresh b hb).1, (h.fresh b hb).2.1, hn b (h.fresh b hb).2.2⟩⟩
  · obtain ⟨o, ho, hr⟩ := hs b o' hb
    obtain ⟨hM, h2, h3⟩ := h.mem b o ho
    refine ⟨?_, h2, h3⟩
    rcases hr with rfl | ⟨l, l', rfl, rfl, hlen, hle⟩
    · have : (fun i => if p b i then om b i else []) = om b := by
        funext i
        exact if_pos (.inl (hb.trans ho.symm))
      rw [this]; exact hM
    · cases hM with
      | cells cs e _ _ hbk hsz hrr =>
        refine .cells cs e l' _ hbk (hsz.trans hlen.symm) fun i hi => ?_
        have hi' : i < l.length := hlen ▸ hi
        by_cases hp : p b i
        · rw [if_pos hp]
          have e : l'.getD i .junk = l.getD i .junk := by
            rcases hp with hp | ⟨a, a', h4, h5, h6⟩
            · rw [hb, ho] at hp
              simp only [Option.some.injEq, AObj.cells.injEq] at hp
              rw [hp]
            · rw [ho] at h4; rw [hb] at h5
              simp only [Option.some.injEq, AObj.cells.injEq] at h4 h5
              rw [h4, h5]; exact h6
          rw [e]; exact hrr i hi'
        · rw [if_neg hp]
          rcases hle i with e | e
          · exact absurd (.inr ⟨l, l', ho, hb, e⟩) hp
          · exact e _ _ _ _ (hrr i hi')
  · obtain ⟨o, ho, _⟩ := hs b o' hb
    show (if p b i then om b i else []).Nodup ∧ ∀ c ∈ (if p b i then om b i else []), _
    split
    · exact h.ownM b o ho i
    · exact ⟨List.nodup_nil, fun c hc => by cases hc⟩
end
section
variable {P : Program} {n : Nat} {fr : Fr} {m m' : AMem} {ops : Array Oper} {l : List Oper} {K : Fr → AMem → Prop}
theorem AOps.lessM (hs : MLe m' m) (h : AOps P n ops l K fr m') : AOps P n ops l K fr m := fun F lim w ca Q st hq => h F lim w ca Q (St.lessM st hs) hq
theorem AWP.lessM {c : Code} {Q : Exit → Fr → AMem → Prop} (hs : MLe m' m) (h : AWP P n c Q fr m') : AWP P n c Q fr m := fun F lim w ca st => h F lim w ca (St.lessM st hs)
end
theorem LeV.junk (x : AV) : LeV .junk x := .inr fun _ _ _ _ _ => .junk _
theorem LeV.nils : LeV .nils (.slice true []) := .inr fun w lim v os h => by
  generalize hx : AV.slice true [] = x at h
  cases h with
  | nils o => exact .nilS _
  | own b n cap sz l cv cur e hn hcap hm hbig h0 hb hcur hsz hlim hc hr =>
    cases hx
    simp only [List.length_nil] at hn
    subst hn
    rcases h0 with h0 | h0
    · omega
    · subst h0; exact .nilS _
  | _ => cases hx
mutual
def mn (i : Nat) : SV → Bool
  | .loc j _ | .ms j _ _ | .mp j | .elt j _ _ _ | .sl j _ _ _ => Nat.beq i j
  | .agg l | .tup l => mnL i l
  | .fn _ a c => bif mnL i a then true else mnL i c
  | _ => false
def mnL (i : Nat) : List SV → Bool
  | [] => false
  | v :: r => bif mn i v then true else mnL i r
end
def fgF (i : Nat) : SFr → (SFr → Prop) → Prop
  | [], k => k []
  | (t, v) :: r, k => bif mn i v then fgF i r fun r' => k ((t, .av .junk) :: r') else fgF i r fun r' => k ((t, v) :: r')
def fgC (i : Nat) : List SV → (List SV → Prop) → Prop
  | [], k => k []
  | v :: r, k => bif mn i v then fgC i r fun r' => k (.av .junk :: r') else fgC i r fun r' => k (v :: r')
def fgM (i : Nat) : List SObj → (List SObj → Prop) → Prop
  | [], k => k []
  | .cells l :: r, k => fgC i l fun l' => fgM i r fun r' => k (.cells l' :: r')
  | .obj o :: r, k => fgM i r fun r' => k (.obj o :: r')
theorem getD_set_ne {bs : List Nat} {i j b : Nat} (h : Nat.beq i j = false) : (bs.set i b).getD j 0 = bs.getD j 0 := by
  have : i ≠ j := fun e => by subst e; rw [Nat.beq_refl] at h; cases h
  simp [List.getD_eq_getElem?_getD, List.getElem?_set_ne this]
mutual
theorem mn_den {bs : List Nat} {i b : Nat} : ∀ {v : SV}, mn i v = false → den (bs.set i b) v = den bs v
  | .av _, _ => by simp only [den]
  | .own _, _ => by simp only [den]
  | .b _, _ => by simp only [den]
  | .loc j o, h => by simp only [mn] at h; simp only [den, getD_set_ne h]
  | .ms j o c, h => by simp only [mn] at h; simp only [den, getD_set_ne h]
  | .mp j, h => by simp only [mn] at h; simp only [den, getD_set_ne h]
  | .elt j k w q, h => by simp only [mn] at h; simp only [den, getD_set_ne h]
  | .sl j k w q, h => by simp only [mn] at h; simp only [den, getD_set_ne h]
  | .agg l, h => by simp only [mn] at h; simp only [den, mnL_den h]
  | .tup l, h => by simp only [mn] at h; simp only [den, mnL_den h]
  | .fn f a c, h => by
    simp only [mn] at h
    cases ha : mnL i a with
    | true => rw [ha] at h; cases h
    | false => rw [ha] at h; simp only [den, mnL_den ha, mnL_den (l := c) h]
  | .off, _ => by simp only [den]
theorem mnL_den {bs : List Nat} {i b : Nat} : ∀ {l : List SV}, mnL i l = false → denL (bs.set i b) l = denL bs l
  | [], _ => by simp only [denL]
  | v :: r, h => by
    simp only [mnL] at h
    cases hv : mn i v with
    | true => rw [hv] at h; cases h
    | false => rw [hv] at h; simp only [denL, mn_den hv, mnL_den (l := r) h]
end
theorem fgF_sound {i : Nat} : ∀ {fr : SFr} {k : SFr → Prop}, fgF i fr k → ∃ fr', k fr' ∧ ∀ bs b, Le (denF (bs.set i b) fr') (denF bs fr)
  | [], k, h => ⟨[], h, fun bs b => Le.refl _⟩
  | (t, v) :: r, k, h => by
    simp only [fgF] at h
    cases hv : mn i v with
    | true =>
      rw [hv] at h
      obtain ⟨r', h1, h2⟩ := fgF_sound (fr := r) h
      exact ⟨_, h1, fun bs b => (h2 bs b).cons t (by simp only [den, AV.plain]; exact LeV.junk _)⟩
    | false =>
      rw [hv] at h
      obtain ⟨r', h1, h2⟩ := fgF_sound (fr := r) h
      exact ⟨_, h1, fun bs b => (h2 bs b).cons t (.inl (mn_den hv))⟩
theorem fgC_sound {i : Nat} : ∀ {l : List SV} {k : List SV → Prop}, fgC i l k → ∃ l', k l' ∧ l'.length = l.length ∧ ∀ bs b q, LeV ((denL (bs.set i b) l').getD q .junk) ((denL bs l).getD q .junk)
  | [], k, h => ⟨[], h, rfl, fun bs b q => .inl rfl⟩
  | v :: r, k, h => by
    simp only [fgC] at h
    cases hv : mn i v with
    | true =>
      rw [hv] at h
      obtain ⟨r', h1, h2, h3⟩ := fgC_sound (l := r) h
      refine ⟨_, h1, by simp [h2], fun bs b q => ?_⟩
      cases q with
      | zero => simp only [denL, List.getD_cons_zero, den, AV.plain]; exact LeV.junk _
      | succ q => simp only [denL, List.getD_cons_succ]; exact h3 bs b q
    | false =>
      rw [hv] at h
      obtain ⟨r', h1, h2, h3⟩ := fgC_sound (l := r) h
      refine ⟨_, h1, by simp [h2], fun bs b q => ?_⟩
      cases q with
      | zero => simp only [denL, List.getD_cons_zero]; exact .inl (mn_den hv)
      | succ q => simp only [denL, List.getD_cons_succ]; exact h3 bs b q
def OLe (o' o : AObj) : Prop := o' = o ∨ ∃ l l', o = .cells l ∧ o' = .cells l' ∧ l'.length = l.length ∧ ∀ i, LeV (l'.getD i .junk) (l.getD i .junk)
theorem fgM_sound {i : Nat} : ∀ {L : List SObj} {k : List SObj → Prop}, fgM i L k → ∃ L', k L' ∧ L'.length = L.length ∧ ∀ bs b (q : Nat) o', L'[q]? = some o' → ∃ o, L[q]? = some o ∧ OLe (denO (bs.set i b) o') (denO bs o)
  | [], k, h => ⟨[], h, rfl, fun bs b q o' h => by simp at h⟩
  | .obj o :: r, k, h => by
    obtain ⟨r', h1, h2, h3⟩ := fgM_sound (L := r) h
    refine ⟨_, h1, by simp [h2], fun bs b q o' ho => ?_⟩
    cases q with
    | zero =>
      simp only [List.getElem?_cons_zero, Option.some.injEq] at ho
      subst ho
      exact ⟨_, rfl, .inl (by simp only [denO])⟩
    | succ q => exact h3 bs b q o' (by simpa using ho)
  | .cells l :: r, k, h => by
    simp only [fgM] at h
    obtain ⟨l', h0, e1, e2⟩ := fgC_sound h
    obtain ⟨r', h1, h2, h3⟩ := fgM_sound (L := r) h0
    refine ⟨_, h1, by simp [h2], fun bs b q o' ho => ?_⟩
    cases q with
    | zero =>
      simp only [List.getElem?_cons_zero, Option.some.injEq] at ho
      subst ho
      exact ⟨_, rfl, .inr ⟨_, _, rfl, rfl, by rw [denL_len, denL_len, e1], e2 bs b⟩⟩
    | succ q => exact h3 bs b q o' (by simpa using ho)
section
variable {bs : List Nat} {L L' : List SObj} {m : AMem}
theorem memD_get {b : Nat} (g : Good bs L m) {o : AObj} (h : memD bs L m b = some o) : (∃ (q : Nat) (x : SObj), bs[q]? = some b ∧ L[q]? = some x ∧ o = denO bs x) ∨ (b ∉ bs ∧ m b = some o) := by
  by_cases hb : b ∈ bs
  · left
    obtain ⟨q, hq⟩ := List.getElem?_of_mem hb
    have hlt : q < bs.length := by
      rcases Nat.lt_or_ge q bs.length with h | h
      · exact h
      · rw [List.getElem?_eq_none h] at hq; cases hq
    have hL : q < L.length := by rw [← g.len]; exact hlt
    have hx : L[q]? = some L[q] := List.getElem?_eq_getElem hL
    have := mem_get g hx
    have e : bs.getD q 0 = b := by rw [List.getD_eq_getElem?_getD, hq]; rfl
    rw [e, h] at this
    exact ⟨q, _, hq, hx, Option.some.inj this⟩
  · right
    rw [memD, wth_other (by rw [denM_fst g.len]; exact hb)] at h
    exact ⟨hb, h⟩
end
end Go.Sx
end
section
namespace Go.Sx
open Go Go.Aw
section
variable {P : Program} {T : Tab} {b0 : List Nat} {fr : SFr} {L : List SObj} {m : AMem} {K : SK}
theorem sgK_get {bs : List Nat} {s : Nat} {v : SV} (h : sgK fr s fun u => u = v) (hv : v ≠ .av .junk) : (denF bs fr).get s = some (den bs v) := by
  rw [sgK_eq] at h
  cases hg : (denF bs fr).get s with
  | none => exact absurd (h.symm.trans (sg_none hg)) hv
  | some x =>
    have := rawOf_denF bs fr s
    rw [rawOf, hg] at this
    rw [← h, ← this]; rfl
structure ElOk (T : Tab) (t e w y : Nat) (zc : List AV) : Prop where
  t : tgK T t fun i => slK i fun e' => e' = e
  e : tgK T e fun j => j.n = w ∧ j.y = y ∧ (match j.z with | [] => False | _ => True) ∧ AV.plainL (denL [] (zCells j.z)) = zc
theorem ElOk.get (hT : tabOk P T = true) {t e w y : Nat} {zc : List AV} (h : ElOk T t e w y zc) : P.underlying t = some (.slice e) ∧ isU P e = true ∧ 0 < w ∧ zOk P e = true ∧ P.cellsOf e = w ∧ P.bytesOf e = y ∧ ∃ z, zeroA P e = some z ∧ z.cells.map AV.plain = zc ∧ z.topOk = true := by
  obtain ⟨i, ti, h1⟩ := tg hT h.t
  unfold slK at h1
  split at h1
  · rename_i e2 hs
    subst h1
    obtain ⟨u1, u2, u3, u4⟩ := ti.sl hs
    obtain ⟨j, tj, h2, h3, h4, h5⟩ := tg hT h.e
    have hz : j.z ≠ [] := fun e => by rw [e] at h4; exact h4
    obtain ⟨z, z1, z2, z3, _⟩ := tj.zeroA (bs := []) hz
    refine ⟨u1, u2, by rw [← h2, ← tj.cells]; exact u3, u4, by rw [tj.cells, h2], by rw [tj.bytes, h3], z, z1, ?_, z3⟩
    rw [z2, ← AV.plainL_eq]; exact h5
  · exact h1.elim
end
end Go.Sx
end
section
namespace Go.Aw
open Go
section
variable {P : Program} {F : Nat → Prop} {lim : Nat → Nat} {w : World} {n : Nat} {fr : Fr} {m : AMem} {ca : Act} {fl : List Nat}
theorem St.convSlot (st : St F lim w n fr m ca fl) {s : Nat} {x y : AV} (hs : fr.get s = some x) (hc : ∀ v os, Rep w lim v x os → Rep w lim v y []) : St F lim w n (fr.put s y) m ca fl := by
  obtain ⟨os, om, ow, h⟩ := st
  refine ⟨fun t => if t = s then [] else os t, om, ow, h.size, h.defers, fun t z hz => ?_, h.mem, fun t z hz => ?_, h.ownM, h.ownF, h.free, h.fresh⟩
  · rw [Fr.get_put] at hz
    by_cases e : t = s
    · subst e
      simp only [if_true, Option.some.injEq] at hz ⊢
      subst hz
      exact ⟨(h.slots t x hs).1, hc _ _ (h.slots t x hs).2⟩
    · rw [if_neg (fun h => e h.symm)] at hz
      rw [if_neg e]
      exact h.slots t z hz
  · rw [Fr.get_put] at hz
    by_cases e : t = s
    · simp [e]
    · rw [if_neg (fun h => e h.symm)] at hz
      simp only [if_neg e]
      exact h.ownS t z hz
end
end Go.Aw
namespace Go.Sx
open Go Go.Aw
mutual
theorem den_congr {bs bs' : List Nat} (h : ∀ j, bs.getD j 0 = bs'.getD j 0) : ∀ (v : SV), den bs v = den bs' v
  | .av _ | .own _ | .b _ | .off => by simp only [den]
  | .loc j o | .ms j o c | .mp j | .elt j k w q | .sl j k w q => by simp only [den, h]
  | .agg l => by simp only [den, denL_congr h l]
  | .tup l => by simp only [den, denL_congr h l]
  | .fn f a c => by simp only [den, denL_congr h a, denL_congr h c]
theorem denL_congr {bs bs' : List Nat} (h : ∀ j, bs.getD j 0 = bs'.getD j 0) : ∀ (l : List SV), denL bs l = denL bs' l
  | [] => by simp only [denL]
  | v :: r => by simp only [denL, den_congr h v, denL_congr h r]
end
theorem denF_congr {bs bs' : List Nat} (h : ∀ j, bs.getD j 0 = bs'.getD j 0) : ∀ (fr : SFr), denF bs fr = denF bs' fr
  | [] => rfl
  | (t, v) :: r => by simp only [denF, den_congr h v, denF_congr h r]
theorem denO_congr {bs bs' : List Nat} (h : ∀ j, bs.getD j 0 = bs'.getD j 0) (o : SObj) : denO bs o = denO bs' o := by
  cases o with
  | cells l => simp only [denO, denL_congr h l]
  | obj o => rfl
section
variable {bs : List Nat} {L L' : List SObj} {m : AMem} {fr : SFr}
theorem good_take {i : Nat} (g : Good bs L m) (hi : i + 1 = L.length) (hl : L'.length = i) : Good (bs.take i) L' m := by
  have := g.len
  exact ⟨g.nd.sublist (List.take_sublist _ _), by rw [List.length_take, hl]; omega, fun b hb => g.fresh b (List.mem_of_mem_take hb)⟩
theorem take_getD {i : Nat} (hi : bs.length = i + 1) : ∀ j, (bs.take i).getD j 0 = (bs.set i 0).getD j 0 := fun j => by
  simp only [List.getD_eq_getElem?_getD, List.getElem?_take, List.getElem?_set]
  by_cases h : j < i
  · rw [if_pos h, if_neg (by omega)]
  · rw [if_neg h]
    by_cases e : i = j
    · subst e; rw [if_pos rfl, if_pos (by omega)]; rfl
    · rw [if_neg e, List.getElem?_eq_none (by omega)]
theorem cv0 {c : Cfg} {A : SK} {R : Prop} (h : A fr L m) : SOr (SCv c A fr L m) R := ⟨.inl ⟨fun new g n cd Q hQ => hQ fr L m (c.bs ++ new) (List.prefix_append _ _) g h⟩⟩
end
end Go.Sx
end
section
namespace Go.Sx
open Go Go.Aw
def errC (E : Nat) : List SV → List SV
  | [] => []
  | v :: r => errS E v :: errC E r
def errO (E : Nat) : SObj → SObj
  | .cells l => .cells (errC E l)
  | .obj o => .obj o
def errL (E : Nat) : List SObj → List SObj
  | [] => []
  | o :: r => errO E o :: errL E r
section
variable {fr : SFr} {L : List SObj} {m : AMem}
theorem errC_len (E : Nat) : ∀ (l : List SV), (errC E l).length = l.length
  | [] => rfl
  | v :: r => by simp only [errC, List.length_cons, errC_len E r]
theorem errL_len (E : Nat) : ∀ (l : List SObj), (errL E l).length = l.length
  | [] => rfl
  | v :: r => by simp only [errL, List.length_cons, errL_len E r]
theorem errC_le (bs : List Nat) (E : Nat) : ∀ (l : List SV) (i : Nat), LeV ((denL bs (errC E l)).getD i .junk) ((denL bs l).getD i .junk)
  | [], i => .inl rfl
  | v :: r, 0 => by simp only [errC, denL, List.getD_cons_zero]; exact errS_le bs E v
  | v :: r, i + 1 => by simp only [errC, denL, List.getD_cons_succ]; exact errC_le bs E r i
theorem errO_le (bs : List Nat) (E : Nat) (o : SObj) : OLe (denO bs (errO E o)) (denO bs o) := by
  cases o with
  | obj o => exact .inl rfl
  | cells l => exact .inr ⟨_, _, rfl, rfl, by rw [denL_len, denL_len, errC_len], errC_le bs E l⟩
theorem errL_get (E : Nat) : ∀ (l : List SObj) (i : Nat), (errL E l)[i]? = (l[i]?).map (errO E)
  | [], i => by simp [errL]
  | v :: r, 0 => by simp [errL]
  | v :: r, i + 1 => by simp [errL, errL_get E r i]
theorem ACalls.lessM {P : Program} {f : FuncId} {args : List AV} {K : AV → AMem → Prop} {m' : AMem} (hs : MLe m' m) (h : ACalls P f args m' K) : ACalls P f args m K :=
  ⟨h.1, fun F lim w cargs hsz hr st => h.2 F lim w cargs hsz hr (St.lessM st hs)⟩
theorem MLe.wth {bs : List Nat} {is : List Nat} {os os' : List SObj} {mm : AMem} (hN : (blks bs is).Nodup) (hl : is.length = os.length) (hl' : os'.length = os.length) (h : ∀ (i : Nat) o', os'[i]? = some o' → ∃ o, os[i]? = some o ∧ OLe (denO bs o') (denO bs o)) : MLe (mm.wth (pk bs is os')) (mm.wth (pk bs is os)) := by
  intro b o' hb
  by_cases hm : b ∈ blks bs is
  · obtain ⟨i, him, rfl⟩ := blks_mem hm
    obtain ⟨j, hj⟩ := List.getElem?_of_mem him
    have hjl : j < os'.length := by
      rcases Nat.lt_or_ge j is.length with h | h
      · omega
      · rw [List.getElem?_eq_none h] at hj; cases hj
    have ho' := List.getElem?_eq_getElem hjl
    obtain ⟨o, ho, hle⟩ := h j _ ho'
    rw [pk_get hN (by omega) hj ho'] at hb
    obtain rfl := Option.some.inj hb
    exact ⟨_, pk_get hN hl hj ho, hle⟩
  · rw [pk_other hm] at hb
    exact ⟨o', by rw [pk_other hm]; exact hb, .inl rfl⟩
theorem callX {b0 : List Nat} {P : Program} {f : FuncId} {vs : List SV} {Q : SV → List SObj → AMem → Prop} {σ : Type} (E : Nat) (is : List Nat) (I : σ → Prop) (y : σ → SV) (os : σ → List SObj) (hi : isOk L.length is = true) (hl : ∀ x, (os x).length = is.length)
    (h : ∀ bs (mm : AMem), Gd (blks bs is) mm → (∀ b o, m b = some o → mm b = some o) → ∀ (K : AV → AMem → Prop), (∀ x, I x → K (den bs (y x)) (mm.wth (pk bs is (os x)))) → ACalls P f (denL bs vs) (mm.wth (pk bs is (errL E (getL L is)))) K)
    (hQ : ∀ x, I x → flK (setL L is (os x)) fun L' => Q (y x) L' m) : SCall P b0 f vs fr L m Q := by
  refine ⟨σ, I, y, fun x => setL L is (os x), fun _ => m, fun new g K hK => ?_, fun x => by rw [setL_len, Nat.beq_refl]; rfl, fun x hx => by have := hQ x hx; rwa [flK_eq] at this⟩
  have hN := blks_nodup g.nd (by rw [g.len]; exact hi)
  have e1 := mem_pk g hi (getL_len L is).symm
  rw [setL_get_self hi] at e1
  rw [e1]
  refine ACalls.lessM (MLe.wth hN (getL_len L is).symm (errL_len E _) fun i o' ho' => ?_) (h (b0 ++ new) _ ⟨hN, fun b hb => by simp [restM, hb]⟩ (fun b o hb => ?_) K fun x hx => ?_)
  · rw [errL_get] at ho'
    cases hg : (getL L is)[i]? with
    | none => rw [hg] at ho'; cases ho'
    | some o =>
      rw [hg] at ho'
      obtain rfl := Option.some.inj ho'
      exact ⟨o, rfl, errO_le _ E o⟩
  · have h1 : b ∉ b0 ++ new := fun hm => by rw [g.fresh b hm] at hb; cases hb
    have h2 : b ∉ blks (b0 ++ new) is := fun hm => by
      obtain ⟨i, hi2, e⟩ := blks_mem hm
      have hlt := (isOk_lt hi).1 i hi2
      rw [← g.len] at hlt
      apply h1
      rw [e, List.getD_eq_getElem?_getD, List.getElem?_eq_getElem hlt]
      exact List.getElem_mem _
    simp only [restM, if_neg h2, memD]
    rw [wth_other (by rw [denM_fst g.len]; exact h1)]
    exact hb
  · have := hK x hx [] (by rw [List.append_nil]; exact ⟨g.nd, by rw [setL_len]; exact g.len, g.fresh⟩)
    rw [List.append_nil, mem_pk g hi (hl x).symm] at this
    exact this
end
end Go.Sx
end
section
namespace Go.Sx
open Go Go.Aw
def zA (st : Bool) (z : List Z) : AV := bif st then .agg (AV.plainL (denL [] (zCells z))) else ((denL [] (zCells z)).getD 0 .junk).plain
theorem TF.zeroV {P : Program} {t : Nat} {i : TI} (tf : TF P t i) (hz : i.z ≠ []) : ∃ z, Aw.zeroA P t = some z ∧ z.plain = zA i.k.isSt i.z := by
  obtain ⟨v, h1, h2, h3, h4⟩ := tf.zero hz
  refine ⟨cval v, by simp only [Aw.zeroA, h1, h2, if_true], ?_⟩
  unfold zIs at h3
  split at h3
  · simp only [Bool.and_eq_true] at h3
    rw [zA, h3.1, cond_true, zEqs_den h3.2]
    simp only [cval, AV.plain]
  · rename_i hv
    simp only [Bool.and_eq_true, Bool.not_eq_true'] at h3
    have hcv : cval v = cval1 v := by
      cases v with
      | agg cs => exact absurd rfl (hv cs)
      | iface t u =>
        cases hzz : i.z with
        | nil => exact absurd hzz hz
        | cons a r => rw [hzz] at h3; simp [zEqs, zEq] at h3
      | _ => rfl
    rw [zA, h3.1, cond_false, zEqs_den h3.2, hcv]
    rfl
def tkD : TK → Option TypeDesc
  | .str => some .string
  | .int .i64 => some (.int .i64)
  | _ => none
structure MpOk (T : Tab) (t k e : Nat) (dk : TypeDesc) (z : AV) : Prop where
  t : tgK T t fun i => match i.k with | .mp k' e' => k' = k ∧ e' = e | _ => False
  k : tgK T k fun i => tkD i.k = some dk
  e : tgK T e fun i => (match i.z with | [] => False | _ => True) ∧ zA i.k.isSt i.z = z
section
variable {P : Program} {T : Tab} {b0 : List Nat} {fr : SFr} {L : List SObj} {m : AMem} {K : SK}
theorem MpOk.get (hT : tabOk P T = true) {t k e : Nat} {dk : TypeDesc} {z : AV} (h : MpOk T t k e dk z) : P.underlying t = some (.map k e) ∧ P.underlying k = some dk ∧ ∃ z0, zeroA P e = some z0 ∧ z0.plain = z := by
  obtain ⟨i, ti, h1⟩ := tg hT h.t
  obtain ⟨j, tj, h2⟩ := tg hT h.k
  obtain ⟨l, tl, h3, h4⟩ := tg hT h.e
  have hz : l.z ≠ [] := fun e => by rw [e] at h3; exact h3
  refine ⟨?_, ?_, ?_⟩
  · split at h1
    · rename_i hk
      obtain ⟨rfl, rfl⟩ := h1
      exact ti.mp hk
    · exact h1.elim
  · unfold tkD at h2
    split at h2
    · rename_i hk
      rw [← Option.some.inj h2]; exact tj.str hk
    · rename_i hk
      rw [← Option.some.inj h2]; exact tj.int hk
    · cases h2
  · obtain ⟨z0, z1, z2⟩ := tl.zeroV hz
    exact ⟨z0, z1, z2.trans h4⟩
theorem mlo (hT : tabOk P T = true) {κ ν : Type} [DecidableEq κ] {dk : TypeDesc} (kf : κ → AV) {kc : κ → Value} (vf : ν → AV) (he : KeyEnc dk kf kc) (l : List (κ × ν)) (k : κ) (z : ν) {d t i : Nat} {ke ve : Nat} {x y : Operand} {v : AV} (hM : MpOk T t ke ve dk (vf z)) (hx : opK fr x fun u => u = .mp i) (hi : nth L i = some (.obj (.map (l.map (mapAV kf vf)))))
    (hy : opK fr y fun u => u = .av (kf k)) (hkp : (kf k).plain = kf k) (hv : vf ((mget l k).getD z) = v) (h : K ((d, .av (.tuple [v, .bool (mget l k).isSome])) :: fr) L m) (hp : AV.plainL [v, .bool (mget l k).isSome] = [v, .bool (mget l k).isSome]) : SOp P b0 (some d) (.lookup t x y true) fr L m K := ⟨fun new g n ops ty pos af r KK hok hn hK => by
  obtain ⟨u1, u2, z0, z1, z2⟩ := hM.get hT
  obtain ⟨v1, rfl, e1⟩ := opK_sound (b0 ++ new) hx
  obtain ⟨v2, rfl, e2⟩ := opK_sound (b0 ++ new) hy
  simp only [den, hkp] at e1 e2
  rw [nth_eq] at hi
  have hg := mem_get g hi
  refine aopR_sound (stl := []) hok hn ?_
  refine ar_lookupOkP (P := P) (ops := ops) (stl := []) (r := []) (K := AOps P n ops r KK) (L := denM (b0 ++ new) L) rfl kf vf he l k z u1 u2 z1 z2 e1.symm e2.symm hg hv ?_
  have := hK _ _ _ (b0 ++ new) (List.prefix_append _ _) g h
  simp only [denF, den, AV.plain, hp] at this
  exact this⟩
theorem mup (hT : tabOk P T = true) {κ ν : Type} [DecidableEq κ] {dk : TypeDesc} (kf : κ → AV) {kc : κ → Value} (vf : ν → AV) (he : KeyEnc dk kf kc) (l : List (κ × ν)) (k : κ) (v : ν) {t i : Nat} {ke ve : Nat} {x y z : Operand} {zz : AV} {w : SV} (hM : MpOk T t ke ve dk zz) (hx : opK fr x fun u => u = .mp i) (hi : nth L i = some (.obj (.map (l.map (mapAV kf vf)))))
    (hy : opK fr y fun u => u = .av (kf k)) (hkp : (kf k).plain = kf k) (hz : opK fr z fun u => u = w) (hw : ∀ bs, den bs w = vf v) (hbig : (mput l k v).length ≤ 140737488355328)
    (h : flK (L.set i (.obj (.map ((mput l k v).map (mapAV kf vf))))) fun L' => K fr L' m) : SOp P b0 none (.mapUpdate t x y z) fr L m K := ⟨fun new g n ops ty pos af r KK hok hn hK => by
  obtain ⟨u1, u2, z0, z1, z2⟩ := hM.get hT
  obtain ⟨v1, rfl, e1⟩ := opK_sound (b0 ++ new) hx
  obtain ⟨v2, rfl, e2⟩ := opK_sound (b0 ++ new) hy
  obtain ⟨v3, rfl, e3⟩ := opK_sound (b0 ++ new) hz
  simp only [den, hkp] at e1 e2
  rw [nth_eq] at hi
  have hD := denM_get g.len hi
  rw [flK_eq] at h
  refine aopR_sound (stl := []) hok hn ?_
  refine ar_mapUpdate (P := P) (ops := ops) (stl := []) (r := []) (K := AOps P n ops r KK) (L := denM (b0 ++ new) L) rfl i kf vf he l k v u1 u2 e1.symm e2.symm (by rw [← e3, hw]) hD g.nodup hbig ?_
  have := hK _ _ _ (b0 ++ new) (List.prefix_append _ _) (g.set i _) h
  have hset : (denM (b0 ++ new) L).set i ((b0 ++ new).getD i 0, AObj.map ((mput l k v).map fun p => (kf p.1, vf p.2))) = denM (b0 ++ new) (L.set i (.obj (.map ((mput l k v).map (mapAV kf vf))))) := by
    rcases denM_set (bs := b0 ++ new) (L := L) (i := i) (o := .obj (.map ((mput l k v).map (mapAV kf vf)))) with h | h
    · exact h
    · exfalso
      have : i < L.length := by
        rcases Nat.lt_or_ge i L.length with h | h
        · exact h
        · rw [List.getElem?_eq_none h] at hi; cases hi
      rw [g.len] at h; omega
  rw [hset]
  exact this⟩
theorem mdl' (hT : tabOk P T = true) {κ ν : Type} [DecidableEq κ] {dk : TypeDesc} (kf : κ → AV) {kc : κ → Value} (vf : ν → AV) (he : KeyEnc dk kf kc) (l : List (κ × ν)) (k : κ) {t t2 i : Nat} {ke ve : Nat} {x y : Operand} {zz : AV} (hM : MpOk T t ke ve dk zz) (hx : opK fr x fun u => u = .mp i) (hi : nth L i = some (.obj (.map (l.map (mapAV kf vf)))))
    (hy : opK fr y fun u => u = .av (kf k)) (hkp : (kf k).plain = kf k)
    (h : flK (L.set i (.obj (.map ((mdel l k).map (mapAV kf vf))))) fun L' => K fr L' m) : SOp P b0 none (.call ⟨.builtin .delete, #[x, y], #[t, t2]⟩) fr L m K := ⟨fun new g n ops ty pos af r KK hok hn hK => by
  obtain ⟨u1, u2, z0, z1, z2⟩ := hM.get hT
  obtain ⟨v1, rfl, e1⟩ := opK_sound (b0 ++ new) hx
  obtain ⟨v2, rfl, e2⟩ := opK_sound (b0 ++ new) hy
  simp only [den, hkp] at e1 e2
  rw [nth_eq] at hi
  have hD := denM_get g.len hi
  rw [flK_eq] at h
  refine aopR_sound (stl := []) hok hn ?_
  refine ar_delete (P := P) (ops := ops) (stl := []) (r := []) (K := AOps P n ops r KK) (L := denM (b0 ++ new) L) rfl i kf vf he l k u1 u2 e1.symm e2.symm hD g.nodup ?_
  have := hK _ _ _ (b0 ++ new) (List.prefix_append _ _) (g.set i _) h
  have hset : (denM (b0 ++ new) L).set i ((b0 ++ new).getD i 0, AObj.map ((mdel l k).map fun p => (kf p.1, vf p.2))) = denM (b0 ++ new) (L.set i (.obj (.map ((mdel l k).map (mapAV kf vf))))) := by
    rcases denM_set (bs := b0 ++ new) (L := L) (i := i) (o := .obj (.map ((mdel l k).map (mapAV kf vf)))) with h | h
    · exact h
    · exfalso
      have : i < L.length := by
        rcases Nat.lt_or_ge i L.length with h | h
        · exact h
        · rw [List.getElem?_eq_none h] at hi; cases hi
      rw [g.len] at h; omega
  rw [hset]
  exact this⟩
end
end Go.Sx
end
section
namespace Go.Sx
open Go Go.Aw
theorem ACalls.lessA {P : Program} {f : FuncId} {a a' : List AV} {m : AMem} {K : AV → AMem → Prop} (hl : a'.length = a.length) (hs : ∀ i, LeV (a'.getD i .junk) (a.getD i .junk)) (h : ACalls P f a' m K) : ACalls P f a m K :=
  ⟨h.1, fun F lim w cargs hsz hr st => h.2 F lim w cargs (by omega) (fun i hi => by
    rcases hs i with e | e
    · rw [e]; exact hr i (by omega)
    · exact e _ _ _ _ (hr i (by omega))) st⟩
section
variable {fr : SFr} {L : List SObj} {m : AMem}
theorem callY {b0 : List Nat} {P : Program} {f : FuncId} {vs : List SV} {Q : SV → List SObj → AMem → Prop} {σ : Type} (E : Nat) (is : List Nat) (I : σ → Prop) (y : σ → SV) (os : σ → List SObj) (hi : isOk L.length is = true) (hl : ∀ x, (os x).length = is.length)
    (h : ∀ bs (mm : AMem), Gd (blks bs is) mm → (∀ b o, m b = some o → mm b = some o) → ∀ (K : AV → AMem → Prop), (∀ x, I x → K (den bs (y x)) (mm.wth (pk bs is (os x)))) → ACalls P f (denL bs (errC E vs)) (mm.wth (pk bs is (errL E (getL L is)))) K)
    (hQ : ∀ x, I x → flK (setL L is (os x)) fun L' => Q (y x) L' m) : SCall P b0 f vs fr L m Q :=
  callX E is I y os hi hl (fun bs mm gd ht K hK => ACalls.lessA (by rw [denL_len, denL_len, errC_len]) (errC_le bs E vs) (h bs mm gd ht K hK)) hQ
end
end Go.Sx
end
section
namespace Go.Sx
open Go Go.Aw
inductive Pl where
  | d
  | z
  | f (i : Nat) (p : Pl)
  | s (i : Nat) (p : Pl)
  | o (i : Nat) (p q : Pl)
end Go.Sx
namespace Go.Aw
open Go
section
variable {P : Program} {n : Nat} {fr : Fr} {m : AMem} {ops : Array Oper} {fuel : Nat} {listed : Array Bool} {K : Fr → AMem → Prop}
theorem AAny.slots (h : AAny P n ops fuel listed K fr m) : AAny P n ops fuel listed (fun f m => (∀ t x, f.get t = some x → t < n) ∧ K f m) fr m := fun F lim w ca Q st hq =>
  h F lim w ca Q st fun lim' w' f m' ca' hk st' pr => hq lim' w' f m' ca' ⟨fun t x hx => by obtain ⟨_, _, _, s⟩ := st'; exact (s.slots t x hx).1, hk⟩ st' pr
end
end Go.Aw
namespace Go.Sx
open Go Go.Aw
section
variable {c : Cfg} {n : Nat} {ops : Array Oper} {K : Fr → AMem → Prop} {sl : List Nat} {KK : SK}
end
end Go.Sx
end
section
namespace Go.Sx
open Go Go.Aw
theorem ACalls.pl {P : Program} {f : FuncId} {a : List AV} {m : AMem} {K : AV → AMem → Prop} (h : ACalls P f a m fun x m' => K x.plain m') : ACalls P f a m K :=
  ⟨h.1, fun F lim w cargs h1 h2 h3 => (h.2 F lim w cargs h1 h2 h3).mono fun _ _ ⟨v, x, lim', m', _, he, hK, hr, hs, hp⟩ => ⟨v, x.plain, lim', m', [], he, hK, hr.plain, hs.drop, hp⟩⟩
example (l : List AV) (n : Int) : AV.plain (.tuple [.slice true l, .int .i64 n, .err 3 n]) = .tuple [.slice false l, .int .i64 n, .err 3 n] := rfl
end Go.Sx
end
section
namespace Go.Aw
open Go RowKit
section
variable {P : Program} {F : Nat → Prop} {lim : Nat → Nat} {w w' : World} {n : Nat} {fr : Fr} {m : AMem} {ca : Act} {fl : List Nat}
theorem St.below (st : St F lim w n fr m ca fl) (h : Below w.heap.size w w') : St F lim w' n fr m ca fl := by
  have hl := h.block
  have hf : ∀ c, w.heap.size ≤ c → lim c = 0 := fun c hc => by
    obtain ⟨_, _, _, s⟩ := st
    exact (s.fresh c hc).1
  have hm : ∀ b, m b ≠ none → b < w.heap.size := fun b hb => st.lt_of_mem hb
  have hcell : ∀ b o, o < lim b → b < w.heap.size := fun b o ho => st.lt_of_lim ho
  exact st.world h.size (fun _ => Nat.le_refl _) (fun b o ho => by simp [World.cell?, hl b (hcell b o ho)]) (fun c hc => .inr ⟨hl c hc, rfl⟩) (fun b hb => ⟨hl b (hm b hb), rfl⟩) (fun c hc => hf c (Nat.le_trans h.size hc))
theorem pres_below (st : St F lim w n fr m ca fl) (h : Below w.heap.size w w') : Pres F w lim w' lim :=
  ⟨h.os, h.tape, h.output, h.size, fun b hb => ⟨h.block b (st.lt_of_F hb), rfl⟩, fun _ => Nat.le_refl _, fun b o ho => by simp [World.cell?, h.block b (st.lt_of_lim ho)]⟩
end
end Go.Aw
end
section
namespace Go.Aw
open Go
inductive BadT : Value → Prop
  | u64 (n : Int) : BadT (.int .u64 n)
  | iface (t : TypeId) (p : Value) : BadT (.iface t p)
theorem okT_bad {w : World} {lim : Nat → Nat} {v : Value} (hv : BadT v) {x : AV} {os : List Nat} (h : Rep w lim v x os) (hx : OkT x) : False := by
  cases hv with
  | u64 n => exact okT_u64 h hx
  | iface t p => cases hx <;> cases h
theorem rep_offG {w : World} {lim lim' : Nat → Nat} {B : Nat → Prop} (hc : ∀ b o v, B b → w.cell? ⟨b, o, none⟩ = some v → BadT v) (hl : ∀ b, ¬ B b → lim' b = lim b) {v : Value} {x : AV} {os : List Nat} (h : Rep w lim v x os) : OkT x → Rep w lim' v x os := by
  induction h with
  | bool b => exact fun _ => .bool b
  | int k n lo hi => exact fun _ => .int k n lo hi
  | str s h => exact fun _ => .str s h
  | nils own => exact fun _ => .nils own
  | empty a cap hm => exact fun _ => .empty a cap hm
  | slice b off n cap sz l cv hn hcap hm hbig hsz hlim hcc hr ih =>
    intro hx
    cases hx with
    | slice _ hl1 hl2 =>
      rcases Nat.eq_zero_or_pos n with h0 | h0
      · subst h0
        have : l = [] := List.eq_nil_of_length_eq_zero hn
        subst this
        exact .empty _ _ hm
      · have hmem : ∀ i, i < n → l.getD i .junk ∈ l := fun i hi => by simp [List.getD_eq_getElem?_getD, show i < l.length by omega]
        have gm : ∀ (L : List AV) (j : Nat), j < L.length → L.getD j .junk ∈ L := fun L j hj => by
          rw [List.getD_eq_getElem?_getD, List.getElem?_eq_getElem hj]; exact List.getElem_mem _
        have hok : ∀ i j, i < n → j < sz → OkT ((l.getD i .junk).cells.getD j .junk) := fun i j hi hj => hl2 _ (hmem i hi) _ (gm _ j (by rw [hsz i hi]; exact hj))
        have hs0 : 0 < sz := by
          rw [← hsz 0 h0]; exact List.length_pos_iff.2 (hl1 _ (hmem 0 h0))
        have hb : ¬ B b := fun e => okT_bad (hc b _ _ e (hcc 0 0 h0 hs0)) (hr 0 0 h0 hs0) (hok 0 0 h0 hs0)
        exact .slice b off n cap sz l cv hn hcap hm hbig hsz (by rw [hl b hb]; exact hlim) hcc fun i j hi hj => ih i j hi hj (hok i j hi hj)
  | agg cs xs os h hr ih =>
    intro hx
    cases hx with
    | agg _ hl2 =>
      exact .agg cs xs os h fun i hi => ih i hi (hl2 _ (by
        rw [List.getD_eq_getElem?_getD, List.getElem?_eq_getElem hi]
        exact List.getElem_mem _))
  | _ => intro hx; cases hx
structure TabG where
  e : TypeId
  z : Nat × Nat
  cs : Array Value
def memG (G : Nat → Option TabG) : AMem := fun b => (G b).map fun t => .tab t.e t.z t.cs
section
variable {P : Program}
theorem law_trueG {f : FuncId} {avs : List AV} {cargs : Array Value} {G : Nat → Option TabG} {W : World} (h : ACalls P f avs (memG G) (fun x m' => x = .bool true ∧ ∀ b t, G b = some t → m' b = some (.tab t.e t.z t.cs))) (hs : cargs.size = avs.length)
    (hT : ∀ b t, G b = some t → W.heap[b]? = some (.cells t.cs t.e t.z) ∧ ∀ v ∈ t.cs.toList, BadT v)
    (hr : ∀ i, i < avs.length → Rep W (limOf W) (cargs.getD i undef) (avs.getD i .junk) []) (ho : ∀ x ∈ avs, OkT x) :
    Calls P f cargs W fun e W' => e = .returned (.bool true) ∧ RowKit.Below W.heap.size W W' := by
  have hlt : ∀ b t, G b = some t → b < W.heap.size := fun b t hb => by
    rcases Nat.lt_or_ge b W.heap.size with h | h
    · exact h
    · have := (hT b t hb).1
      rw [Array.getElem?_eq_none h] at this; cases this
  have hc : ∀ b o v, (∃ t, G b = some t) → W.cell? ⟨b, o, none⟩ = some v → BadT v := fun b o v ⟨t, hb⟩ hv => by
    simp only [World.cell?, (hT b t hb).1] at hv
    exact (hT b t hb).2 v (by simpa using Array.mem_of_getElem? hv)
  have st : St (fun b => b < W.heap.size ∧ G b = none) (fun b => if (G b).isSome then 0 else limOf W b) W 0 [] (memG G) noAct [] := by
    refine ⟨fun _ => [], fun _ _ => [], fun _ => .none, rfl, rfl, fun t x hx => by simp [Fr.get] at hx, fun b o h => ?_, fun t x hx => by simp [Fr.get] at hx, fun b o h i => ⟨List.nodup_nil, fun c hc => by cases hc⟩, by simp, fun c h => absurd rfl h, fun b hb => ?_⟩
    · unfold memG at h
      cases e1 : G b with
      | none => rw [e1] at h; cases h
      | some t =>
        rw [e1] at h
        obtain rfl := Option.some.inj h
        exact ⟨.tab t.e _ _ _ (hT b t e1).1, by simp, fun hh => by cases hh.2⟩
    · have e1 : G b = none := by
        cases e1 : G b with
        | none => rfl
        | some t => have := hlt b t e1; omega
      have : W.heap[b]? = none := by simpa using hb
      exact ⟨by simp [e1, limOf, this], fun hh => by omega, by simp [memG, e1]⟩
  refine (h.2 _ _ W cargs hs (fun i hi => rep_offG (B := fun b => ∃ t, G b = some t) hc (fun b hb => by
      have e1 : G b = none := by
        cases e1 : G b with
        | none => rfl
        | some t => exact absurd ⟨t, e1⟩ hb
      simp [e1]) (hr i hi) (ho _ (by rw [List.getD_eq_getElem?_getD, List.getElem?_eq_getElem hi]; exact List.getElem_mem _))) st).mono fun e W' ⟨v, x, lim', m', os, he, hK, hx, hst, hp⟩ => ?_
  obtain ⟨hK, hm⟩ := hK
  subst hK
  cases hx
  refine ⟨he, hp.os, hp.tape, hp.output, hp.size, fun k hk => ?_⟩
  cases e1 : G k with
  | some t =>
    obtain ⟨_, _, _, s⟩ := hst
    have := (s.mem k _ (hm k t e1)).1
    cases this with
    | tab _ _ _ _ hb => rw [hb, (hT k t e1).1]
  | none => exact (hp.res k ⟨hk, e1⟩).1
end
end Go.Aw
end
section
namespace Go.Aw
open Go Go.MapKept
section
variable {P : Program} {F : Nat → Prop} {lim : Nat → Nat} {w w' : World} {n : Nat} {fr : Fr} {m : AMem} {ca : Act} {fl : List Nat}
variable {ops : Array Oper} {stl : List Nat} {r : List Oper} {K : Fr → AMem → Prop} {d : Nat} {ty : TypeId} {pos : String} {af : Array Edge} {gd : Option (Nat × Bool)} {L : List (Nat × AObj)}
theorem ar_insert (hg : gOn ops fr gd = some true) {κ ν : Type} [DecidableEq κ] {dk : TypeDesc} (i : Nat) (kf : κ → AV) {kc : κ → Value} (vf : ν → AV) (he : KeyEnc dk kf kc) (l : List (κ × ν)) (k : κ) (v : ν) {t ke ve : TypeId} {x y z : Operand} {b : Nat} (ht : P.underlying t = some (.map ke ve)) (hke : P.underlying ke = some dk)
    (hx : evP (rawOf fr) x = .map b) (hy : evP (rawOf fr) y = kf k) (hz : evP (rawOf fr) z = vf v) (hi : L[i]? = some (b, .map (l.map fun p => (kf p.1, vf p.2)))) (hN : (L.map Prod.fst).Nodup) (hbig : (mput l k v).length ≤ 140737488355328)
    (h : aopsR P ops stl r K fr (m.wth (L.set i (b, .map ((mput l k v).map fun p => (kf p.1, vf p.2)))))) :
    aopsR P ops stl (⟨none, .insert t x y z, ty, pos, af, gd⟩ :: r) K fr (m.wth L) := by
  simp only [aopsR, aopR, hg, ares, qv]
  intro n hk hn F lim w ca st
  have hopd := okOper_opd hk
  have h1 := evP_rep st (hopd x (by simp [Op.operands]))
  have h2 := evP_rep st (hopd y (by simp [Op.operands]))
  have h3 := evP_rep st (hopd z (by simp [Op.operands]))
  rw [hx] at h1
  rw [hy] at h2
  rw [hz] at h3
  have e1 : ca.eval x = .map (some b) := by generalize ca.eval x = q at h1; cases h1; rfl
  obtain ⟨w', r1, r2, r3⟩ := put_run (P := P) he st (wth_get (m := m) i hN hi) ht hke h2 h3 hbig
  rw [wth_set i hN hi] at r2
  exact ⟨.skip, undef, w', lim, _, _, by simp only [execOp, e1, Sem.run_bind, r1]; rfl, .inr ⟨rfl, rfl⟩, r2, r3, h⟩
end
end Go.Aw
namespace Go.Sx
open Go Go.Aw
section
variable {P : Program} {T : Tab} {b0 : List Nat} {fr : SFr} {L : List SObj} {m : AMem} {K : SK}
theorem mins (hT : tabOk P T = true) {κ ν : Type} [DecidableEq κ] {dk : TypeDesc} (kf : κ → AV) {kc : κ → Value} (vf : ν → AV) (he : KeyEnc dk kf kc) (l : List (κ × ν)) (k : κ) (v : ν) {t i : Nat} {ke ve : Nat} {x y z : Operand} {zz : AV} {w : SV} (hM : MpOk T t ke ve dk zz) (hx : opK fr x fun u => u = .mp i) (hi : nth L i = some (.obj (.map (l.map (mapAV kf vf)))))
    (hy : opK fr y fun u => u = .av (kf k)) (hkp : (kf k).plain = kf k) (hz : opK fr z fun u => u = w) (hw : ∀ bs, den bs w = vf v) (hbig : (mput l k v).length ≤ 140737488355328)
    (h : flK (L.set i (.obj (.map ((mput l k v).map (mapAV kf vf))))) fun L' => K fr L' m) : SOp P b0 none (.insert t x y z) fr L m K := ⟨fun new g n ops ty pos af r KK hok hn hK => by
  obtain ⟨u1, u2, z0, z1, z2⟩ := hM.get hT
  obtain ⟨v1, rfl, e1⟩ := opK_sound (b0 ++ new) hx
  obtain ⟨v2, rfl, e2⟩ := opK_sound (b0 ++ new) hy
  obtain ⟨v3, rfl, e3⟩ := opK_sound (b0 ++ new) hz
  simp only [den, hkp] at e1 e2
  rw [nth_eq] at hi
  have hD := denM_get g.len hi
  rw [flK_eq] at h
  refine aopR_sound (stl := []) hok hn ?_
  refine ar_insert (P := P) (ops := ops) (stl := []) (r := []) (K := AOps P n ops r KK) (L := denM (b0 ++ new) L) rfl i kf vf he l k v u1 u2 e1.symm e2.symm (by rw [← e3, hw]) hD g.nodup hbig ?_
  have := hK _ _ _ (b0 ++ new) (List.prefix_append _ _) (g.set i _) h
  have hset : (denM (b0 ++ new) L).set i ((b0 ++ new).getD i 0, AObj.map ((mput l k v).map fun p => (kf p.1, vf p.2))) = denM (b0 ++ new) (L.set i (.obj (.map ((mput l k v).map (mapAV kf vf))))) := by
    rcases denM_set (bs := b0 ++ new) (L := L) (i := i) (o := .obj (.map ((mput l k v).map (mapAV kf vf)))) with h | h
    · exact h
    · exfalso
      have : i < L.length := by
        rcases Nat.lt_or_ge i L.length with h | h
        · exact h
        · rw [List.getElem?_eq_none h] at hi; cases hi
      rw [g.len] at h; omega
  rw [hset]
  exact this⟩
end
end Go.Sx
end
section
namespace Go.Aw
open Go Go.MapKept
section
variable {P : Program} {F : Nat → Prop} {lim : Nat → Nat} {w w' : World} {n : Nat} {fr : Fr} {m : AMem} {ca : Act} {fl : List Nat}
variable {ops : Array Oper} {stl : List Nat} {r : List Oper} {K : Fr → AMem → Prop} {d : Nat} {ty : TypeId} {pos : String} {af : Array Edge} {gd : Option (Nat × Bool)} {L : List (Nat × AObj)}
end
end Go.Aw
namespace Go.Sx
open Go Go.Aw
theorem mem_base {bs : List Nat} {L : List SObj} {m : AMem} (g : Good bs L m) {b : Nat} {o : AObj} (h : m b = some o) : memD bs L m b = some o :=
  wth_old h fun c hc => by rw [denM_fst g.len] at hc; exact g.fresh c hc
section
variable {P : Program} {T : Tab} {b0 : List Nat} {fr : SFr} {L : List SObj} {m : AMem} {K : SK}
end
section
variable {c : Cfg} {L : List SObj} {fr : SFr} {m : AMem}
end
end Go.Sx
end
section
namespace Go.Sx
open Go Go.Aw
def MapAt {κ ν : Type} (m : AMem) (kf : κ → AV) (vf : ν → AV) (o : Option Nat) (l : List (κ × ν)) : Prop :=
  match o with
  | none => l = []
  | some b => m b = some (.map (l.map (mapAV kf vf)))
theorem MapAt.up {κ ν : Type} {m mm : AMem} {kf : κ → AV} {vf : ν → AV} {o : Option Nat} {l : List (κ × ν)} (ht : ∀ b o, m b = some o → mm b = some o) (h : MapAt m kf vf o l) : MapAt mm kf vf o l := by
  cases o with
  | none => exact h
  | some b => exact ht _ _ h
section
variable {P : Program} {T : Tab} {b0 : List Nat} {fr : SFr} {L : List SObj} {m : AMem} {K : SK}
end
end Go.Sx
end
section
namespace Go.Aw
open Go RowKit Go.Sort
open Go.Proofs (encStr)
section
variable {P : Program} {F : Nat → Prop} {lim : Nat → Nat} {w w' : World} {n : Nat} {fr : Fr} {m : AMem} {ca : Act} {fl : List Nat}
def atoiV (s : List UInt8) : Int := match Lib.atoiAll s with
  | .ok v => v
  | Lib.NumEnd.syntax => 0
  | .range => Lib.atoiSat s
def atoiE (s : List UInt8) : Bool := match Lib.atoiAll s with
  | .ok _ => false
  | _ => true
theorem atoiV_bounds (s : List UInt8) : -9223372036854775808 ≤ atoiV s ∧ atoiV s ≤ 9223372036854775807 := by
  unfold atoiV
  split
  · rename_i h; exact Lib.atoiAll_bounds h
  · decide
  · unfold Lib.atoiSat; split <;> decide
theorem tab_cell (st : St F lim w n fr m ca fl) {b : Nat} {e : TypeId} {z : Nat × Nat} {tp : TypeId} {p : Value} (hm : m b = some (.tab e z #[.iface tp p])) : w.cell? ⟨b, 0, none⟩ = some (.iface tp p) := by
  obtain ⟨os, om, ow, s⟩ := st
  have := (s.mem b _ hm).1
  cases this with
  | tab _ _ _ _ hb => simp [World.cell?, hb]
theorem atoi_any {f eB tN bE bR : Nat} {e : TypeId} {z : Nat × Nat} {tp : TypeId} {p : Value} {e2 : TypeId} {z2 : Nat × Nat} {tp2 : TypeId} {p2 : Value} (hf : ∃ fn, P.funcs[f]? = some fn ∧ fn.body.isSome = true ∧ (fn.name == "runtime.NumGoroutine") = false)
    (hok : ∀ (s : ByteArray), s.size ≤ 9223372036854775806 → ∀ v, Lib.atoiAll s.data.toList = .ok v → ∀ w : World, Calls P f #[.string s] w fun e w' => e = .returned (.tuple #[.int .i64 v, .nilIface]) ∧ (w' = w ∨ ∃ t, w' = Lib.bytesWorld w eB t))
    (hsy : ∀ (s : ByteArray), s.size ≤ 281474976710656 → Lib.atoiAll s.data.toList = Lib.NumEnd.syntax → ∀ (ev : Value) (w : World), w.cell? ⟨bE, 0, none⟩ = some ev → (ev = .nilIface ∨ ∃ te pe, ev = .iface te pe) → Calls P f #[.string s] w fun e w' => ∃ N, e = .returned (.tuple #[.int .i64 0, .iface tN (.pointer (some ⟨N, 0, none⟩))]) ∧ Below w.heap.size w w')
    (hra : ∀ (s : ByteArray), s.size ≤ 281474976710656 → Lib.atoiAll s.data.toList = .range → ∀ (ev : Value) (w : World), w.cell? ⟨bR, 0, none⟩ = some ev → (ev = .nilIface ∨ ∃ te pe, ev = .iface te pe) → Calls P f #[.string s] w fun e w' => ∃ N, e = .returned (.tuple #[.int .i64 (Lib.atoiSat s.data.toList), .iface tN (.pointer (some ⟨N, 0, none⟩))]) ∧ Below w.heap.size w w')
    {s : List UInt8} {K : AV → AMem → Prop} (hm : m bE = some (.tab e z #[.iface tp p])) (hm2 : m bR = some (.tab e2 z2 #[.iface tp2 p2]))
    (hK : K (.tuple [.int .i64 (atoiV s), .opt (atoiE s)]) m) : ACalls P f [.str s] m K := by
  refine ⟨hf, fun F lim w cargs hsz hr st => ?_⟩
  obtain ⟨x, rfl⟩ := one_arg hsz
  have r0 : Rep w lim x (.str s) [] := hr 0 (by simp)
  obtain ⟨b, rfl, hbs, hbl⟩ : ∃ b : ByteArray, x = .string b ∧ b.data.toList = s ∧ b.size ≤ 140737488355328 := by
    cases r0 with
    | str b hb => exact ⟨b, rfl, rfl, hb⟩
  have tup : ∀ {w1 : World} {n : Int} {v : Value} {o : Bool}, -9223372036854775808 ≤ n → n ≤ 9223372036854775807 → Rep w1 lim v (.opt o) [] → Rep w1 lim (.tuple #[.int .i64 n, v]) (.tuple [.int .i64 n, .opt o]) [] := fun {w1 n v o} h1 h2 h3 => by
    have := Rep.tuple (w := w1) (lim := lim) #[.int .i64 n, v] [.int .i64 n, .opt o] (fun _ => []) rfl (fun i hi => by
      match i, hi with
      | 0, _ => exact .int .i64 n h1 h2
      | 1, _ => exact h3)
    exact this
  have hB := atoiV_bounds s
  unfold atoiV at hB hK
  unfold atoiE at hK
  cases ha : Lib.atoiAll s with
  | ok v =>
    rw [ha] at hK hB
    refine (hok b (by omega) v (by rw [hbs]; exact ha) w).mono fun e1 w3 ⟨he, hw⟩ => ?_
    subst he
    rcases hw with rfl | ⟨t, rfl⟩
    · exact ⟨_, _, lim, _, [], rfl, hK, tup hB.1 hB.2 .optN, st, .refl _ _ _⟩
    · exact ⟨_, _, lim, _, [], rfl, hK, tup hB.1 hB.2 .optN, st.below (Lib.bytesWorld_below _ _ _), pres_below st (Lib.bytesWorld_below _ _ _)⟩
  | range =>
    rw [ha] at hK hB
    refine (hra b (by omega) (by rw [hbs]; exact ha) _ w (tab_cell st hm2) (.inr ⟨tp2, p2, rfl⟩)).mono fun e1 w3 ⟨N, he, hw⟩ => ?_
    rw [hbs] at he
    subst he
    exact ⟨_, _, lim, _, [], rfl, hK, tup hB.1 hB.2 (.optS _ _), st.below hw, pres_below st hw⟩
  | _ =>
    rw [ha] at hK hB
    refine (hsy b (by omega) (by rw [hbs]; exact ha) _ w (tab_cell st hm) (.inr ⟨tp, p, rfl⟩)).mono fun e1 w3 ⟨N, he, hw⟩ => ?_
    subst he
    exact ⟨_, _, lim, _, [], rfl, hK, tup hB.1 hB.2 (.optS _ _), st.below hw, pres_below st hw⟩
theorem rep_str_val {v : Value} {s : List UInt8} (h : Rep w lim v (.str s) []) : ∃ b : ByteArray, v = .string b ∧ b.data.toList = s ∧ b.size ≤ 140737488355328 := by
  cases h with
  | str b hb => exact ⟨b, rfl, rfl, hb⟩
theorem trimPrefix_len (s p : List UInt8) : (Lib.trimPrefix s p).length ≤ s.length := by
  unfold Lib.trimPrefix
  split
  · simp
  · exact Nat.le_refl _
theorem cutPrefix_calls {f : Nat} (hf : ∃ fn, P.funcs[f]? = some fn ∧ fn.body.isSome = true ∧ (fn.name == "runtime.NumGoroutine") = false)
    (hC : ∀ (s p : ByteArray) (w : World), Calls P f #[.string s, .string p] w fun e w' => e = .returned (.tuple #[.string ⟨(Lib.trimPrefix s.data.toList p.data.toList).toArray⟩, .bool (Lib.hasPrefix s.data.toList p.data.toList)]) ∧ w' = w)
    {s p : List UInt8} {K : AV → AMem → Prop} (hK : K (.tuple [.str (Lib.trimPrefix s p), .bool (Lib.hasPrefix s p)]) m) : ACalls P f [.str s, .str p] m K := by
  refine ⟨hf, fun F lim w cargs hsz hr st => ?_⟩
  obtain ⟨x, y, rfl⟩ := two_args hsz
  obtain ⟨a, rfl, ha, hl⟩ := rep_str_val (hr 0 (by simp) : Rep w lim x (.str s) [])
  obtain ⟨b, rfl, hb, _⟩ := rep_str_val (hr 1 (by simp) : Rep w lim y (.str p) [])
  refine (hC a b w).mono fun e1 w3 ⟨he, hw⟩ => ?_
  subst hw
  rw [ha, hb] at he
  refine ⟨_, _, lim, _, [], he, hK, ?_, st, .refl _ _ _⟩
  have hlen : (Lib.trimPrefix s p).length ≤ 140737488355328 := by
    have := trimPrefix_len s p
    have h2 : s.length = a.size := by rw [← ha]; exact Array.length_toList
    omega
  have h1 : Rep w3 lim (.string ⟨(Lib.trimPrefix s p).toArray⟩) (.str (Lib.trimPrefix s p)) [] := rep_str_mk hlen
  have := Rep.tuple (w := w3) (lim := lim) #[.string ⟨(Lib.trimPrefix s p).toArray⟩, .bool (Lib.hasPrefix s p)] [.str (Lib.trimPrefix s p), .bool (Lib.hasPrefix s p)] (fun _ => []) rfl (fun i hi => by
    match i, hi with
    | 0, _ => exact h1
    | 1, _ => exact .bool _)
  exact this
theorem rep_strs {v : Value} {l : List (List UInt8)} {os : List Nat} (h : Rep w lim v (.slice false (l.map strAV)) os) : (l = [] ∧ ∃ a c, v = .slice a 0 c ∧ (a = none → c = 0)) ∨
    ∃ b off c, v = .slice (some ⟨b, off, none⟩) l.length c ∧ l.length ≤ 140737488355328 ∧ ∃ zs : List ByteArray, zs.map (fun z => z.data.toList) = l ∧ ∀ j, j < zs.length → w.cell? ⟨b, off + j, none⟩ = some (.string (zs.getD j ByteArray.empty)) := by
  generalize hx : AV.slice false (l.map strAV) = x at h
  cases h <;> first | (cases hx; done) | skip
  case nils o => injection hx with h1 h2; exact .inl ⟨by simpa using h2, none, 0, rfl, fun _ => rfl⟩
  case empty a cap hm => injection hx with h1 h2; exact .inl ⟨by simpa using h2, some a, cap, rfl, fun h => by cases h⟩
  case slice b off n cap sz L cv hn hcap hm hbig hsz hlim hc hr =>
    injection hx with h1 h2
    subst h2
    have hl : l.length = n := by simpa using hn
    subst hl
    rcases Nat.eq_zero_or_pos l.length with h0 | h0
    · refine .inl ⟨List.eq_nil_of_length_eq_zero h0, some ⟨b, off, none⟩, cap, by rw [h0], fun h => by cases h⟩
    · have hs1 : sz = 1 := by
        have := hsz 0 h0
        simpa [List.getD_eq_getElem?_getD, h0, strAV, AV.cells] using this.symm
      subst hs1
      have key : ∀ i, i < l.length → ∃ z : ByteArray, cv i 0 = .string z ∧ z.data.toList = l.getD i [] := fun i hi => by
        have h3 := hr i 0 hi (by decide)
        have e2 : (((l.map strAV).getD i .junk).cells.getD 0 .junk) = .str (l.getD i []) := by simp [List.getD_eq_getElem?_getD, hi, strAV, AV.cells]
        rw [e2] at h3
        obtain ⟨z, h4, h5, _⟩ := rep_str_val h3
        exact ⟨z, h4, h5⟩
      let g : Nat → ByteArray := fun i => if h : i < l.length then (key i h).choose else ByteArray.empty
      refine .inr ⟨b, off, cap, rfl, hbig, (List.range l.length).map g, ?_, fun j hj => ?_⟩
      · apply List.ext_getElem?
        intro i
        simp only [List.getElem?_map]
        by_cases hi : i < l.length
        · rw [List.getElem?_range hi, List.getElem?_eq_getElem hi]
          simp only [Option.map_some, g, dif_pos hi]
          rw [(key i hi).choose_spec.2]
          simp [List.getD_eq_getElem?_getD, hi]
        · rw [List.getElem?_eq_none (by simpa using hi), List.getElem?_eq_none (by omega)]; rfl
      · have hj' : j < l.length := by simpa using hj
        have h6 := hc j 0 hj' (by decide)
        simp only [Nat.mul_one, Nat.add_zero] at h6
        rw [h6, (key j hj').choose_spec.1]
        simp [List.getD_eq_getElem?_getD, hj', g]
theorem contains_calls {f : Nat} (hf : ∃ fn, P.funcs[f]? = some fn ∧ fn.body.isSome = true ∧ (fn.name == "runtime.NumGoroutine") = false)
    (hC : ∀ (b off n c : Nat) (zs : List ByteArray) (x : ByteArray) (w : World), n ≤ zs.length → n ≤ 9223372036854775807 → (∀ j, j < zs.length → w.cell? ⟨b, off + j, none⟩ = some (.string (zs.getD j ByteArray.empty))) →
      Calls P f #[.slice (some ⟨b, off, none⟩) n c, .string x] w fun e w' => e = .returned (.bool (Lib.containsS (zs.take n) x)) ∧ w' = w)
    (h0 : ∀ (a : Option Addr) (c : Nat) (x : ByteArray) (w : World), Calls P f #[.slice a 0 c, .string x] w fun e w' => e = .returned (.bool false) ∧ w' = w)
    {l : List (List UInt8)} {s : List UInt8} {K : AV → AMem → Prop} (hK : K (.bool (decide (s ∈ l))) m) : ACalls P f [.slice false (l.map strAV), .str s] m K := by
  refine ⟨hf, fun F lim w cargs hsz hr st => ?_⟩
  obtain ⟨x, y, rfl⟩ := two_args hsz
  obtain ⟨b, rfl, hb, _⟩ := rep_str_val (hr 1 (by simp) : Rep w lim y (.str s) [])
  rcases rep_strs (hr 0 (by simp) : Rep w lim x (.slice false (l.map strAV)) []) with ⟨rfl, a, c, rfl, _⟩ | ⟨bb, off, c, rfl, hl, zs, hz, hcl⟩
  · refine (h0 a c b w).mono fun e1 w3 ⟨he, hw⟩ => ?_
    subst hw
    exact ⟨_, _, lim, _, [], he, by simpa using hK, .bool _, st, .refl _ _ _⟩
  · have hlz : zs.length = l.length := by rw [← hz]; simp
    refine (hC bb off l.length c zs b w (by omega) (by omega) hcl).mono fun e1 w3 ⟨he, hw⟩ => ?_
    subst hw
    have e2 : Lib.containsS (zs.take l.length) b = decide (s ∈ l) := by
      rw [List.take_of_length_le (by omega)]
      rw [Bool.eq_iff_iff, Lib.containsS_iff, decide_eq_true_eq, ← hz]
      constructor
      · intro h1; rw [← hb]; exact List.mem_map.2 ⟨_, h1, rfl⟩
      · intro h1
        obtain ⟨z, h2, h3⟩ := List.mem_map.1 h1
        rw [← hb] at h3
        have : z = b := by
          cases z; cases b
          simp only at h3
          congr 1
          exact Array.toList_inj.1 h3
        rwa [← this]
    rw [e2] at he
    exact ⟨_, _, lim, _, [], he, hK, .bool _, st, .refl _ _ _⟩
end
end Go.Aw
end
section
namespace Go.Aw
open Go RowKit Go.Sort
open Go.Proofs (encStr)
section
variable {P : Program} {F : Nat → Prop} {lim : Nat → Nat} {w w' : World} {n : Nat} {fr : Fr} {m : AMem} {ca : Act} {fl : List Nat}
theorem St.addRow (h : St F lim w n fr m ca fl) (hB : Below w.heap.size w w') {g : Nat} {cs : Array Value} {e : TypeId} (hg : w.heap.size ≤ g) (hh : w'.heap[g]? = some (.cells cs e (0, 0))) (l : List AV) (hs : cs.size = l.length) (hr : ∀ i, i < l.length → Rep w' lim (cs.getD i undef) (l.getD i .junk) []) :
    m g = none ∧ St F lim w' n fr (m.upd g (some (.cells l))) ca fl := by
  have hP := pres_below h hB
  have hgl : g < w'.heap.size := (Array.getElem?_eq_some_iff.1 hh).1
  have hF : ¬ F g := fun hf => absurd (h.lt_of_F hf) (by omega)
  obtain ⟨os0, om0, ow0, h0⟩ := h
  have hm : m g = none := (h0.fresh g hg).2.2
  have hz : lim g = 0 := (h0.fresh g hg).1
  refine ⟨hm, ?_⟩
  refine ⟨os0, fun b i => if b = g then [] else om0 b i, ow0, h0.size, h0.defers, fun t x hx => ?_, fun b o hb => ?_, h0.ownS, fun b o hb => ?_, h0.ownF, fun c hc => ?_, fun b hb => ?_⟩
  · refine ⟨(h0.slots t x hx).1, (h0.slots t x hx).2.stable (fun _ => Nat.le_refl _) hP.cell (fun c hc => ⟨hB.block c ?_, rfl⟩)⟩
    exact (h0.free c (by rw [(h0.ownS t x hx).2 c hc]; simp)).2.2
  · by_cases hbw : b = g
    · subst hbw
      simp only [AMem.upd, ↓reduceIte, Option.some.injEq] at hb ⊢
      subst hb
      exact ⟨MRep.cells cs e l (fun _ => []) hh hs hr, hz, hF⟩
    · simp only [AMem.upd, if_neg hbw] at hb ⊢
      have hlt : b < w.heap.size := by
        rcases Nat.lt_or_ge b w.heap.size with hb' | hb'
        · exact hb'
        · have := (h0.fresh b hb').2.2; rw [hb] at this; cases this
      refine ⟨(h0.mem b o hb).1.stable (hB.block b hlt) (fun _ => Nat.le_refl _) hP.cell (fun i c hc => ⟨hB.block c ?_, rfl⟩), (h0.mem b o hb).2⟩
      exact (h0.free c (by rw [(h0.ownM b o hb i).2 c hc]; simp)).2.2
  · by_cases hbw : b = g
    · simp [hbw]
    · simp only [AMem.upd, if_neg hbw] at hb ⊢
      exact h0.ownM b o hb
  · have h1 := h0.free c hc
    have hcg : c ≠ g := fun e => by have := h1.2.2; omega
    refine ⟨h1.1, ?_, Nat.lt_of_lt_of_le h1.2.2 hB.size⟩
    simp only [AMem.upd]
    rw [if_neg hcg]
    exact h1.2.1
  · have h1 := h0.fresh b (Nat.le_trans hB.size hb)
    refine ⟨h1.1, h1.2.1, ?_⟩
    simp only [AMem.upd]
    rw [if_neg (by omega)]
    exact h1.2.2
def rowJ (ss : List (List UInt8)) (t : Nat) : AObj := .cells (ss.map strAV ++ List.replicate t .junk)
theorem clone_calls {f : Nat} {eT : TypeId} (hf : ∃ fn, P.funcs[f]? = some fn ∧ fn.body.isSome = true ∧ (fn.name == "runtime.NumGoroutine") = false)
    (hC : ∀ (b off n c : Nat) (zs : List ByteArray) (w : World), n ≤ zs.length → n * 16 ≤ 140737488355328 → (∀ j, j < zs.length → w.cell? ⟨b, off + j, none⟩ = some (.string (zs.getD j ByteArray.empty))) →
      Calls P f #[.slice (some ⟨b, off, none⟩) n c] w fun e w' => ∃ v', e = .returned v' ∧ w'.ownsRow w.heap.size eT 1 v' n ((zs.take n).map (Value.string)) ∧ v' ≠ .slice none 0 0 ∧ Below w.heap.size w w')
    {l : List (List UInt8)} (hne : l ≠ []) (hl : l.length * 16 ≤ 140737488355328) {K : AV → AMem → Prop}
    (hK : ∀ b cap t, m b = none → l.length ≤ cap → K (.ms ⟨b, 0, none⟩ l.length cap) (m.upd b (some (rowJ l t)))) : ACalls P f [.slice false (l.map strAV)] m K := by
  refine ⟨hf, fun F lim w cargs hsz hr st => ?_⟩
  obtain ⟨x, rfl⟩ := one_arg hsz
  rcases rep_strs (hr 0 (by simp) : Rep w lim x (.slice false (l.map strAV)) []) with ⟨h0, _⟩ | ⟨bb, off, c, rfl, hl2, zs, hz, hcl⟩
  · exact absurd h0 hne
  · have hlz : zs.length = l.length := by rw [← hz]; simp
    refine (hC bb off l.length c zs w (by omega) hl hcl).mono fun e1 w3 ⟨v', he, ho, hv, hB⟩ => ?_
    obtain ⟨h1, h2 | ⟨g, cap, cur, h3, h4, h5, h6, h7, h8, h9⟩⟩ := ho
    · exact absurd h2.1 hv
    · have hcs : cur.size = (l.map strAV ++ List.replicate (cap - l.length) AV.junk).length := by simp; omega
      have hbound : ∀ s ∈ l, s.length ≤ 140737488355328 := fun s hs => by
        have hx := hr 0 (by simp)
        obtain ⟨i, hi, rfl⟩ := List.getElem_of_mem hs
        generalize hX : ((#[Value.slice (some ⟨bb, off, none⟩) l.length c] : Array Value).getD 0 undef) = v0 at hx
        replace hx : Rep w lim v0 (.slice false (l.map strAV)) [] := hx
        generalize hy : AV.slice false (l.map strAV) = y at hx
        generalize hos : ([] : List Nat) = os0 at hx
        cases hx <;> first | (cases hy; done) | skip
        case nils o => injection hy with _ q; exact absurd (by simpa using q) hne
        case empty a cap hm => injection hy with _ q; exact absurd (by simpa using q) hne
        case slice b0 off0 n0 cap0 sz0 L0 cv0 hn0 hcap0 hm0 hbig0 hsz0 hlim0 hc0 hr0 =>
          injection hy with _ q
          subst q
          have hi0 : i < n0 := by rw [← hn0]; simpa using hi
          have e2 : ((l.map strAV).getD i .junk) = .str l[i] := by simp [List.getD_eq_getElem?_getD, hi, strAV]
          have hs1 := hsz0 i hi0
          rw [e2] at hs1
          have h3 := hr0 i 0 hi0 (by rw [← hs1]; exact Nat.one_pos)
          rw [e2] at h3
          exact (rep_str_all (show Rep w lim _ (.str l[i]) [] from h3)).2.1
      have hcell : ∀ i, i < l.length → cur.getD i undef = encStr (l.getD i []) := fun i hi => by
        have hi2 : i < cur.size := by omega
        have q : cur.toList[i]? = some (Value.string (zs.getD i ByteArray.empty)) := by
          have := congrArg (fun L => L[i]?) h9
          simp only [List.getElem?_take, List.getElem?_map] at this
          rw [if_pos (by omega)] at this
          rw [this, if_pos hi, List.getElem?_eq_getElem (by omega)]
          simp [List.getD_eq_getElem?_getD, show i < zs.length by omega]
        have q2 : l.getD i [] = (zs.getD i ByteArray.empty).data.toList := by
          rw [← hz]
          simp [List.getD_eq_getElem?_getD, show i < zs.length by omega]
        rw [Array.getD, dif_pos hi2]
        have q3 : cur.toList[i]? = some cur[i] := by simp [hi2]
        rw [q3] at q
        have q4 := Option.some.inj q
        rw [q2]
        show cur[i] = _
        rw [q4]
      obtain ⟨hm, hst⟩ := st.addRow hB h4 h5 (l.map strAV ++ List.replicate (cap - l.length) AV.junk) hcs (fun i hi => by
        by_cases hil : i < l.length
        · rw [hcell i hil]
          have e2 : (l.map strAV ++ List.replicate (cap - l.length) AV.junk).getD i .junk = .str (l.getD i []) := by
            rw [List.getD_eq_getElem?_getD, List.getElem?_append_left (by simpa using hil)]
            simp [List.getD_eq_getElem?_getD, hil, strAV]
          rw [e2]
          exact rep_str_mk (hbound _ (by rw [List.getD_eq_getElem?_getD, List.getElem?_eq_getElem hil]; exact List.getElem_mem _))
        · have e2 : (l.map strAV ++ List.replicate (cap - l.length) AV.junk).getD i .junk = .junk := by
            rw [List.getD_eq_getElem?_getD, List.getElem?_append_right (by simpa using Nat.le_of_not_lt hil)]
            simp only [List.getElem?_replicate]
            split <;> rfl
          rw [e2]; exact .junk _)
      subst h3
      exact ⟨_, _, lim, _, [], he, hK g cap (cap - l.length) hm h6, .ms _ _ _ h6 h7, hst, pres_below st hB⟩
theorem clone_calls0 {f : Nat} {eT : TypeId} (hf : ∃ fn, P.funcs[f]? = some fn ∧ fn.body.isSome = true ∧ (fn.name == "runtime.NumGoroutine") = false)
    (hN : ∀ (n c : Nat) (w : World), Calls P f #[.slice none n c] w fun e w' => e = .returned (.slice none 0 0) ∧ w' = w)
    (hZ : ∀ (a : Addr) (c : Nat) (w : World), Calls P f #[.slice (some a) 0 c] w fun e w' => ∃ v', e = .returned v' ∧ w'.ownsRow w.heap.size eT 1 v' 0 [] ∧ v' ≠ .slice none 0 0 ∧ Below w.heap.size w w')
    {K : AV → AMem → Prop} (hK : K (.slice false []) m) : ACalls P f [.slice false []] m K := by
  refine ⟨hf, fun F lim w cargs hsz hr st => ?_⟩
  obtain ⟨x, rfl⟩ := one_arg hsz
  rcases rep_strs (l := []) (hr 0 (by simp) : Rep w lim x (.slice false ([].map strAV)) []) with ⟨_, a, c, rfl, _⟩ | ⟨bb, off, c, rfl, hl2, zs, hz, hcl⟩
  · cases a with
    | none =>
      refine (hN 0 c w).mono fun e1 w3 ⟨he, hw⟩ => ?_
      subst hw
      exact ⟨_, _, lim, _, [], he, hK, .nils false, st, .refl _ _ _⟩
    | some a =>
      refine (hZ a c w).mono fun e1 w3 ⟨v', he, ho, hv, hB⟩ => ?_
      obtain ⟨h1, h2 | ⟨g, cap, cur, h3, h4, h5, h6, h7, h8, h9⟩⟩ := ho
      · exact absurd h2.1 hv
      · subst h3
        exact ⟨_, _, lim, _, [], he, hK, .empty _ _ h7, st.below hB, pres_below st hB⟩
  · refine (hZ ⟨bb, off, none⟩ c w).mono fun e1 w3 ⟨v', he, ho, hv, hB⟩ => ?_
    obtain ⟨h1, h2 | ⟨g, cap, cur, h3, h4, h5, h6, h7, h8, h9⟩⟩ := ho
    · exact absurd h2.1 hv
    · subst h3
      exact ⟨_, _, lim, _, [], he, hK, .empty _ _ h7, st.below hB, pres_below st hB⟩
end
end Go.Aw
end
