/-
  The executor: a row that is written no more is a list.
-/
import Derived.Test.YtkgpejbkiacbmaaDoorWyR
import Derived.Test.YtkgpejbkiacbmaaDoorWxz
import Derived.Lib.AtoiErrMem
import Derived.Lib.Atoi
import Derived.Below
import Derived.Lib.AtoiAllCases
import Derived.Shelf.Strconv.AtoiAll
import Derived.Shelf.Strings.Prefix
import Derived.Shelf.Slices.Clone
import Derived.Shelf.Slices.CompactS
import Derived.Shelf.Slices.Turned
import Derived.Shelf.Small.Wraps
import Derived.Lib.RowBridge
import Derived.Test.YtkgpejbkiacbmaaDoorProg
import Derived.Test.YtkgpejbkiacbmaaDoorWxf
import Derived.Shelf.Small.Bits
import Derived.Shelf.LaysM
import Derived.Shelf.Strconv.Itoa3
import Derived.Shelf.LaysC
import Derived.Shelf.Sort.Plain
import Derived.Shelf.Slices.In.SortNone
section
namespace Go.Aw
open Go
section
variable {P : Program} {F : Nat → Prop} {lim : Nat → Nat} {w : World} {n : Nat} {fr : Fr} {m : AMem} {ca : Act} {fl : List Nat}
theorem St.convSlot (st : St F lim w n fr m ca fl) {s : Nat} {x y : AV} (hs : fr.get s = some x) (hc : ∀ v os, Rep w lim v x os → Rep w lim v y []) : St F lim w n (fr.put s y) m ca fl := by
  obtain ⟨os, om, ow, h⟩ := st
  refine ⟨fun t => if t = s then [] else os t, om, ow, h.size, h.defers, fun t z hz => ?_, h.mem, fun t z hz => ?_, h.ownM, h.ownF, h.free, h.fresh⟩
  · rw [Fr.get_put] at hz
    by_cases e : t = s
    · subst e
      simp only [if_true, Option.some.injEq] at hz ⊢
      subst hz
      exact ⟨(h.slots t x hs).1, hc _ _ (h.slots t x hs).2⟩
    · rw [if_neg (fun h => e h.symm)] at hz
      rw [if_neg e]
      exact h.slots t z hz
  · rw [Fr.get_put] at hz
    by_cases e : t = s
    · simp [e]
    · rw [if_neg (fun h => e h.symm)] at hz
      simp only [if_neg e]
      exact h.ownS t z hz
end
end Go.Aw
namespace Go.Sx
open Go Go.Aw
mutual
theorem den_congr {bs bs' : List Nat} (h : ∀ j, bs.getD j 0 = bs'.getD j 0) : ∀ (v : SV), den bs v = den bs' v
  | .av _ | .own _ | .b _ | .off => by simp only [den]
  | .loc j o | .ms j o c | .mp j | .elt j k w q | .sl j k w q => by simp only [den, h]
  | .agg l => by simp only [den, denL_congr h l]
  | .tup l => by simp only [den, denL_congr h l]
  | .fn f a c => by simp only [den, denL_congr h a, denL_congr h c]
theorem denL_congr {bs bs' : List Nat} (h : ∀ j, bs.getD j 0 = bs'.getD j 0) : ∀ (l : List SV), denL bs l = denL bs' l
  | [] => by simp only [denL]
  | v :: r => by simp only [denL, den_congr h v, denL_congr h r]
end
theorem denF_congr {bs bs' : List Nat} (h : ∀ j, bs.getD j 0 = bs'.getD j 0) : ∀ (fr : SFr), denF bs fr = denF bs' fr
  | [] => rfl
  | (t, v) :: r => by simp only [denF, den_congr h v, denF_congr h r]
theorem denO_congr {bs bs' : List Nat} (h : ∀ j, bs.getD j 0 = bs'.getD j 0) (o : SObj) : denO bs o = denO bs' o := by
  cases o with
  | cells l => simp only [denO, denL_congr h l]
  | obj o => rfl
section
variable {bs : List Nat} {L L' : List SObj} {m : AMem} {fr : SFr}
theorem good_take {i : Nat} (g : Good bs L m) (hi : i + 1 = L.length) (hl : L'.length = i) : Good (bs.take i) L' m := by
  have := g.len
  exact ⟨g.nd.sublist (List.take_sublist _ _), by rw [List.length_take, hl]; omega, fun b hb => g.fresh b (List.mem_of_mem_take hb)⟩
theorem take_getD {i : Nat} (hi : bs.length = i + 1) : ∀ j, (bs.take i).getD j 0 = (bs.set i 0).getD j 0 := fun j => by
  simp only [List.getD_eq_getElem?_getD, List.getElem?_take, List.getElem?_set]
  by_cases h : j < i
  · rw [if_pos h, if_neg (by omega)]
  · rw [if_neg h]
    by_cases e : i = j
    · subst e; rw [if_pos rfl, if_pos (by omega)]; rfl
    · rw [if_neg e, List.getElem?_eq_none (by omega)]
theorem cvfS {c : Cfg} {A : SK} {R : Prop} {α : Type} (f : α → AV) (zs : List α) (ys : List AV) (s : Nat) {i k cap w : Nat} (hL : nth L i = some (.obj (.cells (flatK f zs)))) (hi : (Nat.beq (i + 1) L.length && Nat.ble c.bs.length i) = true) (hs : sgK fr s fun v => v = .ms i k cap)
    (hf : ∀ a, (f a).cells.length = w) (hpos : 0 < w) (hp : ∀ a, (f a).plain = f a) (hk : k ≤ zs.length ∧ k ≤ 140737488355328) (hy : (zs.take k).map f = ys)
    (h : fgF i ((s, .av (.slice false ys)) :: fr) fun fr' => fgM i (L.take i) fun L' => A fr' L' m) : SOr (SCv c A fr L m) R := ⟨.inl ⟨fun new g n cd Q hQ F lim wd ca st => by
  simp only [Bool.and_eq_true] at hi
  have hi1 := Nat.eq_of_beq_eq_true hi.1
  have hi2 := Nat.le_of_ble_eq_true hi.2
  rw [nth_eq] at hL
  obtain ⟨fr', h1, hF⟩ := fgF_sound h
  obtain ⟨L', h2, hl2, hM⟩ := fgM_sound h1
  generalize hB : c.bs ++ new = B at g st
  have hBl := g.len
  have hL2 : L'.length = i := by rw [hl2, List.length_take]; omega
  have hm := mem_get g hL
  simp only [denO] at hm
  obtain ⟨s1, s2, s3⟩ := Aw.St.freezeK st hf hpos hp hm
  have hslot := sgK_get (bs := B) hs (by simp)
  simp only [den] at hslot
  have st2 := Aw.St.convSlot s1 (y := .slice false ys) hslot (fun v os hr => by
    have e := ms_none hr
    subst e
    obtain ⟨e1, e2, e3⟩ := rep_ms_inv hr
    rw [← hy]
    exact s3 k cap v hk.1 hk.2 (by rw [e1]; exact .ms _ _ _ e2 e3))
  have g' : Good (B.take i) L' m := good_take g hi1 hL2
  have hpre : c.bs <+: B.take i := by
    rw [← hB, List.take_append, List.take_of_length_le hi2]
    exact List.prefix_append _ _
  have hmle : MLe (memD (B.take i) L' m) ((memD B L m).upd (B.getD i 0) none) := by
    intro b o' hb
    rcases memD_get g' hb with ⟨q, x, q1, q2, rfl⟩ | ⟨q1, q2⟩
    · obtain ⟨o, q3, q4⟩ := hM B 0 q x q2
      have hqi : q < i := by
        rcases Nat.lt_or_ge q i with h | h
        · exact h
        · rw [List.getElem?_eq_none (by omega)] at q2; cases q2
      rw [List.getElem?_take_of_lt hqi] at q1 q3
      rw [← denO_congr (take_getD (bs := B) (i := i) (by omega)) x] at q4
      have eb : B.getD q 0 = b := by rw [List.getD_eq_getElem?_getD, q1]; rfl
      have hqn : b ≠ B.getD i 0 := fun e => by
        have := getD_inj g.nd (by omega) (by omega) (eb.trans e)
        omega
      have hg := mem_get g q3
      rw [eb] at hg
      exact ⟨denO B o, by simp only [AMem.upd, if_neg hqn]; exact hg, q4⟩
    · have hbB : b ∉ B := fun hb2 => by rw [g.fresh b hb2] at q2; cases q2
      have h5 : b ≠ B.getD i 0 := fun e => hbB (by rw [e, List.getD_eq_getElem?_getD, List.getElem?_eq_getElem (by omega)]; exact List.getElem_mem _)
      refine ⟨o', ?_, .inl rfl⟩
      simp only [AMem.upd, if_neg h5, memD]
      rw [wth_other (by rw [denM_fst g.len]; exact hbB)]
      exact q2
  have hle : Le (denF (B.take i) fr') ((denF B fr).put s (.slice false ys)) := by
    rw [denF_congr (take_getD (bs := B) (i := i) (by omega))]
    have := hF B 0
    simp only [denF, den, AV.plain] at this
    exact this
  have hA := AWP.less hle (AWP.lessM hmle (hQ fr' L' m (B.take i) hpre g' h2))
  exact wp_mono (hA F _ wd ca st2) fun e a w' ⟨l, f, m', q, st', pr⟩ => ⟨l, f, m', q, st', s2.trans pr⟩⟩⟩
theorem cv0 {c : Cfg} {A : SK} {R : Prop} (h : A fr L m) : SOr (SCv c A fr L m) R := ⟨.inl ⟨fun new g n cd Q hQ => hQ fr L m (c.bs ++ new) (List.prefix_append _ _) g h⟩⟩
end
end Go.Sx
end
section
namespace Go.Sx
open Go Go.Aw
def errC (E : Nat) : List SV → List SV
  | [] => []
  | v :: r => errS E v :: errC E r
def errO (E : Nat) : SObj → SObj
  | .cells l => .cells (errC E l)
  | .obj o => .obj o
def errL (E : Nat) : List SObj → List SObj
  | [] => []
  | o :: r => errO E o :: errL E r
section
variable {fr : SFr} {L : List SObj} {m : AMem}
theorem errC_len (E : Nat) : ∀ (l : List SV), (errC E l).length = l.length
  | [] => rfl
  | v :: r => by simp only [errC, List.length_cons, errC_len E r]
theorem errL_len (E : Nat) : ∀ (l : List SObj), (errL E l).length = l.length
  | [] => rfl
  | v :: r => by simp only [errL, List.length_cons, errL_len E r]
theorem errC_le (bs : List Nat) (E : Nat) : ∀ (l : List SV) (i : Nat), LeV ((denL bs (errC E l)).getD i .junk) ((denL bs l).getD i .junk)
  | [], i => .inl rfl
  | v :: r, 0 => by simp only [errC, denL, List.getD_cons_zero]; exact errS_le bs E v
  | v :: r, i + 1 => by simp only [errC, denL, List.getD_cons_succ]; exact errC_le bs E r i
theorem errO_le (bs : List Nat) (E : Nat) (o : SObj) : OLe (denO bs (errO E o)) (denO bs o) := by
  cases o with
  | obj o => exact .inl rfl
  | cells l => exact .inr ⟨_, _, rfl, rfl, by rw [denL_len, denL_len, errC_len], errC_le bs E l⟩
theorem errL_get (E : Nat) : ∀ (l : List SObj) (i : Nat), (errL E l)[i]? = (l[i]?).map (errO E)
  | [], i => by simp [errL]
  | v :: r, 0 => by simp [errL]
  | v :: r, i + 1 => by simp [errL, errL_get E r i]
theorem ACalls.lessM {P : Program} {f : FuncId} {args : List AV} {K : AV → AMem → Prop} {m' : AMem} (hs : MLe m' m) (h : ACalls P f args m' K) : ACalls P f args m K :=
  ⟨h.1, fun F lim w cargs hsz hr st => h.2 F lim w cargs hsz hr (St.lessM st hs)⟩
theorem MLe.wth {bs : List Nat} {is : List Nat} {os os' : List SObj} {mm : AMem} (hN : (blks bs is).Nodup) (hl : is.length = os.length) (hl' : os'.length = os.length) (h : ∀ (i : Nat) o', os'[i]? = some o' → ∃ o, os[i]? = some o ∧ OLe (denO bs o') (denO bs o)) : MLe (mm.wth (pk bs is os')) (mm.wth (pk bs is os)) := by
  intro b o' hb
  by_cases hm : b ∈ blks bs is
  · obtain ⟨i, him, rfl⟩ := blks_mem hm
    obtain ⟨j, hj⟩ := List.getElem?_of_mem him
    have hjl : j < os'.length := by
      rcases Nat.lt_or_ge j is.length with h | h
      · omega
      · rw [List.getElem?_eq_none h] at hj; cases hj
    have ho' := List.getElem?_eq_getElem hjl
    obtain ⟨o, ho, hle⟩ := h j _ ho'
    rw [pk_get hN (by omega) hj ho'] at hb
    obtain rfl := Option.some.inj hb
    exact ⟨_, pk_get hN hl hj ho, hle⟩
  · rw [pk_other hm] at hb
    exact ⟨o', by rw [pk_other hm]; exact hb, .inl rfl⟩
theorem callX {b0 : List Nat} {P : Program} {f : FuncId} {vs : List SV} {Q : SV → List SObj → AMem → Prop} {σ : Type} (E : Nat) (is : List Nat) (I : σ → Prop) (y : σ → SV) (os : σ → List SObj) (hi : isOk L.length is = true) (hl : ∀ x, (os x).length = is.length)
    (h : ∀ bs (mm : AMem), Gd (blks bs is) mm → (∀ b o, m b = some o → mm b = some o) → ∀ (K : AV → AMem → Prop), (∀ x, I x → K (den bs (y x)) (mm.wth (pk bs is (os x)))) → ACalls P f (denL bs vs) (mm.wth (pk bs is (errL E (getL L is)))) K)
    (hQ : ∀ x, I x → flK (setL L is (os x)) fun L' => Q (y x) L' m) : SCall P b0 f vs fr L m Q := by
  refine ⟨σ, I, y, fun x => setL L is (os x), fun _ => m, fun new g K hK => ?_, fun x => by rw [setL_len, Nat.beq_refl]; rfl, fun x hx => by have := hQ x hx; rwa [flK_eq] at this⟩
  have hN := blks_nodup g.nd (by rw [g.len]; exact hi)
  have e1 := mem_pk g hi (getL_len L is).symm
  rw [setL_get_self hi] at e1
  rw [e1]
  refine ACalls.lessM (MLe.wth hN (getL_len L is).symm (errL_len E _) fun i o' ho' => ?_) (h (b0 ++ new) _ ⟨hN, fun b hb => by simp [restM, hb]⟩ (fun b o hb => ?_) K fun x hx => ?_)
  · rw [errL_get] at ho'
    cases hg : (getL L is)[i]? with
    | none => rw [hg] at ho'; cases ho'
    | some o =>
      rw [hg] at ho'
      obtain rfl := Option.some.inj ho'
      exact ⟨o, rfl, errO_le _ E o⟩
  · have h1 : b ∉ b0 ++ new := fun hm => by rw [g.fresh b hm] at hb; cases hb
    have h2 : b ∉ blks (b0 ++ new) is := fun hm => by
      obtain ⟨i, hi2, e⟩ := blks_mem hm
      have hlt := (isOk_lt hi).1 i hi2
      rw [← g.len] at hlt
      apply h1
      rw [e, List.getD_eq_getElem?_getD, List.getElem?_eq_getElem hlt]
      exact List.getElem_mem _
    simp only [restM, if_neg h2, memD]
    rw [wth_other (by rw [denM_fst g.len]; exact h1)]
    exact hb
  · have := hK x hx [] (by rw [List.append_nil]; exact ⟨g.nd, by rw [setL_len]; exact g.len, g.fresh⟩)
    rw [List.append_nil, mem_pk g hi (hl x).symm] at this
    exact this
end
end Go.Sx
end
section
namespace Go.Sx
open Go Go.Aw
def zA (st : Bool) (z : List Z) : AV := bif st then .agg (AV.plainL (denL [] (zCells z))) else ((denL [] (zCells z)).getD 0 .junk).plain
theorem TF.zeroV {P : Program} {t : Nat} {i : TI} (tf : TF P t i) (hz : i.z ≠ []) : ∃ z, Aw.zeroA P t = some z ∧ z.plain = zA i.k.isSt i.z := by
  obtain ⟨v, h1, h2, h3, h4⟩ := tf.zero hz
  refine ⟨cval v, by simp only [Aw.zeroA, h1, h2, if_true], ?_⟩
  unfold zIs at h3
  split at h3
  · simp only [Bool.and_eq_true] at h3
    rw [zA, h3.1, cond_true, zEqs_den h3.2]
    simp only [cval, AV.plain]
  · rename_i hv
    simp only [Bool.and_eq_true, Bool.not_eq_true'] at h3
    have hcv : cval v = cval1 v := by
      cases v with
      | agg cs => exact absurd rfl (hv cs)
      | iface t u =>
        cases hzz : i.z with
        | nil => exact absurd hzz hz
        | cons a r => rw [hzz] at h3; simp [zEqs, zEq] at h3
      | _ => rfl
    rw [zA, h3.1, cond_false, zEqs_den h3.2, hcv]
    rfl
def tkD : TK → Option TypeDesc
  | .str => some .string
  | .int .i64 => some (.int .i64)
  | _ => none
structure MpOk (T : Tab) (t k e : Nat) (dk : TypeDesc) (z : AV) : Prop where
  t : tgK T t fun i => match i.k with | .mp k' e' => k' = k ∧ e' = e | _ => False
  k : tgK T k fun i => tkD i.k = some dk
  e : tgK T e fun i => (match i.z with | [] => False | _ => True) ∧ zA i.k.isSt i.z = z
section
variable {P : Program} {T : Tab} {b0 : List Nat} {fr : SFr} {L : List SObj} {m : AMem} {K : SK}
theorem MpOk.get (hT : tabOk P T = true) {t k e : Nat} {dk : TypeDesc} {z : AV} (h : MpOk T t k e dk z) : P.underlying t = some (.map k e) ∧ P.underlying k = some dk ∧ ∃ z0, zeroA P e = some z0 ∧ z0.plain = z := by
  obtain ⟨i, ti, h1⟩ := tg hT h.t
  obtain ⟨j, tj, h2⟩ := tg hT h.k
  obtain ⟨l, tl, h3, h4⟩ := tg hT h.e
  have hz : l.z ≠ [] := fun e => by rw [e] at h3; exact h3
  refine ⟨?_, ?_, ?_⟩
  · split at h1
    · rename_i hk
      obtain ⟨rfl, rfl⟩ := h1
      exact ti.mp hk
    · exact h1.elim
  · unfold tkD at h2
    split at h2
    · rename_i hk
      rw [← Option.some.inj h2]; exact tj.str hk
    · rename_i hk
      rw [← Option.some.inj h2]; exact tj.int hk
    · cases h2
  · obtain ⟨z0, z1, z2⟩ := tl.zeroV hz
    exact ⟨z0, z1, z2.trans h4⟩
theorem mlo (hT : tabOk P T = true) {κ ν : Type} [DecidableEq κ] {dk : TypeDesc} (kf : κ → AV) {kc : κ → Value} (vf : ν → AV) (he : KeyEnc dk kf kc) (l : List (κ × ν)) (k : κ) (z : ν) {d t i : Nat} {ke ve : Nat} {x y : Operand} {v : AV} (hM : MpOk T t ke ve dk (vf z)) (hx : opK fr x fun u => u = .mp i) (hi : nth L i = some (.obj (.map (l.map (mapAV kf vf)))))
    (hy : opK fr y fun u => u = .av (kf k)) (hkp : (kf k).plain = kf k) (hv : vf ((mget l k).getD z) = v) (h : K ((d, .av (.tuple [v, .bool (mget l k).isSome])) :: fr) L m) (hp : AV.plainL [v, .bool (mget l k).isSome] = [v, .bool (mget l k).isSome]) : SOp P b0 (some d) (.lookup t x y true) fr L m K := ⟨fun new g n ops ty pos af r KK hok hn hK => by
  obtain ⟨u1, u2, z0, z1, z2⟩ := hM.get hT
  obtain ⟨v1, rfl, e1⟩ := opK_sound (b0 ++ new) hx
  obtain ⟨v2, rfl, e2⟩ := opK_sound (b0 ++ new) hy
  simp only [den, hkp] at e1 e2
  rw [nth_eq] at hi
  have hg := mem_get g hi
  refine aopR_sound (stl := []) hok hn ?_
  refine ar_lookupOkP (P := P) (ops := ops) (stl := []) (r := []) (K := AOps P n ops r KK) (L := denM (b0 ++ new) L) rfl kf vf he l k z u1 u2 z1 z2 e1.symm e2.symm hg hv ?_
  have := hK _ _ _ (b0 ++ new) (List.prefix_append _ _) g h
  simp only [denF, den, AV.plain, hp] at this
  exact this⟩
theorem mlk (hT : tabOk P T = true) {κ ν : Type} [DecidableEq κ] {dk : TypeDesc} (kf : κ → AV) {kc : κ → Value} (vf : ν → AV) (he : KeyEnc dk kf kc) (l : List (κ × ν)) (k : κ) (z : ν) {d t i : Nat} {ke ve : Nat} {x y : Operand} {v : AV} (hM : MpOk T t ke ve dk (vf z)) (hx : opK fr x fun u => u = .mp i) (hi : nth L i = some (.obj (.map (l.map (mapAV kf vf)))))
    (hy : opK fr y fun u => u = .av (kf k)) (hkp : (kf k).plain = kf k) (hv : vf ((mget l k).getD z) = v) (hp : v.plain = v) (h : K ((d, svOf v) :: fr) L m) : SOp P b0 (some d) (.lookup t x y false) fr L m K := ⟨fun new g n ops ty pos af r KK hok hn hK => by
  obtain ⟨u1, u2, z0, z1, z2⟩ := hM.get hT
  obtain ⟨v1, rfl, e1⟩ := opK_sound (b0 ++ new) hx
  obtain ⟨v2, rfl, e2⟩ := opK_sound (b0 ++ new) hy
  simp only [den, hkp] at e1 e2
  rw [nth_eq] at hi
  have hg := mem_get g hi
  refine aopR_sound (stl := []) hok hn ?_
  refine ar_lookupP (P := P) (ops := ops) (stl := []) (r := []) (K := AOps P n ops r KK) (L := denM (b0 ++ new) L) rfl kf vf he l k z u1 u2 z1 z2 e1.symm e2.symm hg hv ?_
  have := hK _ _ _ (b0 ++ new) (List.prefix_append _ _) g h
  simp only [denF, den_svOf, hp] at this
  exact this⟩
theorem mup (hT : tabOk P T = true) {κ ν : Type} [DecidableEq κ] {dk : TypeDesc} (kf : κ → AV) {kc : κ → Value} (vf : ν → AV) (he : KeyEnc dk kf kc) (l : List (κ × ν)) (k : κ) (v : ν) {t i : Nat} {ke ve : Nat} {x y z : Operand} {zz : AV} {w : SV} (hM : MpOk T t ke ve dk zz) (hx : opK fr x fun u => u = .mp i) (hi : nth L i = some (.obj (.map (l.map (mapAV kf vf)))))
    (hy : opK fr y fun u => u = .av (kf k)) (hkp : (kf k).plain = kf k) (hz : opK fr z fun u => u = w) (hw : ∀ bs, den bs w = vf v) (hbig : (mput l k v).length ≤ 140737488355328)
    (h : flK (L.set i (.obj (.map ((mput l k v).map (mapAV kf vf))))) fun L' => K fr L' m) : SOp P b0 none (.mapUpdate t x y z) fr L m K := ⟨fun new g n ops ty pos af r KK hok hn hK => by
  obtain ⟨u1, u2, z0, z1, z2⟩ := hM.get hT
  obtain ⟨v1, rfl, e1⟩ := opK_sound (b0 ++ new) hx
  obtain ⟨v2, rfl, e2⟩ := opK_sound (b0 ++ new) hy
  obtain ⟨v3, rfl, e3⟩ := opK_sound (b0 ++ new) hz
  simp only [den, hkp] at e1 e2
  rw [nth_eq] at hi
  have hD := denM_get g.len hi
  rw [flK_eq] at h
  refine aopR_sound (stl := []) hok hn ?_
  refine ar_mapUpdate (P := P) (ops := ops) (stl := []) (r := []) (K := AOps P n ops r KK) (L := denM (b0 ++ new) L) rfl i kf vf he l k v u1 u2 e1.symm e2.symm (by rw [← e3, hw]) hD g.nodup hbig ?_
  have := hK _ _ _ (b0 ++ new) (List.prefix_append _ _) (g.set i _) h
  have hset : (denM (b0 ++ new) L).set i ((b0 ++ new).getD i 0, AObj.map ((mput l k v).map fun p => (kf p.1, vf p.2))) = denM (b0 ++ new) (L.set i (.obj (.map ((mput l k v).map (mapAV kf vf))))) := by
    rcases denM_set (bs := b0 ++ new) (L := L) (i := i) (o := .obj (.map ((mput l k v).map (mapAV kf vf)))) with h | h
    · exact h
    · exfalso
      have : i < L.length := by
        rcases Nat.lt_or_ge i L.length with h | h
        · exact h
        · rw [List.getElem?_eq_none h] at hi; cases hi
      rw [g.len] at h; omega
  rw [hset]
  exact this⟩
theorem mdl' (hT : tabOk P T = true) {κ ν : Type} [DecidableEq κ] {dk : TypeDesc} (kf : κ → AV) {kc : κ → Value} (vf : ν → AV) (he : KeyEnc dk kf kc) (l : List (κ × ν)) (k : κ) {t t2 i : Nat} {ke ve : Nat} {x y : Operand} {zz : AV} (hM : MpOk T t ke ve dk zz) (hx : opK fr x fun u => u = .mp i) (hi : nth L i = some (.obj (.map (l.map (mapAV kf vf)))))
    (hy : opK fr y fun u => u = .av (kf k)) (hkp : (kf k).plain = kf k)
    (h : flK (L.set i (.obj (.map ((mdel l k).map (mapAV kf vf))))) fun L' => K fr L' m) : SOp P b0 none (.call ⟨.builtin .delete, #[x, y], #[t, t2]⟩) fr L m K := ⟨fun new g n ops ty pos af r KK hok hn hK => by
  obtain ⟨u1, u2, z0, z1, z2⟩ := hM.get hT
  obtain ⟨v1, rfl, e1⟩ := opK_sound (b0 ++ new) hx
  obtain ⟨v2, rfl, e2⟩ := opK_sound (b0 ++ new) hy
  simp only [den, hkp] at e1 e2
  rw [nth_eq] at hi
  have hD := denM_get g.len hi
  rw [flK_eq] at h
  refine aopR_sound (stl := []) hok hn ?_
  refine ar_delete (P := P) (ops := ops) (stl := []) (r := []) (K := AOps P n ops r KK) (L := denM (b0 ++ new) L) rfl i kf vf he l k u1 u2 e1.symm e2.symm hD g.nodup ?_
  have := hK _ _ _ (b0 ++ new) (List.prefix_append _ _) (g.set i _) h
  have hset : (denM (b0 ++ new) L).set i ((b0 ++ new).getD i 0, AObj.map ((mdel l k).map fun p => (kf p.1, vf p.2))) = denM (b0 ++ new) (L.set i (.obj (.map ((mdel l k).map (mapAV kf vf))))) := by
    rcases denM_set (bs := b0 ++ new) (L := L) (i := i) (o := .obj (.map ((mdel l k).map (mapAV kf vf)))) with h | h
    · exact h
    · exfalso
      have : i < L.length := by
        rcases Nat.lt_or_ge i L.length with h | h
        · exact h
        · rw [List.getElem?_eq_none h] at hi; cases hi
      rw [g.len] at h; omega
  rw [hset]
  exact this⟩
end
end Go.Sx
end
section
namespace Go.Sx
open Go Go.Aw
theorem ACalls.lessA {P : Program} {f : FuncId} {a a' : List AV} {m : AMem} {K : AV → AMem → Prop} (hl : a'.length = a.length) (hs : ∀ i, LeV (a'.getD i .junk) (a.getD i .junk)) (h : ACalls P f a' m K) : ACalls P f a m K :=
  ⟨h.1, fun F lim w cargs hsz hr st => h.2 F lim w cargs (by omega) (fun i hi => by
    rcases hs i with e | e
    · rw [e]; exact hr i (by omega)
    · exact e _ _ _ _ (hr i (by omega))) st⟩
section
variable {fr : SFr} {L : List SObj} {m : AMem}
theorem callY {b0 : List Nat} {P : Program} {f : FuncId} {vs : List SV} {Q : SV → List SObj → AMem → Prop} {σ : Type} (E : Nat) (is : List Nat) (I : σ → Prop) (y : σ → SV) (os : σ → List SObj) (hi : isOk L.length is = true) (hl : ∀ x, (os x).length = is.length)
    (h : ∀ bs (mm : AMem), Gd (blks bs is) mm → (∀ b o, m b = some o → mm b = some o) → ∀ (K : AV → AMem → Prop), (∀ x, I x → K (den bs (y x)) (mm.wth (pk bs is (os x)))) → ACalls P f (denL bs (errC E vs)) (mm.wth (pk bs is (errL E (getL L is)))) K)
    (hQ : ∀ x, I x → flK (setL L is (os x)) fun L' => Q (y x) L' m) : SCall P b0 f vs fr L m Q :=
  callX E is I y os hi hl (fun bs mm gd ht K hK => ACalls.lessA (by rw [denL_len, denL_len, errC_len]) (errC_le bs E vs) (h bs mm gd ht K hK)) hQ
end
end Go.Sx
end
section
namespace Go.Sx
open Go Go.Aw
inductive Pl where
  | d
  | z
  | f (i : Nat) (p : Pl)
  | s (i : Nat) (p : Pl)
  | o (i : Nat) (p q : Pl)
def Pl.ids : Pl → List Nat
  | .o i _ q => i :: q.ids
  | _ => []
def firstK (o : Oper) : Bool :=
  match o.op with
  | .move x | .nilCheck x | .fieldAddr _ x _ => opdOk x
  | _ => false
def plOk (ops : Array Oper) : Pl → Bool → Nat → Array Bool → Bool
  | .d, _, _, l => (Region.ready .any ops l).isEmpty
  | .z, top, _, _ => !top
  | .f i p, _, k, l =>
    match k with
    | 0 => false
    | k + 1 => (match ops[i]? with | some o => firstB ops l i o && firstK o | none => false) && plOk ops p true k (l.setIfInBounds i true)
  | .s i p, _, k, l =>
    match k with
    | 0 => false
    | k + 1 => !(Region.ready .any ops l).isEmpty && ((Region.ready .any ops l).all fun j => j == i) && plOk ops p true k (l.setIfInBounds i true)
  | .o i p q, top, k, l =>
    match k with
    | 0 => false
    | k + 1 => (!top || (!(Region.ready .any ops l).isEmpty && (Region.ready .any ops l).all fun j => (i :: q.ids).contains j)) && ops[i]?.isSome && plOk ops p true k (l.setIfInBounds i true) && plOk ops q false (k + 1) l
def sfirst (c : Cfg) (d : Option Nat) (op : Op) (fr : SFr) (k : SFr → Prop) : Prop :=
  match d, op with
  | some d, .move x => opK fr x fun v => k ((d, v) :: fr)
  | some d, .nilCheck x => opK fr x fun v =>
    match v with
    | .loc i off => k ((d, .loc i off) :: fr)
    | _ => False
  | some d, .fieldAddr s x f => opK fr x fun a =>
    match a with
    | .loc i off => tgK c.T s fun ti => stK ti f fun o _ => k ((d, .loc i (off + o)) :: fr)
    | _ => False
  | _, _ => False
def splan (c : Cfg) (sl : List Nat) (ops : List Oper) (K : SK) : Pl → SK
  | .d, fr, L, m => K fr L m
  | .z, _, _, _ => True
  | .f i p, fr, L, m =>
    match nth ops i with
    | some o => sfirst c o.dst o.op fr fun fr => splan c sl ops K p fr L m
    | none => False
  | .s i p, fr, L, m =>
    match nth ops i with
    | some o => sops c ops sl [o] fr L m fun fr L m => splan c sl ops K p fr L m
    | none => False
  | .o i p q, fr, L, m =>
    (match nth ops i with
    | some o => sops c ops sl [o] fr L m fun fr L m => splan c sl ops K p fr L m
    | none => False) ∧ splan c sl ops K q fr L m
end Go.Sx
namespace Go.Aw
open Go
section
variable {P : Program} {n : Nat} {fr : Fr} {m : AMem} {ops : Array Oper} {fuel : Nat} {listed : Array Bool} {K : Fr → AMem → Prop}
theorem AAny.stepA (hne : Region.ready .any ops listed ≠ []) (h : ∀ i ∈ Region.ready .any ops listed, ∃ o, ops[i]? = some o ∧ AOps P n ops [o] (AAny P n ops fuel (listed.setIfInBounds i true) K) fr m) : AAny P n ops (fuel + 1) listed K fr m := by
  intro F lim w ca Q st hq
  refine ⟨fun h0 => absurd h0 hne, fun i hi => ?_⟩
  obtain ⟨o, ho, key⟩ := h i hi
  unfold wpOp
  rw [ho]
  simp only
  let Q' : Exit → Act → World → Prop := fun e a w' => match e with
    | .normal => wpAny P .any ops Q fuel (listed.setIfInBounds i true) a w'
    | e => Q e a w'
  have hw := key F lim w ca Q' st (fun lim' w' fr' m' ca' hA st' pr => hA F lim' w' ca' Q st' fun lim'' w'' fr'' m'' ca'' hK st'' pr' => hq lim'' w'' fr'' m'' ca'' hK st'' (pr.trans pr'))
  have conv : ∀ {C : Act → World → Prop}, o.wp P ca w C Q' → o.wp P ca w C Q := by
    intro C hC
    unfold Oper.wp at hC ⊢
    generalize (execOp ca.eval o).run P w = res at hC ⊢
    cases res with
    | ok s w' =>
      cases s with
      | enter f args =>
        refine hC.mono fun e w'' hh => ?_
        cases e <;> exact hh
      | _ => exact hC
    | _ => exact hC
  unfold wpList at hw
  split
  · next hwt =>
    rw [if_pos hwt] at hw
    rcases hw with hw | ⟨h1, h2⟩
    · exact .inl (conv hw)
    · exact .inr ⟨h1, h2⟩
  · next hwt =>
    rw [if_neg hwt] at hw
    exact hw
theorem AAny.slots (h : AAny P n ops fuel listed K fr m) : AAny P n ops fuel listed (fun f m => (∀ t x, f.get t = some x → t < n) ∧ K f m) fr m := fun F lim w ca Q st hq =>
  h F lim w ca Q st fun lim' w' f m' ca' hk st' pr => hq lim' w' f m' ca' ⟨fun t x hx => by obtain ⟨_, _, _, s⟩ := st'; exact (s.slots t x hx).1, hk⟩ st' pr
theorem AAny.monoK {K' : Fr → AMem → Prop} (hK : ∀ f m, K f m → K' f m) (h : AAny P n ops fuel listed K fr m) : AAny P n ops fuel listed K' fr m := fun F lim w ca Q st hq =>
  h F lim w ca Q st fun lim' w' f m' ca' hk st' pr => hq lim' w' f m' ca' (hK _ _ hk) st' pr
end
end Go.Aw
namespace Go.Sx
open Go Go.Aw
section
variable {c : Cfg} {n : Nat} {ops : Array Oper} {K : Fr → AMem → Prop} {sl : List Nat} {KK : SK}
theorem sfirst_sound {b0 new : List Nat} (hT : tabOk c.P c.T = true) (hok : ∀ o ∈ ops.toList, okOper n o = true ∧ tmpsOk n o = true) {fuel i : Nat} {o : Oper} {listed : Array Bool} {fr : SFr} {mm : AMem} {k : SFr → Prop} (ho : ops[i]? = some o) (hb : firstB ops listed i o = true) (hf : firstK o = true)
    (h : sfirst c o.dst o.op fr k) (hk : ∀ fr', k fr' → AAny c.P n ops fuel (listed.setIfInBounds i true) K (denF (b0 ++ new) fr') mm) : AAny c.P n ops (fuel + 1) listed K (denF (b0 ++ new) fr) mm := by
  have hm := hok o (by rw [Array.mem_toList_iff]; exact Array.mem_of_getElem? ho)
  cases hd : o.dst with
  | none => rw [hd] at h; unfold sfirst at h; split at h <;> simp_all
  | some d =>
    have hdn := okOper_dst hm.1 hd
    rw [hd] at h
    cases hop : o.op with
    | move x =>
      simp only [hop, sfirst] at h
      obtain ⟨v, h1, e⟩ := opK_sound (b0 ++ new) h
      rw [firstK, hop] at hf
      have := hk _ h1
      simp only [denF] at this
      exact AAny.fMove ho hop hd hdn hf hb e.symm this
    | nilCheck x =>
      simp only [hop, sfirst] at h
      obtain ⟨v, h1, e⟩ := opK_sound (b0 ++ new) h
      rw [firstK, hop] at hf
      split at h1
      · have := hk _ h1
        simp only [denF] at this
        simp only [den] at e this
        exact AAny.fNil ho hop hd hdn hf hb e.symm this
      · exact h1.elim
    | fieldAddr s x f =>
      simp only [hop, sfirst] at h
      obtain ⟨v, h1, e⟩ := opK_sound (b0 ++ new) h
      rw [firstK, hop] at hf
      split at h1
      · rename_i ii off
        obtain ⟨ti, tf, h2⟩ := tg hT h1
        obtain ⟨fa, fd, hu, hfd, i1, i2, h3⟩ := stK_sound tf h2
        have := hk _ h3
        simp only [denF] at this
        simp only [den] at e this
        exact AAny.fField (side := isU c.P fd.type = true ∧ c.P.cellsOf fd.type ≠ 0) ho hop hd hdn hf hb e.symm (by simp only [qv, hu, hfd, ← e] <;> rfl) ⟨i1, i2⟩ this
      · exact h1.elim
    | _ => simp [hop, sfirst] at h
theorem splan_sound {b0 : List Nat} (hT : tabOk c.P c.T = true) (hb0 : c.bs = b0) (hok : ∀ o ∈ ops.toList, okOper n o = true ∧ tmpsOk n o = true ∧ stOk o = true)
    (hK : ∀ fr' L' m' nw, Good (b0 ++ nw) L' m' → KK fr' L' m' → K (denF (b0 ++ nw) fr') (memD (b0 ++ nw) L' m')) :
    ∀ (p : Pl) (top : Bool) (fuel : Nat) (listed : Array Bool) (fr : SFr) (L : List SObj) (m : AMem) (new : List Nat), plOk ops p top fuel listed = true → Good (b0 ++ new) L m → splan c sl ops.toList KK p fr L m →
      (top = true → AAny c.P n ops fuel listed K (denF (b0 ++ new) fr) (memD (b0 ++ new) L m)) ∧
      (∀ f, fuel = f + 1 → ∀ i ∈ p.ids, ∃ o, ops[i]? = some o ∧ AOps c.P n ops [o] (AAny c.P n ops f (listed.setIfInBounds i true) K) (denF (b0 ++ new) fr) (memD (b0 ++ new) L m))
  | .d, top, fuel, listed, fr, L, m, new, ho, g, h => by
    refine ⟨fun _ => AAny.done ?_ (hK _ _ _ _ g h), fun f _ i hi => by cases hi⟩
    simpa [plOk] using ho
  | .z, top, fuel, listed, fr, L, m, new, ho, g, h => by
    refine ⟨fun ht => ?_, fun f _ i hi => by cases hi⟩
    subst ht; simp [plOk] at ho
  | .f i p, top, fuel, listed, fr, L, m, new, ho, g, h => by
    refine ⟨fun _ => ?_, fun f _ i hi => by cases hi⟩
    cases fuel with
    | zero => simp [plOk] at ho
    | succ k =>
      simp only [plOk, Bool.and_eq_true] at ho
      simp only [splan, nth_eq, Array.getElem?_toList] at h
      cases hi : ops[i]? with
      | none => rw [hi] at h; exact h.elim
      | some o =>
        rw [hi] at h ho
        simp only [Bool.and_eq_true] at ho
        exact sfirst_sound hT (fun o ho => ⟨(hok o ho).1, (hok o ho).2.1⟩) hi ho.1.1 ho.1.2 h fun fr' hk => (splan_sound hT hb0 hok hK p true k _ fr' L m new ho.2 g hk).1 rfl
  | .s i p, top, fuel, listed, fr, L, m, new, ho, g, h => by
    refine ⟨fun _ => ?_, fun f _ i hi => by cases hi⟩
    cases fuel with
    | zero => simp [plOk] at ho
    | succ k =>
      simp only [plOk, Bool.and_eq_true, Bool.not_eq_true', List.all_eq_true, beq_iff_eq] at ho
      simp only [splan, nth_eq, Array.getElem?_toList] at h
      refine AAny.stepA (fun e => by rw [e] at ho; simp at ho) fun j hj => ?_
      obtain rfl := ho.1.2 j hj
      cases hi : ops[j]? with
      | none => rw [hi] at h; exact h.elim
      | some o =>
        rw [hi] at h
        refine ⟨o, rfl, sops_sound hT hb0 [o] (fun o' ho' => ?_) g h fun fr' L' m' nw g' hk => (splan_sound hT hb0 hok hK p true k _ fr' L' m' nw ho.2 g' hk).1 rfl⟩
        rw [List.mem_singleton.1 ho']
        exact hok o (by rw [Array.mem_toList_iff]; exact Array.mem_of_getElem? hi)
  | .o i p q, top, fuel, listed, fr, L, m, new, ho, g, h => by
    cases fuel with
    | zero => simp [plOk] at ho
    | succ k =>
      simp only [plOk, Bool.and_eq_true] at ho
      obtain ⟨⟨⟨h1, h2⟩, h3⟩, h4⟩ := ho
      have key : ∀ f, k + 1 = f + 1 → ∀ j ∈ (Pl.o i p q).ids, ∃ o, ops[j]? = some o ∧ AOps c.P n ops [o] (AAny c.P n ops f (listed.setIfInBounds j true) K) (denF (b0 ++ new) fr) (memD (b0 ++ new) L m) := by
        intro f hf j hj
        obtain rfl : k = f := by omega
        simp only [splan, nth_eq, Array.getElem?_toList] at h
        simp only [Pl.ids, List.mem_cons] at hj
        rcases hj with rfl | hj
        · cases hi : ops[j]? with
          | none => rw [hi] at h2; cases h2
          | some o =>
            rw [hi] at h
            refine ⟨o, rfl, sops_sound hT hb0 [o] (fun o' ho' => ?_) g h.1 fun fr' L' m' nw g' hk => (splan_sound hT hb0 hok hK p true k _ fr' L' m' nw h3 g' hk).1 rfl⟩
            rw [List.mem_singleton.1 ho']
            exact hok o (by rw [Array.mem_toList_iff]; exact Array.mem_of_getElem? hi)
        · exact (splan_sound hT hb0 hok hK q false (k + 1) listed fr L m new h4 g h.2).2 k rfl j hj
      refine ⟨fun ht => ?_, key⟩
      subst ht
      simp only [Bool.not_true, Bool.false_or, Bool.and_eq_true, Bool.not_eq_true', List.all_eq_true, List.contains_iff_mem] at h1
      exact AAny.stepA (fun e => by rw [e] at h1; simp at h1) fun j hj => key k rfl j (by simpa [Pl.ids] using h1.2 j hj)
theorem rgA {L : List SObj} {m : AMem} {fr : SFr} {id : Nat} {kn : SK} {A : Prop} {σ : Type} (hT : tabOk c.P c.T = true) (hm : c.P.follows .mixedOrders = true) (p : Pl) (md : List (Nat × Nat)) (ks : List Nat) (k : Nat) (S : σ → SS) (I : σ → Prop)
    (hp : (plOk ops p true ops.size (Array.replicate ops.size false) && ops.toList.all stOk) = true)
    (hB : ∀ x, I x → flK (S x).1 fun fr => flK (S x).2.1 fun L => kn fr L (S x).2.2)
    (hA : splan c (apSl ops.toList) ops.toList (fun fr L m => ∃ x, fits c md ks k fr L m (S x) ∧ I x) p fr L m) : SOr A (SRg c id ops true kn fr L m) := by
  simp only [Bool.and_eq_true, List.all_eq_true] at hp
  refine ⟨.inr ⟨fun new g n Q hk hQ => ?_⟩⟩
  have hk2 := okAll_range hk
  simp only [okAll, Bool.and_eq_true, List.all_eq_true] at hk
  refine AWP.weak (Q := fun e f m => ∃ f' m', Le f' f ∧ (∀ b o, m' b = some o → m b = some o) ∧ Q e f' m') (fun e f m h => h) ?_
  refine awp_any hm (List.range n) hk2 fun K hK => ?_
  have h1 := (splan_sound (K := fun fr mm => ∃ f' m', Le f' fr ∧ (∀ b o, m' b = some o → mm b = some o) ∧ Q .normal f' m') hT rfl (fun o ho => ⟨(hk.1 o ho).1, (hk.1 o ho).2, hp.2 o ho⟩) (fun fr' L' m' nw g' ⟨x, hf, hI⟩ => by
    obtain ⟨g2, hl, hs, hlen⟩ := fits_sound (b0 := c.bs) rfl g' hf
    have := hB x hI
    rw [flK_eq, flK_eq] at this
    exact ⟨_, _, hl, hs, hQ _ _ _ _ (List.prefix_append _ _) g2 this⟩) p true _ _ fr L m new hp.1 g hA).1 rfl
  refine AAny.monoK (fun f mm ⟨hs, f', m', hl, hm', hq⟩ => hK _ _ ⟨f', m', fun t x hx => ?_, hm', hq⟩) (AAny.slots h1)
  obtain ⟨y, hy, hxy⟩ := hl t x hx
  obtain ⟨z, hz, hyz⟩ := keep_le hs t y hy
  rcases hyz with rfl | hyz
  · exact ⟨_, hz, hxy⟩
  · refine ⟨_, hz, .inr fun w lim v os hr => ?_⟩
    have h2 := hyz w lim v os hr
    rcases hxy with rfl | hxy
    · exact h2
    · exact hxy w lim v [] h2
end
end Go.Sx
end
section
namespace Go.Sx
open Go Go.Aw
theorem ACalls.pl {P : Program} {f : FuncId} {a : List AV} {m : AMem} {K : AV → AMem → Prop} (h : ACalls P f a m fun x m' => K x.plain m') : ACalls P f a m K :=
  ⟨h.1, fun F lim w cargs h1 h2 h3 => (h.2 F lim w cargs h1 h2 h3).mono fun _ _ ⟨v, x, lim', m', _, he, hK, hr, hs, hp⟩ => ⟨v, x.plain, lim', m', [], he, hK, hr.plain, hs.drop, hp⟩⟩
example (l : List AV) (n : Int) : AV.plain (.tuple [.slice true l, .int .i64 n, .err 3 n]) = .tuple [.slice false l, .int .i64 n, .err 3 n] := rfl
end Go.Sx
end
section
namespace Go.Aw
open Go RowKit
section
variable {P : Program} {F : Nat → Prop} {lim : Nat → Nat} {w w' : World} {n : Nat} {fr : Fr} {m : AMem} {ca : Act} {fl : List Nat}
theorem St.below (st : St F lim w n fr m ca fl) (h : Below w.heap.size w w') : St F lim w' n fr m ca fl := by
  have hl := h.block
  have hf : ∀ c, w.heap.size ≤ c → lim c = 0 := fun c hc => by
    obtain ⟨_, _, _, s⟩ := st
    exact (s.fresh c hc).1
  have hm : ∀ b, m b ≠ none → b < w.heap.size := fun b hb => st.lt_of_mem hb
  have hcell : ∀ b o, o < lim b → b < w.heap.size := fun b o ho => st.lt_of_lim ho
  exact st.world h.size (fun _ => Nat.le_refl _) (fun b o ho => by simp [World.cell?, hl b (hcell b o ho)]) (fun c hc => .inr ⟨hl c hc, rfl⟩) (fun b hb => ⟨hl b (hm b hb), rfl⟩) (fun c hc => hf c (Nat.le_trans h.size hc))
theorem pres_below (st : St F lim w n fr m ca fl) (h : Below w.heap.size w w') : Pres F w lim w' lim :=
  ⟨h.os, h.tape, h.output, h.size, fun b hb => ⟨h.block b (st.lt_of_F hb), rfl⟩, fun _ => Nat.le_refl _, fun b o ho => by simp [World.cell?, h.block b (st.lt_of_lim ho)]⟩
end
end Go.Aw
end
section
namespace Go.Aw
open Go
inductive BadT : Value → Prop
  | u64 (n : Int) : BadT (.int .u64 n)
  | iface (t : TypeId) (p : Value) : BadT (.iface t p)
theorem okT_bad {w : World} {lim : Nat → Nat} {v : Value} (hv : BadT v) {x : AV} {os : List Nat} (h : Rep w lim v x os) (hx : OkT x) : False := by
  cases hv with
  | u64 n => exact okT_u64 h hx
  | iface t p => cases hx <;> cases h
theorem rep_offG {w : World} {lim lim' : Nat → Nat} {B : Nat → Prop} (hc : ∀ b o v, B b → w.cell? ⟨b, o, none⟩ = some v → BadT v) (hl : ∀ b, ¬ B b → lim' b = lim b) {v : Value} {x : AV} {os : List Nat} (h : Rep w lim v x os) : OkT x → Rep w lim' v x os := by
  induction h with
  | bool b => exact fun _ => .bool b
  | int k n lo hi => exact fun _ => .int k n lo hi
  | str s h => exact fun _ => .str s h
  | nils own => exact fun _ => .nils own
  | empty a cap hm => exact fun _ => .empty a cap hm
  | slice b off n cap sz l cv hn hcap hm hbig hsz hlim hcc hr ih =>
    intro hx
    cases hx with
    | slice _ hl1 hl2 =>
      rcases Nat.eq_zero_or_pos n with h0 | h0
      · subst h0
        have : l = [] := List.eq_nil_of_length_eq_zero hn
        subst this
        exact .empty _ _ hm
      · have hmem : ∀ i, i < n → l.getD i .junk ∈ l := fun i hi => by simp [List.getD_eq_getElem?_getD, show i < l.length by omega]
        have gm : ∀ (L : List AV) (j : Nat), j < L.length → L.getD j .junk ∈ L := fun L j hj => by
          rw [List.getD_eq_getElem?_getD, List.getElem?_eq_getElem hj]; exact List.getElem_mem _
        have hok : ∀ i j, i < n → j < sz → OkT ((l.getD i .junk).cells.getD j .junk) := fun i j hi hj => hl2 _ (hmem i hi) _ (gm _ j (by rw [hsz i hi]; exact hj))
        have hs0 : 0 < sz := by
          rw [← hsz 0 h0]; exact List.length_pos_iff.2 (hl1 _ (hmem 0 h0))
        have hb : ¬ B b := fun e => okT_bad (hc b _ _ e (hcc 0 0 h0 hs0)) (hr 0 0 h0 hs0) (hok 0 0 h0 hs0)
        exact .slice b off n cap sz l cv hn hcap hm hbig hsz (by rw [hl b hb]; exact hlim) hcc fun i j hi hj => ih i j hi hj (hok i j hi hj)
  | agg cs xs os h hr ih =>
    intro hx
    cases hx with
    | agg _ hl2 =>
      exact .agg cs xs os h fun i hi => ih i hi (hl2 _ (by
        rw [List.getD_eq_getElem?_getD, List.getElem?_eq_getElem hi]
        exact List.getElem_mem _))
  | _ => intro hx; cases hx
structure TabG where
  e : TypeId
  z : Nat × Nat
  cs : Array Value
def memG (G : Nat → Option TabG) : AMem := fun b => (G b).map fun t => .tab t.e t.z t.cs
section
variable {P : Program}
theorem law_trueG {f : FuncId} {avs : List AV} {cargs : Array Value} {G : Nat → Option TabG} {W : World} (h : ACalls P f avs (memG G) (fun x m' => x = .bool true ∧ ∀ b t, G b = some t → m' b = some (.tab t.e t.z t.cs))) (hs : cargs.size = avs.length)
    (hT : ∀ b t, G b = some t → W.heap[b]? = some (.cells t.cs t.e t.z) ∧ ∀ v ∈ t.cs.toList, BadT v)
    (hr : ∀ i, i < avs.length → Rep W (limOf W) (cargs.getD i undef) (avs.getD i .junk) []) (ho : ∀ x ∈ avs, OkT x) :
    Calls P f cargs W fun e W' => e = .returned (.bool true) ∧ RowKit.Below W.heap.size W W' := by
  have hlt : ∀ b t, G b = some t → b < W.heap.size := fun b t hb => by
    rcases Nat.lt_or_ge b W.heap.size with h | h
    · exact h
    · have := (hT b t hb).1
      rw [Array.getElem?_eq_none h] at this; cases this
  have hc : ∀ b o v, (∃ t, G b = some t) → W.cell? ⟨b, o, none⟩ = some v → BadT v := fun b o v ⟨t, hb⟩ hv => by
    simp only [World.cell?, (hT b t hb).1] at hv
    exact (hT b t hb).2 v (by simpa using Array.mem_of_getElem? hv)
  have st : St (fun b => b < W.heap.size ∧ G b = none) (fun b => if (G b).isSome then 0 else limOf W b) W 0 [] (memG G) noAct [] := by
    refine ⟨fun _ => [], fun _ _ => [], fun _ => .none, rfl, rfl, fun t x hx => by simp [Fr.get] at hx, fun b o h => ?_, fun t x hx => by simp [Fr.get] at hx, fun b o h i => ⟨List.nodup_nil, fun c hc => by cases hc⟩, by simp, fun c h => absurd rfl h, fun b hb => ?_⟩
    · unfold memG at h
      cases e1 : G b with
      | none => rw [e1] at h; cases h
      | some t =>
        rw [e1] at h
        obtain rfl := Option.some.inj h
        exact ⟨.tab t.e _ _ _ (hT b t e1).1, by simp, fun hh => by cases hh.2⟩
    · have e1 : G b = none := by
        cases e1 : G b with
        | none => rfl
        | some t => have := hlt b t e1; omega
      have : W.heap[b]? = none := by simpa using hb
      exact ⟨by simp [e1, limOf, this], fun hh => by omega, by simp [memG, e1]⟩
  refine (h.2 _ _ W cargs hs (fun i hi => rep_offG (B := fun b => ∃ t, G b = some t) hc (fun b hb => by
      have e1 : G b = none := by
        cases e1 : G b with
        | none => rfl
        | some t => exact absurd ⟨t, e1⟩ hb
      simp [e1]) (hr i hi) (ho _ (by rw [List.getD_eq_getElem?_getD, List.getElem?_eq_getElem hi]; exact List.getElem_mem _))) st).mono fun e W' ⟨v, x, lim', m', os, he, hK, hx, hst, hp⟩ => ?_
  obtain ⟨hK, hm⟩ := hK
  subst hK
  cases hx
  refine ⟨he, hp.os, hp.tape, hp.output, hp.size, fun k hk => ?_⟩
  cases e1 : G k with
  | some t =>
    obtain ⟨_, _, _, s⟩ := hst
    have := (s.mem k _ (hm k t e1)).1
    cases this with
    | tab _ _ _ _ hb => rw [hb, (hT k t e1).1]
  | none => exact (hp.res k ⟨hk, e1⟩).1
end
end Go.Aw
end
section
namespace Go.Aw
open Go Go.MapKept
section
variable {P : Program} {F : Nat → Prop} {lim : Nat → Nat} {w w' : World} {n : Nat} {fr : Fr} {m : AMem} {ca : Act} {fl : List Nat}
variable {ops : Array Oper} {stl : List Nat} {r : List Oper} {K : Fr → AMem → Prop} {d : Nat} {ty : TypeId} {pos : String} {af : Array Edge} {gd : Option (Nat × Bool)} {L : List (Nat × AObj)}
end
end Go.Aw
namespace Go.Sx
open Go Go.Aw
theorem mem_base {bs : List Nat} {L : List SObj} {m : AMem} (g : Good bs L m) {b : Nat} {o : AObj} (h : m b = some o) : memD bs L m b = some o :=
  wth_old h fun c hc => by rw [denM_fst g.len] at hc; exact g.fresh c hc
section
variable {P : Program} {T : Tab} {b0 : List Nat} {fr : SFr} {L : List SObj} {m : AMem} {K : SK}
end
section
variable {c : Cfg} {L : List SObj} {fr : SFr} {m : AMem}
end
end Go.Sx
end
section
namespace Go.Sx
open Go Go.Aw
def MapAt {κ ν : Type} (m : AMem) (kf : κ → AV) (vf : ν → AV) (o : Option Nat) (l : List (κ × ν)) : Prop :=
  match o with
  | none => l = []
  | some b => m b = some (.map (l.map (mapAV kf vf)))
theorem MapAt.up {κ ν : Type} {m mm : AMem} {kf : κ → AV} {vf : ν → AV} {o : Option Nat} {l : List (κ × ν)} (ht : ∀ b o, m b = some o → mm b = some o) (h : MapAt m kf vf o l) : MapAt mm kf vf o l := by
  cases o with
  | none => exact h
  | some b => exact ht _ _ h
section
variable {P : Program} {T : Tab} {b0 : List Nat} {fr : SFr} {L : List SObj} {m : AMem} {K : SK}
end
end Go.Sx
end
section
namespace Go.Aw
open Go RowKit Go.Sort
open Go.Proofs (encStr)
section
variable {P : Program} {F : Nat → Prop} {lim : Nat → Nat} {w w' : World} {n : Nat} {fr : Fr} {m : AMem} {ca : Act} {fl : List Nat}
def atoiV (s : List UInt8) : Int := match Lib.atoiAll s with
  | .ok v => v
  | Lib.NumEnd.syntax => 0
  | .range => Lib.atoiSat s
def atoiE (s : List UInt8) : Bool := match Lib.atoiAll s with
  | .ok _ => false
  | _ => true
theorem atoiV_bounds (s : List UInt8) : -9223372036854775808 ≤ atoiV s ∧ atoiV s ≤ 9223372036854775807 := by
  unfold atoiV
  split
  · rename_i h; exact Lib.atoiAll_bounds h
  · decide
  · unfold Lib.atoiSat; split <;> decide
theorem tab_cell (st : St F lim w n fr m ca fl) {b : Nat} {e : TypeId} {z : Nat × Nat} {tp : TypeId} {p : Value} (hm : m b = some (.tab e z #[.iface tp p])) : w.cell? ⟨b, 0, none⟩ = some (.iface tp p) := by
  obtain ⟨os, om, ow, s⟩ := st
  have := (s.mem b _ hm).1
  cases this with
  | tab _ _ _ _ hb => simp [World.cell?, hb]
theorem atoi_any {f eB tN bE bR : Nat} {e : TypeId} {z : Nat × Nat} {tp : TypeId} {p : Value} {e2 : TypeId} {z2 : Nat × Nat} {tp2 : TypeId} {p2 : Value} (hf : ∃ fn, P.funcs[f]? = some fn ∧ fn.body.isSome = true ∧ (fn.name == "runtime.NumGoroutine") = false)
    (hok : ∀ (s : ByteArray), s.size ≤ 9223372036854775806 → ∀ v, Lib.atoiAll s.data.toList = .ok v → ∀ w : World, Calls P f #[.string s] w fun e w' => e = .returned (.tuple #[.int .i64 v, .nilIface]) ∧ (w' = w ∨ ∃ t, w' = Lib.bytesWorld w eB t))
    (hsy : ∀ (s : ByteArray), s.size ≤ 281474976710656 → Lib.atoiAll s.data.toList = Lib.NumEnd.syntax → ∀ (ev : Value) (w : World), w.cell? ⟨bE, 0, none⟩ = some ev → (ev = .nilIface ∨ ∃ te pe, ev = .iface te pe) → Calls P f #[.string s] w fun e w' => ∃ N, e = .returned (.tuple #[.int .i64 0, .iface tN (.pointer (some ⟨N, 0, none⟩))]) ∧ Below w.heap.size w w')
    (hra : ∀ (s : ByteArray), s.size ≤ 281474976710656 → Lib.atoiAll s.data.toList = .range → ∀ (ev : Value) (w : World), w.cell? ⟨bR, 0, none⟩ = some ev → (ev = .nilIface ∨ ∃ te pe, ev = .iface te pe) → Calls P f #[.string s] w fun e w' => ∃ N, e = .returned (.tuple #[.int .i64 (Lib.atoiSat s.data.toList), .iface tN (.pointer (some ⟨N, 0, none⟩))]) ∧ Below w.heap.size w w')
    {s : List UInt8} {K : AV → AMem → Prop} (hm : m bE = some (.tab e z #[.iface tp p])) (hm2 : m bR = some (.tab e2 z2 #[.iface tp2 p2]))
    (hK : K (.tuple [.int .i64 (atoiV s), .opt (atoiE s)]) m) : ACalls P f [.str s] m K := by
  refine ⟨hf, fun F lim w cargs hsz hr st => ?_⟩
  obtain ⟨x, rfl⟩ := one_arg hsz
  have r0 : Rep w lim x (.str s) [] := hr 0 (by simp)
  obtain ⟨b, rfl, hbs, hbl⟩ : ∃ b : ByteArray, x = .string b ∧ b.data.toList = s ∧ b.size ≤ 140737488355328 := by
    cases r0 with
    | str b hb => exact ⟨b, rfl, rfl, hb⟩
  have tup : ∀ {w1 : World} {n : Int} {v : Value} {o : Bool}, -9223372036854775808 ≤ n → n ≤ 9223372036854775807 → Rep w1 lim v (.opt o) [] → Rep w1 lim (.tuple #[.int .i64 n, v]) (.tuple [.int .i64 n, .opt o]) [] := fun {w1 n v o} h1 h2 h3 => by
    have := Rep.tuple (w := w1) (lim := lim) #[.int .i64 n, v] [.int .i64 n, .opt o] (fun _ => []) rfl (fun i hi => by
      match i, hi with
      | 0, _ => exact .int .i64 n h1 h2
      | 1, _ => exact h3)
    exact this
  have hB := atoiV_bounds s
  unfold atoiV at hB hK
  unfold atoiE at hK
  cases ha : Lib.atoiAll s with
  | ok v =>
    rw [ha] at hK hB
    refine (hok b (by omega) v (by rw [hbs]; exact ha) w).mono fun e1 w3 ⟨he, hw⟩ => ?_
    subst he
    rcases hw with rfl | ⟨t, rfl⟩
    · exact ⟨_, _, lim, _, [], rfl, hK, tup hB.1 hB.2 .optN, st, .refl _ _ _⟩
    · exact ⟨_, _, lim, _, [], rfl, hK, tup hB.1 hB.2 .optN, st.below (Lib.bytesWorld_below _ _ _), pres_below st (Lib.bytesWorld_below _ _ _)⟩
  | range =>
    rw [ha] at hK hB
    refine (hra b (by omega) (by rw [hbs]; exact ha) _ w (tab_cell st hm2) (.inr ⟨tp2, p2, rfl⟩)).mono fun e1 w3 ⟨N, he, hw⟩ => ?_
    rw [hbs] at he
    subst he
    exact ⟨_, _, lim, _, [], rfl, hK, tup hB.1 hB.2 (.optS _ _), st.below hw, pres_below st hw⟩
  | _ =>
    rw [ha] at hK hB
    refine (hsy b (by omega) (by rw [hbs]; exact ha) _ w (tab_cell st hm) (.inr ⟨tp, p, rfl⟩)).mono fun e1 w3 ⟨N, he, hw⟩ => ?_
    subst he
    exact ⟨_, _, lim, _, [], rfl, hK, tup hB.1 hB.2 (.optS _ _), st.below hw, pres_below st hw⟩
theorem rep_str_val {v : Value} {s : List UInt8} (h : Rep w lim v (.str s) []) : ∃ b : ByteArray, v = .string b ∧ b.data.toList = s ∧ b.size ≤ 140737488355328 := by
  cases h with
  | str b hb => exact ⟨b, rfl, rfl, hb⟩
theorem trimPrefix_len (s p : List UInt8) : (Lib.trimPrefix s p).length ≤ s.length := by
  unfold Lib.trimPrefix
  split
  · simp
  · exact Nat.le_refl _
theorem cutPrefix_calls {f : Nat} (hf : ∃ fn, P.funcs[f]? = some fn ∧ fn.body.isSome = true ∧ (fn.name == "runtime.NumGoroutine") = false)
    (hC : ∀ (s p : ByteArray) (w : World), Calls P f #[.string s, .string p] w fun e w' => e = .returned (.tuple #[.string ⟨(Lib.trimPrefix s.data.toList p.data.toList).toArray⟩, .bool (Lib.hasPrefix s.data.toList p.data.toList)]) ∧ w' = w)
    {s p : List UInt8} {K : AV → AMem → Prop} (hK : K (.tuple [.str (Lib.trimPrefix s p), .bool (Lib.hasPrefix s p)]) m) : ACalls P f [.str s, .str p] m K := by
  refine ⟨hf, fun F lim w cargs hsz hr st => ?_⟩
  obtain ⟨x, y, rfl⟩ := two_args hsz
  obtain ⟨a, rfl, ha, hl⟩ := rep_str_val (hr 0 (by simp) : Rep w lim x (.str s) [])
  obtain ⟨b, rfl, hb, _⟩ := rep_str_val (hr 1 (by simp) : Rep w lim y (.str p) [])
  refine (hC a b w).mono fun e1 w3 ⟨he, hw⟩ => ?_
  subst hw
  rw [ha, hb] at he
  refine ⟨_, _, lim, _, [], he, hK, ?_, st, .refl _ _ _⟩
  have hlen : (Lib.trimPrefix s p).length ≤ 140737488355328 := by
    have := trimPrefix_len s p
    have h2 : s.length = a.size := by rw [← ha]; exact Array.length_toList
    omega
  have h1 : Rep w3 lim (.string ⟨(Lib.trimPrefix s p).toArray⟩) (.str (Lib.trimPrefix s p)) [] := rep_str_mk hlen
  have := Rep.tuple (w := w3) (lim := lim) #[.string ⟨(Lib.trimPrefix s p).toArray⟩, .bool (Lib.hasPrefix s p)] [.str (Lib.trimPrefix s p), .bool (Lib.hasPrefix s p)] (fun _ => []) rfl (fun i hi => by
    match i, hi with
    | 0, _ => exact h1
    | 1, _ => exact .bool _)
  exact this
theorem rep_strs {v : Value} {l : List (List UInt8)} {os : List Nat} (h : Rep w lim v (.slice false (l.map strAV)) os) : (l = [] ∧ ∃ a c, v = .slice a 0 c ∧ (a = none → c = 0)) ∨
    ∃ b off c, v = .slice (some ⟨b, off, none⟩) l.length c ∧ l.length ≤ 140737488355328 ∧ ∃ zs : List ByteArray, zs.map (fun z => z.data.toList) = l ∧ ∀ j, j < zs.length → w.cell? ⟨b, off + j, none⟩ = some (.string (zs.getD j ByteArray.empty)) := by
  generalize hx : AV.slice false (l.map strAV) = x at h
  cases h <;> first | (cases hx; done) | skip
  case nils o => injection hx with h1 h2; exact .inl ⟨by simpa using h2, none, 0, rfl, fun _ => rfl⟩
  case empty a cap hm => injection hx with h1 h2; exact .inl ⟨by simpa using h2, some a, cap, rfl, fun h => by cases h⟩
  case slice b off n cap sz L cv hn hcap hm hbig hsz hlim hc hr =>
    injection hx with h1 h2
    subst h2
    have hl : l.length = n := by simpa using hn
    subst hl
    rcases Nat.eq_zero_or_pos l.length with h0 | h0
    · refine .inl ⟨List.eq_nil_of_length_eq_zero h0, some ⟨b, off, none⟩, cap, by rw [h0], fun h => by cases h⟩
    · have hs1 : sz = 1 := by
        have := hsz 0 h0
        simpa [List.getD_eq_getElem?_getD, h0, strAV, AV.cells] using this.symm
      subst hs1
      have key : ∀ i, i < l.length → ∃ z : ByteArray, cv i 0 = .string z ∧ z.data.toList = l.getD i [] := fun i hi => by
        have h3 := hr i 0 hi (by decide)
        have e2 : (((l.map strAV).getD i .junk).cells.getD 0 .junk) = .str (l.getD i []) := by simp [List.getD_eq_getElem?_getD, hi, strAV, AV.cells]
        rw [e2] at h3
        obtain ⟨z, h4, h5, _⟩ := rep_str_val h3
        exact ⟨z, h4, h5⟩
      let g : Nat → ByteArray := fun i => if h : i < l.length then (key i h).choose else ByteArray.empty
      refine .inr ⟨b, off, cap, rfl, hbig, (List.range l.length).map g, ?_, fun j hj => ?_⟩
      · apply List.ext_getElem?
        intro i
        simp only [List.getElem?_map]
        by_cases hi : i < l.length
        · rw [List.getElem?_range hi, List.getElem?_eq_getElem hi]
          simp only [Option.map_some, g, dif_pos hi]
          rw [(key i hi).choose_spec.2]
          simp [List.getD_eq_getElem?_getD, hi]
        · rw [List.getElem?_eq_none (by simpa using hi), List.getElem?_eq_none (by omega)]; rfl
      · have hj' : j < l.length := by simpa using hj
        have h6 := hc j 0 hj' (by decide)
        simp only [Nat.mul_one, Nat.add_zero] at h6
        rw [h6, (key j hj').choose_spec.1]
        simp [List.getD_eq_getElem?_getD, hj', g]
theorem contains_calls {f : Nat} (hf : ∃ fn, P.funcs[f]? = some fn ∧ fn.body.isSome = true ∧ (fn.name == "runtime.NumGoroutine") = false)
    (hC : ∀ (b off n c : Nat) (zs : List ByteArray) (x : ByteArray) (w : World), n ≤ zs.length → n ≤ 9223372036854775807 → (∀ j, j < zs.length → w.cell? ⟨b, off + j, none⟩ = some (.string (zs.getD j ByteArray.empty))) →
      Calls P f #[.slice (some ⟨b, off, none⟩) n c, .string x] w fun e w' => e = .returned (.bool (Lib.containsS (zs.take n) x)) ∧ w' = w)
    (h0 : ∀ (a : Option Addr) (c : Nat) (x : ByteArray) (w : World), Calls P f #[.slice a 0 c, .string x] w fun e w' => e = .returned (.bool false) ∧ w' = w)
    {l : List (List UInt8)} {s : List UInt8} {K : AV → AMem → Prop} (hK : K (.bool (decide (s ∈ l))) m) : ACalls P f [.slice false (l.map strAV), .str s] m K := by
  refine ⟨hf, fun F lim w cargs hsz hr st => ?_⟩
  obtain ⟨x, y, rfl⟩ := two_args hsz
  obtain ⟨b, rfl, hb, _⟩ := rep_str_val (hr 1 (by simp) : Rep w lim y (.str s) [])
  rcases rep_strs (hr 0 (by simp) : Rep w lim x (.slice false (l.map strAV)) []) with ⟨rfl, a, c, rfl, _⟩ | ⟨bb, off, c, rfl, hl, zs, hz, hcl⟩
  · refine (h0 a c b w).mono fun e1 w3 ⟨he, hw⟩ => ?_
    subst hw
    exact ⟨_, _, lim, _, [], he, by simpa using hK, .bool _, st, .refl _ _ _⟩
  · have hlz : zs.length = l.length := by rw [← hz]; simp
    refine (hC bb off l.length c zs b w (by omega) (by omega) hcl).mono fun e1 w3 ⟨he, hw⟩ => ?_
    subst hw
    have e2 : Lib.containsS (zs.take l.length) b = decide (s ∈ l) := by
      rw [List.take_of_length_le (by omega)]
      rw [Bool.eq_iff_iff, Lib.containsS_iff, decide_eq_true_eq, ← hz]
      constructor
      · intro h1; rw [← hb]; exact List.mem_map.2 ⟨_, h1, rfl⟩
      · intro h1
        obtain ⟨z, h2, h3⟩ := List.mem_map.1 h1
        rw [← hb] at h3
        have : z = b := by
          cases z; cases b
          simp only at h3
          congr 1
          exact Array.toList_inj.1 h3
        rwa [← this]
    rw [e2] at he
    exact ⟨_, _, lim, _, [], he, hK, .bool _, st, .refl _ _ _⟩
end
end Go.Aw
end
section
namespace Go.Aw
open Go RowKit Go.Sort
open Go.Proofs (encStr)
section
variable {P : Program} {F : Nat → Prop} {lim : Nat → Nat} {w w' : World} {n : Nat} {fr : Fr} {m : AMem} {ca : Act} {fl : List Nat}
theorem St.addRow (h : St F lim w n fr m ca fl) (hB : Below w.heap.size w w') {g : Nat} {cs : Array Value} {e : TypeId} (hg : w.heap.size ≤ g) (hh : w'.heap[g]? = some (.cells cs e (0, 0))) (l : List AV) (hs : cs.size = l.length) (hr : ∀ i, i < l.length → Rep w' lim (cs.getD i undef) (l.getD i .junk) []) :
    m g = none ∧ St F lim w' n fr (m.upd g (some (.cells l))) ca fl := by
  have hP := pres_below h hB
  have hgl : g < w'.heap.size := (Array.getElem?_eq_some_iff.1 hh).1
  have hF : ¬ F g := fun hf => absurd (h.lt_of_F hf) (by omega)
  obtain ⟨os0, om0, ow0, h0⟩ := h
  have hm : m g = none := (h0.fresh g hg).2.2
  have hz : lim g = 0 := (h0.fresh g hg).1
  refine ⟨hm, ?_⟩
  refine ⟨os0, fun b i => if b = g then [] else om0 b i, ow0, h0.size, h0.defers, fun t x hx => ?_, fun b o hb => ?_, h0.ownS, fun b o hb => ?_, h0.ownF, fun c hc => ?_, fun b hb => ?_⟩
  · refine ⟨(h0.slots t x hx).1, (h0.slots t x hx).2.stable (fun _ => Nat.le_refl _) hP.cell (fun c hc => ⟨hB.block c ?_, rfl⟩)⟩
    exact (h0.free c (by rw [(h0.ownS t x hx).2 c hc]; simp)).2.2
  · by_cases hbw : b = g
    · subst hbw
      simp only [AMem.upd, ↓reduceIte, Option.some.injEq] at hb ⊢
      subst hb
      exact ⟨MRep.cells cs e l (fun _ => []) hh hs hr, hz, hF⟩
    · simp only [AMem.upd, if_neg hbw] at hb ⊢
      have hlt : b < w.heap.size := by
        rcases Nat.lt_or_ge b w.heap.size with hb' | hb'
        · exact hb'
        · have := (h0.fresh b hb').2.2; rw [hb] at this; cases this
      refine ⟨(h0.mem b o hb).1.stable (hB.block b hlt) (fun _ => Nat.le_refl _) hP.cell (fun i c hc => ⟨hB.block c ?_, rfl⟩), (h0.mem b o hb).2⟩
      exact (h0.free c (by rw [(h0.ownM b o hb i).2 c hc]; simp)).2.2
  · by_cases hbw : b = g
    · simp [hbw]
    · simp only [AMem.upd, if_neg hbw] at hb ⊢
      exact h0.ownM b o hb
  · have h1 := h0.free c hc
    have hcg : c ≠ g := fun e => by have := h1.2.2; omega
    refine ⟨h1.1, ?_, Nat.lt_of_lt_of_le h1.2.2 hB.size⟩
    simp only [AMem.upd]
    rw [if_neg hcg]
    exact h1.2.1
  · have h1 := h0.fresh b (Nat.le_trans hB.size hb)
    refine ⟨h1.1, h1.2.1, ?_⟩
    simp only [AMem.upd]
    rw [if_neg (by omega)]
    exact h1.2.2
def rowJ (ss : List (List UInt8)) (t : Nat) : AObj := .cells (ss.map strAV ++ List.replicate t .junk)
theorem clone_calls {f : Nat} {eT : TypeId} (hf : ∃ fn, P.funcs[f]? = some fn ∧ fn.body.isSome = true ∧ (fn.name == "runtime.NumGoroutine") = false)
    (hC : ∀ (b off n c : Nat) (zs : List ByteArray) (w : World), n ≤ zs.length → n * 16 ≤ 140737488355328 → (∀ j, j < zs.length → w.cell? ⟨b, off + j, none⟩ = some (.string (zs.getD j ByteArray.empty))) →
      Calls P f #[.slice (some ⟨b, off, none⟩) n c] w fun e w' => ∃ v', e = .returned v' ∧ w'.ownsRow w.heap.size eT 1 v' n ((zs.take n).map (Value.string)) ∧ v' ≠ .slice none 0 0 ∧ Below w.heap.size w w')
    {l : List (List UInt8)} (hne : l ≠ []) (hl : l.length * 16 ≤ 140737488355328) {K : AV → AMem → Prop}
    (hK : ∀ b cap t, m b = none → l.length ≤ cap → K (.ms ⟨b, 0, none⟩ l.length cap) (m.upd b (some (rowJ l t)))) : ACalls P f [.slice false (l.map strAV)] m K := by
  refine ⟨hf, fun F lim w cargs hsz hr st => ?_⟩
  obtain ⟨x, rfl⟩ := one_arg hsz
  rcases rep_strs (hr 0 (by simp) : Rep w lim x (.slice false (l.map strAV)) []) with ⟨h0, _⟩ | ⟨bb, off, c, rfl, hl2, zs, hz, hcl⟩
  · exact absurd h0 hne
  · have hlz : zs.length = l.length := by rw [← hz]; simp
    refine (hC bb off l.length c zs w (by omega) hl hcl).mono fun e1 w3 ⟨v', he, ho, hv, hB⟩ => ?_
    obtain ⟨h1, h2 | ⟨g, cap, cur, h3, h4, h5, h6, h7, h8, h9⟩⟩ := ho
    · exact absurd h2.1 hv
    · have hcs : cur.size = (l.map strAV ++ List.replicate (cap - l.length) AV.junk).length := by simp; omega
      have hbound : ∀ s ∈ l, s.length ≤ 140737488355328 := fun s hs => by
        have hx := hr 0 (by simp)
        obtain ⟨i, hi, rfl⟩ := List.getElem_of_mem hs
        generalize hX : ((#[Value.slice (some ⟨bb, off, none⟩) l.length c] : Array Value).getD 0 undef) = v0 at hx
        replace hx : Rep w lim v0 (.slice false (l.map strAV)) [] := hx
        generalize hy : AV.slice false (l.map strAV) = y at hx
        generalize hos : ([] : List Nat) = os0 at hx
        cases hx <;> first | (cases hy; done) | skip
        case nils o => injection hy with _ q; exact absurd (by simpa using q) hne
        case empty a cap hm => injection hy with _ q; exact absurd (by simpa using q) hne
        case slice b0 off0 n0 cap0 sz0 L0 cv0 hn0 hcap0 hm0 hbig0 hsz0 hlim0 hc0 hr0 =>
          injection hy with _ q
          subst q
          have hi0 : i < n0 := by rw [← hn0]; simpa using hi
          have e2 : ((l.map strAV).getD i .junk) = .str l[i] := by simp [List.getD_eq_getElem?_getD, hi, strAV]
          have hs1 := hsz0 i hi0
          rw [e2] at hs1
          have h3 := hr0 i 0 hi0 (by rw [← hs1]; exact Nat.one_pos)
          rw [e2] at h3
          exact (rep_str_all (show Rep w lim _ (.str l[i]) [] from h3)).2.1
      have hcell : ∀ i, i < l.length → cur.getD i undef = encStr (l.getD i []) := fun i hi => by
        have hi2 : i < cur.size := by omega
        have q : cur.toList[i]? = some (Value.string (zs.getD i ByteArray.empty)) := by
          have := congrArg (fun L => L[i]?) h9
          simp only [List.getElem?_take, List.getElem?_map] at this
          rw [if_pos (by omega)] at this
          rw [this, if_pos hi, List.getElem?_eq_getElem (by omega)]
          simp [List.getD_eq_getElem?_getD, show i < zs.length by omega]
        have q2 : l.getD i [] = (zs.getD i ByteArray.empty).data.toList := by
          rw [← hz]
          simp [List.getD_eq_getElem?_getD, show i < zs.length by omega]
        rw [Array.getD, dif_pos hi2]
        have q3 : cur.toList[i]? = some cur[i] := by simp [hi2]
        rw [q3] at q
        have q4 := Option.some.inj q
        rw [q2]
        show cur[i] = _
        rw [q4]
      obtain ⟨hm, hst⟩ := st.addRow hB h4 h5 (l.map strAV ++ List.replicate (cap - l.length) AV.junk) hcs (fun i hi => by
        by_cases hil : i < l.length
        · rw [hcell i hil]
          have e2 : (l.map strAV ++ List.replicate (cap - l.length) AV.junk).getD i .junk = .str (l.getD i []) := by
            rw [List.getD_eq_getElem?_getD, List.getElem?_append_left (by simpa using hil)]
            simp [List.getD_eq_getElem?_getD, hil, strAV]
          rw [e2]
          exact rep_str_mk (hbound _ (by rw [List.getD_eq_getElem?_getD, List.getElem?_eq_getElem hil]; exact List.getElem_mem _))
        · have e2 : (l.map strAV ++ List.replicate (cap - l.length) AV.junk).getD i .junk = .junk := by
            rw [List.getD_eq_getElem?_getD, List.getElem?_append_right (by simpa using Nat.le_of_not_lt hil)]
            simp only [List.getElem?_replicate]
            split <;> rfl
          rw [e2]; exact .junk _)
      subst h3
      exact ⟨_, _, lim, _, [], he, hK g cap (cap - l.length) hm h6, .ms _ _ _ h6 h7, hst, pres_below st hB⟩
theorem clone_calls0 {f : Nat} {eT : TypeId} (hf : ∃ fn, P.funcs[f]? = some fn ∧ fn.body.isSome = true ∧ (fn.name == "runtime.NumGoroutine") = false)
    (hN : ∀ (n c : Nat) (w : World), Calls P f #[.slice none n c] w fun e w' => e = .returned (.slice none 0 0) ∧ w' = w)
    (hZ : ∀ (a : Addr) (c : Nat) (w : World), Calls P f #[.slice (some a) 0 c] w fun e w' => ∃ v', e = .returned v' ∧ w'.ownsRow w.heap.size eT 1 v' 0 [] ∧ v' ≠ .slice none 0 0 ∧ Below w.heap.size w w')
    {K : AV → AMem → Prop} (hK : K (.slice false []) m) : ACalls P f [.slice false []] m K := by
  refine ⟨hf, fun F lim w cargs hsz hr st => ?_⟩
  obtain ⟨x, rfl⟩ := one_arg hsz
  rcases rep_strs (l := []) (hr 0 (by simp) : Rep w lim x (.slice false ([].map strAV)) []) with ⟨_, a, c, rfl, _⟩ | ⟨bb, off, c, rfl, hl2, zs, hz, hcl⟩
  · cases a with
    | none =>
      refine (hN 0 c w).mono fun e1 w3 ⟨he, hw⟩ => ?_
      subst hw
      exact ⟨_, _, lim, _, [], he, hK, .nils false, st, .refl _ _ _⟩
    | some a =>
      refine (hZ a c w).mono fun e1 w3 ⟨v', he, ho, hv, hB⟩ => ?_
      obtain ⟨h1, h2 | ⟨g, cap, cur, h3, h4, h5, h6, h7, h8, h9⟩⟩ := ho
      · exact absurd h2.1 hv
      · subst h3
        exact ⟨_, _, lim, _, [], he, hK, .empty _ _ h7, st.below hB, pres_below st hB⟩
  · refine (hZ ⟨bb, off, none⟩ c w).mono fun e1 w3 ⟨v', he, ho, hv, hB⟩ => ?_
    obtain ⟨h1, h2 | ⟨g, cap, cur, h3, h4, h5, h6, h7, h8, h9⟩⟩ := ho
    · exact absurd h2.1 hv
    · subst h3
      exact ⟨_, _, lim, _, [], he, hK, .empty _ _ h7, st.below hB, pres_below st hB⟩
end
end Go.Aw
end
section
namespace Go.Aw
open Go RowKit Go.Sort
open Go.Proofs (encStr)
section
variable {P : Program} {F : Nat → Prop} {lim : Nat → Nat} {w w' : World} {n : Nat} {fr : Fr} {m : AMem} {ca : Act} {fl : List Nat}
theorem St.putStrsT (st : St F lim w n fr m ca []) {b : Nat} {zs ss : List (List UInt8)} {tl : List AV} (hm : m b = some (.cells (zs.map strAV ++ tl))) (hs : ss.length ≤ zs.length) (hb : ∀ s ∈ ss, s.length ≤ 140737488355328) (k : Nat) (os : Array Obj) :
    St F lim (Sort.grow (putRow encStr (Go.Sort.ahead w k) b 0 ss.toArray) os) n fr (m.upd b (some (.cells ((ss ++ zs.drop ss.length).map strAV ++ tl)))) ca [] ∧ Pres F w lim (Sort.grow (putRow encStr (Go.Sort.ahead w k) b 0 ss.toArray) os) lim := by
  have hex : ∃ cs e, w.heap[b]? = some (.cells cs e (0, 0)) ∧ cs.size = zs.length + tl.length := by
    obtain ⟨os, om, ow, h⟩ := st
    have hM := (h.mem b _ hm).1
    generalize hx : (zs.map strAV ++ tl) = X at hM
    cases hM with
    | cells cs e l _ hb hs hr => exact ⟨cs, e, hb, by rw [hs, ← hx]; simp⟩
  obtain ⟨cs, e, hbk, hcs⟩ := hex
  obtain ⟨s1, s2⟩ := st.storeMem (off := 0) (xs := ss.map strAV) (vs := ss.map encStr) (oss := fun _ => []) hm hbk (by simp; omega) (by simp) (fun i hi => by
    have hi' : i < ss.length := by simpa using hi
    have : Rep w lim (encStr ss[i]) (.str ss[i]) [] := rep_str_mk (hb _ (List.getElem_mem hi'))
    simpa [List.getD_eq_getElem?_getD, hi', strAV] using this) (by rw [flatMap_nil])
  have e1 : (cs.toList.take 0 ++ ss.map encStr ++ cs.toList.drop (0 + (ss.map encStr).length)).toArray = putCells encStr 0 ss.toArray cs := by
    apply Array.ext_getElem?
    intro i
    simp only [putCells, Array.getElem?_mapIdx, List.take_zero, List.nil_append, Nat.zero_add, List.length_map, List.getElem?_toArray, List.size_toArray, Nat.zero_le, true_and, Nat.sub_zero]
    by_cases hi : i < ss.length
    · rw [List.getElem?_append_left (by simpa using hi)]
      have : i < cs.size := by omega
      simp [hi, this]
    · rw [List.getElem?_append_right (by simpa using Nat.le_of_not_lt hi)]
      simp only [List.length_map, List.getElem?_drop, hi, if_false]
      rw [show ss.length + (i - ss.length) = i by omega]
      simp
  rw [e1] at s1 s2
  have e2 : (putRow encStr (Go.Sort.ahead w k) b 0 ss.toArray).heap = (w.setRow b (putCells encStr 0 ss.toArray cs)).heap := by
    show w.heap.modify b (onCells (putCells encStr 0 ss.toArray)) = (w.setRow b (putCells encStr 0 ss.toArray cs)).heap
    apply Array.ext_getElem?
    intro i
    by_cases hi : b = i
    · subst hi
      rw [setRow_heap w b cs _ e (0, 0) hbk]
      simp [Array.getElem?_modify, hbk, onCells]
    · rw [setRow_other w b i _ (Ne.symm hi)]
      simp [Array.getElem?_modify, hi]
  generalize hw1 : w.setRow b (putCells encStr 0 ss.toArray cs) = w1 at s1 s2 e2
  generalize hw2 : Sort.grow (putRow encStr (Go.Sort.ahead w k) b 0 ss.toArray) os = w2
  have hh : w2.heap = w1.heap ++ os := by rw [← hw2]; show (putRow encStr (Go.Sort.ahead w k) b 0 ss.toArray).heap ++ os = _; rw [e2]
  have hold : ∀ c, c < w1.heap.size → w2.heap[c]? = w1.heap[c]? := fun c hc => by rw [hh, Array.getElem?_append_left hc]
  have hcell : ∀ c o, o < lim c → w2.cell? ⟨c, o, none⟩ = w1.cell? ⟨c, o, none⟩ := fun c o ho => by
    simp [World.cell?, hold c (s1.lt_of_lim ho)]
  have hfr : ∀ c, w1.heap.size ≤ c → lim c = 0 := fun c hc => by
    obtain ⟨_, _, _, h⟩ := s1
    exact (h.fresh c hc).1
  rw [List.take_zero, List.nil_append, Nat.zero_add] at s1
  refine ⟨?_, s2.trans ?_⟩
  · have s3 := s1.world (w' := w2) (lim' := lim) (by rw [hh]; simp) (fun _ => Nat.le_refl _) hcell (fun c hc => .inr ⟨hold c hc, rfl⟩) (fun c hc => ⟨hold c (s1.lt_of_mem hc), rfl⟩) (fun c hc => hfr c (by rw [hh] at hc; simp at hc; omega))
    have e3 : ss.map strAV ++ (zs.map strAV ++ tl).drop (ss.map strAV).length = (ss ++ zs.drop ss.length).map strAV ++ tl := by
      rw [List.drop_append_of_le_length (by simpa using hs)]; simp
    rw [e3] at s3
    exact s3
  · refine ⟨?_, ?_, ?_, by rw [hh]; simp, fun c hc => ⟨hold c (s1.lt_of_F hc), rfl⟩, fun _ => Nat.le_refl _, hcell⟩ <;> (rw [← hw2, ← hw1]; rfl)
theorem sort_callsT {f : FuncId} (hex : ∃ fn, P.funcs[f]? = some fn ∧ fn.body.isSome = true ∧ (fn.name == "runtime.NumGoroutine") = false)
    (hC : ∀ (blk off cap : Nat) (ss : List (List UInt8)) (w : World), Holds encStr w blk off ss.toArray → blk < w.heap.size → ss.length < 4611686018427387904 →
      Calls P f #[.slice (some ⟨blk, off, none⟩) ss.length cap] w fun e w' => e = .returned (.tuple #[]) ∧ ∃ n os, w' = Sort.grow (putRow encStr (Sort.ahead w n) blk off (ss.mergeSort fun x y => decide (x ≤ y)).toArray) os)
    (b k cap : Nat) (zs : List (List UInt8)) (tl : List AV) (hk : k ≤ zs.length) (hkb : k ≤ 140737488355328) (m : AMem) (K : AV → AMem → Prop) (hK : K (.tuple []) (m.wth [(b, .cells ((sortL (zs.take k) ++ zs.drop k).map strAV ++ tl))])) : ACalls P f [.ms ⟨b, 0, none⟩ k cap] (m.wth [(b, .cells (zs.map strAV ++ tl))]) K := by
  refine ⟨hex, fun F lim w cargs hs hr st => ?_⟩
  have h0 := hr 0 (by simp)
  simp only [List.getD_cons_zero] at h0
  obtain ⟨e0, _, hcm⟩ := rep_ms_inv h0
  have ec : cargs = #[.slice (some ⟨b, 0, none⟩) k cap] := by
    apply Array.ext (by simp [hs])
    intro i hi hi'
    obtain rfl : i = 0 := by simp [hs] at hi; omega
    have : cargs.getD 0 undef = cargs[0] := by simp [Array.getD, hi]
    rw [← this, e0]; rfl
  have hm : (m.wth [(b, .cells (zs.map strAV ++ tl))]) b = some (.cells (zs.map strAV ++ tl)) := wth_get (L := [(b, .cells (zs.map strAV ++ tl))]) 0 (by simp) rfl
  have hcells : ∃ cs e, w.heap[b]? = some (.cells cs e (0, 0)) ∧ cs.size = zs.length + tl.length ∧ ∀ i, i < zs.length → cs.getD i undef = encStr (zs.getD i []) ∧ (zs.getD i []).length ≤ 140737488355328 := by
    obtain ⟨os, om, ow, h⟩ := st
    have hM := (h.mem b _ hm).1
    generalize hx : (zs.map strAV ++ tl) = X at hM
    cases hM with
    | cells cs e l _ hb hs hr =>
      refine ⟨cs, e, hb, by rw [hs, ← hx]; simp, fun i hi => ?_⟩
      have := hr i (by rw [← hx]; simp; omega)
      rw [← hx] at this
      have e2 : (zs.map strAV ++ tl).getD i .junk = .str (zs.getD i []) := by
        rw [List.getD_eq_getElem?_getD, List.getElem?_append_left (by simpa using hi)]; simp [List.getD_eq_getElem?_getD, hi, strAV]
      rw [e2] at this
      have := rep_str_all this
      exact ⟨this.1, this.2.1⟩
  obtain ⟨cs, e, hb, hsz, hcv⟩ := hcells
  have hlt : b < w.heap.size := (Array.getElem?_eq_some_iff.1 hb).1
  have htl : (zs.take k).length = k := by simp; omega
  have hH : Holds encStr w b 0 (zs.take k).toArray := fun j hj => by
    have hj' : j < k := by simpa [htl] using hj
    have hjz : j < zs.length := by omega
    refine ⟨?_, ?_⟩
    · have := (hcv j hjz).1
      have hjc : j < cs.size := by omega
      simp only [Array.getD, hjc, dite_true] at this
      simp only [World.cell?, hb, Nat.zero_add]
      simp only [Option.map_some, Array.getElem?_eq_getElem hjc]
      rw [show cs[j] = encStr (zs.getD j []) from this]
      simp [List.getD_eq_getElem?_getD, hjz, hj', getElem!_def]
    · simp [World.frozen?, hb]
  have hC0 := hC b 0 cap (zs.take k) w hH hlt (by rw [htl]; omega)
  rw [htl] at hC0
  rw [ec]
  refine hC0.mono fun e w' ⟨he, nn, os, hw⟩ => ?_
  have hsl : (sortL (zs.take k)).length = k := by rw [sortL_len, htl]
  obtain ⟨s1, s2⟩ := st.putStrsT hm (ss := sortL (zs.take k)) (by rw [hsl]; exact hk) (fun s hs => by
    have h1 := (sortL_perm (zs.take k)).mem_iff.1 hs
    obtain ⟨i, hi, rfl⟩ := List.getElem_of_mem (List.mem_of_mem_take h1)
    have := (hcv i hi).2
    simpa [List.getD_eq_getElem?_getD, hi] using this) nn os
  subst hw
  have eu : (m.wth [(b, .cells (zs.map strAV ++ tl))]).upd b (some (.cells ((sortL (zs.take k) ++ zs.drop (sortL (zs.take k)).length).map strAV ++ tl))) = m.wth [(b, .cells ((sortL (zs.take k) ++ zs.drop k).map strAV ++ tl))] := by
    rw [hsl]
    exact wth_set (L := [(b, .cells (zs.map strAV ++ tl))]) 0 (by simp) rfl
  rw [eu] at s1
  refine ⟨.tuple #[], .tuple [], lim, _, [], he, hK, ?_, s1, s2⟩
  have := Rep.tuple (w := Sort.grow (putRow encStr (Sort.ahead w nn) b 0 (sortL (zs.take k)).toArray) os) (lim := lim) #[] [] (fun _ => []) rfl (fun i hi => by simp at hi)
  rwa [flatMap_nil] at this
theorem compact_mem {x : List UInt8} {l : List (List UInt8)} (h : x ∈ Lib.compact l) : x ∈ l := by
  unfold Lib.compact Lib.compactUpTo at h
  obtain ⟨i, h1, rfl⟩ := List.mem_map.1 h
  have hi : i < l.length := List.mem_range.1 (List.mem_filter.1 h1).1
  simp [getElem!_def, hi]
theorem compact_callsT {f : FuncId} (hex : ∃ fn, P.funcs[f]? = some fn ∧ fn.body.isSome = true ∧ (fn.name == "runtime.NumGoroutine") = false)
    (hC : ∀ (blk off cap : Nat) (ss : List (List UInt8)) (w : World), Holds encStr w blk off ss.toArray → ss.length ≤ 9223372036854775807 → ss.length ≤ cap →
      Calls P f #[.slice (some ⟨blk, off, none⟩) ss.length cap] w fun e w' => e = .returned (.slice (some ⟨blk, off, none⟩) (Lib.compact ss).length cap) ∧ ∃ q, w' = putRow encStr (Sort.ahead w q) blk off (Lib.compact ss ++ List.replicate (ss.length - (Lib.compact ss).length) []).toArray)
    (b cap : Nat) (zs : List (List UInt8)) (tl : List AV) (hkb : zs.length ≤ 140737488355328) (m : AMem) (K : AV → AMem → Prop) (hK : K (.ms ⟨b, 0, none⟩ (Lib.compact zs).length cap) (m.wth [(b, .cells ((Lib.compact zs ++ List.replicate (zs.length - (Lib.compact zs).length) []).map strAV ++ tl))])) : ACalls P f [.ms ⟨b, 0, none⟩ zs.length cap] (m.wth [(b, .cells (zs.map strAV ++ tl))]) K := by
  refine ⟨hex, fun F lim w cargs hs hr st => ?_⟩
  have h0 := hr 0 (by simp)
  simp only [List.getD_cons_zero] at h0
  obtain ⟨e0, hkc, hcm⟩ := rep_ms_inv h0
  have ec : cargs = #[.slice (some ⟨b, 0, none⟩) zs.length cap] := by
    apply Array.ext (by simp [hs])
    intro i hi hi'
    obtain rfl : i = 0 := by simp [hs] at hi; omega
    have : cargs.getD 0 undef = cargs[0] := by simp [Array.getD, hi]
    rw [← this, e0]; rfl
  have hm : (m.wth [(b, .cells (zs.map strAV ++ tl))]) b = some (.cells (zs.map strAV ++ tl)) := wth_get (L := [(b, .cells (zs.map strAV ++ tl))]) 0 (by simp) rfl
  have hcells : ∃ cs e, w.heap[b]? = some (.cells cs e (0, 0)) ∧ cs.size = zs.length + tl.length ∧ ∀ i, i < zs.length → cs.getD i undef = encStr (zs.getD i []) ∧ (zs.getD i []).length ≤ 140737488355328 := by
    obtain ⟨os, om, ow, h⟩ := st
    have hM := (h.mem b _ hm).1
    generalize hx : (zs.map strAV ++ tl) = X at hM
    cases hM with
    | cells cs e l _ hb hs hr =>
      refine ⟨cs, e, hb, by rw [hs, ← hx]; simp, fun i hi => ?_⟩
      have := hr i (by rw [← hx]; simp; omega)
      rw [← hx] at this
      have e2 : (zs.map strAV ++ tl).getD i .junk = .str (zs.getD i []) := by
        rw [List.getD_eq_getElem?_getD, List.getElem?_append_left (by simpa using hi)]; simp [List.getD_eq_getElem?_getD, hi, strAV]
      rw [e2] at this
      have := rep_str_all this
      exact ⟨this.1, this.2.1⟩
  obtain ⟨cs, e, hb, hsz, hcv⟩ := hcells
  have hlt : b < w.heap.size := (Array.getElem?_eq_some_iff.1 hb).1
  have hH : Holds encStr w b 0 zs.toArray := fun j hj => by
    have hjz : j < zs.length := by simpa using hj
    refine ⟨?_, ?_⟩
    · have := (hcv j hjz).1
      have hjc : j < cs.size := by omega
      simp only [Array.getD, hjc, dite_true] at this
      simp only [World.cell?, hb, Nat.zero_add]
      simp only [Option.map_some, Array.getElem?_eq_getElem hjc]
      rw [show cs[j] = encStr (zs.getD j []) from this]
      simp [List.getD_eq_getElem?_getD, hjz, getElem!_def]
    · simp [World.frozen?, hb]
  rw [ec]
  refine (hC b 0 cap zs w hH (by omega) hkc).mono fun e w' ⟨he, nn, hw⟩ => ?_
  have hcl : (Lib.compact zs).length ≤ zs.length := Lib.compact_length_le zs
  have hsl : (Lib.compact zs ++ List.replicate (zs.length - (Lib.compact zs).length) ([] : List UInt8)).length = zs.length := by simp; omega
  obtain ⟨s1, s2⟩ := st.putStrsT hm (ss := Lib.compact zs ++ List.replicate (zs.length - (Lib.compact zs).length) []) (by rw [hsl]; exact Nat.le_refl _) (fun s hs => by
    rcases List.mem_append.1 hs with h1 | h1
    · obtain ⟨i, hi, rfl⟩ := List.getElem_of_mem (compact_mem h1)
      have := (hcv i hi).2
      simpa [List.getD_eq_getElem?_getD, hi] using this
    · rw [List.eq_of_mem_replicate h1]; simp) nn #[]
  rw [Sort.grow_empty] at s1 s2
  subst hw
  have eu : (m.wth [(b, .cells (zs.map strAV ++ tl))]).upd b (some (.cells ((Lib.compact zs ++ List.replicate (zs.length - (Lib.compact zs).length) [] ++ zs.drop (Lib.compact zs ++ List.replicate (zs.length - (Lib.compact zs).length) ([] : List UInt8)).length).map strAV ++ tl))) = m.wth [(b, .cells ((Lib.compact zs ++ List.replicate (zs.length - (Lib.compact zs).length) []).map strAV ++ tl))] := by
    rw [hsl, List.drop_length, List.append_nil]
    exact wth_set (L := [(b, .cells (zs.map strAV ++ tl))]) 0 (by simp) rfl
  rw [eu] at s1
  exact ⟨_, _, lim, _, [], he, hK, .ms _ _ _ (by omega) hcm, s1, s2⟩
theorem St.freezeT (st : St F lim w n fr m ca []) {b : Nat} {zs : List (List UInt8)} {tl : List AV} (hm : m b = some (.cells (zs.map strAV ++ tl))) :
    St F (fun c => if c = b then zs.length else lim c) w n fr (m.upd b none) ca [] ∧ Pres F w lim w (fun c => if c = b then zs.length else lim c) ∧
    ∀ k cap v, k ≤ zs.length → k ≤ 140737488355328 → Rep w lim v (.ms ⟨b, 0, none⟩ k cap) [] → Rep w (fun c => if c = b then zs.length else lim c) v (.slice false ((zs.take k).map strAV)) [] := by
  obtain ⟨os, om, ow, h⟩ := st
  obtain ⟨hM, hl, hF⟩ := h.mem b _ hm
  have hlim : ∀ c, lim c ≤ if c = b then zs.length else lim c := fun c => by split <;> simp_all
  have hown : ∀ c, ow c ≠ .none → c ≠ b := fun c hc e => by subst e; have := (h.free c hc).2.1; rw [hm] at this; cases this
  have hst : ∀ {v x os'}, Rep w lim v x os' → (∀ c ∈ os', ow c ≠ .none) → Rep w (fun c => if c = b then zs.length else lim c) v x os' := fun hR ho => hR.stable hlim (fun _ _ _ => rfl) (fun c hc => ⟨rfl, if_neg (hown c (ho c hc))⟩)
  have hblt : b < w.heap.size := by
    rcases Nat.lt_or_ge b w.heap.size with h3 | h3
    · exact h3
    · rw [(h.fresh b h3).2.2] at hm; cases hm
  refine ⟨⟨os, om, ow, h.size, h.defers, fun t x hx => ⟨(h.slots t x hx).1, hst (h.slots t x hx).2 (fun c hc => by rw [(h.ownS t x hx).2 c hc]; simp)⟩, fun c o hc => ?_, h.ownS, fun c o hc i => ?_, h.ownF, fun c hc => ⟨(h.free c hc).1, ?_, (h.free c hc).2.2⟩, fun c hc => ?_⟩, ⟨rfl, rfl, rfl, Nat.le_refl _, fun c hc => ⟨rfl, ?_⟩, hlim, fun _ _ _ => rfl⟩, fun k cap v hk hz hv => ?_⟩
  · have hcb : c ≠ b := fun e => by subst e; simp [AMem.upd] at hc
    simp only [AMem.upd, if_neg hcb] at hc
    have := h.mem c o hc
    refine ⟨this.1.stable rfl hlim (fun _ _ _ => rfl) (fun i q hq => ⟨rfl, if_neg (hown q (by rw [(h.ownM c o hc i).2 q hq]; simp))⟩), by rw [if_neg hcb]; exact this.2.1, this.2.2⟩
  · have hcb : c ≠ b := fun e => by subst e; simp [AMem.upd] at hc
    simp only [AMem.upd, if_neg hcb] at hc
    exact h.ownM c o hc i
  · have := (h.free c hc).2.1
    simp only [AMem.upd]; split
    · rfl
    · exact this
  · have := h.fresh c hc
    have hcb : c ≠ b := by omega
    refine ⟨by rw [if_neg hcb]; exact this.1, this.2.1, ?_⟩
    simp only [AMem.upd, if_neg hcb]; exact this.2.2
  · exact if_neg (fun e => hF (by rw [← e]; exact hc))
  · obtain ⟨rfl, hkc, hcm⟩ := rep_ms_inv hv
    rcases Nat.eq_zero_or_pos k with h0 | h0
    · subst h0
      exact .empty _ cap hcm
    generalize hX : zs.map strAV ++ tl = X at hM
    cases hM with
    | cells cs e l _ hb hs hr =>
      have hsz : cs.size = zs.length + tl.length := by rw [hs, ← hX]; simp
      refine Rep.slice b 0 k cap 1 _ (fun i _ => cs.getD i undef) (by simp; omega) hkc hcm (by omega) (fun i hi => ?_) (by simp; omega) (fun i j hi hj => ?_) (fun i j hi hj => ?_)
      · have hiz : i < zs.length := by omega
        simp [List.getD_eq_getElem?_getD, hi, hiz, strAV, AV.cells]
      · obtain rfl : j = 0 := by omega
        have hic : i < cs.size := by omega
        simp [World.cell?, hb, Array.getD, hic]
      · obtain rfl : j = 0 := by omega
        have hiz : i < zs.length := by omega
        have h1 := hr i (by rw [← hX]; simp; omega)
        rw [← hX] at h1
        have e2 : (zs.map strAV ++ tl).getD i .junk = .str zs[i] := by
          rw [List.getD_eq_getElem?_getD, List.getElem?_append_left (by simpa using hiz)]; simp [hiz, strAV]
        rw [e2] at h1
        have h2 := rep_str_all h1
        have e3 : (((zs.take k).map strAV).getD i .junk).cells.getD 0 .junk = .str zs[i] := by simp [List.getD_eq_getElem?_getD, hi, hiz, strAV, AV.cells]
        rw [e3, h2.1]
        exact rep_str_mk h2.2.1
end
end Go.Aw
end
section
namespace Go.Sx
open Go Go.Aw
section
variable {P : Program} {b0 : List Nat} {fr : SFr} {L : List SObj} {m : AMem}
theorem callN {f : FuncId} {vs : List SV} {Q : SV → List SObj → AMem → Prop} {σ : Type} (I : σ → Prop) (o : σ → SObj) (y : σ → SV) (hs : (scF L.length fr && scM L.length L) = true)
    (h : ∀ bs (mm : AMem), bs.length = L.length → (∀ b o, m b = some o → mm b = some o) → ∀ (K : AV → AMem → Prop), (∀ x b, I x → mm b = none → K (den (bs ++ [b]) (y x)) (mm.upd b (some (denO (bs ++ [b]) (o x))))) → ACalls P f (denL bs vs) mm K)
    (hQ : ∀ x, I x → Q (y x) (L ++ [o x]) m) : SCall P b0 f vs fr L m Q := by
  simp only [Bool.and_eq_true] at hs
  refine ⟨σ, I, y, fun x => L ++ [o x], fun _ => m, fun new g K hK => h (b0 ++ new) _ g.len (fun _ _ hb => mem_base g hb) K fun x b hx hb => ?_, fun x => ?_, hQ⟩
  · obtain ⟨g', e⟩ := mem_new g (by rw [g.len]; exact hs.2) hb (o x)
    have := hK x hx [b] g'
    rw [e] at this
    exact this
  · rw [hs.1]; cases Nat.beq (L ++ [o x]).length L.length <;> rfl
theorem getD_snoc {bs : List Nat} {b n : Nat} (h : bs.length = n) : (bs ++ [b]).getD n 0 = b := by
  subst h
  rw [List.getD_eq_getElem?_getD, List.getElem?_append_right (Nat.le_refl _)]; simp
theorem callClone {f : FuncId} {v : SV} {Q : SV → List SObj → AMem → Prop} (l : List (List UInt8)) (hv : ∀ bs, den bs v = .slice false (l.map strAV)) (hs : (scF L.length fr && scM L.length L) = true)
    (h : ∀ (m : AMem) (K : AV → AMem → Prop), (∀ b cap t, m b = none → l.length ≤ cap → K (.ms ⟨b, 0, none⟩ l.length cap) (m.upd b (some (rowJ l t)))) → ACalls P f [.slice false (l.map strAV)] m K)
    (hQ : ∀ cap t : Nat, l.length ≤ cap → Q (.ms L.length l.length cap) (L ++ [.obj (rowJ l t)]) m) : SCall P b0 f [v] fr L m Q :=
  callN (σ := Nat × Nat) (fun x => l.length ≤ x.1) (fun x => .obj (rowJ l x.2)) (fun x => .ms L.length l.length x.1) hs (fun bs mm hl _ K hK => by
    simp only [denL, hv]
    refine h mm K fun b cap t hb hc => ?_
    have := hK (cap, t) b hc hb
    simp only [den, denO, getD_snoc hl] at this
    exact this) fun x hx => hQ x.1 x.2 hx
end
section
variable {bs : List Nat} {L L' : List SObj} {m : AMem} {fr : SFr}
theorem cvT {c : Cfg} {A : SK} {R : Prop} (zs : List (List UInt8)) (t : Nat) (ys : List (List UInt8)) (s : Nat) {i k cap : Nat} (hL : nth L i = some (.obj (rowJ zs t))) (hi : (Nat.beq (i + 1) L.length && Nat.ble c.bs.length i) = true) (hs : sgK fr s fun v => v = .ms i k cap)
    (hk : k ≤ zs.length ∧ k ≤ 140737488355328) (hy : zs.take k = ys)
    (h : fgF i ((s, .av (.slice false (ys.map strAV))) :: fr) fun fr' => fgM i (L.take i) fun L' => A fr' L' m) : SOr (SCv c A fr L m) R := ⟨.inl ⟨fun new g n cd Q hQ F lim wd ca st => by
  simp only [Bool.and_eq_true] at hi
  have hi1 := Nat.eq_of_beq_eq_true hi.1
  have hi2 := Nat.le_of_ble_eq_true hi.2
  rw [nth_eq] at hL
  obtain ⟨fr', h1, hF⟩ := fgF_sound h
  obtain ⟨L', h2, hl2, hM⟩ := fgM_sound h1
  generalize hB : c.bs ++ new = B at g st
  have hBl := g.len
  have hL2 : L'.length = i := by rw [hl2, List.length_take]; omega
  have hm := mem_get g hL
  simp only [denO] at hm
  obtain ⟨s1, s2, s3⟩ := Aw.St.freezeT st (zs := zs) (tl := List.replicate t .junk) hm
  have hslot := sgK_get (bs := B) hs (by simp)
  simp only [den] at hslot
  have st2 := Aw.St.convSlot s1 (y := .slice false (ys.map strAV)) hslot (fun v os hr => by
    have e := ms_none hr
    subst e
    obtain ⟨e1, e2, e3⟩ := rep_ms_inv hr
    rw [← hy]
    exact s3 k cap v hk.1 hk.2 (by rw [e1]; exact .ms _ _ _ e2 e3))
  have g' : Good (B.take i) L' m := good_take g hi1 hL2
  have hpre : c.bs <+: B.take i := by
    rw [← hB, List.take_append, List.take_of_length_le hi2]
    exact List.prefix_append _ _
  have hmle : MLe (memD (B.take i) L' m) ((memD B L m).upd (B.getD i 0) none) := by
    intro b o' hb
    rcases memD_get g' hb with ⟨q, x, q1, q2, rfl⟩ | ⟨q1, q2⟩
    · obtain ⟨o, q3, q4⟩ := hM B 0 q x q2
      have hqi : q < i := by
        rcases Nat.lt_or_ge q i with h | h
        · exact h
        · rw [List.getElem?_eq_none (by omega)] at q2; cases q2
      rw [List.getElem?_take_of_lt hqi] at q1 q3
      rw [← denO_congr (take_getD (bs := B) (i := i) (by omega)) x] at q4
      have eb : B.getD q 0 = b := by rw [List.getD_eq_getElem?_getD, q1]; rfl
      have hqn : b ≠ B.getD i 0 := fun e => by
        have := getD_inj g.nd (by omega) (by omega) (eb.trans e)
        omega
      have hg := mem_get g q3
      rw [eb] at hg
      exact ⟨denO B o, by simp only [AMem.upd, if_neg hqn]; exact hg, q4⟩
    · have hbB : b ∉ B := fun hb2 => by rw [g.fresh b hb2] at q2; cases q2
      have h5 : b ≠ B.getD i 0 := fun e => hbB (by rw [e, List.getD_eq_getElem?_getD, List.getElem?_eq_getElem (by omega)]; exact List.getElem_mem _)
      refine ⟨o', ?_, .inl rfl⟩
      simp only [AMem.upd, if_neg h5, memD]
      rw [wth_other (by rw [denM_fst g.len]; exact hbB)]
      exact q2
  have hle : Le (denF (B.take i) fr') ((denF B fr).put s (.slice false (ys.map strAV))) := by
    rw [denF_congr (take_getD (bs := B) (i := i) (by omega))]
    have := hF B 0
    simp only [denF, den, AV.plain] at this
    exact this
  have hA := AWP.less hle (AWP.lessM hmle (hQ fr' L' m (B.take i) hpre g' h2))
  exact wp_mono (hA F _ wd ca st2) fun e a w' ⟨l, f, m', q, st', pr⟩ => ⟨l, f, m', q, st', s2.trans pr⟩⟩⟩
end
end Go.Sx
end
section
namespace Go.Sx
open Go Go.Aw
theorem get3 {bs : List Nat} {x y z n : Nat} (h : bs.length = n) : (bs ++ [x] ++ [y] ++ [z]).getD n 0 = x ∧ (bs ++ [x] ++ [y] ++ [z]).getD (n + 1) 0 = y ∧ (bs ++ [x] ++ [y] ++ [z]).getD (n + 2) 0 = z := by
  subst h
  simp only [List.getD_eq_getElem?_getD, List.append_assoc]
  refine ⟨?_, ?_, ?_⟩ <;> rw [List.getElem?_append_right (by omega)] <;> simp
section
variable {P : Program} {b0 : List Nat} {fr : SFr} {L : List SObj} {m : AMem}
theorem callN3 {f : FuncId} {vs : List SV} {Q : SV → List SObj → AMem → Prop} (oz oy ox : SObj) (X : Nat → Nat → Nat → AObj) (Y Z : AObj)
    (hs : (scF L.length fr && (scM L.length L && (scM (L.length + 1) (L ++ [oz]) && scM (L.length + 2) (L ++ [oz] ++ [oy])))) = true)
    (hZ : ∀ bs, denO bs oz = Z) (hY : ∀ bs, denO bs oy = Y) (hX : ∀ bs d nb kb, bs.length = L.length → denO (bs ++ [kb] ++ [nb] ++ [d]) ox = X d nb kb)
    (h : ∀ bs (mm : AMem), bs.length = L.length → (∀ b o, m b = some o → mm b = some o) → ∀ K : AV → AMem → Prop, (∀ d nb kb, [d, nb, kb].Nodup → mm d = none → mm nb = none → mm kb = none → K (.ptr ⟨d, 0, none⟩) (mm.wth [(d, X d nb kb), (nb, Y), (kb, Z)])) → ACalls P f (denL bs vs) mm K)
    (hQ : Q (.loc (L.length + 2) 0) (L ++ [oz] ++ [oy] ++ [ox]) m) : SCall P b0 f vs fr L m Q := by
  simp only [Bool.and_eq_true] at hs
  refine SCall.one (.loc (L.length + 2) 0) (L ++ [oz] ++ [oy] ++ [ox]) m (fun new g K hK => h (b0 ++ new) _ g.len (fun _ _ hb => mem_base g hb) K fun d nb kb hn hd hnb hkb => ?_) ?_ hQ
  · simp only [List.nodup_cons, List.mem_cons, List.not_mem_nil, or_false, not_or] at hn
    obtain ⟨g1, e1⟩ := mem_new g (by rw [g.len]; exact hs.2.1) hkb oz
    have hnb1 : memD (b0 ++ new ++ [kb]) (L ++ [oz]) m nb = none := by
      rw [e1]; simp only [AMem.upd]; rw [if_neg hn.2.1]; exact hnb
    obtain ⟨g2, e2⟩ := mem_new g1 (by rw [g1.len]; simpa using hs.2.2.1) hnb1 oy
    have hd1 : memD (b0 ++ new ++ [kb] ++ [nb]) (L ++ [oz] ++ [oy]) m d = none := by
      rw [e2]; simp only [AMem.upd]; rw [if_neg hn.1.1, e1]; simp only [AMem.upd]; rw [if_neg hn.1.2]; exact hd
    obtain ⟨g3, e3⟩ := mem_new g2 (by rw [g2.len]; simpa using hs.2.2.2) hd1 ox
    have e : b0 ++ new ++ [kb, nb, d] = b0 ++ new ++ [kb] ++ [nb] ++ [d] := by simp
    have h1 := hK [kb, nb, d]
    rw [e] at h1
    have h2 := h1 g3
    rw [e3, e2, e1, hZ, hY, hX _ d nb kb g.len] at h2
    simp only [den] at h2
    rw [(get3 g.len).2.2] at h2
    exact h2
  · rw [hs.1]
    cases Nat.beq (L ++ [oz] ++ [oy] ++ [ox]).length L.length <;> rfl
end
end Go.Sx
end
section
namespace Go.Proofs
open Go Go.Aw
theorem Tryd.mixed : Tryd.prog.follows .mixedOrders = true := by kernel_rfl
end Go.Proofs
end
section
namespace Go.Proofs
open Go.Shelf
def Tryd.lays103_ren : Go.Shelf.Ren := ⟨fun | 103 => 42 | 210 => 52 | 206 => 70 | n => n, fun | 9 => 9 | 4 => 4 | 24 => 78 | 3 => 3 | n => n, fun | n => n⟩
theorem Tryd.lays103 : Go.Proofs.Lays.n103 Tryd.prog Tryd.lays103_ren := {
  mixed := by kernel_rfl
  f103 := Tryd.func42.trans (congrArg some (by kernel_rfl))
  f206 := Tryd.func70.trans (congrArg some (by kernel_rfl))
  f210 := Tryd.func52.trans (congrArg some (by kernel_rfl))
  t3 := Tryd.underlying3
  a3 := Tryd.isAgg3
  z3 := Tryd.sizeOf3
  v3 := Tryd.zeroValue3
  t4 := Tryd.underlying4
  a4 := Tryd.isAgg4
  z4 := Tryd.sizeOf4
  v4 := Tryd.zeroValue4
  t9 := Tryd.underlying9
  a9 := Tryd.isAgg9
  z9 := Tryd.sizeOf9
  v9 := Tryd.zeroValue9
  t24 := Tryd.underlying78
  a24 := Tryd.isAgg78
  z24 := Tryd.sizeOf78
  v24 := Tryd.zeroValue78 }
open Go.RowKit in
theorem Tryd.strings_CutPrefix (s p : ByteArray) (w : World) :
    Calls Tryd.prog 42 #[.string s, .string p] w fun e w' => e = .returned (.tuple #[.string ⟨(Lib.trimPrefix s.data.toList p.data.toList).toArray⟩, .bool (Lib.hasPrefix s.data.toList p.data.toList)]) ∧ w' = w := Any.strings_CutPrefix Tryd.lays103 s p w
def Tryd.laysM171_ren : Go.Shelf.Ren := ⟨fun | 171 => 30 | 243 => 45 | 246 => 64 | 283 => 77 | 284 => 78 | 285 => 79 | 286 => 80 | 129 => 63 | 317 => 85 | 318 => 86 | 319 => 87 | 320 => 88 | 337 => 91 | 338 => 92 | n => n, fun | 3 => 3 | 9 => 9 | 2 => 2 | 4 => 4 | 171 => 115 | 0 => 0 | 53 => 101 | 37 => 87 | 5 => 5 | 173 => 117 | 212 => 128 | 51 => 99 | 20 => 20 | 213 => 129 | 46 => 85 | 232 => 135 | 233 => 136 | n => n, fun | 17 => 2 | 18 => 3 | 19 => 4 | n => n⟩
theorem Tryd.laysM171 : Go.Proofs.LaysM.n171 Tryd.prog Tryd.laysM171_ren := {
  mixed := by kernel_rfl
  f129 := Tryd.func63.trans (congrArg some (by kernel_rfl))
  f171 := Tryd.func30.trans (congrArg some (by kernel_rfl))
  f243 := Tryd.func45.trans (congrArg some (by kernel_rfl))
  f246 := Tryd.func64.trans (congrArg some (by kernel_rfl))
  f283 := Tryd.func77.trans (congrArg some (by kernel_rfl))
  f284 := Tryd.func78.trans (congrArg some (by kernel_rfl))
  f285 := Tryd.func79.trans (congrArg some (by kernel_rfl))
  f286 := Tryd.func80.trans (congrArg some (by kernel_rfl))
  f317 := Tryd.func85.trans (congrArg some (by kernel_rfl))
  f318 := Tryd.func86.trans (congrArg some (by kernel_rfl))
  f319 := Tryd.func87.trans (congrArg some (by kernel_rfl))
  f320 := Tryd.func88.trans (congrArg some (by kernel_rfl))
  f337 := Tryd.func91.trans (congrArg some (by kernel_rfl))
  f338 := Tryd.func92.trans (congrArg some (by kernel_rfl))
  t0 := Tryd.underlying0
  a0 := Tryd.isAgg0
  z0 := Tryd.sizeOf0
  v0 := Tryd.zeroValue0
  t2 := Tryd.underlying2
  a2 := Tryd.isAgg2
  z2 := Tryd.sizeOf2
  v2 := Tryd.zeroValue2
  t3 := Tryd.underlying3
  a3 := Tryd.isAgg3
  z3 := Tryd.sizeOf3
  v3 := Tryd.zeroValue3
  t4 := Tryd.underlying4
  a4 := Tryd.isAgg4
  z4 := Tryd.sizeOf4
  v4 := Tryd.zeroValue4
  t5 := Tryd.underlying5
  a5 := Tryd.isAgg5
  z5 := Tryd.sizeOf5
  v5 := Tryd.zeroValue5
  t9 := Tryd.underlying9
  a9 := Tryd.isAgg9
  z9 := Tryd.sizeOf9
  v9 := Tryd.zeroValue9
  t20 := Tryd.underlying20
  a20 := Tryd.isAgg20
  z20 := Tryd.sizeOf20
  v20 := Tryd.zeroValue20
  t37 := Tryd.underlying87
  a37 := Tryd.isAgg87
  z37 := Tryd.sizeOf87
  v37 := Tryd.zeroValue87
  t46 := Tryd.underlying85
  a46 := Tryd.isAgg85
  z46 := Tryd.sizeOf85
  v46 := Tryd.zeroValue85
  t51 := Tryd.underlying99
  a51 := Tryd.isAgg99
  z51 := Tryd.sizeOf99
  v51 := Tryd.zeroValue99
  t53 := Tryd.underlying101
  a53 := Tryd.isAgg101
  z53 := Tryd.sizeOf101
  v53 := Tryd.zeroValue101
  t171 := Tryd.underlying115
  a171 := Tryd.isAgg115
  z171 := Tryd.sizeOf115
  v171 := Tryd.zeroValue115
  t173 := Tryd.underlying117
  a173 := Tryd.isAgg117
  z173 := Tryd.sizeOf117
  v173 := Tryd.zeroValue117
  t212 := Tryd.underlying128
  a212 := Tryd.isAgg128
  z212 := Tryd.sizeOf128
  v212 := Tryd.zeroValue128
  t213 := Tryd.underlying129
  a213 := Tryd.isAgg129
  z213 := Tryd.sizeOf129
  t232 := Tryd.underlying135
  a232 := Tryd.isAgg135
  z232 := Tryd.sizeOf135
  v232 := Tryd.zeroValue135
  t233 := Tryd.underlying136
  a233 := Tryd.isAgg136
  z233 := Tryd.sizeOf136
  v233 := Tryd.zeroValue136
  g17 := by kernel_rfl
  g18 := by kernel_rfl
  g19 := by kernel_rfl
  i0 := by kernel_rfl
  i2 := by kernel_rfl
  i3 := by kernel_rfl
  i4 := by kernel_rfl
  i5 := by kernel_rfl
  i9 := by kernel_rfl
  i20 := by kernel_rfl
  i37 := by kernel_rfl
  i46 := by kernel_rfl
  i51 := by kernel_rfl
  i53 := by kernel_rfl
  i171 := by kernel_rfl
  i173 := by kernel_rfl
  i212 := by kernel_rfl
  i232 := by kernel_rfl
  i233 := by kernel_rfl
  m17 := by kernel_rfl
  m18 := by kernel_rfl
  m19 := by kernel_rfl }
open Go.RowKit Go.Sort Go.Lib in
theorem Tryd.strconv_Itoa (n : Int) (h0 : -9223372036854775808 ≤ n) (h1 : n ≤ 9223372036854775807) (w : World) (htab : Lib.TabIs Tryd.prog w "internal/strconv.uint64pow10" .u64 Lib.pow10Tab) :
    Calls Tryd.prog 30 #[.int .i64 n] w fun e w' => e = .returned (.string ⟨(Lib.itoa n).toArray⟩) ∧ ∃ k os, w' = grow (w.drewN k) os := Any.strconv_Itoa Tryd.laysM171 n h0 h1 w htab
def Tryd.laysC172_ren : Go.Shelf.Ren := ⟨fun | 172 => 40 | 244 => 50 | 245 => 51 | 247 => 65 | 279 => 66 | 280 => 67 | 281 => 68 | 282 => 69 | 287 => 81 | 316 => 82 | 171 => 30 | 205 => 83 | 321 => 89 | 322 => 90 | 243 => 45 | 246 => 64 | 283 => 77 | 284 => 78 | 285 => 79 | 286 => 80 | 129 => 63 | 317 => 85 | 318 => 86 | 319 => 87 | 320 => 88 | 337 => 91 | 338 => 92 | n => n, fun | 9 => 9 | 3 => 3 | 75 => 38 | 76 => 76 | 4 => 4 | 5 => 5 | 167 => 103 | 37 => 87 | 0 => 0 | 85 => 104 | 2 => 2 | 168 => 106 | 53 => 101 | 175 => 119 | 46 => 85 | 210 => 122 | 127 => 131 | 145 => 134 | 143 => 132 | 21 => 21 | 171 => 115 | 173 => 117 | 212 => 128 | 51 => 99 | 20 => 20 | 213 => 129 | 232 => 135 | 233 => 136 | 80 => 137 | n => n, fun | 15 => 0 | 16 => 1 | 17 => 2 | 18 => 3 | 19 => 4 | n => n⟩
theorem Tryd.laysC172 : Go.Proofs.LaysC.n172 Tryd.prog Tryd.laysC172_ren := {
  mixed := by kernel_rfl
  f129 := Tryd.func63.trans (congrArg some (by kernel_rfl))
  f171 := Tryd.func30.trans (congrArg some (by kernel_rfl))
  f172 := Tryd.func40.trans (congrArg some (by kernel_rfl))
  f205 := Tryd.func83.trans (congrArg some (by kernel_rfl))
  f243 := Tryd.func45.trans (congrArg some (by kernel_rfl))
  f244 := Tryd.func50.trans (congrArg some (by kernel_rfl))
  f245 := Tryd.func51.trans (congrArg some (by kernel_rfl))
  f246 := Tryd.func64.trans (congrArg some (by kernel_rfl))
  f247 := Tryd.func65.trans (congrArg some (by kernel_rfl))
  f279 := Tryd.func66.trans (congrArg some (by kernel_rfl))
  f280 := Tryd.func67.trans (congrArg some (by kernel_rfl))
  f281 := Tryd.func68.trans (congrArg some (by kernel_rfl))
  f282 := Tryd.func69.trans (congrArg some (by kernel_rfl))
  f283 := Tryd.func77.trans (congrArg some (by kernel_rfl))
  f284 := Tryd.func78.trans (congrArg some (by kernel_rfl))
  f285 := Tryd.func79.trans (congrArg some (by kernel_rfl))
  f286 := Tryd.func80.trans (congrArg some (by kernel_rfl))
  f287 := Tryd.func81.trans (congrArg some (by kernel_rfl))
  f316 := Tryd.func82.trans (congrArg some (by kernel_rfl))
  f317 := Tryd.func85.trans (congrArg some (by kernel_rfl))
  f318 := Tryd.func86.trans (congrArg some (by kernel_rfl))
  f319 := Tryd.func87.trans (congrArg some (by kernel_rfl))
  f320 := Tryd.func88.trans (congrArg some (by kernel_rfl))
  f321 := Tryd.func89.trans (congrArg some (by kernel_rfl))
  f322 := Tryd.func90.trans (congrArg some (by kernel_rfl))
  f337 := Tryd.func91.trans (congrArg some (by kernel_rfl))
  f338 := Tryd.func92.trans (congrArg some (by kernel_rfl))
  t0 := Tryd.underlying0
  a0 := Tryd.isAgg0
  z0 := Tryd.sizeOf0
  v0 := Tryd.zeroValue0
  t2 := Tryd.underlying2
  a2 := Tryd.isAgg2
  z2 := Tryd.sizeOf2
  v2 := Tryd.zeroValue2
  t3 := Tryd.underlying3
  a3 := Tryd.isAgg3
  z3 := Tryd.sizeOf3
  v3 := Tryd.zeroValue3
  t4 := Tryd.underlying4
  a4 := Tryd.isAgg4
  z4 := Tryd.sizeOf4
  v4 := Tryd.zeroValue4
  t5 := Tryd.underlying5
  a5 := Tryd.isAgg5
  z5 := Tryd.sizeOf5
  v5 := Tryd.zeroValue5
  t9 := Tryd.underlying9
  a9 := Tryd.isAgg9
  z9 := Tryd.sizeOf9
  v9 := Tryd.zeroValue9
  t20 := Tryd.underlying20
  a20 := Tryd.isAgg20
  z20 := Tryd.sizeOf20
  v20 := Tryd.zeroValue20
  t21 := Tryd.underlying21
  a21 := Tryd.isAgg21
  z21 := Tryd.sizeOf21
  v21 := Tryd.zeroValue21
  t37 := Tryd.underlying87
  a37 := Tryd.isAgg87
  z37 := Tryd.sizeOf87
  v37 := Tryd.zeroValue87
  t46 := Tryd.underlying85
  a46 := Tryd.isAgg85
  z46 := Tryd.sizeOf85
  v46 := Tryd.zeroValue85
  t51 := Tryd.underlying99
  a51 := Tryd.isAgg99
  z51 := Tryd.sizeOf99
  v51 := Tryd.zeroValue99
  t53 := Tryd.underlying101
  a53 := Tryd.isAgg101
  z53 := Tryd.sizeOf101
  v53 := Tryd.zeroValue101
  t75 := Tryd.underlying38
  a75 := Tryd.isAgg38
  z75 := Tryd.sizeOf38
  v75 := Tryd.zeroValue38
  t76 := Tryd.underlying76
  a76 := Tryd.isAgg76
  z76 := Tryd.sizeOf76
  v76 := Tryd.zeroValue76
  t85 := Tryd.underlying104
  a85 := Tryd.isAgg104
  z85 := Tryd.sizeOf104
  v85 := Tryd.zeroValue104
  t127 := Tryd.underlying131
  a127 := Tryd.isAgg131
  z127 := Tryd.sizeOf131
  v127 := Tryd.zeroValue131
  t143 := Tryd.underlying132
  a143 := Tryd.isAgg132
  z143 := Tryd.sizeOf132
  v143 := Tryd.zeroValue132
  t145 := Tryd.underlying134
  a145 := Tryd.isAgg134
  z145 := Tryd.sizeOf134
  v145 := Tryd.zeroValue134
  t167 := Tryd.underlying103
  a167 := Tryd.isAgg103
  z167 := Tryd.sizeOf103
  v167 := Tryd.zeroValue103
  t168 := Tryd.underlying106
  a168 := Tryd.isAgg106
  z168 := Tryd.sizeOf106
  v168 := Tryd.zeroValue106
  t171 := Tryd.underlying115
  a171 := Tryd.isAgg115
  z171 := Tryd.sizeOf115
  v171 := Tryd.zeroValue115
  t173 := Tryd.underlying117
  a173 := Tryd.isAgg117
  z173 := Tryd.sizeOf117
  v173 := Tryd.zeroValue117
  t175 := Tryd.underlying119
  a175 := Tryd.isAgg119
  z175 := Tryd.sizeOf119
  v175 := Tryd.zeroValue119
  t210 := Tryd.underlying122
  a210 := Tryd.isAgg122
  z210 := Tryd.sizeOf122
  v210 := Tryd.zeroValue122
  t212 := Tryd.underlying128
  a212 := Tryd.isAgg128
  z212 := Tryd.sizeOf128
  v212 := Tryd.zeroValue128
  t213 := Tryd.underlying129
  a213 := Tryd.isAgg129
  z213 := Tryd.sizeOf129
  t232 := Tryd.underlying135
  a232 := Tryd.isAgg135
  z232 := Tryd.sizeOf135
  v232 := Tryd.zeroValue135
  t233 := Tryd.underlying136
  a233 := Tryd.isAgg136
  z233 := Tryd.sizeOf136
  v233 := Tryd.zeroValue136
  g15 := by kernel_rfl
  g16 := by kernel_rfl
  g17 := by kernel_rfl
  g18 := by kernel_rfl
  g19 := by kernel_rfl
  t80 := Tryd.underlying137
  a80 := Tryd.isAgg137
  z80 := Tryd.sizeOf137
  v80 := Tryd.zeroValue137
  i0 := by kernel_rfl
  i2 := by kernel_rfl
  i3 := by kernel_rfl
  i4 := by kernel_rfl
  i5 := by kernel_rfl
  i9 := by kernel_rfl
  i20 := by kernel_rfl
  i21 := by kernel_rfl
  i37 := by kernel_rfl
  i46 := by kernel_rfl
  i51 := by kernel_rfl
  i53 := by kernel_rfl
  i75 := by kernel_rfl
  i76 := by kernel_rfl
  i80 := by kernel_rfl
  i85 := by kernel_rfl
  i127 := by kernel_rfl
  i143 := by kernel_rfl
  i145 := by kernel_rfl
  i167 := by kernel_rfl
  i168 := by kernel_rfl
  i171 := by kernel_rfl
  i173 := by kernel_rfl
  i175 := by kernel_rfl
  i210 := by kernel_rfl
  i212 := by kernel_rfl
  i232 := by kernel_rfl
  i233 := by kernel_rfl
  m15 := by kernel_rfl
  m16 := by kernel_rfl
  m17 := by kernel_rfl
  m18 := by kernel_rfl
  m19 := by kernel_rfl
  c0 := by kernel_rfl
  c2 := by kernel_rfl
  c3 := by kernel_rfl
  c4 := by kernel_rfl
  c5 := by kernel_rfl
  c9 := by kernel_rfl
  c20 := by kernel_rfl
  c21 := by kernel_rfl
  c37 := by kernel_rfl
  c46 := by kernel_rfl
  c51 := by kernel_rfl
  c53 := by kernel_rfl
  c75 := by kernel_rfl
  c76 := by kernel_rfl
  c80 := by kernel_rfl
  c85 := by kernel_rfl
  c127 := by kernel_rfl
  c143 := by kernel_rfl
  c145 := by kernel_rfl
  c167 := by kernel_rfl
  c168 := by kernel_rfl
  c171 := by kernel_rfl
  c173 := by kernel_rfl
  c175 := by kernel_rfl
  c210 := by kernel_rfl
  c212 := by kernel_rfl
  c213 := by kernel_rfl
  c232 := by kernel_rfl
  c233 := by kernel_rfl }
open Go.RowKit in
theorem Tryd.strconv_Atoi_ok (s : ByteArray) (hmax : s.size ≤ 9223372036854775806) (v : Int) (h : Lib.atoiAll s.data.toList = .ok v) (w : World) :
    Calls Tryd.prog 40 #[.string s] w fun e w' => e = .returned (.tuple #[.int .i64 v, .nilIface]) ∧ (w' = w ∨ ∃ t, w' = Lib.bytesWorld w 5 t) := Any.strconv_Atoi_ok Tryd.laysC172 s hmax v h w
open Go.RowKit in
theorem Tryd.strconv_Atoi_syntax (s : ByteArray) (hlim : s.size ≤ 281474976710656) (h : Lib.atoiAll s.data.toList = Lib.NumEnd.syntax) (ev : Value) (w : World) (hv : w.cell? ⟨0, 0, none⟩ = some ev) (hev : ev = .nilIface ∨ ∃ te pe, ev = .iface te pe) :
    Calls Tryd.prog 40 #[.string s] w fun e w' => ∃ N, e = .returned (.tuple #[.int .i64 (0), .iface 106 (.pointer (some ⟨N, 0, none⟩))]) ∧ w.heap.size ≤ N ∧ w'.heap[N]? = some (.cells #[.string ⟨#[65, 116, 111, 105]⟩, .string s, ev] 122 (0, 0)) ∧ Below w.heap.size w w' := Any.strconv_Atoi_syntax Tryd.laysC172 s hlim h ev w hv hev
open Go.RowKit in
theorem Tryd.strconv_Atoi_range (s : ByteArray) (hlim : s.size ≤ 281474976710656) (h : Lib.atoiAll s.data.toList = .range) (ev : Value) (w : World) (hv : w.cell? ⟨1, 0, none⟩ = some ev) (hev : ev = .nilIface ∨ ∃ te pe, ev = .iface te pe) :
    Calls Tryd.prog 40 #[.string s] w fun e w' => ∃ N, e = .returned (.tuple #[.int .i64 (Lib.atoiSat s.data.toList), .iface 106 (.pointer (some ⟨N, 0, none⟩))]) ∧ w.heap.size ≤ N ∧ w'.heap[N]? = some (.cells #[.string ⟨#[65, 116, 111, 105]⟩, .string s, ev] 122 (0, 0)) ∧ Below w.heap.size w w' := Any.strconv_Atoi_range Tryd.laysC172 s hlim h ev w hv hev
def Tryd.lays190_ren : Go.Shelf.Ren := ⟨fun | 190 => 27 | 125 => 44 | 258 => 43 | 128 => 62 | 129 => 63 | 302 => 53 | 303 => 54 | 304 => 55 | 305 => 56 | 306 => 57 | 307 => 58 | 308 => 59 | 309 => 60 | 310 => 61 | 333 => 71 | 329 => 72 | 330 => 73 | 334 => 74 | 335 => 75 | 336 => 76 | 344 => 84 | n => n, fun | 31 => 33 | 9 => 9 | 3 => 3 | 46 => 85 | 0 => 0 | 51 => 99 | 53 => 101 | 4 => 4 | 183 => 92 | 182 => 91 | 131 => 55 | 5 => 5 | 218 => 109 | 222 => 113 | 228 => 123 | 229 => 124 | n => n, fun | n => n⟩
theorem Tryd.lays190 : Go.Proofs.Lays.n190 Tryd.prog Tryd.lays190_ren := {
  mixed := by kernel_rfl
  f125 := Tryd.func44.trans (congrArg some (by kernel_rfl))
  f128 := Tryd.func62.trans (congrArg some (by kernel_rfl))
  f129 := Tryd.func63.trans (congrArg some (by kernel_rfl))
  f190 := Tryd.func27.trans (congrArg some (by kernel_rfl))
  f258 := Tryd.func43.trans (congrArg some (by kernel_rfl))
  f302 := Tryd.func53.trans (congrArg some (by kernel_rfl))
  f303 := Tryd.func54.trans (congrArg some (by kernel_rfl))
  f304 := Tryd.func55.trans (congrArg some (by kernel_rfl))
  f305 := Tryd.func56.trans (congrArg some (by kernel_rfl))
  f306 := Tryd.func57.trans (congrArg some (by kernel_rfl))
  f307 := Tryd.func58.trans (congrArg some (by kernel_rfl))
  f308 := Tryd.func59.trans (congrArg some (by kernel_rfl))
  f309 := Tryd.func60.trans (congrArg some (by kernel_rfl))
  f310 := Tryd.func61.trans (congrArg some (by kernel_rfl))
  f329 := Tryd.func72.trans (congrArg some (by kernel_rfl))
  f330 := Tryd.func73.trans (congrArg some (by kernel_rfl))
  f333 := Tryd.func71.trans (congrArg some (by kernel_rfl))
  f334 := Tryd.func74.trans (congrArg some (by kernel_rfl))
  f335 := Tryd.func75.trans (congrArg some (by kernel_rfl))
  f336 := Tryd.func76.trans (congrArg some (by kernel_rfl))
  f344 := Tryd.func84.trans (congrArg some (by kernel_rfl))
  t0 := Tryd.underlying0
  a0 := Tryd.isAgg0
  z0 := Tryd.sizeOf0
  v0 := Tryd.zeroValue0
  t3 := Tryd.underlying3
  a3 := Tryd.isAgg3
  z3 := Tryd.sizeOf3
  v3 := Tryd.zeroValue3
  t4 := Tryd.underlying4
  a4 := Tryd.isAgg4
  z4 := Tryd.sizeOf4
  v4 := Tryd.zeroValue4
  t5 := Tryd.underlying5
  a5 := Tryd.isAgg5
  z5 := Tryd.sizeOf5
  v5 := Tryd.zeroValue5
  t9 := Tryd.underlying9
  a9 := Tryd.isAgg9
  z9 := Tryd.sizeOf9
  v9 := Tryd.zeroValue9
  t31 := Tryd.underlying33
  a31 := Tryd.isAgg33
  z31 := Tryd.sizeOf33
  v31 := Tryd.zeroValue33
  t46 := Tryd.underlying85
  a46 := Tryd.isAgg85
  z46 := Tryd.sizeOf85
  v46 := Tryd.zeroValue85
  t51 := Tryd.underlying99
  a51 := Tryd.isAgg99
  z51 := Tryd.sizeOf99
  v51 := Tryd.zeroValue99
  t53 := Tryd.underlying101
  a53 := Tryd.isAgg101
  z53 := Tryd.sizeOf101
  v53 := Tryd.zeroValue101
  t131 := Tryd.underlying55
  a131 := Tryd.isAgg55
  z131 := Tryd.sizeOf55
  v131 := Tryd.zeroValue55
  t182 := Tryd.underlying91
  a182 := Tryd.isAgg91
  z182 := Tryd.sizeOf91
  v182 := Tryd.zeroValue91
  t183 := Tryd.underlying92
  a183 := Tryd.isAgg92
  z183 := Tryd.sizeOf92
  v183 := Tryd.zeroValue92
  t218 := Tryd.underlying109
  a218 := Tryd.isAgg109
  z218 := Tryd.sizeOf109
  v218 := Tryd.zeroValue109
  t222 := Tryd.underlying113
  a222 := Tryd.isAgg113
  z222 := Tryd.sizeOf113
  v222 := Tryd.zeroValue113
  t228 := Tryd.underlying123
  a228 := Tryd.isAgg123
  z228 := Tryd.sizeOf123
  v228 := Tryd.zeroValue123
  t229 := Tryd.underlying124
  a229 := Tryd.isAgg124
  z229 := Tryd.sizeOf124
  v229 := Tryd.zeroValue124 }
open Go.Sort Go.RowKit in
theorem Tryd.slices_Sort_string (blk off cap : Nat) (ss : List (List UInt8)) (w : World) (hH : Holds encStr w blk off ss.toArray) (hblk : blk < w.heap.size) (hsz : ss.length < 4611686018427387904) :
    Calls Tryd.prog 27 #[.slice (some ⟨blk, off, none⟩) ss.length cap] w fun e w' =>
      e = .returned (.tuple #[]) ∧ ∃ n os, w' = grow (putRow encStr (Sort.ahead w n) blk off (ss.mergeSort fun x y => decide (x ≤ y)).toArray) os := Any.slices_Sort_string Tryd.lays190 blk off cap ss w hH hblk hsz
def Tryd.lays110_ren : Go.Shelf.Ren := ⟨fun | 110 => 34 | 109 => 48 | n => n, fun | 31 => 33 | 9 => 9 | 4 => 4 | 3 => 3 | 0 => 0 | n => n, fun | n => n⟩
theorem Tryd.lays110 : Go.Proofs.Lays.n110 Tryd.prog Tryd.lays110_ren := {
  mixed := by kernel_rfl
  f109 := Tryd.func48.trans (congrArg some (by kernel_rfl))
  f110 := Tryd.func34.trans (congrArg some (by kernel_rfl))
  t0 := Tryd.underlying0
  a0 := Tryd.isAgg0
  z0 := Tryd.sizeOf0
  v0 := Tryd.zeroValue0
  t3 := Tryd.underlying3
  a3 := Tryd.isAgg3
  z3 := Tryd.sizeOf3
  v3 := Tryd.zeroValue3
  t4 := Tryd.underlying4
  a4 := Tryd.isAgg4
  z4 := Tryd.sizeOf4
  v4 := Tryd.zeroValue4
  t9 := Tryd.underlying9
  a9 := Tryd.isAgg9
  z9 := Tryd.sizeOf9
  v9 := Tryd.zeroValue9
  t31 := Tryd.underlying33
  a31 := Tryd.isAgg33
  z31 := Tryd.sizeOf33
  v31 := Tryd.zeroValue33 }
open Go.Lib in
theorem Tryd.slices_Contains_string (b off n c : Nat) (zs : List ByteArray) (x : ByteArray) (w : World) (hz : n ≤ zs.length) (hbig : n ≤ 9223372036854775807) (hc : ∀ j, j < zs.length → w.cell? ⟨b, off + j, none⟩ = some (.string (zs.getD j ByteArray.empty))) :
    Calls Tryd.prog 34 #[.slice (some ⟨b, off, none⟩) n c, .string x] w fun e w' => e = .returned (.bool (Lib.containsS (zs.take n) x)) ∧ w' = w := Any.slices_Contains_string Tryd.lays110 b off n c zs x w hz hbig hc
open Go.Lib in
theorem Tryd.slices_Contains_string_empty (a : Option Addr) (c : Nat) (x : ByteArray) (w : World) :
    Calls Tryd.prog 34 #[.slice a 0 c, .string x] w fun e w' => e = .returned (.bool false) ∧ w' = w := Any.slices_Contains_string_empty Tryd.lays110 a c x w
def Tryd.laysNm216_ren : Go.Shelf.Ren := ⟨fun | 16 => 26 | n => n, fun | 24 => 33 | 9 => 9 | 4 => 4 | n => n, fun | n => n⟩
theorem Tryd.laysNm216 : Go.Proofs.Lays2.n16 Tryd.prog Tryd.laysNm216_ren := {
  mixed := by kernel_rfl
  f16 := Tryd.func26.trans (congrArg some (by kernel_rfl))
  t4 := Tryd.underlying4
  a4 := Tryd.isAgg4
  z4 := Tryd.sizeOf4
  v4 := Tryd.zeroValue4
  t9 := Tryd.underlying9
  a9 := Tryd.isAgg9
  z9 := Tryd.sizeOf9
  v9 := Tryd.zeroValue9
  t24 := Tryd.underlying33
  a24 := Tryd.isAgg33
  z24 := Tryd.sizeOf33
  v24 := Tryd.zeroValue33
  i9 := by kernel_rfl }
open Go.RowKit Go.Lib in
theorem Tryd.slices_Clone_string (b off n c : Nat) (zs : List ByteArray) (w : World) (hz : n ≤ zs.length) (hbig : n * 16 ≤ 140737488355328) (hc : ∀ j, j < zs.length → w.cell? ⟨b, off + j, none⟩ = some (.string (zs.getD j ByteArray.empty))) :
    Calls Tryd.prog 26 #[.slice (some ⟨b, off, none⟩) n c] w fun e w' => ∃ v', e = .returned v' ∧ w'.ownsRow w.heap.size 9 1 v' n ((zs.take n).map (Value.string)) ∧ v' ≠ .slice none 0 0 ∧ Below w.heap.size w w' := Any.slices_Clone_string Tryd.laysNm216 b off n c zs w hz hbig hc
open Go.RowKit Go.Lib in
theorem Tryd.slices_Clone_string_nil (n c : Nat) (w : World) :
    Calls Tryd.prog 26 #[.slice none n c] w fun e w' => e = .returned (.slice none 0 0) ∧ w' = w := Any.slices_Clone_string_nil Tryd.laysNm216 n c w
open Go.RowKit Go.Lib in
theorem Tryd.slices_Clone_string_zero (a : Addr) (c : Nat) (w : World) :
    Calls Tryd.prog 26 #[.slice (some a) 0 c] w fun e w' => ∃ v', e = .returned v' ∧ w'.ownsRow w.heap.size 9 1 v' 0 [] ∧ v' ≠ .slice none 0 0 ∧ Below w.heap.size w w' := Any.slices_Clone_string_zero Tryd.laysNm216 a c w
def Tryd.lays194_ren : Go.Shelf.Ren := ⟨fun | 194 => 28 | n => n, fun | 31 => 33 | 9 => 9 | 3 => 3 | 4 => 4 | 0 => 0 | n => n, fun | n => n⟩
theorem Tryd.lays194 : Go.Proofs.Lays.n194 Tryd.prog Tryd.lays194_ren := {
  mixed := by kernel_rfl
  f194 := Tryd.func28.trans (congrArg some (by kernel_rfl))
  t0 := Tryd.underlying0
  a0 := Tryd.isAgg0
  z0 := Tryd.sizeOf0
  v0 := Tryd.zeroValue0
  t3 := Tryd.underlying3
  a3 := Tryd.isAgg3
  z3 := Tryd.sizeOf3
  v3 := Tryd.zeroValue3
  t4 := Tryd.underlying4
  a4 := Tryd.isAgg4
  z4 := Tryd.sizeOf4
  v4 := Tryd.zeroValue4
  t9 := Tryd.underlying9
  a9 := Tryd.isAgg9
  z9 := Tryd.sizeOf9
  v9 := Tryd.zeroValue9
  t31 := Tryd.underlying33
  a31 := Tryd.isAgg33
  z31 := Tryd.sizeOf33
  v31 := Tryd.zeroValue33 }
open Go.RowKit Go.Lib Go.Sort in
theorem Tryd.slices_Compact_string (blk off cap : Nat) (zs : List (List UInt8)) (w : World) (hH : Holds encStr w blk off zs.toArray) (hsz : zs.length ≤ 9223372036854775807) (hcap : zs.length ≤ cap) :
    Calls Tryd.prog 28 #[.slice (some ⟨blk, off, none⟩) zs.length cap] w fun e w' => e = .returned (.slice (some ⟨blk, off, none⟩) (Lib.compact zs).length cap) ∧ ∃ q, w' = putRow encStr (Sort.ahead w q) blk off (Lib.compact zs ++ List.replicate (zs.length - (Lib.compact zs).length) []).toArray := Any.slices_Compact_string Tryd.lays194 blk off cap zs w hH hsz hcap
open Go.RowKit Go.Lib Go.Sort in
theorem Tryd.slices_Compact_string_empty (a : Option Addr) (cap : Nat) (w : World) :
    Calls Tryd.prog 28 #[.slice a 0 cap] w fun e w' => e = .returned (.slice a 0 cap) ∧ w' = w := Any.slices_Compact_string_empty Tryd.lays194 a cap w
open Go.RowKit Go.Sort in
theorem Tryd.slices_Sort_string_none (p : Option Addr) (cap : Nat) (w : World) :
    Calls Tryd.prog 27 #[.slice p 0 cap] w fun e w' => e = .returned (.tuple #[]) ∧ w' = w := Any.slices_Sort_string_none Tryd.lays190 p cap w
end Go.Proofs
end
section
namespace Go.Proofs
open Go Go.Aw Go.Sx
def tb : Tab := [(3, ⟨.int .i64, 1, 8, [.i .i64]⟩),
  (9, ⟨.str, 1, 16, [.s]⟩),
  (33, ⟨.sl 9, 1, 24, [.l]⟩),
  (35, ⟨.st [(0, 9), (1, 9), (2, 9), (3, 3), (4, 3), (5, 32), (10, 33)], 11, 168, [.s, .s, .s, .i .i64, .i .i64, .i .i64, .i .i64, .s, .l, .l, .l]⟩),
  (38, ⟨.ifc, 1, 16, [.n]⟩),
  (27, ⟨.mp 9 9, 1, 8, [.m]⟩),
  (5, ⟨.int .u8, 1, 1, [.i .u8]⟩),
  (22, ⟨.sl 35, 1, 24, [.l]⟩),
  (32, ⟨.st [(0, 3), (1, 3), (2, 9), (3, 29), (4, 30)], 5, 80, [.i .i64, .i .i64, .s, .l, .l]⟩),
  (73, ⟨.st [(0, 9), (1, 9), (2, 9), (3, 3)], 4, 56, [.s, .s, .s, .i .i64]⟩),
  (54, ⟨.mp 9 3, 1, 8, [.m]⟩),
  (30, ⟨.sl 82, 1, 24, [.l]⟩),
  (60, ⟨.int .i64, 1, 8, [.i .i64]⟩),
  (87, ⟨.sl 5, 1, 24, [.l]⟩),
  (29, ⟨.sl 32, 1, 24, [.l]⟩),
  (25, ⟨.ptr, 1, 8, [.p]⟩),
  (59, ⟨.st [(0, 27), (1, 27), (2, 57), (3, 3), (4, 4), (5, 3)], 6, 64, [.m, .m, .l, .i .i64, .b, .i .i64]⟩),
  (82, ⟨.st [(0, 9), (1, 32)], 6, 96, [.s, .i .i64, .i .i64, .s, .l, .l]⟩),
  (4, ⟨.bool, 1, 1, [.b]⟩),
  (57, ⟨.sl 73, 1, 24, [.l]⟩)]
theorem tbOk : tabOk Tryd.prog tb = true := by decide +kernel
end Go.Proofs
end
section
namespace Go.Proofs
open Go Go.Aw Go.Sx
set_option maxRecDepth 100000
abbrev Str := List UInt8
noncomputable def cf (w st jr xs cv bs : List Nat) : Cfg := ⟨Tryd.prog, tb, 60, w, st, jr, xs, cv, bs⟩
theorem take_succ_gI {α : Type} [Inhabited α] {l : List α} {i : Int} (h0 : 0 ≤ i) (hi : i < l.length) : l.take (i + 1).toNat = l.take i.toNat ++ [gI l i] := by
  have e : (i + 1).toNat = i.toNat + 1 := by omega
  have hn : i.toNat < l.length := by omega
  rw [e, List.take_succ_eq_append_getElem hn]
  simp [gI, List.getD_eq_getElem?_getD, hn]
theorem gI_mem {α : Type} [Inhabited α] {l : List α} {i : Int} (h0 : 0 ≤ i) (hi : i < l.length) : gI l i ∈ l := by
  simp only [gI, List.getD_eq_getElem?_getD, List.getElem?_eq_getElem (show i.toNat < l.length by omega), Option.getD_some]
  exact List.getElem_mem _
theorem take_full {α : Type} {l : List α} {i : Int} (hi : l.length ≤ i) : l.take i.toNat = l := List.take_of_length_le (by omega)
inductive Val where
  | mk (kind n : Int) (s : Str) (l : List Val) (f : List (Str × Val))
instance : Inhabited Val := ⟨.mk 0 0 [] [] []⟩
def Val.kind : Val → Int | .mk k _ _ _ _ => k
def Val.n : Val → Int | .mk _ n _ _ _ => n
def Val.s : Val → Str | .mk _ _ s _ _ => s
def Val.l : Val → List Val | .mk _ _ _ l _ => l
def Val.f : Val → List (Str × Val) | .mk _ _ _ _ f => f
mutual
def valIn : Val → AV
  | .mk k n s l f => .agg [.int .i64 k, .int .i64 n, .str s, .slice false (valsIn l), .slice false (fldsIn f)]
def valsIn : List Val → List AV
  | [] => []
  | v :: r => valIn v :: valsIn r
def fldsIn : List (Str × Val) → List AV
  | [] => []
  | (s, .mk k n t l f) :: r => .agg [.str s, .int .i64 k, .int .i64 n, .str t, .slice false (valsIn l), .slice false (fldsIn f)] :: fldsIn r
end
def fldIn (p : Str × Val) : AV := .agg (.str p.1 :: (valIn p.2).cells)
theorem valsIn_eq (l : List Val) : valsIn l = l.map valIn := by
  induction l with
  | nil => rfl
  | cons v r ih => simp only [valsIn, List.map_cons, ih]
theorem fldsIn_eq (l : List (Str × Val)) : fldsIn l = l.map fldIn := by
  induction l with
  | nil => rfl
  | cons v r ih =>
    obtain ⟨s, v⟩ := v
    cases v with
    | mk k n t l f => simp only [fldsIn, List.map_cons, ih, fldIn, valIn, AV.cells]
def valTop (v : Val) : AV := .agg [.int .i64 v.kind, .int .i64 v.n, .str v.s, .slice false (v.l.map valIn), .slice false (v.f.map fldIn)]
def fldTop (p : Str × Val) : AV := .agg [.str p.1, .int .i64 p.2.kind, .int .i64 p.2.n, .str p.2.s, .slice false (p.2.l.map valIn), .slice false (p.2.f.map fldIn)]
theorem valIn_eq (v : Val) : valIn v = valTop v := by
  cases v with
  | mk k n s l f => simp only [valIn, valTop, valsIn_eq, fldsIn_eq, Val.kind, Val.n, Val.s, Val.l, Val.f]
theorem fldIn_eq (p : Str × Val) : fldIn p = fldTop p := by
  rw [fldIn, valIn_eq]; rfl
mutual
def weightV (most : Int) : Val → Int
  | .mk _ _ s l f => weightF most f (weightL most l (1 + s.length))
def weightL (most : Int) : List Val → Int → Int
  | [], n => n
  | v :: r, n => if n ≤ most then weightL most r (IntKind.i64.wrap (n + weightV most v)) else n
def weightF (most : Int) : List (Str × Val) → Int → Int
  | [], n => n
  | (s, .mk _ _ t l f) :: r, n => if n ≤ most then weightF most r (IntKind.i64.wrap (IntKind.i64.wrap (n + s.length) + weightF most f (weightL most l (1 + t.length)))) else n
end
theorem weightV_eq (most : Int) (v : Val) : weightV most v = weightF most v.f (weightL most v.l (1 + v.s.length)) := by
  cases v with
  | mk k n s l f => simp only [weightV, Val.f, Val.l, Val.s]
theorem weightF_cons (most : Int) (p : Str × Val) (r : List (Str × Val)) (n : Int) : weightF most (p :: r) n = if n ≤ most then weightF most r (IntKind.i64.wrap (IntKind.i64.wrap (n + p.1.length) + weightV most p.2)) else n := by
  obtain ⟨s, v⟩ := p
  cases v with
  | mk k n t l f => simp only [weightF, weightV]
theorem weightL_stop (most : Int) (l : List Val) (n : Int) (h : most < n) : weightL most l n = n := by
  cases l with
  | nil => simp only [weightL]
  | cons v r => simp only [weightL]; rw [if_neg (by omega)]
theorem weightF_stop (most : Int) (l : List (Str × Val)) (n : Int) (h : most < n) : weightF most l n = n := by
  cases l with
  | nil => simp only [weightF]
  | cons v r => rw [weightF_cons, if_neg (by omega)]
theorem drop_gI {α : Type} [Inhabited α] {l : List α} {i : Int} (h0 : 0 ≤ i) (hi : i < l.length) : l.drop i.toNat = gI l i :: l.drop (i + 1).toNat := by
  have h : i.toNat < l.length := by omega
  have e : (i + 1).toNat = i.toNat + 1 := by omega
  rw [List.drop_eq_getElem_cons h, e]
  simp [gI, List.getD_eq_getElem?_getD, h]
mutual
def depV : Val → Nat
  | .mk _ _ _ l f => depL l + depF f + 1
def depL : List Val → Nat
  | [] => 0
  | v :: r => depV v + depL r
def depF : List (Str × Val) → Nat
  | [] => 0
  | (_, .mk _ _ _ l f) :: r => depL l + depF f + 1 + depF r
end
theorem depL_mem {l : List Val} {v : Val} (h : v ∈ l) : depV v ≤ depL l := by
  induction l with
  | nil => cases h
  | cons a r ih =>
    simp only [depL]
    rcases List.mem_cons.1 h with rfl | h
    · omega
    · have := ih h; omega
theorem depF_mem {l : List (Str × Val)} {p : Str × Val} (h : p ∈ l) : depV p.2 ≤ depF l := by
  induction l with
  | nil => cases h
  | cons a r ih =>
    obtain ⟨s, v⟩ := a
    cases v with
    | mk k n t l f =>
      simp only [depF]
      rcases List.mem_cons.1 h with rfl | h
      · simp only [depV]; omega
      · have := ih h; omega
theorem depV_eq (v : Val) : depV v = depL v.l + depF v.f + 1 := by
  cases v with
  | mk k n s l f => simp only [depV, Val.l, Val.f]
set_option maxHeartbeats 4000000 in
theorem u_weight1 (v : Val) (most : Int) (ih : ∀ w : Val, depV w < depV v → ∀ (m : AMem) (K : AV → AMem → Prop), K (.int .i64 (weightV most w)) m → ACalls Tryd.prog 24 [valTop w, .int .i64 most] m K) (m : AMem)  (K : AV → AMem → Prop) (hK : K (.int .i64 (weightV most v)) m) : ACalls Tryd.prog 24 [valTop v, .int .i64 most] m K := by
 refine enter (c := cf [32, 53, 62] [0] [3, 7] [] [] []) (vs := [.av (valTop v), .av (.int .i64 most)]) (L := []) (m := m) false tbOk Tryd.mixed Tryd.func24 rfl (k := 2) (by show fnOk [] _ _ _ = true; decide +kernel) rfl (Good.nil m) ?_
 refine ⟨fun F0 => ?_⟩
 have hbd0_2 : v.s.length ≤ 140737488355328 := (F0 0 2 (Nat.le_of_ble_eq_true rfl))
 have hbd0_3 : v.l.length ≤ 140737488355328 := bd_map (F0 0 3 (Nat.le_of_ble_eq_true rfl))
 have hbd0_4 : v.f.length ≤ 140737488355328 := bd_map (F0 0 4 (Nat.le_of_ble_eq_true rfl))
 refine an (by omega) ?_
 refine sq ?_
 refine lp (σ := Int × Int) [] [1, 2, 5, 6] 1 (fun ⟨n_, i⟩ => ([(1, vI most), (2, .loc 0 0), (5, vI n_), (6, vI i)], [.cells [vI v.kind, vI v.n, vS v.s, vL (v.l.map valIn), vL (v.f.map fldIn)]], m)) (fun ⟨n_, i⟩ => 0 ≤ i ∧ i ≤ v.l.length ∧ weightL most v.l (1 + v.s.length) = weightL most (v.l.drop i.toNat) n_) (fun ⟨n_, i⟩ => v.l.length - i.toNat) (1 + (v.s.length : Int), 0) ⟨rfl, rfl⟩ ?_ ?_
 · try dsimp only
   exact ⟨by omega, by omega, rfl⟩
 rintro ⟨n_, i⟩ hI
 dsimp only at hI
 refine sq ?_
 refine mg [1, 2, 5, 6] 21 ((decide (i < (v.l.length : Int))) && (decide (n_ ≤ most))) ?_ ?_
 · repeat' first
    | exact ⟨⟨_, rfl, by grind [SB.val]⟩, rfl⟩
    | refine an (fun _ => ?_) (fun _ => ?_)
    | refine ln ?_
 refine an (fun h1 => ?_) (fun h1 => ?_)
 · replace h1 : (i < (v.l.length : Int)) ∧ (n_ ≤ most) := ⟨(of_decide_eq_true (bandL h1)), (of_decide_eq_true (bandR h1))⟩
   refine sq ?_
   refine ixg valTop valIn_eq (by omega) ?_
   refine call0 (fun _ => ih (gI v.l i) (by have := depV_eq v; first | (have := depL_mem (gI_mem (l := v.l) (i := i) hI.1 h1.1); omega) | (have := depF_mem (gI_mem (l := v.f) (i := k) hI2.1 h2.1); omega))) rfl ?_
   refine an (by omega) ?_
   refine ⟨(IntKind.i64.wrap (n_ + (weightV most (gI v.l i))), i + 1), ⟨rfl, rfl⟩, ?_, ?_⟩
   · try dsimp only
     refine ⟨by omega, by omega, ?_⟩
     rw [hI.2.2, drop_gI hI.1 h1.1]
     simp only [weightL]
     rw [if_pos h1.2]
   try dsimp only
   omega
 replace h1 : ((v.l.length : Int) ≤ i) ∨ (most < n_) := ((bandF h1).imp (fun q => (Int.not_lt.1 (of_decide_eq_false q))) (fun q => (Int.not_le.1 (of_decide_eq_false q))))
 refine sq ?_
 refine lp (σ := Int × Int) [] [1, 2, 5, 7] 1 (fun ⟨n2, k⟩ => ([(1, vI most), (2, .loc 0 0), (5, vI n2), (7, vI k)], [.cells [vI v.kind, vI v.n, vS v.s, vL (v.l.map valIn), vL (v.f.map fldIn)]], m)) (fun ⟨n2, k⟩ => 0 ≤ k ∧ k ≤ v.f.length ∧ weightV most v = weightF most (v.f.drop k.toNat) n2) (fun ⟨n2, k⟩ => v.f.length - k.toNat) (n_, 0) ⟨rfl, rfl⟩ ?_ ?_
 · try dsimp only
   refine ⟨by omega, by omega, ?_⟩
   have e : weightL most (v.l.drop i.toNat) n_ = n_ := by
     by_cases hn : most < n_
     · exact weightL_stop _ _ _ hn
     · have hi : (v.l.length : Int) ≤ i := by
         rcases h1 with h | h <;> omega
       rw [List.drop_eq_nil_of_le (by omega)]; simp only [weightL]
   rw [weightV_eq, hI.2.2, e]; rfl
 rintro ⟨n2, k⟩ hI2
 dsimp only at hI2
 refine sq ?_
 refine mg [1, 2, 5, 7] 42 ((decide (k < (v.f.length : Int))) && (decide (n2 ≤ most))) ?_ ?_
 · repeat' first
    | exact ⟨⟨_, rfl, by grind [SB.val]⟩, rfl⟩
    | refine an (fun _ => ?_) (fun _ => ?_)
    | refine ln ?_
 refine an (fun h2 => ?_) (fun h2 => ?_)
 · replace h2 : (k < (v.f.length : Int)) ∧ (n2 ≤ most) := ⟨(of_decide_eq_true (bandL h2)), (of_decide_eq_true (bandR h2))⟩
   refine sq ?_
   refine ixg fldTop fldIn_eq (by omega) ?_
   refine ixg fldTop fldIn_eq (by omega) ?_
   refine pure0 (fun _ => ih ((gI v.f k).2) (by have := depV_eq v; first | (have := depL_mem (gI_mem (l := v.l) (i := i) hI.1 h1.1); omega) | (have := depF_mem (gI_mem (l := v.f) (i := k) hI2.1 h2.1); omega))) ?_
   refine an (by omega) ?_
   refine ⟨(IntKind.i64.wrap ((IntKind.i64.wrap (n2 + (((gI v.f k).1).length : Int))) + (weightV most ((gI v.f k).2))), k + 1), ⟨rfl, rfl⟩, ?_, ?_⟩
   · try dsimp only
     exact ⟨by omega, by omega, by rw [hI2.2.2, drop_gI hI2.1 h2.1, weightF_cons, if_pos h2.2]⟩
   try dsimp only
   omega
 replace h2 : ((v.f.length : Int) ≤ k) ∨ (most < n2) := ((bandF h2).imp (fun q => (Int.not_lt.1 (of_decide_eq_false q))) (fun q => (Int.not_le.1 (of_decide_eq_false q))))
 refine rt0 rfl fun _ => ?_
 show K (.int .i64 n2) m
 have e : weightV most v = n2 := by
   rw [hI2.2.2]
   by_cases hn : most < n2
   · exact weightF_stop _ _ _ hn
   · have hi : (v.f.length : Int) ≤ k := by
       rcases h2 with h | h <;> omega
     rw [List.drop_eq_nil_of_le (by omega)]; simp only [weightF]
 rw [e] at hK; exact hK
theorem u_weight (most : Int) : ∀ (n : Nat) (v : Val), depV v < n → ∀ (m : AMem) (K : AV → AMem → Prop), K (.int .i64 (weightV most v)) m → ACalls Tryd.prog 24 [valTop v, .int .i64 most] m K
  | 0, _, h => absurd h (Nat.not_lt_zero _)
  | n + 1, v, h => fun m K hK => u_weight1 v most (fun w hw => u_weight most n w (by omega)) m K hK
structure ActT where
  kind : Str
  s : Str
  t : Str
  a : Int
  b : Int
  v : Val
  names : List Str
instance : Inhabited ActT := ⟨⟨[], [], [], 0, 0, default, []⟩⟩
def actAV (x : ActT) : AV := .agg [.str x.kind, .str x.s, .str x.t, .int .i64 x.a, .int .i64 x.b, .int .i64 x.v.kind, .int .i64 x.v.n, .str x.v.s, .slice false (x.v.l.map valIn), .slice false (x.v.f.map fldIn), .slice false (x.names.map strAV)]
def actW (most : Int) (n : Int) (x : ActT) : Int := IntKind.i64.wrap (IntKind.i64.wrap (IntKind.i64.wrap (n + x.s.length) + x.t.length) + weightV most x.v)
def namesW (n : Int) (l : List Str) : Int := l.foldl (fun n s => IntKind.i64.wrap (n + s.length)) n
def lightF (size : Int) : List ActT → Int → Bool
  | [], n => decide (n ≤ size)
  | x :: r, n => if size < actW size n x ∨ 12 < (x.names.length : Int) then false else lightF size r (namesW (actW size n x) x.names)
def lightA (l : List ActT) (most size : Int) : Bool := if most < (l.length : Int) then false else lightF size l 0
theorem lightA_len {l : List ActT} {most size : Int} (h : lightA l most size = true) : (l.length : Int) ≤ most := by
  unfold lightA at h; split at h
  · cases h
  · omega
set_option maxHeartbeats 4000000 in
theorem u_LightActs (l : List ActT) (most size : Int)  (m : AMem)  (K : AV → AMem → Prop) (hK : K (.bool (lightA l most size)) m) : ACalls Tryd.prog 6 [.slice false (l.map actAV), .int .i64 most, .int .i64 size] m K := by
 refine enter (c := cf [27, 34, 42, 75] [0] [8] [] [] []) (vs := [.av (.slice false (l.map actAV)), .av (.int .i64 most), .av (.int .i64 size)]) (L := []) (m := m) false tbOk Tryd.mixed Tryd.func6 rfl (k := 3) (by show fnOk [] _ _ _ = true; decide +kernel) rfl (Good.nil m) ?_
 refine ⟨fun F0 => ?_⟩
 have hbd0_0 : l.length ≤ 140737488355328 := bd_map (o := false) (F0 0).1
 refine sq ?_
 refine ln ?_
 refine an (fun h1 => ?_) (fun h1 => ?_)
 · refine rt0 rfl fun _ => K_eq hK ?_
   show AV.bool (lightA l most size) = AV.bool false
   refine congrArg AV.bool ?_
   rw [lightA, if_pos h1]
 refine sq ?_
 refine lp (σ := Int × Int) [] [0, 2, 7, 8] 0 (fun ⟨n_, i⟩ => ([(0, vL (l.map actAV)), (2, vI size), (7, vI n_), (8, vI i)], [], m)) (fun ⟨n_, i⟩ => 0 ≤ i ∧ i ≤ l.length ∧ lightA l most size = lightF size (l.drop i.toNat) n_) (fun ⟨n_, i⟩ => l.length - i.toNat) (0, 0) ⟨rfl, rfl⟩ ?_ ?_
 · try dsimp only
   exact ⟨by omega, by omega, by rw [lightA, if_neg (by omega)]; rfl⟩
 rintro ⟨n_, i⟩ hI
 dsimp only at hI
 refine sq ?_
 refine ln ?_
 refine an (fun h2 => ?_) (fun h2 => ?_)
 · refine sq ?_
   refine ix (by omega) ?_
   refine ix (by omega) ?_
   refine ix (by omega) ?_
   refine pure0 (fun _ => u_weight size (depV ((gI l i).v) + 1) ((gI l i).v) (Nat.lt_succ_self _)) ?_
   refine sq ?_
   refine mg [0, 2, 7, 8] 54 ((decide (size < IntKind.i64.wrap ((IntKind.i64.wrap ((IntKind.i64.wrap (n_ + (((gI l i).s).length : Int))) + (((gI l i).t).length : Int))) + (weightV size ((gI l i).v))))) || (decide (12 < (((gI l i).names).length : Int)))) ?_ ?_
   · repeat' first
      | exact ⟨⟨_, rfl, by grind [SB.val]⟩, rfl⟩
      | refine an (fun _ => ?_) (fun _ => ?_)
      | refine ix (by omega) ?_
      | refine ln ?_
   refine an (fun h3 => ?_) (fun h3 => ?_)
   · replace h3 : (size < IntKind.i64.wrap ((IntKind.i64.wrap ((IntKind.i64.wrap (n_ + (((gI l i).s).length : Int))) + (((gI l i).t).length : Int))) + (weightV size ((gI l i).v)))) ∨ (12 < (((gI l i).names).length : Int)) := ((borT h3).imp (fun q => (of_decide_eq_true q)) (fun q => (of_decide_eq_true q)))
     refine rt0 rfl fun _ => K_eq hK ?_
     show AV.bool (lightA l most size) = AV.bool false
     refine congrArg AV.bool ?_
     rw [hI.2.2, drop_gI hI.1 h2, lightF, if_pos (by first | exact h3 | simpa [actW] using h3)]
   replace h3 : (IntKind.i64.wrap ((IntKind.i64.wrap ((IntKind.i64.wrap (n_ + (((gI l i).s).length : Int))) + (((gI l i).t).length : Int))) + (weightV size ((gI l i).v))) ≤ size) ∧ ((((gI l i).names).length : Int) ≤ 12) := ⟨(Int.not_lt.1 (of_decide_eq_false (borL h3))), (Int.not_lt.1 (of_decide_eq_false (borR h3)))⟩
   refine lp (σ := Int × Int) [] [0, 2, 7, 8, 9] 0 (fun ⟨n2, k⟩ => ([(0, vL (l.map actAV)), (2, vI size), (7, vI n2), (8, vI i), (9, vI k)], [], m)) (fun ⟨n2, k⟩ => 0 ≤ k ∧ k ≤ (gI l i).names.length ∧ n2 = namesW (actW size n_ (gI l i)) ((gI l i).names.take k.toNat)) (fun ⟨n2, k⟩ => (gI l i).names.length - k.toNat) (IntKind.i64.wrap ((IntKind.i64.wrap ((IntKind.i64.wrap (n_ + (((gI l i).s).length : Int))) + (((gI l i).t).length : Int))) + (weightV size ((gI l i).v))), 0) ⟨rfl, rfl⟩ ?_ ?_
   · try dsimp only
     exact ⟨by omega, by omega, rfl⟩
   rintro ⟨n2, k⟩ hI2
   dsimp only at hI2
   refine sq ?_
   refine ix (by omega) ?_
   refine ln ?_
   refine an (fun h4 => ?_) (fun h4 => ?_)
   · refine sq ?_
     refine ix (by omega) ?_
     refine ix (by omega) ?_
     refine an (by omega) ?_
     refine ⟨(IntKind.i64.wrap (n2 + ((gI ((gI l i).names) k).length : Int)), k + 1), ⟨rfl, rfl⟩, ?_, ?_⟩
     · try dsimp only
       exact ⟨by omega, by omega, by rw [take_succ_gI hI2.1 h4, namesW, List.foldl_append, hI2.2.2]; rfl⟩
     try dsimp only
     omega
   refine an (by omega) ?_
   refine ⟨(n2, i + 1), ⟨rfl, rfl⟩, ?_, ?_⟩
   · try dsimp only
     refine ⟨by omega, by omega, ?_⟩
     rw [hI.2.2, drop_gI hI.1 h2, lightF, if_neg (by intro hh; rcases hh with hh | hh <;> first | omega | (unfold actW at hh; omega)), hI2.2.2, take_full h4]
   try dsimp only
   omega
 refine rt0 rfl fun _ => K_eq hK ?_
 show AV.bool (lightA l most size) = AV.bool (decide (n_ ≤ size))
 refine congrArg AV.bool ?_
 rw [hI.2.2, List.drop_eq_nil_of_le (by omega)]; rfl
end Go.Proofs
end
section
namespace Go.Proofs
open Go Go.Aw Go.Sx
set_option maxRecDepth 100000
def letC (c : UInt8) : Bool := decide (97 ≤ (c.toNat : Int)) && decide ((c.toNat : Int) ≤ 122)
def digC (c : UInt8) : Bool := decide (48 ≤ (c.toNat : Int)) && decide ((c.toNat : Int) ≤ 57)
def nmF : Str → Bool → Bool
  | [], _ => true
  | c :: r, first => (letC c || (!first && digC c)) && nmF r false
def nameV (s : Str) : Bool := nmF s true && !(s == []) && decide ((s.length : Int) ≤ 12)
theorem nmF_step {s : Str} {i : Int} (h0 : 0 ≤ i) (hi : i < s.length) : nmF (s.drop i.toNat) (i == 0) = ((letC (gI s i) || (!(i == 0) && digC (gI s i))) && nmF (s.drop (i + 1).toNat) (i + 1 == 0)) := by
  have e : (i + 1 == 0) = false := by simp; omega
  rw [drop_gI h0 hi, nmF, e]
set_option maxHeartbeats 2000000 in
theorem u_VName (s : Str) (hs : s.length ≤ 140737488355328) (m : AMem)  (K : AV → AMem → Prop) (hK : K (.bool (nameV s)) m) : ACalls Tryd.prog 38 [.str s] m K := by
 refine enter (c := cf [] [] [5, 8] [] [] []) (vs := [.av (.str s)]) (L := []) (m := m) false tbOk Tryd.mixed Tryd.func38 rfl (k := 1) (by show fnOk [] _ _ _ = true; decide +kernel) rfl (Good.nil m) ?_
 refine sq ?_
 refine lp (σ := Int) [] [0, 6, 7] 0 (fun i => ([(0, vS s), (6, vI (s.length : Int)), (7, vI i)], [], m)) (fun i => 0 ≤ i ∧ i ≤ s.length ∧ nmF s true = nmF (s.drop i.toNat) (i == 0)) (fun i => s.length - i.toNat) (0) ⟨rfl, rfl⟩ ?_ ?_
 · try dsimp only
   exact ⟨by omega, by omega, by simp⟩
 rintro i hI
 refine sq ?_
 refine an (fun h1 => ?_) (fun h1 => ?_)
 · refine sq ?_
   refine an (by omega) ?_
   refine mg [0, 6, 7] 30 (((decide (((gI s i).toNat : Int) < 97)) || (decide (122 < ((gI s i).toNat : Int)))) && (((i == 0) || (decide (((gI s i).toNat : Int) < 48))) || (decide (57 < ((gI s i).toNat : Int))))) ?_ ?_
   · repeat' first
      | exact ⟨⟨_, rfl, by grind [SB.val]⟩, rfl⟩
      | refine an (fun _ => ?_) (fun _ => ?_)
   refine an (fun h2 => ?_) (fun h2 => ?_)
   · replace h2 : ((((gI s i).toNat : Int) < 97) ∨ (122 < ((gI s i).toNat : Int))) ∧ (((i = 0) ∨ (((gI s i).toNat : Int) < 48)) ∨ (57 < ((gI s i).toNat : Int))) := ⟨((borT (bandL h2)).imp (fun q => (of_decide_eq_true q)) (fun q => (of_decide_eq_true q))), ((borT (bandR h2)).imp (fun q => ((borT q).imp (fun q => (eq_of_beq q)) (fun q => (of_decide_eq_true q)))) (fun q => (of_decide_eq_true q)))⟩
     refine rt0 rfl fun _ => K_eq hK ?_
     show AV.bool (nameV s) = AV.bool false
     refine congrArg AV.bool ?_
     have hb : (letC (gI s i) || (!(i == 0) && digC (gI s i))) = false := by
       rw [Bool.eq_false_iff]; intro hh; simp [letC, digC] at hh; omega
     rw [nameV, hI.2.2, nmF_step hI.1 h1, hb]; rfl
   replace h2 : ((97 ≤ ((gI s i).toNat : Int)) ∧ (((gI s i).toNat : Int) ≤ 122)) ∨ (((i ≠ 0) ∧ (48 ≤ ((gI s i).toNat : Int))) ∧ (((gI s i).toNat : Int) ≤ 57)) := ((bandF h2).imp (fun q => ⟨(Int.not_lt.1 (of_decide_eq_false (borL q))), (Int.not_lt.1 (of_decide_eq_false (borR q)))⟩) (fun q => ⟨⟨(ne_of_beq_false (borL (borL q))), (Int.not_lt.1 (of_decide_eq_false (borR (borL q))))⟩, (Int.not_lt.1 (of_decide_eq_false (borR q)))⟩))
   refine an (by omega) ?_
   refine ⟨(i + 1), ⟨rfl, rfl⟩, ?_, ?_⟩
   · try dsimp only
     have hb : (letC (gI s i) || (!(i == 0) && digC (gI s i))) = true := by simp [letC, digC]; omega
     exact ⟨by omega, by omega, by rw [hI.2.2, nmF_step hI.1 h1, hb]; rfl⟩
   try dsimp only
   omega
 refine mg [] 2 ((!(s == ([]))) && (decide ((s.length : Int) ≤ 12))) ?_ ?_
 · repeat' first
    | exact ⟨⟨_, rfl, by grind [SB.val]⟩, rfl⟩
    | refine an (fun _ => ?_) (fun _ => ?_)
 refine rt0 rfl fun _ => K_eq hK ?_
 show AV.bool (nameV s) = AV.bool ((!(s == ([]))) && (decide ((s.length : Int) ≤ 12)))
 refine congrArg AV.bool ?_
 have ha : nmF s true = true := by rw [hI.2.2, List.drop_eq_nil_of_le (by omega)]; rfl
 rw [nameV, ha]; cases s <;> simp
end Go.Proofs
end
section
namespace Go.Proofs
open Go Go.Aw Go.Sx
set_option maxRecDepth 100000
theorem Val.ext' {a b : Val} (h1 : a.kind = b.kind) (h2 : a.n = b.n) (h3 : a.s = b.s) (h4 : a.l = b.l) (h5 : a.f = b.f) : a = b := by
  cases a; cases b; simp only [Val.kind, Val.n, Val.s, Val.l, Val.f] at h1 h2 h3 h4 h5; subst h1 h2 h3 h4 h5; rfl
def cntL {α : Type} (g : α → Int → Bool × Int) : List α → Int → Bool × Int
  | [], n => (true, n)
  | x :: r, n => if (g x n).1 = true then cntL g r (g x n).2 else (false, (g x n).2)
def cntF : Nat → Int → Val → Int → Bool × Int
  | 0, _, _, n => (false, n)
  | k + 1, deep, v, n =>
    if 6 < deep ∨ n - 1 < 0 then (false, n - 1)
    else if (cntL (cntF k (deep + 1)) v.l (n - 1)).1 = false then (false, (cntL (cntF k (deep + 1)) v.l (n - 1)).2)
    else cntL (fun p => cntF k (deep + 1) p.2) v.f (cntL (cntF k (deep + 1)) v.l (n - 1)).2
def recOk : Option Str → List (Str × Val) → Bool
  | _, [] => true
  | p, f :: r => nameV f.1 && (match p with | none => true | some s => Op.bytesLess s f.1) && recOk (some f.1) r
def shpOk (v : Val) : Bool :=
  if v.kind = 0 then ((v.n == 0) && (v.s == [])) && ((v.l.length : Int) + (v.f.length : Int) == 0)
  else if v.kind = 1 then ((decide (-1000000000 ≤ v.n) && decide (v.n ≤ 1000000000)) && (v.s == [])) && ((v.l.length : Int) + (v.f.length : Int) == 0)
  else if v.kind = 2 then ((v.n == 0) && decide ((v.s.length : Int) ≤ 40)) && ((v.l.length : Int) + (v.f.length : Int) == 0)
  else if v.kind = 3 then (((v.n == 0) || (v.n == 1)) && (v.s == [])) && ((v.l.length : Int) + (v.f.length : Int) == 0)
  else if v.kind = 4 then ((v.n == 0) && (v.s == [])) && ((v.f.length : Int) == 0)
  else if v.kind = 5 then (((v.n == 0) && (v.s == [])) && ((v.l.length : Int) == 0)) && recOk none v.f
  else false
def shpF : Nat → Val → Bool
  | 0, _ => false
  | k + 1, v => shpOk v && v.l.all (shpF k) && v.f.all (fun p => shpF k p.2)
def shE (b : Bool) : Int := if b = true then 0 else 3
def chk (v : Val) : Int := if (cntF (depV v + 1) 1 v 60).1 = true then shE (shpF (depV v + 1) v) else 2
end Go.Proofs
end
