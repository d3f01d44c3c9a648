/-
  strconv.Atoi, over a variable whose cell holds an error.
-/
import Derived.Test.YtnahenbiipdlkaaDoorWyX
import Derived.Lib.AtoiErrMem
import Derived.Lib.Atoi
import Derived.Below
import Derived.Test.YtnahenbiipdlkaaDoorWxz
import Derived.Test.YtnahenbiipdlkaaDoorProg
import Derived.Shelf.Small.Bits
import Derived.Shelf.Small.Strs
import Derived.Shelf.Strconv.Atoi
import Derived.Shelf.Strconv.Itoa3
import Derived.Shelf.LaysM
import Derived.Shelf.LaysC
import Derived.Shelf.Strconv.AtoiErr
import Derived.Shelf.Strings.Prefix
section
namespace Go.Aw
open Go RowKit
section
variable {P : Program} {F : Nat → Prop} {lim : Nat → Nat} {w w' : World} {n : Nat} {fr : Fr} {m : AMem} {ca : Act} {fl : List Nat}
theorem St.below (st : St F lim w n fr m ca fl) (h : Below w.heap.size w w') : St F lim w' n fr m ca fl := by
  have hl := h.block
  have hf : ∀ c, w.heap.size ≤ c → lim c = 0 := fun c hc => by
    obtain ⟨_, _, _, s⟩ := st
    exact (s.fresh c hc).1
  have hm : ∀ b, m b ≠ none → b < w.heap.size := fun b hb => st.lt_of_mem hb
  have hcell : ∀ b o, o < lim b → b < w.heap.size := fun b o ho => st.lt_of_lim ho
  exact st.world h.size (fun _ => Nat.le_refl _) (fun b o ho => by simp [World.cell?, hl b (hcell b o ho)]) (fun c hc => .inr ⟨hl c hc, rfl⟩) (fun b hb => ⟨hl b (hm b hb), rfl⟩) (fun c hc => hf c (Nat.le_trans h.size hc))
theorem pres_below (st : St F lim w n fr m ca fl) (h : Below w.heap.size w w') : Pres F w lim w' lim :=
  ⟨h.os, h.tape, h.output, h.size, fun b hb => ⟨h.block b (st.lt_of_F hb), rfl⟩, fun _ => Nat.le_refl _, fun b o ho => by simp [World.cell?, h.block b (st.lt_of_lim ho)]⟩
theorem atoi_calls {f eB tN : Nat} {bE : Nat} {e : TypeId} {z : Nat × Nat} {tp : TypeId} {p : Value} (hf : ∃ fn, P.funcs[f]? = some fn ∧ fn.body.isSome = true ∧ (fn.name == "runtime.NumGoroutine") = false)
    (hok : ∀ (s : ByteArray) (n : Int), s.size ≤ 18 → Lib.atoi s.data.toList = some n → ∀ w : World, Calls P f #[.string s] w fun e w' => e = .returned (.tuple #[.int .i64 n, .nilIface]) ∧ ∃ t, w' = Lib.bytesWorld w eB t)
    (herr : ∀ (s : ByteArray), s.size ≤ 18 → Lib.atoi s.data.toList = none → ∀ (ev : Value) (w : World), w.cell? ⟨bE, 0, none⟩ = some ev → (ev = .nilIface ∨ ∃ te pe, ev = .iface te pe) → Calls P f #[.string s] w fun e w' => ∃ N, e = .returned (.tuple #[.int .i64 0, .iface tN (.pointer (some ⟨N, 0, none⟩))]) ∧ Below w.heap.size w w')
    {s : List UInt8} {K : AV → AMem → Prop} (hs : s.length ≤ 18) (hb : ∀ n, Lib.atoi s = some n → -9223372036854775808 ≤ n ∧ n ≤ 9223372036854775807) (hm : m bE = some (.tab e z #[.iface tp p]))
    (hK : K (.tuple [.int .i64 ((Lib.atoi s).getD 0), .opt (Lib.atoi s).isNone]) m) : ACalls P f [.str s] m K := by
  refine ⟨hf, fun F lim w cargs hsz hr st => ?_⟩
  obtain ⟨x, rfl⟩ := one_arg hsz
  have r0 : Rep w lim x (.str s) [] := hr 0 (by simp)
  obtain ⟨b, rfl, hbs⟩ : ∃ b : ByteArray, x = .string b ∧ b.data.toList = s := by
    cases r0 with
    | str b _ => exact ⟨b, rfl, rfl⟩
  have hsz2 : b.size ≤ 18 := by rw [← hbs] at hs; simpa using hs
  have tup : ∀ {w1 : World} {n : Int} {v : Value} {o : Bool}, -9223372036854775808 ≤ n → n ≤ 9223372036854775807 → Rep w1 lim v (.opt o) [] → Rep w1 lim (.tuple #[.int .i64 n, v]) (.tuple [.int .i64 n, .opt o]) [] := fun {w1 n v o} h1 h2 h3 => by
    have := Rep.tuple (w := w1) (lim := lim) #[.int .i64 n, v] [.int .i64 n, .opt o] (fun _ => []) rfl (fun i hi => by
      match i, hi with
      | 0, _ => exact .int .i64 n h1 h2
      | 1, _ => exact h3)
    exact this
  cases ha : Lib.atoi s with
  | some n =>
    rw [ha] at hK
    refine (hok b n hsz2 (by rw [hbs]; exact ha) w).mono fun e1 w3 ⟨he, t, hw⟩ => ?_
    subst he; subst hw
    exact ⟨_, _, lim, _, [], rfl, hK, tup (hb n ha).1 (hb n ha).2 .optN, st.below (Lib.bytesWorld_below _ _ _), pres_below st (Lib.bytesWorld_below _ _ _)⟩
  | none =>
    rw [ha] at hK
    have hc : w.cell? ⟨bE, 0, none⟩ = some (.iface tp p) := by
      obtain ⟨os, om, ow, s⟩ := st
      have := (s.mem bE _ hm).1
      cases this with
      | tab _ _ _ _ hb => simp [World.cell?, hb]
    refine (herr b hsz2 (by rw [hbs]; exact ha) _ w hc (.inr ⟨tp, p, rfl⟩)).mono fun e1 w3 ⟨N, he, hw⟩ => ?_
    subst he
    exact ⟨_, _, lim, _, [], rfl, hK, tup (by decide) (by decide) (.optS _ _), st.below hw, pres_below st hw⟩
end
end Go.Aw
end
section
namespace Go.Sx
open Go Go.Aw
section
variable {P : Program} {b0 : List Nat} {fr : SFr} {L : List SObj} {m : AMem} {K : SK}
theorem bown {d t s : Nat} {parts : Array (Nat × Operand)} {fs : Array Field} {z : AV} (pre post : List SV) (q : List AV) (hu : P.underlying t = some (.struct fs)) (hz : zeroA P t = some z) (hzt : z.topOk = true) (hfs : ∀ f ∈ fs.toList, isU P f.type = true)
    (hpt : ∀ bs, ∀ X : AV, X.topOk = true → ∀ p ∈ parts.toList, (partAV (rawOf (denF bs fr)) s X p.2).topOk = true)
    (hms : ∀ bs a k c, fillA (fun i => (fs[i]?).map fun f => (f.offset, P.cellsOf f.type)) z.cells (parts.toList.map fun p => (p.1, partAV (rawOf (denF bs fr)) s (.ms a k c) p.2)) = some (denL bs pre ++ .ms a k c :: denL bs post))
    (hown : ∀ bs, fillA (fun i => (fs[i]?).map fun f => (f.offset, P.cellsOf f.type)) z.cells (parts.toList.map fun p => (p.1, partAV (rawOf (denF bs fr)) s (.slice true q) p.2)) = some (denL bs pre ++ .slice true q :: denL bs post))
    (hx : sgK fr s fun v => v = .own q) (hmem : (parts.toList.any fun p => match p.2 with | .tmp t => t == s | _ => false) = true) (h : K ((d, .agg (pre ++ .own q :: post)) :: (s, .av (.slice false q)) :: fr) L m) :
    SOp P b0 (some d) (.build t parts) fr L m K := ⟨fun new g n ops ty pos af l KK hok hn hK => by
  refine aopR_sound (stl := [d]) hok hn ?_
  have hr : rawOf (denF (b0 ++ new) fr) s = .slice true q := by
    rw [rawOf_denF]; rw [sgK_eq] at hx; rw [hx]; rfl
  refine ar_buildOwn (P := P) (ops := ops) (stl := [d]) (r := []) (K := AOps P n ops l KK) rfl s (denL (b0 ++ new) pre) (denL (b0 ++ new) post) (by simp) hu hz hzt hfs (hpt _) (hms _) (hown _) hr hmem ?_
  have := hK _ _ _ (b0 ++ new) (List.prefix_append _ _) g h
  have e : denL (b0 ++ new) (pre ++ .own q :: post) = denL (b0 ++ new) pre ++ .slice true q :: denL (b0 ++ new) post := by
    rw [denL_eq, denL_eq, denL_eq, List.map_append, List.map_cons]; rfl
  simp only [denF, den, e] at this
  rw [strip_one, hr]
  exact this⟩
end
end Go.Sx
end
section
namespace Go.Aw
open Go
inductive BadT : Value → Prop
  | u64 (n : Int) : BadT (.int .u64 n)
  | iface (t : TypeId) (p : Value) : BadT (.iface t p)
theorem okT_bad {w : World} {lim : Nat → Nat} {v : Value} (hv : BadT v) {x : AV} {os : List Nat} (h : Rep w lim v x os) (hx : OkT x) : False := by
  cases hv with
  | u64 n => exact okT_u64 h hx
  | iface t p => cases hx <;> cases h
theorem rep_offG {w : World} {lim lim' : Nat → Nat} {B : Nat → Prop} (hc : ∀ b o v, B b → w.cell? ⟨b, o, none⟩ = some v → BadT v) (hl : ∀ b, ¬ B b → lim' b = lim b) {v : Value} {x : AV} {os : List Nat} (h : Rep w lim v x os) : OkT x → Rep w lim' v x os := by
  induction h with
  | bool b => exact fun _ => .bool b
  | int k n lo hi => exact fun _ => .int k n lo hi
  | str s h => exact fun _ => .str s h
  | nils own => exact fun _ => .nils own
  | empty a cap hm => exact fun _ => .empty a cap hm
  | slice b off n cap sz l cv hn hcap hm hbig hsz hlim hcc hr ih =>
    intro hx
    cases hx with
    | slice _ hl1 hl2 =>
      rcases Nat.eq_zero_or_pos n with h0 | h0
      · subst h0
        have : l = [] := List.eq_nil_of_length_eq_zero hn
        subst this
        exact .empty _ _ hm
      · have hmem : ∀ i, i < n → l.getD i .junk ∈ l := fun i hi => by simp [List.getD_eq_getElem?_getD, show i < l.length by omega]
        have gm : ∀ (L : List AV) (j : Nat), j < L.length → L.getD j .junk ∈ L := fun L j hj => by
          rw [List.getD_eq_getElem?_getD, List.getElem?_eq_getElem hj]; exact List.getElem_mem _
        have hok : ∀ i j, i < n → j < sz → OkT ((l.getD i .junk).cells.getD j .junk) := fun i j hi hj => hl2 _ (hmem i hi) _ (gm _ j (by rw [hsz i hi]; exact hj))
        have hs0 : 0 < sz := by
          rw [← hsz 0 h0]; exact List.length_pos_iff.2 (hl1 _ (hmem 0 h0))
        have hb : ¬ B b := fun e => okT_bad (hc b _ _ e (hcc 0 0 h0 hs0)) (hr 0 0 h0 hs0) (hok 0 0 h0 hs0)
        exact .slice b off n cap sz l cv hn hcap hm hbig hsz (by rw [hl b hb]; exact hlim) hcc fun i j hi hj => ih i j hi hj (hok i j hi hj)
  | agg cs xs os h hr ih =>
    intro hx
    cases hx with
    | agg _ hl2 =>
      exact .agg cs xs os h fun i hi => ih i hi (hl2 _ (by
        rw [List.getD_eq_getElem?_getD, List.getElem?_eq_getElem hi]
        exact List.getElem_mem _))
  | _ => intro hx; cases hx
structure TabG where
  e : TypeId
  z : Nat × Nat
  cs : Array Value
def memG (G : Nat → Option TabG) : AMem := fun b => (G b).map fun t => .tab t.e t.z t.cs
section
variable {P : Program}
theorem law_trueG {f : FuncId} {avs : List AV} {cargs : Array Value} {G : Nat → Option TabG} {W : World} (h : ACalls P f avs (memG G) (fun x m' => x = .bool true ∧ ∀ b t, G b = some t → m' b = some (.tab t.e t.z t.cs))) (hs : cargs.size = avs.length)
    (hT : ∀ b t, G b = some t → W.heap[b]? = some (.cells t.cs t.e t.z) ∧ ∀ v ∈ t.cs.toList, BadT v)
    (hr : ∀ i, i < avs.length → Rep W (limOf W) (cargs.getD i undef) (avs.getD i .junk) []) (ho : ∀ x ∈ avs, OkT x) :
    Calls P f cargs W fun e W' => e = .returned (.bool true) ∧ RowKit.Below W.heap.size W W' := by
  have hlt : ∀ b t, G b = some t → b < W.heap.size := fun b t hb => by
    rcases Nat.lt_or_ge b W.heap.size with h | h
    · exact h
    · have := (hT b t hb).1
      rw [Array.getElem?_eq_none h] at this; cases this
  have hc : ∀ b o v, (∃ t, G b = some t) → W.cell? ⟨b, o, none⟩ = some v → BadT v := fun b o v ⟨t, hb⟩ hv => by
    simp only [World.cell?, (hT b t hb).1] at hv
    exact (hT b t hb).2 v (by simpa using Array.mem_of_getElem? hv)
  have st : St (fun b => b < W.heap.size ∧ G b = none) (fun b => if (G b).isSome then 0 else limOf W b) W 0 [] (memG G) noAct [] := by
    refine ⟨fun _ => [], fun _ _ => [], fun _ => .none, rfl, rfl, fun t x hx => by simp [Fr.get] at hx, fun b o h => ?_, fun t x hx => by simp [Fr.get] at hx, fun b o h i => ⟨List.nodup_nil, fun c hc => by cases hc⟩, by simp, fun c h => absurd rfl h, fun b hb => ?_⟩
    · unfold memG at h
      cases e1 : G b with
      | none => rw [e1] at h; cases h
      | some t =>
        rw [e1] at h
        obtain rfl := Option.some.inj h
        exact ⟨.tab t.e _ _ _ (hT b t e1).1, by simp, fun hh => by cases hh.2⟩
    · have e1 : G b = none := by
        cases e1 : G b with
        | none => rfl
        | some t => have := hlt b t e1; omega
      have : W.heap[b]? = none := by simpa using hb
      exact ⟨by simp [e1, limOf, this], fun hh => by omega, by simp [memG, e1]⟩
  refine (h.2 _ _ W cargs hs (fun i hi => rep_offG (B := fun b => ∃ t, G b = some t) hc (fun b hb => by
      have e1 : G b = none := by
        cases e1 : G b with
        | none => rfl
        | some t => exact absurd ⟨t, e1⟩ hb
      simp [e1]) (hr i hi) (ho _ (by rw [List.getD_eq_getElem?_getD, List.getElem?_eq_getElem hi]; exact List.getElem_mem _))) st).mono fun e W' ⟨v, x, lim', m', os, he, hK, hx, hst, hp⟩ => ?_
  obtain ⟨hK, hm⟩ := hK
  subst hK
  cases hx
  refine ⟨he, hp.os, hp.tape, hp.output, hp.size, fun k hk => ?_⟩
  cases e1 : G k with
  | some t =>
    obtain ⟨_, _, _, s⟩ := hst
    have := (s.mem k _ (hm k t e1)).1
    cases this with
    | tab _ _ _ _ hb => rw [hb, (hT k t e1).1]
  | none => exact (hp.res k ⟨hk, e1⟩).1
end
end Go.Aw
end
section
namespace Go.Aw
open Go Go.MapKept
section
variable {P : Program} {F : Nat → Prop} {lim : Nat → Nat} {w w' : World} {n : Nat} {fr : Fr} {m : AMem} {ca : Act} {fl : List Nat}
variable {ops : Array Oper} {stl : List Nat} {r : List Oper} {K : Fr → AMem → Prop} {d : Nat} {ty : TypeId} {pos : String} {af : Array Edge} {gd : Option (Nat × Bool)} {L : List (Nat × AObj)}
theorem ar_lookupNilOkP (hg : gOn ops fr gd = some true) {κ : Type} [DecidableEq κ] {dk : TypeDesc} (kf : κ → AV) {kc : κ → Value} (he : KeyEnc dk kf kc) (k : κ) (z : AV) {t ke ve : TypeId} {x y : Operand} (ht : P.underlying t = some (.map ke ve)) (hke : P.underlying ke = some dk) {z0 : AV} (hz : zeroA P ve = some z0) (hzp : z0.plain = z)
    (hx : evP (rawOf fr) x = .nilmap) (hy : evP (rawOf fr) y = kf k) (h : aopsR P ops stl r K (fr.put d (.tuple [z, .bool false])) m) :
    aopsR P ops stl (⟨some d, .lookup t x y true, ty, pos, af, gd⟩ :: r) K fr m := by
  simp only [aopsR, aopR, hg, ares, qv, hx]
  intro n hk hn F lim w ca st
  have hopd := okOper_opd hk
  have h1 := evP_rep st (hopd x (by simp [Op.operands]))
  have h2 := evP_rep st (hopd y (by simp [Op.operands]))
  rw [hx] at h1
  rw [hy] at h2
  have e1 : ca.eval x = .map none := by generalize ca.eval x = q at h1; cases h1; rfl
  obtain ⟨v, r1, r2⟩ := lookup_nil (P := P) he ht hke hz h2 true
  replace r1 := r1.plain
  rw [hzp] at r1
  have hT : Rep w lim (.tuple #[v, .bool false]) (.tuple [z, .bool false]) [] := by
    have := Rep.tuple (w := w) (lim := lim) #[v, .bool false] [z, .bool false] (fun _ => []) rfl (fun i hi => by
      match i, hi with
      | 0, _ => exact r1
      | 1, _ => exact .bool _)
    rwa [flatMap_nil] at this
  exact ⟨.value (.tuple #[v, .bool false]), _, w, lim, _, _, by simp only [execOp, e1, Sem.run_bind, r2]; rfl, .inl rfl, st.putO (d := some d) (fun t ht => okOper_dst hk ht) hT, .refl _ _ _, h⟩
end
end Go.Aw
namespace Go.Sx
open Go Go.Aw
theorem mem_base {bs : List Nat} {L : List SObj} {m : AMem} (g : Good bs L m) {b : Nat} {o : AObj} (h : m b = some o) : memD bs L m b = some o :=
  wth_old h fun c hc => by rw [denM_fst g.len] at hc; exact g.fresh c hc
section
variable {P : Program} {T : Tab} {b0 : List Nat} {fr : SFr} {L : List SObj} {m : AMem} {K : SK}
theorem mloB (hT : tabOk P T = true) {κ ν : Type} [DecidableEq κ] {dk : TypeDesc} (kf : κ → AV) {kc : κ → Value} (vf : ν → AV) (he : KeyEnc dk kf kc) (l : List (κ × ν)) (k : κ) (z : ν) {d t b : Nat} {ke ve : Nat} {x y : Operand} {v : AV} (hM : MpOk T t ke ve dk (vf z)) (hx : opK fr x fun u => u = .av (.map b)) (hi : m b = some (.map (l.map (mapAV kf vf))))
    (hy : opK fr y fun u => u = .av (kf k)) (hkp : (kf k).plain = kf k) (hv : vf ((mget l k).getD z) = v) (h : K ((d, .av (.tuple [v, .bool (mget l k).isSome])) :: fr) L m) (hp : AV.plainL [v, .bool (mget l k).isSome] = [v, .bool (mget l k).isSome]) : SOp P b0 (some d) (.lookup t x y true) fr L m K := ⟨fun new g n ops ty pos af r KK hok hn hK => by
  obtain ⟨u1, u2, z0, z1, z2⟩ := hM.get hT
  obtain ⟨v1, rfl, e1⟩ := opK_sound (b0 ++ new) hx
  obtain ⟨v2, rfl, e2⟩ := opK_sound (b0 ++ new) hy
  simp only [den, AV.plain, hkp] at e1 e2
  have hg := mem_base g hi
  refine aopR_sound (stl := []) hok hn ?_
  refine ar_lookupOkP (P := P) (ops := ops) (stl := []) (r := []) (K := AOps P n ops r KK) (L := denM (b0 ++ new) L) rfl kf vf he l k z u1 u2 z1 z2 e1.symm e2.symm hg hv ?_
  have := hK _ _ _ (b0 ++ new) (List.prefix_append _ _) g h
  simp only [denF, den, AV.plain, hp] at this
  exact this⟩
theorem mlkB (hT : tabOk P T = true) {κ ν : Type} [DecidableEq κ] {dk : TypeDesc} (kf : κ → AV) {kc : κ → Value} (vf : ν → AV) (he : KeyEnc dk kf kc) (l : List (κ × ν)) (k : κ) (z : ν) {d t b : Nat} {ke ve : Nat} {x y : Operand} {v : AV} (hM : MpOk T t ke ve dk (vf z)) (hx : opK fr x fun u => u = .av (.map b)) (hi : m b = some (.map (l.map (mapAV kf vf))))
    (hy : opK fr y fun u => u = .av (kf k)) (hkp : (kf k).plain = kf k) (hv : vf ((mget l k).getD z) = v) (hp : v.plain = v) (h : K ((d, svOf v) :: fr) L m) : SOp P b0 (some d) (.lookup t x y false) fr L m K := ⟨fun new g n ops ty pos af r KK hok hn hK => by
  obtain ⟨u1, u2, z0, z1, z2⟩ := hM.get hT
  obtain ⟨v1, rfl, e1⟩ := opK_sound (b0 ++ new) hx
  obtain ⟨v2, rfl, e2⟩ := opK_sound (b0 ++ new) hy
  simp only [den, AV.plain, hkp] at e1 e2
  have hg := mem_base g hi
  refine aopR_sound (stl := []) hok hn ?_
  refine ar_lookupP (P := P) (ops := ops) (stl := []) (r := []) (K := AOps P n ops r KK) (L := denM (b0 ++ new) L) rfl kf vf he l k z u1 u2 z1 z2 e1.symm e2.symm hg hv ?_
  have := hK _ _ _ (b0 ++ new) (List.prefix_append _ _) g h
  simp only [denF, den_svOf, hp] at this
  exact this⟩
theorem mloN (hT : tabOk P T = true) {κ : Type} [DecidableEq κ] {dk : TypeDesc} (kf : κ → AV) {kc : κ → Value} (he : KeyEnc dk kf kc) (k : κ) {d t : Nat} {ke ve : Nat} {x y : Operand} {v : AV} (hM : MpOk T t ke ve dk v) (hx : opK fr x fun u => u = .av .nilmap)
    (hy : opK fr y fun u => u = .av (kf k)) (hkp : (kf k).plain = kf k) (h : K ((d, .av (.tuple [v, .bool false])) :: fr) L m) (hp : AV.plainL [v, .bool false] = [v, .bool false]) : SOp P b0 (some d) (.lookup t x y true) fr L m K := ⟨fun new g n ops ty pos af r KK hok hn hK => by
  obtain ⟨u1, u2, z0, z1, z2⟩ := hM.get hT
  obtain ⟨v1, rfl, e1⟩ := opK_sound (b0 ++ new) hx
  obtain ⟨v2, rfl, e2⟩ := opK_sound (b0 ++ new) hy
  simp only [den, AV.plain, hkp] at e1 e2
  refine aopR_sound (stl := []) hok hn ?_
  refine ar_lookupNilOkP (P := P) (ops := ops) (stl := []) (r := []) (K := AOps P n ops r KK) rfl kf he k v u1 u2 z1 z2 e1.symm e2.symm ?_
  have := hK _ _ _ (b0 ++ new) (List.prefix_append _ _) g h
  simp only [denF, den, AV.plain, hp] at this
  exact this⟩
end
section
variable {c : Cfg} {L : List SObj} {fr : SFr} {m : AMem}
theorem callB {b0 : List Nat} {P : Program} {f : FuncId} {vs : List SV} {Q : SV → List SObj → AMem → Prop} {σ : Type} (y : σ → AV) (I : σ → AMem → AMem → Prop) (J : σ → AMem → Prop)
    (hJ : ∀ x mm M S, (∀ b ∈ S, mm b ≠ none) → I x mm M → J x (restM M S)) (hp : ∀ x, (y x).plain = y x)
    (h : ∀ bs (mm : AMem), (∀ b o, m b = some o → mm b = some o) → ∀ (K : AV → AMem → Prop), (∀ x M, (∀ b o, mm b = some o → M b = some o) → I x mm M → K (y x) M) → ACalls P f (denL bs vs) mm K)
    (hQ : ∀ x M, (∀ b o, m b = some o → M b = some o) → J x M → Q (.av (y x)) L M) : SCall P b0 f vs fr L m Q := by
  refine ⟨σ × AMem, fun x => (∀ b o, m b = some o → x.2 b = some o) ∧ J x.1 x.2, fun x => .av (y x.1), fun _ => L, fun x => x.2, fun new g K hK => ?_, fun _ => by rw [Nat.beq_refl]; rfl, fun x hx => hQ x.1 x.2 hx.1 hx.2⟩
  refine h (b0 ++ new) _ (fun b o hb => mem_base g hb) K fun x M hM hI => ?_
  have hbs : ∀ b ∈ b0 ++ new, memD (b0 ++ new) L m b ≠ none := fun b hb => by
    obtain ⟨i, hi, e⟩ := List.getElem_of_mem hb
    have hl : i < L.length := by rw [← g.len]; exact hi
    have := mem_get g (i := i) (o := L[i]) (List.getElem?_eq_getElem hl)
    rw [List.getD_eq_getElem?_getD, List.getElem?_eq_getElem hi, Option.getD_some, e] at this
    rw [this]; exact Option.some_ne_none _
  have hR : ∀ b ∈ b0 ++ new, restM M (b0 ++ new) b = none := fun b hb => by simp only [restM, if_pos hb]
  have g' : Good (b0 ++ new) L (restM M (b0 ++ new)) := ⟨g.nd, g.len, hR⟩
  have e : memD (b0 ++ new) L (restM M (b0 ++ new)) = M := by
    funext b
    by_cases hb : b ∈ b0 ++ new
    · obtain ⟨i, hi, e⟩ := List.getElem_of_mem hb
      have hl : i < L.length := by rw [← g.len]; exact hi
      have h1 := mem_get g (i := i) (o := L[i]) (List.getElem?_eq_getElem hl)
      have h2 := mem_get g' (i := i) (o := L[i]) (List.getElem?_eq_getElem hl)
      have e3 : (b0 ++ new).getD i 0 = b := by rw [List.getD_eq_getElem?_getD, List.getElem?_eq_getElem hi, Option.getD_some, e]
      rw [e3] at h1 h2
      rw [h2, hM b _ h1]
    · rw [memD, wth_other (by rw [denM_fst g.len]; exact hb)]
      simp only [restM, if_neg hb]
  have := hK (x, restM M (b0 ++ new)) ⟨fun b o hb => ?_, hJ x _ M _ hbs hI⟩ [] (by rw [List.append_nil]; exact g')
  · simp only [List.append_nil, den, hp] at this
    rwa [e] at this
  · have hn : b ∉ b0 ++ new := fun hm => by rw [g.fresh b hm] at hb; cases hb
    simp only [restM, if_neg hn]
    exact hM b o (mem_base g hb)
theorem rtm {K : AV → AMem → Prop} {vs : List SV} (is : List Nat) (hb : c.bs = []) (hi : isOk L.length is = true)
    (h : ∀ new, (blks new is).Nodup → (∀ b ∈ blks new is, m b = none) → K (retV new vs) (m.wth (pk new is (getL L is)))) : SRet c K vs L m := ⟨fun new g => by
  rw [hb, List.nil_append] at g ⊢
  have hN := blks_nodup g.nd (by rw [g.len]; exact hi)
  have hf : ∀ b ∈ blks new is, m b = none := fun b hbm => by
    obtain ⟨i, hi2, e⟩ := blks_mem hbm
    have hlt := (isOk_lt hi).1 i hi2
    rw [← g.len] at hlt
    apply g.fresh b
    rw [e, List.getD_eq_getElem?_getD, List.getElem?_eq_getElem hlt]
    exact List.getElem_mem _
  refine ⟨_, fun b o hbo => ?_, h new hN hf⟩
  by_cases hm : b ∈ blks new is
  · have e1 := mem_pk g hi (getL_len L is).symm
    rw [setL_get_self hi] at e1
    rw [e1]
    obtain ⟨i, him, rfl⟩ := blks_mem hm
    obtain ⟨j, hj⟩ := List.getElem?_of_mem him
    have hjl : j < (getL L is).length := by
      rw [getL_len]
      rcases Nat.lt_or_ge j is.length with h | h
      · exact h
      · rw [List.getElem?_eq_none h] at hj; cases hj
    have ho := List.getElem?_eq_getElem hjl
    rw [pk_get hN (getL_len L is).symm hj ho] at hbo ⊢
    exact hbo
  · rw [pk_other hm] at hbo
    exact mem_base g hbo⟩
end
end Go.Sx
end
section
namespace Go.Sx
open Go Go.Aw
theorem cvH {c : Cfg} {A : SK} {R : Prop} {L : List SObj} {fr : SFr} {m : AMem} (s : Nat) {i : Nat} {o : AObj} (hL : nth L i = some (.obj o)) (hi : (Nat.beq (i + 1) L.length && Nat.ble c.bs.length i) = true) (hs : sgK fr s fun v => v = .mp i)
    (h : ∀ b, m b = none → fgF i ((s, .av (.map b)) :: fr) fun fr' => fgM i (L.take i) fun L' => A fr' L' (m.upd b (some o))) : SOr (SCv c A fr L m) R := ⟨.inl ⟨fun new g n cd Q hQ F lim wd ca st => by
  simp only [Bool.and_eq_true] at hi
  have hi1 := Nat.eq_of_beq_eq_true hi.1
  have hi2 := Nat.le_of_ble_eq_true hi.2
  rw [nth_eq] at hL
  generalize hB : c.bs ++ new = B at g st
  have hBl := g.len
  have hmb : B.getD i 0 ∈ B := by
    rw [List.getD_eq_getElem?_getD, List.getElem?_eq_getElem (by omega)]; exact List.getElem_mem _
  have hfb := g.fresh _ hmb
  obtain ⟨fr', h1, hF⟩ := fgF_sound (h (B.getD i 0) hfb)
  obtain ⟨L', h2, hl2, hM⟩ := fgM_sound h1
  have hL2 : L'.length = i := by rw [hl2, List.length_take]; omega
  have hm := mem_get g hL
  simp only [denO] at hm
  have hslot := sgK_get (bs := B) hs (by simp)
  simp only [den] at hslot
  have g0 : Good (B.take i) L' m := good_take g hi1 hL2
  have hnb : B.getD i 0 ∉ B.take i := fun hc => by
    obtain ⟨j, hj, e⟩ := List.getElem_of_mem hc
    rw [List.length_take] at hj
    rw [List.getElem_take] at e
    have := getD_inj g.nd (i := j) (j := i) (by omega) (by omega) (by rw [List.getD_eq_getElem?_getD, List.getElem?_eq_getElem (by omega), Option.getD_some, e])
    omega
  have g' : Good (B.take i) L' (m.upd (B.getD i 0) (some o)) := ⟨g0.nd, g0.len, fun b hb => by
    simp only [AMem.upd, if_neg (fun e : b = B.getD i 0 => hnb (e ▸ hb))]; exact g0.fresh b hb⟩
  have hpre : c.bs <+: B.take i := by
    rw [← hB, List.take_append, List.take_of_length_le hi2]
    exact List.prefix_append _ _
  have hmle : MLe (memD (B.take i) L' (m.upd (B.getD i 0) (some o))) (memD B L m) := by
    intro b o' hb
    rcases memD_get g' hb with ⟨q, x, q1, q2, rfl⟩ | ⟨q1, q2⟩
    · obtain ⟨o, q3, q4⟩ := hM B 0 q x q2
      have hqi : q < i := by
        rcases Nat.lt_or_ge q i with h | h
        · exact h
        · rw [List.getElem?_eq_none (by omega)] at q2; cases q2
      rw [List.getElem?_take_of_lt hqi] at q1 q3
      rw [← denO_congr (take_getD (bs := B) (i := i) (by omega)) x] at q4
      have eb : B.getD q 0 = b := by rw [List.getD_eq_getElem?_getD, q1]; rfl
      have hg := mem_get g q3
      rw [eb] at hg
      exact ⟨denO B o, hg, q4⟩
    · by_cases e : b = B.getD i 0
      · subst e
        simp only [AMem.upd, if_true] at q2
        obtain rfl := Option.some.inj q2
        exact ⟨_, hm, .inl rfl⟩
      · simp only [AMem.upd, if_neg e] at q2
        have hbB : b ∉ B := fun hb2 => by rw [g.fresh b hb2] at q2; cases q2
        refine ⟨o', ?_, .inl rfl⟩
        rw [memD, wth_other (by rw [denM_fst g.len]; exact hbB)]
        exact q2
  have hle : Le (denF (B.take i) fr') (denF B fr) := by
    rw [denF_congr (take_getD (bs := B) (i := i) (by omega))]
    intro t x hx
    obtain ⟨y, hy, hl⟩ := hF B 0 t x hx
    refine ⟨y, ?_, hl⟩
    simp only [denF, den, AV.plain, Fr.get] at hy
    split at hy
    · rename_i e
      have e2 : t = s := by first | exact e | exact e.symm | simpa using e | (simpa using e.symm)
      subst e2
      rw [hslot]; exact hy
    · exact hy
  exact AWP.less hle (AWP.lessM hmle (hQ fr' L' _ (B.take i) hpre g' h2)) F lim wd ca st⟩⟩
end Go.Sx
end
section
namespace Go.Sx
open Go Go.Aw
def mvA : Option Nat → AV
  | none => .nilmap
  | some b => .map b
def MapAt {κ ν : Type} (m : AMem) (kf : κ → AV) (vf : ν → AV) (o : Option Nat) (l : List (κ × ν)) : Prop :=
  match o with
  | none => l = []
  | some b => m b = some (.map (l.map (mapAV kf vf)))
theorem MapAt.up {κ ν : Type} {m mm : AMem} {kf : κ → AV} {vf : ν → AV} {o : Option Nat} {l : List (κ × ν)} (ht : ∀ b o, m b = some o → mm b = some o) (h : MapAt m kf vf o l) : MapAt mm kf vf o l := by
  cases o with
  | none => exact h
  | some b => exact ht _ _ h
section
variable {P : Program} {T : Tab} {b0 : List Nat} {fr : SFr} {L : List SObj} {m : AMem} {K : SK}
theorem mvA_plain (o : Option Nat) : (mvA o).plain = mvA o := by cases o <;> rfl
theorem svOf_mvA (o : Option Nat) : svOf (mvA o) = .av (mvA o) := by cases o <;> rfl
theorem mlkO (hT : tabOk P T = true) {κ : Type} [DecidableEq κ] {dk : TypeDesc} (kf : κ → AV) {kc : κ → Value} (he : KeyEnc dk kf kc) (l : List (κ × Option Nat)) (k : κ) (o : Option Nat) {b d t : Nat} {ke ve : Nat} {x y : Operand} (hM : MpOk T t ke ve dk (mvA none)) (hi : m b = some (.map (l.map (mapAV kf mvA)))) (ho : (mget l k).getD none = o) (hx : opK fr x fun u => u = .av (.map b))
    (hy : opK fr y fun u => u = .av (kf k)) (hkp : (kf k).plain = kf k) (h : K ((d, .av (mvA o)) :: fr) L m) : SOp P b0 (some d) (.lookup t x y false) fr L m K :=
  mlkB hT kf mvA he l k none hM hx hi hy hkp (by rw [ho]) (mvA_plain o) (by rw [svOf_mvA]; exact h)
theorem pureT {f : FuncId} {vs : List SV} {x : AV} {Q : SV → Prop} (h : ∀ bs (mm : AMem), (∀ b o, m b = some o → mm b = some o) → ∀ (K : AV → AMem → Prop), K x mm → ACalls P f (denL bs vs) mm K) (hQ : Q (svOf x)) : SPure P b0 f vs L m Q :=
  ⟨svOf x, fun new g => ⟨x, fun K hK => h (b0 ++ new) _ (fun _ _ hb => mem_base g hb) K hK, by rw [den_svOf]⟩, hQ⟩
end
end Go.Sx
end
section
namespace Go.Sx
open Go Go.Aw
section
variable {c : Cfg} {L : List SObj} {m : AMem}
theorem rtB {K : AV → AMem → Prop} {vs : List SV} {m0 : AMem} (hb : c.bs = []) (hm : ∀ b o, m0 b = some o → m b = some o) (h : ∀ new, K (retV new vs) m0) : SRet c K vs L m := ⟨fun new g => by
  rw [hb, List.nil_append] at g ⊢
  exact ⟨m0, fun b o hbo => mem_base g (hm b o hbo), h new⟩⟩
end
end Go.Sx
end
section
namespace Go.Proofs
open Go Go.Aw
theorem Tryd.mixed : Tryd.prog.follows .mixedOrders = true := by kernel_rfl
end Go.Proofs
end
section
namespace Go.Proofs
open Go.Shelf
def Tryd.lays137_ren : Go.Shelf.Ren := ⟨fun | 137 => 87 | 217 => 96 | 266 => 103 | n => n, fun | 9 => 9 | 5 => 5 | 3 => 3 | n => n, fun | n => n⟩
theorem Tryd.lays137 : Go.Proofs.Lays.n137 Tryd.prog Tryd.lays137_ren := {
  mixed := by kernel_rfl
  f137 := Tryd.func87.trans (congrArg some (by kernel_rfl))
  f217 := Tryd.func96.trans (congrArg some (by kernel_rfl))
  f266 := Tryd.func103.trans (congrArg some (by kernel_rfl))
  t3 := Tryd.underlying3
  a3 := Tryd.isAgg3
  z3 := Tryd.sizeOf3
  v3 := Tryd.zeroValue3
  t5 := Tryd.underlying5
  a5 := Tryd.isAgg5
  z5 := Tryd.sizeOf5
  v5 := Tryd.zeroValue5
  t9 := Tryd.underlying9
  a9 := Tryd.isAgg9
  z9 := Tryd.sizeOf9
  v9 := Tryd.zeroValue9 }
open Go.RowKit in
theorem Tryd.strings_IndexByte (s : ByteArray) (c : Int) (w : World) :
    Calls Tryd.prog 87 #[.string s, .int .u8 c] w fun e w' => e = .returned (.int .i64 (Lib.indexByte s.data.toList c.toNat.toUInt8)) ∧ w' = w := Any.strings_IndexByte Tryd.lays137 s c w
def Tryd.lays172_ren : Go.Shelf.Ren := ⟨fun | 172 => 97 | 244 => 104 | 245 => 105 | 247 => 111 | 279 => 112 | 280 => 113 | 281 => 114 | 282 => 115 | 287 => 118 | 316 => 119 | 171 => 59 | 205 => 120 | 321 => 121 | 322 => 122 | 243 => 83 | 246 => 94 | 283 => 99 | 284 => 100 | 285 => 101 | 286 => 102 | 129 => 107 | 317 => 106 | 318 => 108 | 319 => 109 | 320 => 110 | 337 => 116 | 338 => 117 | n => n, fun | 9 => 9 | 3 => 3 | 75 => 41 | 76 => 109 | 4 => 4 | 5 => 5 | 167 => 166 | 37 => 75 | 0 => 0 | 85 => 167 | 2 => 2 | 168 => 169 | 53 => 153 | 175 => 173 | 46 => 143 | 210 => 176 | 127 => 126 | 145 => 183 | 143 => 181 | 21 => 21 | 171 => 152 | 173 => 156 | 212 => 161 | 51 => 162 | 20 => 20 | 213 => 163 | 232 => 178 | 233 => 179 | 80 => 79 | n => n, fun | 15 => 2 | 16 => 3 | 17 => 0 | 18 => 4 | 19 => 5 | n => n⟩
theorem Tryd.lays172 : Go.Proofs.Lays.n172 Tryd.prog Tryd.lays172_ren := {
  mixed := by kernel_rfl
  f129 := Tryd.func107.trans (congrArg some (by kernel_rfl))
  f171 := Tryd.func59.trans (congrArg some (by kernel_rfl))
  f172 := Tryd.func97.trans (congrArg some (by kernel_rfl))
  f205 := Tryd.func120.trans (congrArg some (by kernel_rfl))
  f243 := Tryd.func83.trans (congrArg some (by kernel_rfl))
  f244 := Tryd.func104.trans (congrArg some (by kernel_rfl))
  f245 := Tryd.func105.trans (congrArg some (by kernel_rfl))
  f246 := Tryd.func94.trans (congrArg some (by kernel_rfl))
  f247 := Tryd.func111.trans (congrArg some (by kernel_rfl))
  f279 := Tryd.func112.trans (congrArg some (by kernel_rfl))
  f280 := Tryd.func113.trans (congrArg some (by kernel_rfl))
  f281 := Tryd.func114.trans (congrArg some (by kernel_rfl))
  f282 := Tryd.func115.trans (congrArg some (by kernel_rfl))
  f283 := Tryd.func99.trans (congrArg some (by kernel_rfl))
  f284 := Tryd.func100.trans (congrArg some (by kernel_rfl))
  f285 := Tryd.func101.trans (congrArg some (by kernel_rfl))
  f286 := Tryd.func102.trans (congrArg some (by kernel_rfl))
  f287 := Tryd.func118.trans (congrArg some (by kernel_rfl))
  f316 := Tryd.func119.trans (congrArg some (by kernel_rfl))
  f317 := Tryd.func106.trans (congrArg some (by kernel_rfl))
  f318 := Tryd.func108.trans (congrArg some (by kernel_rfl))
  f319 := Tryd.func109.trans (congrArg some (by kernel_rfl))
  f320 := Tryd.func110.trans (congrArg some (by kernel_rfl))
  f321 := Tryd.func121.trans (congrArg some (by kernel_rfl))
  f322 := Tryd.func122.trans (congrArg some (by kernel_rfl))
  f337 := Tryd.func116.trans (congrArg some (by kernel_rfl))
  f338 := Tryd.func117.trans (congrArg some (by kernel_rfl))
  t0 := Tryd.underlying0
  a0 := Tryd.isAgg0
  z0 := Tryd.sizeOf0
  v0 := Tryd.zeroValue0
  t2 := Tryd.underlying2
  a2 := Tryd.isAgg2
  z2 := Tryd.sizeOf2
  v2 := Tryd.zeroValue2
  t3 := Tryd.underlying3
  a3 := Tryd.isAgg3
  z3 := Tryd.sizeOf3
  v3 := Tryd.zeroValue3
  t4 := Tryd.underlying4
  a4 := Tryd.isAgg4
  z4 := Tryd.sizeOf4
  v4 := Tryd.zeroValue4
  t5 := Tryd.underlying5
  a5 := Tryd.isAgg5
  z5 := Tryd.sizeOf5
  v5 := Tryd.zeroValue5
  t9 := Tryd.underlying9
  a9 := Tryd.isAgg9
  z9 := Tryd.sizeOf9
  v9 := Tryd.zeroValue9
  t20 := Tryd.underlying20
  a20 := Tryd.isAgg20
  z20 := Tryd.sizeOf20
  v20 := Tryd.zeroValue20
  t21 := Tryd.underlying21
  a21 := Tryd.isAgg21
  z21 := Tryd.sizeOf21
  v21 := Tryd.zeroValue21
  t37 := Tryd.underlying75
  a37 := Tryd.isAgg75
  z37 := Tryd.sizeOf75
  v37 := Tryd.zeroValue75
  t46 := Tryd.underlying143
  a46 := Tryd.isAgg143
  z46 := Tryd.sizeOf143
  v46 := Tryd.zeroValue143
  t51 := Tryd.underlying162
  a51 := Tryd.isAgg162
  z51 := Tryd.sizeOf162
  v51 := Tryd.zeroValue162
  t53 := Tryd.underlying153
  a53 := Tryd.isAgg153
  z53 := Tryd.sizeOf153
  v53 := Tryd.zeroValue153
  t75 := Tryd.underlying41
  a75 := Tryd.isAgg41
  z75 := Tryd.sizeOf41
  v75 := Tryd.zeroValue41
  t76 := Tryd.underlying109
  a76 := Tryd.isAgg109
  z76 := Tryd.sizeOf109
  v76 := Tryd.zeroValue109
  t85 := Tryd.underlying167
  a85 := Tryd.isAgg167
  z85 := Tryd.sizeOf167
  v85 := Tryd.zeroValue167
  t127 := Tryd.underlying126
  a127 := Tryd.isAgg126
  z127 := Tryd.sizeOf126
  v127 := Tryd.zeroValue126
  t143 := Tryd.underlying181
  a143 := Tryd.isAgg181
  z143 := Tryd.sizeOf181
  v143 := Tryd.zeroValue181
  t145 := Tryd.underlying183
  a145 := Tryd.isAgg183
  z145 := Tryd.sizeOf183
  v145 := Tryd.zeroValue183
  t167 := Tryd.underlying166
  a167 := Tryd.isAgg166
  z167 := Tryd.sizeOf166
  v167 := Tryd.zeroValue166
  t168 := Tryd.underlying169
  a168 := Tryd.isAgg169
  z168 := Tryd.sizeOf169
  v168 := Tryd.zeroValue169
  t171 := Tryd.underlying152
  a171 := Tryd.isAgg152
  z171 := Tryd.sizeOf152
  v171 := Tryd.zeroValue152
  t173 := Tryd.underlying156
  a173 := Tryd.isAgg156
  z173 := Tryd.sizeOf156
  v173 := Tryd.zeroValue156
  t175 := Tryd.underlying173
  a175 := Tryd.isAgg173
  z175 := Tryd.sizeOf173
  v175 := Tryd.zeroValue173
  t210 := Tryd.underlying176
  a210 := Tryd.isAgg176
  z210 := Tryd.sizeOf176
  v210 := Tryd.zeroValue176
  t212 := Tryd.underlying161
  a212 := Tryd.isAgg161
  z212 := Tryd.sizeOf161
  v212 := Tryd.zeroValue161
  t213 := Tryd.underlying163
  a213 := Tryd.isAgg163
  z213 := Tryd.sizeOf163
  t232 := Tryd.underlying178
  a232 := Tryd.isAgg178
  z232 := Tryd.sizeOf178
  v232 := Tryd.zeroValue178
  t233 := Tryd.underlying179
  a233 := Tryd.isAgg179
  z233 := Tryd.sizeOf179
  v233 := Tryd.zeroValue179
  g15 := by kernel_rfl
  g16 := by kernel_rfl
  g17 := by kernel_rfl
  g18 := by kernel_rfl
  g19 := by kernel_rfl }
open Go.RowKit in
theorem Tryd.strconv_Atoi (s : ByteArray) (n : Int) (hl : s.size ≤ 18) (h : Lib.atoi s.data.toList = some n) (w : World) :
    Calls Tryd.prog 97 #[.string s] w fun e w' => e = .returned (.tuple #[.int .i64 n, .nilIface]) ∧ ∃ t, w' = Lib.bytesWorld w 5 t := Any.strconv_Atoi Tryd.lays172 s n hl h w
open Go.RowKit Go.Sort Go.Lib in
def Tryd.laysC172_ren : Go.Shelf.Ren := ⟨fun | 172 => 97 | 244 => 104 | 245 => 105 | 247 => 111 | 279 => 112 | 280 => 113 | 281 => 114 | 282 => 115 | 287 => 118 | 316 => 119 | 171 => 59 | 205 => 120 | 321 => 121 | 322 => 122 | 243 => 83 | 246 => 94 | 283 => 99 | 284 => 100 | 285 => 101 | 286 => 102 | 129 => 107 | 317 => 106 | 318 => 108 | 319 => 109 | 320 => 110 | 337 => 116 | 338 => 117 | n => n, fun | 9 => 9 | 3 => 3 | 75 => 41 | 76 => 109 | 4 => 4 | 5 => 5 | 167 => 166 | 37 => 75 | 0 => 0 | 85 => 167 | 2 => 2 | 168 => 169 | 53 => 153 | 175 => 173 | 46 => 143 | 210 => 176 | 127 => 126 | 145 => 183 | 143 => 181 | 21 => 21 | 171 => 152 | 173 => 156 | 212 => 161 | 51 => 162 | 20 => 20 | 213 => 163 | 232 => 178 | 233 => 179 | 80 => 79 | n => n, fun | 15 => 2 | 16 => 3 | 17 => 0 | 18 => 4 | 19 => 5 | n => n⟩
theorem Tryd.laysC172 : Go.Proofs.LaysC.n172 Tryd.prog Tryd.laysC172_ren := {
  mixed := by kernel_rfl
  f129 := Tryd.func107.trans (congrArg some (by kernel_rfl))
  f171 := Tryd.func59.trans (congrArg some (by kernel_rfl))
  f172 := Tryd.func97.trans (congrArg some (by kernel_rfl))
  f205 := Tryd.func120.trans (congrArg some (by kernel_rfl))
  f243 := Tryd.func83.trans (congrArg some (by kernel_rfl))
  f244 := Tryd.func104.trans (congrArg some (by kernel_rfl))
  f245 := Tryd.func105.trans (congrArg some (by kernel_rfl))
  f246 := Tryd.func94.trans (congrArg some (by kernel_rfl))
  f247 := Tryd.func111.trans (congrArg some (by kernel_rfl))
  f279 := Tryd.func112.trans (congrArg some (by kernel_rfl))
  f280 := Tryd.func113.trans (congrArg some (by kernel_rfl))
  f281 := Tryd.func114.trans (congrArg some (by kernel_rfl))
  f282 := Tryd.func115.trans (congrArg some (by kernel_rfl))
  f283 := Tryd.func99.trans (congrArg some (by kernel_rfl))
  f284 := Tryd.func100.trans (congrArg some (by kernel_rfl))
  f285 := Tryd.func101.trans (congrArg some (by kernel_rfl))
  f286 := Tryd.func102.trans (congrArg some (by kernel_rfl))
  f287 := Tryd.func118.trans (congrArg some (by kernel_rfl))
  f316 := Tryd.func119.trans (congrArg some (by kernel_rfl))
  f317 := Tryd.func106.trans (congrArg some (by kernel_rfl))
  f318 := Tryd.func108.trans (congrArg some (by kernel_rfl))
  f319 := Tryd.func109.trans (congrArg some (by kernel_rfl))
  f320 := Tryd.func110.trans (congrArg some (by kernel_rfl))
  f321 := Tryd.func121.trans (congrArg some (by kernel_rfl))
  f322 := Tryd.func122.trans (congrArg some (by kernel_rfl))
  f337 := Tryd.func116.trans (congrArg some (by kernel_rfl))
  f338 := Tryd.func117.trans (congrArg some (by kernel_rfl))
  t0 := Tryd.underlying0
  a0 := Tryd.isAgg0
  z0 := Tryd.sizeOf0
  v0 := Tryd.zeroValue0
  t2 := Tryd.underlying2
  a2 := Tryd.isAgg2
  z2 := Tryd.sizeOf2
  v2 := Tryd.zeroValue2
  t3 := Tryd.underlying3
  a3 := Tryd.isAgg3
  z3 := Tryd.sizeOf3
  v3 := Tryd.zeroValue3
  t4 := Tryd.underlying4
  a4 := Tryd.isAgg4
  z4 := Tryd.sizeOf4
  v4 := Tryd.zeroValue4
  t5 := Tryd.underlying5
  a5 := Tryd.isAgg5
  z5 := Tryd.sizeOf5
  v5 := Tryd.zeroValue5
  t9 := Tryd.underlying9
  a9 := Tryd.isAgg9
  z9 := Tryd.sizeOf9
  v9 := Tryd.zeroValue9
  t20 := Tryd.underlying20
  a20 := Tryd.isAgg20
  z20 := Tryd.sizeOf20
  v20 := Tryd.zeroValue20
  t21 := Tryd.underlying21
  a21 := Tryd.isAgg21
  z21 := Tryd.sizeOf21
  v21 := Tryd.zeroValue21
  t37 := Tryd.underlying75
  a37 := Tryd.isAgg75
  z37 := Tryd.sizeOf75
  v37 := Tryd.zeroValue75
  t46 := Tryd.underlying143
  a46 := Tryd.isAgg143
  z46 := Tryd.sizeOf143
  v46 := Tryd.zeroValue143
  t51 := Tryd.underlying162
  a51 := Tryd.isAgg162
  z51 := Tryd.sizeOf162
  v51 := Tryd.zeroValue162
  t53 := Tryd.underlying153
  a53 := Tryd.isAgg153
  z53 := Tryd.sizeOf153
  v53 := Tryd.zeroValue153
  t75 := Tryd.underlying41
  a75 := Tryd.isAgg41
  z75 := Tryd.sizeOf41
  v75 := Tryd.zeroValue41
  t76 := Tryd.underlying109
  a76 := Tryd.isAgg109
  z76 := Tryd.sizeOf109
  v76 := Tryd.zeroValue109
  t85 := Tryd.underlying167
  a85 := Tryd.isAgg167
  z85 := Tryd.sizeOf167
  v85 := Tryd.zeroValue167
  t127 := Tryd.underlying126
  a127 := Tryd.isAgg126
  z127 := Tryd.sizeOf126
  v127 := Tryd.zeroValue126
  t143 := Tryd.underlying181
  a143 := Tryd.isAgg181
  z143 := Tryd.sizeOf181
  v143 := Tryd.zeroValue181
  t145 := Tryd.underlying183
  a145 := Tryd.isAgg183
  z145 := Tryd.sizeOf183
  v145 := Tryd.zeroValue183
  t167 := Tryd.underlying166
  a167 := Tryd.isAgg166
  z167 := Tryd.sizeOf166
  v167 := Tryd.zeroValue166
  t168 := Tryd.underlying169
  a168 := Tryd.isAgg169
  z168 := Tryd.sizeOf169
  v168 := Tryd.zeroValue169
  t171 := Tryd.underlying152
  a171 := Tryd.isAgg152
  z171 := Tryd.sizeOf152
  v171 := Tryd.zeroValue152
  t173 := Tryd.underlying156
  a173 := Tryd.isAgg156
  z173 := Tryd.sizeOf156
  v173 := Tryd.zeroValue156
  t175 := Tryd.underlying173
  a175 := Tryd.isAgg173
  z175 := Tryd.sizeOf173
  v175 := Tryd.zeroValue173
  t210 := Tryd.underlying176
  a210 := Tryd.isAgg176
  z210 := Tryd.sizeOf176
  v210 := Tryd.zeroValue176
  t212 := Tryd.underlying161
  a212 := Tryd.isAgg161
  z212 := Tryd.sizeOf161
  v212 := Tryd.zeroValue161
  t213 := Tryd.underlying163
  a213 := Tryd.isAgg163
  z213 := Tryd.sizeOf163
  t232 := Tryd.underlying178
  a232 := Tryd.isAgg178
  z232 := Tryd.sizeOf178
  v232 := Tryd.zeroValue178
  t233 := Tryd.underlying179
  a233 := Tryd.isAgg179
  z233 := Tryd.sizeOf179
  v233 := Tryd.zeroValue179
  g15 := by kernel_rfl
  g16 := by kernel_rfl
  g17 := by kernel_rfl
  g18 := by kernel_rfl
  g19 := by kernel_rfl
  t80 := Tryd.underlying79
  a80 := Tryd.isAgg79
  z80 := Tryd.sizeOf79
  v80 := Tryd.zeroValue79
  i0 := by kernel_rfl
  i2 := by kernel_rfl
  i3 := by kernel_rfl
  i4 := by kernel_rfl
  i5 := by kernel_rfl
  i9 := by kernel_rfl
  i20 := by kernel_rfl
  i21 := by kernel_rfl
  i37 := by kernel_rfl
  i46 := by kernel_rfl
  i51 := by kernel_rfl
  i53 := by kernel_rfl
  i75 := by kernel_rfl
  i76 := by kernel_rfl
  i80 := by kernel_rfl
  i85 := by kernel_rfl
  i127 := by kernel_rfl
  i143 := by kernel_rfl
  i145 := by kernel_rfl
  i167 := by kernel_rfl
  i168 := by kernel_rfl
  i171 := by kernel_rfl
  i173 := by kernel_rfl
  i175 := by kernel_rfl
  i210 := by kernel_rfl
  i212 := by kernel_rfl
  i232 := by kernel_rfl
  i233 := by kernel_rfl
  m15 := by kernel_rfl
  m16 := by kernel_rfl
  m17 := by kernel_rfl
  m18 := by kernel_rfl
  m19 := by kernel_rfl
  c0 := by kernel_rfl
  c2 := by kernel_rfl
  c3 := by kernel_rfl
  c4 := by kernel_rfl
  c5 := by kernel_rfl
  c9 := by kernel_rfl
  c20 := by kernel_rfl
  c21 := by kernel_rfl
  c37 := by kernel_rfl
  c46 := by kernel_rfl
  c51 := by kernel_rfl
  c53 := by kernel_rfl
  c75 := by kernel_rfl
  c76 := by kernel_rfl
  c80 := by kernel_rfl
  c85 := by kernel_rfl
  c127 := by kernel_rfl
  c143 := by kernel_rfl
  c145 := by kernel_rfl
  c167 := by kernel_rfl
  c168 := by kernel_rfl
  c171 := by kernel_rfl
  c173 := by kernel_rfl
  c175 := by kernel_rfl
  c210 := by kernel_rfl
  c212 := by kernel_rfl
  c213 := by kernel_rfl
  c232 := by kernel_rfl
  c233 := by kernel_rfl }
open Go.RowKit in
theorem Tryd.strconv_Atoi_err (s : ByteArray) (hl : s.size ≤ 18) (h : Lib.atoi s.data.toList = none) (ev : Value) (w : World) (hv : w.cell? ⟨2, 0, none⟩ = some ev) (hev : ev = .nilIface ∨ ∃ te pe, ev = .iface te pe) :
    Calls Tryd.prog 97 #[.string s] w fun e w' => ∃ N, e = .returned (.tuple #[.int .i64 0, .iface 169 (.pointer (some ⟨N, 0, none⟩))]) ∧ w.heap.size ≤ N ∧ w'.heap[N]? = some (.cells #[.string ⟨#[65, 116, 111, 105]⟩, .string s, ev] 176 (0, 0)) ∧ Below w.heap.size w w' := Any.strconv_Atoi_err Tryd.laysC172 s hl h ev w hv hev
def Tryd.lays99_ren : Go.Shelf.Ren := ⟨fun | 99 => 86 | 206 => 95 | n => n, fun | 9 => 9 | 4 => 4 | 3 => 3 | n => n, fun | n => n⟩
theorem Tryd.lays99 : Go.Proofs.Lays.n99 Tryd.prog Tryd.lays99_ren := {
  mixed := by kernel_rfl
  f99 := Tryd.func86.trans (congrArg some (by kernel_rfl))
  f206 := Tryd.func95.trans (congrArg some (by kernel_rfl))
  t3 := Tryd.underlying3
  a3 := Tryd.isAgg3
  z3 := Tryd.sizeOf3
  v3 := Tryd.zeroValue3
  t4 := Tryd.underlying4
  a4 := Tryd.isAgg4
  z4 := Tryd.sizeOf4
  v4 := Tryd.zeroValue4
  t9 := Tryd.underlying9
  a9 := Tryd.isAgg9
  z9 := Tryd.sizeOf9
  v9 := Tryd.zeroValue9 }
open Go.RowKit Go.Lib in
theorem Tryd.strings_HasPrefix (s p : ByteArray) (w : World) :
    Calls Tryd.prog 86 #[.string s, .string p] w fun e w' => e = .returned (.bool (Lib.hasPrefix s.data.toList p.data.toList)) ∧ w' = w := Any.strings_HasPrefix Tryd.lays99 s p w
end Go.Proofs
end
section
namespace Go.Proofs
open Go Go.Aw Go.Sx
def tb : Tab := [(25, ⟨.st [(0, 3), (1, 3), (2, 9), (3, 22), (4, 23)], 5, 80, [.i .i64, .i .i64, .s, .l, .l]⟩),
  (3, ⟨.int .i64, 1, 8, [.i .i64]⟩),
  (9, ⟨.str, 1, 16, [.s]⟩),
  (29, ⟨.st [(0, 3), (1, 25), (6, 9), (7, 9), (8, 26), (9, 27)], 10, 168, [.i .i64, .i .i64, .i .i64, .s, .l, .l, .s, .s, .l, .l]⟩),
  (23, ⟨.sl 69, 1, 24, [.l]⟩),
  (22, ⟨.sl 25, 1, 24, [.l]⟩),
  (26, ⟨.sl 29, 1, 24, [.l]⟩),
  (69, ⟨.st [(0, 9), (1, 25)], 6, 96, [.s, .i .i64, .i .i64, .s, .l, .l]⟩),
  (99, ⟨.st [(0, 9), (1, 95), (2, 96), (3, 97)], 4, 88, [.s, .l, .l, .l]⟩),
  (41, ⟨.ifc, 1, 16, [.n]⟩),
  (104, ⟨.st [(0, 9), (1, 9), (2, 102)], 3, 56, [.s, .s, .l]⟩),
  (72, ⟨.int .i64, 1, 8, [.i .i64]⟩),
  (75, ⟨.sl 5, 1, 24, [.l]⟩),
  (5, ⟨.int .u8, 1, 1, [.i .u8]⟩),
  (27, ⟨.sl 9, 1, 24, [.l]⟩),
  (102, ⟨.sl 106, 1, 24, [.l]⟩),
  (95, ⟨.sl 101, 1, 24, [.l]⟩),
  (97, ⟨.sl 107, 1, 24, [.l]⟩),
  (36, ⟨.st [(0, 33), (1, 33), (2, 34)], 3, 24, [.m, .m, .m]⟩),
  (96, ⟨.sl 104, 1, 24, [.l]⟩),
  (33, ⟨.mp 9 25, 1, 8, [.m]⟩),
  (106, ⟨.st [(0, 9), (1, 29)], 11, 184, [.s, .i .i64, .i .i64, .i .i64, .s, .l, .l, .s, .s, .l, .l]⟩),
  (37, ⟨.st [(0, 33), (1, 33), (2, 34)], 3, 24, [.m, .m, .m]⟩),
  (60, ⟨.sl 99, 1, 24, [.l]⟩),
  (89, ⟨.st [(0, 84), (1, 3), (2, 3), (3, 41), (4, 3)], 5, 64, [.l, .i .i64, .i .i64, .n, .i .i64]⟩),
  (84, ⟨.sl 131, 1, 24, [.l]⟩),
  (101, ⟨.st [(0, 9), (1, 25)], 6, 96, [.s, .i .i64, .i .i64, .s, .l, .l]⟩),
  (107, ⟨.st [(0, 9), (1, 29)], 11, 184, [.s, .i .i64, .i .i64, .i .i64, .s, .l, .l, .s, .s, .l, .l]⟩),
  (77, ⟨.st [(0, 74), (1, 75)], 2, 32, []⟩),
  (34, ⟨.mp 9 33, 1, 8, [.m]⟩),
  (74, ⟨.ptr, 1, 8, [.p]⟩),
  (131, ⟨.st [(0, 3), (1, 3), (2, 9)], 3, 32, [.i .i64, .i .i64, .s]⟩),
  (137, ⟨.mp 3 9, 1, 8, [.m]⟩),
  (4, ⟨.bool, 1, 1, [.b]⟩),
  (126, ⟨.ptr, 1, 8, [.p]⟩)]
theorem tbOk : tabOk Tryd.prog tb = true := by decide +kernel
end Go.Proofs
end
section
namespace Go.Proofs
open Go Go.Aw Go.Sx
set_option maxRecDepth 100000
abbrev Str := List UInt8
noncomputable def cf (w st jr xs cv bs : List Nat) : Cfg := ⟨Tryd.prog, tb, 72, w, st, jr, xs, cv, bs⟩
theorem take_succ_gI {α : Type} [Inhabited α] {l : List α} {i : Int} (h0 : 0 ≤ i) (hi : i < l.length) : l.take (i + 1).toNat = l.take i.toNat ++ [gI l i] := by
  have e : (i + 1).toNat = i.toNat + 1 := by omega
  have hn : i.toNat < l.length := by omega
  rw [e, List.take_succ_eq_append_getElem hn]
  simp [gI, List.getD_eq_getElem?_getD, hn]
theorem gI_mem {α : Type} [Inhabited α] {l : List α} {i : Int} (h0 : 0 ≤ i) (hi : i < l.length) : gI l i ∈ l := by
  simp only [gI, List.getD_eq_getElem?_getD, List.getElem?_eq_getElem (show i.toNat < l.length by omega), Option.getD_some]
  exact List.getElem_mem _
theorem take_full {α : Type} {l : List α} {i : Int} (hi : l.length ≤ i) : l.take i.toNat = l := List.take_of_length_le (by omega)
inductive Val where
  | mk (kind n : Int) (s : Str) (l : List Val) (f : List (Str × Val))
instance : Inhabited Val := ⟨.mk 0 0 [] [] []⟩
def Val.kind : Val → Int | .mk k _ _ _ _ => k
def Val.n : Val → Int | .mk _ n _ _ _ => n
def Val.s : Val → Str | .mk _ _ s _ _ => s
def Val.l : Val → List Val | .mk _ _ _ l _ => l
def Val.f : Val → List (Str × Val) | .mk _ _ _ _ f => f
mutual
def valIn : Val → AV
  | .mk k n s l f => .agg [.int .i64 k, .int .i64 n, .str s, .slice false (valsIn l), .slice false (fldsIn f)]
def valsIn : List Val → List AV
  | [] => []
  | v :: r => valIn v :: valsIn r
def fldsIn : List (Str × Val) → List AV
  | [] => []
  | (s, .mk k n t l f) :: r => .agg [.str s, .int .i64 k, .int .i64 n, .str t, .slice false (valsIn l), .slice false (fldsIn f)] :: fldsIn r
end
def fldIn (p : Str × Val) : AV := .agg (.str p.1 :: (valIn p.2).cells)
theorem valsIn_eq (l : List Val) : valsIn l = l.map valIn := by
  induction l with
  | nil => rfl
  | cons v r ih => simp only [valsIn, List.map_cons, ih]
theorem fldsIn_eq (l : List (Str × Val)) : fldsIn l = l.map fldIn := by
  induction l with
  | nil => rfl
  | cons v r ih =>
    obtain ⟨s, v⟩ := v
    cases v with
    | mk k n t l f => simp only [fldsIn, List.map_cons, ih, fldIn, valIn, AV.cells]
def valTop (v : Val) : AV := .agg [.int .i64 v.kind, .int .i64 v.n, .str v.s, .slice false (v.l.map valIn), .slice false (v.f.map fldIn)]
def fldTop (p : Str × Val) : AV := .agg [.str p.1, .int .i64 p.2.kind, .int .i64 p.2.n, .str p.2.s, .slice false (p.2.l.map valIn), .slice false (p.2.f.map fldIn)]
theorem valIn_eq (v : Val) : valIn v = valTop v := by
  cases v with
  | mk k n s l f => simp only [valIn, valTop, valsIn_eq, fldsIn_eq, Val.kind, Val.n, Val.s, Val.l, Val.f]
theorem fldIn_eq (p : Str × Val) : fldIn p = fldTop p := by
  rw [fldIn, valIn_eq]; rfl
mutual
def weightV (most : Int) : Val → Int
  | .mk _ _ s l f => weightF most f (weightL most l (1 + s.length))
def weightL (most : Int) : List Val → Int → Int
  | [], n => n
  | v :: r, n => if n ≤ most then weightL most r (IntKind.i64.wrap (n + weightV most v)) else n
def weightF (most : Int) : List (Str × Val) → Int → Int
  | [], n => n
  | (s, .mk _ _ t l f) :: r, n => if n ≤ most then weightF most r (IntKind.i64.wrap (IntKind.i64.wrap (n + s.length) + weightF most f (weightL most l (1 + t.length)))) else n
end
theorem weightV_eq (most : Int) (v : Val) : weightV most v = weightF most v.f (weightL most v.l (1 + v.s.length)) := by
  cases v with
  | mk k n s l f => simp only [weightV, Val.f, Val.l, Val.s]
theorem weightF_cons (most : Int) (p : Str × Val) (r : List (Str × Val)) (n : Int) : weightF most (p :: r) n = if n ≤ most then weightF most r (IntKind.i64.wrap (IntKind.i64.wrap (n + p.1.length) + weightV most p.2)) else n := by
  obtain ⟨s, v⟩ := p
  cases v with
  | mk k n t l f => simp only [weightF, weightV]
theorem weightL_stop (most : Int) (l : List Val) (n : Int) (h : most < n) : weightL most l n = n := by
  cases l with
  | nil => simp only [weightL]
  | cons v r => simp only [weightL]; rw [if_neg (by omega)]
theorem weightF_stop (most : Int) (l : List (Str × Val)) (n : Int) (h : most < n) : weightF most l n = n := by
  cases l with
  | nil => simp only [weightF]
  | cons v r => rw [weightF_cons, if_neg (by omega)]
theorem drop_gI {α : Type} [Inhabited α] {l : List α} {i : Int} (h0 : 0 ≤ i) (hi : i < l.length) : l.drop i.toNat = gI l i :: l.drop (i + 1).toNat := by
  have h : i.toNat < l.length := by omega
  have e : (i + 1).toNat = i.toNat + 1 := by omega
  rw [List.drop_eq_getElem_cons h, e]
  simp [gI, List.getD_eq_getElem?_getD, h]
mutual
def depV : Val → Nat
  | .mk _ _ _ l f => depL l + depF f + 1
def depL : List Val → Nat
  | [] => 0
  | v :: r => depV v + depL r
def depF : List (Str × Val) → Nat
  | [] => 0
  | (_, .mk _ _ _ l f) :: r => depL l + depF f + 1 + depF r
end
theorem depL_mem {l : List Val} {v : Val} (h : v ∈ l) : depV v ≤ depL l := by
  induction l with
  | nil => cases h
  | cons a r ih =>
    simp only [depL]
    rcases List.mem_cons.1 h with rfl | h
    · omega
    · have := ih h; omega
theorem depF_mem {l : List (Str × Val)} {p : Str × Val} (h : p ∈ l) : depV p.2 ≤ depF l := by
  induction l with
  | nil => cases h
  | cons a r ih =>
    obtain ⟨s, v⟩ := a
    cases v with
    | mk k n t l f =>
      simp only [depF]
      rcases List.mem_cons.1 h with rfl | h
      · simp only [depV]; omega
      · have := ih h; omega
theorem depV_eq (v : Val) : depV v = depL v.l + depF v.f + 1 := by
  cases v with
  | mk k n s l f => simp only [depV, Val.l, Val.f]
set_option maxHeartbeats 4000000 in
theorem u_weight1 (v : Val) (most : Int) (ih : ∀ w : Val, depV w < depV v → ∀ (m : AMem) (K : AV → AMem → Prop), K (.int .i64 (weightV most w)) m → ACalls Tryd.prog 29 [valTop w, .int .i64 most] m K) (m : AMem)  (K : AV → AMem → Prop) (hK : K (.int .i64 (weightV most v)) m) : ACalls Tryd.prog 29 [valTop v, .int .i64 most] m K := by
 refine enter (c := cf [32, 53, 62] [0] [3, 7] [] [] []) (vs := [.av (valTop v), .av (.int .i64 most)]) (L := []) (m := m) false tbOk Tryd.mixed Tryd.func29 rfl (k := 2) (by show fnOk [] _ _ _ = true; decide +kernel) rfl (Good.nil m) ?_
 refine ⟨fun F0 => ?_⟩
 have hbd0_2 : v.s.length ≤ 140737488355328 := (F0 0 2 (Nat.le_of_ble_eq_true rfl))
 have hbd0_3 : v.l.length ≤ 140737488355328 := bd_map (F0 0 3 (Nat.le_of_ble_eq_true rfl))
 have hbd0_4 : v.f.length ≤ 140737488355328 := bd_map (F0 0 4 (Nat.le_of_ble_eq_true rfl))
 refine an (by omega) ?_
 refine sq ?_
 refine lp (σ := Int × Int) [] [1, 2, 5, 6] 1 (fun ⟨n_, i⟩ => ([(1, vI most), (2, .loc 0 0), (5, vI n_), (6, vI i)], [.cells [vI v.kind, vI v.n, vS v.s, vL (v.l.map valIn), vL (v.f.map fldIn)]], m)) (fun ⟨n_, i⟩ => 0 ≤ i ∧ i ≤ v.l.length ∧ weightL most v.l (1 + v.s.length) = weightL most (v.l.drop i.toNat) n_) (fun ⟨n_, i⟩ => v.l.length - i.toNat) (1 + (v.s.length : Int), 0) ⟨rfl, rfl⟩ ?_ ?_
 · try dsimp only
   exact ⟨by omega, by omega, rfl⟩
 rintro ⟨n_, i⟩ hI
 dsimp only at hI
 refine sq ?_
 refine mg [1, 2, 5, 6] 21 ((decide (i < (v.l.length : Int))) && (decide (n_ ≤ most))) ?_ ?_
 · repeat' first
    | exact ⟨⟨_, rfl, by grind [SB.val]⟩, rfl⟩
    | refine an (fun _ => ?_) (fun _ => ?_)
    | refine ln ?_
 refine an (fun h1 => ?_) (fun h1 => ?_)
 · replace h1 : (i < (v.l.length : Int)) ∧ (n_ ≤ most) := ⟨(of_decide_eq_true (bandL h1)), (of_decide_eq_true (bandR h1))⟩
   refine sq ?_
   refine ixg valTop valIn_eq (by omega) ?_
   refine call0 (fun _ => ih (gI v.l i) (by have := depV_eq v; first | (have := depL_mem (gI_mem (l := v.l) (i := i) hI.1 h1.1); omega) | (have := depF_mem (gI_mem (l := v.f) (i := k) hI2.1 h2.1); omega))) rfl ?_
   refine an (by omega) ?_
   refine ⟨(IntKind.i64.wrap (n_ + (weightV most (gI v.l i))), i + 1), ⟨rfl, rfl⟩, ?_, ?_⟩
   · try dsimp only
     refine ⟨by omega, by omega, ?_⟩
     rw [hI.2.2, drop_gI hI.1 h1.1]
     simp only [weightL]
     rw [if_pos h1.2]
   try dsimp only
   omega
 replace h1 : ((v.l.length : Int) ≤ i) ∨ (most < n_) := ((bandF h1).imp (fun q => (Int.not_lt.1 (of_decide_eq_false q))) (fun q => (Int.not_le.1 (of_decide_eq_false q))))
 refine sq ?_
 refine lp (σ := Int × Int) [] [1, 2, 5, 7] 1 (fun ⟨n2, k⟩ => ([(1, vI most), (2, .loc 0 0), (5, vI n2), (7, vI k)], [.cells [vI v.kind, vI v.n, vS v.s, vL (v.l.map valIn), vL (v.f.map fldIn)]], m)) (fun ⟨n2, k⟩ => 0 ≤ k ∧ k ≤ v.f.length ∧ weightV most v = weightF most (v.f.drop k.toNat) n2) (fun ⟨n2, k⟩ => v.f.length - k.toNat) (n_, 0) ⟨rfl, rfl⟩ ?_ ?_
 · try dsimp only
   refine ⟨by omega, by omega, ?_⟩
   have e : weightL most (v.l.drop i.toNat) n_ = n_ := by
     by_cases hn : most < n_
     · exact weightL_stop _ _ _ hn
     · have hi : (v.l.length : Int) ≤ i := by
         rcases h1 with h | h <;> omega
       rw [List.drop_eq_nil_of_le (by omega)]; simp only [weightL]
   rw [weightV_eq, hI.2.2, e]; rfl
 rintro ⟨n2, k⟩ hI2
 dsimp only at hI2
 refine sq ?_
 refine mg [1, 2, 5, 7] 42 ((decide (k < (v.f.length : Int))) && (decide (n2 ≤ most))) ?_ ?_
 · repeat' first
    | exact ⟨⟨_, rfl, by grind [SB.val]⟩, rfl⟩
    | refine an (fun _ => ?_) (fun _ => ?_)
    | refine ln ?_
 refine an (fun h2 => ?_) (fun h2 => ?_)
 · replace h2 : (k < (v.f.length : Int)) ∧ (n2 ≤ most) := ⟨(of_decide_eq_true (bandL h2)), (of_decide_eq_true (bandR h2))⟩
   refine sq ?_
   refine ixg fldTop fldIn_eq (by omega) ?_
   refine ixg fldTop fldIn_eq (by omega) ?_
   refine pure0 (fun _ => ih ((gI v.f k).2) (by have := depV_eq v; first | (have := depL_mem (gI_mem (l := v.l) (i := i) hI.1 h1.1); omega) | (have := depF_mem (gI_mem (l := v.f) (i := k) hI2.1 h2.1); omega))) ?_
   refine an (by omega) ?_
   refine ⟨(IntKind.i64.wrap ((IntKind.i64.wrap (n2 + (((gI v.f k).1).length : Int))) + (weightV most ((gI v.f k).2))), k + 1), ⟨rfl, rfl⟩, ?_, ?_⟩
   · try dsimp only
     exact ⟨by omega, by omega, by rw [hI2.2.2, drop_gI hI2.1 h2.1, weightF_cons, if_pos h2.2]⟩
   try dsimp only
   omega
 replace h2 : ((v.f.length : Int) ≤ k) ∨ (most < n2) := ((bandF h2).imp (fun q => (Int.not_lt.1 (of_decide_eq_false q))) (fun q => (Int.not_le.1 (of_decide_eq_false q))))
 refine rt0 rfl fun _ => ?_
 show K (.int .i64 n2) m
 have e : weightV most v = n2 := by
   rw [hI2.2.2]
   by_cases hn : most < n2
   · exact weightF_stop _ _ _ hn
   · have hi : (v.f.length : Int) ≤ k := by
       rcases h2 with h | h <;> omega
     rw [List.drop_eq_nil_of_le (by omega)]; simp only [weightF]
 rw [e] at hK; exact hK
theorem u_weight (most : Int) : ∀ (n : Nat) (v : Val), depV v < n → ∀ (m : AMem) (K : AV → AMem → Prop), K (.int .i64 (weightV most v)) m → ACalls Tryd.prog 29 [valTop v, .int .i64 most] m K
  | 0, _, h => absurd h (Nat.not_lt_zero _)
  | n + 1, v, h => fun m K hK => u_weight1 v most (fun w hw => u_weight most n w (by omega)) m K hK
end Go.Proofs
end
section
namespace Go.Proofs
open Go Go.Aw Go.Sx
set_option maxRecDepth 100000
theorem depL_len (l : List Val) : l.length ≤ depL l := by
  induction l with
  | nil => exact Nat.le_refl _
  | cons v r ih => have := depV_eq v; simp only [depL, List.length_cons]; omega
theorem depF_len (l : List (Str × Val)) : l.length ≤ depF l := by
  induction l with
  | nil => exact Nat.le_refl _
  | cons p r ih =>
    obtain ⟨s, v⟩ := p
    cases v with
    | mk k n t l f => simp only [depF, List.length_cons]; omega
def letC (c : UInt8) : Bool := decide (97 ≤ (c.toNat : Int)) && decide ((c.toNat : Int) ≤ 122)
def digC (c : UInt8) : Bool := decide (48 ≤ (c.toNat : Int)) && decide ((c.toNat : Int) ≤ 57)
def nmF : Str → Bool → Bool
  | [], _ => true
  | c :: r, first => (letC c || (!first && digC c)) && nmF r false
def nameV (s : Str) : Bool := nmF s true && !(s == []) && decide ((s.length : Int) ≤ 12)
theorem nmF_step {s : Str} {i : Int} (h0 : 0 ≤ i) (hi : i < s.length) : nmF (s.drop i.toNat) (i == 0) = ((letC (gI s i) || (!(i == 0) && digC (gI s i))) && nmF (s.drop (i + 1).toNat) (i + 1 == 0)) := by
  have e : (i + 1 == 0) = false := by simp; omega
  rw [drop_gI h0 hi, nmF, e]
set_option maxHeartbeats 2000000 in
theorem u_VName (s : Str) (hs : s.length ≤ 140737488355328) (m : AMem)  (K : AV → AMem → Prop) (hK : K (.bool (nameV s)) m) : ACalls Tryd.prog 62 [.str s] m K := by
 refine enter (c := cf [] [] [5, 8] [] [] []) (vs := [.av (.str s)]) (L := []) (m := m) false tbOk Tryd.mixed Tryd.func62 rfl (k := 1) (by show fnOk [] _ _ _ = true; decide +kernel) rfl (Good.nil m) ?_
 refine sq ?_
 refine lp (σ := Int) [] [0, 6, 7] 0 (fun i => ([(0, vS s), (6, vI (s.length : Int)), (7, vI i)], [], m)) (fun i => 0 ≤ i ∧ i ≤ s.length ∧ nmF s true = nmF (s.drop i.toNat) (i == 0)) (fun i => s.length - i.toNat) (0) ⟨rfl, rfl⟩ ?_ ?_
 · try dsimp only
   exact ⟨by omega, by omega, by simp⟩
 rintro i hI
 refine sq ?_
 refine an (fun h1 => ?_) (fun h1 => ?_)
 · refine sq ?_
   refine an (by omega) ?_
   refine mg [0, 6, 7] 30 (((decide (((gI s i).toNat : Int) < 97)) || (decide (122 < ((gI s i).toNat : Int)))) && (((i == 0) || (decide (((gI s i).toNat : Int) < 48))) || (decide (57 < ((gI s i).toNat : Int))))) ?_ ?_
   · repeat' first
      | exact ⟨⟨_, rfl, by grind [SB.val]⟩, rfl⟩
      | refine an (fun _ => ?_) (fun _ => ?_)
   refine an (fun h2 => ?_) (fun h2 => ?_)
   · replace h2 : ((((gI s i).toNat : Int) < 97) ∨ (122 < ((gI s i).toNat : Int))) ∧ (((i = 0) ∨ (((gI s i).toNat : Int) < 48)) ∨ (57 < ((gI s i).toNat : Int))) := ⟨((borT (bandL h2)).imp (fun q => (of_decide_eq_true q)) (fun q => (of_decide_eq_true q))), ((borT (bandR h2)).imp (fun q => ((borT q).imp (fun q => (eq_of_beq q)) (fun q => (of_decide_eq_true q)))) (fun q => (of_decide_eq_true q)))⟩
     refine rt0 rfl fun _ => K_eq hK ?_
     show AV.bool (nameV s) = AV.bool false
     refine congrArg AV.bool ?_
     have hb : (letC (gI s i) || (!(i == 0) && digC (gI s i))) = false := by
       rw [Bool.eq_false_iff]; intro hh; simp [letC, digC] at hh; omega
     rw [nameV, hI.2.2, nmF_step hI.1 h1, hb]; rfl
   replace h2 : ((97 ≤ ((gI s i).toNat : Int)) ∧ (((gI s i).toNat : Int) ≤ 122)) ∨ (((i ≠ 0) ∧ (48 ≤ ((gI s i).toNat : Int))) ∧ (((gI s i).toNat : Int) ≤ 57)) := ((bandF h2).imp (fun q => ⟨(Int.not_lt.1 (of_decide_eq_false (borL q))), (Int.not_lt.1 (of_decide_eq_false (borR q)))⟩) (fun q => ⟨⟨(ne_of_beq_false (borL (borL q))), (Int.not_lt.1 (of_decide_eq_false (borR (borL q))))⟩, (Int.not_lt.1 (of_decide_eq_false (borR q)))⟩))
   refine an (by omega) ?_
   refine ⟨(i + 1), ⟨rfl, rfl⟩, ?_, ?_⟩
   · try dsimp only
     have hb : (letC (gI s i) || (!(i == 0) && digC (gI s i))) = true := by simp [letC, digC]; omega
     exact ⟨by omega, by omega, by rw [hI.2.2, nmF_step hI.1 h1, hb]; rfl⟩
   try dsimp only
   omega
 refine mg [] 2 ((!(s == ([]))) && (decide ((s.length : Int) ≤ 12))) ?_ ?_
 · repeat' first
    | exact ⟨⟨_, rfl, by grind [SB.val]⟩, rfl⟩
    | refine an (fun _ => ?_) (fun _ => ?_)
 refine rt0 rfl fun _ => K_eq hK ?_
 show AV.bool (nameV s) = AV.bool ((!(s == ([]))) && (decide ((s.length : Int) ≤ 12)))
 refine congrArg AV.bool ?_
 have ha : nmF s true = true := by rw [hI.2.2, List.drop_eq_nil_of_le (by omega)]; rfl
 rw [nameV, ha]; cases s <;> simp
mutual
def okV : Val → Prop
  | .mk _ _ _ l f => (l.length ≤ 1759218604441 ∧ f.length ≤ 1466015503701) ∧ okVL l ∧ okVF f
def okVL : List Val → Prop
  | [] => True
  | v :: r => okV v ∧ okVL r
def okVF : List (Str × Val) → Prop
  | [] => True
  | (_, .mk _ _ _ l f) :: r => ((l.length ≤ 1759218604441 ∧ f.length ≤ 1466015503701) ∧ okVL l ∧ okVF f) ∧ okVF r
end
theorem okV_eq (v : Val) : okV v ↔ (v.l.length ≤ 1759218604441 ∧ v.f.length ≤ 1466015503701) ∧ okVL v.l ∧ okVF v.f := by
  cases v with
  | mk k n s l f => simp only [okV, Val.l, Val.f]
theorem okVL_iff (l : List Val) : okVL l ↔ ∀ v ∈ l, okV v := by
  induction l with
  | nil => simp [okVL]
  | cons v r ih => simp [okVL, ih]
theorem okVF_iff (l : List (Str × Val)) : okVF l ↔ ∀ p ∈ l, okV p.2 := by
  induction l with
  | nil => simp [okVF]
  | cons p r ih =>
    obtain ⟨s, v⟩ := p
    cases v with
    | mk k n t l f => simp [okVF, okV, ih]
theorem okV_iff (v : Val) : okV v ↔ (v.l.length ≤ 1759218604441 ∧ v.f.length ≤ 1466015503701) ∧ (∀ w ∈ v.l, okV w) ∧ ∀ p ∈ v.f, okV p.2 := by
  rw [okV_eq, okVL_iff, okVF_iff]
theorem okV_small : ∀ (n : Nat) (v : Val), depV v < n → depV v ≤ 1000000000 → okV v
  | 0, _, h, _ => absurd h (Nat.not_lt_zero _)
  | n + 1, v, h, hz => by
    have e := depV_eq v
    have h1 := depL_len v.l
    have h2 := depF_len v.f
    rw [okV_iff]
    exact ⟨⟨by omega, by omega⟩, fun w hw => okV_small n w (by have := depL_mem hw; omega) (by have := depL_mem hw; omega), fun p hp => okV_small n p.2 (by have := depF_mem hp; omega) (by have := depF_mem hp; omega)⟩
end Go.Proofs
end
section
namespace Go.Proofs
open Go Go.Aw Go.Sx
set_option maxRecDepth 100000
set_option maxHeartbeats 4000000 in
theorem u_Copy1 (v : Val) (hz : okV v) (ih : ∀ w : Val, depV w < depV v → okV w → ∀ (m : AMem) (K : AV → AMem → Prop), K (valTop w) m → ACalls Tryd.prog 49 [valTop w] m K) (m : AMem)  (K : AV → AMem → Prop) (hK : K (valTop v) m) : ACalls Tryd.prog 49 [valTop v] m K := by
 have hok := (okV_iff v).1 hz
 have hl1 := hok.1.1
 have hf1 := hok.1.2
 refine enter (c := cf [] [] [] [6999, 11999] [6, 11] []) (vs := [.av (valTop v)]) (L := []) (m := m) false tbOk Tryd.mixed Tryd.func49 rfl (k := 1) (by show fnOk [6999, 11999] _ _ _ = true; decide +kernel) rfl (Good.nil m) ?_
 refine sq ?_
 refine ln ?_
 refine lp (σ := Int × (List Val)) [] [1, 2, 4, 15, 16, 17] 2 (fun ⟨i, ol⟩ => ([(1, .loc 0 0), (2, .loc 1 0), (4, vL (v.f.map fldIn)), (15, vL (v.l.map valIn)), (16, vI (v.l.length : Int)), (17, vI i)], [.cells [vI v.kind, vI v.n, vS v.s, .own (ol.map valIn), .own []], .cells [vI 0, vI 0, vS ([]), .own [], .own []]], m)) (fun ⟨i, ol⟩ => 0 ≤ i ∧ i ≤ v.l.length ∧ ol = v.l.take i.toNat) (fun ⟨i, ol⟩ => v.l.length - i.toNat) (0, []) ⟨rfl, rfl⟩ ?_ ?_
 · try dsimp only
   exact ⟨by omega, by omega, rfl⟩
 rintro ⟨i, ol⟩ hI
 dsimp only at hI
 have hol : ol.length ≤ v.l.length := by rw [hI.2.2, List.length_take]; omega
 have hol2 : (ol.length : Int) ≤ i := by rw [hI.2.2, List.length_take]; omega
 refine sq ?_
 refine an (fun h1 => ?_) (fun h1 => ?_)
 · refine sq ?_
   refine ixg valTop valIn_eq (by omega) ?_
   refine rgA tbOk Tryd.mixed (σ := Unit) (.f 0 (.o 1 (.s 2 (.s 3 (.s 4 (.s 5 (.f 6 (.s 7 .d)))))) (.o 2 (.o 1 (.s 3 (.s 4 (.s 5 (.f 6 (.s 7 .d))))) (.o 3 (.o 1 (.s 4 (.s 5 (.f 6 (.s 7 .d)))) (.o 4 (.s 1 (.s 5 (.f 6 (.s 7 .d)))) .z)) .z)) .z))) [] [1, 2, 4, 15, 16, 17] 3 (fun _ => ([(1, .loc 0 0), (2, .loc 1 0), (4, vL (v.f.map fldIn)), (15, vL (v.l.map valIn)), (16, vI (v.l.length : Int)), (17, vI i)], [.cells [vI v.kind, vI v.n, vS v.s, .own ((ol ++ ([(gI v.l i)] : List Val)).map valIn), .own []], .cells [vI 0, vI 0, vS ([]), .own [], .own []], .cells [vI ((gI v.l i).kind), vI ((gI v.l i).n), vS ((gI v.l i).s), vL (((gI v.l i).l).map valIn), vL (((gI v.l i).f).map fldIn)]], m)) (fun _ => True) (by decide +kernel) ?_ ?_
   · rintro _ hy6
     try dsimp only at hy6
     refine an (by omega) ?_
     refine ⟨(i + 1, ol ++ ([(gI v.l i)] : List Val)), ⟨rfl, rfl⟩, ?_, ?_⟩
     · try dsimp only
       exact ⟨by omega, by omega, by rw [take_succ_gI hI.1 (by assumption), ← hI.2.2]⟩
     try dsimp only
     omega
   refine ⟨?_, ?_, trivial⟩
   · refine call0 (fun _ => ih (gI v.l i) (by have := depV_eq v; first | (have := depL_mem (gI_mem (l := v.l) (i := i) hI.1 (by assumption)); omega) | (have := depF_mem (gI_mem (l := v.f) (i := k) hI2.1 (by assumption)); omega)) (by first | exact hok.2.1 _ (gI_mem (l := v.l) (i := i) hI.1 (by assumption)) | exact hok.2.2 _ (gI_mem (l := v.f) (i := k) hI2.1 (by assumption)))) rfl ?_
     refine ap valIn ol ([(gI v.l i)] : List Val) rfl (by simp only [List.map_cons, List.map_nil, valIn_eq]; try rfl) (fun a => by rw [valIn_eq]; exact ⟨rfl, rfl⟩) (by (simp only [List.length_append, List.length_cons, List.length_nil]; omega)) ?_
     refine ⟨(), ⟨rfl, rfl⟩, ?_⟩
     trivial
   · refine ⟨?_, ?_, trivial⟩
     · refine call0 (fun _ => ih (gI v.l i) (by have := depV_eq v; first | (have := depL_mem (gI_mem (l := v.l) (i := i) hI.1 (by assumption)); omega) | (have := depF_mem (gI_mem (l := v.f) (i := k) hI2.1 (by assumption)); omega)) (by first | exact hok.2.1 _ (gI_mem (l := v.l) (i := i) hI.1 (by assumption)) | exact hok.2.2 _ (gI_mem (l := v.f) (i := k) hI2.1 (by assumption)))) rfl ?_
       refine ap valIn ol ([(gI v.l i)] : List Val) rfl (by simp only [List.map_cons, List.map_nil, valIn_eq]; try rfl) (fun a => by rw [valIn_eq]; exact ⟨rfl, rfl⟩) (by (simp only [List.length_append, List.length_cons, List.length_nil]; omega)) ?_
       refine ⟨(), ⟨rfl, rfl⟩, ?_⟩
       trivial
     · refine call0 (fun _ => ih (gI v.l i) (by have := depV_eq v; first | (have := depL_mem (gI_mem (l := v.l) (i := i) hI.1 (by assumption)); omega) | (have := depF_mem (gI_mem (l := v.f) (i := k) hI2.1 (by assumption)); omega)) (by first | exact hok.2.1 _ (gI_mem (l := v.l) (i := i) hI.1 (by assumption)) | exact hok.2.2 _ (gI_mem (l := v.f) (i := k) hI2.1 (by assumption)))) rfl ?_
       refine ⟨?_, ?_, trivial⟩
       · refine ap valIn ol ([(gI v.l i)] : List Val) rfl (by simp only [List.map_cons, List.map_nil, valIn_eq]; try rfl) (fun a => by rw [valIn_eq]; exact ⟨rfl, rfl⟩) (by (simp only [List.length_append, List.length_cons, List.length_nil]; omega)) ?_
         refine ⟨(), ⟨rfl, rfl⟩, ?_⟩
         trivial
       · refine ap valIn ol ([(gI v.l i)] : List Val) rfl (by simp only [List.map_cons, List.map_nil, valIn_eq]; try rfl) (fun a => by rw [valIn_eq]; exact ⟨rfl, rfl⟩) (by (simp only [List.length_append, List.length_cons, List.length_nil]; omega)) ?_
         refine ⟨(), ⟨rfl, rfl⟩, ?_⟩
         trivial
 refine sq ?_
 refine ln ?_
 refine lp (σ := Int × (List (Str × Val))) [] [1, 2, 29, 30, 31] 2 (fun ⟨k, of⟩ => ([(1, .loc 0 0), (2, .loc 1 0), (29, vL (v.f.map fldIn)), (30, vI (v.f.length : Int)), (31, vI k)], [.cells [vI v.kind, vI v.n, vS v.s, .own (ol.map valIn), .own (of.map fldIn)], .cells [vI 0, vI 0, vS ([]), .own [], .own []]], m)) (fun ⟨k, of⟩ => 0 ≤ k ∧ k ≤ v.f.length ∧ of = v.f.take k.toNat) (fun ⟨k, of⟩ => v.f.length - k.toNat) (0, []) ⟨rfl, rfl⟩ ?_ ?_
 · try dsimp only
   exact ⟨by omega, by omega, rfl⟩
 rintro ⟨k, of⟩ hI2
 dsimp only at hI2
 have hof : of.length ≤ v.f.length := by rw [hI2.2.2, List.length_take]; omega
 have hof2 : (of.length : Int) ≤ k := by rw [hI2.2.2, List.length_take]; omega
 refine sq ?_
 refine an (fun h2 => ?_) (fun h2 => ?_)
 · refine sq ?_
   refine ixg fldTop fldIn_eq (by omega) ?_
   refine rgA tbOk Tryd.mixed (σ := Unit) (.f 0 (.f 2 (.f 4 (.o 1 (.o 3 (.s 5 (.s 6 (.s 7 (.s 8 (.s 9 (.f 10 (.s 11 .d))))))) (.o 5 (.o 3 (.s 6 (.s 7 (.s 8 (.s 9 (.f 10 (.s 11 .d)))))) (.o 6 (.s 3 (.s 7 (.s 8 (.s 9 (.f 10 (.s 11 .d)))))) .z)) .z)) (.o 3 (.o 1 (.s 5 (.s 6 (.s 7 (.s 8 (.s 9 (.f 10 (.s 11 .d))))))) (.o 5 (.o 1 (.s 6 (.s 7 (.s 8 (.s 9 (.f 10 (.s 11 .d)))))) (.o 6 (.o 1 (.s 7 (.s 8 (.s 9 (.f 10 (.s 11 .d))))) (.o 7 (.o 1 (.s 8 (.s 9 (.f 10 (.s 11 .d)))) (.o 8 (.s 1 (.s 9 (.f 10 (.s 11 .d)))) .z)) .z)) .z)) .z)) (.o 5 (.o 1 (.o 3 (.s 6 (.s 7 (.s 8 (.s 9 (.f 10 (.s 11 .d)))))) (.o 6 (.s 3 (.s 7 (.s 8 (.s 9 (.f 10 (.s 11 .d)))))) .z)) (.o 3 (.o 1 (.s 6 (.s 7 (.s 8 (.s 9 (.f 10 (.s 11 .d)))))) (.o 6 (.o 1 (.s 7 (.s 8 (.s 9 (.f 10 (.s 11 .d))))) (.o 7 (.o 1 (.s 8 (.s 9 (.f 10 (.s 11 .d)))) (.o 8 (.s 1 (.s 9 (.f 10 (.s 11 .d)))) .z)) .z)) .z)) (.o 6 (.o 1 (.s 3 (.s 7 (.s 8 (.s 9 (.f 10 (.s 11 .d)))))) (.o 3 (.o 1 (.s 7 (.s 8 (.s 9 (.f 10 (.s 11 .d))))) (.o 7 (.o 1 (.s 8 (.s 9 (.f 10 (.s 11 .d)))) (.o 8 (.s 1 (.s 9 (.f 10 (.s 11 .d)))) .z)) .z)) .z)) .z))) .z)))))) [] [1, 2, 29, 30, 31] 3 (fun _ => ([(1, .loc 0 0), (2, .loc 1 0), (29, vL (v.f.map fldIn)), (30, vI (v.f.length : Int)), (31, vI k)], [.cells [vI v.kind, vI v.n, vS v.s, .own (ol.map valIn), .own ((of ++ ([(gI v.f k)] : List (Str × Val))).map fldIn)], .cells [vI 0, vI 0, vS ([]), .own [], .own []], .cells [vS ((gI v.f k).1), vI (((gI v.f k).2).kind), vI (((gI v.f k).2).n), vS (((gI v.f k).2).s), vL ((((gI v.f k).2).l).map valIn), vL ((((gI v.f k).2).f).map fldIn)]], m)) (fun _ => True) (by decide +kernel) ?_ ?_
   · rintro _ hy11
     try dsimp only at hy11
     refine an (by omega) ?_
     refine ⟨(k + 1, of ++ ([(gI v.f k)] : List (Str × Val))), ⟨rfl, rfl⟩, ?_, ?_⟩
     · try dsimp only
       exact ⟨by omega, by omega, by rw [take_succ_gI hI2.1 (by assumption), ← hI2.2.2]⟩
     try dsimp only
     omega
   refine ⟨?_, ?_, ?_, trivial⟩
   · refine ⟨?_, ?_, trivial⟩
     · refine call0 (fun _ => ih ((gI v.f k).2) (by have := depV_eq v; first | (have := depL_mem (gI_mem (l := v.l) (i := i) hI.1 (by assumption)); omega) | (have := depF_mem (gI_mem (l := v.f) (i := k) hI2.1 (by assumption)); omega)) (by first | exact hok.2.1 _ (gI_mem (l := v.l) (i := i) hI.1 (by assumption)) | exact hok.2.2 _ (gI_mem (l := v.f) (i := k) hI2.1 (by assumption)))) rfl ?_
       refine ap fldIn of ([(gI v.f k)] : List (Str × Val)) rfl (by simp only [List.map_cons, List.map_nil, fldIn_eq]; try rfl) (fun a => by rw [fldIn_eq]; exact ⟨rfl, rfl⟩) (by (simp only [List.length_append, List.length_cons, List.length_nil]; omega)) ?_
       refine ⟨(), ⟨rfl, rfl⟩, ?_⟩
       trivial
     · refine ⟨?_, ?_, trivial⟩
       · refine call0 (fun _ => ih ((gI v.f k).2) (by have := depV_eq v; first | (have := depL_mem (gI_mem (l := v.l) (i := i) hI.1 (by assumption)); omega) | (have := depF_mem (gI_mem (l := v.f) (i := k) hI2.1 (by assumption)); omega)) (by first | exact hok.2.1 _ (gI_mem (l := v.l) (i := i) hI.1 (by assumption)) | exact hok.2.2 _ (gI_mem (l := v.f) (i := k) hI2.1 (by assumption)))) rfl ?_
         refine ap fldIn of ([(gI v.f k)] : List (Str × Val)) rfl (by simp only [List.map_cons, List.map_nil, fldIn_eq]; try rfl) (fun a => by rw [fldIn_eq]; exact ⟨rfl, rfl⟩) (by (simp only [List.length_append, List.length_cons, List.length_nil]; omega)) ?_
         refine ⟨(), ⟨rfl, rfl⟩, ?_⟩
         trivial
       · refine call0 (fun _ => ih ((gI v.f k).2) (by have := depV_eq v; first | (have := depL_mem (gI_mem (l := v.l) (i := i) hI.1 (by assumption)); omega) | (have := depF_mem (gI_mem (l := v.f) (i := k) hI2.1 (by assumption)); omega)) (by first | exact hok.2.1 _ (gI_mem (l := v.l) (i := i) hI.1 (by assumption)) | exact hok.2.2 _ (gI_mem (l := v.f) (i := k) hI2.1 (by assumption)))) rfl ?_
         refine ap fldIn of ([(gI v.f k)] : List (Str × Val)) rfl (by simp only [List.map_cons, List.map_nil, fldIn_eq]; try rfl) (fun a => by rw [fldIn_eq]; exact ⟨rfl, rfl⟩) (by (simp only [List.length_append, List.length_cons, List.length_nil]; omega)) ?_
         refine ⟨(), ⟨rfl, rfl⟩, ?_⟩
         trivial
   · refine ⟨?_, ?_, trivial⟩
     · refine call0 (fun _ => ih ((gI v.f k).2) (by have := depV_eq v; first | (have := depL_mem (gI_mem (l := v.l) (i := i) hI.1 (by assumption)); omega) | (have := depF_mem (gI_mem (l := v.f) (i := k) hI2.1 (by assumption)); omega)) (by first | exact hok.2.1 _ (gI_mem (l := v.l) (i := i) hI.1 (by assumption)) | exact hok.2.2 _ (gI_mem (l := v.f) (i := k) hI2.1 (by assumption)))) rfl ?_
       refine ap fldIn of ([(gI v.f k)] : List (Str × Val)) rfl (by simp only [List.map_cons, List.map_nil, fldIn_eq]; try rfl) (fun a => by rw [fldIn_eq]; exact ⟨rfl, rfl⟩) (by (simp only [List.length_append, List.length_cons, List.length_nil]; omega)) ?_
       refine ⟨(), ⟨rfl, rfl⟩, ?_⟩
       trivial
     · refine ⟨?_, ?_, trivial⟩
       · refine call0 (fun _ => ih ((gI v.f k).2) (by have := depV_eq v; first | (have := depL_mem (gI_mem (l := v.l) (i := i) hI.1 (by assumption)); omega) | (have := depF_mem (gI_mem (l := v.f) (i := k) hI2.1 (by assumption)); omega)) (by first | exact hok.2.1 _ (gI_mem (l := v.l) (i := i) hI.1 (by assumption)) | exact hok.2.2 _ (gI_mem (l := v.f) (i := k) hI2.1 (by assumption)))) rfl ?_
         refine ap fldIn of ([(gI v.f k)] : List (Str × Val)) rfl (by simp only [List.map_cons, List.map_nil, fldIn_eq]; try rfl) (fun a => by rw [fldIn_eq]; exact ⟨rfl, rfl⟩) (by (simp only [List.length_append, List.length_cons, List.length_nil]; omega)) ?_
         refine ⟨(), ⟨rfl, rfl⟩, ?_⟩
         trivial
       · refine call0 (fun _ => ih ((gI v.f k).2) (by have := depV_eq v; first | (have := depL_mem (gI_mem (l := v.l) (i := i) hI.1 (by assumption)); omega) | (have := depF_mem (gI_mem (l := v.f) (i := k) hI2.1 (by assumption)); omega)) (by first | exact hok.2.1 _ (gI_mem (l := v.l) (i := i) hI.1 (by assumption)) | exact hok.2.2 _ (gI_mem (l := v.f) (i := k) hI2.1 (by assumption)))) rfl ?_
         refine ⟨?_, ?_, trivial⟩
         · refine ap fldIn of ([(gI v.f k)] : List (Str × Val)) rfl (by simp only [List.map_cons, List.map_nil, fldIn_eq]; try rfl) (fun a => by rw [fldIn_eq]; exact ⟨rfl, rfl⟩) (by (simp only [List.length_append, List.length_cons, List.length_nil]; omega)) ?_
           refine ⟨(), ⟨rfl, rfl⟩, ?_⟩
           trivial
         · refine ⟨?_, ?_, trivial⟩
           · refine ap fldIn of ([(gI v.f k)] : List (Str × Val)) rfl (by simp only [List.map_cons, List.map_nil, fldIn_eq]; try rfl) (fun a => by rw [fldIn_eq]; exact ⟨rfl, rfl⟩) (by (simp only [List.length_append, List.length_cons, List.length_nil]; omega)) ?_
             refine ⟨(), ⟨rfl, rfl⟩, ?_⟩
             trivial
           · refine ap fldIn of ([(gI v.f k)] : List (Str × Val)) rfl (by simp only [List.map_cons, List.map_nil, fldIn_eq]; try rfl) (fun a => by rw [fldIn_eq]; exact ⟨rfl, rfl⟩) (by (simp only [List.length_append, List.length_cons, List.length_nil]; omega)) ?_
             refine ⟨(), ⟨rfl, rfl⟩, ?_⟩
             trivial
   · refine ⟨?_, ?_, ?_, trivial⟩
     · refine ⟨?_, ?_, trivial⟩
       · refine call0 (fun _ => ih ((gI v.f k).2) (by have := depV_eq v; first | (have := depL_mem (gI_mem (l := v.l) (i := i) hI.1 (by assumption)); omega) | (have := depF_mem (gI_mem (l := v.f) (i := k) hI2.1 (by assumption)); omega)) (by first | exact hok.2.1 _ (gI_mem (l := v.l) (i := i) hI.1 (by assumption)) | exact hok.2.2 _ (gI_mem (l := v.f) (i := k) hI2.1 (by assumption)))) rfl ?_
         refine ap fldIn of ([(gI v.f k)] : List (Str × Val)) rfl (by simp only [List.map_cons, List.map_nil, fldIn_eq]; try rfl) (fun a => by rw [fldIn_eq]; exact ⟨rfl, rfl⟩) (by (simp only [List.length_append, List.length_cons, List.length_nil]; omega)) ?_
         refine ⟨(), ⟨rfl, rfl⟩, ?_⟩
         trivial
       · refine call0 (fun _ => ih ((gI v.f k).2) (by have := depV_eq v; first | (have := depL_mem (gI_mem (l := v.l) (i := i) hI.1 (by assumption)); omega) | (have := depF_mem (gI_mem (l := v.f) (i := k) hI2.1 (by assumption)); omega)) (by first | exact hok.2.1 _ (gI_mem (l := v.l) (i := i) hI.1 (by assumption)) | exact hok.2.2 _ (gI_mem (l := v.f) (i := k) hI2.1 (by assumption)))) rfl ?_
         refine ap fldIn of ([(gI v.f k)] : List (Str × Val)) rfl (by simp only [List.map_cons, List.map_nil, fldIn_eq]; try rfl) (fun a => by rw [fldIn_eq]; exact ⟨rfl, rfl⟩) (by (simp only [List.length_append, List.length_cons, List.length_nil]; omega)) ?_
         refine ⟨(), ⟨rfl, rfl⟩, ?_⟩
         trivial
     · refine ⟨?_, ?_, trivial⟩
       · refine call0 (fun _ => ih ((gI v.f k).2) (by have := depV_eq v; first | (have := depL_mem (gI_mem (l := v.l) (i := i) hI.1 (by assumption)); omega) | (have := depF_mem (gI_mem (l := v.f) (i := k) hI2.1 (by assumption)); omega)) (by first | exact hok.2.1 _ (gI_mem (l := v.l) (i := i) hI.1 (by assumption)) | exact hok.2.2 _ (gI_mem (l := v.f) (i := k) hI2.1 (by assumption)))) rfl ?_
         refine ap fldIn of ([(gI v.f k)] : List (Str × Val)) rfl (by simp only [List.map_cons, List.map_nil, fldIn_eq]; try rfl) (fun a => by rw [fldIn_eq]; exact ⟨rfl, rfl⟩) (by (simp only [List.length_append, List.length_cons, List.length_nil]; omega)) ?_
         refine ⟨(), ⟨rfl, rfl⟩, ?_⟩
         trivial
       · refine call0 (fun _ => ih ((gI v.f k).2) (by have := depV_eq v; first | (have := depL_mem (gI_mem (l := v.l) (i := i) hI.1 (by assumption)); omega) | (have := depF_mem (gI_mem (l := v.f) (i := k) hI2.1 (by assumption)); omega)) (by first | exact hok.2.1 _ (gI_mem (l := v.l) (i := i) hI.1 (by assumption)) | exact hok.2.2 _ (gI_mem (l := v.f) (i := k) hI2.1 (by assumption)))) rfl ?_
         refine ⟨?_, ?_, trivial⟩
         · refine ap fldIn of ([(gI v.f k)] : List (Str × Val)) rfl (by simp only [List.map_cons, List.map_nil, fldIn_eq]; try rfl) (fun a => by rw [fldIn_eq]; exact ⟨rfl, rfl⟩) (by (simp only [List.length_append, List.length_cons, List.length_nil]; omega)) ?_
           refine ⟨(), ⟨rfl, rfl⟩, ?_⟩
           trivial
         · refine ⟨?_, ?_, trivial⟩
           · refine ap fldIn of ([(gI v.f k)] : List (Str × Val)) rfl (by simp only [List.map_cons, List.map_nil, fldIn_eq]; try rfl) (fun a => by rw [fldIn_eq]; exact ⟨rfl, rfl⟩) (by (simp only [List.length_append, List.length_cons, List.length_nil]; omega)) ?_
             refine ⟨(), ⟨rfl, rfl⟩, ?_⟩
             trivial
           · refine ap fldIn of ([(gI v.f k)] : List (Str × Val)) rfl (by simp only [List.map_cons, List.map_nil, fldIn_eq]; try rfl) (fun a => by rw [fldIn_eq]; exact ⟨rfl, rfl⟩) (by (simp only [List.length_append, List.length_cons, List.length_nil]; omega)) ?_
             refine ⟨(), ⟨rfl, rfl⟩, ?_⟩
             trivial
     · refine call0 (fun _ => ih ((gI v.f k).2) (by have := depV_eq v; first | (have := depL_mem (gI_mem (l := v.l) (i := i) hI.1 (by assumption)); omega) | (have := depF_mem (gI_mem (l := v.f) (i := k) hI2.1 (by assumption)); omega)) (by first | exact hok.2.1 _ (gI_mem (l := v.l) (i := i) hI.1 (by assumption)) | exact hok.2.2 _ (gI_mem (l := v.f) (i := k) hI2.1 (by assumption)))) rfl ?_
       refine ⟨?_, ?_, trivial⟩
       · refine ap fldIn of ([(gI v.f k)] : List (Str × Val)) rfl (by simp only [List.map_cons, List.map_nil, fldIn_eq]; try rfl) (fun a => by rw [fldIn_eq]; exact ⟨rfl, rfl⟩) (by (simp only [List.length_append, List.length_cons, List.length_nil]; omega)) ?_
         refine ⟨(), ⟨rfl, rfl⟩, ?_⟩
         trivial
       · refine ⟨?_, ?_, trivial⟩
         · refine ap fldIn of ([(gI v.f k)] : List (Str × Val)) rfl (by simp only [List.map_cons, List.map_nil, fldIn_eq]; try rfl) (fun a => by rw [fldIn_eq]; exact ⟨rfl, rfl⟩) (by (simp only [List.length_append, List.length_cons, List.length_nil]; omega)) ?_
           refine ⟨(), ⟨rfl, rfl⟩, ?_⟩
           trivial
         · refine ⟨?_, ?_, trivial⟩
           · refine ap fldIn of ([(gI v.f k)] : List (Str × Val)) rfl (by simp only [List.map_cons, List.map_nil, fldIn_eq]; try rfl) (fun a => by rw [fldIn_eq]; exact ⟨rfl, rfl⟩) (by (simp only [List.length_append, List.length_cons, List.length_nil]; omega)) ?_
             refine ⟨(), ⟨rfl, rfl⟩, ?_⟩
             trivial
           · refine ap fldIn of ([(gI v.f k)] : List (Str × Val)) rfl (by simp only [List.map_cons, List.map_nil, fldIn_eq]; try rfl) (fun a => by rw [fldIn_eq]; exact ⟨rfl, rfl⟩) (by (simp only [List.length_append, List.length_cons, List.length_nil]; omega)) ?_
             refine ⟨(), ⟨rfl, rfl⟩, ?_⟩
             trivial
 refine rt0 rfl fun _ => ?_
 show K (.agg [.int .i64 v.kind, .int .i64 v.n, .str v.s, .slice false (ol.map valIn), .slice false (of.map fldIn)]) m
 have q1 : ol = v.l := by have := hI.2.2; rwa [take_full (by omega)] at this
 have q2 : of = v.f := by have := hI2.2.2; rwa [take_full (by omega)] at this
 rw [q1, q2]
 exact hK
theorem u_Copy2 : ∀ (n : Nat) (v : Val), depV v < n → okV v → ∀ (m : AMem) (K : AV → AMem → Prop), K (valTop v) m → ACalls Tryd.prog 49 [valTop v] m K
  | 0, _, h, _ => absurd h (Nat.not_lt_zero _)
  | n + 1, v, h, hz => fun m K hK => u_Copy1 v hz (fun w hw hw2 => u_Copy2 n w (by omega) hw2) m K hK
theorem u_Copy (v : Val) (hz : okV v) (m : AMem) (K : AV → AMem → Prop) (hK : K (valTop v) m) : ACalls Tryd.prog 49 [valTop v] m K := u_Copy2 (depV v + 1) v (Nat.lt_succ_self _) hz m K hK
end Go.Proofs
end
section
namespace Go.Proofs
open Go Go.Aw Go.Sx
set_option maxRecDepth 100000
def zV : Val := .mk 0 0 [] [] []
theorem Val.ext' {a b : Val} (h1 : a.kind = b.kind) (h2 : a.n = b.n) (h3 : a.s = b.s) (h4 : a.l = b.l) (h5 : a.f = b.f) : a = b := by
  cases a; cases b; simp only [Val.kind, Val.n, Val.s, Val.l, Val.f] at h1 h2 h3 h4 h5; subst h1 h2 h3 h4 h5; rfl
noncomputable def vEq (a b : Val) : Bool := @decide (a = b) (Classical.propDecidable _)
theorem vEq_true {a b : Val} (h : a = b) : vEq a b = true := by simp [vEq, h]
theorem vEq_false {a b : Val} (h : a ≠ b) : vEq a b = false := by simp [vEq, h]
theorem vEq_iff {a b : Val} : vEq a b = true ↔ a = b := by simp [vEq]
def cntL {α : Type} (g : α → Int → Bool × Int) : List α → Int → Bool × Int
  | [], n => (true, n)
  | x :: r, n => if (g x n).1 = true then cntL g r (g x n).2 else (false, (g x n).2)
def cntF : Nat → Int → Val → Int → Bool × Int
  | 0, _, _, n => (false, n)
  | k + 1, deep, v, n =>
    if 6 < deep ∨ n - 1 < 0 then (false, n - 1)
    else if (cntL (cntF k (deep + 1)) v.l (n - 1)).1 = false then (false, (cntL (cntF k (deep + 1)) v.l (n - 1)).2)
    else cntL (fun p => cntF k (deep + 1) p.2) v.f (cntL (cntF k (deep + 1)) v.l (n - 1)).2
def sumN {α : Type} (g : α → Nat) : List α → Nat
  | [] => 0
  | x :: r => g x + sumN g r
theorem sumN_l (l : List Val) : sumN depV l = depL l := by
  induction l with
  | nil => rfl
  | cons v r ih => simp only [sumN, depL, ih]
theorem sumN_f (l : List (Str × Val)) : sumN (fun p => depV p.2) l = depF l := by
  induction l with
  | nil => rfl
  | cons p r ih =>
    obtain ⟨s, v⟩ := p
    cases v with
    | mk k n t l f => simp only [sumN, depF, ih, depV]
theorem cntL_ok {α : Type} {g : α → Int → Bool × Int} {d : α → Nat} (hg : ∀ x n, 0 ≤ n → (g x n).1 = true → 0 ≤ (g x n).2 ∧ (g x n).2 + d x = n) : ∀ (l : List α) (n : Int), 0 ≤ n → (cntL g l n).1 = true → 0 ≤ (cntL g l n).2 ∧ (cntL g l n).2 + sumN d l = n
  | [], n, h0, _ => by simp [cntL, sumN, h0]
  | x :: r, n, h0, h => by
    rw [cntL] at h ⊢
    split at h
    · rename_i h1
      have h2 := hg x n h0 h1
      have h3 := cntL_ok hg r _ h2.1 h
      rw [if_pos h1, sumN]
      exact ⟨h3.1, by push_cast; omega⟩
    · cases h
theorem cntF_ok : ∀ (k : Nat) (deep : Int) (v : Val) (n : Int), 0 ≤ n → (cntF k deep v n).1 = true → 0 ≤ (cntF k deep v n).2 ∧ (cntF k deep v n).2 + depV v = n
  | 0, _, _, _, _, h => by simp [cntF] at h
  | k + 1, deep, v, n, h0, h => by
    rw [cntF] at h ⊢
    split at h
    · cases h
    · rename_i h1
      rw [if_neg h1]
      split at h
      · cases h
      · rename_i h2
        rw [if_neg h2]
        have h3 : (cntL (cntF k (deep + 1)) v.l (n - 1)).1 = true := by simpa using h2
        have a := cntL_ok (d := depV) (g := cntF k (deep + 1)) (fun x n hn hx => cntF_ok k (deep + 1) x n hn hx) v.l (n - 1) (by omega) h3
        have b := cntL_ok (d := fun p : Str × Val => depV p.2) (g := fun p => cntF k (deep + 1) p.2) (fun x n hn hx => cntF_ok k (deep + 1) x.2 n hn hx) v.f _ a.1 h
        rw [sumN_l] at a
        rw [sumN_f] at b
        have e := depV_eq v
        exact ⟨b.1, by omega⟩
def recOk : Option Str → List (Str × Val) → Bool
  | _, [] => true
  | p, f :: r => nameV f.1 && (match p with | none => true | some s => Op.bytesLess s f.1) && recOk (some f.1) r
def shpOk (v : Val) : Bool :=
  if v.kind = 0 then ((v.n == 0) && (v.s == [])) && ((v.l.length : Int) + (v.f.length : Int) == 0)
  else if v.kind = 1 then ((decide (-1000000000 ≤ v.n) && decide (v.n ≤ 1000000000)) && (v.s == [])) && ((v.l.length : Int) + (v.f.length : Int) == 0)
  else if v.kind = 2 then ((v.n == 0) && decide ((v.s.length : Int) ≤ 40)) && ((v.l.length : Int) + (v.f.length : Int) == 0)
  else if v.kind = 3 then (((v.n == 0) || (v.n == 1)) && (v.s == [])) && ((v.l.length : Int) + (v.f.length : Int) == 0)
  else if v.kind = 4 then ((v.n == 0) && (v.s == [])) && ((v.f.length : Int) == 0)
  else if v.kind = 5 then (((v.n == 0) && (v.s == [])) && ((v.l.length : Int) == 0)) && recOk none v.f
  else false
def shpF : Nat → Val → Bool
  | 0, _ => false
  | k + 1, v => shpOk v && v.l.all (shpF k) && v.f.all (fun p => shpF k p.2)
def shE (b : Bool) : Int := if b = true then 0 else 3
def chk (v : Val) : Int := if (cntF (depV v + 1) 1 v 60).1 = true then shE (shpF (depV v + 1) v) else 2
def prevN (l : List (Str × Val)) (i : Int) : Option Str := if i = 0 then none else some (gI l (i - 1)).1
theorem recOk_cons (p : Option Str) (f : Str × Val) (r : List (Str × Val)) : recOk p (f :: r) = (nameV f.1 && (match p with | none => true | some s => Op.bytesLess s f.1) && recOk (some f.1) r) := by cases p <;> rfl
theorem recOk_step {l : List (Str × Val)} {i : Int} (h0 : 0 ≤ i) (hi : i < l.length) : recOk (prevN l i) (l.drop i.toNat) = (nameV (gI l i).1 && ((i == 0) || Op.bytesLess (gI l (i - 1)).1 (gI l i).1) && recOk (prevN l (i + 1)) (l.drop (i + 1).toNat)) := by
  have e : prevN l (i + 1) = some (gI l i).1 := by rw [prevN, if_neg (by omega)]; congr 2; congr 1; omega
  rw [drop_gI h0 hi, recOk_cons, e, prevN]
  by_cases h : i = 0
  · simp [h]
  · have : (i == 0) = false := by simpa using h
    rw [if_neg h, this, Bool.false_or]
theorem cntL_drop {α : Type} [Inhabited α] {g : α → Int → Bool × Int} {l : List α} {i n : Int} (h0 : 0 ≤ i) (hi : i < l.length) : cntL g (l.drop i.toNat) n = if (g (gI l i) n).1 = true then cntL g (l.drop (i + 1).toNat) (g (gI l i) n).2 else (false, (g (gI l i) n).2) := by
  rw [drop_gI h0 hi, cntL]
theorem all_drop {α : Type} [Inhabited α] {g : α → Bool} {l : List α} {i : Int} (h0 : 0 ≤ i) (hi : i < l.length) : (l.drop i.toNat).all g = (g (gI l i) && (l.drop (i + 1).toNat).all g) := by
  rw [drop_gI h0 hi, List.all_cons]
theorem mget_drop {κ ν : Type} [DecidableEq κ] [Inhabited κ] [Inhabited ν] {l : List (κ × ν)} {k : κ} {i : Int} (h0 : 0 ≤ i) (hi : i < l.length) : mget (l.drop i.toNat) k = if (gI l i).1 = k then some (gI l i).2 else mget (l.drop (i + 1).toNat) k := by
  rw [drop_gI h0 hi]; rfl
theorem cntF_l {k : Nat} {deep n x : Int} {v : Val} (h : ¬(6 < deep ∨ n - 1 < 0)) (e : cntL (cntF k (deep + 1)) v.l (n - 1) = (false, x)) : cntF (k + 1) deep v n = (false, x) := by
  rw [cntF, if_neg h, e, if_pos rfl]
theorem cntF_f {k : Nat} {deep n x : Int} {v : Val} (h : ¬(6 < deep ∨ n - 1 < 0)) (e : cntL (cntF k (deep + 1)) v.l (n - 1) = (true, x)) : cntF (k + 1) deep v n = cntL (fun p => cntF k (deep + 1) p.2) v.f x := by
  rw [cntF, if_neg h, e, if_neg (by simp)]
theorem shE_t {b : Bool} (h : shE b = 0) : b = true := by cases b <;> first | rfl | simp [shE] at h
theorem shE_f {b : Bool} (h : shE b ≠ 0) : b = false := by cases b <;> first | rfl | simp [shE] at h
theorem shE_1 {k : Nat} {v : Val} (h : shpOk v = false) : shE (shpF (k + 1) v) = 3 := by rw [shpF, h]; rfl
theorem shE_2 {k : Nat} {v : Val} (h : v.l.all (shpF k) = false) : shE (shpF (k + 1) v) = 3 := by rw [shpF, h]; simp [shE]
theorem shE_3 {k : Nat} {v : Val} (h : v.f.all (fun p => shpF k p.2) = false) : shE (shpF (k + 1) v) = 3 := by rw [shpF, h]; simp [shE]
theorem shE_0 {k : Nat} {v : Val} (h1 : shpOk v = true) (h2 : v.l.all (shpF k) = true) (h3 : v.f.all (fun p => shpF k p.2) = true) : shE (shpF (k + 1) v) = 0 := by rw [shpF, h1, h2, h3]; rfl
set_option maxHeartbeats 4000000 in
theorem u_count1 (k : Nat) (v : Val) (deep n : Int) (p : Nat) (ih : ∀ (w : Val) (deep n : Int), depV w < k → 1 ≤ deep → deep ≤ 7 → 0 ≤ n → n ≤ 60 → ∀ (b : Nat) (m : AMem), Gd [b] m → ∀ (K : AV → AMem → Prop), K (.bool (cntF k deep w n).1) (AMem.wth m [(b, .cells [.int .i64 (cntF k deep w n).2])]) → ACalls Tryd.prog 35 [valTop w, .int .i64 deep, .ptr ⟨b, 0, none⟩] (AMem.wth m [(b, .cells [.int .i64 n])]) K) (hd : depV v < k + 1) (hd1 : 1 ≤ deep) (hd7 : deep ≤ 7) (hn0 : 0 ≤ n) (hn6 : n ≤ 60) (m : AMem) (gd : Gd [p] m) (K : AV → AMem → Prop) (hK : K (.bool (cntF (k + 1) deep v n).1) (AMem.wth m [(p, .cells [.int .i64 (cntF (k + 1) deep v n).2])])) : ACalls Tryd.prog 35 [valTop v, .int .i64 deep, .ptr ⟨p, 0, none⟩] (AMem.wth m [(p, .cells [.int .i64 n])]) K := by
 refine enter (c := cf [] [0] [2] [] [] [p]) (vs := [.av (valTop v), .av (.int .i64 deep), .loc 0 0]) (L := [.cells [vI n]]) (m := m) false tbOk Tryd.mixed Tryd.func35 rfl (k := 3) (by show fnOk [] _ _ _ = true; decide +kernel) rfl (gd.good rfl) ?_
 refine ⟨fun F0 => ?_⟩
 have hbd0_2 : v.s.length ≤ 140737488355328 := (F0 0 2 (Nat.le_of_ble_eq_true rfl))
 have hbd0_3 : v.l.length ≤ 140737488355328 := bd_map (F0 0 3 (Nat.le_of_ble_eq_true rfl))
 have hbd0_4 : v.f.length ≤ 140737488355328 := bd_map (F0 0 4 (Nat.le_of_ble_eq_true rfl))
 refine an (by omega) ?_
 refine sq ?_
 refine mg [1, 2, 3] 23 ((decide (6 < deep)) || (decide (n - 1 < 0))) ?_ ?_
 · repeat' first
    | exact ⟨⟨_, rfl, by grind [SB.val]⟩, rfl⟩
    | refine an (fun _ => ?_) (fun _ => ?_)
 refine an (fun h1 => ?_) (fun h1 => ?_)
 · replace h1 : (6 < deep) ∨ (n - 1 < 0) := ((borT h1).imp (fun q => (of_decide_eq_true q)) (fun q => (of_decide_eq_true q)))
   refine rt rfl fun _ => ?_
   show K (.bool false) (AMem.wth m [(p, .cells [.int .i64 (n - 1)])])
   rw [cntF, if_pos (by omega)] at hK; exact hK
 replace h1 : (deep ≤ 6) ∧ (0 ≤ n - 1) := ⟨(Int.not_lt.1 (of_decide_eq_false (borL h1))), (Int.not_lt.1 (of_decide_eq_false (borR h1)))⟩
 refine sq ?_
 refine ln ?_
 refine lp (σ := Int × Int) [] [1, 2, 3, 25, 26, 27] 2 (fun ⟨i, nl⟩ => ([(1, vI deep), (2, .loc 0 0), (3, .loc 1 0), (25, vL (v.l.map valIn)), (26, vI (v.l.length : Int)), (27, vI i)], [.cells [vI nl], .cells [vI v.kind, vI v.n, vS v.s, vL (v.l.map valIn), vL (v.f.map fldIn)]], m)) (fun ⟨i, nl⟩ => 0 ≤ i ∧ i ≤ v.l.length ∧ 0 ≤ nl ∧ nl ≤ 60 ∧ cntL (cntF k (deep + 1)) v.l (n - 1) = cntL (cntF k (deep + 1)) (v.l.drop i.toNat) nl) (fun ⟨i, nl⟩ => v.l.length - i.toNat) (0, n - 1) ⟨rfl, rfl⟩ ?_ ?_
 · try dsimp only
   exact ⟨by omega, by omega, by omega, by omega, rfl⟩
 rintro ⟨i, nl⟩ hI
 dsimp only at hI
 refine sq ?_
 refine an (fun h2 => ?_) (fun h2 => ?_)
 · refine sq ?_
   refine ixg valTop valIn_eq (by omega) ?_
   refine an (by omega) ?_
   refine callM [0] [.cells [vI ((cntF k (deep + 1) (gI v.l i) nl).2)]] (vB ((cntF k (deep + 1) (gI v.l i) nl).1)) rfl (fun bs mm gd => ih (gI v.l i) (deep + 1) nl (by have := depV_eq v; first | (have := depL_mem (gI_mem (l := v.l) (i := i) hI.1 (by assumption)); omega) | (have := depF_mem (gI_mem (l := v.f) (i := i2) hI2.1 (by assumption)); omega)) (by omega) (by omega) (by omega) (by omega) (bs.getD 0 0) mm gd) ?_
   refine an (fun h3 => ?_) (fun h3 => ?_)
   · refine an (by omega) ?_
     refine ⟨(i + 1, (cntF k (deep + 1) (gI v.l i) nl).2), ⟨rfl, rfl⟩, ?_, ?_⟩
     · try dsimp only
       have q := cntF_ok k (deep + 1) (gI v.l i) nl hI.2.2.1 h3
       exact ⟨by omega, by omega, by omega, by omega, by rw [hI.2.2.2.2, cntL_drop hI.1 h2, if_pos h3]⟩
     try dsimp only
     omega
   refine rt rfl fun _ => ?_
   show K (.bool false) (AMem.wth m [(p, .cells [.int .i64 ((cntF k (deep + 1) (gI v.l i) nl).2)])])
   have e : cntF (k + 1) deep v n = (false, (cntF k (deep + 1) (gI v.l i) nl).2) := cntF_l (by omega) (by rw [hI.2.2.2.2, cntL_drop hI.1 h2, if_neg (by simp [h3])])
   rw [e] at hK; exact hK
 refine sq ?_
 refine ln ?_
 refine lp (σ := Int × Int) [] [1, 2, 39, 40, 41] 2 (fun ⟨i2, nf⟩ => ([(1, vI deep), (2, .loc 0 0), (39, vL (v.f.map fldIn)), (40, vI (v.f.length : Int)), (41, vI i2)], [.cells [vI nf], .cells [vI v.kind, vI v.n, vS v.s, vL (v.l.map valIn), vL (v.f.map fldIn)]], m)) (fun ⟨i2, nf⟩ => 0 ≤ i2 ∧ i2 ≤ v.f.length ∧ 0 ≤ nf ∧ nf ≤ 60 ∧ cntF (k + 1) deep v n = cntL (fun p => cntF k (deep + 1) p.2) (v.f.drop i2.toNat) nf) (fun ⟨i2, nf⟩ => v.f.length - i2.toNat) (0, nl) ⟨rfl, rfl⟩ ?_ ?_
 · try dsimp only
   have e : cntL (cntF k (deep + 1)) v.l (n - 1) = (true, nl) := by rw [hI.2.2.2.2, List.drop_eq_nil_of_le (by omega)]; rfl
   exact ⟨by omega, by omega, by omega, by omega, by rw [cntF_f (by omega) e]; rfl⟩
 rintro ⟨i2, nf⟩ hI2
 dsimp only at hI2
 refine sq ?_
 refine an (fun h4 => ?_) (fun h4 => ?_)
 · refine sq ?_
   refine ixg fldTop fldIn_eq (by omega) ?_
   refine an (by omega) ?_
   refine callM [0] [.cells [vI ((cntF k (deep + 1) ((gI v.f i2).2) nf).2)]] (vB ((cntF k (deep + 1) ((gI v.f i2).2) nf).1)) rfl (fun bs mm gd => ih ((gI v.f i2).2) (deep + 1) nf (by have := depV_eq v; first | (have := depL_mem (gI_mem (l := v.l) (i := i) hI.1 (by assumption)); omega) | (have := depF_mem (gI_mem (l := v.f) (i := i2) hI2.1 (by assumption)); omega)) (by omega) (by omega) (by omega) (by omega) (bs.getD 0 0) mm gd) ?_
   refine an (fun h5 => ?_) (fun h5 => ?_)
   · refine an (by omega) ?_
     refine ⟨(i2 + 1, (cntF k (deep + 1) ((gI v.f i2).2) nf).2), ⟨rfl, rfl⟩, ?_, ?_⟩
     · try dsimp only
       have q := cntF_ok k (deep + 1) (gI v.f i2).2 nf hI2.2.2.1 h5
       exact ⟨by omega, by omega, by omega, by omega, by rw [hI2.2.2.2.2, cntL_drop hI2.1 h4, if_pos h5]⟩
     try dsimp only
     omega
   refine rt rfl fun _ => ?_
   show K (.bool false) (AMem.wth m [(p, .cells [.int .i64 ((cntF k (deep + 1) ((gI v.f i2).2) nf).2)])])
   have e : cntF (k + 1) deep v n = (false, (cntF k (deep + 1) (gI v.f i2).2 nf).2) := by
     rw [hI2.2.2.2.2, cntL_drop hI2.1 h4, if_neg (by simp [h5])]
   rw [e] at hK; exact hK
 refine rt rfl fun _ => ?_
 show K (.bool true) (AMem.wth m [(p, .cells [.int .i64 nf])])
 have e : cntF (k + 1) deep v n = (true, nf) := by rw [hI2.2.2.2.2, List.drop_eq_nil_of_le (by omega)]; rfl
 rw [e] at hK; exact hK
theorem u_count : ∀ (k : Nat) (v : Val) (deep n : Int), depV v < k → 1 ≤ deep → deep ≤ 7 → 0 ≤ n → n ≤ 60 → ∀ (b : Nat) (m : AMem), Gd [b] m → ∀ (K : AV → AMem → Prop), K (.bool (cntF k deep v n).1) (AMem.wth m [(b, .cells [.int .i64 (cntF k deep v n).2])]) → ACalls Tryd.prog 35 [valTop v, .int .i64 deep, .ptr ⟨b, 0, none⟩] (AMem.wth m [(b, .cells [.int .i64 n])]) K
  | 0, _, _, _, h => absurd h (Nat.not_lt_zero _)
  | k + 1, v, deep, n, h => fun h1 h7 h0 h6 b m gd K hK => u_count1 k v deep n b (u_count k) h h1 h7 h0 h6 m gd K hK
set_option maxHeartbeats 8000000 in
theorem u_shape1 (k : Nat) (v : Val) (ih : ∀ (w : Val), depV w < k → ∀ (m : AMem) (K : AV → AMem → Prop), K (.err 72 (shE (shpF k w))) m → ACalls Tryd.prog 36 [valTop w] m K) (hd : depV v < k + 1) (m : AMem)  (K : AV → AMem → Prop) (hK : K (.err 72 (shE (shpF (k + 1) v))) m) : ACalls Tryd.prog 36 [valTop v] m K := by
 refine enter (c := cf [] [0, 19] [5, 7, 9, 11, 13, 15, 19] [] [] []) (vs := [.av (valTop v)]) (L := []) (m := m) true tbOk Tryd.mixed Tryd.func36 rfl (k := 1) (by show fnOk [] _ _ _ = true; decide +kernel) rfl (Good.nil m) ?_
 refine ⟨fun F0 => ?_⟩
 have hbd0_2 : v.s.length ≤ 140737488355328 := (F0 0 2 (Nat.le_of_ble_eq_true rfl))
 have hbd0_3 : v.l.length ≤ 140737488355328 := bd_map (F0 0 3 (Nat.le_of_ble_eq_true rfl))
 have hbd0_4 : v.f.length ≤ 140737488355328 := bd_map (F0 0 4 (Nat.le_of_ble_eq_true rfl))
 refine jn (σ := Bool) [(3, 0)] [1, 3] 1 (fun ok => ([(1, .loc 0 0), (3, vB ok)], [.cells [vI v.kind, vI v.n, vS v.s, vL (v.l.map valIn), vL (v.f.map fldIn)]], m)) (fun ok => ok = shpOk v) ?_ ?_
 · rintro ok hj0
   refine sq ?_
   refine an (fun h1 => ?_) (fun h1 => ?_)
   · refine sq ?_
     refine ln ?_
     refine lp (σ := Int) [] [1, 170, 171, 172] 1 (fun i => ([(1, .loc 0 0), (170, vL (v.l.map valIn)), (171, vI (v.l.length : Int)), (172, vI i)], [.cells [vI v.kind, vI v.n, vS v.s, vL (v.l.map valIn), vL (v.f.map fldIn)]], m)) (fun i => 0 ≤ i ∧ i ≤ v.l.length ∧ v.l.all (shpF k) = (v.l.drop i.toNat).all (shpF k)) (fun i => v.l.length - i.toNat) (0) ⟨rfl, rfl⟩ ?_ ?_
     · try dsimp only
       exact ⟨by omega, by omega, rfl⟩
     rintro i hI
     refine sq ?_
     refine an (fun h2 => ?_) (fun h2 => ?_)
     · refine sq ?_
       refine ixg valTop valIn_eq (by omega) ?_
       refine call0 (fun _ => ih (gI v.l i) (by have := depV_eq v; first | (have := depL_mem (gI_mem (l := v.l) (i := i) hI.1 (by assumption)); omega) | (have := depF_mem (gI_mem (l := v.f) (i := i2) hI2.1 (by assumption)); omega))) rfl ?_
       refine an (fun h3 => ?_) (fun h3 => ?_)
       · refine an (by omega) ?_
         refine ⟨(i + 1), ⟨rfl, rfl⟩, ?_, ?_⟩
         · try dsimp only
           exact ⟨by omega, by omega, by rw [hI.2.2, all_drop hI.1 h2, shE_t h3, Bool.true_and]⟩
         try dsimp only
         omega
       refine rt0 rfl fun _ => ?_
       show K (.err 72 3) m
       rw [shE_2 (by rw [hI.2.2, all_drop hI.1 h2, shE_f h3, Bool.false_and])] at hK; exact hK
     refine sq ?_
     refine ln ?_
     refine lp (σ := Int) [] [182, 183, 184] 1 (fun i2 => ([(182, vL (v.f.map fldIn)), (183, vI (v.f.length : Int)), (184, vI i2)], [.cells [vI v.kind, vI v.n, vS v.s, vL (v.l.map valIn), vL (v.f.map fldIn)]], m)) (fun i2 => 0 ≤ i2 ∧ i2 ≤ v.f.length ∧ v.f.all (fun p => shpF k p.2) = (v.f.drop i2.toNat).all (fun p => shpF k p.2)) (fun i2 => v.f.length - i2.toNat) (0) ⟨rfl, rfl⟩ ?_ ?_
     · try dsimp only
       exact ⟨by omega, by omega, rfl⟩
     rintro i2 hI2
     refine sq ?_
     refine an (fun h4 => ?_) (fun h4 => ?_)
     · refine sq ?_
       refine ixg fldTop fldIn_eq (by omega) ?_
       refine call0 (fun _ => ih ((gI v.f i2).2) (by have := depV_eq v; first | (have := depL_mem (gI_mem (l := v.l) (i := i) hI.1 (by assumption)); omega) | (have := depF_mem (gI_mem (l := v.f) (i := i2) hI2.1 (by assumption)); omega))) rfl ?_
       refine an (fun h5 => ?_) (fun h5 => ?_)
       · refine an (by omega) ?_
         refine ⟨(i2 + 1), ⟨rfl, rfl⟩, ?_, ?_⟩
         · try dsimp only
           exact ⟨by omega, by omega, by rw [hI2.2.2, all_drop (g := fun p : Str × Val => shpF k p.2) hI2.1 h4, shE_t h5, Bool.true_and]⟩
         try dsimp only
         omega
       refine rt0 rfl fun _ => ?_
       show K (.err 72 3) m
       rw [shE_3 (by rw [hI2.2.2, all_drop (g := fun p : Str × Val => shpF k p.2) hI2.1 h4, shE_f h5, Bool.false_and])] at hK; exact hK
     refine rt0 rfl fun _ => ?_
     show K (.err 72 0) m
     rw [shE_0 (by rw [← hj0, h1]) (by rw [hI.2.2, List.drop_eq_nil_of_le (by omega)]; rfl) (by rw [hI2.2.2, List.drop_eq_nil_of_le (by omega)]; rfl)] at hK; exact hK
   refine rt0 rfl fun _ => ?_
   show K (.err 72 3) m
   rw [shE_1 (by rw [← hj0, h1])] at hK; exact hK
 refine an (fun h6 => ?_) (fun h6 => ?_)
 · refine mg [1] 3 (((v.n == 0) && (v.s == ([]))) && (((v.l.length : Int) + (v.f.length : Int)) == 0)) ?_ ?_
   · repeat' first
      | exact ⟨⟨_, rfl, by grind [SB.val]⟩, rfl⟩
      | refine an (fun _ => ?_) (fun _ => ?_)
      | refine ln ?_
      | refine an (by omega) ?_
   refine ⟨((((v.n == 0) && (v.s == ([]))) && (((v.l.length : Int) + (v.f.length : Int)) == 0))), ⟨rfl, rfl⟩, ?_⟩
   unfold shpOk
   repeat' split
   all_goals first | omega | rfl
 refine an (fun h7 => ?_) (fun h7 => ?_)
 · refine mg [1] 3 ((((decide (-1000000000 ≤ v.n)) && (decide (v.n ≤ 1000000000))) && (v.s == ([]))) && (((v.l.length : Int) + (v.f.length : Int)) == 0)) ?_ ?_
   · repeat' first
      | exact ⟨⟨_, rfl, by grind [SB.val]⟩, rfl⟩
      | refine an (fun _ => ?_) (fun _ => ?_)
      | refine ln ?_
      | refine an (by omega) ?_
   refine ⟨(((((decide (-1000000000 ≤ v.n)) && (decide (v.n ≤ 1000000000))) && (v.s == ([]))) && (((v.l.length : Int) + (v.f.length : Int)) == 0))), ⟨rfl, rfl⟩, ?_⟩
   unfold shpOk
   repeat' split
   all_goals first | omega | rfl
 refine an (fun h8 => ?_) (fun h8 => ?_)
 · refine mg [1] 3 (((v.n == 0) && (decide ((v.s.length : Int) ≤ 40))) && (((v.l.length : Int) + (v.f.length : Int)) == 0)) ?_ ?_
   · repeat' first
      | exact ⟨⟨_, rfl, by grind [SB.val]⟩, rfl⟩
      | refine an (fun _ => ?_) (fun _ => ?_)
      | refine ln ?_
      | refine an (by omega) ?_
   refine ⟨((((v.n == 0) && (decide ((v.s.length : Int) ≤ 40))) && (((v.l.length : Int) + (v.f.length : Int)) == 0))), ⟨rfl, rfl⟩, ?_⟩
   unfold shpOk
   repeat' split
   all_goals first | omega | rfl
 refine an (fun h9 => ?_) (fun h9 => ?_)
 · refine mg [1] 3 ((((v.n == 0) || (v.n == 1)) && (v.s == ([]))) && (((v.l.length : Int) + (v.f.length : Int)) == 0)) ?_ ?_
   · repeat' first
      | exact ⟨⟨_, rfl, by grind [SB.val]⟩, rfl⟩
      | refine an (fun _ => ?_) (fun _ => ?_)
      | refine ln ?_
      | refine an (by omega) ?_
   refine ⟨(((((v.n == 0) || (v.n == 1)) && (v.s == ([]))) && (((v.l.length : Int) + (v.f.length : Int)) == 0))), ⟨rfl, rfl⟩, ?_⟩
   unfold shpOk
   repeat' split
   all_goals first | omega | rfl
 refine an (fun h10 => ?_) (fun h10 => ?_)
 · refine mg [1] 3 (((v.n == 0) && (v.s == ([]))) && ((v.f.length : Int) == 0)) ?_ ?_
   · repeat' first
      | exact ⟨⟨_, rfl, by grind [SB.val]⟩, rfl⟩
      | refine an (fun _ => ?_) (fun _ => ?_)
      | refine ln ?_
   refine ⟨((((v.n == 0) && (v.s == ([]))) && ((v.f.length : Int) == 0))), ⟨rfl, rfl⟩, ?_⟩
   unfold shpOk
   repeat' split
   all_goals first | omega | rfl
 refine an (fun h11 => ?_) (fun h11 => ?_)
 · refine mg [1] 3 (((v.n == 0) && (v.s == ([]))) && ((v.l.length : Int) == 0)) ?_ ?_
   · repeat' first
      | exact ⟨⟨_, rfl, by grind [SB.val]⟩, rfl⟩
      | refine an (fun _ => ?_) (fun _ => ?_)
      | refine ln ?_
   refine ln ?_
   refine lp (σ := Bool × Int) [(3, 0)] [1, 3, 136, 137, 138] 1 (fun ⟨ok, i⟩ => ([(1, .loc 0 0), (3, vB ok), (136, vL (v.f.map fldIn)), (137, vI (v.f.length : Int)), (138, vI i)], [.cells [vI v.kind, vI v.n, vS v.s, vL (v.l.map valIn), vL (v.f.map fldIn)]], m)) (fun ⟨ok, i⟩ => 0 ≤ i ∧ i ≤ v.f.length ∧ shpOk v = (ok && recOk (prevN v.f i) (v.f.drop i.toNat))) (fun ⟨ok, i⟩ => v.f.length - i.toNat) ((((v.n == 0) && (v.s == ([]))) && ((v.l.length : Int) == 0)), 0) ⟨rfl, rfl⟩ ?_ ?_
   · try dsimp only
     refine ⟨by omega, by omega, ?_⟩
     unfold shpOk
     rw [if_neg (by assumption), if_neg (by assumption), if_neg (by assumption), if_neg (by assumption), if_neg (by assumption), if_pos (by assumption)]
     rfl
   rintro ⟨ok, i⟩ hI
   dsimp only at hI
   refine sq ?_
   refine an (fun h12 => ?_) (fun h12 => ?_)
   · refine sq ?_
     refine ixg fldTop fldIn_eq (by omega) ?_
     refine ⟨fun F19 => ?_⟩
     have hbdF : (gI v.f i).1.length ≤ 140737488355328 := bdL_map (f := fldIn) (F19 136).2 (gI_mem hI.1 h12) 0 (Nat.succ_pos _)
     refine mg [1, 136, 137, 138] 3 ((ok && (nameV ((gI v.f i).1))) && ((i == 0) || (Op.bytesLess ((gI v.f (i - 1)).1) ((gI v.f i).1)))) ?_ ?_
     · repeat' first
        | exact ⟨⟨_, rfl, by grind [SB.val]⟩, rfl⟩
        | refine an (fun _ => ?_) (fun _ => ?_)
        | refine pure0 (fun _ => u_VName ((gI v.f i).1) hbdF) ?_
        | refine an (by omega) ?_
        | refine ixg fldTop fldIn_eq (by omega) ?_
     refine an (by omega) ?_
     refine ⟨(((ok && (nameV ((gI v.f i).1))) && ((i == 0) || (Op.bytesLess ((gI v.f (i - 1)).1) ((gI v.f i).1)))), i + 1), ⟨rfl, rfl⟩, ?_, ?_⟩
     · try dsimp only
       exact ⟨by omega, by omega, by rw [hI.2.2, recOk_step hI.1 h12]; simp only [Bool.and_assoc]⟩
     try dsimp only
     omega
   refine ⟨(ok), ⟨rfl, rfl⟩, ?_⟩
   rw [hI.2.2, List.drop_eq_nil_of_le (by omega)]; simp [recOk]
 refine ⟨(false), ⟨rfl, rfl⟩, ?_⟩
 unfold shpOk
 repeat' split
 all_goals first | omega | rfl
theorem u_shape : ∀ (k : Nat) (v : Val), depV v < k → ∀ (m : AMem) (K : AV → AMem → Prop), K (.err 72 (shE (shpF k v))) m → ACalls Tryd.prog 36 [valTop v] m K
  | 0, _, h => absurd h (Nat.not_lt_zero _)
  | k + 1, v, h => fun m K hK => u_shape1 k v (u_shape k) h m K hK
set_option maxHeartbeats 2000000 in
theorem u_Check (v : Val)  (m : AMem)  (K : AV → AMem → Prop) (hK : K (.err 72 (chk v)) m) : ACalls Tryd.prog 18 [valTop v] m K := by
 refine enter (c := cf [] [] [] [] [] []) (vs := [.av (valTop v)]) (L := []) (m := m) true tbOk Tryd.mixed Tryd.func18 rfl (k := 1) (by show fnOk [] _ _ _ = true; decide +kernel) rfl (Good.nil m) ?_
 refine sq ?_
 refine callM [1] [.cells [vI ((cntF (depV v + 1) 1 v 60).2)]] (vB ((cntF (depV v + 1) 1 v 60).1)) rfl (fun bs mm gd => u_count (depV v + 1) v 1 60 (Nat.lt_succ_self _) (by omega) (by omega) (by omega) (by omega) (bs.getD 1 0) mm gd) ?_
 refine an (fun h1 => ?_) (fun h1 => ?_)
 · refine call0 (fun _ => u_shape (depV v + 1) v (Nat.lt_succ_self _)) rfl ?_
   have e0 : chk v = (shE (shpF (depV v + 1) v) : Int) := by
    first | (rw [chk, if_pos (by assumption)]; done) | (rw [chk, if_neg (by simp_all)]; done)
   rw [e0] at hK
   exact rt0 rfl fun _ => hK
 have e0 : chk v = (2 : Int) := by
  first | (rw [chk, if_pos (by assumption)]; done) | (rw [chk, if_neg (by simp_all)]; done)
 rw [e0] at hK
 exact rt0 rfl fun _ => hK
set_option maxHeartbeats 4000000 in
theorem u_Alike1 (a b : Val) (ih : ∀ v w : Val, depV v < depV a → ∀ (m : AMem) (K : AV → AMem → Prop), K (.bool (vEq v w)) m → ACalls Tryd.prog 19 [valTop v, valTop w] m K) (m : AMem)  (K : AV → AMem → Prop) (hK : K (.bool (vEq a b)) m) : ACalls Tryd.prog 19 [valTop a, valTop b] m K := by
 refine enter (c := cf [] [0] [1, 12] [] [] []) (vs := [.av (valTop a), .av (valTop b)]) (L := []) (m := m) false tbOk Tryd.mixed Tryd.func19 rfl (k := 2) (by show fnOk [] _ _ _ = true; decide +kernel) rfl (Good.nil m) ?_
 refine ⟨fun F0 => ?_⟩
 have hbd0_2 : a.s.length ≤ 140737488355328 := (F0 0 2 (Nat.le_of_ble_eq_true rfl))
 have hbd0_3 : a.l.length ≤ 140737488355328 := bd_map (F0 0 3 (Nat.le_of_ble_eq_true rfl))
 have hbd0_4 : a.f.length ≤ 140737488355328 := bd_map (F0 0 4 (Nat.le_of_ble_eq_true rfl))
 have hbd1_2 : b.s.length ≤ 140737488355328 := (F0 1 2 (Nat.le_of_ble_eq_true rfl))
 have hbd1_3 : b.l.length ≤ 140737488355328 := bd_map (F0 1 3 (Nat.le_of_ble_eq_true rfl))
 have hbd1_4 : b.f.length ≤ 140737488355328 := bd_map (F0 1 4 (Nat.le_of_ble_eq_true rfl))
 refine sq ?_
 refine mg [2, 3] 43 (((((!(a.kind == b.kind)) || (!(a.n == b.n))) || (!(a.s == b.s))) || (!((a.l.length : Int) == (b.l.length : Int)))) || (!((a.f.length : Int) == (b.f.length : Int)))) ?_ ?_
 · repeat' first
    | exact ⟨⟨_, rfl, by grind [SB.val]⟩, rfl⟩
    | refine an (fun _ => ?_) (fun _ => ?_)
    | refine ln ?_
 refine an (fun h1 => ?_) (fun h1 => ?_)
 · replace h1 : ((((a.kind ≠ b.kind) ∨ (a.n ≠ b.n)) ∨ (a.s ≠ b.s)) ∨ ((a.l.length : Int) ≠ (b.l.length : Int))) ∨ ((a.f.length : Int) ≠ (b.f.length : Int)) := ((borT h1).imp (fun q => ((borT q).imp (fun q => ((borT q).imp (fun q => ((borT q).imp (fun q => (ne_of_beq_false (bnT q))) (fun q => (ne_of_beq_false (bnT q))))) (fun q => (ne_of_beq_false (bnT q))))) (fun q => (ne_of_beq_false (bnT q))))) (fun q => (ne_of_beq_false (bnT q))))
   refine rt0 rfl fun _ => ?_
   show K (.bool false) m
   rw [vEq_false (by intro hh; subst hh; simp at h1)] at hK; exact hK
 replace h1 : ((((a.kind = b.kind) ∧ (a.n = b.n)) ∧ (a.s = b.s)) ∧ ((a.l.length : Int) = (b.l.length : Int))) ∧ ((a.f.length : Int) = (b.f.length : Int)) := ⟨⟨⟨⟨(eq_of_beq (bnF (borL (borL (borL (borL h1)))))), (eq_of_beq (bnF (borR (borL (borL (borL h1))))))⟩, (eq_of_beq (bnF (borR (borL (borL h1)))))⟩, (eq_of_beq (bnF (borR (borL h1))))⟩, (eq_of_beq (bnF (borR h1)))⟩
 obtain ⟨⟨⟨⟨hk, hn⟩, hs⟩, hl⟩, hf⟩ := h1
 refine sq ?_
 refine ln ?_
 refine lp (σ := Int) [] [2, 3, 46, 47] 2 (fun i => ([(2, .loc 0 0), (3, .loc 1 0), (46, vI (a.l.length : Int)), (47, vI i)], [.cells [vI a.kind, vI a.n, vS a.s, vL (a.l.map valIn), vL (a.f.map fldIn)], .cells [vI b.kind, vI b.n, vS b.s, vL (b.l.map valIn), vL (b.f.map fldIn)]], m)) (fun i => 0 ≤ i ∧ i ≤ a.l.length ∧ a.l.take i.toNat = b.l.take i.toNat) (fun i => a.l.length - i.toNat) (0) ⟨rfl, rfl⟩ ?_ ?_
 · try dsimp only
   exact ⟨by omega, by omega, rfl⟩
 rintro i hI
 refine sq ?_
 refine an (fun h2 => ?_) (fun h2 => ?_)
 · refine sq ?_
   refine ixg valTop valIn_eq (by omega) ?_
   refine ixg valTop valIn_eq (by omega) ?_
   refine pure0 (fun _ => ih (gI a.l i) (gI b.l i) (by have := depV_eq a; first | (have := depL_mem (gI_mem (l := a.l) (i := i) hI.1 (by assumption)); omega) | (have := depF_mem (gI_mem (l := a.f) (i := i2) hI2.1 (by assumption)); omega))) ?_
   refine an (fun h3 => ?_) (fun h3 => ?_)
   · refine an (by omega) ?_
     refine ⟨(i + 1), ⟨rfl, rfl⟩, ?_, ?_⟩
     · try dsimp only
       exact ⟨by omega, by omega, by rw [take_succ_gI hI.1 h2, take_succ_gI hI.1 (by omega), hI.2.2, vEq_iff.1 h3]⟩
     try dsimp only
     omega
   refine rt0 rfl fun _ => ?_
   show K (.bool false) m
   rw [vEq_false (by intro hh; subst hh; rw [vEq_true rfl] at h3; cases h3)] at hK; exact hK
 refine sq ?_
 refine ln ?_
 refine lp (σ := Int) [] [2, 3, 65, 66] 2 (fun i2 => ([(2, .loc 0 0), (3, .loc 1 0), (65, vI (a.f.length : Int)), (66, vI i2)], [.cells [vI a.kind, vI a.n, vS a.s, vL (a.l.map valIn), vL (a.f.map fldIn)], .cells [vI b.kind, vI b.n, vS b.s, vL (b.l.map valIn), vL (b.f.map fldIn)]], m)) (fun i2 => 0 ≤ i2 ∧ i2 ≤ a.f.length ∧ a.f.take i2.toNat = b.f.take i2.toNat) (fun i2 => a.f.length - i2.toNat) (0) ⟨rfl, rfl⟩ ?_ ?_
 · try dsimp only
   exact ⟨by omega, by omega, rfl⟩
 rintro i2 hI2
 refine sq ?_
 refine an (fun h4 => ?_) (fun h4 => ?_)
 · refine sq ?_
   refine mg [2, 3, 65, 66] 97 ((!(((gI a.f i2).1) == ((gI b.f i2).1))) || (!(vEq ((gI a.f i2).2) ((gI b.f i2).2)))) ?_ ?_
   · repeat' first
      | exact ⟨⟨_, rfl, by grind [SB.val]⟩, rfl⟩
      | refine an (fun _ => ?_) (fun _ => ?_)
      | refine ixg fldTop fldIn_eq (by omega) ?_
      | refine pure0 (fun _ => ih ((gI a.f i2).2) ((gI b.f i2).2) (by have := depV_eq a; first | (have := depL_mem (gI_mem (l := a.l) (i := i) hI.1 (by assumption)); omega) | (have := depF_mem (gI_mem (l := a.f) (i := i2) hI2.1 (by assumption)); omega))) ?_
   refine an (fun h5 => ?_) (fun h5 => ?_)
   · replace h5 : ((gI a.f i2).1 ≠ (gI b.f i2).1) ∨ (vEq ((gI a.f i2).2) ((gI b.f i2).2) = false) := ((borT h5).imp (fun q => (ne_of_beq_false (bnT q))) (fun q => (bnT q)))
     refine rt0 rfl fun _ => ?_
     show K (.bool false) m
     rw [vEq_false (by intro hh; subst hh; rw [vEq_true rfl] at h5; simp at h5)] at hK; exact hK
   replace h5 : ((gI a.f i2).1 = (gI b.f i2).1) ∧ (vEq ((gI a.f i2).2) ((gI b.f i2).2) = true) := ⟨(eq_of_beq (bnF (borL h5))), (bnF (borR h5))⟩
   refine an (by omega) ?_
   refine ⟨(i2 + 1), ⟨rfl, rfl⟩, ?_, ?_⟩
   · try dsimp only
     exact ⟨by omega, by omega, by rw [take_succ_gI hI2.1 h4, take_succ_gI hI2.1 (by omega), hI2.2.2, Prod.ext h5.1 (vEq_iff.1 h5.2)]⟩
   try dsimp only
   omega
 refine rt0 rfl fun _ => ?_
 show K (.bool true) m
 rw [vEq_true (Val.ext' hk hn hs (by have := hI.2.2; rwa [take_full (by omega), take_full (by omega)] at this) (by have := hI2.2.2; rwa [take_full (by omega), take_full (by omega)] at this))] at hK; exact hK
theorem u_Alike2 : ∀ (n : Nat) (a b : Val), depV a < n → ∀ (m : AMem) (K : AV → AMem → Prop), K (.bool (vEq a b)) m → ACalls Tryd.prog 19 [valTop a, valTop b] m K
  | 0, _, _, h => absurd h (Nat.not_lt_zero _)
  | n + 1, a, b, h => fun m K hK => u_Alike1 a b (fun v w hv => u_Alike2 n v w (by omega)) m K hK
theorem u_Alike (a b : Val) (m : AMem) (K : AV → AMem → Prop) (hK : K (.bool (vEq a b)) m) : ACalls Tryd.prog 19 [valTop a, valTop b] m K := u_Alike2 (depV a + 1) a b (Nat.lt_succ_self _) m K hK
set_option maxHeartbeats 2000000 in
theorem u_Get (v : Val) (s : Str)  (m : AMem)  (K : AV → AMem → Prop) (hK : K (.tuple [valTop ((mget v.f s).getD zV), .bool (mget v.f s).isSome]) m) : ACalls Tryd.prog 51 [valTop v, .str s] m K := by
 refine enter (c := cf [] [0] [] [] [] []) (vs := [.av (valTop v), .av (.str s)]) (L := []) (m := m) false tbOk Tryd.mixed Tryd.func51 rfl (k := 2) (by show fnOk [] _ _ _ = true; decide +kernel) rfl (Good.nil m) ?_
 refine ⟨fun F0 => ?_⟩
 have hbd0_2 : v.s.length ≤ 140737488355328 := (F0 0 2 (Nat.le_of_ble_eq_true rfl))
 have hbd0_3 : v.l.length ≤ 140737488355328 := bd_map (F0 0 3 (Nat.le_of_ble_eq_true rfl))
 have hbd0_4 : v.f.length ≤ 140737488355328 := bd_map (F0 0 4 (Nat.le_of_ble_eq_true rfl))
 refine sq ?_
 refine ln ?_
 refine lp (σ := Int) [] [1, 4, 9, 10, 11] 2 (fun i => ([(1, vS s), (4, .loc 1 0), (9, vL (v.f.map fldIn)), (10, vI (v.f.length : Int)), (11, vI i)], [.cells [vI v.kind, vI v.n, vS v.s, vL (v.l.map valIn), vL (v.f.map fldIn)], .cells [vI 0, vI 0, vS ([]), .own [], .own []]], m)) (fun i => 0 ≤ i ∧ i ≤ v.f.length ∧ mget v.f s = mget (v.f.drop i.toNat) s) (fun i => v.f.length - i.toNat) (0) ⟨rfl, rfl⟩ ?_ ?_
 · try dsimp only
   exact ⟨by omega, by omega, rfl⟩
 rintro i hI
 refine sq ?_
 refine an (fun h1 => ?_) (fun h1 => ?_)
 · refine sq ?_
   refine ixg fldTop fldIn_eq (by omega) ?_
   refine an (fun h2 => ?_) (fun h2 => ?_)
   · refine rt0 rfl fun _ => ?_
     show K (.tuple [.agg [.int .i64 (((gI v.f i).2).kind), .int .i64 (((gI v.f i).2).n), .str (((gI v.f i).2).s), .slice false ((((gI v.f i).2).l).map valIn), .slice false ((((gI v.f i).2).f).map fldIn)], .bool true]) m
     have e : mget v.f s = some (gI v.f i).2 := by rw [hI.2.2, mget_drop hI.1 h1, if_pos h2]
     rw [e] at hK; exact hK
   refine an (by omega) ?_
   refine ⟨(i + 1), ⟨rfl, rfl⟩, ?_, ?_⟩
   · try dsimp only
     exact ⟨by omega, by omega, by rw [hI.2.2, mget_drop hI.1 h1, if_neg h2]⟩
   try dsimp only
   omega
 refine rt0 rfl fun _ => ?_
 show K (.tuple [.agg [.int .i64 0, .int .i64 0, .str ([]), .slice false [], .slice false []], .bool false]) m
 have e : mget v.f s = none := by rw [hI.2.2, List.drop_eq_nil_of_le (by omega)]; rfl
 rw [e] at hK; exact hK
end Go.Proofs
end
